/- Texts of one proof, joined: an abstract machine for the program, its functions evaluated, plain lemmas. Conditions: those that each lemma names. -/
import Derived.Test.YtjomnmoekchfeaaGreatDoorM3
import Derived.Test.YtjomnmoekchfeaaGreatDoorM2
set_option linter.unusedVariables false
set_option linter.unusedSimpArgs false
namespace Go.Proofs.YtjomnmoekchfeaaGreatDoor.AM
open IntKind (wrap)
open List (length replicate getD set length_append length_replicate length_set)
open Int (toNat toNat_natCast)
open Option (getD_some isSome_some)
open Bool (and_eq_true)
open FloatKind (nearest)
open Nat (beq zero_le)
open Go Go.Proofs
def Pst {α:Type} (o:Option α) (P:α->Prop):Prop:=∃y,o=some y /\ P y
theorem a0j {α:Type} {y:α} {P:α->Prop} (h:P y):Pst (some y) P:=⟨y,rfl,h⟩
theorem a0h {α:Type} {c:Bool} {a b:Option α} {P:α->Prop} (d:c=true) (h:Pst a P):Pst (bif c then a else b) P:=by rw[d];exact h
theorem a1j {α:Type} {c:Bool} {a b:Option α} {P:α->Prop} (d:c=true->Pst a P) (e:c=false->Pst b P):Pst (bif c then a else b) P:=by
 cases c
 ·exact e rfl
 ·exact d rfl
theorem a2v {α:Type} {o:Option α} {P:α->Prop} (h:Pst o P):o.isSome=true:=by obtain⟨y,e,_⟩:=h;rw[e];rfl
theorem a2W {α:Type} {o:Option α} {P:α->Prop} (z:α) (h:Pst o P):P (o.getD z):=by obtain⟨y,e,h⟩:=h;rw[e];exact h
theorem a0w {c:Bool} {a b:Option Unit} (d:c=true) (h:a=some ()):(bif c then a else b)=some ():=by rw[d];exact h
theorem a1N {c:Bool} {a b:Option Unit} (d:c=true->a=some ()) (e:c=false->b=some ()):(bif c then a else b)=some ():=by
 cases c
 ·exact e rfl
 ·exact d rfl
theorem e0b (x:f0n.den) (h:a0c x.2.1):Pst (f6P x) fun y=>a0c y.2.1:=by
 unfold f6P;dsimp only
 (repeat' (with_reducible first|refine a0j ?_|refine a0h (a0o _ cu) ?_|refine a0h (a1R _ cu) ?_|refine a1j (fun _=>?_) (fun _=>?_)))<;>(repeat ((try dsimp only);first|assumption|(with_reducible first|apply a1i|apply a2V)))
theorem a7w (x:f0n.den) (h:a0c x.2.1):d7Z x=true:=a2v (e0b x h)
theorem G146_cur (x:f0n.den) (h:a0c x.2.1):a0c (d8a x).2.1:=a2W _ (e0b x h)
theorem c8A (x:I81.den) (h:a0c x.2.1):Pst (F81 x) fun y=>a0c y.2.1:=by
 unfold F81;dsimp only;refine a0h (a1R _ cu) ?_;refine a1j (fun _=>?_) (fun _=>?_)
 ·refine a0h (a7w _ cu) ?_;exact a0j cu
 ·(repeat' (with_reducible first|refine a0j ?_|refine a0h (a0o _ cu) ?_|refine a0h (a1R _ cu) ?_|refine a1j (fun _=>?_) (fun _=>?_)))<;>(repeat ((try dsimp only);first|assumption|(with_reducible first|apply G146_cur|apply a1i|apply a2V)))
theorem c8B (x:I81.den) (h:a0c x.2.1):K81 x=true:=a2v (c8A x h)
theorem G81_cur (x:I81.den) (h:a0c x.2.1):a0c (G81 x).2.1:=a2W _ (c8A x h)
theorem b4O (x:f0s.den) (h:a0c x.2.1):Pst (f6Q x) fun y=>a0c y.2.1:=by
 unfold f6Q;dsimp only;refine a0h (a0o _ cu) ?_;refine a1j (fun _=>?_) (fun _=>?_)
 ·refine a0h (a9n _ cu (by simp)) ?_;exact a0j (a6N _ cu (by simp))
 ·(repeat' (with_reducible first|refine a0j ?_|refine a0h (a0o _ cu) ?_|refine a0h (a1R _ cu) ?_|refine a1j (fun _=>?_) (fun _=>?_)))<;>(repeat ((try dsimp only);first|assumption|(with_reducible first|apply G81_cur|apply G146_cur|apply a1i|apply a2V)))
theorem b2s (x:f0s.den) (h:a0c x.2.1):e7q x=true:=a2v (b4O x h)
theorem G142_cur (x:f0s.den) (h:a0c x.2.1):a0c (e7r x).2.1:=a2W _ (b4O x h)
theorem c0x (x:f0d.den) (h:a0c x.2.1) (k:0<x.2.2.1.length):Pst (f6O x) fun y=>a0c y.2.1 /\ y.1.1∈x.2.2.1:=by
 obtain⟨m,b,j,e,f,g⟩:=a8r (x.2.2.1.length:Int) x.2.1 h;unfold f6O;have a:F34 (((),(↑(length x.snd.snd.fst):Int),()),x.snd.fst,())=some ((m,()),(b,())):=j;have c:decide (0<=m)=true:=decide_eq_true f;have i:m<(x.2.2.1.length:Int):=g (by omega);have d:decide (m<(x.2.2.1.length:Int))=true:=decide_eq_true i;simp only[K34,G34,a,isSome_some,getD_some,cond_true,c,d,Bool.and_self];refine a0j ⟨e,?_⟩;show x.2.2.1.getD m.toNat _∈x.2.2.1;rw[a3t _ _ _ (by omega)];exact List.getElem_mem _
theorem c8C (x:f0d.den) (h:a0c x.2.1) (a:0<x.2.2.1.length):f0e x=true:=a2v (c0x x h a)
theorem c8D (x:f0d.den) (h:a0c x.2.1) (a:0<x.2.2.1.length):a0c (e3c x).2.1 /\ (e3c x).1.1∈x.2.2.1:=a2W _ (c0x x h a)
theorem c2O (n:Int):I64 (IntKind.i64.wrap n):=by
 unfold I64;rw[IntKind.wrap_i64];omega
def d4C (c:List Int×Int×Int×Unit):Bool:=decide (0<=c.2.1)&&decide (c.1.length<=1048576)
theorem a1l {c:List Int×Int×Int×Unit}:d4C c=true↔a0c c:=by unfold d4C a0c;simp
def e0c:List Int×Int×Int×Unit:=([],0,0,())
theorem a6j:a0c e0c:=⟨Int.le_refl 0,zero_le _⟩
def p141 (x:a5z.den):Bool:=d4C x.2.1
def Q141 (x:a5z.den) (y:a7u.den):Prop:=a0c y.2.1
theorem e141:Nonempty (Ch a5z a7u p141 Q141):=⟨⟨fun _=>((0,()),(e0c,())),fun _ _=>a6j⟩⟩
theorem c8E:a2s Tryz.prog 141 (a3w true a5z a7u p141 Q141 e141):=b3K f0p (N:=g7H) (a2K trivial) g1q a1p fun x c k a=>by
 have h:a0c x.2.1:=a1l.1 c;refine Eq.trans (f0P k x) ?_;unfold f0O;dsimp only;refine a0w (c8B _ cu) ?_;refine a1N (fun b=>?_) (fun _=>?_)
 ·refine a0w b ?_;exact a _ (by show a0c _;exact cu)
 ·exact a0n fun z=>a _ (by show a0c _;exact cu)
theorem a8s:I64 0:=by unfold I64;decide
theorem e3Y:I64 180:=by unfold I64;decide
theorem a1a (n:Int) (c:List Int×Int×Int×Unit) (h:a0c c) (d:0<n):0<=((G34 (((),n,()),c,())).1.1:Int) /\ ((G34 (((),n,()),c,())).1.1:Int)<n:=by
 obtain⟨_,a,b⟩:=d8l (((),n,()),c,()) h;exact⟨a,b d⟩
def b7b (s:Den S68):Prop:=s.1.size<=1000 /\ I64 s.2.2.2.1 /\ I64 s.2.2.2.2.1
def a0K (l:List (Den S68)):Prop:=∀s∈l,b7b s
theorem c2P:b7b (zero S68):=⟨zero_le _,a8s,a8s⟩
theorem a0K.at {l:List (Den S68)} (h:a0K l) (i:Nat):b7b (at' l i):=by
 rcases f2P (l:=l) (i:=i)with h1|h1
 ·exact h _ h1
 ·rw[h1];exact c2P
theorem a0K.app {l:List (Den S68)} {s:Den S68} (h:a0K l) (b:b7b s):a0K (l++[s]):=by
 intro t c;rcases List.mem_append.1 c with a|a
 ·exact h t a
 ·rw[List.mem_singleton.1 a];exact b
theorem a0K.set {l:List (Den S68)} {i:Nat} {s:Den S68} (h:a0K l) (b:b7b s):a0K (l.set i s):=by
 intro t c;rcases List.mem_or_eq_of_mem_set c with a|a
 ·exact h t a
 ·rw[a];exact b
theorem a0K.good {l:List (Den S68)} (h:a0K l) (a:l.length<=13):b7a l:=
 ⟨by omega,fun i=>by have:=(h.at i).1;omega,fun i=>⟨(h.at i).2.1,(h.at i).2.2⟩⟩
theorem g9h {α:Type} (z x:α):(replicate 1 z).set 0 x=[x]:=rfl
theorem c0y (v:c2H) (h:a0c v.2.1) (p:∀s∈v.2.2.1,s.size<=1000) (b:v.2.2.1.length=6) (j:0<=v.1.2.2.2.1) (d:(v.2.2.2.1.length:Int)+v.1.2.2.2.1<=5) (g:1<=(v.2.2.2.1.length:Int)+v.1.2.2.2.1) (n:a0K v.2.2.2.1) :
 Pst (d3O v) fun y=>a0c y.2.1 /\ a0K y.2.2.1 /\ y.2.2.1.length<=5 /\ 1<=y.2.2.1.length:=by
 refine a0J (q:=d3N) (fun v=>a0c v.2.1 /\ (∀s∈v.2.2.1,s.size<=1000) /\ v.2.2.1.length=6 /\ 0<=v.1.2.2.2.1 /\ (v.2.2.2.1.length:Int)+v.1.2.2.2.1<=5 /\ 1<=(v.2.2.2.1.length:Int)+v.1.2.2.2.1 /\ a0K v.2.2.2.1)
  (fun _ r=>Pst r fun y=>a0c y.2.1 /\ a0K y.2.2.1 /\ y.2.2.1.length<=5 /\ 1<=y.2.2.1.length) (fun v=>v.1.2.2.2.1.toNat) ?_ _ _ ⟨h,p,b,j,d,g,n⟩ (Nat.lt_of_lt_of_le (m:=1000) (by omega) (Nat.le_add_left _ _))
 clear h p b j d g n v;rintro⟨⟨_,_,_,k,_⟩,c,ns,l,_⟩ f ⟨g0,g1,g2,g3,g4,g5,g6⟩ ih;simp only at g0 g1 g2 g3 g4 g5 g6 ih;unfold d3N;dsimp only;by_cases o:k>0
 ·refine a0h (by simpa using o) ?_;refine a0h (a0o _ cu) ?_;refine a0h (a0o _ cu) ?_;have t:a0c (G34 (((),16,()),c,())).snd.fst:=cu;have i:0<=((G34 (((),100,()),(G34 (((),16,()),c,())).snd)).fst.fst:Int) /\ ((G34 (((),100,()),(G34 (((),16,()),c,())).snd)).fst.fst:Int)<100:=a1a 100 _ t (by decide);have w:a0c (G34 (((),100,()),(G34 (((),16,()),c,())).snd)).snd.fst:=cu;generalize G34 (((),100,()),(G34 (((),16,()),c,())).snd)=A at *;generalize G34 (((),16,()),c,())=B at *;have u:∀z:Int,z=A.fst.fst->I64 z:=fun z e=>by have d:0<=z:=e ▸ i.1;have g:z<100:=e ▸ i.2;unfold I64;omega
  refine a0h ?_ ?_
  ·simp;omega
  refine a0h (a0o _ cu) ?_;refine a0h (a0o _ cu) ?_;refine a0h (a1R _ cu) ?_;have e:IntKind.i64.wrap (k-1)=k-1:=w64 (by omega) (by omega);have a:(ns.getD (toNat (l.length:Int)) (zero Ty.str)).size<=1000:=by
   rw[toNat_natCast,a3t _ _ _ (by omega)];exact g1 _ (List.getElem_mem _)
  simp only[g9h,List.length_singleton];refine a1j (fun _=>?_) (fun _=>?_)
  ·refine a0h (a0v (by omega)) ?_;refine ih _ ⟨cu,g1,g2,?_,?_,?_,g6.app ⟨a,a8s,e3Y⟩⟩ ?_<;>simp only[e,length_append,List.length_singleton]<;>omega
  ·refine a0h (a0v (by omega)) ?_;refine ih _ ⟨cu,g1,g2,?_,?_,?_,g6.app ⟨a,u _ rfl,c2O _⟩⟩ ?_<;>simp only[e,length_append,List.length_singleton]<;>omega
 ·have:decide (k>0)=false:=by simpa using o
  rw[this];exact a0j ⟨g0,g6,by show l.length<=5;omega,by show 1<=l.length;omega⟩
theorem b4P (v:b0H) (h:a0c v.2.1) (b:v.2.2.1.length<=13) (d:1<=v.2.2.1.length) (k:a0K v.2.2.1):Pst (b9y v) fun y=>a0c y.2.1 /\ a0K y.2.2.1 /\ y.2.2.1.length<=13:=by
 refine a0J (q:=b9x) (fun v=>a0c v.2.1 /\ v.2.2.1.length<=13 /\ 1<=v.2.2.1.length /\ a0K v.2.2.1)
  (fun _ r=>Pst r fun y=>a0c y.2.1 /\ a0K y.2.2.1 /\ y.2.2.1.length<=13) (fun v=>13-v.2.2.1.length) ?_ _ _ ⟨h,b,d,k⟩ (Nat.lt_of_lt_of_le (m:=1000) (by omega) (Nat.le_add_left _ _))
 clear h b d k v;rintro⟨⟨_,_,_⟩,c,l,_⟩ f ⟨g0,g1,g2,g3⟩ ih;simp only at g0 g1 g2 g3 ih;unfold b9x;dsimp only;refine a0h (a0o _ cu) ?_;have i:0<=((G34 (((),2,()),c,())).fst.fst:Int) /\ ((G34 (((),2,()),c,())).fst.fst:Int)<2:=a1a 2 c g0 (by decide);have j:a0c (G34 (((),2,()),c,())).snd.fst:=cu;generalize G34 (((),2,()),c,())=D at *;have n:∀z:Int,z=D.fst.fst->IntKind.i64.wrap (12+z)<=13:=fun z e=>by
  have b:0<=z:=e ▸ i.1;have d:z<2:=e ▸ i.2;rw[w64 (by omega) (by omega)];omega
 have a:=n _ rfl;by_cases g:(l.length:Int)<IntKind.i64.wrap (12+D.fst.fst)
 ·refine a0h (by simpa using g) ?_;have p:(l.length:Int)<13:=Int.lt_of_lt_of_le g a;refine a0h ?_ ?_
  ·have:decide (0<(l.length:Int))=true:=by simp;omega
   rw[this];rfl
  simp only[g9h,List.length_singleton];refine a0h (a0v (by omega)) ?_;refine ih _ ⟨j,?_,?_,g3.app ⟨?_,(g3.at 0).2.1,(g3.at 0).2.2⟩⟩ ?_
  ·simp only[length_append,List.length_singleton];omega
  ·simp only[length_append,List.length_singleton];omega
  ·have o:∀z:Int,(a7H [z]).size=1:=fun _=>rfl
   simp only[ByteArray.size_append,o];show 1+1<=1000
   decide
  ·simp only[length_append,List.length_singleton];omega
 ·have:decide ((l.length:Int)<IntKind.i64.wrap (12+D.fst.fst))=false:=by simpa using g
  rw[this];exact a0j ⟨j,g3,g1⟩
theorem g4x (v:c2H) (h:a0c v.2.1) (f:∀s∈v.2.2.1,s.size<=1000) (a:v.2.2.1.length=6) (b:0<=v.1.2.2.2.1) (c:(v.2.2.2.1.length:Int)+v.1.2.2.2.1<=5) (d:1<=(v.2.2.2.1.length:Int)+v.1.2.2.2.1) (e:a0K v.2.2.2.1) :
 d8f v=true /\ a0c (b0I v).2.1 /\ a0K (b0I v).2.2.1 /\ (b0I v).2.2.1.length<=5 /\ 1<=(b0I v).2.2.1.length:=⟨a2v (c0y v h f a b c d e),a2W _ (c0y v h f a b c d e)⟩
theorem f2V (v:b0H) (h:a0c v.2.1) (a:v.2.2.1.length<=13) (b:1<=v.2.2.1.length) (c:a0K v.2.2.1):c6P v=true /\ a0c (b2k v).2.1 /\ a0K (b2k v).2.2.1 /\ (b2k v).2.2.1.length<=13:=⟨a2v (b4P v h a b c),a2W _ (b4P v h a b c)⟩
def p75 (x:I75.den):Bool:=d4C x.2.1
def Q75 (x:I75.den) (y:O75.den):Prop:=a0c y.2.1 /\ a0K y.2.2.1 /\ y.2.2.1.length<=13
theorem e75:Nonempty (Ch I75 O75 p75 Q75):=⟨⟨fun _=>(((),()),(e0c,([],()))),fun _ _=>⟨a6j,(fun _ h=>by cases h),zero_le _⟩⟩⟩
def b4Q:List ByteArray:=(((((replicate 6 (zero Ty.str)).set 0 { data:=#[109,97,105,110] }).set 1 { data:=#[106,105,98] }).set 2 { data:=#[103,101,110,111,97] }).set 3 { data:=#[115,116,111,114,109] }).set 4 { data:=#[99,111,100,101] } |>.set 5 { data:=#[107,105,116,101] }
theorem b4R:(∀s∈b4Q,s.size<=1000) /\ b4Q.length=6:=by
 have h:(b4Q.all fun s=>Nat.ble s.size 1000)=true:=rfl;exact⟨fun s a=>Nat.le_of_ble_eq_true (List.all_eq_true.1 h s a),rfl⟩
def c0z (s:ByteArray):List ByteArray:=((((replicate 5 (zero Ty.str)).set 0 { data:=#[] }).set 1 { data:=#[74,105,98] }).set 2 { data:=#[97,98,99,100,101,102,103,104,105,106,107,108,109,110,111,112,113] }).set 3 { data:=#[97,98,99,100,101,102,103,104,105,106,107,108,109,110,111,112] } |>.set 4 s
theorem c8F {s:ByteArray} (h:s.size<=1000):∀t∈c0z s,t.size<=1000:=by
 intro t c;have b:((((replicate 5 (zero Ty.str)).set 0 { data:=#[] }).set 1 { data:=#[74,105,98] }).set 2 { data:=#[97,98,99,100,101,102,103,104,105,106,107,108,109,110,111,112,113] } |>.set 3 { data:=#[97,98,99,100,101,102,103,104,105,106,107,108,109,110,111,112] }).all (fun s:ByteArray=>Nat.ble s.size 1000)=true:=rfl;rcases List.mem_or_eq_of_mem_set c with a|a
 ·exact Nat.le_of_ble_eq_true (List.all_eq_true.1 b t a)
 ·rw[a];exact h
theorem g4y:a2s Tryz.prog 75 (a3w true I75 O75 p75 Q75 e75):=b3K g1t (N:=N75 p141 Q141 e141) (a2K ⟨c8E,trivial⟩) h0Z a1p fun x G k j=>by
 have h:a0c x.2.1:=a1l.1 G;refine Eq.trans (g1H _ _ _ k x) ?_;unfold g7J;dsimp only;refine a0w (a0o _ cu) ?_;have w:0<=((G34 (((),5,()),x.snd)).fst.fst:Int) /\ ((G34 (((),5,()),x.snd)).fst.fst:Int)<5:=a1a 5 x.2.1 h (by decide);have E:a0c (G34 (((),5,()),x.snd)).snd.fst:=cu;generalize G34 (((),5,()),x.snd)=D at *;have B:∀z:Int,z=D.fst.fst->1<=IntKind.i64.wrap (1+z) /\ IntKind.i64.wrap (1+z)<=5:=fun z e=>by
  have O:0<=z:=e ▸ w.1;have P:z<5:=e ▸ w.2;rw[w64 (by omega) (by omega)];omega
 obtain⟨w1,w2⟩:=B _ rfl;obtain⟨J,A,d,L,p⟩:=g4x (((),(),(),IntKind.i64.wrap (1+D.fst.fst),()),D.snd.fst,b4Q,[],()) E b4R.1 b4R.2 (by show 0<=IntKind.i64.wrap (1+D.fst.fst);omega) (by simpa using w2) (by simpa using w1) (fun _ h=>by cases h);refine a0w J ?_;have H:replicate 0 (zero S68)=[]:=rfl;unfold b4Q at A d L p;rw[H];generalize b0I _=y at *;refine a0w (a0o _ cu) ?_;have m:0<=((G34 (((),(y.2.2.1.length:Int),()),y.snd.fst,())).fst.fst:Int) /\ ((G34 (((),(y.2.2.1.length:Int),()),y.snd.fst,())).fst.fst:Int)<(y.2.2.1.length:Int):=a1a _ y.2.1 A (by omega);have C:a0c (G34 (((),(y.2.2.1.length:Int),()),y.snd.fst,())).snd.fst:=cu;generalize G34 (((),(y.2.2.1.length:Int),()),y.snd.fst,())=I at *;refine a0w (a0o _ cu) ?_;have c:a0c (G34 (((),24,()),I.snd)).snd.fst:=cu;generalize G34 (((),24,()),I.snd)=M at *;have b:(decide (0<=I.fst.fst)&&decide (I.fst.fst<((y.snd.snd.fst.length:Nat):Int)))=true:=by
  rw[decide_eq_true m.1,decide_eq_true m.2];rfl
 have a:∀i,b7b (getD y.snd.snd.fst i (zero S68)):=fun i=>d.at i
 refine a1N (fun _=>?_) (fun _=>?_)
 ·refine a0w ?_ ?_
  ·have:decide (0<((y.snd.snd.fst.length:Nat):Int))=true:=by simp;omega
   rw[this];rfl
  obtain⟨l,f⟩:∃l,l=c0z (getD y.snd.snd.fst (toNat 0) (zero S68)).fst:=⟨_,rfl⟩;have F:∀t∈l,t.size<=1000:=by rw[f];exact c8F (a _).1
  have n:0<l.length:=by rw[f];simp[c0z]
  unfold c0z at f;rw[<- f];refine a0w (c8C (((),(),()),M.snd.fst,l,()) c n) ?_;obtain⟨r,v⟩:=c8D (((),(),()),M.snd.fst,l,()) c n;refine a0w b ?_;exact j _ ⟨r,d.set ⟨F _ v,(a _).2⟩,by simp only[length_set];omega⟩
 refine a1N (fun _=>?_) (fun _=>?_)
 ·haveI:=e141
  refine a0n fun g=>?_
  have o:p141 (((),300,()),M.snd)=true:=a1l.2 c;refine a0w o ?_;refine a0w b ?_;exact j _ ⟨g.2 _ o,d.set (a _),by simp only[length_set];omega⟩
 refine a1N (fun _=>?_) (fun _=>?_)
 ·haveI:=e141
  refine a0n fun g=>?_
  have o:p141 (((),300,()),M.snd)=true:=a1l.2 c;refine a0w o ?_;refine a0w b ?_;exact j _ ⟨g.2 _ o,d.set (a _),by simp only[length_set];omega⟩
 refine a1N (fun _=>?_) (fun _=>?_)
 ·refine a0w (b2s _ cu) ?_;refine a0w b ?_;exact j _ ⟨cu,d.set ⟨(a _).1,(a _).2.1,c2O _⟩,by simp only[length_set];omega⟩
 refine a1N (fun _=>?_) (fun _=>?_)
 ·refine a0w (b2s _ cu) ?_;refine a0w b ?_;exact j _ ⟨cu,d.set ⟨(a _).1,c2O _,(a _).2.2⟩,by simp only[length_set];omega⟩
 refine a1N (fun _=>?_) (fun _=>?_)
 ·exact j _ ⟨c,(fun _ h=>by cases h),zero_le _⟩
 refine a1N (fun _=>?_) (fun _=>?_)
 ·obtain⟨K,q,s,u⟩:=f2V (((),(),()),M.snd.fst,y.snd.snd) c (by show y.2.2.1.length<=13;omega) p d;refine a0w K ?_;exact j _ ⟨q,s,u⟩
 ·exact j _ ⟨c,d,by show y.2.2.1.length<=13;omega⟩
def p128 (x:b9B.den):Bool:=d4C x.2.1
def Q128 (x:b9B.den) (y:c3X.den):Prop:=a0c y.2.1
theorem e128:Nonempty (Ch b9B c3X p128 Q128):=⟨⟨fun _=>(((0,0),()),(e0c,())),fun _ _=>a6j⟩⟩
theorem f2W:a2s Tryz.prog 128 (a3w true b9B c3X p128 Q128 e128):=b3K f0K (N:=g7I p141 Q141 e141) (a2K ⟨c8E,trivial⟩) g1D a1p fun x l k a=>by
 have a:∀y:c3X.den,a0c y.2.1->k y=some ():=a;have h:a0c x.2.1:=a1l.1 l;refine Eq.trans (f0R _ _ _ k x) ?_;unfold f0Q;dsimp only
 haveI:=e141
 refine a0w (a1R _ cu) ?_;refine a1N (fun _=>?_) (fun _=>?_)
 ·refine a0w (a7w _ cu) ?_;refine a1N (fun j=>?_) (fun _=>?_)
  ·refine a0w j ?_;refine a0w (a7w _ cu) ?_;refine a1N (fun e=>?_) (fun _=>?_)
   ·refine a0w e ?_;exact a _ cu
   ·exact a0n fun z=>a _ cu
  ·refine a0n fun z=>?_
   refine a0w (a7w _ cu) ?_;refine a1N (fun e=>?_) (fun _=>?_)
   ·refine a0w e ?_;exact a _ cu
   ·exact a0n fun z=>a _ cu
 ·refine a0w (a1R _ cu) ?_;have d:a0c (G77 (((),20,()),(G77 (((),30,()),x.snd)).snd)).snd.fst:=cu;generalize G77 (((),20,()),(G77 (((),30,()),x.snd)).snd)=A at *;refine a1N (fun _=>?_) (fun _=>?_)
  ·refine a0w (a9n _ d (by simp)) ?_;have f:=a6N (((),(),()),A.snd.fst,((((replicate 4 (zero (Ty.int IntKind.i64))).set 0 100).set 1 (-100)).set 2 101).set 3 0,()) d (by simp);refine a0n fun g=>?_
   have b:p141 (((),100,()),(c2G (((),(),()),A.snd.fst,((((replicate 4 (zero (Ty.int IntKind.i64))).set 0 100).set 1 (-100)).set 2 101).set 3 0,())).snd.fst,())=true:=a1l.2 f;refine a0w b ?_;exact a _ (g.2 _ b)
  ·refine a0n fun g=>?_
   have b:p141 (((),15,()),A.snd)=true:=a1l.2 d;refine a0w b ?_;refine a0n fun i=>?_
   have c:p141 (((),15,()),(g.val (((),15,()),A.snd)).snd)=true:=a1l.2 (g.2 _ b);refine a0w c ?_;exact a _ (i.2 _ c)
theorem c0A (x:f0A.den) (h:a0c x.2.1):e7s x=true /\ a0c (e7t x).2.1:=by
 unfold e7s e7t g1w;have g:=a1R (((),40,()),x.2) h;have b:=a2V (((),40,()),x.2) h;simp only[g,cond_true];generalize G77 (((),40,()),x.2)=g1 at *;cases g1.1.1
 ·simp only[cond_false];have d:=a9n (((),(),()),g1.2.1,(((replicate 3 (zero (Ty.int IntKind.i64))).set 0 4).set 1 20).set 2 400,()) b (by simp);have a:=a6N (((),(),()),g1.2.1,(((replicate 3 (zero (Ty.int IntKind.i64))).set 0 4).set 1 20).set 2 400,()) b (by simp);simp only[d,cond_true];generalize c2G (((),(),()),g1.2.1,(((replicate 3 (zero (Ty.int IntKind.i64))).set 0 4).set 1 20).set 2 400,())=g2 at *;generalize IntKind.i64.wrap (IntKind.i64.wrap (2*g2.1.1)+1)=n;have e:=a0o (((),n,()),g2.2.1,()) a;have c:=a1i (((),n,()),g2.2.1,()) a;simp only[e,cond_true];have i:=a0o (((),n,()),(G34 (((),n,()),g2.2.1,())).2) c;have f:=a1i (((),n,()),(G34 (((),n,()),g2.2.1,())).2) c;simp only[i,cond_true,isSome_some,getD_some];exact⟨trivial,f⟩
 ·simp only[cond_true];have d:=a9n (((),(),()),g1.2.1,((((replicate 4 (zero (Ty.int IntKind.i64))).set 0 10000).set 1 (-10000)).set 2 10001).set 3 9223372036854775807,()) b (by simp);have a:=a6N (((),(),()),g1.2.1,((((replicate 4 (zero (Ty.int IntKind.i64))).set 0 10000).set 1 (-10000)).set 2 10001).set 3 9223372036854775807,()) b (by simp);simp only[d,cond_true];generalize c2G (((),(),()),g1.2.1,((((replicate 4 (zero (Ty.int IntKind.i64))).set 0 10000).set 1 (-10000)).set 2 10001).set 3 9223372036854775807,())=g2 at *;have e:=a9n (((),(),()),g2.2.1,(((replicate 3 (zero (Ty.int IntKind.i64))).set 0 10000).set 1 0).set 2 (-10001),()) a (by simp);have c:=a6N (((),(),()),g2.2.1,(((replicate 3 (zero (Ty.int IntKind.i64))).set 0 10000).set 1 0).set 2 (-10001),()) a (by simp);simp only[e,cond_true,isSome_some,getD_some];exact⟨trivial,c⟩
theorem c8G (x:f0A.den) (h:a0c x.2.1):e7s x=true:=(c0A x h).1
theorem G189_cur (x:f0A.den) (h:a0c x.2.1):a0c (e7t x).2.1:=(c0A x h).2
theorem c8H (x:f0C.den) (h:a0c x.2.1):Pst (f6T x) fun y=>a0c y.2.1:=by
 unfold f6T;dsimp only
 (repeat' (with_reducible first|refine a0j ?_|refine a0h (a0o _ cu) ?_|refine a0h (a1R _ cu) ?_|refine a0h (c8G _ cu) ?_|refine a1j (fun _=>?_) (fun _=>?_)))<;>(repeat ((try dsimp only);first|assumption|(with_reducible first|apply G142_cur|apply a1i|apply a2V|apply G189_cur)))
theorem e3Z (x:f0C.den) (h:a0c x.2.1):g1y x=true:=a2v (c8H x h)
theorem G144_cur (x:f0C.den) (h:a0c x.2.1):a0c (g1z x).2.1:=a2W _ (c8H x h)
theorem c8I (x:f0x.den) (h:a0c x.2.1):Pst (f6S x) fun y=>a0c y.2.1:=by
 unfold f6S;dsimp only
 (repeat' (with_reducible first|refine a0j ?_|refine a0h (a0o _ cu) ?_|refine a0h (a1R _ cu) ?_|refine a0h (c8G _ cu) ?_|refine a1j (fun _=>?_) (fun _=>?_)))<;>(repeat ((try dsimp only);first|assumption|(with_reducible first|apply G144_cur|apply G142_cur|apply a1i|apply a2V|apply G189_cur)))
theorem b7c (x:f0x.den) (h:a0c x.2.1):f0y x=true:=a2v (c8I x h)
theorem G143_cur (x:f0x.den) (h:a0c x.2.1):a0c (d3Q x).2.1:=a2W _ (c8I x h)
theorem d4D (v:c6R) (h:a0c v.2.1) (a:0<=v.1.2.2.2.1) (b:(v.2.2.2.2.1.length:Int)+v.1.2.2.2.1<=3) (d:1<=(v.2.2.2.2.1.length:Int)+v.1.2.2.2.1):Pst (d3S v) fun y=>a0c y.2.1 /\ y.2.2.2.2.1.length<=3 /\ 1<=y.2.2.2.2.1.length:=by
 refine a0J (q:=d3R) (fun v=>a0c v.2.1 /\ 0<=v.1.2.2.2.1 /\ (v.2.2.2.2.1.length:Int)+v.1.2.2.2.1<=3 /\ 1<=(v.2.2.2.2.1.length:Int)+v.1.2.2.2.1) (fun _ r=>Pst r fun y=>a0c y.2.1 /\ y.2.2.2.2.1.length<=3 /\ 1<=y.2.2.2.2.1.length)
  (fun v=>v.1.2.2.2.1.toNat) ?_ _ _ ⟨h,a,b,d⟩ (Nat.lt_of_lt_of_le (m:=1000) (by omega) (Nat.le_add_left _ _))
 clear h a b d v;rintro⟨⟨_,_,_,k,_⟩,c,b1,b2,l,_⟩ f ⟨g0,g1,g2,g3⟩ ih;simp only at g0 g1 g2 g3 ih;unfold d3R;dsimp only;by_cases g:k>0
 ·refine a0h (by simpa using g) ?_;refine a0h (b7c _ cu) ?_;refine a0h (a1R _ cu) ?_;refine a0h ?_ ?_
  ·refine a0v ?_;simp only[length_set,length_replicate];omega
  have e:IntKind.i64.wrap (k-1)=k-1:=w64 (by omega) (by omega);refine ih _ ⟨cu,?_,?_,?_⟩ ?_<;>simp only[e,length_append,length_set,length_replicate]<;>omega
 ·have:decide (k>0)=false:=by simpa using g
  rw[this];exact a0j ⟨g0,by show l.length<=3;omega,by show 1<=l.length;omega⟩
theorem c0B (v:a9m) (h:a0c v.2.1) (d:v.2.2.2.2.1.length<=22):Pst (b9A v) fun y=>a0c y.2.1 /\ y.2.2.2.2.1.length<=22:=by
 refine a0J (q:=b9z) (fun v=>a0c v.2.1 /\ v.2.2.2.2.1.length<=22) (fun _ r=>Pst r fun y=>a0c y.2.1 /\ y.2.2.2.2.1.length<=22)
  (fun v=>22-v.2.2.2.2.1.length) ?_ _ _ ⟨h,d⟩ (Nat.lt_of_lt_of_le (m:=1000) (by omega) (Nat.le_add_left _ _))
 clear h d v;rintro⟨⟨_,_,_,_⟩,c,b1,b2,l,_⟩ f ⟨g0,g2⟩ ih;simp only at g0 g2 ih;unfold b9z;dsimp only;refine a0h (a0o _ cu) ?_;have a:0<=((G34 (((),2,()),c,())).fst.fst:Int) /\ ((G34 (((),2,()),c,())).fst.fst:Int)<2:=a1a 2 c g0 (by decide);have i:a0c (G34 (((),2,()),c,())).snd.fst:=cu;generalize G34 (((),2,()),c,())=D at *;have j:∀z:Int,z=D.fst.fst->IntKind.i64.wrap (20+z)<=21:=fun z e=>by
  have d:0<=z:=e ▸ a.1;have n:z<2:=e ▸ a.2;rw[w64 (by omega) (by omega)];omega
 have b:=j _ rfl;by_cases g:(l.length:Int)<IntKind.i64.wrap (20+D.fst.fst)
 ·refine a0h (by simpa using g) ?_;refine a0h ?_ ?_
  ·refine a0v ?_;simp only[length_set,length_replicate];omega
  have k:(l.length:Int)<21:=Int.lt_of_lt_of_le g b;refine ih _ ⟨i,?_⟩ ?_<;>simp only[length_append,length_set,length_replicate]<;>omega
 ·have:decide ((l.length:Int)<IntKind.i64.wrap (20+D.fst.fst))=false:=by simpa using g
  rw[this];exact a0j ⟨i,g2⟩
theorem g4z (v:a9m) (h:a0c v.2.1) (a:v.2.2.2.2.1.length<=22):c6Q v=true:=a2v (c0B v h a)
theorem g4A (v:a9m) (h:a0c v.2.1) (a:v.2.2.2.2.1.length<=22):a0c (b6J v).2.1 /\ (b6J v).2.2.2.2.1.length<=22:=a2W _ (c0B v h a)
theorem b4S (x:I76.den) (h:a0c x.2.1):Pst (F76 x) fun y=>a0c y.2.1 /\ y.1.1.2.1.length<=22:=by
 unfold F76;dsimp only;refine a0h (a0o _ cu) ?_;refine a0h (a0o _ cu) ?_;have g:a0c (G34 (((),9,()),x.snd)).snd.fst:=cu;have d:0<=((G34 (((),3,()),(G34 (((),9,()),x.snd)).snd)).fst.fst:Int) /\ ((G34 (((),3,()),(G34 (((),9,()),x.snd)).snd)).fst.fst:Int)<3:=a1a 3 (G34 (((),9,()),x.snd)).2.1 g (by decide);have f:a0c (G34 (((),3,()),(G34 (((),9,()),x.snd)).snd)).snd.fst:=cu;generalize G34 (((),3,()),(G34 (((),9,()),x.snd)).snd)=D at *;generalize G34 (((),9,()),x.snd)=B at *;have c:∀z:Int,z=D.fst.fst->1<=IntKind.i64.wrap (1+z) /\ IntKind.i64.wrap (1+z)<=3:=fun z e=>by
  have m:0<=z:=e ▸ d.1;have n:z<3:=e ▸ d.2;rw[w64 (by omega) (by omega)];omega
 have p:=d4D (((),(),(),IntKind.i64.wrap (1+D.fst.fst),()),D.snd.fst,(0,0,0,0,(),0,0,0,0,()),(0,-20,IntKind.i64.wrap (B.fst.fst-4),20,(),0,0,0,0,()),[],()) f (Int.le_trans (by decide) (c _ rfl).1) (by simpa using(c _ rfl).2) (by simpa using(c _ rfl).1);refine a0h (a2v p) ?_;obtain⟨y,i,j⟩:=p;have ex:c6S (((),(),(),IntKind.i64.wrap (1+D.fst.fst),()),D.snd.fst,(0,0,0,0,(),0,0,0,0,()),(0,-20,IntKind.i64.wrap (B.fst.fst-4),20,(),0,0,0,0,()),[],())=y:=by unfold c6S;rw[i];rfl
 rw[ex];obtain⟨l,o,k⟩:=j;refine a0h (b7c _ cu) ?_;refine a0h (b7c _ cu) ?_;refine a0h (a0o _ cu) ?_;have a:a0c (G34 (((),20,()),(d3Q (((),(50,20,()),20,()),(d3Q (((),(50,-20,()),20,()),y.snd.fst,())).snd)).snd)).snd.fst:=cu;generalize G34 (((),20,()),(d3Q (((),(50,20,()),20,()),(d3Q (((),(50,-20,()),20,()),y.snd.fst,())).snd)).snd)=A at *;have b:y.2.2.2.2.1.length<=22:=by omega
 refine a1j (fun _=>?_) (fun _=>?_)
 ·exact a0j ⟨a,by simp⟩
 refine a1j (fun _=>?_) (fun _=>?_)
 ·refine a0h ?_ ?_
  ·have:decide (0<((y.snd.snd.snd.snd.fst.length:Nat):Int))=true:=by simp;omega
   rw[this];rfl
  exact a0j ⟨a,by simp only[length_set];exact b⟩
 refine a1j (fun _=>?_) (fun _=>?_)
 ·refine a0h (e3Z _ cu) ?_;exact a0j ⟨cu,b⟩
 refine a1j (fun _=>?_) (fun _=>?_)
 ·exact a0j ⟨a,b⟩
 refine a1j (fun _=>?_) (fun _=>?_)
 ·refine a0h (g4z _ a b) ?_;exact a0j (g4A _ a b)
 ·exact a0j ⟨a,b⟩
theorem f2X (x:I76.den) (h:a0c x.2.1):K76 x=true:=a2v (b4S x h)
theorem b4T (x:I33.den) (h:a0c x.2.1):Pst (F33 x) fun y=>a0c y.2.1:=by
 unfold F33;dsimp only;refine a0h (c8B _ cu) ?_;refine a0h (c8B _ cu) ?_;exact a0j cu
theorem e0d (x:I33.den) (h:a0c x.2.1):K33 x=true:=a2v (b4T x h)
theorem G33_cur (x:I33.den) (h:a0c x.2.1):a0c (G33 x).2.1:=a2W _ (b4T x h)
theorem d4E (x:Den f6U) (h:x.1.length<=1048576):Pst (f6V x) fun _=>True:=by
 have a:=c6V (x,()) h;unfold f6V;dsimp only;refine a0h (d8n (x,()) h) ?_;generalize G30 (x,())=A at *;refine a0h (e0d _ cu) ?_;refine a0h (a0o _ cu) ?_;refine a1j (fun _=>a0j trivial) (fun _=>?_);refine a1j (fun _=>a0j trivial) (fun _=>?_);refine a1j (fun _=>?_) (fun _=>a0j trivial);refine a0h (a7w _ cu) ?_;refine a0h (a7w _ cu) ?_;exact a0j trivial
theorem e4a (x:Den f6U) (h:x.1.length<=1048576):g1C x=true:=a2v (d4E x h)
theorem c8J (v:c6G) (h:a0c v.2.1) (b:0<=v.1.2.2.2.2.2.1):Pst (d3J v) fun y=>a0c y.2.1 /\ y.1.2.2.2.1=v.1.2.2.2.1 /\ y.2.2.2.2.1=v.2.2.2.2.1:=by
 refine a0J (q:=d3I) (fun u=>a0c u.2.1 /\ u.1.2.2.2.1=v.1.2.2.2.1 /\ u.2.2.2.2.1=v.2.2.2.2.1 /\ 0<=u.1.2.2.2.2.2.1)
  (fun _ r=>Pst r fun y=>a0c y.2.1 /\ y.1.2.2.2.1=v.1.2.2.2.1 /\ y.2.2.2.2.1=v.2.2.2.2.1) (fun u=>(13-u.1.2.2.2.2.2.1).toNat) ?_ _ _ ⟨h,rfl,rfl,b⟩ ?_
 ·rintro⟨⟨_,_,_,n,_,i,_⟩,⟨c0,c1,c2,_⟩,_,_,l,st,_⟩ f ⟨g0,g1,g2,g3⟩ ih;dsimp only at g0 g1 g2 g3 ih;unfold d3I;dsimp only;by_cases a:i<13
  ·refine a0h (by simpa using a) ?_;refine a0h (a0o _ cu) ?_;refine a0h (a0o _ cu) ?_;refine a0h (by simp;omega) ?_;have e:IntKind.i64.wrap (i+1)=i+1:=w64 (by omega) (by omega);refine ih _ ⟨cu,g1,g2,?_⟩ ?_
   ·show 0<=IntKind.i64.wrap (i+1);omega
   ·show(13-IntKind.i64.wrap (i+1)).toNat<(13-i).toNat;omega
  ·have hd:decide (i<13)=false:=by simpa using a
   rw[hd];exact a0j ⟨g0,g1,g2⟩
 ·exact Nat.lt_of_lt_of_le (m:=1000) (by omega) (Nat.le_add_left _ _)
theorem b2t (v:c6J) (h:a0c v.2.1) (b:0<=v.1.2.2.2.1) (p:(v.2.2.2.2.1.length:Int)+v.1.2.2.2.1<=3) (s:1<=(v.2.2.2.2.1.length:Int)+v.1.2.2.2.1):Pst (d3L v) fun y=>a0c y.2.1 /\ 1<=y.2.2.2.2.1.length /\ y.2.2.2.2.1.length<=3:=by
 refine a0J (q:=d3K) (fun u=>a0c u.2.1 /\ 0<=u.1.2.2.2.1 /\ (u.2.2.2.2.1.length:Int)+u.1.2.2.2.1<=3 /\ 1<=(u.2.2.2.2.1.length:Int)+u.1.2.2.2.1)
  (fun _ r=>Pst r fun y=>a0c y.2.1 /\ 1<=y.2.2.2.2.1.length /\ y.2.2.2.2.1.length<=3) (fun u=>u.1.2.2.2.1.toNat) ?_ _ _ ⟨h,b,p,s⟩ ?_
 ·rintro⟨⟨_,_,_,n,_⟩,⟨c0,c1,c2,_⟩,_,_,l,_⟩ f ⟨g0,g1,g2,g3⟩ ih;dsimp only at g0 g1 g2 g3 ih;unfold d3K;dsimp only;by_cases d:n>0
  ·refine a0h (by simpa using d) ?_;refine a0h (a0o _ cu) ?_;refine a0h (a0o _ cu) ?_;have k:a0c (G34 (((),8001,()),(G34 (((),8001,()),(c0,c1,c2,()),())).snd)).snd.fst:=cu;generalize w:G34 (((),8001,()),(c0,c1,c2,()),())=A at *;generalize x:G34 (((),8001,()),A.snd)=B at *;generalize (nearest FloatKind.f64 (wrap IntKind.i64 (A.fst.fst-4000)),nearest FloatKind.f64 (wrap IntKind.i64 (B.fst.fst-4000)))=at0;have t:=c8J (((),(),(),n,(),0,()),B.snd.fst,((),(),()),((),(),()),l,(at0,(0,0),(0,0),(0,0),(0,0),(0,0),(0,0),(0,0),(0,0),(0,0),(0,0),(0,0),(0,0),(0,0),()),()) k (Int.le_refl 0);obtain⟨y,g,q1,i,j⟩:=t;have m:c6H (((),(),(),n,(),0,()),B.snd.fst,((),(),()),((),(),()),l,(at0,(0,0),(0,0),(0,0),(0,0),(0,0),(0,0),(0,0),(0,0),(0,0),(0,0),(0,0),(0,0),(0,0),()),())=true:=by unfold c6H;rw[g];rfl
   have o:c6I (((),(),(),n,(),0,()),B.snd.fst,((),(),()),((),(),()),l,(at0,(0,0),(0,0),(0,0),(0,0),(0,0),(0,0),(0,0),(0,0),(0,0),(0,0),(0,0),(0,0),(0,0),()),())=y:=by unfold c6I;rw[g];rfl
   refine a0h m ?_;rw[o];obtain⟨⟨_,_,_,a,_,_⟩,c,_,_,l',z,_⟩:=y;dsimp only at q1 i j;subst i j;dsimp only;have e:IntKind.i64.wrap (a-1)=a-1:=w64 (by omega) (by omega);refine a0h (a1R _ cu) ?_;refine a1j (fun _=>?_) (fun _=>?_)
   all_goals
    refine a0h (a0v (by simp only[length_set,length_replicate];omega)) ?_;refine ih _ ⟨cu,?_,?_,?_⟩ ?_
    ·show 0<=IntKind.i64.wrap (a-1);omega
    ·simp only[e,length_append,length_set,length_replicate];omega
    ·simp only[e,length_append,length_set,length_replicate];omega
    ·show(IntKind.i64.wrap (a-1)).toNat<a.toNat;omega
  ·have hd:decide (n>0)=false:=by simpa using d
   rw[hd];exact a0j ⟨g0,by show 1<=l.length;omega,by show l.length<=3;omega⟩
 ·unfold e3g;have:=b;omega
theorem c2Q (v:b4j) (h:a0c v.2.1) (a:0<=v.1.2.2.2.2.1) (c:(v.2.2.2.2.2.1.length:Int)+v.1.2.2.2.2.1<=5) (d:1<=(v.2.2.2.2.2.1.length:Int)+v.1.2.2.2.2.1):Pst (b9w v) fun y=>a0c y.2.1 /\ y.2.2.2.2.1=v.2.2.2.2.1 /\ 1<=y.2.2.2.2.2.1.length /\ y.2.2.2.2.2.1.length<=5:=by
 refine a0J (q:=b9v) (fun u=>a0c u.2.1 /\ u.2.2.2.2.1=v.2.2.2.2.1 /\ 0<=u.1.2.2.2.2.1 /\ (u.2.2.2.2.2.1.length:Int)+u.1.2.2.2.2.1<=5 /\ 1<=(u.2.2.2.2.2.1.length:Int)+u.1.2.2.2.2.1)
  (fun _ r=>Pst r fun y=>a0c y.2.1 /\ y.2.2.2.2.1=v.2.2.2.2.1 /\ 1<=y.2.2.2.2.2.1.length /\ y.2.2.2.2.2.1.length<=5) (fun u=>u.1.2.2.2.2.1.toNat) ?_ _ _ ⟨h,rfl,a,c,d⟩ ?_
 ·rintro⟨⟨_,_,_,t,n,_⟩,⟨c0,c1,c2,_⟩,_,_,l,hs,_⟩ f ⟨g0,g1,g2,g3,g4⟩ ih;dsimp only at g0 g1 g2 g3 g4 ih;unfold b9v;dsimp only;by_cases b:n>0
  ·refine a0h (by simpa using b) ?_;refine a0h (a0v (by simp only[length_set,length_replicate];omega)) ?_;refine a0h (a0o _ cu) ?_;refine a0h (a0o _ cu) ?_;have e:IntKind.i64.wrap (n-1)=n-1:=w64 (by omega) (by omega);refine ih _ ⟨cu,g1,?_,?_,?_⟩ ?_
   ·show 0<=IntKind.i64.wrap (n-1);omega
   ·simp only[e,length_append,length_set,length_replicate];omega
   ·simp only[e,length_append,length_set,length_replicate];omega
   ·show(IntKind.i64.wrap (n-1)).toNat<n.toNat;omega
  ·have hd:decide (n>0)=false:=by simpa using b
   rw[hd];exact a0j ⟨g0,g1,by show 1<=hs.length;omega,by show hs.length<=5;omega⟩
 ·unfold c6F;have:=a;omega
theorem c0C (d n:Int) (hd:0<=d /\ d<n) (a:n<=100):1<=IntKind.i64.wrap (1+d) /\ IntKind.i64.wrap (1+d)<=n:=by
 rw[w64 (by omega) (by omega)];omega
theorem c8K (x:I74.den) (h:a0c x.2.1):Pst (F74 x) fun y=>a0c y.2.1 /\ (1<=y.2.2.1.length /\ y.2.2.1.length<=3) /\ 1<=y.2.2.2.1.length /\ y.2.2.2.1.length<=5:=by
 unfold F74;dsimp only;refine a0h (a0o _ cu) ?_;have b:=c0C _ 3 (a1a 3 x.2.1 h (by decide)) (by decide);have o:a0c (G34 (((),3,()),x.snd)).snd.fst:=cu;have b:1<=IntKind.i64.wrap (1+(G34 (((),3,()),x.snd)).fst.fst) /\ IntKind.i64.wrap (1+(G34 (((),3,()),x.snd)).fst.fst)<=3:=b;generalize G34 (((),3,()),x.snd)=A at *;generalize IntKind.i64.wrap (1+A.fst.fst)=n at *;obtain⟨y,a,q1,e,f⟩:=b2t (((),(),(),n,()),A.snd.fst,((),(),()),((),(),()),[],()) o (by show 0<=n;omega) (by show(0:Int)+n<=3;omega) (by show 1<=(0:Int)+n;omega);have r:c6K (((),(),(),n,()),A.snd.fst,((),(),()),((),(),()),[],())=true:=by unfold c6K;rw[a];rfl
 have s:c6L (((),(),(),n,()),A.snd.fst,((),(),()),((),(),()),[],())=y:=by unfold c6L;rw[a];rfl
 refine a0h r ?_;rw[s];obtain⟨_,c,_,_,l,_⟩:=y;dsimp only at q1 e f ⊢;refine a0h (a0o _ cu) ?_;have p:a0c (G34 (((),30000,()),c,())).snd.fst:=cu;generalize G34 (((),30000,()),c,())=B at *;refine a0h (a0o _ cu) ?_;have d:=c0C _ 5 (a1a 5 B.2.1 p (by decide)) (by decide);have q:a0c (G34 (((),5,()),B.snd)).snd.fst:=cu;have d:1<=IntKind.i64.wrap (1+(G34 (((),5,()),B.snd)).fst.fst) /\ IntKind.i64.wrap (1+(G34 (((),5,()),B.snd)).fst.fst)<=5:=d;generalize G34 (((),5,()),B.snd)=C at *;generalize IntKind.i64.wrap (1+C.fst.fst)=m at *;obtain⟨y,a,g,i,j,k⟩:=c2Q (((),(),(),B.fst.fst,m,()),C.snd.fst,((),(),()),((),(),()),l,[],()) q (by show 0<=m;omega) (by show(0:Int)+m<=5;omega) (by show 1<=(0:Int)+m;omega);have t:b6H (((),(),(),B.fst.fst,m,()),C.snd.fst,((),(),()),((),(),()),l,[],())=true:=by unfold b6H;rw[a];rfl
 have u:b6I (((),(),(),B.fst.fst,m,()),C.snd.fst,((),(),()),((),(),()),l,[],())=y:=by unfold b6I;rw[a];rfl
 refine a0h t ?_;rw[u];obtain⟨_,c',_,_,l',v,_⟩:=y;dsimp only at g i j k ⊢;subst i;exact a0j ⟨g,⟨e,f⟩,j,k⟩
theorem e0e (x:I74.den) (h:a0c x.2.1):K74 x=true:=a2v (c8K x h)
theorem e0f (x:I74.den) (h:a0c x.2.1):a0c (G74 x).2.1 /\ (1<=(G74 x).2.2.1.length /\ (G74 x).2.2.1.length<=3) /\ 1<=(G74 x).2.2.2.1.length /\ (G74 x).2.2.2.1.length<=5:=a2W _ (c8K x h)
theorem f2Y (d:Int) (h:0<=d /\ d<2):IntKind.i64.wrap (20+d)<=21:=by
 rw[w64 (by omega) (by omega)];omega
theorem b7d (v:b4k) (h:a0c v.2.1) (c:1<=v.2.2.2.2.1.length) (d:v.2.2.2.2.1.length<=21):Pst (b9D v) fun y=>a0c y.2.1 /\ y.2.2.2.2.1.length<=21 /\ y.2.2.2.2.2.1=v.2.2.2.2.2.1:=by
 refine a0J (q:=b9C) (fun u=>a0c u.2.1 /\ 1<=u.2.2.2.2.1.length /\ u.2.2.2.2.1.length<=21 /\ u.2.2.2.2.2.1=v.2.2.2.2.2.1)
  (fun _ r=>Pst r fun y=>a0c y.2.1 /\ y.2.2.2.2.1.length<=21 /\ y.2.2.2.2.2.1=v.2.2.2.2.2.1) (fun u=>21-u.2.2.2.2.1.length) ?_ _ _ ⟨h,c,d,rfl⟩ ?_
 ·rintro⟨_,⟨c0,c1,c2,_⟩,_,_,l,hs,_⟩ f ⟨g0,g1,g2,g3⟩ ih;dsimp only at g0 g1 g2 g3 ih;unfold b9C;dsimp only;refine a0h (a0o _ cu) ?_;have b:=a1a 2 (c0,c1,c2,()) g0 (by decide);have e:IntKind.i64.wrap (20+(G34 (((),2,()),(c0,c1,c2,()),())).fst.fst)<=21:=f2Y _ b;refine a1j (fun a=>?_) (fun _=>a0j ⟨cu,g2,g3⟩);have a:(l.length:Int)<IntKind.i64.wrap (20+(G34 (((),2,()),(c0,c1,c2,()),())).fst.fst):=by simpa using a
  refine a0h (by simp;omega) ?_;refine a0h (a0v (by simp only[length_set,length_replicate];omega)) ?_;refine ih _ ⟨cu,?_,?_,g3⟩ ?_<;>simp only[length_append,length_set,length_replicate]<;>omega
 ·unfold c6T;omega
def p79 (x:I79.den):Bool:=d4C x.2.1
def a4I (t:Den S30):Prop:=t.1.length<=21 /\ t.2.1.length<=6
def Q79 (x:I79.den) (y:O79.den):Prop:=a0c y.2.1 /\ a4I y.1.1
theorem e79:Nonempty (Ch I79 O79 p79 Q79):=⟨⟨fun _=>((([],[],()),()),(e0c,())),fun _ _=>⟨a6j,by show 0<=21;decide,by show 0<=6;decide⟩⟩⟩
theorem g4B:a2s Tryz.prog 79 (a3w true I79 O79 p79 Q79 e79):=b3K g1E (N:=N79 p128 Q128 e128) (a2K ⟨f2W,trivial⟩) h1b a1p fun x J k b=>by
 have b:∀y:O79.den,a0c y.2.1->y.1.1.1.length<=21->y.1.1.2.1.length<=6->k y=some ():=fun y G H I=>b y ⟨G,H,I⟩
 have h:a0c x.2.1:=a1l.1 J;refine Eq.trans (g1I _ _ _ k x) ?_;unfold g7K;dsimp only
 haveI:=e128
 have t0:=e0f (((),()),x.snd) h;refine a0w (e0e _ h) ?_;generalize G74 (((),()),x.snd)=T at *;obtain⟨_,c,l,a,_⟩:=T;dsimp only at t0 ⊢;obtain⟨K,⟨L,O⟩,P,Q⟩:=t0;refine a0w (a0o _ cu) ?_;have n:=a1a (l.length:Int) c K (by omega);have u:a0c (G34 (((),(l.length:Int),()),c,())).snd.fst:=cu;generalize G34 (((),(l.length:Int),()),c,())=A at *;obtain⟨⟨i,_⟩,o,_⟩:=A;dsimp only at n u ⊢;refine a0w (a0o _ cu) ?_;have d:a0c (G34 (((),24,()),o,())).snd.fst:=cu;generalize G34 (((),24,()),o,())=B at *;have e:(decide (0<=i)&&decide (i<(l.length:Int)))=true:=by simp only[and_eq_true,decide_eq_true_eq];exact n
 refine a1N (fun _=>?_) (fun _=>?_)
 ·refine a0w (b4n _ d) ?_;have v:=e3o (((),()),B.snd) d;generalize G82 (((),()),B.snd)=C at *;refine a0w (e4a _ (by simp)) ?_;refine a0w e ?_;exact b _ v (by simp only[length_set];omega) (by show a.length<=6;omega)
 refine a1N (fun _=>?_) (fun _=>?_)
 ·refine a0n fun g=>?_
  refine a0w (a0o _ cu) ?_;have f:=a1a 13 B.2.1 d (by decide);have f:0<=(G34 (((),13,()),B.snd)).fst.fst /\ (G34 (((),13,()),B.snd)).fst.fst<13:=f;have w:a0c (G34 (((),13,()),B.snd)).snd.fst:=cu;generalize G34 (((),13,()),B.snd)=D at *;have p:p128 (((),()),D.snd)=true:=a1l.2 w;have q1:a0c (g.val (((),()),D.snd)).2.1:=g.2 _ p;refine a0w p ?_;generalize g.val (((),()),D.snd)=C at *;refine a0w e ?_;refine a0w (by simp only[and_eq_true,decide_eq_true_eq];exact f) ?_;exact b _ q1 (by simp only[length_set];omega) (by show a.length<=6;omega)
 refine a1N (fun _=>?_) (fun _=>?_)
 ·refine a0w (a0o _ cu) ?_;have j:=a1a (a.length:Int) B.2.1 d (by omega);have j:0<=(G34 (((),(a.length:Int),()),B.snd)).fst.fst /\ (G34 (((),(a.length:Int),()),B.snd)).fst.fst<(a.length:Int):=j;have M:a0c (G34 (((),(a.length:Int),()),B.snd)).snd.fst:=cu;generalize G34 (((),(a.length:Int),()),B.snd)=D at *;refine a0w (b2s _ cu) ?_;refine a0w (by simp only[and_eq_true,decide_eq_true_eq];exact j) ?_;exact b _ cu (by show l.length<=21;omega) (by simp only[length_set];omega)
 refine a1N (fun _=>b _ d (by show l.length<=21;omega) (by show 0<=6;decide)) (fun _=>?_);refine a1N (fun _=>b _ d (by show 0<=21;decide) (by show a.length<=6;omega)) (fun _=>?_);refine a1N (fun _=>?_) (fun _=>?_)
 ·obtain⟨y,q,r,s,t⟩:=b7d (((),(),(),()),B.snd.fst,((),(),()),((),(),()),l,a,()) d L (by show l.length<=21;omega);have z:b6K (((),(),(),()),B.snd.fst,((),(),()),((),(),()),l,a,())=true:=by unfold b6K;rw[q];rfl
  have E:b6L (((),(),(),()),B.snd.fst,((),(),()),((),(),()),l,a,())=y:=by unfold b6L;rw[q];rfl
  refine a0w z ?_;rw[E];obtain⟨_,c',_,_,l',m,_⟩:=y;dsimp only at r s t ⊢;subst t;exact b _ r s (by show m.length<=6;omega)
 refine a1N (fun _=>?_) (fun _=>b _ d (by show l.length<=21;omega) (by show a.length<=6;omega));have F:IntKind.i64.wrap ((a.length:Int)-1)=(a.length:Int)-1:=w64 (by omega) (by omega);rw[F];refine a0w (by simp only[and_eq_true,decide_eq_true_eq];omega) ?_;refine a0w (a0v (by simp only[length_set,length_replicate];omega)) ?_;exact b _ d (by show l.length<=21;omega) (by simp only[length_append,length_set,length_replicate];omega)
def f7Z:List (Nat×TI):=[
 (1,⟨1,8,false,.nil,[.pois],[],0,.other⟩),
 (2,⟨1,8,false,.int .i64,[.int .i64 0],[],0,.int .i64⟩),
 (3,⟨1,8,false,.int .i64,[.int .i64 0],[],0,.int .i64⟩),
 (4,⟨1,1,false,.bool,[.bool false],[],0,.bool⟩),
 (5,⟨1,1,false,.int .u8,[.int .u8 0],[],0,.int .u8⟩),
 (9,⟨1,16,false,.str,[.str ByteArray.empty],[],0,.string⟩),
 (10,⟨1,16,false,.str,[.str ByteArray.empty],[],0,.string⟩),
 (22,⟨1,24,false,.slice (.int .u8),[.nil (.int .u8)],[],5,.slice⟩),
 (24,⟨1,24,false,.slice .jnk,[.nil (.flt .f32)],[],62,.slice⟩),
 (25,⟨1,24,false,.slice (.int .i64),[.nil (.int .i64)],[],3,.slice⟩),
 (26,⟨1,24,false,.slice (.slice .jnk),[.nil (.slice .jnk)],[],24,.slice⟩),
 (28,⟨3,72,true,S27,[.nil (.flt .f32),.nil (.int .i64),.nil (.slice .jnk)],[(0,1,false),(1,1,false),(2,1,false)],0,.struct⟩),
 (50,⟨1,24,false,.slice (.bool),[.nil (.bool)],[],4,.slice⟩),
 (62,⟨1,4,false,.flt .f32,[.flt .f32 0],[],0,.float .f32⟩),
 (104,⟨1,8,false,.int .u64,[.int .u64 0],[],0,.int .u64⟩),
 (109,⟨1,8,false,.flt .f64,[.flt .f64 0],[],0,.float .f64⟩),
 (122,⟨3,40,true,a2L,[.nil (.int .u8),.int .i64 0,.int .i64 0],[(0,1,false),(1,1,false),(2,1,false)],0,.struct⟩),
 (142,⟨1,8,false,.nil,[.pois],[],0,.other⟩),
 (208,⟨1,8,false,.nil,[.pois],[],0,.other⟩),
 (240,⟨1,8,false,.nil,[.pois],[],0,.other⟩)]
theorem e4b:f5S Tryz.prog f7Z=true:=by kernel_rfl
theorem e0g {sems fn lps frz cut past rown} (a:a7e (a0d Tryz.prog) sems):a1m Tryz.prog (gE sems fn lps frz cut past rown f7Z):=a4O mixed e4b a4Q a
set_option maxRecDepth 100000
set_option maxHeartbeats 0
abbrev c8L:Sg:=⟨[.ptr 0],[.box (a2L)]⟩
abbrev d4F:Sg:=⟨[.mix [.ref (.flt .f32) 1,.ref (.int .i64) 2,.ref (.slice (.jnk)) 3]],[.box (a2L),.arr (.flt .f32),.arr (.int .i64),.arr (.slice (.jnk))]⟩
abbrev a6Q:Type:=(Unit×Unit×Unit×Nat×Int×b2d)×ty3×a7N×a7N×b0d×ty4×List (Den (.slice (.jnk)))×b0d×Unit
abbrev c0D:Type:=(Unit×Unit×Unit×Nat×Int×List (Den (.jnk))×Unit)×ty8
def c0E:LX:=⟨[0,2,3,6,7,8,9],[],4,[0,2,3,6,7,8],[.jnk 8],⟨li5,[(0,bx0),(1,bx5),(2,bx7),(3,.arr (.flt .f32)),(4,.arr (.int .i64)),(5,.arr (.slice (.jnk))),(6,.arr (.flt .f32))],7,1⟩,⟨[(0,om1),(2,om3),(3,om4),(6,om9),(7,om0),(8,.one (.sl (.jnk)))],li3,6,1⟩⟩
def a8t (f:a6Q->Option (c0D)) (v:a6Q):Option (c0D):=bif decide (v.1.2.2.2.2.2.2.1<(length v.2.2.2.2.2.1:Int)) then bif K34 (((),57,()),v.2.1,()) then bif v.1.2.2.2.2.2.2.1==0 then let a:=G34 (((),57,()),v.2.1,());bif K77 (((),8,()),a.2) then let b:=G77 (((),8,()),a.2);bif !b.1.1 then bif fgt .f32 v.1.2.2.2.1 1084227584 then bif K34 (((),40,()),b.2) then let c:=G34 (((),40,()),b.2);let d:=set (replicate 1 (zero (Ty.flt .f32))) 0 (a0a .add .f32 0 (a0a .quo .f32 (nearest .f32 c.1.1) 1098907648));bif a0k (length v.2.2.2.2.2.2.2.1+length d) then f ((((),(),(),v.1.2.2.2.1,v.1.2.2.2.2.1,(),wrap .i64 (v.1.2.2.2.2.2.2.1+1),()),c.2.1,((),(),(),()),((),(),(),()),v.2.2.2.2.1,v.2.2.2.2.2.1,v.2.2.2.2.2.2.1,v.2.2.2.2.2.2.2.1++d,()))else none else none else let e:=set (replicate 1 (zero (Ty.flt .f32))) 0 0;bif a0k (length v.2.2.2.2.2.2.2.1+length e) then f ((((),(),(),v.1.2.2.2.1,v.1.2.2.2.2.1,(),wrap .i64 (v.1.2.2.2.2.2.2.1+1),()),b.2.1,((),(),(),()),((),(),(),()),v.2.2.2.2.1,v.2.2.2.2.2.1,v.2.2.2.2.2.2.1,v.2.2.2.2.2.2.2.1++e,()))else none else bif fgt .f32 v.1.2.2.2.1 1084227584 then bif K34 (((),40,()),b.2) then let h:=G34 (((),40,()),b.2);let g:=set (replicate 1 (zero (Ty.flt .f32))) 0 (a0a .add .f32 (a0a .quo .f32 (nearest .f32 (wrap .i64 (8+a.1.1))) 1098907648) (a0a .quo .f32 (nearest .f32 h.1.1) 1098907648));bif a0k (length v.2.2.2.2.2.2.2.1+length g) then f ((((),(),(),v.1.2.2.2.1,v.1.2.2.2.2.1,(),wrap .i64 (v.1.2.2.2.2.2.2.1+1),()),h.2.1,((),(),(),()),((),(),(),()),v.2.2.2.2.1,v.2.2.2.2.2.1,v.2.2.2.2.2.2.1,v.2.2.2.2.2.2.2.1++g,()))else none else none else let i:=set (replicate 1 (zero (Ty.flt .f32))) 0 (a0a .quo .f32 (nearest .f32 (wrap .i64 (8+a.1.1))) 1098907648);bif a0k (length v.2.2.2.2.2.2.2.1+length i) then f ((((),(),(),v.1.2.2.2.1,v.1.2.2.2.2.1,(),wrap .i64 (v.1.2.2.2.2.2.2.1+1),()),b.2.1,((),(),(),()),((),(),(),()),v.2.2.2.2.1,v.2.2.2.2.2.1,v.2.2.2.2.2.2.1,v.2.2.2.2.2.2.2.1++i,()))else none else none else bif fgt .f32 v.1.2.2.2.1 1084227584 then let a:=G34 (((),57,()),v.2.1,());bif K34 (((),40,()),a.2) then let c:=G34 (((),40,()),a.2);let d:=set (replicate 1 (zero (Ty.flt .f32))) 0 (a0a .add .f32 (a0a .quo .f32 (nearest .f32 (wrap .i64 (8+a.1.1))) 1098907648) (a0a .quo .f32 (nearest .f32 c.1.1) 1098907648));bif a0k (length v.2.2.2.2.2.2.2.1+length d) then f ((((),(),(),v.1.2.2.2.1,v.1.2.2.2.2.1,(),wrap .i64 (v.1.2.2.2.2.2.2.1+1),()),c.2.1,((),(),(),()),((),(),(),()),v.2.2.2.2.1,v.2.2.2.2.2.1,v.2.2.2.2.2.2.1,v.2.2.2.2.2.2.2.1++d,()))else none else none else let a:=G34 (((),57,()),v.2.1,());let e:=set (replicate 1 (zero (Ty.flt .f32))) 0 (a0a .quo .f32 (nearest .f32 (wrap .i64 (8+a.1.1))) 1098907648);bif a0k (length v.2.2.2.2.2.2.2.1+length e) then f ((((),(),(),v.1.2.2.2.1,v.1.2.2.2.2.1,(),wrap .i64 (v.1.2.2.2.2.2.2.1+1),()),a.2.1,((),(),(),()),((),(),(),()),v.2.2.2.2.1,v.2.2.2.2.2.1,v.2.2.2.2.2.2.1,v.2.2.2.2.2.2.2.1++e,()))else none else none else some (((),(),(),v.1.2.2.2.1,v.1.2.2.2.2.1,List.map (fun x=>()) v.2.2.2.2.2.2.2.1,()),v.2.1,((),(),(),()),((),(),(),()),v.2.2.2.2.1,v.2.2.2.2.2.1,v.2.2.2.2.2.2.1,())
def b2u (v:a6Q):Nat:=v.1.2.2.2.2.1.natAbs+v.1.2.2.2.2.2.2.1.natAbs+v.2.1.1.length+v.2.1.2.1.natAbs+v.2.1.2.2.1.natAbs+v.2.2.2.2.1.length+v.2.2.2.2.2.1.length+v.2.2.2.2.2.2.1.length+v.2.2.2.2.2.2.2.1.length+1000
def a6R (v:a6Q):=a0F a8t (b2u v) v
def c8M (v):=(a6R v).isSome
def a2N (v):=(a6R v).getD default
abbrev a6S:Type:=(Unit×Unit×Unit×d1W)×ty8
abbrev c0F:Type:=ty5×ty8
def c0G:LX:=⟨[0,2,3,6,7],[.boxNil 3 0,.boxNil 3 2],2,[2,3],[],⟨[(0,om1),(2,om3),(3,om4),(6,om9),(7,om0)],li3,6,1⟩,⟨li8,li3,6,1⟩⟩
def a8u (f:a6S->Option (c0F)) (v:a6S):Option (c0F):=bif decide (v.1.2.2.2.2.1>0) then let b:=zero (Ty.flt .f32);let c:=set (replicate 1 b) 0 v.1.2.2.2.1;bif a0k (length v.2.2.2.2.1+length c) then let h:=v.2.2.2.2.1++c;let d:=(((),(),(),v.1.2.2.2.1,v.1.2.2.2.2.1,(),0,()),v.2.1,((),(),(),()),((),(),(),()),h,v.2.2.2.2.2.1,v.2.2.2.2.2.2.1,replicate 0 b,());bif c8M d then let a:=a2N d;let e:=set (replicate 1 (zero (Ty.slice Ty.jnk))) 0 a.1.2.2.2.2.2.1;bif a0k (length a.2.2.2.2.2.2.1+length e) then bif K34 (((),40,()),a.2.1,()) then let g:=G34 (((),40,()),a.2.1,());f ((((),(),(),a0a .add .f32 a.1.2.2.2.1 (a0a .quo .f32 (nearest .f32 (wrap .i64 (1+g.1.1))) 1090519040),wrap .i64 (a.1.2.2.2.2.1-1),()),g.2.1,((),(),(),()),((),(),(),()),a.2.2.2.2.1,a.2.2.2.2.2.1,a.2.2.2.2.2.2.1++e,()))else none else none else none else none else some (((),(),()),v.2.1,((),(),(),()),((),(),(),()),v.2.2.2.2)
def b2v (v:a6S):Nat:=v.1.2.2.2.2.1.natAbs+v.2.1.1.length+v.2.1.2.1.natAbs+v.2.1.2.2.1.natAbs+v.2.2.2.2.1.length+v.2.2.2.2.2.1.length+v.2.2.2.2.2.2.1.length+1000
def a6T (v:a6S):=a0F a8u (b2v v) v
def a9u (v):=(a6T v).isSome
def a2O (v):=(a6T v).getD default
abbrev a9v:Type:=d6H×f6e
abbrev c8N:Type:=a7N×f6e
def c8O:LX:=⟨[0,2,3,5],[],0,[0,2,3],[],⟨[(0,om1),(2,om3),(3,om4),(5,om0)],[(0,bx0),(1,bx5),(2,g6J),(3,.arr (.int .i64))],4,1⟩,⟨li7,[(0,bx0),(1,bx5),(2,g6J),(3,.arr (.int .i64))],4,1⟩⟩
def b2w (f:a9v->Option (c8N)) (v:a9v):Option (c8N):=bif decide (v.1.2.2.2.1>0) then bif decide (v.1.2.2.2.1<180) then bif decide ((length v.2.2.2.2.1:Int)<20) then let a:=set (replicate 1 (zero (Ty.int IntKind.i64))) 0 v.1.2.2.2.1;bif a0k (length v.2.2.2.2.1+length a) then bif K34 (((),50,()),v.2.1,()) then let b:=G34 (((),50,()),v.2.1,());f ((((),(),(),wrap .i64 ((wrap .i64 (v.1.2.2.2.1+5))+b.1.1),()),b.2.1,((),(),(),()),((),(),(),()),v.2.2.2.2.1++a,()))else none else none else some (((),(),(),()),v.2.1,((),(),(),()),((),(),(),()),v.2.2.2.2)else some (((),(),(),()),v.2.1,((),(),(),()),((),(),(),()),v.2.2.2.2)else some (((),(),(),()),v.2.1,((),(),(),()),((),(),(),()),v.2.2.2.2)
def b7e (v:a9v):Nat:=v.1.2.2.2.1.natAbs+v.2.1.1.length+v.2.1.2.1.natAbs+v.2.1.2.2.1.natAbs+v.2.2.2.2.1.length+1000
def a9w (v:a9v):=a0F b2w (b7e v) v
def b2x (v):=(a9w v).isSome
def a4J (v):=(a9w v).getD default
def d4G (x:c8L.den):Option (d4F.den):=bif K34 (((),25,()),x.2) then let j:=G34 (((),25,()),x.2);bif K77 (((),6,()),j.2) then let k:=G77 (((),6,()),j.2);bif k.1.1 then let p:=replicate 1 (zero (Ty.int IntKind.i64));let l:=set p 0 0;let q:=(((),(),(),0,()),k.2.1,((),(),(),()),((),(),(),()),l,());bif b2x q then let i:=a4J q;let c:=set p 0 180;bif a0k (length i.2.2.2.2.1+length c) then bif K34 (((),4,()),i.2.1,()) then let m:=G34 (((),4,()),i.2.1,());bif K34 (((),4,()),m.2) then let n:=wrap .i64 (1+m.1.1);let a:=G34 (((),4,()),m.2);let b:=wrap .i64 (1+a.1.1);let d:=i.2.2.2.2.1++c;let r:=(((),(),(),nearest .f32 n,b,()),a.2.1,((),(),(),()),((),(),(),()),[],d,[],());bif a9u r then let g:=a2O r;some ((((),(),(),()),()),g.2.1,g.2.2.2.2)else none else none else none else none else none else let l:=wrap .i64 (20+j.1.1);let s:=replicate 1 (zero (Ty.int IntKind.i64));let y:=set s 0 0;let t:=(((),(),(),l,()),k.2.1,((),(),(),()),((),(),(),()),y,());bif b2x t then let c:=a4J t;let u:=set s 0 180;bif a0k (length c.2.2.2.2.1+length u) then bif K34 (((),4,()),c.2.1,()) then let e:=G34 (((),4,()),c.2.1,());bif K34 (((),4,()),e.2) then let a:=wrap .i64 (1+e.1.1);let b:=G34 (((),4,()),e.2);let d:=wrap .i64 (1+b.1.1);let o:=c.2.2.2.2.1++u;let w:=(((),(),(),nearest .f32 a,d,()),b.2.1,((),(),(),()),((),(),(),()),[],o,[],());bif a9u w then let h:=a2O w;some ((((),(),(),()),()),h.2.1,h.2.2.2.2)else none else none else none else none else none else none else none
def e4c (x):=(d4G x).isSome
def b7f (x):=(d4G x).getD (a1b d4F)
def f2Z:=(73,a0H true c8L d4F e4c b7f)
noncomputable def c8P:=gE [m34,m77] Tryz.f73 (lps:=[(6,lmX c8O a9w),(12,lmX c0G a6T),(17,lmX c0E a6R)]) (tb:=f7Z)
theorem c8Q:EvX c8P (lp Tryz.f73 0) c8O b2w:=fun _ _=>by kernel_rfl
theorem c2R:EvX c8P (lp Tryz.f73 1) c0G a8u:=fun _ _=>by kernel_rfl
theorem c2S:EvX c8P (lp Tryz.f73 2) c0E a8t:=fun _ _=>by kernel_rfl
theorem e4d:a0d Tryz.prog f2Z:=a4P (e0g (s2 a4F b0e)) (a1q Tryz.func73 rfl rfl rfl (by kernel_rfl) (a0f (by kernel_rfl) (s3 (lX c8Q b7e) (lX c2R b2v) (lX c2S b2u)))) true fun _=>by kernel_rfl
abbrev I78:Sg:=⟨[.ptr 0],[.box (a2L)]⟩
abbrev O78:Sg:=⟨[.val (.cons (.slice (.flt .f32)) (.cons (.slice (.int .i64)) (.cons (.slice (.slice .jnk)) (.nil))))],[.box (a2L)]⟩
abbrev b4U:Type:=(Unit×Unit×Int×a4h)×ty8
abbrev e0h:Type:=ty5×ty8
def e0i:LX:=⟨[2,3,4,117,118],[],3,[2,3],[],⟨[(2,om3),(3,om4),(4,om0),(117,om0),(118,om0)],li3,6,1⟩,⟨li8,li3,6,1⟩⟩
def c0H (f:b4U->Option (e0h)) (v:b4U):Option (e0h):=bif decide (v.1.2.2.2.2.1<v.1.2.2.2.1) then bif decide (0<=v.1.2.2.1)&&decide (v.1.2.2.1<(length v.2.2.2.2.2.2.1:Int)) then bif decide (0<=v.1.2.2.2.2.1)&&decide (v.1.2.2.2.2.1<(↑(length (getD v.2.2.2.2.2.2.1 (toNat v.1.2.2.1) (zero (Ty.slice Ty.jnk)))):Int)) then f ((((),(),v.1.2.2.1,v.1.2.2.2.1,wrap .i64 (v.1.2.2.2.2.1+1),()),v.2.1,((),(),(),()),((),(),(),()),v.2.2.2.2))else none else none else some (((),(),()),v.2.1,((),(),(),()),((),(),(),()),v.2.2.2.2)
def c8R (v:b4U):Nat:=v.1.2.2.1.natAbs+v.1.2.2.2.1.natAbs+v.1.2.2.2.2.1.natAbs+v.2.1.1.length+v.2.1.2.1.natAbs+v.2.1.2.2.1.natAbs+v.2.2.2.2.1.length+v.2.2.2.2.2.1.length+v.2.2.2.2.2.2.1.length+1000
def b4V (v:b4U):=a0F c0H (c8R v) v
def e4e (v):=(b4V v).isSome
def b7g (v):=(b4V v).getD default
abbrev b4W:Type:=a7N×ty8
abbrev e0j:Type:=ty5×ty8
def e0k:LX:=⟨[0,2,3],[],1,[2,3],[],⟨li7,li3,6,1⟩,⟨li8,li3,6,1⟩⟩
def c0I (f:b4W->Option (e0j)) (v:b4W):Option (e0j):=bif K34 (((),2,()),v.2.1,()) then let a:=G34 (((),2,()),v.2.1,());let b:=(length v.2.2.2.2.1:Int);bif decide (b<(wrap .i64 (12+a.1.1))) then let c:=wrap .i64 (b-1);bif decide (0<=c)&&decide (c<b) then let d:=zero (Ty.flt .f32);let e:=set (replicate 1 d) 0 (a0a .add .f32 (getD v.2.2.2.2.1 (toNat c) d) 1065353216);bif a0k (length v.2.2.2.2.1+length e) then bif decide (0<=0)&&decide (0<(length v.2.2.2.2.2.2.1:Int)) then let g:=set (replicate 1 (zero (Ty.slice Ty.jnk))) 0 (getD v.2.2.2.2.2.2.1 (toNat 0) (zero (Ty.slice Ty.jnk)));bif a0k (length v.2.2.2.2.2.2.1+length g) then f ((((),(),(),()),a.2.1,((),(),(),()),((),(),(),()),v.2.2.2.2.1++e,v.2.2.2.2.2.1,v.2.2.2.2.2.2.1++g,()))else none else none else none else none else some (((),(),()),a.2.1,((),(),(),()),((),(),(),()),v.2.2.2.2)else none
def c8S (v:b4W):Nat:=v.2.1.1.length+v.2.1.2.1.natAbs+v.2.1.2.2.1.natAbs+v.2.2.2.2.1.length+v.2.2.2.2.2.1.length+v.2.2.2.2.2.2.1.length+1000
def b4X (v:b4W):=a0F c0I (c8S v) v
def e4f (v):=(b4X v).isSome
def a9x (v):=(b4X v).getD default
noncomputable def e7J:=gE [f2Z,m34,f6R] Tryz.f78 (lps:=[(18,lmX e0k b4X),(25,lmX e0i b4V)]) (rown:=[.frzBox 2]) (tb:=f7Z)
theorem d4H:EvX e7J (lp Tryz.f78 0) e0k c0I:=fun _ _=>by kernel_rfl
theorem d4I:EvX e7J (lp Tryz.f78 1) e0i c0H:=fun _ _=>by kernel_rfl
theorem g4C:a1m Tryz.prog e7J:=e0g (s3 e4d a4F c6O)
theorem h1Q:a5P Tryz.prog 78 e7J (a0B Tryz.f78):=a1q Tryz.func78 rfl rfl rfl (by kernel_rfl) (a0f (by kernel_rfl) (s2 (lX d4H c8S) (lX d4I c8R)))
noncomputable def N78 (p141:KI a5z) (Q141:QI a5z a7u) (e141:Nonempty (Ch a5z a7u p141 Q141)):a8e:=mkN [(141,a3w true a5z a7u p141 Q141 e141)] []
noncomputable def g9i (p141:KI a5z) (Q141:QI a5z a7u) (e141:Nonempty (Ch a5z a7u p141 Q141)) (h:O78.den->Option Unit) (x:I78.den):Option Unit:=bif e4c (((),()),x.2) then let a:=b7f (((),()),x.2);let l:=(length a.2.2.1:Int);bif K34 (((),l,()),a.2.1,()) then let c:=G34 (((),l,()),a.2.1,());let m:=(length a.2.2.2.1:Int);bif K34 (((),m,()),c.2) then let d:=G34 (((),m,()),c.2);bif K34 (((),24,()),d.2) then let b:=G34 (((),24,()),d.2);bif b.1.1==0 then a3u fun(f:Ch a5z a7u p141 Q141)=>bif p141 (((),120,()),b.2) then bif decide (0<=c.1.1)&&decide (c.1.1<l) then let e:=f.val (((),120,()),b.2);h ((((set a.2.2.1 (toNat c.1.1) e.1.1,a.2.2.2),()),e.2))else none else none else bif b.1.1==1 then bif e7q (((),()),b.2) then bif decide (0<=d.1.1)&&decide (d.1.1<m) then let e:=e7r (((),()),b.2);h ((((a.2.2.1,set a.2.2.2.1 (toNat d.1.1) e.1.1,a.2.2.2.2),()),e.2))else none else none else bif b.1.1==2 then a3u fun(q:Ch a5z a7u p141 Q141)=>bif decide (0<=c.1.1)&&decide (c.1.1<(length a.2.2.2.2.1:Int)) then bif p141 (((),60,()),b.2) then bif decide (0<=d.1.1)&&decide (d.1.1<(↑(length (getD a.2.2.2.2.1 (toNat c.1.1) (zero (Ty.slice Ty.jnk)))):Int)) then h (((a.2.2,()),(q.val (((),60,()),b.2)).2))else none else none else none else bif b.1.1==3 then let n:=decide (0<=c.1.1)&&decide (c.1.1<(length a.2.2.2.2.1:Int));bif n then let i:=getD a.2.2.2.2.1 (toNat c.1.1) (zero (Ty.slice Ty.jnk));let j:=(length i:Int);bif decide (0<=1)&&decide (1<=j)&&decide (j<=j) then bif n then h ((((a.2.2.1,a.2.2.2.1,set a.2.2.2.2.1 (toNat c.1.1) (List.drop (toNat 1) (List.take (toNat j) i)),()),()),b.2))else none else none else none else bif b.1.1==4 then let k:=(length a.2.2.2.2.1:Int);bif decide (0<=1)&&decide (1<=k)&&decide (k<=k) then h ((((a.2.2.1,a.2.2.2.1,List.drop (toNat 1) (List.take (toNat k) a.2.2.2.2.1),()),()),b.2))else none else bif b.1.1==5 then h (((([],[],[],()),()),b.2))else bif b.1.1==6 then let o:=(((),(),(),()),b.2.1,((),(),(),()),((),(),(),()),a.2.2);bif e4f o then let e:=a9x o;h (((e.2.2.2.2,()),e.2.1,()))else none else bif b.1.1==7 then bif decide (0<=c.1.1)&&decide (c.1.1<(length a.2.2.2.2.1:Int)) then bif decide (0<=d.1.1)&&decide (d.1.1<(↑(length (getD a.2.2.2.2.1 (toNat c.1.1) (zero (Ty.slice Ty.jnk)))):Int)) then h (((a.2.2,()),b.2))else none else none else bif b.1.1==8 then bif decide (0<=c.1.1)&&decide (c.1.1<(length a.2.2.2.2.1:Int)) then let i:=getD a.2.2.2.2.1 (toNat c.1.1) (zero (Ty.slice Ty.jnk));let p:=(((),(),c.1.1,(length i:Int),0,()),b.2.1,((),(),(),()),((),(),(),()),a.2.2);bif e4e p then let g:=b7g p;h (((g.2.2.2.2,()),g.2.1,()))else none else none else h (((a.2.2,()),b.2))else none else none else none else none
theorem g4D (p141 Q141 e141 h x) :a3v (e7J) (N78 p141 Q141 e141) (a0B Tryz.f78) I78 O78 h x=g9i p141 Q141 e141 h x:=by kernel_rfl
theorem d4J (v:a6Q) (b:a0c v.2.1) (a:v.1.2.2.2.2.2.2.1=0) (d:v.2.2.2.2.2.2.2.1=[]) (j:v.2.2.2.2.2.1.length<=30) :
 Pst (a6R v) fun y=>a0c y.2.1 /\ y.1.2.2.2.2.1=v.1.2.2.2.2.1 /\ y.2.2.2.2.1=v.2.2.2.2.1 /\ y.2.2.2.2.2.1=v.2.2.2.2.2.1 /\ y.2.2.2.2.2.2.1=v.2.2.2.2.2.2.1 /\ y.1.2.2.2.2.2.1.length=v.2.2.2.2.2.1.length:=by
 unfold a6R;refine a0J (q:=a8t)
  (fun u=>a0c u.2.1 /\ u.1.2.2.2.2.1=v.1.2.2.2.2.1 /\ u.2.2.2.2.1=v.2.2.2.2.1 /\ u.2.2.2.2.2.1=v.2.2.2.2.2.1 /\ u.2.2.2.2.2.2.1=v.2.2.2.2.2.2.1 /\ 0<=(u.1.2.2.2.2.2.2.1:Int) /\ (u.1.2.2.2.2.2.2.1:Int)<=(v.2.2.2.2.2.1.length:Int) /\ (u.2.2.2.2.2.2.2.1.length:Int)=u.1.2.2.2.2.2.2.1)
  (fun _ r=>Pst r fun y=>a0c y.2.1 /\ y.1.2.2.2.2.1=v.1.2.2.2.2.1 /\ y.2.2.2.2.1=v.2.2.2.2.1 /\ y.2.2.2.2.2.1=v.2.2.2.2.2.1 /\ y.2.2.2.2.2.2.1=v.2.2.2.2.2.2.1 /\ y.1.2.2.2.2.2.1.length=v.2.2.2.2.2.1.length)
  (fun u=>(30-(u.1.2.2.2.2.2.2.1:Int)).toNat) ?_ _ _ ⟨b,rfl,rfl,rfl,rfl,by rw[a];exact Int.le_refl 0,by rw[a];exact Int.natCast_nonneg _,by rw[d,a];rfl⟩ (by unfold b2u;omega)
 clear a d b;rintro⟨⟨_,_,_,w,n,_,i,_⟩,⟨c0,c1,c2,_⟩,_,_,ws,as_,sp,row,_⟩ f ⟨g0,g1,g2,g3,g4,g5,g6,g7⟩ ih;dsimp only at g0 g1 g2 g3 g4 g5 g6 g7 ih;subst g1 g2 g4;have g:as_.length=v.2.2.2.2.2.1.length:=by rw[g3]
 unfold a8t;dsimp only;by_cases a:i<(as_.length:Int)
 ·refine a0h (by simpa using a) ?_;have e:IntKind.i64.wrap (i+1)=i+1:=w64 (by omega) (by omega);rw[e];have fin:∀(x:Nat) (c:List Int×Int×Int×Unit),a0c c->Pst (bif (a0k (length row+length (set (replicate 1 (zero (Ty.flt FloatKind.f32))) 0 x)))then f (((),((),((),((w),((v.1.2.2.2.2.1),((),((i+1),()))))))),(((c.1),((c.2.1),((c.2.2.1),()))),(((),((),((),()))),(((),((),((),()))),((v.2.2.2.2.1),((as_),((v.2.2.2.2.2.2.1),((row++set (replicate 1 (zero (Ty.flt FloatKind.f32))) 0 x),()))))))))else none)
   fun y=>a0c y.2.1 /\ y.1.2.2.2.2.1=v.1.2.2.2.2.1 /\ y.2.2.2.2.1=v.2.2.2.2.1 /\ y.2.2.2.2.2.1=v.2.2.2.2.2.1 /\ y.2.2.2.2.2.2.1=v.2.2.2.2.2.2.1 /\ y.1.2.2.2.2.2.1.length=v.2.2.2.2.2.1.length:=by
   intro x c h;refine a0h (a0v (by simp only[length_set,length_replicate];omega)) ?_;refine ih _ ⟨h,rfl,rfl,g3,rfl,?_,?_,?_⟩ ?_<;>simp only[length_append,length_set,length_replicate]<;>omega
  refine a0h (a0o _ cu) ?_;refine a1j (fun _=>?_) (fun _=>?_)
  ·refine a0h (a1R _ cu) ?_;refine a1j (fun _=>?_) (fun _=>?_)
   ·refine a1j (fun _=>?_) (fun _=>?_)
    ·refine a0h (a0o _ cu) ?_;exact fin _ _ cu
    ·exact fin _ _ cu
   ·refine a1j (fun _=>?_) (fun _=>?_)
    ·refine a0h (a0o _ cu) ?_;exact fin _ _ cu
    ·exact fin _ _ cu
  ·refine a1j (fun _=>?_) (fun _=>?_)
   ·refine a0h (a0o _ cu) ?_;exact fin _ _ cu
   ·exact fin _ _ cu
 ·have hd:decide (i<(as_.length:Int))=false:=by simpa using a
  rw[hd];exact a0j ⟨g0,rfl,rfl,g3,rfl,by show(row.map fun _=>()).length=_;rw[List.length_map];omega⟩
def Rows (n:Nat) (a:Nat) (ws:List Nat) (b:List (List Unit)):Prop:=ws.length=n /\ b.length=n /\ ∀r∈b,r.length=a
theorem c8T (v:a6S) (j:a0c v.2.1) (A:0<=(v.1.2.2.2.2.1:Int) /\ (v.1.2.2.2.2.1:Int)<=8) (d:v.2.2.2.2.1=[]) (l:v.2.2.2.2.2.2.1=[]) (F:v.2.2.2.2.2.1.length<=30) :
 Pst (a6T v) fun y=>a0c y.2.1 /\ y.2.2.2.2.2.1=v.2.2.2.2.2.1 /\ Rows (v.1.2.2.2.2.1:Int).toNat v.2.2.2.2.2.1.length y.2.2.2.2.1 y.2.2.2.2.2.2.1:=by
 unfold a6T;refine a0J (q:=a8u)
  (fun u=>a0c u.2.1 /\ u.2.2.2.2.2.1=v.2.2.2.2.2.1 /\ 0<=(u.1.2.2.2.2.1:Int) /\ (u.2.2.2.2.1.length:Int)+u.1.2.2.2.2.1=v.1.2.2.2.2.1 /\ Rows u.2.2.2.2.1.length v.2.2.2.2.2.1.length u.2.2.2.2.1 u.2.2.2.2.2.2.1)
  (fun _ r=>Pst r fun y=>a0c y.2.1 /\ y.2.2.2.2.2.1=v.2.2.2.2.2.1 /\ Rows (v.1.2.2.2.2.1:Int).toNat v.2.2.2.2.2.1.length y.2.2.2.2.1 y.2.2.2.2.2.2.1)
  (fun u=>(u.1.2.2.2.2.1:Int).toNat) ?_ _ _ ⟨j,rfl,A.1,by rw[d];exact Int.zero_add _,by rw[d,l];exact⟨rfl,rfl,fun _ h=>by cases h⟩⟩ (by unfold b2v;omega)
 clear j d l;rintro⟨⟨_,_,_,w,n,_⟩,⟨c0,c1,c2,_⟩,_,_,ws,as_,sp,_⟩ f ⟨g0,g1,g2,g3,c⟩ ih;dsimp only at g0 g1 g2 g3 c ih;obtain⟨c,D,i⟩:=c;have o:as_.length=v.2.2.2.2.2.1.length:=by rw[g1]
 unfold a8u;dsimp only;by_cases k:n>0
 ·refine a0h (by simpa using k) ?_;refine a0h (a0v (by simp only[length_set,length_replicate];omega)) ?_;have a:=d4J (((),(),(),w,n,(),0,()),(c0,c1,c2,()),((),(),(),()),((),(),(),()),ws++(replicate 1 (zero (Ty.flt FloatKind.f32))).set 0 w,as_,sp,replicate 0 (zero (Ty.flt FloatKind.f32)),()) g0 rfl rfl (by show as_.length<=30;omega);refine a0h (a2v a) ?_;have g:=a2W (((),((),((),(0,(0,([],())))))),(([],(0,(0,()))),(((),((),((),()))),(((),((),((),()))),([],([],([],()))))))) a;change a0c (a2N _).2.1 /\ (a2N _).1.2.2.2.2.1=n /\ (a2N _).2.2.2.2.1=_ /\ (a2N _).2.2.2.2.2.1=as_ /\ (a2N _).2.2.2.2.2.2.1=sp /\ (a2N _).1.2.2.2.2.2.1.length=as_.length at g;generalize a2N (((),(),(),w,n,(),0,()),(c0,c1,c2,()),((),(),(),()),((),(),(),()),ws++(replicate 1 (zero (Ty.flt FloatKind.f32))).set 0 w,as_,sp,replicate 0 (zero (Ty.flt FloatKind.f32)),())=y at *;obtain⟨⟨_,_,_,w',b,row,_⟩,c',_,_,C,m,B,_⟩:=y;dsimp only at g;obtain⟨E,p,s,t,x,z⟩:=g;subst p s t x;refine a0h (a0v (by simp only[length_set,length_replicate];omega)) ?_;refine a0h (a0o _ cu) ?_;have e:IntKind.i64.wrap (b-1)=b-1:=w64 (by omega) (by omega);dsimp only;rw[e];refine ih _ ⟨cu,g1,?_,?_,?_,?_,?_⟩ ?_
  ·show 0<=b-1;omega
  ·simp only[length_append,length_set,length_replicate];omega
  ·rfl
  ·simp only[length_append,length_set,length_replicate];omega
  ·intro r a;rcases List.mem_append.1 a with a|a
   ·exact i r a
   ·rw[show r=row from List.mem_singleton.1 a,z,o]
  ·show(b-1).toNat<b.toNat;omega
 ·have hd:decide (n>0)=false:=by simpa using k
  rw[hd];refine a0j ⟨g0,g1,?_,?_,i⟩
  ·show ws.length=_;omega
  ·show sp.length=_;omega
theorem g4E (a b:Int) (c:a>0) (d:a<180) (h:0<=b /\ b<50):IntKind.i64.wrap (IntKind.i64.wrap (a+5)+b)<=1000:=by
 rw[w64 (x:=a+5) (by omega) (by omega),w64 (by omega) (by omega)];omega
theorem g4F (b:Int) (h:0<=b /\ b<4):0<=IntKind.i64.wrap (1+b) /\ IntKind.i64.wrap (1+b)<=8 /\ 1<=(IntKind.i64.wrap (1+b)).toNat /\ (IntKind.i64.wrap (1+b)).toNat<=4:=by
 rw[w64 (by omega) (by omega)];omega
theorem g4G (b:Int) (h:0<=b /\ b<25):IntKind.i64.wrap (20+b)<=1000:=by
 rw[w64 (by omega) (by omega)];omega
theorem b7h (v:a9v) (g:a0c v.2.1) (h:(v.1.2.2.2.1:Int)<=1000) (i:v.2.2.2.2.1.length=1) :
 Pst (a9w v) fun y=>a0c y.2.1 /\ 1<=y.2.2.2.2.1.length /\ y.2.2.2.2.1.length<=21:=by
 unfold a9w;refine a0J (q:=b2w)
  (fun u=>a0c u.2.1 /\ (u.1.2.2.2.1:Int)<=1000 /\ 1<=u.2.2.2.2.1.length /\ u.2.2.2.2.1.length<=21)
  (fun _ r=>Pst r fun y=>a0c y.2.1 /\ 1<=y.2.2.2.2.1.length /\ y.2.2.2.2.1.length<=21)
  (fun u=>21-u.2.2.2.2.1.length) ?_ _ _ ⟨g,h,by omega,by omega⟩ (by unfold b7e;omega)
 rintro⟨⟨_,_,_,a,_⟩,⟨c0,c1,c2,_⟩,_,_,as_,_⟩ f ⟨g0,g1,g2,g3⟩ ih;dsimp only at g0 g1 g2 g3 ih;unfold b2w;dsimp only;refine a1j (fun b=>?_) (fun _=>a0j ⟨g0,g2,g3⟩);refine a1j (fun c=>?_) (fun _=>a0j ⟨g0,g2,g3⟩);refine a1j (fun d=>?_) (fun _=>a0j ⟨g0,g2,g3⟩);have b:a>0:=by simpa using b
 have c:a<180:=by simpa using c
 have d : as_.length < 20 := by have:(as_.length:Int)<20:=by simpa using d
                                omega
 refine a0h (a0v (by simp only[length_set,length_replicate];omega)) ?_;refine a0h (a0o _ cu) ?_;have e:=a1a 50 (c0,c1,c2,()) g0 (by decide);refine ih _ ⟨cu,g4E _ _ b c e,?_,?_⟩ ?_
 all_goals simp only[length_append,length_set,length_replicate];omega
def f3a (ws:List Nat) (a:List Int) (b:List (List Unit)):Prop:=2<=a.length /\ a.length<=22 /\ 1<=ws.length /\ ws.length<=4 /\ Rows ws.length a.length ws b
theorem c0J (x:c8L.den) (h:a0c x.2.1):Pst (d4G x) fun y=>a0c y.2.1 /\ f3a y.2.2.1 y.2.2.2.1 y.2.2.2.2.1:=by
 unfold d4G;dsimp only;have a2f:∀(n:Int) (c:List Int×Int×Int×Unit),a0c c->0<n->0<=((G34 (((),n,()),c,())).1.1:Int) /\ ((G34 (((),n,()),c,())).1.1:Int)<n:=fun n c h j=>a1a n c h j
 refine a0h (a0o _ cu) ?_;have C:0<=((G34 (((),25,()),x.snd)).1.1:Int) /\ ((G34 (((),25,()),x.snd)).1.1:Int)<25:=a2f 25 x.2.1 h (by decide);have S:a0c (G34 (((),25,()),x.snd)).2.1:=cu;generalize G34 (((),25,()),x.snd)=A at *;refine a0h (a1R _ cu) ?_;have G:a0c (G77 (((),6,()),A.snd)).2.1:=cu;generalize G77 (((),6,()),A.snd)=B at *;have e:∀a:Int,a<=1000->Pst (
  let u:=set (replicate 1 (zero (Ty.int IntKind.i64))) 0 0
  let P:=(b2x (((),(),(),a,()),B.snd.fst,((),(),(),()),((),(),(),()),u,()))
  bif (P)then
   let o:=(a4J (((),(),(),a,()),B.snd.fst,((),(),(),()),((),(),(),()),u,()))
   let v:=(set (replicate 1 (zero (Ty.int IntKind.i64))) 0 180)
   bif (a0k (length o.snd.snd.snd.snd.fst+length v))then
    let Q:=(K34 (((),4,()),o.snd.fst,()))
    bif (Q)then
     let g:=(G34 (((),4,()),o.snd.fst,()))
     let q:=(K34 (((),4,()),g.snd))
     bif (q)then
      let k:=(wrap IntKind.i64 (1+g.fst.fst))
      let i:=(G34 (((),4,()),g.snd))
      let l:=(wrap IntKind.i64 (1+i.fst.fst))
      let m:=(o.snd.snd.snd.snd.fst++v)
      let r:=(a9u (((),(),(),nearest FloatKind.f32 k,l,()),i.snd.fst,((),(),(),()),((),(),(),()),[],m,[],()))
      bif (r)then
       let b:=(a2O (((),(),(),nearest FloatKind.f32 k,l,()),i.snd.fst,((),(),(),()),((),(),(),()),[],m,[],()))
       (some ((((),((),((),()))),()),(((b.snd.fst.1),((b.snd.fst.snd.1),((b.snd.fst.snd.snd.1),()))),((b.snd.snd.snd.snd.1),((b.snd.snd.snd.snd.snd.1),((b.snd.snd.snd.snd.snd.snd.1),()))))):Option d4F.den)
      else none
     else none
    else none
   else none
  else none) fun y=>a0c y.2.1 /\ f3a y.2.2.1 y.2.2.2.1 y.2.2.2.2.1:=by
  intro a J;dsimp only;have t:=b7h (((),(),(),a,()),B.snd.fst,((),(),(),()),((),(),(),()),set (replicate 1 (zero (Ty.int IntKind.i64))) 0 0,()) G J rfl;refine a0h (a2v t) ?_;have f:=a2W (((),((),((),()))),(([],(0,(0,()))),(((),((),((),()))),(((),((),((),()))),([],()))))) t;change a0c (a4J _).2.1 /\ 1<=(a4J _).2.2.2.2.1.length /\ (a4J _).2.2.2.2.1.length<=21 at f;generalize a4J (((),(),(),a,()),B.snd.fst,((),(),(),()),((),(),(),()),set (replicate 1 (zero (Ty.int IntKind.i64))) 0 0,())=y at *;obtain⟨_,c,_,_,d,_⟩:=y;dsimp only at f ⊢;obtain⟨T,U,V⟩:=f;refine a0h (a0v (by simp only[length_set,length_replicate];omega)) ?_;refine a0h (a0o _ cu) ?_;have H:a0c (G34 (((),4,()),c,())).2.1:=cu;generalize G34 (((),4,()),c,())=D at *;refine a0h (a0o _ cu) ?_;have F:0<=((G34 (((),4,()),D.snd)).1.1:Int) /\ ((G34 (((),4,()),D.snd)).1.1:Int)<4:=a2f 4 D.2.1 H (by decide);have I:a0c (G34 (((),4,()),D.snd)).2.1:=cu;generalize G34 (((),4,()),D.snd)=E at *;have j:0<=IntKind.i64.wrap (1+E.fst.fst) /\ IntKind.i64.wrap (1+E.fst.fst)<=8 /\ 1<=(IntKind.i64.wrap (1+E.fst.fst)).toNat /\ (IntKind.i64.wrap (1+E.fst.fst)).toNat<=4:=g4F _ F;generalize IntKind.i64.wrap (1+E.fst.fst)=nn at *;generalize nearest FloatKind.f32 (wrap IntKind.i64 (1+D.fst.fst))=w;have s:=c8T (((),(),(),w,nn,()),E.snd.fst,((),(),(),()),((),(),(),()),[],d++set (replicate 1 (zero (Ty.int IntKind.i64))) 0 180,[],()) I ⟨j.1,j.2.1⟩ rfl rfl (by simp only[length_append,length_set,length_replicate];omega);refine a0h (a2v s) ?_;have f:=a2W (((),((),())),(([],(0,(0,()))),(((),((),((),()))),(((),((),((),()))),([],([],([],()))))))) s;change a0c (a2O _).2.1 /\ (a2O _).2.2.2.2.2.1=_ /\ Rows nn.toNat _ (a2O _).2.2.2.2.1 (a2O _).2.2.2.2.2.2.1 at f;generalize a2O (((),(),(),w,nn,()),E.snd.fst,((),(),(),()),((),(),(),()),[],d++set (replicate 1 (zero (Ty.int IntKind.i64))) 0 180,[],())=y at *;obtain⟨_,c',_,_,R,z,O,_⟩:=y;dsimp only at f;obtain⟨K,L,p,M,N⟩:=f;subst L;refine a0j ⟨K,?_⟩;dsimp only;have el:(d++set (replicate 1 (zero (Ty.int IntKind.i64))) 0 180).length=d.length+1:=by simp only[length_append,length_set,length_replicate]
  refine⟨by rw[el];omega,by rw[el];omega,by rw[p];exact j.2.2.1,by rw[p];exact j.2.2.2,rfl,by rw[p,M],N⟩
 refine a1j (fun _=>?_) (fun _=>?_)
 ·exact e 0 (by decide)
 ·exact e _ (g4G _ C)
theorem d4K (x:c8L.den) (h:a0c x.2.1):e4c x=true:=a2v (c0J x h)
theorem d4L (x:c8L.den) (h:a0c x.2.1):a0c (b7f x).2.1 /\ f3a (b7f x).2.2.1 (b7f x).2.2.2.1 (b7f x).2.2.2.2.1:=a2W _ (c0J x h)
def d2a (ws:List Nat) (a:List Int) (b:List (List Unit)):Prop:=ws.length<=14 /\ a.length<=22 /\ b.length<=14 /\ ∀r∈b,r.length<=22
theorem f3a.some {ws:List Nat} {a:List Int} {c:List (List Unit)} (h:f3a ws a c):d2a ws a c:=by
 obtain⟨f,b,g,i,j,k,d⟩:=h;exact⟨by omega,b,by omega,fun r e=>by rw[d r e];exact b⟩
theorem d2a.nil:d2a [] [] []:=⟨zero_le _,zero_le _,zero_le _,fun _ h=>by cases h⟩
theorem w12 (a:Int) (h:0<=a /\ a<2):12<=IntKind.i64.wrap (12+a) /\ IntKind.i64.wrap (12+a)<=13:=by
 rw[w64 (by omega) (by omega)];omega
theorem g4H (a:Int) (n:Nat) (h:0<=a /\ a<(n:Int)):a.toNat<n:=by omega
theorem c8U (v:b4W) (d:a0c v.2.1) (i:1<=v.2.2.2.2.1.length /\ v.2.2.2.2.1.length<=4) (h:v.2.2.2.2.2.2.1.length=v.2.2.2.2.1.length) (a:∀r∈v.2.2.2.2.2.2.1,length r<=22) :
 Pst (b4X v) fun y=>a0c y.2.1 /\ y.2.2.2.2.2.1=v.2.2.2.2.2.1 /\ y.2.2.2.2.1.length<=14 /\ y.2.2.2.2.2.2.1.length<=14 /\ ∀r∈y.2.2.2.2.2.2.1,length r<=22:=by
 unfold b4X;refine a0J (q:=c0I)
  (fun u=>a0c u.2.1 /\ u.2.2.2.2.2.1=v.2.2.2.2.2.1 /\ 1<=u.2.2.2.2.1.length /\ u.2.2.2.2.1.length<=13 /\ u.2.2.2.2.2.2.1.length=u.2.2.2.2.1.length /\ ∀r∈u.2.2.2.2.2.2.1,length r<=22)
  (fun _ r=>Pst r fun y=>a0c y.2.1 /\ y.2.2.2.2.2.1=v.2.2.2.2.2.1 /\ y.2.2.2.2.1.length<=14 /\ y.2.2.2.2.2.2.1.length<=14 /\ ∀r∈y.2.2.2.2.2.2.1,length r<=22)
  (fun u=>14-u.2.2.2.2.1.length) ?_ _ _ ⟨d,rfl,i.1,by omega,h,a⟩ (by unfold c8S;omega)
 clear d i h a;rintro⟨_,⟨c0,c1,c2,_⟩,_,_,ws,as_,sp,_⟩ f ⟨g0,g1,g2,g3,g4,g5⟩ ih;dsimp only at g0 g1 g2 g3 g4 g5 ih;unfold c0I;dsimp only;refine a0h (a0o _ cu) ?_;have k:=w12 _ (a1a 2 (c0,c1,c2,()) g0 (by decide));have b:a0c (G34 (((),2,()),(c0,c1,c2,()),())).2.1:=cu;generalize G34 (((),2,()),(c0,c1,c2,()),())=A at *;generalize IntKind.i64.wrap (12+A.fst.fst)=n at *;have e:IntKind.i64.wrap ((ws.length:Int)-1)=((ws.length-1:Nat):Int):=by rw[w64 (by omega) (by omega)];omega
 rw[e];by_cases g:(ws.length:Int)<n
 ·refine a0h (by simpa using g) ?_;refine a0h (by simp;omega) ?_;refine a0h (a0v (by simp only[length_set,length_replicate];omega)) ?_;refine a0h (by simp;omega) ?_;refine a0h (a0v (by simp only[length_set,length_replicate];omega)) ?_;have j:getD sp (toNat 0) (zero (Ty.slice Ty.jnk))∈sp:=by
   have c:0<sp.length:=by omega
   show sp.getD 0 _∈sp;rw[List.getD_eq_getElem?_getD,List.getElem?_eq_getElem c];exact List.getElem_mem c
  refine ih _ ⟨b,g1,?_,?_,?_,?_⟩ ?_
  ·simp only[length_append,length_set,length_replicate];omega
  ·simp only[length_append,length_set,length_replicate];omega
  ·simp only[length_append,length_set,length_replicate];omega
  ·intro r a;rcases List.mem_append.1 a with a|a
   ·exact g5 r a
   ·rw[show r=_ from List.mem_singleton.1 a];exact g5 _ j
  ·simp only[length_append,length_set,length_replicate];omega
 ·have hd:decide ((ws.length:Int)<n)=false:=by simpa using g
  rw[hd];exact a0j ⟨b,g1,by show ws.length<=14;omega,by show sp.length<=14;omega,g5⟩
theorem c8V (v:b4U) (d:a0c v.2.1) (g:0<=(v.1.2.2.1:Int) /\ (v.1.2.2.1:Int)<(v.2.2.2.2.2.2.1.length:Int)) (b:(v.1.2.2.2.1:Int)=((getD v.2.2.2.2.2.2.1 (v.1.2.2.1:Int).toNat (zero (Ty.slice Ty.jnk))).length:Int)) (h:(v.1.2.2.2.1:Int)<=22) (a:v.1.2.2.2.2.1=0) :
 Pst (b4V v) fun y=>a0c y.2.1 /\ y.2.2.2.2=v.2.2.2.2:=by
 unfold b4V;refine a0J (q:=c0H)
  (fun u=>a0c u.2.1 /\ u.2.2.2.2=v.2.2.2.2 /\ u.1.2.2.1=v.1.2.2.1 /\ u.1.2.2.2.1=v.1.2.2.2.1 /\ 0<=(u.1.2.2.2.2.1:Int) /\ (u.1.2.2.2.2.1:Int)<=v.1.2.2.2.1)
  (fun _ r=>Pst r fun y=>a0c y.2.1 /\ y.2.2.2.2=v.2.2.2.2)
  (fun u=>(v.1.2.2.2.1-u.1.2.2.2.2.1:Int).toNat) ?_ _ _ ⟨d,rfl,rfl,rfl,by rw[a];exact Int.le_refl 0,by rw[a,b];exact Int.natCast_nonneg _⟩ (by rw[a];unfold c8R;omega)
 clear d a;rintro⟨⟨_,_,i,n,k,_⟩,⟨c0,c1,c2,_⟩,_,_,ws,as_,sp,_⟩ f ⟨g0,g1,g2,g3,g4,g5⟩ ih;dsimp only at g0 g1 g2 g3 g4 g5 ih;have c:sp=v.2.2.2.2.2.2.1:=congrArg (·.2.2.1) g1;rw[<- g2,<- c]at g;rw[<- g2,<- g3,<- c]at b;rw[<- g3]at h g5;unfold c0H;dsimp only;by_cases a:k<n
 ·refine a0h (by simpa using a) ?_;refine a0h (by simp;omega) ?_;rw[<- b];refine a0h (by simp;omega) ?_;have e:IntKind.i64.wrap (k+1)=k+1:=w64 (by omega) (by omega);rw[e];refine ih _ ⟨g0,g1,g2,g3,?_,?_⟩ ?_
  ·show 0<=k+1;omega
  ·show k+1<=v.1.2.2.2.1;rw[<- g3];omega
  ·show(v.1.2.2.2.1-(k+1):Int).toNat<(v.1.2.2.2.1-k:Int).toNat;rw[<- g3];omega
 ·have hd:decide (k<n)=false:=by simpa using a
  rw[hd];exact a0j ⟨g0,g1⟩
def p78 (x:I78.den):Bool:=d4C x.2.1
def Q78 (x:I78.den) (y:O78.den):Prop:=a0c y.2.1 /\ d2a y.1.1.1 y.1.1.2.1 y.1.1.2.2.1
theorem f3b (x:I78.den) (d:p78 x=true) (k:O78.den->Option Unit) (f:∀y,Q78 x y->k y=some ()) :
 a3v (e7J) (N78 p141 Q141 e141) (a0B Tryz.f78) I78 O78 k x=some ():=by
 have f:∀y:O78.den,a0c y.2.1 /\ d2a y.1.1.1 y.1.1.2.1 y.1.1.2.2.1->k y=some ():=f;have h:a0c x.2.1:=a1l.1 d;refine Eq.trans (g4D _ _ _ k x) ?_;unfold g9i;dsimp only
 haveI:=e141
 have a2f:∀(n:Int) (c:List Int×Int×Int×Unit),a0c c->0<n->0<=((G34 (((),n,()),c,())).1.1:Int) /\ ((G34 (((),n,()),c,())).1.1:Int)<n:=fun n c h O=>a1a n c h O
 refine a0w (d4K (((),()),x.snd) h) ?_;obtain⟨E,z⟩:=d4L (((),()),x.snd) h;generalize b7f (((),()),x.snd)=A at *;obtain⟨_,c,ws,a,e,_⟩:=A;dsimp only at E z ⊢;have b:=z.some;obtain⟨U,p2,Q,R,-,t,S⟩:=z;refine a0w (a0o _ cu) ?_;have v:0<=((G34 (((),(ws.length:Int),()),c,())).1.1:Int) /\ ((G34 (((),(ws.length:Int),()),c,())).1.1:Int)<(ws.length:Int):=a2f _ c E (by omega);have M:a0c (G34 (((),(ws.length:Int),()),c,())).2.1:=cu;generalize G34 (((),(ws.length:Int),()),c,())=B at *;refine a0w (a0o _ cu) ?_;have L:0<=((G34 (((),(a.length:Int),()),B.snd)).1.1:Int) /\ ((G34 (((),(a.length:Int),()),B.snd)).1.1:Int)<(a.length:Int):=a2f _ B.2.1 M (by omega);have T:a0c (G34 (((),(a.length:Int),()),B.snd)).2.1:=cu;generalize G34 (((),(a.length:Int),()),B.snd)=C at *;refine a0w (a0o _ cu) ?_;have j:a0c (G34 (((),24,()),C.snd)).2.1:=cu;generalize G34 (((),24,()),C.snd)=D at *;have I:(decide (0<=(B.fst.fst:Int))&&decide ((B.fst.fst:Int)<(ws.length:Int)))=true:=by simp[v]
 have s:(decide (0<=(B.fst.fst:Int))&&decide ((B.fst.fst:Int)<(e.length:Int)))=true:=by rw[t];exact I
 have J:(decide (0<=(C.fst.fst:Int))&&decide ((C.fst.fst:Int)<(a.length:Int)))=true:=by simp[L]
 have o:(B.fst.fst:Int).toNat<e.length:=by
  rw[t];exact g4H _ _ v
 have N:getD e (toNat B.fst.fst) (zero (Ty.slice Ty.jnk))∈e:=by
  rw[List.getD_eq_getElem?_getD,List.getElem?_eq_getElem o];exact List.getElem_mem o
 have l:(getD e (toNat B.fst.fst) (zero (Ty.slice Ty.jnk))).length=a.length:=S _ N;have K:(decide (0<=(C.fst.fst:Int))&&decide ((C.fst.fst:Int)<((getD e (toNat B.fst.fst) (zero (Ty.slice Ty.jnk))).length:Int)))=true:=by rw[l];exact J
 have q:∀(i:Nat) (r:List Unit),r.length<=22->d2a ws a (e.set i r):=fun i r m=>⟨b.1,b.2.1,by rw[length_set];exact b.2.2.1,fun u P=>by
  rcases List.mem_or_eq_of_mem_set P with w|w
  ·exact b.2.2.2 u w
  ·rw[w];exact m⟩
 refine a1N (fun _=>?_) (fun _=>?_)
 ·refine a0n fun g=>?_
  have p:p141 (((),120,()),D.snd)=true:=a1l.2 j;refine a0w p ?_;refine a0w I ?_;exact f _ ⟨g.2 _ p,by show(set ws _ _).length<=14;rw[length_set];exact b.1,b.2⟩
 refine a1N (fun _=>?_) (fun _=>?_)
 ·refine a0w (b2s _ cu) ?_;refine a0w J ?_;exact f _ ⟨cu,b.1,by show(set a _ _).length<=22;rw[length_set];exact b.2.1,b.2.2⟩
 refine a1N (fun _=>?_) (fun _=>?_)
 ·refine a0n fun g=>?_
  refine a0w s ?_;have p:p141 (((),60,()),D.snd)=true:=a1l.2 j;refine a0w p ?_;refine a0w K ?_;exact f _ ⟨g.2 _ p,b⟩
 refine a1N (fun _=>?_) (fun _=>?_)
 ·refine a0w s ?_;refine a0w (by rw[l];simp;omega) ?_;refine a0w s ?_;refine f _ ⟨j,q _ _ ?_⟩;simp only[List.length_drop,List.length_take];rw[l];omega
 refine a1N (fun _=>?_) (fun _=>?_)
 ·refine a0w (by simp;omega) ?_;refine f _ ⟨j,b.1,b.2.1,?_,fun r m=>?_⟩
  ·simp only[List.length_drop,List.length_take];have:=b.2.2.1;omega
  ·exact b.2.2.2 r (List.mem_of_mem_take (List.mem_of_mem_drop m))
 refine a1N (fun _=>f _ ⟨j,d2a.nil⟩) (fun _=>?_);refine a1N (fun _=>?_) (fun _=>?_)
 ·have m:=c8U (((),(),(),()),D.snd.fst,((),(),(),()),((),(),(),()),ws,a,e,()) j ⟨Q,R⟩ t b.2.2.2;refine a0w (a2v m) ?_;have d:=a2W (((),((),())),(([],(0,(0,()))),(((),((),((),()))),(((),((),((),()))),([],([],([],()))))))) m;change a0c (a9x _).2.1 /\ (a9x _).2.2.2.2.2.1=a /\ (a9x _).2.2.2.2.1.length<=14 /\ (a9x _).2.2.2.2.2.2.1.length<=14 /\ _ at d;refine f _ ⟨d.1,d.2.2.1,?_,d.2.2.2.1,d.2.2.2.2⟩;refine Nat.le_trans (Nat.le_of_eq ?_) b.2.1;exact congrArg length d.2.1
 refine a1N (fun _=>?_) (fun _=>?_)
 ·refine a0w s ?_;refine a0w K ?_;exact f _ ⟨j,b⟩
 refine a1N (fun _=>?_) (fun _=>f _ ⟨j,b⟩);refine a0w s ?_;have m:=c8V (((),(),B.fst.fst,((getD e (toNat B.fst.fst) (zero (Ty.slice Ty.jnk))).length:Int),0,()),D.snd.fst,((),(),(),()),((),(),(),()),ws,a,e,()) j
  (by show 0<=(B.fst.fst:Int) /\ (B.fst.fst:Int)<(e.length:Int);rw[t];exact v) rfl (by show((getD e (toNat B.fst.fst) (zero (Ty.slice Ty.jnk))).length:Int)<=22;rw[l];omega) rfl
 refine a0w (a2v m) ?_;have d:=a2W (((),((),())),(([],(0,(0,()))),(((),((),((),()))),(((),((),((),()))),([],([],([],()))))))) m;change a0c (b7g _).2.1 /\ (b7g _).2.2.2.2=(ws,a,e,())at d;have F:=congrArg (·.1) d.2;have G:=congrArg (·.2.1) d.2;have H:=congrArg (·.2.2.1) d.2;dsimp only at F G H;refine f _ ⟨d.1,?_⟩;dsimp only;rw[F,G,H];exact b
theorem f3c:Nonempty (Ch I78 (unO O78) p78 fun x y=>Q78 x (e8x O78 y)):=⟨⟨fun _=>((([],[],[],()),()),(e0c,())),fun _ _=>⟨a6j,d2a.nil⟩⟩⟩
theorem g4I:a2s Tryz.prog 78 (a3w true I78 (unO O78) p78 (fun x y=>Q78 x (e8x O78 y)) f3c):=
 e8z g4C (N:=N78 p141 Q141 e141) (a2K ⟨c8E,trivial⟩) h1Q a1p rfl (fun _=>rfl) (fun _=>rfl) (fun _=>rfl) f3b
abbrev a6k:Sg:=⟨[.ptr 0],[.box (a2L)]⟩
abbrev a6U:Sg:=⟨[.val (S27)],[.box (a2L)]⟩
def a4j (x:a6k.den):Bool:=d4C x.2.1
def d4M (p:List Nat×List Int×List (List Nat)×Unit):Prop:=p.1.length<=14 /\ p.2.1.length<=22 /\ p.2.2.1.length<=14 /\ ∀r∈p.2.2.1,r.length<=22
def a5J (x:a6k.den) (y:a6U.den):Prop:=a0c y.2.1 /\ d4M y.1.1
theorem b2y:Nonempty (Ch a6k a6U a4j a5J):=⟨⟨fun _=>((([],[],[],()),()),(e0c,())),fun _ _=>⟨a6j,zero_le _,zero_le _,zero_le _,fun _ h=>by cases h⟩⟩⟩
theorem e4g (x:I78.den) (y:a6U.den):Q78 x (e8x O78 y)↔a5J x y:=by
 obtain⟨⟨⟨ws,a,b,_⟩,_⟩,c,_⟩:=y;have d:∀r:List Nat,length (shp (.slice .jnk) r)=r.length:=fun r=>List.length_map _
 show a0c c /\ d2a (List.map (shp (.flt .f32)) ws) (List.map (shp (.int .i64)) a) (List.map (shp (.slice .jnk)) b)↔a0c c /\ (ws.length<=14 /\ a.length<=22 /\ b.length<=14 /\ ∀r∈b,r.length<=22);unfold d2a;simp only[List.length_map,List.mem_map,forall_exists_index,and_imp,forall_apply_eq_imp_iff₂,d]
theorem c8W {P:Program} {f:Nat} {own:Bool} {I O:Sg} {ok:I.den->Bool} {Q b:I.den->O.den->Prop} (e:∀x y,Q x y↔b x y) {c:Nonempty (Ch I O ok Q)} {a:Nonempty (Ch I O ok b)} (h:a2s P f (a3w own I O ok Q c)):a2s P f (a3w own I O ok b a):=by
 have e:Q=b:=funext fun x=>funext fun y=>propext (e x y)
 subst e;exact h
theorem e4h:a2s Tryz.prog 78 (a3w true a6k a6U a4j a5J b2y):=c8W (O:=a6U) e4g g4I
def amt (s:Nat):Nat:=bif flt .f32 s 0 then a3H .f32 s else s
theorem e0l (s:Nat):F94 (s,())=some (amt s,()):=by
 unfold F94 amt;cases flt .f32 s 0<;>rfl
theorem c8X (s:Nat):e7c (s,())=some (amt s,()):=by
 unfold e7c amt;cases flt .f32 s 0<;>rfl
def b4Y (s:Nat):Bool:=flt .f32 (amt s) 1120403456||feq .f32 (amt s) 1120403456
def a1O (c:Nat×Nat):Bool:=b4Y c.1&&b4Y c.2
theorem a4R (c:Nat×Nat):F45 (c,())=some (a1O c,()):=by
 unfold F45 a1O;have a:F94 (c.1,())=some (amt c.1,()):=e0l c.1;have b:F94 (c.2,())=some (amt c.2,()):=e0l c.2;simp only[K94,G94,a,b,isSome_some,getD_some,cond_true];show(bif b4Y c.1 then some (b4Y c.2,())else some (false,()))=_;cases b4Y c.1<;>rfl
theorem a4S (c:Nat×Nat):F52 (c,())=some (a1O c,()):=by
 unfold F52 a1O;have a:e7c (c.1,())=some (amt c.1,()):=c8X c.1;have b:e7c (c.2,())=some (amt c.2,()):=c8X c.2;simp only[f6t,f6u,a,b,isSome_some,getD_some,cond_true];show(bif b4Y c.1 then some (b4Y c.2,())else some (false,()))=_;cases b4Y c.1<;>rfl
def atV (l:List (Nat×Nat)) (i:Nat):Nat×Nat:=l.getD i (0,0)
def a5K (l:List (Nat×Nat)):Bool:=a0i (fun i=>a1O (atV l i)) 0 l.length
def a0l (x a b:Int):Bool:=decide (a<=x)&&decide (x<=b)
theorem a2P (x a b:Int):F44 (x,a,b,())=some (a0l x a b,()):=by
 unfold F44 a0l;show(bif decide (x ≥ a)then some (decide (x<=b),())else some (false,()))=_;show(bif decide (a<=x)then some (decide (x<=b),())else some (false,()))=_;cases decide (a<=x)<;>rfl
theorem a1F (x a b:Int):F51 (x,a,b,())=some (a0l x a b,()):=a2P x a b
theorem e7K:Ieee.double.signWeight=2^63:=by decide
theorem b7i:Ieee.double.infRung=2047*2^52:=by decide
theorem b7j:Ieee.double.binade=2^52:=by decide
theorem e4i:Ieee.double.leastPlace=-1074:=by decide
theorem g4J:Ieee.double.fractionBits=52:=by decide
theorem a5B (neg:Bool) (K e:Nat) (g:e*2^52+K<2047*2^52) (k:(e=0 /\ K<=2^53)∨(2^52<=K /\ K<=2^53)) :
 ∃(m:Nat) (c:Nat),Ieee.double.read (Ieee.double.word neg (e*2^52+K)) = .number neg m ((c:Int)-1074) /\ m*2^c=K*2^e:=by
 have i:Ieee.double.word neg (e*2^52+K)%Ieee.double.signWeight=e*2^52+K:=by
  unfold Ieee.Format.word;rw[e7K];split<;>omega
 have h:(Ieee.double.word neg (e*2^52+K)/Ieee.double.signWeight%2==1)=neg:=by
  unfold Ieee.Format.word;rw[e7K];cases neg
  ·rw[if_neg (by decide)];have:(e*2^52+K)/2^63=0:=Nat.div_eq_of_lt (by omega);rw[this];rfl
  ·rw[if_pos rfl];have:(2^63+(e*2^52+K))/2^63=1:=by omega
   rw[this];rfl
 unfold Ieee.Format.read;dsimp only;rw[i,h,b7j,b7i,e4i];by_cases d:e*2^52+K<2^52
 ·rw[if_pos d];have:e=0:=by omega
  subst this;exact⟨K,0,by simp,by simp⟩
 ·rw[if_neg d,if_pos g];by_cases j:K<2^52
  ·exfalso;omega
  by_cases f:K=2^53
  ·have a:(e*2^52+K)/2^52=e+2:=by omega
   have b:(e*2^52+K)%2^52=0:=by omega
   rw[a,b];refine⟨2^52,e+1,?_,?_⟩
   ·rw[show((-1074:Int)+((e+2-1:Nat):Int))=((e+1:Nat):Int)-1074 by omega,Nat.add_zero]
   ·rw[f,<- Nat.pow_add,<- Nat.pow_add];congr 1;omega
  ·have a:(e*2^52+K)/2^52=e+1:=by omega
   have b:(e*2^52+K)%2^52=K-2^52:=by omega
   rw[a,b];refine⟨K,e,?_,rfl⟩;rw[show((-1074:Int)+((e+1-1:Nat):Int))=((e:Nat):Int)-1074 by omega,show 2^52+(K-2^52)=K by omega]
def VU (s:Bool) (m c:Nat):Int:=if s then -((m*2^c:Nat):Int)else((m*2^c:Nat):Int)
def isD (b:Nat) (v:Int):Prop:=∃(s:Bool) (m c:Nat),Ieee.double.read b = .number s m ((c:Int)-1074) /\ v=VU s m c
theorem c0K (s:Bool) (m c d:Nat) (h:d<=c):Ieee.signed s m (c-d)*((2^d:Nat):Int)=VU s m c:=by
 have e:m*2^(c-d)*2^d=m*2^c:=by rw[Nat.mul_assoc,<- Nat.pow_add];congr 2;omega
 unfold Ieee.signed VU;rw[Nat.shiftLeft_eq];split
 ·rw[Int.neg_mul,<- Int.natCast_mul,e]
 ·rw[<- Int.natCast_mul,e]
theorem e4j (a b k:Int) (c:0<k):compare (a*k) (b*k)=compare a b:=by
 have d:a*k<b*k↔a<b:=Int.mul_lt_mul_right c;have e:b*k<a*k↔b<a:=Int.mul_lt_mul_right c;rw[Int.compare_eq_ite_lt,Int.compare_eq_ite_lt];simp only[d,e]
theorem e4k (s t:Bool) (m n c d:Nat):Ieee.Datum.order (.number s m ((c:Int)-1074)) (.number t n ((d:Int)-1074))=some (compare (VU s m c) (VU t n d)):=by
 unfold Ieee.Datum.order;dsimp only;have a:(((c:Int)-1074)-min ((c:Int)-1074) ((d:Int)-1074)).toNat=c-min c d:=by omega
 have b:(((d:Int)-1074)-min ((c:Int)-1074) ((d:Int)-1074)).toNat=d-min c d:=by omega
 rw[a,b,<- c0K s m c (min c d) (Nat.min_le_left _ _),<- c0K t n d (min c d) (Nat.min_le_right _ _),e4j];exact Int.natCast_pos.2 (Nat.two_pow_pos _)
theorem h1R {a b:Nat} {x y:Int} (g:isD a x) (h:isD b y):FloatKind.f64.format.order a b=some (compare x y):=by
 obtain⟨s,m,c,e,rfl⟩:=g;obtain⟨t,n,d,f,rfl⟩:=h;show(Ieee.double.read a).order (Ieee.double.read b)=_;rw[e,f];exact e4k s t m n c d
set_option exponentiation.threshold 2000
theorem d4N (neg:Bool) (M c v:Nat) (E:0<M) (h:M*2^c=v*2^1074) (m:v<2^53) :
 ∃K e:Nat,Ieee.double.nearest neg M ((c:Int)-1074)=Ieee.double.word neg (e*2^52+K) /\ e*2^52+K<2047*2^52 /\ ((e=0 /\ K<=2^53)∨(2^52<=K /\ K<=2^53)) /\ K*2^e=M*2^c:=by
 have n:2^M.log2<=M:=Nat.log2_self_le (by omega);have o:M<2^(M.log2+1):=Nat.lt_log2_self;have z:M.log2+c<1127:=by
  have p:2^(M.log2+c)<=M*2^c:=by rw[Nat.pow_add];exact Nat.mul_le_mul_right _ n
  have t:v*2^1074<2^(53+1074):=by
   rw[Nat.pow_add 2 53 1074];exact Nat.mul_lt_mul_of_pos_right m (Nat.two_pow_pos _)
  rw[<- h]at t;exact(Nat.pow_lt_pow_iff_right (a:=2) (by decide)).1 (Nat.lt_of_le_of_lt p t)
 unfold Ieee.Format.nearest;rw[if_neg (by omega),g4J,e4i,b7j,b7i];dsimp only;generalize y:M.log2=L at *;by_cases F:L<=52
 ·
  by_cases hd:L+c<52
  ·have b:max ((c:Int)-1074+(L:Int)-(52:Nat)) (-1074)=-1074:=by omega
   rw[b];have d:((c:Int)-1074 - -1074).toNat=c:=by omega
   have f:(-1074-((c:Int)-1074)).toNat=0:=by omega
   have g:((-1074:Int) - -1074).toNat=0:=by decide
   rw[d,f,g,a4v,Nat.shiftLeft_eq];have w:M*2^c<2^53:=by
    calc M*2^c<2^(L+1)*2^c:=Nat.mul_lt_mul_of_pos_right o (Nat.two_pow_pos _)
     _=2^(L+1+c):=by rw[<- Nat.pow_add]
     _<=2^53:=Nat.pow_le_pow_right (by decide) (by omega)
   have x:0*2^52+M*2^c<2047*2^52:=by rw[Nat.zero_mul,Nat.zero_add];exact Nat.lt_trans w (by decide)
   refine⟨M*2^c,0,?_,x,.inl ⟨Eq.refl 0,Nat.le_of_lt w⟩,?_⟩
   ·rw[Nat.min_eq_left (Nat.le_of_lt x)]
   ·rw[Nat.pow_zero,Nat.mul_one]
  ·have b:max ((c:Int)-1074+(L:Int)-(52:Nat)) (-1074)=(c:Int)-1074+(L:Int)-52:=by omega
   rw[b];have d:((c:Int)-1074-((c:Int)-1074+(L:Int)-52)).toNat=52-L:=by omega
   have f:(((c:Int)-1074+(L:Int)-52)-((c:Int)-1074)).toNat=0:=by omega
   have g:(((c:Int)-1074+(L:Int)-52) - -1074).toNat=c+L-52:=by omega
   rw[d,f,g,a4v,Nat.shiftLeft_eq];have r:M*2^(52-L)<2^53:=by
    calc M*2^(52-L)<2^(L+1)*2^(52-L):=Nat.mul_lt_mul_of_pos_right o (Nat.two_pow_pos _)
     _=2^(L+1+(52-L)):=by rw[<- Nat.pow_add]
     _=2^53:=by congr 1;omega
   have s:2^52<=M*2^(52-L):=by
    calc 2^52=2^(L+(52-L)):=by congr 1;omega
     _=2^L*2^(52-L):=by rw[<- Nat.pow_add]
     _<=M*2^(52-L):=Nat.mul_le_mul_right _ n
   have D:M*2^(52-L)*2^(c+L-52)=M*2^c:=by
    rw[Nat.mul_assoc,<- Nat.pow_add];congr 2;omega
   refine⟨M*2^(52-L),c+L-52,?_,by generalize M*2^(52-L)=q at *;clear n o;omega,.inr ⟨s,Nat.le_of_lt r⟩,D⟩;rw[Nat.min_eq_left (by omega)]
 ·
  have b:max ((c:Int)-1074+(L:Int)-(52:Nat)) (-1074)=(c:Int)-1074+(L:Int)-52:=by omega
  rw[b];have d:((c:Int)-1074-((c:Int)-1074+(L:Int)-52)).toNat=0:=by omega
  have f:(((c:Int)-1074+(L:Int)-52)-((c:Int)-1074)).toNat=L-52:=by omega
  have g:(((c:Int)-1074+(L:Int)-52) - -1074).toNat=c+L-52:=by omega
  rw[d,f,g,Nat.shiftLeft_zero];have k:2^(L-52) ∣ M:=by
   have p:2^(L-52)*2^c ∣ M*2^c:=by
    rw[h,<- Nat.pow_add];exact Nat.dvd_trans (Nat.pow_dvd_pow 2 (by omega)) (Nat.dvd_mul_left _ _)
   exact Nat.dvd_of_mul_dvd_mul_right (Nat.two_pow_pos c) p
  have l:M%2^(L-52)=0:=Nat.mod_eq_zero_of_dvd k;have u:0<2^(L-52):=Nat.two_pow_pos _;have i:Ieee.Toward.even.cut neg M (L-52)=M/2^(L-52):=by
   unfold Ieee.Toward.cut;dsimp only;rw[y,Nat.min_eq_left (by omega),Nat.one_shiftLeft,l];simp
  rw[i];have B:M/2^(L-52)<2^53:=by
   rw[Nat.div_lt_iff_lt_mul u,<- Nat.pow_add];have:53+(L-52)=L+1:=by omega
   rw[this];exact o
  have C:2^52<=M/2^(L-52):=by
   rw[Nat.le_div_iff_mul_le u,<- Nat.pow_add];have:52+(L-52)=L:=by omega
   rw[this];exact n
  have j:=Nat.div_add_mod M (2^(L-52));rw[l,Nat.add_zero]at j;generalize M/2^(L-52)=q at *;have A:2^(c+L-52)=2^(L-52)*2^c:=by
   rw[<- Nat.pow_add];congr 1;omega
  refine⟨q,c+L-52,?_,by omega,.inr ⟨by omega,by omega⟩,?_⟩
  ·rw[Nat.min_eq_left (by omega)]
  ·rw[A,<- Nat.mul_assoc,Nat.mul_comm q,j]
theorem f8a:Ieee.single.signWeight=2^31:=by decide
theorem d4O:Ieee.single.infRung=255*2^23:=by decide
theorem c8Y:Ieee.single.binade=2^23:=by decide
theorem f3d:Ieee.single.leastPlace=-149:=by decide
theorem g9j:Ieee.single.fractionBits=23:=by decide
def Sz (b:Nat) (N:Int):Prop:=∃s m e,Ieee.single.read b = .number s m e /\ (m.log2:Int)+e<=N /\ -149<=e
theorem Sz.mono {b:Nat} {N M:Int} (h:Sz b N) (f:N<=M):Sz b M:=by
 obtain⟨s,m,e,a,d,c⟩:=h;exact⟨s,m,e,a,by omega,c⟩
theorem c8Z {M k:Nat} (h:M<2^(k+1)):M.log2<=k:=by
 rcases Nat.eq_zero_or_pos M with b|b
 ·subst b;simp
 ·have:=Nat.log2_self_le (n:=M) (by omega);have c:=Nat.lt_of_le_of_lt this h;have:=(Nat.pow_lt_pow_iff_right (a:=2) (by decide)).1 c;omega
theorem c9a (neg:Bool) (M d k:Nat) (h:M<2^(k+d)):Ieee.Toward.even.cut neg M d<=2^k:=by
 unfold Ieee.Toward.cut;dsimp only;rw[Nat.one_shiftLeft];by_cases hd:d<=M.log2+2
 ·rw[Nat.min_eq_left hd];have a:M/2^d<2^k:=by rw[Nat.div_lt_iff_lt_mul (Nat.two_pow_pos _),<- Nat.pow_add];exact h
  generalize (decide (2^d<2*(M%2^d))||(2^d==2*(M%2^d)&&M/2^d%2==1))=b;cases b<;>simp<;>omega
 ·rw[Nat.min_eq_right (by omega)];have c:M<2^(M.log2+2):=Nat.lt_trans Nat.lt_log2_self (Nat.pow_lt_pow_right (by decide) (by omega));have a:M/2^(M.log2+2)=0:=Nat.div_eq_of_lt c;rw[a];have e:=Nat.two_pow_pos k;generalize (decide (2^(M.log2+2)<2*(M%2^(M.log2+2)))||(2^(M.log2+2)==2*(M%2^(M.log2+2))&&0%2==1))=b;cases b<;>simp<;>omega
theorem c9b (neg:Bool) (r:Nat) (h:r<255*2^23):Ieee.single.read (Ieee.single.word neg r)=if r<2^23 then .number neg r (-149)else .number neg (2^23+r%2^23) (-149+((r/2^23-1:Nat):Int)):=by
 have b:Ieee.single.word neg r%Ieee.single.signWeight=r:=by
  unfold Ieee.Format.word;rw[f8a];split<;>omega
 have a:(Ieee.single.word neg r/Ieee.single.signWeight%2==1)=neg:=by
  unfold Ieee.Format.word;rw[f8a];cases neg
  ·rw[if_neg (by decide)];have:r/2^31=0:=Nat.div_eq_of_lt (by omega);rw[this];rfl
  ·rw[if_pos rfl];have:(2^31+r)/2^31=1:=by omega
   rw[this];rfl
 unfold Ieee.Format.read;dsimp only;rw[b,a,c8Y,d4O,f3d];by_cases c:r<2^23
 ·rw[if_pos c,if_pos c]
 ·rw[if_neg c,if_neg c,if_pos h]
theorem e4l (neg:Bool) (M:Nat) (p N:Int) (h:(M.log2:Int)+p<=N) (s:N<=126) (g:-126<=N):Sz (Ieee.single.nearest neg M p) (N+1):=by
 have fin:∀r:Nat,(r:Int)<=(N+126)*2^23+2^24->Sz (Ieee.single.word neg r) (N+1):=by
  intro r t;have d:r<255*2^23:=by omega
  have:=c9b neg r d;by_cases c:r<2^23
  ·rw[if_pos c]at this;refine⟨_,_,_,this,?_,Int.le_refl _⟩;have:=c8Z (k:=22) c;omega
  ·rw[if_neg c]at this;refine⟨_,_,_,this,?_,by omega⟩;have f:(2^23+r%2^23).log2<=23:=c8Z (k:=23) (by have:=Nat.mod_lt r (show 2^23>0 by decide);omega);have o:((r/2^23:Nat):Int)<=N+128:=by omega
   omega
 unfold Ieee.Format.nearest;by_cases e:M=0
 ·rw[if_pos e];exact fin 0 (by omega)
 ·rw[if_neg e,g9j,f3d,c8Y,d4O];dsimp only;have n:M<2^(M.log2+1):=Nat.lt_log2_self;generalize q:M.log2=L at *;obtain⟨last,a⟩:∃last,last=max (p+(L:Int)-(23:Nat)) (-149):=⟨_,rfl⟩;rw[<- a];have j:p+(L:Int)-23<=last:=by omega
  have l:-149<=last:=by omega
  have m:last<=N-23:=by omega
  have b:Ieee.Toward.even.cut neg (M <<< (p-last).toNat) (last-p).toNat<=2^24:=by
   refine c9a _ _ _ 24 ?_;rw[Nat.shiftLeft_eq];have f:M*2^(p-last).toNat<2^(L+1+(p-last).toNat):=by rw[Nat.pow_add];exact Nat.mul_lt_mul_of_pos_right n (Nat.two_pow_pos _)
   exact Nat.lt_of_lt_of_le f (Nat.pow_le_pow_right (by decide) (by omega))
  generalize Ieee.Toward.even.cut neg (M <<< (p-last).toNat) (last-p).toNat=K at b;have i:(((last - -149).toNat*2^23+K:Nat):Int)<=(N+126)*2^23+2^24:=by omega
  exact fin _ (Int.le_trans (Int.ofNat_le.2 (Nat.min_le_left _ _)) i)
theorem c9c:Ieee.double.read 0 = .number false 0 (-1074):=by decide
def g9k (d:Ieee.Datum):Ieee.Datum:=match d with
 |.number _ m e => .number false m e
 |.infinity _ => .infinity false
 |.nan _ f => .nan false f
theorem c0L (a:Nat):Ieee.double.read (a%2^63)=g9k (Ieee.double.read a):=by
 unfold Ieee.Format.read;dsimp only;rw[e7K];have b:a%2^63%2^63=a%2^63:=Nat.mod_mod _ _;have c:(a%2^63/2^63%2==1)=false:=by
  have:a%2^63/2^63=0:=Nat.div_eq_of_lt (Nat.mod_lt _ (by decide));rw[this];rfl
 rw[b,c];split
 ·rfl
 ·split
  ·rfl
  ·split<;>rfl
theorem c0M (a:Nat):Ieee.double.read (a3H .f64 a)=(Ieee.double.read a).opposite:=by
 have f:a3H .f64 a=a ^^^ 2^63:=rfl;rw[f];unfold Ieee.Format.read;dsimp only;rw[e7K];have c:(a ^^^ 2^63)%2^63=a%2^63:=by rw[Nat.xor_mod_two_pow,Nat.mod_self,Nat.xor_zero]
 have d:((a ^^^ 2^63)/2^63%2==1)=!(a/2^63%2==1):=by
  rw[Nat.xor_div_two_pow,Nat.div_self (by decide)];have e:(a/2^63 ^^^ 1)%2=(a/2^63%2) ^^^ 1:=by
   have:=Nat.xor_mod_two_pow (a:=a/2^63) (b:=1) (n:=1);simpa using this
  rw[e];rcases Nat.mod_two_eq_zero_or_one (a/2^63)with h|h<;>rw[h]<;>rfl
 rw[c,d];split
 ·rfl
 ·split
  ·rfl
  ·split<;>rfl
def d2b (a:Nat):Nat:=bif flt .f64 a 0 then a3H .f64 a else a
theorem c9d (a c:Nat):FloatKind.f64.format.order (d2b a) c=FloatKind.f64.format.order (a%2^63) c:=by
 show(Ieee.double.read (d2b a)).order (Ieee.double.read c)=(Ieee.double.read (a%2^63)).order (Ieee.double.read c);rw[c0L];have g:flt .f64 a 0=((Ieee.double.read a).order (Ieee.double.read 0)==some .lt):=rfl;unfold d2b;rw[g,c9c];generalize Ieee.double.read c=d;cases hr:Ieee.double.read a with
 | nan s f =>
   have:((Ieee.Datum.nan s f).order (.number false 0 (-1074))==some Ordering.lt)=false:=rfl;rw[this,cond_false,hr];cases d<;>rfl
 | infinity s =>
   cases s with
   | true =>
     have:((Ieee.Datum.infinity true).order (.number false 0 (-1074))==some Ordering.lt)=true:=rfl;rw[this,cond_true,c0M,hr];rfl
   | false =>
     have:((Ieee.Datum.infinity false).order (.number false 0 (-1074))==some Ordering.lt)=false:=rfl;rw[this,cond_false,hr];rfl
 | number s m e =>
   cases s with
   | false =>
     have b:((Ieee.Datum.number false m e).order (.number false 0 (-1074))==some Ordering.lt)=false:=by
      unfold Ieee.Datum.order Ieee.signed;simp only[Bool.false_eq_true,if_false,Nat.zero_shiftLeft];have:∀x:Nat,(some (compare ((x:Nat):Int) ((0:Nat):Int))==some Ordering.lt)=false:=by
       intro x;rw[Int.compare_eq_ite_lt,if_neg (by omega)];split<;>rfl
      exact this _
     rw[b,cond_false,hr];rfl
   | true =>
     cases b:((Ieee.Datum.number true m e).order (.number false 0 (-1074))==some Ordering.lt)with
     |true=>rw[cond_true,c0M,hr];rfl
     | false =>
       rw[cond_false,hr];have i:m=0:=by
        unfold Ieee.Datum.order Ieee.signed at b;simp only[if_true,Bool.false_eq_true,if_false,Nat.zero_shiftLeft,Nat.shiftLeft_eq]at b;rcases Nat.eq_zero_or_pos m with h|h
        ·exact h
        ·exfalso;have k:=Nat.mul_pos h (Nat.two_pow_pos (e-min e (-1074)).toNat);rw[Int.compare_eq_ite_lt,if_pos (by omega)]at b;cases b
       subst i;unfold g9k;cases d with
       | number t n j =>
         unfold Ieee.Datum.order Ieee.signed;simp
       |infinity t=>rfl
       |nan t f=>rfl
def le8 (a:Nat):Bool:=flt .f64 a 4726483295884279808||feq .f64 a 4726483295884279808
theorem c9e (a:Nat):le8 (d2b a)=le8 (a%2^63):=by
 unfold le8 flt feq;rw[c9d]
def a3G (z:Nat×Nat):Bool:=le8 (z.1%2^63)&&le8 (z.2%2^63)
theorem a7O (z:Nat×Nat):F61 (z,())=some (a3G z,()):=by
 unfold F61 a3G;simp only[e8E,e8F,cond_true];show(bif le8 (z.1%2^63)then some (le8 (z.2%2^63),())else some (false,()))=_;cases le8 (z.1%2^63)<;>rfl
theorem c9f (a:Nat):e7b (a,())=some (d2b a,()):=by
 unfold e7b d2b;cases flt .f64 a 0<;>rfl
theorem a7P (z:Nat×Nat):F96 (z,())=some (a3G z,()):=by
 unfold F96 a3G;have a:e7b (z.1,())=some (d2b z.1,()):=c9f z.1;have b:e7b (z.2,())=some (d2b z.2,()):=c9f z.2;simp only[f6r,f6s,a,b,isSome_some,getD_some,cond_true];show(bif le8 (d2b z.1)then some (le8 (d2b z.2),())else some (false,()))=_;rw[c9e,c9e];cases le8 (z.1%2^63)<;>rfl
def p2 (e:Int):Rat:=(2:Rat)^e
theorem a0q (e:Int):0<p2 e:=Rat.zpow_pos (by decide)
theorem a0N (a b:Int):p2 (a+b)=p2 a*p2 b:=Rat.zpow_add (by decide) a b
theorem a0T (n:Nat):p2 (n:Int)=((2^n:Nat):Rat):=by
 unfold p2;rw[Rat.zpow_natCast,Rat.natCast_pow];rfl
theorem c2T (n:Nat):1<=p2 (n:Int):=by
 rw[a0T];have:1<=2^n:=Nat.one_le_two_pow
 exact_mod_cast this
theorem a8f {a b:Int} (h:a<=b):p2 a<=p2 b:=by
 have e:b=a+((b-a).toNat:Int):=by omega
 rw[e,a0N];have d:=c2T (b-a).toNat;have c:=a0q a;generalize p2 ((b-a).toNat:Int)=y at *;generalize p2 a=x at *;have:=Rat.mul_nonneg (Rat.le_of_lt c) (show 0<=y-1 by grind);grind
theorem a3z {a b:Int} (h:p2 a<p2 b):a<b:=by
 apply Classical.byContradiction;intro c;have:=a8f (show b<=a by omega);grind
theorem a2i (a:Int):p2 (a+1)=2*p2 a:=by
 rw[a0N];have:p2 1=2:=by unfold p2;rw[Rat.zpow_one]
 rw[this];grind
theorem a0e {a b:Nat} (h:a<=b):(a:Rat)<=(b:Rat):=Rat.natCast_le_natCast.2 h
theorem a0s {a b c:Rat} (h:a<=b) (d:0<=c):a*c<=b*c:=Rat.mul_le_mul_of_nonneg_right h d
theorem a2w (a:Nat):(0:Rat)<=(a:Rat):=by
 have:=a0e (zero_le a);simpa using this
def sgR (s:Bool):Rat:=if s then -1 else 1
def RV (s:Bool) (m:Nat) (e:Int):Rat:=sgR s*(m:Rat)*p2 e
def IsR (w:Nat) (q:Rat):Prop:=∃(s:Bool) (m:Nat) (e:Int),Ieee.double.read w = .number s m e /\ -1074<=e /\ q=RV s m e
def b0V (a b ε:Rat):Prop:=a<=b+ε /\ b<=a+ε
theorem c0N (neg:Bool) (N d:Nat):2*(Ieee.Toward.even.cut neg N d*2^d)<=2*N+2^d /\ 2*N<=2*(Ieee.Toward.even.cut neg N d*2^d)+2^d:=by
 unfold Ieee.Toward.cut;dsimp only;rw[Nat.one_shiftLeft];by_cases hd:d<=N.log2+2
 ·rw[Nat.min_eq_left hd];have c:=Nat.div_add_mod N (2^d);have e:=Nat.mod_lt N (Nat.two_pow_pos d);generalize a:(decide (2^d<2*(N%2^d))||(2^d==2*(N%2^d)&&N/2^d%2==1))=b;have i:b=true->2^d<=2*(N%2^d):=by
   intro h;rw[h]at a;simp only[Bool.or_eq_true,decide_eq_true_eq,and_eq_true,beq_iff_eq]at a;omega
  have j:b=false->2*(N%2^d)<=2^d:=by
   intro h;rw[h]at a;simp only[Bool.or_eq_false_iff,decide_eq_false_iff_not]at a;omega
  generalize 2^d=g at *;generalize N/g=q at *;generalize N%g=r at *;have k:q*g=g*q:=Nat.mul_comm _ _;cases b
  ·have:=j rfl;simp only[Bool.toNat_false,Nat.add_zero];omega
  ·have:=i rfl;simp only[Bool.toNat_true,Nat.add_mul,Nat.one_mul];omega
 ·rw[Nat.min_eq_right (by omega)];have l:N<2^(N.log2+1):=Nat.lt_log2_self;have f:2^(N.log2+2)=2*2^(N.log2+1):=by rw[Nat.pow_succ];omega
  have c:N/2^(N.log2+2)=0:=Nat.div_eq_of_lt (by omega);have e:N%2^(N.log2+2)=N:=Nat.mod_eq_of_lt (by omega);have m:2^(N.log2+2)<=2^d:=Nat.pow_le_pow_right (by decide) (by omega);rw[c,e];have:(decide (2^(N.log2+2)<2*N)||(2^(N.log2+2)==2*N&&0%2==1))=false:=by
   simp only[Bool.or_eq_false_iff,decide_eq_false_iff_not,Bool.and_eq_false_iff];exact⟨by omega,.inr rfl⟩
  rw[this];simp only[Bool.toNat_false,Nat.add_zero,Nat.zero_mul];omega
theorem e0m (neg:Bool) (N d k:Nat) (h:2^(k+d)<=N):2^k<=Ieee.Toward.even.cut neg N d:=by
 unfold Ieee.Toward.cut;dsimp only;rw[Nat.one_shiftLeft];have hd:d<=N.log2+2:=by
  have b:N<2^(N.log2+1):=Nat.lt_log2_self;have:=(Nat.pow_lt_pow_iff_right (a:=2) (by decide)).1 (Nat.lt_of_le_of_lt h b);omega
 rw[Nat.min_eq_left hd];have b:2^k<=N/2^d:=by rw[Nat.le_div_iff_mul_le (Nat.two_pow_pos _),<- Nat.pow_add];exact h
 exact Nat.le_trans b (Nat.le_add_right _ _)
theorem a6V (neg:Bool):IsR (Ieee.double.word neg 0) 0:=by
 refine⟨neg,0,-1074,?_,Int.le_refl _,?_⟩
 ·cases neg<;>decide
 ·unfold RV;grind
theorem d4P (neg:Bool) (M:Nat) (p B:Int) (w:M≠0) (T:(M.log2:Int)+p<=B) (R:-1022<=B) (S:B<=1022) :
 ∃r,IsR (Ieee.double.nearest neg M p) r /\ b0V r (RV neg M p) (p2 (B-53)):=by
 unfold Ieee.Format.nearest;rw[if_neg w,g4J,e4i,b7j,b7i];dsimp only;have N:2^M.log2<=M:=Nat.log2_self_le w;have O:M<2^(M.log2+1):=Nat.lt_log2_self;generalize U:M.log2=L at *;obtain⟨last,i⟩:∃last,last=max (p+(L:Int)-(52:Nat)) (-1074):=⟨_,rfl⟩;rw[<- i];have C:p+(L:Int)-52<=last:=by omega
 have D:-1074<=last:=by omega
 have E:last<=B-52:=by omega
 have F:last=p+(L:Int)-52∨last=-1074:=by omega
 obtain⟨up,v⟩:∃up,up=(p-last).toNat:=⟨_,rfl⟩;obtain⟨d,hd⟩:∃d,d=(last-p).toNat:=⟨_,rfl⟩;rw[<- v,<- hd,Nat.shiftLeft_eq];have j:Ieee.Toward.even.cut neg (M*2^up) d<=2^53:=by
  refine c9a _ _ _ 53 ?_;have:M*2^up<2^(L+1+up):=by rw[Nat.pow_add];exact Nat.mul_lt_mul_of_pos_right O (Nat.two_pow_pos _)
  exact Nat.lt_of_lt_of_le this (Nat.pow_le_pow_right (by decide) (by omega))
 have s:last ≠ -1074->2^52<=Ieee.Toward.even.cut neg (M*2^up) d:=by
  intro H;refine e0m _ _ _ 52 ?_;have:2^(L+up)<=M*2^up:=by rw[Nat.pow_add];exact Nat.mul_le_mul_right _ N
  exact Nat.le_trans (Nat.pow_le_pow_right (by decide) (by omega)) this
 have a:=c0N neg (M*2^up) d;have f:d=0->Ieee.Toward.even.cut neg (M*2^up) d=M*2^up:=fun e=>by rw[e,a4v]
 generalize Ieee.Toward.even.cut neg (M*2^up) d=K at *;obtain⟨e,A⟩:∃e,e=(last - -1074).toNat:=⟨_,rfl⟩;rw[<- A];have b:e*2^52+K<2047*2^52:=by omega
 rw[Nat.min_eq_left (Nat.le_of_lt b)];obtain⟨m,c,I,G⟩:=a5B neg K e b (by
  by_cases h:last=-1074
  ·exact .inl ⟨by omega,j⟩
  ·exact .inr ⟨s h,j⟩)
 refine⟨RV neg m ((c:Int)-1074),⟨neg,m,_,I,by omega,rfl⟩,?_⟩;have J:RV neg m ((c:Int)-1074)=sgR neg*(K:Rat)*p2 last:=by
  have l:(m:Rat)*p2 (c:Int)=(K:Rat)*p2 (e:Int):=by
   rw[a0T,a0T]
   exact_mod_cast congrArg (fun n:Nat=>(n:Rat)) G
  have o:last=(e:Int) + -1074:=by omega
  unfold RV;rw[o,Int.sub_eq_add_neg,a0N,a0N];grind
 rw[J];by_cases V:last<=p
 ·have q:d=0:=by omega
  have z:=f q;have l:RV neg M p=sgR neg*(K:Rat)*p2 last:=by
   unfold RV;have o:p=(up:Int)+last:=by omega
   rw[z,o,a0N,a0T,Rat.natCast_mul];grind
  rw[l];have:=a0q (B-53);constructor<;>grind
 ·have u:up=0:=by omega
  rw[u,Nat.pow_zero,Nat.mul_one]at a;have l:p2 last=((2^d:Nat):Rat)*p2 p:=by
   have:last=(d:Int)+p:=by omega
   rw[this,a0N,a0T]
  have y:=a0q p;have P:2*((K:Rat)*((2^d:Nat):Rat))<=2*(M:Rat)+((2^d:Nat):Rat):=by exact_mod_cast a0e a.1
  have Q:2*(M:Rat)<=2*((K:Rat)*((2^d:Nat):Rat))+((2^d:Nat):Rat):=by exact_mod_cast a0e a.2
  have m1:=a0s P (Rat.le_of_lt y);have W:=a0s Q (Rat.le_of_lt y);have x:p2 last<=2*p2 (B-53):=by
   rw[<- a2i];exact a8f (by omega)
  unfold RV;rw[l]at *;generalize ((2^d:Nat):Rat)=g at *;generalize (K:Rat)=k at *;generalize (M:Rat)=mm at *;generalize p2 (B-53)=ε at *;generalize p2 p=t at *;cases neg
  ·have:sgR false=1:=rfl;rw[this];constructor<;>grind
  ·have:sgR true=-1:=rfl;rw[this];constructor<;>grind
theorem a2X (s:Bool) (e:Int):RV s 0 e=0:=by unfold RV;grind
theorem c9g (s:Bool) (m:Nat) (e:Int) {b:Rat} (a:RV s m e<b) (c:-b<RV s m e):(m:Rat)*p2 e<b:=by
 unfold RV at a c;cases s
 ·have:sgR false=1:=rfl;rw[this]at a;grind
 ·have:sgR true=-1:=rfl;rw[this]at c;grind
theorem b2z (neg:Bool) (M:Nat) (p:Int) (B:Int) (d:-1022<=B) (e:B<=1022) (c:RV neg M p<p2 (B+1)) (b:-p2 (B+1)<RV neg M p) :
 ∃r,IsR (Ieee.double.nearest neg M p) r /\ b0V r (RV neg M p) (p2 (B-53)):=by
 by_cases a:M=0
 ·subst a;refine⟨0,?_,?_⟩
  ·unfold Ieee.Format.nearest;rw[if_pos rfl];exact a6V neg
  ·rw[a2X];have:=a0q (B-53);constructor<;>grind
 ·refine d4P neg M p B a ?_ d e;have g:=c9g neg M p c b;have f:((2^M.log2:Nat):Rat)<=(M:Rat):=a0e (Nat.log2_self_le a);have h:=a0s f (Rat.le_of_lt (a0q p));have:p2 ((M.log2:Int)+p)<p2 (B+1):=by
   rw[a0N,a0T];grind
  have:=a3z this;omega
theorem c9h (s t:Bool):sgR (s ^^ t)=sgR s*sgR t:=by cases s<;>cases t<;>decide +kernel
theorem e4m (s:Bool):sgR (!s)=-sgR s:=by cases s<;>decide +kernel
theorem a3O (s:Bool) (m:Nat) (e base:Int) (h:base<=e):((Ieee.signed s m (e-base).toNat:Int):Rat)*p2 base=RV s m e:=by
 unfold Ieee.signed RV;have a:e=((e-base).toNat:Int)+base:=by omega
 rw[Nat.shiftLeft_eq];have b:p2 e=((2^(e-base).toNat:Nat):Rat)*p2 base:=by
  have:=a0N ((e-base).toNat:Int) base;rw[<- a,a0T]at this;exact this
 rw[b];cases s
 ·have:sgR false=1:=rfl;rw[this,if_neg (by decide),Rat.intCast_natCast,Rat.natCast_mul];grind
 ·have:sgR true=-1:=rfl;rw[this,if_pos rfl,Rat.intCast_neg,Rat.intCast_natCast,Rat.natCast_mul];grind
theorem h1S (s t:Bool) (m n:Nat) (e f:Int) (B:Int) (k:-1022<=B) (l:B<=1022) (b:RV s m e+RV t n f<p2 (B+1)) (a:-p2 (B+1)<RV s m e+RV t n f) :
 ∃w r,(Ieee.Datum.sum (.number s m e) (.number t n f)).map Ieee.double.write=some w /\ IsR w r /\ b0V r (RV s m e+RV t n f) (p2 (B-53)):=by
 unfold Ieee.Datum.sum;dsimp only;have q:=a3O s m e (min e f) (by omega);have u:=a3O t n f (min e f) (by omega);generalize p:Ieee.signed s m (e-min e f).toNat+Ieee.signed t n (f-min e f).toNat=T;have d:((T:Int):Rat)*p2 (min e f)=RV s m e+RV t n f:=by
  rw[<- p,Rat.intCast_add,<- q,<- u];grind
 have j:RV (if T=0 then s&&t else decide (T<0)) T.natAbs (min e f)=RV s m e+RV t n f:=by
  rw[<- d];unfold RV;by_cases g:T=0
  ·subst g;simp[Rat.mul_zero,Rat.zero_mul]
  ·rw[if_neg g];by_cases h:T<0
   ·have c:((T:Int):Rat)=-((T.natAbs:Nat):Rat):=by
     rw[<- Rat.intCast_natCast,<- Rat.intCast_neg];congr 1;omega
    rw[c];simp only[h,decide_true];have:sgR true=-1:=rfl;rw[this];grind
   ·have c:((T:Int):Rat)=((T.natAbs:Nat):Rat):=by
     rw[<- Rat.intCast_natCast];congr 1;omega
    rw[c];simp only[h,decide_false];have:sgR false=1:=rfl;rw[this];grind
 rw[<- j]at b a;obtain⟨r,o,i⟩:=b2z _ _ _ B k l b a;rw[j]at i;exact⟨_,r,rfl,o,i⟩
theorem h1T {a b:Nat} {x y:Rat} (p:IsR a x) (q:IsR b y) (B:Int) (i:-1022<=B) (j:B<=1022) (d:x+y<p2 (B+1)) (c:-p2 (B+1)<x+y) :
 ∃r,IsR (a0a .add .f64 a b) r /\ b0V r (x+y) (p2 (B-53)):=by
 obtain⟨s,m,e,u,v,rfl⟩:=p;obtain⟨t,n,f,g,z,rfl⟩:=q;obtain⟨w,r,k,l,o⟩:=h1S s t m n e f B i j d c;have h:a0a .add .f64 a b=(((Ieee.double.read a).sum (Ieee.double.read b)).map Ieee.double.write).getD (qn .f64):=rfl;rw[h,u,g,k];exact⟨r,l,o⟩
theorem e0n (s:Bool) (m:Nat) (e:Int):RV (!s) m e=-RV s m e:=by
 unfold RV;rw[e4m];grind
theorem c9i {w:Nat} {q:Rat} (h:IsR w q):∃v:Int,isD w v /\ q=(v:Rat)*p2 (-1074):=by
 obtain⟨s,m,e,b,d,rfl⟩:=h;obtain⟨c,a⟩:∃c:Nat,e=(c:Int)-1074:=⟨(e+1074).toNat,by omega⟩;subst a;refine⟨VU s m c,⟨s,m,c,b,rfl⟩,?_⟩;unfold RV VU;rw[Int.sub_eq_add_neg,a0N,a0T];cases s
 ·have:sgR false=1:=rfl;rw[this,if_neg (by decide),Rat.intCast_natCast,Rat.natCast_mul];grind
 ·have:sgR true=-1:=rfl;rw[this,if_pos rfl,Rat.intCast_neg,Rat.intCast_natCast,Rat.natCast_mul];grind
theorem e4n {v w:Int}:(v:Rat)*p2 (-1074)<(w:Rat)*p2 (-1074)↔v<w:=by
 have a:=a0q (-1074);constructor
 ·intro h;apply Classical.byContradiction;intro b;have:(w:Rat)<=(v:Rat):=Rat.intCast_le_intCast.2 (by omega);have:=a0s this (Rat.le_of_lt a);grind
 ·intro h;have:(v:Rat)<(w:Rat):=Rat.intCast_lt_intCast.2 h;exact Rat.mul_lt_mul_of_pos_right this a
theorem f3e {a b:Nat} {x y:Rat} (e:IsR a x) (f:IsR b y):FloatKind.f64.format.order a b=some (if x<y then .lt else if y<x then .gt else .eq):=by
 obtain⟨v,c,rfl⟩:=c9i e;obtain⟨w,d,rfl⟩:=c9i f;rw[h1R c d];simp only[e4n];congr 1;rw[Int.compare_eq_ite_lt]
theorem f8b {a b:Nat} {x y:Rat} (d:IsR a x) (e:IsR b y):flt .f64 a b=decide (x<y):=by
 unfold flt;rw[f3e d e];by_cases h:x<y
 ·simp[h]
 ·by_cases c:y<x<;>simp[h,c]
theorem g4K {a b:Nat} {x y:Rat} (d:IsR a x) (e:IsR b y):fgt .f64 a b=decide (y<x):=by
 unfold fgt;rw[f3e d e];by_cases h:x<y
 ·have:¬y<x:=by grind
  simp[h,this]
 ·by_cases c:y<x<;>simp[h,c]
theorem e7L {a b:Nat} {x y:Rat} (d:IsR a x) (e:IsR b y):feq .f64 a b=decide (x=y):=by
 unfold feq;rw[f3e d e];by_cases h:x<y
 ·have:¬x=y:=by grind
  simp[h,this]
 ·by_cases c:y<x
  ·have:¬x=y:=by grind
   simp[h,c,this]
  ·have:x=y:=by grind
   simp[this]
abbrev a5C:Type:=List Nat×List Int×List (List Nat)×Unit
def wAt (p:a5C) (i:Nat):Nat:=p.1.getD i 0
def aAt (p:a5C) (i:Nat):Int:=p.2.1.getD i 0
def rAt (p:a5C) (i:Nat):List Nat:=p.2.2.1.getD i []
def fle (x c:Nat):Bool:=flt .f32 x c||feq .f32 x c
def fge (x c:Nat):Bool:=fgt .f32 x c||feq .f32 x c
def a2j (x:Nat):Bool:=fge x 0&&fle x 1112014848
def a6W (l:List Nat):Bool:=a0i (fun j=>a2j (l.getD j 0)) 0 l.length
def a3A (p:a5C) (i:Nat):Bool:=fgt .f32 (wAt p i) 0&&fle (wAt p i) 1120403456&&(decide (i=0)||fgt .f32 (wAt p i) (wAt p (i-1)))
def c2U (p:a5C) (i:Nat):Bool:=decide (i=0)||decide (aAt p (i-1)<aAt p i)
def d2c (p:a5C) (i:Nat):Bool:=decide ((rAt p i).length=p.2.1.length)&&a6W (rAt p i)
def a2k (p:a5C):Bool:=a0l (p.1.length:Int) 1 12&&(a0l (p.2.1.length:Int) 2 24&&(decide (p.2.2.1.length=p.1.length)&&(a0i (a3A p) 0 p.1.length &&
 (a0i (c2U p) 0 p.2.1.length&&(aAt p 0==0&&(aAt p (p.2.1.length-1)==180&&a0i (d2c p) 0 p.2.2.1.length))))))
theorem b7k (x:Nat):f0S (x,())=some (a2j x,()):=by
 unfold f0S a2j;show(bif fge x 0 then some (fle x 1112014848,())else some (false,()))=_;cases fge x 0<;>rfl
theorem e4o (x:Nat):f0T (x,())=some (!a2j x,()):=by
 unfold f0T;have e:f0S (x,())=some (a2j x,()):=b7k x;simp only[e3q,e3r,e,isSome_some,getD_some,cond_true]
theorem d2d (k:Nat) (a:0<k) (h:k<9223372036854775807):wrap IntKind.i64 ((k:Int)-1)=((k-1:Nat):Int):=by rw[w64 (by omega) (by omega)];omega
theorem e4p (l:List Nat) (h:l.length<=1000):f0V ((l,(),()),())=some ((!a6W l,()),()):=by
 have u:b0K ((l,(),(l.length:Int),(0:Int),()),())=some (match a0r (fun j=>!a2j (l.getD j 0)) 0 l.length with|some j => .inr (((j:Int),()),())|none => .inl ((),())):=by
  refine(a4g (q:=b4p) (fun k=>((l,(),(l.length:Int),(k:Int),()),())) l.length (fun j=>!a2j (l.getD j 0)) (.inl ((),())) (fun j => .inr (((j:Int),()),())) ?_ ?_ (b9G ((l,(),(l.length:Int),(0:Int),()),())) ?_:_)
  ·intro k f t;unfold b4p;have e:decide ((k:Int)<(l.length:Int))=true:=by simpa using t
   have g:decide (0<=(k:Int))=true:=by simp
   have r:getD l k (zero (Ty.flt FloatKind.f32))=l.getD k 0:=rfl;have i:f0T (l.getD k 0,())=some (!a2j (l.getD k 0),()):=e4o _;simp only[a1Z k (by omega),e,g,Bool.and_self,cond_true,toNat_natCast,r,g1L,g1M,i,isSome_some,getD_some]
  ·intro f;unfold b4p;simp
  ·simp only[b9G];omega
 have d:f6X ((l,(),()),())=some ((match a0r (fun j=>!a2j (l.getD j 0)) 0 l.length with|none=>(-1:Int)|some j=>(j:Int),()),()):=by
  unfold f6X;simp only[c6X,c6Y,c6Z,u,isSome_some,cond_true];cases a0r (fun j=>!a2j (l.getD j 0)) 0 l.length<;>rfl
 unfold f0V;simp only[g1P,g1Q,d,isSome_some,getD_some,cond_true];unfold a6W;cases hf:a0r (fun j=>!a2j (l.getD j 0)) 0 l.length with
 | none =>
   have c:a0i (fun j=>a2j (l.getD j 0)) 0 l.length=true:=a0u.2 fun j m s=>by
    have:=a1o.1 hf j m s;simpa using this
   rw[c];rfl
 | some j =>
   obtain⟨c,n,o,_⟩:=a0X hf;have p:a0i (fun j=>a2j (l.getD j 0)) 0 l.length=false:=by
    rw[Bool.eq_false_iff];intro v;have:=a0u.1 v j c n;have a:(!a2j (l.getD j 0))=true:=o;rw[this]at a;cases a
   rw[p];have:decide ((j:Int) ≥ 0)=true:=by simp
   exact congrArg (fun b:Bool=>some ((b,()),())) this
theorem e0o (p:a5C):F90 (p,())=some (a2k p,()):=by
 unfold F90 a2k;have D:F44 ((p.1.length:Int),1,12,())=some (a0l (p.1.length:Int) 1 12,()):=a2P _ _ _;have E:F44 ((p.2.1.length:Int),2,24,())=some (a0l (p.2.1.length:Int) 2 24,()):=a2P _ _ _;simp only[K44,G44,D,E,isSome_some,getD_some,cond_true];cases h1:a0l (p.1.length:Int) 1 12
 ·rfl
 cases h2:a0l (p.2.1.length:Int) 2 24
 ·rfl
 simp only[a0l,and_eq_true,decide_eq_true_eq]at h1 h2;by_cases w:p.2.2.1.length=p.1.length
 rotate_left
 ·have a:((p.2.2.1.length:Int) != (p.1.length:Int))=true:=by simp;omega
  have b:decide (p.2.2.1.length=p.1.length)=false:=by simpa using w
  rw[a,b];rfl
 have a:((p.2.2.1.length:Int) != (p.1.length:Int))=false:=by simp;omega
 have b:decide (p.2.2.1.length=p.1.length)=true:=by simpa using w
 rw[a,b];have v:c2I (((),p.1,(p.1.length:Int),(0:Int),()),(p,()))=some (bif a0i (a3A p) 0 p.1.length then .inl (((),()),(p,()))else .inr ((false,()),())):=by
  refine(a0M (q:=c7j) (fun k=>(((),p.1,(p.1.length:Int),(k:Int),()),(p,()))) p.1.length (a3A p) _ _ ?_ ?_ _ ?_:_)
  ·intro k f n;unfold c7j a3A;have a:decide ((k:Int)<(p.1.length:Int))=true:=by simpa using n
   have b:decide (0<=(k:Int))=true:=by simp
   have i:getD p.1 k (zero (Ty.flt FloatKind.f32))=wAt p k:=rfl;simp only[a1Z k (by omega),a,b,Bool.and_self,cond_true,toNat_natCast,i];show(bif fgt .f32 (wAt p k) 0 then bif !fle (wAt p k) 1120403456 then _ else _ else _)=_;cases fgt .f32 (wAt p k) 0
   ·rfl
   cases fle (wAt p k) 1120403456
   ·rfl
   simp only[Bool.not_true,cond_false,cond_true,Bool.true_and];by_cases l:k=0
   ·subst l;simp
   ·have c:decide ((k:Int)>0)=true:=by simp;omega
    have d:decide (0<=((k-1:Nat):Int))=true:=by simp
    have e:decide (((k-1:Nat):Int)<(p.1.length:Int))=true:=by simp;omega
    have g:decide (k=0)=false:=by simpa using l
    have m:getD p.1 (k-1) (zero (Ty.flt FloatKind.f32))=wAt p (k-1):=rfl;simp only[c,d2d k (by omega) (by omega),d,e,Bool.and_self,cond_true,toNat_natCast,m,g,Bool.false_or];cases fgt .f32 (wAt p k) (wAt p (k-1))<;>rfl
  ·intro f;unfold c7j;simp
  ·simp only[e3s];omega
 simp only[d8y,d8z,d8B,d8A,v,isSome_some,cond_true,cond_false,Bool.true_and];cases a0i (a3A p) 0 p.1.length
 ·rfl
 simp only[cond_true,isR,xOf,cond_false,Bool.true_and];have o:b0M (((),p.2.1,(p.2.1.length:Int),(0:Int),()),(p,()))=some (bif a0i (c2U p) 0 p.2.1.length then .inl (((),()),(p,()))else .inr ((false,()),())):=by
  refine(a0M (q:=b4r) (fun k=>(((),p.2.1,(p.2.1.length:Int),(k:Int),()),(p,()))) p.2.1.length (c2U p) _ _ ?_ ?_ _ ?_:_)
  ·intro k f n;unfold b4r c2U;have a:decide ((k:Int)<(p.2.1.length:Int))=true:=by simpa using n
   have b:decide (0<=(k:Int))=true:=by simp
   have i:getD p.2.1 k (zero (Ty.int IntKind.i64))=aAt p k:=rfl;simp only[a1Z k (by omega),a,b,Bool.and_self,cond_true,toNat_natCast,i];by_cases l:k=0
   ·subst l;simp
   ·have c:decide ((k:Int)>0)=true:=by simp;omega
    have d:decide (0<=((k-1:Nat):Int))=true:=by simp
    have e:decide (((k-1:Nat):Int)<(p.2.1.length:Int))=true:=by simp;omega
    have g:decide (k=0)=false:=by simpa using l
    have m:getD p.2.1 (k-1) (zero (Ty.int IntKind.i64))=aAt p (k-1):=rfl;simp only[c,d2d k (by omega) (by omega),d,e,Bool.and_self,cond_true,toNat_natCast,m,g,Bool.false_or];have j:decide (aAt p k<=aAt p (k-1))=!decide (aAt p (k-1)<aAt p k):=by
     by_cases h:aAt p (k-1)<aAt p k
     ·simp[h]
     ·simp[h];omega
    rw[j];cases decide (aAt p (k-1)<aAt p k)<;>rfl
  ·intro f;unfold b4r;simp
  ·simp only[c7e];omega
 simp only[c7f,c7g,c7i,c7h,o,isSome_some,cond_true,cond_false];cases a0i (c2U p) 0 p.2.1.length
 ·rfl
 simp only[cond_true,isR,xOf,cond_false,Bool.true_and];have z:(decide (0<=0)&&decide ((0:Int)<(length (α:=Den (Ty.int IntKind.i64)) p.2.1:Int)))=true:=by
  have:(0:Int)<(p.2.1.length:Int):=by omega
  exact(decide_eq_true this:_)
 have A:wrap IntKind.i64 ((length (α:=Den (Ty.int IntKind.i64)) p.2.1:Int)-1)=((length (α:=Den (Ty.int IntKind.i64)) p.2.1-1:Nat):Int):=d2d _ (by omega) (by omega);have B:decide (((length (α:=Den (Ty.int IntKind.i64)) p.2.1-1:Nat):Int)<(length (α:=Den (Ty.int IntKind.i64)) p.2.1:Int))=true:=by simp;omega
 have C:decide (0<=((length (α:=Den (Ty.int IntKind.i64)) p.2.1-1:Nat):Int))=true:=by simp
 have i:getD p.2.1 0 (zero (Ty.int IntKind.i64))=aAt p 0:=rfl;have m:getD p.2.1 (p.2.1.length-1) (zero (Ty.int IntKind.i64))=aAt p (p.2.1.length-1):=rfl
 erw [z]
 simp only[A,B,C,toNat_natCast,Int.toNat_zero,i,m,Bool.and_self,Bool.not_true,cond_false,cond_true];by_cases s:aAt p 0=0
 rotate_left
 ·have e:(aAt p 0 != 0)=true:=by simpa using s
  have g:(aAt p 0==0)=false:=by simpa using s
  rw[e,g];rfl
 have e:(aAt p 0 != 0)=false:=by simpa using s
 have g:(aAt p 0==0)=true:=by simpa using s
 rw[e,g];by_cases t:aAt p (p.2.1.length-1)=180
 rotate_left
 ·have j:(aAt p (p.2.1.length-1) != 180)=true:=by simpa using t
  have u:(aAt p (p.2.1.length-1)==180)=false:=by simpa using t
  rw[j,u];rfl
 have j:(aAt p (p.2.1.length-1) != 180)=false:=by simpa using t
 have u:(aAt p (p.2.1.length-1)==180)=true:=by simpa using t
 rw[j,u];have r:b0L (((),p.2.2.1,(p.2.2.1.length:Int),(0:Int),()),(p,()))=some (bif a0i (d2c p) 0 p.2.2.1.length then .inl ((),())else .inr ((false,()),())):=by
  refine(a0M (q:=b4q) (fun k=>(((),p.2.2.1,(p.2.2.1.length:Int),(k:Int),()),(p,()))) p.2.2.1.length (d2c p) _ _ ?_ ?_ _ ?_:_)
  ·intro k f n;unfold b4q d2c;have a:decide ((k:Int)<(p.2.2.1.length:Int))=true:=by simpa using n
   have b:decide (0<=(k:Int))=true:=by simp
   have i:getD p.2.2.1 k (zero (Ty.slice (Ty.flt FloatKind.f32)))=rAt p k:=rfl;simp only[a1Z k (by omega),a,b,Bool.and_self,cond_true,toNat_natCast,i];by_cases x:(rAt p k).length=p.2.1.length
   ·have c:(((rAt p k).length:Int) != (p.2.1.length:Int))=false:=by simp;omega
    have d:decide ((rAt p k).length=p.2.1.length)=true:=by simpa using x
    have y:f0V ((rAt p k,(),()),())=some ((!a6W (rAt p k),()),()):=e4p _ (by omega);rw[c,d];simp only[cond_false,g1T,g1U,y,isSome_some,getD_some,cond_true,Bool.true_and];cases a6W (rAt p k)<;>rfl
   ·have c:(((rAt p k).length:Int) != (p.2.1.length:Int))=true:=by simp;omega
    have d:decide ((rAt p k).length=p.2.1.length)=false:=by simpa using x
    rw[c,d];rfl
  ·intro f;unfold b4q;simp
  ·simp only[c7a];omega
 simp only[c7b,c7c,c7d,r,isSome_some,cond_true,cond_false,Bool.true_and];cases a0i (d2c p) 0 p.2.2.1.length<;>rfl
theorem c2V {x y:Nat} (l:fgt .f32 x 0=true) (i:fle x 1120403456=true) (p:fgt .f32 y 0=true) (j:fle y 1120403456=true):fle x y=!fgt .f32 x y:=by
 unfold fle flt feq fgt at *;have num:∀z:Nat,(FloatKind.f32.format.order z 0==some .gt)=true->((FloatKind.f32.format.order z 1120403456==some .lt)||(FloatKind.f32.format.order z 1120403456==some .eq))=true->∃s m e,Ieee.single.read z = .number s m e:=by
  intro z g d;have q:FloatKind.f32.format.order z 1120403456=(Ieee.single.read z).order (Ieee.single.read 1120403456):=rfl;have u:∃s m e,Ieee.single.read 1120403456 = .number s m e:=⟨false,13107200,-17,by decide +kernel⟩;have r:FloatKind.f32.format.order z 0=(Ieee.single.read z).order (Ieee.single.read 0):=rfl;have v:∃s m e,Ieee.single.read 0 = .number s m e:=⟨false,0,-149,by decide +kernel⟩;obtain⟨s,m,e,k⟩:=u;obtain⟨s2,A,w,h⟩:=v;rw[q,k]at d;rw[r,h]at g;cases hz:Ieee.single.read z with
  |number a b c=>exact⟨a,b,c,rfl⟩
  |nan a b=>rw[hz]at d;simp[Ieee.Datum.order]at d
  | infinity a =>
    rw[hz]at g d;cases a<;>simp[Ieee.Datum.order]at g d
 obtain⟨s,m,e,g⟩:=num x l i;obtain⟨t,n,f,d⟩:=num y p j;have o:FloatKind.f32.format.order x y=(Ieee.single.read x).order (Ieee.single.read y):=rfl;rw[o,g,d];unfold Ieee.Datum.order;dsimp only;generalize compare (α:=Int) _ _=c;cases c<;>rfl
def a5L (p:a5C) (i:Nat):Bool:=a3A p i&&d2c p i
theorem e0p (p:a5C):F99 (p,())=some (a2k p,()):=by
 unfold F99;have U:F51 ((p.1.length:Int),1,12,())=some (a0l (p.1.length:Int) 1 12,()):=a1F _ _ _;have V:F51 ((p.2.1.length:Int),2,24,())=some (a0l (p.2.1.length:Int) 2 24,()):=a1F _ _ _;simp only[K51,G51,U,V,isSome_some,getD_some,cond_true];unfold a2k;cases h1:a0l (p.1.length:Int) 1 12
 ·rfl
 cases h2:a0l (p.2.1.length:Int) 2 24
 ·rfl
 simp only[a0l,and_eq_true,decide_eq_true_eq]at h1 h2;by_cases E:p.2.2.1.length=p.1.length
 rotate_left
 ·have b:((p.2.2.1.length:Int) != (p.1.length:Int))=true:=by simp;omega
  have d:decide (p.2.2.1.length=p.1.length)=false:=by simpa using E
  rw[b,d];rfl
 have b:((p.2.2.1.length:Int) != (p.1.length:Int))=false:=by simp;omega
 have d:decide (p.2.2.1.length=p.1.length)=true:=by simpa using E
 rw[b,d];have J:∀k,k<p.1.length->(rAt p k).length<=24->c2D (((),(k:Int),(0:Int),()),(p,()))=some (bif a6W (rAt p k)then .inl (((),(k:Int),()),(p,()))else .inr ((false,()),())):=by
  intro k H D;refine(a0M (q:=c5y) (fun j=>(((),(k:Int),(j:Int),()),(p,()))) (rAt p k).length (fun j=>a2j ((rAt p k).getD j 0)) _ _ ?_ ?_ _ ?_:_)
  ·intro j f g;unfold c5y a2j;have b:decide ((k:Int)<(p.2.2.1.length:Int))=true:=by simp;omega
   have d:decide (0<=(k:Int))=true:=by simp
   have i:decide ((j:Int)<((rAt p k).length:Int))=true:=by simpa using g
   have l:decide (0<=(j:Int))=true:=by simp
   have o:getD p.2.2.1 k (zero (Ty.slice (Ty.flt FloatKind.f32)))=rAt p k:=rfl;have t:getD (rAt p k) j (zero (Ty.flt FloatKind.f32))=(rAt p k).getD j 0:=rfl;simp only[a1Z j (by omega),b,d,Bool.and_self,cond_true,toNat_natCast,o,i,l,t];show(bif fge ((rAt p k).getD j 0) 0 then bif !fle ((rAt p k).getD j 0) 1112014848 then _ else _ else _)=_;cases fge ((rAt p k).getD j 0) 0
   ·rfl
   cases fle ((rAt p k).getD j 0) 1112014848<;>rfl
  ·intro f;unfold c5y;have b:decide ((k:Int)<(p.2.2.1.length:Int))=true:=by simp;omega
   have d:decide (0<=(k:Int))=true:=by simp
   have o:getD p.2.2.1 k (zero (Ty.slice (Ty.flt FloatKind.f32)))=rAt p k:=rfl;simp only[b,d,Bool.and_self,cond_true,toNat_natCast,o,Int.lt_irrefl,decide_false,cond_false]
  ·simp only[e2G];have:(rAt p k).length<=24:=D;omega
 have I : c2E (((),(0:Int),()),(p,()))=some (bif a0i (a5L p) 0 p.1.length then .inl (((),()),(p,()))else .inr ((false,()),())):=by
  have K:∀(n k:Nat),k+n=p.1.length->a0i (a3A p) 0 k=true->∀m,n<m->a0F (b2f) m (((),(k:Int),()),(p,()))=some (bif a0i (a5L p) k n then .inl (((),()),(p,()))else .inr ((false,()),())):=by
   intro n
   induction n with
   | zero =>
     intro k H _ m S;cases m with
     |zero=>omega
     | succ m =>
       show b2f _ _=_;have:k=p.1.length:=by omega
       unfold b2f;simp only[this,Int.lt_irrefl,decide_false,cond_false];rfl
   | succ n W =>
     intro k H M m S;cases m with
     |zero=>omega
     | succ m =>
       show b2f (a0F (b2f) m) _=_;have b:decide ((k:Int)<(p.1.length:Int))=true:=by simp;omega
       have B:decide ((k:Int)<(p.2.2.1.length:Int))=true:=by simp;omega
       have d:decide (0<=(k:Int))=true:=by simp
       have o:getD p.1 k (zero (Ty.flt FloatKind.f32))=wAt p k:=rfl;have T:getD p.2.2.1 k (zero (Ty.slice (Ty.flt FloatKind.f32)))=rAt p k:=rfl;have e:a0i (a5L p) k (n+1)=bif a5L p k then a0i (a5L p) (k+1) n else false:=by
        show(a5L p k&&a0i (a5L p) (k+1) n)=_;cases a5L p k<;>rfl
       have u:a3A p k=true->a0i (a3A p) 0 (k+1)=true:=by
        intro h;refine a0u.2 fun j a g=>?_
        by_cases c:j=k
        ·rw[c];exact h
        ·exact a0u.1 M j a (by omega)
       have s:a3A p k=true->(bif (((rAt p k).length:Int) != (p.2.1.length:Int))then some (Sum.inr ((false,()),()))else
        bif b8Q (((),(k:Int),0,()),(p,()))then bif b8R (((),(k:Int),0,()),(p,()))then some (Sum.inr (((b8S (((),(k:Int),0,()),(p,()))).1.1,()),()))
        else a0F (b2f) m (((),wrap IntKind.i64 ((b3S (((),(k:Int),0,()),(p,()))).1.2.1+1),()),((b3S (((),(k:Int),0,()),(p,()))).2.1,()))else none) =
        some (bif a0i (a5L p) k (n+1)then .inl (((),()),(p,()))else .inr ((false,()),())):=by
        intro z;rw[e];unfold a5L d2c;rw[z];by_cases L:(rAt p k).length=p.2.1.length
        ·have i:(((rAt p k).length:Int) != (p.2.1.length:Int))=false:=by simp;omega
         have l:decide ((rAt p k).length=p.2.1.length)=true:=by simpa using L
         have F:=J k (by omega) (by omega);rw[i,l];simp only[cond_false,b8Q,b8R,b3S,b8S,F,isSome_some,cond_true,Bool.true_and];cases a6W (rAt p k)
         ·rfl
         ·simp only[cond_true,isR,xOf,cond_false,a1Z k (by omega)];exact W (k+1) (by omega) (u z) m (by omega)
        ·have i:(((rAt p k).length:Int) != (p.2.1.length:Int))=true:=by simp;omega
         have l:decide ((rAt p k).length=p.2.1.length)=false:=by simpa using L
         rw[i,l];rfl
       have v:a3A p k=false->some (Sum.inr ((false,()),()))=(some (bif a0i (a5L p) k (n+1)then .inl (((),()),(p,()))else .inr ((false,()),())):Option (e2H⊕e2I)):=by
        intro h;rw[e];unfold a5L;rw[h];rfl
       unfold b2f;simp only[b,B,d,Bool.and_self,cond_true,toNat_natCast,o,T];show(bif fgt .f32 (wAt p k) 0 then bif !fle (wAt p k) 1120403456 then _ else _ else _)=_;cases c1:fgt .f32 (wAt p k) 0
       ·exact v (by unfold a3A;rw[c1];rfl)
       cases c2:fle (wAt p k) 1120403456
       ·exact v (by unfold a3A;rw[c1,c2];rfl)
       simp only[Bool.not_true,cond_false,cond_true];by_cases a:k=0
       ·have i:decide ((k:Int)>0)=false:=by simp;omega
        rw[i];exact s (by unfold a3A;rw[c1,c2,a];rfl)
       ·have i:decide ((k:Int)>0)=true:=by simp;omega
        have l:decide (0<=((k-1:Nat):Int))=true:=by simp
        have C:decide (((k-1:Nat):Int)<(p.1.length:Int))=true:=by simp;omega
        have A:decide (k=0)=false:=by simpa using a
        have t:getD p.1 (k-1) (zero (Ty.flt FloatKind.f32))=wAt p (k-1):=rfl;have x:a3A p (k-1)=true:=a0u.1 M (k-1) (zero_le _) (by omega);have r:fgt .f32 (wAt p (k-1)) 0=true /\ fle (wAt p (k-1)) 1120403456=true:=by
         unfold a3A at x;simp only[and_eq_true]at x;exact x.1
        have G:=c2V c1 c2 r.1 r.2;simp only[i,d2d k (by omega) (by omega),l,C,Bool.and_self,cond_true,toNat_natCast,t];show(bif fle (wAt p k) (wAt p (k-1))then _ else _)=_;rw[G];cases c3:fgt .f32 (wAt p k) (wAt p (k-1))
        ·exact v (by unfold a3A;rw[c1,c2,c3,A];rfl)
        ·exact s (by unfold a3A;rw[c1,c2,c3,A];rfl)
  exact K p.1.length 0 (by omega) rfl _ (by simp only[e2J];omega)
 have w:a0i (a5L p) 0 p.1.length=(a0i (a3A p) 0 p.1.length&&a0i (d2c p) 0 p.1.length):=by
  rw[Bool.eq_iff_iff];simp only[and_eq_true];constructor
  ·intro h;exact⟨a0u.2 fun j a g=>by have:=a0u.1 h j a g;unfold a5L at this;simp only[and_eq_true]at this;exact this.1,
    a0u.2 fun j a g=>by have:=a0u.1 h j a g;unfold a5L at this;simp only[and_eq_true]at this;exact this.2⟩
  ·rintro⟨h,h'⟩;exact a0u.2 fun j a g=>by unfold a5L;rw[a0u.1 h j a g,a0u.1 h' j a g];rfl
 simp only[d6P,d6Q,d6S,d6R,I,isSome_some,cond_true,cond_false,Bool.true_and];rw[E,w];cases hwb:a0i (a3A p) 0 p.1.length
 ·rfl
 cases hrb:a0i (d2c p) 0 p.1.length
 ·simp only[Bool.and_false,Bool.and_self,isR,yOf,cond_true,cond_false];rfl
 simp only[Bool.and_self,cond_true,isR,xOf,cond_false,Bool.true_and,Bool.and_true];have y:b0B (((),(1:Int),()),(p,()))=some (bif a0i (c2U p) 0 p.2.1.length then .inl (((),()),(p,()))else .inr ((false,()),())):=by
  have a:a0i (c2U p) 0 p.2.1.length=a0i (fun j=>c2U p (j+1)) 0 (p.2.1.length-1):=by
   rw[Bool.eq_iff_iff,a0u,a0u];constructor
   ·intro h j _ g;exact h (j+1) (by omega) (by omega)
   ·intro h j _ g;by_cases c:j=0
    ·subst c;rfl
    ·have:=h (j-1) (zero_le _) (by omega)
     rwa [show j-1+1=j by omega]at this
  rw[a];refine(a0M (q:=b3R) (fun k=>(((),((k+1:Nat):Int),()),(p,()))) (p.2.1.length-1) (fun j=>c2U p (j+1)) _ _ ?_ ?_ _ ?_:_)
  ·intro k f H;unfold b3R c2U;have b:decide (((k+1:Nat):Int)<(p.2.1.length:Int))=true:=by simp;omega
   have d:decide (0<=((k+1:Nat):Int))=true:=by simp;omega
   have o:getD p.2.1 (k+1) (zero (Ty.int IntKind.i64))=aAt p (k+1):=rfl;have l:decide (0<=((k+1-1:Nat):Int))=true:=by simp
   have C:decide (((k+1-1:Nat):Int)<(p.2.1.length:Int))=true:=by simp;omega
   have t:getD p.2.1 (k+1-1) (zero (Ty.int IntKind.i64))=aAt p (k+1-1):=rfl;simp only[a1Z (k+1) (by omega),b,d,Bool.and_self,cond_true,toNat_natCast,o,d2d (k+1) (by omega) (by omega),l,C,t];have A:decide (k+1=0)=false:=by simp
   have N:decide (aAt p (k+1)<=aAt p (k+1-1))=!decide (aAt p (k+1-1)<aAt p (k+1)):=by
    by_cases h:aAt p (k+1-1)<aAt p (k+1)
    ·have:¬aAt p (k+1)<=aAt p (k+1-1):=by omega
     rw[decide_eq_false this,decide_eq_true h];rfl
    ·have:aAt p (k+1)<=aAt p (k+1-1):=by omega
     rw[decide_eq_true this,decide_eq_false h];rfl
   rw[A,N];cases decide (aAt p (k+1-1)<aAt p (k+1))<;>rfl
  ·intro f;unfold b3R;have:decide (((p.2.1.length-1+1:Nat):Int)<(p.2.1.length:Int))=false:=by simp;omega
   simp only[this,cond_false]
  ·simp only[c5t];omega
 simp only[c5u,c5v,c5x,c5w,y,isSome_some,cond_true];cases a0i (c2U p) 0 p.2.1.length
 ·rfl
 simp only[cond_true,isR,xOf,cond_false,Bool.true_and];have O:(decide (0<=0)&&decide ((0:Int)<(length (α:=Den (Ty.int IntKind.i64)) p.2.1:Int)))=true:=by
  have:(0:Int)<(p.2.1.length:Int):=by omega
  exact(decide_eq_true this:_)
 have P:wrap IntKind.i64 ((length (α:=Den (Ty.int IntKind.i64)) p.2.1:Int)-1)=((length (α:=Den (Ty.int IntKind.i64)) p.2.1-1:Nat):Int):=d2d _ (by omega) (by omega);have Q:decide (((length (α:=Den (Ty.int IntKind.i64)) p.2.1-1:Nat):Int)<(length (α:=Den (Ty.int IntKind.i64)) p.2.1:Int))=true:=by simp;omega
 have R:decide (0<=((length (α:=Den (Ty.int IntKind.i64)) p.2.1-1:Nat):Int))=true:=by simp
 have o:getD p.2.1 0 (zero (Ty.int IntKind.i64))=aAt p 0:=rfl;have t:getD p.2.1 (p.2.1.length-1) (zero (Ty.int IntKind.i64))=aAt p (p.2.1.length-1):=rfl
 erw [O]
 simp only[P,Q,R,toNat_natCast,Int.toNat_zero,o,t,Bool.and_self,Bool.not_true,cond_false,cond_true];cases (aAt p 0==0)
 ·rfl
 cases (aAt p (p.2.1.length-1)==180)<;>rfl
def a2l (s:Den a1r):List (Nat×Nat):=[s.snd.fst.fst,s.snd.fst.snd.fst,s.snd.fst.snd.snd.fst,s.snd.fst.snd.snd.snd.fst,s.snd.fst.snd.snd.snd.snd.fst,s.snd.fst.snd.snd.snd.snd.snd.fst,s.snd.fst.snd.snd.snd.snd.snd.snd.fst,s.snd.fst.snd.snd.snd.snd.snd.snd.snd.fst,s.snd.fst.snd.snd.snd.snd.snd.snd.snd.snd.fst,s.snd.fst.snd.snd.snd.snd.snd.snd.snd.snd.snd.fst,s.snd.fst.snd.snd.snd.snd.snd.snd.snd.snd.snd.snd.fst,s.snd.fst.snd.snd.snd.snd.snd.snd.snd.snd.snd.snd.snd.fst,s.snd.fst.snd.snd.snd.snd.snd.snd.snd.snd.snd.snd.snd.snd.fst]
theorem b4Z (s:Den a1r):(a2l s).length=13:=rfl
theorem c0O (l:List (Nat×Nat)) (h:l.length<=13):e7u (l,())=some (a5K l,()):=by
 have g:b0N ((l,(l.length:Int),(0:Int),()),())=some (bif a5K l then .inl ((),())else .inr ((false,()),())):=by
  refine(a0M (q:=b4s) (fun k=>((l,(l.length:Int),(k:Int),()),())) l.length (fun i=>a1O (atV l i)) _ _ ?_ ?_ _ ?_:_)
  ·intro k f e;unfold b4s;have a:decide ((k:Int)<(l.length:Int))=true:=by simpa using e
   have b:decide (0<=(k:Int))=true:=by simp
   have d:getD l k (zero (Ty.cpx FloatKind.f32))=atV l k:=rfl;have c:F45 (atV l k,())=some (a1O (atV l k),()):=a4R _;simp only[a1Z k (by omega),a,b,Bool.and_self,cond_true,toNat_natCast,d,K45,G45,c,isSome_some,getD_some];cases a1O (atV l k)<;>rfl
  ·intro f;simp[b4s]
  ·simp only[c7k];omega
 unfold e7u;simp only[c7l,c7m,c7n,g,isSome_some,cond_true];cases a5K l<;>rfl
theorem c9j (s:Den a1r):e7d (s,())=some (a5K (a2l s),()):=by
 have e:b0C (((),0,()),(s.fst,s.snd.fst),())=some (bif a5K (a2l s)then .inl ((),())else .inr ((false,()),())):=by
  refine(a0M (q:=b8U) (fun k=>(((),(k:Int),()),(s.fst,s.snd.fst),())) 13 (fun i=>a1O (atV (a2l s) i)) _ _ ?_ ?_ _ ?_:_)
  ·intro k f g;unfold b8U;have c:decide ((k:Int)<13)=true:=by simp;omega
   have d:decide (0<=(k:Int))=true:=by simp
   have a:F52 ((a2l s).getD k (0,0),())=some (a1O (atV (a2l s) k),()):=a4S _;generalize a1O (atV (a2l s) k)=b at a ⊢;simp only[a1Z k (by omega),c,d,Bool.and_self,cond_true,toNat_natCast];unfold a2l at a;simp only[K52,G52,a,isSome_some,getD_some,cond_true];cases b<;>rfl
  ·intro f;rfl
  ·simp only[c5z];omega
 unfold e7d;simp only[c5A,c5B,c5C,e,isSome_some,cond_true];cases a5K (a2l s)<;>rfl
def a3K (l:List (Den a1r)) (i:Nat):Den a1r:=l.getD i (zero a1r)
def a3h (l:List Int) (i:Nat):Int:=l.getD i 0
def b2A (s:Den a1r):Bool:=a3G s.fst&&a5K (a2l s)
def b0i (a:List Int) (k:Nat):Bool:=a0l (a3h a k) 0 10000000&&(decide (k=0)||!decide (a3h a k<IntKind.i64.wrap (a3h a (k-1)+21600)))
def a3B (t:Den S30):Bool:=a0l (t.1.length:Int) 1 20&&(a0l (t.2.1.length:Int) 1 60&&(a0i (fun i=>b2A (a3K t.1 i)) 0 t.1.length&&a0i (b0i t.2.1) 0 t.2.1.length))
theorem c9k (t:Den S30) (h:a4I t):F91 (t,())=some (a3B t,()):=by
 obtain⟨b,a,_⟩:=t;obtain⟨n,o⟩:=h;have n:b.length<=21:=n;have o:a.length<=6:=o;have v:c2J (((),b,(b.length:Int),0,()),(b,a,()),())=some (bif a0i (fun i=>b2A (a3K b i)) 0 b.length then .inl (((),()),(b,a,()),())else .inr ((false,()),())):=by
  refine(a0M (q:=c7t) (fun k=>(((),b,(b.length:Int),(k:Int),()),(b,a,()),())) b.length (fun i=>b2A (a3K b i)) _ _ ?_ ?_ _ ?_:_)
  ·intro k f j;unfold c7t;have c:decide ((k:Int)<(b.length:Int))=true:=by simpa using j
   have d:decide (0<=(k:Int))=true:=by simp
   have g:getD b k (zero a1r)=a3K b k:=rfl;have e:F61 ((a3K b k).fst,())=some (a3G (a3K b k).fst,()):=a7O _;have m:e7u (a2l (a3K b k),())=some (a5K (a2l (a3K b k)),()):=c0O _ (by rw[b4Z];decide);unfold b2A;simp only[a1Z k (by omega),c,d,Bool.and_self,cond_true,toNat_natCast,g,K61,G61,e,isSome_some,getD_some];unfold a2l at m ⊢;simp only[f1b,f1c,m,isSome_some,getD_some];cases a3G (a3K b k).fst
   ·rfl
   ·cases a5K _<;>rfl
  ·intro f;simp[c7t]
  ·simp only[e3v];omega
 have l:b0O (((),a,(a.length:Int),0,()),(b,a,()),())=some (bif a0i (b0i a) 0 a.length then .inl ((),())else .inr ((false,()),())):=by
  refine(a0M (q:=b4t) (fun k=>(((),a,(a.length:Int),(k:Int),()),(b,a,()),())) a.length (b0i a) _ _ ?_ ?_ _ ?_:_)
  ·intro k f j;unfold b4t;have c:decide ((k:Int)<(a.length:Int))=true:=by simpa using j
   have d:decide (0<=(k:Int))=true:=by simp
   have g:∀i,getD a i (zero (Ty.int IntKind.i64))=a3h a i:=fun _=>rfl
   have e:F43 (a3h a k,())=some (a0l (a3h a k) 0 10000000,()):=b4N _;unfold b0i;simp only[a1Z k (by omega),c,d,Bool.and_self,cond_true,toNat_natCast,g,K43,G43,e,isSome_some,getD_some];cases a0l (a3h a k) 0 10000000
   ·rfl
   ·cases k with
    |zero=>rfl
    | succ k =>
      have p:IntKind.i64.wrap (((k+1:Nat):Int)-1)=(k:Int):=by rw[w64 (by omega) (by omega)];omega
      have r:decide (((k+1:Nat):Int)>0)=true:=decide_eq_true (by omega);have s:(decide (0<=(k:Int))&&decide ((k:Int)<(a.length:Int)))=true:=by simp only[and_eq_true,decide_eq_true_eq];omega
      simp only[p,r,s,cond_true,toNat_natCast,Bool.not_true,cond_false,Nat.add_sub_cancel,Bool.true_and];have u:decide (k+1=0)=false:=by simp
      rw[u,Bool.false_or];cases decide (a3h a (k+1)<IntKind.i64.wrap (a3h a k+21600))<;>rfl
  ·intro f;simp[b4t]
  ·simp only[c7p];omega
 have w:F44 ((b.length:Int),1,20,())=some (a0l (b.length:Int) 1 20,()):=a2P _ _ _;have x:F44 ((a.length:Int),1,60,())=some (a0l (a.length:Int) 1 60,()):=a2P _ _ _;unfold F91 a3B;simp only[K44,G44,w,x,isSome_some,getD_some,cond_true,d8J,d8K,d8L,d8M,v];cases a0l (b.length:Int) 1 20
 ·rfl
 cases a0l (a.length:Int) 1 60
 ·rfl
 cases a0i (fun i=>b2A (a3K b i)) 0 b.length
 ·rfl
 simp only[cond_true,isR,xOf,Bool.not_true,cond_false,c7q,c7r,c7s,l,isSome_some];cases a0i (b0i a) 0 a.length<;>rfl
theorem b7l (t:Den S30) (h:a4I t):e7e (t,())=some (a3B t,()):=by
 obtain⟨b,a,_⟩:=t;obtain⟨m,n⟩:=h;have m:b.length<=21:=m;have n:a.length<=6:=n;have v:b0E (((),0,()),(b,a,()),())=some (bif a0i (fun i=>b2A (a3K b i)) 0 b.length then .inl (((),()),(b,a,()),())else .inr ((false,()),())):=by
  refine(a0M (q:=b3U) (fun k=>(((),(k:Int),()),(b,a,()),())) b.length (fun i=>b2A (a3K b i)) _ _ ?_ ?_ _ ?_:_)
  ·intro k f j;unfold b3U;have c:decide ((k:Int)<(b.length:Int))=true:=by simpa using j
   have d:decide (0<=(k:Int))=true:=by simp
   have g:getD b k (zero a1r)=a3K b k:=rfl;have e:F96 ((a3K b k).fst,())=some (a3G (a3K b k).fst,()):=a7P _;have o:e7d (a3K b k,())=some (a5K (a2l (a3K b k)),()):=c9j _;unfold b2A;simp only[a1Z k (by omega),c,d,Bool.and_self,cond_true,toNat_natCast,g,K96,G96,e,e9l,e9m,o,isSome_some,getD_some];cases a3G (a3K b k).fst
   ·rfl
   ·cases a5K _<;>rfl
  ·intro f;simp[b3U]
  ·simp only[c5H];omega
 have l:b0D (((),0,()),(b,a,()),())=some (bif a0i (b0i a) 0 a.length then .inl ((),())else .inr ((false,()),())):=by
  refine(a0M (q:=b3T) (fun k=>(((),(k:Int),()),(b,a,()),())) a.length (b0i a) _ _ ?_ ?_ _ ?_:_)
  ·intro k f j;unfold b3T;have c:decide ((k:Int)<(a.length:Int))=true:=by simpa using j
   have d:decide (0<=(k:Int))=true:=by simp
   have g:∀i,getD a i (zero (Ty.int IntKind.i64))=a3h a i:=fun _=>rfl
   have e:F51 (a3h a k,0,10000000,())=some (a0l (a3h a k) 0 10000000,()):=a1F _ _ _;unfold b0i;simp only[a1Z k (by omega),c,d,Bool.and_self,cond_true,toNat_natCast,g,K51,G51,e,isSome_some,getD_some];cases a0l (a3h a k) 0 10000000
   ·rfl
   ·cases k with
    |zero=>rfl
    | succ k =>
      have p:IntKind.i64.wrap (((k+1:Nat):Int)-1)=(k:Int):=by rw[w64 (by omega) (by omega)];omega
      have r:decide (((k+1:Nat):Int)>0)=true:=decide_eq_true (by omega);have s:(decide (0<=(k:Int))&&decide ((k:Int)<(a.length:Int)))=true:=by simp only[and_eq_true,decide_eq_true_eq];omega
      simp only[p,r,s,cond_true,toNat_natCast,Bool.not_true,cond_false,Nat.add_sub_cancel,Bool.true_and];have u:decide (k+1=0)=false:=by simp
      rw[u,Bool.false_or];cases decide (a3h a (k+1)<IntKind.i64.wrap (a3h a k+21600))<;>rfl
  ·intro f;simp[b3T]
  ·simp only[c5D];omega
 have w:F51 ((b.length:Int),1,20,())=some (a0l (b.length:Int) 1 20,()):=a1F _ _ _;have x:F51 ((a.length:Int),1,60,())=some (a0l (a.length:Int) 1 60,()):=a1F _ _ _;unfold e7e a3B;simp only[K51,G51,w,x,isSome_some,getD_some,cond_true,c5I,c5J,c5K,c5L,v];cases a0l (b.length:Int) 1 20
 ·rfl
 cases a0l (a.length:Int) 1 60
 ·rfl
 cases a0i (fun i=>b2A (a3K b i)) 0 b.length
 ·rfl
 simp only[cond_true,isR,xOf,Bool.not_true,cond_false,c5E,c5F,c5G,l,isSome_some];cases a0i (b0i a) 0 a.length<;>rfl
theorem c9l (m n:Nat) (e:0<n) (a:Nat):∀Q,Q=2*(m <<< a/n)+(m <<< a%n != 0).toNat->Q*n<=2*(m*2^a)+n /\ 2*(m*2^a)<=Q*n+n:=by
 intro Q b;rw[Nat.shiftLeft_eq]at b;have f:=Nat.div_add_mod (m*2^a) n;have g:=Nat.mod_lt (m*2^a) e;generalize m*2^a=x at *;have d:2*(x/n)*n=2*(n*(x/n)):=by rw[Nat.mul_assoc,Nat.mul_comm (x/n)]
 subst b;rw[Nat.add_mul,d];generalize n*(x/n)=y at *;by_cases c:x%n=0
 ·rw[c];simp only[bne_self_eq_false,Bool.toNat_false,Nat.zero_mul];omega
 ·have:(x%n != 0)=true:=by simpa using c
  rw[this];simp only[Bool.toNat_true,Nat.one_mul];omega
theorem c9m (m n:Nat) (b:m≠0) (g:0<n):2^54*n<=m*2^(54+n.log2-m.log2)*2:=by
 have c:2^m.log2<=m:=Nat.log2_self_le b;have d:n<2^(n.log2+1):=Nat.lt_log2_self;have e:2^(54+n.log2)<=m*2^(54+n.log2-m.log2):=by
  have:2^m.log2*2^(54+n.log2-m.log2)<=m*2^(54+n.log2-m.log2):=Nat.mul_le_mul_right _ c;rw[<- Nat.pow_add]at this;exact Nat.le_trans (Nat.pow_le_pow_right (by decide) (by omega)) this
 have a:2^54*n<=2^54*2^(n.log2+1):=Nat.mul_le_mul_left _ (Nat.le_of_lt d);rw[<- Nat.pow_add]at a;have f:2^(54+(n.log2+1))=2^(54+n.log2)*2:=by rw[<- Nat.pow_succ];congr 1
 omega
theorem g9l {a b:Nat} {x y q:Rat} (ha:IsR a x) (hb:IsR b y) (hy:y≠0) (U:q*y=x) (B:Int) (N:-1022<=B) (O:B<=1022) (E:q<=p2 B) (D:-p2 B<=q) :
 ∃r,IsR (a0a .quo .f64 a b) r /\ b0V r q (p2 (B-52)):=by
 obtain⟨s,m,e,hr,he,rfl⟩:=ha;obtain⟨t,n,f,L,hf,rfl⟩:=hb;have V:a0a .quo .f64 a b=(((Ieee.double.read a).quotient 54 (Ieee.double.read b)).map Ieee.double.write).getD (qn .f64):=rfl;have C:n≠0:=fun h=>hy (by rw[h,a2X])
 have F:0<n:=Nat.pos_of_ne_zero C;rw[V,hr,L];unfold Ieee.Datum.quotient;dsimp only;rw[if_neg C];show ∃r,IsR (Ieee.double.nearest (s ^^ t) (2*(m <<< (54+n.log2-m.log2)/n)+(m <<< (54+n.log2-m.log2)%n != 0).toNat) (e-f-((54+n.log2-m.log2:Nat):Int)-1)) r /\ _;have P:=c9l m n F (54+n.log2-m.log2) _ rfl;have w:m=0->2*(m <<< (54+n.log2-m.log2)/n)+(m <<< (54+n.log2-m.log2)%n != 0).toNat=0:=by
  intro h;subst h;simp[Nat.shiftLeft_eq]
 have j:m≠0->_:=fun h=>c9m m n h F
 generalize hQ:2*(m <<< (54+n.log2-m.log2)/n)+(m <<< (54+n.log2-m.log2)%n != 0).toNat=Q at *;generalize hM:54+n.log2-m.log2=c at *;obtain⟨d,H⟩:∃d:Int,d=e-f-(c:Int)-1:=⟨_,rfl⟩;rw[<- H];have i:(0:Rat)<(n:Rat):=by
  have:(0:Rat)<((n:Nat):Rat):=by exact_mod_cast Rat.natCast_lt_natCast.2 F
  exact this
 have k:q*(n:Rat)=sgR (s ^^ t)*(2*((m:Rat)*((2^c:Nat):Rat)))*p2 d:=by
  have W:e=f+(c:Int)+1+d:=by omega
  have hx:RV s m e=sgR s*(2*((m:Rat)*((2^c:Nat):Rat)))*p2 d*p2 f:=by
   unfold RV;rw[W,a0N,a2i,a0N,a0T];grind
  have hf:=a0q f;have M:RV t n f=sgR t*(n:Rat)*p2 f:=rfl;rw[hx,M]at U;have hs:sgR t*sgR t=1:=by cases t<;>decide +kernel
  have A:(q*(n:Rat)-sgR (s ^^ t)*(2*((m:Rat)*((2^c:Nat):Rat)))*p2 d)*p2 f=0:=by
   rw[c9h];have:q*(sgR t*(n:Rat)*p2 f)*sgR t=sgR s*(2*((m:Rat)*((2^c:Nat):Rat)))*p2 d*p2 f*sgR t:=by rw[U]
   grind
  rcases Rat.mul_eq_zero.1 A with l|l
  ·grind
  ·grind
 have G:=a0q d;have n1:(Q:Rat)*(n:Rat)<=2*((m:Rat)*((2^c:Nat):Rat))+(n:Rat):=by exact_mod_cast a0e P.1
 have n2:2*((m:Rat)*((2^c:Nat):Rat))<=(Q:Rat)*(n:Rat)+(n:Rat):=by exact_mod_cast a0e P.2
 have m1:=a0s n1 (Rat.le_of_lt G);have m2:=a0s n2 (Rat.le_of_lt G);have g:b0V (RV (s ^^ t) Q d) q (p2 d):=by
  unfold RV;have Y:(sgR (s ^^ t)*(Q:Rat)*p2 d-q-p2 d)*(n:Rat)<=0:=by
   have:sgR (s ^^ t)*(Q:Rat)*p2 d*(n:Rat)-q*(n:Rat)-p2 d*(n:Rat)<=0:=by
    rw[k];cases (s ^^ t)
    ·have:sgR false=1:=rfl;rw[this];grind
    ·have:sgR true=-1:=rfl;rw[this];grind
   grind
  have Z:(q-sgR (s ^^ t)*(Q:Rat)*p2 d-p2 d)*(n:Rat)<=0:=by
   have:q*(n:Rat)-sgR (s ^^ t)*(Q:Rat)*p2 d*(n:Rat)-p2 d*(n:Rat)<=0:=by
    rw[k];cases (s ^^ t)
    ·have:sgR false=1:=rfl;rw[this];grind
    ·have:sgR true=-1:=rfl;rw[this];grind
   grind
  have neg_of:∀z:Rat,z*(n:Rat)<=0->z<=0:=by
   intro z hz;apply Classical.byContradiction;intro R;have:=Rat.mul_pos (show 0<z by grind) i;grind
  have k1:=neg_of _ Y;have k2:=neg_of _ Z;constructor<;>grind
 by_cases v:m=0
 ·have J:=w v;subst v;rw[J]at g ⊢;have K:q=0:=by
   have:q*(n:Rat)=0:=by
    rw[k];have:((0:Nat):Rat)=0:=by simp
    rw[this];grind
   rcases Rat.mul_eq_zero.1 this with h|h
   ·exact h
   ·grind
  obtain⟨r,A,l⟩:=b2z (s ^^ t) 0 d B N O (by rw[a2X];exact a0q _) (by rw[a2X];have:=a0q (B+1);grind);rw[a2X]at l;have S:p2 (B-53)<=p2 (B-52):=a8f (by omega);refine⟨r,A,?_⟩;rw[K];exact⟨by have:=l.1;grind,by have:=l.2;grind⟩
 ·have I:=j v;have h54:p2 (54+d)<=p2 B:=by
   have X:p2 (54+d)=((2^54:Nat):Rat)*p2 d:=by rw[a0N,show(54:Int)=((54:Nat):Int)from rfl,a0T]
   have n3:((2^54:Nat):Rat)*(n:Rat)<=(m:Rat)*((2^c:Nat):Rat)*2:=by exact_mod_cast a0e I
   have m3:=a0s n3 (Rat.le_of_lt G);have h5:(p2 (54+d)-p2 B)*(n:Rat)<=0:=by
    have p:=a0s E (Rat.le_of_lt i);have o:=a0s D (Rat.le_of_lt i);rw[k]at p o;rw[X];generalize (s ^^ t)=u at *;cases u
    ·have:sgR false=1:=rfl;rw[this]at p;grind
    ·have:sgR true=-1:=rfl;rw[this]at o;grind
   apply Classical.byContradiction;intro R;have:=Rat.mul_pos (show 0<p2 (54+d)-p2 B by grind) i;grind
  have T:54+d<=B:=by
   apply Classical.byContradiction;intro R;have h6:=a8f (show B+1<=54+d by omega);have h7:=a2i B;have:=a0q B;grind
  have hsm:p2 d<=p2 (B-54):=a8f (by omega);have e5:p2 (B-53)=2*p2 (B-54):=by rw[<- a2i];congr 1;omega
  have e6:p2 (B-52)=2*p2 (B-53):=by rw[<- a2i];congr 1;omega
  have e7:p2 (B+1)=2*p2 B:=a2i B;have hB0:p2 (B-54)<p2 B:=by
   have h8:p2 (B-54+1)<=p2 B:=a8f (by omega);rw[a2i]at h8;have:=a0q (B-54);grind
  obtain⟨r,A,l⟩:=b2z (s ^^ t) Q d B N O (by have:=g.1;grind) (by have:=g.2;grind);refine⟨r,A,?_⟩;have:=a0q (B-54);exact⟨by have:=l.1;have:=g.1;grind,by have:=l.2;have:=g.2;grind⟩
def b0W (z w:Nat×Nat):Nat×Nat:=(a0a .sub .f64 (a0a .mul .f64 z.1 w.1) (a0a .mul .f64 z.2 w.2),a0a .add .f64 (a0a .mul .f64 z.1 w.2) (a0a .mul .f64 z.2 w.1))
def b5a:Nat×Nat:=(4607181046959943561,4580687535080594718)
def a0W:Nat→Nat×Nat
 |0=>(4607182418800017408,0)
 |n+1=>b0W (a0W n) b5a
structure TE where
 k:Nat
 a:Nat
 b:Nat
 c:Nat
 s:Nat
def b0X (w C:Nat):Bool:=match Ieee.double.read w with
 | .number s m e=>decide (e ≤ -40)&&decide (-1074 ≤ e)&&Nat.ble C 2199023255552 &&
   decide ((if s then -(m:Int)else(m:Int)) ≤ ((C:Int)-1099511627776)*(2^(-40-e).toNat:Nat)+(2^(-40-e).toNat:Nat)) &&
   decide (((C:Int)-1099511627776)*(2^(-40-e).toNat:Nat) ≤ (if s then -(m:Int)else(m:Int))+(2^(-40-e).toNat:Nat))
 |_=>false
def a9y:Nat→Nat×Nat→List TE→Bool
 |k,_,[]=>beq k 360
 |k,z,t::r=>beq t.k k&&beq t.a z.1&&beq t.b z.2&&b0X t.a t.c&&b0X t.b t.s&&a9y (k+1) (b0W (t.a,t.b) b5a) r
def g4L (x y:TE):Bool:=beq x.k y.k||Nat.ble (x.c*y.c+x.s*y.s+2417851639229258349412352) (1208744480741687000301568+1099511627776*(x.c+y.c+x.s+y.s))
def h1U (d:Nat):Bool:=(Nat.ble 20 d&&Nat.ble d 160)||(Nat.ble 200 d&&Nat.ble d 340)
def c9n (x y:TE):Bool:=!(h1U ((y.k+360-x.k)%360)) ||
 Nat.ble (x.s*y.c+1099511627776*(x.c+y.s)+411034778668973948928000) (x.c*y.s+1099511627776*(x.s+y.c)) ||
 Nat.ble (x.c*y.s+1099511627776*(x.s+y.c)+411034778668973948928000) (x.s*y.c+1099511627776*(x.c+y.s))
def e4q (x:TE):Bool:=Nat.ble (1208925819597036988661760+1099511627776*(x.c+x.c+x.s+x.s)) (x.c*x.c+x.s*x.s+2417851639229258349412352) &&
 Nat.ble (x.c*x.c+x.s*x.s+2417851639229258349412352) (1208925819632221360750592+1099511627776*(x.c+x.c+x.s+x.s))
def g9m (w:Nat):Nat:=match Ieee.double.read w with
 |.number s m e=>if s then 1099511627776-m/2^(-40-e).toNat else 1099511627776+m/2^(-40-e).toNat
 |_=>0
def frc (n:Nat) (f:Nat→Bool):Bool:=Nat.casesOn n (f 0) fun m=>f (Nat.succ m)
theorem f3f (n:Nat) (f:Nat→Bool):frc n f=f n:=by cases n<;>rfl
def c9o:Nat→Nat→Nat→Nat→(List TE→Bool)→Bool
 |0,_,_,_,f=>f []
 |n+1,k,a,b,f=>frc (b0W (a,b) b5a).1 fun d=>frc (b0W (a,b) b5a).2 fun b'=>frc (g9m a) fun c=>frc (g9m b) fun s=>frc (k+1) fun k'=>c9o n k' d b' fun r=>f (⟨k,a,b,c,s⟩::r)
theorem b5b:∀(n k a b:Nat) (f:List TE→Bool),c9o n k a b f=true→∃l,f l=true
 |0,_,_,_,f,h=>⟨[],h⟩
 | n+1,k,a,b,f,h=>by
   simp only[c9o,f3f]at h;obtain⟨l,c⟩:=b5b n _ _ _ _ h;exact⟨_,c⟩
theorem c9p:∃l:List TE,(a9y 0 (a0W 0) l&&((l.all fun x=>l.all fun y=>g4L x y&&c9n x y)&&l.all e4q))=true:=
 b5b 360 0 4607182418800017408 0 _ (by decide +kernel)
noncomputable def b0j:List TE:=Classical.choose c9p
theorem a9z:a9y 0 (a0W 0) b0j=true∧(b0j.all fun x=>b0j.all fun y=>g4L x y&&c9n x y)=true∧(b0j.all e4q)=true:=by
 have h:=Classical.choose_spec c9p;rw[and_eq_true,and_eq_true]at h;exact h
theorem d4Q:a9y 0 (a0W 0) b0j=true:=a9z.1
theorem g9n:(b0j.all fun x=>b0j.all fun y=>g4L x y&&c9n x y)=true:=a9z.2.1
theorem g4M:(b0j.all e4q)=true:=a9z.2.2
theorem b5c:∀(l:List TE) (k:Nat),a9y k (a0W k) l=true→∀j,k ≤ j→j<360→∃t∈l,t.k=j∧(t.a,t.b)=a0W j∧b0X t.a t.c=true∧b0X t.b t.s=true
 | [],k,h,j,h1,h2=>by
   simp only[a9y]at h;have:=a0g h;omega
 | t::r,k,h,j,h1,h2=>by
   simp only[a9y,and_eq_true]at h;obtain⟨⟨⟨⟨⟨a1,a2⟩,b⟩,d⟩,f⟩,a⟩:=h;have e:(t.a,t.b)=a0W k:=by rw[a0g a2,a0g b]
   by_cases c:j=k
   ·subst c;exact⟨t,List.mem_cons_self,a0g a1,e,d,f⟩
   ·rw[e]at a;obtain⟨m,g,i⟩:=b5c r (k+1) a j (by omega) h2;exact⟨m,List.mem_cons_of_mem _ g,i⟩
def Abs (x A:Rat):Prop := -A<=x /\ x<=A
theorem Abs.mono {x A B:Rat} (h:Abs x A) (a:A<=B):Abs x B:=⟨by have:=h.1;grind,by have:=h.2;grind⟩
theorem Abs.nn {x A:Rat} (h:Abs x A):0<=A:=by have:=h.1;have:=h.2;grind
theorem Abs.mul {x y A B:Rat} (a:Abs x A) (b:Abs y B):Abs (x*y) (A*B):=by
 obtain⟨c,d⟩:=a;obtain⟨e,f⟩:=b;have g:=Rat.mul_nonneg (show 0<=A-x by grind) (show 0<=B-y by grind);have p2:=Rat.mul_nonneg (show 0<=A+x by grind) (show 0<=B+y by grind);have h:=Rat.mul_nonneg (show 0<=A-x by grind) (show 0<=B+y by grind);have i:=Rat.mul_nonneg (show 0<=A+x by grind) (show 0<=B-y by grind);constructor<;>grind
theorem Abs.near {x y e:Rat} (h:Abs (x-y) e):b0V x y e:=⟨by have:=h.2;grind,by have:=h.1;grind⟩
def e7M (w:Nat):Rat:=match Ieee.double.read w with
 |.number s m e=>RV s m e
 |_=>0
theorem IsR.val {w:Nat} {q:Rat} (h:IsR w q):q=e7M w:=by
 obtain⟨s,m,e,a,_,rfl⟩:=h;unfold e7M;rw[a]
theorem IsR.uniq {w:Nat} {q r:Rat} (h:IsR w q) (h':IsR w r):q=r:=by rw[h.val,h'.val]
def hh:Rat:=1/1099511627776
theorem p40:p2 (-40)=hh:=by
 have a:p2 ((40:Int) + -40)=p2 40*p2 (-40):=a0N _ _;have b:p2 ((40:Int) + -40)=1:=by
  have:((40:Int) + -40)=((0:Nat):Int):=by decide
  rw[this,a0T];rfl
 have c:p2 40=1099511627776:=by
  have:(40:Int)=((40:Nat):Int):=rfl;rw[this,a0T];rfl
 rw[b,c]at a;unfold hh;grind
theorem c0P {w C:Nat} (h:b0X w C=true):IsR w (e7M w) /\ C<=2199023255552 /\ b0V (e7M w) (((C:Rat)-1099511627776)*hh) hh:=by
 unfold b0X at h;split at h
 ·rename_i s m e l;simp only[and_eq_true,decide_eq_true_eq]at h;obtain⟨⟨⟨⟨q,f⟩,i⟩,j⟩,k⟩:=h;have b:IsR w (RV s m e):=⟨s,m,e,l,f,rfl⟩;rw[<- b.val];refine⟨b,by simpa using i,?_⟩;have n:RV s m e=(((if s then -(m:Int)else(m:Int)):Int):Rat)*p2 e:=by
   unfold RV;cases s
   ·have:sgR false=1:=rfl;rw[this,if_neg (by decide),Rat.intCast_natCast];grind
   ·have:sgR true=-1:=rfl;rw[this,if_pos rfl,Rat.intCast_neg,Rat.intCast_natCast];grind
  rw[n,<- p40];have d:p2 (-40)=((2^(-40-e).toNat:Nat):Rat)*p2 e:=by
   have:(-40:Int)=((-40-e).toNat:Int)+e:=by omega
   have a:=a0N ((-40-e).toNat:Int) e;rw[<- this,a0T]at a;exact a
  rw[d];have c:=a0q e;have o:(((if s then -(m:Int)else(m:Int)):Int):Rat)<=((C:Rat)-1099511627776)*((2^(-40-e).toNat:Nat):Rat)+((2^(-40-e).toNat:Nat):Rat):=by
   have:=Rat.intCast_le_intCast.2 j;simpa[Rat.intCast_natCast]using this
  have p:((C:Rat)-1099511627776)*((2^(-40-e).toNat:Nat):Rat)<=(((if s then -(m:Int)else(m:Int)):Int):Rat)+((2^(-40-e).toNat:Nat):Rat):=by
   have:=Rat.intCast_le_intCast.2 k;simpa[Rat.intCast_natCast]using this
  generalize ((2^(-40-e).toNat:Nat):Rat)=g at *;generalize (((if s then -(m:Int)else(m:Int)):Int):Rat)=v at *;generalize p2 e=t at *;have m1:=a0s o (Rat.le_of_lt c);have r:=a0s p (Rat.le_of_lt c);constructor<;>grind
 ·cases h
def tc (j:Nat):Rat:=e7M (a0W j).1
def ts (j:Nat):Rat:=e7M (a0W j).2
theorem e4r (j:Nat) (m:j<360):∃t∈b0j,t.k=j /\ IsR (a0W j).1 (tc j) /\ IsR (a0W j).2 (ts j) /\ t.c<=2199023255552 /\ t.s<=2199023255552 /\ b0V (tc j) (((t.c:Rat)-1099511627776)*hh) hh /\ b0V (ts j) (((t.s:Rat)-1099511627776)*hh) hh:=by
 obtain⟨t,k,l,a,b,c⟩:=b5c b0j 0 d4Q j (zero_le _) m;have h:t.a=(a0W j).1:=congrArg Prod.fst a;have i:t.b=(a0W j).2:=congrArg Prod.snd a;rw[h]at b;rw[i]at c;obtain⟨a1,a2,d⟩:=c0P b;obtain⟨e,f,g⟩:=c0P c;exact⟨t,k,l,a1,e,a2,f,d,g⟩
theorem tcR {j:Nat} (a:j<360):IsR (a0W j).1 (tc j):=let ⟨_,_,_,h,_⟩:=e4r j a;h
theorem tsR {j:Nat} (a:j<360):IsR (a0W j).2 (ts j):=let ⟨_,_,_,_,h,_⟩:=e4r j a;h
theorem c0Q {C:Nat} (h:C<=2199023255552):Abs (((C:Rat)-1099511627776)*hh) 1:=by
 have a:=a2w C;have b:(C:Rat)<=2199023255552:=by exact_mod_cast a0e h
 unfold hh;constructor<;>grind
theorem g4N {j:Nat} (g:j<360):Abs (tc j) (1+hh) /\ Abs (ts j) (1+hh):=by
 obtain⟨t,_,_,_,_,c,d,e,f⟩:=e4r j g;have a:=c0Q c;have b:=c0Q d;obtain⟨a1,a2⟩:=a;obtain⟨h,i⟩:=b;obtain⟨k,l⟩:=e;obtain⟨m,n⟩:=f;exact⟨⟨by grind,by grind⟩,by grind,by grind⟩
theorem c0R (n:Int):-360<Int.tmod n 360 /\ Int.tmod n 360<360:=⟨Int.lt_tmod_of_pos n (by decide),Int.tmod_lt_of_pos n (by decide)⟩
theorem c2W {x:Int} (b:-360<x) (a:x<360):Int.tmod x 360=x:=by
 by_cases h:0<=x
 ·exact Int.tmod_eq_of_lt h a
 ·have e:x=-(-x):=by omega
  rw[e,Int.neg_tmod,Int.tmod_eq_of_lt (by omega) (by omega)]
def md (n:Int):Nat:=(Int.tmod (Int.tmod n 360+360) 360).toNat
theorem c9q (n:Int):(md n:Int)=(Int.tmod n 360+360)%360:=by
 unfold md;have:=c0R n;rw[Int.tmod_eq_emod_of_nonneg (by omega)];omega
theorem a8g (n:Int):md n<360:=by
 have:=c9q n;omega
theorem d4R {x:Int} (a:-360<x) (b:x<360):(md x:Int)=(x+360)%360:=by rw[c9q,c2W a b]
theorem f3g (n:Int):Int.tmod (wrap IntKind.i64 (Int.tmod n 360+360)) 360=(md n:Int):=by
 have:=c0R n;rw[w64 (by omega) (by omega),c9q,Int.tmod_eq_emod_of_nonneg (by omega)]
theorem a7x (n:Int):d4o (n,())=some ((md n:Int),()):=by
 unfold d4o;exact congrArg (fun z:Int=>some (z,())) (f3g n)
theorem b2B (n:Int):e2U (n,())=some ((md n:Int),()):=a7x n
def btw (a kb:Int):Int:=let v:Int:=(md ((md kb:Int)-(md a:Int)):Int);if v>360-v then 360-v else v
theorem c9r (a kb:Int):f1J (a,kb,())=some (btw a kb,()):=by
 unfold f1J;have i:=a8g a;have j:=a8g kb;have c:d4o (kb,())=some ((md kb:Int),()):=a7x kb;have d:d4o (a,())=some ((md a:Int),()):=a7x a;have e:d4o ((md kb:Int)-(md a:Int),())=some ((md ((md kb:Int)-(md a:Int)):Int),()):=a7x _;have k:=a8g ((md kb:Int)-(md a:Int));simp only[d9l,d9m,c,d,isSome_some,getD_some,cond_true];rw[w64 (by omega) (by omega)];simp only[e,isSome_some,getD_some,cond_true];have g:wrap IntKind.i64 (0-(md ((md kb:Int)-(md a:Int)):Int))=-(md ((md kb:Int)-(md a:Int)):Int):=by rw[w64 (by omega) (by omega)];omega
 rw[g];have f:d4o (-(md ((md kb:Int)-(md a:Int)):Int),())=some ((md (-(md ((md kb:Int)-(md a:Int)):Int)):Int),()):=a7x _;simp only[f,isSome_some,getD_some,cond_true];have h:=d4R (x := -(md ((md kb:Int)-(md a:Int)):Int)) (by omega) (by omega);have b:a3a (md ((md kb:Int)-(md a:Int)):Int) (md (-(md ((md kb:Int)-(md a:Int)):Int)):Int)=btw a kb:=by
  unfold btw a3a;generalize md ((md kb:Int)-(md a:Int))=v at *;rw[h];dsimp only;split<;>split<;>omega
 exact congrArg (fun z:Int=>some (z,())) b
theorem c9s (a kb:Int):e9R (a,kb,())=some (btw a kb,()):=by
 unfold e9R;have g:=a8g a;have h:=a8g kb;have b:e2U (kb,())=some ((md kb:Int),()):=b2B kb;have d:e2U (a,())=some ((md a:Int),()):=b2B a;have e:e2U ((md kb:Int)-(md a:Int),())=some ((md ((md kb:Int)-(md a:Int)):Int),()):=b2B _;have i:=a8g ((md kb:Int)-(md a:Int));simp only[e2V,e2W,b,d,isSome_some,getD_some,cond_true];rw[w64 (by omega) (by omega)];simp only[e,isSome_some,getD_some,cond_true];have f:wrap IntKind.i64 (360-(md ((md kb:Int)-(md a:Int)):Int))=360-(md ((md kb:Int)-(md a:Int)):Int):=w64 (by omega) (by omega);rw[f];unfold btw;generalize md ((md kb:Int)-(md a:Int))=v at *;dsimp only;by_cases c:(v:Int)>360-(v:Int)
 ·have:decide ((v:Int)>360-(v:Int))=true:=by simpa using c
  rw[this,if_pos c];rfl
 ·have:decide ((v:Int)>360-(v:Int))=false:=by simpa using c
  rw[this,if_neg c];rfl
theorem c9t (z w:Nat×Nat):f1w (z,w,())=some (b0W z w,()):=rfl
theorem c9u (z w:Nat×Nat):e9G (z,w,())=some (b0W z w,()):=rfl
theorem e4s (n:Int):f7j (n,())=some (a0W (md n),()):=by
 have g:=a8g n;have a:d4o (n,())=some ((md n:Int),()):=a7x n;have e:c0a (((4607182418800017408,0),(md n:Int),()),())=some ((a0W (md n),()),()):=by
  have:=a0Z (q:=b4A) (fun k=>((a0W k,((md n-k:Nat):Int),()),())) (md n) ((a0W (md n),()),()) ?_ ?_ (b9Z (((4607182418800017408,0),(md n:Int),()),())) ?_
  ·exact this
  ·intro k f h;unfold b4A;have b:decide (((md n-k:Nat):Int)>0)=true:=by simp;omega
   have c:wrap IntKind.i64 (((md n-k:Nat):Int)-1)=((md n-(k+1):Nat):Int):=by rw[w64 (by omega) (by omega)];omega
   have d:f1w (a0W k,(4607181046959943561,4580687535080594718),())=some (a0W (k+1),()):=c9t _ _;simp only[b,c,f1x,f1y,d,isSome_some,getD_some,cond_true]
  ·intro f;unfold b4A;simp
  ·simp only[b9Z];omega
 unfold f7j;simp only[d9l,d9m,a,c7S,c7T,e,isSome_some,getD_some,cond_true]
theorem e4t (n:Int):f6J (n,())=some (a0W (md n),()):=by
 have h:=a8g n;have a:e2U (n,())=some ((md n:Int),()):=b2B n;have g:b9s (((4607182418800017408,0),(md n:Int),()),())=some ((a0W (md n),()),()):=by
  have:=a0Z (q:=b4e) (fun k=>((a0W k,((md n-k:Nat):Int),()),())) (md n) ((a0W (md n),()),()) ?_ ?_ (b9r (((4607182418800017408,0),(md n:Int),()),())) ?_
  ·exact this
  ·intro k f i;unfold b4e;have b:decide (((md n-k:Nat):Int)>0)=true:=by simp;omega
   have c:wrap IntKind.i64 (((md n-k:Nat):Int)-1)=((md n-(k+1):Nat):Int):=by rw[w64 (by omega) (by omega)];omega
   have d:e9G (a0W k,b5a,())=some (a0W (k+1),()):=c9u _ _;have e:f6E ()=some (b5a,()):=rfl;simp only[b,c,e9E,e9F,e,e9H,e9I,d,isSome_some,getD_some,cond_true]
  ·intro f;unfold b4e;simp
  ·simp only[b9r];omega
 unfold f6J;simp only[e2V,e2W,a,c6y,c6z,g,isSome_some,getD_some,cond_true]
def b0k (z w:Nat×Nat):Nat:=a0a .add .f64 (a0a .mul .f64 z.1 w.1) (a0a .mul .f64 z.2 w.2)
def bm (z:Nat×Nat):Nat->Int×Nat
 |0=>(0,0)
 |k+1=>bif (k:Int)==0 then((k:Int),b0k z (a0W k))else bif fgt .f64 (b0k z (a0W k)) (bm z k).2 then((k:Int),b0k z (a0W k))else bm z k
theorem e4u (z:Nat×Nat) (k:Nat):f7e (((k:Int),a0W k,(),(),(),()),(z,(bm z k).2,(bm z k).1,()))=some ((),(z,(bm z (k+1)).2,(bm z (k+1)).1,())):=by
 unfold f7e;have a:f1v (z,a0W k,())=some (b0k z (a0W k),()):=rfl;simp only[e3F,d4k,a,isSome_some,getD_some,cond_true,bm];cases (k:Int)==0
 ·simp only[cond_false];cases fgt .f64 (b0k z (a0W k)) (bm z k).2<;>rfl
 ·rfl
theorem e4v (z:Nat×Nat):f7f (((),()),z,0,0,())=some ((),(z,(bm z 360).2,(bm z 360).1,())):=by
 have d:b9P (((),(4607182418800017408,0),0,()),(z,()),(0,()),(0,()),())=some ((),(z,()),((bm z 360).2,()),((bm z 360).1,()),()):=by
  have:=a0Z (q:=b4w) (fun k=>(((),a0W k,(k:Int),()),(z,()),((bm z k).2,()),((bm z k).1,()),())) 360 ((),(z,()),((bm z 360).2,()),((bm z 360).1,()),()) ?_ ?_ (b9O (((),(4607182418800017408,0),0,()),(z,()),(0,()),(0,()),())) ?_
  ·exact this
  ·intro k f e;unfold b4w;have a:decide ((k:Int)<360)=true:=by simp;omega
   have b:f1w (a0W k,(4607181046959943561,4580687535080594718),())=some (a0W (k+1),()):=c9t _ _;have c:=e4u z k;simp only[a,a1Z k (by omega),f1x,f1y,b,g2r,g2s,c,isSome_some,getD_some,cond_true]
  ·intro f;unfold b4w;simp
  ·simp[b9O]
 unfold f7f;simp only[c7I,c7J,d,isSome_some,getD_some,cond_true]
def c9v (z:Nat×Nat):Bool:=feq .f64 z.1 0&&feq .f64 z.2 0
def b2C (z:Nat×Nat):Int:=bif !a3G z then -1 else bif c9v z then -1 else(bm z 360).1
theorem e4w (z:Nat×Nat):f1A (z,())=some (b2C z,()):=by
 unfold f1A b2C;have a:F61 (z,())=some (a3G z,()):=a7O z;have b:=e4v z;simp only[K61,G61,a,g2w,g2x,b,isSome_some,getD_some,cond_true];show(bif !a3G z then some (-1,())else bif c9v z then some (-1,())else some ((bm z 360).1,()))=_;cases a3G z<;>cases c9v z<;>rfl
def bs (z:Nat×Nat):Nat->Int×Nat
 |0=>(0,b0k z (a0W 0))
 |k+1=>bif fgt .f64 (b0k z (a0W (k+1))) (bs z k).2 then(((k+1:Nat):Int),b0k z (a0W (k+1)))else bs z k
def gk (x g:Nat):Nat->Nat
 |0=>g
 |k+1=>a0a .quo .f64 (a0a .add .f64 (gk x g k) (a0a .quo .f64 x (gk x g k))) 4611686018427387904
def b2D (x:Nat):Nat:=bif (fgt .f64 x 4427486594234968593||feq .f64 x 4427486594234968593)then(bif !(flt .f64 x 4861130398305394688||feq .f64 x 4861130398305394688)then 0 else gk x (b2T .f64 x 4607182418800017408) 60)else 0
set_option maxRecDepth 100000 in
theorem e4x (x:Nat):f1E (x,())=some (b2D x,()):=by
 have b:b9S ((x,b2T .f64 x 4607182418800017408,0,()),())=some ((gk x (b2T .f64 x 4607182418800017408) 60,()),()):=by
  have:=a0Z (q:=b4x) (fun k=>((x,gk x (b2T .f64 x 4607182418800017408) k,(k:Int),()),())) 60 ((gk x (b2T .f64 x 4607182418800017408) 60,()),()) ?_ ?_ (b9R ((x,b2T .f64 x 4607182418800017408,0,()),())) ?_
  ·exact this
  ·intro k f c;unfold b4x;have a:decide ((k:Int)<60)=true:=by simp;omega
   simp only[a,a1Z k (by omega),cond_true];rfl
  ·intro f;unfold b4x;simp
  ·simp[b9R]
 unfold f1E b2D;simp only[c7K,c7L,b,isSome_some,getD_some,cond_true];generalize gk x (b2T .f64 x 4607182418800017408) 60=g;cases (fgt .f64 x 4427486594234968593||feq .f64 x 4427486594234968593)<;>cases (flt .f64 x 4861130398305394688||feq .f64 x 4861130398305394688)<;>rfl
def d2e (z:Nat×Nat):Nat:=bif !a3G z then 0 else b2D (b0k z z)
theorem e4y (z:Nat×Nat):f1G (z,())=some (d2e z,()):=by
 unfold f1G d2e;have a:F61 (z,())=some (a3G z,()):=a7O z;have b:f1v (z,z,())=some (b0k z z,()):=rfl;have c:f1E (b0k z z,())=some (b2D (b0k z z),()):=e4x _;simp only[K61,G61,a,e3F,d4k,b,g2I,g2J,c,isSome_some,getD_some,cond_true];cases a3G z<;>rfl
theorem h1V {a b:Nat} {x y q A ε:Rat} (f:IsR a x) (g:IsR b y) (j:y≠0) (i:q*y=x) (B:Int) (h:Abs q A) (n:A<=p2 B) (k:p2 (B-52)<=ε) (c:-1022<=B) (d:B<=1022) :
 ∃r,IsR (a0a .quo .f64 a b) r /\ b0V r q ε:=by
 obtain⟨o,p⟩:=h;obtain⟨r,e,l,m⟩:=g9l f g j i B c d (by grind) (by grind);exact⟨r,e,by grind,by grind⟩
theorem Abs.add {x y A B:Rat} (a:Abs x A) (b:Abs y B):Abs (x+y) (A+B):=⟨by have:=a.1;have:=b.1;grind,by have:=a.2;have:=b.2;grind⟩
theorem Abs.sub {x y A B:Rat} (a:Abs x A) (b:Abs y B):Abs (x-y) (A+B):=⟨by have:=a.1;have:=b.2;grind,by have:=a.2;have:=b.1;grind⟩
theorem b7m {w:Nat} (s:Bool) (m:Nat) (e:Int) (h:Ieee.double.read w = .number s m e) (a:-1074<=e) {q:Rat} (b:RV s m e=q):IsR w q:=⟨s,m,e,h,a,b.symm⟩
theorem e4z:IsR 0 0:=b7m false 0 (-1074) (by decide +kernel) (by decide) (a2X _ _)
theorem f3h:IsR 4607182418800017408 1:=b7m false 4503599627370496 (-52) (by decide +kernel) (by decide) (by decide +kernel)
theorem h1W:IsR 4611686018427387904 2:=b7m false 4503599627370496 (-51) (by decide +kernel) (by decide) (by decide +kernel)
theorem c9w:IsR 4726483295884279808 100000000:=b7m false 6710886400000000 (-26) (by decide +kernel) (by decide) (by decide +kernel)
theorem b0Y {w:Nat} {s:Bool} {m:Nat} {e:Int} (h:Ieee.double.read w = .number s m e):-1074<=e:=by
 unfold Ieee.Format.read at h;dsimp only at h;rw[e4i]at h;split at h
 ·cases h;exact Int.le_refl _
 ·split at h
  ·cases h;omega
  ·split at h<;>cases h
theorem e4A {s:Bool} {m:Nat} {e:Int} {A:Rat} (h:RV false m e<=A):Abs (RV s m e) A:=by
 have c:0<=(m:Rat)*p2 e:=Rat.mul_nonneg (a2w m) (Rat.le_of_lt (a0q e));have a:RV false m e=(m:Rat)*p2 e:=by
  unfold RV;have:sgR false=1:=rfl;rw[this];grind
 cases s
 ·rw[a]at h ⊢;constructor<;>grind
 ·have b:RV true m e=-((m:Rat)*p2 e):=by
   unfold RV;have:sgR true=-1:=rfl;rw[this];grind
  rw[a]at h;rw[b];constructor<;>grind
theorem g4O {w:Nat} (h:le8 (w%2^63)=true):∃x,IsR w x /\ Abs x 100000000:=by
 have a:=c0L w;cases hw:Ieee.double.read w with
 | number s m e =>
   rw[hw]at a;have c:=b0Y hw;have b:IsR (w%2^63) (RV false m e):=⟨false,m,e,a,c,rfl⟩;unfold le8 at h;rw[f8b b c9w,e7L b c9w]at h;simp only[Bool.or_eq_true,decide_eq_true_eq]at h;exact⟨_,⟨s,m,e,hw,c,rfl⟩,e4A (by grind)⟩
 | infinity s =>
   rw[hw]at a;exfalso;obtain⟨t,n,f,d,_,_⟩:=c9w;unfold le8 flt feq at h;have:FloatKind.f64.format.order (w%2^63) 4726483295884279808=some .gt:=by
    show(Ieee.double.read (w%2^63)).order (Ieee.double.read _)=_;rw[a,d];rfl
   rw[this]at h;cases h
 | nan s t =>
   rw[hw]at a;exfalso;unfold le8 flt feq at h;have:FloatKind.f64.format.order (w%2^63) 4726483295884279808=none:=by
    show(Ieee.double.read (w%2^63)).order (Ieee.double.read _)=_;rw[a];rfl
   rw[this]at h;cases h
theorem e0q {j:Nat} (a:j<360):Abs (tc j) (1000001/1000000) /\ Abs (ts j) (1000001/1000000):=by
 have h:=g4N a;have e:1+hh<=1000001/1000000:=by decide +kernel
 exact⟨h.1.mono e,h.2.mono e⟩
def TT:Nat:=2^1074
theorem e0r:0<TT:=Nat.two_pow_pos _
def b0Z (b:Nat) (v:Int):Prop:=∃(s:Bool) (m c:Nat),Ieee.double.read b = .number s m ((c:Int)-1074) /\ m<2^53 /\ VU s m c=v*(TT:Int)
theorem e0s (s:Bool) (m c:Nat):(VU s m c).natAbs=m*2^c:=by
 unfold VU;cases s
 ·rfl
 ·rw[if_pos rfl,Int.natAbs_neg];rfl
theorem b5d {b:Nat} {s:Bool} {m:Nat} {p:Int} (h:Ieee.double.read b = .number s m p):m<2^53:=by
 unfold Ieee.Format.read at h;dsimp only at h;rw[b7j,b7i]at h;split at h
 ·injection h with h1 h2 h3;omega
 ·split at h
  ·injection h with h1 h2 h3
   have:=Nat.mod_lt (b%Ieee.double.signWeight) (show 2^52>0 by decide);omega
  ·split at h<;>cases h
theorem b7n (neg:Bool) (p:Int):b0Z (Ieee.double.nearest neg 0 p) 0:=by
 obtain⟨c,c',a,b⟩:=a5B neg 0 0 (by decide) (.inl ⟨rfl,by decide⟩);refine⟨neg,c,c',?_,b5d a,?_⟩
 ·unfold Ieee.Format.nearest;rw[if_pos rfl];rw[Nat.zero_mul]at a;exact a
 ·rw[Nat.zero_mul]at b;rw[Int.zero_mul];have:=e0s neg c c';rw[b]at this;omega
theorem b7o (neg:Bool) (M c v:Nat) (b:0<M) (h:M*2^c=v*TT) (k:v<2^53):b0Z (Ieee.double.nearest neg M ((c:Int)-1074)) (if neg then -(v:Int)else v):=by
 obtain⟨K,e,d,f,g,i⟩:=d4N neg M c v b h k;obtain⟨m,c',a,j⟩:=a5B neg K e f g;refine⟨neg,m,c',by rw[d];exact a,b5d a,?_⟩;unfold VU;rw[j,i,h];cases neg
 ·simp
 ·simp[Int.neg_mul]
theorem c2X (neg:Bool) (M c:Nat) (w:Int) (h:VU neg M c=w*(TT:Int)) (g:w.natAbs<2^53):b0Z (Ieee.double.nearest neg M ((c:Int)-1074)) w:=by
 have a:=e0s neg M c;rw[h,Int.natAbs_mul,Int.natAbs_natCast]at a;by_cases f:M=0
 ·subst f;have:w.natAbs=0:=by
   rw[Nat.zero_mul]at a;rcases Nat.mul_eq_zero.1 a with h|h
   ·exact h
   ·exact absurd h (Nat.ne_of_gt e0r)
  have:w=0:=by omega
  rw[this];exact b7n _ _
 ·have:=b7o neg M c w.natAbs (by omega) a.symm g;have e:(if neg then -(w.natAbs:Int)else(w.natAbs:Int))=w:=by
   unfold VU at h;have d:(0:Int)<(TT:Int):=Int.natCast_pos.2 e0r;have i:(0:Int)<=((M*2^c:Nat):Int):=Int.natCast_nonneg _;cases neg
   ·simp only[Bool.false_eq_true,if_false]at h ⊢;have:0<=w:=by
     by_cases b:0<=w
     ·exact b
     ·have:=Int.mul_neg_of_neg_of_pos (show w<0 by omega) d;omega
    omega
   ·simp only[if_true]at h ⊢;have:w<=0:=by
     by_cases b:w<=0
     ·exact b
     ·have:=Int.mul_pos (show 0<w by omega) d;omega
    omega
  rw[e]at this;exact this
theorem c9x (n:Int) (h:n.natAbs<2^53):b0Z (nearest .f64 n) n:=by
 show b0Z (Ieee.double.nearest (decide (n<0)) n.natAbs 0) n;have:(0:Int)=((1074:Nat):Int)-1074:=by decide
 rw[this];refine c2X _ _ _ _ ?_ h;unfold VU;show(if decide (n<0)=true then -((n.natAbs*TT:Nat):Int)else((n.natAbs*TT:Nat):Int))=_;rw[Int.natCast_mul];by_cases a:n<0
 ·rw[if_pos (by simpa using a),<- Int.neg_mul];congr 1;omega
 ·rw[if_neg (by simpa using a)];congr 1;omega
theorem f3i {z:Nat} (f:fge z 0=true) (d:fle z 1120403456=true):∃s m e,Ieee.single.read z = .number s m e:=by
 unfold fge fle flt feq fgt at *;have i:FloatKind.f32.format.order z 1120403456=(Ieee.single.read z).order (Ieee.single.read 1120403456):=rfl;have k:∃s m e,Ieee.single.read 1120403456 = .number s m e:=⟨false,13107200,-17,by decide +kernel⟩;have j:FloatKind.f32.format.order z 0=(Ieee.single.read z).order (Ieee.single.read 0):=rfl;have l:∃s m e,Ieee.single.read 0 = .number s m e:=⟨false,0,-149,by decide +kernel⟩;obtain⟨s,m,e,h⟩:=k;obtain⟨s2,o,n,g⟩:=l;rw[i,h]at d;rw[j,g]at f;cases hz:Ieee.single.read z with
 |number a b c=>exact⟨a,b,c,rfl⟩
 |nan a b=>rw[hz]at d;simp[Ieee.Datum.order]at d
 | infinity a =>
   rw[hz]at f d;cases a<;>simp[Ieee.Datum.order]at f d
theorem c9y {x:Nat} (h:fgt .f32 x 0=true):fge x 0=true:=by unfold fge;rw[h];rfl
theorem d4S {x y:Nat} (g:∃s m e,Ieee.single.read x = .number s m e) (h:∃s m e,Ieee.single.read y = .number s m e) :
 ∃c:Ordering,FloatKind.f32.format.order x y=some c /\ FloatKind.f32.format.order y x=some c.swap:=by
 obtain⟨s,m,e,a⟩:=g;obtain⟨t,n,f,b⟩:=h;refine⟨_,by show(Ieee.single.read x).order (Ieee.single.read y)=_;rw[a,b];rfl,?_⟩;show(Ieee.single.read y).order (Ieee.single.read x)=_;rw[a,b];unfold Ieee.Datum.order;dsimp only;have d:min f e=min e f:=by omega
 rw[d];congr 1;rw[Int.compare_swap]
theorem c9z {x y:Nat} (d:∃s m e,Ieee.single.read x = .number s m e) (f:∃s m e,Ieee.single.read y = .number s m e):fge x y=fle y x /\ (fle x y=false->fge x y=true):=by
 obtain⟨c,a,b⟩:=d4S d f;unfold fge fle fgt flt feq;rw[a,b];cases c<;>exact⟨rfl,fun h=>by first|rfl|cases h⟩
structure POK (p:a5C):Prop where
 w1:1<=p.1.length
 w2:p.1.length<=12
 a1:2<=p.2.1.length
 a2:p.2.1.length<=24
 s:p.2.2.1.length=p.1.length
 wind:∀i,i<p.1.length->a3A p i=true
 ang:∀i,i<p.2.1.length->c2U p i=true
 first:aAt p 0=0
 last:aAt p (p.2.1.length-1)=180
 row:∀i,i<p.1.length->(rAt p i).length=p.2.1.length /\ a6W (rAt p i)=true
theorem pok {p:a5C} (h:a2k p=true):POK p:=by
 unfold a2k at h;simp only[and_eq_true,a0l,decide_eq_true_eq,beq_iff_eq]at h;obtain⟨⟨j,k⟩,⟨l,m⟩,c,d,e,f,g,a⟩:=h;refine⟨by omega,by omega,by omega,by omega,c,fun i b=>a0u.1 d i (zero_le _) (by omega),fun i b=>a0u.1 e i (zero_le _) (by omega),f,g,fun i b=>?_⟩;have:=a0u.1 a i (zero_le _) (by omega);unfold d2c at this;simpa only [and_eq_true,decide_eq_true_eq]using this
def f3j (s t q:Nat):Nat:=a0a .add .f32 s (a0a .mul .f32 (a0a .sub .f32 t s) q)
def e7N (p:a5C) (row:List Nat) (a:Int) (j:Nat):Nat:=bif aAt p j==a then row.getD j 0 else
 f3j (row.getD (j-1) 0) (row.getD j 0) (a0a .quo .f32 (nearest .f32 (IntKind.i64.wrap (a-aAt p (j-1)))) (nearest .f32 (IntKind.i64.wrap (aAt p j-aAt p (j-1)))))
def idx (p:a5C) (a:Int):Nat:=(a0r (fun j=>decide (a<=aAt p j)) 0 p.2.1.length).getD 0
def b5e (p:a5C) (row:List Nat) (a:Int):Nat:=e7N p row a (idx p a)
theorem c9A {p:a5C} (h:POK p) {a:Int} (f:a<=180):a0r (fun j=>decide (a<=aAt p j)) 0 p.2.1.length=some (idx p a) /\ idx p a<p.2.1.length /\ a<=aAt p (idx p a) /\ ∀i,i<idx p a->aAt p i<a:=by
 unfold idx;cases hf:a0r (fun j=>decide (a<=aAt p j)) 0 p.2.1.length with
 | none =>
   exfalso;have:=a1o.1 hf (p.2.1.length-1) (zero_le _) (by have:=h.a1;omega);simp only[decide_eq_false_iff_not]at this;have g:=h.last;omega
 | some j =>
   obtain⟨_,b,c,d⟩:=a0X hf;refine⟨rfl,by simpa using b,by simpa using c,fun i e=>?_⟩;have:=d i (zero_le _) e;simp only[decide_eq_false_iff_not]at this;omega
theorem b2E {p:a5C} (h:POK p) (row:List Nat) (a:Int) (F:row.length=p.2.1.length) (E:0<=a) (u:a<=180):d9s (p,row,a,())=some (b5e p row a,()):=by
 have w:=h.a1;have x:=h.a2;have D:=h.first
 have m:b0R ((row,a,(),p.2.1,(p.2.1.length:Int),(0:Int),()),(p,()))=some (match a0r (fun j=>decide (a<=aAt p j)) 0 p.2.1.length with|some j => .inr ((e7N p row a j,()),())|none => .inl ((),())):=by
  refine(a4g (q:=b4y) (fun k=>((row,a,(),p.2.1,(p.2.1.length:Int),(k:Int),()),(p,()))) p.2.1.length (fun j=>decide (a<=aAt p j)) (.inl ((),())) (fun j => .inr ((e7N p row a j,()),())) ?_ ?_ (b9U ((row,a,(),p.2.1,(p.2.1.length:Int),(0:Int),()),(p,()))) ?_:_)
  ·intro k f B;unfold b4y e7N;have n:decide ((k:Int)<(p.2.1.length:Int))=true:=by simpa using B
   have o:decide (0<=(k:Int))=true:=by simp
   have e:decide ((k:Int)<(row.length:Int))=true:=by simp;omega
   have v:getD p.2.1 k (zero (Ty.int IntKind.i64))=aAt p k:=rfl;have y:getD row k (zero (Ty.flt FloatKind.f32))=row.getD k 0:=rfl;simp only[a1Z k (by omega),n,e,o,Bool.and_self,cond_true,toNat_natCast,v,y];cases c:(aAt p k==a)
   ·simp only[cond_false];have C:aAt p k≠a:=by simpa using c
    by_cases b:aAt p k>a
    ·have l:0<k:=by
      rcases Nat.eq_zero_or_pos k with i|i
      ·rw[i]at b;omega
      ·exact i
     have g:decide (aAt p k>a)=true:=by simpa using b
     have r:decide (0<=((k-1:Nat):Int))=true:=by simp
     have s:decide (((k-1:Nat):Int)<(p.2.1.length:Int))=true:=by simp;omega
     have t:decide (((k-1:Nat):Int)<(row.length:Int))=true:=by simp;omega
     have d:decide (a<=aAt p k)=true:=by simp;omega
     have z:getD p.2.1 (k-1) (zero (Ty.int IntKind.i64))=aAt p (k-1):=rfl;have hd:getD row (k-1) (zero (Ty.flt FloatKind.f32))=row.getD (k-1) 0:=rfl;rw[d];simp only[g,cond_true,d2d k l (by omega),r,s,t,Bool.and_self,toNat_natCast,z,hd];rfl
    ·have g:decide (aAt p k>a)=false:=by simpa using b
     have d:decide (a<=aAt p k)=false:=by simp;omega
     rw[d];simp only[g,cond_false]
   ·have:aAt p k=a:=by simpa using c
    have d:decide (a<=aAt p k)=true:=by simp;omega
    rw[d];rfl
  ·intro f;unfold b4y;simp
  ·simp only[b9U];omega
 obtain⟨A,_⟩:=c9A h u;rw[A]at m;unfold d9s;simp only[c7N,c7O,c7P,m,isSome_some,cond_true];rfl
theorem b2F {p:a5C} (h:POK p) (row:List Nat) (a:Int) (E:row.length=p.2.1.length) (D:0<=a) (t:a<=180):d7K (p.2.1,row,a,())=some (b5e p row a,()):=by
 have u:=h.a1;have v:=h.a2;have C:=h.first
 obtain⟨_,F,A,B⟩:=c9A h t;unfold b5e;generalize idx p a=j at *;have z:b9n ((p.2.1,row,a,(0:Int),()),())=some ((p.2.1,row,a,(j:Int),()),()):=by
  refine(a0Z (q:=b4d) (fun k=>((p.2.1,row,a,(k:Int),()),())) j ((p.2.1,row,a,(j:Int),()),()) ?_ ?_ (b9m ((p.2.1,row,a,(0:Int),()),())) ?_:_)
  ·intro k f y;unfold b4d;have b:decide ((k:Int)<(p.2.1.length:Int))=true:=by simp;omega
   have d:decide (0<=(k:Int))=true:=by simp
   have e:getD p.2.1 k (zero (Ty.int IntKind.i64))=aAt p k:=rfl;have i:decide (aAt p k<a)=true:=by simpa using B k y
   simp only[a1Z k (by omega),b,d,Bool.and_self,cond_true,toNat_natCast,e,i]
  ·intro f;unfold b4d;have b:decide ((j:Int)<(p.2.1.length:Int))=true:=by simp;omega
   have d:decide (0<=(j:Int))=true:=by simp
   have e:getD p.2.1 j (zero (Ty.int IntKind.i64))=aAt p j:=rfl;have i:decide (aAt p j<a)=false:=by simp;omega
   simp only[b,d,Bool.and_self,cond_true,toNat_natCast,e,i,cond_false]
  ·simp only[b9m];omega
 unfold d7K e7N;have b:decide ((j:Int)<(p.2.1.length:Int))=true:=by simp;omega
 have g:decide ((j:Int)<(row.length:Int))=true:=by simp;omega
 have d:decide (0<=(j:Int))=true:=by simp
 have e:getD p.2.1 j (zero (Ty.int IntKind.i64))=aAt p j:=rfl;have w:getD row j (zero (Ty.flt FloatKind.f32))=row.getD j 0:=rfl;simp only[c6t,c6u,z,isSome_some,getD_some,cond_true,b,g,d,Bool.and_self,toNat_natCast,e,w];cases c:(aAt p j==a)
 ·have n:aAt p j≠a:=by simpa using c
  have m:0<j:=by
   rcases Nat.eq_zero_or_pos j with l|l
   ·rw[l]at A n;omega
   ·exact l
  have o:decide (0<=((j-1:Nat):Int))=true:=by simp
  have r:decide (((j-1:Nat):Int)<(p.2.1.length:Int))=true:=by simp;omega
  have s:decide (((j-1:Nat):Int)<(row.length:Int))=true:=by simp;omega
  have x:getD p.2.1 (j-1) (zero (Ty.int IntKind.i64))=aAt p (j-1):=rfl;have hd:getD row (j-1) (zero (Ty.flt FloatKind.f32))=row.getD (j-1) 0:=rfl;simp only[cond_false,d2d j m (by omega),o,r,s,Bool.and_self,cond_true,toNat_natCast,x,hd];rfl
 ·rfl
def c3Y (p:a5C) (wind:Nat):Nat:=(a0r (fun k=>!fle (wAt p (k+1)) wind) 0 (p.1.length-1)).getD 0
def a7Q (p:a5C) (wind:Nat) (a:Int):Nat:=
 bif fle wind (wAt p 0)then a0a .mul .f32 (a0a .quo .f32 wind (wAt p 0)) (b5e p (rAt p 0) a)
 else bif fge wind (wAt p (p.1.length-1))then b5e p (rAt p (p.1.length-1)) a
 else f3j (b5e p (rAt p (c3Y p wind)) a) (b5e p (rAt p (c3Y p wind+1)) a) (a0a .quo .f32 (a0a .sub .f32 wind (wAt p (c3Y p wind))) (a0a .sub .f32 (wAt p (c3Y p wind+1)) (wAt p (c3Y p wind))))
theorem g9o {p:a5C} (h:POK p) {i:Nat} (a:i<p.1.length):∃s m e,Ieee.single.read (wAt p i) = .number s m e:=by
 have:=h.wind i a;unfold a3A at this;simp only[and_eq_true]at this;exact f3i (c9y this.1.1) this.1.2
theorem b7p {p:a5C} (h:POK p) {wind:Nat} (b:fge wind 0=true) (d:fle wind 1120403456=true) (l:fle wind (wAt p 0)=false) (a:fge wind (wAt p (p.1.length-1))=false) :
 c3Y p wind+1<p.1.length /\ fle (wAt p (c3Y p wind+1)) wind=false /\ ∀i,i<c3Y p wind->fle (wAt p (i+1)) wind=true:=by
 have f:=f3i b d;have r:=h.w1;unfold c3Y;cases hf:a0r (fun k=>!fle (wAt p (k+1)) wind) 0 (p.1.length-1)with
 | none =>
   exfalso;by_cases c:p.1.length=1
   ·rw[c]at a;have:=(c9z f (g9o h (i:=0) (by omega))).2 l;rw[this]at a;cases a
   ·have:=a1o.1 hf (p.1.length-2) (zero_le _) (by omega);have e:p.1.length-2+1=p.1.length-1:=by omega
    rw[e]at this;have g:=(c9z f (g9o h (i:=p.1.length-1) (by omega))).1;rw[g]at a;rw[a]at this;cases this
 | some j =>
   obtain⟨_,q,m,n⟩:=a0X hf;show j+1<p.1.length /\ fle (wAt p (j+1)) wind=false /\ ∀i,i<j->fle (wAt p (i+1)) wind=true;refine⟨by omega,by simpa using m,fun i o=>?_⟩;have:=n i (zero_le _) o;simpa using this
theorem e4B {p:a5C} (h:POK p) (wind:Nat) (a:Int) (t:fge wind 0=true) (u:fle wind 1120403456=true) (g:0<=a) (i:a<=180):f1L (p,wind,a,())=some (a7Q p wind a,()):=by
 have J:=h.w1;have G:=h.w2;have K:=h.s;unfold f1L a7Q;have v:decide ((0:Int)<(p.1.length:Int))=true:=by simp;omega
 have l:decide ((0:Int)<(p.2.2.1.length:Int))=true:=by simp;omega
 have b:getD p.1 0 (zero (Ty.flt FloatKind.f32))=wAt p 0:=rfl;have r:getD p.2.2.1 0 (zero (Ty.slice (Ty.flt FloatKind.f32)))=rAt p 0:=rfl;have y:d9s (p,rAt p 0,a,())=some (b5e p (rAt p 0) a,()):=b2E h _ _ (h.row 0 (by omega)).1 g i;have C:wrap IntKind.i64 ((p.1.length:Int)-1)=((p.1.length-1:Nat):Int):=d2d _ (by omega) (by omega);have D:decide (((p.1.length-1:Nat):Int)<(p.1.length:Int))=true:=by simp;omega
 have o:decide (((p.1.length-1:Nat):Int)<(p.2.2.1.length:Int))=true:=by simp;omega
 have E:decide (0<=((p.1.length-1:Nat):Int))=true:=by simp
 have s:getD p.1 (p.1.length-1) (zero (Ty.flt FloatKind.f32))=wAt p (p.1.length-1):=rfl;have hd:getD p.2.2.1 (p.1.length-1) (zero (Ty.slice (Ty.flt FloatKind.f32)))=rAt p (p.1.length-1):=rfl;have z:d9s (p,rAt p (p.1.length-1),a,())=some (b5e p (rAt p (p.1.length-1)) a,()):=b2E h _ _ (h.row _ (by omega)).1 g i;simp only[v,l,C,D,o,E,Bool.and_self,toNat_natCast,Int.toNat_zero,b,r,s,hd,e7B,e7C,y,z,isSome_some,getD_some,cond_true,Nat.le_refl,decide_true,Bool.true_and];show(bif fle wind (wAt p 0)then _ else bif fge wind (wAt p (p.1.length-1))then _ else _)=_;cases c1:fle wind (wAt p 0)
 rotate_left
 ·rfl
 cases c2:fge wind (wAt p (p.1.length-1))
 rotate_left
 ·rfl
 obtain⟨L,H,I⟩:=b7p h t u c1 c2;generalize c3Y p wind=j at *;have c:b9X ((wind,a,(),(0:Int),()),(p,()))=some ((wind,a,(),(j:Int),()),(p,())):=by
  refine(a0Z (q:=b4z) (fun k=>((wind,a,(),(k:Int),()),(p,()))) j ((wind,a,(),(j:Int),()),(p,())) ?_ ?_ (b9W ((wind,a,(),(0:Int),()),(p,()))) ?_:_)
  ·intro k f F;unfold b4z;have d:decide (((k+1:Nat):Int)<(p.1.length:Int))=true:=by simp;omega
   have e:decide (0<=((k+1:Nat):Int))=true:=by simp;omega
   have b:getD p.1 (k+1) (zero (Ty.flt FloatKind.f32))=wAt p (k+1):=rfl;simp only[a1Z k (by omega),d,e,Bool.and_self,cond_true,toNat_natCast,b];show(bif fle (wAt p (k+1)) wind then _ else _)=_;rw[I k F];rfl
  ·intro f;unfold b4z;have d:decide (((j+1:Nat):Int)<(p.1.length:Int))=true:=by simp;omega
   have e:decide (0<=((j+1:Nat):Int))=true:=by simp;omega
   have b:getD p.1 (j+1) (zero (Ty.flt FloatKind.f32))=wAt p (j+1):=rfl;simp only[a1Z j (by omega),d,e,Bool.and_self,cond_true,toNat_natCast,b];show(bif fle (wAt p (j+1)) wind then _ else _)=_;rw[H];rfl
  ·simp only[b9W];omega
 have d:decide (((j+1:Nat):Int)<(p.1.length:Int))=true:=by simp;omega
 have m:decide (((j+1:Nat):Int)<(p.2.2.1.length:Int))=true:=by simp;omega
 have e:decide (0<=((j+1:Nat):Int))=true:=by simp;omega
 have w:decide ((j:Int)<(p.1.length:Int))=true:=by simp;omega
 have n:decide ((j:Int)<(p.2.2.1.length:Int))=true:=by simp;omega
 have x:decide (0<=(j:Int))=true:=by simp
 have b:getD p.1 (j+1) (zero (Ty.flt FloatKind.f32))=wAt p (j+1):=rfl;have r:getD p.1 j (zero (Ty.flt FloatKind.f32))=wAt p j:=rfl;have s:getD p.2.2.1 j (zero (Ty.slice (Ty.flt FloatKind.f32)))=rAt p j:=rfl;have hd:getD p.2.2.1 (j+1) (zero (Ty.slice (Ty.flt FloatKind.f32)))=rAt p (j+1):=rfl;have A:d9s (p,rAt p j,a,())=some (b5e p (rAt p j) a,()):=b2E h _ _ (h.row _ (by omega)).1 g i;have B:d9s (p,rAt p (j+1),a,())=some (b5e p (rAt p (j+1)) a,()):=b2E h _ _ (h.row _ (by omega)).1 g i;simp only[c7Q,c7R,c,isSome_some,getD_some,cond_true,cond_false,a1Z j (by omega),d,m,e,w,n,x,Bool.and_self,toNat_natCast,b,r,s,hd,A,B];rfl
def b1a (p:a5C) (wind:Nat) (a:Int):Nat×Bool×Unit:=bif a2k p&&(fge wind 0&&(fle wind 1120403456&&a0l a 0 180))then(a7Q p wind a,true,())else(0,false,())
theorem e4C (p:a5C) (wind:Nat) (a:Int):f7g (p,wind,a,())=some (b1a p wind a):=by
 unfold f7g b1a;have b:F90 (p,())=some (a2k p,()):=e0o p;have c:F44 (a,0,180,())=some (a0l a 0 180,()):=a2P _ _ _;simp only[K90,G90,b,K44,G44,c,isSome_some,getD_some,cond_true];show(bif !a2k p then _ else bif fge wind 0 then bif !fle wind 1120403456 then _ else bif !a0l a 0 180 then _ else _ else _)=_;cases c1:a2k p
 ·rfl
 cases c2:fge wind 0
 ·rfl
 cases c3:fle wind 1120403456
 ·rfl
 cases c4:a0l a 0 180
 ·rfl
 simp only[a0l,and_eq_true,decide_eq_true_eq]at c4;have d:f1L (p,wind,a,())=some (a7Q p wind a,()):=e4B (pok c1) wind a c2 c3 c4.1 c4.2;simp only[g2Y,g2Z,d,isSome_some,getD_some,cond_true];rfl
theorem e4D (p:a5C) (wind:Nat) (a:Int):f6F (p,wind,a,())=some (b1a p wind a):=by
 unfold f6F b1a;have b:F99 (p,())=some (a2k p,()):=e0p p;have c:F51 (a,0,180,())=some (a0l a 0 180,()):=a1F _ _ _;simp only[K99,G99,b,K51,G51,c,isSome_some,getD_some,cond_true];show(bif !a2k p then _ else bif fge wind 0 then bif !fle wind 1120403456 then _ else bif !a0l a 0 180 then _ else _ else _)=_;cases c1:a2k p
 ·rfl
 cases hw1:fge wind 0
 ·rfl
 cases hw2:fle wind 1120403456
 ·rfl
 cases c4:a0l a 0 180
 ·rfl
 simp only[a0l,and_eq_true,decide_eq_true_eq]at c4;obtain⟨g,i⟩:=c4;have h:=pok c1;have H:=h.w1;have E:=h.w2;have I:=h.s;unfold a7Q;have t:decide ((0:Int)<(p.1.length:Int))=true:=by simp;omega
 have l:decide ((0:Int)<(p.2.2.1.length:Int))=true:=by simp;omega
 have d:getD p.1 0 (zero (Ty.flt FloatKind.f32))=wAt p 0:=rfl;have r:getD p.2.2.1 0 (zero (Ty.slice (Ty.flt FloatKind.f32)))=rAt p 0:=rfl;have w:d7K (p.2.1,rAt p 0,a,())=some (b5e p (rAt p 0) a,()):=b2F h _ _ (h.row 0 (by omega)).1 g i;have A:wrap IntKind.i64 ((p.1.length:Int)-1)=((p.1.length-1:Nat):Int):=d2d _ (by omega) (by omega);have B:decide (((p.1.length-1:Nat):Int)<(p.1.length:Int))=true:=by simp;omega
 have o:decide (((p.1.length-1:Nat):Int)<(p.2.2.1.length:Int))=true:=by simp;omega
 have C:decide (0<=((p.1.length-1:Nat):Int))=true:=by simp
 have s:getD p.1 (p.1.length-1) (zero (Ty.flt FloatKind.f32))=wAt p (p.1.length-1):=rfl;have hd:getD p.2.2.1 (p.1.length-1) (zero (Ty.slice (Ty.flt FloatKind.f32)))=rAt p (p.1.length-1):=rfl;have x:d7K (p.2.1,rAt p (p.1.length-1),a,())=some (b5e p (rAt p (p.1.length-1)) a,()):=b2F h _ _ (h.row _ (by omega)).1 g i;simp only[Bool.not_true,cond_false,cond_true,Bool.true_and,t,l,A,B,o,C,Bool.and_self,toNat_natCast,Int.toNat_zero,d,r,s,hd,e7m,e7n,w,x,isSome_some,getD_some,Nat.le_refl,decide_true];show(bif fle wind (wAt p 0)then _ else bif fge wind (wAt p (p.1.length-1))then _ else _)=_;cases c1:fle wind (wAt p 0)
 rotate_left
 ·rfl
 cases c2:fge wind (wAt p (p.1.length-1))
 rotate_left
 ·rfl
 obtain⟨J,F,G⟩:=b7p h hw1 hw2 c1 c2;generalize c3Y p wind=j at *;have e:b2j ((wind,a,(),(0:Int),()),(p,()))=some ((wind,a,(),(j:Int),()),(p,())):=by
  refine(a0Z (q:=a9k) (fun k=>((wind,a,(),(k:Int),()),(p,()))) j ((wind,a,(),(j:Int),()),(p,())) ?_ ?_ (b2i ((wind,a,(),(0:Int),()),(p,()))) ?_:_)
  ·intro k f D;unfold a9k;have b:decide (((k+1:Nat):Int)<(p.1.length:Int))=true:=by simp;omega
   have c:decide (0<=((k+1:Nat):Int))=true:=by simp;omega
   have d:getD p.1 (k+1) (zero (Ty.flt FloatKind.f32))=wAt p (k+1):=rfl;simp only[a1Z k (by omega),b,c,Bool.and_self,cond_true,toNat_natCast,d];show(bif fle (wAt p (k+1)) wind then _ else _)=_;rw[G k D];rfl
  ·intro f;unfold a9k;have b:decide (((j+1:Nat):Int)<(p.1.length:Int))=true:=by simp;omega
   have c:decide (0<=((j+1:Nat):Int))=true:=by simp;omega
   have d:getD p.1 (j+1) (zero (Ty.flt FloatKind.f32))=wAt p (j+1):=rfl;simp only[a1Z j (by omega),b,c,Bool.and_self,cond_true,toNat_natCast,d];show(bif fle (wAt p (j+1)) wind then _ else _)=_;rw[F];rfl
  ·simp only[b2i];omega
 have b:decide (((j+1:Nat):Int)<(p.1.length:Int))=true:=by simp;omega
 have m:decide (((j+1:Nat):Int)<(p.2.2.1.length:Int))=true:=by simp;omega
 have c:decide (0<=((j+1:Nat):Int))=true:=by simp;omega
 have u:decide ((j:Int)<(p.1.length:Int))=true:=by simp;omega
 have n:decide ((j:Int)<(p.2.2.1.length:Int))=true:=by simp;omega
 have v:decide (0<=(j:Int))=true:=by simp
 have d:getD p.1 (j+1) (zero (Ty.flt FloatKind.f32))=wAt p (j+1):=rfl;have r:getD p.1 j (zero (Ty.flt FloatKind.f32))=wAt p j:=rfl;have s:getD p.2.2.1 j (zero (Ty.slice (Ty.flt FloatKind.f32)))=rAt p j:=rfl;have hd:getD p.2.2.1 (j+1) (zero (Ty.slice (Ty.flt FloatKind.f32)))=rAt p (j+1):=rfl;have y:d7K (p.2.1,rAt p j,a,())=some (b5e p (rAt p j) a,()):=b2F h _ _ (h.row _ (by omega)).1 g i;have z:d7K (p.2.1,rAt p (j+1),a,())=some (b5e p (rAt p (j+1)) a,()):=b2F h _ _ (h.row _ (by omega)).1 g i;simp only[b9o,b9p,e,isSome_some,getD_some,cond_true,cond_false,a1Z j (by omega),b,m,c,u,n,v,Bool.and_self,toNat_natCast,d,r,s,hd,y,z];rfl
theorem c9B {v:Rat} (d:p2 (-1000)<=v) (b:v<p2 1000):∃B:Int,-1000<=B /\ B<=1000 /\ p2 B<=v /\ v<p2 (B+1):=by
 have ex:∃k:Nat,v<p2 ((k:Int)-999):=⟨1999,by show v<p2 1000;exact b⟩
 classical
 have a:∀n:Nat,v<p2 ((n:Int)-999)->n<=1999->∃B:Int,-1000<=B /\ B<=1000 /\ p2 B<=v /\ v<p2 (B+1):=by
  intro n
  induction n with
  |zero=>intro h _;exact⟨-1000,by omega,by omega,d,by simpa using h⟩
  | succ n f =>
    intro h g;by_cases c:v<p2 ((n:Int)-999)
    ·exact f c (by omega)
    ·refine⟨(n:Int)-999,by omega,by omega,by grind,?_⟩;have e:((n:Int)-999)+1=((n+1:Nat):Int)-999:=by omega
     rw[e];exact h
 exact a 1999 (by show v<p2 1000;exact b) (Nat.le_refl _)
theorem f3k {a b:Nat} {x y:Rat} (j:IsR a x) (k:IsR b y) (g:p2 (-1000)<=x+y) (h:x+y<p2 1000):∃r,IsR (a0a .add .f64 a b) r /\ b0V r (x+y) ((x+y)/1000000000000000):=by
 obtain⟨B,n,o,c,d⟩:=c9B g h;have s:=a0q (B+1);have l:=a0q (-1000);obtain⟨r,i,p,q⟩:=h1T j k B (by omega) (by omega) d (by grind);have e:p2 (B-53)=p2 B*p2 (-53):=by rw[Int.sub_eq_add_neg,a0N]
 have f:p2 (-53)<=1/1000000000000000:=by decide +kernel
 have m:=Rat.mul_le_mul_of_nonneg_left f (show 0<=p2 B from Rat.le_of_lt (a0q B));have t:=a0s c (show(0:Rat)<=1/1000000000000000 by decide +kernel);exact⟨r,i,by grind,by grind⟩
theorem e0t {a b:Nat} {x y q:Rat} (i:IsR a x) (j:IsR b y) (n:y≠0) (l:q*y=x) (f:p2 (-1000)<=q) (g:q<p2 1000):∃r,IsR (a0a .quo .f64 a b) r /\ b0V r q (q/1000000000000000):=by
 obtain⟨B,o,p,c,s⟩:=c9B f g;have v:=a0q (B+1);have k:=a0q (-1000);obtain⟨r,h,t,u⟩:=g9l i j n l (B+1) (by omega) (by omega) (by grind) (by grind);have e:p2 (B+1-52)=p2 B*p2 (-51):=by rw[<- a0N];congr 1;omega
 have d:p2 (-51)<=1/1000000000000000:=by decide +kernel
 have m:=Rat.mul_le_mul_of_nonneg_left d (show 0<=p2 B from Rat.le_of_lt (a0q B));have w:=a0s c (show(0:Rat)<=1/1000000000000000 by decide +kernel);exact⟨r,h,by grind,by grind⟩
theorem a5D {z g:Rat} (a:0<g) (c:0<=z*g):0<=z:=by
 apply Classical.byContradiction;intro b;have:=Rat.mul_pos (show 0 < -z by grind) a;grind
theorem a6X {z M x:Rat} (c:1/10000000000000<=x) (a:2<=M) (b:M<=1000000000000000000) (g:0<=z*M-x):4*p2 (-1000)<=z:=by
 have e:4*p2 (-1000)<=1/10000000000000000000000000000000000:=by decide +kernel
 apply Classical.byContradiction;intro f;have d:=Rat.mul_nonneg (show 0<=1/10000000000000000000000000000000000-z by grind) (show 0<=M by grind);grind
theorem c9C {x g M:Rat} {w v:Nat} (F:IsR w x) (t:IsR v g) (d:1/10000000000000<=x) (a:2<=M) (A:2*x<=M) (b:M<=1000000000000000000) (P:x<=g*M) (Q:g<=M) (f:0<g) :
 ∃k,IsR (a0a .quo .f64 (a0a .add .f64 v (a0a .quo .f64 w v)) 4611686018427387904) k /\ x<=k*M /\ k<=M /\ 0<k:=by
 have i:g≠0:=by grind
 obtain⟨q0,l⟩:∃q0,q0=x/g:=⟨_,rfl⟩;have j:q0*g=x:=by rw[l];grind
 have C:0<=M-q0:=a5D f (by grind);have h:0<=q0*M-x:=by
  have:0<=q0:=a5D f (by rw[j];grind);have:=Rat.mul_nonneg this (show 0<=M-g by grind);grind
 have y:(4000000000000000000:Rat)<p2 1000:=by decide +kernel
 obtain⟨q,B,H,I⟩:=e0t F t i j (by have:=a6X d a b h;have:=a0q (-1000);grind) (by grind);have o:p2 (-1000)<=g+q:=by
  have:=a6X (z:=g) d a b (by grind);have:=a6X d a b h;have:=a0q (-1000);grind
 obtain⟨s,E,L,N⟩:=f3k t B o (by grind);have p:p2 (-1000)<=s/2:=by
  have e:=a6X (z:=g) d a b (by grind);have O:=a6X d a b h;have:=a0q (-1000);grind
 obtain⟨r,D,J,K⟩:=e0t (q:=s/2) E h1W (by decide) (by grind) p (by grind);have R:3*x<=(g+q0)*M:=by
  by_cases c:1<=g
  ·have m:=Rat.mul_nonneg (show 0<=g-1 by grind) (show 0<=M by grind);grind
  ·have m:0<=q0-x:=a5D f (by
    have:=Rat.mul_nonneg (show 0<=x by grind) (show 0<=1-g by grind);grind)
   have u:=Rat.mul_nonneg m (show 0<=M by grind);have G:=Rat.mul_nonneg (show 0<=x by grind) (show 0<=M-2 by grind);grind
 have S:g+q0<=M+1/2:=by
  have m:=Rat.mul_nonneg (show 0<=M-g by grind) (show 0<=g*M-x by grind);have u:0<=(M*M+x-g*M-q0*M)*g:=by
   have:(M*M+x-g*M-q0*M)*g=(M-g)*(g*M-x):=by grind
   rw[this];exact m
  have G:=a5D f u;apply Classical.byContradiction;intro T;have U:=Rat.mul_pos (show 0<g+q0-M-1/2 by grind) (show 0<M by grind);grind
 have n:(g+q0)/2*(1-4/1000000000000000)<=r:=by grind
 refine⟨r,D,?_,by grind,?_⟩
 ·have m:=a0s n (show 0<=M by grind);grind
 ·grind
theorem c0S {w v:Nat} {x g M:Rat} (l:IsR w x) (j:IsR v g) (e:1/10000000000000<=x) (a:2<=M) (b:2*x<=M) (c:M<=1000000000000000000) (h:x<=g*M) (i:g<=M) (d:0<g):∀k,∃f,IsR (gk w v k) f /\ x<=f*M /\ f<=M /\ 0<f
 |0=>⟨g,j,h,i,d⟩
 | k+1=>by
   obtain⟨o,a1,a2,m,n⟩:=c0S l j e a b c h i d k;exact c9C l a1 e a b c a2 m n
theorem g9p:∃q,IsR 4427486594234968593 q /\ 1/10000000000000<=q:=by
 have h:∃m e,Ieee.double.read 4427486594234968593 = .number false m e /\ -1074<=e /\ 1/10000000000000<=RV false m e:=by
  refine⟨(match Ieee.double.read 4427486594234968593 with|.number _ m _=>m|_=>0),(match Ieee.double.read 4427486594234968593 with|.number _ _ e=>e|_=>0),?_,?_,?_⟩<;>decide +kernel
 obtain⟨m,e,a,b,c⟩:=h;exact⟨_,⟨false,m,e,a,b,rfl⟩,c⟩
theorem f3l:∃q,IsR 4861130398305394688 q /\ 1<=q /\ q<=200000000000000000:=by
 have h:∃m e,Ieee.double.read 4861130398305394688 = .number false m e /\ -1074<=e /\ 1<=RV false m e /\ RV false m e<=200000000000000000:=by
  refine⟨(match Ieee.double.read 4861130398305394688 with|.number _ m _=>m|_=>0),(match Ieee.double.read 4861130398305394688 with|.number _ _ e=>e|_=>0),?_,?_,?_,?_⟩<;>decide +kernel
 obtain⟨m,e,a,b,c,d⟩:=h;exact⟨_,⟨false,m,e,a,b,rfl⟩,c,d⟩
theorem f3m {w c d:Nat} {x y:Rat} (j:IsR c x) (hd:IsR d y) (h:(fgt .f64 w c||feq .f64 w c)=true) (g:(flt .f64 w d||feq .f64 w d)=true):∃q,IsR w q:=by
 obtain⟨s,m,e,k,_,_⟩:=j;obtain⟨t,n,f,i,_,_⟩:=hd;have l:FloatKind.f64.format.order w c=(Ieee.double.read w).order (Ieee.double.read c):=rfl;have o:FloatKind.f64.format.order w d=(Ieee.double.read w).order (Ieee.double.read d):=rfl;unfold fgt feq flt at *;rw[l,k]at h;rw[o,i]at g;cases hz:Ieee.double.read w with
 |number a b p=>exact⟨_,a,b,p,hz,b0Y hz,rfl⟩
 |nan a b=>rw[hz]at g;simp[Ieee.Datum.order]at g
 | infinity a =>
   rw[hz]at h g;cases a<;>simp[Ieee.Datum.order]at h g
theorem d4T (w:Nat):∃r,IsR (b2D w) r /\ Abs r 1000000000000000000:=by
 have f:∃r,IsR 0 r /\ Abs r 1000000000000000000:=⟨0,e4z,by constructor<;>decide +kernel⟩;obtain⟨o,b,l⟩:=g9p;obtain⟨p,d,m,n⟩:=f3l;unfold b2D;generalize i:gk w (b2T .f64 w 4607182418800017408) 60=G;cases h1:(fgt .f64 w 4427486594234968593||feq .f64 w 4427486594234968593)
 ·exact f
 cases h2:(flt .f64 w 4861130398305394688||feq .f64 w 4861130398305394688)
 ·exact f
 obtain⟨x,a⟩:=f3m b d h1 h2;rw[g4K a b,e7L a b]at h1;rw[f8b a d,e7L a d]at h2;simp only[Bool.or_eq_true,decide_eq_true_eq]at h1 h2;show ∃r,IsR G r /\ _;have k:∃g,IsR (b2T .f64 w 4607182418800017408) g /\ 1<=g /\ x<=g /\ (g=x∨g=1):=by
  unfold b2T;rw[f3e a f3h];by_cases c:x<1
  ·rw[if_pos c];exact⟨1,f3h,by grind,by grind,.inr rfl⟩
  ·rw[if_neg c];by_cases c':1<x
   ·rw[if_pos c'];exact⟨x,a,by grind,by grind,.inl rfl⟩
   ·rw[if_neg c'];have:x=1:=by grind
    dsimp only;split
    ·exact⟨1,f3h,by grind,by grind,.inr rfl⟩
    ·exact⟨x,a,by grind,by grind,.inl rfl⟩
 obtain⟨g,j,q,s,t⟩:=k;have e:x<=g*(2*g):=by
  have:=Rat.mul_nonneg (show 0<=g-1 by grind) (show 0<=g by grind);grind
 obtain⟨r,h,u,v,y⟩:=c0S (M:=2*g) a j (by grind) (by grind) (by grind) (by grind) e (by grind) (by grind) 60;rw[i]at h;exact⟨r,h,by constructor<;>grind⟩
theorem e4E (z:Nat×Nat):∃r,IsR (d2e z) r /\ Abs r 1000000000000000000:=by
 unfold d2e;cases a3G z
 ·exact⟨0,e4z,by constructor<;>decide +kernel⟩
 ·exact d4T _
theorem a6Y {b:Nat} {q:Rat} (h:IsR b q) (c:Abs q 1000000000000000000):a1T b=true:=by
 obtain⟨s,m,e,g,l,rfl⟩:=h;unfold a1T;have hd:FloatKind.f64.decode b = .number s m e:=g;rw[hd];show(!(Ieee.single.read (Ieee.single.nearest s m e)).isInfinity)=true;by_cases a:m=0
 ·subst a;unfold Ieee.Format.nearest;rw[if_pos rfl];cases s<;>decide +kernel
 ·have f:(m:Rat)*p2 e<p2 100:=by
   have n:(1000000000000000000:Rat)<p2 100:=by decide +kernel
   exact c9g s m e (by have:=c.2;grind) (by have:=c.1;grind)
  have i:((2^m.log2:Nat):Rat)<=(m:Rat):=a0e (Nat.log2_self_le a);have o:=a0s i (Rat.le_of_lt (a0q e));have j:p2 ((m.log2:Int)+e)<p2 100:=by
   rw[a0N,a0T];grind
  have p:=a3z j;obtain⟨t,r,k,d,_⟩:=e4l s m e 100 (by omega) (by decide) (by decide);rw[d];rfl
def b7q (w:Nat×Nat):Nat×Nat:=((a0x .f32 .f64 w.1).2,(a0x .f32 .f64 w.2).2)
def a8h (w:Nat×Nat):Nat:=bif a1O w then(a0x .f64 .f32 (d2e (b7q w))).2 else 0
theorem c0T (z:Nat×Nat):(a0x .f64 .f32 (d2e z)).1=true:=by
 obtain⟨r,a,b⟩:=e4E z;exact a6Y a b
theorem c9D (w:Nat×Nat):f1I (w,())=some (a8h w,()):=by
 unfold f1I a8h;have a:F45 (w,())=some (a1O w,()):=a4R w;have b:g2E (w,())=some (b7q w,()):=rfl;have c:f1G (b7q w,())=some (d2e (b7q w),()):=e4y _;simp only[K45,G45,a,g2F,g2G,b,g2M,g2N,c,isSome_some,getD_some,cond_true,c0T];cases a1O w<;>rfl
theorem e4F (x:Nat):e9M (x,())=some (b2D x,()):=by
 have n:∀g,b9k ((x,g,(0:Int),()),())=some ((gk x g 60,()),()):=by
  intro g;have:=a0Z (q:=b4c) (fun k=>((x,gk x g k,(k:Int),()),())) 60 ((gk x g 60,()),()) ?_ ?_ (b9j ((x,g,(0:Int),()),())) ?_
  ·exact this
  ·intro k f A;unfold b4c;have i:decide ((k:Int)<60)=true:=by simp;omega
   simp only[i,a1Z k (by omega),cond_true];rfl
  ·intro f;unfold b4c;simp
  ·simp[b9j]
 have d:(fgt .f64 x 4427486594234968593||feq .f64 x 4427486594234968593)=true->(flt .f64 x 4861130398305394688||feq .f64 x 4861130398305394688)=true ->
  b2T .f64 x 4607182418800017408=bif flt .f64 x 4607182418800017408 then 4607182418800017408 else x:=by
  intro b j;obtain⟨v,a,r⟩:=g9p;obtain⟨w,l,t,u⟩:=f3l;obtain⟨q,h⟩:=f3m a l b j;rw[g4K h a,e7L h a]at b;simp only[Bool.or_eq_true,decide_eq_true_eq]at b;rw[f8b h f3h];unfold b2T;rw[f3e h f3h];by_cases c:q<1
  ·rw[if_pos c,decide_eq_true c];rfl
  ·rw [if_neg c,decide_eq_false c];by_cases c':1<q
   ·rw[if_pos c'];rfl
   ·rw[if_neg c'];dsimp only;obtain⟨s,m,e,p,z,o⟩:=h;have hd:FloatKind.f64.decode x = .number s m e:=p;rw[hd];cases s
    ·rfl
    ·exfalso;have y:0<=(m:Rat)*p2 e:=Rat.mul_nonneg (a2w m) (Rat.le_of_lt (a0q e));have i:RV true m e=-((m:Rat)*p2 e):=by
      unfold RV;have:sgR true=-1:=rfl;rw[this];grind
     rw[i]at o;have:=c';grind
 unfold e9M b2D;simp only[b6E,b6F,n,isSome_some,getD_some,cond_true];cases b:(fgt .f64 x 4427486594234968593||feq .f64 x 4427486594234968593)
 ·rfl
 cases j:(flt .f64 x 4861130398305394688||feq .f64 x 4861130398305394688)
 ·rfl
 rw[d b j];generalize gk x=G;cases flt .f64 x 4607182418800017408<;>rfl
theorem e4G (z:Nat×Nat):e9O (z,())=some (d2e z,()):=by
 unfold e9O d2e;have a:F96 (z,())=some (a3G z,()):=a7P z;have b:e7g (z,z,())=some (b0k z z,()):=rfl;have c:e9M (b0k z z,())=some (b2D (b0k z z),()):=e4F _;simp only[K96,G96,a,d3w,d1Y,b,g0K,g0L,c,isSome_some,getD_some,cond_true];cases a3G z<;>rfl
theorem c9E (w:Nat×Nat):e9Q (w,())=some (a8h w,()):=by
 unfold e9Q a8h;have a:F52 (w,())=some (a1O w,()):=a4S w;have b:f6D (w,())=some (b7q w,()):=rfl;have c:e9O (b7q w,())=some (d2e (b7q w),()):=e4G _;simp only[K52,G52,a,e9C,e9D,b,g0O,g0P,c,isSome_some,getD_some,cond_true,c0T];cases a1O w<;>rfl
def upV (p:a5C) (wind:Nat) (a:Int) (u:Nat×Nat):Nat:=a0a .mul .f32 (a7Q p wind a) (a0x .f64 .f32 u.1).2
theorem b5f (k:Nat) (a:k<360):(a0x .f64 .f32 (a0W k).1).1=true:=a6Y (tcR a) ((e0q a).1.mono (by decide +kernel))
structure h1X (p:a5C) (wind:Nat):Prop where
 ok:a2k p=true
 w1:fge wind 0=true
 w2:fle wind 1120403456=true
def e4H (p:a5C) (wind:Nat) (a:Int):Nat×Bool×Unit:=bif a2k p&&(fge wind 0&&(fle wind 1120403456&&a0l a 0 180))then(upV p wind a (a0W (md a)),true,())else(0,false,())
def mm (a:Nat->Nat) (b c:Int):Nat->Int×Nat
 |0=>(b,0)
 |k+1=>bif a0l (k:Int) b c then(bif (k:Int)==b then((k:Int),a k)else bif fgt .f32 (a k) (mm a b c k).2 then((k:Int),a k)else mm a b c k)else mm a b c k
def a2x (w:Nat×Nat):Int:=bif !a1O w then -1 else bif (feq .f32 w.1 0&&feq .f32 w.2 0)then -1 else b2C ((a0x .f32 .f64 (a3H .f32 w.1)).2,(a0x .f32 .f64 (a3H .f32 w.2)).2)
theorem c9F (w:Nat×Nat):f1C (w,())=some (a2x w,()):=by
 unfold f1C a2x;have a:F45 (w,())=some (a1O w,()):=a4R w;have b:f1A (((a0x .f32 .f64 (a3H .f32 w.1)).2,(a0x .f32 .f64 (a3H .f32 w.2)).2),())=some (b2C ((a0x .f32 .f64 (a3H .f32 w.1)).2,(a0x .f32 .f64 (a3H .f32 w.2)).2),()):=e4w _;simp only[K45,G45,a,g2A,g2B,b,isSome_some,getD_some,cond_true];generalize b2C ((a0x .f32 .f64 (a3H .f32 w.1)).2,(a0x .f32 .f64 (a3H .f32 w.2)).2)=B;cases a1O w
 ·rfl
 ·cases (feq .f32 w.1 0&&feq .f32 w.2 0)<;>rfl
theorem d4U (z:Nat×Nat):e9J (z,())=some (b2C z,()):=by
 have b:∀k,bm z (k+1)=bs z k:=by
  intro k
  induction k with
  |zero=>rfl
  | succ k i =>
    show(bif ((k+1:Nat):Int)==0 then _ else bif fgt .f64 (b0k z (a0W (k+1))) (bm z (k+1)).2 then _ else bm z (k+1))=_;have:(((k+1:Nat):Int)==0)=false:=by simp;omega
    rw[this,i];rfl
 have h:b9h ((z,0,(4607182418800017408,0),b0k z (a0W 0),1,()),())=some (((bs z 359).1,()),()):=by
  have:=a0Z (q:=b4b) (fun k=>((z,(bs z k).1,a0W k,(bs z k).2,((k+1:Nat):Int),()),())) 359 (((bs z 359).1,()),()) ?_ ?_ (b9g ((z,0,(4607182418800017408,0),b0k z (a0W 0),1,()),())) ?_
  ·exact this
  ·intro k f j;unfold b4b;have d:decide (((k+1:Nat):Int)<360)=true:=by simp;omega
   have e:f6E ()=some (b5a,()):=rfl;have g:e9G (a0W k,b5a,())=some (a0W (k+1),()):=c9u _ _;have a:e7g (z,a0W (k+1),())=some (b0k z (a0W (k+1)),()):=rfl;simp only[d,a1Z (k+1) (by omega),e9E,e9F,e,e9H,e9I,g,d3w,d1Y,a,isSome_some,getD_some,cond_true,bs];cases fgt .f64 (b0k z (a0W (k+1))) (bs z k).2<;>rfl
  ·intro f;unfold b4b;simp
  ·simp[b9g]
 unfold e9J;have c:F96 (z,())=some (a3G z,()):=a7P z;have a:e7g (z,(4607182418800017408,0),())=some (b0k z (a0W 0),()):=rfl;simp only[K96,G96,c,d3w,d1Y,a,c6q,c6r,h,isSome_some,getD_some,cond_true];unfold b2C;rw[b 359];generalize bs z 359=B;cases a3G z
 ·rfl
 ·show(bif c9v z then some ((-1:Int),())else _)=_;cases c9v z<;>rfl
theorem c9G (w:Nat×Nat):e9L (w,())=some (a2x w,()):=by
 unfold e9L a2x;have a:F52 (w,())=some (a1O w,()):=a4S w;have c:f6D ((a3H .f32 w.1,a3H .f32 w.2),())=some (((a0x .f32 .f64 (a3H .f32 w.1)).2,(a0x .f32 .f64 (a3H .f32 w.2)).2),()):=rfl;have b:e9J (((a0x .f32 .f64 (a3H .f32 w.1)).2,(a0x .f32 .f64 (a3H .f32 w.2)).2),())=some (b2C ((a0x .f32 .f64 (a3H .f32 w.1)).2,(a0x .f32 .f64 (a3H .f32 w.2)).2),()):=d4U _;simp only[K52,G52,a,e9C,e9D,c,g0F,g0G,b,isSome_some,getD_some,cond_true];generalize b2C ((a0x .f32 .f64 (a3H .f32 w.1)).2,(a0x .f32 .f64 (a3H .f32 w.2)).2)=B;cases a1O w
 ·rfl
 ·cases (feq .f32 w.1 0&&feq .f32 w.2 0)<;>rfl
def sm (cmp:Nat->Nat->Bool) (p:a5C) (wind:Nat) (a:Int):Nat->Int×Nat
 |0=>(a,(e4H p wind a).1)
 |k+1=>bif cmp (e4H p wind (a+((k+1:Nat):Int))).1 (sm cmp p wind a k).2 then(a+((k+1:Nat):Int),(e4H p wind (a+((k+1:Nat):Int))).1)else sm cmp p wind a k
def IsS (w:Nat) (q:Rat):Prop:=∃(s:Bool) (m:Nat) (e:Int),Ieee.single.read w = .number s m e /\ -149<=e /\ q=RV s m e
theorem c2Y (neg:Bool) (K e:Nat) (g:e*2^23+K<255*2^23) (k:(e=0 /\ K<=2^24)∨(2^23<=K /\ K<=2^24)) :
 ∃(m:Nat) (c:Nat),Ieee.single.read (Ieee.single.word neg (e*2^23+K)) = .number neg m ((c:Int)-149) /\ m*2^c=K*2^e:=by
 have i:Ieee.single.word neg (e*2^23+K)%Ieee.single.signWeight=e*2^23+K:=by
  unfold Ieee.Format.word;rw[f8a];split<;>omega
 have h:(Ieee.single.word neg (e*2^23+K)/Ieee.single.signWeight%2==1)=neg:=by
  unfold Ieee.Format.word;rw[f8a];cases neg
  ·rw[if_neg (by decide)];have:(e*2^23+K)/2^31=0:=Nat.div_eq_of_lt (by omega);rw[this];rfl
  ·rw[if_pos rfl];have:(2^31+(e*2^23+K))/2^31=1:=by omega
   rw[this];rfl
 unfold Ieee.Format.read;dsimp only;rw[i,h,c8Y,d4O,f3d];by_cases d:e*2^23+K<2^23
 ·rw[if_pos d];have:e=0:=by omega
  subst this;exact⟨K,0,by simp,by simp⟩
 ·rw[if_neg d,if_pos g];by_cases j:K<2^23
  ·exfalso;omega
  by_cases f:K=2^24
  ·have a:(e*2^23+K)/2^23=e+2:=by omega
   have b:(e*2^23+K)%2^23=0:=by omega
   rw[a,b];refine⟨2^23,e+1,?_,?_⟩
   ·rw[show((-149:Int)+((e+2-1:Nat):Int))=((e+1:Nat):Int)-149 by omega,Nat.add_zero]
   ·rw[f,<- Nat.pow_add,<- Nat.pow_add];congr 1;omega
  ·have a:(e*2^23+K)/2^23=e+1:=by omega
   have b:(e*2^23+K)%2^23=K-2^23:=by omega
   rw[a,b];refine⟨K,e,?_,rfl⟩;rw[show((-149:Int)+((e+1-1:Nat):Int))=((e:Nat):Int)-149 by omega,show 2^23+(K-2^23)=K by omega]
theorem a6Z (neg:Bool):IsS (Ieee.single.word neg 0) 0:=by
 refine⟨neg,0,-149,?_,Int.le_refl _,?_⟩
 ·cases neg<;>decide
 ·unfold RV;grind
theorem e4I (neg:Bool) (n d:Nat) (h:2*(Ieee.Toward.even.cut neg n d*2^d)=2*n+2^d):Ieee.Toward.even.cut neg n d%2=0:=by
 unfold Ieee.Toward.cut at h ⊢;dsimp only at h ⊢;rw[Nat.one_shiftLeft]at h ⊢;by_cases hd:d<=n.log2+2
 ·rw[Nat.min_eq_left hd]at h ⊢;have a:=Nat.div_add_mod n (2^d);have c:=Nat.mod_lt n (Nat.two_pow_pos d);generalize e:(decide (2^d<2*(n%2^d))||(2^d==2*(n%2^d)&&n/2^d%2==1))=b at *;have i:b=true->2^d=2*(n%2^d)->n/2^d%2=1:=by
   intro h h';rw[h]at e;simp only[Bool.or_eq_true,decide_eq_true_eq,and_eq_true,beq_iff_eq]at e;omega
  have l:=Nat.two_pow_pos d;generalize 2^d=g at *;generalize n/g=q at *;generalize n%g=r at *;have j:q*g=g*q:=Nat.mul_comm _ _;cases b
  ·simp only[Bool.toNat_false,Nat.add_zero]at h ⊢;omega
  ·simp only[Bool.toNat_true,Nat.add_mul,Nat.one_mul]at h ⊢;have:=i rfl (by omega);omega
 ·rw[Nat.min_eq_right (by omega)]at h ⊢;have k:n<2^(n.log2+1):=Nat.lt_log2_self;have f:2^(n.log2+2)=2*2^(n.log2+1):=by rw[Nat.pow_succ];omega
  have a:n/2^(n.log2+2)=0:=Nat.div_eq_of_lt (by omega);have c:n%2^(n.log2+2)=n:=Nat.mod_eq_of_lt (by omega);rw[a,c]at h ⊢;have:(decide (2^(n.log2+2)<2*n)||(2^(n.log2+2)==2*n&&0%2==1))=false:=by
   simp only[Bool.or_eq_false_iff,decide_eq_false_iff_not,Bool.and_eq_false_iff];exact⟨by omega,.inr rfl⟩
  rw[this];rfl
theorem a4k (neg:Bool) (M:Nat) (p:Int) (t:M≠0) (P:(M.log2:Int)+p<=126) :
 ∃ (K:Nat) (last:Int),IsS (Ieee.single.nearest neg M p) (sgR neg*(K:Rat)*p2 last) /\ last=max (p+(M.log2:Int)-(23:Nat)) (-149) /\
   2*((K:Rat)*p2 last)<=2*((M:Rat)*p2 p)+p2 last /\ 2*((M:Rat)*p2 p)<=2*((K:Rat)*p2 last)+p2 last /\
   (last<=p->(K:Rat)*p2 last=(M:Rat)*p2 p) /\ (2*((K:Rat)*p2 last)=2*((M:Rat)*p2 p)+p2 last->K%2=0):=by
 unfold Ieee.Format.nearest;rw[if_neg t,g9j,f3d,c8Y,d4O];dsimp only;have I:2^M.log2<=M:=Nat.log2_self_le t;have J:M<2^(M.log2+1):=Nat.lt_log2_self;generalize Q:M.log2=L at *;obtain⟨last,i⟩:∃last,last=max (p+(L:Int)-(23:Nat)) (-149):=⟨_,rfl⟩;rw[<- i];have B:p+(L:Int)-23<=last:=by omega
 have C:-149<=last:=by omega
 have D:last=p+(L:Int)-23∨last=-149:=by omega
 obtain⟨up,s⟩:∃up,up=(p-last).toNat:=⟨_,rfl⟩;obtain⟨d,hd⟩:∃d,d=(last-p).toNat:=⟨_,rfl⟩;rw[<- s,<- hd,Nat.shiftLeft_eq];have j:Ieee.Toward.even.cut neg (M*2^up) d<=2^24:=by
  refine c9a _ _ _ 24 ?_;have:M*2^up<2^(L+1+up):=by rw[Nat.pow_add];exact Nat.mul_lt_mul_of_pos_right J (Nat.two_pow_pos _)
  exact Nat.lt_of_lt_of_le this (Nat.pow_le_pow_right (by decide) (by omega))
 have q:last ≠ -149->2^23<=Ieee.Toward.even.cut neg (M*2^up) d:=by
  intro F;refine e0m _ _ _ 23 ?_;have:2^(L+up)<=M*2^up:=by rw[Nat.pow_add];exact Nat.mul_le_mul_right _ I
  exact Nat.le_trans (Nat.pow_le_pow_right (by decide) (by omega)) this
 have a:=c0N neg (M*2^up) d;have g:=e4I neg (M*2^up) d;have f:d=0->Ieee.Toward.even.cut neg (M*2^up) d=M*2^up:=fun e=>by rw[e,a4v]
 generalize Ieee.Toward.even.cut neg (M*2^up) d=K at *;obtain⟨e,A⟩:∃e,e=(last - -149).toNat:=⟨_,rfl⟩;rw[<- A];have b:e*2^23+K<255*2^23:=by omega
 rw[Nat.min_eq_left (Nat.le_of_lt b)];obtain⟨m,c,G,E⟩:=c2Y neg K e b (by
  by_cases h:last=-149
  ·exact .inl ⟨by omega,j⟩
  ·exact .inr ⟨q h,j⟩)
 have H:RV neg m ((c:Int)-149)=sgR neg*(K:Rat)*p2 last:=by
  have k:(m:Rat)*p2 (c:Int)=(K:Rat)*p2 (e:Int):=by
   rw[a0T,a0T]
   exact_mod_cast congrArg (fun n:Nat=>(n:Rat)) E
  have l:last=(e:Int) + -149:=by omega
  unfold RV;rw[l,Int.sub_eq_add_neg,a0N,a0N];grind
 refine⟨K,last,⟨neg,m,_,G,by omega,H.symm⟩,rfl,?_⟩;by_cases z:last<=p
 ·have o:d=0:=by omega
  have y:=f o;have k:(K:Rat)*p2 last=(M:Rat)*p2 p:=by
   have l:p=(up:Int)+last:=by omega
   rw[y,l,a0N,a0T,Rat.natCast_mul];grind
  rw[k];have:=a0q last;exact⟨by grind,by grind,fun _=>rfl,fun h=>by exfalso;grind⟩
 ·have r:up=0:=by omega
  rw[r,Nat.pow_zero,Nat.mul_one]at a g;have k:p2 last=((2^d:Nat):Rat)*p2 p:=by
   have:last=(d:Int)+p:=by omega
   rw[this,a0N,a0T]
  have u:=a0q p;have N:2*((K:Rat)*((2^d:Nat):Rat))<=2*(M:Rat)+((2^d:Nat):Rat):=by exact_mod_cast a0e a.1
  have O:2*(M:Rat)<=2*((K:Rat)*((2^d:Nat):Rat))+((2^d:Nat):Rat):=by exact_mod_cast a0e a.2
  have m1:=a0s N (Rat.le_of_lt u);have R:=a0s O (Rat.le_of_lt u);rw[k];refine⟨by grind,by grind,fun h=>absurd h z,fun h=>g ?_⟩;have v:2*((K:Rat)*((2^d:Nat):Rat))=2*(M:Rat)+((2^d:Nat):Rat):=by
   have w:(2*((K:Rat)*((2^d:Nat):Rat))-(2*(M:Rat)+((2^d:Nat):Rat)))*p2 p=0:=by grind
   rcases Rat.mul_eq_zero.1 w with x|x
   ·grind
   ·grind
  exact_mod_cast v
theorem c9H (neg:Bool) (M:Nat) (p B:Int) (e:M≠0) (j:(M.log2:Int)+p<=B) (h:-126<=B) (i:B<=126) :
 ∃r,IsS (Ieee.single.nearest neg M p) r /\ b0V r (RV neg M p) (p2 (B-24)):=by
 obtain⟨K,last,d,l,m,n,f,g⟩:=a4k neg M p e (by omega);clear f g;refine⟨_,d,?_⟩;have c:p2 last<=2*p2 (B-24):=by
  rw[<- a2i];exact a8f (by omega)
 have a:sgR neg*(K:Rat)*p2 last=sgR neg*((K:Rat)*p2 last):=by grind
 have b:RV neg M p=sgR neg*((M:Rat)*p2 p):=by unfold RV;grind
 rw[a,b];clear a b d;generalize (K:Rat)*p2 last=k at *;generalize (M:Rat)*p2 p=x at *;generalize p2 last=u at *;generalize p2 (B-24)=ε at *;cases neg
 ·rw[show sgR false=1 from rfl];exact⟨by grind,by grind⟩
 ·rw[show sgR true=-1 from rfl];exact⟨by grind,by grind⟩
theorem c9I (neg:Bool) (M:Nat) (p:Int) (B:Int) (d:-126<=B) (e:B<=126) (c:RV neg M p<p2 (B+1)) (b:-p2 (B+1)<RV neg M p) :
 ∃r,IsS (Ieee.single.nearest neg M p) r /\ b0V r (RV neg M p) (p2 (B-24)):=by
 by_cases a:M=0
 ·subst a;refine⟨0,?_,?_⟩
  ·unfold Ieee.Format.nearest;rw[if_pos rfl];exact a6Z neg
  ·rw[a2X];have:=a0q (B-24);constructor<;>grind
 ·refine c9H neg M p B a ?_ d e;have g:=c9g neg M p c b;have f:((2^M.log2:Nat):Rat)<=(M:Rat):=a0e (Nat.log2_self_le a);have h:=a0s f (Rat.le_of_lt (a0q p));have:p2 ((M.log2:Int)+p)<p2 (B+1):=by
   rw[a0N,a0T];grind
  have:=a3z this;omega
def Rnd (w:Nat) (x:Rat):Prop:=∃(neg:Bool) (M:Nat) (p:Int),w=Ieee.single.nearest neg M p /\ RV neg M p=x
theorem Rnd.val {w:Nat} {x:Rat} (h:Rnd w x) (B:Int) (c:-126<=B) (d:B<=126) (b:x<p2 (B+1)) (a:-p2 (B+1)<x):∃r,IsS w r /\ b0V r x (p2 (B-24)):=by
 obtain⟨neg,M,p,rfl,rfl⟩:=h;exact c9I neg M p B c d b a
theorem c9J {a b:Nat} {x y:Rat} (g:IsS a x) (h:IsS b y):Rnd (a0a .mul .f32 a b) (x*y):=by
 obtain⟨s,m,e,i,j,rfl⟩:=g;obtain⟨t,n,f,c,k,rfl⟩:=h;have d:a0a .mul .f32 a b=(((Ieee.single.read a).product (Ieee.single.read b)).map Ieee.single.write).getD (qn .f32):=rfl;rw[d,i,c];refine⟨s ^^ t,m*n,e+f,rfl,?_⟩;unfold RV;rw[c9h,a0N,Rat.natCast_mul];grind
theorem e0u (s t:Bool) (m n:Nat) (e f:Int):∃w,(Ieee.Datum.sum (.number s m e) (.number t n f)).map Ieee.single.write=some w /\ Rnd w (RV s m e+RV t n f):=by
 unfold Ieee.Datum.sum;dsimp only;have h:=a3O s m e (min e f) (by omega);have i:=a3O t n f (min e f) (by omega);generalize g:Ieee.signed s m (e-min e f).toNat+Ieee.signed t n (f-min e f).toNat=T;have b:((T:Int):Rat)*p2 (min e f)=RV s m e+RV t n f:=by
  rw[<- g,Rat.intCast_add,<- h,<- i];grind
 refine⟨_,rfl,_,_,_,rfl,?_⟩;rw[<- b];unfold RV;by_cases c:T=0
 ·subst c;simp[Rat.mul_zero,Rat.zero_mul]
 ·rw[if_neg c];by_cases d:T<0
  ·have a:((T:Int):Rat)=-((T.natAbs:Nat):Rat):=by
    rw[<- Rat.intCast_natCast,<- Rat.intCast_neg];congr 1;omega
   rw[a];simp only[d,decide_true];have:sgR true=-1:=rfl;rw[this];grind
  ·have a:((T:Int):Rat)=((T.natAbs:Nat):Rat):=by
    rw[<- Rat.intCast_natCast];congr 1;omega
   rw[a];simp only[d,decide_false];have:sgR false=1:=rfl;rw[this];grind
theorem c9K {a b:Nat} {x y:Rat} (i:IsS a x) (j:IsS b y):Rnd (a0a .add .f32 a b) (x+y):=by
 obtain⟨s,m,e,k,l,rfl⟩:=i;obtain⟨t,n,f,c,o,rfl⟩:=j;obtain⟨w,g,h⟩:=e0u s t m n e f;have d:a0a .add .f32 a b=(((Ieee.single.read a).sum (Ieee.single.read b)).map Ieee.single.write).getD (qn .f32):=rfl;rw[d,k,c,g];exact h
theorem h1Y {a b:Nat} {x y:Rat} (g:IsS a x) (h:IsS b y) (B:Int) (e:-126<=B) (f:B<=126) (d:x+y<p2 (B+1)) (c:-p2 (B+1)<x+y) :
 ∃r,IsS (a0a .add .f32 a b) r /\ b0V r (x+y) (p2 (B-24)):=(c9K g h).val B e f d c
theorem b5g {a b:Nat} {x y:Rat} (j:IsS a x) (k:IsS b y):Rnd (a0a .sub .f32 a b) (x-y):=by
 obtain⟨s,m,e,l,o,rfl⟩:=j;obtain⟨t,n,f,c,p,rfl⟩:=k;have g:RV s m e-RV t n f=RV s m e+RV (!t) n f:=by rw[e0n];grind
 obtain⟨w,h,i⟩:=e0u s (!t) m n e f;have d:a0a .sub .f32 a b=(((Ieee.single.read a).sum (Ieee.single.read b).opposite).map Ieee.single.write).getD (qn .f32):=rfl;rw[d,l,c,g];show Rnd ((((Ieee.Datum.number s m e).sum (Ieee.Datum.number (!t) n f)).map Ieee.single.write).getD (qn .f32)) _;rw[h];exact i
theorem h1Z {a b:Nat} {x y:Rat} (g:IsS a x) (h:IsS b y) (B:Int) (e:-126<=B) (f:B<=126) (d:x-y<p2 (B+1)) (c:-p2 (B+1)<x-y) :
 ∃r,IsS (a0a .sub .f32 a b) r /\ b0V r (x-y) (p2 (B-24)):=(b5g g h).val B e f d c
theorem c2Z (m n:Nat) (b:m≠0) (g:0<n):2^25*n<=m*2^(25+n.log2-m.log2)*2:=by
 have c:2^m.log2<=m:=Nat.log2_self_le b;have d:n<2^(n.log2+1):=Nat.lt_log2_self;have e:2^(25+n.log2)<=m*2^(25+n.log2-m.log2):=by
  have:2^m.log2*2^(25+n.log2-m.log2)<=m*2^(25+n.log2-m.log2):=Nat.mul_le_mul_right _ c;rw[<- Nat.pow_add]at this;exact Nat.le_trans (Nat.pow_le_pow_right (by decide) (by omega)) this
 have a:2^25*n<=2^25*2^(n.log2+1):=Nat.mul_le_mul_left _ (Nat.le_of_lt d);rw[<- Nat.pow_add]at a;have f:2^(25+(n.log2+1))=2^(25+n.log2)*2:=by rw[<- Nat.pow_succ];congr 1
 omega
theorem e4J (s t:Bool) (m n:Nat) (e f:Int):Ieee.Datum.order (.number s m e) (.number t n f)=some (if RV s m e<RV t n f then .lt else if RV t n f<RV s m e then .gt else .eq):=by
 unfold Ieee.Datum.order;dsimp only;have i:=a3O s m e (min e f) (by omega);have j:=a3O t n f (min e f) (by omega);have d:=a0q (min e f);rw[<- i,<- j];generalize Ieee.signed s m (e-min e f).toNat=v;generalize Ieee.signed t n (f-min e f).toNat=w;generalize p2 (min e f)=g at *;have c:∀a b:Int,(a:Rat)*g<(b:Rat)*g↔a<b:=by
  intro a b;constructor
  ·intro h;apply Classical.byContradiction;intro k;have:(b:Rat)<=(a:Rat):=Rat.intCast_le_intCast.2 (by omega);have:=a0s this (Rat.le_of_lt d);grind
  ·intro h;have:(a:Rat)<(b:Rat):=Rat.intCast_lt_intCast.2 h;exact Rat.mul_lt_mul_of_pos_right this d
 simp only[c];congr 1;rw[Int.compare_eq_ite_lt]
theorem g4P {a b:Nat} {x y:Rat} (d:IsS a x) (g:IsS b y):FloatKind.f32.format.order a b=some (if x<y then .lt else if y<x then .gt else .eq):=by
 obtain⟨s,m,e,h,_,rfl⟩:=d;obtain⟨t,n,f,c,_,rfl⟩:=g;show(Ieee.single.read a).order (Ieee.single.read b)=_;rw[h,c];exact e4J s t m n e f
theorem g9q {a b:Nat} {x y:Rat} (d:IsS a x) (e:IsS b y):fgt .f32 a b=decide (y<x):=by
 unfold fgt;rw[g4P d e];by_cases h:x<y
 ·have:¬y<x:=by grind
  simp[h,this]
 ·by_cases c:y<x<;>simp[h,c]
theorem d4V {a b:Nat} {x y:Rat} (d:IsS a x) (e:IsS b y):fle a b=decide (x<=y):=by
 unfold fle flt feq;rw[g4P d e];by_cases h:x<y
 ·have:x<=y:=by grind
  simp[h,this]
 ·by_cases c:y<x
  ·have:¬x<=y:=by grind
   simp[h,c,this]
  ·have:x<=y:=by grind
   simp[h,c,this]
theorem f3n {a b:Nat} {x y:Rat} (d:IsS a x) (e:IsS b y):fge a b=decide (y<=x):=by
 unfold fge fgt feq;rw[g4P d e];by_cases h:x<y
 ·have:¬y<=x:=by grind
  simp[h,this]
 ·by_cases c:y<x
  ·have:y<=x:=by grind
   simp[h,c,this]
  ·have:y<=x:=by grind
   simp[h,c,this]
theorem c9L {w:Nat} (s:Bool) (m:Nat) (e:Int) (h:Ieee.single.read w = .number s m e) (a:-149<=e) {q:Rat} (b:RV s m e=q):IsS w q:=⟨s,m,e,h,a,b.symm⟩
theorem c3a:IsS 0 0:=c9L false 0 (-149) (by decide +kernel) (by decide) (a2X _ _)
theorem e0v:IsS 1112014848 50:=c9L false 13107200 (-18) (by decide +kernel) (by decide) (by decide +kernel)
theorem c0U:IsS 1120403456 100:=c9L false 13107200 (-17) (by decide +kernel) (by decide) (by decide +kernel)
theorem a9A {w:Nat} {s:Bool} {m:Nat} {e:Int} (h:Ieee.single.read w = .number s m e):-149<=e:=by
 unfold Ieee.Format.read at h;dsimp only at h;rw[f3d]at h;split at h
 ·cases h;exact Int.le_refl _
 ·split at h
  ·cases h;omega
  ·split at h<;>cases h
theorem g4Q {w d:Nat} {y:Rat} (hd:IsS d y) (g:fge w 0=true) (c:fle w d=true):∃q,IsS w q /\ 0<=q /\ q<=y:=by
 have j:∃q,IsS w q:=by
  obtain⟨t,n,f,i,_,_⟩:=hd;have l:FloatKind.f32.format.order w 0=(Ieee.single.read w).order (Ieee.single.read 0):=rfl;have o:FloatKind.f32.format.order w d=(Ieee.single.read w).order (Ieee.single.read d):=rfl;obtain⟨s,m,e,k,_,_⟩:=c3a;unfold fge fle fgt feq flt at *;rw[l,k]at g;rw[o,i]at c;cases hz:Ieee.single.read w with
  |number a b p=>exact⟨_,a,b,p,hz,a9A hz,rfl⟩
  |nan a b=>rw[hz]at c;simp[Ieee.Datum.order]at c
  | infinity a =>
    rw[hz]at g c;cases a<;>simp[Ieee.Datum.order]at g c
 obtain⟨q,h⟩:=j;rw[f3n h c3a]at g;rw[d4V h hd]at c;simp only[decide_eq_true_eq]at g c;exact⟨q,h,g,c⟩
theorem g4R {a b:Nat} {x y A ε:Rat} (f:IsS a x) (g:IsS b y) (B:Int) (h:Abs (x+y) A) (l:A<p2 (B+1)) (i:p2 (B-24)<=ε) (c:-126<=B) (d:B<=126):∃r,IsS (a0a .add .f32 a b) r /\ b0V r (x+y) ε:=by
 obtain⟨m,n⟩:=h;obtain⟨r,e,j,k⟩:=h1Y f g B c d (by grind) (by grind);exact⟨r,e,by grind,by grind⟩
theorem g4S {a b:Nat} {x y A ε:Rat} (f:IsS a x) (g:IsS b y) (B:Int) (h:Abs (x-y) A) (l:A<p2 (B+1)) (i:p2 (B-24)<=ε) (c:-126<=B) (d:B<=126):∃r,IsS (a0a .sub .f32 a b) r /\ b0V r (x-y) ε:=by
 obtain⟨m,n⟩:=h;obtain⟨r,e,j,k⟩:=h1Z f g B c d (by grind) (by grind);exact⟨r,e,by grind,by grind⟩
theorem c9M {p:a5C} (h:POK p):∀i,i<p.2.1.length->0<=aAt p i /\ aAt p i<=180:=by
 have step:∀i,i+1<p.2.1.length->aAt p i<aAt p (i+1):=by
  intro i a;have:=h.ang (i+1) a;unfold c2U at this;simpa using this
 have up:∀i,i<p.2.1.length->0<=aAt p i:=by
  intro i
  induction i with
  |zero=>intro _;rw[h.first];decide
  | succ i c =>
    intro a;have:=c (by omega);have:=step i a;omega
 have b:∀k i,i+k+1=p.2.1.length->aAt p i<=180:=by
  intro k
  induction k with
  | zero =>
    intro i a;have:=h.last;rw[show p.2.1.length-1=i by omega]at this;omega
  | succ k c =>
    intro i a;have:=c (i+1) (by omega);have:=step i (by omega);omega
 intro i a;exact⟨up i a,b (p.2.1.length-1-i) i (by omega)⟩
theorem e4K {p:a5C} (h:POK p) {i:Nat} (b:i<p.1.length):∃q,IsS (wAt p i) q /\ 0<q /\ q<=100:=by
 have:=h.wind i b;unfold a3A at this;simp only[and_eq_true]at this;obtain⟨⟨a,d⟩,_⟩:=this;obtain⟨q,q1,e,c⟩:=g4Q c0U (c9y a) d;rw[g9q q1 c3a]at a;simp only[decide_eq_true_eq]at a;exact⟨q,q1,a,c⟩
def Sv (D:Rat):Prop:=∃(m:Nat) (e:Int),m<2^24 /\ -149<=e /\ D=(m:Rat)*p2 e
theorem c0V {w:Nat} {s:Bool} {m:Nat} {e:Int} (h:Ieee.single.read w = .number s m e):m<2^24:=by
 unfold Ieee.Format.read at h;dsimp only at h;rw[c8Y]at h;split at h
 ·cases h;omega
 ·split at h
  ·cases h;omega
  ·split at h<;>cases h
theorem IsS.sv {w:Nat} {x:Rat} (h:IsS w x) (a:0<=x):Sv x:=by
 obtain⟨s,m,e,c,b,rfl⟩:=h;refine⟨m,e,c0V c,b,?_⟩;have d:(0:Rat)<=(m:Rat)*p2 e:=Rat.mul_nonneg (by exact_mod_cast a0e (zero_le m)) (Rat.le_of_lt (a0q e));unfold RV at a ⊢;cases s
 ·rw[show sgR false=1 from rfl];grind
 ·rw[show sgR true=-1 from rfl]at a ⊢;grind
theorem Sv.units {D:Rat} (h:Sv D) {M:Nat} {p last:Int} (b:M≠0) (j:last=max (p+(M.log2:Int)-(23:Nat)) (-149)) (k:(M:Rat)*p2 p<=D):∃n:Nat,D=(n:Rat)*p2 last:=by
 obtain⟨m,e,d,i,rfl⟩:=h;have c:last<=e:=by
  rcases (show last=-149∨last=p+(M.log2:Int)-23 by omega)with h1|h1
  ·omega
  ·have f:=a0s (a0e (Nat.log2_self_le b)) (Rat.le_of_lt (a0q p));have g:(m:Rat)*p2 e<((2^24:Nat):Rat)*p2 e:=Rat.mul_lt_mul_of_pos_right (Rat.natCast_lt_natCast.2 d) (a0q e);rw[<- a0T,<- a0N]at f;rw[<- a0T,<- a0N]at g;have:=a3z (show p2 ((M.log2:Int)+p)<p2 (((24:Nat):Int)+e)by grind);omega
 refine⟨m*2^(e-last).toNat,?_⟩;have a:e=((e-last).toNat:Int)+last:=by omega
 rw[Rat.natCast_mul,<- a0T]
 conv=>lhs;rw[a,a0N]
 grind
theorem b2G {K n:Nat} {u:Rat} (b:0<u) (h:2*((K:Rat)*u)<=2*((n:Rat)*u)+u):(K:Rat)*u<=(n:Rat)*u:=by
 apply Classical.byContradiction;intro d;have c:n+1<=K:=by
  apply Classical.byContradiction;intro a;exact d (a0s (a0e (by omega)) (Rat.le_of_lt b))
 have a:=a0s (a0e c) (Rat.le_of_lt b);rw[Rat.natCast_add]at a;have e:((1:Nat):Rat)=1:=rfl;grind
theorem Rnd.le {w:Nat} {x D:Rat} (h:Rnd w x) (i:Sv D) (y:D<=p2 126) (c:x<=D) (d:-D<=x):∃r,IsS w r /\ r<=D /\ -D<=r /\ (0<=x->0<=r) /\ (x<=0->r<=0):=by
 obtain⟨neg,M,p,rfl,rfl⟩:=h;have v:(0:Rat)<=(M:Rat)*p2 p:=Rat.mul_nonneg (by exact_mod_cast a0e (zero_le M)) (Rat.le_of_lt (a0q p));have b:RV neg M p=sgR neg*((M:Rat)*p2 p):=by unfold RV;grind
 have o:(M:Rat)*p2 p<=D:=by
  rw[b]at c d;cases neg
  ·rw[show sgR false=1 from rfl]at c;grind
  ·rw[show sgR true=-1 from rfl]at d;grind
 by_cases a:M=0
 ·subst a;refine⟨0,?_,by grind,by grind,fun _=>Rat.le_refl,fun _=>Rat.le_refl⟩;unfold Ieee.Format.nearest;rw[if_pos rfl];exact a6Z neg
 ·have g:(M.log2:Int)+p<=126:=by
   have q:=a0s (a0e (Nat.log2_self_le a)) (Rat.le_of_lt (a0q p));rw[<- a0T,<- a0N]at q;apply Classical.byContradiction;intro z;have:=a8f (show(126:Int)+1<=(M.log2:Int)+p by omega);rw[a2i]at this;have:=a0q 126;grind
  obtain⟨K,last,m,l,B,C,s,t⟩:=a4k neg M p a g;obtain⟨n,A⟩:=i.units a l o;have e:=a0q last;have u:=b2G e (show 2*((K:Rat)*p2 last)<=2*((n:Rat)*p2 last)+p2 last by grind);have j:(0:Rat)<=(K:Rat)*p2 last:=Rat.mul_nonneg (by exact_mod_cast a0e (zero_le K)) (Rat.le_of_lt e);have f:sgR neg*(K:Rat)*p2 last=sgR neg*((K:Rat)*p2 last):=by grind
  refine⟨_,m,?_⟩;rw[f,b];have k:0<(M:Rat)*p2 p:=Rat.mul_pos (by exact_mod_cast Rat.natCast_lt_natCast.2 (Nat.pos_of_ne_zero a)) (a0q p);cases neg
  ·rw[show sgR false=1 from rfl];exact⟨by grind,by grind,fun _=>by grind,fun _=>by grind⟩
  ·rw[show sgR true=-1 from rfl];exact⟨by grind,by grind,fun _=>by grind,fun _=>by grind⟩
theorem c9N {a b:Nat} {x y:Rat} (ha:IsS a x) (hb:IsS b y) (B:0<=x) (w:0<y) (h:x<=y):∃r,IsS (a0a .quo .f32 a b) r /\ 0<=r /\ r<=1:=by
 obtain⟨s,m,e,hr,he,rfl⟩:=ha;obtain⟨t,n,f,K,R,rfl⟩:=hb;have X:a0a .quo .f32 a b=(((Ieee.single.read a).quotient 25 (Ieee.single.read b)).map Ieee.single.write).getD (qn .f32):=rfl;have q:n≠0:=fun h=>by rw[h,a2X]at w;exact absurd w (by decide)
 have S:0<n:=Nat.pos_of_ne_zero q;have one:Sv 1:=⟨1,0,by decide,by decide,by decide +kernel⟩;have fin:∀(neg:Bool) (M:Nat) (p:Int),0<=RV neg M p->(M:Rat)*p2 p<=1->∃r,IsS (Ieee.single.nearest neg M p) r /\ 0<=r /\ r<=1:=by
  intro neg M p N g1;have Z:RV neg M p<=1:=by
   have hM:(0:Rat)<=(M:Rat)*p2 p:=Rat.mul_nonneg (by exact_mod_cast a0e (zero_le M)) (Rat.le_of_lt (a0q p));unfold RV at N ⊢;cases neg
   ·rw[show sgR false=1 from rfl];grind
   ·rw[show sgR true=-1 from rfl];grind
  obtain⟨r,k1,k2,k3,k4,_⟩:=Rnd.le ⟨neg,M,p,rfl,rfl⟩ one (by decide +kernel) Z (by grind);exact⟨r,k1,k4 N,k2⟩
 rw[X,hr,K];unfold Ieee.Datum.quotient;dsimp only;rw[if_neg q];show ∃r,IsS (Ieee.single.nearest (s ^^ t) (2*(m <<< (25+n.log2-m.log2)/n)+(m <<< (25+n.log2-m.log2)%n != 0).toNat) (e-f-((25+n.log2-m.log2:Nat):Int)-1)) r /\ _;by_cases G:m=0
 ·subst G;refine fin _ _ _ ?_ ?_
  ·simp[Nat.shiftLeft_eq,a2X]
  ·simp[Nat.shiftLeft_eq]
   decide +kernel
 have j:=c2Z m n G S;rw[Nat.shiftLeft_eq];generalize 25+n.log2-m.log2=i at *;obtain⟨d,I⟩:∃d:Int,d=e-f-(i:Int)-1:=⟨_,rfl⟩;rw[<- I];generalize F:m*2^i=g at *;have H:(0:Rat)<(m:Rat):=by exact_mod_cast Rat.natCast_lt_natCast.2 (Nat.pos_of_ne_zero G)
 have v:(0:Rat)<(n:Rat):=by exact_mod_cast Rat.natCast_lt_natCast.2 S
 have ht:t=false:=by
  cases t
  ·rfl
  ·exfalso;have:=Rat.mul_pos v (a0q f);unfold RV at w;rw[show sgR true=-1 from rfl]at w;grind
 have hs:s=false:=by
  cases s
  ·rfl
  ·exfalso;have:=Rat.mul_pos H (a0q e);unfold RV at B;rw[show sgR true=-1 from rfl]at B;grind
 subst ht hs;have L:2*(g:Rat)*p2 d<=(n:Rat):=by
  have Y:e=f+(i:Int)+1+d:=by omega
  have R:=a0q f;unfold RV at h;rw[show sgR false=1 from rfl,Y,a0N,a2i,a0N,a0T]at h;have A:(g:Rat)=(m:Rat)*((2^i:Nat):Rat):=by rw[<- F,Rat.natCast_mul]
  rw[A];have C:(2*((m:Rat)*((2^i:Nat):Rat))*p2 d)*p2 f<=(n:Rat)*p2 f:=by grind
  exact Rat.le_of_mul_le_mul_right C R
 have J:d <= -25:=by
  apply Classical.byContradiction;intro hc;have T:=a0s (a0e j) (Rat.le_of_lt (a0q d));have U:=a8f (show(-24:Int)<=d by omega);rw[Rat.natCast_mul,Rat.natCast_mul]at T;have l:p2 (-24)*((2^25:Nat):Rat)=2:=by decide +kernel
  have V:=Rat.mul_le_mul_of_nonneg_left U (Rat.le_of_lt v);have:((2:Nat):Rat)=2:=rfl;have l4:(n:Rat)*p2 (-24)*((2^25:Nat):Rat)<=(n:Rat)*p2 d*((2^25:Nat):Rat):=a0s V (by decide +kernel);have W:(n:Rat)*p2 (-24)*((2^25:Nat):Rat)=2*(n:Rat):=by rw[Rat.mul_assoc,l];grind
  rw[W]at l4;rw[this]at T;clear fin l U V h B w W this;generalize ((2^25:Nat):Rat)=c at *;generalize p2 d=u at *;generalize (g:Rat)=z at *;generalize (n:Rat)=y at *;grind
 obtain⟨P,hP⟩:∃P:Nat,P=(-d-1).toNat:=⟨_,rfl⟩;have o:p2 d*(2*((2^P:Nat):Rat))=1:=by
  rw[<- a0T,<- a2i,<- a0N];rw[show d+((P:Int)+1)=0 by omega]
  decide +kernel
 have k:g<=n*2^P:=by
  have O:(g:Rat)<=(n:Rat)*((2^P:Nat):Rat):=by
   have Q:=a0s L (show(0:Rat)<=((2^P:Nat):Rat)by exact_mod_cast a0e (zero_le _));have E:2*(g:Rat)*p2 d*((2^P:Nat):Rat)=(g:Rat)*(p2 d*(2*((2^P:Nat):Rat))):=by
    clear fin;generalize ((2^P:Nat):Rat)=c;grind
   rw[E,o,Rat.mul_one]at Q;exact Q
  rw[<- Rat.natCast_mul]at O;exact Rat.natCast_le_natCast.1 O
 have hQ:2*(g/n)+(g%n != 0).toNat<=2*2^P:=by
  have h1:=Nat.div_add_mod g n;have h2:g/n<=2^P:=Nat.div_le_of_le_mul (by rw[Nat.mul_comm]at k;rw[Nat.mul_comm];exact k);by_cases A:g/n=2^P
  ·have C:g%n=0:=by rw[A]at h1;omega
   rw[A,C];exact Nat.le_refl _
  ·have:(g%n != 0).toNat<=1:=by cases (g%n != 0)<;>decide
   omega
 refine fin _ _ _ ?_ ?_
 ·unfold RV;rw[show sgR (false ^^ false)=1 from rfl];have:(0:Rat)<=((2*(g/n)+(g%n != 0).toNat:Nat):Rat)*p2 d:=Rat.mul_nonneg (by exact_mod_cast a0e (zero_le _)) (Rat.le_of_lt (a0q d));rw[Rat.one_mul];exact this
 ·have D:=a0s (a0e hQ) (Rat.le_of_lt (a0q d));rw[Rat.natCast_mul,show((2:Nat):Rat)=2 from rfl]at D;have E:2*((2^P:Nat):Rat)*p2 d=1:=by rw[Rat.mul_comm];exact o
  rw[E]at D;exact D
theorem e0w:Sv 50:=⟨13107200,-18,by decide,by decide,by decide +kernel⟩
theorem IsS.svn {w:Nat} {x:Rat} (h:IsS w x) (a:x<=0):Sv (-x):=by
 obtain⟨s,m,e,c,b,rfl⟩:=h;refine⟨m,e,c0V c,b,?_⟩;have d:(0:Rat)<=(m:Rat)*p2 e:=Rat.mul_nonneg (by exact_mod_cast a0e (zero_le m)) (Rat.le_of_lt (a0q e));unfold RV at a ⊢;cases s
 ·rw[show sgR false=1 from rfl]at a ⊢;grind
 ·rw[show sgR true=-1 from rfl];grind
theorem Rnd.fifty {w:Nat} {x:Rat} (h:Rnd w x) (z:0<=x) (A:x<=50+p2 (-19)):∃r,IsS w r /\ 0<=r /\ r<=50:=by
 by_cases a:x<=50
 ·obtain⟨r,E,F,_,G,_⟩:=h.le e0w (by decide +kernel) a (by grind);exact⟨r,E,G z,F⟩
 obtain⟨neg,M,p,rfl,rfl⟩:=h;have P:(0:Rat)<=(M:Rat)*p2 p:=Rat.mul_nonneg (by exact_mod_cast a0e (zero_le M)) (Rat.le_of_lt (a0q p));have e:neg=false:=by
  cases neg
  ·rfl
  ·exfalso;unfold RV at a;rw[show sgR true=-1 from rfl]at a;grind
 subst e;have y:RV false M p=(M:Rat)*p2 p:=by unfold RV;rw[show sgR false=1 from rfl];grind
 rw[y]at A a;have c:M≠0:=by
  intro h;subst h;apply a;rw[show((0:Nat):Rat)=0 from rfl,Rat.zero_mul]
  decide +kernel
 have J:p2 (-19)<=1:=by decide +kernel
 have t:(M.log2:Int)+p=5:=by
  have H:=a0s (a0e (Nat.log2_self_le c)) (Rat.le_of_lt (a0q p));have I:(M:Rat)*p2 p<((2^(M.log2+1):Nat):Rat)*p2 p:=Rat.mul_lt_mul_of_pos_right (Rat.natCast_lt_natCast.2 Nat.lt_log2_self) (a0q p);rw[<- a0T,<- a0N]at H I;have N:p2 5=32:=by decide +kernel
  have O:p2 6=64:=by decide +kernel
  have a1:=a3z (show p2 ((M.log2:Int)+p)<p2 6 by grind);have a2:=a3z (show p2 5<p2 (((M.log2+1:Nat):Int)+p)by grind);omega
 obtain⟨K,last,o,R,S,T,q,j⟩:=a4k false M p c (by omega);have d:last=-18:=by omega
 subst d;have L:p2 (-18)=2*p2 (-19):=by rw[<- a2i];rfl
 have i:((13107200:Nat):Rat)*p2 (-18)=50:=by decide +kernel
 have f:=a0q (-18);have g:sgR false*(K:Rat)*p2 (-18)=(K:Rat)*p2 (-18):=by rw[show sgR false=1 from rfl];grind
 refine⟨_,o,?_⟩;rw[g];have l:(0:Rat)<=(K:Rat)*p2 (-18):=Rat.mul_nonneg (by exact_mod_cast a0e (zero_le K)) (Rat.le_of_lt f);refine⟨l,?_⟩;rw[<- i];refine a0s (a0e ?_) (Rat.le_of_lt f);apply Classical.byContradiction;intro Q;have n:13107201<=K:=by omega
 have m1:=a0s (a0e n) (Rat.le_of_lt f);have b:((13107201:Nat):Rat)*p2 (-18)=50+p2 (-18):=by decide +kernel
 rw[b]at m1;have m:(K:Rat)*p2 (-18)=50+p2 (-18):=by
  clear q j o g;generalize (K:Rat)*p2 (-18)=k at *;generalize (M:Rat)*p2 p=x at *;generalize p2 (-18)=u at *;generalize p2 (-19)=v at *;grind
 have D:K=13107201:=by
  have B:((K:Rat)-((13107201:Nat):Rat))*p2 (-18)=0:=by rw[<- b]at m;grind
  rcases Rat.mul_eq_zero.1 B with s|s
  ·have C:(K:Rat)=((13107201:Nat):Rat):=by grind
   exact_mod_cast C
  ·rw[s]at f;exact absurd f (by decide)
 have:=j (by
  clear q j o g;generalize (K:Rat)*p2 (-18)=k at *;generalize (M:Rat)*p2 p=x at *;generalize p2 (-18)=u at *;generalize p2 (-19)=v at *;grind)
 omega
theorem f3o {s t q:Nat} {x y z:Rat} (f:IsS s x) (E:IsS t y) (n:IsS q z) (K:0<=x) (L:x<=50) (Q:0<=y) (R:y<=50) (u:0<=z) (S:z<=1):∃r,IsS (f3j s t q) r /\ 0<=r /\ r<=50:=by
 unfold f3j;have hd:=b5g E f;by_cases F:x<=y
 ·obtain⟨d,a,l,v,w,_⟩:=hd.le e0w (by decide +kernel) (by grind) (by grind);have b:=w (by grind);have P:p2 (5+1)=64:=by decide +kernel
  obtain⟨e,B,C,D⟩:=hd.val 5 (by decide) (by decide) (by grind) (by grind);have h:e=d:=by
   obtain⟨s1,m1,M,j,_,rfl⟩:=a;obtain⟨s2,o,N,k,_,rfl⟩:=B;rw[j]at k;cases k;rfl
  subst h;have i:0<=e*z:=Rat.mul_nonneg b u;have c:e*z<=e:=by have:=Rat.mul_nonneg b (show 0<=1-z by grind);grind
  obtain⟨m,m1,o,_,H,_⟩:=(c9J a n).le (a.sv b) (Rat.le_trans l (by decide +kernel)) c (by grind);have G:=H i;rw[show(5:Int)-24=-19 from rfl]at C D;exact(c9K f m1).fifty (by grind) (by grind)
 ·have p:=f.sv K;have g:x<=p2 126:=Rat.le_trans L (by decide +kernel);obtain⟨d,a,l,v,_,A⟩:=hd.le p g (by grind) (by grind);have b:=A (by grind);have i:d*z<=0:=by have:=Rat.mul_nonneg (show 0 <= -d by grind) u;grind
  have c:d<=d*z:=by have:=Rat.mul_nonneg (show 0 <= -d by grind) (show 0<=1-z by grind);grind
  obtain⟨m,m1,o,O,_,I⟩:=(c9J a n).le (a.svn b) (Rat.le_trans (show -d<=x by grind) g) (by grind) (by grind);have G:=I i;obtain⟨r,j,k,_,J,_⟩:=(c9K f m1).le p g (by grind) (by grind);exact⟨r,j,J (by grind),by grind⟩
theorem Rnd.exact {w:Nat} {x:Rat} (h:Rnd w x) (f:Sv x) (d:0<=x) (e:x<=p2 126):IsS w x:=by
 obtain⟨r,o,y,z,q,_⟩:=h.le f e Rat.le_refl (by grind);obtain⟨neg,M,p,rfl,rfl⟩:=h;have A:(0:Rat)<=(M:Rat)*p2 p:=Rat.mul_nonneg (by exact_mod_cast a0e (zero_le M)) (Rat.le_of_lt (a0q p));by_cases a:M=0
 ·subst a;rw[a2X]at *;have:=q Rat.le_refl;rw[show(0:Rat)=r by grind];exact o
 have b:(M.log2:Int)+p<=126:=by
  have v:=a0s (a0e (Nat.log2_self_le a)) (Rat.le_of_lt (a0q p));rw[<- a0T,<- a0N]at v;apply Classical.byContradiction;intro B;have:=a8f (show(126:Int)+1<=(M.log2:Int)+p by omega);rw[a2i]at this;have:=a0q 126;unfold RV at e d;cases neg
  ·rw[show sgR false=1 from rfl]at e;grind
  ·rw[show sgR true=-1 from rfl]at d;have:=a0q ((M.log2:Int)+p);grind
 obtain⟨K,last,g,t,j,k,_,_⟩:=a4k neg M p a b;have s:0<(M:Rat)*p2 p:=Rat.mul_pos (by exact_mod_cast Rat.natCast_lt_natCast.2 (Nat.pos_of_ne_zero a)) (a0q p);have c:neg=false:=by
  cases neg
  ·rfl
  ·exfalso;unfold RV at d;rw[show sgR true=-1 from rfl]at d;grind
 subst c;have m:RV false M p=(M:Rat)*p2 p:=by unfold RV;rw[show sgR false=1 from rfl];grind
 rw[m]at f ⊢;obtain⟨n,u⟩:=f.units a t Rat.le_refl;have i:=a0q last;rw[u]at j k ⊢;have C:=b2G i j;have D:=b2G i k;have l:sgR false*(K:Rat)*p2 last=(K:Rat)*p2 last:=by rw[show sgR false=1 from rfl];grind
 rw[l]at g;rw[show(n:Rat)*p2 last=(K:Rat)*p2 last by grind];exact g
theorem g9r {n:Int} (h:1<=n) (f:n<=1000):IsS (nearest .f32 n) (n:Rat):=by
 have c:((n.natAbs:Nat):Rat)=(n:Rat):=by
  rw[<- Rat.intCast_natCast];congr 1;omega
 have d:RV false n.natAbs 0=(n:Rat):=by
  unfold RV;rw[show sgR false=1 from rfl,show p2 0=1 by decide +kernel,c];grind
 have e:nearest .f32 n=Ieee.single.nearest (decide (n<0)) n.natAbs 0:=rfl;rw[e,show decide (n<0)=false from decide_eq_false (by omega)];have g:(n:Rat)<=((1000:Int):Rat):=Rat.intCast_le_intCast.2 f;have a:((0:Int):Rat)<=n:=Rat.intCast_le_intCast.2 (show(0:Int)<=n by omega);have b:n.natAbs<2^24:=by omega
 exact Rnd.exact ⟨false,n.natAbs,0,rfl,d⟩ ⟨n.natAbs,0,b,by decide,by rw[show p2 0=1 by decide +kernel,c];grind⟩ a (Rat.le_trans g (by decide +kernel))
theorem Sv.cases {x:Rat} (h:Sv x) {last:Int} (j:-149<=last):(∃n:Nat,x=(n:Rat)*p2 last)∨(last ≠ -149 /\ x<((2^23:Nat):Rat)*p2 last):=by
 obtain⟨m,e,f,i,rfl⟩:=h;by_cases d:last<=e
 ·left;refine⟨m*2^(e-last).toNat,?_⟩;have c:e=((e-last).toNat:Int)+last:=by omega
  rw[Rat.natCast_mul,<- a0T]
  conv=>lhs;rw[c,a0N]
  grind
 ·right;refine⟨by omega,?_⟩;have g:(m:Rat)*p2 e<((2^24:Nat):Rat)*p2 e:=Rat.mul_lt_mul_of_pos_right (Rat.natCast_lt_natCast.2 f) (a0q e);have b:=a8f (show e+1<=last by omega);rw[a2i]at b;have a:((2^24:Nat):Rat)=2*((2^23:Nat):Rat):=by decide +kernel
  have k:=Rat.mul_le_mul_of_nonneg_left b (show(0:Rat)<=((2^23:Nat):Rat)by decide +kernel);rw[a]at g;grind
theorem g4T {v u x:Nat} {V U X:Rat} (n:IsS v V) (A:IsS u U) (C:IsS x X) (J:0<U) (L:U<=X) (N:X<V) (H:V<=1000):∃d,IsS (a0a .sub .f32 v u) d /\ X-U<d:=by
 obtain⟨neg,M,p,B,g⟩:=b5g n A;rw[B];have G:(0:Rat)<=(M:Rat)*p2 p:=Rat.mul_nonneg (by exact_mod_cast a0e (zero_le M)) (Rat.le_of_lt (a0q p));have j:neg=false:=by
  cases neg
  ·rfl
  ·exfalso;unfold RV at g;rw[show sgR true=-1 from rfl]at g;grind
 subst j;have r:RV false M p=(M:Rat)*p2 p:=by unfold RV;rw[show sgR false=1 from rfl];grind
 rw[r]at g;have e:M≠0:=by
  intro h;subst h;rw[show((0:Nat):Rat)=0 from rfl,Rat.zero_mul]at g;grind
 have i:(M.log2:Int)+p<=126:=by
  have l:=a0s (a0e (Nat.log2_self_le e)) (Rat.le_of_lt (a0q p));rw[<- a0T,<- a0N]at l;have q:p2 10=1024:=by decide +kernel
  have:=a3z (show p2 ((M.log2:Int)+p)<p2 10 by grind);omega
 obtain⟨K,last,m,z,D,E,_,_⟩:=a4k false M p e i;have o:sgR false*(K:Rat)*p2 last=(K:Rat)*p2 last:=by rw[show sgR false=1 from rfl];grind
 rw[o]at m;refine⟨_,m,?_⟩;rw[g]at D E;have f:=a0q last;obtain⟨a,I⟩:=(n.sv (by grind)).units e z (show(M:Rat)*p2 p<=V by grind);rcases (C.sv (by grind)).cases (last:=last) (by omega)with⟨b,hb⟩|⟨h149,hb⟩
 ·have k:b+1<=a:=by
   apply Classical.byContradiction;intro y;have:=a0s (a0e (show a<=b by omega)) (Rat.le_of_lt f);grind
  have s:=a0s (a0e k) (Rat.le_of_lt f);rw[Rat.natCast_add,show((1:Nat):Rat)=1 from rfl]at s;grind
 ·have l:=a0s (a0e (Nat.log2_self_le e)) (Rat.le_of_lt (a0q p));rw[<- a0T,<- a0N,show(M.log2:Int)+p=((23:Nat):Int)+last by omega,a0N,a0T,g]at l;have w:2^23<=K:=by
   apply Classical.byContradiction;intro y;have t:=a0s (a0e (show K+1<=2^23 by omega)) (Rat.le_of_lt f);rw[Rat.natCast_add,show((1:Nat):Rat)=1 from rfl]at t;generalize ((2^23:Nat):Rat)=c at *;grind
  have F:=a0s (a0e w) (Rat.le_of_lt f);generalize ((2^23:Nat):Rat)=c at *;grind
def V50 (w:Nat):Prop:=∃r,IsS w r /\ 0<=r /\ r<=50
theorem V50.boat {w:Nat} (h:V50 w):a2j w=true:=by
 obtain⟨r,a,b,c⟩:=h;unfold a2j;rw[f3n a c3a,d4V a e0v];simp only[b,c,decide_true,Bool.and_self]
theorem d4W {p:a5C} (h:POK p) {i:Nat} (t:i<p.1.length) {a:Int} (I:0<=a) (r:a<=180):V50 (b5e p (rAt p i) a):=by
 obtain⟨k,g⟩:=h.row i t;have b:∀j,j<p.2.1.length->V50 ((rAt p i).getD j 0):=by
  intro j L;unfold a6W at g;have:=a0u.1 g j (zero_le _) (by omega);have this:a2j ((rAt p i).getD j 0)=true:=this;unfold a2j at this;simp only[and_eq_true]at this;exact g4Q e0v this.1 this.2
 obtain⟨_,f,v,w⟩:=c9A h r;unfold b5e;generalize idx p a=j at *;unfold e7N;cases c:(aAt p j==a)
 ·have e:aAt p j≠a:=by simpa using c
  have u:0<j:=by
   rcases Nat.eq_zero_or_pos j with d|d
   ·have:=h.first
    rw[d]at v e;omega
   ·exact d
  have J:=c9M h (j-1) (by omega);have s:=c9M h j f;have K:=w (j-1) (by omega);have w1:IntKind.i64.wrap (a-aAt p (j-1))=a-aAt p (j-1):=w64 (by omega) (by omega);have w2:IntKind.i64.wrap (aAt p j-aAt p (j-1))=aAt p j-aAt p (j-1):=w64 (by omega) (by omega);rw[w1,w2];obtain⟨x,C,D,E⟩:=b (j-1) (by omega);obtain⟨y,F,G,H⟩:=b j f;have z:=g9r (n:=a-aAt p (j-1)) (by omega) (by omega);have l:=g9r (n:=aAt p j-aAt p (j-1)) (by omega) (by omega);have m:((1:Int):Rat)<=((a-aAt p (j-1):Int):Rat):=Rat.intCast_le_intCast.2 (by omega);have o:((a-aAt p (j-1):Int):Rat)<=((aAt p j-aAt p (j-1):Int):Rat):=Rat.intCast_le_intCast.2 (by omega);rw[show((1:Int):Rat)=1 from rfl]at m;obtain⟨q,q1,A,B⟩:=c9N z l (by grind) (by grind) o;exact f3o C F q1 D E G H A B
 ·exact b j f
theorem e4L {p:a5C} {wind:Nat} (h:h1X p wind) {a:Int} (k:0<=a) (l:a<=180):V50 (a7Q p wind a):=by
 have b:=pok h.ok;have Z:=b.w1;obtain⟨x,e,T,x3⟩:=g4Q c0U h.w1 h.w2;unfold a7Q;cases c1:fle wind (wAt p 0)
 rotate_left
 ·obtain⟨w,w1,w2,w3⟩:=e4K b (i:=0) (by omega);rw[d4V e w1]at c1;simp only[decide_eq_true_eq]at c1;obtain⟨q,q1,y,E⟩:=c9N e w1 T w2 c1;obtain⟨r,f,c,z⟩:=d4W b (i:=0) (by omega) k l;have J:q*r<=r:=by have:=Rat.mul_nonneg (show 0<=1-q by grind) c;grind
  have H:=Rat.mul_nonneg y c;obtain⟨m,m1,L,_,M,_⟩:=(c9J q1 f).le (f.sv c) (Rat.le_trans z (by decide +kernel)) J (by grind);exact⟨m,m1,M H,by grind⟩
 cases c2:fge wind (wAt p (p.1.length-1))
 rotate_left
 ·exact d4W b (i:=p.1.length-1) (by omega) k l
 obtain⟨i1,C,K⟩:=b7p b h.w1 h.w2 c1 c2;generalize c3Y p wind=j at *;obtain⟨u,g,S,u3⟩:=e4K b (i:=j) (by omega);obtain⟨v,A,v2,v3⟩:=e4K b (i:=j+1) (by omega);rw[d4V A e]at C;simp only[decide_eq_false_iff_not]at C;have t:u<=x:=by
  rcases Nat.eq_zero_or_pos j with B|B
  ·subst B;rw[d4V e g]at c1;simp only[decide_eq_false_iff_not]at c1;grind
  ·have:=K (j-1) (by omega);rw[show j-1+1=j by omega,d4V g e]at this;simpa using this
 obtain⟨d,o,U⟩:=g4T A g e S t (by grind) (by grind);have hd:d<=p2 126:=by
  have p8:p2 (7+1)=256:=by decide +kernel
  obtain⟨F,G,V,W⟩:=(b5g A g).val 7 (by decide) (by decide) (by grind) (by grind);have I:F=d:=by
   obtain⟨s1,m1,X,f,_,rfl⟩:=o;obtain⟨s2,L,Y,c,_,rfl⟩:=G;rw[f]at c;cases c;rfl
  have R:p2 (7-24)<=1:=by decide +kernel
  have D:(1000:Rat)<=p2 126:=by decide +kernel
  grind
 simp only[cond_false];obtain⟨n,O,P,_,Q,_⟩:=(b5g e g).le (o.sv (by grind)) hd (by grind) (by grind);have N:=Q (by grind);obtain⟨q,q1,y,E⟩:=c9N O o N (by grind) P;obtain⟨r,f,c,z⟩:=d4W b (i:=j) (by omega) k l;obtain⟨s,s1,s2,s3⟩:=d4W b (i:=j+1) (by omega) k l;exact f3o f s1 q1 c z s2 s3 y E
abbrev Yv:Type:=Den S46
namespace Yv
def tm (Y:Yv):Int:=Y.2.1
def ps (Y:Yv):Nat×Nat:=Y.2.2.1
def hd (Y:Yv):Int:=Y.2.2.2.1
def wd (Y:Yv):Nat×Nat:=Y.2.2.2.2.1
def sl (Y:Yv):Int:=Y.2.2.2.2.2.1
def tk (Y:Yv):List (Den S97):=Y.2.2.2.2.2.2.1
def lg (Y:Yv):List ByteArray:=Y.2.2.2.2.2.2.2.1
def sails (Y:Yv):List (Den S68):=Y.1.2.2.1
def setHd (Y:Yv) (h:Int):Yv:=(Y.1,Y.2.1,Y.2.2.1,h,Y.2.2.2.2)
def setWd (Y:Yv) (w:Nat×Nat):Yv:=(Y.1,Y.2.1,Y.2.2.1,Y.2.2.2.1,w,Y.2.2.2.2.2)
def setSl (Y:Yv) (k:Int):Yv:=(Y.1,Y.2.1,Y.2.2.1,Y.2.2.2.1,Y.2.2.2.2.1,k,Y.2.2.2.2.2.2)
def setPs (Y:Yv) (p:Nat×Nat):Yv:=(Y.1,Y.2.1,p,Y.2.2.2)
def setGo (Y:Yv) (t:Int) (p:Nat×Nat) (a:List (Den S97)):Yv:=(Y.1,t,p,Y.2.2.2.1,Y.2.2.2.2.1,Y.2.2.2.2.2.1,a,Y.2.2.2.2.2.2.2)
def setLg (Y:Yv) (l:List ByteArray):Yv:=(Y.1,Y.2.1,Y.2.2.1,Y.2.2.2.1,Y.2.2.2.2.1,Y.2.2.2.2.2.1,Y.2.2.2.2.2.2.1,l,())
end Yv
abbrev I68:Sg:=⟨[.ptr 0,.val (.slice (.str))],[.boxC [.sl (.flt .f32),.sl (.int .i64),.sl (.slice (.flt .f32)),.sl (a1r),.sl (.int .i64),.sl (S68),.int .i64,.int .i64,.int .i64,.int .i64,.sl (a2u),.int .i64,.int .i64,.int .i64,.int .i64,.int .i64,.cpx .f64,.int .i64,.cpx .f32,.int .i64,.ref (S97) 1,.ref (.str) 2],.arr (S97),.arr (.str)]⟩
abbrev O68:Sg:=⟨[.val (.bool)],[.boxC [.sl (.flt .f32),.sl (.int .i64),.sl (.slice (.flt .f32)),.sl (a1r),.sl (.int .i64),.sl (S68),.int .i64,.int .i64,.int .i64,.int .i64,.sl (a2u),.int .i64,.int .i64,.int .i64,.int .i64,.int .i64,.cpx .f64,.int .i64,.cpx .f32,.int .i64,.ref (S97) 3,.ref (.str) 2],.gone,.arr (.str),.arr (S97)]⟩
def a1Y:ByteArray:={ data:=#[115,116,101,101,114] }
def a4K:ByteArray:={ data:=#[119,105,110,100] }
def a5l:ByteArray:={ data:=#[115,97,105,108] }
def a8i:ByteArray:={ data:=#[110,111,110,101] }
def b5h:ByteArray:={ data:=#[102,105,120] }
def sGo:ByteArray:={ data:=#[103,111] }
def yIn (x:I68.den):Yv:=(((x.2.1.1,x.2.1.2.1,x.2.1.2.2.1,()),(x.2.1.2.2.2.1,x.2.1.2.2.2.2.1,()),x.2.1.2.2.2.2.2.1,(((x.2.1.2.2.2.2.2.2.1,x.2.1.2.2.2.2.2.2.2.1,()),(x.2.1.2.2.2.2.2.2.2.2.1,x.2.1.2.2.2.2.2.2.2.2.2.1,()),()),x.2.1.2.2.2.2.2.2.2.2.2.2.1,((x.2.1.2.2.2.2.2.2.2.2.2.2.2.1,x.2.1.2.2.2.2.2.2.2.2.2.2.2.2.1,()),(x.2.1.2.2.2.2.2.2.2.2.2.2.2.2.2.1,x.2.1.2.2.2.2.2.2.2.2.2.2.2.2.2.2.1,()),()),()),()),
 x.2.1.2.2.2.2.2.2.2.2.2.2.2.2.2.2.2.1,x.2.1.2.2.2.2.2.2.2.2.2.2.2.2.2.2.2.2.1,x.2.1.2.2.2.2.2.2.2.2.2.2.2.2.2.2.2.2.2.1,x.2.1.2.2.2.2.2.2.2.2.2.2.2.2.2.2.2.2.2.2.1,x.2.1.2.2.2.2.2.2.2.2.2.2.2.2.2.2.2.2.2.2.2.1,x.2.2)
def c3Z (b:Bool) (Y:Yv):O68.den:=((b,()),(Y.1.1.1,Y.1.1.2.1,Y.1.1.2.2.1,Y.1.2.1.1,Y.1.2.1.2.1,Y.1.2.2.1,Y.1.2.2.2.1.1.1.1,Y.1.2.2.2.1.1.1.2.1,Y.1.2.2.2.1.1.2.1.1,Y.1.2.2.2.1.1.2.1.2.1,Y.1.2.2.2.1.2.1,Y.1.2.2.2.1.2.2.1.1.1,Y.1.2.2.2.1.2.2.1.1.2.1,Y.1.2.2.2.1.2.2.1.2.1.1,Y.1.2.2.2.1.2.2.1.2.1.2.1,
 Y.2.1,Y.2.2.1,Y.2.2.2.1,Y.2.2.2.2.1,Y.2.2.2.2.2.1,(),(),()),(),Y.lg,Y.tk,())
section
variable {R:Type} (f:List ByteArray)
def ixB (k:Int):Bool:=decide (k<(↑(length f):Int))
def fAt (k:Int):ByteArray:=getD f (toNat k) (zero Ty.str)
def kpK (Y:Yv) (h:Bool->Yv->Option R):Option R:=
 bif decide (Y.sl ≥ 0)then
 bif K19 (Y,())then
 bif (G19 (Y,())).2.1 then
 bif f7U (Y.sails,Y.sl,(G19 (Y,())).1,())then h true (Y.setSl (f7V (Y.sails,Y.sl,(G19 (Y,())).1,())).1)else none
 else h true (Y.setSl (-1))
 else none
 else h true Y
def a7y (Y:Yv) (h:Bool->Yv->Option R):Option R:=
 bif ixB f 0 then
 bif a0G (fAt f 0) a1Y then kpK Y h
 else bif ixB f 0 then bif a0G (fAt f 0) a4K then kpK Y h else h true Y else none
 else none
def b1b (Y:Yv) (h:Bool->Yv->Option R):Option R:=
 bif ixB f 1 then
 bif K17 (fAt f 1,())then
 bif !(G17 (fAt f 1,())).2.1 then h false Y
 else bif decide ((G17 (fAt f 1,())).1>359)then h false Y
 else a7y f (Y.setHd (G17 (fAt f 1,())).1) h
 else none
 else none
def slB:Bool:=decide (1<=(↑(length f):Int))&&decide ((↑(length f):Int)<=(↑(length f):Int))
def a9V:List ByteArray:=List.drop (toNat 1) (List.take (toNat (↑(length f):Int)) f)
def a7R (p:Nat×Nat×Bool×Unit):Nat×Nat:=((a0x .f64 .f32 p.1).2,(a0x .f64 .f32 p.2.1).2)
def c3b (Y:Yv) (h:Bool->Yv->Option R):Option R:=
 bif slB f then
 bif f2e (a9V f,())then
 bif (a0x .f64 .f32 (b0g (a9V f,())).1).1 then
 bif (a0x .f64 .f32 (b0g (a9V f,())).2.1).1 then
 bif !(b0g (a9V f,())).2.2.1 then h false Y
 else bif K45 (a7R (b0g (a9V f,())),())then
 bif !(G45 (a7R (b0g (a9V f,())),())).1 then h false Y
 else bif !(feq .f32 Y.wd.1 0&&feq .f32 Y.wd.2 0)then
 bif f7w (Y.wd,a7R (b0g (a9V f,())),1056964608,())then
 bif !(e3N (Y.wd,a7R (b0g (a9V f,())),1056964608,())).2.1 then h false Y
 else bif K45 ((e3N (Y.wd,a7R (b0g (a9V f,())),1056964608,())).1,())then
 bif !(G45 ((e3N (Y.wd,a7R (b0g (a9V f,())),1056964608,())).1,())).1 then h false Y
 else a7y f (Y.setWd (e3N (Y.wd,a7R (b0g (a9V f,())),1056964608,())).1) h
 else none
 else none
 else a7y f (Y.setWd (a7R (b0g (a9V f,())))) h
 else none
 else none
 else none
 else none
 else none
def c3c (Y:Yv) (h:Bool->Yv->Option R):Option R:=
 bif ixB f 1 then
 bif a0G (fAt f 1) a8i then h true (Y.setSl (-1))
 else bif ixB f 1 then
 bif e7v (Y.sails,fAt f 1,())then
 bif K19 (Y,())then
 bif decide ((c7D (Y.sails,fAt f 1,())).1<0)then h false Y
 else bif !(G19 (Y,())).2.1 then h false Y
 else bif decide (0<=(c7D (Y.sails,fAt f 1,())).1)&&decide ((c7D (Y.sails,fAt f 1,())).1<(↑(length Y.sails):Int))then
 bif e7E (getD Y.sails (toNat (c7D (Y.sails,fAt f 1,())).1) (zero S68),(G19 (Y,())).1,())then
 bif !(e7F (getD Y.sails (toNat (c7D (Y.sails,fAt f 1,())).1) (zero S68),(G19 (Y,())).1,())).1 then h false Y
 else a7y f (Y.setSl (c7D (Y.sails,fAt f 1,())).1) h
 else none
 else none
 else none
 else none
 else none
 else none
def e7O (Y:Yv) (h:Bool->Yv->Option R):Option R:=
 bif slB f then
 bif f2e (a9V f,())then
 bif K23 (((b0g (a9V f,())).1,(b0g (a9V f,())).2.1),())then
 bif !(b0g (a9V f,())).2.2.1 then h false Y
 else bif !(G23 (((b0g (a9V f,())).1,(b0g (a9V f,())).2.1),())).2.1 then h false Y
 else a7y f (Y.setPs ((b0g (a9V f,())).1,(b0g (a9V f,())).2.1)) h
 else none
 else none
 else none
def b7r (Y:Yv) (n t:Int) (s:Nat) (h:Bool->Yv->Option R):Option R:=
 bif f7Q (Y.ps,Y.tm,set (replicate 1 (zero a2R)) 0 (Y.hd,s,n,()),Y.1.2.1,())then
 bif K23 ((d9N (Y.ps,Y.tm,set (replicate 1 (zero a2R)) 0 (Y.hd,s,n,()),Y.1.2.1,())).1,())then
 bif !(d9N (Y.ps,Y.tm,set (replicate 1 (zero a2R)) 0 (Y.hd,s,n,()),Y.1.2.1,())).2.1 then h false Y
 else bif !(G23 ((d9N (Y.ps,Y.tm,set (replicate 1 (zero a2R)) 0 (Y.hd,s,n,()),Y.1.2.1,())).1,())).2.1 then h false Y
 else bif a0k (length Y.tk+1)then
 a7y f (Y.setGo t (d9N (Y.ps,Y.tm,set (replicate 1 (zero a2R)) 0 (Y.hd,s,n,()),Y.1.2.1,())).1 (Y.tk++[((G23 ((d9N (Y.ps,Y.tm,set (replicate 1 (zero a2R)) 0 (Y.hd,s,n,()),Y.1.2.1,())).1,())).1,t,())])) h
 else none
 else none
 else none
def goK (Y:Yv) (h:Bool->Yv->Option R):Option R:=
 bif ixB f 1 then
 bif K17 (fAt f 1,())then
 bif !(G17 (fAt f 1,())).2.1 then h false Y
 else bif K44 ((G17 (fAt f 1,())).1,1,3600,())then
 bif !(G44 ((G17 (fAt f 1,())).1,1,3600,())).1 then h false Y
 else bif decide (wrap .i64 (Y.tm+(G17 (fAt f 1,())).1)>10000000)then h false Y
 else bif decide ((↑(length Y.tk):Int) ≥ 200)then h false Y
 else bif decide (Y.sl ≥ 0)then
 bif K57 (Y,())then b7r f Y (G17 (fAt f 1,())).1 (wrap .i64 (Y.tm+(G17 (fAt f 1,())).1)) (G57 (Y,())).1 h else none
 else b7r f Y (G17 (fAt f 1,())).1 (wrap .i64 (Y.tm+(G17 (fAt f 1,())).1)) 0 h
 else none
 else none
 else none
def b0l (n:Int) (s:ByteArray) (a b:Option R):Option R:=
 bif (↑(length f):Int)==n then bif ixB f 0 then bif a0G (fAt f 0) s then a else b else none else b
def c3d (Y:Yv) (h:Bool->Yv->Option R):Option R:=
 b0l f 2 a1Y (b1b f Y h)
 (b0l f 3 a4K (c3b f Y h)
 (b0l f 2 a5l (c3c f Y h)
 (b0l f 3 b5h (e7O f Y h)
 (b0l f 2 sGo (goK f Y h) (h false Y)))))
end
def F68 (x:I68.den):Option (O68.den):=c3d x.1.2.1 (yIn x) fun b Y=>some (c3Z b Y)
def K68 (x):=(F68 x).isSome
def G68 (x):=(F68 x).getD (a1b O68)
def m68:=(68,a0H true I68 O68 K68 G68)
theorem g4U:a0d Tryz.prog m68:=sgE true (s7c g3n f2f b2m f2j d8T f1T d9B (s5 e3u a6h f1O f2D f2G)) Tryz.func68 (rown:=[.mv 0 20 1])
def a4L (Y:Yv):Nat:=bif decide (a2x Y.wd<0)then 0 else(b1a Y.1.1 (a8h Y.wd) (btw Y.hd (a2x Y.wd))).1
theorem e0x (Y:Yv):F57 (Y,())=some (a4L Y,()):=by
 have a:f1C (Y.wd,())=some (a2x Y.wd,()):=c9F _;have b:f1I (Y.wd,())=some (a8h Y.wd,()):=c9D _;have c:f1J (Y.hd,a2x Y.wd,())=some (btw Y.hd (a2x Y.wd),()):=c9r _ _;have d:=e4C Y.1.1 (a8h Y.wd) (btw Y.hd (a2x Y.wd));unfold F57 a4L;show(bif e7w (Y.wd,())then _ else _)=_;have⟨k1,g1⟩:=kgP e7w d4m a;have⟨k2,g2⟩:=kgP e7x e3G b;have⟨k3,g3⟩:=kgP e7y e3H c;have⟨k4,g4⟩:=kgP f7h f7i d;rw[k1,cond_true];show(bif decide ((d4m (Y.wd,())).1<0)then _ else bif e7x (Y.wd,())then bif e7y (Y.hd,d4m (Y.wd,()))then bif f7h (Y.1.1,(e3G (Y.wd,())).1,e3H (Y.hd,d4m (Y.wd,())))then some ((f7i (Y.1.1,(e3G (Y.wd,())).1,e3H (Y.hd,d4m (Y.wd,())))).1,())else none else none else none)=_;rw[g1,k2,g2,k3,g3];dsimp only;rw[k4,g4];cases decide (a2x Y.wd<0)<;>rfl
theorem c9O (Y:Yv):f6I (Y,())=some (a4L Y,()):=by
 have a:e9L (Y.wd,())=some (a2x Y.wd,()):=c9G _;have b:e9Q (Y.wd,())=some (a8h Y.wd,()):=c9E _;have c:e9R (Y.hd,a2x Y.wd,())=some (btw Y.hd (a2x Y.wd),()):=c9s _ _;have d:=e4D Y.1.1 (a8h Y.wd) (btw Y.hd (a2x Y.wd));unfold f6I a4L;show(bif e7h (Y.wd,())then _ else _)=_;have⟨k1,g1⟩:=kgP e7h d3y a;have⟨k2,g2⟩:=kgP e7i e2T b;have⟨k3,g3⟩:=kgP e7j e2X c;have⟨k4,g4⟩:=kgP f6G f6H d;rw[k1,cond_true];show(bif decide ((d3y (Y.wd,())).1<0)then _ else bif e7i (Y.wd,())then bif e7j (Y.hd,d3y (Y.wd,()))then bif f6G (Y.1.1,(e2T (Y.wd,())).1,e2X (Y.hd,d3y (Y.wd,())))then some ((f6H (Y.1.1,(e2T (Y.wd,())).1,e2X (Y.hd,d3y (Y.wd,())))).1,())else none else none else none)=_;rw[g1,k2,g2,k3,g3];dsimp only;rw[k4,g4];cases decide (a2x Y.wd<0)<;>rfl
def e0y (u:Nat×Nat) (s:Nat):Nat×Nat:=(a0a .mul .f32 (a0x .f64 .f32 u.1).2 s,a0a .mul .f32 (a0x .f64 .f32 u.2).2 s)
def b1c (k:Int) (s:Nat):(Nat×Nat)×Bool×Unit:=bif !a2j s then((0,0),false,())else(e0y (a0W (md k)) s,true,())
theorem b1d (k:Nat) (a:k<360):(a0x .f64 .f32 (a0W k).2).1=true:=a6Y (tsR a) ((e0q a).2.mono (by decide +kernel))
theorem e4M (k:Nat) (a:k<360) (s:Nat):f7k (a0W k,s,())=some (e0y (a0W k) s,()):=by
 unfold f7k;dsimp only;rw[b5f k a,b1d k a];rfl
theorem e0z (k:Int) (s:Nat):F56 (k,s,())=some (b1c k s):=by
 have a:=b7k s;have b:=e4s k;have c:=e4M (md k) (a8g k) s;unfold F56 b1c;dsimp only;simp only[e3q,e3r,a,g3d,g3e,b,g3h,g3i,c,isSome_some,getD_some,cond_true];cases a2j s<;>rfl
theorem c9P (k:Int) (s:Nat):e9V (k,s,())=some (b1c k s):=by
 have a:=e4t k;unfold e9V b1c;dsimp only;simp only[g1c,g1d,a,isSome_some,getD_some,cond_true,b5f _ (a8g k),b1d _ (a8g k)];show(bif fge s 0 then bif !(fle s 1112014848)then _ else _ else _)=_;unfold a2j;cases fge s 0
 ·rfl
 ·cases fle s 1112014848<;>rfl
def apV (w v:Nat×Nat):(Nat×Nat)×Bool×Unit:=bif !a1O w then((0,0),false,())else bif !a1O v then((0,0),false,())else((a0a .sub .f32 w.1 v.1,a0a .sub .f32 w.2 v.2),true,())
theorem e4N (w v:Nat×Nat):f7l (w,v,())=some (apV w v):=by
 have a:=a4R w;have b:=a4R v;unfold f7l apV;dsimp only;simp only[K45,G45,a,b,isSome_some,getD_some,cond_true];cases a1O w
 ·rfl
 ·cases a1O v<;>rfl
theorem e4O (w v:Nat×Nat):f6K (w,v,())=some (apV w v):=by
 have a:=a4S w;have b:=a4S v;unfold f6K apV;dsimp only;simp only[K52,G52,a,b,isSome_some,getD_some,cond_true];cases a1O w
 ·rfl
 ·cases a1O v<;>rfl
def e0A (w v:Nat×Nat) (k:Int):Den R58:=
 bif !(apV w v).2.1 then((0,0,()),false,())else bif decide (a2x (apV w v).1<0)then((0,0,()),false,())else((a8h (apV w v).1,btw k (a2x (apV w v).1),()),true,())
theorem f3p (w v:Nat×Nat) (k:Int):F58 (w,v,k,())=some (e0A w v k):=by
 have a:=e4N w v;have b:=c9F (apV w v).1;have c:=c9D (apV w v).1;have d:=c9r k (a2x (apV w v).1);unfold F58 e0A;dsimp only;simp only[g3k,g3l,a,e7w,d4m,b,e7x,e3G,c,e7y,e3H,d,isSome_some,getD_some,cond_true];cases (apV w v).2.1
 ·rfl
 ·cases decide (a2x (apV w v).1<0)<;>rfl
theorem e4P (w v:Nat×Nat) (k:Int):f6L (w,v,k,())=some (e0A w v k):=by
 have a:=e4O w v;have b:=c9G (apV w v).1;have c:=c9E (apV w v).1;have d:=c9s k (a2x (apV w v).1);unfold f6L e0A;dsimp only;simp only[g1h,g1i,a,e7h,d3y,b,e7i,e2T,c,e7j,e2X,d,isSome_some,getD_some,cond_true];cases (apV w v).2.1
 ·rfl
 ·cases decide (a2x (apV w v).1<0)<;>rfl
def a0A (Y:Yv):Den R19:=bif !(b1c Y.hd (a4L Y)).2.1 then((0,0,()),false,())else e0A Y.wd (b1c Y.hd (a4L Y)).1 Y.hd
def a1G (Y:Yv):Den R19:=e0A Y.wd (b1c Y.hd (a4L Y)).1 Y.hd
theorem c9Q (Y:Yv):F19 (Y,())=some (a0A Y):=by
 have a:=e0x Y;have b:=e0z Y.hd (a4L Y);have c:=f3p Y.wd (b1c Y.hd (a4L Y)).1 Y.hd;have⟨k1,g1⟩:=kgP K57 G57 a;have⟨k2,g2⟩:=kgP K56 G56 b;have⟨k3,g3⟩:=kgP K58 G58 c;unfold F19 a0A;show(bif K57 (Y,())then bif K56 (Y.hd,G57 (Y,()))then bif !(G56 (Y.hd,G57 (Y,()))).2.1 then _ else bif K58 (Y.wd,(G56 (Y.hd,G57 (Y,()))).1,Y.hd,())then some (G58 (Y.wd,(G56 (Y.hd,G57 (Y,()))).1,Y.hd,()))else none else none else none)=_;rw[k1,g1,k2,g2,k3,g3];cases (b1c Y.hd (a4L Y)).2.1<;>rfl
theorem c9R (Y:Yv):F54 (Y,())=some (a1G Y):=by
 have a:=c9O Y;have b:=c9P Y.hd (a4L Y);have c:=e4P Y.wd (b1c Y.hd (a4L Y)).1 Y.hd;have⟨k1,g1⟩:=kgP e7o d7L a;have⟨k2,g2⟩:=kgP e7p e2Y b;have⟨k3,g3⟩:=kgP f6M f6N c;unfold F54 a1G;show(bif e7o (Y,())then bif e7p (Y.hd,d7L (Y,()))then bif f6M (Y.wd,(e2Y (Y.hd,d7L (Y,()))).1,Y.hd,())then some (f6N (Y.wd,(e2Y (Y.hd,d7L (Y,()))).1,Y.hd,()))else none else none else none)=_;rw[k1,g1,k2,g2,k3,g3];rfl
theorem f3q (a b:Int):0<=btw a b /\ btw a b<=180:=by
 have h:md ((md b:Int)-(md a:Int))<360:=a8g _;unfold btw;dsimp only;split<;>omega
theorem e4Q:I64 0:=⟨by decide,by decide⟩
theorem c0W (w v:Nat×Nat) (k:Int):I64 (e0A w v k).1.2.1:=by
 have:=f3q k (a2x (apV w v).1);unfold e0A;cases (apV w v).2.1
 ·exact e4Q
 ·cases decide (a2x (apV w v).1<0)
  ·show I64 (btw k (a2x (apV w v).1));unfold I64;omega
  ·exact e4Q
theorem b5i (Y:Yv):I64 (a0A Y).1.2.1:=by
 unfold a0A;cases (b1c Y.hd (a4L Y)).2.1
 ·exact e4Q
 ·exact c0W _ _ _
theorem b5j (Y:Yv):I64 (a1G Y).1.2.1:=c0W _ _ _
theorem c9S (Y:Yv):a2j (a4L Y)=true:=by
 unfold a4L b1a;cases decide (a2x Y.wd<0)
 ·cases h:(a2k Y.1.1&&(fge (a8h Y.wd) 0&&(fle (a8h Y.wd) 1120403456&&a0l (btw Y.hd (a2x Y.wd)) 0 180)))
  ·exact(by decide +kernel:a2j 0=true)
  ·simp only[and_eq_true]at h;obtain⟨b,c,d,a⟩:=h;unfold a0l at a;simp only[and_eq_true,decide_eq_true_eq]at a;exact(e4L ⟨b,c,d⟩ a.1 a.2).boat
 ·exact(by decide +kernel:a2j 0=true)
theorem a9B (Y:Yv):a0A Y=a1G Y:=by
 unfold a0A a1G;rw[show(b1c Y.hd (a4L Y)).2.1=true from by unfold b1c;rw[c9S];rfl];rfl
theorem c9T (neg:Bool) (M c v d:Nat) (F:0<M) (h:M*2^c=v*2^d) (p:v<2^53) (hd:d<=1500) :
 ∃K e:Nat,Ieee.double.nearest neg M ((c:Int)-1074)=Ieee.double.word neg (e*2^52+K) /\ e*2^52+K<2047*2^52 /\ ((e=0 /\ K<=2^53)∨(2^52<=K /\ K<=2^53)) /\ K*2^e=M*2^c:=by
 have f:2^M.log2<=M:=Nat.log2_self_le (by omega);have g:M<2^(M.log2+1):=Nat.lt_log2_self;have A:M.log2+c<53+d:=by
  have r:2^(M.log2+c)<=M*2^c:=by rw[Nat.pow_add];exact Nat.mul_le_mul_right _ f
  have u:v*2^d<2^(53+d):=by
   rw[Nat.pow_add 2 53 d];exact Nat.mul_lt_mul_of_pos_right p (Nat.two_pow_pos _)
  rw[<- h]at u;exact(Nat.pow_lt_pow_iff_right (a:=2) (by decide)).1 (Nat.lt_of_le_of_lt r u)
 unfold Ieee.Format.nearest;rw[if_neg (by omega),g4J,e4i,b7j,b7i];dsimp only;generalize z:M.log2=L at *;by_cases G:L<=52
 ·by_cases hd:L+c<52
  ·have b:max ((c:Int)-1074+(L:Int)-(52:Nat)) (-1074)=-1074:=by omega
   rw[b];have i:((c:Int)-1074 - -1074).toNat=c:=by omega
   have j:(-1074-((c:Int)-1074)).toNat=0:=by omega
   have k:((-1074:Int) - -1074).toNat=0:=by decide
   rw[i,j,k,a4v,Nat.shiftLeft_eq];have x:M*2^c<2^53:=by
    calc M*2^c<2^(L+1)*2^c:=Nat.mul_lt_mul_of_pos_right g (Nat.two_pow_pos _)
     _=2^(L+1+c):=by rw[<- Nat.pow_add]
     _<=2^53:=Nat.pow_le_pow_right (by decide) (by omega)
   have y:0*2^52+M*2^c<2047*2^52:=by rw[Nat.zero_mul,Nat.zero_add];exact Nat.lt_trans x (by decide)
   refine⟨M*2^c,0,?_,y,.inl ⟨Eq.refl 0,Nat.le_of_lt x⟩,?_⟩
   ·rw[Nat.min_eq_left (Nat.le_of_lt y)]
   ·rw[Nat.pow_zero,Nat.mul_one]
  ·have b:max ((c:Int)-1074+(L:Int)-(52:Nat)) (-1074)=(c:Int)-1074+(L:Int)-52:=by omega
   rw[b];have i:((c:Int)-1074-((c:Int)-1074+(L:Int)-52)).toNat=52-L:=by omega
   have j:(((c:Int)-1074+(L:Int)-52)-((c:Int)-1074)).toNat=0:=by omega
   have k:(((c:Int)-1074+(L:Int)-52) - -1074).toNat=c+L-52:=by omega
   rw[i,j,k,a4v,Nat.shiftLeft_eq];have s:M*2^(52-L)<2^53:=by
    calc M*2^(52-L)<2^(L+1)*2^(52-L):=Nat.mul_lt_mul_of_pos_right g (Nat.two_pow_pos _)
     _=2^(L+1+(52-L)):=by rw[<- Nat.pow_add]
     _=2^53:=by congr 1;omega
   have t:2^52<=M*2^(52-L):=by
    calc 2^52=2^(L+(52-L)):=by congr 1;omega
     _=2^L*2^(52-L):=by rw[<- Nat.pow_add]
     _<=M*2^(52-L):=Nat.mul_le_mul_right _ f
   have E:M*2^(52-L)*2^(c+L-52)=M*2^c:=by
    rw[Nat.mul_assoc,<- Nat.pow_add];congr 2;omega
   refine⟨M*2^(52-L),c+L-52,?_,by generalize M*2^(52-L)=q at *;clear f g;omega,.inr ⟨t,Nat.le_of_lt s⟩,E⟩;rw[Nat.min_eq_left (by omega)]
 ·have b:max ((c:Int)-1074+(L:Int)-(52:Nat)) (-1074)=(c:Int)-1074+(L:Int)-52:=by omega
  rw[b];have i:((c:Int)-1074-((c:Int)-1074+(L:Int)-52)).toNat=0:=by omega
  have j:(((c:Int)-1074+(L:Int)-52)-((c:Int)-1074)).toNat=L-52:=by omega
  have k:(((c:Int)-1074+(L:Int)-52) - -1074).toNat=c+L-52:=by omega
  rw[i,j,k,Nat.shiftLeft_zero];have n:2^(L-52) ∣ M:=by
   have r:2^(L-52)*2^c ∣ M*2^c:=by
    rw[h,<- Nat.pow_add];exact Nat.dvd_trans (Nat.pow_dvd_pow 2 (by omega)) (Nat.dvd_mul_left _ _)
   exact Nat.dvd_of_mul_dvd_mul_right (Nat.two_pow_pos c) r
  have o:M%2^(L-52)=0:=Nat.mod_eq_zero_of_dvd n;have w:0<2^(L-52):=Nat.two_pow_pos _;have l:Ieee.Toward.even.cut neg M (L-52)=M/2^(L-52):=by
   unfold Ieee.Toward.cut;dsimp only;rw[z,Nat.min_eq_left (by omega),Nat.one_shiftLeft,o];simp
  rw[l];have C:M/2^(L-52)<2^53:=by
   rw[Nat.div_lt_iff_lt_mul w,<- Nat.pow_add];have:53+(L-52)=L+1:=by omega
   rw[this];exact g
  have D:2^52<=M/2^(L-52):=by
   rw[Nat.le_div_iff_mul_le w,<- Nat.pow_add];have:52+(L-52)=L:=by omega
   rw[this];exact f
  have m:=Nat.div_add_mod M (2^(L-52));rw[o,Nat.add_zero]at m;generalize M/2^(L-52)=q at *;have B:2^(c+L-52)=2^(L-52)*2^c:=by
   rw[<- Nat.pow_add];congr 1;omega
  refine⟨q,c+L-52,?_,by clear f g;omega,.inr ⟨by clear f g;omega,by clear f g;omega⟩,?_⟩
  ·rw[Nat.min_eq_left (by clear f g;omega)]
  ·rw[B,<- Nat.mul_assoc,Nat.mul_comm q,m]
theorem f8c (s:Bool) (m c:Nat):RV s m ((c:Int)-1074)=sgR s*((m*2^c:Nat):Rat)*p2 (-1074):=by
 unfold RV;rw[Int.sub_eq_add_neg,a0N,a0T,Rat.natCast_mul];grind
theorem f3r (neg:Bool) (M c v d:Nat) (h:M*2^c=v*2^d) (a:v<2^53) (hd:d<=1500):IsR (Ieee.double.nearest neg M ((c:Int)-1074)) (RV neg M ((c:Int)-1074)):=by
 by_cases b:M=0
 ·subst b;rw[a2X];unfold Ieee.Format.nearest;rw[if_pos rfl];exact a6V neg
 ·obtain⟨K,e,f,g,i,j⟩:=c9T neg M c v d (Nat.pos_of_ne_zero b) h a hd;obtain⟨m,c',k,l⟩:=a5B neg K e g i;rw[f];refine⟨neg,m,(c':Int)-1074,k,by omega,?_⟩;rw[f8c,f8c,l,j]
theorem g4V (e:Int):p2 e≠0:=by have:=a0q e;grind
theorem h2a {a b:Nat} {x y:Rat} (F:IsR a x) (G:IsR b y) (v d:Nat) (j:v<2^53) (hd:d<=1500) (k:x-y=((v*2^d:Nat):Rat)*p2 (-1074)∨x-y=-(((v*2^d:Nat):Rat)*p2 (-1074))):IsR (a0a .sub .f64 a b) (x-y):=by
 obtain⟨s,m,e,I,R,rfl⟩:=F;obtain⟨t,n,f,o,S,rfl⟩:=G;have g:a0a .sub .f64 a b=(((Ieee.double.read a).sum (Ieee.double.read b).opposite).map Ieee.double.write).getD (qn .f64):=rfl;have A:RV s m e-RV t n f=RV s m e+RV (!t) n f:=by rw[e0n];grind
 rw[g,I,o];have J:=a3O s m e (min e f) (by omega);have K:=a3O (!t) n f (min e f) (by omega);show IsR (Ieee.double.nearest (if Ieee.signed s m (e-min e f).toNat+Ieee.signed (!t) n (f-min e f).toNat=0 then s&&!t else decide (Ieee.signed s m (e-min e f).toNat+Ieee.signed (!t) n (f-min e f).toNat<0)) (Ieee.signed s m (e-min e f).toNat+Ieee.signed (!t) n (f-min e f).toNat).natAbs (min e f)) _;generalize E:Ieee.signed s m (e-min e f).toNat+Ieee.signed (!t) n (f-min e f).toNat=T;have i:((T:Int):Rat)*p2 (min e f)=RV s m e-RV t n f:=by
  rw[<- E,Rat.intCast_add,A,<- J,<- K];grind
 obtain⟨c,H⟩:∃c:Nat,min e f=(c:Int)-1074:=⟨(min e f+1074).toNat,by omega⟩;rw[H]at i ⊢;generalize C:(if T=0 then s&&!t else decide (T<0))=B;have U:p2 ((c:Int)-1074)=((2^c:Nat):Rat)*p2 (-1074):=by rw[Int.sub_eq_add_neg,a0N,a0T]
 have u:RV B T.natAbs ((c:Int)-1074)=RV s m e-RV t n f:=by
  rw[<- i];unfold RV;rw[<- C];by_cases q:T=0
  ·subst q;simp[Rat.mul_zero,Rat.zero_mul]
  ·rw[if_neg q];by_cases r:T<0
   ·have g:((T:Int):Rat)=-((T.natAbs:Nat):Rat):=by
     rw[<- Rat.intCast_natCast,<- Rat.intCast_neg];congr 1;omega
    rw[g];simp only[r,decide_true];have:sgR true=-1:=rfl;rw[this];grind
   ·have g:((T:Int):Rat)=((T.natAbs:Nat):Rat):=by
     rw[<- Rat.intCast_natCast];congr 1;omega
    rw[g];simp only[r,decide_false];have:sgR false=1:=rfl;rw[this];grind
 have D:T.natAbs*2^c=v*2^d:=by
  have l:=g4V (-1074);have q1:RV B T.natAbs ((c:Int)-1074)=sgR B*((T.natAbs*2^c:Nat):Rat)*p2 (-1074):=f8c _ _ _;rw[u]at q1;generalize T.natAbs*2^c=P at *;generalize v*2^d=Q at *;have L:=a2w P;have M:=a2w Q;have w:=a0q (-1074);have p:((P:Nat):Rat)=((Q:Nat):Rat):=by
   have a1:((P:Nat):Rat)*p2 (-1074)=((Q:Nat):Rat)*p2 (-1074)∨((P:Nat):Rat)*p2 (-1074)=-(((Q:Nat):Rat)*p2 (-1074)):=by
    cases B
    ·have:sgR false=1:=rfl;rw[this]at q1;rcases k with h|h<;>rw[h]at q1<;>grind
    ·have:sgR true=-1:=rfl;rw[this]at q1;rcases k with h|h<;>rw[h]at q1<;>grind
   have N:=Rat.mul_nonneg L (Rat.le_of_lt w);have O:=Rat.mul_nonneg M (Rat.le_of_lt w);have a2:((P:Nat):Rat)*p2 (-1074)=((Q:Nat):Rat)*p2 (-1074):=by
    rcases a1 with h|h
    ·exact h
    ·grind
   have z:(((P:Nat):Rat)-((Q:Nat):Rat))*p2 (-1074)=0:=by grind
   rcases Rat.mul_eq_zero.1 z with h|h
   ·grind
   ·exact absurd h l
  exact Rat.natCast_inj.1 p
 rw[<- u];exact f3r B T.natAbs c v d D j hd
end Go.Proofs.YtjomnmoekchfeaaGreatDoor.AM
