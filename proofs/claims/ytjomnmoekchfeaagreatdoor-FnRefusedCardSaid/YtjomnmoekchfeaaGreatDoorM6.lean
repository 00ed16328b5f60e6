/- Texts of one proof, joined: an abstract machine for the program, its functions evaluated, plain lemmas. Conditions: those that each lemma names. -/
import Derived.Test.YtjomnmoekchfeaaGreatDoorM5
import Derived.Test.YtjomnmoekchfeaaGreatDoorM4
import Derived.Test.YtjomnmoekchfeaaGreatDoorM3
set_option linter.unusedVariables false
set_option linter.unusedSimpArgs false
namespace Go.Proofs.YtjomnmoekchfeaaGreatDoor.AM
open List (length getD set length_append length_set)
open Int (toNat)
open Bool (and_eq_true)
open Nat (zero_le)
open Go Go.Proofs
set_option maxRecDepth 100000
def spF (s:ByteArray):List ByteArray:=(G16 (s,())).1
def spO (s:ByteArray):Bool:=(G16 (s,())).2.1
theorem a9D (s:ByteArray):F16 (s,())=some (spF s,spO s,()):=by
 unfold spF spO G16;rw[c1h];cases decide ((s.size:Int)>600)
 ·cases c2Z s
  ·rfl
  ·cases decide (((a0J s).length:Int)>24)<;>rfl
 ·rfl
theorem b2w {s:ByteArray} (h:spO s=true):s.size<=600 /\ c2Z s=true /\ spF s=a0J s /\ (spF s).length<=24:=by
 have e:=a9D s;rw[h]at e;exact c1l e
theorem d0F {s:ByteArray} (h:spO s=true):spF (a1h (spF s))=spF s /\ spO (a1h (spF s))=true:=by
 have e:=a9D s;rw[h]at e;have e2:=d4R e;rw[a9D]at e2;simp only[Option.some.injEq,Prod.mk.injEq,and_true]at e2;exact e2
theorem b5o:∀(f:List (List UInt8)) (x:List UInt8),x∈f->x.length<=(a4N f).length
 | [y],x,h=>by
   rw[List.mem_singleton.1 h,a3t];exact Nat.le_refl _
 | y::z::r,x,h=>by
   rw[a2w];simp only[length_append,List.length_cons];rcases List.mem_cons.1 h with h|h
   ·rw[h];omega
   ·have:=b5o (z::r) x h;omega
theorem d0G (b:ByteArray):b.size=b.data.toList.length:=by rw[Array.length_toList];rfl
theorem c1o {s:ByteArray} (h:spO s=true) (k:Int):(fAt (spF s) k).size<=600:=by
 obtain⟨h1,_,h3,_⟩:=b2w h;have hj:=a7x s;unfold fAt;rw[h3,List.getD_eq_getElem?_getD];cases hx:(a0J s)[k.toNat]? with
 |none=>exact zero_le _
 | some x =>
   have hm:x∈a0J s:=List.mem_of_getElem? hx;have:=b5o ((a0J s).map (·.data.toList)) x.data.toList (List.mem_map.2 ⟨x,hm,rfl⟩);rw[<- a2x,<- d0G,<- d0G]at this;show x.size<=600;omega
theorem d0H (f:List ByteArray):(b6c f { data:=#[32] }).length=(a1h f).size:=by
 unfold a1h;show _=Array.size _;rw[List.size_toArray]
theorem e5j {s:ByteArray} (h:spO s=true):K60 (spF s,{ data:=#[32] },())=true:=by
 obtain⟨h1,_,h3,h4⟩:=b2w h;have hj:=a7x s;unfold K60;show(decide ((spF s).length<=140737488355328)&&decide ((b6c (spF s) { data:=#[32] }).length<=140737488355328))=true;rw[d0H,h3];rw[h3]at h4;simp only[and_eq_true,decide_eq_true_eq];omega
structure Left (Y Z:Yv):Prop where
 boat:Z.1=Y.1
 lg:Z.lg=Y.lg
 tk:Z.tk=Y.tk∨∃s,Z.tk=Y.tk++[s]
theorem Left.refl (Y:Yv):Left Y Y:=⟨rfl,rfl,.inl rfl⟩
theorem a7z (Y:Yv) (k:Int):Left Y (Y.setSl k):=⟨rfl,rfl,.inl rfl⟩
theorem a4D (Y:Yv):Left Y (kpV Y):=by
 unfold kpV;cases decide (Y.sl ≥ 0)
 ·exact .refl Y
 ·exact a7z _ _
theorem a6U (f:List ByteArray) (Y:Yv):Left Y (a3P f Y).2:=by
 unfold a3P;cases isC f 2 a3I
 ·cases isC f 3 a7t
  ·cases isC f 2 a9u
   ·cases isC f 3 c9S
    ·cases isC f 2 sGo
     ·exact .refl Y
     ·show Left Y (goW f Y).2;unfold goW goV;cases uB (fAt f 1)
      ·exact .refl Y
      ·cases (inB (uI (fAt f 1)) 1 3600&&(!decide (Y.tm+uI (fAt f 1)>10000000)&&!decide ((Y.tk.length:Int) ≥ 200)))
       ·exact .refl Y
       ·cases ((goR (uI (fAt f 1)) Y).2.1&&(a0S (goR (uI (fAt f 1)) Y).1).2.1)
        ·exact .refl Y
        ·exact⟨rfl,rfl,.inr ⟨_,rfl⟩⟩
    ·show Left Y (e5g f Y).2;unfold e5g;cases ((a9N (fAt f 1) (fAt f 2)).2.2.1&&(a0S (d0B f)).2.1)
     ·exact .refl Y
     ·exact⟨rfl,rfl,.inl rfl⟩
   ·show Left Y (b7D f Y).2;unfold b7D;cases a0O (fAt f 1) b0a
    ·cases (!decide (a2p Y.sails (fAt f 1)<0)&&((a2k Y).2.1&&a4d (at' Y.sails (a2p Y.sails (fAt f 1)).toNat) (a2k Y).1))
     ·exact .refl Y
     ·exact a7z _ _
    ·exact a7z _ _
  ·show Left Y (b7C f Y).2;unfold b7C;cases ((a9N (fAt f 1) (fAt f 2)).2.2.1&&a1K (a2g f))
   ·exact .refl Y
   ·cases a6T Y.wd
    ·cases ((a1C Y.wd (a2g f)).2.1&&a1K (a1C Y.wd (a2g f)).1)
     ·exact .refl Y
     ·exact⟨(a4D (Y.setWd _)).boat,(a4D (Y.setWd _)).lg,(a4D (Y.setWd _)).tk⟩
    ·exact⟨(a4D (Y.setWd _)).boat,(a4D (Y.setWd _)).lg,(a4D (Y.setWd _)).tk⟩
 ·show Left Y (a9C f Y).2;unfold a9C;cases (uB (fAt f 1)&&!decide (uI (fAt f 1)>359))
  ·exact .refl Y
  ·exact⟨(a4D (Y.setHd _)).boat,(a4D (Y.setHd _)).lg,(a4D (Y.setHd _)).tk⟩
def doB (Y:Yv) (s:ByteArray):Bool:=okV (a2k Y) Y&&(decide ((Y.lg.length:Int)<300)&&(spO s&&(a3P (spF s) Y).1))
def doZ (Y:Yv) (s:ByteArray):Yv:=(a3P (spF s) Y).2.setLg ((a3P (spF s) Y).2.lg++[a1h (spF s)])
def doV (Y:Yv) (s:ByteArray):Yv×Bool×Unit:=bif doB Y s then(doZ Y s,true,())else(Y,false,())
theorem a6V {m:Den R19} {Y:Yv} (h:okV m Y=true):a7w Y.1=true /\ (0<=Y.tm /\ Y.tm<=10000000) /\ (a0S Y.ps).2.1=true /\ (0<=Y.hd /\ Y.hd<=359) /\ a1K Y.wd=true /\ (-1<=Y.sl /\ Y.sl<=(Y.sails.length:Int)-1) /\ a3G Y.tk=true /\ Y.lg.length<=300 /\ d4J Y=false /\ e6H m Y=true:=by
 unfold okV d4K inB at h;simp only[and_eq_true,decide_eq_true_eq,Bool.not_eq_true',decide_eq_false_iff_not]at h;obtain⟨⟨h1,h2,h3,h4,h5,h6,h7,h8,h9⟩,h10⟩:=h;exact⟨h1,h2,h3,h4,h5,h6,h7,by omega,h9,h10⟩
theorem b5p {t:List (Den S97)} (h:a3G t=true):t.length<=200:=by
 unfold a3G at h;simp only[and_eq_true,decide_eq_true_eq]at h;omega
theorem e5k (Y:Yv) (s:ByteArray) (h:YM Y):F27 (Y,s,())=some (doV Y s):=by
 have key:=f3N Y s h.boat h.tk h.lg (f3O Y h) (a9D s) (d:=(a3P (spF s) Y).1) (Z:=(a3P (spF s) Y).2) (fun ho hl hb=>by
  obtain⟨_,ht,_⟩:=a6V ho;refine⟨d5a (spF s) Y h (fun k=>Nat.le_trans (c1o hb k) (by decide)) ht,fun hd=>⟨e5j hb,?_⟩⟩;rw[(a6U (spF s) Y).lg];exact h.lg)
 rw[key];unfold doV doB doZ;rfl
theorem YM.doV {Y:Yv} (h:YM Y) (s:ByteArray):YM (doV Y s).1:=by
 unfold AM.doV;cases hd:doB Y s with
 |false=>exact h
 | true =>
   show YM (doZ Y s);unfold doB at hd;simp only[and_eq_true,decide_eq_true_eq]at hd;obtain⟨ho,hl,_,_⟩:=hd;obtain⟨_,_,_,_,_,_,ht,_,_,_⟩:=a6V ho;have htl:=b5p ht;have L:=a6U (spF s) Y;refine⟨?_,?_,?_⟩
   ·show a5B (a3P (spF s) Y).2.1;rw[L.boat];exact h.boat
   ·show((a3P (spF s) Y).2.tk).length<=1000;rcases L.tk with e|⟨x,e⟩
    ·rw[e];exact h.tk
    ·rw[e,length_append,List.length_singleton];omega
   ·show((a3P (spF s) Y).2.lg++[a1h (spF s)]).length<=1000;rw[L.lg,length_append,List.length_singleton];omega
abbrev J10:Type:=Unit×Unit×Unit×Unit×Unit×Unit×Int×Int×Int×Int×Unit×Int×Int×Int×Int×Int×(Nat×Nat)×Int×(Nat×Nat)×Int×Unit×Unit×Unit
def jn0:J10:=((),(),(),(),(),(),0,0,0,0,(),0,0,0,0,0,(0,0),0,(0,0),0,(),(),())
abbrev g8T:Type:=(((List (Den (.flt .f32)))×((List (Den (.int .i64)))×((List (Den (.slice (.flt .f32))))×((List (Den (a1m)))×((List (Den (.int .i64)))×((List (Den (S68)))×(Int×(Int×(Int×(Int×((List (Den (a2n)))×(Int×(Int×(Int×(Int×(Int×((Nat×Nat)×(Int×((Nat×Nat)×(Int×((List (Den (S97)))×((List (Den (.str)))×Unit)))))))))))))))))))))))
def flY (Y:Yv):g8T:=(Y.1.1.1,Y.1.1.2.1,Y.1.1.2.2.1,Y.1.2.1.1,Y.1.2.1.2.1,Y.1.2.2.1,Y.1.2.2.2.1.1.1.1,Y.1.2.2.2.1.1.1.2.1,Y.1.2.2.2.1.1.2.1.1,Y.1.2.2.2.1.1.2.1.2.1,Y.1.2.2.2.1.2.1,Y.1.2.2.2.1.2.2.1.1.1,Y.1.2.2.2.1.2.2.1.1.2.1,Y.1.2.2.2.1.2.2.1.2.1.1,Y.1.2.2.2.1.2.2.1.2.1.2.1,Y.2)
def h1g (v3:g4O):Den R10:=((((v3.snd.fst.1,v3.snd.fst.snd.1,v3.snd.fst.snd.snd.1,()),(v3.snd.fst.snd.snd.snd.1,v3.snd.fst.snd.snd.snd.snd.1,()),v3.snd.fst.snd.snd.snd.snd.snd.1,(((v3.snd.fst.snd.snd.snd.snd.snd.snd.1,v3.snd.fst.snd.snd.snd.snd.snd.snd.snd.1,()),(v3.snd.fst.snd.snd.snd.snd.snd.snd.snd.snd.1,v3.snd.fst.snd.snd.snd.snd.snd.snd.snd.snd.snd.1,()),()),v3.snd.fst.snd.snd.snd.snd.snd.snd.snd.snd.snd.snd.1,((v3.snd.fst.snd.snd.snd.snd.snd.snd.snd.snd.snd.snd.snd.1,v3.snd.fst.snd.snd.snd.snd.snd.snd.snd.snd.snd.snd.snd.snd.1,()),(v3.snd.fst.snd.snd.snd.snd.snd.snd.snd.snd.snd.snd.snd.snd.snd.1,v3.snd.fst.snd.snd.snd.snd.snd.snd.snd.snd.snd.snd.snd.snd.snd.snd.1,()),()),()),()),v3.snd.fst.snd.snd.snd.snd.snd.snd.snd.snd.snd.snd.snd.snd.snd.snd.snd),v3.snd.snd.snd)
abbrev h1h:Type:=(List (Den (.flt .f32)))×(List (Den (.int .i64)))×(List (Den (.slice (.flt .f32))))×(List (Den (a1m)))×(List (Den (.int .i64)))×(List (Den (S68)))×Int×Int×Int×Int×(List (Den (a2n)))×Int×Int×Int×Int×Unit
abbrev g8U:Type:=Unit×Unit×Unit×Unit×Unit×Unit×Int×Int×Int×Int×Unit×Int×Int×Int×Int×Unit
def flB (b:Den S40):h1h:=(b.1.1,b.1.2.1,b.1.2.2.1,b.2.1.1,b.2.1.2.1,b.2.2.1,b.2.2.2.1.1.1.1,b.2.2.2.1.1.1.2.1,b.2.2.2.1.1.2.1.1,b.2.2.2.1.1.2.1.2.1,b.2.2.2.1.2.1,b.2.2.2.1.2.2.1.1.1,b.2.2.2.1.2.2.1.1.2.1,b.2.2.2.1.2.2.1.2.1)
def jb0:g8U:=((),(),(),(),(),(),0,0,0,0,(),0,0,0,0,())
def jbB (b:Den S40):g8U:=((),(),(),(),(),(),b.2.2.2.1.1.1.1,b.2.2.2.1.1.1.2.1,b.2.2.2.1.1.2.1.1,b.2.2.2.1.1.2.1.2.1,(),b.2.2.2.1.2.2.1.1.1,b.2.2.2.1.2.2.1.1.2.1,b.2.2.2.1.2.2.1.2.1)
theorem f4b (v:c5z):v.2.1.2.2.1.length<d2p v:=by
 unfold d2p;refine Nat.lt_of_le_of_lt ?_ (Nat.lt_add_of_pos_right (by decide))
 repeat (first|exact Nat.le_add_left _ _|refine Nat.le_trans ?_ (Nat.le_add_right _ _))
theorem f4c (b:Den S40) (h:b.1.2.2.1.length<=1000) (hr:∀r∈b.1.2.2.1,r.length<=1000) (w:List Nat) (a:List Int) :
 c5B (((),(),(),(0:Int),()),flB b,jb0,jbB b,w,a,[],())=some (((),(),(),()),flB b,jb0,jbB b,w,a,b.1.2.2.1,()):=by
 have key:c5B (((),(),(),(0:Int),()),flB b,jb0,jbB b,w,a,[],())=some (((),(),(),()),flB b,jb0,jbB b,w,a,b.1.2.2.1.take b.1.2.2.1.length,()):=by
  refine a1k (q:=c5A) (fun k=>(((),(),(),(k:Int),()),flB b,jb0,jbB b,w,a,b.1.2.2.1.take k,())) b.1.2.2.1.length _ ?_ ?_ _ (f4b (((),(),(),(0:Int),()),flB b,jb0,jbB b,w,a,[],()))
  ·intro k f hk;have e1:decide ((k:Int)<(b.1.2.2.1.length:Int))=true:=by simpa using hk
   have e2:decide (0<=(k:Int))=true:=by simp
   have hrow:getD b.1.2.2.1 k (zero (Ty.slice (Ty.flt FloatKind.f32)))=b.1.2.2.1[k]:=a3q _ _ _ hk;have c1:a0j (0+(b.1.2.2.1[k]).length)=true:=a0r (by have:=hr _ (List.getElem_mem hk);omega);have c2:a0j ((b.1.2.2.1.take k).length+1)=true:=a0r (by rw[List.length_take];omega);have ew:IntKind.i64.wrap ((k:Int)+1)=((k+1:Nat):Int):=a2h k (by omega);have htk:List.take (k+1) b.1.2.2.1=List.take k b.1.2.2.1++[b.1.2.2.1[k]]:=List.take_succ_eq_append_getElem hk;unfold c5A;show(bif decide ((k:Int)<(b.1.2.2.1.length:Int))then bif (decide (0<=(k:Int))&&decide ((k:Int)<(b.1.2.2.1.length:Int)))then bif a0j (0+(getD b.1.2.2.1 k (zero (Ty.slice (Ty.flt FloatKind.f32)))).length)then bif a0j ((b.1.2.2.1.take k).length+1)then
    f (((),(),(),IntKind.i64.wrap ((k:Int)+1),()),flB b,jb0,jbB b,w,a,b.1.2.2.1.take k++[getD b.1.2.2.1 k (zero (Ty.slice (Ty.flt FloatKind.f32)))],())else none else none else none else _)=_
   rw[e1,e2,hrow,c1,c2,ew,htk];rfl
  ·intro f;have e1:decide ((b.1.2.2.1.length:Int)<(b.1.2.2.1.length:Int))=false:=by simp
   unfold c5A;show(bif decide ((b.1.2.2.1.length:Int)<(b.1.2.2.1.length:Int))then _ else _)=_;rw[e1];rfl
 rw[key,List.take_length]
def o80 (b:Den S40):O80.den:=((jbB b,()),b.1.1,b.1.2.1,b.1.2.2.1,b.2.1.1,b.2.1.2.1,b.2.2.1,b.2.2.2.1.2.1,())
theorem e0r (b:Den S40) (h:a5B b):F80 ((b,()),())=some (o80 b):=by
 obtain⟨⟨hw,ha,hs,hr⟩,⟨ht1,ht2⟩,⟨hS,hl⟩,hC⟩:=h;have hloop:=f4c b (by omega) (fun r h=>by have:=hr r h;omega) b.1.1 b.1.2.1;have hk:b8H (((),(),(),(0:Int),()),flB b,jb0,jbB b,b.1.1,b.1.2.1,[],())=true:=by unfold b8H;rw[hloop];rfl
 have hx:b8I (((),(),(),(0:Int),()),flB b,jb0,jbB b,b.1.1,b.1.2.1,[],())=(((),(),(),()),flB b,jb0,jbB b,b.1.1,b.1.2.1,b.1.2.2.1,()):=by unfold b8I;rw[hloop];rfl
 have cap:∀{α:Type} (l:List α),l.length<=1000->a0j (0+l.length)=true:=fun l hl=>c2S hl
 unfold F80;show(bif a0j (0+b.1.1.length)then bif a0j (0+b.1.2.1.length)then bif b8H (((),(),(),(0:Int),()),flB b,jb0,jbB b,b.1.1,b.1.2.1,[],())then
  (fun v3:e1I=>(bif a0j (0+v3.2.1.2.2.2.1.length)then bif a0j (0+v3.2.1.2.2.2.2.1.length)then bif a0j (0+v3.2.1.2.2.2.2.2.1.length)then bif a0j (0+v3.2.1.2.2.2.2.2.2.2.2.2.2.1.length)then
   some ((v3.2.2.2.1,()),v3.2.2.2.2.1,v3.2.2.2.2.2.1,v3.2.2.2.2.2.2.1,v3.2.1.2.2.2.1,v3.2.1.2.2.2.2.1,v3.2.1.2.2.2.2.2.1,v3.2.1.2.2.2.2.2.2.2.2.2.2.1,())else none else none else none else none:Option O80.den)) (b8I (((),(),(),(0:Int),()),flB b,jb0,jbB b,b.1.1,b.1.2.1,[],()))
  else none else none else none)=_
 rw[hk,hx,cap b.1.1 (by omega),cap b.1.2.1 (by omega)];show(bif a0j (0+b.2.1.1.length)then bif a0j (0+b.2.1.2.1.length)then bif a0j (0+b.2.2.1.length)then bif a0j (0+b.2.2.2.1.2.1.length)then _ else none else none else none else none)=_;rw[cap b.2.1.1 (by omega),cap b.2.1.2.1 (by omega),cap b.2.2.1 (by omega),cap b.2.2.2.1.2.1 (by omega)];rfl
def yO (v10:O32.den):Yv:=(((v10.snd.1,v10.snd.snd.1,v10.snd.snd.snd.1,()),(v10.snd.snd.snd.snd.1,v10.snd.snd.snd.snd.snd.1,()),v10.snd.snd.snd.snd.snd.snd.1,(((v10.fst.fst.snd.snd.snd.snd.snd.snd.1,v10.fst.fst.snd.snd.snd.snd.snd.snd.snd.1,()),(v10.fst.fst.snd.snd.snd.snd.snd.snd.snd.snd.1,v10.fst.fst.snd.snd.snd.snd.snd.snd.snd.snd.snd.1,()),()),v10.snd.snd.snd.snd.snd.snd.snd.1,((v10.fst.fst.snd.snd.snd.snd.snd.snd.snd.snd.snd.snd.snd.1,v10.fst.fst.snd.snd.snd.snd.snd.snd.snd.snd.snd.snd.snd.snd.1,()),(v10.fst.fst.snd.snd.snd.snd.snd.snd.snd.snd.snd.snd.snd.snd.snd.1,v10.fst.fst.snd.snd.snd.snd.snd.snd.snd.snd.snd.snd.snd.snd.snd.snd.1,()),()),()),()),v10.fst.fst.snd.snd.snd.snd.snd.snd.snd.snd.snd.snd.snd.snd.snd.snd.snd)
def f7u:Yv:=((([],[],[],()),([],[],()),[],(((0,0,()),(0,0,()),()),[],((0,0,()),(0,0,()),()),()),()),0,(0,0),0,(0,0),0,[],[],())
def f7v (b:Den S40) (p:Nat×Nat) (t:Int):Bool:=a7w b&&((a0S p).2.1&&inB t 0 10000000)
def f7w (b:Den S40) (p:Nat×Nat) (t:Int):Yv:=bif f7v b p t then(b,t,p,0,(0,0),-1,[],[],())else f7u
theorem f4d (b:Den S40) (p:Nat×Nat) (t:Int) (h:a5B b):∃o:O32.den,F32 ((b,p,t,()),())=some o /\ yO o=f7w b p t /\ o.1.2.1=f7v b p t:=by
 have e1:=c0Z p;have k1:K49 (p,())=true:=isS e1;have g1:G49 (p,())=a0S p:=gtS e1;have e2:=e0m b h;have k2:K50 (b,())=true:=isS e2;have g2:G50 (b,())=(a7w b,()):=gtS e2;have e3:F51 (t,0,10000000,())=some (inB t 0 10000000,()):=a2d _;have k3:K51 (t,0,10000000,())=true:=isS e3;have g3:G51 (t,0,10000000,())=(inB t 0 10000000,()):=gtS e3;have e4:=e0r b h;have k4:K80 ((b,()),())=true:=isS e4;have g4:G80 ((b,()),())=o80 b:=gtS e4;unfold F32 f7w f7v;dsimp only;rw[k1,g1,k2,g2,k3,g3,k4,g4];cases a7w b
 ·exact⟨_,rfl,rfl,rfl⟩
 ·cases (a0S p).2.1
  ·exact⟨_,rfl,rfl,rfl⟩
  ·cases inB t 0 10000000
   ·exact⟨_,rfl,rfl,rfl⟩
   ·exact⟨_,rfl,rfl,rfl⟩
theorem e5l (b:Den S40) (p:Nat×Nat) (t:Int) (h:a5B b):YM (f7w b p t):=by
 unfold f7w;cases f7v b p t
 ·refine⟨⟨⟨?_,?_,?_,?_⟩,⟨?_,?_⟩,⟨?_,?_⟩,?_⟩,?_,?_⟩<;>first|exact zero_le _|(intro r hr;cases hr)
 ·exact⟨h,zero_le _,zero_le _⟩
def kpS (Y:Yv):Yv:=bif decide (Y.sl<0)then Y else Y.setSl (bif (a1l Y).2.1 then b5n Y.sails Y.sl (a1l Y).1 else -1)
def uW (f:List ByteArray):Int:=bif decide (f.length=2)&&uB (fAt f 1)then uI (fAt f 1)else -1
def a5C (f:List ByteArray):Nat×Nat×Bool×Unit:=bif decide (f.length=3)then a9N (fAt f 1) (fAt f 2)else(0,0,false,())
def c1p (f:List ByteArray) (Y:Yv):Bool×Yv:=bif a0n (uW f) 0 359 then(true,kpS (Y.setHd (uW f)))else(false,Y)
def c1q (x:Nat×Nat) (Y:Yv):Bool×Yv:=
 bif a6T Y.wd then(true,kpS (Y.setWd x))
 else bif (a1C Y.wd x).2.1&&a1K (a1C Y.wd x).1 then(true,kpS (Y.setWd (a1C Y.wd x).1))else(false,Y)
def c3f (f:List ByteArray) (Y:Yv):Bool×Yv:=bif (a5C f).2.2.1&&a1K (a7O (a5C f))then c1q (a7O (a5C f)) Y else(false,Y)
def e5m (f:List ByteArray) (Y:Yv) (i:Nat):Bool:=a0O (at' Y.sails i).1 (fAt f 1)&&((a1l Y).2.1&&a4d (at' Y.sails i) (a1l Y).1)
def c3g (f:List ByteArray) (Y:Yv):Bool×Yv:=
 bif !decide (f.length=2)then(false,Y)else bif a0O (fAt f 1) b0a then(true,Y.setSl (-1))
 else match a0s (e5m f Y) 0 Y.sails.length with|some j=>(true,Y.setSl (j:Int))|none=>(false,Y)
def f7x (f:List ByteArray) (Y:Yv):Bool×Yv:=
 bif (a5C f).2.2.1&&(a0S ((a5C f).1,(a5C f).2.1)).2.1 then(true,Y.setPs ((a5C f).1,(a5C f).2.1))else(false,Y)
def a8b (f:List ByteArray) (Y:Yv):Bool×Yv:=
 bif a0O (fAt f 0) a3I then c1p f Y else bif a0O (fAt f 0) a7t then c3f f Y else bif a0O (fAt f 0) a9u then c3g f Y else bif a0O (fAt f 0) c9S then f7x f Y else bif a0O (fAt f 0) sGo then goV (uW f) Y else(false,Y)
def swY (p:Bool×Yv):Yv×Bool×Unit:=(p.2,p.1,())
theorem b7E (Y:Yv) (h:YM Y):f6Z (Y,())=some (kpS Y,()):=by
 have e1:=c9W Y;have k1:K54 (Y,())=true:=isS e1;have g1:G54 (Y,())=a1l Y:=gtS e1;have hl:=a4h h;have e2:=e4V Y.sails Y.sl (a1l Y).1 (h.boat.2.2.1.1.good hl) (b5a Y);have k2:f6w (Y.sails,Y.sl,(a1l Y).1,())=true:=isS e2;have g2:f6x (Y.sails,Y.sl,(a1l Y).1,())=(b5n Y.sails Y.sl (a1l Y).1,()):=gtS e2;unfold f6Z kpS;show(bif decide (Y.sl<0)then some (Y,())else bif K54 (Y,())then bif !(G54 (Y,())).2.1 then some (Y.setSl (-1),())else bif f6w (Y.sails,Y.sl,(G54 (Y,())).1,())then some (Y.setSl (f6x (Y.sails,Y.sl,(G54 (Y,())).1,())).1,())else none else none:OD f6Y)=_;rw[k1,g1,k2,g2];cases decide (Y.sl<0)
 ·cases (a1l Y).2.1<;>rfl
 ·rfl
theorem e5n (f:List ByteArray):f6H (f,())=some (uW f,()):=by
 unfold f6H uW;dsimp only;by_cases h:f.length=2
 ·obtain⟨a,b,rfl⟩:∃a b,f=[a,b]:=by
   match f,h with
   |[a,b],_=>exact⟨a,b,rfl⟩
  have e1:=e5b b;have k1:f6D (b,())=true:=isS e1;have g1:f1H (b,())=(uI b,uB b,()):=gtS e1;show(bif f6D (b,())then bif !(f1H (b,())).2.1 then some (-1,())else some ((f1H (b,())).1,())else none:OD f6G)=some (bif uB b then uI b else -1,());rw[k1,g1];cases uB b<;>rfl
 ·rw[show((f.length:Int) != 2)=true by simp;omega,decide_eq_false h];rfl
theorem e0s (f:List ByteArray) (hz:∀k,(fAt f k).size<=1000):e6u (f,())=some (a5C f):=by
 by_cases h:f.length=3
 ·obtain⟨n,a,b,rfl⟩:∃n a b,f=[n,a,b]:=by
   match f,h with
   |[n,a,b],_=>exact⟨n,a,b,rfl⟩
  exact e5f n a b (hz 1) (hz 2)
 ·unfold e6u a5C;dsimp only;rw[show((f.length:Int) != 3)=true by simp;omega,decide_eq_false h];rfl
theorem c3h (f:List ByteArray):(a0u .f64 .f32 (a5C f).1).1=true /\ (a0u .f64 .f32 (a5C f).2.1).1=true:=by
 unfold a5C;cases decide (f.length=3)
 ·exact⟨(by decide +kernel:(a0u FloatKind.f64 FloatKind.f32 0).1=true),(by decide +kernel:(a0u FloatKind.f64 FloatKind.f32 0).1=true)⟩
 ·exact⟨a3J _,a3J _⟩
theorem e5o (f:List ByteArray) (Y:Yv) (h:YM Y) (hz:∀k,(fAt f k).size<=1000):f7b (Y,f,())=some (swY (c3f f Y)):=by
 have t:=e0s f hz;have k0:e2X (f,())=true:=isS t;have g0:a6X (f,())=a5C f:=gtS t;obtain⟨n1,n2⟩:=c3h f;generalize hX:a7O (a5C f)=X;have e1:F52 (X,())=some (a1K X,()):=a4H X;have k1:K52 (X,())=true:=isS e1;have g1:G52 (X,())=(a1K X,()):=gtS e1;have e2:=e4W Y.wd X;have k2:f6B (Y.wd,X,1056964608,())=true:=isS e2;have g2:d9d (Y.wd,X,1056964608,())=a1C Y.wd X:=gtS e2;have e3:F52 ((a1C Y.wd X).1,())=some (a1K (a1C Y.wd X).1,()):=a4H _;have k3:K52 ((a1C Y.wd X).1,())=true:=isS e3;have g3:G52 ((a1C Y.wd X).1,())=(a1K (a1C Y.wd X).1,()):=gtS e3;have e4:=b7E (Y.setWd (a1C Y.wd X).1) (h.wd' _);have k4:d0X (Y.setWd (a1C Y.wd X).1,())=true:=isS e4;have g4:d0Y (Y.setWd (a1C Y.wd X).1,())=(kpS (Y.setWd (a1C Y.wd X).1),()):=gtS e4;have e5:=b7E (Y.setWd X) (h.wd' _);have k5:d0X (Y.setWd X,())=true:=isS e5;have g5:d0Y (Y.setWd X,())=(kpS (Y.setWd X),()):=gtS e5;unfold f7b c3f c1q swY;show(bif e2X (f,())then bif (a0u .f64 .f32 (a6X (f,())).1).1 then bif (a0u .f64 .f32 (a6X (f,())).2.1).1 then bif !(a6X (f,())).2.2.1 then some (Y,false,())
  else bif K52 (a7O (a6X (f,())),())then bif !(G52 (a7O (a6X (f,())),())).1 then some (Y,false,())
   else bif !(a6T Y.wd)then bif f6B (Y.wd,a7O (a6X (f,())),1056964608,())then bif !(d9d (Y.wd,a7O (a6X (f,())),1056964608,())).2.1 then some (Y,false,())
    else bif K52 ((d9d (Y.wd,a7O (a6X (f,())),1056964608,())).1,())then bif !(G52 ((d9d (Y.wd,a7O (a6X (f,())),1056964608,())).1,())).1 then some (Y,false,())
     else bif d0X (Y.setWd (d9d (Y.wd,a7O (a6X (f,())),1056964608,())).1,())then some ((d0Y (Y.setWd (d9d (Y.wd,a7O (a6X (f,())),1056964608,())).1,())).1,true,())else none else none else none
    else bif !(a6X (f,())).2.2.1 then some (Y,false,())else bif K52 (a7O (a6X (f,())),())then bif !(G52 (a7O (a6X (f,())),())).1 then some (Y,false,())else bif d0X (Y.setWd (a7O (a6X (f,()))),())then some ((d0Y (Y.setWd (a7O (a6X (f,()))),())).1,true,())else none else none
   else none else none else none else none:OD f7a)=_
 rw[k0,g0,n1,n2,hX,k1,g1,k2,g2];dsimp only;rw[k3,g3,k4,g4,k5,g5];cases (a5C f).2.2.1
 ·rfl
 ·cases a1K X
  ·rfl
  ·cases a6T Y.wd
   ·cases (a1C Y.wd X).2.1
    ·rfl
    ·cases a1K (a1C Y.wd X).1<;>rfl
   ·rfl
def bkY (b:g8T):Yv:=(h1g (((),(),(),()),b,jn0,[],())).1
theorem e5p (f:List ByteArray) (Y:Yv) (h:YM Y):f7e (Y,f,())=some (swY (c3g f Y)):=by
 have e1:=c9W Y;have k1:K54 (Y,())=true:=isS e1;have g1:G54 (Y,())=a1l Y:=gtS e1;have hlen:=a4h h;unfold f7e c3g;by_cases hf:f.length=2
 ·obtain⟨a,b,rfl⟩:∃a b,f=[a,b]:=by
   match f,hf with
   |[a,b],_=>exact⟨a,b,rfl⟩
  have hloop:b0R (([a,b],(),(),(),(a1l Y).2.1,(0:Int),()),flY Y,jn0,(a1l Y).1,())=some (match a0s (e5m [a,b] Y) 0 Y.sails.length with
   |some j => .inr (((),true,()),flY (Y.setSl (j:Int)),())|none => .inl (((),(),()),flY Y,jn0,())):=by
   refine(a4b (q:=b4H) (fun k=>(([a,b],(),(),(),(a1l Y).2.1,(k:Int),()),flY Y,jn0,(a1l Y).1,())) Y.sails.length (e5m [a,b] Y) _ (fun j => .inr (((),true,()),flY (Y.setSl (j:Int)),())) ?_ ?_ _ ?_:_)
   ·intro k f' hk;have d1:decide ((k:Int)<(Y.sails.length:Int))=true:=by simpa using hk
    have d2:decide (0<=(k:Int))=true:=by simp
    have ew:IntKind.i64.wrap ((k:Int)+1)=((k+1:Nat):Int):=a2h k (by omega);have e3:=d0x (at' Y.sails k,(a1l Y).1,());have k3:e6s (at' Y.sails k,(a1l Y).1,())=true:=isS e3;have g3:e6t (at' Y.sails k,(a1l Y).1,())=(a4d (at' Y.sails k) (a1l Y).1,()):=gtS e3;unfold b4H e5m;show(bif decide ((k:Int)<(Y.sails.length:Int))then bif (decide (0<=(k:Int))&&decide ((k:Int)<(Y.sails.length:Int)))then
     bif a0O (at' Y.sails k).1 b then bif (a1l Y).2.1 then bif (decide (0<=(k:Int))&&decide ((k:Int)<(Y.sails.length:Int)))then bif e6s (at' Y.sails k,(a1l Y).1,())then bif (e6t (at' Y.sails k,(a1l Y).1,())).1 then some (.inr (((),true,()),flY (Y.setSl (k:Int)),()))
      else f' (([a,b],(),(),(),(a1l Y).2.1,IntKind.i64.wrap ((k:Int)+1),()),flY Y,jn0,(a1l Y).1,())else none else none
      else f' (([a,b],(),(),(),(a1l Y).2.1,IntKind.i64.wrap ((k:Int)+1),()),flY Y,jn0,(a1l Y).1,())
     else f' (([a,b],(),(),(),(a1l Y).2.1,IntKind.i64.wrap ((k:Int)+1),()),flY Y,jn0,(a1l Y).1,())else none else _)=bif a0O (at' Y.sails k).1 b&&((a1l Y).2.1&&a4d (at' Y.sails k) (a1l Y).1)then _ else _
    rw[d1,d2,ew,k3,g3];cases a0O (at' Y.sails k).1 b
    ·rfl
    ·cases (a1l Y).2.1
     ·rfl
     ·cases a4d (at' Y.sails k) (a1l Y).1<;>rfl
   ·intro f';have d1:decide ((Y.sails.length:Int)<(Y.sails.length:Int))=false:=by simp
    unfold b4H;show(bif decide ((Y.sails.length:Int)<(Y.sails.length:Int))then _ else _)=_;rw[d1];rfl
   ·show Y.sails.length<c0t _;unfold c0t;refine Nat.lt_of_le_of_lt ?_ (Nat.lt_add_of_pos_right (by decide))
    repeat (first|exact Nat.le_add_left _ _|refine Nat.le_trans ?_ (Nat.le_add_right _ _))
  show(bif a0O b b0a then some (Y.setSl (-1),true,())else bif K54 (Y,())then bif b6R (([a,b],(),(),(),(G54 (Y,())).2.1,(0:Int),()),flY Y,jn0,(G54 (Y,())).1,())then
   bif b6S (([a,b],(),(),(),(G54 (Y,())).2.1,(0:Int),()),flY Y,jn0,(G54 (Y,())).1,())then(fun v5:c8s=>(some (bkY v5.2.1,v5.1.2):OD e6x)) (b6U (([a,b],(),(),(),(G54 (Y,())).2.1,(0:Int),()),flY Y,jn0,(G54 (Y,())).1,()))
   else(fun v5:c8r=>(some (bkY v5.2.1,false,()):OD e6x)) (b6T (([a,b],(),(),(),(G54 (Y,())).2.1,(0:Int),()),flY Y,jn0,(G54 (Y,())).1,()))
   else none else none:OD e6x)=some (swY (bif a0O b b0a then(true,Y.setSl (-1))else match a0s (e5m [a,b] Y) 0 Y.sails.length with|some j=>(true,Y.setSl (j:Int))|none=>(false,Y)))
  rw[k1,g1];unfold b6R b6S b6U b6T;rw[hloop];cases a0O b b0a
  ·cases a0s (e5m [a,b] Y) 0 Y.sails.length<;>rfl
  ·rfl
 ·dsimp only;rw[show((f.length:Int) != 2)=true by simp;omega,decide_eq_false hf];rfl
theorem f4e (r:List UInt8):pcs (32::r)=[]::pcs r:=by
 conv=>lhs;unfold pcs
 rw[if_pos rfl]
theorem g4Z (x r:List UInt8) (hx:32 ∉ x):fl (x++32::r)=(if x=[]then[]else[x])++fl r:=by
 unfold fl;rw[a9A x (32::r) hx,f4e];show List.filter _ ((x++[])::pcs r)=_;rw[List.append_nil,List.filter_cons];by_cases h:x=[]
 ·subst h;simp
 ·simp[h]
theorem e5q (x:List UInt8) (hx:32 ∉ x):fl x=if x=[]then[]else[x]:=by
 unfold fl;have h:=a9A x [] hx;rw[List.append_nil]at h;rw[h];show List.filter _ [x++[]]=_;rw[List.append_nil];by_cases h:x=[]
 ·subst h;simp
 ·simp[h]
def e5r (l:List UInt8):List ByteArray:=(fl l).map bOf
theorem e5s (s:ByteArray):e5r s.data.toList=a0J s:=by
 apply b7x;rw[a3u];unfold e5r;rw[List.map_map];show List.map (fun x=>x) _=_;simp
theorem d0I (s:ByteArray) (a b:Nat):ByteArray.extract s a b=bOf ((s.data.toList.drop a).take (b-a)):=by
 apply ByteArray.ext;rw[ByteArray.data_extract];apply Array.ext';simp[bOf]
theorem c3i (l:List UInt8) (a i:Nat) (h:a<=i):l.drop a=(l.drop a).take (i-a)++l.drop i:=by
 have:l.drop i=(l.drop a).drop (i-a):=by rw[List.drop_drop];congr 1;omega
 rw[this,List.take_append_drop]
theorem b7F (s:ByteArray) (hs:s.size<=1000):∀(k N a i:Nat) (acc:List ByteArray),i+k=s.size->k+1<N->a<=i->acc.length<=i->32 ∉ (s.data.toList.drop a).take (i-a) ->
 a0C a5Z N ((s,(),(a:Int),(i:Int),()),acc,())=some (bif a0i (b7w s) i k then .inl (((),()),acc++e5r (s.data.toList.drop a),())else .inr (([],false,()),())):=by
 have hlen:s.data.toList.length=s.size:=Array.length_toList;intro k
 induction k with
 | zero =>
   intro N a i acc h1 h2 h3 h4 h5;obtain⟨N,rfl⟩:∃M,N=M+2:=⟨N-2,by omega⟩;have hi:i=s.size:=by omega
   subst hi;have hw:(s.data.toList.drop a).take (s.size-a)=s.data.toList.drop a:=List.take_of_length_le (by rw[List.length_drop];omega);rw[hw]at h5;have e1:decide ((s.size:Int)<=(s.size:Int))=true:=by simp
   have e2:decide ((s.size:Int)<(s.size:Int))=false:=by simp
   have ew:IntKind.i64.wrap ((s.size:Int)+1)=(s.size:Int)+1:=w64 (by omega) (by omega);have e3:decide ((s.size:Int)+1<=(s.size:Int))=false:=by simp;omega
   have hend:∀(v:Int) (c:List ByteArray),a0C a5Z (N+1) ((s,(),v,(s.size:Int)+1,()),c,())=some (.inl (((),()),c,())):=by
    intro v c;show a5Z (a0C a5Z N) _=_;unfold a5Z;dsimp only;rw[e3];rfl
   show a5Z (a0C a5Z (N+1)) _=_;generalize a0C a5Z (N+1)=I at hend;unfold a5Z;simp only[e1,e2,cond_true,cond_false,ew];unfold e5r;rw[e5q _ h5];by_cases ha:a<s.size
   ·have e4:decide ((a:Int)<(s.size:Int))=true:=by simpa using ha
    have e5:(decide (0<=(a:Int))&&decide ((a:Int)<=(s.size:Int))&&true)=true:=by simp;omega
    have ec:a0j (acc.length+1)=true:=a0r (by omega);have hne:s.data.toList.drop a≠[]:=fun h=>by have:=congrArg length h;rw[List.length_drop]at this;simp at this;omega
    rw[e4,e5,if_neg hne];simp only[cond_true,length_set,List.length_replicate];rw[ec,cond_true,hend];show some (Sum.inl (((),()),acc++[ByteArray.extract s (toNat (a:Int)) (toNat (s.size:Int))],()))=some (Sum.inl (((),()),acc++[bOf (s.data.toList.drop a)],()));rw[Int.toNat_natCast,Int.toNat_natCast,d0I,hw]
   ·have e4:decide ((a:Int)<(s.size:Int))=false:=by simpa using ha
    have hne:s.data.toList.drop a=[]:=List.drop_of_length_le (by omega);rw[e4,hne,if_pos rfl];simp only[cond_false];rw[hend];show some (Sum.inl (((),()),acc,()))=some (Sum.inl (((),()),acc++[],()));rw[List.append_nil]
 | succ k ih =>
   intro N a i acc h1 h2 h3 h4 h5;obtain⟨N,rfl⟩:∃M,N=M+1:=⟨N-1,by omega⟩;have hi:i<s.size:=by omega
   have hil:i<s.data.toList.length:=by omega
   have e1:decide ((i:Int)<=(s.size:Int))=true:=by simp;omega
   have e2:decide ((i:Int)<(s.size:Int))=true:=by simpa using hi
   have e3:decide (0<=(i:Int))=true:=by simp
   have ew:IntKind.i64.wrap ((i:Int)+1)=((i+1:Nat):Int):=a2h i (by omega);have ih:=ih N;show a5Z (a0C a5Z N) _=_;generalize a0C a5Z N=I at ih;have hv:b7w s i=(!decide (a0o s (i:Int)<32)&&!decide (a0o s (i:Int)>126)):=rfl;unfold a5Z a0i;rw[hv];simp only[e1,e2,e3,Bool.and_self,cond_true,ew];cases c1:decide (a0o s i<32)
   ·cases c2:decide (a0o s i>126)
    ·simp only[cond_false,Bool.not_false,Bool.and_self,Bool.true_and];have hdi:s.data.toList.drop i=s.data.toList[i]::s.data.toList.drop (i+1):=List.drop_eq_getElem_cons hil;have hat:a0o s i=(s.data.toList[i].toNat:Int):=by
      unfold a0o;rw[Int.toNat_natCast,List.getD_eq_getElem?_getD,List.getElem?_eq_getElem hil];rfl
     by_cases h32:a0o s i=32
     ·have hb:s.data.toList[i]=32:=UInt8.toNat_inj.1 (by rw[hat]at h32;show s.data.toList[i].toNat=32;omega);rw[show(a0o s (i:Int) != 32)=false by simpa using h32];simp only[cond_false];have hsp:s.data.toList.drop a=(s.data.toList.drop a).take (i-a)++32::s.data.toList.drop (i+1):=by
       conv=>lhs;rw[c3i s.data.toList a i h3,hdi,hb]
      have hf:e5r (s.data.toList.drop a)=(if(s.data.toList.drop a).take (i-a)=[]then[]else[bOf ((s.data.toList.drop a).take (i-a))])++e5r (s.data.toList.drop (i+1)):=by
       unfold e5r
       conv=>lhs;rw[hsp,g4Z _ _ h5,List.map_append]
       by_cases h:(s.data.toList.drop a).take (i-a)=[]
       ·rw[if_pos h,if_pos h];rfl
       ·rw[if_neg h,if_neg h];rfl
      by_cases ha:a<i
      ·have e4:decide ((a:Int)<(i:Int))=true:=by simpa using ha
       have e5:(decide (0<=(a:Int))&&decide ((a:Int)<=(i:Int))&&true)=true:=by simp;omega
       have ec:a0j (acc.length+1)=true:=a0r (by omega);have hne:(s.data.toList.drop a).take (i-a)≠[]:=fun h=>by have:=congrArg length h;rw[List.length_take,List.length_drop]at this;simp at this;omega
       rw[e4,e5];simp only[cond_true,length_set,List.length_replicate];rw[ec,cond_true];have key:=ih (i+1) (i+1) (acc++[ByteArray.extract s a i]) (by omega) (by omega) (by omega) (by rw[length_append,List.length_singleton];omega) (by rw[Nat.sub_self];simp);refine Eq.trans key ?_;rw[hf,if_neg hne,d0I,List.append_assoc]
      ·have hai:a=i:=by omega
       have e4:decide ((a:Int)<(i:Int))=false:=by simpa using ha
       rw[e4];simp only[cond_false];have key:=ih (i+1) (i+1) acc (by omega) (by omega) (by omega) (by omega) (by rw[Nat.sub_self];simp);refine Eq.trans key ?_;rw[hf,if_pos (by rw[hai,Nat.sub_self];rfl)];rfl
     ·rw[show(a0o s (i:Int) != 32)=true by simpa using h32];simp only[cond_true];have key:=ih a (i+1) acc (by omega) (by omega) (by omega) (by omega) (by
       have e:i+1-a=(i-a)+1:=by omega
       rw[e,List.take_add_one];have hx:(s.data.toList.drop a)[i-a]?=some s.data.toList[i]:=by
        rw[List.getElem?_drop,show a+(i-a)=i by omega,List.getElem?_eq_getElem hil]
       rw[hx];intro hm;rw[List.mem_append]at hm;rcases hm with hm|hm
       ·exact h5 hm
       ·have hm:(32:UInt8)=s.data.toList[i]:=List.mem_singleton.1 hm;apply h32;rw[hat,<- hm];rfl)
      exact key
    ·rfl
   ·rfl
theorem f4f (s:ByteArray):F87 (s,())=some (spF s,spO s,()):=by
 rw[<- a9D s,c1h];unfold F87;dsimp only;cases h6:decide (((ByteArray.size s:Nat):Int)>600)
 ·have hs:s.size<=600:=by
   have:=of_decide_eq_false h6;omega
  have hl:=b7F s (by omega) s.size (d3L ((s,(),((0:Nat):Int),((0:Nat):Int),()),[],())) 0 0 [] (by omega) (by unfold d3L;dsimp only;omega) (by omega) (by simp) (by simp);have hl:c2t ((s,(),0,0,()),List.replicate 0 (zero Ty.str),())=some (bif c2Z s then .inl (((),()),a0J s,())else .inr (([],false,()),())):=by
   rw[<- e5s];exact hl
  unfold d9z d9A d9C d9B;rw[hl];cases c2Z s
  ·rfl
  ·show(bif decide (((a0J s).length:Int)>24)then _ else _)=some (bif decide (((a0J s).length:Int)>24)then _ else _);cases decide (((a0J s).length:Int)>24)<;>rfl
 ·rfl
theorem e5t (n:Int) (Y:Yv) (h:YM Y) (ht:0<=Y.tm /\ Y.tm<=10000000):f7i (Y,n,())=some (swY (goV n Y)):=by
 have e2:F51 (n,1,3600,())=some (inB n 1 3600,()):=a2d _;have k2:K51 (n,1,3600,())=true:=isS e2;have g2:G51 (n,1,3600,())=(inB n 1 3600,()):=gtS e2;have e3:=c9T Y;have k3:e6d (Y,())=true:=isS e3;have g3:d6E (Y,())=(a1P Y,()):=gtS e3;unfold f7i goV;dsimp only;rw[k2,g2];cases hin:inB n 1 3600 with
 |false=>rfl
 | true =>
   have hin':=hin;unfold inB at hin';simp only[and_eq_true,decide_eq_true_eq]at hin';have w1:IntKind.i64.wrap (Y.2.1+n)=Y.tm+n:=w64 (by show _<=Y.tm+n;omega) (by show Y.tm+n<=_;omega);rw[w1];simp only[Bool.not_true,cond_false,cond_true];cases decide (Y.tm+n>10000000)
   ·have htk:length Y.2.2.2.2.2.2.1=Y.tk.length:=rfl;rw[htk];cases decide ((Y.tk.length:Int) ≥ 200)
    ·simp only[cond_false,Bool.not_false,Bool.and_self,cond_true];have e1:f2a (Y.ps,Y.tm,[((Y.hd,goS Y,n,()):Den a2z)],Y.1.2.1,())=some (goR n Y):=e5a Y.ps Y.tm (Y.hd,goS Y,n,()) Y.1.2.1 h.boat.2.1 ht.1 (by omega) hin'.2;have k1:f2b (Y.ps,Y.tm,[((Y.hd,goS Y,n,()):Den a2z)],Y.1.2.1,())=true:=isS e1;have g1:d3H (Y.ps,Y.tm,[((Y.hd,goS Y,n,()):Den a2z)],Y.1.2.1,())=goR n Y:=gtS e1;have e4:=c0Z (goR n Y).1;have k4:K49 ((goR n Y).1,())=true:=isS e4;have g4:G49 ((goR n Y).1,())=a0S (goR n Y).1:=gtS e4;have c1:a0j (0+Y.tk.length)=true:=c2S h.tk;have c2:a0j (Y.tk.length+1)=true:=a0r (by have:=h.tk;omega);have key:∀s:Nat,goS Y=s->(bif f2b (Y.ps,Y.tm,[((Y.hd,s,n,()):Den a2z)],Y.1.2.1,())then bif K49 ((d3H (Y.ps,Y.tm,[((Y.hd,s,n,()):Den a2z)],Y.1.2.1,())).1,())then
      bif !(d3H (Y.ps,Y.tm,[((Y.hd,s,n,()):Den a2z)],Y.1.2.1,())).2.1 then some (Y,false,())else bif !(G49 ((d3H (Y.ps,Y.tm,[((Y.hd,s,n,()):Den a2z)],Y.1.2.1,())).1,())).2.1 then some (Y,false,())
       else bif a0j (0+Y.tk.length)then bif a0j (Y.tk.length+1)then some (Y.setGo (Y.tm+n) (d3H (Y.ps,Y.tm,[((Y.hd,s,n,()):Den a2z)],Y.1.2.1,())).1 (Y.tk++[((G49 ((d3H (Y.ps,Y.tm,[((Y.hd,s,n,()):Den a2z)],Y.1.2.1,())).1,())).1,Y.tm+n,())]),true,())else none else none
      else none else none:OD f7h)=some (swY (bif (goR n Y).2.1&&(a0S (goR n Y).1).2.1 then(true,Y.setGo (Y.tm+n) (goR n Y).1 (Y.tk++[((a0S (goR n Y).1).1,Y.tm+n,())]))else(false,Y))):=by
      intro s hs;subst hs;rw[k1,g1,k4,g4,c1,c2];cases (goR n Y).2.1
      ·rfl
      ·cases (a0S (goR n Y).1).2.1<;>rfl
     cases hsl:decide (Y.sl ≥ 0)with
     | false =>
       have:=key 0 (by unfold goS;rw[hsl];rfl);rw[show decide (Y.2.2.2.2.2.1 ≥ 0)=false from hsl,cond_false];exact this
     | true =>
       have:=key (a1P Y) (by unfold goS;rw[hsl];rfl);rw[show decide (Y.2.2.2.2.2.1 ≥ 0)=true from hsl,cond_true,k3,g3];exact this
    ·rfl
   ·rfl
theorem f4g (f:List ByteArray) (Y:Yv) (h:YM Y) (hf:0<f.length) (hz:∀k,(fAt f k).size<=1000) (ht:0<=Y.tm /\ Y.tm<=10000000):F88 (Y,f,())=some (swY (a8b f Y)):=by
 have e0:(decide (0<=0)&&decide (0<(f.length:Int)))=true:=by simp;omega
 have a1:=e5n f;have k1:e6v (f,())=true:=isS a1;have g1:d0V (f,())=(uW f,()):=gtS a1;have a2:F51 (uW f,0,359,())=some (a0n (uW f) 0 359,()):=a1F _ _ _;have k2:K51 (uW f,0,359,())=true:=isS a2;have g2:G51 (uW f,0,359,())=(a0n (uW f) 0 359,()):=gtS a2;have a3:=b7E (Y.setHd (uW f)) (h.hd' _);have k3:d0X (Y.setHd (uW f),())=true:=isS a3;have g3:d0Y (Y.setHd (uW f),())=(kpS (Y.setHd (uW f)),()):=gtS a3;have a4:=e5o f Y h hz;have k4:f7c (Y,f,())=true:=isS a4;have g4:f7d (Y,f,())=swY (c3f f Y):=gtS a4;have a5:=e5p f Y h;have k5:f7f (Y,f,())=true:=isS a5;have g5:f7g (Y,f,())=swY (c3g f Y):=gtS a5;have a6:=e0s f hz;have k6:e2X (f,())=true:=isS a6;have g6:a6X (f,())=a5C f:=gtS a6;have a7:=c0Z ((a5C f).1,(a5C f).2.1);have k7:K49 (((a5C f).1,(a5C f).2.1),())=true:=isS a7;have g7:G49 (((a5C f).1,(a5C f).2.1),())=a0S ((a5C f).1,(a5C f).2.1):=gtS a7;have a8:=e5t (uW f) Y h ht;have k8:f7j (Y,uW f,())=true:=isS a8;have g8:f7k (Y,uW f,())=swY (goV (uW f) Y):=gtS a8;unfold F88 a8b c1p f7x;show(bif (decide (0<=0)&&decide (0<(f.length:Int)))then
  bif a0O (fAt f 0) a3I then bif e6v (f,())then bif K51 ((d0V (f,())).1,0,359,())then bif !(G51 ((d0V (f,())).1,0,359,())).1 then some (Y,false,())else bif d0X (Y.setHd (d0V (f,())).1,())then some ((d0Y (Y.setHd (d0V (f,())).1,())).1,true,())else none else none else none
  else bif a0O (fAt f 0) a7t then bif f7c (Y,f,())then some (f7d (Y,f,()))else none
  else bif a0O (fAt f 0) a9u then bif f7f (Y,f,())then some (f7g (Y,f,()))else none
  else bif a0O (fAt f 0) c9S then bif e2X (f,())then bif K49 (((a6X (f,())).1,(a6X (f,())).2.1),())then bif !(a6X (f,())).2.2.1 then some (Y,false,())else bif !(G49 (((a6X (f,())).1,(a6X (f,())).2.1),())).2.1 then some (Y,false,())else some (Y.setPs ((a6X (f,())).1,(a6X (f,())).2.1),true,())else none else none
  else bif a0O (fAt f 0) sGo then bif e6v (f,())then bif f7j (Y,d0V (f,()))then some (f7k (Y,d0V (f,())))else none else none
  else some (Y,false,())else none:OD R88)=_
 rw[e0,k1,g1,k4,g4,k5,g5,k6,g6];dsimp only;rw[k2,g2,k3,g3,k7,g7,k8,g8];cases a0O (fAt f 0) a3I
 ·cases a0O (fAt f 0) a7t
  ·cases a0O (fAt f 0) a9u
   ·cases a0O (fAt f 0) c9S
    ·cases a0O (fAt f 0) sGo<;>rfl
    ·cases (a5C f).2.2.1
     ·rfl
     ·cases (a0S ((a5C f).1,(a5C f).2.1)).2.1<;>rfl
   ·rfl
  ·rfl
 ·cases a0n (uW f) 0 359<;>rfl
def jnY (Y:Yv):J10:=((),(),(),(),(),(),Y.1.2.2.2.1.1.1.1,Y.1.2.2.2.1.1.1.2.1,Y.1.2.2.2.1.1.2.1.1,Y.1.2.2.2.1.1.2.1.2.1,(),Y.1.2.2.2.1.2.2.1.1.1,Y.1.2.2.2.1.2.2.1.1.2.1,Y.1.2.2.2.1.2.2.1.2.1.1,Y.1.2.2.2.1.2.2.1.2.1.2.1,Y.tm,Y.ps,Y.hd,Y.wd,Y.sl,(),(),())
def o37 (Y:Yv):O37.den:=((jnY Y,()),Y.1.1.1,Y.1.1.2.1,Y.1.1.2.2.1,Y.1.2.1.1,Y.1.2.1.2.1,Y.1.2.2.1,Y.1.2.2.2.1.2.1,Y.tk,Y.lg,())
def c3j (v:O37.den):Yv:=(((v.2.1,v.2.2.1,v.2.2.2.1,()),(v.2.2.2.2.1,v.2.2.2.2.2.1,()),v.2.2.2.2.2.2.1,(((v.1.1.2.2.2.2.2.2.1,v.1.1.2.2.2.2.2.2.2.1,()),(v.1.1.2.2.2.2.2.2.2.2.1,v.1.1.2.2.2.2.2.2.2.2.2.1,()),()),v.2.2.2.2.2.2.2.1,((v.1.1.2.2.2.2.2.2.2.2.2.2.2.1,v.1.1.2.2.2.2.2.2.2.2.2.2.2.2.1,()),(v.1.1.2.2.2.2.2.2.2.2.2.2.2.2.2.1,v.1.1.2.2.2.2.2.2.2.2.2.2.2.2.2.2.1,()),()),()),()),v.1.1.2.2.2.2.2.2.2.2.2.2.2.2.2.2.2.1,v.1.1.2.2.2.2.2.2.2.2.2.2.2.2.2.2.2.2.1,v.1.1.2.2.2.2.2.2.2.2.2.2.2.2.2.2.2.2.2.1,v.1.1.2.2.2.2.2.2.2.2.2.2.2.2.2.2.2.2.2.2.1,v.1.1.2.2.2.2.2.2.2.2.2.2.2.2.2.2.2.2.2.2.2.1,v.2.2.2.2.2.2.2.2.1,v.2.2.2.2.2.2.2.2.2.1,())
theorem e0t (Y:Yv):c3j (o37 Y)=Y:=rfl
theorem e0u (Y:Yv) (h:YM Y):F37 ((Y,()),())=some (o37 Y):=by
 have e:=e0r Y.1 h.boat;have k:K80 ((Y.1,()),())=true:=isS e;have g:G80 ((Y.1,()),())=o80 Y.1:=gtS e;have c1:a0j (0+Y.tk.length)=true:=c2S h.tk;have c2:a0j (0+Y.lg.length)=true:=c2S h.lg;unfold F37;dsimp only;rw[show K80 ((Y.1,()),())=true from k,show G80 ((Y.1,()),())=o80 Y.1 from g];show(bif a0j (0+Y.tk.length)then bif a0j (0+Y.lg.length)then some (o37 Y)else none else none:Option O37.den)=_;rw[c1,c2];rfl
theorem a3g (Y:Yv):Left Y (kpS Y):=by
 unfold kpS;cases decide (Y.sl<0)
 ·exact a7z _ _
 ·exact .refl Y
theorem b7G (x:Nat×Nat) (Y:Yv):Left Y (c1q x Y).2:=by
 unfold c1q;cases a6T Y.wd
 ·cases ((a1C Y.wd x).2.1&&a1K (a1C Y.wd x).1)
  ·exact .refl Y
  ·exact⟨(a3g (Y.setWd _)).boat,(a3g (Y.setWd _)).lg,(a3g (Y.setWd _)).tk⟩
 ·exact⟨(a3g (Y.setWd _)).boat,(a3g (Y.setWd _)).lg,(a3g (Y.setWd _)).tk⟩
theorem d5b (n:Int) (Y:Yv):Left Y (goV n Y).2:=by
 unfold goV;cases (inB n 1 3600&&(!decide (Y.tm+n>10000000)&&!decide ((Y.tk.length:Int) ≥ 200)))
 ·exact .refl Y
 ·cases ((goR n Y).2.1&&(a0S (goR n Y).1).2.1)
  ·exact .refl Y
  ·exact⟨rfl,rfl,.inr ⟨_,rfl⟩⟩
theorem c3k (f:List ByteArray) (Y:Yv):Left Y (a8b f Y).2:=by
 unfold a8b;cases a0O (fAt f 0) a3I
 ·cases a0O (fAt f 0) a7t
  ·cases a0O (fAt f 0) a9u
   ·cases a0O (fAt f 0) c9S
    ·cases a0O (fAt f 0) sGo
     ·exact .refl Y
     ·exact d5b _ Y
    ·show Left Y (f7x f Y).2;unfold f7x;cases ((a5C f).2.2.1&&(a0S ((a5C f).1,(a5C f).2.1)).2.1)
     ·exact .refl Y
     ·exact⟨rfl,rfl,.inl rfl⟩
   ·show Left Y (c3g f Y).2;unfold c3g;cases !decide (f.length=2)
    ·cases a0O (fAt f 1) b0a
     ·cases a0s (e5m f Y) 0 Y.sails.length
      ·exact .refl Y
      ·exact a7z _ _
     ·exact a7z _ _
    ·exact .refl Y
  ·show Left Y (c3f f Y).2;unfold c3f;cases ((a5C f).2.2.1&&a1K (a7O (a5C f)))
   ·exact .refl Y
   ·exact b7G _ Y
 ·show Left Y (c1p f Y).2;unfold c1p;cases a0n (uW f) 0 359
  ·exact .refl Y
  ·exact⟨(a3g (Y.setHd _)).boat,(a3g (Y.setHd _)).lg,(a3g (Y.setHd _)).tk⟩
def f7y (Y:Yv) (s:ByteArray):Bool:=okV (a1l Y) Y&&(decide ((Y.lg.length:Int)<300)&&(spO s&&(!decide ((spF s).length=0)&&(a8b (spF s) Y).1)))
def g5a (Y:Yv) (s:ByteArray):Yv:=(a8b (spF s) Y).2.setLg (Y.lg++[a1h (spF s)])
def d5c (Y:Yv) (s:ByteArray):Yv×Bool×Unit:=bif f7y Y s then(g5a Y s,true,())else(Y,false,())
theorem b1g (x:List UInt8):∀(f:List (List UInt8)),f≠[]->a4N (f++[x])=a4N f++32::x
 |[],h=>absurd rfl h
 | [a],_=>by
   show a4N [a,x]=_;rw[a2w,a3t,a3t]
 | a::b::r,_=>by
   show a4N (a::b::(r++[x]))=_;rw[a2w,a2w,show b::(r++[x])=(b::r)++[x]from rfl,b1g x (b::r) (by simp)];simp
theorem b1h (f:List ByteArray) (x:ByteArray) (h:f≠[]):a1h (f++[x])=a1h f++{ data:=#[32] }++x:=by
 apply a7R;rw[a2x,List.map_append,List.map_singleton,b1g _ _ (by simpa using h),<- a2x];simp[ByteArray.data_append]
theorem b5q (x:ByteArray):a1h [x]=x:=by
 apply a7R;rw[a2x];exact a3t _
theorem b7H (f:List ByteArray) (hz:∀k,(fAt f k).size<=600):∀k,k<f.length->(a1h (f.take (k+1))).size<=601*(k+1):=by
 intro k
 induction k with
 | zero =>
   intro h;obtain⟨a,r,rfl⟩:∃a r,f=a::r:=by
    cases f with
    |nil=>simp at h
    |cons a r=>exact⟨a,r,rfl⟩
   show(a1h [a]).size<=_;rw[b5q];have:=hz 0;show a.size<=601*(0+1);have e:fAt (a::r) 0=a:=rfl;rw[e]at this;omega
 | succ k ih =>
   intro h;have i1:=ih (by omega);have e:f.take (k+1+1)=f.take (k+1)++[f[k+1]]:=List.take_succ_eq_append_getElem h;rw[e,b1h _ _ (by intro h0;have h9:=congrArg length h0;rw[List.length_take,List.length_nil]at h9;omega)];have h2:=hz ((k+1:Nat):Int);have e2:fAt f ((k+1:Nat):Int)=f[k+1]:=a3q _ _ _ h;rw[e2]at h2;have h3:({ data:=#[32] }:ByteArray).size=1:=rfl;rw[ByteArray.size_append,ByteArray.size_append,h3];omega
def flL (Y:Yv):=(Y.1.1.1,Y.1.1.2.1,Y.1.1.2.2.1,Y.1.2.1.1,Y.1.2.1.2.1,Y.1.2.2.1,Y.1.2.2.2.1.1.1.1,Y.1.2.2.2.1.1.1.2.1,Y.1.2.2.2.1.1.2.1.1,Y.1.2.2.2.1.1.2.1.2.1,Y.1.2.2.2.1.2.1,Y.1.2.2.2.1.2.2.1.1.1,Y.1.2.2.2.1.2.2.1.1.2.1,Y.1.2.2.2.1.2.2.1.2.1.1,Y.1.2.2.2.1.2.2.1.2.1.2.1,Y.tm,Y.ps,Y.hd,Y.wd,Y.sl,Y.tk,(),())
def o38 (p:Yv×Bool×Unit):O38.den:=((flL p.1,p.2),p.1.lg,())
set_option maxHeartbeats 2000000 in
theorem f4h (Y:Yv) (s:ByteArray) (h:YM Y):F38 ((Y,s,()),())=some (o38 (d5c Y s)):=by
 have a1:=f4f s;have k1:K87 (s,())=true:=isS a1;have g1:G87 (s,())=(spF s,spO s,()):=gtS a1;have a2:=e0u Y h;have k2:K37 ((Y,()),())=true:=isS a2;have g2:G37 ((Y,()),())=o37 Y:=gtS a2;have a3:=f3P Y h;have k3:K18 (Y,())=true:=isS a3;have g3:G18 (Y,())=(okV (a1l Y) Y,()):=gtS a3;unfold F38 d5c f7y g5a;show (bif K87 (s,())then bif !(G87 (s,())).2.1 then bif K37 ((Y,()),())then some (o38 (c3j (G37 ((Y,()),())),false,()))else none
  else bif (((G87 (s,())).1.length:Int)==0)then bif K37 ((Y,()),())then some (o38 (c3j (G37 ((Y,()),())),false,()))else none
  else bif K18 (Y,())then bif !(G18 (Y,())).1 then bif K37 ((Y,()),())then some (o38 (c3j (G37 ((Y,()),())),false,()))else none
   else bif decide ((Y.lg.length:Int) ≥ 300)then bif K37 ((Y,()),())then some (o38 (c3j (G37 ((Y,()),())),false,()))else none
   else bif K37 ((Y,()),())then bif K88 (c3j (G37 ((Y,()),())),(G87 (s,())).1,())then
    bif !(G88 (c3j (G37 ((Y,()),())),(G87 (s,())).1,())).2.1 then bif K37 ((Y,()),())then some (o38 (c3j (G37 ((Y,()),())),false,()))else none
    else bif (decide (0<=0)&&decide (0<((G87 (s,())).1.length:Int)))then
     (fun Z:Yv=>bif c0u (((),(),(G87 (s,())).1,(),fAt (G87 (s,())).1 0,(1:Int),()),flY Y,jn0,flY Z,())then
      (fun v:e3b=>bif a0j (0+length v.2.1.2.2.2.2.2.2.2.2.2.2.2.2.2.2.2.2.2.2.2.2.2.1)then bif a0j (length v.2.1.2.2.2.2.2.2.2.2.2.2.2.2.2.2.2.2.2.2.2.2.2.1+1)then(some (o38 ((bkY v.2.2.2.1).setLg (v.2.1.2.2.2.2.2.2.2.2.2.2.2.2.2.2.2.2.2.2.2.2.2.1++[v.1.2.2.2.1]),true,())):Option O38.den)else none else none)
       (c0v (((),(),(G87 (s,())).1,(),fAt (G87 (s,())).1 0,(1:Int),()),flY Y,jn0,flY Z,()))else none) (G88 (c3j (G37 ((Y,()),())),(G87 (s,())).1,())).1
    else none else none else none
   else none else none:Option O38.den)=_
 rw[k1,g1,k2,g2,k3,g3,e0t];dsimp only;cases hb:spO s with
 |false=>cases okV (a1l Y) Y<;>cases decide ((Y.lg.length:Int)<300)<;>rfl
 |true=>
 by_cases hf0:(spF s).length=0
 ·rw[show(((spF s).length:Int)==0)=true by simp[hf0],decide_eq_true hf0];cases okV (a1l Y) Y<;>cases decide ((Y.lg.length:Int)<300)<;>rfl
 rw[show(((spF s).length:Int)==0)=false by simp[hf0],decide_eq_false hf0];cases ho:okV (a1l Y) Y with
 |false=>rfl
 |true=>
 by_cases hl:(Y.lg.length:Int)<300
 ·rw [show decide ((Y.lg.length:Int) ≥ 300)=false by simp;omega,decide_eq_true hl];obtain⟨_,ht,_⟩:=a6V ho;have hfl:0<(spF s).length:=by omega
  have hz:∀k,(fAt (spF s) k).size<=600:=fun k=>c1o hb k
  have a4:=f4g (spF s) Y h hfl (fun k=>Nat.le_trans (hz k) (by decide)) ht;have k4:K88 (Y,spF s,())=true:=isS a4;have g4:G88 (Y,spF s,())=swY (a8b (spF s) Y):=gtS a4;rw[k4,g4];have e0:(decide (0<=0)&&decide (0<((spF s).length:Int)))=true:=by simp;omega
  rw[e0];cases hd:(a8b (spF s) Y).1 with
  | false =>
    simp only[swY,hd];rfl
  | true =>
    have hlen24:=(b2w hb).2.2.2;generalize hZ:(a8b (spF s) Y).2=Z;have hsw:swY (a8b (spF s) Y)=(Z,true,()):=by unfold swY;rw[hd,hZ]
    rw[hsw];generalize hF:spF s=f at *;have hloop:c8u (((),(),f,(),fAt f 0,(1:Int),()),flY Y,jn0,flY Z,())=some (((),(),(),a1h f,()),flY Y,jn0,flY Z,()):=by
     have key:=a1k (q:=c8t) (fun k=>(((),(),f,(),a1h (f.take (k+1)),((k+1:Nat):Int),()),flY Y,jn0,flY Z,())) (f.length-1) (((),(),(),a1h f,()),flY Y,jn0,flY Z,()) (by
      intro k f' hk;have hk1:k+1<f.length:=by omega
      have d1:decide (((k+1:Nat):Int)<(f.length:Int))=true:=by simp;omega
      have d2:decide (0<=((k+1:Nat):Int))=true:=by simp;omega
      have sm:=b7H f hz k (by omega);have h3:({ data:=#[32] }:ByteArray).size=1:=rfl;have d3:decide ((a1h (f.take (k+1))).size+({ data:=#[32] }:ByteArray).size<=9223372036854775807)=true:=decide_eq_true (by rw[h3];omega);have h4:=hz ((k+1:Nat):Int);have d4:decide ((a1h (f.take (k+1))++{ data:=#[32] }).size+(fAt f ((k+1:Nat):Int)).size<=9223372036854775807)=true:=decide_eq_true (by rw[ByteArray.size_append,h3];omega);have ew:IntKind.i64.wrap (((k+1:Nat):Int)+1)=((k+1+1:Nat):Int):=a2h (k+1) (by omega);have hj:a1h (f.take (k+1+1))=a1h (f.take (k+1))++{ data:=#[32] }++fAt f ((k+1:Nat):Int):=by
       have e:f.take (k+1+1)=f.take (k+1)++[f[k+1]]:=List.take_succ_eq_append_getElem hk1;have e2:fAt f ((k+1:Nat):Int)=f[k+1]:=a3q _ _ _ hk1;rw[e,e2,b1h _ _ (by intro h0;have h9:=congrArg length h0;rw[List.length_take,List.length_nil]at h9;omega)]
      unfold c8t;show(bif decide (((k+1:Nat):Int)<(f.length:Int))then bif decide ((a1h (f.take (k+1))).size+({ data:=#[32] }:ByteArray).size<=9223372036854775807)then
       bif (decide (0<=((k+1:Nat):Int))&&decide (((k+1:Nat):Int)<(f.length:Int)))then
        bif decide ((a1h (f.take (k+1))++{ data:=#[32] }).size+(fAt f ((k+1:Nat):Int)).size<=9223372036854775807)then
         f' (((),(),f,(),a1h (f.take (k+1))++{ data:=#[32] }++fAt f ((k+1:Nat):Int),IntKind.i64.wrap (((k+1:Nat):Int)+1),()),flY Y,jn0,flY Z,())else none else none else none else _)=_
      rw[d1,d2,d3,d4,ew,<- hj];rfl) (by
      intro f';have e:f.length-1+1=f.length:=by omega
      have d1:decide (((f.length-1+1:Nat):Int)<(f.length:Int))=false:=by simp;omega
      unfold c8t;show(bif decide (((f.length-1+1:Nat):Int)<(f.length:Int))then _ else some (((),(),(),a1h (f.take (f.length-1+1)),()),flY Y,jn0,flY Z,()))=_;rw[d1,e,List.take_length];rfl) (d3O (((),(),f,(),a1h (f.take (0+1)),((0+1:Nat):Int),()),flY Y,jn0,flY Z,())) (by
      unfold d3O;refine Nat.lt_of_lt_of_le (show f.length-1<1000 by omega) (Nat.le_add_left _ _))
     have hj0:a1h (f.take (0+1))=fAt f 0:=by
      obtain⟨a,r,rfl⟩:∃a r,f=a::r:=by
       cases f with
       |nil=>simp at hfl
       |cons a r=>exact⟨a,r,rfl⟩
      exact b5q a
     unfold c8u;rw[hj0]at key;exact key
    have hk:c0u (((),(),f,(),fAt f 0,(1:Int),()),flY Y,jn0,flY Z,())=true:=by unfold c0u;rw[hloop];rfl
    have hx:c0v (((),(),f,(),fAt f 0,(1:Int),()),flY Y,jn0,flY Z,())=(((),(),(),a1h f,()),flY Y,jn0,flY Z,()):=by unfold c0v;rw[hloop];rfl
    dsimp only;rw[hk,hx];have c1:a0j (0+Y.lg.length)=true:=c2S h.lg;have c2:a0j (Y.lg.length+1)=true:=a0r (by have:=h.lg;omega);show(bif a0j (0+Y.lg.length)then bif a0j (Y.lg.length+1)then _ else none else none)=_;rw[c1,c2];rfl
 ·rw[show decide ((Y.lg.length:Int) ≥ 300)=true by simp;omega,decide_eq_false hl];rfl
theorem YM.doVS {Y:Yv} (h:YM Y) (s:ByteArray):YM (d5c Y s).1:=by
 unfold AM.d5c;cases hd:f7y Y s with
 |false=>exact h
 | true =>
   show YM (g5a Y s);unfold f7y at hd;simp only[and_eq_true,decide_eq_true_eq]at hd;obtain⟨ho,hl,_⟩:=hd;obtain⟨_,_,_,_,_,_,ht,_,_,_⟩:=a6V ho;have htl:=b5p ht;have L:=c3k (spF s) Y;refine⟨?_,?_,?_⟩
   ·show a5B (a8b (spF s) Y).2.1;rw[L.boat];exact h.boat
   ·show((a8b (spF s) Y).2.tk).length<=1000;rcases L.tk with e|⟨x,e⟩
    ·rw[e];exact h.tk
    ·rw[e,length_append,List.length_singleton];omega
   ·show(Y.lg++[a1h (spF s)]).length<=1000;rw[length_append,List.length_singleton];omega
def b2x (Y:Yv) (ls:List ByteArray):Nat->Yv×List Bool
 |0=>(Y,[])
 |k+1=>((d5c (b2x Y ls k).1 (ls.getD k (zero Ty.str))).1,(b2x Y ls k).2++[(d5c (b2x Y ls k).1 (ls.getD k (zero Ty.str))).2.1])
theorem b7I (Y:Yv) (ls:List ByteArray) (h:YM Y):∀k,YM (b2x Y ls k).1
 |0=>h
 |k+1=>(b7I Y ls h k).doVS _
theorem c1r (Y:Yv) (ls:List ByteArray):∀k,(b2x Y ls k).2.length=k
 |0=>rfl
 | k+1=>by
   show((b2x Y ls k).2++[_]).length=_;rw[length_append,c1r Y ls k];rfl
theorem f4i (v:c2u):v.1.1.length<d3Q v:=by
 unfold d3Q;refine Nat.lt_of_le_of_lt ?_ (Nat.lt_add_of_pos_right (by decide))
 repeat (first|exact Nat.le_refl _|refine Nat.le_trans ?_ (Nat.le_add_right _ _))
theorem e5u (Y:Yv) (ls:List ByteArray) (k:Nat) (hk:k<ls.length) (hl:ls.length<=1000) (bs:List Bool) (hb:bs.length<=1000) (h:YM Y) (f:c2u->Option d3P) :
 c2v f ((ls,(),(),(),(k:Int),()),jn0,bs,flL Y,Y.lg,())=f ((ls,(),(),(),((k+1:Nat):Int),()),jn0,bs++[(d5c Y (ls.getD k (zero Ty.str))).2.1],flL (d5c Y (ls.getD k (zero Ty.str))).1,(d5c Y (ls.getD k (zero Ty.str))).1.lg,()):=by
 have e1:decide ((k:Int)<(ls.length:Int))=true:=by simpa using hk
 have e2:decide (0<=(k:Int))=true:=by simp
 have e:=f4h Y (ls.getD k (zero Ty.str)) h;have k1:K38 ((Y,ls.getD k (zero Ty.str),()),())=true:=isS e;have g1:G38 ((Y,ls.getD k (zero Ty.str),()),())=o38 (d5c Y (ls.getD k (zero Ty.str))):=gtS e;have hc:a0j (bs.length+1)=true:=a0r (by omega);have ew:IntKind.i64.wrap ((k:Int)+1)=((k+1:Nat):Int):=a2h k (by omega);unfold c2v;show(bif decide ((k:Int)<(ls.length:Int))then bif (decide (0<=(k:Int))&&decide ((k:Int)<(ls.length:Int)))then bif K38 ((Y,ls.getD k (zero Ty.str),()),())then bif a0j (bs.length+1)then
  f ((ls,(),(),(),IntKind.i64.wrap ((k:Int)+1),()),jn0,bs++[(G38 ((Y,ls.getD k (zero Ty.str),()),())).1.2.1],(G38 ((Y,ls.getD k (zero Ty.str),()),())).1.1,(G38 ((Y,ls.getD k (zero Ty.str),()),())).2)else none else none else none else _)=_
 rw[e1,e2,k1,g1,hc,ew];rfl
def o11 (Y:Yv) (b:List Bool):O11.den:=((flL Y,b,()),Y.lg,())
set_option maxHeartbeats 2000000 in
theorem f4j (Y:Yv) (ls:List ByteArray) (h:YM Y) (hl:ls.length<=1000):F11 ((Y,ls,()),())=some (o11 (b2x Y ls ls.length).1 (b2x Y ls ls.length).2):=by
 have h37:=e0u Y h;have k37:K37 ((Y,()),())=true:=isS h37;have g37:G37 ((Y,()),())=o37 Y:=gtS h37;have hloop:d3R ((ls,(),(),(),(0:Int),()),jn0,[],flL Y,Y.lg,())=some (((),(),(),()),jn0,(b2x Y ls ls.length).2,flL (b2x Y ls ls.length).1,(b2x Y ls ls.length).1.lg,()):=by
  refine a1k (q:=c2v) (fun k=>((ls,(),(),(),(k:Int),()),jn0,(b2x Y ls k).2,flL (b2x Y ls k).1,(b2x Y ls k).1.lg,())) ls.length _ ?_ ?_ _ ?_
  ·intro k f hk;exact e5u (b2x Y ls k).1 ls k hk hl (b2x Y ls k).2 (by rw[c1r];omega) (b7I Y ls h k) f
  ·intro f;have e1:decide ((ls.length:Int)<(ls.length:Int))=false:=by simp
   unfold c2v;show(bif decide ((ls.length:Int)<(ls.length:Int))then _ else _)=_;rw[e1];rfl
  ·exact f4i ((ls,(),(),(),(0:Int),()),jn0,[],flL Y,Y.lg,())
 have hk:c0w ((ls,(),(),(),(0:Int),()),jn0,[],flL Y,Y.lg,())=true:=by unfold c0w;rw[hloop];rfl
 have hx:c0x ((ls,(),(),(),(0:Int),()),jn0,[],flL Y,Y.lg,())=(((),(),(),()),jn0,(b2x Y ls ls.length).2,flL (b2x Y ls ls.length).1,(b2x Y ls ls.length).1.lg,()):=by unfold c0x;rw[hloop];rfl
 unfold F11;show(bif K37 ((Y,()),())then bif c0w ((ls,(),(),(),(0:Int),()),jn0,[],flL (c3j (G37 ((Y,()),()))),(c3j (G37 ((Y,()),()))).lg,())then
  (fun v3:d3P=>(some ((v3.2.2.2.1,v3.2.2.1,()),v3.2.2.2.2):Option O11.den)) (c0x ((ls,(),(),(),(0:Int),()),jn0,[],flL (c3j (G37 ((Y,()),()))),(c3j (G37 ((Y,()),()))).lg,()))else none else none)=_
 rw[k37,g37,e0t];dsimp only;rw[hk,hx];rfl
set_option maxHeartbeats 0
abbrev I66:Sg:=⟨[.ptr 0],[.box (a1U)]⟩
abbrev O66:Sg:=⟨[.val (S46)],[.box (a1U)]⟩
abbrev a9E:Type:=a7l×ty3×ty4×ty7
abbrev e0v:Type:=ty5×ty3×ty4×ty7
def e0w:LX:=⟨[0,2,4],[],1,[2,4],[],⟨[(0,om1),(2,om3),(4,om4)],[(0,bx0),(1,bx5),(2,bx9),(3,.arr (.str))],4,1⟩,⟨[(2,om3),(4,om4)],[(0,bx0),(1,bx5),(2,bx9),(3,.arr (.str))],4,1⟩⟩
def c1s (f:a9E->Option (e0v)) (v:a9E):Option (e0v):=bif K34 (((),2,()),v.2.1,()) then let a:=G34 (((),2,()),v.2.1,());bif decide ((length v.2.2.2.2.1:Int)<(IntKind.wrap .i64 (300+a.1.1))) then let b:=set (List.replicate 1 (zero Ty.str)) 0 { data:=#[115,97,105,108,32,110,111,110,101] };bif a0j (length v.2.2.2.2.1+length b) then f ((((),(),(),()),a.2.1,((),(),(),(),(),(),v.2.2.1.2.2.2.2.2.2.1,v.2.2.1.2.2.2.2.2.2.2.1,v.2.2.1.2.2.2.2.2.2.2.2.1,v.2.2.1.2.2.2.2.2.2.2.2.2.1,(),v.2.2.1.2.2.2.2.2.2.2.2.2.2.2.1,v.2.2.1.2.2.2.2.2.2.2.2.2.2.2.2.1,v.2.2.1.2.2.2.2.2.2.2.2.2.2.2.2.2.1,v.2.2.1.2.2.2.2.2.2.2.2.2.2.2.2.2.2.1,v.2.2.1.2.2.2.2.2.2.2.2.2.2.2.2.2.2.2.1,v.2.2.1.2.2.2.2.2.2.2.2.2.2.2.2.2.2.2.2.1,v.2.2.1.2.2.2.2.2.2.2.2.2.2.2.2.2.2.2.2.2.1,v.2.2.1.2.2.2.2.2.2.2.2.2.2.2.2.2.2.2.2.2.2.1,v.2.2.1.2.2.2.2.2.2.2.2.2.2.2.2.2.2.2.2.2.2.2.1,(),(),()),(v.2.2.2.1.1,v.2.2.2.1.2.1,v.2.2.2.1.2.2.1,v.2.2.2.1.2.2.2.1,v.2.2.2.1.2.2.2.2.1,v.2.2.2.1.2.2.2.2.2.1,v.2.2.2.1.2.2.2.2.2.2.1,v.2.2.2.1.2.2.2.2.2.2.2.1,v.2.2.2.1.2.2.2.2.2.2.2.2.1,v.2.2.2.1.2.2.2.2.2.2.2.2.2.1,v.2.2.2.1.2.2.2.2.2.2.2.2.2.2.1,v.2.2.2.1.2.2.2.2.2.2.2.2.2.2.2.1,v.2.2.2.1.2.2.2.2.2.2.2.2.2.2.2.2.1,v.2.2.2.1.2.2.2.2.2.2.2.2.2.2.2.2.2.1,v.2.2.2.1.2.2.2.2.2.2.2.2.2.2.2.2.2.2.1,v.2.2.2.1.2.2.2.2.2.2.2.2.2.2.2.2.2.2.2.1,v.2.2.2.1.2.2.2.2.2.2.2.2.2.2.2.2.2.2.2.2.1,v.2.2.2.1.2.2.2.2.2.2.2.2.2.2.2.2.2.2.2.2.2.1,v.2.2.2.1.2.2.2.2.2.2.2.2.2.2.2.2.2.2.2.2.2.2.1,v.2.2.2.1.2.2.2.2.2.2.2.2.2.2.2.2.2.2.2.2.2.2.2.1,v.2.2.2.1.2.2.2.2.2.2.2.2.2.2.2.2.2.2.2.2.2.2.2.2.1,(),()),v.2.2.2.2.1++b,()))else none else some (((),(),()),a.2.1,((),(),(),(),(),(),v.2.2.1.2.2.2.2.2.2.1,v.2.2.1.2.2.2.2.2.2.2.1,v.2.2.1.2.2.2.2.2.2.2.2.1,v.2.2.1.2.2.2.2.2.2.2.2.2.1,(),v.2.2.1.2.2.2.2.2.2.2.2.2.2.2.1,v.2.2.1.2.2.2.2.2.2.2.2.2.2.2.2.1,v.2.2.1.2.2.2.2.2.2.2.2.2.2.2.2.2.1,v.2.2.1.2.2.2.2.2.2.2.2.2.2.2.2.2.2.1,v.2.2.1.2.2.2.2.2.2.2.2.2.2.2.2.2.2.2.1,v.2.2.1.2.2.2.2.2.2.2.2.2.2.2.2.2.2.2.2.1,v.2.2.1.2.2.2.2.2.2.2.2.2.2.2.2.2.2.2.2.2.1,v.2.2.1.2.2.2.2.2.2.2.2.2.2.2.2.2.2.2.2.2.2.1,v.2.2.1.2.2.2.2.2.2.2.2.2.2.2.2.2.2.2.2.2.2.2.1,(),(),()),(v.2.2.2.1.1,v.2.2.2.1.2.1,v.2.2.2.1.2.2.1,v.2.2.2.1.2.2.2.1,v.2.2.2.1.2.2.2.2.1,v.2.2.2.1.2.2.2.2.2.1,v.2.2.2.1.2.2.2.2.2.2.1,v.2.2.2.1.2.2.2.2.2.2.2.1,v.2.2.2.1.2.2.2.2.2.2.2.2.1,v.2.2.2.1.2.2.2.2.2.2.2.2.2.1,v.2.2.2.1.2.2.2.2.2.2.2.2.2.2.1,v.2.2.2.1.2.2.2.2.2.2.2.2.2.2.2.1,v.2.2.2.1.2.2.2.2.2.2.2.2.2.2.2.2.1,v.2.2.2.1.2.2.2.2.2.2.2.2.2.2.2.2.2.1,v.2.2.2.1.2.2.2.2.2.2.2.2.2.2.2.2.2.2.1,v.2.2.2.1.2.2.2.2.2.2.2.2.2.2.2.2.2.2.2.1,v.2.2.2.1.2.2.2.2.2.2.2.2.2.2.2.2.2.2.2.2.1,v.2.2.2.1.2.2.2.2.2.2.2.2.2.2.2.2.2.2.2.2.2.1,v.2.2.2.1.2.2.2.2.2.2.2.2.2.2.2.2.2.2.2.2.2.2.1,v.2.2.2.1.2.2.2.2.2.2.2.2.2.2.2.2.2.2.2.2.2.2.2.1,v.2.2.2.1.2.2.2.2.2.2.2.2.2.2.2.2.2.2.2.2.2.2.2.2.1,(),()),v.2.2.2.2)else none
def d0J (v:a9E):Nat:=v.2.1.1.length+v.2.1.2.1.natAbs+v.2.1.2.2.1.natAbs+v.2.2.1.2.2.2.2.2.2.1.natAbs+v.2.2.1.2.2.2.2.2.2.2.1.natAbs+v.2.2.1.2.2.2.2.2.2.2.2.1.natAbs+v.2.2.1.2.2.2.2.2.2.2.2.2.1.natAbs+v.2.2.1.2.2.2.2.2.2.2.2.2.2.2.1.natAbs+v.2.2.1.2.2.2.2.2.2.2.2.2.2.2.2.1.natAbs+v.2.2.1.2.2.2.2.2.2.2.2.2.2.2.2.2.1.natAbs+v.2.2.1.2.2.2.2.2.2.2.2.2.2.2.2.2.2.1.natAbs+v.2.2.1.2.2.2.2.2.2.2.2.2.2.2.2.2.2.2.1.natAbs+v.2.2.1.2.2.2.2.2.2.2.2.2.2.2.2.2.2.2.2.2.1.natAbs+v.2.2.1.2.2.2.2.2.2.2.2.2.2.2.2.2.2.2.2.2.2.2.1.natAbs+v.2.2.2.1.1.length+v.2.2.2.1.2.1.length+v.2.2.2.1.2.2.1.length+v.2.2.2.1.2.2.2.1.length+v.2.2.2.1.2.2.2.2.1.length+v.2.2.2.1.2.2.2.2.2.1.length+v.2.2.2.1.2.2.2.2.2.2.1.natAbs+v.2.2.2.1.2.2.2.2.2.2.2.1.natAbs+v.2.2.2.1.2.2.2.2.2.2.2.2.1.natAbs+v.2.2.2.1.2.2.2.2.2.2.2.2.2.1.natAbs+v.2.2.2.1.2.2.2.2.2.2.2.2.2.2.1.length+v.2.2.2.1.2.2.2.2.2.2.2.2.2.2.2.1.natAbs+v.2.2.2.1.2.2.2.2.2.2.2.2.2.2.2.2.1.natAbs+v.2.2.2.1.2.2.2.2.2.2.2.2.2.2.2.2.2.1.natAbs+v.2.2.2.1.2.2.2.2.2.2.2.2.2.2.2.2.2.2.1.natAbs+v.2.2.2.1.2.2.2.2.2.2.2.2.2.2.2.2.2.2.2.1.natAbs+v.2.2.2.1.2.2.2.2.2.2.2.2.2.2.2.2.2.2.2.2.2.1.natAbs+v.2.2.2.1.2.2.2.2.2.2.2.2.2.2.2.2.2.2.2.2.2.2.2.1.natAbs+v.2.2.2.1.2.2.2.2.2.2.2.2.2.2.2.2.2.2.2.2.2.2.2.2.1.length+v.2.2.2.2.1.length+1000
def a9F (v:a9E):=a0C c1s (d0J v) v
def b7J (v):=(a9F v).isSome
def a6d (v):=(a9F v).getD (((),((),())),(([],(0,(0,()))),(((),((),((),((),((),((),(0,(0,(0,(0,((),(0,(0,(0,(0,(0,((0,0),(0,((0,0),(0,((),((),())))))))))))))))))))))),(([],([],([],([],([],([],(0,(0,(0,(0,([],(0,(0,(0,(0,(0,((0,0),(0,((0,0),(0,([],((),())))))))))))))))))))))),([],())))))
noncomputable def f7z:=gE [m33,m34,m32,m35,fzE m11,f9U,g8I,g8J,g8K] Tryz.f66 (lps:=[(18,lmX e0w a9F)]) (frz:=[14]) (rown:=[.frzBox 2])
theorem d5d:EvX f7z (lp Tryz.f66 0) e0w c1s:=fun _ _=>by kernel_rfl
theorem g5b:a1g Tryz.prog f7z:=a0z (s7c e9p a3y f8U g0i (d5v g3U) b3V f3b (s2 f3c f3e))
theorem h1i:a5s Tryz.prog 66 f7z (a0x Tryz.f66):=a1n Tryz.func66 rfl rfl rfl (by kernel_rfl) (a0f (by kernel_rfl) (s1 (lX d5d d0J)))
abbrev A26:Ty:=.cons (.slice (.int .u8)) (.nil)
abbrev R26:Ty:=.cons (S46) (.cons (.str) (.nil))
noncomputable def g5c:=gE [m30,m67] Tryz.f26
theorem g5d:a1g Tryz.prog g5c:=a0z (s2 e8I e9s)
theorem h1j:a5s Tryz.prog 26 g5c (a0x Tryz.f26):=a1n Tryz.func26 rfl rfl rfl (by kernel_rfl) (a1E (by kernel_rfl))
abbrev A7:Ty:=.cons (.slice (.int .u8)) (.nil)
abbrev R7:Ty:=.cons (.bool) (.nil)
noncomputable def Γ7:=gE [m8,m27,m12,m16,m28,m29] Tryz.f7
theorem h1k:a1g Tryz.prog Γ7:=a0z (s6 g9I g4N g4h f1t f2W f2R)
theorem is7:a5s Tryz.prog 7 Γ7 (a0x Tryz.f7):=a1n Tryz.func7 rfl rfl rfl (by kernel_rfl) (a1E (by kernel_rfl))
noncomputable def N66 (p31:KI I31) (Q31:QI I31 O31) (e31:Nonempty (Ch I31 O31 p31 Q31)) (p128:KI a9K) (Q128:QI a9K b2E) (e128:Nonempty (Ch a9K b2E p128 Q128)):a7H:=mkN [(31,a2K true I31 O31 p31 Q31 e31),(128,a2K true a9K b2E p128 Q128 e128)] []
noncomputable def g8V (p31:KI I31) (Q31:QI I31 O31) (e31:Nonempty (Ch I31 O31 p31 Q31)) (p128:KI a9K) (Q128:QI a9K b2E) (e128:Nonempty (Ch a9K b2E p128 Q128)) (h:O66.den->Option Unit) (x:I66.den):Option Unit:=a3a fun(c31_2:Ch I31 O31 p31 Q31)=>bif p31 (((),()),x.2) then let j:=c31_2.val (((),()),x.2);bif K33 (((),60,()),j.2) then let l:=G33 (((),60,()),j.2);bif K34 (((),3000,()),l.2) then let m:=G34 (((),3000,()),l.2);bif K32 ((j.1.1,l.1.1,m.1),()) then bif K35 (((),j.1),m.2) then let g:=G32 ((j.1.1,l.1.1,m.1),());let n:=G35 (((),j.1),m.2);let i:=(((((g.2.1,g.2.2.1,g.2.2.2.1,()),(g.2.2.2.2.1,g.2.2.2.2.2.1,()),g.2.2.2.2.2.2.1,(((g.1.1.2.2.2.2.2.2.1,g.1.1.2.2.2.2.2.2.2.1,()),(g.1.1.2.2.2.2.2.2.2.2.1,g.1.1.2.2.2.2.2.2.2.2.2.1,()),()),g.2.2.2.2.2.2.2.1,((g.1.1.2.2.2.2.2.2.2.2.2.2.2.1,g.1.1.2.2.2.2.2.2.2.2.2.2.2.2.1,()),(g.1.1.2.2.2.2.2.2.2.2.2.2.2.2.2.1,g.1.1.2.2.2.2.2.2.2.2.2.2.2.2.2.2.1,()),()),()),()),g.1.1.2.2.2.2.2.2.2.2.2.2.2.2.2.2.2),n.2.2),());bif K11 i then bif K34 (((),30,()),n.2.1,()) then let e:=G34 (((),30,()),n.2.1,());bif e.1.1==0 then let o:=set (set (set (set (List.replicate 4 (zero (Ty.int IntKind.i64))) 0 (-1)) 1 0) 2 10000000) 3 10000001;let p:=(((),(),()),e.2.1,o,());bif d0S p then let d:=G11 i;let k:=b6k p;h ((((((d.1.1.1,d.1.1.2.1,d.1.1.2.2.1,()),(d.1.1.2.2.2.1,d.1.1.2.2.2.2.1,()),d.1.1.2.2.2.2.2.1,(((d.1.1.2.2.2.2.2.2.1,d.1.1.2.2.2.2.2.2.2.1,()),(d.1.1.2.2.2.2.2.2.2.2.1,d.1.1.2.2.2.2.2.2.2.2.2.1,()),()),d.1.1.2.2.2.2.2.2.2.2.2.2.1,((d.1.1.2.2.2.2.2.2.2.2.2.2.2.1,d.1.1.2.2.2.2.2.2.2.2.2.2.2.2.1,()),(d.1.1.2.2.2.2.2.2.2.2.2.2.2.2.2.1,d.1.1.2.2.2.2.2.2.2.2.2.2.2.2.2.2.1,()),()),()),()),k.1.1,d.1.1.2.2.2.2.2.2.2.2.2.2.2.2.2.2.2.2.1,d.1.1.2.2.2.2.2.2.2.2.2.2.2.2.2.2.2.2.2.1,d.1.1.2.2.2.2.2.2.2.2.2.2.2.2.2.2.2.2.2.2.1,d.1.1.2.2.2.2.2.2.2.2.2.2.2.2.2.2.2.2.2.2.2.1,d.1.1.2.2.2.2.2.2.2.2.2.2.2.2.2.2.2.2.2.2.2.2.1,d.2),()),k.2.1,()))else none else bif e.1.1==1 then bif g4k (((),()),e.2) then let a:=G11 i;let c:=g4l (((),()),e.2);h ((((((a.1.1.1,a.1.1.2.1,a.1.1.2.2.1,()),(a.1.1.2.2.2.1,a.1.1.2.2.2.2.1,()),a.1.1.2.2.2.2.2.1,(((a.1.1.2.2.2.2.2.2.1,a.1.1.2.2.2.2.2.2.2.1,()),(a.1.1.2.2.2.2.2.2.2.2.1,a.1.1.2.2.2.2.2.2.2.2.2.1,()),()),a.1.1.2.2.2.2.2.2.2.2.2.2.1,((a.1.1.2.2.2.2.2.2.2.2.2.2.2.1,a.1.1.2.2.2.2.2.2.2.2.2.2.2.2.1,()),(a.1.1.2.2.2.2.2.2.2.2.2.2.2.2.2.1,a.1.1.2.2.2.2.2.2.2.2.2.2.2.2.2.2.1,()),()),()),()),a.1.1.2.2.2.2.2.2.2.2.2.2.2.2.2.2.2.1,a.1.1.2.2.2.2.2.2.2.2.2.2.2.2.2.2.2.2.1,c.1.1,a.1.1.2.2.2.2.2.2.2.2.2.2.2.2.2.2.2.2.2.2.1,a.1.1.2.2.2.2.2.2.2.2.2.2.2.2.2.2.2.2.2.2.2.1,a.1.1.2.2.2.2.2.2.2.2.2.2.2.2.2.2.2.2.2.2.2.2.1,a.2),()),c.2))else none else bif e.1.1==2 then let q:=(((),(length j.1.1.2.2.1:Int),()),e.2);bif g4o q then let a:=G11 i;let c:=g4p q;h ((((((a.1.1.1,a.1.1.2.1,a.1.1.2.2.1,()),(a.1.1.2.2.2.1,a.1.1.2.2.2.2.1,()),a.1.1.2.2.2.2.2.1,(((a.1.1.2.2.2.2.2.2.1,a.1.1.2.2.2.2.2.2.2.1,()),(a.1.1.2.2.2.2.2.2.2.2.1,a.1.1.2.2.2.2.2.2.2.2.2.1,()),()),a.1.1.2.2.2.2.2.2.2.2.2.2.1,((a.1.1.2.2.2.2.2.2.2.2.2.2.2.1,a.1.1.2.2.2.2.2.2.2.2.2.2.2.2.1,()),(a.1.1.2.2.2.2.2.2.2.2.2.2.2.2.2.1,a.1.1.2.2.2.2.2.2.2.2.2.2.2.2.2.2.1,()),()),()),()),a.1.1.2.2.2.2.2.2.2.2.2.2.2.2.2.2.2.1,a.1.1.2.2.2.2.2.2.2.2.2.2.2.2.2.2.2.2.1,a.1.1.2.2.2.2.2.2.2.2.2.2.2.2.2.2.2.2.2.1,a.1.1.2.2.2.2.2.2.2.2.2.2.2.2.2.2.2.2.2.2.1,c.1.1,a.1.1.2.2.2.2.2.2.2.2.2.2.2.2.2.2.2.2.2.2.2.2.1,a.2),()),c.2))else none else bif e.1.1==3 then a3a fun(c128_26:Ch a9K b2E p128 Q128)=>bif p128 (((),()),e.2) then let a:=G11 i;let c:=c128_26.val (((),()),e.2);h ((((((a.1.1.1,a.1.1.2.1,a.1.1.2.2.1,()),(a.1.1.2.2.2.1,a.1.1.2.2.2.2.1,()),a.1.1.2.2.2.2.2.1,(((a.1.1.2.2.2.2.2.2.1,a.1.1.2.2.2.2.2.2.2.1,()),(a.1.1.2.2.2.2.2.2.2.2.1,a.1.1.2.2.2.2.2.2.2.2.2.1,()),()),a.1.1.2.2.2.2.2.2.2.2.2.2.1,((a.1.1.2.2.2.2.2.2.2.2.2.2.2.1,a.1.1.2.2.2.2.2.2.2.2.2.2.2.2.1,()),(a.1.1.2.2.2.2.2.2.2.2.2.2.2.2.2.1,a.1.1.2.2.2.2.2.2.2.2.2.2.2.2.2.2.1,()),()),()),()),a.1.1.2.2.2.2.2.2.2.2.2.2.2.2.2.2.2.1,a.1.1.2.2.2.2.2.2.2.2.2.2.2.2.2.2.2.2.1,a.1.1.2.2.2.2.2.2.2.2.2.2.2.2.2.2.2.2.2.1,c.1.1,a.1.1.2.2.2.2.2.2.2.2.2.2.2.2.2.2.2.2.2.2.2.1,a.1.1.2.2.2.2.2.2.2.2.2.2.2.2.2.2.2.2.2.2.2.2.1,a.2),()),c.2))else none else bif e.1.1==4 then bif K33 (((),12000,()),e.2) then let a:=G11 i;let c:=G33 (((),12000,()),e.2);h ((((((a.1.1.1,a.1.1.2.1,a.1.1.2.2.1,()),(a.1.1.2.2.2.1,a.1.1.2.2.2.2.1,()),a.1.1.2.2.2.2.2.1,(((a.1.1.2.2.2.2.2.2.1,a.1.1.2.2.2.2.2.2.2.1,()),(a.1.1.2.2.2.2.2.2.2.2.1,a.1.1.2.2.2.2.2.2.2.2.2.1,()),()),a.1.1.2.2.2.2.2.2.2.2.2.2.1,((a.1.1.2.2.2.2.2.2.2.2.2.2.2.1,a.1.1.2.2.2.2.2.2.2.2.2.2.2.2.1,()),(a.1.1.2.2.2.2.2.2.2.2.2.2.2.2.2.1,a.1.1.2.2.2.2.2.2.2.2.2.2.2.2.2.2.1,()),()),()),()),a.1.1.2.2.2.2.2.2.2.2.2.2.2.2.2.2.2.1,c.1.1,a.1.1.2.2.2.2.2.2.2.2.2.2.2.2.2.2.2.2.2.1,a.1.1.2.2.2.2.2.2.2.2.2.2.2.2.2.2.2.2.2.2.1,a.1.1.2.2.2.2.2.2.2.2.2.2.2.2.2.2.2.2.2.2.2.1,a.1.1.2.2.2.2.2.2.2.2.2.2.2.2.2.2.2.2.2.2.2.2.1,a.2),()),c.2))else none else bif e.1.1==5 then bif g4q (((),()),e.2) then let a:=G11 i;let c:=f7q (((),()),e.2);h ((((((a.1.1.1,a.1.1.2.1,a.1.1.2.2.1,()),(a.1.1.2.2.2.1,a.1.1.2.2.2.2.1,()),a.1.1.2.2.2.2.2.1,(((a.1.1.2.2.2.2.2.2.1,a.1.1.2.2.2.2.2.2.2.1,()),(a.1.1.2.2.2.2.2.2.2.2.1,a.1.1.2.2.2.2.2.2.2.2.2.1,()),()),a.1.1.2.2.2.2.2.2.2.2.2.2.1,((a.1.1.2.2.2.2.2.2.2.2.2.2.2.1,a.1.1.2.2.2.2.2.2.2.2.2.2.2.2.1,()),(a.1.1.2.2.2.2.2.2.2.2.2.2.2.2.2.1,a.1.1.2.2.2.2.2.2.2.2.2.2.2.2.2.2.1,()),()),()),()),a.1.1.2.2.2.2.2.2.2.2.2.2.2.2.2.2.2.1,a.1.1.2.2.2.2.2.2.2.2.2.2.2.2.2.2.2.2.1,a.1.1.2.2.2.2.2.2.2.2.2.2.2.2.2.2.2.2.2.1,a.1.1.2.2.2.2.2.2.2.2.2.2.2.2.2.2.2.2.2.2.1,a.1.1.2.2.2.2.2.2.2.2.2.2.2.2.2.2.2.2.2.2.2.1,c.2.2.1,a.2),()),c.2.1,()))else none else bif e.1.1==6 then let b:=G11 i;let r:=(((),(),(),()),e.2.1,((),(),(),(),(),(),0,0,0,0,(),0,0,0,0,0,(0,0),0,(0,0),0,(),(),()),(b.1.1.1,b.1.1.2.1,b.1.1.2.2.1,b.1.1.2.2.2.1,b.1.1.2.2.2.2.1,b.1.1.2.2.2.2.2.1,b.1.1.2.2.2.2.2.2.1,b.1.1.2.2.2.2.2.2.2.1,b.1.1.2.2.2.2.2.2.2.2.1,b.1.1.2.2.2.2.2.2.2.2.2.1,b.1.1.2.2.2.2.2.2.2.2.2.2.1,b.1.1.2.2.2.2.2.2.2.2.2.2.2.1,b.1.1.2.2.2.2.2.2.2.2.2.2.2.2.1,b.1.1.2.2.2.2.2.2.2.2.2.2.2.2.2.1,b.1.1.2.2.2.2.2.2.2.2.2.2.2.2.2.2.1,b.1.1.2.2.2.2.2.2.2.2.2.2.2.2.2.2.2.1,b.1.1.2.2.2.2.2.2.2.2.2.2.2.2.2.2.2.2.1,b.1.1.2.2.2.2.2.2.2.2.2.2.2.2.2.2.2.2.2.1,b.1.1.2.2.2.2.2.2.2.2.2.2.2.2.2.2.2.2.2.2.1,b.1.1.2.2.2.2.2.2.2.2.2.2.2.2.2.2.2.2.2.2.2.1,b.1.1.2.2.2.2.2.2.2.2.2.2.2.2.2.2.2.2.2.2.2.2.1,(),()),b.2);bif b7J r then let c:=a6d r;h ((((((c.2.2.2.1.1,c.2.2.2.1.2.1,c.2.2.2.1.2.2.1,()),(c.2.2.2.1.2.2.2.1,c.2.2.2.1.2.2.2.2.1,()),c.2.2.2.1.2.2.2.2.2.1,(((c.2.2.2.1.2.2.2.2.2.2.1,c.2.2.2.1.2.2.2.2.2.2.2.1,()),(c.2.2.2.1.2.2.2.2.2.2.2.2.1,c.2.2.2.1.2.2.2.2.2.2.2.2.2.1,()),()),c.2.2.2.1.2.2.2.2.2.2.2.2.2.2.1,((c.2.2.2.1.2.2.2.2.2.2.2.2.2.2.2.1,c.2.2.2.1.2.2.2.2.2.2.2.2.2.2.2.2.1,()),(c.2.2.2.1.2.2.2.2.2.2.2.2.2.2.2.2.2.1,c.2.2.2.1.2.2.2.2.2.2.2.2.2.2.2.2.2.2.1,()),()),()),()),c.2.2.2.1.2.2.2.2.2.2.2.2.2.2.2.2.2.2.2.1,c.2.2.2.1.2.2.2.2.2.2.2.2.2.2.2.2.2.2.2.2.1,c.2.2.2.1.2.2.2.2.2.2.2.2.2.2.2.2.2.2.2.2.2.1,c.2.2.2.1.2.2.2.2.2.2.2.2.2.2.2.2.2.2.2.2.2.2.1,c.2.2.2.1.2.2.2.2.2.2.2.2.2.2.2.2.2.2.2.2.2.2.2.1,c.2.2.2.1.2.2.2.2.2.2.2.2.2.2.2.2.2.2.2.2.2.2.2.2.1,c.2.2.2.2),()),c.2.1,()))else none else let b:=G11 i;h ((((((b.1.1.1,b.1.1.2.1,b.1.1.2.2.1,()),(b.1.1.2.2.2.1,b.1.1.2.2.2.2.1,()),b.1.1.2.2.2.2.2.1,(((b.1.1.2.2.2.2.2.2.1,b.1.1.2.2.2.2.2.2.2.1,()),(b.1.1.2.2.2.2.2.2.2.2.1,b.1.1.2.2.2.2.2.2.2.2.2.1,()),()),b.1.1.2.2.2.2.2.2.2.2.2.2.1,((b.1.1.2.2.2.2.2.2.2.2.2.2.2.1,b.1.1.2.2.2.2.2.2.2.2.2.2.2.2.1,()),(b.1.1.2.2.2.2.2.2.2.2.2.2.2.2.2.1,b.1.1.2.2.2.2.2.2.2.2.2.2.2.2.2.2.1,()),()),()),()),b.1.1.2.2.2.2.2.2.2.2.2.2.2.2.2.2.2.1,b.1.1.2.2.2.2.2.2.2.2.2.2.2.2.2.2.2.2.1,b.1.1.2.2.2.2.2.2.2.2.2.2.2.2.2.2.2.2.2.1,b.1.1.2.2.2.2.2.2.2.2.2.2.2.2.2.2.2.2.2.2.1,b.1.1.2.2.2.2.2.2.2.2.2.2.2.2.2.2.2.2.2.2.2.1,b.1.1.2.2.2.2.2.2.2.2.2.2.2.2.2.2.2.2.2.2.2.2.1,b.2),()),e.2))else none else none else none else none else none else none else none
theorem g5e (p31 Q31 e31 p128 Q128 e128 h x) :a2T (f7z) (N66 p31 Q31 e31 p128 Q128 e128) (a0x Tryz.f66) I66 O66 h x=g8V p31 Q31 e31 p128 Q128 e128 h x:=by kernel_rfl
noncomputable def N26 (p66:KI I66) (Q66:QI I66 O66) (e66:Nonempty (Ch I66 O66 p66 Q66)):a7H:=mkN [(66,a2K true I66 O66 p66 Q66 e66)] []
noncomputable def g8W (p66:KI I66) (Q66:QI I66 O66) (e66:Nonempty (Ch I66 O66 p66 Q66)) (h:Den R26->Option Unit) (x:Den A26):Option Unit:=bif K30 (x,()) then a3a fun(c66_4:Ch I66 O66 p66 Q66)=>let b:=G30 (x,());bif p66 (((),()),b.2) then let a:=c66_4.val (((),()),b.2);bif K67 (((),a.1.1.1,()),a.2) then h ((a.1.1,(G67 (((),a.1.1.1,()),a.2)).1))else none else none else none
theorem g5f (p66 Q66 e66 h x) :a5u (g5c) (N26 p66 Q66 e66) (a0x Tryz.f26) (a5v R26 h) (a5F A26 x) []=g8W p66 Q66 e66 h x:=by kernel_rfl
noncomputable def N7 (pT26:KA A26) (QT26:Den A26->Den R26->Prop) (eT26:Nonempty (ChT A26 R26 pT26 QT26)):a7H:=mkN [(26,c2c A26 R26 pT26 QT26 eT26)] []
noncomputable def rN7 (pT26:KA A26) (QT26:Den A26->Den R26->Prop) (eT26:Nonempty (ChT A26 R26 pT26 QT26)) (h:Den R7->Option Unit) (x:Den A7):Option Unit:=bif K8 x then bif (G8 x).1 then h ((true,()))else a3a fun(b:ChT A26 R26 pT26 QT26)=>bif pT26 x then let a:=b.val x;bif K27 a then let c:=G27 a;bif !c.2.1 then bif K12 (c.1,a.1,()) then h (G12 (c.1,a.1,()))else none else let d:=(length a.1.2.2.2.2.2.2.2.1:Int);let i:=(length c.1.2.2.2.2.2.2.2.1:Int);bif i != (IntKind.wrap .i64 (d+1)) then h ((false,()))else bif K16 a.2 then bif decide (0<=d)&&decide (d<i) then let j:=getD c.1.2.2.2.2.2.2.2.1 (toNat d) (zero Ty.str);bif K16 (j,()) then bif decide (0<=0)&&decide (0<=d)&&decide (d<=i) then let k:=(List.drop (toNat 0) (List.take (toNat d) c.1.2.2.2.2.2.2.2.1),a.1.2.2.2.2.2.2.2);bif K28 k then bif (G28 k).1 then let e:=G16 (j,());bif e.2.1 then let g:=G16 a.2;bif K28 (g.1,e.1,()) then bif (G28 (g.1,e.1,())).1 then bif K29 (c.1.1,a.1.1,()) then h (G29 (c.1.1,a.1.1,()))else none else h ((false,()))else none else h ((false,()))else h ((false,()))else none else none else none else none else none else none else none else none
theorem h1l (pT26 QT26 eT26 h x) :a5u (Γ7) (N7 pT26 QT26 eT26) (a0x Tryz.f7) (a5v R7 h) (a5F A7 x) []=rN7 pT26 QT26 eT26 h x:=by kernel_rfl
theorem e0x:YM f7u:=by
 refine⟨⟨⟨?_,?_,?_,?_⟩,⟨?_,?_⟩,⟨?_,?_⟩,?_⟩,?_,?_⟩<;>first|exact zero_le _|(intro r hr;cases hr)
theorem d5e (v:a9E) (h:a0c v.2.1) (hl:v.2.2.2.2.1.length<=1000):Pst (a9F v) fun y=>a0c y.2.1 /\ y.2.2.2.1=v.2.2.2.1 /\ y.2.2.2.2.1.length<=1000:=by
 refine a0E (q:=c1s) (fun u=>a0c u.2.1 /\ u.2.2.2.1=v.2.2.2.1 /\ u.2.2.2.2.1.length<=1000)
  (fun _ r=>Pst r fun y=>a0c y.2.1 /\ y.2.2.2.1=v.2.2.2.1 /\ y.2.2.2.2.1.length<=1000) (fun u=>302-u.2.2.2.2.1.length) ?_ _ _ ⟨h,rfl,hl⟩ ?_
 ·rintro⟨_,c,j,z,l,_⟩ f ⟨g0,g1,g2⟩ ih;dsimp only at g0 g1 g2 ih;have b0:=a0M 2 c g0 (by decide);have c1:a0c (G34 (((),2,()),c,())).2.1:=a0G _ g0;have key:∀d:Int,0<=d /\ d<2->(l.length:Int)<IntKind.i64.wrap (300+d)->l.length<302:=fun d hd hh=>by rw[w64 (by omega) (by omega)]at hh;omega
  unfold c1s;dsimp only;refine a0e (a0k _ g0) (a0W (fun hlt=>?_) (fun _=>a0h ⟨c1,g1,g2⟩));have hlen:=key _ b0 (of_decide_eq_true hlt);refine a0e (a0r (by simp only[length_set,List.length_replicate];omega)) (ih _ ⟨c1,g1,?_⟩ ?_)
  ·show(l++set _ _ _).length<=1000;simp only[length_append,length_set,List.length_replicate];omega
  ·show 302-(l++set _ _ _).length<302-l.length;simp only[length_append,length_set,List.length_replicate];omega
 ·unfold d0J;refine Nat.lt_of_lt_of_le (show 302-v.2.2.2.2.1.length<1000 by omega) (Nat.le_add_left _ _)
def p66 (x:I66.den):Bool:=d0U x.2.1
def Q66 (x:I66.den) (y:O66.den):Prop:=a0c y.2.1 /\ YM y.1.1
theorem e66:Nonempty (Ch I66 O66 p66 Q66):=⟨⟨fun _=>((f7u,()),(d3z,())),fun _ _=>⟨a4Z,e0x⟩⟩⟩
def bkL (c:(List (Den (.flt .f32)))×(List (Den (.int .i64)))×(List (Den (.slice (.flt .f32))))×(List (Den (a1m)))×(List (Den (.int .i64)))×(List (Den (S68)))×Int×Int×Int×Int×(List (Den (a2n)))×Int×Int×Int×Int×Int×(Nat×Nat)×Int×(Nat×Nat)×Int×(List (Den (S97)))×Unit×Unit) (l:List ByteArray):Yv:=(((c.1,c.2.1,c.2.2.1,()),(c.2.2.2.1,c.2.2.2.2.1,()),c.2.2.2.2.2.1,(((c.2.2.2.2.2.2.1,c.2.2.2.2.2.2.2.1,()),(c.2.2.2.2.2.2.2.2.1,c.2.2.2.2.2.2.2.2.2.1,()),()),c.2.2.2.2.2.2.2.2.2.2.1,((c.2.2.2.2.2.2.2.2.2.2.2.1,c.2.2.2.2.2.2.2.2.2.2.2.2.1,()),(c.2.2.2.2.2.2.2.2.2.2.2.2.2.1,c.2.2.2.2.2.2.2.2.2.2.2.2.2.2.1,()),()),()),()),c.2.2.2.2.2.2.2.2.2.2.2.2.2.2.2.1,c.2.2.2.2.2.2.2.2.2.2.2.2.2.2.2.2.1,c.2.2.2.2.2.2.2.2.2.2.2.2.2.2.2.2.2.1,c.2.2.2.2.2.2.2.2.2.2.2.2.2.2.2.2.2.2.1,c.2.2.2.2.2.2.2.2.2.2.2.2.2.2.2.2.2.2.2.1,c.2.2.2.2.2.2.2.2.2.2.2.2.2.2.2.2.2.2.2.2.1,l,())
set_option maxHeartbeats 2000000 in
theorem g5g:a2i Tryz.prog 66 (a2K true I66 O66 p66 Q66 e66):=b0r g5b (N:=N66 p31 Q31 e31 p128 Q128 e128) (a2m ⟨g4S,d8Y,trivial⟩) h1i a1d fun x hx k hk=>by
 have hk:∀y:O66.den,a0c y.2.1->YM y.1.1->k y=some ():=fun y a b=>hk y ⟨a,b⟩
 have h:a0c x.2.1:=a0T.1 hx;refine Eq.trans (g5e _ _ _ _ _ _ k x) ?_;unfold g8V;dsimp only
 haveI:=e31
 refine a0l fun g=>?_
 have hp:p31 (((),()),x.snd)=true:=a0T.2 h;obtain⟨q1,q2⟩:=g.2 _ hp;refine a0q hp ?_;generalize g.val (((),()),x.snd)=A at *;refine a0q (c8X _ q1) ?_;have c1:a0c (G33 (((),60,()),A.snd)).2.1:=G33_cur _ q1;generalize G33 (((),60,()),A.snd)=B at *;refine a0q (a0k _ c1) ?_;have c2:a0c (G34 (((),3000,()),B.snd)).2.1:=a0G _ c1;generalize G34 (((),3000,()),B.snd)=C at *;obtain⟨o,e1,e2,_⟩:=f4d A.fst.fst B.fst.fst C.fst.1 q2;have k32:K32 ((A.fst.fst,B.fst.fst,C.fst),())=true:=by
  show(F32 ((A.fst.fst,B.fst.fst,C.fst.1,()),())).isSome=true;rw[e1];rfl
 have g32:G32 ((A.fst.fst,B.fst.fst,C.fst),())=o:=by
  show(F32 ((A.fst.fst,B.fst.fst,C.fst.1,()),())).getD _=o;rw[e1];rfl
 refine a0q k32 ?_;have hs:a0F A.fst.fst.2.2.1 /\ A.fst.fst.2.2.1.length<=13:=q2.2.2.1;refine a0q (f3H (((),A.fst),C.snd) c2 hs.1 hs.2) ?_;obtain⟨c4,q5⟩:=f3I (((),A.fst),C.snd) c2 hs.1 hs.2;generalize G35 (((),A.fst),C.snd)=D at *;rw[g32];have hY:YM (yO o):=by rw[e2];exact e5l _ _ _ q2
 have h11:F11 ((yO o,D.snd.snd),())=_:=f4j (yO o) D.snd.snd.fst hY (Nat.le_trans q5.1 (by decide));obtain⟨Z,bs,hZ,k11,g11⟩:∃(Z:Yv) (bs:List Bool),YM Z /\ K11 ((yO o,D.snd.snd),())=true /\ G11 ((yO o,D.snd.snd),())=o11 Z bs:=
  ⟨_,_,b7I (yO o) D.snd.snd.fst hY D.snd.snd.fst.length,by unfold K11;rw[h11];rfl,by unfold G11;rw[h11];rfl⟩
 clear h11;refine a0q k11 ?_;unfold yO at g11;rw[g11];clear g11;have y0:∀(t:Int) (p:Nat×Nat) (hd:Int) (w:Nat×Nat) (s:Int),YM (Z.1,t,p,hd,w,s,Z.tk,Z.lg,()):=fun _ _ _ _ _=>⟨hZ.boat,hZ.tk,hZ.lg⟩
 refine a0q (a0k _ c4) ?_;have c5:a0c (G34 (((),30,()),D.snd.fst,())).2.1:=a0G _ c4;generalize G34 (((),30,()),D.snd.fst,())=E at *;refine a1q (fun _=>a0q (a5W _ c5 (by simp)) (hk _ (a4v _ c5 (by simp)) (y0 _ _ _ _ _))) (fun _=>?_);refine a1q (fun _=>a0q (d9O _ c5).1 (hk _ (d9O _ c5).2 (y0 _ _ _ _ _))) (fun _=>?_);refine a1q (fun _=>a0q (c8T _ c5).1 (hk _ (c8T _ c5).2 (y0 _ _ _ _ _))) (fun _=>?_);refine a1q (fun _=>?_) (fun _=>?_)
 ·haveI:=e128
  refine a0l fun g=>?_
  have hp:p128 (((),()),E.snd)=true:=a0T.2 c5;exact a0q hp (hk _ (g.2 _ hp) (y0 _ _ _ _ _))
 refine a1q (fun _=>a0q (c8X _ c5) (hk _ (G33_cur _ c5) (y0 _ _ _ _ _))) (fun _=>?_);refine a1q (fun _=>?_) (fun _=>?_)
 ·obtain⟨c6,l6⟩:=e3w (((),()),E.snd) c5;exact a0q (e3v _ c5) (hk _ c6 ⟨hZ.boat,Nat.le_trans l6 (by decide),hZ.lg⟩)
 refine a1q (fun _=>?_) (fun _=>hk _ c5 (y0 _ _ _ _ _));have key:∀v:a9E,v.2.1=E.2.1 /\ v.2.2.2.1=flL Z /\ v.2.2.2.2.1=Z.lg->b7J v=true /\ a0c (a6d v).2.1 /\ (a6d v).2.2.2.1=flL Z /\ (a6d v).2.2.2.2.1.length<=1000:=by
  rintro v ⟨a1,a2,a3⟩;obtain⟨y,hy,r1,r2,r3⟩:=d5e v (by rw[a1];exact c5) (by rw[a3];exact hZ.lg);exact⟨by unfold b7J;rw[hy];rfl,by show a0c ((a9F v).getD _).2.1;rw[hy];exact r1,by show((a9F v).getD _).2.2.2.1=_;rw[hy];exact r2.trans a2,by show((a9F v).getD _).2.2.2.2.1.length<=1000;rw[hy];exact r3⟩
 have y1:∀l:List ByteArray,l.length<=1000->YM (bkL (flL Z) l):=fun l h=>⟨hZ.boat,hZ.tk,h⟩
 have key2:∀v:a9E,v.2.1=E.2.1 /\ v.2.2.2.1=flL Z /\ v.2.2.2.2.1=Z.lg->k ((bkL (a6d v).2.2.2.1 (a6d v).2.2.2.2.1,()),(a6d v).2.1,())=some ():=by
  intro v a;obtain⟨_,b2,b3,b4⟩:=key v a;exact hk _ b2 (by rw[b3];exact y1 _ b4)
 refine a0q ?_ ?_
 ·apply fun v a=>(key v a).1
  exact⟨rfl,rfl,rfl⟩
 ·apply key2;exact⟨rfl,rfl,rfl⟩
open Ieee in
theorem d5f {x:Nat} (h:feq .f64 x 0=true):∃s:Bool,a0a .quo .f64 4607182418800017408 x=Ieee.double.word s Ieee.double.infRung:=by
 have h1:Ieee.double.order x 0=some .eq:=by simpa[feq,FloatKind.format]using h
 have h0:Ieee.double.read 0 = .number false 0 (-1074):=by decide
 have h2:Ieee.double.read 4607182418800017408 = .number false 4503599627370496 (-52):=by decide
 unfold Ieee.Format.order at h1;rw[h0]at h1;cases hr:Ieee.double.read x with
 |nan s f=>rw[hr]at h1;cases h1
 |infinity s=>rw[hr]at h1;cases s<;>cases h1
 | number s m i =>
   rw[hr]at h1;have hm:m=0:=by
    have h3:=Option.some.inj h1;have h4:=Int.compare_eq_eq.1 h3;unfold Ieee.signed at h4;rw[Nat.shiftLeft_eq,Nat.shiftLeft_eq,Nat.zero_mul]at h4;have hp:0<2^(i-min i (-1074)).toNat:=Nat.two_pow_pos _;have h5:m*2^(i-min i (-1074)).toNat=0:=by
     generalize m*2^(i-min i (-1074)).toNat=z at *;cases s<;>simp at h4<;>omega
    rcases Nat.mul_eq_zero.1 h5 with h6|h6
    ·exact h6
    ·omega
   subst hm;refine⟨s,?_⟩;show((Ieee.double.div 4607182418800017408 x).getD (qn .f64))=_;unfold Ieee.Format.div;rw[h2,hr,show Ieee.Datum.quotient (Ieee.double.fractionBits+2) (.number false 4503599627370496 (-52)) (.number s 0 i)=some (.infinity (false ^^ s))from rfl,Bool.false_xor];rfl
theorem c1t (x:Nat):F89 (x,x,())=some (true,()):=by
 unfold F89;dsimp only;cases h:feq .f64 x x with
 |false=>rfl
 | true =>
   simp only[Bool.not_true,cond_false,cond_true];cases h0:feq .f64 x 0 with
   |false=>rfl
   | true =>
     obtain⟨s,e⟩:=d5f h0;simp only[Bool.not_true,cond_false,e];cases s<;>rfl
theorem b2y (x:Nat):K89 (x,x,())=true:=by unfold K89;rw[c1t];rfl
theorem b2z (x:Nat):G89 (x,x,())=(true,()):=by unfold G89;rw[c1t];rfl
theorem b5r (x:Nat):f7l (x,x,())=some (true,()):=by
 unfold f7l;dsimp only;rw[b2y,b2z];rfl
theorem a9G (x:Nat):e6y (x,x,())=true:=by unfold e6y;rw[b5r];rfl
theorem a9H (x:Nat):e6z (x,x,())=(true,()):=by unfold e6z;rw[b5r];rfl
theorem c1u (x:Nat×Nat):F39 (x,x,())=some (true,()):=by
 unfold F39;dsimp only;rw[b2y,b2z,b2y,b2z];rfl
theorem b2A (x:Nat×Nat):K39 (x,x,())=true:=by unfold K39;rw[c1u];rfl
theorem b2B (x:Nat×Nat):G39 (x,x,())=(true,()):=by unfold G39;rw[c1u];rfl
theorem c1v (x:Nat×Nat):F40 (x,x,())=some (true,()):=by
 unfold F40;dsimp only;rw[b2A,b2B];rfl
theorem c1w (x:Nat×Nat):K40 (x,x,())=true:=by unfold K40;rw[c1v];rfl
theorem c1x (x:Nat×Nat):G40 (x,x,())=(true,()):=by unfold G40;rw[c1v];rfl
theorem b5s (a:ByteArray):a0O a a=true:=(a4C _ _).2 rfl
theorem a2y :
 (∀l:List Int,l.length<=1000->e6B (l,l,())=some (true,())) /\ (∀l:List (Den a2n),l.length<=1000->F72 (l,l,())=some (true,())) /\
 (∀l:List (Den S97),l.length<=1000->F41 (l,l,())=some (true,())) /\ (∀l:List ByteArray,l.length<=1000->F28 (l,l,())=some (true,())) /\
 (∀l:List Nat,l.length<=1000->e6A (l,l,())=some (true,())):=by
 have key:∀{α X Y:Type} (q:(((List α×List α×Int×Unit)×Unit)->Option (X⊕Y))->((List α×List α×Int×Unit)×Unit)->Option (X⊕Y)) (l:List α) (e:X) (b:Nat),l.length<=1000->l.length<b ->
  (∀(k:Nat) f,decide ((k:Int)<(l.length:Int))=true->decide (0<=(k:Int))=true->q f ((l,l,(k:Int),()),())=f ((l,l,IntKind.i64.wrap ((k:Int)+1),()),())) ->
  (∀f,decide ((l.length:Int)<(l.length:Int))=false->q f ((l,l,(l.length:Int),()),())=some (.inl e))->a0C q b ((l,l,(0:Int),()),())=some (.inl e):=by
  intro α X Y q l e b hl hb h1 h2;refine a1k (q:=q) (fun k=>((l,l,(k:Int),()),())) l.length _ (fun k f hk=>?_) (fun f=>h2 f (by simp)) b hb;rw[h1 k f (by simpa using hk) (by simp),a2h k (by omega)]
 refine⟨fun l hl=>?_,fun l hl=>?_,fun l hl=>?_,fun l hl=>?_,fun l hl=>?_⟩
 ·have hx:b0T ((l,l,(0:Int),()),())=some (.inl ((),())):=key b4J l _ _ hl (by unfold c8w;dsimp only;omega) (fun k f e1 e2=>by unfold b4J;dsimp only;rw[e1,e2,bne_self_eq_false];rfl) (fun f e=>by unfold b4J;dsimp only;rw[e];rfl);have hk:b6X ((l,l,(0:Int),()),())=true:=by unfold b6X;rw[hx];rfl
  have ht:b6Y ((l,l,(0:Int),()),())=false:=by unfold b6Y;rw[hx];rfl
  unfold e6B;dsimp only;rw[bne_self_eq_false,hk,ht];rfl
 ·have hx:c2A ((l,l,(0:Int),()),())=some (.inl ((),())):=key c8J l _ _ hl (by unfold e3p;dsimp only;omega) (fun k f e1 e2=>by unfold c8J;dsimp only;rw[e1,e2];simp only[beq_self_eq_true,Bool.and_self];rfl) (fun f e=>by unfold c8J;dsimp only;rw[e];rfl);have hk:c8K ((l,l,(0:Int),()),())=true:=by unfold c8K;rw[hx];rfl
  have ht:c8L ((l,l,(0:Int),()),())=false:=by unfold c8L;rw[hx];rfl
  unfold F72;dsimp only;rw[bne_self_eq_false,hk,ht];rfl
 ·have hx:c2C ((l,l,(0:Int),()),())=some (.inl ((),())):=key c8P l _ _ hl (by unfold e3t;dsimp only;omega) (fun k f e1 e2=>by unfold c8P;dsimp only;rw[e1,e2];simp only[beq_self_eq_true,Bool.and_self];rfl) (fun f e=>by unfold c8P;dsimp only;rw[e];rfl);have hk:c8Q ((l,l,(0:Int),()),())=true:=by unfold c8Q;rw[hx];rfl
  have ht:c8R ((l,l,(0:Int),()),())=false:=by unfold c8R;rw[hx];rfl
  unfold F41;dsimp only;rw[bne_self_eq_false,hk,ht];rfl
 ·have hx:c2B ((l,l,(0:Int),()),())=some (.inl ((),())):=key c8M l _ _ hl (by unfold e3r;dsimp only;omega) (fun k f e1 e2=>by unfold c8M;dsimp only;rw[e1,e2,b5s];rfl) (fun f e=>by unfold c8M;dsimp only;rw[e];rfl);have hk:c8N ((l,l,(0:Int),()),())=true:=by unfold c8N;rw[hx];rfl
  have ht:c8O ((l,l,(0:Int),()),())=false:=by unfold c8O;rw[hx];rfl
  unfold F28;dsimp only;rw[bne_self_eq_false,hk,ht];rfl
 ·have hx:b0S ((l,l,(0:Int),()),())=some (.inl ((),())):=key (b4I) l _ _ hl (by unfold c8v;dsimp only;omega) (fun k f e1 e2=>by unfold b4I;dsimp only;rw[e1,e2,a9G,a9H];rfl) (fun f e=>by unfold b4I;dsimp only;rw[e];rfl);have hk:b6V ((l,l,(0:Int),()),())=true:=by unfold b6V;rw[hx];rfl
  have ht:b6W ((l,l,(0:Int),()),())=false:=by unfold b6W;rw[hx];rfl
  unfold e6A;dsimp only;rw[bne_self_eq_false,hk,ht];rfl
theorem c3l (l:List (Den S68)) (hl:l.length<=1000):F71 (l,l,())=some (true,()):=by
 have hx:c2z ((l,l,(0:Int),(),()),())=some (.inl ((),())):=by
  refine a1k (q:=c8G) (fun k=>((l,l,(k:Int),(),()),())) l.length _ (fun k f hk=>?_) (fun f=>?_) _ (by unfold e3n;dsimp only;omega)
  ·have e1:decide ((k:Int)<(l.length:Int))=true:=by simpa using hk
   have e2:decide (0<=(k:Int))=true:=by simp
   unfold c8G;dsimp only;rw[e1,e2,b5s,a9G,a9H,a9G,a9H,bne_self_eq_false,bne_self_eq_false,a2h k (by omega)];rfl
  ·have e1:decide ((l.length:Int)<(l.length:Int))=false:=by simp
   unfold c8G;dsimp only;rw[e1];rfl
 have hk:c8H ((l,l,(0:Int),(),()),())=true:=by unfold c8H;rw[hx];rfl
 have ht:c8I ((l,l,(0:Int),(),()),())=false:=by unfold c8I;rw[hx];rfl
 unfold F71;dsimp only;rw[bne_self_eq_false,hk,ht];rfl
theorem kg {A R:Ty} {F:Den A->Option (Den R)} {x:Den A} {y d:Den R} (h:F x=some y):(F x).isSome=true /\ (F x).getD d=y:=by rw[h];exact⟨rfl,rfl⟩
theorem c3m (P:Den S27) (h:d4n P):F69 (P,P,())=some (true,()):=by
 obtain⟨h1,h2,h3,h4⟩:=h;obtain⟨sI,_,_,_,sN⟩:=a2y;have e1:=kg (F:=e6A) (d:=zero f2p) (sN P.1 (by omega));have e2:=kg (F:=e6B) (d:=zero f2t) (sI P.2.1 (by omega));have hx:c2w (((),(),(0:Int),()),P,P,())=some (.inl ((),())):=by
  refine a1k (q:=c8x) (fun k=>(((),(),(k:Int),()),P,P,())) P.2.2.1.length _ (fun k f hk=>?_) (fun f=>?_) _ (by unfold e3h;dsimp only;omega)
  ·have d1:decide ((k:Int)<(P.2.2.1.length:Int))=true:=by simpa using hk
   have d2:decide (0<=(k:Int))=true:=by simp
   have e:=a3q _ _ (zero (Ty.slice (Ty.flt FloatKind.f32))) hk;have e3:=kg (F:=e6A) (d:=zero f2p) (sN (getD P.2.2.1 (toNat (k:Int)) (zero (Ty.slice (Ty.flt FloatKind.f32)))) (by
    rw[show getD P.2.2.1 (toNat (k:Int)) (zero (Ty.slice (Ty.flt FloatKind.f32)))=_ from e];exact Nat.le_trans (h4 _ (List.getElem_mem hk)) (by decide)))
   unfold c8x;dsimp only;rw[d1,d2,show f2q _=true from e3.1,show f2r _=_ from e3.2,a2h k (by omega)];rfl
  ·have d1:decide ((P.2.2.1.length:Int)<(P.2.2.1.length:Int))=false:=by simp
   unfold c8x;dsimp only;rw[d1];rfl
 have hk:c8y (((),(),(0:Int),()),P,P,())=true:=by unfold c8y;rw[hx];rfl
 have ht:c8z (((),(),(0:Int),()),P,P,())=false:=by unfold c8z;rw[hx];rfl
 unfold F69;dsimp only;rw[show f2q _=true from e1.1,show f2r _=_ from e1.2,show f2u _=true from e2.1,show f2v _=_ from e2.2,bne_self_eq_false,hk,ht];rfl
theorem d0K (T:Den S30) (i:Nat) (hi:i<T.1.length):c2x (((),(),(i:Int),(0:Int),()),T,T,())=some (.inl (((),(),(i:Int),()),T,T,())):=by
 have d1:decide ((i:Int)<(T.1.length:Int))=true:=by simpa using hi
 have d2:decide (0<=(i:Int))=true:=by simp
 refine a1k (q:=d3W) (fun k=>(((),(),(i:Int),(k:Int),()),T,T,())) 13 _ (fun k f hk=>?_) (fun f=>?_) _ (by unfold e3j;dsimp only;omega)
 ·have d3:decide ((k:Int)<13)=true:=by simp;omega
  have d4:decide (0<=(k:Int))=true:=by simp
  unfold d3W;dsimp only;rw[d3,d4,d1,d2,c1w,c1x,a2h k (by omega)];rfl
 ·rfl
theorem d0L (T:Den S30) (h1:T.1.length<=1000) (h2:T.2.1.length<=1000):F70 (T,T,())=some (true,()):=by
 have e2:=kg (F:=e6B) (d:=zero f2t) (a2y.1 T.2.1 h2);have hx:c2y (((),(),(0:Int),()),T,T,())=some (.inl ((),())):=by
  refine a1k (q:=c8D) (fun k=>(((),(),(k:Int),()),T,T,())) T.1.length _ (fun k f hk=>?_) (fun f=>?_) _ (by unfold e3k;dsimp only;omega)
  ·have d1:decide ((k:Int)<(T.1.length:Int))=true:=by simpa using hk
   have d2:decide (0<=(k:Int))=true:=by simp
   have hf:=d0K T k hk;have k9:c8A (((),(),(k:Int),(0:Int),()),T,T,())=true:=by unfold c8A;rw[hf];rfl
   have t9:c8B (((),(),(k:Int),(0:Int),()),T,T,())=false:=by unfold c8B;rw[hf];rfl
   have x9:c8C (((),(),(k:Int),(0:Int),()),T,T,())=(((),(),(k:Int),()),T,T,()):=by unfold c8C;rw[hf];rfl
   unfold c8D;dsimp only;rw[d1,d2,b2A,b2B,k9,t9,x9,a2h k (by omega)];rfl
  ·have d1:decide ((T.1.length:Int)<(T.1.length:Int))=false:=by simp
   unfold c8D;dsimp only;rw[d1];rfl
 have hk:c8E (((),(),(0:Int),()),T,T,())=true:=by unfold c8E;rw[hx];rfl
 have ht:c8F (((),(),(0:Int),()),T,T,())=false:=by unfold c8F;rw[hx];rfl
 unfold F70;dsimp only;rw[show f2u _=true from e2.1,show f2v _=_ from e2.2,bne_self_eq_false,hk,ht];rfl
theorem b5t (b:Den S40) (h:a5B b):F29 (b,b,())=some (true,()):=by
 obtain⟨hP,hT,hS,hC⟩:=h;have e1:=kg (F:=F69) (d:=zero R69) (c3m b.1 hP);have e2:=kg (F:=F70) (d:=zero R70) (d0L b.2.1 (by have:=hT.1;omega) (by have:=hT.2;omega));have e3:=kg (F:=F71) (d:=zero R71) (c3l b.2.2.1 (by have:=hS.2;omega));have e4:=kg (F:=F72) (d:=zero R72) (a2y.2.1 b.2.2.2.1.2.1 (by omega));unfold F29;dsimp only;rw[show K69 _=true from e1.1,show G69 _=_ from e1.2,show K70 _=true from e2.1,show G70 _=_ from e2.2,show K71 _=true from e3.1,show G71 _=_ from e3.2,show K72 _=true from e4.1,show G72 _=_ from e4.2];simp only[beq_self_eq_true,Bool.and_self];rfl
theorem c3n (Y:Yv) (h:YM Y):F12 (Y,Y,())=some (true,()):=by
 have e1:=kg (F:=F29) (d:=zero R29) (b5t Y.1 h.boat);have e2:=kg (F:=F41) (d:=zero R41) (a2y.2.2.1 Y.tk h.tk);have e3:=kg (F:=F28) (d:=zero R28) (a2y.2.2.2.1 Y.lg h.lg);unfold F12;dsimp only;rw[show K29 _=true from e1.1,show G29 _=_ from e1.2,b2A,b2B,c1w,c1x,show K41 (Y.2.2.2.2.2.2.1,Y.2.2.2.2.2.2.1,())=true from e2.1,show G41 (Y.2.2.2.2.2.2.1,Y.2.2.2.2.2.2.1,())=_ from e2.2,show K28 (Y.2.2.2.2.2.2.2.1,Y.2.2.2.2.2.2.2)=true from e3.1,show G28 (Y.2.2.2.2.2.2.2.1,Y.2.2.2.2.2.2.2)=_ from e3.2];simp only[beq_self_eq_true];rfl
def e0y (l:List Int):Bool:=decide (l.length<=1048576)
def f4k (s:ByteArray):Bool:=isC (spF s) 2 sGo
def b7K (s:ByteArray):Int:=bif f4k s then uI (fAt (spF s) 1)else 0
def b7L (s:ByteArray):Nat:=bif f4k s then 1 else 0
def d5g (l:List ByteArray):Nat->Int
 |0=>0
 |k+1=>d5g l k+b7K (l.getD k (zero Ty.str))
def d5h (l:List ByteArray):Nat->Nat
 |0=>0
 |k+1=>d5h l k+b7L (l.getD k (zero Ty.str))
def GL (s:ByteArray):Prop:=f4k s=true->uB (fAt (spF s) 1)=true /\ 1<=uI (fAt (spF s) 1) /\ uI (fAt (spF s) 1)<=3600
theorem d5i {α:Type} (l:List α) (x d:α) (k:Nat) (h:k<l.length):(l++[x]).getD k d=l.getD k d:=by
 rw[List.getD_eq_getElem?_getD,List.getD_eq_getElem?_getD,List.getElem?_append_left h]
theorem b5u {α:Type} (l:List α) (x d:α):(l++[x]).getD l.length d=x:=by
 rw[List.getD_eq_getElem?_getD,List.getElem?_append_right (Nat.le_refl _)];simp
theorem d0M (l:List ByteArray) (s:ByteArray):∀k,k<=l.length->d5g (l++[s]) k=d5g l k /\ d5h (l++[s]) k=d5h l k
 |0,_=>⟨rfl,rfl⟩
 | k+1,h=>by
   obtain⟨h1,h2⟩:=d0M l s k (by omega);have e:=d5i l s (zero Ty.str) k (by omega);constructor
   ·show d5g (l++[s]) k+b7K ((l++[s]).getD k _)=d5g l k+b7K (l.getD k _);rw[h1,e]
   ·show d5h (l++[s]) k+b7L ((l++[s]).getD k _)=d5h l k+b7L (l.getD k _);rw[h2,e]
theorem d5j (l:List ByteArray) (s:ByteArray):d5g (l++[s]) (l++[s]).length=d5g l l.length+b7K s /\ d5h (l++[s]) (l++[s]).length=d5h l l.length+b7L s:=by
 obtain⟨h1,h2⟩:=d0M l s l.length (Nat.le_refl _);have e:=b5u l s (zero Ty.str);rw[length_append];constructor
 ·show d5g (l++[s]) l.length+b7K ((l++[s]).getD l.length _)=_;rw[h1,e]
 ·show d5h (l++[s]) l.length+b7L ((l++[s]).getD l.length _)=_;rw[h2,e]
theorem c1y {f:List ByteArray} {n m:Nat} {s t:ByteArray} (h:isC f n s=true) (hst:a0O s t=false):isC f m t=false:=by
 obtain⟨_,h2⟩:=c3e h;have e:=(a4C _ _).1 h2;unfold isC;rw[e,hst,Bool.and_false]
structure b5v (Y Z:Yv):Prop where
 tm:Z.tm=Y.tm
 tk:Z.tk=Y.tk
theorem b5v.refl (Y:Yv):b5v Y Y:=⟨rfl,rfl⟩
theorem a7A (Y:Yv):b5v Y (kpV Y):=by
 unfold kpV;cases decide (Y.sl ≥ 0)
 ·exact .refl Y
 ·exact⟨rfl,rfl⟩
theorem d0N (f:List ByteArray) (Y:Yv) (h:(a3P f Y).1=true) :
 (isC f 2 sGo=true /\ uB (fAt f 1)=true /\ 1<=uI (fAt f 1) /\ uI (fAt f 1)<=3600 /\ (a3P f Y).2.tm=Y.tm+uI (fAt f 1) /\ (a3P f Y).2.tk.length=Y.tk.length+1)∨(isC f 2 sGo=false /\ b5v Y (a3P f Y).2):=by
 unfold a3P at h ⊢;cases c1:isC f 2 a3I with
 | true =>
   right;refine⟨c1y c1 (by decide +kernel),?_⟩;show b5v Y (a9C f Y).2;unfold a9C;cases (uB (fAt f 1)&&!decide (uI (fAt f 1)>359))
   ·exact .refl Y
   ·exact⟨(a7A (Y.setHd _)).tm,(a7A (Y.setHd _)).tk⟩
 |false=>
 cases c2:isC f 3 a7t with
 | true =>
   right;refine⟨c1y c2 (by decide +kernel),?_⟩;show b5v Y (b7C f Y).2;unfold b7C;cases ((a9N (fAt f 1) (fAt f 2)).2.2.1&&a1K (a2g f))
   ·exact .refl Y
   ·cases a6T Y.wd
    ·cases ((a1C Y.wd (a2g f)).2.1&&a1K (a1C Y.wd (a2g f)).1)
     ·exact .refl Y
     ·exact⟨(a7A (Y.setWd _)).tm,(a7A (Y.setWd _)).tk⟩
    ·exact⟨(a7A (Y.setWd _)).tm,(a7A (Y.setWd _)).tk⟩
 |false=>
 cases c3:isC f 2 a9u with
 | true =>
   right;refine⟨c1y c3 (by decide +kernel),?_⟩;show b5v Y (b7D f Y).2;unfold b7D;cases a0O (fAt f 1) b0a
   ·cases (!decide (a2p Y.sails (fAt f 1)<0)&&((a2k Y).2.1&&a4d (at' Y.sails (a2p Y.sails (fAt f 1)).toNat) (a2k Y).1))
    ·exact .refl Y
    ·exact⟨rfl,rfl⟩
   ·exact⟨rfl,rfl⟩
 |false=>
 cases c4:isC f 3 c9S with
 | true =>
   right;refine⟨c1y c4 (by decide +kernel),?_⟩;show b5v Y (e5g f Y).2;unfold e5g;cases ((a9N (fAt f 1) (fAt f 2)).2.2.1&&(a0S (d0B f)).2.1)
   ·exact .refl Y
   ·exact⟨rfl,rfl⟩
 |false=>
 cases c5:isC f 2 sGo with
 | true =>
   left;rw[c1,c2,c3,c4,c5]at h;have h:(goW f Y).1=true:=h;refine⟨rfl,?_⟩;show uB (fAt f 1)=true /\ 1<=uI (fAt f 1) /\ uI (fAt f 1)<=3600 /\ (goW f Y).2.tm=Y.tm+uI (fAt f 1) /\ (goW f Y).2.tk.length=Y.tk.length+1;unfold goW at h ⊢;cases hu:uB (fAt f 1)with
   |false=>rw[hu]at h;cases h
   | true =>
     rw[hu]at h;have h:(goV (uI (fAt f 1)) Y).1=true:=h;show _ /\ _ /\ _ /\ (goV (uI (fAt f 1)) Y).2.tm=_ /\ (goV (uI (fAt f 1)) Y).2.tk.length=_;unfold goV at h ⊢;cases ha:(inB (uI (fAt f 1)) 1 3600&&(!decide (Y.tm+uI (fAt f 1)>10000000)&&!decide ((Y.tk.length:Int) ≥ 200)))with
     |false=>rw[ha]at h;cases h
     | true =>
       rw[ha]at h;cases hb:((goR (uI (fAt f 1)) Y).2.1&&(a0S (goR (uI (fAt f 1)) Y).1).2.1)with
       |false=>rw[hb]at h;cases h
       | true =>
         unfold inB at ha;simp only[and_eq_true,decide_eq_true_eq]at ha;refine⟨rfl,ha.1.1,ha.1.2,rfl,?_⟩;show(Y.tk++[_]).length=_;rw[length_append];rfl
 |false=>exact .inr ⟨rfl,.refl Y⟩
structure d5k (t0:Int) (Y:Yv):Prop where
 gl:∀s∈Y.lg,GL s
 sum:Y.tm=t0+d5g Y.lg Y.lg.length
 cnt:Y.tk.length=d5h Y.lg Y.lg.length
theorem d5k.doV {t0:Int} {Y:Yv} (h:d5k t0 Y) (s:ByteArray):d5k t0 (doV Y s).1:=by
 unfold AM.doV;cases hd:doB Y s with
 |false=>exact h
 | true =>
   show d5k t0 (doZ Y s);unfold doB at hd;simp only[and_eq_true,decide_eq_true_eq]at hd;obtain⟨ho,hl,hs,hdn⟩:=hd;obtain⟨hn,_⟩:=d0F hs;have L:=(a6U (spF s) Y).lg;have hlg:(doZ Y s).lg=Y.lg++[a1h (spF s)]:=by
    show(a3P (spF s) Y).2.lg++[a1h (spF s)]=_;rw[L]
   have htm:(doZ Y s).tm=(a3P (spF s) Y).2.tm:=rfl;have htk:(doZ Y s).tk=(a3P (spF s) Y).2.tk:=rfl;obtain⟨e1,e2⟩:=d5j Y.lg (a1h (spF s));have hg:f4k (a1h (spF s))=isC (spF s) 2 sGo:=by unfold f4k;rw[hn]
   have hN:b7K (a1h (spF s))=bif isC (spF s) 2 sGo then uI (fAt (spF s) 1)else 0:=by unfold b7K;rw[hg,hn]
   have hC:b7L (a1h (spF s))=bif isC (spF s) 2 sGo then 1 else 0:=by unfold b7L;rw[hg]
   rcases d0N (spF s) Y hdn with⟨d1,d2,d3,d4,d5,d6⟩|⟨d1,d2⟩
   ·refine⟨?_,?_,?_⟩
    ·rw[hlg];intro u hu;rcases List.mem_append.1 hu with hu|hu
     ·exact h.gl u hu
     ·rw[List.mem_singleton.1 hu];intro _;rw[hn];exact⟨d2,d3,d4⟩
    ·rw[htm,d5,hlg,e1,hN,d1,h.sum,cond_true];omega
    ·rw[htk,d6,hlg,e2,hC,d1,h.cnt];rfl
   ·refine⟨?_,?_,?_⟩
    ·rw[hlg];intro u hu;rcases List.mem_append.1 hu with hu|hu
     ·exact h.gl u hu
     ·rw[List.mem_singleton.1 hu];intro hgo;rw[hg,d1]at hgo;cases hgo
    ·rw[htm,d2.tm,hlg,e1,hN,d1,h.sum,cond_false];omega
    ·rw[htk,d2.tk,hlg,e2,hC,d1,h.cnt];rfl
def b2C (y:Den (.cons .bool .nil)):Option Unit:=bif y.1 then some ()else none
theorem d5l:∀y,b2C y=some ()->y=(true,()):=by
 rintro⟨b,⟨⟩⟩ h;cases b
 ·cases h
 ·rfl
theorem h1m (x:Den A8):F8 x=some (decide ((x.1.length:Int)>1048576),()):=rfl
def pT26 (x:Den A26):Bool:=e0y x.1
def QT26 (x:Den A26) (y:Den R26):Prop:=YM y.1
theorem eT26:Nonempty (ChT A26 R26 pT26 QT26):=⟨⟨fun _=>(f7u,ByteArray.empty,()),fun _ _=>e0x⟩⟩
theorem g5h:a2i Tryz.prog 26 (c2c A26 R26 pT26 QT26 eT26):=e7e g5d (N:=N26 p66 Q66 e66) (a2m ⟨g5g,trivial⟩) h1j a1d fun x hx k hk=>by
 have hk:∀y:Den R26,YM y.1->k y=some ():=hk;have h:x.1.length<=1048576:=by simpa[pT26,e0y]using hx
 refine Eq.trans (g5f _ _ _ k x) ?_;unfold g8W;dsimp only;have c0:=c6l (x,()) h
 haveI:=e66
 refine a0q (d7j (x,()) h) ?_;refine a0l fun g=>?_
 have hp:p66 (((),()),(G30 (x,())).snd)=true:=a0T.2 c0;obtain⟨q1,q2⟩:=g.2 _ hp;refine a0q hp ?_;generalize g.val (((),()),(G30 (x,())).snd)=A at *;have hs:a0F A.fst.fst.1.2.2.1 /\ A.fst.fst.1.2.2.1.length<=13:=q2.boat.2.2.1;exact a0q (c1e (((),A.fst.fst.fst,()),A.snd) q1 hs.1 hs.2) (hk _ q2)
theorem h1n:NOK Tryz.prog (N7 pT26 QT26 eT26):=a2m ⟨g5h,trivial⟩
theorem e5v (x:Den A7) (w:Wf A7 x):a5u (Γ7) (N7 pT26 QT26 eT26) (a0x Tryz.f7) (a5v R7 b2C) (a5F A7 x) []=some ():=by
 refine Eq.trans (h1l _ _ _ b2C x) ?_;unfold rN7;simp only[K8,G8,h1m,Option.isSome_some,Option.getD_some,cond_true];by_cases h0:(x.1.length:Int)>1048576
 ·simp only[h0,decide_true,cond_true];rfl
 simp only[h0,decide_false,cond_false]
 haveI:=eT26
 refine a0l fun g=>?_
 have hp:pT26 x=true:=by show decide (x.1.length<=1048576)=true;simp;omega
 have hq:YM (g.val x).1:=g.2 _ hp;refine a0q hp ?_;generalize g.val x=d at *;obtain⟨Y,s,_⟩:=d;change Yv at Y;change ByteArray at s;have hq:YM Y:=hq;have e27:=kg (F:=F27) (d:=zero R27) (e5k Y s hq);rw[show K27 (Y,s,())=true from e27.1,show G27 (Y,s,())=_ from e27.2];unfold doV;cases hd:doB Y s with
 | false =>
   have e:=kg (F:=F12) (d:=zero R12) (c3n Y hq);show(bif K12 (Y,Y,())then b2C (G12 (Y,Y,()))else none)=some ();rw[show K12 (Y,Y,())=true from e.1,show G12 (Y,Y,())=_ from e.2];rfl
 | true =>
   unfold doB at hd;simp only[and_eq_true,decide_eq_true_eq]at hd;obtain⟨ho,hl,hs,hdn⟩:=hd;obtain⟨hn1,hn2⟩:=d0F hs;have L:=a6U (spF s) Y;have hlg:(doZ Y s).lg=Y.lg++[a1h (spF s)]:=by
    show(a3P (spF s) Y).2.lg++[a1h (spF s)]=_;rw[L.lg]
   have hbt:(doZ Y s).1=Y.1:=L.boat;generalize doZ Y s=Z at *;have e1:=kg (F:=F16) (d:=zero R16) (a9D s);have e2:=kg (F:=F16) (d:=zero R16) (a9D (a1h (spF s)));rw[hn1,hn2]at e2;rw[hs]at e1;have e3:=kg (F:=F28) (d:=zero R28) (a2y.2.2.2.1 Y.lg hq.lg);have hf24:=(b2w hs).2.2.2;have e4:=kg (F:=F28) (d:=zero R28) (a2y.2.2.2.1 (spF s) (by omega));have e5:=kg (F:=F29) (d:=zero R29) (b5t Y.1 hq.boat);have ew:IntKind.i64.wrap ((Y.lg.length:Int)+1)=((Y.lg.length+1:Nat):Int):=a2h _ (by omega);have hz:(Z.lg.length:Int)=((Y.lg.length+1:Nat):Int):=by rw[hlg,length_append];rfl
   have hat:getD Z.lg (toNat (Y.lg.length:Int)) (zero Ty.str)=a1h (spF s):=by rw[hlg];exact b5u _ _ _
   have htk:List.drop (toNat 0) (List.take (toNat (Y.lg.length:Int)) Z.lg)=Y.lg:=by
    rw[hlg];show List.take Y.lg.length (Y.lg++[a1h (spF s)])=_;exact List.take_left
   have d1:decide (0<=(Y.lg.length:Int))=true:=by simp
   have d2:decide ((Y.lg.length:Int)<(Z.lg.length:Int))=true:=by rw[hz];simp;omega
   have d3:decide ((Y.lg.length:Int)<=(Z.lg.length:Int))=true:=by rw[hz];simp;omega
   show(bif ((Z.lg.length:Int) != IntKind.i64.wrap ((Y.lg.length:Int)+1))then b2C (false,())else bif K16 (s,())then bif (decide (0<=(Y.lg.length:Int))&&decide ((Y.lg.length:Int)<(Z.lg.length:Int)))then
    bif K16 (getD Z.lg (toNat (Y.lg.length:Int)) (zero Ty.str),())then bif (decide (0<=(0:Int))&&decide (0<=(Y.lg.length:Int))&&decide ((Y.lg.length:Int)<=(Z.lg.length:Int)))then
     bif K28 (List.drop (toNat 0) (List.take (toNat (Y.lg.length:Int)) Z.lg),Y.lg,())then bif (G28 (List.drop (toNat 0) (List.take (toNat (Y.lg.length:Int)) Z.lg),Y.lg,())).1 then
      bif (G16 (getD Z.lg (toNat (Y.lg.length:Int)) (zero Ty.str),())).2.1 then bif K28 ((G16 (s,())).1,(G16 (getD Z.lg (toNat (Y.lg.length:Int)) (zero Ty.str),())).1,())then
       bif (G28 ((G16 (s,())).1,(G16 (getD Z.lg (toNat (Y.lg.length:Int)) (zero Ty.str),())).1,())).1 then bif K29 (Z.1,Y.1,())then b2C (G29 (Z.1,Y.1,()))else none else b2C (false,())
      else none else b2C (false,())
     else b2C (false,())else none else none else none else none else none)=some ()
   rw[ew,hz,bne_self_eq_false,hat,htk,hbt,<- hz,d1,d2,d3,show K16 (s,())=true from e1.1,show G16 (s,())=_ from e1.2,show K16 (a1h (spF s),())=true from e2.1,show G16 (a1h (spF s),())=_ from e2.2,
    show K28 (Y.lg,Y.lg,())=true from e3.1,show G28 (Y.lg,Y.lg,())=_ from e3.2,show K29 (Y.1,Y.1,())=true from e5.1,show G29 (Y.1,Y.1,())=_ from e5.2]
   dsimp only;rw[show K28 (spF s,spF s,())=true from e4.1,show G28 (spF s,spF s,())=_ from e4.2];rfl
end Go.Proofs.YtjomnmoekchfeaaGreatDoor.AM
