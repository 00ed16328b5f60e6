/- Texts of one proof, joined: an abstract machine for the program, its functions evaluated, plain lemmas. Conditions: those that each lemma names. -/
import Derived.Test.YtjomnmoekchfeaaGreatDoorM5
set_option linter.unusedVariables false
set_option linter.unusedSimpArgs false
namespace Go.Proofs.YtjomnmoekchfeaaGreatDoor.AM
open Go Go.Proofs
set_option maxRecDepth 100000
theorem e0M (Y:Yv) (hB:a6e Y.1) (ht:Y.tk.length<=1000) (hl:Y.lg.length<=1000):F36 ((Y,()),())=some (((c7g true Y).2.1,()),(Y.tk,Y.lg,())):=by
 obtain⟨B,t,p,h,w,s,tr,lg,_⟩:=Y
 have ht:tr.length<=1000:=ht
 have hl:lg.length<=1000:=hl
 have k1:K85 ((tr,()),())=true:=d7Z (l:=tr) ht
 have k2:K86 ((lg,()),())=true:=d7Z (l:=lg) hl
 have g1:G85 ((tr,()),())=(((),()),(tr,())):=rfl
 have g2:G86 ((lg,()),())=(((),()),(lg,())):=rfl
 have h84:=e9N B hB
 unfold F36 r36
 dsimp only
 simp only[K84,G84,h84,k1,k2,g1,g2,Option.isSome_some,Option.getD_some,cond_true]
 rfl
def a5f (f:List ByteArray):ByteArray:=⟨(c1q f { data:=#[32] }).toArray⟩
theorem e9P (Y:Yv) (s:ByteArray) (hB:a6e Y.1) (ht:Y.tk.length<=1000) (hl:Y.lg.length<=1000) {a b:Bool} {f:List ByteArray} (h14:F14 (Y,())=some (a,())) (h16:F16 (s,())=some (f,b,()))
 {d:Bool} {Z:Yv} (hd:a=true->(Y.lg.length:Int)<300->b=true->d8c f Y=some (d,Z) /\ (d=true->K60 (f,{ data:=#[32] },())=true /\ Z.lg.length<=1000)) :
 F27 (Y,s,())=some (bif a&&(decide ((Y.lg.length:Int)<300)&&(b&&d))then(Z.setLg (Z.lg++[a5f f]),true,())else(Y,false,())):=by
 have h36:=e0M Y hB ht hl
 unfold F27 r27
 dsimp only
 simp only[K36,G36,h36,K14,G14,h14,K16,G16,h16,Option.isSome_some,Option.getD_some,cond_true]
 cases a with
 |false=>rfl
 | true =>
   simp only[Bool.not_true,cond_false,Bool.true_and]
   by_cases h300:(Y.lg.length:Int)<300
   ·have e1:decide (((List.length Y.snd.snd.snd.snd.snd.snd.snd.fst:Nat):Int) ≥ 300)=false:=decide_eq_false (by show ¬((Y.lg.length:Int) ≥ 300);omega)
    have e2:decide ((Y.lg.length:Int)<300)=true:=decide_eq_true h300
    rw[e1,e2]
    simp only[cond_false,Bool.true_and]
    cases b with
    |false=>rfl
    | true =>
      obtain⟨h68,hj⟩:=hd rfl h300 rfl
      have key:∀x:I68.den,x.1.2.1=f->yIn x=Y->K68 x=true /\ G68 x=c7g d Z:=fun x e1 e2=>by
       unfold K68 G68
       rw[e9O,e1,e2,h68]
       exact⟨rfl,rfl⟩
      have hk:=key (((),f,()),(c7g true Y).2.1,Y.tk,Y.lg,()) rfl rfl
      refine Eq.trans (?_:_=(bif K68 (((),f,()),(c7g true Y).2.1,Y.tk,Y.lg,())then
       bif !(G68 (((),f,()),(c7g true Y).2.1,Y.tk,Y.lg,())).1.1 then some (Y,false,())
       else bif K60 (f,{ data:=#[32] },())then
        bif a0F (List.length (G68 (((),f,()),(c7g true Y).2.1,Y.tk,Y.lg,())).2.2.2.1+1)then
         some (yIn (((),f,()),(G68 (((),f,()),(c7g true Y).2.1,Y.tk,Y.lg,())).2.1,(G68 (((),f,()),(c7g true Y).2.1,Y.tk,Y.lg,())).2.2.2.2.1,(G68 (((),f,()),(c7g true Y).2.1,Y.tk,Y.lg,())).2.2.2.1++[(G60 (f,{ data:=#[32] },())).1],()),true,())
        else none
       else none
      else none:Option (Den R27))) ?_
      ·rfl
      ·rw[hk.1,hk.2]
       cases d with
       |false=>rfl
       | true =>
         obtain⟨j1,j2⟩:=hj rfl
         rw[j1]
         have:a0F (List.length (c7g true Z).2.2.2.1+1)=true:=a0K (by show Z.lg.length+1<=_;omega)
         rw[this]
         rfl
   ·have e1:decide (((List.length Y.snd.snd.snd.snd.snd.snd.snd.fst:Nat):Int) ≥ 300)=true:=decide_eq_true (by show((Y.lg.length:Int) ≥ 300);omega)
    have e2:decide ((Y.lg.length:Int)<300)=false:=decide_eq_false h300
    rw[e1,e2]
    rfl
structure YM (Y:Yv):Prop where
 boat:a6e Y.1
 tk:Y.tk.length<=1000
 lg:Y.lg.length<=1000
def e4x (Y:Yv):Bool:=decide ((Y.tk.length:Int)>0)&&decide ((sg Y.tk (Y.tk.length-1)).2.1>Y.tm)
def f2t (m:Den R19) (Y:Yv):Bool:=bif decide (Y.sl ≥ 0)then m.2.1&&a3r (at' Y.sails Y.sl.toNat) m.1 else true
def e4y (Y:Yv):Bool:=b1u Y.1&&(inB Y.tm 0 10000000&&((a1J Y.ps).2.1&&(inB Y.hd 0 359&&(a3M Y.wd&&(inB Y.sl (-1) ((Y.sails.length:Int)-1)&&(a7B Y.tk&&(!decide ((Y.lg.length:Int)>300)&&!e4x Y)))))))
def okV (m:Den R19) (Y:Yv):Bool:=e4y Y&&f2t m Y
theorem b1v {Y:Yv} (h:YM Y):Y.sails.length<=13:=h.boat.2.2.1.2
theorem d8d (Y:Yv) (h:YM Y) (m:Den R19) (hm:I64 m.1.2.1) (hs:inB Y.sl (-1) ((Y.sails.length:Int)-1)=true) :
 (bif decide (Y.sl ≥ 0)then bif m.2.1 then bif (decide (0<=Y.sl)&&decide (Y.sl<(Y.sails.length:Int)))then bif K20 (at' Y.sails Y.sl.toNat,m.1,())then some (G20 (at' Y.sails Y.sl.toNat,m.1,()))else none else none else some (false,())else some (true,()):Option (Den R14))=some (f2t m Y,()):=by
 have hg:=h.boat.2.2.1.1.at Y.sl.toNat
 have e:=e0o (at' Y.sails Y.sl.toNat,m.1,()) hg.2.1 hg.2.2 hm
 have k:K20 (at' Y.sails Y.sl.toNat,m.1,())=true:=by unfold K20;rw[e];rfl
 have g:G20 (at' Y.sails Y.sl.toNat,m.1,())=(a3r (at' Y.sails Y.sl.toNat) m.1,()):=by unfold G20;rw[e];rfl
 rw[k,g]
 unfold f2t
 by_cases h0:Y.sl ≥ 0
 ·have d1:decide (Y.sl ≥ 0)=true:=decide_eq_true h0
  have d2:decide (Y.sl<(Y.sails.length:Int))=true:=by
   unfold inB at hs
   simp only[Bool.and_eq_true,decide_eq_true_eq]at hs ⊢
   omega
  rw[d1,d2]
  cases m.2.1<;>rfl
 ·have d1:decide (Y.sl ≥ 0)=false:=decide_eq_false h0
  rw[d1]
  rfl
theorem e4z {n:Nat} (h0:(n:Int)>0) (h:n<=1000):IntKind.i64.wrap ((n:Int)-1)=((n-1:Nat):Int) /\ (decide (0<=((n-1:Nat):Int))&&decide (((n-1:Nat):Int)<(n:Int)))=true:=by
 constructor
 ·rw[w64 (by omega) (by omega)];omega
 ·simp only[Bool.and_eq_true,decide_eq_true_eq];omega
theorem e9Q (Y:Yv) (h:YM Y):F14 (Y,())=some (okV (a2v Y) Y,()):=by
 have htk:=h.tk
 have e1:=d2X Y.ps
 have k1:K23 (Y.ps,())=true:=by unfold K23;rw[e1];rfl
 have g1:G23 (Y.ps,())=a1J Y.ps:=by unfold G23;rw[e1];rfl
 have e2:=e9L Y.1 h.boat
 have k2:K42 (Y.1,())=true:=by unfold K42;rw[e2];rfl
 have g2:G42 (Y.1,())=(b1u Y.1,()):=by unfold G42;rw[e2];rfl
 have e3:F43 (Y.tm,())=some (inB Y.tm 0 10000000,()):=c4Q _
 have k3:K43 (Y.tm,())=true:=by unfold K43;rw[e3];rfl
 have g3:G43 (Y.tm,())=(inB Y.tm 0 10000000,()):=by unfold G43;rw[e3];rfl
 have e4:F44 (Y.hd,0,359,())=some (inB Y.hd 0 359,()):=a3s _
 have k4:K44 (Y.hd,0,359,())=true:=by unfold K44;rw[e4];rfl
 have g4:G44 (Y.hd,0,359,())=(inB Y.hd 0 359,()):=by unfold G44;rw[e4];rfl
 have e5:=a5a Y.wd
 have k5:K45 (Y.wd,())=true:=by unfold K45;rw[e5];rfl
 have g5:G45 (Y.wd,())=(a3M Y.wd,()):=by unfold G45;rw[e5];rfl
 have hsl:=b1v h
 have w1:IntKind.i64.wrap ((Y.sails.length:Int)-1)=(Y.sails.length:Int)-1:=w64 (by omega) (by omega)
 have e6:F44 (Y.sl,-1,(Y.sails.length:Int)-1,())=some (inB Y.sl (-1) ((Y.sails.length:Int)-1),()):=a3s _
 have k6:K44 (Y.sl,-1,(Y.sails.length:Int)-1,())=true:=by unfold K44;rw[e6];rfl
 have g6:G44 (Y.sl,-1,(Y.sails.length:Int)-1,())=(inB Y.sl (-1) ((Y.sails.length:Int)-1),()):=by unfold G44;rw[e6];rfl
 have e7:F46 (Y.tk,())=some (a7B Y.tk,()):=e8X Y.tk (by omega)
 have k7:K46 (Y.tk,())=true:=by unfold K46;rw[e7];rfl
 have g7:G46 (Y.tk,())=(a7B Y.tk,()):=by unfold G46;rw[e7];rfl
 have e8:=d2P Y
 have k8:K19 (Y,())=true:=by unfold K19;rw[e8];rfl
 have g8:G19 (Y,())=a2v Y:=by unfold G19;rw[e8];rfl
 unfold F14 r14
 show(bif K23 (Y.ps,())then bif K42 (Y.1,())then bif !(G42 (Y.1,())).1 then some (false,())else bif K43 (Y.tm,())then bif !(G43 (Y.tm,())).1 then some (false,())else
  bif !(G23 (Y.ps,())).2.1 then some (false,())else bif K44 (Y.hd,0,359,())then bif !(G44 (Y.hd,0,359,())).1 then some (false,())else
  bif K45 (Y.wd,())then bif !(G45 (Y.wd,())).1 then some (false,())else
  bif K44 (Y.sl,-1,IntKind.i64.wrap ((Y.sails.length:Int)-1),())then bif !(G44 (Y.sl,-1,IntKind.i64.wrap ((Y.sails.length:Int)-1),())).1 then some (false,())else
  bif K46 (Y.tk,())then bif !(G46 (Y.tk,())).1 then some (false,())else
  bif decide ((Y.lg.length:Int)>300)then some (false,())else
  bif decide ((Y.tk.length:Int)>0)then bif (decide (0<=IntKind.i64.wrap ((Y.tk.length:Int)-1))&&decide (IntKind.i64.wrap ((Y.tk.length:Int)-1)<(Y.tk.length:Int)))then
   bif decide ((sg Y.tk (IntKind.i64.wrap ((Y.tk.length:Int)-1)).toNat).2.1>Y.tm)then some (false,())else
   (bif decide (Y.sl ≥ 0)then bif K19 (Y,())then bif (G19 (Y,())).2.1 then bif (decide (0<=Y.sl)&&decide (Y.sl<(Y.sails.length:Int)))then bif K20 (at' Y.sails Y.sl.toNat,(G19 (Y,())).1,())then some (G20 (at' Y.sails Y.sl.toNat,(G19 (Y,())).1,()))else none else none else some (false,())else none else some (true,()))
   else none
  else(bif decide (Y.sl ≥ 0)then bif K19 (Y,())then bif (G19 (Y,())).2.1 then bif (decide (0<=Y.sl)&&decide (Y.sl<(Y.sails.length:Int)))then bif K20 (at' Y.sails Y.sl.toNat,(G19 (Y,())).1,())then some (G20 (at' Y.sails Y.sl.toNat,(G19 (Y,())).1,()))else none else none else some (false,())else none else some (true,()))
  else none else none else none else none else none else none else none:Option (Den R14))=_
 rw[w1,k1,g1,k2,g2,k3,g3,k4,g4,k5,g5,k6,g6,k7,g7,k8,g8]
 simp only[cond_true]
 unfold okV e4y
 cases c1:b1u Y.1
 ·rfl
 cases c2:inB Y.tm 0 10000000
 ·rfl
 cases c3:(a1J Y.ps).2.1
 ·rfl
 cases c4:inB Y.hd 0 359
 ·rfl
 cases c5:a3M Y.wd
 ·rfl
 cases c6:inB Y.sl (-1) ((Y.sails.length:Int)-1)
 ·rfl
 cases c7:a7B Y.tk
 ·rfl
 cases c8:decide ((Y.lg.length:Int)>300)
 ·have ht:=d8d Y h (a2v Y) (c0s Y) c6
  unfold e4x
  by_cases h0:(Y.tk.length:Int)>0
  ·obtain⟨i1,i2⟩:=e4z h0 htk
   have d1:decide ((Y.tk.length:Int)>0)=true:=decide_eq_true h0
   rw[d1,i1,i2,Int.toNat_natCast]
   cases decide ((sg Y.tk (Y.tk.length-1)).2.1>Y.tm)
   ·exact ht
   ·rfl
  ·have d1:decide ((Y.tk.length:Int)>0)=false:=decide_eq_false h0
   rw[d1]
   exact ht
 ·rfl
def d3e (g:Den a3L):Bool:=a4g g.2.1&&a0L g.2.2.1 0 100000
theorem e4A (g:Den a3L):f1H (g,())=some (d3e g,()):=by
 have e1:=c2r g.2.1
 have e2:=a2P g.2.2.1 0 100000
 unfold f1H f6E d3e
 dsimp only
 simp only[d4c,d4d,e1,K44,G44,e2,Option.isSome_some,Option.getD_some,cond_true]
 cases a4g g.2.1<;>rfl
theorem d8e (g:Den a3L):f1I ([g],())=some (d3e g,()):=by
 have e1:=e4A g
 have k1:d4q (g,())=true:=by unfold d4q;rw[e1];rfl
 have g1:d4r (g,())=(d3e g,()):=by unfold d4r;rw[e1];rfl
 have hl:b2G (([g],[g],(1:Int),(0:Int),()),())=some (bif d3e g then .inl (([g],()),())else .inr ((false,()),())):=by
  have hb:d1q (([g],[g],(1:Int),(0:Int),()),())=1003:=rfl
  unfold b2G
  rw[hb]
  show b9F d4q d4r _ _=_
  unfold b9F
  show(bif d4q (g,())then bif !(d4r (g,())).1 then _ else a1u (b9F d4q d4r) 1002 (([g],[g],(1:Int),(1:Int),()),())else none)=_
  rw[k1,g1]
  cases d3e g
  ·rfl
  ·rfl
 unfold f1I f6G
 show(bif b1a (([g],[g],(1:Int),(0:Int),()),())then bif b1b (([g],[g],(1:Int),(0:Int),()),())then some (b1d (([g],[g],(1:Int),(0:Int),()),())).1 else some (decide (((b1c (([g],[g],(1:Int),(0:Int),()),())).1.1.length:Int)<=50),())else none)=_
 unfold b1a b1b b1d b1c
 rw[hl]
 cases d3e g<;>rfl
def e0N (v s:Nat×Nat):Nat×Nat:=(a0i .add .f32 v.1 s.1,a0i .add .f32 v.2 s.2)
def a8H (k:Int) (sp:Nat) (s:Nat×Nat):(Nat×Nat)×Bool×Unit:=bif !(c0R k sp).2.1 then((0,0),false,())else bif !a3M s then((0,0),false,())else(e0N (c0R k sp).1 s,true,())
theorem e4B (k:Int) (sp:Nat) (s:Nat×Nat):f1V (k,sp,s,())=some (a8H k sp s):=by
 have e1:=e0H k sp
 have e2:=a5a s
 have e3:f7d ((c0R k sp).1,s,())=some (e0N (c0R k sp).1 s,()):=rfl
 unfold f1V f7f a8H
 dsimp only
 simp only[K56,G56,e1,K45,G45,e2,f1T,f1U,e3,Option.isSome_some,Option.getD_some,cond_true]
 cases (c0R k sp).2.1
 ·rfl
 ·cases a3M s<;>rfl
def onV (p v:Nat×Nat) (n:Int):Nat×Nat:=(a0i .add .f64 p.1 (a0i .mul .f64 (a0Z .f32 .f64 v.1).2 (FloatKind.nearest .f64 n)),a0i .add .f64 p.2 (a0i .mul .f64 (a0Z .f32 .f64 v.2).2 (FloatKind.nearest .f64 n)))
def e4C (p v:Nat×Nat) (n:Int):(Nat×Nat)×Bool×Unit:=
 bif !a5g p then((0,0),false,())else bif !a3M v then((0,0),false,())else bif !a0L n 0 100000 then((0,0),false,())else bif !a5g (onV p v n)then((0,0),false,())else(onV p v n,true,())
theorem e4D (p v:Nat×Nat) (n:Int):f1Y (p,v,n,())=some (e4C p v n):=by
 have e1:=a9a p
 have e2:=a5a v
 have e3:=a2P n 0 100000
 have e4:=a9a (onV p v n)
 unfold onV at e4
 unfold f1Y f7i e4C onV
 dsimp only
 simp only[K61,G61,e1,K45,G45,e2,K44,G44,e3,e4,Option.isSome_some,Option.getD_some,cond_true]
 cases a5g p
 ·rfl
 cases a3M v
 ·rfl
 cases a0L n 0 100000
 ·rfl
 cases a5g (a0i .add .f64 p.1 (a0i .mul .f64 (a0Z .f32 .f64 v.1).2 (FloatKind.nearest .f64 n)),a0i .add .f64 p.2 (a0i .mul .f64 (a0Z .f32 .f64 v.2).2 (FloatKind.nearest .f64 n)))<;>rfl
def a6P (p:Nat×Nat) (g:Den a3L) (n:Int) (s:Nat×Nat):(Nat×Nat)×Bool×Unit:=bif !(a8H g.1 g.2.1 s).2.1 then((0,0),false,())else e4C p (a8H g.1 g.2.1 s).1 n
theorem e4E (p:Nat×Nat) (g:Den a3L) (n:Int) (s:Nat×Nat):f2b (p,g,n,s,())=some (a6P p g n s):=by
 have e1:=e4B g.1 g.2.1 s
 have e2:=e4D p (a8H g.1 g.2.1 s).1 n
 unfold f2b f7l a6P
 dsimp only
 simp only[f1W,f1X,e1,f1Z,f2a,e2,Option.isSome_some,Option.getD_some,cond_true]
 cases (a8H g.1 g.2.1 s).2.1<;>rfl
def b1w (td:Den S30) (g:Den a3L):Nat->Nat×Nat->Int->Int->Option ((Nat×Nat)×Int×Int)
 |0,p,t,l=>some (p,t,l)
 |f+1,p,t,l=>bif decide (l>0)then bif !(a2D td p t).2.1 then none else bif !(a6P p g (a4j l 600) (a2D td p t).1).2.1 then none else b1w td g f (a6P p g (a4j l 600) (a2D td p t).1).1 (t+a4j l 600) (l-a4j l 600)else some (p,t,l)
def b6W (g:Den a3L):Int:=g.2.2.1
def f8m (p:Nat×Nat) (t:Int) (g:Den a3L) (td:Den S30):(Nat×Nat)×Bool×Unit:=
 bif !a5g p then((0,0),false,())else bif !d3e g then((0,0),false,())else match b1w td g 7 p t (b6W g)with|some r=>(r.1,true,())|none=>((0,0),false,())
theorem d8f {l:Int} (h:0<l):0<a4j l 600 /\ a4j l 600<=l /\ a4j l 600<=600 /\ (a4j l 600=l∨a4j l 600=600):=by
 unfold a4j
 split<;>omega
abbrev e4F:Type:=List (Den (a3L))×Int×Int×Unit
theorem c7u (td:Den S30) (h:a7C td) (g:Den a3L) (rest:e4F):∀(f N:Nat) (p:Nat×Nat) (t l:Int),(l<=(f:Int)*600)->(f<N)->0<=t->t+l<=9223372036854775807->0<=l ->
 ∃t':Int,a1u (b9L K61 G61 c4D c4E c4F b9K c4G c2b) N ((p,t,(),(),l,rest),td,g,())=some (match b1w td g f p t l with|some r => .inl ((r.1,t',(),rest),td,())|none => .inr (((0,0),false,()),())):=by
 intro f
 induction f with
 | zero =>
   intro N p t l hl hN ht htl hl0
   obtain⟨N,rfl⟩:∃M,N=M+1:=⟨N-1,by omega⟩
   have h0:l=0:=by omega
   subst h0
   exact⟨t,rfl⟩
 | succ f ih =>
   intro N p t l hl hN ht htl hl0
   obtain⟨N,rfl⟩:∃M,N=M+1:=⟨N-1,by omega⟩
   by_cases h1:l>0
   ·have d1:decide (l>0)=true:=decide_eq_true h1
    obtain⟨m1,m2,m3,m4⟩:=d8f h1
    have e1:=e4k td p t h
    have e2:=e4E p g (a4j l 600) (a2D td p t).1
    have k1:c4F (td,p,t,())=true:=by unfold c4F;rw[e1];rfl
    have g1:b9K (td,p,t,())=a2D td p t:=by unfold b9K;rw[e1];rfl
    have k2:c4G (p,g,a4j l 600,(a2D td p t).1,())=true:=by unfold c4G;rw[e2];rfl
    have g2:c2b (p,g,a4j l 600,(a2D td p t).1,())=a6P p g (a4j l 600) (a2D td p t).1:=by unfold c2b;rw[e2];rfl
    have w1:IntKind.i64.wrap (t+a4j l 600)=t+a4j l 600:=w64 (by omega) (by omega)
    have w2:IntKind.i64.wrap (l-a4j l 600)=l-a4j l 600:=w64 (by omega) (by omega)
    have ih':=ih N (a6P p g (a4j l 600) (a2D td p t).1).1 (t+a4j l 600) (l-a4j l 600) (by omega) (by omega) (by omega) (by omega) (by omega)
    have step:a1u (b9L K61 G61 c4D c4E c4F b9K c4G c2b) (N+1) ((p,t,(),(),l,rest),td,g,()) =
     bif decide (l>0)then bif c4F (td,p,t,())then bif !(b9K (td,p,t,())).2.1 then some (.inr (((0,0),false,()),()))
      else bif c4G (p,g,a4j l 600,(b9K (td,p,t,())).1,())then bif !(c2b (p,g,a4j l 600,(b9K (td,p,t,())).1,())).2.1 then some (.inr (((0,0),false,()),()))
       else a1u (b9L K61 G61 c4D c4E c4F b9K c4G c2b) N (((c2b (p,g,a4j l 600,(b9K (td,p,t,())).1,())).1,IntKind.i64.wrap (t+a4j l 600),(),(),IntKind.i64.wrap (l-a4j l 600),rest),td,g,())
      else none else none
     else some (.inl ((p,t,(),rest),td,())):=rfl
    rw[step,d1,k1,g1]
    simp only[cond_true,k2,g2,w1,w2]
    unfold b1w
    rw[d1,cond_true]
    cases (a2D td p t).2.1
    ·exact⟨0,rfl⟩
    ·cases (a6P p g (a4j l 600) (a2D td p t).1).2.1
     ·exact⟨0,rfl⟩
     ·exact ih'
   ·have h0:l=0:=by omega
    subst h0
    exact⟨t,rfl⟩
theorem e4G (p:Nat×Nat) (t:Int) (g:Den a3L) (td:Den S30) (h:a7C td) (ht:0<=t) (ht':t<=1000000000000) (hg:b6W g<=3600):e2Z (p,t,[g],td,())=some (f8m p t g td):=by
 have e1:=a9a p
 have e2:=d8e g
 have k1:K61 (p,())=true:=by unfold K61;rw[e1];rfl
 have g1:G61 (p,())=(a5g p,()):=by unfold G61;rw[e1];rfl
 have k2:c4D ([g],())=true:=by unfold c4D;rw[e2];rfl
 have g2:c4E ([g],())=(d3e g,()):=by unfold c4E;rw[e2];rfl
 unfold e2Z f7n f8m
 show(bif K61 (p,())then bif !(G61 (p,())).1 then _ else bif c4D ([g],())then bif !(c4E ([g],())).1 then _ else
  bif a8v ((p,t,(),[g],(1:Int),(0:Int),()),td,())then bif a8w ((p,t,(),[g],(1:Int),(0:Int),()),td,())then some (a8y ((p,t,(),[g],(1:Int),(0:Int),()),td,())).1
   else some ((a8x ((p,t,(),[g],(1:Int),(0:Int),()),td,())).1.1,true,())else none else none else none)=_
 rw[k1,g1,k2,g2]
 cases hp:a5g p
 ·rfl
 cases hg':d3e g
 ·rfl
 simp only[Bool.not_true,cond_true,cond_false]
 have hg2:0<=b6W g:=by
  unfold d3e a0L at hg'
  simp only[Bool.and_eq_true,decide_eq_true_eq]at hg'
  exact hg'.2.1
 obtain⟨t',hl⟩:=c7u td h g ([g],(1:Int),(0:Int),()) 7 (c4H ((p,t,(),(),b6W g,([g],(1:Int),(0:Int),())),td,g,())) p t (b6W g) (by omega) (by unfold c4H;dsimp only;omega) ht (by omega) hg2
 have hl7:b9M ((p,t,(),(),b6W g,([g],(1:Int),(0:Int),())),td,g,())=_:=hl
 have hl4:b2L ((p,t,(),[g],(1:Int),(0:Int),()),td,())=some (match b1w td g 7 p t (b6W g)with|some r => .inl ((r.1,()),())|none => .inr (((0,0),false,()),())):=by
  unfold b2L
  have hb:∃M,b9N ((p,t,(),[g],(1:Int),(0:Int),()),td,())=M+2:=⟨b9N ((p,t,(),[g],(1:Int),(0:Int),()),td,())-2,by unfold b9N;dsimp only;omega⟩
  obtain⟨M,hM⟩:=hb
  rw[hM]
  show(bif a5u ((p,t,(),(),b6W g,([g],(1:Int),(0:Int),())),td,g,())then bif a5v ((p,t,(),(),b6W g,([g],(1:Int),(0:Int),())),td,g,())then(some (Sum.inr (a5w ((p,t,(),(),b6W g,([g],(1:Int),(0:Int),())),td,g,()))):Option (b2H⊕b2I))else _ else none)=_
  unfold a5u a5v a5w
  rw[hl7]
  cases hpv:b1w td g 7 p t (b6W g)with
  |none=>rfl
  | some r =>
    have hx:a2s ((p,t,(),(),b6W g,([g],(1:Int),(0:Int),())),td,g,())=((r.1,t',(),([g],(1:Int),(0:Int),())),td,()):=by
     unfold a2s
     rw[hl7,hpv]
     rfl
    show a1u (d1B K61 G61 c4D c4E c4F b9K c4G c2b a5u a2s a5v a5w) (M+1) (((a2s ((p,t,(),(),b6W g,([g],(1:Int),(0:Int),())),td,g,())).1.1,(a2s ((p,t,(),(),b6W g,([g],(1:Int),(0:Int),())),td,g,())).1.2.1,(),(a2s ((p,t,(),(),b6W g,([g],(1:Int),(0:Int),())),td,g,())).1.2.2.2.1,(a2s ((p,t,(),(),b6W g,([g],(1:Int),(0:Int),())),td,g,())).1.2.2.2.2.1,IntKind.i64.wrap ((a2s ((p,t,(),(),b6W g,([g],(1:Int),(0:Int),())),td,g,())).1.2.2.2.2.2.1+1),()),(a2s ((p,t,(),(),b6W g,([g],(1:Int),(0:Int),())),td,g,())).2)=_
    rw[hx]
    rfl
 unfold a8v a8w a8y a8x
 rw[hl4]
 cases b1w td g 7 p t (b6W g)with
 |none=>rfl
 |some r=>rfl
def d3f (s:ByteArray) (i:Nat):Bool:=!decide (a1z s (i:Int)<32)&&!decide (a1z s (i:Int)>126)
def c7P (s:ByteArray):Bool:=a0w (d3f s) 0 s.size
def spB:ByteArray:={ data:=#[32] }
def d3g (s:ByteArray):Bool:=!a2w s { data:=#[] }
def a1h (s:ByteArray):List ByteArray:=(a3Z s spB).filter d3g
theorem d8g (s:ByteArray) (h:s.size<=1000):d1M ((s,(0:Int),()),())=some (bif c7P s then .inl ((s,()),())else .inr (((),false,()),())):=by
 refine(a0X (q:=d1L K48 G48) (fun k=>((s,(k:Int),()),())) s.size (d3f s) _ _ ?_ ?_ _ ?_:_)
 ·intro k f hk
  have e1:decide ((k:Int)<(s.size:Int))=true:=by simpa using hk
  have e2:decide (0<=(k:Int))=true:=by simp
  unfold d1L d3f
  simp only[a4y k (by omega),e1,e2,Bool.and_self,cond_true]
  cases decide (a1z s (k:Int)<32)
  ·cases decide (a1z s (k:Int)>126)<;>rfl
  ·rfl
 ·intro f
  simp[d1L]
 ·simp only[e3f];omega
theorem c7v (l:List ByteArray) (h:l.length<=1000):d1K (((),l,(l.length:Int),(0:Int),()),[],())=some (((),()),l.filter d3g,()):=by
 refine a0W (q:=c4L K48 G48) (fun v=>∃k:Nat,k<=l.length /\ v=(((),l,(l.length:Int),(k:Int),()),(l.take k).filter d3g,()))
  (fun _ r=>r=some (((),()),l.filter d3g,())) (fun v=>l.length-v.1.2.2.2.1.toNat) ?_ _ _ ⟨0,Nat.zero_le _,rfl⟩ (by show l.length-Int.toNat 0<c4M _;unfold c4M;dsimp only;omega)
 rintro v f ⟨k,hk,rfl⟩ ih
 unfold c4L
 dsimp only
 by_cases hlt:k<l.length
 ·have e1:decide ((k:Int)<(l.length:Int))=true:=by simpa using hlt
  have e2:decide (0<=(k:Int))=true:=by simp
  have hrow:List.getD l (Int.toNat (k:Int)) (zero Ty.str)=l[k]:=by rw[Int.toNat_natCast,a5o _ _ _ hlt]
  have ew:IntKind.i64.wrap ((k:Int)+1)=((k+1:Nat):Int):=a4y k (by omega)
  have e3:List.set (List.replicate 1 (zero Ty.str)) 0 l[k]=[l[k]]:=rfl
  have htk:List.take (k+1) l=List.take k l++[l[k]]:=List.take_succ_eq_append_getElem hlt
  have hmu:l.length-((k+1:Nat):Int).toNat<l.length-((k:Nat):Int).toNat:=by omega
  rw[e1,e2,hrow,ew,e3]
  simp only[Bool.and_self,cond_true]
  cases hb:!a2w l[k] { data:=#[] }with
  | true =>
    have hcap:a0F (List.length (List.filter d3g (List.take k l))+List.length [l[k]])=true:=a0K (by
     have:=List.length_filter_le d3g (List.take k l)
     rw[List.length_take]at this
     rw[List.length_singleton];omega)
    rw[hcap]
    simp only[cond_true]
    refine ih _ ⟨k+1,hlt,?_⟩ hmu
    rw[htk,List.filter_append,List.filter_cons_of_pos (show d3g l[k]=true from hb),List.filter_nil]
  | false =>
    simp only[cond_false]
    refine ih _ ⟨k+1,hlt,?_⟩ hmu
    rw[htk,List.filter_append,List.filter_cons_of_neg (by show ¬(d3g l[k]=true);rw[show d3g l[k]=false from hb];simp),List.filter_nil,List.append_nil]
 ·have e1:decide ((k:Int)<(l.length:Int))=false:=by simpa using hlt
  rw[e1,cond_false,List.take_of_length_le (by omega)]
theorem d3h (s:ByteArray):(a3Z s spB).length<=s.size+1:=by
 have h1:=Lib.splitB_all spB (by decide) 0 _ s rfl
 unfold a3Z
 rw[h1]
 have:=Lib.countB_le spB (by decide) s.size s (Nat.le_refl _)
 omega
theorem c0z (s:ByteArray):F16 (s,())=some (bif decide ((s.size:Int)>600)then([],false,())else bif !c7P s then([],false,())else bif decide (((a1h s).length:Int)>24)then([],false,())else(a1h s,true,())):=by
 unfold F16 r16
 dsimp only
 cases h6:decide (((ByteArray.size s:Nat):Int)>600)with
 |true=>rfl
 | false =>
   have hs:s.size<=600:=by
    have:=of_decide_eq_false h6
    omega
   have hl:=d8g s (by omega)
   have hsl:=d3h s
   have k48:K48 (s,{ data:=#[32] },())=true:=by
    unfold K48
    rw[decide_eq_true (show(s:ByteArray).size<4294967281 by omega),decide_eq_true (show 1<=ByteArray.size { data:=#[32] }by decide)]
    rfl
   have g48:G48 (s,{ data:=#[32] },())=(a3Z s spB,()):=rfl
   have hq:=c7v (a3Z s spB) (by omega)
   simp only[cond_false,b9U,b9V,b9W,b9X,hl,Option.isSome_some,cond_true]
   cases c7P s with
   |false=>rfl
   | true =>
     simp only[cond_true,isR,xOf,cond_false,k48,g48,b1e,b1f,hq,Option.isSome_some,Option.getD_some,Bool.not_true]
     show(bif decide (((List.length (a1h s):Nat):Int)>24)then some ([],false,())else some (a1h s,true,()))=_
     cases decide (((List.length (a1h s):Nat):Int)>24)<;>rfl
def pcs:List UInt8->List (List UInt8)
 |[]=>[[]]
 | b::r=>if b=32 then[]::pcs r else match pcs r with
   |[]=>[[b]]
   |p::ps=>(b::p)::ps
theorem c5u:∀l,pcs l≠[]
 |[]=>by simp[pcs]
 | b::r=>by
   unfold pcs
   split
   ·simp
   ·split<;>simp
theorem b2W (b:UInt8) (l:List UInt8):Lib.index (b::l) [32]=if b=32 then 0 else if Lib.index l [32] == -1 then -1 else Lib.index l [32]+1:=by
 rw[Lib.index]
 by_cases h:b=32
 ·subst h;simp
 ·have:([32]:List UInt8).isPrefixOf (b::l)=false:=by
   simp[List.isPrefixOf]
   exact fun e=>h e.symm
  rw[this,if_neg h]
  simp
theorem c0A:∀l:List UInt8,Lib.splitK [32] 0 (Lib.count l [32]) l=pcs l
 |[]=>rfl
 | b::r=>by
   have ih:=c0A r
   by_cases h:b=32
   ·subst h
    rw[Lib.count_cons_eq,Nat.add_comm]
    unfold Lib.splitK pcs
    rw[b2W,if_pos rfl,if_neg (by decide),if_pos rfl]
    simp[ih]
   ·rw [Lib.count_cons_ne b 32 r h]
    unfold pcs
    rw[if_neg h]
    cases hc:Lib.count r [32]with
    | zero =>
      rw[hc]at ih
      rw[<- ih]
      rfl
    | succ k =>
      rw[hc]at ih
      have hne:¬(Lib.index r [32] == -1)=true:=fun e=>by
       have:=Lib.count_miss (s:=r) (sub:=[32]) (beq_iff_eq.1 e)
       omega
      have hge:=Lib.index_ge r [32]
      have hne':Lib.index r [32] ≠ -1:=fun e=>hne (beq_iff_eq.2 e)
      unfold Lib.splitK at ih ⊢
      rw[if_neg hne]at ih
      rw[b2W,if_neg h,if_neg hne,if_neg (by intro e;have:=beq_iff_eq.1 e;omega),<- ih]
      have e1:(Lib.index r [32]+1).toNat=(Lib.index r [32]).toNat+1:=by omega
      rw[e1]
      simp[Nat.add_assoc]
theorem c7w (s:ByteArray):(a3Z s spB).map (·.data.toList)=pcs s.data.toList:=by
 unfold a3Z
 rw[Lib.splitB_data]
 exact c0A _
theorem c2I:∀(x l:List UInt8),32 ∉ x->pcs (x++l)=(match pcs l with
 |[]=>[x]
 |p::ps=>(x++p)::ps)
 | [],l,_=>by
   have:=c5u l
   cases h:pcs l with
   |nil=>exact absurd h this
   |cons p ps=>simp[h]
 | b::x,l,hx=>by
   have hb:b≠32:=fun e=>hx (by rw[e];exact List.mem_cons_self ..)
   have ih:=c2I x l (fun e=>hx (List.mem_cons_of_mem _ e))
   rw[List.cons_append]
   conv=>lhs;unfold pcs
   rw[if_neg hb,ih]
   cases h:pcs l with
   |nil=>exact absurd h (c5u l)
   |cons p ps=>rfl
def a7O (f:List (List UInt8)):List UInt8:=Lib.join f [32]
theorem a7P (x:List UInt8):a7O [x]=x:=Lib.join_one x [32]
theorem a5R (x y:List UInt8) (r:List (List UInt8)):a7O (x::y::r)=x++32::a7O (y::r):=by
 unfold a7O
 rw[Lib.join_cons,Lib.join_cons]
 simp[Lib.joinTail]
theorem c5v:∀(f:List (List UInt8)),(∀x∈f,32 ∉ x)->f≠[]->pcs (a7O f)=f
 |[],_,h=>absurd rfl h
 | [x],h,_=>by
   rw[a7P]
   have:=c2I x [] (h x (List.mem_cons_self ..))
   rw[List.append_nil]at this
   rw[this]
   simp[pcs]
 | x::y::r,h,_=>by
   rw[a5R,c2I x _ (h x (List.mem_cons_self ..))]
   have ih:=c5v (y::r) (fun z hz=>h z (List.mem_cons_of_mem _ hz)) (by simp)
   have:pcs (32::a7O (y::r))=[]::(y::r):=by
    conv=>lhs;unfold pcs
    rw[if_pos rfl,ih]
   rw[this]
   simp
theorem e0O:∀(l:List UInt8),∀p∈pcs l,32 ∉ p /\ ∀b∈p,b∈l
 | [],p,hp=>by
   have:p=[]:=by simpa[pcs]using hp
   subst this
   exact⟨by simp,fun b hb=>by cases hb⟩
 | b :: r,p,hp=>by
   have ih:=e0O r
   unfold pcs at hp
   split at hp
   ·rcases List.mem_cons.1 hp with h|h
    ·subst h;exact⟨by simp,fun b hb=>by cases hb⟩
    ·exact⟨(ih p h).1,fun c hc=>List.mem_cons_of_mem _ ((ih p h).2 c hc)⟩
   ·rename_i hb
    split at hp
    ·rename_i h0;exact absurd h0 (c5u r)
    ·rename_i q qs hq
     have hq':=ih q (by rw[hq];exact List.mem_cons_self ..)
     rcases List.mem_cons.1 hp with h|h
     ·subst h
      refine⟨fun e=>?_,fun c hc=>?_⟩
      ·rcases List.mem_cons.1 e with e|e
       ·exact hb e.symm
       ·exact hq'.1 e
      ·rcases List.mem_cons.1 hc with e|e
       ·rw[e];exact List.mem_cons_self ..
       ·exact List.mem_cons_of_mem _ (hq'.2 c e)
     ·have:=ih p (by rw[hq];exact List.mem_cons_of_mem _ h)
      exact⟨this.1,fun c hc=>List.mem_cons_of_mem _ (this.2 c hc)⟩
def wt:List (List UInt8)->Nat
 |[]=>0
 |p::ps=>p.length+1+wt ps
theorem e0P:∀l,wt (pcs l)=l.length+1
 |[]=>rfl
 | b :: r=>by
   have ih:=e0P r
   unfold pcs
   split
   ·simp[wt,ih];omega
   ·split
    ·rename_i h0;exact absurd h0 (c5u r)
    ·rename_i q qs hq
     rw[hq]at ih
     simp[wt]at ih ⊢
     omega
theorem c0B (g:List UInt8->Bool):∀l,wt (l.filter g)<=wt l
 |[]=>Nat.le_refl _
 | p::ps=>by
   have:=c0B g ps
   rw[List.filter_cons]
   split<;>simp only[wt]<;>omega
theorem d3i:∀f,(a7O f).length<=wt f /\ (f≠[]->(a7O f).length+1=wt f)
 |[]=>⟨Nat.le_refl _,fun h=>absurd rfl h⟩
 |[x]=>by rw[a7P];simp[wt]
 | x::y::r=>by
   have:=(d3i (y::r)).2 (by simp)
   rw[a5R]
   simp only[List.length_append,List.length_cons,wt]at this ⊢
   exact⟨by omega,fun _=>by omega⟩
def fl (l:List UInt8):List (List UInt8):=(pcs l).filter (·≠[])
theorem e4H (l:List UInt8):∀p∈fl l,p≠[] /\ 32 ∉ p /\ ∀b∈p,b∈l:=fun p hp=>by
 have h:=List.mem_filter.1 hp
 exact⟨by simpa using h.2,e0O l p h.1⟩
theorem e4I (l:List UInt8):fl (a7O (fl l))=fl l:=by
 by_cases h:fl l=[]
 ·rw[h];rfl
 ·show(pcs (a7O (fl l))).filter _=fl l
  rw[c5v (fl l) (fun x hx=>(e4H l x hx).2.1) h]
  exact List.filter_eq_self.2 fun x hx=>by simpa using(e4H l x hx).1
theorem e9R (l:List UInt8):(a7O (fl l)).length<=l.length:=by
 by_cases h:fl l=[]
 ·rw[h];exact Nat.zero_le _
 ·have h1:=(d3i (fl l)).2 h
  have h2:=c0B (fun p=>decide (p≠[])) (pcs l)
  rw[e0P]at h2
  have h3:wt (fl l)<=l.length+1:=h2
  omega
theorem d3j {a b:ByteArray} (h:a.data.toList=b.data.toList):a=b:=by
 apply ByteArray.ext
 exact Array.ext' h
theorem c2J:∀{l m:List ByteArray},l.map (·.data.toList)=m.map (·.data.toList)->l=m
 |[],[],_=>rfl
 | a::l,b::m,h=>by
   simp only[List.map_cons,List.cons.injEq]at h
   rw[d3j h.1,c2J h.2]
 |[],_::_,h=>by simp at h
 |_::_,[],h=>by simp at h
theorem c0C (bs:ByteArray):∀(n i:Nat) (r:List UInt8),bs.size-i<=n->ByteArray.toList.loop bs i r=r.reverse++bs.data.toList.drop i
 | 0,i,r,h=>by
   unfold ByteArray.toList.loop
   rw[if_neg (by omega)]
   have:bs.data.toList.length<=i:=by rw[Array.length_toList];exact Nat.le_of_sub_eq_zero (Nat.le_zero.1 h)
   rw[List.drop_of_length_le this,List.append_nil]
 | n+1,i,r,h=>by
   unfold ByteArray.toList.loop
   by_cases hi:i<bs.size
   ·rw[if_pos hi,c0C bs n (i+1) _ (by omega),List.reverse_cons,List.append_assoc]
    have hl:i<bs.data.toList.length:=by rw[Array.length_toList];exact hi
    rw[List.drop_eq_getElem_cons hl]
    congr 1
    rw[List.singleton_append]
    congr 1
    rw[Array.getElem_toList]
    show bs.get! i=_
    unfold ByteArray.get!
    exact getElem!_pos bs.data i hi
   ·rw[if_neg hi]
    have:bs.data.toList.length<=i:=by rw[Array.length_toList];exact Nat.not_lt.1 hi
    rw[List.drop_of_length_le this,List.append_nil]
theorem a7Q (bs:ByteArray):bs.toList=bs.data.toList:=by
 unfold ByteArray.toList
 rw[c0C bs bs.size 0 [] (by omega)]
 simp
theorem d8h (s:ByteArray):d3g s=decide (s.data.toList≠[]):=by
 unfold d3g a2w
 rw[a7Q,a7Q]
 cases h:s.data.toList with
 |nil=>rfl
 |cons a l=>rfl
theorem a3w (s:ByteArray):(a1h s).map (·.data.toList)=fl s.data.toList:=by
 unfold a1h fl
 rw[<- c7w,List.filter_map]
 congr 1
 apply List.filter_congr
 intro x _
 exact d8h x
theorem a5S (f:List ByteArray):(a5f f).data.toList=a7O (f.map (·.data.toList)):=rfl
theorem c2K (s:ByteArray):a1h (a5f (a1h s))=a1h s:=by
 apply c2J
 rw[a3w,a5S,a3w,e4I]
theorem a8I (s:ByteArray):(a5f (a1h s)).size<=s.size:=by
 have h:=e9R s.data.toList
 rw[<- a3w,<- a5S]at h
 have e:∀b:ByteArray,b.size=b.data.toList.length:=fun b=>by rw[Array.length_toList];rfl
 rw[e,e]
 exact h
theorem b6X (a b:ByteArray):a2w a b=true↔a=b:=by
 unfold a2w
 rw[a7Q,a7Q,beq_iff_eq]
 exact⟨d3j,fun h=>by rw[h]⟩
theorem c0D (s:ByteArray) (i:Nat):d3f s i=true↔32<=(s.data.toList.getD i 0).toNat /\ (s.data.toList.getD i 0).toNat<=126:=by
 unfold d3f a1z
 rw[Int.toNat_natCast]
 generalize (s.data.toList.getD i 0).toNat=n
 simp only[Bool.and_eq_true,Bool.not_eq_true',decide_eq_false_iff_not]
 omega
theorem c5w:∀(n k:Nat) (g:Nat->Bool),a0w g k n=true↔∀i,k<=i->i<k+n->g i=true
 | 0,k,g=>by
   constructor
   ·intro _ i h1 h2;omega
   ·intro _;rfl
 | n+1,k,g=>by
   unfold a0w
   have ih:=c5w n (k+1) g
   constructor
   ·intro h i h1 h2
    cases hg:g k with
    |false=>rw[hg]at h;exact absurd h (by simp)
    | true =>
      rw[hg]at h
      by_cases he:i=k
      ·rw[he];exact hg
      ·exact ih.1 (by simpa using h) i (by omega) (by omega)
   ·intro h
    rw[h k (Nat.le_refl _) (by omega)]
    have:=ih.2 fun i h1 h2=>h i (by omega) (by omega)
    simpa using this
theorem d8i (s:ByteArray):c7P s=true↔∀b∈s.data.toList,32<=b.toNat /\ b.toNat<=126:=by
 unfold c7P
 rw[c5w]
 have hlen:s.size=s.data.toList.length:=by rw[Array.length_toList];rfl
 constructor
 ·intro h b hb
  obtain⟨i,hi,rfl⟩:=List.getElem_of_mem hb
  have:=(c0D s i).1 (h i (Nat.zero_le _) (by omega))
  rw[a5o _ _ _ hi]at this
  exact this
 ·intro h i _ hi
  have hi':i<s.data.toList.length:=by omega
  rw[c0D,a5o _ _ _ hi']
  exact h _ (List.getElem_mem _)
theorem c0E:∀(f:List (List UInt8)) (b:UInt8),b∈a7O f->b=32∨∃p∈f,b∈p
 |[],b,h=>by cases h
 |[x],b,h=>by rw[a7P]at h;exact .inr ⟨x,List.mem_cons_self ..,h⟩
 | x :: y::r,b,h=>by
   rw[a5R]at h
   rcases List.mem_append.1 h with h|h
   ·exact .inr ⟨x,List.mem_cons_self ..,h⟩
   ·rcases List.mem_cons.1 h with h|h
    ·exact .inl h
    ·rcases c0E (y::r) b h with h|⟨p,hp,hb⟩
     ·exact .inl h
     ·exact .inr ⟨p,List.mem_cons_of_mem _ hp,hb⟩
theorem d8j (s:ByteArray) (h:c7P s=true):c7P (a5f (a1h s))=true:=by
 rw[d8i]at h ⊢
 intro b hb
 rw[a5S,a3w]at hb
 rcases c0E _ b hb with rfl|⟨p,hp,hb⟩
 ·decide
 ·exact h b ((e4H _ p hp).2.2 b hb)
theorem c5x {s:ByteArray} {f:List ByteArray} (h:F16 (s,())=some (f,true,())):s.size<=600 /\ c7P s=true /\ f=a1h s /\ f.length<=24:=by
 rw[c0z]at h
 cases h6:decide ((s.size:Int)>600)with
 |true=>rw[h6]at h;simp at h
 | false =>
   rw[h6]at h
   cases hv:c7P s with
   |false=>rw[hv]at h;simp at h
   | true =>
     rw[hv]at h
     cases hl:decide (((a1h s).length:Int)>24)with
     |true=>rw[hl]at h;simp at h
     | false =>
       rw[hl]at h
       simp only[cond_false,Bool.not_true,Option.some.injEq,Prod.mk.injEq,and_true]at h
       have h1:=of_decide_eq_false h6
       have h2:=of_decide_eq_false hl
       exact⟨by omega,rfl,h.symm,by rw[<- h];omega⟩
theorem d8k {s:ByteArray} {f:List ByteArray} (h:F16 (s,())=some (f,true,())):F16 (a5f f,())=some (f,true,()):=by
 obtain⟨h1,h2,rfl,h4⟩:=c5x h
 have h5:=a8I s
 rw[c0z,d8j s h2,c2K,decide_eq_false (by omega),decide_eq_false (by omega)]
 rfl
theorem d3k (n:Int) (h:I64 n):F25 (n,())=some (bOf (Lib.itoa n),()):=by
 have k:K65 (n,())=true:=by
  unfold K65
  unfold I64 at h
  rw[decide_eq_true (show(-9223372036854775808:Int)<=n by omega),decide_eq_true (show n<=(9223372036854775807:Int)by omega)]
  rfl
 unfold F25 r25
 try dsimp only
 rw[k]
 rfl
theorem d3l (s:ByteArray) (hs:s.size<=1000):∃y,d1f ((s,(0:Int),(0:Int),()),())=some y /\ ∀z,y = .inl z->z.1.1=s /\ I64 z.1.2.1:=by
 refine a0W (q:=d6L K25 G25) (fun v=>v.1.1=s /\ I64 v.1.2.1 /\ (0<=(v.1.2.2.1:Int)) /\ (v.1.2.2.1:Int)<=s.size) (fun _ r=>∃y,r=some y /\ ∀z,y = .inl z->z.1.1=s /\ I64 z.1.2.1)
  (fun v=>((s.size:Int)-v.1.2.2.1).toNat) ?_ _ _ ⟨rfl,by show I64 0;unfold I64;omega,by show(0:Int)<=0;omega,by show(0:Int)<=_;omega⟩ (by show((s.size:Int)-0).toNat<d6M _;unfold d6M;dsimp only;omega)
 rintro⟨⟨t,n,i,_⟩,_⟩ f ⟨h1,h2,h3,h4⟩ ih
 dsimp only at h1 h2 h3 h4 ih
 subst h1
 unfold d6L
 dsimp only
 by_cases hi:i<(t.size:Int)
 ·have e1:decide (i<(t.size:Int))=true:=decide_eq_true hi
  have e2:decide (0<=i)=true:=decide_eq_true h3
  rw[e1,e2]
  simp only[Bool.and_self,cond_true]
  cases decide (a1z t i<48)
  ·cases decide (a1z t i>57)
   ·have e:IntKind.i64.wrap (i+1)=i+1:=w64 (by omega) (by omega)
    simp only[cond_false,e]
    refine ih _ ⟨rfl,d1W _,?_,?_⟩ ?_
    ·show 0<=i+1;omega
    ·show i+1<=t.size;omega
    ·show((t.size:Int)-(i+1)).toNat<((t.size:Int)-i).toNat;omega
   ·exact⟨_,rfl,fun z hz=>by cases hz⟩
  ·exact⟨_,rfl,fun z hz=>by cases hz⟩
 ·have e1:decide (i<(t.size:Int))=false:=decide_eq_false hi
  rw[e1]
  exact⟨_,rfl,fun z hz=>by cases hz;exact⟨rfl,h2⟩⟩
theorem e9S (s:ByteArray):∃n b,F17 (s,())=some (n,b,()):=by
 unfold F17 r17
 dsimp only
 cases ((s.size:Int)==0)
 ·cases h10:decide ((s.size:Int)>10)
  ·have h:s.size<=10:=by
    have:=of_decide_eq_false h10
    omega
   obtain⟨y,hy,hz⟩:=d3l s (by omega)
   simp only[cond_false,c4w,c4x,c4y,c4z,hy,Option.isSome_some,cond_true]
   cases y with
   |inr y=>exact⟨_,_,rfl⟩
   | inl z =>
     obtain⟨_,hI⟩:=hz z rfl
     obtain⟨⟨t,n,_⟩,_⟩:=z
     simp only[isR,cond_false,xOf]
     have hk:K25 (n,())=true:=by unfold K25;rw[d3k n hI];rfl
     have key:∀c d:Bool,∃(m:Int) (b:Bool),(bif c then some (0,false,())else bif d then some (0,false,())else some (n,true,()):Option (Den R17))=some (m,b,()):=fun c d=>by
      cases c
      ·cases d
       ·exact⟨_,_,rfl⟩
       ·exact⟨_,_,rfl⟩
      ·exact⟨_,_,rfl⟩
     rw[show K25 (n,_)=true from hk]
     exact key _ _
  ·exact⟨_,_,rfl⟩
 ·exact⟨_,_,rfl⟩
def d3m (l:List UInt8):List UInt8:=if l.length<3 then(if l.length<2 then(if l.length<1 then 48::48::48::l else 48::48::l)else 48::l)else l
theorem c5y {u:Nat} (h:u<10):Lib.decDigits u=[dg u]:=by rw[Lib.decDigits,dif_pos h];rfl
theorem b2X {u:Nat} (h:¬u<10):Lib.decDigits u=Lib.decDigits (u/10)++[dg (u%10)]:=by rw[Lib.decDigits,dif_neg h];rfl
theorem d3n (m:Nat) (h:m<1000):d3m (Lib.decDigits m)=(Lib.decDigits (1000+m)).drop 1:=by
 have e0:dg 0=48:=rfl
 have a1:Lib.decDigits (1000+m)=[dg 1,dg (m/100),dg (m/10%10),dg (m%10)]:=by
  rw[b2X (by omega),b2X (by omega),b2X (by omega),c5y (by omega)]
  have x1:(1000+m)/10/10/10=1:=by omega
  have x2:(1000+m)/10/10%10=m/100:=by omega
  have x3:(1000+m)/10%10=m/10%10:=by omega
  have x4:(1000+m)%10=m%10:=by omega
  rw[x1,x2,x3,x4]
  rfl
 rw[a1]
 by_cases h1:m<10
 ·rw[c5y h1]
  have y1:m/100=0:=by omega
  have y2:m/10%10=0:=by omega
  have y3:m%10=m:=by omega
  rw[y1,y2,y3,e0]
  rfl
 ·by_cases h2:m<100
  ·rw[b2X h1,c5y (by omega)]
   have y1:m/100=0:=by omega
   have y2:m/10%10=m/10:=by omega
   rw[y1,y2,e0]
   rfl
  ·rw[b2X h1,b2X (by omega),c5y (by omega)]
   have y1:m/10/10=m/100:=by omega
   rw[y1]
   rfl
theorem d8l (n:Int) (sg l:List UInt8) (hl:1<=l.length) (hl':l.length<=100):d1k ((n,bOf sg,bOf l,()),())=some ((n,bOf sg,bOf (d3m l),()),()):=by
 have e48:({ data:=#[48] }:ByteArray)=bOf [48]:=rfl
 refine a0W (q:=c4B d4l d4m K25 G25) (fun v=>∃l:List UInt8,v=((n,bOf sg,bOf l,()),()) /\ 1<=l.length /\ l.length<=100) (fun v r=>∀l:List UInt8,v=((n,bOf sg,bOf l,()),())->1<=l.length->r=some ((n,bOf sg,bOf (d3m l),()),()))
  (fun v=>3-v.1.2.2.1.size) ?_ _ _ ⟨l,rfl,hl,hl'⟩ (by unfold d1j;dsimp only;omega) l rfl hl
 rintro v f ⟨l,rfl,h1,h1'⟩ ih l' he _
 have he2:bOf l=bOf l':=congrArg (fun v=>v.1.2.2.1) he
 have he3:l=l':=by
  have:=congrArg (fun b=>b.data.toList) he2
  simpa[bOf]using this
 subst he3
 unfold c4B
 dsimp only
 rw[a2G]
 by_cases h3:l.length<3
 ·have e1:decide (((l.length:Nat):Int)<3)=true:=decide_eq_true (by omega)
  have e2:decide (ByteArray.size { data:=#[48] }+l.length<=9223372036854775807)=true:=decide_eq_true (by show 1+_<=_;omega)
  rw[e1,e2,cond_true,cond_true,e48,a8G]
  refine(ih _ ⟨[48]++l,rfl,by simp,by simp;omega⟩ ?_ ([48]++l) rfl (by simp)).trans ?_
  ·show 3-(bOf ([48]++l)).size<3-(bOf l).size
   rw[a2G,a2G];simp;omega
  ·have:d3m ([48]++l)=d3m l:=by
    match l,h1,h3 with
    |[a],_,_=>rfl
    |[a,b],_,_=>rfl
    |_::_::_::_,_,h=>simp at h;omega
   rw[this]
 ·have e1:decide (((l.length:Nat):Int)<3)=false:=decide_eq_false (by omega)
  rw[e1,cond_false]
  unfold d3m
  rw[if_neg h3]
theorem d3o (n:Int):f1y (n,())=some (decide ((-1000000000:Int)<=n)&&decide (n<=1000000000),()):=by
 have k:F44 (n,-1000000000,1000000000,())=some (decide ((-1000000000:Int)<=n)&&decide (n<=1000000000),()):=b9Y _
 unfold f1y f6f
 dsimp only
 unfold K44 G44
 rw[k]
 rfl
theorem c0F (m:Nat) (sg:List UInt8) (n:Int) (hm:m<=1000000000) (hs:sg.length<=1) (hn:n=(m:Int)) :
 (bif K25 (((m%1000:Nat):Int),())then
  bif a8u ((n,bOf sg,G25 (((m%1000:Nat):Int),())),())then
   bif K25 (IntKind.wrap IntKind.i64 (Int.tdiv (a1Y ((n,bOf sg,G25 (((m%1000:Nat):Int),())),())).fst.fst 1000),())then
    bif decide (ByteArray.size (a1Y ((n,bOf sg,G25 (((m%1000:Nat):Int),())),())).fst.snd.fst+ByteArray.size (G25 (IntKind.wrap IntKind.i64 (Int.tdiv (a1Y ((n,bOf sg,G25 (((m%1000:Nat):Int),())),())).fst.fst 1000),())).fst<=9223372036854775807)then
     bif decide (ByteArray.size ((a1Y ((n,bOf sg,G25 (((m%1000:Nat):Int),())),())).fst.snd.fst++(G25 (IntKind.wrap IntKind.i64 (Int.tdiv (a1Y ((n,bOf sg,G25 (((m%1000:Nat):Int),())),())).fst.fst 1000),())).fst)+ByteArray.size { data:=#[46] }<=9223372036854775807)then
      bif decide (ByteArray.size ((a1Y ((n,bOf sg,G25 (((m%1000:Nat):Int),())),())).fst.snd.fst++(G25 (IntKind.wrap IntKind.i64 (Int.tdiv (a1Y ((n,bOf sg,G25 (((m%1000:Nat):Int),())),())).fst.fst 1000),())).fst++{ data:=#[46] })+ByteArray.size (a1Y ((n,bOf sg,G25 (((m%1000:Nat):Int),())),())).fst.snd.snd.fst<=9223372036854775807)then
       some ((a1Y ((n,bOf sg,G25 (((m%1000:Nat):Int),())),())).fst.snd.fst++(G25 (IntKind.wrap IntKind.i64 (Int.tdiv (a1Y ((n,bOf sg,G25 (((m%1000:Nat):Int),())),())).fst.fst 1000),())).fst++{ data:=#[46] }++(a1Y ((n,bOf sg,G25 (((m%1000:Nat):Int),())),())).fst.snd.snd.fst,())
      else none
     else none
    else none
   else none
  else none
 else none:Option (Den d4n))=some (bOf (sg++Lib.itoa ((m/1000:Nat):Int)++[46]++(Lib.itoa ((1000+m%1000:Nat):Int)).drop 1),()):=by
 have i1:I64 ((m%1000:Nat):Int):=by unfold I64;omega
 have i2:I64 ((m/1000:Nat):Int):=by unfold I64;omega
 have f1:=d3k _ i1
 have f2:=d3k _ i2
 have k1:K25 (((m%1000:Nat):Int),())=true:=by unfold K25;rw[f1];rfl
 have g1:G25 (((m%1000:Nat):Int),())=(bOf (Lib.itoa ((m%1000:Nat):Int)),()):=by unfold G25;rw[f1];rfl
 have k2:K25 (((m/1000:Nat):Int),())=true:=by unfold K25;rw[f2];rfl
 have g2:G25 (((m/1000:Nat):Int),())=(bOf (Lib.itoa ((m/1000:Nat):Int)),()):=by unfold G25;rw[f2];rfl
 obtain⟨l1,u1⟩:=a4E ((m%1000:Nat):Int) (by omega)
 obtain⟨l2,u2⟩:=a4E ((m/1000:Nat):Int) (by omega)
 have hl:=d8l n sg (Lib.itoa ((m%1000:Nat):Int)) l1 (by omega)
 have ew:IntKind.i64.wrap (Int.tdiv n 1000)=((m/1000:Nat):Int):=by
  rw[hn,Int.tdiv_eq_ediv_of_nonneg (by omega),w64 (by omega) (by omega)];omega
 have dot:({ data:=#[46] }:ByteArray)=bOf [46]:=rfl
 have et:(Lib.itoa ((1000+m%1000:Nat):Int)).drop 1=d3m (Lib.itoa ((m%1000:Nat):Int)):=by
  have e1:Lib.itoa ((1000+m%1000:Nat):Int)=Lib.decDigits (1000+m%1000):=by unfold Lib.itoa;rw[if_neg (by omega),Int.toNat_natCast]
  have e2:Lib.itoa ((m%1000:Nat):Int)=Lib.decDigits (m%1000):=by unfold Lib.itoa;rw[if_neg (by omega),Int.toNat_natCast]
  rw[e1,e2,d3n _ (by omega)]
 rw[k1,g1,cond_true,et]
 generalize Lib.itoa ((m%1000:Nat):Int)=A at *
 have hp:(d3m A).length<=30:=by
  unfold d3m
  split
  ·split
   ·split<;>simp<;>omega
   ·simp;omega
  ·omega
 have hk:a8u ((n,bOf sg,bOf A,()),())=true:=by unfold a8u;rw[hl];rfl
 have hx:a1Y ((n,bOf sg,bOf A,()),())=((n,bOf sg,bOf (d3m A),()),()):=by unfold a1Y;rw[hl];rfl
 rw[hk,hx]
 dsimp only
 rw[ew,k2,g2]
 generalize Lib.itoa ((m/1000:Nat):Int)=B at *
 dsimp only
 simp only[cond_true,dot,a8G,a2G,List.length_append,List.length_singleton]
 rw[decide_eq_true (show sg.length+B.length<=9223372036854775807 by omega),decide_eq_true (show sg.length+B.length+1<=9223372036854775807 by omega),decide_eq_true (show sg.length+B.length+1+(d3m A).length<=9223372036854775807 by omega)]
 rfl
theorem e4J (n:Int):f1z (n,())=some (bOf (e5y n),()):=by
 unfold f1z f6h e5y
 dsimp only
 unfold d4l d4m
 rw[d3o]
 simp only[Option.isSome_some,Option.getD_some,cond_true]
 by_cases hin:(-1000000000:Int)<=n /\ n<=1000000000
 ·have e0:(decide ((-1000000000:Int)<=n)&&decide (n<=1000000000))=true:=by rw[decide_eq_true hin.1,decide_eq_true hin.2];rfl
  rw[e0,Bool.not_true,cond_false,if_pos hin]
  by_cases hneg:n<0
  ·have e1:decide (n<0)=true:=decide_eq_true hneg
   have e2:IntKind.i64.wrap (0-n)=((n.natAbs:Nat):Int):=by rw[w64 (by omega) (by omega)];omega
   have e3:Int.tmod ((n.natAbs:Nat):Int) 1000=((n.natAbs%1000:Nat):Int):=by rw[Int.tmod_eq_emod_of_nonneg (by omega)];omega
   rw[e1,cond_true,e2,e3,if_pos hneg]
   exact c0F n.natAbs [45] _ (by omega) (by simp) rfl
  ·have e1:decide (n<0)=false:=decide_eq_false hneg
   have e3:Int.tmod n 1000=((n.natAbs%1000:Nat):Int):=by rw[Int.tmod_eq_emod_of_nonneg (by omega)];omega
   rw[e1,cond_false,e3,if_neg hneg]
   exact c0F n.natAbs [] n (by omega) (by simp) (by omega)
 ·have e0:(decide ((-1000000000:Int)<=n)&&decide (n<=1000000000))=false:=by
   rw[Bool.and_eq_false_iff,decide_eq_false_iff_not,decide_eq_false_iff_not]
   omega
  rw[e0,Bool.not_false,cond_true,if_neg hin]
  rfl
theorem c7x (s t:ByteArray) (sg d:Int) (hs:t.size<=1000):∃y,b0Z ((s,t,sg,d,(0:Int),(0:Int),()),())=some y:=by
 refine a0W (q:=b5W e1J b2j d6O e2P) (fun v=>v.1.2.1=t /\ (0<=(v.1.2.2.2.2.2.1:Int)) /\ (v.1.2.2.2.2.2.1:Int)<=t.size) (fun _ r=>∃y,r=some y)
  (fun v=>((t.size:Int)-v.1.2.2.2.2.2.1).toNat) ?_ _ _ ⟨rfl,by show(0:Int)<=0;omega,by show(0:Int)<=_;omega⟩ (by show((t.size:Int)-0).toNat<b5X _;unfold b5X;dsimp only;omega)
 rintro⟨⟨s,u,sg,d,n,i,_⟩,_⟩ f ⟨h1,h3,h4⟩ ih
 dsimp only at h1 h3 h4 ih
 subst h1
 unfold b5W
 dsimp only
 by_cases hi:i<(u.size:Int)
 ·have e1:decide (i<(u.size:Int))=true:=decide_eq_true hi
  have e2:decide (0<=i)=true:=decide_eq_true h3
  have e:IntKind.i64.wrap (i+1)=i+1:=w64 (by omega) (by omega)
  have go:∀m:Int,∃y,f ((s,u,sg,d,m,i+1,()),())=some y:=fun m=>by
   refine ih _ ⟨rfl,?_,?_⟩ ?_
   ·show 0<=i+1;omega
   ·show i+1<=u.size;omega
   ·show((u.size:Int)-(i+1)).toNat<((u.size:Int)-i).toNat;omega
  rw[e1,e2,e]
  simp only[Bool.and_self,cond_true]
  cases (i==d)
  ·simp only[cond_false]
   cases decide (a1z u i<48)
   ·cases decide (a1z u i>57)
    ·exact go _
    ·exact⟨_,rfl⟩
   ·exact⟨_,rfl⟩
  ·exact go _
 ·have e1:decide (i<(u.size:Int))=false:=decide_eq_false hi
  rw[e1]
  exact⟨_,rfl⟩
theorem e9T (n:Int):d6O (n,())=true:=by unfold d6O;rw[e4J];rfl
theorem d3p (s t:ByteArray) (sg:Int) (ht:t.size<=1000):∃n b,(bif decide ((b2j (t,46,())).fst<1)then some (0,false,())
 else bif (((t.size:Nat):Int) != IntKind.wrap IntKind.i64 ((b2j (t,46,())).fst+4))then some (0,false,())
 else bif decide ((b2j (t,46,())).fst>7)then some (0,false,())
 else bif a5M ((s,t,sg,(b2j (t,46,())).fst,0,0,()),())then
  bif a7x ((s,t,sg,(b2j (t,46,())).fst,0,0,()),())then some (a9G ((s,t,sg,(b2j (t,46,())).fst,0,0,()),())).fst
  else bif d6O (IntKind.wrap IntKind.i64 ((a2E ((s,t,sg,(b2j (t,46,())).fst,0,0,()),())).fst.snd.snd.fst*(a2E ((s,t,sg,(b2j (t,46,())).fst,0,0,()),())).fst.snd.fst),())then
   bif !a2w (e2P (IntKind.wrap IntKind.i64 ((a2E ((s,t,sg,(b2j (t,46,())).fst,0,0,()),())).fst.snd.snd.fst*(a2E ((s,t,sg,(b2j (t,46,())).fst,0,0,()),())).fst.snd.fst),())).fst (a2E ((s,t,sg,(b2j (t,46,())).fst,0,0,()),())).fst.fst then some (0,false,())
   else some (IntKind.wrap IntKind.i64 ((a2E ((s,t,sg,(b2j (t,46,())).fst,0,0,()),())).fst.snd.snd.fst*(a2E ((s,t,sg,(b2j (t,46,())).fst,0,0,()),())).fst.snd.fst),true,())
  else none
 else none:Option (Den d4o))=some (n,b,()):=by
 have two:∀(c:Bool) (n:Int) (b:Bool) (m:Int),∃(n':Int) (b':Bool),(bif c then some (n,b,())else some (m,true,()):Option (Den d4o))=some (n',b',()):=fun c n b m=>by cases c<;>exact⟨_,_,rfl⟩
 generalize (b2j (t,46,())).fst=d
 obtain⟨y,hy⟩:=c7x s t sg d ht
 have hk:a5M ((s,t,sg,d,0,0,()),())=true:=by unfold a5M;rw[hy];rfl
 rw[hk,e9T]
 simp only[cond_true]
 cases decide (d<1)
 ·cases (((t.size:Nat):Int) != IntKind.wrap IntKind.i64 (d+4))
  ·cases decide (d>7)
   ·cases a7x ((s,t,sg,d,0,0,()),())
    ·exact two _ _ _ _
    ·exact⟨_,_,rfl⟩
   ·exact⟨_,_,rfl⟩
  ·exact⟨_,_,rfl⟩
 ·exact⟨_,_,rfl⟩
theorem e4K (s:ByteArray) (hs:s.size<=1000):∃n b,e8j (s,())=some (n,b,()):=by
 unfold e8j f6j
 dsimp only
 have k235:∀t:ByteArray,e1J (t,46,())=true:=fun _=>rfl
 have plain:=d3p s s 1 hs
 cases hb:a2w s { data:=#[] }with
 | true =>
   simp only[Bool.not_true,cond_false,k235,cond_true]
   exact plain
 | false =>
   have hpos:0<s.size:=by
    apply Nat.pos_of_ne_zero
    intro h0
    have:s={ data:=#[] }:=d3j (by
     have:s.data.toList.length=0:=by rw[Array.length_toList];exact h0
     rw[List.length_eq_zero_iff.1 this])
    rw[(b6X _ _).2 this]at hb
    cases hb
   have e1:(decide (0<=0)&&decide (0<((ByteArray.size s:Nat):Int)))=true:=by simp;omega
   have e2:(decide (0<=1)&&decide (1<=((ByteArray.size s:Nat):Int))&&decide (((ByteArray.size s:Nat):Int)<=((ByteArray.size s:Nat):Int)))=true:=by simp;omega
   rw[e1,e2]
   simp only[Bool.not_false,cond_true]
   cases (a1z s 0==45)
   ·simp only[cond_false,k235,cond_true]
    exact plain
   ·simp only[cond_true,k235]
    refine d3p s _ (-1) ?_
    rw[ByteArray.size_extract]
    omega
def d8m (l:List (Den S68)) (m:Den S63):Int:=bif a4Z l then(match a0M (fun i=>b1g (at' l i) m) 0 l.length with|some j=>(j:Int)|none=>-1)else -1
theorem e4L (l:List (Den S68)) (m:Den S63) (h:d1P l):f2c (l,m,())=some (d8m l m,()):=by
 have hlen:=h.len
 have hl:b9R (((),l,(l.length:Int),(0:Int),()),(m.1,m.2.1,()),())=some (match a0M (fun i=>b1g (at' l i) m) 0 l.length with|some j => .inr (((j:Int),()),())|none => .inl ((),())):=by
  refine(a7o (q:=b9Q K92 G92 c6N c6O) (fun k=>(((),l,(l.length:Int),(k:Int),()),(m.1,m.2.1,()),())) l.length (fun i=>b1g (at' l i) m) _ (fun j => .inr (((j:Int),()),())) ?_ ?_ _ ?_:_)
  ·intro k f hk
   unfold b9Q
   have e1:decide ((k:Int)<(l.length:Int))=true:=by simpa using hk
   have e2:decide (0<=(k:Int))=true:=by simp
   have ha:List.getD l k (zero S68)=at' l k:=rfl
   simp only[a4y k (by omega),e1,e2,Bool.and_self,cond_true,Int.toNat_natCast,ha,c6N,c6O,c2h,Option.isSome_some,Option.getD_some]
  ·intro f
   simp[b9Q]
  ·simp only[d1D];omega
 unfold f2c f7p d8m
 simp only[K92,G92,d1Q l h,Option.isSome_some,Option.getD_some,cond_true,b6t,b6u,b6v,hl]
 cases a4Z l
 ·rfl
 ·cases a0M (fun i=>b1g (at' l i) m) 0 l.length<;>rfl
def d8n (l:List (Den S68)) (k:Int) (m:Den S63):Int:=
 bif !a4Z l then -1 else bif inB k 0 ((l.length:Int)-1)&&a3r (at' l k.toNat) m then k else d8m l m
theorem e4M (l:List (Den S68)) (k:Int) (m:Den S63) (h:d1P l) (hl:l.length<=13) (hm:I64 m.2.1):f2d (l,k,m,())=some (d8n l k m,()):=by
 have e1:=d1Q l h
 have k1:K92 (l,())=true:=by unfold K92;rw[e1];rfl
 have g1:G92 (l,())=(a4Z l,()):=by unfold G92;rw[e1];rfl
 have w1:IntKind.i64.wrap ((l.length:Int)-1)=(l.length:Int)-1:=w64 (by omega) (by omega)
 have e2:F44 (k,0,(l.length:Int)-1,())=some (inB k 0 ((l.length:Int)-1),()):=a3s _
 have k2:K44 (k,0,(l.length:Int)-1,())=true:=by unfold K44;rw[e2];rfl
 have g2:G44 (k,0,(l.length:Int)-1,())=(inB k 0 ((l.length:Int)-1),()):=by unfold G44;rw[e2];rfl
 have hg:=h.rng k.toNat
 have e3:=e0o (at' l k.toNat,m,()) hg.1 hg.2 hm
 have k3:K20 (at' l k.toNat,m,())=true:=by unfold K20;rw[e3];rfl
 have g3:G20 (at' l k.toNat,m,())=(a3r (at' l k.toNat) m,()):=by unfold G20;rw[e3];rfl
 have e4:=e4L l m h
 have k4:e3c (l,m,())=true:=by unfold e3c;rw[e4];rfl
 have g4:e3d (l,m,())=(d8m l m,()):=by unfold e3d;rw[e4];rfl
 unfold f2d f7s d8n
 show(bif K92 (l,())then bif !(G92 (l,())).1 then some (-1,())else bif K44 (k,0,IntKind.i64.wrap ((l.length:Int)-1),())then bif (G44 (k,0,IntKind.i64.wrap ((l.length:Int)-1),())).1 then
  bif (decide (0<=k)&&decide (k<(l.length:Int)))then bif K20 (at' l k.toNat,m,())then bif (G20 (at' l k.toNat,m,())).1 then some (k,())else bif e3c (l,m,())then some (e3d (l,m,()))else none else none else none
  else bif e3c (l,m,())then some (e3d (l,m,()))else none else none else none:Option (Den d1E))=_
 rw[w1,k1,g1,k2,g2,k3,g3,k4,g4]
 cases a4Z l
 ·rfl
 ·cases hin:inB k 0 ((l.length:Int)-1)with
  |false=>rfl
  | true =>
    have d2:(decide (0<=k)&&decide (k<(l.length:Int)))=true:=by
     unfold inB at hin
     simp only[Bool.and_eq_true,decide_eq_true_eq]at hin ⊢
     omega
    rw[d2]
    cases a3r (at' l k.toNat) m<;>rfl
def a2y (l:List (Den S68)) (s:ByteArray):Int:=match a0M (fun i=>a2w (at' l i).1 s) 0 l.length with|some j=>(j:Int)|none=>-1
def daV (a b:Nat):Nat:=a0i .add .f32 a (a0i .mul .f32 (a0i .sub .f32 b a) 1056964608)
def a5y (w x:Nat×Nat):(Nat×Nat)×Bool×Unit:=bif !a3M w then((0,0),false,())else bif !a3M x then((0,0),false,())else((daV w.1 x.1,daV w.2 x.2),true,())
theorem e4N (w x:Nat×Nat):f1F (w,x,1056964608,())=some (a5y w x):=by
 have e1:=a5a w
 have e2:=a5a x
 have e3:f6t (1056964608,())=some (true,()):=by decide +kernel
 have e4:∀a b:Nat,f6w (a,b,1056964608,())=some (daV a b,()):=fun _ _=>rfl
 unfold f1F f6y a5y
 dsimp only
 simp only[K45,G45,e1,e2,f1B,f1C,e3,f1D,f1E,e4,Option.isSome_some,Option.getD_some,cond_true]
 cases a3M w
 ·rfl
 ·cases a3M x<;>rfl
def uI (s:ByteArray):Int:=(G17 (s,())).1
def uB (s:ByteArray):Bool:=(G17 (s,())).2.1
theorem e0Q (s:ByteArray):F17 (s,())=some (uI s,uB s,()):=by
 obtain⟨n,b,h⟩:=e9S s
 unfold uI uB G17
 rw[h]
 rfl
def xI (s:ByteArray):Int:=(b7d (s,())).1
def xB (s:ByteArray):Bool:=(b7d (s,())).2.1
theorem d3q (s:ByteArray) (hs:s.size<=1000):e8j (s,())=some (xI s,xB s,()):=by
 obtain⟨n,b,h⟩:=e4K s hs
 unfold xI xB b7d
 rw[h]
 rfl
def b6Y (n:Int):Nat:=bif decide ((-1000000000:Int)<=n)&&decide (n<=1000000000)then a0i .quo .f64 (FloatKind.nearest .f64 n) 4652007308841189376 else 0
theorem d3r (n:Int):f1A (n,())=some (b6Y n,()):=by
 unfold f1A f6m b6Y
 dsimp only
 unfold d4l d4m
 rw[d3o]
 simp only[Option.isSome_some,Option.getD_some,cond_true]
 cases (decide ((-1000000000:Int)<=n)&&decide (n<=1000000000))<;>rfl
def b6Z (a b:ByteArray):Nat×Nat×Bool×Unit:=(b6Y (xI a),b6Y (xI b),xB a&&xB b,())
theorem e4O (a b:ByteArray) (ha:a.size<=1000) (hb:b.size<=1000):e5q ([a,b],())=some (b6Z a b):=by
 have e1:=d3q a ha
 have e2:=d3q b hb
 have e3:=d3r (xI a)
 have e4:=d3r (xI b)
 have k1:d6Q (a,())=true:=by unfold d6Q;rw[e1];rfl
 have g1:b7d (a,())=(xI a,xB a,()):=by unfold b7d;rw[e1];rfl
 have k2:d6Q (b,())=true:=by unfold d6Q;rw[e2];rfl
 have g2:b7d (b,())=(xI b,xB b,()):=by unfold b7d;rw[e2];rfl
 have k3:d6S (xI a,())=true:=by unfold d6S;rw[e3];rfl
 have g3:d1m (xI a,())=(b6Y (xI a),()):=by unfold d1m;rw[e3];rfl
 have k4:d6S (xI b,())=true:=by unfold d6S;rw[e4];rfl
 have g4:d1m (xI b,())=(b6Y (xI b),()):=by unfold d1m;rw[e4];rfl
 unfold e5q f6p b6Z
 show(bif d6Q (a,())then bif d6Q (b,())then bif d6S ((b7d (a,())).1,())then bif d6S ((b7d (b,())).1,())then bif (b7d (a,())).2.1 then some ((d1m ((b7d (a,())).1,())).1,(d1m ((b7d (b,())).1,())).1,(b7d (b,())).2)else some ((d1m ((b7d (a,())).1,())).1,(d1m ((b7d (b,())).1,())).1,false,())else none else none else none else none:Option (Den d1n))=_
 rw[k1,g1,k2,g2]
 dsimp only
 rw[k3,g3,k4,g4]
 cases xB a<;>rfl
theorem d3s:IsR 4652007308841189376 1000:=c2s false 8796093022208000 (-43) (by decide +kernel) (by decide) (by decide +kernel)
theorem d3t (n:Int):∃r,IsR (b6Y n) r /\ Abs r 2000000:=by
 unfold b6Y
 by_cases h:(-1000000000:Int)<=n /\ n<=1000000000
 ·rw[decide_eq_true h.1,decide_eq_true h.2]
  have hn:=e9y n (by omega)
  have h1:((-1000000000:Int):Rat)<=((n:Int):Rat):=Rat.intCast_le_intCast.2 h.1
  have h2:((n:Int):Rat)<=((1000000000:Int):Rat):=Rat.intCast_le_intCast.2 h.2
  have e1:((-1000000000:Int):Rat)=-1000000000:=by decide +kernel
  have e2:((1000000000:Int):Rat)=1000000000:=by decide +kernel
  rw[e1]at h1
  rw[e2]at h2
  obtain⟨r,r1,r2,r3⟩:=g1d (q:=((n:Int):Rat)/1000) (A:=1000000) (ε:=1) hn d3s (by decide +kernel) (by rw[Rat.div_def,Rat.mul_assoc,show((1000:Rat)⁻¹*1000)=1 by decide +kernel,Rat.mul_one]) 20 (by
   rw[Rat.div_def]
   have e3:(1000:Rat)⁻¹=1/1000:=by decide +kernel
   rw[e3]
   constructor<;>grind) (by decide +kernel) (by decide +kernel) (by decide) (by decide)
  refine⟨r,r1,?_⟩
  rw[Rat.div_def]at r2 r3
  have e3:(1000:Rat)⁻¹=1/1000:=by decide +kernel
  rw[e3]at r2 r3
  constructor<;>grind
 ·have:(decide ((-1000000000:Int)<=n)&&decide (n<=1000000000))=false:=by
   rw[Bool.and_eq_false_iff,decide_eq_false_iff_not,decide_eq_false_iff_not]
   omega
  rw[this]
  exact⟨0,e3Q,by constructor<;>decide +kernel⟩
theorem a9c (n:Int):(a0Z .f64 .f32 (b6Y n)).1=true:=by
 obtain⟨r,h1,h2⟩:=d3t n
 exact a7L h1 (h2.mono (by decide +kernel))
def kpV (Y:Yv):Yv:=bif decide (Y.sl ≥ 0)then Y.setSl (bif (a2v Y).2.1 then d8n Y.sails Y.sl (a2v Y).1 else -1)else Y
def b1x (f:List ByteArray) (Y:Yv):Bool×Yv:=
 bif uB (fAt f 1)&&!decide (uI (fAt f 1)>359)then(true,kpV (Y.setHd (uI (fAt f 1))))else(false,Y)
def c0G (w:Nat×Nat):Bool:=feq .f32 w.1 0&&feq .f32 w.2 0
def a2u (f:List ByteArray):Nat×Nat:=d4A (b6Z (fAt f 1) (fAt f 2))
def c2L (f:List ByteArray) (Y:Yv):Bool×Yv:=
 bif (b6Z (fAt f 1) (fAt f 2)).2.2.1&&a3M (a2u f)then
  bif c0G Y.wd then(true,kpV (Y.setWd (a2u f)))
  else bif (a5y Y.wd (a2u f)).2.1&&a3M (a5y Y.wd (a2u f)).1 then(true,kpV (Y.setWd (a5y Y.wd (a2u f)).1))else(false,Y)
 else(false,Y)
def c2M (f:List ByteArray) (Y:Yv):Bool×Yv:=
 bif a2w (fAt f 1) d2O then(true,Y.setSl (-1))
 else bif !decide (a2y Y.sails (fAt f 1)<0)&&((a2v Y).2.1&&b1g (at' Y.sails (a2y Y.sails (fAt f 1)).toNat) (a2v Y).1)then(true,Y.setSl (a2y Y.sails (fAt f 1)))else(false,Y)
def d3u (f:List ByteArray):Nat×Nat:=((b6Z (fAt f 1) (fAt f 2)).1,(b6Z (fAt f 1) (fAt f 2)).2.1)
def e4P (f:List ByteArray) (Y:Yv):Bool×Yv:=
 bif (b6Z (fAt f 1) (fAt f 2)).2.2.1&&(a1J (d3u f)).2.1 then(true,Y.setPs (d3u f))else(false,Y)
def goS (Y:Yv):Nat:=bif decide (Y.sl ≥ 0)then a5e Y else 0
def goR (n:Int) (Y:Yv):(Nat×Nat)×Bool×Unit:=f8m Y.ps Y.tm (Y.hd,goS Y,n,()) Y.1.2.1
def goV (n:Int) (Y:Yv):Bool×Yv:=
 bif inB n 1 3600&&(!decide (Y.tm+n>10000000)&&!decide ((Y.tk.length:Int) ≥ 200))then
  bif (goR n Y).2.1&&(a1J (goR n Y).1).2.1 then(true,Y.setGo (Y.tm+n) (goR n Y).1 (Y.tk++[((a1J (goR n Y).1).1,Y.tm+n,())]))else(false,Y)
 else(false,Y)
def goW (f:List ByteArray) (Y:Yv):Bool×Yv:=bif uB (fAt f 1)then goV (uI (fAt f 1)) Y else(false,Y)
def isC (f:List ByteArray) (n:Nat) (s:ByteArray):Bool:=decide (f.length=n)&&a2w (fAt f 0) s
def a4i (f:List ByteArray) (Y:Yv):Bool×Yv:=
 bif isC f 2 a6n then b1x f Y else bif isC f 3 b6R then c2L f Y else bif isC f 2 c2v then c2M f Y else bif isC f 3 e3Y then e4P f Y else bif isC f 2 sGo then goW f Y else(false,Y)
theorem f8n (Y:Yv) (h:YM Y):kpK K19 G19 c2d c2e Y prY=some (true,kpV Y):=by
 have e8:=d2P Y
 have k8:K19 (Y,())=true:=by unfold K19;rw[e8];rfl
 have g8:G19 (Y,())=a2v Y:=by unfold G19;rw[e8];rfl
 have hl:=b1v h
 have e1:=e4M Y.sails Y.sl (a2v Y).1 (h.boat.2.2.1.1.good hl) hl (c0s Y)
 have k1:c2d (Y.sails,Y.sl,(a2v Y).1,())=true:=by unfold c2d;rw[e1];rfl
 have g1:c2e (Y.sails,Y.sl,(a2v Y).1,())=(d8n Y.sails Y.sl (a2v Y).1,()):=by unfold c2e;rw[e1];rfl
 unfold kpK kpV
 rw[k8,g8,k1,g1]
 cases decide (Y.sl ≥ 0)
 ·rfl
 ·cases (a2v Y).2.1<;>rfl
theorem d3v (f:List ByteArray) (Y:Yv) (h:YM Y) (hf:0<f.length) (hs:a2w (fAt f 0) a6n=true∨a2w (fAt f 0) b6R=true):a8D K19 G19 c2d c2e f Y prY=some (true,kpV Y):=by
 have d:ixB f 0=true:=decide_eq_true (by omega)
 unfold a8D
 rw[d,f8n Y h]
 rcases hs with hs|hs
 ·rw[hs];rfl
 ·rw[hs];cases a2w (fAt f 0) a6n<;>rfl
theorem d3w (f:List ByteArray) (Y:Yv) (hf:0<f.length) (s:ByteArray) (hs:a2w (fAt f 0) s=true) (h1:a2w s a6n=false) (h2:a2w s b6R=false):a8D K19 G19 c2d c2e f Y prY=some (true,Y):=by
 have d:ixB f 0=true:=decide_eq_true (by omega)
 have e:=(b6X _ _).1 hs
 unfold a8D
 rw[d,e,h1,h2]
 rfl
theorem d3x (f:List ByteArray) (n:Nat) (hn:0<n) (s:ByteArray) (a b:Option (Bool×Yv)):b1R f (n:Int) s a b=bif isC f n s then a else b:=by
 unfold b1R isC
 by_cases h:f.length=n
 ·have e1:((f.length:Int)==(n:Int))=true:=by rw[beq_iff_eq];omega
  have d:ixB f 0=true:=decide_eq_true (by omega)
  rw[e1,d,decide_eq_true h]
  rfl
 ·have e1:((f.length:Int)==(n:Int))=false:=by rw[beq_eq_false_iff_ne];omega
  rw[e1,decide_eq_false h]
  rfl
theorem c7y {f:List ByteArray} {n:Nat} {s:ByteArray} (h:isC f n s=true):f.length=n /\ a2w (fAt f 0) s=true:=by
 unfold isC at h
 simpa using h
theorem YM.hd' {Y:Yv} (h:YM Y) (k:Int):YM (Y.setHd k):=⟨h.boat,h.tk,h.lg⟩
theorem YM.wd' {Y:Yv} (h:YM Y) (w:Nat×Nat):YM (Y.setWd w):=⟨h.boat,h.tk,h.lg⟩
theorem ix1 {f:List ByteArray} (h:2<=f.length):ixB f 1=true:=decide_eq_true (by omega)
theorem uK (s:ByteArray):K17 (s,())=true:=by unfold K17;rw[e0Q];rfl
theorem uG (s:ByteArray):G17 (s,())=(uI s,uB s,()):=by unfold G17;rw[e0Q];rfl
theorem d8o (f:List ByteArray) (Y:Yv) (h:YM Y) (hc:isC f 2 a6n=true):b2P K17 G17 K19 G19 c2d c2e f Y prY=some (b1x f Y):=by
 obtain⟨hl,hs⟩:=c7y hc
 have he:=d3v f (Y.setHd (uI (fAt f 1))) (h.hd' _) (by omega) (.inl hs)
 unfold b2P b1x
 rw[ix1 (by omega),uK,uG]
 dsimp only
 rw[he]
 cases uB (fAt f 1)
 ·rfl
 ·cases decide (uI (fAt f 1)>359)<;>rfl
theorem e0R {f:List ByteArray} (hl:f.length=3) (hz:∀k,(fAt f k).size<=1000):slB f=true /\ e2Q (b1D f,())=true /\ e2R (b1D f,())=b6Z (fAt f 1) (fAt f 2):=by
 obtain⟨a,b,c,rfl⟩:∃a b c,f=[a,b,c]:=by
  match f,hl with
  |[a,b,c],_=>exact⟨a,b,c,rfl⟩
 have e:=e4O b c (hz 1) (hz 2)
 refine⟨rfl,?_,?_⟩
 ·show(e5q ([b,c],())).isSome=true
  rw[e];rfl
 ·show(e5q ([b,c],())).getD _=_
  rw[e];rfl
theorem e4Q (f:List ByteArray) (Y:Yv) (h:YM Y) (hc:isC f 3 b6R=true) (hz:∀k,(fAt f k).size<=1000):c7h e2Q e2R K45 G45 e2S e2T K19 G19 c2d c2e f Y prY=some (c2L f Y):=by
 obtain⟨hl,hs⟩:=c7y hc
 obtain⟨t1,t2,t3⟩:=e0R hl hz
 have n1:(a0Z .f64 .f32 (b6Z (fAt f 1) (fAt f 2)).1).1=true:=a9c _
 have n2:(a0Z .f64 .f32 (b6Z (fAt f 1) (fAt f 2)).2.1).1=true:=a9c _
 have e1:=a5a (a2u f)
 have k1:K45 (a2u f,())=true:=by unfold K45;rw[e1];rfl
 have g1:G45 (a2u f,())=(a3M (a2u f),()):=by unfold G45;rw[e1];rfl
 have e2:=e4N Y.wd (a2u f)
 have k2:e2S (Y.wd,a2u f,1056964608,())=true:=by unfold e2S;rw[e2];rfl
 have g2:e2T (Y.wd,a2u f,1056964608,())=a5y Y.wd (a2u f):=by unfold e2T;rw[e2];rfl
 have e3:=a5a (a5y Y.wd (a2u f)).1
 have k3:K45 ((a5y Y.wd (a2u f)).1,())=true:=by unfold K45;rw[e3];rfl
 have g3:G45 ((a5y Y.wd (a2u f)).1,())=(a3M (a5y Y.wd (a2u f)).1,()):=by unfold G45;rw[e3];rfl
 have he1:=d3v f (Y.setWd (a2u f)) (h.wd' _) (by omega) (.inr hs)
 have he2:=d3v f (Y.setWd (a5y Y.wd (a2u f)).1) (h.wd' _) (by omega) (.inr hs)
 unfold c7h c2L
 rw[t1,t2,t3,n1,n2]
 have hx:d4A (b6Z (fAt f 1) (fAt f 2))=a2u f:=rfl
 rw[hx,k1,g1,k2,g2,k3,g3,he1,he2]
 have hcalm:(feq FloatKind.f32 Y.wd.1 0&&feq FloatKind.f32 Y.wd.2 0)=c0G Y.wd:=rfl
 rw[hcalm]
 cases (b6Z (fAt f 1) (fAt f 2)).2.2.1
 ·rfl
 ·cases a3M (a2u f)
  ·rfl
  ·cases c0G Y.wd
   ·cases (a5y Y.wd (a2u f)).2.1
    ·rfl
    ·cases a3M (a5y Y.wd (a2u f)).1<;>rfl
   ·rfl
theorem e4R (f:List ByteArray) (Y:Yv) (h:YM Y) (hc:isC f 2 c2v=true):c7i c6C c6D K19 G19 c6N c6O c2d c2e f Y prY=some (c2M f Y):=by
 obtain⟨hl,hs⟩:=c7y hc
 have hlen:=b1v h
 have e8:=d2P Y
 have k8:K19 (Y,())=true:=by unfold K19;rw[e8];rfl
 have g8:G19 (Y,())=a2v Y:=by unfold G19;rw[e8];rfl
 have e1:e7x (Y.sails,fAt f 1,())=some (a2y Y.sails (fAt f 1),()):=d1O Y.sails (fAt f 1) (by omega)
 have k1:c6C (Y.sails,fAt f 1,())=true:=by unfold c6C;rw[e1];rfl
 have g1:c6D (Y.sails,fAt f 1,())=(a2y Y.sails (fAt f 1),()):=by unfold c6D;rw[e1];rfl
 have k2:c6N (at' Y.sails (a2y Y.sails (fAt f 1)).toNat,(a2v Y).1,())=true:=by unfold c6N;rw[c2h];rfl
 have g2:c6O (at' Y.sails (a2y Y.sails (fAt f 1)).toNat,(a2v Y).1,())=(b1g (at' Y.sails (a2y Y.sails (fAt f 1)).toNat) (a2v Y).1,()):=by unfold c6O;rw[c2h];rfl
 have he:=d3w f (Y.setSl (a2y Y.sails (fAt f 1))) (by omega) c2v hs (by decide +kernel) (by decide +kernel)
 have hlt:a2y Y.sails (fAt f 1)<(Y.sails.length:Int):=by
  unfold a2y
  cases hf:a0M (fun i=>a2w (at' Y.sails i).1 (fAt f 1)) 0 Y.sails.length with
  |none=>show(-1:Int)<_;omega
  |some j=>have:=(a1V hf).2.1;show(j:Int)<_;omega
 have ha:∀k,List.getD Y.sails k (zero S68)=at' Y.sails k:=fun _=>rfl
 unfold c7i c2M
 rw[ix1 (by omega),k1,k8,g1,g8]
 dsimp only
 rw[ha,k2,g2,he]
 cases a2w (fAt f 1) d2O
 ·by_cases h0:a2y Y.sails (fAt f 1)<0
  ·rw[decide_eq_true h0];rfl
  ·have d1:decide (0<=a2y Y.sails (fAt f 1))=true:=decide_eq_true (by omega)
   rw[decide_eq_false h0,d1,decide_eq_true hlt]
   cases (a2v Y).2.1
   ·rfl
   ·cases b1g (at' Y.sails (a2y Y.sails (fAt f 1)).toNat) (a2v Y).1<;>rfl
 ·rfl
theorem e9U (f:List ByteArray) (Y:Yv) (hc:isC f 3 e3Y=true) (hz:∀k,(fAt f k).size<=1000):e5v e2Q e2R K19 G19 K23 G23 c2d c2e f Y prY=some (e4P f Y):=by
 obtain⟨hl,hs⟩:=c7y hc
 obtain⟨t1,t2,t3⟩:=e0R hl hz
 have e1:=d2X (d3u f)
 have k1:K23 (d3u f,())=true:=by unfold K23;rw[e1];rfl
 have g1:G23 (d3u f,())=a1J (d3u f):=by unfold G23;rw[e1];rfl
 have he:=d3w f (Y.setPs (d3u f)) (by omega) e3Y hs (by decide +kernel) (by decide +kernel)
 unfold e5v e4P
 rw[t1,t2,t3]
 have hx:((b6Z (fAt f 1) (fAt f 2)).1,(b6Z (fAt f 1) (fAt f 2)).2.1)=d3u f:=rfl
 rw[hx,k1,g1,he]
 cases (b6Z (fAt f 1) (fAt f 2)).2.2.1
 ·rfl
 ·cases (a1J (d3u f)).2.1<;>rfl
theorem e0S (f:List ByteArray) (Y:Yv) (h:YM Y) (n:Int) (s:Nat) (hn:n<=3600) (ht:0<=Y.tm /\ Y.tm<=10000000) (hl:f.length=2) (hs:a2w (fAt f 0) sGo=true) (hsp:goS Y=s) (t:Int) (het:t=Y.tm+n) :
 c2w K19 G19 K23 G23 e3a e3b c2d c2e f Y n t s prY=some (bif (goR n Y).2.1&&(a1J (goR n Y).1).2.1 then(true,Y.setGo t (goR n Y).1 (Y.tk++[((a1J (goR n Y).1).1,t,())]))else(false,Y)):=by
 have e1:e2Z (Y.ps,Y.tm,[((Y.hd,s,n,()):Den a3L)],Y.1.2.1,())=some (goR n Y):=by
  unfold goR
  rw[hsp]
  exact e4G Y.ps Y.tm (Y.hd,s,n,()) Y.1.2.1 h.boat.2.1 ht.1 (by omega) hn
 have k1:e3a (Y.ps,Y.tm,List.set (List.replicate 1 (zero a3L)) 0 (Y.hd,s,n,()),Y.1.2.1,())=true:=by
  show(e2Z (Y.ps,Y.tm,[((Y.hd,s,n,()):Den a3L)],Y.1.2.1,())).isSome=true
  rw[e1];rfl
 have g1:e3b (Y.ps,Y.tm,List.set (List.replicate 1 (zero a3L)) 0 (Y.hd,s,n,()),Y.1.2.1,())=goR n Y:=by
  show(e2Z (Y.ps,Y.tm,[((Y.hd,s,n,()):Den a3L)],Y.1.2.1,())).getD _=_
  rw[e1];rfl
 have e2:=d2X (goR n Y).1
 have k2:K23 ((goR n Y).1,())=true:=by unfold K23;rw[e2];rfl
 have g2:G23 ((goR n Y).1,())=a1J (goR n Y).1:=by unfold G23;rw[e2];rfl
 have hcap:a0F (List.length Y.tk+1)=true:=a0K (by have:=h.tk;omega)
 have he:=d3w f (Y.setGo t (goR n Y).1 (Y.tk++[((a1J (goR n Y).1).1,t,())])) (by omega) sGo hs (by decide +kernel) (by decide +kernel)
 unfold c2w
 rw[k1,g1,k2,g2,hcap,he]
 cases (goR n Y).2.1
 ·rfl
 ·cases (a1J (goR n Y).1).2.1<;>rfl
theorem f8o (f:List ByteArray) (Y:Yv) (h:YM Y) (hc:isC f 2 sGo=true) (ht:0<=Y.tm /\ Y.tm<=10000000):goK K17 G17 K19 G19 K23 G23 K44 G44 K57 G57 e3a e3b c2d c2e f Y prY=some (goW f Y):=by
 obtain⟨hl,hs⟩:=c7y hc
 unfold goK goW
 rw[ix1 (by omega),uK,uG]
 dsimp only
 generalize uI (fAt f 1)=n
 have e2:F44 (n,1,3600,())=some (inB n 1 3600,()):=a3s _
 have k2:K44 (n,1,3600,())=true:=by unfold K44;rw[e2];rfl
 have g2:G44 (n,1,3600,())=(inB n 1 3600,()):=by unfold G44;rw[e2];rfl
 have e3:=e0F Y
 have k3:K57 (Y,())=true:=by unfold K57;rw[e3];rfl
 have g3:G57 (Y,())=(a5e Y,()):=by unfold G57;rw[e3];rfl
 rw[k2,g2,k3,g3]
 unfold goV
 cases uB (fAt f 1)
 ·rfl
 cases hin:inB n 1 3600 with
 |false=>rfl
 | true =>
   have hin':=hin
   unfold inB at hin'
   simp only[Bool.and_eq_true,decide_eq_true_eq]at hin'
   have w1:IntKind.i64.wrap (Y.tm+n)=Y.tm+n:=w64 (by omega) (by omega)
   rw[w1]
   cases decide (Y.tm+n>10000000)
   ·cases decide ((Y.tk.length:Int) ≥ 200)
    ·cases hsl:decide (Y.sl ≥ 0)with
     |false=>exact e0S f Y h n 0 hin'.2 ht hl hs (by unfold goS;rw[hsl];rfl) _ rfl
     |true=>exact e0S f Y h n (a5e Y) hin'.2 ht hl hs (by unfold goS;rw[hsl];rfl) _ rfl
    ·rfl
   ·rfl
theorem d8p (f:List ByteArray) (Y:Yv) (h:YM Y) (hz:∀k,(fAt f k).size<=1000) (ht:0<=Y.tm /\ Y.tm<=10000000):d8c f Y=some (a4i f Y):=by
 unfold d8c c7j a4i
 have c2:∀(s:ByteArray) (a b:Option (Bool×Yv)),b1R f 2 s a b=bif isC f 2 s then a else b:=fun s a b=>d3x f 2 (by decide) s a b
 have c3:∀(s:ByteArray) (a b:Option (Bool×Yv)),b1R f 3 s a b=bif isC f 3 s then a else b:=fun s a b=>d3x f 3 (by decide) s a b
 rw[c2,c3,c2,c3,c2]
 cases c1:isC f 2 a6n with
 |true=>exact d8o f Y h c1
 |false=>
 cases c1:isC f 3 b6R with
 |true=>exact e4Q f Y h c1 hz
 |false=>
 cases c1:isC f 2 c2v with
 |true=>exact e4R f Y h c1
 |false=>
 cases c1:isC f 3 e3Y with
 |true=>exact e9U f Y c1 hz
 |false=>
 cases c1:isC f 2 sGo with
 |true=>exact f8o f Y h c1 ht
 |false=>rfl
def spF (s:ByteArray):List ByteArray:=(G16 (s,())).1
def spO (s:ByteArray):Bool:=(G16 (s,())).2.1
theorem b2Y (s:ByteArray):F16 (s,())=some (spF s,spO s,()):=by
 unfold spF spO G16
 rw[c0z]
 cases decide ((s.size:Int)>600)
 ·cases c7P s
  ·rfl
  ·cases decide (((a1h s).length:Int)>24)<;>rfl
 ·rfl
theorem d3y {s:ByteArray} (h:spO s=true):s.size<=600 /\ c7P s=true /\ spF s=a1h s /\ (spF s).length<=24:=by
 have e:=b2Y s
 rw[h]at e
 exact c5x e
theorem e4S {s:ByteArray} (h:spO s=true):spF (a5f (spF s))=spF s /\ spO (a5f (spF s))=true:=by
 have e:=b2Y s
 rw[h]at e
 have e2:=d8k e
 rw[b2Y]at e2
 simp only[Option.some.injEq,Prod.mk.injEq,and_true]at e2
 exact e2
theorem c0H:∀(f:List (List UInt8)) (x:List UInt8),x∈f->x.length<=(a7O f).length
 | [y],x,h=>by
   rw[List.mem_singleton.1 h,a7P];exact Nat.le_refl _
 | y::z::r,x,h=>by
   rw[a5R]
   simp only[List.length_append,List.length_cons]
   rcases List.mem_cons.1 h with h|h
   ·rw[h];omega
   ·have:=c0H (z::r) x h
    omega
theorem d3z (b:ByteArray):b.size=b.data.toList.length:=by rw[Array.length_toList];rfl
theorem d8q {s:ByteArray} (h:spO s=true) (k:Int):(fAt (spF s) k).size<=600:=by
 obtain⟨h1,_,h3,_⟩:=d3y h
 have hj:=a8I s
 unfold fAt
 rw[h3,List.getD_eq_getElem?_getD]
 cases hx:(a1h s)[k.toNat]? with
 |none=>exact Nat.zero_le _
 | some x =>
   have hm:x∈a1h s:=List.mem_of_getElem? hx
   have:=c0H ((a1h s).map (·.data.toList)) x.data.toList (List.mem_map.2 ⟨x,hm,rfl⟩)
   rw[<- a5S,<- d3z,<- d3z]at this
   show x.size<=600
   omega
theorem d3A (f:List ByteArray):(c1q f { data:=#[32] }).length=(a5f f).size:=by
 unfold a5f
 show _=Array.size _
 rw[List.size_toArray]
theorem e4T {s:ByteArray} (h:spO s=true):K60 (spF s,{ data:=#[32] },())=true:=by
 obtain⟨h1,_,h3,h4⟩:=d3y h
 have hj:=a8I s
 unfold K60
 show(decide ((spF s).length<=140737488355328)&&decide ((c1q (spF s) { data:=#[32] }).length<=140737488355328))=true
 rw[d3A,h3]
 rw[h3]at h4
 simp only[Bool.and_eq_true,decide_eq_true_eq]
 omega
structure Left (Y Z:Yv):Prop where
 boat:Z.1=Y.1
 lg:Z.lg=Y.lg
 tk:Z.tk=Y.tk∨∃s,Z.tk=Y.tk++[s]
theorem Left.refl (Y:Yv):Left Y Y:=⟨rfl,rfl,.inl rfl⟩
theorem c2N (Y:Yv) (k:Int):Left Y (Y.setSl k):=⟨rfl,rfl,.inl rfl⟩
theorem a4F (Y:Yv):Left Y (kpV Y):=by
 unfold kpV
 cases decide (Y.sl ≥ 0)
 ·exact .refl Y
 ·exact c2N _ _
theorem b1y (f:List ByteArray) (Y:Yv):Left Y (a4i f Y).2:=by
 unfold a4i
 cases isC f 2 a6n
 ·cases isC f 3 b6R
  ·cases isC f 2 c2v
   ·cases isC f 3 e3Y
    ·cases isC f 2 sGo
     ·exact .refl Y
     ·show Left Y (goW f Y).2
      unfold goW goV
      cases uB (fAt f 1)
      ·exact .refl Y
      ·cases (inB (uI (fAt f 1)) 1 3600&&(!decide (Y.tm+uI (fAt f 1)>10000000)&&!decide ((Y.tk.length:Int) ≥ 200)))
       ·exact .refl Y
       ·cases ((goR (uI (fAt f 1)) Y).2.1&&(a1J (goR (uI (fAt f 1)) Y).1).2.1)
        ·exact .refl Y
        ·exact⟨rfl,rfl,.inr ⟨_,rfl⟩⟩
    ·show Left Y (e4P f Y).2
     unfold e4P
     cases ((b6Z (fAt f 1) (fAt f 2)).2.2.1&&(a1J (d3u f)).2.1)
     ·exact .refl Y
     ·exact⟨rfl,rfl,.inl rfl⟩
   ·show Left Y (c2M f Y).2
    unfold c2M
    cases a2w (fAt f 1) d2O
    ·cases (!decide (a2y Y.sails (fAt f 1)<0)&&((a2v Y).2.1&&b1g (at' Y.sails (a2y Y.sails (fAt f 1)).toNat) (a2v Y).1))
     ·exact .refl Y
     ·exact c2N _ _
    ·exact c2N _ _
  ·show Left Y (c2L f Y).2
   unfold c2L
   cases ((b6Z (fAt f 1) (fAt f 2)).2.2.1&&a3M (a2u f))
   ·exact .refl Y
   ·cases c0G Y.wd
    ·cases ((a5y Y.wd (a2u f)).2.1&&a3M (a5y Y.wd (a2u f)).1)
     ·exact .refl Y
     ·exact⟨(a4F (Y.setWd _)).boat,(a4F (Y.setWd _)).lg,(a4F (Y.setWd _)).tk⟩
    ·exact⟨(a4F (Y.setWd _)).boat,(a4F (Y.setWd _)).lg,(a4F (Y.setWd _)).tk⟩
 ·show Left Y (b1x f Y).2
  unfold b1x
  cases (uB (fAt f 1)&&!decide (uI (fAt f 1)>359))
  ·exact .refl Y
  ·exact⟨(a4F (Y.setHd _)).boat,(a4F (Y.setHd _)).lg,(a4F (Y.setHd _)).tk⟩
def doB (Y:Yv) (s:ByteArray):Bool:=okV (a2v Y) Y&&(decide ((Y.lg.length:Int)<300)&&(spO s&&(a4i (spF s) Y).1))
def doZ (Y:Yv) (s:ByteArray):Yv:=(a4i (spF s) Y).2.setLg ((a4i (spF s) Y).2.lg++[a5f (spF s)])
def doV (Y:Yv) (s:ByteArray):Yv×Bool×Unit:=bif doB Y s then(doZ Y s,true,())else(Y,false,())
theorem c0I {m:Den R19} {Y:Yv} (h:okV m Y=true):b1u Y.1=true /\ (0<=Y.tm /\ Y.tm<=10000000) /\ (a1J Y.ps).2.1=true /\ (0<=Y.hd /\ Y.hd<=359) /\ a3M Y.wd=true /\ (-1<=Y.sl /\ Y.sl<=(Y.sails.length:Int)-1) /\ a7B Y.tk=true /\ Y.lg.length<=300 /\ e4x Y=false /\ f2t m Y=true:=by
 unfold okV e4y inB at h
 simp only[Bool.and_eq_true,decide_eq_true_eq,Bool.not_eq_true',decide_eq_false_iff_not]at h
 obtain⟨⟨h1,h2,h3,h4,h5,h6,h7,h8,h9⟩,h10⟩:=h
 exact⟨h1,h2,h3,h4,h5,h6,h7,by omega,h9,h10⟩
theorem d3B {t:List (Den S97)} (h:a7B t=true):t.length<=200:=by
 unfold a7B at h
 simp only[Bool.and_eq_true,decide_eq_true_eq]at h
 omega
theorem e4U (Y:Yv) (s:ByteArray) (h:YM Y):F27 (Y,s,())=some (doV Y s):=by
 have key:=e9P Y s h.boat h.tk h.lg (e9Q Y h) (b2Y s) (d:=(a4i (spF s) Y).1) (Z:=(a4i (spF s) Y).2) (fun ho hl hb=>by
  obtain⟨_,ht,_⟩:=c0I ho
  refine⟨d8p (spF s) Y h (fun k=>Nat.le_trans (d8q hb k) (by decide)) ht,fun hd=>⟨e4T hb,?_⟩⟩
  rw[(b1y (spF s) Y).lg]
  exact h.lg)
 rw[key]
 unfold doV doB doZ
 rfl
theorem YM.doV {Y:Yv} (h:YM Y) (s:ByteArray):YM (doV Y s).1:=by
 unfold AM.doV
 cases hd:doB Y s with
 |false=>exact h
 | true =>
   show YM (doZ Y s)
   unfold doB at hd
   simp only[Bool.and_eq_true,decide_eq_true_eq]at hd
   obtain⟨ho,hl,_,_⟩:=hd
   obtain⟨_,_,_,_,_,_,ht,_,_,_⟩:=c0I ho
   have htl:=d3B ht
   have L:=b1y (spF s) Y
   refine⟨?_,?_,?_⟩
   ·show a6e (a4i (spF s) Y).2.1
    rw[L.boat];exact h.boat
   ·show((a4i (spF s) Y).2.tk).length<=1000
    rcases L.tk with e|⟨x,e⟩
    ·rw[e];exact h.tk
    ·rw[e,List.length_append,List.length_singleton];omega
   ·show((a4i (spF s) Y).2.lg++[a5f (spF s)]).length<=1000
    rw[L.lg,List.length_append,List.length_singleton];omega
def b1T (Y:Yv) (ls:List ByteArray):Nat->Yv×List Bool
 |0=>(Y,[])
 |k+1=>((doV (b1T Y ls k).1 (ls.getD k (zero Ty.str))).1,(b1T Y ls k).2++[(doV (b1T Y ls k).1 (ls.getD k (zero Ty.str))).2.1])
theorem c2O (Y:Yv) (ls:List ByteArray) (h:YM Y):∀k,YM (b1T Y ls k).1
 |0=>h
 |k+1=>(c2O Y ls h k).doV _
theorem c5z (Y:Yv) (ls:List ByteArray):∀k,(b1T Y ls k).2.length=k
 |0=>rfl
 | k+1=>by
   show((b1T Y ls k).2++[_]).length=_
   rw[List.length_append,c5z Y ls k];rfl
abbrev J10:Type:=Unit×Unit×Unit×Unit×Unit×Unit×Int×Int×Int×Int×Unit×Int×Int×Int×Int×Int×(Nat×Nat)×Int×(Nat×Nat)×Int×Unit×Unit×Unit
def jn0:J10:=((),(),(),(),(),(),0,0,0,0,(),0,0,0,0,0,(0,0),0,(0,0),0,(),(),())
abbrev f9n:Type:=(((List (Den (.flt .f32)))×((List (Den (.int .i64)))×((List (Den (.slice (.flt .f32))))×((List (Den (a0S)))×((List (Den (.int .i64)))×((List (Den (S68)))×(Int×(Int×(Int×(Int×((List (Den (a1E)))×(Int×(Int×(Int×(Int×(Int×((Nat×Nat)×(Int×((Nat×Nat)×(Int×((List (Den (S97)))×((List (Den (.str)))×Unit)))))))))))))))))))))))
def flY (Y:Yv):f9n:=(Y.1.1.1,Y.1.1.2.1,Y.1.1.2.2.1,Y.1.2.1.1,Y.1.2.1.2.1,Y.1.2.2.1,Y.1.2.2.2.1.1.1.1,Y.1.2.2.2.1.1.1.2.1,Y.1.2.2.2.1.1.2.1.1,Y.1.2.2.2.1.1.2.1.2.1,Y.1.2.2.2.1.2.1,Y.1.2.2.2.1.2.2.1.1.1,Y.1.2.2.2.1.2.2.1.1.2.1,Y.1.2.2.2.1.2.2.1.2.1.1,Y.1.2.2.2.1.2.2.1.2.1.2.1,Y.2)
theorem e9V (v:b1S):v.1.2.2.2.1.length<d7P v:=by
 unfold d7P
 refine Nat.lt_of_le_of_lt ?_ (Nat.lt_add_of_pos_right (by decide))
 repeat (first|exact Nat.le_refl _|refine Nat.le_trans ?_ (Nat.le_add_right _ _))
theorem e4V (Y:Yv) (ls:List ByteArray) (k:Nat) (hk:k<ls.length) (hl:ls.length<=1000) (bs:List Bool) (hb:bs.length<=1000) (h:YM Y) (f:b1S->Option c2z) :
 c7o K36 G36 K27 G27 f (((),(),(),ls,(ls.length:Int),(k:Int),()),flY Y,jn0,bs,())=f (((),(),(),ls,(ls.length:Int),((k+1:Nat):Int),()),flY (doV Y (ls.getD k (zero Ty.str))).1,jn0,bs++[(doV Y (ls.getD k (zero Ty.str))).2.1],()):=by
 have e1:decide ((k:Int)<(ls.length:Int))=true:=by simpa using hk
 have e2:decide (0<=(k:Int))=true:=by simp
 have e:=e4U Y (ls.getD k (zero Ty.str)) h
 have k1:K27 (Y,ls.getD k (zero Ty.str),())=true:=by unfold K27;rw[e];rfl
 have g1:G27 (Y,ls.getD k (zero Ty.str),())=doV Y (ls.getD k (zero Ty.str)):=by unfold G27;rw[e];rfl
 have hc:a0F (bs.length+1)=true:=a0K (by omega)
 have ew:IntKind.i64.wrap ((k:Int)+1)=((k+1:Nat):Int):=a4y k (by omega)
 unfold c7o
 show(bif decide ((k:Int)<(ls.length:Int))then bif (decide (0<=(k:Int))&&decide ((k:Int)<(ls.length:Int)))then bif K27 (Y,ls.getD k (zero Ty.str),())then bif a0F (bs.length+1)then
  f (((),(),(),ls,(ls.length:Int),IntKind.i64.wrap ((k:Int)+1),()),flY (G27 (Y,ls.getD k (zero Ty.str),())).1,jn0,bs++[(G27 (Y,ls.getD k (zero Ty.str),())).2.1],())else none else none else none else _)=_
 rw[e1,e2,k1,g1,hc,ew]
 rfl
def g1s (v3:c2z):Den R10:=((((v3.snd.fst.1,v3.snd.fst.snd.1,v3.snd.fst.snd.snd.1,()),(v3.snd.fst.snd.snd.snd.1,v3.snd.fst.snd.snd.snd.snd.1,()),v3.snd.fst.snd.snd.snd.snd.snd.1,(((v3.snd.fst.snd.snd.snd.snd.snd.snd.1,v3.snd.fst.snd.snd.snd.snd.snd.snd.snd.1,()),(v3.snd.fst.snd.snd.snd.snd.snd.snd.snd.snd.1,v3.snd.fst.snd.snd.snd.snd.snd.snd.snd.snd.snd.1,()),()),v3.snd.fst.snd.snd.snd.snd.snd.snd.snd.snd.snd.snd.1,((v3.snd.fst.snd.snd.snd.snd.snd.snd.snd.snd.snd.snd.snd.1,v3.snd.fst.snd.snd.snd.snd.snd.snd.snd.snd.snd.snd.snd.snd.1,()),(v3.snd.fst.snd.snd.snd.snd.snd.snd.snd.snd.snd.snd.snd.snd.snd.1,v3.snd.fst.snd.snd.snd.snd.snd.snd.snd.snd.snd.snd.snd.snd.snd.snd.1,()),()),()),()),v3.snd.fst.snd.snd.snd.snd.snd.snd.snd.snd.snd.snd.snd.snd.snd.snd.snd),v3.snd.snd.snd)
theorem e9W (Y:Yv) (ls:List ByteArray) (h:YM Y) (hl:ls.length<=1000):F10 (Y,ls,())=some ((b1T Y ls ls.length).1,(b1T Y ls ls.length).2,()):=by
 have h36:=e0M Y h.boat h.tk h.lg
 have k36:K36 ((Y,()),())=true:=by unfold K36;rw[h36];rfl
 have g36:G36 ((Y,()),())=(((c7g true Y).2.1,()),(Y.tk,Y.lg,())):=by unfold G36;rw[h36];rfl
 have hloop:e4r (((),(),(),ls,(ls.length:Int),(0:Int),()),flY Y,jn0,[],())=some (((),(),(),()),flY (b1T Y ls ls.length).1,jn0,(b1T Y ls ls.length).2,()):=by
  refine a4x (q:=c7o K36 G36 K27 G27) (fun k=>(((),(),(),ls,(ls.length:Int),(k:Int),()),flY (b1T Y ls k).1,jn0,(b1T Y ls k).2,())) ls.length _ ?_ ?_ _ ?_
  ·intro k f hk
   exact e4V (b1T Y ls k).1 ls k hk hl (b1T Y ls k).2 (by rw[c5z];omega) (c2O Y ls h k) f
  ·intro f
   have e1:decide ((ls.length:Int)<(ls.length:Int))=false:=by simp
   unfold c7o
   show(bif decide ((ls.length:Int)<(ls.length:Int))then _ else _)=_
   rw[e1]
   rfl
  ·exact e9V (((),(),(),ls,(ls.length:Int),(0:Int),()),flY Y,jn0,[],())
 have hk:b2T (((),(),(),ls,(ls.length:Int),(0:Int),()),flY Y,jn0,[],())=true:=by unfold b2T;rw[hloop];rfl
 have hx:b2U (((),(),(),ls,(ls.length:Int),(0:Int),()),flY Y,jn0,[],())=(((),(),(),()),flY (b1T Y ls ls.length).1,jn0,(b1T Y ls ls.length).2,()):=by unfold b2U;rw[hloop];rfl
 let fl2 (g:O36.den):f9n:=(g.1.1.1,g.1.1.2.1,g.1.1.2.2.1,g.1.1.2.2.2.1,g.1.1.2.2.2.2.1,g.1.1.2.2.2.2.2.1,g.1.1.2.2.2.2.2.2.1,g.1.1.2.2.2.2.2.2.2.1,g.1.1.2.2.2.2.2.2.2.2.1,g.1.1.2.2.2.2.2.2.2.2.2.1,g.1.1.2.2.2.2.2.2.2.2.2.2.1,g.1.1.2.2.2.2.2.2.2.2.2.2.2.1,g.1.1.2.2.2.2.2.2.2.2.2.2.2.2.1,g.1.1.2.2.2.2.2.2.2.2.2.2.2.2.2.1,g.1.1.2.2.2.2.2.2.2.2.2.2.2.2.2.2.1,g.1.1.2.2.2.2.2.2.2.2.2.2.2.2.2.2.2.1,g.1.1.2.2.2.2.2.2.2.2.2.2.2.2.2.2.2.2.1,g.1.1.2.2.2.2.2.2.2.2.2.2.2.2.2.2.2.2.2.1,g.1.1.2.2.2.2.2.2.2.2.2.2.2.2.2.2.2.2.2.2.1,g.1.1.2.2.2.2.2.2.2.2.2.2.2.2.2.2.2.2.2.2.2.1,g.2)
 have hf:fl2 (G36 ((Y,()),()))=flY Y:=by rw[g36];rfl
 unfold F10 r10
 show(bif K36 ((Y,()),())then bif b2T (((),(),(),ls,(ls.length:Int),(0:Int),()),fl2 (G36 ((Y,()),())),jn0,[],())then some (g1s (b2U (((),(),(),ls,(ls.length:Int),(0:Int),()),fl2 (G36 ((Y,()),())),jn0,[],())))else none else none)=_
 rw[hf,k36,hk,hx]
 rfl
abbrev g1t:Type:=(List (Den (.flt .f32)))×(List (Den (.int .i64)))×(List (Den (.slice (.flt .f32))))×(List (Den (a0S)))×(List (Den (.int .i64)))×(List (Den (S68)))×Int×Int×Int×Int×(List (Den (a1E)))×Int×Int×Int×Int×Unit
abbrev f9o:Type:=Unit×Unit×Unit×Unit×Unit×Unit×Int×Int×Int×Int×Unit×Int×Int×Int×Int×Unit
def flB (b:Den S40):g1t:=(b.1.1,b.1.2.1,b.1.2.2.1,b.2.1.1,b.2.1.2.1,b.2.2.1,b.2.2.2.1.1.1.1,b.2.2.2.1.1.1.2.1,b.2.2.2.1.1.2.1.1,b.2.2.2.1.1.2.1.2.1,b.2.2.2.1.2.1,b.2.2.2.1.2.2.1.1.1,b.2.2.2.1.2.2.1.1.2.1,b.2.2.2.1.2.2.1.2.1)
def jb0:f9o:=((),(),(),(),(),(),0,0,0,0,(),0,0,0,0,())
def jbB (b:Den S40):f9o:=((),(),(),(),(),(),b.2.2.2.1.1.1.1,b.2.2.2.1.1.1.2.1,b.2.2.2.1.1.2.1.1,b.2.2.2.1.1.2.1.2.1,(),b.2.2.2.1.2.2.1.1.1,b.2.2.2.1.2.2.1.1.2.1,b.2.2.2.1.2.2.1.2.1)
theorem e9X (v:b4r):v.2.1.2.2.1.length<d5F v:=by
 unfold d5F
 refine Nat.lt_of_le_of_lt ?_ (Nat.lt_add_of_pos_right (by decide))
 repeat (first|exact Nat.le_add_left _ _|refine Nat.le_trans ?_ (Nat.le_add_right _ _))
theorem e9Y (b:Den S40) (h:b.1.2.2.1.length<=1000) (hr:∀r∈b.1.2.2.1,r.length<=1000) (w:List Nat) (a:List Int) :
 d5G (((),(),(),(0:Int),()),flB b,jb0,jbB b,w,a,[],())=some (((),(),(),()),flB b,jb0,jbB b,w,a,b.1.2.2.1,()):=by
 have key:d5G (((),(),(),(0:Int),()),flB b,jb0,jbB b,w,a,[],())=some (((),(),(),()),flB b,jb0,jbB b,w,a,b.1.2.2.1.take b.1.2.2.1.length,()):=by
  refine a4x (q:=c9w) (fun k=>(((),(),(),(k:Int),()),flB b,jb0,jbB b,w,a,b.1.2.2.1.take k,())) b.1.2.2.1.length _ ?_ ?_ _ (e9X (((),(),(),(0:Int),()),flB b,jb0,jbB b,w,a,[],()))
  ·intro k f hk
   have e1:decide ((k:Int)<(b.1.2.2.1.length:Int))=true:=by simpa using hk
   have e2:decide (0<=(k:Int))=true:=by simp
   have hrow:List.getD b.1.2.2.1 k (zero (Ty.slice (Ty.flt FloatKind.f32)))=b.1.2.2.1[k]:=a5o _ _ _ hk
   have c1:a0F (0+(b.1.2.2.1[k]).length)=true:=a0K (by have:=hr _ (List.getElem_mem hk);omega)
   have c2:a0F ((b.1.2.2.1.take k).length+1)=true:=a0K (by rw[List.length_take];omega)
   have ew:IntKind.i64.wrap ((k:Int)+1)=((k+1:Nat):Int):=a4y k (by omega)
   have htk:List.take (k+1) b.1.2.2.1=List.take k b.1.2.2.1++[b.1.2.2.1[k]]:=List.take_succ_eq_append_getElem hk
   unfold c9w
   show(bif decide ((k:Int)<(b.1.2.2.1.length:Int))then bif (decide (0<=(k:Int))&&decide ((k:Int)<(b.1.2.2.1.length:Int)))then bif a0F (0+(List.getD b.1.2.2.1 k (zero (Ty.slice (Ty.flt FloatKind.f32)))).length)then bif a0F ((b.1.2.2.1.take k).length+1)then
    f (((),(),(),IntKind.i64.wrap ((k:Int)+1),()),flB b,jb0,jbB b,w,a,b.1.2.2.1.take k++[List.getD b.1.2.2.1 k (zero (Ty.slice (Ty.flt FloatKind.f32)))],())else none else none else none else _)=_
   rw[e1,e2,hrow,c1,c2,ew,htk]
   rfl
  ·intro f
   have e1:decide ((b.1.2.2.1.length:Int)<(b.1.2.2.1.length:Int))=false:=by simp
   unfold c9w
   show(bif decide ((b.1.2.2.1.length:Int)<(b.1.2.2.1.length:Int))then _ else _)=_
   rw[e1]
   rfl
 rw[key,List.take_length]
def o80 (b:Den S40):O80.den:=((jbB b,()),b.1.1,b.1.2.1,b.1.2.2.1,b.2.1.1,b.2.1.2.1,b.2.2.1,b.2.2.2.1.2.1,())
theorem e9Z (b:Den S40) (h:a6e b):F80 ((b,()),())=some (o80 b):=by
 obtain⟨⟨hw,ha,hs,hr⟩,⟨ht1,ht2⟩,⟨hS,hl⟩,hC⟩:=h
 have hloop:=e9Y b (by omega) (fun r h=>by have:=hr r h;omega) b.1.1 b.1.2.1
 have hk:b2s (((),(),(),(0:Int),()),flB b,jb0,jbB b,b.1.1,b.1.2.1,[],())=true:=by unfold b2s;rw[hloop];rfl
 have hx:b2t (((),(),(),(0:Int),()),flB b,jb0,jbB b,b.1.1,b.1.2.1,[],())=(((),(),(),()),flB b,jb0,jbB b,b.1.1,b.1.2.1,b.1.2.2.1,()):=by unfold b2t;rw[hloop];rfl
 have cap:∀{α:Type} (l:List α),l.length<=1000->a0F (0+l.length)=true:=fun l hl=>d7Z hl
 unfold F80 r80
 show(bif a0F (0+b.1.1.length)then bif a0F (0+b.1.2.1.length)then bif b2s (((),(),(),(0:Int),()),flB b,jb0,jbB b,b.1.1,b.1.2.1,[],())then
  (fun v3:c6r=>(bif a0F (0+v3.2.1.2.2.2.1.length)then bif a0F (0+v3.2.1.2.2.2.2.1.length)then bif a0F (0+v3.2.1.2.2.2.2.2.1.length)then bif a0F (0+v3.2.1.2.2.2.2.2.2.2.2.2.2.1.length)then
   some ((v3.2.2.2.1,()),v3.2.2.2.2.1,v3.2.2.2.2.2.1,v3.2.2.2.2.2.2.1,v3.2.1.2.2.2.1,v3.2.1.2.2.2.2.1,v3.2.1.2.2.2.2.2.1,v3.2.1.2.2.2.2.2.2.2.2.2.2.1,())else none else none else none else none:Option O80.den)) (b2t (((),(),(),(0:Int),()),flB b,jb0,jbB b,b.1.1,b.1.2.1,[],()))
  else none else none else none)=_
 rw[hk,hx,cap b.1.1 (by omega),cap b.1.2.1 (by omega)]
 show(bif a0F (0+b.2.1.1.length)then bif a0F (0+b.2.1.2.1.length)then bif a0F (0+b.2.2.1.length)then bif a0F (0+b.2.2.2.1.2.1.length)then _ else none else none else none else none)=_
 rw[cap b.2.1.1 (by omega),cap b.2.1.2.1 (by omega),cap b.2.2.1 (by omega),cap b.2.2.2.1.2.1 (by omega)]
 rfl
def yO (v10:O32.den):Yv:=(((v10.snd.1,v10.snd.snd.1,v10.snd.snd.snd.1,()),(v10.snd.snd.snd.snd.1,v10.snd.snd.snd.snd.snd.1,()),v10.snd.snd.snd.snd.snd.snd.1,(((v10.fst.fst.snd.snd.snd.snd.snd.snd.1,v10.fst.fst.snd.snd.snd.snd.snd.snd.snd.1,()),(v10.fst.fst.snd.snd.snd.snd.snd.snd.snd.snd.1,v10.fst.fst.snd.snd.snd.snd.snd.snd.snd.snd.snd.1,()),()),v10.snd.snd.snd.snd.snd.snd.snd.1,((v10.fst.fst.snd.snd.snd.snd.snd.snd.snd.snd.snd.snd.snd.1,v10.fst.fst.snd.snd.snd.snd.snd.snd.snd.snd.snd.snd.snd.snd.1,()),(v10.fst.fst.snd.snd.snd.snd.snd.snd.snd.snd.snd.snd.snd.snd.snd.1,v10.fst.fst.snd.snd.snd.snd.snd.snd.snd.snd.snd.snd.snd.snd.snd.snd.1,()),()),()),()),v10.fst.fst.snd.snd.snd.snd.snd.snd.snd.snd.snd.snd.snd.snd.snd.snd.snd)
def f2u:Yv:=((([],[],[],()),([],[],()),[],(((0,0,()),(0,0,()),()),[],((0,0,()),(0,0,()),()),()),()),0,(0,0),0,(0,0),0,[],[],())
def d8r (b:Den S40) (p:Nat×Nat) (t:Int):Bool:=b1u b&&((a1J p).2.1&&inB t 0 10000000)
def c7Q (b:Den S40) (p:Nat×Nat) (t:Int):Yv:=bif d8r b p t then(b,t,p,0,(0,0),-1,[],[],())else f2u
theorem f0a (b:Den S40) (p:Nat×Nat) (t:Int) (h:a6e b):∃o:O32.den,F32 ((b,p,t,()),())=some o /\ yO o=c7Q b p t /\ o.1.2.1=d8r b p t:=by
 have e1:=e9A p
 have k1:K49 (p,())=true:=by unfold K49;rw[e1];rfl
 have g1:G49 (p,())=a1J p:=by unfold G49;rw[e1];rfl
 have e2:=e9M b h
 have k2:K50 (b,())=true:=by unfold K50;rw[e2];rfl
 have g2:G50 (b,())=(b1u b,()):=by unfold G50;rw[e2];rfl
 have e3:F51 (t,0,10000000,())=some (inB t 0 10000000,()):=a7A _
 have k3:K51 (t,0,10000000,())=true:=by unfold K51;rw[e3];rfl
 have g3:G51 (t,0,10000000,())=(inB t 0 10000000,()):=by unfold G51;rw[e3];rfl
 have e4:=e9Z b h
 have k4:K80 ((b,()),())=true:=by unfold K80;rw[e4];rfl
 have g4:G80 ((b,()),())=o80 b:=by unfold G80;rw[e4];rfl
 unfold F32 r32 c7Q d8r
 dsimp only
 rw[k1,g1,k2,g2,k3,g3,k4,g4]
 cases b1u b
 ·exact⟨_,rfl,rfl,rfl⟩
 ·cases (a1J p).2.1
  ·exact⟨_,rfl,rfl,rfl⟩
  ·cases inB t 0 10000000
   ·exact⟨_,rfl,rfl,rfl⟩
   ·exact⟨_,rfl,rfl,rfl⟩
theorem d3C (b:Den S40) (p:Nat×Nat) (t:Int) (h:a6e b):YM (c7Q b p t):=by
 unfold c7Q
 cases d8r b p t
 ·refine⟨⟨⟨?_,?_,?_,?_⟩,⟨?_,?_⟩,⟨?_,?_⟩,?_⟩,?_,?_⟩<;>first|exact Nat.zero_le _|(intro r hr;cases hr)
 ·exact⟨h,Nat.zero_le _,Nat.zero_le _⟩
def e0T (l:List Int):Bool:=decide (l.length<=1048576)
def f8p (y:Den R9):Prop:=(∃b p t,a6e b /\ y.1=c7Q b p t) /\ a7N y.2.1
def pT9 (x:Den A9):Bool:=e0T x.1
def QT9 (x:Den A9) (y:Den R9):Prop:=f8p y
theorem d8s:a6e f2u.1:=(d3C (zero S40) (0,0) (-1) ⟨⟨Nat.zero_le _,Nat.zero_le _,Nat.zero_le _,fun _ h=>by cases h⟩,⟨Nat.zero_le _,Nat.zero_le _⟩,⟨(fun _ h=>by cases h),Nat.zero_le _⟩,Nat.zero_le _⟩).boat |> fun h=>by
 unfold c7Q at h
 cases hb:d8r (zero S40) (0,0) (-1)with
 | true =>
   unfold d8r at hb
   have:inB (-1) 0 10000000=false:=by decide
   rw[this]at hb
   simp at hb
 |false=>rw[hb]at h;exact h
theorem eT9:Nonempty (ChT A9 R9 pT9 QT9):=⟨⟨fun _=>(c7Q f2u.1 (0,0) 0,[],()),fun _ _=>⟨⟨f2u.1,(0,0),0,d8s,rfl⟩,Nat.zero_le _,fun _ h=>by cases h⟩⟩⟩
theorem g1u:a2M Tryz.prog 9 (c6i A9 R9 pT9 QT9 eT9):=e5X f9l (N:=N9 p31 Q31 e31) (a2N ⟨f8l,trivial⟩) is9 a1w fun x hx k hk=>by
 have hk:∀y:Den R9,f8p y->k y=some ():=hk
 have h:x.1.length<=1048576:=by simpa[pT9,e0T]using hx
 refine Eq.trans (g1q _ _ _ _ _ _ _ _ _ _ _ _ _ _ _ k x) ?_
 unfold rN9
 dsimp only
 have c0:=d0a (x,()) h
 haveI:=e31
 refine a0H (d9v (x,()) h) ?_
 refine a0A fun g=>?_
 have hp:p31 (((),()),(G30 (x,())).snd)=true:=a1s.2 c0
 obtain⟨q1,q2⟩:=g.2 _ hp
 refine a0H hp ?_
 generalize g.val (((),()),(G30 (x,())).snd)=A at *
 refine a0H (e0r _ q1) ?_
 have c1:a0g (G33 (((),60,()),A.snd)).2.1:=a0P _ q1
 generalize G33 (((),60,()),A.snd)=B at *
 refine a0H (a0C _ c1) ?_
 have c2:a0g (G34 (((),3000,()),B.snd)).2.1:=a0c _ c1
 generalize G34 (((),3000,()),B.snd)=C at *
 obtain⟨o,e1,e2,_⟩:=f0a A.fst.fst B.fst.fst C.fst.1 q2
 have k32:K32 ((A.fst.fst,B.fst.fst,C.fst),())=true:=by
  show(F32 ((A.fst.fst,B.fst.fst,C.fst.1,()),())).isSome=true
  rw[e1];rfl
 have g32:G32 ((A.fst.fst,B.fst.fst,C.fst),())=o:=by
  show(F32 ((A.fst.fst,B.fst.fst,C.fst.1,()),())).getD _=o
  rw[e1];rfl
 refine a0H k32 ?_
 have hs:a0T A.fst.fst.2.2.1 /\ A.fst.fst.2.2.1.length<=13:=q2.2.2.1
 refine a0H (e9J (((),A.fst),C.snd) c2 hs.1 hs.2) ?_
 obtain⟨_,q5⟩:=e9K (((),A.fst),C.snd) c2 hs.1 hs.2
 generalize G35 (((),A.fst),C.snd)=D at *
 rw[g32]
 exact hk (yO o,D.snd.snd) ⟨⟨_,_,_,q2,e2⟩,q5⟩
theorem g1v:NOK Tryz.prog (N4 pT9 QT9 eT9):=a2N ⟨g1u,trivial⟩
def d8t (s:ByteArray):Bool:=isC (spF s) 2 sGo
def a7R (s:ByteArray):Int:=bif d8t s then uI (fAt (spF s) 1)else 0
def b1z (s:ByteArray):Nat:=bif d8t s then 1 else 0
def a7V (l:List ByteArray):Nat->Int
 |0=>0
 |k+1=>a7V l k+a7R (l.getD k (zero Ty.str))
def a9O (l:List ByteArray):Nat->Nat
 |0=>0
 |k+1=>a9O l k+b1z (l.getD k (zero Ty.str))
def GL (s:ByteArray):Prop:=d8t s=true->uB (fAt (spF s) 1)=true /\ 1<=uI (fAt (spF s) 1) /\ uI (fAt (spF s) 1)<=3600
theorem f0b:GL (zero Ty.str):=fun h=>by
 exfalso
 unfold d8t isC at h
 have:spF (zero Ty.str)=[]:=by
  have e:=b2Y (zero Ty.str)
  rw[c0z]at e
  have h2:∀a b c:List ByteArray×Bool×Unit,True:=fun _ _ _=>trivial
  unfold spF G16
  rw[c0z]
  have hf:a1h (zero Ty.str)=[]:=by
   apply c2J
   rw[a3w]
   rfl
  rw[hf]
  cases decide (((zero Ty.str:ByteArray).size:Int)>600)
  ·cases c7P (zero Ty.str)<;>rfl
  ·rfl
 rw[this]at h
 simp at h
theorem f0c {l:List ByteArray} (h:∀s∈l,GL s) (k:Nat):GL (l.getD k (zero Ty.str)):=by
 rw[List.getD_eq_getElem?_getD]
 cases hx:l[k]? with
 |none=>exact f0b
 |some x=>exact h x (List.mem_of_getElem? hx)
theorem c5A {s:ByteArray} (h:GL s):0<=a7R s /\ a7R s<=3600:=by
 unfold a7R
 cases hg:d8t s with
 |false=>show(0:Int)<=0 /\ (0:Int)<=3600;decide
 |true=>obtain⟨_,h1,h2⟩:=h hg;exact⟨by show 0<=uI _;omega,h2⟩
theorem d3D {l:List ByteArray} (h:∀s∈l,GL s):∀k,0<=a7V l k /\ a7V l k<=3600*(k:Int)
 |0=>⟨Int.le_refl _,Int.le_refl _⟩
 | k+1=>by
   have h1:=d3D h k
   have h2:=c5A (f0c h k)
   show 0<=a7V l k+a7R _ /\ a7V l k+a7R _<=_
   omega
theorem e0U (l:List ByteArray):∀k,a9O l k<=k
 |0=>Nat.le_refl _
 | k+1=>by
   have h1:=e0U l k
   show a9O l k+b1z _<=k+1
   unfold b1z
   cases d8t (l.getD k (zero Ty.str))
   ·show a9O l k+0<=k+1;omega
   ·show a9O l k+1<=k+1;omega
theorem d8u {α:Type} (l:List α) (x d:α) (k:Nat) (h:k<l.length):(l++[x]).getD k d=l.getD k d:=by
 rw[List.getD_eq_getElem?_getD,List.getD_eq_getElem?_getD,List.getElem?_append_left h]
theorem d3E {α:Type} (l:List α) (x d:α):(l++[x]).getD l.length d=x:=by
 rw[List.getD_eq_getElem?_getD,List.getElem?_append_right (Nat.le_refl _)]
 simp
theorem d3F (l:List ByteArray) (s:ByteArray):∀k,k<=l.length->a7V (l++[s]) k=a7V l k /\ a9O (l++[s]) k=a9O l k
 |0,_=>⟨rfl,rfl⟩
 | k+1,h=>by
   obtain⟨h1,h2⟩:=d3F l s k (by omega)
   have e:=d8u l s (zero Ty.str) k (by omega)
   constructor
   ·show a7V (l++[s]) k+a7R ((l++[s]).getD k _)=a7V l k+a7R (l.getD k _)
    rw[h1,e]
   ·show a9O (l++[s]) k+b1z ((l++[s]).getD k _)=a9O l k+b1z (l.getD k _)
    rw[h2,e]
theorem d8v (l:List ByteArray) (s:ByteArray):a7V (l++[s]) (l++[s]).length=a7V l l.length+a7R s /\ a9O (l++[s]) (l++[s]).length=a9O l l.length+b1z s:=by
 obtain⟨h1,h2⟩:=d3F l s l.length (Nat.le_refl _)
 have e:=d3E l s (zero Ty.str)
 rw[List.length_append]
 constructor
 ·show a7V (l++[s]) l.length+a7R ((l++[s]).getD l.length _)=_
  rw[h1,e]
 ·show a9O (l++[s]) l.length+b1z ((l++[s]).getD l.length _)=_
  rw[h2,e]
theorem c5B {f:List ByteArray} {n m:Nat} {s t:ByteArray} (h:isC f n s=true) (hst:a2w s t=false):isC f m t=false:=by
 obtain⟨_,h2⟩:=c7y h
 have e:=(b6X _ _).1 h2
 unfold isC
 rw[e,hst,Bool.and_false]
structure c0J (Y Z:Yv):Prop where
 tm:Z.tm=Y.tm
 tk:Z.tk=Y.tk
theorem c0J.refl (Y:Yv):c0J Y Y:=⟨rfl,rfl⟩
theorem a8J (Y:Yv):c0J Y (kpV Y):=by
 unfold kpV
 cases decide (Y.sl ≥ 0)
 ·exact .refl Y
 ·exact⟨rfl,rfl⟩
theorem d3G (f:List ByteArray) (Y:Yv) (h:(a4i f Y).1=true) :
 (isC f 2 sGo=true /\ uB (fAt f 1)=true /\ 1<=uI (fAt f 1) /\ uI (fAt f 1)<=3600 /\ (a4i f Y).2.tm=Y.tm+uI (fAt f 1) /\ (a4i f Y).2.tk.length=Y.tk.length+1)∨(isC f 2 sGo=false /\ c0J Y (a4i f Y).2):=by
 unfold a4i at h ⊢
 cases c1:isC f 2 a6n with
 | true =>
   right
   refine⟨c5B c1 (by decide +kernel),?_⟩
   show c0J Y (b1x f Y).2
   unfold b1x
   cases (uB (fAt f 1)&&!decide (uI (fAt f 1)>359))
   ·exact .refl Y
   ·exact⟨(a8J (Y.setHd _)).tm,(a8J (Y.setHd _)).tk⟩
 |false=>
 cases c2:isC f 3 b6R with
 | true =>
   right
   refine⟨c5B c2 (by decide +kernel),?_⟩
   show c0J Y (c2L f Y).2
   unfold c2L
   cases ((b6Z (fAt f 1) (fAt f 2)).2.2.1&&a3M (a2u f))
   ·exact .refl Y
   ·cases c0G Y.wd
    ·cases ((a5y Y.wd (a2u f)).2.1&&a3M (a5y Y.wd (a2u f)).1)
     ·exact .refl Y
     ·exact⟨(a8J (Y.setWd _)).tm,(a8J (Y.setWd _)).tk⟩
    ·exact⟨(a8J (Y.setWd _)).tm,(a8J (Y.setWd _)).tk⟩
 |false=>
 cases c3:isC f 2 c2v with
 | true =>
   right
   refine⟨c5B c3 (by decide +kernel),?_⟩
   show c0J Y (c2M f Y).2
   unfold c2M
   cases a2w (fAt f 1) d2O
   ·cases (!decide (a2y Y.sails (fAt f 1)<0)&&((a2v Y).2.1&&b1g (at' Y.sails (a2y Y.sails (fAt f 1)).toNat) (a2v Y).1))
    ·exact .refl Y
    ·exact⟨rfl,rfl⟩
   ·exact⟨rfl,rfl⟩
 |false=>
 cases c4:isC f 3 e3Y with
 | true =>
   right
   refine⟨c5B c4 (by decide +kernel),?_⟩
   show c0J Y (e4P f Y).2
   unfold e4P
   cases ((b6Z (fAt f 1) (fAt f 2)).2.2.1&&(a1J (d3u f)).2.1)
   ·exact .refl Y
   ·exact⟨rfl,rfl⟩
 |false=>
 cases c5:isC f 2 sGo with
 | true =>
   left
   rw[c1,c2,c3,c4,c5]at h
   have h:(goW f Y).1=true:=h
   refine⟨rfl,?_⟩
   show uB (fAt f 1)=true /\ 1<=uI (fAt f 1) /\ uI (fAt f 1)<=3600 /\ (goW f Y).2.tm=Y.tm+uI (fAt f 1) /\ (goW f Y).2.tk.length=Y.tk.length+1
   unfold goW at h ⊢
   cases hu:uB (fAt f 1)with
   |false=>rw[hu]at h;cases h
   | true =>
     rw[hu]at h
     have h:(goV (uI (fAt f 1)) Y).1=true:=h
     show _ /\ _ /\ _ /\ (goV (uI (fAt f 1)) Y).2.tm=_ /\ (goV (uI (fAt f 1)) Y).2.tk.length=_
     unfold goV at h ⊢
     cases ha:(inB (uI (fAt f 1)) 1 3600&&(!decide (Y.tm+uI (fAt f 1)>10000000)&&!decide ((Y.tk.length:Int) ≥ 200)))with
     |false=>rw[ha]at h;cases h
     | true =>
       rw[ha]at h
       cases hb:((goR (uI (fAt f 1)) Y).2.1&&(a1J (goR (uI (fAt f 1)) Y).1).2.1)with
       |false=>rw[hb]at h;cases h
       | true =>
         unfold inB at ha
         simp only[Bool.and_eq_true,decide_eq_true_eq]at ha
         refine⟨rfl,ha.1.1,ha.1.2,rfl,?_⟩
         show(Y.tk++[_]).length=_
         rw[List.length_append];rfl
 |false=>exact .inr ⟨rfl,.refl Y⟩
structure c0K (t0:Int) (Y:Yv):Prop where
 gl:∀s∈Y.lg,GL s
 sum:Y.tm=t0+a7V Y.lg Y.lg.length
 cnt:Y.tk.length=a9O Y.lg Y.lg.length
theorem c0K.doV {t0:Int} {Y:Yv} (h:c0K t0 Y) (s:ByteArray):c0K t0 (doV Y s).1:=by
 unfold AM.doV
 cases hd:doB Y s with
 |false=>exact h
 | true =>
   show c0K t0 (doZ Y s)
   unfold doB at hd
   simp only[Bool.and_eq_true,decide_eq_true_eq]at hd
   obtain⟨ho,hl,hs,hdn⟩:=hd
   obtain⟨hn,_⟩:=e4S hs
   have L:=(b1y (spF s) Y).lg
   have hlg:(doZ Y s).lg=Y.lg++[a5f (spF s)]:=by
    show(a4i (spF s) Y).2.lg++[a5f (spF s)]=_
    rw[L]
   have htm:(doZ Y s).tm=(a4i (spF s) Y).2.tm:=rfl
   have htk:(doZ Y s).tk=(a4i (spF s) Y).2.tk:=rfl
   obtain⟨e1,e2⟩:=d8v Y.lg (a5f (spF s))
   have hg:d8t (a5f (spF s))=isC (spF s) 2 sGo:=by unfold d8t;rw[hn]
   have hN:a7R (a5f (spF s))=bif isC (spF s) 2 sGo then uI (fAt (spF s) 1)else 0:=by unfold a7R;rw[hg,hn]
   have hC:b1z (a5f (spF s))=bif isC (spF s) 2 sGo then 1 else 0:=by unfold b1z;rw[hg]
   rcases d3G (spF s) Y hdn with⟨d1,d2,d3,d4,d5,d6⟩|⟨d1,d2⟩
   ·refine⟨?_,?_,?_⟩
    ·rw[hlg]
     intro u hu
     rcases List.mem_append.1 hu with hu|hu
     ·exact h.gl u hu
     ·rw[List.mem_singleton.1 hu]
      intro _
      rw[hn]
      exact⟨d2,d3,d4⟩
    ·rw[htm,d5,hlg,e1,hN,d1,h.sum,cond_true];omega
    ·rw[htk,d6,hlg,e2,hC,d1,h.cnt];rfl
   ·refine⟨?_,?_,?_⟩
    ·rw[hlg]
     intro u hu
     rcases List.mem_append.1 hu with hu|hu
     ·exact h.gl u hu
     ·rw[List.mem_singleton.1 hu]
      intro hgo
      rw[hg,d1]at hgo
      cases hgo
    ·rw[htm,d2.tm,hlg,e1,hN,d1,h.sum,cond_false];omega
    ·rw[htk,d2.tk,hlg,e2,hC,d1,h.cnt];rfl
theorem d3H {t0:Int} {Y:Yv} (h:c0K t0 Y) (ls:List ByteArray):∀k,c0K t0 (b1T Y ls k).1
 |0=>h
 |k+1=>(d3H h ls k).doV _
theorem e4W (b:Den S40) (p:Nat×Nat) (t:Int):c0K (c7Q b p t).tm (c7Q b p t):=by
 unfold c7Q
 cases d8r b p t<;>exact⟨fun _ h=>(by cases h),by show _=_+0;omega,rfl⟩
theorem f8q (v:c0x):v.2.2.1.2.2.2.2.2.2.2.2.2.2.2.2.2.2.2.2.2.2.2.2.2.1.length<f2s v:=by
 unfold f2s
 refine Nat.lt_of_le_of_lt ?_ (Nat.lt_add_of_pos_right (by decide))
 repeat (first|exact Nat.le_add_left _ _|refine Nat.le_trans ?_ (Nat.le_add_right _ _))
theorem f8r (Y Z:Yv) (h:∀s∈Z.lg,GL s) (hl:Z.lg.length<=1000) :
 e9H (((),(),(0:Int),(0:Int),(0:Int),()),flY Y,flY Z,())=some (.inl (((),(),a7V Z.lg Z.lg.length,(a9O Z.lg Z.lg.length:Int),()),flY Y,flY Z,())):=by
 refine a4x (q:=e9F K8 G8 K9 G9 K10 G10 K16 G16 K17 G17) (fun k=>(((),(),a7V Z.lg k,(a9O Z.lg k:Int),(k:Int),()),flY Y,flY Z,())) Z.lg.length _ ?_ ?_ _ (f8q (((),(),(0:Int),(0:Int),(0:Int),()),flY Y,flY Z,()))
 ·intro k f hk
  have e1:decide ((k:Int)<(Z.lg.length:Int))=true:=by simpa using hk
  have e2:decide (0<=(k:Int))=true:=by simp
  have ew:IntKind.i64.wrap ((k:Int)+1)=((k+1:Nat):Int):=a4y k (by omega)
  have hg:=f0c h k
  have hb:=d3D h k
  have hc:=e0U Z.lg k
  have e16:=b2Y (Z.lg.getD k (zero Ty.str))
  have k16:K16 (Z.lg.getD k (zero Ty.str),())=true:=by unfold K16;rw[e16];rfl
  have g16:G16 (Z.lg.getD k (zero Ty.str),())=(spF (Z.lg.getD k (zero Ty.str)),spO (Z.lg.getD k (zero Ty.str)),()):=by unfold G16;rw[e16];rfl
  have hS:a7V Z.lg (k+1)=a7V Z.lg k+a7R (Z.lg.getD k (zero Ty.str)):=rfl
  have hC:a9O Z.lg (k+1)=a9O Z.lg k+b1z (Z.lg.getD k (zero Ty.str)):=rfl
  have hN:=c5A hg
  unfold a7R at hS hN
  unfold b1z at hC
  unfold GL at hg
  rw[hS,hC]
  unfold e9F
  show(bif decide ((k:Int)<(Z.lg.length:Int))then bif (decide (0<=(k:Int))&&decide ((k:Int)<(Z.lg.length:Int)))then bif K16 (Z.lg.getD k (zero Ty.str),())then
   bif (((G16 (Z.lg.getD k (zero Ty.str),())).1.length:Int)==2)then bif (decide (0<=(0:Int))&&decide (0<((G16 (Z.lg.getD k (zero Ty.str),())).1.length:Int)))then
    bif a2w (fAt (G16 (Z.lg.getD k (zero Ty.str),())).1 0) sGo then bif (decide (0<=(1:Int))&&decide (1<((G16 (Z.lg.getD k (zero Ty.str),())).1.length:Int)))then
     bif K17 (fAt (G16 (Z.lg.getD k (zero Ty.str),())).1 1,())then bif !(G17 (fAt (G16 (Z.lg.getD k (zero Ty.str),())).1 1,())).2.1 then some (Sum.inr ((false,()),()))
      else f (((),(),IntKind.i64.wrap (a7V Z.lg k+(G17 (fAt (G16 (Z.lg.getD k (zero Ty.str),())).1 1,())).1),IntKind.i64.wrap ((a9O Z.lg k:Int)+1),IntKind.i64.wrap ((k:Int)+1),()),flY Y,flY Z,())
     else none else none
    else f (((),(),a7V Z.lg k,(a9O Z.lg k:Int),IntKind.i64.wrap ((k:Int)+1),()),flY Y,flY Z,())
    else none
   else f (((),(),a7V Z.lg k,(a9O Z.lg k:Int),IntKind.i64.wrap ((k:Int)+1),()),flY Y,flY Z,())
   else none else none else _)=_
  rw[e1,e2,k16,g16,ew]
  dsimp only
  rw[uK,uG]
  generalize Z.lg.getD k (zero Ty.str)=s at *
  unfold d8t at hg hN ⊢
  by_cases h2:(spF s).length=2
  ·have i1:(((spF s).length:Int)==2)=true:=by rw[beq_iff_eq];omega
   have i2:(decide (0<=(0:Int))&&decide (0<((spF s).length:Int)))=true:=by rw[h2];rfl
   have i3:(decide (0<=(1:Int))&&decide (1<((spF s).length:Int)))=true:=by rw[h2];rfl
   rw[i1,i2,i3]
   cases hb0:a2w (fAt (spF s) 0) sGo with
   | true =>
     have hgo:isC (spF s) 2 sGo=true:=by unfold isC;rw[hb0,decide_eq_true h2];rfl
     obtain⟨u1,u2,u3⟩:=hg hgo
     rw[hgo]at hN ⊢
     have hN:0<=uI (fAt (spF s) 1) /\ uI (fAt (spF s) 1)<=3600:=hN
     have w1:IntKind.i64.wrap (a7V Z.lg k+uI (fAt (spF s) 1))=a7V Z.lg k+uI (fAt (spF s) 1):=w64 (by omega) (by omega)
     have w2:IntKind.i64.wrap ((a9O Z.lg k:Int)+1)=((a9O Z.lg k+1:Nat):Int):=a4y _ (by omega)
     rw[u1,w1,w2]
     rfl
   | false =>
     have hgo:isC (spF s) 2 sGo=false:=by unfold isC;rw[hb0,Bool.and_false]
     rw[hgo]
     show f _=f (((),(),a7V Z.lg k+0,_),_)
     rw[Int.add_zero]
     rfl
  ·have i1:(((spF s).length:Int)==2)=false:=by rw[beq_eq_false_iff_ne];omega
   have hgo:isC (spF s) 2 sGo=false:=by unfold isC;rw[decide_eq_false h2];rfl
   rw[i1,hgo]
   show f _=f (((),(),a7V Z.lg k+0,_),_)
   rw[Int.add_zero]
   rfl
 ·intro f
  have e1:decide ((Z.lg.length:Int)<(Z.lg.length:Int))=false:=by simp
  unfold e9F
  show(bif decide ((Z.lg.length:Int)<(Z.lg.length:Int))then _ else _)=_
  rw[e1]
  rfl
def c2P (y:Den (.cons .bool .nil)):Option Unit:=bif y.1 then some ()else none
theorem d8w:∀y,c2P y=some ()->y=(true,()):=by
 rintro⟨b,⟨⟩⟩ h
 cases b
 ·cases h
 ·rfl
theorem g1w (x:Den A8):F8 x=some (decide ((x.1.length:Int)>1048576),()):=rfl
theorem b7a (x:Den A4) (w:Wf A4 x):a5Y (Γ4 K8 G8 K9 G9 K10 G10 K16 G16 K17 G17 c2B c2D c2C d7R) (N4 pT9 QT9 eT9) (a0e Tryz.f4) (a5Z R4 c2P) (a0V A4 x) []=some ():=by
 refine Eq.trans (g1r _ _ _ _ _ _ _ _ _ _ _ _ _ _ _ _ _ c2P x) ?_
 unfold rN4
 simp only[K8,G8,g1w,Option.isSome_some,Option.getD_some,cond_true]
 by_cases h0:(x.1.length:Int)>1048576
 ·simp only[h0,decide_true,cond_true];rfl
 simp only[h0,decide_false,cond_false]
 haveI:=eT9
 refine a0A fun g=>?_
 have hp:pT9 x=true:=by show decide (x.1.length<=1048576)=true;simp;omega
 have hq:f8p (g.val x):=g.2 _ hp
 refine a0H hp ?_
 generalize g.val x=d at *
 obtain⟨Y,ls,_⟩:=d
 change Yv at Y
 change List ByteArray at ls
 obtain⟨⟨b,p,t,hb,hY⟩,hls,_⟩:=hq
 have hY:Y=c7Q b p t:=hY
 have hls:ls.length<=30:=hls
 have hYM:YM Y:=by rw[hY];exact d3C b p t hb
 have hS:c0K Y.tm Y:=by rw[hY];exact e4W b p t
 have h10:=e9W Y ls hYM (by omega)
 have k10:K10 (Y,ls,())=true:=by unfold K10;rw[h10];rfl
 have g10:G10 (Y,ls,())=((b1T Y ls ls.length).1,(b1T Y ls ls.length).2,()):=by unfold G10;rw[h10];rfl
 have hZ:=d3H hS ls ls.length
 have hZM:=c2O Y ls hYM ls.length
 refine a0H k10 ?_
 rw[g10]
 generalize (b1T Y ls ls.length).1=Z at *
 generalize (b1T Y ls ls.length).2=B at *
 have hl:=f8r Y Z hZ.gl hZM.lg
 have hk:c2B (((),(),(0:Int),(0:Int),(0:Int),()),flY Y,flY Z,())=true:=by unfold c2B;rw[hl];rfl
 have ht:c2C (((),(),(0:Int),(0:Int),(0:Int),()),flY Y,flY Z,())=false:=by unfold c2C;rw[hl];rfl
 have hx:c2D (((),(),(0:Int),(0:Int),(0:Int),()),flY Y,flY Z,())=(((),(),a7V Z.lg Z.lg.length,(a9O Z.lg Z.lg.length:Int),()),flY Y,flY Z,()):=by unfold c2D;rw[hl];rfl
 have hbd:=d3D hZ.gl Z.lg.length
 have hlg:=hZM.lg
 have hsum:=hZ.sum
 have hcnt:=hZ.cnt
 show(bif c2B (((),(),(0:Int),(0:Int),(0:Int),()),flY Y,flY Z,())then bif c2C (((),(),(0:Int),(0:Int),(0:Int),()),flY Y,flY Z,())then _ else
  (fun v8:e4s=>bif (v8.2.2.1.2.2.2.2.2.2.2.2.2.2.2.2.2.2.2.1==IntKind.wrap IntKind.i64 (v8.2.1.2.2.2.2.2.2.2.2.2.2.2.2.2.2.2.1+v8.1.2.2.1))then c2P (((↑(List.length v8.2.2.1.2.2.2.2.2.2.2.2.2.2.2.2.2.2.2.2.2.2.2.2.1):Int)==v8.1.2.2.2.1,()))else c2P ((false,()))) (c2D (((),(),(0:Int),(0:Int),(0:Int),()),flY Y,flY Z,()))else none)=_
 rw[hk,ht,hx]
 show(bif (Z.tm==IntKind.i64.wrap (Y.tm+a7V Z.lg Z.lg.length))then c2P (((Z.tk.length:Int)==(a9O Z.lg Z.lg.length:Int)),())else c2P (false,()))=some ()
 have htm:(0<=Y.tm /\ Y.tm<=10000000):=by
  rw[hY]
  unfold c7Q
  cases hn:d8r b p t with
  |false=>exact⟨by show(0:Int)<=0;decide,by show(0:Int)<=_;decide⟩
  | true =>
    unfold d8r inB at hn
    simp only[Bool.and_eq_true,decide_eq_true_eq]at hn
    exact hn.2.2
 have w1:IntKind.i64.wrap (Y.tm+a7V Z.lg Z.lg.length)=Y.tm+a7V Z.lg Z.lg.length:=w64 (by omega) (by omega)
 rw[w1,<- hsum,hcnt,beq_self_eq_true,beq_self_eq_true]
 rfl
end Go.Proofs.YtjomnmoekchfeaaGreatDoor.AM
