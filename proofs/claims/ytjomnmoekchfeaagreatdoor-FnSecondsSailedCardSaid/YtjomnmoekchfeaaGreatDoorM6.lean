/- Texts of one proof, joined: an abstract machine for the program, its functions evaluated, plain lemmas. Conditions: those that each lemma names. -/
import Derived.Test.YtjomnmoekchfeaaGreatDoorM5
set_option linter.unusedVariables false
set_option linter.unusedSimpArgs false
namespace Go.Proofs.YtjomnmoekchfeaaGreatDoor.AM
open Go Go.Proofs
set_option maxRecDepth 100000
theorem e0M (Y:Yv) (hB:a6c Y.1) (ht:Y.tk.length<=1000) (hl:Y.lg.length<=1000):F36 ((Y,()),())=some (((c7f true Y).2.1,()),(Y.tk,Y.lg,())):=by
 obtain⟨B,t,p,h,w,s,tr,lg,_⟩:=Y
 have ht:tr.length<=1000:=ht
 have hl:lg.length<=1000:=hl
 have k1:K85 ((tr,()),())=true:=d7Z (l:=tr) ht
 have k2:K86 ((lg,()),())=true:=d7Z (l:=lg) hl
 have g1:G85 ((tr,()),())=(((),()),(tr,())):=rfl
 have g2:G86 ((lg,()),())=(((),()),(lg,())):=rfl
 have h84:=e9M B hB
 unfold F36 r36
 dsimp only
 simp only[K84,G84,h84,k1,k2,g1,g2,Option.isSome_some,Option.getD_some,cond_true]
 rfl
def a5c (f:List ByteArray):ByteArray:=⟨(c1p f { data:=#[32] }).toArray⟩
theorem e9O (Y:Yv) (s:ByteArray) (hB:a6c Y.1) (ht:Y.tk.length<=1000) (hl:Y.lg.length<=1000) {a b:Bool} {f:List ByteArray} (h14:F14 (Y,())=some (a,())) (h16:F16 (s,())=some (f,b,()))
 {d:Bool} {Z:Yv} (hd:a=true->(Y.lg.length:Int)<300->b=true->d8c f Y=some (d,Z) /\ (d=true->K60 (f,{ data:=#[32] },())=true /\ Z.lg.length<=1000)) :
 F27 (Y,s,())=some (bif a&&(decide ((Y.lg.length:Int)<300)&&(b&&d))then(Z.setLg (Z.lg++[a5c f]),true,())else(Y,false,())):=by
 have h36:=e0M Y hB ht hl
 unfold F27 r27
 dsimp only
 simp only[K36,G36,h36,K14,G14,h14,K16,G16,h16,Option.isSome_some,Option.getD_some,cond_true]
 cases a with
 |false=>rfl
 |true=>
   simp only[Bool.not_true,cond_false,Bool.true_and]
   by_cases h300:(Y.lg.length:Int)<300
   ·have e1:decide (((List.length Y.snd.snd.snd.snd.snd.snd.snd.fst:Nat):Int) ≥ 300)=false:=decide_eq_false (by show ¬((Y.lg.length:Int) ≥ 300);omega)
    have e2:decide ((Y.lg.length:Int)<300)=true:=decide_eq_true h300
    rw[e1,e2]
    simp only[cond_false,Bool.true_and]
    cases b with
    |false=>rfl
    |true=>
      obtain⟨h68,hj⟩:=hd rfl h300 rfl
      have key:∀x:I68.den,x.1.2.1=f->yIn x=Y->K68 x=true /\ G68 x=c7f d Z:=fun x e1 e2=>by
       unfold K68 G68
       rw[e9N,e1,e2,h68]
       exact⟨rfl,rfl⟩
      have hk:=key (((),f,()),(c7f true Y).2.1,Y.tk,Y.lg,()) rfl rfl
      refine Eq.trans (?_:_=(bif K68 (((),f,()),(c7f true Y).2.1,Y.tk,Y.lg,())then
       bif !(G68 (((),f,()),(c7f true Y).2.1,Y.tk,Y.lg,())).1.1 then some (Y,false,())
       else bif K60 (f,{ data:=#[32] },())then
        bif a0F (List.length (G68 (((),f,()),(c7f true Y).2.1,Y.tk,Y.lg,())).2.2.2.1+1)then
         some (yIn (((),f,()),(G68 (((),f,()),(c7f true Y).2.1,Y.tk,Y.lg,())).2.1,(G68 (((),f,()),(c7f true Y).2.1,Y.tk,Y.lg,())).2.2.2.2.1,(G68 (((),f,()),(c7f true Y).2.1,Y.tk,Y.lg,())).2.2.2.1++[(G60 (f,{ data:=#[32] },())).1],()),true,())
        else none
       else none
      else none:Option (Den R27))) ?_
      ·rfl
      ·rw[hk.1,hk.2]
       cases d with
       |false=>rfl
       |true=>
         obtain⟨j1,j2⟩:=hj rfl
         rw[j1]
         have:a0F (List.length (c7f true Z).2.2.2.1+1)=true:=a0K (by show Z.lg.length+1<=_;omega)
         rw[this]
         rfl
   ·have e1:decide (((List.length Y.snd.snd.snd.snd.snd.snd.snd.fst:Nat):Int) ≥ 300)=true:=decide_eq_true (by show((Y.lg.length:Int) ≥ 300);omega)
    have e2:decide ((Y.lg.length:Int)<300)=false:=decide_eq_false h300
    rw[e1,e2]
    rfl
structure YM (Y:Yv):Prop where
 boat:a6c Y.1
 tk:Y.tk.length<=1000
 lg:Y.lg.length<=1000
def e9P (Y:Yv):Bool:=decide ((Y.tk.length:Int)>0)&&decide ((sg Y.tk (Y.tk.length-1)).2.1>Y.tm)
def f2t (m:Den R19) (Y:Yv):Bool:=bif decide (Y.sl ≥ 0)then m.2.1&&a3q (at' Y.sails Y.sl.toNat) m.1 else true
def e4x (Y:Yv):Bool:=b1t Y.1&&(inB Y.tm 0 10000000&&((a1J Y.ps).2.1&&(inB Y.hd 0 359&&(a5d Y.wd&&(inB Y.sl (-1) ((Y.sails.length:Int)-1)&&(a7z Y.tk&&(!decide ((Y.lg.length:Int)>300)&&!lateB Y)))))))
def okV (m:Den R19) (Y:Yv):Bool:=e4x Y&&f2t m Y
theorem b1u {Y:Yv} (h:YM Y):Y.sails.length<=13:=h.boat.2.2.1.2
theorem d8d (Y:Yv) (h:YM Y) (m:Den R19) (hm:I64 m.1.2.1) (hs:inB Y.sl (-1) ((Y.sails.length:Int)-1)=true) :
 (bif decide (Y.sl ≥ 0)then bif m.2.1 then bif (decide (0<=Y.sl)&&decide (Y.sl<(Y.sails.length:Int)))then bif K20 (at' Y.sails Y.sl.toNat,m.1,())then some (G20 (at' Y.sails Y.sl.toNat,m.1,()))else none else none else some (false,())else some (true,()):Option (Den R14))=some (f2t m Y,()):=by
 have hg:=h.boat.2.2.1.1.at Y.sl.toNat
 have e:=e0o (at' Y.sails Y.sl.toNat,m.1,()) hg.2.1 hg.2.2 hm
 have k:K20 (at' Y.sails Y.sl.toNat,m.1,())=true:=by unfold K20;rw[e];rfl
 have g:G20 (at' Y.sails Y.sl.toNat,m.1,())=(a3q (at' Y.sails Y.sl.toNat) m.1,()):=by unfold G20;rw[e];rfl
 rw[k,g]
 unfold f2t
 by_cases h0:Y.sl ≥ 0
 ·have d1:decide (Y.sl ≥ 0)=true:=decide_eq_true h0
  have d2:decide (Y.sl<(Y.sails.length:Int))=true:=by
   unfold inB at hs
   simp only[Bool.and_eq_true,decide_eq_true_eq]at hs ⊢
   omega
  rw[d1,d2]
  cases m.2.1<;>rfl
 ·have d1:decide (Y.sl ≥ 0)=false:=decide_eq_false h0
  rw[d1]
  rfl
theorem e4y {n:Nat} (h0:(n:Int)>0) (h:n<=1000):IntKind.i64.wrap ((n:Int)-1)=((n-1:Nat):Int) /\ (decide (0<=((n-1:Nat):Int))&&decide (((n-1:Nat):Int)<(n:Int)))=true:=by
 constructor
 ·rw[w64 (by omega) (by omega)];omega
 ·simp only[Bool.and_eq_true,decide_eq_true_eq];omega
theorem e9Q (Y:Yv) (h:YM Y):F14 (Y,())=some (okV (a2v Y) Y,()):=by
 have htk:=h.tk
 have e1:=d2V Y.ps
 have k1:K23 (Y.ps,())=true:=by unfold K23;rw[e1];rfl
 have g1:G23 (Y.ps,())=a1J Y.ps:=by unfold G23;rw[e1];rfl
 have e2:=e9K Y.1 h.boat
 have k2:K42 (Y.1,())=true:=by unfold K42;rw[e2];rfl
 have g2:G42 (Y.1,())=(b1t Y.1,()):=by unfold G42;rw[e2];rfl
 have e3:F43 (Y.tm,())=some (inB Y.tm 0 10000000,()):=c4P _
 have k3:K43 (Y.tm,())=true:=by unfold K43;rw[e3];rfl
 have g3:G43 (Y.tm,())=(inB Y.tm 0 10000000,()):=by unfold G43;rw[e3];rfl
 have e4:F44 (Y.hd,0,359,())=some (inB Y.hd 0 359,()):=a3r _
 have k4:K44 (Y.hd,0,359,())=true:=by unfold K44;rw[e4];rfl
 have g4:G44 (Y.hd,0,359,())=(inB Y.hd 0 359,()):=by unfold G44;rw[e4];rfl
 have e5:=a4X Y.wd
 have k5:K45 (Y.wd,())=true:=by unfold K45;rw[e5];rfl
 have g5:G45 (Y.wd,())=(a5d Y.wd,()):=by unfold G45;rw[e5];rfl
 have hsl:=b1u h
 have w1:IntKind.i64.wrap ((Y.sails.length:Int)-1)=(Y.sails.length:Int)-1:=w64 (by omega) (by omega)
 have e6:F44 (Y.sl,-1,(Y.sails.length:Int)-1,())=some (inB Y.sl (-1) ((Y.sails.length:Int)-1),()):=a3r _
 have k6:K44 (Y.sl,-1,(Y.sails.length:Int)-1,())=true:=by unfold K44;rw[e6];rfl
 have g6:G44 (Y.sl,-1,(Y.sails.length:Int)-1,())=(inB Y.sl (-1) ((Y.sails.length:Int)-1),()):=by unfold G44;rw[e6];rfl
 have e7:F46 (Y.tk,())=some (a7z Y.tk,()):=e8W Y.tk (by omega)
 have k7:K46 (Y.tk,())=true:=by unfold K46;rw[e7];rfl
 have g7:G46 (Y.tk,())=(a7z Y.tk,()):=by unfold G46;rw[e7];rfl
 have e8:=d2N Y
 have k8:K19 (Y,())=true:=by unfold K19;rw[e8];rfl
 have g8:G19 (Y,())=a2v Y:=by unfold G19;rw[e8];rfl
 unfold F14 r14
 show(bif K23 (Y.ps,())then bif K42 (Y.1,())then bif !(G42 (Y.1,())).1 then some (false,())else bif K43 (Y.tm,())then bif !(G43 (Y.tm,())).1 then some (false,())else
  bif !(G23 (Y.ps,())).2.1 then some (false,())else bif K44 (Y.hd,0,359,())then bif !(G44 (Y.hd,0,359,())).1 then some (false,())else
  bif K45 (Y.wd,())then bif !(G45 (Y.wd,())).1 then some (false,())else
  bif K44 (Y.sl,-1,IntKind.i64.wrap ((Y.sails.length:Int)-1),())then bif !(G44 (Y.sl,-1,IntKind.i64.wrap ((Y.sails.length:Int)-1),())).1 then some (false,())else
  bif K46 (Y.tk,())then bif !(G46 (Y.tk,())).1 then some (false,())else
  bif decide ((Y.lg.length:Int)>300)then some (false,())else
  bif decide ((Y.tk.length:Int)>0)then bif (decide (0<=IntKind.i64.wrap ((Y.tk.length:Int)-1))&&decide (IntKind.i64.wrap ((Y.tk.length:Int)-1)<(Y.tk.length:Int)))then
   bif decide ((sg Y.tk (IntKind.i64.wrap ((Y.tk.length:Int)-1)).toNat).2.1>Y.tm)then some (false,())else
   (bif decide (Y.sl ≥ 0)then bif K19 (Y,())then bif (G19 (Y,())).2.1 then bif (decide (0<=Y.sl)&&decide (Y.sl<(Y.sails.length:Int)))then bif K20 (at' Y.sails Y.sl.toNat,(G19 (Y,())).1,())then some (G20 (at' Y.sails Y.sl.toNat,(G19 (Y,())).1,()))else none else none else some (false,())else none else some (true,()))
   else none
  else(bif decide (Y.sl ≥ 0)then bif K19 (Y,())then bif (G19 (Y,())).2.1 then bif (decide (0<=Y.sl)&&decide (Y.sl<(Y.sails.length:Int)))then bif K20 (at' Y.sails Y.sl.toNat,(G19 (Y,())).1,())then some (G20 (at' Y.sails Y.sl.toNat,(G19 (Y,())).1,()))else none else none else some (false,())else none else some (true,()))
  else none else none else none else none else none else none else none:Option (Den R14))=_
 rw[w1,k1,g1,k2,g2,k3,g3,k4,g4,k5,g5,k6,g6,k7,g7,k8,g8]
 simp only[cond_true]
 unfold okV e4x
 cases c1:b1t Y.1
 ·rfl
 cases c2:inB Y.tm 0 10000000
 ·rfl
 cases c3:(a1J Y.ps).2.1
 ·rfl
 cases c4:inB Y.hd 0 359
 ·rfl
 cases c5:a5d Y.wd
 ·rfl
 cases c6:inB Y.sl (-1) ((Y.sails.length:Int)-1)
 ·rfl
 cases c7:a7z Y.tk
 ·rfl
 cases c8:decide ((Y.lg.length:Int)>300)
 ·have ht:=d8d Y h (a2v Y) (c0q Y) c6
  unfold e9P
  by_cases h0:(Y.tk.length:Int)>0
  ·obtain⟨i1,i2⟩:=e4y h0 htk
   have d1:decide ((Y.tk.length:Int)>0)=true:=decide_eq_true h0
   rw[d1,i1,i2,Int.toNat_natCast]
   cases decide ((sg Y.tk (Y.tk.length-1)).2.1>Y.tm)
   ·exact ht
   ·rfl
  ·have d1:decide ((Y.tk.length:Int)>0)=false:=decide_eq_false h0
   rw[d1]
   exact ht
 ·rfl
def d4z (g:Den a3I):Bool:=b1m g.2.1&&a0L g.2.2.1 0 100000
theorem e4z (g:Den a3I):f1H (g,())=some (d4z g,()):=by
 have e1:=c2q g.2.1
 have e2:=a2O g.2.2.1 0 100000
 unfold f1H f6E d4z
 dsimp only
 simp only[d4a,d4b,e1,K44,G44,e2,Option.isSome_some,Option.getD_some,cond_true]
 cases b1m g.2.1<;>rfl
theorem d8e (g:Den a3I):f1I ([g],())=some (d4z g,()):=by
 have e1:=e4z g
 have k1:d4o (g,())=true:=by unfold d4o;rw[e1];rfl
 have g1:d4p (g,())=(d4z g,()):=by unfold d4p;rw[e1];rfl
 have hl:b2F (([g],[g],(1:Int),(0:Int),()),())=some (bif d4z g then .inl (([g],()),())else .inr ((false,()),())):=by
  have hb:d1o (([g],[g],(1:Int),(0:Int),()),())=1003:=rfl
  unfold b2F
  rw[hb]
  show b9D d4o d4p _ _=_
  unfold b9D
  show(bif d4o (g,())then bif !(d4p (g,())).1 then _ else a1u (b9D d4o d4p) 1002 (([g],[g],(1:Int),(1:Int),()),())else none)=_
  rw[k1,g1]
  cases d4z g
  ·rfl
  ·rfl
 unfold f1I f6G
 show(bif b0Y (([g],[g],(1:Int),(0:Int),()),())then bif b0Z (([g],[g],(1:Int),(0:Int),()),())then some (b1b (([g],[g],(1:Int),(0:Int),()),())).1 else some (decide (((b1a (([g],[g],(1:Int),(0:Int),()),())).1.1.length:Int)<=50),())else none)=_
 unfold b0Y b0Z b1b b1a
 rw[hl]
 cases d4z g<;>rfl
def e0N (v s:Nat×Nat):Nat×Nat:=(a0i .add .f32 v.1 s.1,a0i .add .f32 v.2 s.2)
def a8G (k:Int) (sp:Nat) (s:Nat×Nat):(Nat×Nat)×Bool×Unit:=bif !(c0P k sp).2.1 then((0,0),false,())else bif !velB s then((0,0),false,())else(e0N (c0P k sp).1 s,true,())
theorem e4A (k:Int) (sp:Nat) (s:Nat×Nat):f1V (k,sp,s,())=some (a8G k sp s):=by
 have e1:=e0H k sp
 have e2:=a4X s
 have e3:f7d ((c0P k sp).1,s,())=some (e0N (c0P k sp).1 s,()):=rfl
 unfold f1V f7f a8G
 dsimp only
 simp only[K56,G56,e1,K45,G45,e2,f1T,f1U,e3,Option.isSome_some,Option.getD_some,cond_true]
 cases (c0P k sp).2.1
 ·rfl
 ·cases a5d s<;>rfl
def onV (p v:Nat×Nat) (n:Int):Nat×Nat:=(a0i .add .f64 p.1 (a0i .mul .f64 (a1a .f32 .f64 v.1).2 (FloatKind.nearest .f64 n)),a0i .add .f64 p.2 (a0i .mul .f64 (a1a .f32 .f64 v.2).2 (FloatKind.nearest .f64 n)))
def e4B (p v:Nat×Nat) (n:Int):(Nat×Nat)×Bool×Unit:=
 bif !vecB p then((0,0),false,())else bif !velB v then((0,0),false,())else bif !inB_g4 n 0 100000 then((0,0),false,())else bif !vecB (onV p v n)then((0,0),false,())else(onV p v n,true,())
theorem e4C (p v:Nat×Nat) (n:Int):f1Y (p,v,n,())=some (e4B p v n):=by
 have e1:=a8Z p
 have e2:=a4X v
 have e3:=a2O n 0 100000
 have e4:=a8Z (onV p v n)
 unfold onV at e4
 unfold f1Y f7i e4B onV
 dsimp only
 simp only[K61,G61,e1,K45,G45,e2,K44,G44,e3,e4,Option.isSome_some,Option.getD_some,cond_true]
 cases a7G p
 ·rfl
 cases a5d v
 ·rfl
 cases a0L n 0 100000
 ·rfl
 cases a7G (a0i .add .f64 p.1 (a0i .mul .f64 (a1a .f32 .f64 v.1).2 (FloatKind.nearest .f64 n)),a0i .add .f64 p.2 (a0i .mul .f64 (a1a .f32 .f64 v.2).2 (FloatKind.nearest .f64 n)))<;>rfl
def a6N (p:Nat×Nat) (g:Den a3I) (n:Int) (s:Nat×Nat):(Nat×Nat)×Bool×Unit:=bif !(a8G g.1 g.2.1 s).2.1 then((0,0),false,())else e4B p (a8G g.1 g.2.1 s).1 n
theorem e4D (p:Nat×Nat) (g:Den a3I) (n:Int) (s:Nat×Nat):f2b (p,g,n,s,())=some (a6N p g n s):=by
 have e1:=e4A g.1 g.2.1 s
 have e2:=e4C p (a8G g.1 g.2.1 s).1 n
 unfold f2b f7l a6N
 dsimp only
 simp only[f1W,f1X,e1,f1Z,f2a,e2,Option.isSome_some,Option.getD_some,cond_true]
 cases (a8G g.1 g.2.1 s).2.1<;>rfl
def b1v (td:Den S30) (g:Den a3I):Nat->Nat×Nat->Int->Int->Option ((Nat×Nat)×Int×Int)
 |0,p,t,l=>some (p,t,l)
 |f+1,p,t,l=>bif decide (l>0)then bif !(a2C td p t).2.1 then none else bif !(a6N p g (a4h l 600) (a2C td p t).1).2.1 then none else b1v td g f (a6N p g (a4h l 600) (a2C td p t).1).1 (t+a4h l 600) (l-a4h l 600)else some (p,t,l)
def b6V (g:Den a3I):Int:=g.2.2.1
def f8m (p:Nat×Nat) (t:Int) (g:Den a3I) (td:Den S30):(Nat×Nat)×Bool×Unit:=
 bif !vecB p then((0,0),false,())else bif !legB g then((0,0),false,())else match b1v td g 7 p t (b6V g)with|some r=>(r.1,true,())|none=>((0,0),false,())
theorem d8f {l:Int} (h:0<l):0<a4h l 600 /\ a4h l 600<=l /\ a4h l 600<=600 /\ (a4h l 600=l∨a4h l 600=600):=by
 unfold a4h
 split<;>omega
abbrev e4E:Type:=List (Den (a3I))×Int×Int×Unit
theorem c7t (td:Den S30) (h:a7A td) (g:Den a3I) (rest:e4E):∀(f N:Nat) (p:Nat×Nat) (t l:Int),(l<=(f:Int)*600)->(f<N)->0<=t->t+l<=9223372036854775807->0<=l ->
 ∃t':Int,a1u (b9J K61 G61 c4C c4D c4E b9I c4F c2a) N ((p,t,(),(),l,rest),td,g,())=some (match b1v td g f p t l with|some r => .inl ((r.1,t',(),rest),td,())|none => .inr (((0,0),false,()),())):=by
 intro f
 induction f with
 |zero=>
   intro N p t l hl hN ht htl hl0
   obtain⟨N,rfl⟩:∃M,N=M+1:=⟨N-1,by omega⟩
   have h0:l=0:=by omega
   subst h0
   exact⟨t,rfl⟩
 |succ f ih=>
   intro N p t l hl hN ht htl hl0
   obtain⟨N,rfl⟩:∃M,N=M+1:=⟨N-1,by omega⟩
   by_cases h1:l>0
   ·have d1:decide (l>0)=true:=decide_eq_true h1
    obtain⟨m1,m2,m3,m4⟩:=d8f h1
    have e1:=e4k td p t h
    have e2:=e4D p g (a4h l 600) (a2C td p t).1
    have k1:c4E (td,p,t,())=true:=by unfold c4E;rw[e1];rfl
    have g1:b9I (td,p,t,())=a2C td p t:=by unfold b9I;rw[e1];rfl
    have k2:c4F (p,g,a4h l 600,(a2C td p t).1,())=true:=by unfold c4F;rw[e2];rfl
    have g2:c2a (p,g,a4h l 600,(a2C td p t).1,())=a6N p g (a4h l 600) (a2C td p t).1:=by unfold c2a;rw[e2];rfl
    have w1:IntKind.i64.wrap (t+a4h l 600)=t+a4h l 600:=w64 (by omega) (by omega)
    have w2:IntKind.i64.wrap (l-a4h l 600)=l-a4h l 600:=w64 (by omega) (by omega)
    have ih':=ih N (a6N p g (a4h l 600) (a2C td p t).1).1 (t+a4h l 600) (l-a4h l 600) (by omega) (by omega) (by omega) (by omega) (by omega)
    have step:a1u (b9J K61 G61 c4C c4D c4E b9I c4F c2a) (N+1) ((p,t,(),(),l,rest),td,g,()) =
     bif decide (l>0)then bif c4E (td,p,t,())then bif !(b9I (td,p,t,())).2.1 then some (.inr (((0,0),false,()),()))
      else bif c4F (p,g,a4h l 600,(b9I (td,p,t,())).1,())then bif !(c2a (p,g,a4h l 600,(b9I (td,p,t,())).1,())).2.1 then some (.inr (((0,0),false,()),()))
       else a1u (b9J K61 G61 c4C c4D c4E b9I c4F c2a) N (((c2a (p,g,a4h l 600,(b9I (td,p,t,())).1,())).1,IntKind.i64.wrap (t+a4h l 600),(),(),IntKind.i64.wrap (l-a4h l 600),rest),td,g,())
      else none else none
     else some (.inl ((p,t,(),rest),td,())):=rfl
    rw[step,d1,k1,g1]
    simp only[cond_true,k2,g2,w1,w2]
    unfold b1v
    rw[d1,cond_true]
    cases (a2C td p t).2.1
    ·exact⟨0,rfl⟩
    ·cases (a6N p g (a4h l 600) (a2C td p t).1).2.1
     ·exact⟨0,rfl⟩
     ·exact ih'
   ·have h0:l=0:=by omega
    subst h0
    exact⟨t,rfl⟩
theorem e4F (p:Nat×Nat) (t:Int) (g:Den a3I) (td:Den S30) (h:a7A td) (ht:0<=t) (ht':t<=1000000000000) (hg:b6V g<=3600):e2Z (p,t,[g],td,())=some (f8m p t g td):=by
 have e1:=a8Z p
 have e2:=d8e g
 have k1:K61 (p,())=true:=by unfold K61;rw[e1];rfl
 have g1:G61 (p,())=(a7G p,()):=by unfold G61;rw[e1];rfl
 have k2:c4C ([g],())=true:=by unfold c4C;rw[e2];rfl
 have g2:c4D ([g],())=(d4z g,()):=by unfold c4D;rw[e2];rfl
 unfold e2Z f7n f8m
 show(bif K61 (p,())then bif !(G61 (p,())).1 then _ else bif c4C ([g],())then bif !(c4D ([g],())).1 then _ else
  bif a8t ((p,t,(),[g],(1:Int),(0:Int),()),td,())then bif a8u ((p,t,(),[g],(1:Int),(0:Int),()),td,())then some (a8w ((p,t,(),[g],(1:Int),(0:Int),()),td,())).1
   else some ((a8v ((p,t,(),[g],(1:Int),(0:Int),()),td,())).1.1,true,())else none else none else none)=_
 rw[k1,g1,k2,g2]
 cases hp:a7G p
 ·rfl
 cases hg':d4z g
 ·rfl
 simp only[Bool.not_true,cond_true,cond_false]
 have hg2:0<=b6V g:=by
  unfold d4z a0L at hg'
  simp only[Bool.and_eq_true,decide_eq_true_eq]at hg'
  exact hg'.2.1
 obtain⟨t',hl⟩:=c7t td h g ([g],(1:Int),(0:Int),()) 7 (c4G ((p,t,(),(),b6V g,([g],(1:Int),(0:Int),())),td,g,())) p t (b6V g) (by omega) (by unfold c4G;dsimp only;omega) ht (by omega) hg2
 have hl7:b9K ((p,t,(),(),b6V g,([g],(1:Int),(0:Int),())),td,g,())=_:=hl
 have hl4:b2K ((p,t,(),[g],(1:Int),(0:Int),()),td,())=some (match b1v td g 7 p t (b6V g)with|some r => .inl ((r.1,()),())|none => .inr (((0,0),false,()),())):=by
  unfold b2K
  have hb:∃M,b9L ((p,t,(),[g],(1:Int),(0:Int),()),td,())=M+2:=⟨b9L ((p,t,(),[g],(1:Int),(0:Int),()),td,())-2,by unfold b9L;dsimp only;omega⟩
  obtain⟨M,hM⟩:=hb
  rw[hM]
  show(bif a5r ((p,t,(),(),b6V g,([g],(1:Int),(0:Int),())),td,g,())then bif a5s ((p,t,(),(),b6V g,([g],(1:Int),(0:Int),())),td,g,())then(some (Sum.inr (a5t ((p,t,(),(),b6V g,([g],(1:Int),(0:Int),())),td,g,()))):Option (b2G⊕b2H))else _ else none)=_
  unfold a5r a5s a5t
  rw[hl7]
  cases hpv:b1v td g 7 p t (b6V g)with
  |none=>rfl
  |some r=>
    have hx:a2r ((p,t,(),(),b6V g,([g],(1:Int),(0:Int),())),td,g,())=((r.1,t',(),([g],(1:Int),(0:Int),())),td,()):=by
     unfold a2r
     rw[hl7,hpv]
     rfl
    show a1u (d1z K61 G61 c4C c4D c4E b9I c4F c2a a5r a2r a5s a5t) (M+1) (((a2r ((p,t,(),(),b6V g,([g],(1:Int),(0:Int),())),td,g,())).1.1,(a2r ((p,t,(),(),b6V g,([g],(1:Int),(0:Int),())),td,g,())).1.2.1,(),(a2r ((p,t,(),(),b6V g,([g],(1:Int),(0:Int),())),td,g,())).1.2.2.2.1,(a2r ((p,t,(),(),b6V g,([g],(1:Int),(0:Int),())),td,g,())).1.2.2.2.2.1,IntKind.i64.wrap ((a2r ((p,t,(),(),b6V g,([g],(1:Int),(0:Int),())),td,g,())).1.2.2.2.2.2.1+1),()),(a2r ((p,t,(),(),b6V g,([g],(1:Int),(0:Int),())),td,g,())).2)=_
    rw[hx]
    rfl
 unfold a8t a8u a8w a8v
 rw[hl4]
 cases b1v td g 7 p t (b6V g)with
 |none=>rfl
 |some r=>rfl
def d3c (s:ByteArray) (i:Nat):Bool:=!decide (a1z s (i:Int)<32)&&!decide (a1z s (i:Int)>126)
def d3d (s:ByteArray):Bool:=a0w (d3c s) 0 s.size
def spB:ByteArray:={ data:=#[32] }
def d3e (s:ByteArray):Bool:=!bstr s { data:=#[] }
def a1h (s:ByteArray):List ByteArray:=(a3W s spB).filter d3e
theorem d8g (s:ByteArray) (h:s.size<=1000):d1K ((s,(0:Int),()),())=some (bif d3d s then .inl ((s,()),())else .inr (((),false,()),())):=by
 refine(a0X (q:=d1J K48 G48) (fun k=>((s,(k:Int),()),())) s.size (d3c s) _ _ ?_ ?_ _ ?_:_)
 ·intro k f hk
  have e1:decide ((k:Int)<(s.size:Int))=true:=by simpa using hk
  have e2:decide (0<=(k:Int))=true:=by simp
  unfold d1J d3c
  simp only[a4w k (by omega),e1,e2,Bool.and_self,cond_true]
  cases decide (a1z s (k:Int)<32)
  ·cases decide (a1z s (k:Int)>126)<;>rfl
  ·rfl
 ·intro f
  simp[d1J]
 ·simp only[e3f];omega
theorem c7u (l:List ByteArray) (h:l.length<=1000):d1I (((),l,(l.length:Int),(0:Int),()),[],())=some (((),()),l.filter d3e,()):=by
 refine a0W (q:=c4K K48 G48) (fun v=>∃k:Nat,k<=l.length /\ v=(((),l,(l.length:Int),(k:Int),()),(l.take k).filter d3e,()))
  (fun _ r=>r=some (((),()),l.filter d3e,())) (fun v=>l.length-v.1.2.2.2.1.toNat) ?_ _ _ ⟨0,Nat.zero_le _,rfl⟩ (by show l.length-Int.toNat 0<c4L _;unfold c4L;dsimp only;omega)
 rintro v f ⟨k,hk,rfl⟩ ih
 unfold c4K
 dsimp only
 by_cases hlt:k<l.length
 ·have e1:decide ((k:Int)<(l.length:Int))=true:=by simpa using hlt
  have e2:decide (0<=(k:Int))=true:=by simp
  have hrow:List.getD l (Int.toNat (k:Int)) (zero Ty.str)=l[k]:=by rw[Int.toNat_natCast,a5l _ _ _ hlt]
  have ew:IntKind.i64.wrap ((k:Int)+1)=((k+1:Nat):Int):=a4w k (by omega)
  have e3:List.set (List.replicate 1 (zero Ty.str)) 0 l[k]=[l[k]]:=rfl
  have htk:List.take (k+1) l=List.take k l++[l[k]]:=List.take_succ_eq_append_getElem hlt
  have hmu:l.length-((k+1:Nat):Int).toNat<l.length-((k:Nat):Int).toNat:=by omega
  rw[e1,e2,hrow,ew,e3]
  simp only[Bool.and_self,cond_true]
  cases hb:!bstr l[k] { data:=#[] }with
  |true=>
    have hcap:a0F (List.length (List.filter d3e (List.take k l))+List.length [l[k]])=true:=a0K (by
     have:=List.length_filter_le d3e (List.take k l)
     rw[List.length_take]at this
     rw[List.length_singleton];omega)
    rw[hcap]
    simp only[cond_true]
    refine ih _ ⟨k+1,hlt,?_⟩ hmu
    rw[htk,List.filter_append,List.filter_cons_of_pos (show d3e l[k]=true from hb),List.filter_nil]
  |false=>
    simp only[cond_false]
    refine ih _ ⟨k+1,hlt,?_⟩ hmu
    rw[htk,List.filter_append,List.filter_cons_of_neg (by show ¬(d3e l[k]=true);rw[show d3e l[k]=false from hb];simp),List.filter_nil,List.append_nil]
 ·have e1:decide ((k:Int)<(l.length:Int))=false:=by simpa using hlt
  rw[e1,cond_false,List.take_of_length_le (by omega)]
theorem d3f (s:ByteArray):(a3W s spB).length<=s.size+1:=by
 have h1:=Lib.splitB_all spB (by decide) 0 _ s rfl
 unfold a3W
 rw[h1]
 have:=Lib.countB_le spB (by decide) s.size s (Nat.le_refl _)
 omega
theorem c0x (s:ByteArray):F16 (s,())=some (bif decide ((s.size:Int)>600)then([],false,())else bif !visB s then([],false,())else bif decide (((a1h s).length:Int)>24)then([],false,())else(a1h s,true,())):=by
 unfold F16 r16
 dsimp only
 cases h6:decide (((ByteArray.size s:Nat):Int)>600)with
 |true=>rfl
 |false=>
   have hs:s.size<=600:=by
    have:=of_decide_eq_false h6
    omega
   have hl:=d8g s (by omega)
   have hsl:=d3f s
   have k48:K48 (s,{ data:=#[32] },())=true:=by
    unfold K48
    rw[decide_eq_true (show(s:ByteArray).size<4294967281 by omega),decide_eq_true (show 1<=ByteArray.size { data:=#[32] }by decide)]
    rfl
   have g48:G48 (s,{ data:=#[32] },())=(a3W s spB,()):=rfl
   have hq:=c7u (a3W s spB) (by omega)
   simp only[cond_false,b9S,b9T,b9U,b9V,hl,Option.isSome_some,cond_true]
   cases d3d s with
   |false=>rfl
   |true=>
     simp only[cond_true,isR,xOf,cond_false,k48,g48,b1c,b1d,hq,Option.isSome_some,Option.getD_some,Bool.not_true]
     show(bif decide (((List.length (a1h s):Nat):Int)>24)then some ([],false,())else some (a1h s,true,()))=_
     cases decide (((List.length (a1h s):Nat):Int)>24)<;>rfl
def pcs:List UInt8->List (List UInt8)
 |[]=>[[]]
 |b::r=>if b=32 then[]::pcs r else match pcs r with
   |[]=>[[b]]
   |p::ps=>(b::p)::ps
theorem c5t:∀l,pcs l≠[]
 |[]=>by simp[pcs]
 |b::r=>by
   unfold pcs
   split
   ·simp
   ·split<;>simp
theorem b2W (b:UInt8) (l:List UInt8):Lib.index (b::l) [32]=if b=32 then 0 else if Lib.index l [32] == -1 then -1 else Lib.index l [32]+1:=by
 rw[Lib.index]
 by_cases h:b=32
 ·subst h;simp
 ·have:([32]:List UInt8).isPrefixOf (b::l)=false:=by
   simp[List.isPrefixOf]
   exact fun e=>h e.symm
  rw[this,if_neg h]
  simp
theorem c0y:∀l:List UInt8,Lib.splitK [32] 0 (Lib.count l [32]) l=pcs l
 |[]=>rfl
 |b::r=>by
   have ih:=c0y r
   by_cases h:b=32
   ·subst h
    rw[Lib.count_cons_eq,Nat.add_comm]
    unfold Lib.splitK pcs
    rw[b2W,if_pos rfl,if_neg (by decide),if_pos rfl]
    simp[ih]
   ·rw[Lib.count_cons_ne b 32 r h]
    unfold pcs
    rw[if_neg h]
    cases hc:Lib.count r [32]with
    |zero=>
      rw[hc]at ih
      rw[<- ih]
      rfl
    |succ k=>
      rw[hc]at ih
      have hne:¬(Lib.index r [32] == -1)=true:=fun e=>by
       have:=Lib.count_miss (s:=r) (sub:=[32]) (beq_iff_eq.1 e)
       omega
      have hge:=Lib.index_ge r [32]
      have hne':Lib.index r [32] ≠ -1:=fun e=>hne (beq_iff_eq.2 e)
      unfold Lib.splitK at ih ⊢
      rw[if_neg hne]at ih
      rw[b2W,if_neg h,if_neg hne,if_neg (by intro e;have:=beq_iff_eq.1 e;omega),<- ih]
      have e1:(Lib.index r [32]+1).toNat=(Lib.index r [32]).toNat+1:=by omega
      rw[e1]
      simp[Nat.add_assoc]
theorem c7v (s:ByteArray):(a3W s spB).map (·.data.toList)=pcs s.data.toList:=by
 unfold a3W
 rw[Lib.splitB_data]
 exact c0y _
theorem c2H:∀(x l:List UInt8),32 ∉ x->pcs (x++l)=match pcs l with
 |[]=>[x]
 |p::ps=>(x++p)::ps
 |[],l,_=>by
   have:=c5t l
   cases h:pcs l with
   |nil=>exact absurd h this
   |cons p ps=>simp[h]
 |b::x,l,hx=>by
   have hb:b≠32:=fun e=>hx (by rw[e];exact List.mem_cons_self ..)
   have ih:=c2H x l (fun e=>hx (List.mem_cons_of_mem _ e))
   rw[List.cons_append]
   conv=>lhs;unfold pcs
   rw[if_neg hb,ih]
   cases h:pcs l with
   |nil=>exact absurd h (c5t l)
   |cons p ps=>rfl
def a7M (f:List (List UInt8)):List UInt8:=Lib.join f [32]
theorem a7N (x:List UInt8):a7M [x]=x:=Lib.join_one x [32]
theorem a5P (x y:List UInt8) (r:List (List UInt8)):a7M (x::y::r)=x++32::a7M (y::r):=by
 unfold a7M
 rw[Lib.join_cons,Lib.join_cons]
 simp[Lib.joinTail]
theorem c5u:∀(f:List (List UInt8)),(∀x∈f,32 ∉ x)->f≠[]->pcs (a7M f)=f
 |[],_,h=>absurd rfl h
 |[x],h,_=>by
   rw[a7N]
   have:=c2H x [] (h x (List.mem_cons_self ..))
   rw[List.append_nil]at this
   rw[this]
   simp[pcs]
 |x::y::r,h,_=>by
   rw[a5P,c2H x _ (h x (List.mem_cons_self ..))]
   have ih:=c5u (y::r) (fun z hz=>h z (List.mem_cons_of_mem _ hz)) (by simp)
   have:pcs (32::a7M (y::r))=[]::(y::r):=by
    conv=>lhs;unfold pcs
    rw[if_pos rfl,ih]
   rw[this]
   simp
theorem e0O:∀(l:List UInt8),∀p∈pcs l,32 ∉ p /\ ∀b∈p,b∈l
 |[],p,hp=>by
   have:p=[]:=by simpa[pcs]using hp
   subst this
   exact⟨by simp,fun b hb=>by cases hb⟩
 |b::r,p,hp=>by
   have ih:=e0O r
   unfold pcs at hp
   split at hp
   ·rcases List.mem_cons.1 hp with h|h
    ·subst h;exact⟨by simp,fun b hb=>by cases hb⟩
    ·exact⟨(ih p h).1,fun c hc=>List.mem_cons_of_mem _ ((ih p h).2 c hc)⟩
   ·rename_i hb
    split at hp
    ·rename_i h0;exact absurd h0 (c5t r)
    ·rename_i q qs hq
     have hq':=ih q (by rw[hq];exact List.mem_cons_self ..)
     rcases List.mem_cons.1 hp with h|h
     ·subst h
      refine⟨fun e=>?_,fun c hc=>?_⟩
      ·rcases List.mem_cons.1 e with e|e
       ·exact hb e.symm
       ·exact hq'.1 e
      ·rcases List.mem_cons.1 hc with e|e
       ·rw[e];exact List.mem_cons_self ..
       ·exact List.mem_cons_of_mem _ (hq'.2 c e)
     ·have:=ih p (by rw[hq];exact List.mem_cons_of_mem _ h)
      exact⟨this.1,fun c hc=>List.mem_cons_of_mem _ (this.2 c hc)⟩
def wt:List (List UInt8)->Nat
 |[]=>0
 |p::ps=>p.length+1+wt ps
theorem e0P:∀l,wt (pcs l)=l.length+1
 |[]=>rfl
 |b::r=>by
   have ih:=e0P r
   unfold pcs
   split
   ·simp[wt,ih];omega
   ·split
    ·rename_i h0;exact absurd h0 (c5t r)
    ·rename_i q qs hq
     rw[hq]at ih
     simp[wt]at ih ⊢
     omega
theorem c0z (g:List UInt8->Bool):∀l,wt (l.filter g)<=wt l
 |[]=>Nat.le_refl _
 |p::ps=>by
   have:=c0z g ps
   rw[List.filter_cons]
   split<;>simp only[wt]<;>omega
theorem d3g:∀f,(a7M f).length<=wt f /\ (f≠[]->(a7M f).length+1=wt f)
 |[]=>⟨Nat.le_refl _,fun h=>absurd rfl h⟩
 |[x]=>by rw[a7N];simp[wt]
 |x::y::r=>by
   have:=(d3g (y::r)).2 (by simp)
   rw[a5P]
   simp only[List.length_append,List.length_cons,wt]at this ⊢
   exact⟨by omega,fun _=>by omega⟩
def fl (l:List UInt8):List (List UInt8):=(pcs l).filter (·≠[])
theorem e4G (l:List UInt8):∀p∈fl l,p≠[] /\ 32 ∉ p /\ ∀b∈p,b∈l:=fun p hp=>by
 have h:=List.mem_filter.1 hp
 exact⟨by simpa using h.2,e0O l p h.1⟩
theorem e4H (l:List UInt8):fl (a7M (fl l))=fl l:=by
 by_cases h:fl l=[]
 ·rw[h];rfl
 ·show(pcs (a7M (fl l))).filter _=fl l
  rw[c5u (fl l) (fun x hx=>(e4G l x hx).2.1) h]
  exact List.filter_eq_self.2 fun x hx=>by simpa using(e4G l x hx).1
theorem e9R (l:List UInt8):(a7M (fl l)).length<=l.length:=by
 by_cases h:fl l=[]
 ·rw[h];exact Nat.zero_le _
 ·have h1:=(d3g (fl l)).2 h
  have h2:=c0z (fun p=>decide (p≠[])) (pcs l)
  rw[e0P]at h2
  have h3:wt (fl l)<=l.length+1:=h2
  omega
theorem d3h {a b:ByteArray} (h:a.data.toList=b.data.toList):a=b:=by
 apply ByteArray.ext
 exact Array.ext' h
theorem c2I:∀{l m:List ByteArray},l.map (·.data.toList)=m.map (·.data.toList)->l=m
 |[],[],_=>rfl
 |a::l,b::m,h=>by
   simp only[List.map_cons,List.cons.injEq]at h
   rw[d3h h.1,c2I h.2]
 |[],_::_,h=>by simp at h
 |_::_,[],h=>by simp at h
theorem c0A (bs:ByteArray):∀(n i:Nat) (r:List UInt8),bs.size-i<=n->ByteArray.toList.loop bs i r=r.reverse++bs.data.toList.drop i
 |0,i,r,h=>by
   unfold ByteArray.toList.loop
   rw[if_neg (by omega)]
   have:bs.data.toList.length<=i:=by rw[Array.length_toList];exact Nat.le_of_sub_eq_zero (Nat.le_zero.1 h)
   rw[List.drop_of_length_le this,List.append_nil]
 |n+1,i,r,h=>by
   unfold ByteArray.toList.loop
   by_cases hi:i<bs.size
   ·rw[if_pos hi,c0A bs n (i+1) _ (by omega),List.reverse_cons,List.append_assoc]
    have hl:i<bs.data.toList.length:=by rw[Array.length_toList];exact hi
    rw[List.drop_eq_getElem_cons hl]
    congr 1
    rw[List.singleton_append]
    congr 1
    rw[Array.getElem_toList]
    show bs.get! i=_
    unfold ByteArray.get!
    exact getElem!_pos bs.data i hi
   ·rw[if_neg hi]
    have:bs.data.toList.length<=i:=by rw[Array.length_toList];exact Nat.not_lt.1 hi
    rw[List.drop_of_length_le this,List.append_nil]
theorem a7O (bs:ByteArray):bs.toList=bs.data.toList:=by
 unfold ByteArray.toList
 rw[c0A bs bs.size 0 [] (by omega)]
 simp
theorem d8h (s:ByteArray):d3e s=decide (s.data.toList≠[]):=by
 unfold d3e a3K
 rw[a7O,a7O]
 cases h:s.data.toList with
 |nil=>rfl
 |cons a l=>rfl
theorem a3v (s:ByteArray):(a1h s).map (·.data.toList)=fl s.data.toList:=by
 unfold a1h fl
 rw[<- c7v,List.filter_map]
 congr 1
 apply List.filter_congr
 intro x _
 exact d8h x
theorem a5Q (f:List ByteArray):(a5c f).data.toList=a7M (f.map (·.data.toList)):=rfl
theorem c2J (s:ByteArray):a1h (a5c (a1h s))=a1h s:=by
 apply c2I
 rw[a3v,a5Q,a3v,e4H]
theorem a8H (s:ByteArray):(a5c (a1h s)).size<=s.size:=by
 have h:=e9R s.data.toList
 rw[<- a3v,<- a5Q]at h
 have e:∀b:ByteArray,b.size=b.data.toList.length:=fun b=>by rw[Array.length_toList];rfl
 rw[e,e]
 exact h
theorem b6W (a b:ByteArray):a3K a b=true↔a=b:=by
 unfold a3K
 rw[a7O,a7O,beq_iff_eq]
 exact⟨d3h,fun h=>by rw[h]⟩
theorem c0B (s:ByteArray) (i:Nat):d3c s i=true↔32<=(s.data.toList.getD i 0).toNat /\ (s.data.toList.getD i 0).toNat<=126:=by
 unfold d3c a1z
 rw[Int.toNat_natCast]
 generalize (s.data.toList.getD i 0).toNat=n
 simp only[Bool.and_eq_true,Bool.not_eq_true',decide_eq_false_iff_not]
 omega
theorem c5v:∀(n k:Nat) (g:Nat->Bool),a0w g k n=true↔∀i,k<=i->i<k+n->g i=true
 |0,k,g=>by
   constructor
   ·intro _ i h1 h2;omega
   ·intro _;rfl
 |n+1,k,g=>by
   unfold a0w
   have ih:=c5v n (k+1) g
   constructor
   ·intro h i h1 h2
    cases hg:g k with
    |false=>rw[hg]at h;exact absurd h (by simp)
    |true=>
      rw[hg]at h
      by_cases he:i=k
      ·rw[he];exact hg
      ·exact ih.1 (by simpa using h) i (by omega) (by omega)
   ·intro h
    rw[h k (Nat.le_refl _) (by omega)]
    have:=ih.2 fun i h1 h2=>h i (by omega) (by omega)
    simpa using this
theorem d8i (s:ByteArray):d3d s=true↔∀b∈s.data.toList,32<=b.toNat /\ b.toNat<=126:=by
 unfold d3d
 rw[c5v]
 have hlen:s.size=s.data.toList.length:=by rw[Array.length_toList];rfl
 constructor
 ·intro h b hb
  obtain⟨i,hi,rfl⟩:=List.getElem_of_mem hb
  have:=(c0B s i).1 (h i (Nat.zero_le _) (by omega))
  rw[a5l _ _ _ hi]at this
  exact this
 ·intro h i _ hi
  have hi':i<s.data.toList.length:=by omega
  rw[c0B,a5l _ _ _ hi']
  exact h _ (List.getElem_mem _)
theorem c0C:∀(f:List (List UInt8)) (b:UInt8),b∈a7M f->b=32∨∃p∈f,b∈p
 |[],b,h=>by cases h
 |[x],b,h=>by rw[a7N]at h;exact .inr ⟨x,List.mem_cons_self ..,h⟩
 |x::y::r,b,h=>by
   rw[a5P]at h
   rcases List.mem_append.1 h with h|h
   ·exact .inr ⟨x,List.mem_cons_self ..,h⟩
   ·rcases List.mem_cons.1 h with h|h
    ·exact .inl h
    ·rcases c0C (y::r) b h with h|⟨p,hp,hb⟩
     ·exact .inl h
     ·exact .inr ⟨p,List.mem_cons_of_mem _ hp,hb⟩
theorem d8j (s:ByteArray) (h:d3d s=true):d3d (a5c (a1h s))=true:=by
 rw[d8i]at h ⊢
 intro b hb
 rw[a5Q,a3v]at hb
 rcases c0C _ b hb with rfl|⟨p,hp,hb⟩
 ·decide
 ·exact h b ((e4G _ p hp).2.2 b hb)
theorem c5w {s:ByteArray} {f:List ByteArray} (h:F16 (s,())=some (f,true,())):s.size<=600 /\ d3d s=true /\ f=a1h s /\ f.length<=24:=by
 rw[c0x]at h
 cases h6:decide ((s.size:Int)>600)with
 |true=>rw[h6]at h;simp at h
 |false=>
   rw[h6]at h
   cases hv:d3d s with
   |false=>rw[hv]at h;simp at h
   |true=>
     rw[hv]at h
     cases hl:decide (((a1h s).length:Int)>24)with
     |true=>rw[hl]at h;simp at h
     |false=>
       rw[hl]at h
       simp only[cond_false,Bool.not_true,Option.some.injEq,Prod.mk.injEq,and_true]at h
       have h1:=of_decide_eq_false h6
       have h2:=of_decide_eq_false hl
       exact⟨by omega,rfl,h.symm,by rw[<- h];omega⟩
theorem d8k {s:ByteArray} {f:List ByteArray} (h:F16 (s,())=some (f,true,())):F16 (a5c f,())=some (f,true,()):=by
 obtain⟨h1,h2,rfl,h4⟩:=c5w h
 have h5:=a8H s
 rw[c0x,d8j s h2,c2J,decide_eq_false (by omega),decide_eq_false (by omega)]
 rfl
theorem d3i (n:Int) (h:I64 n):F25 (n,())=some (bOf (Lib.itoa n),()):=by
 have k:K65 (n,())=true:=by
  unfold K65
  unfold I64 at h
  rw[decide_eq_true (show(-9223372036854775808:Int)<=n by omega),decide_eq_true (show n<=(9223372036854775807:Int)by omega)]
  rfl
 unfold F25 r25
 dsimp only
 rw[k]
 rfl
theorem d3j (s:ByteArray) (hs:s.size<=1000):∃y,d1d ((s,(0:Int),(0:Int),()),())=some y /\ ∀z,y = .inl z->z.1.1=s /\ I64 z.1.2.1:=by
 refine a0W (q:=d6L K25 G25) (fun v=>v.1.1=s /\ I64 v.1.2.1 /\ (0<=(v.1.2.2.1:Int)) /\ (v.1.2.2.1:Int)<=s.size) (fun _ r=>∃y,r=some y /\ ∀z,y = .inl z->z.1.1=s /\ I64 z.1.2.1)
  (fun v=>((s.size:Int)-v.1.2.2.1).toNat) ?_ _ _ ⟨rfl,by show I64 0;unfold I64;omega,by show(0:Int)<=0;omega,by show(0:Int)<=_;omega⟩ (by show((s.size:Int)-0).toNat<d6M _;unfold d6M;dsimp only;omega)
 rintro⟨⟨t,n,i,_⟩,_⟩ f ⟨h1,h2,h3,h4⟩ ih
 dsimp only at h1 h2 h3 h4 ih
 subst h1
 unfold d6L
 dsimp only
 by_cases hi:i<(t.size:Int)
 ·have e1:decide (i<(t.size:Int))=true:=decide_eq_true hi
  have e2:decide (0<=i)=true:=decide_eq_true h3
  rw[e1,e2]
  simp only[Bool.and_self,cond_true]
  cases decide (a1z t i<48)
  ·cases decide (a1z t i>57)
   ·have e:IntKind.i64.wrap (i+1)=i+1:=w64 (by omega) (by omega)
    simp only[cond_false,e]
    refine ih _ ⟨rfl,d1U _,?_,?_⟩ ?_
    ·show 0<=i+1;omega
    ·show i+1<=t.size;omega
    ·show((t.size:Int)-(i+1)).toNat<((t.size:Int)-i).toNat;omega
   ·exact⟨_,rfl,fun z hz=>by cases hz⟩
  ·exact⟨_,rfl,fun z hz=>by cases hz⟩
 ·have e1:decide (i<(t.size:Int))=false:=decide_eq_false hi
  rw[e1]
  exact⟨_,rfl,fun z hz=>by cases hz;exact⟨rfl,h2⟩⟩
theorem e9S (s:ByteArray):∃n b,F17 (s,())=some (n,b,()):=by
 unfold F17 r17
 dsimp only
 cases ((s.size:Int)==0)
 ·cases h10:decide ((s.size:Int)>10)
  ·have h:s.size<=10:=by
    have:=of_decide_eq_false h10
    omega
   obtain⟨y,hy,hz⟩:=d3j s (by omega)
   simp only[cond_false,c4v,c4w,c4x,c4y,hy,Option.isSome_some,cond_true]
   cases y with
   |inr y=>exact⟨_,_,rfl⟩
   |inl z=>
     obtain⟨_,hI⟩:=hz z rfl
     obtain⟨⟨t,n,_⟩,_⟩:=z
     simp only[isR,cond_false,xOf]
     have hk:K25 (n,())=true:=by unfold K25;rw[d3i n hI];rfl
     have key:∀c d:Bool,∃(m:Int) (b:Bool),(bif c then some (0,false,())else bif d then some (0,false,())else some (n,true,()):Option (Den R17))=some (m,b,()):=fun c d=>by
      cases c
      ·cases d
       ·exact⟨_,_,rfl⟩
       ·exact⟨_,_,rfl⟩
      ·exact⟨_,_,rfl⟩
     rw[show K25 (n,_)=true from hk]
     exact key _ _
  ·exact⟨_,_,rfl⟩
 ·exact⟨_,_,rfl⟩
def d3k (l:List UInt8):List UInt8:=if l.length<3 then(if l.length<2 then(if l.length<1 then 48::48::48::l else 48::48::l)else 48::l)else l
theorem c5x {u:Nat} (h:u<10):Lib.decDigits u=[dg u]:=by rw[Lib.decDigits,dif_pos h];rfl
theorem b2X {u:Nat} (h:¬u<10):Lib.decDigits u=Lib.decDigits (u/10)++[dg (u%10)]:=by rw[Lib.decDigits,dif_neg h];rfl
theorem d3l (m:Nat) (h:m<1000):d3k (Lib.decDigits m)=(Lib.decDigits (1000+m)).drop 1:=by
 have e0:dg 0=48:=rfl
 have a1:Lib.decDigits (1000+m)=[dg 1,dg (m/100),dg (m/10%10),dg (m%10)]:=by
  rw[b2X (by omega),b2X (by omega),b2X (by omega),c5x (by omega)]
  have x1:(1000+m)/10/10/10=1:=by omega
  have x2:(1000+m)/10/10%10=m/100:=by omega
  have x3:(1000+m)/10%10=m/10%10:=by omega
  have x4:(1000+m)%10=m%10:=by omega
  rw[x1,x2,x3,x4]
  rfl
 rw[a1]
 by_cases h1:m<10
 ·rw[c5x h1]
  have y1:m/100=0:=by omega
  have y2:m/10%10=0:=by omega
  have y3:m%10=m:=by omega
  rw[y1,y2,y3,e0]
  rfl
 ·by_cases h2:m<100
  ·rw[b2X h1,c5x (by omega)]
   have y1:m/100=0:=by omega
   have y2:m/10%10=m/10:=by omega
   rw[y1,y2,e0]
   rfl
  ·rw[b2X h1,b2X (by omega),c5x (by omega)]
   have y1:m/10/10=m/100:=by omega
   rw[y1]
   rfl
theorem d8l (n:Int) (sg l:List UInt8) (hl:1<=l.length) (hl':l.length<=100):d1i ((n,bOf sg,bOf l,()),())=some ((n,bOf sg,bOf (d3k l),()),()):=by
 have e48:({ data:=#[48] }:ByteArray)=bOf [48]:=rfl
 refine a0W (q:=c4A d4j d4k K25 G25) (fun v=>∃l:List UInt8,v=((n,bOf sg,bOf l,()),()) /\ 1<=l.length /\ l.length<=100) (fun v r=>∀l:List UInt8,v=((n,bOf sg,bOf l,()),())->1<=l.length->r=some ((n,bOf sg,bOf (d3k l),()),()))
  (fun v=>3-v.1.2.2.1.size) ?_ _ _ ⟨l,rfl,hl,hl'⟩ (by unfold d1h;dsimp only;omega) l rfl hl
 rintro v f ⟨l,rfl,h1,h1'⟩ ih l' he _
 have he2:bOf l=bOf l':=congrArg (fun v=>v.1.2.2.1) he
 have he3:l=l':=by
  have:=congrArg (fun b=>b.data.toList) he2
  simpa[bOf]using this
 subst he3
 unfold c4A
 dsimp only
 rw[a2F]
 by_cases h3:l.length<3
 ·have e1:decide (((l.length:Nat):Int)<3)=true:=decide_eq_true (by omega)
  have e2:decide (ByteArray.size { data:=#[48] }+l.length<=9223372036854775807)=true:=decide_eq_true (by show 1+_<=_;omega)
  rw[e1,e2,cond_true,cond_true,e48,a8F]
  refine(ih _ ⟨[48]++l,rfl,by simp,by simp;omega⟩ ?_ ([48]++l) rfl (by simp)).trans ?_
  ·show 3-(bOf ([48]++l)).size<3-(bOf l).size
   rw[a2F,a2F];simp;omega
  ·have:d3k ([48]++l)=d3k l:=by
    match l,h1,h3 with
    |[a],_,_=>rfl
    |[a,b],_,_=>rfl
    |_::_::_::_,_,h=>simp at h;omega
   rw[this]
 ·have e1:decide (((l.length:Nat):Int)<3)=false:=decide_eq_false (by omega)
  rw[e1,cond_false]
  unfold d3k
  rw[if_neg h3]
theorem d3m (n:Int):f1y (n,())=some (decide ((-1000000000:Int)<=n)&&decide (n<=1000000000),()):=by
 have k:F44 (n,-1000000000,1000000000,())=some (decide ((-1000000000:Int)<=n)&&decide (n<=1000000000),()):=b9W _
 unfold f1y f6f
 dsimp only
 unfold K44 G44
 rw[k]
 rfl
theorem c0D (m:Nat) (sg:List UInt8) (n:Int) (hm:m<=1000000000) (hs:sg.length<=1) (hn:n=(m:Int)) :
 (bif K25 (((m%1000:Nat):Int),())then
  bif a8s ((n,bOf sg,G25 (((m%1000:Nat):Int),())),())then
   bif K25 (IntKind.wrap IntKind.i64 (Int.tdiv (a1Y ((n,bOf sg,G25 (((m%1000:Nat):Int),())),())).fst.fst 1000),())then
    bif decide (ByteArray.size (a1Y ((n,bOf sg,G25 (((m%1000:Nat):Int),())),())).fst.snd.fst+ByteArray.size (G25 (IntKind.wrap IntKind.i64 (Int.tdiv (a1Y ((n,bOf sg,G25 (((m%1000:Nat):Int),())),())).fst.fst 1000),())).fst<=9223372036854775807)then
     bif decide (ByteArray.size ((a1Y ((n,bOf sg,G25 (((m%1000:Nat):Int),())),())).fst.snd.fst++(G25 (IntKind.wrap IntKind.i64 (Int.tdiv (a1Y ((n,bOf sg,G25 (((m%1000:Nat):Int),())),())).fst.fst 1000),())).fst)+ByteArray.size { data:=#[46] }<=9223372036854775807)then
      bif decide (ByteArray.size ((a1Y ((n,bOf sg,G25 (((m%1000:Nat):Int),())),())).fst.snd.fst++(G25 (IntKind.wrap IntKind.i64 (Int.tdiv (a1Y ((n,bOf sg,G25 (((m%1000:Nat):Int),())),())).fst.fst 1000),())).fst++{ data:=#[46] })+ByteArray.size (a1Y ((n,bOf sg,G25 (((m%1000:Nat):Int),())),())).fst.snd.snd.fst<=9223372036854775807)then
       some ((a1Y ((n,bOf sg,G25 (((m%1000:Nat):Int),())),())).fst.snd.fst++(G25 (IntKind.wrap IntKind.i64 (Int.tdiv (a1Y ((n,bOf sg,G25 (((m%1000:Nat):Int),())),())).fst.fst 1000),())).fst++{ data:=#[46] }++(a1Y ((n,bOf sg,G25 (((m%1000:Nat):Int),())),())).fst.snd.snd.fst,())
      else none
     else none
    else none
   else none
  else none
 else none:Option (Den d4l))=some (bOf (sg++Lib.itoa ((m/1000:Nat):Int)++[46]++(Lib.itoa ((1000+m%1000:Nat):Int)).drop 1),()):=by
 have i1:I64 ((m%1000:Nat):Int):=by unfold I64;omega
 have i2:I64 ((m/1000:Nat):Int):=by unfold I64;omega
 have f1:=d3i _ i1
 have f2:=d3i _ i2
 have k1:K25 (((m%1000:Nat):Int),())=true:=by unfold K25;rw[f1];rfl
 have g1:G25 (((m%1000:Nat):Int),())=(bOf (Lib.itoa ((m%1000:Nat):Int)),()):=by unfold G25;rw[f1];rfl
 have k2:K25 (((m/1000:Nat):Int),())=true:=by unfold K25;rw[f2];rfl
 have g2:G25 (((m/1000:Nat):Int),())=(bOf (Lib.itoa ((m/1000:Nat):Int)),()):=by unfold G25;rw[f2];rfl
 obtain⟨l1,u1⟩:=a4C ((m%1000:Nat):Int) (by omega)
 obtain⟨l2,u2⟩:=a4C ((m/1000:Nat):Int) (by omega)
 have hl:=d8l n sg (Lib.itoa ((m%1000:Nat):Int)) l1 (by omega)
 have ew:IntKind.i64.wrap (Int.tdiv n 1000)=((m/1000:Nat):Int):=by
  rw[hn,Int.tdiv_eq_ediv_of_nonneg (by omega),w64 (by omega) (by omega)];omega
 have dot:({ data:=#[46] }:ByteArray)=bOf [46]:=rfl
 have et:(Lib.itoa ((1000+m%1000:Nat):Int)).drop 1=d3k (Lib.itoa ((m%1000:Nat):Int)):=by
  have e1:Lib.itoa ((1000+m%1000:Nat):Int)=Lib.decDigits (1000+m%1000):=by unfold Lib.itoa;rw[if_neg (by omega),Int.toNat_natCast]
  have e2:Lib.itoa ((m%1000:Nat):Int)=Lib.decDigits (m%1000):=by unfold Lib.itoa;rw[if_neg (by omega),Int.toNat_natCast]
  rw[e1,e2,d3l _ (by omega)]
 rw[k1,g1,cond_true,et]
 generalize Lib.itoa ((m%1000:Nat):Int)=A at *
 have hp:(d3k A).length<=30:=by
  unfold d3k
  split
  ·split
   ·split<;>simp<;>omega
   ·simp;omega
  ·omega
 have hk:a8s ((n,bOf sg,bOf A,()),())=true:=by unfold a8s;rw[hl];rfl
 have hx:a1Y ((n,bOf sg,bOf A,()),())=((n,bOf sg,bOf (d3k A),()),()):=by unfold a1Y;rw[hl];rfl
 rw[hk,hx]
 dsimp only
 rw[ew,k2,g2]
 generalize Lib.itoa ((m/1000:Nat):Int)=B at *
 dsimp only
 simp only[cond_true,dot,a8F,a2F,List.length_append,List.length_singleton]
 rw[decide_eq_true (show sg.length+B.length<=9223372036854775807 by omega),decide_eq_true (show sg.length+B.length+1<=9223372036854775807 by omega),decide_eq_true (show sg.length+B.length+1+(d3k A).length<=9223372036854775807 by omega)]
 rfl
theorem e4I (n:Int):f1z (n,())=some (bOf (e5x n),()):=by
 unfold f1z f6h e5x
 dsimp only
 unfold d4j d4k
 rw[d3m]
 simp only[Option.isSome_some,Option.getD_some,cond_true]
 by_cases hin:(-1000000000:Int)<=n /\ n<=1000000000
 ·have e0:(decide ((-1000000000:Int)<=n)&&decide (n<=1000000000))=true:=by rw[decide_eq_true hin.1,decide_eq_true hin.2];rfl
  rw[e0,Bool.not_true,cond_false,if_pos hin]
  by_cases hneg:n<0
  ·have e1:decide (n<0)=true:=decide_eq_true hneg
   have e2:IntKind.i64.wrap (0-n)=((n.natAbs:Nat):Int):=by rw[w64 (by omega) (by omega)];omega
   have e3:Int.tmod ((n.natAbs:Nat):Int) 1000=((n.natAbs%1000:Nat):Int):=by rw[Int.tmod_eq_emod_of_nonneg (by omega)];omega
   rw[e1,cond_true,e2,e3,if_pos hneg]
   exact c0D n.natAbs [45] _ (by omega) (by simp) rfl
  ·have e1:decide (n<0)=false:=decide_eq_false hneg
   have e3:Int.tmod n 1000=((n.natAbs%1000:Nat):Int):=by rw[Int.tmod_eq_emod_of_nonneg (by omega)];omega
   rw[e1,cond_false,e3,if_neg hneg]
   exact c0D n.natAbs [] n (by omega) (by simp) (by omega)
 ·have e0:(decide ((-1000000000:Int)<=n)&&decide (n<=1000000000))=false:=by
   rw[Bool.and_eq_false_iff,decide_eq_false_iff_not,decide_eq_false_iff_not]
   omega
  rw[e0,Bool.not_false,cond_true,if_neg hin]
  rfl
theorem c7w (s t:ByteArray) (sg d:Int) (hs:t.size<=1000):∃y,b0X ((s,t,sg,d,(0:Int),(0:Int),()),())=some y:=by
 refine a0W (q:=b5V e1J b2i d6O e2P) (fun v=>v.1.2.1=t /\ (0<=(v.1.2.2.2.2.2.1:Int)) /\ (v.1.2.2.2.2.2.1:Int)<=t.size) (fun _ r=>∃y,r=some y)
  (fun v=>((t.size:Int)-v.1.2.2.2.2.2.1).toNat) ?_ _ _ ⟨rfl,by show(0:Int)<=0;omega,by show(0:Int)<=_;omega⟩ (by show((t.size:Int)-0).toNat<b5W _;unfold b5W;dsimp only;omega)
 rintro⟨⟨s,u,sg,d,n,i,_⟩,_⟩ f ⟨h1,h3,h4⟩ ih
 dsimp only at h1 h3 h4 ih
 subst h1
 unfold b5V
 dsimp only
 by_cases hi:i<(u.size:Int)
 ·have e1:decide (i<(u.size:Int))=true:=decide_eq_true hi
  have e2:decide (0<=i)=true:=decide_eq_true h3
  have e:IntKind.i64.wrap (i+1)=i+1:=w64 (by omega) (by omega)
  have go:∀m:Int,∃y,f ((s,u,sg,d,m,i+1,()),())=some y:=fun m=>by
   refine ih _ ⟨rfl,?_,?_⟩ ?_
   ·show 0<=i+1;omega
   ·show i+1<=u.size;omega
   ·show((u.size:Int)-(i+1)).toNat<((u.size:Int)-i).toNat;omega
  rw[e1,e2,e]
  simp only[Bool.and_self,cond_true]
  cases (i==d)
  ·simp only[cond_false]
   cases decide (a1z u i<48)
   ·cases decide (a1z u i>57)
    ·exact go _
    ·exact⟨_,rfl⟩
   ·exact⟨_,rfl⟩
  ·exact go _
 ·have e1:decide (i<(u.size:Int))=false:=decide_eq_false hi
  rw[e1]
  exact⟨_,rfl⟩
theorem e9T (n:Int):d6O (n,())=true:=by unfold d6O;rw[e4I];rfl
theorem d3n (s t:ByteArray) (sg:Int) (ht:t.size<=1000):∃n b,(bif decide ((b2i (t,46,())).fst<1)then some (0,false,())
 else bif (((t.size:Nat):Int) != IntKind.wrap IntKind.i64 ((b2i (t,46,())).fst+4))then some (0,false,())
 else bif decide ((b2i (t,46,())).fst>7)then some (0,false,())
 else bif a5K ((s,t,sg,(b2i (t,46,())).fst,0,0,()),())then
  bif a7v ((s,t,sg,(b2i (t,46,())).fst,0,0,()),())then some (a9E ((s,t,sg,(b2i (t,46,())).fst,0,0,()),())).fst
  else bif d6O (IntKind.wrap IntKind.i64 ((a2D ((s,t,sg,(b2i (t,46,())).fst,0,0,()),())).fst.snd.snd.fst*(a2D ((s,t,sg,(b2i (t,46,())).fst,0,0,()),())).fst.snd.fst),())then
   bif !bstr (e2P (IntKind.wrap IntKind.i64 ((a2D ((s,t,sg,(b2i (t,46,())).fst,0,0,()),())).fst.snd.snd.fst*(a2D ((s,t,sg,(b2i (t,46,())).fst,0,0,()),())).fst.snd.fst),())).fst (a2D ((s,t,sg,(b2i (t,46,())).fst,0,0,()),())).fst.fst then some (0,false,())
   else some (IntKind.wrap IntKind.i64 ((a2D ((s,t,sg,(b2i (t,46,())).fst,0,0,()),())).fst.snd.snd.fst*(a2D ((s,t,sg,(b2i (t,46,())).fst,0,0,()),())).fst.snd.fst),true,())
  else none
 else none:Option (Den d4m))=some (n,b,()):=by
 have two:∀(c:Bool) (n:Int) (b:Bool) (m:Int),∃(n':Int) (b':Bool),(bif c then some (n,b,())else some (m,true,()):Option (Den d4m))=some (n',b',()):=fun c n b m=>by cases c<;>exact⟨_,_,rfl⟩
 generalize (b2i (t,46,())).fst=d
 obtain⟨y,hy⟩:=c7w s t sg d ht
 have hk:a5K ((s,t,sg,d,0,0,()),())=true:=by unfold a5K;rw[hy];rfl
 rw[hk,e9T]
 simp only[cond_true]
 cases decide (d<1)
 ·cases (((t.size:Nat):Int) != IntKind.wrap IntKind.i64 (d+4))
  ·cases decide (d>7)
   ·cases a7v ((s,t,sg,d,0,0,()),())
    ·exact two _ _ _ _
    ·exact⟨_,_,rfl⟩
   ·exact⟨_,_,rfl⟩
  ·exact⟨_,_,rfl⟩
 ·exact⟨_,_,rfl⟩
theorem e4J (s:ByteArray) (hs:s.size<=1000):∃n b,e8i (s,())=some (n,b,()):=by
 unfold e8i f6j
 dsimp only
 have k235:∀t:ByteArray,e1J (t,46,())=true:=fun _=>rfl
 have plain:=d3n s s 1 hs
 cases hb:a3K s { data:=#[] }with
 |true=>
   simp only[Bool.not_true,cond_false,k235,cond_true]
   exact plain
 |false=>
   have hpos:0<s.size:=by
    apply Nat.pos_of_ne_zero
    intro h0
    have:s={ data:=#[] }:=d3h (by
     have:s.data.toList.length=0:=by rw[Array.length_toList];exact h0
     rw[List.length_eq_zero_iff.1 this])
    rw[(b6W _ _).2 this]at hb
    cases hb
   have e1:(decide (0<=0)&&decide (0<((ByteArray.size s:Nat):Int)))=true:=by simp;omega
   have e2:(decide (0<=1)&&decide (1<=((ByteArray.size s:Nat):Int))&&decide (((ByteArray.size s:Nat):Int)<=((ByteArray.size s:Nat):Int)))=true:=by simp;omega
   rw[e1,e2]
   simp only[Bool.not_false,cond_true]
   cases (a1z s 0==45)
   ·simp only[cond_false,k235,cond_true]
    exact plain
   ·simp only[cond_true,k235]
    refine d3n s _ (-1) ?_
    rw[ByteArray.size_extract]
    omega
def d8m (l:List (Den S68)) (m:Den S63):Int:=bif a5u l then(match a0M (fun i=>b1e (at' l i) m) 0 l.length with|some j=>(j:Int)|none=>-1)else -1
theorem e4K (l:List (Den S68)) (m:Den S63) (h:d1N l):f2c (l,m,())=some (d8m l m,()):=by
 have hlen:=h.len
 have hl:b9P (((),l,(l.length:Int),(0:Int),()),(m.1,m.2.1,()),())=some (match a0M (fun i=>b1e (at' l i) m) 0 l.length with|some j => .inr (((j:Int),()),())|none => .inl ((),())):=by
  refine(a7m (q:=b9O K92 G92 c6M c6N) (fun k=>(((),l,(l.length:Int),(k:Int),()),(m.1,m.2.1,()),())) l.length (fun i=>b1e (at' l i) m) _ (fun j => .inr (((j:Int),()),())) ?_ ?_ _ ?_:_)
  ·intro k f hk
   unfold b9O
   have e1:decide ((k:Int)<(l.length:Int))=true:=by simpa using hk
   have e2:decide (0<=(k:Int))=true:=by simp
   have ha:List.getD l k (zero S68)=at' l k:=rfl
   simp only[a4w k (by omega),e1,e2,Bool.and_self,cond_true,Int.toNat_natCast,ha,c6M,c6N,c2g,Option.isSome_some,Option.getD_some]
  ·intro f
   simp[b9O]
  ·simp only[d1B];omega
 unfold f2c f7p d8m
 simp only[K92,G92,d1O l h,Option.isSome_some,Option.getD_some,cond_true,b6s,b6t,b6u,hl]
 cases a5u l
 ·rfl
 ·cases a0M (fun i=>b1e (at' l i) m) 0 l.length<;>rfl
def d8n (l:List (Den S68)) (k:Int) (m:Den S63):Int:=
 bif !sailsB l then -1 else bif inB k 0 ((l.length:Int)-1)&&a3q (at' l k.toNat) m then k else d8m l m
theorem e4L (l:List (Den S68)) (k:Int) (m:Den S63) (h:d1N l) (hl:l.length<=13) (hm:I64 m.2.1):f2d (l,k,m,())=some (d8n l k m,()):=by
 have e1:=d1O l h
 have k1:K92 (l,())=true:=by unfold K92;rw[e1];rfl
 have g1:G92 (l,())=(a5u l,()):=by unfold G92;rw[e1];rfl
 have w1:IntKind.i64.wrap ((l.length:Int)-1)=(l.length:Int)-1:=w64 (by omega) (by omega)
 have e2:F44 (k,0,(l.length:Int)-1,())=some (inB k 0 ((l.length:Int)-1),()):=a3r _
 have k2:K44 (k,0,(l.length:Int)-1,())=true:=by unfold K44;rw[e2];rfl
 have g2:G44 (k,0,(l.length:Int)-1,())=(inB k 0 ((l.length:Int)-1),()):=by unfold G44;rw[e2];rfl
 have hg:=h.rng k.toNat
 have e3:=e0o (at' l k.toNat,m,()) hg.1 hg.2 hm
 have k3:K20 (at' l k.toNat,m,())=true:=by unfold K20;rw[e3];rfl
 have g3:G20 (at' l k.toNat,m,())=(a3q (at' l k.toNat) m,()):=by unfold G20;rw[e3];rfl
 have e4:=e4K l m h
 have k4:e3c (l,m,())=true:=by unfold e3c;rw[e4];rfl
 have g4:e3d (l,m,())=(d8m l m,()):=by unfold e3d;rw[e4];rfl
 unfold f2d f7s d8n
 show(bif K92 (l,())then bif !(G92 (l,())).1 then some (-1,())else bif K44 (k,0,IntKind.i64.wrap ((l.length:Int)-1),())then bif (G44 (k,0,IntKind.i64.wrap ((l.length:Int)-1),())).1 then
  bif (decide (0<=k)&&decide (k<(l.length:Int)))then bif K20 (at' l k.toNat,m,())then bif (G20 (at' l k.toNat,m,())).1 then some (k,())else bif e3c (l,m,())then some (e3d (l,m,()))else none else none else none
  else bif e3c (l,m,())then some (e3d (l,m,()))else none else none else none:Option (Den d1C))=_
 rw[w1,k1,g1,k2,g2,k3,g3,k4,g4]
 cases a5u l
 ·rfl
 ·cases hin:inB k 0 ((l.length:Int)-1)with
  |false=>rfl
  |true=>
    have d2:(decide (0<=k)&&decide (k<(l.length:Int)))=true:=by
     unfold inB at hin
     simp only[Bool.and_eq_true,decide_eq_true_eq]at hin ⊢
     omega
    rw[d2]
    cases a3q (at' l k.toNat) m<;>rfl
def a2x (l:List (Den S68)) (s:ByteArray):Int:=match a0M (fun i=>a3K (at' l i).1 s) 0 l.length with|some j=>(j:Int)|none=>-1
def daV (a b:Nat):Nat:=a0i .add .f32 a (a0i .mul .f32 (a0i .sub .f32 b a) 1056964608)
def a5w (w x:Nat×Nat):(Nat×Nat)×Bool×Unit:=bif !velB w then((0,0),false,())else bif !velB x then((0,0),false,())else((daV w.1 x.1,daV w.2 x.2),true,())
theorem e4M (w x:Nat×Nat):f1F (w,x,1056964608,())=some (a5w w x):=by
 have e1:=a4X w
 have e2:=a4X x
 have e3:f6t (1056964608,())=some (true,()):=by decide +kernel
 have e4:∀a b:Nat,f6w (a,b,1056964608,())=some (daV a b,()):=fun _ _=>rfl
 unfold f1F f6y a5w
 dsimp only
 simp only[K45,G45,e1,e2,f1B,f1C,e3,f1D,f1E,e4,Option.isSome_some,Option.getD_some,cond_true]
 cases a5d w
 ·rfl
 ·cases a5d x<;>rfl
def uI (s:ByteArray):Int:=(G17 (s,())).1
def uB (s:ByteArray):Bool:=(G17 (s,())).2.1
theorem e0Q (s:ByteArray):F17 (s,())=some (uI s,uB s,()):=by
 obtain⟨n,b,h⟩:=e9S s
 unfold uI uB G17
 rw[h]
 rfl
def xI (s:ByteArray):Int:=(b7b (s,())).1
def xB (s:ByteArray):Bool:=(b7b (s,())).2.1
theorem d3o (s:ByteArray) (hs:s.size<=1000):e8i (s,())=some (xI s,xB s,()):=by
 obtain⟨n,b,h⟩:=e4J s hs
 unfold xI xB b7b
 rw[h]
 rfl
def b6X (n:Int):Nat:=bif decide ((-1000000000:Int)<=n)&&decide (n<=1000000000)then a0i .quo .f64 (FloatKind.nearest .f64 n) 4652007308841189376 else 0
theorem d3p (n:Int):f1A (n,())=some (b6X n,()):=by
 unfold f1A f6m b6X
 dsimp only
 unfold d4j d4k
 rw[d3m]
 simp only[Option.isSome_some,Option.getD_some,cond_true]
 cases (decide ((-1000000000:Int)<=n)&&decide (n<=1000000000))<;>rfl
def b6Y (a b:ByteArray):Nat×Nat×Bool×Unit:=(b6X (xI a),b6X (xI b),xB a&&xB b,())
theorem e4N (a b:ByteArray) (ha:a.size<=1000) (hb:b.size<=1000):e5p ([a,b],())=some (b6Y a b):=by
 have e1:=d3o a ha
 have e2:=d3o b hb
 have e3:=d3p (xI a)
 have e4:=d3p (xI b)
 have k1:d6Q (a,())=true:=by unfold d6Q;rw[e1];rfl
 have g1:b7b (a,())=(xI a,xB a,()):=by unfold b7b;rw[e1];rfl
 have k2:d6Q (b,())=true:=by unfold d6Q;rw[e2];rfl
 have g2:b7b (b,())=(xI b,xB b,()):=by unfold b7b;rw[e2];rfl
 have k3:d6S (xI a,())=true:=by unfold d6S;rw[e3];rfl
 have g3:d1k (xI a,())=(b6X (xI a),()):=by unfold d1k;rw[e3];rfl
 have k4:d6S (xI b,())=true:=by unfold d6S;rw[e4];rfl
 have g4:d1k (xI b,())=(b6X (xI b),()):=by unfold d1k;rw[e4];rfl
 unfold e5p f6p b6Y
 show(bif d6Q (a,())then bif d6Q (b,())then bif d6S ((b7b (a,())).1,())then bif d6S ((b7b (b,())).1,())then bif (b7b (a,())).2.1 then some ((d1k ((b7b (a,())).1,())).1,(d1k ((b7b (b,())).1,())).1,(b7b (b,())).2)else some ((d1k ((b7b (a,())).1,())).1,(d1k ((b7b (b,())).1,())).1,false,())else none else none else none else none:Option (Den d1l))=_
 rw[k1,g1,k2,g2]
 dsimp only
 rw[k3,g3,k4,g4]
 cases xB a<;>rfl
theorem d3q:IsR 4652007308841189376 1000:=c2r false 8796093022208000 (-43) (by decide +kernel) (by decide) (by decide +kernel)
theorem d3r (n:Int):∃r,IsR (b6X n) r /\ Abs r 2000000:=by
 unfold b6X
 by_cases h:(-1000000000:Int)<=n /\ n<=1000000000
 ·rw[decide_eq_true h.1,decide_eq_true h.2]
  have hn:=e9x n (by omega)
  have h1:((-1000000000:Int):Rat)<=((n:Int):Rat):=Rat.intCast_le_intCast.2 h.1
  have h2:((n:Int):Rat)<=((1000000000:Int):Rat):=Rat.intCast_le_intCast.2 h.2
  have e1:((-1000000000:Int):Rat)=-1000000000:=by decide +kernel
  have e2:((1000000000:Int):Rat)=1000000000:=by decide +kernel
  rw[e1]at h1
  rw[e2]at h2
  obtain⟨r,r1,r2,r3⟩:=g1d (q:=((n:Int):Rat)/1000) (A:=1000000) (ε:=1) hn d3q (by decide +kernel) (by rw[Rat.div_def,Rat.mul_assoc,show((1000:Rat)⁻¹*1000)=1 by decide +kernel,Rat.mul_one]) 20 (by
   rw[Rat.div_def]
   have e3:(1000:Rat)⁻¹=1/1000:=by decide +kernel
   rw[e3]
   constructor<;>grind) (by decide +kernel) (by decide +kernel) (by decide) (by decide)
  refine⟨r,r1,?_⟩
  rw[Rat.div_def]at r2 r3
  have e3:(1000:Rat)⁻¹=1/1000:=by decide +kernel
  rw[e3]at r2 r3
  constructor<;>grind
 ·have:(decide ((-1000000000:Int)<=n)&&decide (n<=1000000000))=false:=by
   rw[Bool.and_eq_false_iff,decide_eq_false_iff_not,decide_eq_false_iff_not]
   omega
  rw[this]
  exact⟨0,e3Q,by constructor<;>decide +kernel⟩
theorem a9a (n:Int):(a1a .f64 .f32 (b6X n)).1=true:=by
 obtain⟨r,h1,h2⟩:=d3r n
 exact a7J h1 (h2.mono (by decide +kernel))
def kpV (Y:Yv):Yv:=bif decide (Y.sl ≥ 0)then Y.setSl (bif (a2v Y).2.1 then d8n Y.sails Y.sl (a2v Y).1 else -1)else Y
def b1w (f:List ByteArray) (Y:Yv):Bool×Yv:=
 bif uB (fAt f 1)&&!decide (uI (fAt f 1)>359)then(true,kpV (Y.setHd (uI (fAt f 1))))else(false,Y)
def c0E (w:Nat×Nat):Bool:=feq .f32 w.1 0&&feq .f32 w.2 0
def a2u (f:List ByteArray):Nat×Nat:=d4y (b6Y (fAt f 1) (fAt f 2))
def c2K (f:List ByteArray) (Y:Yv):Bool×Yv:=
 bif (b6Y (fAt f 1) (fAt f 2)).2.2.1&&a5d (a2u f)then
  bif c0E Y.wd then(true,kpV (Y.setWd (a2u f)))
  else bif (a5w Y.wd (a2u f)).2.1&&a5d (a5w Y.wd (a2u f)).1 then(true,kpV (Y.setWd (a5w Y.wd (a2u f)).1))else(false,Y)
 else(false,Y)
def c2L (f:List ByteArray) (Y:Yv):Bool×Yv:=
 bif a3K (fAt f 1) d2M then(true,Y.setSl (-1))
 else bif !decide (a2x Y.sails (fAt f 1)<0)&&((a2v Y).2.1&&b1e (at' Y.sails (a2x Y.sails (fAt f 1)).toNat) (a2v Y).1)then(true,Y.setSl (a2x Y.sails (fAt f 1)))else(false,Y)
def d3s (f:List ByteArray):Nat×Nat:=((b6Y (fAt f 1) (fAt f 2)).1,(b6Y (fAt f 1) (fAt f 2)).2.1)
def e4O (f:List ByteArray) (Y:Yv):Bool×Yv:=
 bif (b6Y (fAt f 1) (fAt f 2)).2.2.1&&(a1J (d3s f)).2.1 then(true,Y.setPs (d3s f))else(false,Y)
def goS (Y:Yv):Nat:=bif decide (Y.sl ≥ 0)then a5b Y else 0
def goR (n:Int) (Y:Yv):(Nat×Nat)×Bool×Unit:=f8m Y.ps Y.tm (Y.hd,goS Y,n,()) Y.1.2.1
def goV (n:Int) (Y:Yv):Bool×Yv:=
 bif inB n 1 3600&&(!decide (Y.tm+n>10000000)&&!decide ((Y.tk.length:Int) ≥ 200))then
  bif (goR n Y).2.1&&(a1J (goR n Y).1).2.1 then(true,Y.setGo (Y.tm+n) (goR n Y).1 (Y.tk++[((a1J (goR n Y).1).1,Y.tm+n,())]))else(false,Y)
 else(false,Y)
def goW (f:List ByteArray) (Y:Yv):Bool×Yv:=bif uB (fAt f 1)then goV (uI (fAt f 1)) Y else(false,Y)
def isC (f:List ByteArray) (n:Nat) (s:ByteArray):Bool:=decide (f.length=n)&&a3K (fAt f 0) s
def a4g (f:List ByteArray) (Y:Yv):Bool×Yv:=
 bif isC f 2 a6l then b1w f Y else bif isC f 3 b6Q then c2K f Y else bif isC f 2 c2u then c2L f Y else bif isC f 3 e3Y then e4O f Y else bif isC f 2 sGo then goW f Y else(false,Y)
theorem f8n (Y:Yv) (h:YM Y):kpK K19 G19 c2c c2d Y prY=some (true,kpV Y):=by
 have e8:=d2N Y
 have k8:K19 (Y,())=true:=by unfold K19;rw[e8];rfl
 have g8:G19 (Y,())=a2v Y:=by unfold G19;rw[e8];rfl
 have hl:=b1u h
 have e1:=e4L Y.sails Y.sl (a2v Y).1 (h.boat.2.2.1.1.good hl) hl (c0q Y)
 have k1:c2c (Y.sails,Y.sl,(a2v Y).1,())=true:=by unfold c2c;rw[e1];rfl
 have g1:c2d (Y.sails,Y.sl,(a2v Y).1,())=(d8n Y.sails Y.sl (a2v Y).1,()):=by unfold c2d;rw[e1];rfl
 unfold kpK kpV
 rw[k8,g8,k1,g1]
 cases decide (Y.sl ≥ 0)
 ·rfl
 ·cases (a2v Y).2.1<;>rfl
theorem d3t (f:List ByteArray) (Y:Yv) (h:YM Y) (hf:0<f.length) (hs:a3K (fAt f 0) a6l=true∨a3K (fAt f 0) b6Q=true):a8C K19 G19 c2c c2d f Y prY=some (true,kpV Y):=by
 have d:ixB f 0=true:=decide_eq_true (by omega)
 unfold a8C
 rw[d,f8n Y h]
 rcases hs with hs|hs
 ·rw[hs];rfl
 ·rw[hs];cases a3K (fAt f 0) a6l<;>rfl
theorem d3u (f:List ByteArray) (Y:Yv) (hf:0<f.length) (s:ByteArray) (hs:a3K (fAt f 0) s=true) (h1:a3K s a6l=false) (h2:a3K s b6Q=false):a8C K19 G19 c2c c2d f Y prY=some (true,Y):=by
 have d:ixB f 0=true:=decide_eq_true (by omega)
 have e:=(b6W _ _).1 hs
 unfold a8C
 rw[d,e,h1,h2]
 rfl
theorem d3v (f:List ByteArray) (n:Nat) (hn:0<n) (s:ByteArray) (a b:Option (Bool×Yv)):b1Q f (n:Int) s a b=bif isC f n s then a else b:=by
 unfold b1Q isC
 by_cases h:f.length=n
 ·have e1:((f.length:Int)==(n:Int))=true:=by rw[beq_iff_eq];omega
  have d:ixB f 0=true:=decide_eq_true (by omega)
  rw[e1,d,decide_eq_true h]
  rfl
 ·have e1:((f.length:Int)==(n:Int))=false:=by rw[beq_eq_false_iff_ne];omega
  rw[e1,decide_eq_false h]
  rfl
theorem c7x {f:List ByteArray} {n:Nat} {s:ByteArray} (h:isC f n s=true):f.length=n /\ a3K (fAt f 0) s=true:=by
 unfold isC at h
 simpa using h
theorem YM.hd' {Y:Yv} (h:YM Y) (k:Int):YM (Y.setHd k):=⟨h.boat,h.tk,h.lg⟩
theorem YM.wd' {Y:Yv} (h:YM Y) (w:Nat×Nat):YM (Y.setWd w):=⟨h.boat,h.tk,h.lg⟩
theorem ix1 {f:List ByteArray} (h:2<=f.length):ixB f 1=true:=decide_eq_true (by omega)
theorem uK (s:ByteArray):K17 (s,())=true:=by unfold K17;rw[e0Q];rfl
theorem uG (s:ByteArray):G17 (s,())=(uI s,uB s,()):=by unfold G17;rw[e0Q];rfl
theorem d8o (f:List ByteArray) (Y:Yv) (h:YM Y) (hc:isC f 2 a6l=true):b2P K17 G17 K19 G19 c2c c2d f Y prY=some (b1w f Y):=by
 obtain⟨hl,hs⟩:=c7x hc
 have he:=d3t f (Y.setHd (uI (fAt f 1))) (h.hd' _) (by omega) (.inl hs)
 unfold b2P b1w
 rw[ix1 (by omega),uK,uG]
 dsimp only
 rw[he]
 cases uB (fAt f 1)
 ·rfl
 ·cases decide (uI (fAt f 1)>359)<;>rfl
theorem e0R {f:List ByteArray} (hl:f.length=3) (hz:∀k,(fAt f k).size<=1000):slB f=true /\ e2Q (b1C f,())=true /\ e2R (b1C f,())=b6Y (fAt f 1) (fAt f 2):=by
 obtain⟨a,b,c,rfl⟩:∃a b c,f=[a,b,c]:=by
  match f,hl with
  |[a,b,c],_=>exact⟨a,b,c,rfl⟩
 have e:=e4N b c (hz 1) (hz 2)
 refine⟨rfl,?_,?_⟩
 ·show(e5p ([b,c],())).isSome=true
  rw[e];rfl
 ·show(e5p ([b,c],())).getD _=_
  rw[e];rfl
theorem e4P (f:List ByteArray) (Y:Yv) (h:YM Y) (hc:isC f 3 b6Q=true) (hz:∀k,(fAt f k).size<=1000):c7g e2Q e2R K45 G45 e2S e2T K19 G19 c2c c2d f Y prY=some (c2K f Y):=by
 obtain⟨hl,hs⟩:=c7x hc
 obtain⟨t1,t2,t3⟩:=e0R hl hz
 have n1:(a1a .f64 .f32 (b6Y (fAt f 1) (fAt f 2)).1).1=true:=a9a _
 have n2:(a1a .f64 .f32 (b6Y (fAt f 1) (fAt f 2)).2.1).1=true:=a9a _
 have e1:=a4X (a2u f)
 have k1:K45 (a2u f,())=true:=by unfold K45;rw[e1];rfl
 have g1:G45 (a2u f,())=(a5d (a2u f),()):=by unfold G45;rw[e1];rfl
 have e2:=e4M Y.wd (a2u f)
 have k2:e2S (Y.wd,a2u f,1056964608,())=true:=by unfold e2S;rw[e2];rfl
 have g2:e2T (Y.wd,a2u f,1056964608,())=a5w Y.wd (a2u f):=by unfold e2T;rw[e2];rfl
 have e3:=a4X (a5w Y.wd (a2u f)).1
 have k3:K45 ((a5w Y.wd (a2u f)).1,())=true:=by unfold K45;rw[e3];rfl
 have g3:G45 ((a5w Y.wd (a2u f)).1,())=(a5d (a5w Y.wd (a2u f)).1,()):=by unfold G45;rw[e3];rfl
 have he1:=d3t f (Y.setWd (a2u f)) (h.wd' _) (by omega) (.inr hs)
 have he2:=d3t f (Y.setWd (a5w Y.wd (a2u f)).1) (h.wd' _) (by omega) (.inr hs)
 unfold c7g c2K
 rw[t1,t2,t3,n1,n2]
 have hx:d4y (b6Y (fAt f 1) (fAt f 2))=a2u f:=rfl
 rw[hx,k1,g1,k2,g2,k3,g3,he1,he2]
 have hcalm:(feq FloatKind.f32 Y.wd.1 0&&feq FloatKind.f32 Y.wd.2 0)=c0E Y.wd:=rfl
 rw[hcalm]
 cases (b6Y (fAt f 1) (fAt f 2)).2.2.1
 ·rfl
 ·cases a5d (a2u f)
  ·rfl
  ·cases c0E Y.wd
   ·cases (a5w Y.wd (a2u f)).2.1
    ·rfl
    ·cases a5d (a5w Y.wd (a2u f)).1<;>rfl
   ·rfl
theorem e4Q (f:List ByteArray) (Y:Yv) (h:YM Y) (hc:isC f 2 c2u=true):c7h c6B c6C K19 G19 c6M c6N c2c c2d f Y prY=some (c2L f Y):=by
 obtain⟨hl,hs⟩:=c7x hc
 have hlen:=b1u h
 have e8:=d2N Y
 have k8:K19 (Y,())=true:=by unfold K19;rw[e8];rfl
 have g8:G19 (Y,())=a2v Y:=by unfold G19;rw[e8];rfl
 have e1:e7w (Y.sails,fAt f 1,())=some (a2x Y.sails (fAt f 1),()):=d1M Y.sails (fAt f 1) (by omega)
 have k1:c6B (Y.sails,fAt f 1,())=true:=by unfold c6B;rw[e1];rfl
 have g1:c6C (Y.sails,fAt f 1,())=(a2x Y.sails (fAt f 1),()):=by unfold c6C;rw[e1];rfl
 have k2:c6M (at' Y.sails (a2x Y.sails (fAt f 1)).toNat,(a2v Y).1,())=true:=by unfold c6M;rw[c2g];rfl
 have g2:c6N (at' Y.sails (a2x Y.sails (fAt f 1)).toNat,(a2v Y).1,())=(b1e (at' Y.sails (a2x Y.sails (fAt f 1)).toNat) (a2v Y).1,()):=by unfold c6N;rw[c2g];rfl
 have he:=d3u f (Y.setSl (a2x Y.sails (fAt f 1))) (by omega) c2u hs (by decide +kernel) (by decide +kernel)
 have hlt:a2x Y.sails (fAt f 1)<(Y.sails.length:Int):=by
  unfold a2x
  cases hf:a0M (fun i=>a3K (at' Y.sails i).1 (fAt f 1)) 0 Y.sails.length with
  |none=>show(-1:Int)<_;omega
  |some j=>have:=(a1V hf).2.1;show(j:Int)<_;omega
 have ha:∀k,List.getD Y.sails k (zero S68)=at' Y.sails k:=fun _=>rfl
 unfold c7h c2L
 rw[ix1 (by omega),k1,k8,g1,g8]
 dsimp only
 rw[ha,k2,g2,he]
 cases a3K (fAt f 1) d2M
 ·by_cases h0:a2x Y.sails (fAt f 1)<0
  ·rw[decide_eq_true h0];rfl
  ·have d1:decide (0<=a2x Y.sails (fAt f 1))=true:=decide_eq_true (by omega)
   rw[decide_eq_false h0,d1,decide_eq_true hlt]
   cases (a2v Y).2.1
   ·rfl
   ·cases b1e (at' Y.sails (a2x Y.sails (fAt f 1)).toNat) (a2v Y).1<;>rfl
 ·rfl
theorem e9U (f:List ByteArray) (Y:Yv) (hc:isC f 3 e3Y=true) (hz:∀k,(fAt f k).size<=1000):e5u e2Q e2R K19 G19 K23 G23 c2c c2d f Y prY=some (e4O f Y):=by
 obtain⟨hl,hs⟩:=c7x hc
 obtain⟨t1,t2,t3⟩:=e0R hl hz
 have e1:=d2V (d3s f)
 have k1:K23 (d3s f,())=true:=by unfold K23;rw[e1];rfl
 have g1:G23 (d3s f,())=a1J (d3s f):=by unfold G23;rw[e1];rfl
 have he:=d3u f (Y.setPs (d3s f)) (by omega) e3Y hs (by decide +kernel) (by decide +kernel)
 unfold e5u e4O
 rw[t1,t2,t3]
 have hx:((b6Y (fAt f 1) (fAt f 2)).1,(b6Y (fAt f 1) (fAt f 2)).2.1)=d3s f:=rfl
 rw[hx,k1,g1,he]
 cases (b6Y (fAt f 1) (fAt f 2)).2.2.1
 ·rfl
 ·cases (a1J (d3s f)).2.1<;>rfl
theorem e0S (f:List ByteArray) (Y:Yv) (h:YM Y) (n:Int) (s:Nat) (hn:n<=3600) (ht:0<=Y.tm /\ Y.tm<=10000000) (hl:f.length=2) (hs:a3K (fAt f 0) sGo=true) (hsp:goS Y=s) (t:Int) (het:t=Y.tm+n) :
 c2v K19 G19 K23 G23 e3a e3b c2c c2d f Y n t s prY=some (bif (goR n Y).2.1&&(a1J (goR n Y).1).2.1 then(true,Y.setGo t (goR n Y).1 (Y.tk++[((a1J (goR n Y).1).1,t,())]))else(false,Y)):=by
 have e1:e2Z (Y.ps,Y.tm,[((Y.hd,s,n,()):Den a3I)],Y.1.2.1,())=some (goR n Y):=by
  unfold goR
  rw[hsp]
  exact e4F Y.ps Y.tm (Y.hd,s,n,()) Y.1.2.1 h.boat.2.1 ht.1 (by omega) hn
 have k1:e3a (Y.ps,Y.tm,List.set (List.replicate 1 (zero a3I)) 0 (Y.hd,s,n,()),Y.1.2.1,())=true:=by
  show(e2Z (Y.ps,Y.tm,[((Y.hd,s,n,()):Den a3I)],Y.1.2.1,())).isSome=true
  rw[e1];rfl
 have g1:e3b (Y.ps,Y.tm,List.set (List.replicate 1 (zero a3I)) 0 (Y.hd,s,n,()),Y.1.2.1,())=goR n Y:=by
  show(e2Z (Y.ps,Y.tm,[((Y.hd,s,n,()):Den a3I)],Y.1.2.1,())).getD _=_
  rw[e1];rfl
 have e2:=d2V (goR n Y).1
 have k2:K23 ((goR n Y).1,())=true:=by unfold K23;rw[e2];rfl
 have g2:G23 ((goR n Y).1,())=a1J (goR n Y).1:=by unfold G23;rw[e2];rfl
 have hcap:a0F (List.length Y.tk+1)=true:=a0K (by have:=h.tk;omega)
 have he:=d3u f (Y.setGo t (goR n Y).1 (Y.tk++[((a1J (goR n Y).1).1,t,())])) (by omega) sGo hs (by decide +kernel) (by decide +kernel)
 unfold c2v
 rw[k1,g1,k2,g2,hcap,he]
 cases (goR n Y).2.1
 ·rfl
 ·cases (a1J (goR n Y).1).2.1<;>rfl
theorem f8o (f:List ByteArray) (Y:Yv) (h:YM Y) (hc:isC f 2 sGo=true) (ht:0<=Y.tm /\ Y.tm<=10000000):goK K17 G17 K19 G19 K23 G23 K44 G44 K57 G57 e3a e3b c2c c2d f Y prY=some (goW f Y):=by
 obtain⟨hl,hs⟩:=c7x hc
 unfold goK goW
 rw[ix1 (by omega),uK,uG]
 dsimp only
 generalize uI (fAt f 1)=n
 have e2:F44 (n,1,3600,())=some (inB n 1 3600,()):=a3r _
 have k2:K44 (n,1,3600,())=true:=by unfold K44;rw[e2];rfl
 have g2:G44 (n,1,3600,())=(inB n 1 3600,()):=by unfold G44;rw[e2];rfl
 have e3:=e0F Y
 have k3:K57 (Y,())=true:=by unfold K57;rw[e3];rfl
 have g3:G57 (Y,())=(a5b Y,()):=by unfold G57;rw[e3];rfl
 rw[k2,g2,k3,g3]
 unfold goV
 cases uB (fAt f 1)
 ·rfl
 cases hin:inB n 1 3600 with
 |false=>rfl
 |true=>
   have hin':=hin
   unfold inB at hin'
   simp only[Bool.and_eq_true,decide_eq_true_eq]at hin'
   have w1:IntKind.i64.wrap (Y.tm+n)=Y.tm+n:=w64 (by omega) (by omega)
   rw[w1]
   cases decide (Y.tm+n>10000000)
   ·cases decide ((Y.tk.length:Int) ≥ 200)
    ·cases hsl:decide (Y.sl ≥ 0)with
     |false=>exact e0S f Y h n 0 hin'.2 ht hl hs (by unfold goS;rw[hsl];rfl) _ rfl
     |true=>exact e0S f Y h n (a5b Y) hin'.2 ht hl hs (by unfold goS;rw[hsl];rfl) _ rfl
    ·rfl
   ·rfl
theorem d8p (f:List ByteArray) (Y:Yv) (h:YM Y) (hz:∀k,(fAt f k).size<=1000) (ht:0<=Y.tm /\ Y.tm<=10000000):d8c f Y=some (a4g f Y):=by
 unfold d8c c7i a4g
 have c2:∀(s:ByteArray) (a b:Option (Bool×Yv)),b1Q f 2 s a b=bif isC f 2 s then a else b:=fun s a b=>d3v f 2 (by decide) s a b
 have c3:∀(s:ByteArray) (a b:Option (Bool×Yv)),b1Q f 3 s a b=bif isC f 3 s then a else b:=fun s a b=>d3v f 3 (by decide) s a b
 rw[c2,c3,c2,c3,c2]
 cases c1:isC f 2 a6l with
 |true=>exact d8o f Y h c1
 |false=>
 cases c1:isC f 3 b6Q with
 |true=>exact e4P f Y h c1 hz
 |false=>
 cases c1:isC f 2 c2u with
 |true=>exact e4Q f Y h c1
 |false=>
 cases c1:isC f 3 e3Y with
 |true=>exact e9U f Y c1 hz
 |false=>
 cases c1:isC f 2 sGo with
 |true=>exact f8o f Y h c1 ht
 |false=>rfl
def spF (s:ByteArray):List ByteArray:=(G16 (s,())).1
def spO (s:ByteArray):Bool:=(G16 (s,())).2.1
theorem b2Y (s:ByteArray):F16 (s,())=some (spF s,spO s,()):=by
 unfold spF spO G16
 rw[c0x]
 cases decide ((s.size:Int)>600)
 ·cases d3d s
  ·rfl
  ·cases decide (((a1h s).length:Int)>24)<;>rfl
 ·rfl
theorem d3w {s:ByteArray} (h:spO s=true):s.size<=600 /\ d3d s=true /\ spF s=a1h s /\ (spF s).length<=24:=by
 have e:=b2Y s
 rw[h]at e
 exact c5w e
theorem e4R {s:ByteArray} (h:spO s=true):spF (a5c (spF s))=spF s /\ spO (a5c (spF s))=true:=by
 have e:=b2Y s
 rw[h]at e
 have e2:=d8k e
 rw[b2Y]at e2
 simp only[Option.some.injEq,Prod.mk.injEq,and_true]at e2
 exact e2
theorem c0F:∀(f:List (List UInt8)) (x:List UInt8),x∈f->x.length<=(a7M f).length
 |[y],x,h=>by
   rw[List.mem_singleton.1 h,a7N];exact Nat.le_refl _
 |y::z::r,x,h=>by
   rw[a5P]
   simp only[List.length_append,List.length_cons]
   rcases List.mem_cons.1 h with h|h
   ·rw[h];omega
   ·have:=c0F (z::r) x h
    omega
theorem d3x (b:ByteArray):b.size=b.data.toList.length:=by rw[Array.length_toList];rfl
theorem d8q {s:ByteArray} (h:spO s=true) (k:Int):(fAt (spF s) k).size<=600:=by
 obtain⟨h1,_,h3,_⟩:=d3w h
 have hj:=a8H s
 unfold fAt
 rw[h3,List.getD_eq_getElem?_getD]
 cases hx:(a1h s)[k.toNat]? with
 |none=>exact Nat.zero_le _
 |some x=>
   have hm:x∈a1h s:=List.mem_of_getElem? hx
   have:=c0F ((a1h s).map (·.data.toList)) x.data.toList (List.mem_map.2 ⟨x,hm,rfl⟩)
   rw[<- a5Q,<- d3x,<- d3x]at this
   show x.size<=600
   omega
theorem d3y (f:List ByteArray):(c1p f { data:=#[32] }).length=(a5c f).size:=by
 unfold a5c
 show _=Array.size _
 rw[List.size_toArray]
theorem e4S {s:ByteArray} (h:spO s=true):K60 (spF s,{ data:=#[32] },())=true:=by
 obtain⟨h1,_,h3,h4⟩:=d3w h
 have hj:=a8H s
 unfold K60
 show(decide ((spF s).length<=140737488355328)&&decide ((c1p (spF s) { data:=#[32] }).length<=140737488355328))=true
 rw[d3y,h3]
 rw[h3]at h4
 simp only[Bool.and_eq_true,decide_eq_true_eq]
 omega
structure Left (Y Z:Yv):Prop where
 boat:Z.1=Y.1
 lg:Z.lg=Y.lg
 tk:Z.tk=Y.tk∨∃s,Z.tk=Y.tk++[s]
theorem Left.refl (Y:Yv):Left Y Y:=⟨rfl,rfl,.inl rfl⟩
theorem c2M (Y:Yv) (k:Int):Left Y (Y.setSl k):=⟨rfl,rfl,.inl rfl⟩
theorem a4D (Y:Yv):Left Y (kpV Y):=by
 unfold kpV
 cases decide (Y.sl ≥ 0)
 ·exact .refl Y
 ·exact c2M _ _
theorem b1x (f:List ByteArray) (Y:Yv):Left Y (a4g f Y).2:=by
 unfold a4g
 cases isC f 2 a6l
 ·cases isC f 3 b6Q
  ·cases isC f 2 c2u
   ·cases isC f 3 e3Y
    ·cases isC f 2 sGo
     ·exact .refl Y
     ·show Left Y (goW f Y).2
      unfold goW goV
      cases uB (fAt f 1)
      ·exact .refl Y
      ·cases (inB (uI (fAt f 1)) 1 3600&&(!decide (Y.tm+uI (fAt f 1)>10000000)&&!decide ((Y.tk.length:Int) ≥ 200)))
       ·exact .refl Y
       ·cases ((goR (uI (fAt f 1)) Y).2.1&&(a1J (goR (uI (fAt f 1)) Y).1).2.1)
        ·exact .refl Y
        ·exact⟨rfl,rfl,.inr ⟨_,rfl⟩⟩
    ·show Left Y (e4O f Y).2
     unfold e4O
     cases ((b6Y (fAt f 1) (fAt f 2)).2.2.1&&(a1J (d3s f)).2.1)
     ·exact .refl Y
     ·exact⟨rfl,rfl,.inl rfl⟩
   ·show Left Y (c2L f Y).2
    unfold c2L
    cases a3K (fAt f 1) d2M
    ·cases (!decide (a2x Y.sails (fAt f 1)<0)&&((a2v Y).2.1&&b1e (at' Y.sails (a2x Y.sails (fAt f 1)).toNat) (a2v Y).1))
     ·exact .refl Y
     ·exact c2M _ _
    ·exact c2M _ _
  ·show Left Y (c2K f Y).2
   unfold c2K
   cases ((b6Y (fAt f 1) (fAt f 2)).2.2.1&&a5d (a2u f))
   ·exact .refl Y
   ·cases c0E Y.wd
    ·cases ((a5w Y.wd (a2u f)).2.1&&a5d (a5w Y.wd (a2u f)).1)
     ·exact .refl Y
     ·exact⟨(a4D (Y.setWd _)).boat,(a4D (Y.setWd _)).lg,(a4D (Y.setWd _)).tk⟩
    ·exact⟨(a4D (Y.setWd _)).boat,(a4D (Y.setWd _)).lg,(a4D (Y.setWd _)).tk⟩
 ·show Left Y (b1w f Y).2
  unfold b1w
  cases (uB (fAt f 1)&&!decide (uI (fAt f 1)>359))
  ·exact .refl Y
  ·exact⟨(a4D (Y.setHd _)).boat,(a4D (Y.setHd _)).lg,(a4D (Y.setHd _)).tk⟩
def doB (Y:Yv) (s:ByteArray):Bool:=okV (a2v Y) Y&&(decide ((Y.lg.length:Int)<300)&&(spO s&&(a4g (spF s) Y).1))
def doZ (Y:Yv) (s:ByteArray):Yv:=(a4g (spF s) Y).2.setLg ((a4g (spF s) Y).2.lg++[a5c (spF s)])
def doV (Y:Yv) (s:ByteArray):Yv×Bool×Unit:=bif doB Y s then(doZ Y s,true,())else(Y,false,())
theorem c0G {m:Den R19} {Y:Yv} (h:okV m Y=true):b1t Y.1=true /\ (0<=Y.tm /\ Y.tm<=10000000) /\ (a1J Y.ps).2.1=true /\ (0<=Y.hd /\ Y.hd<=359) /\ a5d Y.wd=true /\ (-1<=Y.sl /\ Y.sl<=(Y.sails.length:Int)-1) /\ a7z Y.tk=true /\ Y.lg.length<=300 /\ e9P Y=false /\ f2t m Y=true:=by
 unfold okV e4x inB at h
 simp only[Bool.and_eq_true,decide_eq_true_eq,Bool.not_eq_true',decide_eq_false_iff_not]at h
 obtain⟨⟨h1,h2,h3,h4,h5,h6,h7,h8,h9⟩,h10⟩:=h
 exact⟨h1,h2,h3,h4,h5,h6,h7,by omega,h9,h10⟩
theorem d3z {t:List (Den S97)} (h:a7z t=true):t.length<=200:=by
 unfold a7z at h
 simp only[Bool.and_eq_true,decide_eq_true_eq]at h
 omega
theorem e4T (Y:Yv) (s:ByteArray) (h:YM Y):F27 (Y,s,())=some (doV Y s):=by
 have key:=e9O Y s h.boat h.tk h.lg (e9Q Y h) (b2Y s) (d:=(a4g (spF s) Y).1) (Z:=(a4g (spF s) Y).2) (fun ho hl hb=>by
  obtain⟨_,ht,_⟩:=c0G ho
  refine⟨d8p (spF s) Y h (fun k=>Nat.le_trans (d8q hb k) (by decide)) ht,fun hd=>⟨e4S hb,?_⟩⟩
  rw[(b1x (spF s) Y).lg]
  exact h.lg)
 rw[key]
 unfold doV doB doZ
 rfl
theorem YM.doV {Y:Yv} (h:YM Y) (s:ByteArray):YM (doV Y s).1:=by
 unfold AM.doV
 cases hd:doB Y s with
 |false=>exact h
 |true=>
   show YM (doZ Y s)
   unfold doB at hd
   simp only[Bool.and_eq_true,decide_eq_true_eq]at hd
   obtain⟨ho,hl,_,_⟩:=hd
   obtain⟨_,_,_,_,_,_,ht,_,_,_⟩:=c0G ho
   have htl:=d3z ht
   have L:=b1x (spF s) Y
   refine⟨?_,?_,?_⟩
   ·show a6c (a4g (spF s) Y).2.1
    rw[L.boat];exact h.boat
   ·show((a4g (spF s) Y).2.tk).length<=1000
    rcases L.tk with e|⟨x,e⟩
    ·rw[e];exact h.tk
    ·rw[e,List.length_append,List.length_singleton];omega
   ·show((a4g (spF s) Y).2.lg++[a5c (spF s)]).length<=1000
    rw[L.lg,List.length_append,List.length_singleton];omega
def b1S (Y:Yv) (ls:List ByteArray):Nat->Yv×List Bool
 |0=>(Y,[])
 |k+1=>((doV (b1S Y ls k).1 (ls.getD k (zero Ty.str))).1,(b1S Y ls k).2++[(doV (b1S Y ls k).1 (ls.getD k (zero Ty.str))).2.1])
theorem c2N (Y:Yv) (ls:List ByteArray) (h:YM Y):∀k,YM (b1S Y ls k).1
 |0=>h
 |k+1=>(c2N Y ls h k).doV _
theorem c5y (Y:Yv) (ls:List ByteArray):∀k,(b1S Y ls k).2.length=k
 |0=>rfl
 |k+1=>by
   show((b1S Y ls k).2++[_]).length=_
   rw[List.length_append,c5y Y ls k];rfl
abbrev J10:Type:=Unit×Unit×Unit×Unit×Unit×Unit×Int×Int×Int×Int×Unit×Int×Int×Int×Int×Int×(Nat×Nat)×Int×(Nat×Nat)×Int×Unit×Unit×Unit
def jn0:J10:=((),(),(),(),(),(),0,0,0,0,(),0,0,0,0,0,(0,0),0,(0,0),0,(),(),())
abbrev f9n:Type:=(((List (Den (.flt .f32)))×((List (Den (.int .i64)))×((List (Den (.slice (.flt .f32))))×((List (Den (a0S)))×((List (Den (.int .i64)))×((List (Den (S68)))×(Int×(Int×(Int×(Int×((List (Den (a1E)))×(Int×(Int×(Int×(Int×(Int×((Nat×Nat)×(Int×((Nat×Nat)×(Int×((List (Den (S97)))×((List (Den (.str)))×Unit)))))))))))))))))))))))
def flY (Y:Yv):f9n:=(Y.1.1.1,Y.1.1.2.1,Y.1.1.2.2.1,Y.1.2.1.1,Y.1.2.1.2.1,Y.1.2.2.1,Y.1.2.2.2.1.1.1.1,Y.1.2.2.2.1.1.1.2.1,Y.1.2.2.2.1.1.2.1.1,Y.1.2.2.2.1.1.2.1.2.1,Y.1.2.2.2.1.2.1,Y.1.2.2.2.1.2.2.1.1.1,Y.1.2.2.2.1.2.2.1.1.2.1,Y.1.2.2.2.1.2.2.1.2.1.1,Y.1.2.2.2.1.2.2.1.2.1.2.1,Y.2)
theorem e9V (v:b1R):v.1.2.2.2.1.length<d7P v:=by
 unfold d7P
 refine Nat.lt_of_le_of_lt ?_ (Nat.lt_add_of_pos_right (by decide))
 repeat (first|exact Nat.le_refl _|refine Nat.le_trans ?_ (Nat.le_add_right _ _))
theorem e4U (Y:Yv) (ls:List ByteArray) (k:Nat) (hk:k<ls.length) (hl:ls.length<=1000) (bs:List Bool) (hb:bs.length<=1000) (h:YM Y) (f:b1R->Option c2y) :
 c7n K36 G36 K27 G27 f (((),(),(),ls,(ls.length:Int),(k:Int),()),flY Y,jn0,bs,())=f (((),(),(),ls,(ls.length:Int),((k+1:Nat):Int),()),flY (doV Y (ls.getD k (zero Ty.str))).1,jn0,bs++[(doV Y (ls.getD k (zero Ty.str))).2.1],()):=by
 have e1:decide ((k:Int)<(ls.length:Int))=true:=by simpa using hk
 have e2:decide (0<=(k:Int))=true:=by simp
 have e:=e4T Y (ls.getD k (zero Ty.str)) h
 have k1:K27 (Y,ls.getD k (zero Ty.str),())=true:=by unfold K27;rw[e];rfl
 have g1:G27 (Y,ls.getD k (zero Ty.str),())=doV Y (ls.getD k (zero Ty.str)):=by unfold G27;rw[e];rfl
 have hc:a0F (bs.length+1)=true:=a0K (by omega)
 have ew:IntKind.i64.wrap ((k:Int)+1)=((k+1:Nat):Int):=a4w k (by omega)
 unfold c7n
 show(bif decide ((k:Int)<(ls.length:Int))then bif (decide (0<=(k:Int))&&decide ((k:Int)<(ls.length:Int)))then bif K27 (Y,ls.getD k (zero Ty.str),())then bif a0F (bs.length+1)then
  f (((),(),(),ls,(ls.length:Int),IntKind.i64.wrap ((k:Int)+1),()),flY (G27 (Y,ls.getD k (zero Ty.str),())).1,jn0,bs++[(G27 (Y,ls.getD k (zero Ty.str),())).2.1],())else none else none else none else _)=_
 rw[e1,e2,k1,g1,hc,ew]
 rfl
def g1z (v3:c2y):Den R10:=((((v3.snd.fst.1,v3.snd.fst.snd.1,v3.snd.fst.snd.snd.1,()),(v3.snd.fst.snd.snd.snd.1,v3.snd.fst.snd.snd.snd.snd.1,()),v3.snd.fst.snd.snd.snd.snd.snd.1,(((v3.snd.fst.snd.snd.snd.snd.snd.snd.1,v3.snd.fst.snd.snd.snd.snd.snd.snd.snd.1,()),(v3.snd.fst.snd.snd.snd.snd.snd.snd.snd.snd.1,v3.snd.fst.snd.snd.snd.snd.snd.snd.snd.snd.snd.1,()),()),v3.snd.fst.snd.snd.snd.snd.snd.snd.snd.snd.snd.snd.1,((v3.snd.fst.snd.snd.snd.snd.snd.snd.snd.snd.snd.snd.snd.1,v3.snd.fst.snd.snd.snd.snd.snd.snd.snd.snd.snd.snd.snd.snd.1,()),(v3.snd.fst.snd.snd.snd.snd.snd.snd.snd.snd.snd.snd.snd.snd.snd.1,v3.snd.fst.snd.snd.snd.snd.snd.snd.snd.snd.snd.snd.snd.snd.snd.snd.1,()),()),()),()),v3.snd.fst.snd.snd.snd.snd.snd.snd.snd.snd.snd.snd.snd.snd.snd.snd.snd),v3.snd.snd.snd)
theorem e9W (Y:Yv) (ls:List ByteArray) (h:YM Y) (hl:ls.length<=1000):F10 (Y,ls,())=some ((b1S Y ls ls.length).1,(b1S Y ls ls.length).2,()):=by
 have h36:=e0M Y h.boat h.tk h.lg
 have k36:K36 ((Y,()),())=true:=by unfold K36;rw[h36];rfl
 have g36:G36 ((Y,()),())=(((c7f true Y).2.1,()),(Y.tk,Y.lg,())):=by unfold G36;rw[h36];rfl
 have hloop:e4r (((),(),(),ls,(ls.length:Int),(0:Int),()),flY Y,jn0,[],())=some (((),(),(),()),flY (b1S Y ls ls.length).1,jn0,(b1S Y ls ls.length).2,()):=by
  refine a4v (q:=c7n K36 G36 K27 G27) (fun k=>(((),(),(),ls,(ls.length:Int),(k:Int),()),flY (b1S Y ls k).1,jn0,(b1S Y ls k).2,())) ls.length _ ?_ ?_ _ ?_
  ·intro k f hk
   exact e4U (b1S Y ls k).1 ls k hk hl (b1S Y ls k).2 (by rw[c5y];omega) (c2N Y ls h k) f
  ·intro f
   have e1:decide ((ls.length:Int)<(ls.length:Int))=false:=by simp
   unfold c7n
   show(bif decide ((ls.length:Int)<(ls.length:Int))then _ else _)=_
   rw[e1]
   rfl
  ·exact e9V (((),(),(),ls,(ls.length:Int),(0:Int),()),flY Y,jn0,[],())
 have hk:b2T (((),(),(),ls,(ls.length:Int),(0:Int),()),flY Y,jn0,[],())=true:=by unfold b2T;rw[hloop];rfl
 have hx:b2U (((),(),(),ls,(ls.length:Int),(0:Int),()),flY Y,jn0,[],())=(((),(),(),()),flY (b1S Y ls ls.length).1,jn0,(b1S Y ls ls.length).2,()):=by unfold b2U;rw[hloop];rfl
 let fl2 (g:O36.den):f9n:=(g.1.1.1,g.1.1.2.1,g.1.1.2.2.1,g.1.1.2.2.2.1,g.1.1.2.2.2.2.1,g.1.1.2.2.2.2.2.1,g.1.1.2.2.2.2.2.2.1,g.1.1.2.2.2.2.2.2.2.1,g.1.1.2.2.2.2.2.2.2.2.1,g.1.1.2.2.2.2.2.2.2.2.2.1,g.1.1.2.2.2.2.2.2.2.2.2.2.1,g.1.1.2.2.2.2.2.2.2.2.2.2.2.1,g.1.1.2.2.2.2.2.2.2.2.2.2.2.2.1,g.1.1.2.2.2.2.2.2.2.2.2.2.2.2.2.1,g.1.1.2.2.2.2.2.2.2.2.2.2.2.2.2.2.1,g.1.1.2.2.2.2.2.2.2.2.2.2.2.2.2.2.2.1,g.1.1.2.2.2.2.2.2.2.2.2.2.2.2.2.2.2.2.1,g.1.1.2.2.2.2.2.2.2.2.2.2.2.2.2.2.2.2.2.1,g.1.1.2.2.2.2.2.2.2.2.2.2.2.2.2.2.2.2.2.2.1,g.1.1.2.2.2.2.2.2.2.2.2.2.2.2.2.2.2.2.2.2.2.1,g.2)
 have hf:fl2 (G36 ((Y,()),()))=flY Y:=by rw[g36];rfl
 unfold F10 r10
 show(bif K36 ((Y,()),())then bif b2T (((),(),(),ls,(ls.length:Int),(0:Int),()),fl2 (G36 ((Y,()),())),jn0,[],())then some (g1z (b2U (((),(),(),ls,(ls.length:Int),(0:Int),()),fl2 (G36 ((Y,()),())),jn0,[],())))else none else none)=_
 rw[hf,k36,hk,hx]
 rfl
abbrev g1A:Type:=(List (Den (.flt .f32)))×(List (Den (.int .i64)))×(List (Den (.slice (.flt .f32))))×(List (Den (a0S)))×(List (Den (.int .i64)))×(List (Den (S68)))×Int×Int×Int×Int×(List (Den (a1E)))×Int×Int×Int×Int×Unit
abbrev f9o:Type:=Unit×Unit×Unit×Unit×Unit×Unit×Int×Int×Int×Int×Unit×Int×Int×Int×Int×Unit
def flB (b:Den S40):g1A:=(b.1.1,b.1.2.1,b.1.2.2.1,b.2.1.1,b.2.1.2.1,b.2.2.1,b.2.2.2.1.1.1.1,b.2.2.2.1.1.1.2.1,b.2.2.2.1.1.2.1.1,b.2.2.2.1.1.2.1.2.1,b.2.2.2.1.2.1,b.2.2.2.1.2.2.1.1.1,b.2.2.2.1.2.2.1.1.2.1,b.2.2.2.1.2.2.1.2.1)
def jb0:f9o:=((),(),(),(),(),(),0,0,0,0,(),0,0,0,0,())
def jbB (b:Den S40):f9o:=((),(),(),(),(),(),b.2.2.2.1.1.1.1,b.2.2.2.1.1.1.2.1,b.2.2.2.1.1.2.1.1,b.2.2.2.1.1.2.1.2.1,(),b.2.2.2.1.2.2.1.1.1,b.2.2.2.1.2.2.1.1.2.1,b.2.2.2.1.2.2.1.2.1)
theorem e9X (v:b4q):v.2.1.2.2.1.length<d5F v:=by
 unfold d5F
 refine Nat.lt_of_le_of_lt ?_ (Nat.lt_add_of_pos_right (by decide))
 repeat (first|exact Nat.le_add_left _ _|refine Nat.le_trans ?_ (Nat.le_add_right _ _))
theorem e9Y (b:Den S40) (h:b.1.2.2.1.length<=1000) (hr:∀r∈b.1.2.2.1,r.length<=1000) (w:List Nat) (a:List Int) :
 d5G (((),(),(),(0:Int),()),flB b,jb0,jbB b,w,a,[],())=some (((),(),(),()),flB b,jb0,jbB b,w,a,b.1.2.2.1,()):=by
 have key:d5G (((),(),(),(0:Int),()),flB b,jb0,jbB b,w,a,[],())=some (((),(),(),()),flB b,jb0,jbB b,w,a,b.1.2.2.1.take b.1.2.2.1.length,()):=by
  refine a4v (q:=c9u) (fun k=>(((),(),(),(k:Int),()),flB b,jb0,jbB b,w,a,b.1.2.2.1.take k,())) b.1.2.2.1.length _ ?_ ?_ _ (e9X (((),(),(),(0:Int),()),flB b,jb0,jbB b,w,a,[],()))
  ·intro k f hk
   have e1:decide ((k:Int)<(b.1.2.2.1.length:Int))=true:=by simpa using hk
   have e2:decide (0<=(k:Int))=true:=by simp
   have hrow:List.getD b.1.2.2.1 k (zero (Ty.slice (Ty.flt FloatKind.f32)))=b.1.2.2.1[k]:=a5l _ _ _ hk
   have c1:a0F (0+(b.1.2.2.1[k]).length)=true:=a0K (by have:=hr _ (List.getElem_mem hk);omega)
   have c2:a0F ((b.1.2.2.1.take k).length+1)=true:=a0K (by rw[List.length_take];omega)
   have ew:IntKind.i64.wrap ((k:Int)+1)=((k+1:Nat):Int):=a4w k (by omega)
   have htk:List.take (k+1) b.1.2.2.1=List.take k b.1.2.2.1++[b.1.2.2.1[k]]:=List.take_succ_eq_append_getElem hk
   unfold c9u
   show(bif decide ((k:Int)<(b.1.2.2.1.length:Int))then bif (decide (0<=(k:Int))&&decide ((k:Int)<(b.1.2.2.1.length:Int)))then bif a0F (0+(List.getD b.1.2.2.1 k (zero (Ty.slice (Ty.flt FloatKind.f32)))).length)then bif a0F ((b.1.2.2.1.take k).length+1)then
    f (((),(),(),IntKind.i64.wrap ((k:Int)+1),()),flB b,jb0,jbB b,w,a,b.1.2.2.1.take k++[List.getD b.1.2.2.1 k (zero (Ty.slice (Ty.flt FloatKind.f32)))],())else none else none else none else _)=_
   rw[e1,e2,hrow,c1,c2,ew,htk]
   rfl
  ·intro f
   have e1:decide ((b.1.2.2.1.length:Int)<(b.1.2.2.1.length:Int))=false:=by simp
   unfold c9u
   show(bif decide ((b.1.2.2.1.length:Int)<(b.1.2.2.1.length:Int))then _ else _)=_
   rw[e1]
   rfl
 rw[key,List.take_length]
def o80 (b:Den S40):O80.den:=((jbB b,()),b.1.1,b.1.2.1,b.1.2.2.1,b.2.1.1,b.2.1.2.1,b.2.2.1,b.2.2.2.1.2.1,())
theorem e9Z (b:Den S40) (h:a6c b):F80 ((b,()),())=some (o80 b):=by
 obtain⟨⟨hw,ha,hs,hr⟩,⟨ht1,ht2⟩,⟨hS,hl⟩,hC⟩:=h
 have hloop:=e9Y b (by omega) (fun r h=>by have:=hr r h;omega) b.1.1 b.1.2.1
 have hk:b2r (((),(),(),(0:Int),()),flB b,jb0,jbB b,b.1.1,b.1.2.1,[],())=true:=by unfold b2r;rw[hloop];rfl
 have hx:b2s (((),(),(),(0:Int),()),flB b,jb0,jbB b,b.1.1,b.1.2.1,[],())=(((),(),(),()),flB b,jb0,jbB b,b.1.1,b.1.2.1,b.1.2.2.1,()):=by unfold b2s;rw[hloop];rfl
 have cap:∀{α:Type} (l:List α),l.length<=1000->a0F (0+l.length)=true:=fun l hl=>d7Z hl
 unfold F80 r80
 show(bif a0F (0+b.1.1.length)then bif a0F (0+b.1.2.1.length)then bif b2r (((),(),(),(0:Int),()),flB b,jb0,jbB b,b.1.1,b.1.2.1,[],())then
  (fun v3:c6q=>(bif a0F (0+v3.2.1.2.2.2.1.length)then bif a0F (0+v3.2.1.2.2.2.2.1.length)then bif a0F (0+v3.2.1.2.2.2.2.2.1.length)then bif a0F (0+v3.2.1.2.2.2.2.2.2.2.2.2.2.1.length)then
   some ((v3.2.2.2.1,()),v3.2.2.2.2.1,v3.2.2.2.2.2.1,v3.2.2.2.2.2.2.1,v3.2.1.2.2.2.1,v3.2.1.2.2.2.2.1,v3.2.1.2.2.2.2.2.1,v3.2.1.2.2.2.2.2.2.2.2.2.2.1,())else none else none else none else none:Option O80.den)) (b2s (((),(),(),(0:Int),()),flB b,jb0,jbB b,b.1.1,b.1.2.1,[],()))
  else none else none else none)=_
 rw[hk,hx,cap b.1.1 (by omega),cap b.1.2.1 (by omega)]
 show(bif a0F (0+b.2.1.1.length)then bif a0F (0+b.2.1.2.1.length)then bif a0F (0+b.2.2.1.length)then bif a0F (0+b.2.2.2.1.2.1.length)then _ else none else none else none else none)=_
 rw[cap b.2.1.1 (by omega),cap b.2.1.2.1 (by omega),cap b.2.2.1 (by omega),cap b.2.2.2.1.2.1 (by omega)]
 rfl
def yO (v10:O32.den):Yv:=(((v10.snd.1,v10.snd.snd.1,v10.snd.snd.snd.1,()),(v10.snd.snd.snd.snd.1,v10.snd.snd.snd.snd.snd.1,()),v10.snd.snd.snd.snd.snd.snd.1,(((v10.fst.fst.snd.snd.snd.snd.snd.snd.1,v10.fst.fst.snd.snd.snd.snd.snd.snd.snd.1,()),(v10.fst.fst.snd.snd.snd.snd.snd.snd.snd.snd.1,v10.fst.fst.snd.snd.snd.snd.snd.snd.snd.snd.snd.1,()),()),v10.snd.snd.snd.snd.snd.snd.snd.1,((v10.fst.fst.snd.snd.snd.snd.snd.snd.snd.snd.snd.snd.snd.1,v10.fst.fst.snd.snd.snd.snd.snd.snd.snd.snd.snd.snd.snd.snd.1,()),(v10.fst.fst.snd.snd.snd.snd.snd.snd.snd.snd.snd.snd.snd.snd.snd.1,v10.fst.fst.snd.snd.snd.snd.snd.snd.snd.snd.snd.snd.snd.snd.snd.snd.1,()),()),()),()),v10.fst.fst.snd.snd.snd.snd.snd.snd.snd.snd.snd.snd.snd.snd.snd.snd.snd)
def f2u:Yv:=((([],[],[],()),([],[],()),[],(((0,0,()),(0,0,()),()),[],((0,0,()),(0,0,()),()),()),()),0,(0,0),0,(0,0),0,[],[],())
def d8r (b:Den S40) (p:Nat×Nat) (t:Int):Bool:=b1t b&&((a1J p).2.1&&inB t 0 10000000)
def c7O (b:Den S40) (p:Nat×Nat) (t:Int):Yv:=bif d8r b p t then(b,t,p,0,(0,0),-1,[],[],())else f2u
theorem f0a (b:Den S40) (p:Nat×Nat) (t:Int) (h:a6c b):∃o:O32.den,F32 ((b,p,t,()),())=some o /\ yO o=c7O b p t /\ o.1.2.1=d8r b p t:=by
 have e1:=e9z p
 have k1:K49 (p,())=true:=by unfold K49;rw[e1];rfl
 have g1:G49 (p,())=a1J p:=by unfold G49;rw[e1];rfl
 have e2:=e9L b h
 have k2:K50 (b,())=true:=by unfold K50;rw[e2];rfl
 have g2:G50 (b,())=(b1t b,()):=by unfold G50;rw[e2];rfl
 have e3:F51 (t,0,10000000,())=some (inB t 0 10000000,()):=a7y _
 have k3:K51 (t,0,10000000,())=true:=by unfold K51;rw[e3];rfl
 have g3:G51 (t,0,10000000,())=(inB t 0 10000000,()):=by unfold G51;rw[e3];rfl
 have e4:=e9Z b h
 have k4:K80 ((b,()),())=true:=by unfold K80;rw[e4];rfl
 have g4:G80 ((b,()),())=o80 b:=by unfold G80;rw[e4];rfl
 unfold F32 r32 c7O d8r
 dsimp only
 rw[k1,g1,k2,g2,k3,g3,k4,g4]
 cases b1t b
 ·exact⟨_,rfl,rfl,rfl⟩
 ·cases (a1J p).2.1
  ·exact⟨_,rfl,rfl,rfl⟩
  ·cases inB t 0 10000000
   ·exact⟨_,rfl,rfl,rfl⟩
   ·exact⟨_,rfl,rfl,rfl⟩
theorem d3A (b:Den S40) (p:Nat×Nat) (t:Int) (h:a6c b):YM (c7O b p t):=by
 unfold c7O
 cases d8r b p t
 ·refine⟨⟨⟨?_,?_,?_,?_⟩,⟨?_,?_⟩,⟨?_,?_⟩,?_⟩,?_,?_⟩<;>first|exact Nat.zero_le _|(intro r hr;cases hr)
 ·exact⟨h,Nat.zero_le _,Nat.zero_le _⟩
def e0T (l:List Int):Bool:=decide (l.length<=1048576)
def f8p (y:Den R9):Prop:=(∃b p t,a6c b /\ y.1=c7O b p t) /\ a7L y.2.1
def pT9 (x:Den A9):Bool:=e0T x.1
def QT9 (x:Den A9) (y:Den R9):Prop:=f8p y
theorem d8s:a6c f2u.1:=(d3A (zero S40) (0,0) (-1) ⟨⟨Nat.zero_le _,Nat.zero_le _,Nat.zero_le _,fun _ h=>by cases h⟩,⟨Nat.zero_le _,Nat.zero_le _⟩,⟨(fun _ h=>by cases h),Nat.zero_le _⟩,Nat.zero_le _⟩).boat |> fun h=>by
 unfold c7O at h
 cases hb:d8r (zero S40) (0,0) (-1)with
 |true=>
   unfold d8r at hb
   have:inB (-1) 0 10000000=false:=by decide
   rw[this]at hb
   simp at hb
 |false=>rw[hb]at h;exact h
theorem eT9:Nonempty (ChT A9 R9 pT9 QT9):=⟨⟨fun _=>(c7O f2u.1 (0,0) 0,[],()),fun _ _=>⟨⟨f2u.1,(0,0),0,d8s,rfl⟩,Nat.zero_le _,fun _ h=>by cases h⟩⟩⟩
theorem g1B:a2L Tryz.prog 9 (c6h A9 R9 pT9 QT9 eT9):=e5W f9l (N:=N9 p31 Q31 e31) (a2M ⟨f8l,trivial⟩) is9 a1w fun x hx k hk=>by
 have hk:∀y:Den R9,f8p y->k y=some ():=hk
 have h:x.1.length<=1048576:=by simpa[pT9,e0T]using hx
 refine Eq.trans (g1x _ _ _ _ _ _ _ _ _ _ _ _ _ _ _ k x) ?_
 unfold rN9
 dsimp only
 have c0:=c9Y (x,()) h
 haveI:=e31
 refine a0H (d9v (x,()) h) ?_
 refine a0A fun g=>?_
 have hp:p31 (((),()),(G30 (x,())).snd)=true:=a1s.2 c0
 obtain⟨q1,q2⟩:=g.2 _ hp
 refine a0H hp ?_
 generalize g.val (((),()),(G30 (x,())).snd)=A at *
 refine a0H (e0r _ q1) ?_
 have c1:a0g (G33 (((),60,()),A.snd)).2.1:=a0P _ q1
 generalize G33 (((),60,()),A.snd)=B at *
 refine a0H (a0C _ c1) ?_
 have c2:a0g (G34 (((),3000,()),B.snd)).2.1:=a0c _ c1
 generalize G34 (((),3000,()),B.snd)=C at *
 obtain⟨o,e1,e2,_⟩:=f0a A.fst.fst B.fst.fst C.fst.1 q2
 have k32:K32 ((A.fst.fst,B.fst.fst,C.fst),())=true:=by
  show(F32 ((A.fst.fst,B.fst.fst,C.fst.1,()),())).isSome=true
  rw[e1];rfl
 have g32:G32 ((A.fst.fst,B.fst.fst,C.fst),())=o:=by
  show(F32 ((A.fst.fst,B.fst.fst,C.fst.1,()),())).getD _=o
  rw[e1];rfl
 refine a0H k32 ?_
 have hs:a0T A.fst.fst.2.2.1 /\ A.fst.fst.2.2.1.length<=13:=q2.2.2.1
 refine a0H (e9I (((),A.fst),C.snd) c2 hs.1 hs.2) ?_
 obtain⟨_,q5⟩:=e9J (((),A.fst),C.snd) c2 hs.1 hs.2
 generalize G35 (((),A.fst),C.snd)=D at *
 rw[g32]
 exact hk (yO o,D.snd.snd) ⟨⟨_,_,_,q2,e2⟩,q5⟩
theorem g1C:NOK Tryz.prog (N4 pT9 QT9 eT9):=a2M ⟨g1B,trivial⟩
def d8t (s:ByteArray):Bool:=isC (spF s) 2 sGo
def a7P (s:ByteArray):Int:=bif d8t s then uI (fAt (spF s) 1)else 0
def b1y (s:ByteArray):Nat:=bif d8t s then 1 else 0
def a7T (l:List ByteArray):Nat->Int
 |0=>0
 |k+1=>a7T l k+a7P (l.getD k (zero Ty.str))
def a9M (l:List ByteArray):Nat->Nat
 |0=>0
 |k+1=>a9M l k+b1y (l.getD k (zero Ty.str))
def GL (s:ByteArray):Prop:=d8t s=true->uB (fAt (spF s) 1)=true /\ 1<=uI (fAt (spF s) 1) /\ uI (fAt (spF s) 1)<=3600
theorem f0b:GL (zero Ty.str):=fun h=>by
 exfalso
 unfold d8t isC at h
 have:spF (zero Ty.str)=[]:=by
  have e:=b2Y (zero Ty.str)
  rw[c0x]at e
  have h2:∀a b c:List ByteArray×Bool×Unit,True:=fun _ _ _=>trivial
  unfold spF G16
  rw[c0x]
  have hf:a1h (zero Ty.str)=[]:=by
   apply c2I
   rw[a3v]
   rfl
  rw[hf]
  cases decide (((zero Ty.str:ByteArray).size:Int)>600)
  ·cases d3d (zero Ty.str)<;>rfl
  ·rfl
 rw[this]at h
 simp at h
theorem f0c {l:List ByteArray} (h:∀s∈l,GL s) (k:Nat):GL (l.getD k (zero Ty.str)):=by
 rw[List.getD_eq_getElem?_getD]
 cases hx:l[k]? with
 |none=>exact f0b
 |some x=>exact h x (List.mem_of_getElem? hx)
theorem c5z {s:ByteArray} (h:GL s):0<=a7P s /\ a7P s<=3600:=by
 unfold a7P
 cases hg:d8t s with
 |false=>show(0:Int)<=0 /\ (0:Int)<=3600;decide
 |true=>obtain⟨_,h1,h2⟩:=h hg;exact⟨by show 0<=uI _;omega,h2⟩
theorem d3B {l:List ByteArray} (h:∀s∈l,GL s):∀k,0<=a7T l k /\ a7T l k<=3600*(k:Int)
 |0=>⟨Int.le_refl _,Int.le_refl _⟩
 |k+1=>by
   have h1:=d3B h k
   have h2:=c5z (f0c h k)
   show 0<=a7T l k+a7P _ /\ a7T l k+a7P _<=_
   omega
theorem e0U (l:List ByteArray):∀k,a9M l k<=k
 |0=>Nat.le_refl _
 |k+1=>by
   have h1:=e0U l k
   show a9M l k+b1y _<=k+1
   unfold b1y
   cases d8t (l.getD k (zero Ty.str))
   ·show a9M l k+0<=k+1;omega
   ·show a9M l k+1<=k+1;omega
theorem d8u {α:Type} (l:List α) (x d:α) (k:Nat) (h:k<l.length):(l++[x]).getD k d=l.getD k d:=by
 rw[List.getD_eq_getElem?_getD,List.getD_eq_getElem?_getD,List.getElem?_append_left h]
theorem d3C {α:Type} (l:List α) (x d:α):(l++[x]).getD l.length d=x:=by
 rw[List.getD_eq_getElem?_getD,List.getElem?_append_right (Nat.le_refl _)]
 simp
theorem d3D (l:List ByteArray) (s:ByteArray):∀k,k<=l.length->a7T (l++[s]) k=a7T l k /\ a9M (l++[s]) k=a9M l k
 |0,_=>⟨rfl,rfl⟩
 |k+1,h=>by
   obtain⟨h1,h2⟩:=d3D l s k (by omega)
   have e:=d8u l s (zero Ty.str) k (by omega)
   constructor
   ·show a7T (l++[s]) k+a7P ((l++[s]).getD k _)=a7T l k+a7P (l.getD k _)
    rw[h1,e]
   ·show a9M (l++[s]) k+b1y ((l++[s]).getD k _)=a9M l k+b1y (l.getD k _)
    rw[h2,e]
theorem d8v (l:List ByteArray) (s:ByteArray):a7T (l++[s]) (l++[s]).length=a7T l l.length+a7P s /\ a9M (l++[s]) (l++[s]).length=a9M l l.length+b1y s:=by
 obtain⟨h1,h2⟩:=d3D l s l.length (Nat.le_refl _)
 have e:=d3C l s (zero Ty.str)
 rw[List.length_append]
 constructor
 ·show a7T (l++[s]) l.length+a7P ((l++[s]).getD l.length _)=_
  rw[h1,e]
 ·show a9M (l++[s]) l.length+b1y ((l++[s]).getD l.length _)=_
  rw[h2,e]
theorem c5A {f:List ByteArray} {n m:Nat} {s t:ByteArray} (h:isC f n s=true) (hst:a3K s t=false):isC f m t=false:=by
 obtain⟨_,h2⟩:=c7x h
 have e:=(b6W _ _).1 h2
 unfold isC
 rw[e,hst,Bool.and_false]
structure c0H (Y Z:Yv):Prop where
 tm:Z.tm=Y.tm
 tk:Z.tk=Y.tk
theorem c0H.refl (Y:Yv):c0H Y Y:=⟨rfl,rfl⟩
theorem a8I (Y:Yv):c0H Y (kpV Y):=by
 unfold kpV
 cases decide (Y.sl ≥ 0)
 ·exact .refl Y
 ·exact⟨rfl,rfl⟩
theorem d3E (f:List ByteArray) (Y:Yv) (h:(a4g f Y).1=true) :
 (isC f 2 sGo=true /\ uB (fAt f 1)=true /\ 1<=uI (fAt f 1) /\ uI (fAt f 1)<=3600 /\ (a4g f Y).2.tm=Y.tm+uI (fAt f 1) /\ (a4g f Y).2.tk.length=Y.tk.length+1)∨(isC f 2 sGo=false /\ c0H Y (a4g f Y).2):=by
 unfold a4g at h ⊢
 cases c1:isC f 2 a6l with
 |true=>
   right
   refine⟨c5A c1 (by decide +kernel),?_⟩
   show c0H Y (b1w f Y).2
   unfold b1w
   cases (uB (fAt f 1)&&!decide (uI (fAt f 1)>359))
   ·exact .refl Y
   ·exact⟨(a8I (Y.setHd _)).tm,(a8I (Y.setHd _)).tk⟩
 |false=>
 cases c2:isC f 3 b6Q with
 |true=>
   right
   refine⟨c5A c2 (by decide +kernel),?_⟩
   show c0H Y (c2K f Y).2
   unfold c2K
   cases ((b6Y (fAt f 1) (fAt f 2)).2.2.1&&a5d (a2u f))
   ·exact .refl Y
   ·cases c0E Y.wd
    ·cases ((a5w Y.wd (a2u f)).2.1&&a5d (a5w Y.wd (a2u f)).1)
     ·exact .refl Y
     ·exact⟨(a8I (Y.setWd _)).tm,(a8I (Y.setWd _)).tk⟩
    ·exact⟨(a8I (Y.setWd _)).tm,(a8I (Y.setWd _)).tk⟩
 |false=>
 cases c3:isC f 2 c2u with
 |true=>
   right
   refine⟨c5A c3 (by decide +kernel),?_⟩
   show c0H Y (c2L f Y).2
   unfold c2L
   cases a3K (fAt f 1) d2M
   ·cases (!decide (a2x Y.sails (fAt f 1)<0)&&((a2v Y).2.1&&b1e (at' Y.sails (a2x Y.sails (fAt f 1)).toNat) (a2v Y).1))
    ·exact .refl Y
    ·exact⟨rfl,rfl⟩
   ·exact⟨rfl,rfl⟩
 |false=>
 cases c4:isC f 3 e3Y with
 |true=>
   right
   refine⟨c5A c4 (by decide +kernel),?_⟩
   show c0H Y (e4O f Y).2
   unfold e4O
   cases ((b6Y (fAt f 1) (fAt f 2)).2.2.1&&(a1J (d3s f)).2.1)
   ·exact .refl Y
   ·exact⟨rfl,rfl⟩
 |false=>
 cases c5:isC f 2 sGo with
 |true=>
   left
   rw[c1,c2,c3,c4,c5]at h
   have h:(goW f Y).1=true:=h
   refine⟨rfl,?_⟩
   show uB (fAt f 1)=true /\ 1<=uI (fAt f 1) /\ uI (fAt f 1)<=3600 /\ (goW f Y).2.tm=Y.tm+uI (fAt f 1) /\ (goW f Y).2.tk.length=Y.tk.length+1
   unfold goW at h ⊢
   cases hu:uB (fAt f 1)with
   |false=>rw[hu]at h;cases h
   |true=>
     rw[hu]at h
     have h:(goV (uI (fAt f 1)) Y).1=true:=h
     show _ /\ _ /\ _ /\ (goV (uI (fAt f 1)) Y).2.tm=_ /\ (goV (uI (fAt f 1)) Y).2.tk.length=_
     unfold goV at h ⊢
     cases ha:(inB (uI (fAt f 1)) 1 3600&&(!decide (Y.tm+uI (fAt f 1)>10000000)&&!decide ((Y.tk.length:Int) ≥ 200)))with
     |false=>rw[ha]at h;cases h
     |true=>
       rw[ha]at h
       cases hb:((goR (uI (fAt f 1)) Y).2.1&&(a1J (goR (uI (fAt f 1)) Y).1).2.1)with
       |false=>rw[hb]at h;cases h
       |true=>
         unfold inB at ha
         simp only[Bool.and_eq_true,decide_eq_true_eq]at ha
         refine⟨rfl,ha.1.1,ha.1.2,rfl,?_⟩
         show(Y.tk++[_]).length=_
         rw[List.length_append];rfl
 |false=>exact .inr ⟨rfl,.refl Y⟩
structure c0I (t0:Int) (Y:Yv):Prop where
 gl:∀s∈Y.lg,GL s
 sum:Y.tm=t0+a7T Y.lg Y.lg.length
 cnt:Y.tk.length=a9M Y.lg Y.lg.length
theorem c0I.doV {t0:Int} {Y:Yv} (h:c0I t0 Y) (s:ByteArray):c0I t0 (doV Y s).1:=by
 unfold AM.doV
 cases hd:doB Y s with
 |false=>exact h
 |true=>
   show c0I t0 (doZ Y s)
   unfold doB at hd
   simp only[Bool.and_eq_true,decide_eq_true_eq]at hd
   obtain⟨ho,hl,hs,hdn⟩:=hd
   obtain⟨hn,_⟩:=e4R hs
   have L:=(b1x (spF s) Y).lg
   have hlg:(doZ Y s).lg=Y.lg++[a5c (spF s)]:=by
    show(a4g (spF s) Y).2.lg++[a5c (spF s)]=_
    rw[L]
   have htm:(doZ Y s).tm=(a4g (spF s) Y).2.tm:=rfl
   have htk:(doZ Y s).tk=(a4g (spF s) Y).2.tk:=rfl
   obtain⟨e1,e2⟩:=d8v Y.lg (a5c (spF s))
   have hg:d8t (a5c (spF s))=isC (spF s) 2 sGo:=by unfold d8t;rw[hn]
   have hN:a7P (a5c (spF s))=bif isC (spF s) 2 sGo then uI (fAt (spF s) 1)else 0:=by unfold a7P;rw[hg,hn]
   have hC:b1y (a5c (spF s))=bif isC (spF s) 2 sGo then 1 else 0:=by unfold b1y;rw[hg]
   rcases d3E (spF s) Y hdn with⟨d1,d2,d3,d4,d5,d6⟩|⟨d1,d2⟩
   ·refine⟨?_,?_,?_⟩
    ·rw[hlg]
     intro u hu
     rcases List.mem_append.1 hu with hu|hu
     ·exact h.gl u hu
     ·rw[List.mem_singleton.1 hu]
      intro _
      rw[hn]
      exact⟨d2,d3,d4⟩
    ·rw[htm,d5,hlg,e1,hN,d1,h.sum,cond_true];omega
    ·rw[htk,d6,hlg,e2,hC,d1,h.cnt];rfl
   ·refine⟨?_,?_,?_⟩
    ·rw[hlg]
     intro u hu
     rcases List.mem_append.1 hu with hu|hu
     ·exact h.gl u hu
     ·rw[List.mem_singleton.1 hu]
      intro hgo
      rw[hg,d1]at hgo
      cases hgo
    ·rw[htm,d2.tm,hlg,e1,hN,d1,h.sum,cond_false];omega
    ·rw[htk,d2.tk,hlg,e2,hC,d1,h.cnt];rfl
theorem d3F {t0:Int} {Y:Yv} (h:c0I t0 Y) (ls:List ByteArray):∀k,c0I t0 (b1S Y ls k).1
 |0=>h
 |k+1=>(d3F h ls k).doV _
theorem e4V (b:Den S40) (p:Nat×Nat) (t:Int):c0I (c7O b p t).tm (c7O b p t):=by
 unfold c7O
 cases d8r b p t<;>exact⟨fun _ h=>(by cases h),by show _=_+0;omega,rfl⟩
theorem f8q (v:c0v):v.2.2.1.2.2.2.2.2.2.2.2.2.2.2.2.2.2.2.2.2.2.2.2.2.1.length<f2s v:=by
 unfold f2s
 refine Nat.lt_of_le_of_lt ?_ (Nat.lt_add_of_pos_right (by decide))
 repeat (first|exact Nat.le_add_left _ _|refine Nat.le_trans ?_ (Nat.le_add_right _ _))
theorem f8r (Y Z:Yv) (h:∀s∈Z.lg,GL s) (hl:Z.lg.length<=1000) :
 e9G (((),(),(0:Int),(0:Int),(0:Int),()),flY Y,flY Z,())=some (.inl (((),(),a7T Z.lg Z.lg.length,(a9M Z.lg Z.lg.length:Int),()),flY Y,flY Z,())):=by
 refine a4v (q:=e9E K8 G8 K9 G9 K10 G10 K16 G16 K17 G17) (fun k=>(((),(),a7T Z.lg k,(a9M Z.lg k:Int),(k:Int),()),flY Y,flY Z,())) Z.lg.length _ ?_ ?_ _ (f8q (((),(),(0:Int),(0:Int),(0:Int),()),flY Y,flY Z,()))
 ·intro k f hk
  have e1:decide ((k:Int)<(Z.lg.length:Int))=true:=by simpa using hk
  have e2:decide (0<=(k:Int))=true:=by simp
  have ew:IntKind.i64.wrap ((k:Int)+1)=((k+1:Nat):Int):=a4w k (by omega)
  have hg:=f0c h k
  have hb:=d3B h k
  have hc:=e0U Z.lg k
  have e16:=b2Y (Z.lg.getD k (zero Ty.str))
  have k16:K16 (Z.lg.getD k (zero Ty.str),())=true:=by unfold K16;rw[e16];rfl
  have g16:G16 (Z.lg.getD k (zero Ty.str),())=(spF (Z.lg.getD k (zero Ty.str)),spO (Z.lg.getD k (zero Ty.str)),()):=by unfold G16;rw[e16];rfl
  have hS:a7T Z.lg (k+1)=a7T Z.lg k+a7P (Z.lg.getD k (zero Ty.str)):=rfl
  have hC:a9M Z.lg (k+1)=a9M Z.lg k+b1y (Z.lg.getD k (zero Ty.str)):=rfl
  have hN:=c5z hg
  unfold a7P at hS hN
  unfold b1y at hC
  unfold GL at hg
  rw[hS,hC]
  unfold e9E
  show(bif decide ((k:Int)<(Z.lg.length:Int))then bif (decide (0<=(k:Int))&&decide ((k:Int)<(Z.lg.length:Int)))then bif K16 (Z.lg.getD k (zero Ty.str),())then
   bif (((G16 (Z.lg.getD k (zero Ty.str),())).1.length:Int)==2)then bif (decide (0<=(0:Int))&&decide (0<((G16 (Z.lg.getD k (zero Ty.str),())).1.length:Int)))then
    bif a3K (fAt (G16 (Z.lg.getD k (zero Ty.str),())).1 0) sGo then bif (decide (0<=(1:Int))&&decide (1<((G16 (Z.lg.getD k (zero Ty.str),())).1.length:Int)))then
     bif K17 (fAt (G16 (Z.lg.getD k (zero Ty.str),())).1 1,())then bif !(G17 (fAt (G16 (Z.lg.getD k (zero Ty.str),())).1 1,())).2.1 then some (Sum.inr ((false,()),()))
      else f (((),(),IntKind.i64.wrap (a7T Z.lg k+(G17 (fAt (G16 (Z.lg.getD k (zero Ty.str),())).1 1,())).1),IntKind.i64.wrap ((a9M Z.lg k:Int)+1),IntKind.i64.wrap ((k:Int)+1),()),flY Y,flY Z,())
     else none else none
    else f (((),(),a7T Z.lg k,(a9M Z.lg k:Int),IntKind.i64.wrap ((k:Int)+1),()),flY Y,flY Z,())
    else none
   else f (((),(),a7T Z.lg k,(a9M Z.lg k:Int),IntKind.i64.wrap ((k:Int)+1),()),flY Y,flY Z,())
   else none else none else _)=_
  rw[e1,e2,k16,g16,ew]
  dsimp only
  rw[uK,uG]
  generalize Z.lg.getD k (zero Ty.str)=s at *
  unfold d8t at hg hN ⊢
  by_cases h2:(spF s).length=2
  ·have i1:(((spF s).length:Int)==2)=true:=by rw[beq_iff_eq];omega
   have i2:(decide (0<=(0:Int))&&decide (0<((spF s).length:Int)))=true:=by rw[h2];rfl
   have i3:(decide (0<=(1:Int))&&decide (1<((spF s).length:Int)))=true:=by rw[h2];rfl
   rw[i1,i2,i3]
   cases hb0:a3K (fAt (spF s) 0) sGo with
   |true=>
     have hgo:isC (spF s) 2 sGo=true:=by unfold isC;rw[hb0,decide_eq_true h2];rfl
     obtain⟨u1,u2,u3⟩:=hg hgo
     rw[hgo]at hN ⊢
     have hN:0<=uI (fAt (spF s) 1) /\ uI (fAt (spF s) 1)<=3600:=hN
     have w1:IntKind.i64.wrap (a7T Z.lg k+uI (fAt (spF s) 1))=a7T Z.lg k+uI (fAt (spF s) 1):=w64 (by omega) (by omega)
     have w2:IntKind.i64.wrap ((a9M Z.lg k:Int)+1)=((a9M Z.lg k+1:Nat):Int):=a4w _ (by omega)
     rw[u1,w1,w2]
     rfl
   |false=>
     have hgo:isC (spF s) 2 sGo=false:=by unfold isC;rw[hb0,Bool.and_false]
     rw[hgo]
     show f _=f (((),(),a7T Z.lg k+0,_),_)
     rw[Int.add_zero]
     rfl
  ·have i1:(((spF s).length:Int)==2)=false:=by rw[beq_eq_false_iff_ne];omega
   have hgo:isC (spF s) 2 sGo=false:=by unfold isC;rw[decide_eq_false h2];rfl
   rw[i1,hgo]
   show f _=f (((),(),a7T Z.lg k+0,_),_)
   rw[Int.add_zero]
   rfl
 ·intro f
  have e1:decide ((Z.lg.length:Int)<(Z.lg.length:Int))=false:=by simp
  unfold e9E
  show(bif decide ((Z.lg.length:Int)<(Z.lg.length:Int))then _ else _)=_
  rw[e1]
  rfl
def c2O (y:Den (.cons .bool .nil)):Option Unit:=bif y.1 then some ()else none
theorem d8w:∀y,c2O y=some ()->y=(true,()):=by
 rintro⟨b,⟨⟩⟩ h
 cases b
 ·cases h
 ·rfl
theorem g1D (x:Den A8):F8 x=some (decide ((x.1.length:Int)>1048576),()):=rfl
theorem b6Z (x:Den A4) (w:Wf A4 x):a5W (Γ4 K8 G8 K9 G9 K10 G10 K16 G16 K17 G17 c2A c2C c2B d7R) (N4 pT9 QT9 eT9) (a0e Tryz.f4) (a5X R4 c2O) (a0V A4 x) []=some ():=by
 refine Eq.trans (g1y _ _ _ _ _ _ _ _ _ _ _ _ _ _ _ _ _ c2O x) ?_
 unfold rN4
 simp only[K8,G8,g1D,Option.isSome_some,Option.getD_some,cond_true]
 by_cases h0:(x.1.length:Int)>1048576
 ·simp only[h0,decide_true,cond_true];rfl
 simp only[h0,decide_false,cond_false]
 haveI:=eT9
 refine a0A fun g=>?_
 have hp:pT9 x=true:=by show decide (x.1.length<=1048576)=true;simp;omega
 have hq:f8p (g.val x):=g.2 _ hp
 refine a0H hp ?_
 generalize g.val x=d at *
 obtain⟨Y,ls,_⟩:=d
 change Yv at Y
 change List ByteArray at ls
 obtain⟨⟨b,p,t,hb,hY⟩,hls,_⟩:=hq
 have hY:Y=c7O b p t:=hY
 have hls:ls.length<=30:=hls
 have hYM:YM Y:=by rw[hY];exact d3A b p t hb
 have hS:c0I Y.tm Y:=by rw[hY];exact e4V b p t
 have h10:=e9W Y ls hYM (by omega)
 have k10:K10 (Y,ls,())=true:=by unfold K10;rw[h10];rfl
 have g10:G10 (Y,ls,())=((b1S Y ls ls.length).1,(b1S Y ls ls.length).2,()):=by unfold G10;rw[h10];rfl
 have hZ:=d3F hS ls ls.length
 have hZM:=c2N Y ls hYM ls.length
 refine a0H k10 ?_
 rw[g10]
 generalize (b1S Y ls ls.length).1=Z at *
 generalize (b1S Y ls ls.length).2=B at *
 have hl:=f8r Y Z hZ.gl hZM.lg
 have hk:c2A (((),(),(0:Int),(0:Int),(0:Int),()),flY Y,flY Z,())=true:=by unfold c2A;rw[hl];rfl
 have ht:c2B (((),(),(0:Int),(0:Int),(0:Int),()),flY Y,flY Z,())=false:=by unfold c2B;rw[hl];rfl
 have hx:c2C (((),(),(0:Int),(0:Int),(0:Int),()),flY Y,flY Z,())=(((),(),a7T Z.lg Z.lg.length,(a9M Z.lg Z.lg.length:Int),()),flY Y,flY Z,()):=by unfold c2C;rw[hl];rfl
 have hbd:=d3B hZ.gl Z.lg.length
 have hlg:=hZM.lg
 have hsum:=hZ.sum
 have hcnt:=hZ.cnt
 show(bif c2A (((),(),(0:Int),(0:Int),(0:Int),()),flY Y,flY Z,())then bif c2B (((),(),(0:Int),(0:Int),(0:Int),()),flY Y,flY Z,())then _ else
  (fun v8:e4s=>bif (v8.2.2.1.2.2.2.2.2.2.2.2.2.2.2.2.2.2.2.1==IntKind.wrap IntKind.i64 (v8.2.1.2.2.2.2.2.2.2.2.2.2.2.2.2.2.2.1+v8.1.2.2.1))then c2O (((↑(List.length v8.2.2.1.2.2.2.2.2.2.2.2.2.2.2.2.2.2.2.2.2.2.2.2.1):Int)==v8.1.2.2.2.1,()))else c2O ((false,()))) (c2C (((),(),(0:Int),(0:Int),(0:Int),()),flY Y,flY Z,()))else none)=_
 rw[hk,ht,hx]
 show(bif (Z.tm==IntKind.i64.wrap (Y.tm+a7T Z.lg Z.lg.length))then c2O (((Z.tk.length:Int)==(a9M Z.lg Z.lg.length:Int)),())else c2O (false,()))=some ()
 have htm:(0<=Y.tm /\ Y.tm<=10000000):=by
  rw[hY]
  unfold c7O
  cases hn:d8r b p t with
  |false=>exact⟨by show(0:Int)<=0;decide,by show(0:Int)<=_;decide⟩
  |true=>
    unfold d8r inB at hn
    simp only[Bool.and_eq_true,decide_eq_true_eq]at hn
    exact hn.2.2
 have w1:IntKind.i64.wrap (Y.tm+a7T Z.lg Z.lg.length)=Y.tm+a7T Z.lg Z.lg.length:=w64 (by omega) (by omega)
 rw[w1,<- hsum,hcnt,beq_self_eq_true,beq_self_eq_true]
 rfl
end Go.Proofs.YtjomnmoekchfeaaGreatDoor.AM
