/- Texts of one proof, joined: an abstract machine for the program, its functions evaluated, plain lemmas. Conditions: those that each lemma names. -/
import Derived.Test.YtjomnmoekchfeaaGreatDoorM1
import Derived.WideShapes
import Derived.ChangeShapes
import Derived.ChangeArms
import Derived.Below
import Derived.IntWalk
import Derived.Test.YtjomnmoekchfeaaGreatDoorRows
import Derived.WalkKit
import Derived.ProofKit
import Derived.OpenShut
import Derived.LaidMore
import Derived.Stop.Joined
import Derived.Stop.LaidErr
import Derived.MakeChecks
import Derived.Shelf.Vars
import Derived.Lib.LaidTab
set_option linter.unusedVariables false
set_option linter.unusedSimpArgs false
namespace Go.Proofs.YtjomnmoekchfeaaGreatDoor.AM
open Bool (and_eq_true)
open Nat (le_refl beq zero_le)
open Option.some (injEq)
open Go
structure FS where
 T:Nat->V
 G:Get
 n:Nat
def St.fs (s:St):FS:=⟨s.tmpV,s.get,s.n⟩
structure Res where
 v:V
 upd:List (Nat×Option Blk)
 run:Bool
def a5u (T:Nat->V):Operand->V
 |.tmp t=>T t
 |.const v=>c4e v
 |.func f => .val (.one (.fn f []))
 |.global _=>pois
theorem c4v (s:St):s.val=a5u s.fs.T:=by
 funext x;cases x<;>rfl
def c7A (T:Nat->V) (d:Option Nat) (v:V):Nat->V:=fun t=>if d=some t then v else T t
def b2c (ops:Array Oper) (g:Nat):Option Nat:=(ops[g]?).bind (·.dst)
structure a4k (Γ:Env) (ops:Array Oper) (o:Oper) (F:FS) (E:Ent) (X:Res) (F':FS):Prop where
 T:F'.T=c7A F.T o.dst X.v
 G:F'.G=a4A X.upd F.G
 dst:a8l Γ o.dst=true
 exec:X.run=true->(o.guard=none∨∃g want t,o.guard=some (g,want) /\ b2c ops g=some t /\ F.T t=a2I want) /\
  ∃ out,act Γ o (a5u F.T) F.G F.n=some out /\ out.ok=true /\ X.v=out.v /\ X.upd=out.upd /\ F'.n=out.n /\
    E=⟨a9U o (a5u F.T) F.G,out.upd.map (·.1),d7p o (a5u F.T) F.G F.n out.n⟩
 skip:X.run=false->(∃g want t,o.guard=some (g,want) /\ b2c ops g=some t /\ (F.T t=a2I (!want)∨F.T t = .tup [])) /\ X.v = .tup [] /\ X.upd=[] /\ F'.n=F.n /\ E=⟨[],[],true⟩
theorem b8E (s:St) (d:Option Nat) (v:V):(s.putO d v).fs.T=c7A s.fs.T d v:=by
 funext t;cases d with
 |none=>rfl
 | some e =>
   unfold c7A;show(s.put e v).tmpV t=_;unfold St.tmpV St.put;simp only[a2a];by_cases h:e=t
   ·subst h;simp
   ·rw[a1T h];simp[h];rfl
theorem a1M (s:St) (d:Option Nat) (v:V):(s.putO d v).fs.G=s.fs.G /\ (s.putO d v).fs.n=s.fs.n /\ (s.putO d v).m=s.m:=by
 cases d<;>exact⟨rfl,rfl,rfl⟩
theorem a5W (s:St) (t:Nat) (v:V) (h:s.tmpV t=v):(s.put t v).fs=s.fs:=by
 unfold St.fs;have:(s.put t v).tmpV=s.tmpV:=by
  funext j;unfold St.tmpV St.put at *;simp only[a2a];by_cases e:t=j
  ·subst e;simp;exact h.symm
  ·rw[a1T e]
 rw[this];rfl
theorem d0u (s:St) (out:Out):(s.apply out).fs.G=a4A out.upd s.fs.G:=by
 funext k;show(s.apply out).get k=a4A out.upd s.get k;unfold St.apply St.get a4A;dsimp only;rw[c4q];cases a2a out.upd k<;>rfl
section
variable {Γ:Env} {ops:Array Oper} {R:Type}
theorem a7r {o:Oper} {K:St->Ent->Option R} {s:St} {r:R} (h:c9r Γ o K s=some r) :
 ∃ out,act Γ o (a5u s.fs.T) s.fs.G s.fs.n=some out /\ out.ok=true /\ a8l Γ o.dst=true /\
   K ((s.apply out).putO o.dst out.v) ⟨a9U o (a5u s.fs.T) s.fs.G,out.upd.map (·.1),d7p o (a5u s.fs.T) s.fs.G s.fs.n out.n⟩=some r:=by
 unfold c9r at h;rw[c4v]at h;split at h
 ·cases h
 ·rename_i out ha;split at h
  ·rename_i hd;split at h
   ·rename_i hok;exact⟨out,ha,hok,hd,h⟩
   ·cases h
  ·cases h
theorem c7B {o:Oper} {K:St->Ent->Option R} {s:St} {r:R} (h:a8m Γ o K s=some r) :
 ∃ (s1:St) (out:Out),s1.fs=s.fs /\ s1.m=s.m /\ act Γ o (a5u s.fs.T) s.fs.G s.fs.n=some out /\ out.ok=true /\ a8l Γ o.dst=true /\
   K ((s1.apply out).putO o.dst out.v) ⟨a9U o (a5u s.fs.T) s.fs.G,out.upd.map (·.1),d7p o (a5u s.fs.T) s.fs.G s.fs.n out.n⟩=some r:=by
 unfold a8m at h;split at h
 ·split at h
  ·rename_i b hb;cases b with
   | true =>
     obtain⟨out,h1,h2,h3,h4⟩:=a7r h;have hs:=a5W s _ (a2I true) hb;rw[hs]at h1 h4;exact⟨_,out,hs,rfl,h1,h2,h3,h4⟩
   | false =>
     obtain⟨out,h1,h2,h3,h4⟩:=a7r h;have hs:=a5W s _ (a2I false) hb;rw[hs]at h1 h4;exact⟨_,out,hs,rfl,h1,h2,h3,h4⟩
  ·cases h
 ·obtain⟨out,h1,h2,h3,h4⟩:=a7r h;exact⟨s,out,rfl,rfl,h1,h2,h3,h4⟩
theorem b8F {o:Oper} {K:St->Ent->Option R} {s:St} {r:R} (hg:o.guard=none∨∃g want t,o.guard=some (g,want) /\ b2c ops g=some t /\ s.fs.T t=a2I want) (h:a8m Γ o K s=some r) :
 ∃s' E X,a4k Γ ops o s.fs E X s'.fs /\ s'.m=s.m /\ K s' E=some r:=by
 obtain⟨s1,out,h0,hm,h1,h2,h3,h4⟩:=c7B h;refine⟨_,_,⟨out.v,out.upd,true⟩,⟨?_,?_,h3,fun _=>⟨hg,out,h1,h2,rfl,rfl,?_,rfl⟩,(fun e=>by cases e)⟩,?_,h4⟩
 ·rw[b8E];show c7A (s1.apply out).fs.T o.dst out.v=_;rw[show(s1.apply out).fs.T=s1.fs.T from rfl,h0]
 ·rw[(a1M _ _ _).1,d0u,h0]
 ·rw[(a1M _ _ _).2.1];rfl
 ·rw[(a1M _ _ _).2.2];exact hm
theorem b8G {o:Oper} {K:St->Ent->Option R} {s:St} {r:R} (hg:∃g want t,o.guard=some (g,want) /\ b2c ops g=some t /\ (s.fs.T t=a2I (!want)∨s.fs.T t = .tup [])) (h:a9z Γ o K s=some r) :
 ∃s' E X,a4k Γ ops o s.fs E X s'.fs /\ s'.m=s.m /\ K s' E=some r:=by
 unfold a9z at h;split at h
 ·rename_i hd;refine⟨_,_,⟨.tup [],[],false⟩,⟨b8E s o.dst _,?_,hd,(fun e=>by cases e),fun _=>⟨hg,rfl,rfl,(a1M _ _ _).2.1,rfl⟩⟩,(a1M _ _ _).2.2,h⟩;rw[(a1M _ _ _).1];rfl
 ·cases h
theorem b8H {o:Oper} {L:List Oper} {s:St} {tr:List Ent} {K:St->List Ent->Option R} {r:R} (h:b2z Γ ops (o::L) s tr K=some r) :
 ∃s' E X,a4k Γ ops o s.fs E X s'.fs /\ s'.m=s.m /\ b2z Γ ops L s' (E::tr) K=some r:=by
 unfold b2z at h;split at h
 ·rename_i hg;exact b8F (.inl hg) h
 ·rename_i g want hg;split at h
  ·cases h
  ·rename_i t ht;split at h
   ·rename_i b hb;have hT:s.fs.T t=a2I b:=hb;have key:∀{s1:St} {K':St->Ent->Option R},s1.fs=s.fs->s1.m=s.m->∀c,b=c->(want=c->a8m Γ o K' s1=some r->∃s' E X,a4k Γ ops o s.fs E X s'.fs /\ s'.m=s.m /\ K' s' E=some r) /\
     (want=!c->a9z Γ o K' s1=some r->∃s' E X,a4k Γ ops o s.fs E X s'.fs /\ s'.m=s.m /\ K' s' E=some r):=by
     intro s1 K' h0 hm c hc;subst hc;refine⟨fun hw hx=>?_,fun hw hx=>?_⟩
     ·obtain⟨s',E,X,h1,h2,h3⟩:=b8F (ops:=ops) (.inr ⟨g,want,t,hg,ht,by rw[h0,hw];exact hT⟩) hx;exact⟨s',E,X,by rw[<- h0];exact h1,h2.trans hm,h3⟩
     ·obtain⟨s',E,X,h1,h2,h3⟩:=b8G (ops:=ops) ⟨g,want,t,hg,ht,.inl (by rw[h0,hw,Bool.not_not];exact hT)⟩ hx;exact⟨s',E,X,by rw[<- h0];exact h1,h2.trans hm,h3⟩
    cases b with
    | true =>
      have e:=a5W s t (a2I true) hT;cases want with
      |true=>exact(key e rfl true rfl).1 rfl h
      |false=>exact(key e rfl true rfl).2 rfl h
    | false =>
      have e:=a5W s t (a2I false) hT;cases want with
      |true=>exact(key e rfl false rfl).2 rfl h
      |false=>exact(key e rfl false rfl).1 rfl h
   ·rename_i hb;exact b8G ⟨g,want,t,hg,ht,.inr hb⟩ h
   ·cases h
def e4I {α:Type} (x:α) (f:Nat->α):Nat->α
 |0=>x
 |i+1=>f i
theorem b4a:∀(L:List Oper) {s:St} {tr:List Ent} {K:St->List Ent->Option R} {r:R},b2z Γ ops L s tr K=some r ->
 ∃ (F:Nat->FS) (E:Nat->Ent) (X:Nat->Res) (s':St),F 0=s.fs /\ F L.length=s'.fs /\ s'.m=s.m /\ (∀i o,L[i]?=some o->a4k Γ ops o (F i) (E i) (X i) (F (i+1))) /\
   K s' (((List.range L.length).map E).reverse++tr)=some r
 |[],s,tr,K,r,h=>⟨fun _=>s.fs,fun _=>⟨[],[],true⟩,fun _=>⟨.tup [],[],true⟩,s,rfl,rfl,rfl,fun i o e=>by simp at e,by simpa[b2z]using h⟩
 | o::L,s,tr,K,r,h=>by
   obtain⟨s1,E0,X0,h1,h2,h3⟩:=b8H h;obtain⟨F,E,X,s',f0,fl,fm,fs,fk⟩:=b4a L h3;refine⟨e4I s.fs F,e4I E0 E,e4I X0 X,s',rfl,fl,fm.trans h2,?_,?_⟩
   ·intro i o' e;cases i with
    | zero =>
      simp only[List.getElem?_cons_zero,injEq]at e;subst e;show a4k Γ ops o s.fs E0 X0 (F 0);rw[f0];exact h1
    |succ i=>exact fs i o' (by simpa using e)
   ·rw[<- fk];congr 1;rw[List.length_cons,List.range_succ_eq_map,List.map_cons,List.map_map,List.reverse_cons,List.append_assoc];rfl
end
structure a6n where
 β:Bt
 K:Ks
 w:World
 m:Nat
 S:Nat->Prop
def a6n.J (z:a6n) (x:Nat):Prop:=z.S x∨Jk z.K x
theorem f7g {z:a6n} {β:Bt} {K:Ks} {get:Get} (own:∀x,Own β get x->z.S x∨z.w.heap.size<=x) (knew:∀b arr,K b=some arr->z.K b=some arr∨z.S b∨z.w.heap.size<=b) :
 ∀x,x<z.w.heap.size->e1y β K get x->z.J x:=by
 rintro x hx (h|⟨arr,e⟩)
 ·exact .inl ((own x h).resolve_right (by omega))
 ·rcases knew x _ e with h1|h1|h1
  ·exact .inr ⟨arr,h1⟩
  ·exact .inl h1
  ·omega
structure SRf (P:Program) (Γ:Env) (z:a6n) (β:Bt) (K:Ks) (F:FS) (a:Act) (w:World):Prop where
 tmp:∀t,VR β K (F.T t) (a.tmps.getD t undef)
 nt:a.tmps.size=Γ.nt
 defers:a.defers=[]
 kok:KOK K w
 mr:MR β K F.G w
 fresh:∀k,F.n<=k->β k=none
 kle:KLe z.K K
 knew:∀b arr,K b=some arr->z.K b=some arr∨z.S b∨z.w.heap.size<=b
 fr:Fr z.J z.w w
 own:∀x,Own β F.G x->z.S x∨z.w.heap.size<=x
 ble:∀k h,k<z.m->z.β k=some h->β k=some h
 le:z.m<=F.n
theorem b0G {β β':Bt} {K K':Ks} {a:Act} {Γ:Env} {T:Nat->V} {d:Option Nat} {x:V} {v:Value} (h:∀t,VR β K (T t) (a.tmps.getD t undef)) (hb:BLe β β') (hk:KLe K K') (hn:a.tmps.size=Γ.nt) (hd:a8l Γ d=true) (hv:VR β' K' x v) :
 (∀t,VR β' K' (c7A T d x t) ((a.put d v).tmps.getD t undef)) /\ (a.put d v).tmps.size=Γ.nt /\ (a.put d v).defers=a.defers:=by
 cases d with
 |none=>exact⟨fun t=>(h t).mono hb hk,hn,rfl⟩
 | some e =>
   have he:e<a.tmps.size:=by rw[hn];simpa[a8l,Nat.blt_eq]using hd
   refine⟨fun t=>?_,by simpa[Act.put]using hn,rfl⟩;unfold c7A;by_cases ht:e=t
   ·subst ht;rw[if_pos rfl];have:(a.put (some e) v).tmps.getD e undef=v:=by simp[Act.put,he]
    rw[this];exact hv
   ·rw[if_neg (fun e'=>ht (by cases e';rfl))];have:(a.put (some e) v).tmps.getD t undef=a.tmps.getD t undef:=by simp[Act.put,Array.getElem?_setIfInBounds_ne ht]
    rw[this];exact(h t).mono hb hk
theorem b8I {β:Bt} {K:Ks} (v:Value):CR β K (c4d v) v:=by
 cases v with
 |bool b=>rfl
 |int k n=>rfl
 |float k b=>exact⟨b,rfl,FEq.refl k b⟩
 |complex k x y=>exact⟨x,y,rfl,FEq.refl k x,FEq.refl k y⟩
 |string s=>rfl
 |_=>trivial
theorem b0H {β:Bt} {K:Ks} (v:Value):VR β K (c4e v) v:=by
 have key:∀v,VR β K (.val (.one (c4d v))) v:=fun v=>b8I v
 cases v with
 | agg cs =>
   refine⟨cs,rfl,?_⟩;generalize cs.toList=l
   induction l with
   |nil=>trivial
   |cons x r ih=>exact⟨b8I x,ih⟩
 |_=>simp only[c4e];exact key _
theorem b0I {β:Bt} {K:Ks} {T:Nat->V} {a:Act} (h:∀t,VR β K (T t) (a.tmps.getD t undef)) (x:Operand):VR β K (a5u T x) (a.eval x):=by
 cases x with
 |tmp t=>exact h t
 |const v=>exact b0H v
 |global g=>exact a6J
 |func f=>exact⟨[],rfl,trivial⟩
section
variable {P:Program} {Γ:Env} {z:a6n} {ops:Array Oper} {Q:Exit->Act->World->Prop}
theorem b2G {a:Act} {g t:Nat} {b:Bool} (hg:b2c ops g=some t) (h:a.tmps.getD t undef = .bool b):yielded ops a.tmps g=some b:=by
 have ht:a.tmps[t]?=some (.bool b):=by
  cases hq:a.tmps[t]? with
  |none=>simp[hq,undef]at h
  |some v=>simp[hq]at h;rw[h]
 unfold yielded;unfold b2c at hg;rw[hg];simp[ht]
theorem d0v {a:Act} {g t:Nat} {arr:Array Value} (hg:b2c ops g=some t) (h:a.tmps.getD t undef = .tuple arr):yielded ops a.tmps g=none:=by
 unfold yielded;unfold b2c at hg;rw[hg];cases hq:a.tmps[t]? with
 |none=>simp[hq]
 |some v=>simp[hq]at h;simp[hq,h]
theorem a8r {β:Bt} {K:Ks} {a:Act} {o:Oper} {F F':FS} {E:Ent} {X:Res} {T:Nat->V} (h:a4k Γ ops o F E X F')
 (hv:∀g want t,o.guard=some (g,want)->b2c ops g=some t->VR β K (F.T t) (a.tmps.getD t undef)):Region.wanted o (yielded ops a.tmps)=X.run:=by
 cases hr:X.run with
 | true =>
   rcases (h.exec hr).1 with hg|⟨g,want,t,hg,ht,hT⟩
   ·simp[Region.wanted,hg]
   ·have:=hv g want t hg ht;rw[hT]at this;simp[Region.wanted,hg,b2G ht this]
 | false =>
   obtain⟨⟨g,want,t,hg,ht,hT⟩,_⟩:=h.skip hr;have:=hv g want t hg ht;rcases hT with hT|hT
   ·rw[hT]at this;simp[Region.wanted,hg,b2G ht this]
   ·rw[hT]at this;obtain⟨arr,e,_⟩:=this;simp[Region.wanted,hg,d0v ht e]
theorem SRf.next {β β':Bt} {K K':Ks} {F F':FS} {a:Act} {w w':World} {d:Option Nat} {x:V} {v:Value} {out:Out} (h:SRf P Γ z β K F a w) (hd:a8l Γ d=true)
 (hp:b0s β K F.G F.n w out v w' β' K') (hT:F'.T=c7A F.T d out.v) (hG:F'.G=a4A out.upd F.G) (hn:F'.n=out.n):SRf P Γ z β' K' F' (a.put d v) w':=by
 obtain⟨h1,h2,h3⟩:=b0G h.tmp hp.ble hp.kle h.nt hd hp.vr;refine⟨by rw[hT];exact h1,h2,h3.trans h.defers,hp.kok,by rw[hG];exact hp.mr,by rw[hn];exact hp.fresh,h.kle.trans hp.kle,?_,?_,?_,fun k y hk e=>hp.ble _ _ (h.ble k y hk e),by rw[hn];exact Nat.le_trans h.le hp.le⟩
 ·intro b arr e;rcases hp.knew b arr e with h4|h4|h4
  ·exact h.knew b arr h4
  ·exact .inr (h.own b h4)
  ·exact .inr (.inr (Nat.le_trans h.fr.size h4))
 ·exact h.fr.trans hp.fr (f7g h.own h.knew)
 ·intro x hx;rw[hG]at hx;rcases hp.own x hx with h4|h4
  ·exact h.own x h4
  ·exact .inr (Nat.le_trans h.fr.size h4)
theorem SRf.skip {β:Bt} {K:Ks} {F F':FS} {a:Act} {w:World} {d:Option Nat} (h:SRf P Γ z β K F a w) (hd:a8l Γ d=true) (hT:F'.T=c7A F.T d (.tup [])) (hG:F'.G=F.G) (hn:F'.n=F.n) :
 SRf P Γ z β K F' (a.put d undef) w:=by
 obtain⟨h1,h2,h3⟩:=b0G (x := .tup []) (v:=undef) h.tmp (BLe.refl β) (KLe.refl K) h.nt hd ⟨#[],rfl,trivial⟩;exact⟨by rw[hT];exact h1,h2,h3.trans h.defers,h.kok,by rw[hG];exact h.mr,by rw[hn];exact h.fresh,h.kle,h.knew,h.fr,by rw[hG];exact h.own,h.ble,by rw[hn];exact h.le⟩
theorem c2v (env:a1F P Γ) {F:Nat->FS} {E:Nat->Ent} {X:Nat->Res} (hs:∀i o,ops[i]?=some o->a4k Γ ops o (F i) (E i) (X i) (F (i+1)))
 (hQ:∀β K a w,SRf P Γ z β K (F ops.size) a w->Q .normal a w):∀(k i:Nat),i+k=ops.size->∀β K a w,SRf P Γ z β K (F i) a w->wpOps P ops Q (List.range' i k) a w:=by
 intro k
 induction k with
 | zero =>
   intro i hi β K a w h;have:i=ops.size:=by omega
   subst this;exact hQ β K a w h
 | succ k ih =>
   intro i hi β K a w h;rw[List.range'_succ,wpOps_cons];have hlt:i<ops.size:=by omega
   have ho:ops[i]?=some ops[i]:=Array.getElem?_eq_getElem hlt;have hstep:=hs i _ ho;have hw:=a8r (β:=β) (K:=K) (a:=a) (T:=(F i).T) hstep fun _ _ t _ _=>h.tmp t
   unfold wpOp;rw[ho];dsimp only;rw[hw];cases hr:(X i).run with
   | true =>
     rw[if_pos rfl];left;obtain⟨_,out,h1,h2,h3,h4,h5,_⟩:=hstep.exec hr;refine d0r (ρ:=a5u (F i).T) (get:=(F i).G) (n:=(F i).n) ⟨env,h.kok,h.mr,h.fresh,fun x=>b0I h.tmp x⟩ h1 h2 _ _ fun v w' hp=>?_
     obtain⟨β',K',hp⟩:=hp;exact ih (i+1) (by omega) β' K' _ _ (h.next (x:=out.v) hstep.dst hp (by rw[hstep.T,h3]) (by rw[hstep.G,h4]) h5)
   | false =>
     rw[if_neg (by simp)];obtain⟨_,h1,h2,h3,_⟩:=hstep.skip hr;exact ih (i+1) (by omega) β K _ _ (h.skip hstep.dst (by rw[hstep.T,h1]) (by rw[hstep.G,h2];rfl) h3)
def TD (T0:Nat->V) (dst:Nat->Option Nat) (v:Nat->V) (D:Nat->Bool):Nat->Nat->V
 |0,t=>T0 t
 |i+1,t=>if D i=true /\ dst i=some t then v i else TD T0 dst v D i t
def GD (G0:Get) (upd:Nat->List (Nat×Option Blk)) (D:Nat->Bool):Nat->Get
 |0=>G0
 |i+1=>if D i=true then a4A (upd i) (GD G0 upd D i)else GD G0 upd D i
def b2i (D:Nat->Bool) (i:Nat):Nat->Bool:=fun k=>D k||beq k i
section
variable {T0:Nat->V} {dst:Nat->Option Nat} {vs:Nat->V} {G0:Get} {upd:Nat->List (Nat×Option Blk)} {D D':Nat->Bool}
theorem a7s {t:Nat}:∀(N:Nat),(∀p,p<N->dst p=some t->D p=D' p)->TD T0 dst vs D N t=TD T0 dst vs D' N t
 |0,_=>rfl
 | N+1,h=>by
   simp only[TD];rw[a7s N fun p hp e=>h p (by omega) e];by_cases e:dst N=some t
   ·rw[h N (by omega) e]
   ·rw[if_neg (fun h=>e h.2),if_neg (fun h=>e h.2)]
theorem b8J {α:Type}:∀{l:List (Nat×α)} {k:Nat},k ∉ l.map (·.1)->a2a l k=none
 |[],k,_=>rfl
 | (j,x)::r,k,h=>by
   simp only[List.map_cons,List.mem_cons,not_or]at h;simp only[a2a];rw[a1T (fun e=>h.1 e.symm)];exact b8J h.2
theorem a5X {l:List (Nat×Option Blk)} {g:Get} {k:Nat} (h:k ∉ l.map (·.1)):a4A l g k=g k:=by
 unfold a4A;rw[b8J h]
theorem c2w {l:List (Nat×Option Blk)} {g g':Get} {k:Nat} (h:g k=g' k):a4A l g k=a4A l g' k:=by
 unfold a4A;rw[h]
theorem a7t {k:Nat}:∀(N:Nat),(∀p,p<N->k∈(upd p).map (·.1)->D p=D' p)->GD G0 upd D N k=GD G0 upd D' N k
 |0,_=>rfl
 | N + 1,h=>by
   have ih:=a7t N fun p hp e=>h p (by omega) e
   simp only[GD];by_cases e:k∈(upd N).map (·.1)
   ·rw[h N (by omega) e];split
    ·exact c2w ih
    ·exact ih
   ·have h1:∀(g:Get),(if D N=true then a4A (upd N) g else g) k=g k:=by
     intro g;split
     ·exact a5X e
     ·rfl
    have h2:∀(g:Get),(if D' N=true then a4A (upd N) g else g) k=g k:=by
     intro g;split
     ·exact a5X e
     ·rfl
    rw[h1,h2,ih]
theorem a3x {i p:Nat} (h:p≠i):b2i D i p=D p:=by simp[b2i,a1T h]
theorem a2y {i:Nat}:b2i D i i=true:=by simp[b2i]
theorem e1C {i:Nat} {t:Nat} (hi:D i=false):∀(N:Nat),i<N->(∀p,i<p->p<N->D p=true->∀t,dst i=some t->dst p≠some t) ->
 TD T0 dst vs (b2i D i) N t=c7A (TD T0 dst vs D N) (dst i) (vs i) t
 |0,h,_=>by omega
 | N+1,hlt,h=>by
   by_cases hN:i=N
   ·subst hN;simp only[TD,a2y,hi,true_and,Bool.false_eq_true,false_and,if_false,c7A];rw[a7s (D':=D) i fun p hp _=>a3x (by omega)]
   ·have ih:=e1C (t:=t) hi N (by omega) fun p h1 h2=>h p h1 (by omega)
    simp only[TD];rw[a3x (fun e=>hN e.symm),ih];unfold c7A;dsimp only;by_cases e:D N=true /\ dst N=some t
    ·rw[if_pos e,if_neg fun e'=>h N (by omega) (by omega) e.1 t e' e.2,if_pos e]
    ·rw[if_neg e,if_neg e]
theorem e1D {i:Nat} {k:Nat} (hi:D i=false):∀(N:Nat),i<N->(∀p,i<p->p<N->D p=true->k∈(upd i).map (·.1)->k ∉ (upd p).map (·.1)) ->
 GD G0 upd (b2i D i) N k=a4A (upd i) (GD G0 upd D N) k
 |0,h,_=>by omega
 | N + 1,hlt,h=>by
   by_cases hN:i=N
   ·subst hN;simp only[GD,a2y,hi,Bool.false_eq_true,if_false,if_true];exact c2w (a7t (D':=D) i fun p hp _=>a3x (by omega))
   ·have ih:=e1D (k:=k) hi N (by omega) fun p h1 h2=>h p h1 (by omega)
    simp only[GD];rw[a3x (fun e=>hN e.symm)];cases hD:D N with
    |false=>simp only[Bool.false_eq_true,if_false];exact ih
    | true =>
      simp only[if_true];by_cases hk:k∈(upd i).map (·.1)
      ·have hk2:=h N (by omega) (by omega) hD hk;rw[a5X hk2,ih];unfold a4A;cases hl:a2a (upd i) k with
       |some b=>rfl
       | none =>
         dsimp only;exact(a5X hk2).symm
      ·rw[a5X hk];rw[a5X hk]at ih;exact c2w ih
theorem d0w {i:Nat} {t:Nat}:∀(N:Nat),i<=N->TD T0 dst vs (fun p=>Nat.blt p i) N t=TD T0 dst vs (fun _=>true) i t
 | 0,h=>by
   have:i=0:=by omega
   subst this;rfl
 | N+1,h=>by
   by_cases hN:i=N+1
   ·subst hN;exact a7s _ fun p hp _=>by simpa[Nat.blt_eq]using hp
   ·simp only[TD];rw[if_neg (fun e=>by have:=e.1;simp[Nat.blt_eq]at this;omega)];exact d0w N (by omega)
theorem d0x {i:Nat}:∀(N:Nat),i<=N->GD G0 upd (fun p=>Nat.blt p i) N=GD G0 upd (fun _=>true) i
 | 0,h=>by
   have:i=0:=by omega
   subst this;rfl
 | N+1,h=>by
   by_cases hN:i=N+1
   ·subst hN;funext k;exact a7t _ fun p hp _=>by simpa[Nat.blt_eq]using hp
   ·simp only[GD];rw[if_neg (fun e=>by simp[Nat.blt_eq]at e;omega)];exact d0x N (by omega)
end
def a9E (D:Nat->Bool) (o:Oper):Prop:=∀e∈o.after,Region.binds .any e=true->D e.on=true
theorem b0J {acc:List Nat} {j:Nat}:∀{l:List Edge},(c7o acc l).testBit j=true->∃e∈l,Region.binds .any e=true /\ (j=e.on∨(acc.getD e.on 0).testBit j=true)
 |[],h=>by simp[c7o]at h
 | e :: r,h=>by
   unfold c7o at h;split at h
   ·rename_i hb;simp only[Nat.lor_eq,Nat.shiftLeft_eq',Nat.testBit_or,Bool.or_eq_true]at h;rcases h with(h|h)|h
    ·refine⟨e,List.mem_cons_self ..,hb,.inl ?_⟩;rw[Nat.one_shiftLeft,Nat.testBit_two_pow]at h;simpa using(of_decide_eq_true h).symm
    ·exact⟨e,List.mem_cons_self ..,hb,.inr h⟩
    ·obtain⟨e',h1,h2⟩:=b0J h;exact⟨e',List.mem_cons_of_mem _ h1,h2⟩
   ·obtain⟨e',h1,h2⟩:=b0J h;exact⟨e',List.mem_cons_of_mem _ h1,h2⟩
theorem b4b {D:Nat->Bool}:∀(L:List Oper) (acc:List Nat),(∀i o,L[i]?=some o->D (acc.length+i)=true->a9E D o)->(∀p x,acc[p]?=some x->D p=true->∀j,x.testBit j=true->D j=true) ->
 ∀p x,(c9R L acc)[p]?=some x->D p=true->∀j,x.testBit j=true->D j=true
 |[],acc,_,h=>h
 | o :: L,acc,hc,h=>by
   unfold c9R;refine b4b L _ ?_ ?_
   ·intro i o' e hD;refine hc (i+1) o' (by simpa using e) ?_;rw[<- hD];congr 1;simp;omega
   ·intro p x e hD j hj;rw[List.getElem?_append]at e;split at e
    ·exact h p x e hD j hj
    ·rename_i hp;have hp0:p-acc.length=0:=by
      have:=(List.getElem?_eq_some_iff.1 e).1;simpa using this
     rw[hp0]at e;simp only[List.getElem?_cons_zero,injEq]at e;subst e;have hpe:p=acc.length:=by omega
     subst hpe;obtain⟨ed,h1,h2,h3⟩:=b0J hj;have hb:=hc 0 o rfl (by simpa using hD) ed (by simpa using h1) h2;rcases h3 with rfl|h3
     ·exact hb
     ·rw[List.getD_eq_getElem?_getD]at h3;cases hq:acc[ed.on]? with
      |none=>rw[hq]at h3;simp at h3
      | some y =>
        rw[hq]at h3;exact h _ y hq hb j (by simpa using h3)
theorem a4K:∀(L:List Oper) (acc:List Nat),(c9R L acc).length=acc.length+L.length
 |[],acc=>by simp[c9R]
 |o::L,acc=>by unfold c9R;rw[a4K L];simp;omega
def d0y (ops:Array Oper) (anc j:Nat) (o o':Oper) (e e':Ent):Prop:=anc.testBit j=true∨(d7q e e'=true /\ c4f ops o o'=true)
theorem a7u {anc:Nat} {o:Oper} {e:Ent}:∀{l:List (Nat×Oper×Ent)},a9V ops anc o e l=true->∀j o' e',(j,o',e')∈l->d0y ops anc j o o' e e'
 |[],_,_,_,_,h=>by cases h
 | (i,x,y)::r,h,j,o',e',hm=>by
   simp only[a9V,and_eq_true]at h;rcases List.mem_cons.1 hm with hm|hm
   ·have h0:=h.1;have hj:j=i:=congrArg (fun x:Nat×Oper×Ent=>x.1) hm;have ho:o'=x:=congrArg (fun x:Nat×Oper×Ent=>x.2.1) hm;have he:e'=y:=congrArg (fun x:Nat×Oper×Ent=>x.2.2) hm;rw[hj,ho,he];cases hb:Nat.testBit anc i with
    |true=>exact .inl hb
    | false =>
      rw[hb]at h0;exact .inr (by simpa using h0)
   ·exact a7u h.2 j o' e' hm
theorem b0K:∀{as1:List Nat} {L:List Oper} {es:List Ent} {i:Nat} {before:List (Nat×Oper×Ent)},c4g ops as1 (b3R i L es) before=true->∀p a o e,as1[p]?=some a->L[p]?=some o->es[p]?=some e ->
 (∀j o' e',(j,o',e')∈before->d0y ops a j o o' e e') /\ ∀q o' e',q<p->L[q]?=some o'->es[q]?=some e'->d0y ops a (i+q) o o' e e'
 |[],_,_,_,_,_,_,_,_,_,h,_,_=>by simp at h
 |_::_,[],_,_,_,_,_,_,_,_,_,h,_=>by simp at h
 |_::_,_::_,[],_,_,_,_,_,_,_,_,_,h=>by simp at h
 | a0::as1,o0::L,e0::es,i,before,h,p,a,o,e,h1,h2,h3=>by
   simp only[b3R,c4g,and_eq_true]at h;cases p with
   | zero =>
     simp only[List.getElem?_cons_zero,injEq]at h1 h2 h3;subst h1;subst h2;subst h3;exact⟨a7u h.1,fun q _ _ hq=>by omega⟩
   | succ p =>
     obtain⟨h4,h5⟩:=b0K h.2 p a o e (by simpa using h1) (by simpa using h2) (by simpa using h3);refine⟨fun j o' e' hm=>h4 j o' e' (List.mem_cons_of_mem _ hm),fun q o' e' hq g1 g2=>?_⟩;cases q with
     | zero =>
       simp only[List.getElem?_cons_zero,injEq]at g1 g2;subst g1;subst g2;exact h4 i o0 e0 (List.mem_cons_self ..)
     | succ q =>
       have:=h5 q o' e' (by omega) (by simpa using g1) (by simpa using g2);rw[show i+(q+1)=i+1+q by omega];exact this
theorem b0L:∀{L:List Oper} {i:Nat},c4h i L=true->∀p o,L[p]?=some o->∀e∈o.after,Region.binds .any e=true->e.on<i+p
 |[],_,_,_,_,h,_,_,_=>by simp at h
 | o0::L,i,h,p,o,ho,e,he,hb=>by
   simp only[c4h,and_eq_true,List.all_eq_true]at h;cases p with
   | zero =>
     simp only[List.getElem?_cons_zero,injEq]at ho;subst ho;have:=h.1 e (by simpa using he);rw[hb]at this;simpa[Nat.blt_eq]using this
   | succ p =>
     have:=b0L h.2 p o (by simpa using ho) e he hb;omega
theorem a7v:∀{l l':List Nat},e8L l l'=true->∀k∈l,k ∉ l'
 |[],_,_,_,h=>by cases h
 | x::r,l',h,k,hk=>by
   unfold e8L at h;split at h
   ·cases h
   ·rename_i hx;rcases List.mem_cons.1 hk with rfl|hk
    ·exact a4h hx
    ·exact a7v h k hk
structure e9y (a b:Ent):Prop where
 fu:∀k∈a.fp,k ∉ b.up
 uf:∀k∈b.fp,k ∉ a.up
 uu:∀k∈a.up,k ∉ b.up
theorem c7C {a b:Ent} (h:d7q a b=true):e9y a b:=by
 simp only[d7q,and_eq_true]at h;exact⟨a7v h.1.1,a7v h.1.2,a7v h.2⟩
structure e9z (ops:Array Oper) (x y:Oper):Prop where
 xy:∀d,x.dst=some d->d ∉ looks ops y
 yx:∀d,y.dst=some d->d ∉ looks ops x
 dd:∀d,x.dst=some d->y.dst≠some d
theorem c7D {x y:Oper} (h:c4f ops x y=true):e9z ops x y:=by
 simp only[c4f,and_eq_true]at h;refine⟨fun d hd=>?_,fun d hd=>?_,fun d hd hd'=>?_⟩
 ·have:=h.1.1;rw[hd]at this;exact a4h (by simpa using this)
 ·have:=h.1.2;rw[hd]at this;exact a4h (by simpa using this)
 ·have:=h.2;rw[hd,hd']at this;simp at this
structure g3W (ops:Array Oper) (E:Nat->Ent) (i j:Nat):Prop where
 ind:e9y (E i) (E j)
 apart:∀o o',ops[i]?=some o->ops[j]?=some o'->e9z ops o o'
theorem b8K {E:Nat->Ent} (h:b8n ops (((List.range ops.size).map E).reverse++[])=true) :
 (∀(D:Nat->Bool),(∀i o,ops[i]?=some o->D i=true->a9E D o)->∀i j,j<i->i<ops.size->D i=true->D j=false->g3W ops E i j) /\
 (∀i o,ops[i]?=some o->∀e∈o.after,Region.binds .any e=true->e.on<i) /\ ∀i,i<ops.size->(E i).kb=true:=by
 simp only[b8n,List.append_nil,List.reverse_reverse,and_eq_true]at h;obtain⟨⟨h1,h2⟩,h3⟩:=h;refine⟨?_,?_,?_⟩
 ·intro D hD i j hj hi hDi hDj;have hlen:i<(c9R ops.toList []).length:=by rw[a4K];simpa using hi
  have ha:=List.getElem?_eq_getElem hlen;have hoi:ops.toList[i]?=some ops[i]:=by rw[Array.getElem?_toList];exact Array.getElem?_eq_getElem hi
  have hoj:ops.toList[j]?=some ops[j]:=by rw[Array.getElem?_toList];exact Array.getElem?_eq_getElem (by omega)
  have hei:((List.range ops.size).map E)[i]?=some (E i):=by simp[hi]
  have hej:((List.range ops.size).map E)[j]?=some (E j):=by rw[List.getElem?_map,List.getElem?_range (by omega)];rfl
  have:=(b0K h1 i _ _ _ ha hoi hei).2 j _ _ hj hoj hej;rw[Nat.zero_add]at this;rcases this with hb|⟨hb1,hb2⟩
  ·have:=b4b (D:=D) ops.toList [] (fun i o e hd=>hD i o (by rw[<- Array.getElem?_toList];exact e) (by simpa using hd)) (fun p x e=>by simp at e) i _ ha hDi j hb;rw[hDj]at this;cases this
  ·refine⟨c7C hb1,fun o o' e e'=>?_⟩;rw[Array.getElem?_eq_getElem hi]at e;rw[Array.getElem?_eq_getElem (by omega)]at e';cases e;cases e';exact c7D hb2
 ·intro i o ho e he hb;have:=b0L h2 i o (by rw[Array.getElem?_toList];exact ho) e he hb;omega
 ·intro i hi;have:=List.all_eq_true.1 h3 (E i) (by
   rw[List.mem_reverse,List.mem_map];exact⟨i,by simpa using hi,rfl⟩)
  exact this
end
def cnt (D:Nat->Bool):Nat->Nat
 |0=>0
 |i+1=>(if D i=true then 0 else 1)+cnt D i
theorem b4c {D:Nat->Bool}:∀{N:Nat},cnt D N=0->∀i,i<N->D i=true
 |0,_,_,h=>by omega
 | N+1,h,i,hi=>by
   simp only[cnt]at h;by_cases e:D N=true
   ·rw[if_pos e]at h;by_cases hN:i=N
    ·subst hN;exact e
    ·exact b4c (N:=N) (D:=D) (by omega) i (by omega)
   ·rw[if_neg e]at h;omega
theorem b8L {D D':Nat->Bool}:∀{N:Nat},(∀i,i<N->D i=D' i)->cnt D N=cnt D' N
 |0,_=>rfl
 | N+1,h=>by
   simp only[cnt];rw[h N (by omega),b8L fun i hi=>h i (by omega)]
theorem c2x {D:Nat->Bool} {i:Nat} (hi:D i=false):∀{N:Nat},i<N->cnt (b2i D i) N+1=cnt D N
 |0,h=>by omega
 | N+1,h=>by
   simp only[cnt];by_cases hN:i=N
   ·subst hN;rw[a2y,hi,b8L (D':=D) fun j hj=>a3x (by omega)];simp;omega
   ·have:=c2x hi (N:=N) (by omega);rw[a3x (fun e=>hN e.symm)];omega
section
variable {P:Program} {Γ:Env} {z:a6n} {ops:Array Oper} {Q:Exit->Act->World->Prop} {F:Nat->FS} {E:Nat->Ent} {X:Nat->Res}
structure Rgn (Γ:Env) (ops:Array Oper) (F:Nat->FS) (E:Nat->Ent) (X:Nat->Res):Prop where
 step:∀i o,ops[i]?=some o->a4k Γ ops o (F i) (E i) (X i) (F (i+1))
 both:∀(D:Nat->Bool),(∀i o,ops[i]?=some o->D i=true->a9E D o)->∀i j,j<i->i<ops.size->D i=true->D j=false->g3W ops E i j
 edge:∀i o,ops[i]?=some o->∀e∈o.after,Region.binds .any e=true->e.on<i
 kb:∀i,i<ops.size->(E i).kb=true
abbrev TX (ops:Array Oper) (F:Nat->FS) (X:Nat->Res) (D:Nat->Bool):Nat->V:=TD (F 0).T (b2c ops) (fun i=>(X i).v) D ops.size
abbrev GX (ops:Array Oper) (F:Nat->FS) (X:Nat->Res) (D:Nat->Bool):Get:=GD (F 0).G (fun i=>(X i).upd) D ops.size
theorem b0M {i:Nat} {o:Oper} (h:ops[i]?=some o):b2c ops i=o.dst:=by unfold b2c;rw[h];rfl
theorem Rgn.up (R:Rgn Γ ops F E X) {i:Nat} {o:Oper} (h:ops[i]?=some o):(E i).up=(X i).upd.map (·.1):=by
 have hs:=R.step i o h;cases hr:(X i).run with
 |true=>obtain⟨_,out,_,_,_,h4,_,h6⟩:=hs.exec hr;rw[h6,h4]
 |false=>obtain⟨_,_,h4,_,h6⟩:=hs.skip hr;rw[h6,h4];rfl
theorem Rgn.T (R:Rgn Γ ops F E X):∀i,i<=ops.size->(F i).T=TD (F 0).T (b2c ops) (fun i=>(X i).v) (fun _=>true) i
 |0,_=>rfl
 | i+1,h=>by
   have ho:ops[i]?=some ops[i]:=Array.getElem?_eq_getElem (by omega);rw[(R.step i _ ho).T,R.T i (by omega)];funext t;simp only[TD,c7A,b0M ho,true_and]
theorem Rgn.G (R:Rgn Γ ops F E X):∀i,i<=ops.size->(F i).G=GD (F 0).G (fun i=>(X i).upd) (fun _=>true) i
 |0,_=>rfl
 | i+1,h=>by
   have ho:ops[i]?=some ops[i]:=Array.getElem?_eq_getElem (by omega);rw[(R.step i _ ho).G,R.G i (by omega)];simp only[GD,if_true]
theorem Rgn.n1 (R:Rgn Γ ops F E X) {i:Nat} (h:i<ops.size):(F i).n<=(F (i+1)).n:=by
 have ho:ops[i]?=some ops[i]:=Array.getElem?_eq_getElem h;have hs:=R.step i _ ho;cases hr:(X i).run with
 | true =>
   obtain⟨_,out,_,_,_,_,h5,h6⟩:=hs.exec hr;have:=R.kb i h;rw[h6]at this;simp only[d7p,and_eq_true]at this;rw[h5];simpa using this.1.1.1
 |false=>obtain⟨_,_,_,h5,_⟩:=hs.skip hr;omega
theorem Rgn.n (R:Rgn Γ ops F E X) {i:Nat}:∀{j:Nat},i<=j->j<=ops.size->(F i).n<=(F j).n
 | 0,h,_=>by
   have:i=0:=by omega
   subst this;exact le_refl _
 | j+1,h,h'=>by
   by_cases e:i=j+1
   ·subst e;exact le_refl _
   ·exact Nat.le_trans (R.n (j:=j) (by omega) (by omega)) (R.n1 (by omega))
def a2T (ops:Array Oper) (D:Nat->Bool):Prop:=∀i o,ops[i]?=some o->D i=true->a9E D o
theorem a2T.add {D:Nat->Bool} (h:a2T ops D) {i:Nat} {o:Oper} (hi:ops[i]?=some o) (hb:a9E D o):a2T ops (b2i D i):=by
 intro j o' hj hD e he hbb;by_cases hji:j=i
 ·subst hji;rw[hi]at hj;cases hj;simp[b2i,hb e he hbb]
 ·rw[a3x hji]at hD;simp[b2i,h j o' hj hD e he hbb]
theorem Rgn.lookT (R:Rgn Γ ops F E X) {D:Nat->Bool} {i:Nat} {o:Oper} (hc:a2T ops D) (hi:ops[i]?=some o) (hb:a9E D o) (hD:D i=false) {t:Nat} (ht:t∈looks ops o):TX ops F X D t=(F i).T t:=by
 have hlt:i<ops.size:=(Array.getElem?_eq_some_iff.1 hi).1;rw[R.T i (by omega),<- d0w (T0:=(F 0).T) (dst:=b2c ops) (vs:=fun i=>(X i).v) (t:=t) ops.size (by omega)];refine a7s _ fun p hp e=>?_
 have hop:ops[p]?=some ops[p]:=Array.getElem?_eq_getElem hp;rw[b0M hop]at e;rcases Nat.lt_trichotomy p i with h|h|h
 ·rw[show Nat.blt p i=true by simpa[Nat.blt_eq]using h];cases hq:D p with
  |true=>rfl
  | false =>
    have:=R.both _ (hc.add hi hb) i p h hlt a2y (by rw[a3x (by omega)];exact hq);exact absurd ht ((this.apart _ _ hi hop).yx t e)
 ·subst h;rw[hD];exact(Bool.eq_false_iff.2 fun e=>by rw[Nat.blt_eq]at e;omega).symm
 ·rw[show Nat.blt p i=false by
   cases hq:Nat.blt p i with
   |false=>rfl
   |true=>rw[Nat.blt_eq]at hq;omega]
  cases hq:D p with
  |false=>rfl
  | true =>
    have:=R.both D hc p i h hp hq hD;exact absurd ht ((this.apart _ _ hop hi).xy t e)
theorem Rgn.lookG (R:Rgn Γ ops F E X) {D:Nat->Bool} {i:Nat} {o:Oper} (hc:a2T ops D) (hi:ops[i]?=some o) (hb:a9E D o) (hD:D i=false) {k:Nat} (hk:k∈(E i).fp):GX ops F X D k=(F i).G k:=by
 have hlt:i<ops.size:=(Array.getElem?_eq_some_iff.1 hi).1;rw[R.G i (by omega),<- d0x (G0:=(F 0).G) (upd:=fun i=>(X i).upd) ops.size (by omega)];refine a7t _ fun p hp e=>?_
 have hop:ops[p]?=some ops[p]:=Array.getElem?_eq_getElem hp;rw[<- R.up hop]at e;rcases Nat.lt_trichotomy p i with h|h|h
 ·rw[show Nat.blt p i=true by simpa[Nat.blt_eq]using h];cases hq:D p with
  |true=>rfl
  | false =>
    have:=R.both _ (hc.add hi hb) i p h hlt a2y (by rw[a3x (by omega)];exact hq);exact absurd e (this.ind.fu k hk)
 ·subst h;rw[hD];exact(Bool.eq_false_iff.2 fun e=>by rw[Nat.blt_eq]at e;omega).symm
 ·rw[show Nat.blt p i=false by
   cases hq:Nat.blt p i with
   |false=>rfl
   |true=>rw[Nat.blt_eq]at hq;omega]
  cases hq:D p with
  |false=>rfl
  | true =>
    have:=R.both D hc p i h hp hq hD;exact absurd e (this.ind.uf k hk)
theorem Rgn.addT (R:Rgn Γ ops F E X) {D:Nat->Bool} {i:Nat} {o:Oper} (hc:a2T ops D) (hi:ops[i]?=some o) (hD:D i=false):TX ops F X (b2i D i)=c7A (TX ops F X D) o.dst (X i).v:=by
 have hlt:i<ops.size:=(Array.getElem?_eq_some_iff.1 hi).1;funext t;rw[<- b0M hi];refine e1C hD _ hlt fun p h1 h2 h3 t e e'=>?_
 have hop:ops[p]?=some ops[p]:=Array.getElem?_eq_getElem h2;rw[b0M hi]at e;rw[b0M hop]at e';exact((R.both D hc p i h1 h2 h3 hD).apart _ _ hop hi).dd t e' e
theorem Rgn.addG (R:Rgn Γ ops F E X) {D:Nat->Bool} {i:Nat} {o:Oper} (hc:a2T ops D) (hi:ops[i]?=some o) (hD:D i=false):GX ops F X (b2i D i)=a4A (X i).upd (GX ops F X D):=by
 have hlt:i<ops.size:=(Array.getElem?_eq_some_iff.1 hi).1;funext k;refine e1D hD _ hlt fun p h1 h2 h3 e e'=>?_
 have hop:ops[p]?=some ops[p]:=Array.getElem?_eq_getElem h2;rw[<- R.up hi]at e;rw[<- R.up hop]at e';exact(R.both D hc p i h1 h2 h3 hD).ind.uu k e' e
structure DS (P:Program) (Γ:Env) (z:a6n) (ops:Array Oper) (F:Nat->FS) (X:Nat->Res) (D:Nat->Bool) (β:Bt) (K:Ks) (a:Act) (w:World):Prop where
 tmp:∀t,VR β K (TX ops F X D t) (a.tmps.getD t undef)
 nt:a.tmps.size=Γ.nt
 defers:a.defers=[]
 kok:KOK K w
 mr:MR β K (GX ops F X D) w
 dom:∀k,β k≠none->k<(F 0).n∨∃i,i<ops.size /\ D i=true /\ (F i).n<=k /\ k<(F (i+1)).n
 kle:KLe z.K K
 knew:∀b arr,K b=some arr->z.K b=some arr∨z.S b∨z.w.heap.size<=b
 fr:Fr z.J z.w w
 own:∀x,Own β (GX ops F X D) x->z.S x∨z.w.heap.size<=x
 ble:∀k h,k<z.m->z.β k=some h->β k=some h
 le:z.m<=(F 0).n
theorem DS.free (R:Rgn Γ ops F E X) {D:Nat->Bool} {β:Bt} {K:Ks} {a:Act} {w:World} (h:DS P Γ z ops F X D β K a w) {i:Nat} (hi:i<ops.size) (hD:D i=false):∀k,(F i).n<=k->k<(F (i+1)).n->β k=none:=by
 intro k h1 h2;cases hq:β k with
 |none=>rfl
 | some y =>
   exfalso;rcases h.dom k (by rw[hq];simp)with h3|⟨j,h3,h4,h5,h6⟩
   ·have:=R.n (i:=0) (j:=i) (by omega) (by omega);omega
   ·rcases Nat.lt_trichotomy j i with h7|h7|h7
    ·have:=R.n (i:=j+1) (j:=i) (by omega) (by omega);omega
    ·subst h7;rw[hD]at h4;cases h4
    ·have:=R.n (i:=i+1) (j:=j) (by omega) (by omega);omega
theorem DS.step {Γ':Env} (env:a1F P Γ') (R:Rgn Γ ops F E X) {D:Nat->Bool} {β:Bt} {K:Ks} {a:Act} {w:World} (h:DS P Γ z ops F X D β K a w) (hc:a2T ops D) {i:Nat} {o:Oper} (hi:ops[i]?=some o) (heq:∀T G n,act Γ o (a5u T) G n=act Γ' o (a5u T) G n) (hb:a9E D o) (hD:D i=false)
 {next:Act->World->Prop} (hn:∀β K a w,DS P Γ z ops F X (b2i D i) β K a w->next a w):wpOp P ops Q i next a w:=by
 have hlt:i<ops.size:=(Array.getElem?_eq_some_iff.1 hi).1;have hs:=R.step i o hi;have hlook:∀t,t∈looks ops o->VR β K ((F i).T t) (a.tmps.getD t undef):=fun t ht=>by rw[<- R.lookT hc hi hb hD ht];exact h.tmp t
 have hw:=a8r (β:=β) (K:=K) (a:=a) (T:=(F i).T) hs fun g want t hg ht=>hlook t (by
  unfold looks;rw[hg];dsimp only;unfold b2c at ht;rw[ht];exact List.mem_append_right _ (List.mem_singleton.2 rfl))
 unfold wpOp;rw[hi];dsimp only;rw[hw];cases hr:(X i).run with
 | true =>
   rw[if_pos rfl];left;obtain⟨_,out,h1,h2,h3,h4,h5,h6⟩:=hs.exec hr;have hkb:=R.kb i hlt;have hfp:(E i).fp=a9U o (a5u (F i).T) (F i).G:=by rw[h6]
   rw[h6]at hkb;dsimp only at hkb;rw[heq]at h1;refine e9x (Gc:=GX ops F X D) (β:=β) (K:=K) env h1 h2 hkb (fun k hk=>R.lookG hc hi hb hD (by rw[hfp];exact hk)) h.kok h.mr (by rw[<- h5];exact h.free R hlt hD) ?_ _ _ fun v w' hp=>?_
   ·intro x hx;cases x with
    | tmp t =>
      refine hlook t ?_;unfold looks c9S;exact List.mem_append_left _ (List.mem_filterMap.2 ⟨.tmp t,by simpa using hx,rfl⟩)
    |const v=>exact b0H v
    |global g=>exact a6J
    |func f=>exact⟨[],rfl,trivial⟩
   ·obtain⟨β',K',hp⟩:=hp;obtain⟨g1,g2,g3⟩:=b0G (Γ:=Γ) (d:=o.dst) (x:=out.v) (v:=v) h.tmp hp.ble hp.kle h.nt hs.dst hp.vr;refine hn β' K' _ _ ⟨?_,g2,g3.trans h.defers,hp.kok,?_,?_,h.kle.trans hp.kle,?_,?_,?_,fun k y hk e=>hp.ble _ _ (h.ble k y hk e),h.le⟩
    ·rw[R.addT hc hi hD,h3];exact g1
    ·rw[R.addG hc hi hD,h4];exact hp.mr
    ·intro k hk;rcases hp.dom k hk with h7|⟨h7,h8⟩
     ·rcases h.dom k h7 with h9|⟨j,h9,h10,h11⟩
      ·exact .inl h9
      ·exact .inr ⟨j,h9,by simp[b2i,h10],h11⟩
     ·exact .inr ⟨i,hlt,a2y,h7,by rw[h5];exact h8⟩
    ·intro b arr e;rcases hp.knew b arr e with h7|h7|h7
     ·exact h.knew b arr h7
     ·exact .inr (h.own b h7)
     ·exact .inr (.inr (Nat.le_trans h.fr.size h7))
    ·exact h.fr.trans hp.fr (f7g h.own h.knew)
    ·intro x hx;rw[R.addG hc hi hD,h4]at hx;rcases hp.own x hx with h7|h7
     ·exact h.own x h7
     ·exact .inr (Nat.le_trans h.fr.size h7)
 | false =>
   rw[if_neg (by simp)];obtain⟨_,h1,h2,h3,_⟩:=hs.skip hr;obtain⟨g1,g2,g3⟩:=b0G (Γ:=Γ) (d:=o.dst) (x := .tup []) (v:=undef) h.tmp (BLe.refl β) (KLe.refl K) h.nt hs.dst ⟨#[],rfl,trivial⟩;have hG:GX ops F X (b2i D i)=GX ops F X D:=by rw[R.addG hc hi hD,h2];rfl
   refine hn β K _ _ ⟨?_,g2,g3.trans h.defers,h.kok,by rw[hG];exact h.mr,?_,h.kle,h.knew,h.fr,by rw[hG];exact h.own,h.ble,h.le⟩
   ·rw[R.addT hc hi hD,h1];exact g1
   ·intro k hk;rcases h.dom k hk with h9|⟨j,h9,h10,h11⟩
    ·exact .inl h9
    ·exact .inr ⟨j,h9,by simp[b2i,h10],h11⟩
theorem DS.all (R:Rgn Γ ops F E X) {D:Nat->Bool} {β:Bt} {K:Ks} {a:Act} {w:World} (h:DS P Γ z ops F X D β K a w) (hD:∀i,i<ops.size->D i=true):SRf P Γ z β K (F ops.size) a w:=by
 have hT:TX ops F X D=(F ops.size).T:=by
  rw[R.T _ (le_refl _)];funext t;exact a7s _ fun p hp _=>hD p hp
 have hG:GX ops F X D=(F ops.size).G:=by
  rw[R.G _ (le_refl _)];funext t;exact a7t _ fun p hp _=>hD p hp
 refine⟨by rw[<- hT];exact h.tmp,h.nt,h.defers,h.kok,by rw[<- hG];exact h.mr,?_,h.kle,h.knew,h.fr,by rw[<- hG];exact h.own,h.ble,Nat.le_trans h.le (R.n (zero_le _) (le_refl _))⟩;intro k hk;cases hq:β k with
 |none=>rfl
 | some y =>
   exfalso;rcases h.dom k (by rw[hq];simp)with h3|⟨j,h3,_,_,h6⟩
   ·have:=R.n (i:=0) (j:=ops.size) (by omega) (le_refl _);omega
   ·have:=R.n (i:=j+1) (j:=ops.size) (by omega) (le_refl _);omega
theorem c7E (env:a1F P Γ) (R:Rgn Γ ops F E X) (hQ:∀β K a w,SRf P Γ z β K (F ops.size) a w->Q .normal a w) :
 ∀(fuel:Nat) (listed:Array Bool),listed.size=ops.size->cnt (fun k=>listed.getD k false) ops.size<=fuel->a2T ops (fun k=>listed.getD k false) ->
 ∀β K a w,DS P Γ z ops F X (fun k=>listed.getD k false) β K a w->wpAny P .any ops Q fuel listed a w:=by
 have hall:∀(listed:Array Bool),listed.size=ops.size->Region.ready .any ops listed=[]->∀i,i<ops.size->listed.getD i false=true:=by
  intro listed hsz hr i
  induction i using Nat.strongRecOn with
  | _ i ih =>
    intro hi;cases hq:listed.getD i false with
    |true=>rfl
    | false =>
      exfalso;have ho:ops[i]?=some ops[i]:=Array.getElem?_eq_getElem hi;have:i∈Region.ready .any ops listed:=by
       rw[mem_ready];refine⟨?_,_,ho,fun e he hb=>?_⟩
       ·have hlt:i<listed.size:=by omega
        simp[hlt]at hq ⊢;exact hq
       ·have hlt:=R.edge i _ ho e he hb;exact ih e.on hlt (by omega)
      rw[hr]at this;cases this
 intro fuel
 induction fuel with
 | zero =>
   intro listed hsz hc hcl β K a w h;have hD:=b4c (Nat.le_zero.1 hc);refine⟨?_,hQ β K a w (h.all R hD)⟩;cases hr:Region.ready .any ops listed with
   |nil=>rfl
   | cons i r =>
     exfalso;have hm:i∈Region.ready .any ops listed:=by rw[hr];exact List.mem_cons_self ..
     obtain⟨h1,o,ho,_⟩:=mem_ready.1 hm;have hlt:i<ops.size:=(Array.getElem?_eq_some_iff.1 ho).1;have h2:=hD i hlt;have hlt2:i<listed.size:=by omega
     simp[hlt2]at h1 h2;rw[h1]at h2;cases h2
 | succ fuel ih =>
   intro listed hsz hc hcl β K a w h;refine⟨fun hr=>hQ β K a w (h.all R (hall listed hsz hr)),fun i hi=>?_⟩;obtain⟨h1,o,ho,h2⟩:=mem_ready.1 hi;have hlt:i<ops.size:=(Array.getElem?_eq_some_iff.1 ho).1;have hlt2:i<listed.size:=by omega
   have hDi:(fun k=>listed.getD k false) i=false:=by
    simp[hlt2]at h1 ⊢;exact h1
   have hD':(fun k=>(listed.setIfInBounds i true).getD k false)=b2i (fun k=>listed.getD k false) i:=by
    funext k;by_cases hk:k=i
    ·subst hk;rw[a2y];simp[hlt2]
    ·rw[a3x hk];exact getD_set_ne false (Ne.symm hk)
   have hbo:a9E (fun k=>listed.getD k false) o:=fun e he hb=>h2 e he hb
   refine h.step env R hcl ho (fun _ _ _=>rfl) hbo hDi fun β' K' a' w' h'=>?_
   refine ih (listed.setIfInBounds i true) (by simpa using hsz) ?_ ?_ β' K' a' w' (by rw[hD'];exact h')
   ·rw[hD'];have:=c2x (D:=fun k=>listed.getD k false) hDi hlt;omega
   ·rw[hD'];exact hcl.add ho hbo
theorem DS.start (R:Rgn Γ ops F E X) {β:Bt} {K:Ks} {a:Act} {w:World} (h:SRf P Γ z β K (F 0) a w) {D:Nat->Bool} (hD:∀i,D i=false):DS P Γ z ops F X D β K a w:=by
 have hT:∀N t,TD (F 0).T (b2c ops) (fun i=>(X i).v) D N t=(F 0).T t:=by
  intro N t
  induction N with
  |zero=>rfl
  |succ N ih=>simp only[TD,hD N,Bool.false_eq_true,false_and,if_false];exact ih
 have hG:∀N,GD (F 0).G (fun i=>(X i).upd) D N=(F 0).G:=by
  intro N
  induction N with
  |zero=>rfl
  |succ N ih=>simp only[GD,hD N,Bool.false_eq_true,if_false];exact ih
 refine⟨fun t=>by rw[show TX ops F X D t=(F 0).T t from hT _ t];exact h.tmp t,h.nt,h.defers,h.kok,by rw[show GX ops F X D=(F 0).G from hG _];exact h.mr,?_,h.kle,h.knew,h.fr,by rw[show GX ops F X D=(F 0).G from hG _];exact h.own,h.ble,h.le⟩;intro k hk;left;rcases Nat.lt_or_ge k (F 0).n with h1|h1
 ·exact h1
 ·exact absurd (h.fresh k h1) hk
end
theorem MR.ren {β β':Bt} {K:Ks} {get get':Get} {w:World} {σ:Nat->Option Nat} (h:MR β K get w) (hσ:∀k k' h,σ k=some k'->β k=some h->β' k'=some h)
 (hs:∀k' b',get' k'=some b'->∃k b,σ k=some k' /\ get k=some b /\ b3M σ b=some b'):MR β' K get' w:=by
 refine⟨fun k' b' e=>?_,fun k k' b b' y y' x e e' f f' g g'=>?_,fun k' b' y x e f g=>?_⟩
 ·obtain⟨k,b,h1,h2,h3⟩:=hs k' b' e;obtain⟨y,h4,h5⟩:=h.blk k b h2;exact⟨y,hσ _ _ _ h1 h4,a6I hσ h3 h5⟩
 ·obtain⟨j,c,h1,h2,_⟩:=hs k b e;obtain⟨j',c',h1',h2',_⟩:=hs k' b' e';obtain⟨u,h4,_⟩:=h.blk j c h2;obtain⟨u',h4',_⟩:=h.blk j' c' h2';have h5:=hσ _ _ _ h1 h4;have h5':=hσ _ _ _ h1' h4';rw[f]at h5;rw[f']at h5';cases h5;cases h5';have:=h.sep j j' c c' _ _ x h2 h2' h4 h4' g g';subst this;rw[h1]at h1';cases h1';rfl
 ·obtain⟨j,c,h1,h2,_⟩:=hs k' b' e;obtain⟨u,h4,_⟩:=h.blk j c h2;have h5:=hσ _ _ _ h1 h4;rw[f]at h5;cases h5;exact h.ro j c _ x h2 h4 g
theorem Own.ren {β β':Bt} {K:Ks} {get get':Get} {w:World} {σ:Nat->Option Nat} (h:MR β K get w) (hσ:∀k k' h,σ k=some k'->β k=some h->β' k'=some h)
 (hs:∀k' b',get' k'=some b'->∃k b,σ k=some k' /\ get k=some b /\ b3M σ b=some b') {x:Nat} (ho:Own β' get' x):Own β get x:=by
 obtain⟨k',b',y,e,f,g⟩:=ho;obtain⟨j,c,h1,h2,_⟩:=hs k' b' e;obtain⟨u,h4,_⟩:=h.blk j c h2;have h5:=hσ _ _ _ h1 h4;rw[f]at h5;cases h5;exact⟨j,c,_,h2,h4,g⟩
theorem a4l:∀(l:List Nat) (m:Nat),a4c l m=l.filter fun k=>Nat.ble m k
 |[],_=>rfl
 | k::r,m=>by
   unfold a4c;cases h:Nat.ble m k with
   |true=>rw[List.filter_cons_of_pos (by exact h),a4l r m]
   |false=>rw[List.filter_cons_of_neg (by rw[h];simp),a4l r m]
theorem b0N:∀{ks:List Nat} {k i p:Nat},ks.Nodup->ks[p]?=some k->a2v ks k i=some (i+p)
 |[],_,_,_,_,h=>by simp at h
 | x::r,k,i,0,hn,h=>by
   simp only[List.getElem?_cons_zero,injEq]at h;subst h;simp[a2v]
 | x::r,k,i,p+1,hn,h=>by
   simp only[List.getElem?_cons_succ]at h;have hne:x≠k:=fun e=>by
    subst e;exact(List.nodup_cons.1 hn).1 (List.mem_of_getElem? h)
   simp only[a2v,a1T hne];rw[b0N (List.nodup_cons.1 hn).2 h];congr 1;omega
def b0O (β:Bt) (rest:List Nat) (m:Nat):Bt:=fun k=>if k<m then β k else(rest[k-m]?).bind β
theorem a3m {β:Bt} {rest:List Nat} {m:Nat}:∀k k' h,a3h rest m k=some k'->β k=some h->b0O β rest m k'=some h:=by
 intro k k' h e hb;unfold a3h at e;split at e
 ·rename_i hlt;cases e;unfold b0O;rw[if_pos (by simpa[Nat.blt_eq]using hlt)];exact hb
 ·obtain⟨p,h1,h2⟩:=a4I e;unfold b0O;rw[if_neg (by omega)];have:k'-m=p:=by omega
  rw[this,h2];exact hb
theorem b4d {β:Bt} {rest:List Nat} {m k:Nat} (h:k<m):b0O β rest m k=β k:=if_pos h
theorem b4e {β:Bt} {rest:List Nat} {m k:Nat} (h:m+rest.length<=k):b0O β rest m k=none:=by
 unfold b0O;rw[if_neg (by omega),List.getElem?_eq_none (by omega)];rfl
theorem b2H {get:Get} {σ:Nat->Option Nat}:∀{ks:List Nat} {l:List (Nat×Option Blk)},c9U get σ ks=some l->∀k' b',a2a l k'=some (some b')->∃k b,σ k=some k' /\ get k=some b /\ b3M σ b=some b'
 |[],l,h,k',b',e=>by simp only[c9U,injEq]at h;subst h;simp[a2a]at e
 | k :: r,l,h,k',b',e=>by
   simp only[c9U]at h;split at h
   ·rename_i j b l' h1 h2 h3;cases h;simp only[a2a]at e;split at e
    ·rename_i hj;have:=a0l hj;subst this;cases e;cases hg:get k with
     |none=>rw[hg]at h2;simp[a7g]at h2
     | some b0 =>
       rw[hg]at h2;simp only[a7g,Option.map_eq_some_iff,injEq]at h2;obtain⟨b1,h4,h5⟩:=h2;exact⟨k,b0,h1,hg,by rw[h4,h5]⟩
    ·exact b2H h3 k' b' e
   ·cases h
theorem b8M {s:St} {σ:Nat->Option Nat}:∀{live:List Nat} {l:List (Nat×V)},a1S (fun t=>(e8J σ (s.tmpV t)).map fun v=>(t,v)) live=some l->∀t v,a2a l t=some v->e8J σ (s.tmpV t)=some v
 |[],l,h,t,v,e=>by simp only[a1S,injEq]at h;subst h;simp[a2a]at e
 | j :: r,l,h,t,v,e=>by
   simp only[a1S]at h;split at h
   ·rename_i y hy;split at h
    ·rename_i ys hys;cases h;simp only[Option.map_eq_some_iff]at hy;obtain⟨u,h1,h2⟩:=hy;subst h2;simp only[a2a]at e;split at e
     ·rename_i hj;have:=a0l hj;subst this;cases e;exact h1
     ·exact b8M hys t v e
    ·cases h
   ·cases h
section
variable {P:Program} {Γ:Env} {z:a6n}
def SR (P:Program) (Γ:Env) (z:a6n) (s:St) (a:Act) (w:World):Prop:=s.m=z.m /\ ∃β K,SRf P Γ z β K s.fs a w
theorem SRf.still {β:Bt} {K:Ks} {F:FS} {a:Act} {w w':World} (h:SRf P Γ z β K F a w) (s:a0E w w'):SRf P Γ z β K F a w':=
 ⟨h.tmp,h.nt,h.defers,h.kok.still s,h.mr.still s,h.fresh,h.kle,h.knew,⟨s.os.trans h.fr.os,s.tape.trans h.fr.tape,s.output.trans h.fr.output,by rw[s.heap];exact h.fr.size,fun b hb hn=>by rw[s.heap];exact h.fr.block b hb hn⟩,h.own,h.ble,h.le⟩
theorem SRf.turn {β β':Bt} {K K':Ks} {F F':FS} {a:Act} {w:World} (h:SRf P Γ z β K F a w) (hb:∀k h,k<z.m->β k=some h->β' k=some h) (hk:KLe K K') (kok:KOK K' w)
 (knew:∀b arr,K' b=some arr->K b=some arr∨Own β F.G b∨w.heap.size<=b) (tmp:∀t,VR β' K' (F'.T t) (a.tmps.getD t undef)) (mr:MR β' K' F'.G w) (fresh:∀k,F'.n<=k->β' k=none)
 (own:∀x,Own β' F'.G x->Own β F.G x) (le:F.n<=F'.n):SRf P Γ z β' K' F' a w:=
 ⟨tmp,h.nt,h.defers,kok,mr,fresh,h.kle.trans hk,fun b arr e=>by
  rcases knew b arr e with h1|h1|h1
  ·exact h.knew b arr h1
  ·exact .inr (h.own b h1)
  ·exact .inr (.inr (Nat.le_trans h.fr.size h1)),h.fr,fun x hx=>h.own x (own x hx),fun k y hk e=>hb k y hk (h.ble k y hk e),Nat.le_trans h.le le⟩
theorem a3O {s:St} {tm:List (Nat×V)} {n:Nat} {l:List (Nat×Option Blk)} {k:Nat} {b:Blk} (h:(St.get { s with tmps:=tm,mem:=l++s.mem,n:=n }) k=some b):a4A l s.get k=some b:=by
 induction l with
 |nil=>exact h
 | cons p l ih =>
   obtain⟨j,c⟩:=p;simp only[St.get,List.cons_append,a2a,a4A]at h ih ⊢;by_cases hj:j=k
   ·subst hj;simpa using h
   ·rw[a1T hj]at h ⊢;exact ih h
theorem a5Y {s:St} {t:Nat} {v:V} {mm:List (Nat×Option Blk)} {n:Nat} (j:Nat):(St.tmpV { s with tmps:=(t,v)::s.tmps,mem:=mm,n:=n }) j=if t=j then v else s.tmpV j:=by
 unfold St.tmpV;simp only[a2a];by_cases hj:t=j
 ·subst hj;simp
 ·rw[a1T hj,if_neg hj]
theorem d0z {β:Bt} {K:Ks} {s:St} {a:Act} {w:World} (h:SRf P Γ z β K s.fs a w) {ty:Ty} {ad:Option Addr} :
 (∀k b,s.get k=some b->k≠s.n) /\ BLe β (b2g β s.n ⟨.slice ad 0 0,none⟩) /\ (∀K',CR (b2g β s.n ⟨.slice ad 0 0,none⟩) K' (.ref ty s.n) (.slice ad 0 0)):=by
 have hn:β s.n=none:=h.fresh s.n (le_refl _);refine⟨fun k b e e'=>?_,BLe.add _ hn,fun K'=>⟨_,ad,0,0,a0P ..,rfl,rfl⟩⟩;subst e';obtain⟨y,hy,_⟩:=h.mr.blk _ b e;rw[hn]at hy;cases hy
theorem a9Y {α γ:Type} {R:α->γ->Prop}:∀{as1:List α} {bs:List γ} {i:Nat} {x:α},All2 R as1 bs->(∀y,bs[i]?=some y->R x y)->All2 R (as1.set i x) bs
 |[],_,_,_,h,_=>h
 |_::_,[],_,_,h,_=>h.elim
 |a::as1,b::bs,0,x,h,hx=>⟨hx b rfl,h.2⟩
 |a::as1,b::bs,i+1,x,h,hx=>⟨h.1,a9Y h.2 fun y hy=>hx y hy⟩
theorem e4J {a:Act} {w:World} (c:Cv) {s:St} (h0:SR P Γ z s a w):SR P Γ z (c9T c s) a w /\ (c9T c s).m=s.m:=by
 have a4a:SR P Γ z s a w /\ s.m=s.m:=⟨h0,rfl⟩;obtain⟨hm,β,K,h⟩:=h0;have nilSl:∀{β:Bt} {K:Ks} {ty:Ty} {u:Value},CR β K (.nil ty) u->CR β K (.sl ty []) u:=fun{β K ty u} hu=>by
  obtain⟨ad,rfl⟩:=hu;exact⟨ad,0,0,rfl,rfl,le_refl _,.inl rfl⟩
 cases c with
 | sl t =>
   unfold c9T;dsimp only;split
   ·rename_i ty ht;have hv:=h.tmp t;rw[show s.fs.T t = .val (.one (.nil ty))from ht]at hv;refine⟨⟨hm,β,K,h.turn (fun k y _ e=>e) (KLe.refl K) h.kok (fun _ _ e => .inl e) (fun j=>?_) h.mr h.fresh (fun x hx=>hx) (le_refl _)⟩,rfl⟩;show VR β K (St.tmpV { s with tmps:=(t,.val (.one (.sl ty [])))::s.tmps,mem:=s.mem,n:=s.n } j) _;rw[a5Y];split
    ·rename_i hj;subst hj;exact nilSl (β:=β) hv
    ·exact h.tmp j
   ·exact a4a
 | boxSl t off =>
   unfold c9T;dsimp only;split
   ·rename_i k0 o0 ht;split
    ·rename_i cs hg;split
     ·rename_i ty hc;obtain⟨y0,hy0,bb,arr,T,rfl,hh,hcs⟩:=h.mr.blk k0 _ hg;obtain⟨u,hu,hv⟩:=hcs.get? hc;have hcase:∀k b,(St.get { s with mem:=(k0,some (.box (cs.set off (.sl ty []))))::s.mem }) k=some b->(k=k0 /\ b = .box (cs.set off (.sl ty [])))∨(k≠k0 /\ s.get k=some b):=by
       intro k b e;rcases a0T (a3O (tm:=s.tmps) (n:=s.n) (l:=[(k0,some (.box (cs.set off (.sl ty []))))]) e)with⟨rfl,e1⟩|⟨h1,h2⟩
       ·cases e1;exact .inl ⟨rfl,rfl⟩
       ·exact .inr ⟨h1,h2⟩
      refine⟨⟨hm,β,K,h.turn (fun k y _ e=>e) (KLe.refl K) h.kok (fun _ _ e => .inl e) (fun j=>h.tmp j) ?_ h.fresh ?_ (le_refl _)⟩,rfl⟩
      ·refine h.mr.step (BLe.refl β) (KLe.refl K) fun k b e=>?_
       rcases hcase k b e with⟨rfl,rfl⟩|⟨h1,h3⟩
       ·refine .inr ⟨_,hy0,⟨bb,arr,T,rfl,hh,a9Y hcs fun y hy=>by rw[hu]at hy;cases hy;exact nilSl hv⟩,fun x hx=>⟨h.mr.ro k _ _ x hg hy0 hx,fun k' b' y' e' f' g'=>?_⟩⟩;rcases hcase k' b' e' with⟨rfl,rfl⟩|⟨h1,h3⟩
        ·rfl
        ·exact h.mr.sep k' k b' _ y' _ x h3 hg f' hy0 g' hx
       ·exact .inl ⟨h3,fun x y f g=>⟨rfl,h.mr.ro k b y x h3 f g⟩⟩
      ·rintro x ⟨k,b,y,e,f,g⟩;rcases hcase k b e with⟨rfl,rfl⟩|⟨h1,h3⟩
       ·exact⟨k,_,y,hg,f,g⟩
       ·exact⟨k,b,y,h3,f,g⟩
     ·exact a4a
    ·exact a4a
   ·exact a4a
 | forget t =>
   refine⟨⟨hm,β,K,h.turn (fun k y _ e=>e) (KLe.refl K) h.kok (fun _ _ e => .inl e) (fun j=>?_) h.mr h.fresh (fun x hx=>hx) (le_refl _)⟩,rfl⟩;show VR β K (St.tmpV { s with tmps:=(t,pois)::s.tmps,mem:=s.mem,n:=s.n } j) _;rw[a5Y];split
   ·exact a6J
   ·exact h.tmp j
 | nil t =>
   unfold c9T;dsimp only;split
   ·rename_i ty ht;refine⟨⟨hm,?_⟩,rfl⟩;have hv:=h.tmp t;rw[show s.fs.T t = .val (.one (.nil ty))from ht]at hv;obtain⟨ad,hv⟩:=hv;obtain⟨hgn,hle,hcr⟩:=d0z h (ty:=ty) (ad:=ad);refine⟨b2g β s.n ⟨.slice ad 0 0,none⟩,K,h.turn (fun k y _ e=>hle _ _ e) (KLe.refl K) h.kok (fun _ _ e => .inl e) (fun j=>?_) ?_ ?_ ?_ (Nat.le_succ _)⟩
    ·show VR _ K (St.tmpV { s with tmps:=(t,.val (.one (.ref ty s.n)))::s.tmps,mem:=(s.n,some (.arr ty []))::s.mem,n:=s.n+1 } j) _;rw[a5Y];split
     ·rename_i hj;subst hj;rw[hv];exact hcr K
     ·exact(h.tmp j).mono hle (KLe.refl K)
    ·refine h.mr.step hle (KLe.refl K) fun k b e=>?_
     rcases a0T (a3O (l:=[(s.n,some (.arr ty []))]) e)with⟨rfl,e1⟩|⟨h1,h2⟩
     ·cases e1;exact .inr ⟨_,a0P ..,.inl ⟨rfl,ad,rfl⟩,fun x hx=>by cases hx⟩
     ·exact .inl ⟨h2,fun x y f g=>⟨rfl,h.mr.ro k b y x h2 f g⟩⟩
    ·intro k hk;have hk':s.n+1<=k:=hk;rw[a1v _ _ (by omega)];exact h.fresh k (by show s.n<=k;omega)
    ·rintro x ⟨k,b,y,e,f,g⟩;rcases a0T (a3O (l:=[(s.n,some (.arr ty []))]) e)with⟨rfl,e1⟩|⟨h1,h2⟩
     ·rw[a0P]at f;cases f;cases g
     ·rw[a1v _ _ h1]at f;exact⟨k,b,y,h2,f,g⟩
   ·exact a4a
 | boxNil t off =>
   unfold c9T;dsimp only;split
   ·rename_i k0 o0 ht;split
    ·rename_i cs hg;split
     ·rename_i ty hc;refine⟨⟨hm,?_⟩,rfl⟩;obtain⟨y0,hy0,bb,arr,T,rfl,hh,hcs⟩:=h.mr.blk k0 _ hg;obtain⟨u,hu,ad,hv⟩:=hcs.get? hc;obtain⟨hgn,hle,hcr⟩:=d0z h (ty:=ty) (ad:=ad);have hk0:k0≠s.n:=hgn k0 _ hg;have hcase:∀k b,(St.get { s with mem:=(k0,some (.box (cs.set off (.ref ty s.n))))::(s.n,some (.arr ty []))::s.mem,n:=s.n+1 }) k=some b ->
       (k=k0 /\ b = .box (cs.set off (.ref ty s.n)))∨(k=s.n /\ b = .arr ty [])∨(k≠k0 /\ k≠s.n /\ s.get k=some b):=by
       intro k b e;rcases a0T (a3O (l:=[(k0,some (.box (cs.set off (.ref ty s.n)))),(s.n,some (.arr ty []))]) e)with⟨rfl,e1⟩|⟨h1,h2⟩
       ·cases e1;exact .inl ⟨rfl,rfl⟩
       ·rcases a0T h2 with⟨rfl,e1⟩|⟨h3,h4⟩
        ·cases e1;exact .inr (.inl ⟨rfl,rfl⟩)
        ·exact .inr (.inr ⟨h1,h3,h4⟩)
      refine⟨b2g β s.n ⟨.slice ad 0 0,none⟩,K,h.turn (fun k y _ e=>hle _ _ e) (KLe.refl K) h.kok (fun _ _ e => .inl e) (fun j=>(h.tmp j).mono hle (KLe.refl K)) ?_ ?_ ?_ (Nat.le_succ _)⟩
      ·refine h.mr.step hle (KLe.refl K) fun k b e=>?_
       rcases hcase k b e with⟨rfl,rfl⟩|⟨rfl,rfl⟩|⟨h1,h2,h3⟩
       ·refine .inr ⟨_,hle _ _ hy0,⟨bb,arr,T,rfl,hh,a9Y (hcs.mono fun _ _=>CR.mono hle (KLe.refl K)) fun y hy=>?_⟩,fun x hx=>⟨h.mr.ro k _ _ x hg hy0 hx,fun k' b' y' e' f' g'=>?_⟩⟩
        ·rw[hu]at hy;cases hy;rw[hv];exact hcr K
        ·rcases hcase k' b' e' with⟨rfl,rfl⟩|⟨rfl,rfl⟩|⟨h1,h2,h3⟩
         ·rfl
         ·rw[a0P]at f';cases f';cases g'
         ·rw[a1v _ _ h2]at f';exact h.mr.sep k' k b' _ y' _ x h3 hg f' hy0 g' hx
       ·exact .inr ⟨_,a0P ..,.inl ⟨rfl,ad,rfl⟩,fun x hx=>by cases hx⟩
       ·exact .inl ⟨h3,fun x y f g=>⟨rfl,h.mr.ro k b y x h3 f g⟩⟩
      ·intro k hk;have hk':s.n+1<=k:=hk;rw[a1v _ _ (by omega)];exact h.fresh k (by show s.n<=k;omega)
      ·rintro x ⟨k,b,y,e,f,g⟩;rcases hcase k b e with⟨rfl,rfl⟩|⟨rfl,rfl⟩|⟨h1,h2,h3⟩
       ·rw[a1v _ _ hk0]at f;exact⟨k,_,y,hg,f,g⟩
       ·rw[a0P]at f;cases f;cases g
       ·rw[a1v _ _ h2]at f;exact⟨k,b,y,h3,f,g⟩
     ·exact a4a
    ·exact a4a
   ·exact a4a
 | mv t off j =>
   unfold c9T;dsimp only;split
   ·rename_i k0 o0 ht;split
    ·rename_i cs hg;split
     ·rename_i ty j' hc;split
      ·rename_i hj;have hj:j=j':=a0l hj;subst hj;split
       ·rename_i ty' l hgj;refine⟨⟨hm,?_⟩,rfl⟩;obtain⟨y0,hy0,bb,arr,T,rfl,hh,hcs⟩:=h.mr.blk k0 _ hg;obtain⟨yj,hyj,hbj⟩:=h.mr.blk j _ hgj;obtain⟨u,hu,hv⟩:=hcs.get? hc;have hn:β s.n=none:=h.fresh s.n (le_refl _);have hgn:∀k b,s.get k=some b->k≠s.n:=fun k b e e'=>by
         subst e';obtain⟨y,hy,_⟩:=h.mr.blk _ b e;rw[hn]at hy;cases hy
        have hle:BLe β (b2g β s.n yj):=BLe.add _ hn;have hk0:k0≠s.n:=hgn k0 _ hg;have hjn:j≠s.n:=hgn j _ hgj;have hkj:k0≠j:=fun e=>by subst e;rw[hg]at hgj;cases hgj
        have hcase:∀k b,(St.get { s with mem:=(k0,some (.box (cs.set off (.ref ty s.n))))::(s.n,some (.arr ty' l))::(j,none)::s.mem,n:=s.n+1 }) k=some b ->
         (k=k0 /\ b = .box (cs.set off (.ref ty s.n)))∨(k=s.n /\ b = .arr ty' l)∨(k≠k0 /\ k≠s.n /\ k≠j /\ s.get k=some b):=by
         intro k b e;rcases a0T (a3O (l:=[(k0,some (.box (cs.set off (.ref ty s.n)))),(s.n,some (.arr ty' l)),(j,none)]) e)with⟨rfl,e1⟩|⟨h1,h2⟩
         ·cases e1;exact .inl ⟨rfl,rfl⟩
         ·rcases a0T h2 with⟨rfl,e1⟩|⟨h3,h4⟩
          ·cases e1;exact .inr (.inl ⟨rfl,rfl⟩)
          ·rcases a0T h4 with⟨rfl,e1⟩|⟨h5,h6⟩
           ·cases e1
           ·exact .inr (.inr ⟨h1,h3,h5,h6⟩)
        refine⟨b2g β s.n yj,K,h.turn (fun k y _ e=>hle _ _ e) (KLe.refl K) h.kok (fun _ _ e => .inl e) (fun j=>(h.tmp j).mono hle (KLe.refl K)) ?_ ?_ ?_ (Nat.le_succ _)⟩
        ·refine h.mr.step hle (KLe.refl K) fun k b e=>?_
         rcases hcase k b e with⟨rfl,rfl⟩|⟨rfl,rfl⟩|⟨h1,h2,h2',h3⟩
         ·refine .inr ⟨_,hle _ _ hy0,⟨bb,arr,T,rfl,hh,a9Y (hcs.mono fun _ _=>CR.mono hle (KLe.refl K)) fun y hy=>?_⟩,fun x hx=>⟨h.mr.ro k _ _ x hg hy0 hx,fun k' b' y' e' f' g'=>?_⟩⟩
          ·rw[hu]at hy;cases hy;obtain⟨hd,a1,n1,c1,e1,e2,e3⟩:=hv;rw[hyj]at e1;cases e1;exact⟨_,a1,n1,c1,a0P ..,e2,e3⟩
          ·rcases hcase k' b' e' with⟨rfl,rfl⟩|⟨rfl,rfl⟩|⟨h1,h2,h2',h3⟩
           ·rfl
           ·rw[a0P]at f';cases f';exact absurd (h.mr.sep k j _ _ _ _ x hg hgj hy0 hyj hx g') hkj
           ·rw[a1v _ _ h2]at f';exact h.mr.sep k' k b' _ y' _ x h3 hg f' hy0 g' hx
         ·refine .inr ⟨_,a0P ..,hbj.mono hle (KLe.refl K),fun x hx=>⟨h.mr.ro j _ _ x hgj hyj hx,fun k' b' y' e' f' g'=>?_⟩⟩;rcases hcase k' b' e' with⟨rfl,rfl⟩|⟨rfl,rfl⟩|⟨h1,h2,h2',h3⟩
          ·rw[a1v _ _ hk0]at f';exact absurd (h.mr.sep k' j _ _ _ _ x hg hgj f' hyj g' hx) hkj
          ·rfl
          ·rw[a1v _ _ h2]at f';exact absurd (h.mr.sep k' j _ _ _ _ x h3 hgj f' hyj g' hx) h2'
         ·exact .inl ⟨h3,fun x y f g=>⟨rfl,h.mr.ro k b y x h3 f g⟩⟩
        ·intro k hk;have hk':s.n+1<=k:=hk;rw[a1v _ _ (by omega)];exact h.fresh k (by show s.n<=k;omega)
        ·rintro x ⟨k,b,y,e,f,g⟩;rcases hcase k b e with⟨rfl,rfl⟩|⟨rfl,rfl⟩|⟨h1,h2,h2',h3⟩
         ·rw[a1v _ _ hk0]at f;exact⟨k,_,y,hg,f,g⟩
         ·rw[a0P]at f;cases f;exact⟨j,_,_,hgj,hyj,g⟩
         ·rw[a1v _ _ h2]at f;exact⟨k,b,y,h3,f,g⟩
       ·exact a4a
      ·exact a4a
     ·exact a4a
    ·exact a4a
   ·exact a4a
 | frz t =>
   unfold c9T;dsimp only;split
   ·rename_i u ht;split
    ·rename_i u' hu;refine⟨⟨hm,?_⟩,rfl⟩;have hv:=h.tmp t;rw[show s.fs.T t = .val u from ht]at hv;have hget:∀k b,(St.get { s with tmps:=(t,.val u')::s.tmps,mem:=gone (a1b u)++s.mem }) k=some b->k ∉ a1b u /\ s.get k=some b:=fun k b e=>a1P (a3O (n:=s.n) e)
     refine⟨β,a4y β K s.get w (a1b u),h.turn (fun k y _ e=>e) a1j (a4E h.kok) a7j (fun j=>?_) ?_ h.fresh ?_ (le_refl _)⟩
     ·show VR _ _ (St.tmpV { s with tmps:=(t,.val u')::s.tmps,mem:=gone (a1b u)++s.mem } j) _;rw[a5Y (n:=s.n)];split
      ·rename_i hj;subst hj;exact a5U h.mr hu hv (fun k hk=>hk) β
      ·exact(h.tmp j).mono (BLe.refl β) a1j
     ·refine h.mr.step (BLe.refl β) a1j fun k b e=>?_
      obtain⟨h1,h2⟩:=hget k b e;exact .inl ⟨h2,fun x y f g=>⟨rfl,a2S h.mr h2 h1 f g⟩⟩
     ·rintro x ⟨k,b,y,e,f,g⟩;obtain⟨h1,h2⟩:=hget k b e;exact⟨k,b,y,h2,f,g⟩
    ·exact a4a
   ·exact a4a
 | frzBox t =>
   unfold c9T;dsimp only;split
   ·rename_i k0 o0 ht;split
    ·rename_i cs hg;split
     ·rename_i cs' hcs';split
      ·rename_i hno;refine⟨⟨hm,?_⟩,rfl⟩;have hno':k0 ∉ cs.flatMap a1o:=fun e=>by rw[a9W.2 e]at hno;cases hno
       obtain⟨y0,hy0,bb,arr,T,rfl,hh,hcs⟩:=h.mr.blk k0 _ hg;have hcase:∀k b,(St.get { s with mem:=(k0,some (.box cs'))::(gone (cs.flatMap a1o)++s.mem) }) k=some b->(k=k0 /\ b = .box cs')∨(k≠k0 /\ k ∉ cs.flatMap a1o /\ s.get k=some b):=by
        intro k b e;rcases a0T (a3O (tm:=s.tmps) (n:=s.n) (l:=(k0,some (.box cs'))::gone (cs.flatMap a1o)) e)with⟨rfl,e1⟩|⟨h1,h2⟩
        ·cases e1;exact .inl ⟨rfl,rfl⟩
        ·obtain⟨h3,h4⟩:=a1P h2;exact .inr ⟨h1,h3,h4⟩
       refine⟨β,a4y β K s.get w (cs.flatMap a1o),h.turn (fun k y _ e=>e) a1j (a4E h.kok) a7j (fun j=>(h.tmp j).mono (BLe.refl β) a1j) ?_ h.fresh ?_ (le_refl _)⟩
       ·refine h.mr.step (BLe.refl β) a1j fun k b e=>?_
        rcases hcase k b e with⟨rfl,rfl⟩|⟨h1,h2,h3⟩
        ·refine .inr ⟨_,hy0,⟨bb,arr,T,rfl,hh,?_⟩,fun x hx=>⟨a2S h.mr hg hno' hy0 hx,fun k' b' y' e' f' g'=>?_⟩⟩
         ·have:=a5U h.mr (ks:=cs.flatMap a1o) (c := .agg cs) (c' := .agg cs') (show(a1S (roC s.get) cs).map W.agg=some (.agg cs')by rw[hcs'];rfl) ⟨arr,rfl,hcs⟩ (fun k hk=>hk) β;obtain⟨arr',e1,h2⟩:=this;cases e1;exact h2
         ·rcases hcase k' b' e' with⟨rfl,rfl⟩|⟨h1,h2,h3⟩
          ·rfl
          ·exact h.mr.sep k' k b' _ y' _ x h3 hg f' hy0 g' hx
        ·exact .inl ⟨h3,fun x y f g=>⟨rfl,a2S h.mr h3 h2 f g⟩⟩
       ·rintro x ⟨k,b,y,e,f,g⟩;rcases hcase k b e with⟨rfl,rfl⟩|⟨h1,h2,h3⟩
        ·exact⟨k,_,y,hg,f,g⟩
        ·exact⟨k,b,y,h3,f,g⟩
      ·exact a4a
     ·exact a4a
    ·exact a4a
   ·exact a4a
 | jnk t =>
   unfold c9T;dsimp only;split
   ·rename_i k ht;split
    ·rename_i l hg;refine⟨⟨hm,?_⟩,rfl⟩;have hv:=h.tmp t;rw[show s.fs.T t = .val (.one (.ref (.flt .f32) k))from ht]at hv;obtain⟨y,ad,m,c,hb,hy,hu⟩:=hv;obtain⟨y',hb',hbr⟩:=h.mr.blk k _ hg;rw[hb]at hb';cases hb';have hget:∀j b,(St.get { s with tmps:=(t,.val (.one (.sl .jnk (l.map fun _=>()))))::s.tmps,mem:=(k,none)::s.mem }) j=some b->j≠k /\ s.get j=some b:=fun j b e=>by
      rcases a0T (a3O (n:=s.n) (l:=[(k,none)]) e)with⟨_,e1⟩|⟨h1,h2⟩
      ·cases e1
      ·exact⟨h1,h2⟩
     rcases hbr with⟨hl0,a',e'⟩|⟨b,cap,cur,T,e',hh,h1,h2,h3,h4⟩
     ·subst e';cases hy;subst hl0;refine⟨β,K,h.turn (fun k y _ e=>e) (KLe.refl K) h.kok (fun _ _ e => .inl e) (fun j=>?_) ?_ h.fresh ?_ (le_refl _)⟩
      ·show VR _ _ (St.tmpV { s with tmps:=(t,.val (.one (.sl .jnk [])))::s.tmps,mem:=(k,none)::s.mem } j) _;rw[a5Y (n:=s.n)];split
       ·rename_i hj;subst hj;rw[hu];exact⟨_,0,0,rfl,rfl,le_refl _,.inl rfl⟩
       ·exact h.tmp j
      ·refine h.mr.step (BLe.refl β) (KLe.refl K) fun j b e=>?_
       obtain⟨h1,h2⟩:=hget j b e;exact .inl ⟨h2,fun x y f g=>⟨rfl,h.mr.ro j b y x h2 f g⟩⟩
      ·rintro x ⟨j,b,y,e,f,g⟩;obtain⟨h1,h2⟩:=hget j b e;exact⟨j,b,y,h2,f,g⟩
     ·subst e';cases hy;have hKb:K b=none:=h.mr.ro k _ _ b hg hb rfl;obtain⟨K',hK'⟩:∃K':Ks,K'=fun x=>if x=b then some (true,cur)else K x:=⟨_,rfl⟩
      have hKself:K' b=some (true,cur):=by rw[hK'];simp
      have hKne:∀x,x≠b->K' x=K x:=fun x hx=>by rw[hK'];simp[hx]
      have hle:KLe K K':=fun x z e=>by
       rw[hKne x (fun e'=>by rw[e',hKb]at e;cases e)];exact e
      refine⟨β,K',h.turn (fun k y _ e=>e) hle ⟨?_,h.kok.gk.mono hle⟩ ?_ (fun j=>?_) ?_ h.fresh ?_ (le_refl _)⟩
      ·intro x z e;by_cases hx:x=b
       ·subst hx;rw[hKself]at e;cases e;exact⟨cur,T,(0,0),hh,KOK.self fun _=>rfl⟩
       ·rw[hKne x hx]at e;exact h.kok.ato x z e
      ·intro x z e;by_cases hx:x=b
       ·subst hx;exact .inr (.inl ⟨k,_,_,hg,hb,rfl⟩)
       ·rw[hKne x hx]at e;exact .inl e
      ·show VR _ _ (St.tmpV { s with tmps:=(t,.val (.one (.sl .jnk (l.map fun _=>()))))::s.tmps,mem:=(k,none)::s.mem } j) _;rw[a5Y (n:=s.n)];split
       ·rename_i hj;subst hj;rw[hu];refine⟨_,_,_,rfl,by simp,h1,.inr ⟨b,0,cur,rfl,hKself,fun i hi=>?_⟩⟩;have hi':i<l.length:=by simpa using hi
        obtain⟨q,hq,_⟩:=h4 i hi';rw[Nat.zero_add];exact⟨q,hq⟩
       ·exact(h.tmp j).mono (BLe.refl β) hle
      ·refine h.mr.step (BLe.refl β) hle fun j c e=>?_
       obtain⟨e1,e2⟩:=hget j c e;refine .inl ⟨e2,fun x y f g=>⟨rfl,?_⟩⟩;rw[hKne x (fun e'=>by subst e';exact e1 (h.mr.sep j k c _ y _ x e2 hg f hb g rfl))];exact h.mr.ro j c y x e2 f g
      ·rintro x ⟨j,c,y,e,f,g⟩;obtain⟨e1,e2⟩:=hget j c e;exact⟨j,c,y,e2,f,g⟩
    ·exact a4a
   ·exact a4a
theorem b8N {a:Act} {w:World}:∀(own:List Cv) {s:St},SR P Γ z s a w->SR P Γ z (b8o own s) a w /\ (b8o own s).m=s.m
 |[],s,h=>⟨h,rfl⟩
 | c::r,s,h=>by
   obtain⟨h1,h2⟩:=e4J c h;obtain⟨h3,h4⟩:=b8N r h1;exact⟨h3,h4.trans h2⟩
theorem a4L {a:Act} {w:World} {live:List Nat} {own:List Cv} {s s':St} (h:SR P Γ z s a w) (hc:b0r live own s=some s'):SR P Γ z s' a w:=by
 obtain⟨h,_⟩:=b8N own h;simp only[b0r]at hc;generalize b8o own s=s1 at h hc;generalize hrest:a4c (a2H s1.get a1X (b2b s1.m++live.flatMap fun t=>a1L (s1.tmpV t)) (b2b 0)) s1.m=rest at hc;split at hc
 ·rename_i tmps mem h1 h2;cases hc;obtain⟨hm,β,K,h⟩:=h;have hs:∀k' b',St.get { tmps,mem,n:=s1.m+rest.length,m:=s1.m } k'=some b'->∃k b,a3h rest s1.m k=some k' /\ s1.get k=some b /\ b3M (a3h rest s1.m) b=some b':=by
   intro k' b' e;unfold St.get at e;dsimp only at e;refine b2H h2 k' b' ?_;cases hq:a2a mem k' with
   |none=>rw[hq]at e;cases e
   |some x=>rw[hq]at e;dsimp only at e;rw[e]
  refine⟨hm,b0O β rest s1.m,K,⟨fun t=>?_,h.nt,h.defers,h.kok,h.mr.ren a3m hs,fun k hk=>b4e hk,h.kle,h.knew,h.fr,fun x hx=>h.own x (hx.ren h.mr a3m hs),fun k y hk e=>?_,?_⟩⟩
  ·show VR _ K (St.tmpV { tmps,mem,n:=s1.m+rest.length,m:=s1.m } t) _;unfold St.tmpV;dsimp only;cases hq:a2a tmps t with
   |none=>exact a6J
   |some v=>exact e4G a3m (b8M h1 t v hq) (h.tmp t)
  ·rw[b4d (by rw[hm];exact hk)];exact h.ble k y hk e
  ·show z.m<=s1.m+rest.length;omega
 ·cases hc
def a7w {R:Type} (P:Program) (Γ:Env) (z:a6n) (K:Ex->St->Option R) (r:R):Exit->Act->World->Prop
 |.normal,a,w=>∃s,SR P Γ z s a w /\ K .normal s=some r
 |.exit i,a,w=>∃s,SR P Γ z s a w /\ K (.exit i) s=some r
 |.ret,a,w=>∃s,SR P Γ z s a w /\ K .ret s=some r
 |_,_,_=>False
theorem a5Z {R:Type} {cut:Option (List Nat×List Cv)} {K:Ex->St->Option R} {r:R}:∀e a w,a7w P Γ z (a6F cut K) r e a w->a7w P Γ z K r e a w:=by
 intro e a w h;cases e with
 | normal =>
   obtain⟨s,hs,hk⟩:=h;unfold a6F at hk;dsimp only at hk;split at hk
   ·split at hk
    ·rename_i s' hc;exact⟨s',a4L hs hc,hk⟩
    ·cases hk
   ·exact⟨s,hs,hk⟩
 |exit i=>exact h
 |ret=>exact h
 |_=>exact h
theorem b8O {R:Type} {id:Nat} {cut:Option (List Nat×List Cv)} {K:Ex->St->Option R} {r:R}:∀e a w,a7w P Γ z (a9b id cut K) r e a w->Exit.inBlock id (a7w P Γ z K r) e a w:=by
 intro e a w h;cases e with
 | normal =>
   obtain⟨s,hs,hk⟩:=h;exact a5Z (cut:=cut) .normal a w ⟨s,hs,hk⟩
 | exit i =>
   obtain⟨s,hs,hk⟩:=h;simp only[Exit.inBlock];unfold a9b at hk;dsimp only at hk;split at hk
   ·rename_i hb;rw[if_pos (a0l hb)];exact a5Z (cut:=cut) .normal a w ⟨s,hs,hk⟩
   ·rename_i hb;rw[if_neg (fun e=>by subst e;simp at hb)];exact⟨s,hs,hk⟩
 |ret=>exact h
 |_=>exact h
theorem e9A {p:Nat->Prop}:∀(n:Nat),p n->∃k,p k /\ ∀j,j<k->¬p j:=by
 intro n
 induction n using Nat.strongRecOn with
 | _ n ih =>
   intro h;by_cases hq:∃j,j<n /\ p j
   ·obtain⟨j,h1,h2⟩:=hq;exact ih j h1 h2
   ·exact⟨n,h,fun j hj hp=>hq ⟨j,hj,hp⟩⟩
theorem b4f {R:Type} {ex:Nat} {past:List Nat} {pown:List Cv} {K:Ex->St->Option R} {r:R}:∀e a w,a7w P Γ z (e4y ex past pown K) r e a w->a7w P Γ z K r e a w:=by
 intro e a w h;cases e with
 |normal=>obtain⟨s,hs,hk⟩:=h;cases hk
 | exit i =>
   obtain⟨s,hs,hk⟩:=h;unfold e4y at hk;dsimp only at hk;split at hk
   ·split at hk
    ·rename_i s' hc;exact⟨s',a4L hs hc,hk⟩
    ·cases hk
   ·cases hk
 |ret=>exact h
 |_=>exact h
theorem e4K {R:Type} {c:Code} {L:a6E} {K:Ex->St->Option R} {r:R}
 (hc:∀(K:Ex->St->Option R) s r,EBk Γ c K s=some r->∀a w,SR P Γ z s a w->c.wp P (a7w P Γ z K r) a w) (n:Nat) {s:St} (h:b2f Γ c L K n s=some r) {a:Act} {w:World} (hs:SR P Γ z s a w) :
 (Code.loop c).wp P (a7w P Γ z K r) a w:=by
 classical
 let J:Act->World->Nat->Prop:=fun a w k=>∃s,SR P Γ z s a w /\ b2f Γ c L K k s=some r
 let I:Act->World->Prop:=fun a w=>∃k,J a w k
 have hmin:∀a w,I a w->∃k,J a w k /\ ∀j,j<k->¬J a w j:=fun a w ⟨k,hk⟩=>e9A k hk
 let μ:Act->World->Nat:=fun a w=>if h:I a w then(hmin a w h).choose else 0
 have hμ:∀a w,I a w->J a w (μ a w) /\ ∀j,j<μ a w->¬J a w j:=by
  intro a w hI;have:μ a w=(hmin a w hI).choose:=dif_pos hI;rw[this];exact(hmin a w hI).choose_spec
 refine wp_loop I μ ⟨n,s,hs,h⟩ fun a w hI=>?_
 obtain⟨⟨s,hs,hk⟩,_⟩:=hμ a w hI;cases hn:μ a w with
 |zero=>rw[hn]at hk;simp[b2f]at hk
 | succ k =>
   rw[hn]at hk;simp only[b2f]at hk;refine wp_mono (hc _ s r hk a w hs) fun e a' w' he=>?_
   cases e with
   | normal =>
     obtain⟨s',hs',hk'⟩:=he;unfold a0z at hk';dsimp only at hk';split at hk'
     ·rename_i s'' hc';have hJ:J a' w' k:=⟨s'',a4L hs' hc',hk'⟩;have hI':I a' w':=⟨k,hJ⟩;refine⟨hI',?_⟩;have h2:=(hμ a' w' hI').2 k;rcases Nat.lt_or_ge k (μ a' w')with h3|h3
      ·exact absurd hJ (h2 h3)
      ·omega
     ·cases hk'
   |exit i=>exact b4f (ex:=L.ex) (past:=L.past) (pown:=L.pown) (.exit i) a' w' he
   |ret=>exact b4f (ex:=L.ex) (past:=L.past) (pown:=L.pown) .ret a' w' he
   |_=>exact he
theorem c4w {R:Type} (env:a1F P Γ):∀(c:Code),a8n Γ c->∀(K:Ex->St->Option R) (s:St) (r:R),EBk Γ c K s=some r->∀a w,SR P Γ z s a w->c.wp P (a7w P Γ z K r) a w:=by
 intro c
 induction c with
 |skip=>exact fun _ K s r h a w hs=>wp_skip ⟨s,hs,h⟩
 |label l=>exact fun _ K s r h a w hs=>wp_label ⟨s,hs,h⟩
 |exit id=>exact fun _ K s r h a w hs=>wp_exit ⟨s,hs,h⟩
 | ret =>
   intro _ K s r h a w hs;unfold EBk at h;split at h
   ·rename_i s' hc;exact wp_ret ⟨s',a4L hs hc,h⟩
   ·cases h
 | seq x y ihx ihy =>
   intro hL K s r h a w hs;unfold EBk at h;refine wp_seq (wp_mono (ihx (fun c' hc'=>hL c' (List.mem_append_left _ hc')) _ s r h a w hs) fun e a' w' he=>?_);cases e with
   | normal =>
     obtain⟨s',hs',hk⟩:=he;exact ihy (fun c' hc'=>hL c' (List.mem_append_right _ hc')) K s' r hk a' w' hs'
   |exit i=>exact he
   |ret=>exact he
   |_=>exact he
 | cond c x y ihx ihy =>
   intro hL K s r h a w hs;unfold EBk at h;split at h
   ·rename_i b hb;obtain⟨hm,β,Ks,hf⟩:=hs;have hv:=b0I hf.tmp c;rw[<- c4v,hb]at hv;have hev:a.eval c = .bool b:=hv;have hput:∀b',b=b'->SR P Γ z (s.putC c b') a w:=by
     intro b' e;subst e;cases c with
     | tmp t =>
       have:=a5W s t (a2I b) hb;exact⟨hm,β,Ks,by rw[show(s.putC (.tmp t) b).fs=(s.put t (a2I b)).fs from rfl,this];exact hf⟩
     |_=>exact⟨hm,β,Ks,hf⟩
    refine wp_cond hev ?_;cases b with
    |true=>exact wp_mono (ihx (fun c' hc'=>hL c' (List.mem_append_left _ hc')) _ _ r h a w (hput true rfl)) a5Z
    |false=>exact wp_mono (ihy (fun c' hc'=>hL c' (List.mem_append_right _ hc')) _ _ r h a w (hput false rfl)) a5Z
   ·cases h
 | block id x ih =>
   intro hL K s r h a w hs;unfold EBk at h;exact wp_block (wp_mono (ih hL _ s r h a w hs) b8O)
 | loop x ih =>
   intro hL K s r h a w hs;unfold EBk at h;split at h
   ·rename_i L hl;unfold e4z at h;split at h
    ·cases h
    ·rename_i s0 hc0;split at h
     ·cases h
     ·rename_i ok b s1 s2 hrun;split at h
      ·cases h
      ·obtain⟨n,hn⟩:=hL x (List.mem_cons_self ..) L hl s0 b s1 s2 hrun R K;refine e4K (L:=L) (ih fun c' hc'=>hL c' (List.mem_cons_of_mem _ hc')) n (r:=r) (K:=K) ?_ (a4L hs hc0);rw[hn];cases b
       ·exact h
       ·exact h
   ·cases h
 | region id ops d =>
   intro hL K s r h a w hs;unfold EBk at h;obtain⟨hm,β,Ks,hf⟩:=hs;obtain⟨F,E,X,s',f0,fl,fm,fs,fk⟩:=b4a ops.toList h;have fs':∀i o,ops[i]?=some o->a4k Γ ops o (F i) (E i) (X i) (F (i+1)):=fun i o e=>fs i o (by rw[Array.getElem?_toList];exact e)
   rw[Array.length_toList]at fl fk;have hend:∀β K' a w,SRf P Γ z β K' (F ops.size) a w->SR P Γ z s' a w:=fun β K' a w h=>⟨fm.trans hm,β,K',by rw[<- fl];exact h⟩
   cases d with
   | false =>
     dsimp only at fk;refine wp_region ?_;rw[List.range_eq_range'];refine c2v env fs' (fun β K' a w h=>⟨s',hend β K' a w h,fk⟩) ops.size 0 (by omega) β Ks a w ?_;rw[f0];exact hf
   | true =>
     dsimp only at fk;split at fk
     ·rename_i hd;obtain⟨d1,d2,d3⟩:=b8K hd;have R:Rgn Γ ops F E X:=⟨fs',d1,d2,d3⟩;have hf0:SRf P Γ z β Ks (F 0) a { w with drawn:=w.drawn+1 }:=by
       rw[f0];exact hf.still ⟨rfl,rfl,rfl,rfl⟩
      have hrep:∀k,(Array.replicate ops.size false).getD k false=false:=by
       intro k;simp only[Array.getD_eq_getD_getElem?,Array.getElem?_replicate];split<;>rfl
      refine wp_region_any env.mixed (c7E env R (fun β K' a w h=>⟨s',hend β K' a w h,fk⟩) ops.size _ (by simp) ?_ ?_ β Ks _ _ ?_)
      ·have:∀N,cnt (fun k=>(Array.replicate ops.size false).getD k false) N=N:=by
        intro N
        induction N with
        |zero=>rfl
        | succ N ih =>
          simp only[cnt];rw[if_neg (by rw[hrep];simp),ih];omega
       rw[this];exact le_refl _
      ·intro i o hi hD;dsimp only at hD;rw[hrep]at hD;cases hD
      ·exact DS.start R hf0 hrep
     ·cases fk
 |_=>intro _ K s r h;simp[EBk]at h
end
section
variable {P:Program} {Γ:Env}
theorem a6a:∀{args:List W} {i:Nat} {β:Bt} {K:Ks} {vs:List Value},All2 (WR β K) args vs->∀t,VR β K (match a2a (b8q i args) (i+t)with|some v=>v|none=>pois) (vs.getD t undef) /\ ∀j,j<i->a2a (b8q i args) j=none
 |[],i,β,K,vs,h,t=>⟨by simp only[b8q,a2a];exact a6J,fun j _=>rfl⟩
 |u::r,i,β,K,[],h,t=>h.elim
 | u::r,i,β,K,v::vs,h,t=>by
   refine⟨?_,fun j hj=>?_⟩
   ·cases t with
    | zero =>
      simp only[b8q,a2a,Nat.add_zero,Nat.beq_refl];exact h.1
    | succ t =>
      simp only[b8q,a2a];rw[a1T (by omega)];have:=(a6a (i:=i+1) h.2 t).1;rw[show i+1+t=i+(t+1)by omega]at this;exact this
   ·simp only[b8q,a2a];rw[a1T (by omega)];exact(a6a (i:=i+1) h.2 t).2 j (by omega)
theorem b2I:∀{ins:List Blk} {i:Nat} (k:Nat),a2a (c9V i ins) (i+k)=(ins[k]?).map some
 |[],i,k=>rfl
 |b::r,i,0=>by simp[c9V,a2a]
 | b::r,i,k+1=>by
   simp only[c9V,a2a];rw[a1T (by omega)];have:=b2I (ins:=r) (i:=i+1) k;rw[show i+1+k=i+(k+1)by omega]at this;rw[this];simp
theorem a7x (args:List W) (ins:List Blk):(a9A args ins).get=a2t ins:=by
 funext k;unfold St.get a9A a2t;dsimp only;have:=b2I (ins:=ins) (i:=0) k;rw[Nat.zero_add]at this;rw[this];cases ins[k]?<;>rfl
theorem b4g:∀(m p:Nat),(b2b m)[p]?=if p<m then some p else none
 |0,p=>by simp[b2b]
 | m + 1,p=>by
   simp only[b2b];have hl:(b2b m).length=m:=by
    clear p
    induction m with
    |zero=>rfl
    |succ m ih=>simp[b2b,ih]
   rw[List.getElem?_append,hl];split
   ·rename_i h;rw[b4g m p,if_pos h,if_pos (by omega)]
   ·rename_i h;by_cases e:p=m
    ·subst e;simp
    ·rw[if_neg (by omega),List.getElem?_eq_none (by simp;omega)]
theorem a3y:∀(m:Nat),(b2b m).length=m
 |0=>rfl
 |m+1=>by simp[b2b,a3y m]
theorem e1E {z:a6n} {fn:Func} (env:a1F P Γ) (hres:fn.results.toList=Γ.res) {β:Bt} {K:Ks} {s:St} {a:Act} {w:World} (h:SRf P Γ z β K s.fs a w) {ws:List W} (hw:a1S (e9r Γ s) Γ.res=some ws) :
 ∃v,(results fn a.tmps).run P w = .ok v w /\ a8h β K ws v:=by
 have key : ∀(rs:List ResultVar) (ws:List W),a1S (e9r Γ s) rs=some ws->∃vs:List Value,All2 (WR β K) ws vs /\
  (rs.mapM (fun(x:ResultVar)=>match x with
   |.tmp t=>(pure (a.tmps.getD t undef):Go.Sem Value)
   |.cell b t=>do loadVar t (<- asAddr (a.tmps.getD b undef)))).run P w = .ok vs w:=by
  intro rs
  induction rs with
  |nil=>intro ws hw;simp only[a1S,injEq]at hw;subst hw;exact⟨[],trivial,by simp⟩
  | cons x rs ih =>
    intro ws hw;simp only[a1S]at hw;split at hw
    ·rename_i y hy;split at hw
     ·rename_i ys hys;cases hw;obtain⟨vs,h1,h2⟩:=ih ys hys;cases x with
      | tmp t =>
        simp only[e9r]at hy;split at hy
        ·rename_i u hu;cases hy;have hv:=h.tmp t;rw[show s.fs.T t = .val y from hu]at hv;refine⟨a.tmps.getD t undef::vs,⟨hv,h1⟩,?_⟩;rw[List.mapM_cons];simp only[Sem.run_bind,Sem.run_pure,Result.andThen_ok,h2]
        ·cases hy
      | cell b t =>
        simp only[e9r]at hy;split at hy
        ·rename_i ti hti;split at hy
         ·rename_i out hout;split at hy
          ·rename_i u hu;cases hy;obtain⟨bb,off,u',v,e1,e2,e3,e4⟩:=c4m (P:=P) (get:=s.get) (n:=0) (env.tab t ti hti) h.kok h.mr (h.tmp b) hout;simp only[AM.a0J,injEq]at e4;rw[<- e4]at hu;cases hu;refine⟨v::vs,⟨e3,h1⟩,?_⟩;have ha:(do loadVar t (<- asAddr (a.tmps.getD b undef)):Go.Sem Value).run P w = .ok v w:=by
            rw[e1,Sem.run_bind];simp only[asAddr,Sem.run_pure,Result.andThen_ok,e2]
           rw[List.mapM_cons,Sem.run_bind];dsimp only;rw[ha];simp only[Result.andThen_ok,Sem.run_bind,h2,Sem.run_pure]
          ·cases hy
         ·cases hy
        ·cases hy
     ·cases hw
    ·cases hw
 obtain⟨vs,h1,h2⟩:=key _ _ hw;rw[<- hres]at h2;refine⟨if h:vs.toArray.size=1 then vs.toArray[0]else .tuple vs.toArray,?_,?_⟩
 ·unfold results;rw[Array.mapM_eq_mapM_toList,Sem.run_bind,Sem.run_map]
  erw [h2]
  rfl
 ·unfold a8h;cases ws with
  | nil=>cases vs with
    |nil=>exact⟨#[],rfl,trivial⟩
    |cons _ _=>exact h1.elim
  | cons x r=>cases vs with
    |nil=>exact h1.elim
    | cons v vs=>cases r with
      | nil=>cases vs with
        |nil=>exact h1.1
        |cons _ _=>exact h1.2.elim
      | cons y r=>cases vs with
        |nil=>exact h1.2.elim
        |cons v' vs=>exact⟨(v::v'::vs).toArray,by simp,by simpa using h1⟩
structure a6z (P:Program) (f:Nat) (Γ:Env) (c:Code):Prop where
 loops:a8n Γ c
 is:∃fn,P.funcs[f]?=some fn /\ fn.body=some c /\ fn.results.toList=Γ.res /\ fn.ntmps=Γ.nt /\ (fn.name == "runtime.NumGoroutine")=false
theorem a6z.ok {f:Nat} {c:Code} (h:a6z P f Γ c):e4A P f:=by
 obtain⟨fn,h1,h2,_,_,h3⟩:=h.is;exact⟨fn,h1,by rw[h2];rfl,h3⟩
theorem c4x {R:Type} (env:a1F P Γ) {f:Nat} {c:Code} (hf:a6z P f Γ c) {g:List W×List (Option Blk)->Option R} {args:List W} {ins:List Blk} {r:R} (h:a0t Γ c g args ins=some r)
 {β0:Bt} {K0:Ks} {w0:World} {vs:Array Value} (hk:KOK K0 w0) (hm:MR β0 K0 (a2t ins) w0) (hfr:∀k,ins.length<=k->β0 k=none) (hv:All2 (WR β0 K0) args vs.toList) :
 Calls P f vs w0 fun e w'=>∃v β K rs outs,e = .returned v /\ g (rs,outs)=some r /\ Ret ins outs rs β0 K0 w0 v w' β K:=by
 obtain⟨fn,hfn,hbody,hres,hnt,_⟩:=hf.is;unfold a0t at h;split at h
 case h_2=>cases h
 rename_i hle;have hle:args.length<=Γ.nt:=by simpa using hle
 have hlen:args.length=vs.size:=by simpa using hv.length
 refine calls_of_wp hfn hbody ?_;rw[hnt]
 let z:a6n:=⟨β0,K0,w0,ins.length,Own β0 (a2t ins)⟩
 have h0:SR P Γ z (a9A args ins) { tmps:=vs++Array.replicate (Γ.nt-vs.size) undef,defers:=[] } w0:=by
  refine⟨rfl,β0,K0,⟨fun t=>?_,by simp;omega,rfl,hk,?_,hfr,KLe.refl _,fun b arr e => .inl e,Fr.refl _ _,?_,fun k y _ e=>e,le_refl _⟩⟩
  ·have h1:=(a6a (i:=0) hv t).1;rw[Nat.zero_add]at h1;have h2:(vs++Array.replicate (Γ.nt-vs.size) undef).getD t undef=vs.toList.getD t undef:=by
    simp only[Array.getD_eq_getD_getElem?,List.getD_eq_getElem?_getD,Array.getElem?_toList];rw[Array.getElem?_append];split
    ·rfl
    ·rename_i hlt;rw[Array.getElem?_replicate,Array.getElem?_eq_none (xs:=vs) (by omega)];split<;>rfl
   show VR β0 K0 ((a9A args ins).tmpV t) ((vs++Array.replicate (Γ.nt-vs.size) undef).getD t undef);rw[h2];exact h1
  ·show MR β0 K0 (a9A args ins).get w0;rw[a7x];exact hm
  ·intro x hx;left;have:(a9A args ins).fs.G=a2t ins:=a7x args ins;rw[this]at hx;exact hx
 refine wp_mono (c4w env c hf.loops _ _ r h _ _ h0) fun e a w he=>?_
 have main:∀s,SR P Γ z s a w->(match fin Γ s with|some r=>g r|none=>none)=some r->a.defers=[] /\ ∃v,(results fn a.tmps).run P w = .ok v w /\ ∃v' β K rs outs,Ending.returned v = .returned v' /\ g (rs,outs)=some r /\ Ret ins outs rs β0 K0 w0 v' w β K:=by
  intro s hs hg;split at hg
  case h_2=>cases hg
  rename_i ro hfin;obtain⟨rs,outs⟩:=ro;obtain⟨hm',β,K,hs⟩:=hs;unfold fin at hfin;split at hfin
  ·cases hfin
  ·rename_i ws hws;obtain⟨v,hr1,hr2⟩:=e1E env hres hs hws;dsimp only at hfin;generalize hksd:a2H s.get a1X (b2b s.m++ws.flatMap a1b) (b2b 0)=ks at hfin;have hnd:(a4c ks s.m).Nodup:=by
    rw[a4l,<- hksd];exact List.Pairwise.filter _ (a2n _ _ _ _ (by simp[b2b]))
   have hge:∀k∈a4c ks s.m,s.m<=k:=by
    intro k hk;rw[a4l,List.mem_filter]at hk;simpa using hk.2
   generalize a4c ks s.m=rest at hfin hnd hge;split at hfin
   ·rename_i ws' outs' h1 h2;cases hfin;have hlo:outs.length=s.m+rest.length:=by rw[a2m h2,List.length_append,a3y]
    have hsrc:∀k' b',a2r outs k'=some b'->∃k b,a3h rest s.m k=some k' /\ s.get k=some b /\ b3M (a3h rest s.m) b=some b':=by
     intro k' b' e;unfold a2r at e;cases hq:outs[k']? with
     |none=>rw[hq]at e;cases e
     | some x =>
       rw[hq]at e;have hx:x=some b':=e;subst hx;obtain⟨k,hk,hr⟩:=(All2.ofMap h2).get?' hq;have hnk:a3h rest s.m k=some k':=by
        rw[List.getElem?_append,a3y]at hk;unfold a3h;split at hk
        ·rename_i hlt;rw[b4g,if_pos hlt]at hk;have hkk:k'=k:=Option.some.inj hk;rw[<- hkk,show Nat.blt k' s.m=true by simpa[Nat.blt_eq]using hlt]
        ·rename_i hlt;have h3:=hge k (List.mem_of_getElem? hk);rw[show Nat.blt k s.m=false from Bool.eq_false_iff.2 fun e=>by rw[Nat.blt_eq]at e;omega];dsimp only;rw[b0N hnd hk];congr 1;omega
       cases hg0:s.get k with
       |none=>rw[hg0]at hr;simp[a7g]at hr
       | some b0 =>
         rw[hg0]at hr;simp only[a7g,Option.map_eq_some_iff,injEq]at hr;obtain⟨b1,h4,h5⟩:=hr;exact⟨k,b0,hnk,hg0,by rw[h4,h5]⟩
    refine⟨hs.defers,v,hr1,v,b0O β rest s.m,K,rs,outs,rfl,hg,⟨hs.kle,hs.kok,hs.knew,hs.mr.ren a3m hsrc,fun k hk=>b4e (by omega),?_,hs.fr,fun x hx=>hs.own x (hx.ren hs.mr a3m hsrc),?_,?_⟩⟩
    ·have h3:VR (b0O β rest s.m) K (d7o rs) v:=a7m h1 hr2 fun c c' u _ hcc hu=>a6H a3m hcc hu
     exact h3
    ·intro k y e;have hkm:k<ins.length:=by
      rcases Nat.lt_or_ge k ins.length with h3|h3
      ·exact h3
      ·rw[hfr k h3]at e;cases e
     have hzm:s.m=ins.length:=hm';rw[b4d (by omega)];exact hs.ble k y hkm e
    ·have hzm:s.m=ins.length:=hm';omega
   ·cases hfin
 cases e with
 |normal=>obtain⟨s,hs,hg⟩:=he;exact main s hs hg
 |ret=>obtain⟨s,hs,hg⟩:=he;exact main s hs hg
 |exit i=>obtain⟨s,hs,hg⟩:=he;cases hg
 |_=>exact he.elim
end
open Go Go.ChangeShapes Go.WideShapes
def e4L:C->Value->Bool
 |.pois,_=>true
 |.bool b,.bool b'=>b==b'
 |.int k n,.int k' n'=>a3M k k'&&decide (n=n')
 |.flt k b,.float k' b'=>a1q k k'&&beq b b'
 |.cpx k a b,.complex k' a' b'=>a1q k k'&&beq a a'&&beq b b'
 |.str s,.string s'=>beq s.size 0&&beq s'.size 0
 |.nil _,.slice _ n c=>beq n 0&&beq c 0
 |_,_=>false
theorem a6K {s:ByteArray} (h:s.size=0):s=ByteArray.empty:=by
 apply ByteArray.ext;apply Array.eq_empty_of_size_eq_zero;exact h
theorem d7I {c:C} {v:Value} (h:e4L c v=true):ZR c v:=by
 intro β K;unfold e4L at h;split at h
 ·trivial
 ·rename_i b b';have:b=b':=by simpa using h
  rw[this];rfl
 ·simp only[and_eq_true,a3M,decide_eq_true_eq]at h;obtain⟨rfl,rfl⟩:=h;rfl
 ·simp only[and_eq_true,a1q,decide_eq_true_eq]at h;obtain⟨rfl,h⟩:=h;rw[a0l h];exact⟨_,rfl,FEq.refl _ _⟩
 ·simp only[and_eq_true,a1q,decide_eq_true_eq]at h;obtain⟨⟨rfl,h⟩,h'⟩:=h;rw[a0l h,a0l h'];exact⟨_,_,rfl,FEq.refl _ _,FEq.refl _ _⟩
 ·simp only[and_eq_true]at h;rw[a6K (a0l h.1),a6K (a0l h.2)];rfl
 ·simp only[and_eq_true]at h;rw[a0l h.1,a0l h.2];exact⟨_,rfl⟩
 ·cases h
def d0A {α γ:Type} (f:α->γ->Bool):List α->List γ->Bool
 |[],[]=>true
 |a::as1,b::bs=>f a b&&d0A f as1 bs
 |_,_=>false
theorem b4h {α γ:Type} {f:α->γ->Bool} {R:α->γ->Prop} (hf:∀a b,f a b=true->R a b):∀{as1:List α} {bs:List γ},d0A f as1 bs=true->All2 R as1 bs
 |[],[],_=>trivial
 | a::as1,b::bs,h=>by
   simp only[d0A,and_eq_true]at h;exact⟨hf _ _ h.1,b4h hf h.2⟩
 |[],_::_,h=>by cases h
 |_::_,[],h=>by cases h
def d0B (P:Program) (f:Field) (x:Nat×Nat×Bool):Bool:=
 beq f.offset x.1&&(match P.info? f.type,P.underlying f.type with
  |some fi,some fd=>beq fi.size x.2.1&&(d6p fd==x.2.2)
  |_,_=>false)
def f7h (P:Program) (d:TypeDesc) (ti:TI):Bool:=match ti.sort,d with
 |.slice,.slice e=>beq e ti.elem
 |.array n,.array m e=>beq m n&&beq e ti.elem
 |.string,.string=>true
 |.struct,.struct fs=>d0A (d0B P) fs.toList ti.fields
 |.bool,.bool=>true
 |.int k,.int k'=>a3M k k'
 |.float k,.float k'=>a1q k k'
 |.complex k,.complex k'=>a1q k k'
 |.other,_=>true
 |_,_=>false
theorem d0C {P:Program} {f:Field} {x:Nat×Nat×Bool} (h:d0B P f x=true):f.offset=x.1 /\ ∃fi fd,P.info? f.type=some fi /\ fi.size=x.2.1 /\ P.underlying f.type=some fd /\ d6p fd=x.2.2:=by
 simp only[d0B,and_eq_true]at h;obtain⟨h1,h2⟩:=h;split at h2
 ·rename_i fi fd e1 e2;simp only[and_eq_true]at h2;exact⟨a0l h1,fi,fd,e1,a0l h2.1,e2,by simpa using h2.2⟩
 ·cases h2
theorem e4M {P:Program} {d:TypeDesc} {ti:TI} (h:f7h P d ti=true):a2e P d ti:=by
 unfold f7h at h;unfold a2e;split at h
 ·rename_i e;rw[e];rw[a0l h]
 ·rename_i e;simp only[and_eq_true]at h;rw[e];dsimp only;rw[a0l h.1,a0l h.2]
 ·rename_i e;rw[e]
 ·rename_i e;rw[e];exact⟨_,rfl,b4h (fun _ _=>d0C) h⟩
 ·rename_i e;rw[e]
 ·rename_i e;rw[e];dsimp only;rw[show _=_ from of_decide_eq_true h]
 ·rename_i e;rw[e];dsimp only;rw[show _=_ from of_decide_eq_true h]
 ·rename_i e;rw[e];dsimp only;rw[show _=_ from of_decide_eq_true h]
 ·rename_i e;rw[e];trivial
 ·cases h
def a3H:Ty->List Value->Option (List Value)
 |.bool,.bool false::r=>some r
 |.int k,.int k' n::r=>match a3M k k'&&decide (n=0)with|true=>some r|false=>none
 |.flt k,.float k' b::r=>match a1q k k'&&beq b 0 with|true=>some r|false=>none
 |.cpx k,.complex k' a b::r=>match a1q k k'&&beq a 0&&beq b 0 with|true=>some r|false=>none
 |.str,.string s::r=>match beq s.size 0 with|true=>some r|false=>none
 |.slice _,.slice _ n c::r=>match beq n 0&&beq c 0 with|true=>some r|false=>none
 |.nil,r=>some r
 | .cons a b,r=>match a3H a r with
   |some r'=>a3H b r'
   |none=>none
 |_,_=>none
theorem d7J:∀(t:Ty) {vs r:List Value},a3H t vs=some r->∃v1,vs=v1++r /\ ∀K,DR K t (zero t) v1:=by
 intro t
 induction t with
 | cons a b iha ihb =>
   intro vs r h;simp only[a3H]at h;split at h
   ·rename_i r' h1;obtain⟨v1,rfl,d1⟩:=iha h1;obtain⟨v2,rfl,d2⟩:=ihb h;exact⟨v1++v2,by simp,fun K=>⟨v1,v2,rfl,d1 K,d2 K⟩⟩
   ·cases h
 |nil=>intro vs r h;simp only[a3H,injEq]at h;subst h;exact⟨[],rfl,fun K=>rfl⟩
 | jnk =>
   intro vs r h;cases vs with
   |nil=>simp[a3H]at h
   |cons v vs=>cases v<;>simp[a3H]at h
 | bool =>
   intro vs r h;cases vs with
   |nil=>simp[a3H]at h
   | cons v vs =>
     cases v<;>first|(simp[a3H]at h;done)|skip
     rename_i b;cases b
     ·simp only[a3H,injEq]at h;subst h;exact⟨[_],rfl,fun K=>rfl⟩
     ·simp[a3H]at h
 | int k =>
   intro vs r h;cases vs with
   |nil=>simp[a3H]at h
   | cons v vs =>
     cases v<;>simp only[a3H]at h<;>first|cases h|skip
     split at h
     ·rename_i hb;simp only[and_eq_true,a3M,decide_eq_true_eq]at hb;obtain⟨rfl,rfl⟩:=hb;cases h;exact⟨[_],rfl,fun K=>rfl⟩
     ·cases h
 | flt k =>
   intro vs r h;cases vs with
   |nil=>simp[a3H]at h
   | cons v vs =>
     cases v<;>simp only[a3H]at h<;>first|cases h|skip
     split at h
     ·rename_i hb;simp only[and_eq_true,a1q,decide_eq_true_eq]at hb;obtain⟨rfl,hb⟩:=hb;rw[a0l hb];cases h;exact⟨[_],rfl,fun K=>⟨_,rfl,FEq.refl _ _⟩⟩
     ·cases h
 | cpx k =>
   intro vs r h;cases vs with
   |nil=>simp[a3H]at h
   | cons v vs =>
     cases v<;>simp only[a3H]at h<;>first|cases h|skip
     split at h
     ·rename_i hb;simp only[and_eq_true,a1q,decide_eq_true_eq]at hb;obtain⟨⟨rfl,hb⟩,hc⟩:=hb;rw[a0l hb,a0l hc];cases h;exact⟨[_],rfl,fun K=>⟨_,_,rfl,FEq.refl _ _,FEq.refl _ _⟩⟩
     ·cases h
 | str =>
   intro vs r h;cases vs with
   |nil=>simp[a3H]at h
   | cons v vs =>
     cases v<;>simp only[a3H]at h<;>first|cases h|skip
     split at h
     ·rename_i hb;cases h;rw[a6K (a0l hb)];exact⟨[_],rfl,fun K=>rfl⟩
     ·cases h
 | slice t ih =>
   intro vs r h;cases vs with
   |nil=>simp[a3H]at h
   | cons v vs =>
     cases v<;>simp only[a3H]at h<;>first|cases h|skip
     split at h
     ·rename_i hb;simp only[and_eq_true]at hb;rw[a0l hb.1,a0l hb.2];cases h;exact⟨[_],rfl,fun K=>⟨_,0,0,rfl,rfl,le_refl _,.inl rfl⟩⟩
     ·cases h
def tiB (P:Program) (t:Nat) (ti:TI):Bool:=match P.info? t,P.underlying t with
 | some i,some d=>match i.zero with
   |some z=>beq i.size ti.size&&beq i.bytes ti.bytes&&(d6p d==ti.agg)&&d0A e4L ti.zero z.cells.toList&&f7h P d ti &&
    (!beq ti.ty.size ti.size||(match a3H ti.ty z.cells.toList with|some []=>true|_=>false))&&beq z.cells.size i.size
   |none=>false
 |_,_=>false
theorem e9B {P:Program} {t:Nat} {ti:TI} (h:tiB P t ti=true):e8M P t ti:=by
 unfold tiB at h;split at h
 ·rename_i i d h1 h2;split at h
  ·rename_i z h3;simp only[and_eq_true]at h;obtain⟨⟨⟨⟨⟨⟨g1,g2⟩,g3⟩,g4⟩,g5⟩,g6⟩,g7⟩:=h;refine⟨i,d,z,h1,h2,h3,a0l g1,a0l g2,by simpa using g3,b4h (fun _ _=>d7I) g4,e4M g5,fun hs=>?_,a0l g7⟩;rw[hs]at g6;simp only[Nat.beq_refl,Bool.not_true,Bool.false_or]at g6;split at g6
   ·rename_i hz;obtain⟨v1,e,hd⟩:=d7J _ hz;rw[List.append_nil]at e;rw[e];exact hd
   ·cases g6
  ·cases h
 ·cases h
def f4u (P:Program) (l:List (Nat×TI)):Bool:=l.all fun x=>tiB P x.1 x.2
theorem b4i {α:Type}:∀{l:List (Nat×α)} {t:Nat} {x:α},a2a l t=some x->(t,x)∈l
 |[],_,_,h=>by cases h
 | (k,y)::r,t,x,h=>by
   simp only[a2a]at h;split at h
   ·rename_i e;cases h;rw[a0l e];exact List.mem_cons_self ..
   ·exact List.mem_cons_of_mem _ (b4i h)
theorem e4N {P:Program} {l:List (Nat×TI)} (h:f4u P l=true):∀t ti,a2a l t=some ti->e8M P t ti:=fun t ti e=>
 e9B (List.all_eq_true.1 h _ (b4i e))
def b4j (w:World):Ks:=fun b=>match w.heap[b]? with
 |some (.cells arr _ _)=>some (false,arr)
 |_=>none
theorem e4O (w:World) (x:Nat):¬Jk (b4j w) x:=by
 rintro⟨arr,e⟩;unfold b4j at e;split at e<;>cases e
theorem e4P (w:World) (hg:GK (b4j w)):KOK (b4j w) w:=by
 refine⟨?_,hg⟩;intro b arr e;unfold b4j at e;split at e
 ·rename_i a T fz h;cases e;exact⟨a,T,fz,h,KOK.self fun e=>by cases e⟩
 ·cases e
def Wf:(t:Ty)->Den t->Prop
 |.int k,n=>(Lit.int k n).wf=true
 |.flt k,b=>(Lit.float k b).wf=true
 |.str,s=>s.size<=maxLen
 |.slice t,l=>l.length<=maxLen /\ ∀x∈l,Wf t x
 |.cons a b,p=>Wf a p.1 /\ Wf b p.2
 |_,_=>True
mutual
def tyB (P:Program):Ty->Nat->Bool
 |.bool,t=>match P.underlying t with|some .bool=>true|_=>false
 |.int k,t=>match P.underlying t with|some (.int k')=>a3M k k'|_=>false
 |.flt k,t=>match P.underlying t with|some (.float k')=>a1q k k'|_=>false
 |.str,t=>match P.underlying t with|some .string=>true|_=>false
 |.cpx _,_=>false
 |.jnk,_=>false
 |.nil,_=>false
 | .slice e,t=>match P.underlying t with
   |some (.slice te)=>tyB P e te&&beq (P.cellsOf te) e.size&&Nat.blt 0 e.size
   |_=>false
 | .cons a b,t=>match P.underlying t with
   | some (.struct fs)=>match fs.toList with
     |f::r=>beq f.offset 0&&tyB P a f.type&&beq (P.cellsOf f.type) a.size&&fldB P b r a.size&&beq (P.cellsOf t) (a.size+b.size)
     |[]=>false
   |_=>false
def fldB (P:Program):Ty->List Field->Nat->Bool
 |.nil,fs,_=>fs.isEmpty
 | .cons a b,fs,off=>match fs with
   |f::r=>beq f.offset off&&tyB P a f.type&&beq (P.cellsOf f.type) a.size&&fldB P b r (off+a.size)
   |[]=>false
 |_,_,_=>false
end
theorem e4Q {P:Program} {e:Ty} {t:Nat} (h:tyB P e t=true):e.isJ=false:=by
 cases e with
 |jnk=>simp[tyB]at h
 |_=>rfl
theorem b2j {α γ:Type} {f:α->Option γ} {x:α} {l:List α} {ys:List γ} (h:(x::l).mapM f=some ys):∃y ys',f x=some y /\ l.mapM f=some ys' /\ ys=y::ys':=by
 rw[List.mapM_cons]at h;cases h1:f x with
 |none=>rw[h1]at h;cases h
 | some y =>
   rw[h1]at h;cases h2:l.mapM f with
   |none=>rw[h2]at h;cases h
   | some ys' =>
     rw[h2]at h;exact⟨y,ys',rfl,rfl,(Option.some.inj h).symm⟩
theorem c4y {α γ:Type} {f:α->Option γ}:∀{l:List α} {ys:List γ},l.mapM f=some ys->ys.length=l.length /\ ∀(i:Nat) x,l[i]?=some x->∃y,ys[i]?=some y /\ f x=some y
 | [],ys,h=>by
   have:ys=[]:=by simpa using h.symm
   subst this;exact⟨rfl,fun i x e=>by simp at e⟩
 | x::l,ys,h=>by
   obtain⟨y,ys',h1,h2,rfl⟩:=b2j h;obtain⟨h3,h4⟩:=c4y h2;refine⟨by simp[h3],fun i z e=>?_⟩;cases i with
   |zero=>simp only[List.getElem?_cons_zero,injEq]at e;subst e;exact⟨y,rfl,h1⟩
   |succ i=>exact h4 i z (by simpa using e)
theorem b8P {γ:Type} {f:Nat->Option γ} {n:Nat} {ys:List γ} (h:(List.range n).mapM f=some ys):ys.length=n /\ ∀i,i<n->∃y,ys[i]?=some y /\ f i=some y:=by
 obtain⟨h1,h2⟩:=c4y h;exact⟨by simpa using h1,fun i hi=>h2 i i (by simp[hi])⟩
theorem d0D {w:World} {base b off n:Nat} {arr:Array Value} {T:TypeId} {fz:Nat×Nat} (hh:w.heap[b]?=some (.cells arr T fz)) {vs:List Value} (h:w.cells? base ⟨b,off,none⟩ n=some vs):vs=sub arr.toList off n:=by
 unfold World.cells? at h;split at h
 ·obtain⟨h1,h2⟩:=b8P h;apply List.ext_getElem?;intro j;unfold sub;rw[List.getElem?_take];split
  ·rename_i hj;obtain⟨y,e1,e2⟩:=h2 j hj;rw[e1,List.getElem?_drop,Array.getElem?_toList];rw[a3c]at e2;unfold World.cell? at e2;rw[hh]at e2;simpa using e2.symm
  ·rw[List.getElem?_eq_none (by omega)]
 ·cases h
section
variable {H:Type} {enc:TypeId×Value->H} {P:Program} {w:World} {base:Nat} {spare:Nat->Bool} {held:Bool}
theorem e4R:∀(ty:Ty),
 (∀(t fuel:Nat) (cs:List Value) (d:DataW H×List MemPlace),tyB P ty t=true->DataW.trod enc P w base spare held fuel t cs=some d->∃x:Den ty,DR (b4j w) ty x cs /\ Wf ty x) /\
 (∀(fs:List Field) (off fuel:Nat) (cs:List Value),fldB P ty fs off=true->(∀f∈fs,∃y,DataW.trod enc P w base spare held fuel f.type ((cs.drop f.offset).take (P.cellsOf f.type))=some y) ->
  cs.length=off+ty.size->∃x:Den ty,DR (b4j w) ty x (cs.drop off) /\ Wf ty x):=by
 intro ty
 induction ty with
 | bool =>
   refine⟨fun t fuel cs d ht h=>?_,fun fs off fuel cs h=>by simp[fldB]at h⟩;simp only[tyB]at ht;split at ht
   ·rename_i hu;obtain⟨b,h1,_⟩:=DataW.trod_bool hu h;exact⟨b,h1,trivial⟩
   ·cases ht
 | int k =>
   refine⟨fun t fuel cs d ht h=>?_,fun fs off fuel cs h=>by simp[fldB]at h⟩;simp only[tyB]at ht;split at ht
   ·rename_i k' hu;have hk:k=k':=of_decide_eq_true ht;subst hk;obtain⟨n,h1,_,h3⟩:=DataW.trod_int hu h;exact⟨n,h1,h3⟩
   ·cases ht
 | flt k =>
   refine⟨fun t fuel cs d ht h=>?_,fun fs off fuel cs h=>by simp[fldB]at h⟩;simp only[tyB]at ht;split at ht
   ·rename_i k' hu;have hk:k=k':=of_decide_eq_true ht;subst hk;have:∃b,cs=[.float k b] /\ (Lit.float k b).wf=true:=by
     cases fuel with
     |zero=>simp[DataW.trod]at h
     | succ fuel =>
       unfold DataW.trod at h;rw[hu]at h;split at h<;>simp_all
    obtain⟨b,h1,h3⟩:=this;exact⟨b,⟨b,h1,FEq.refl _ _⟩,h3⟩
   ·cases ht
 | str =>
   refine⟨fun t fuel cs d ht h=>?_,fun fs off fuel cs h=>by simp[fldB]at h⟩;simp only[tyB]at ht;split at ht
   ·rename_i hu;obtain⟨s,h1,_,h3⟩:=DataW.trod_string hu h;exact⟨s,h1,h3⟩
   ·cases ht
 |cpx k=>exact⟨fun t fuel cs d h=>by simp[tyB]at h,fun fs off fuel cs h=>by simp[fldB]at h⟩
 |jnk=>exact⟨fun t fuel cs d h=>by simp[tyB]at h,fun fs off fuel cs h=>by simp[fldB]at h⟩
 | nil =>
   refine⟨fun t fuel cs d h=>by simp[tyB]at h,fun fs off fuel cs h hm hl=>?_⟩;refine⟨(),?_,trivial⟩;show cs.drop off=[];rw[List.drop_eq_nil_iff];simp only[Ty.size]at hl;omega
 | slice e ih =>
   refine⟨fun t fuel cs d ht h=>?_,fun fs off fuel cs h=>by simp[fldB]at h⟩;simp only[tyB]at ht;split at ht
   case h_2=>cases ht
   rename_i te hu;simp only[and_eq_true]at ht;obtain⟨⟨t1,t2⟩,t3⟩:=ht;have t2:=a0l t2;have t3:0<e.size:=by simpa[Nat.blt_eq]using t3
   rcases DataW.trod_slice hu h with⟨h1,_⟩|⟨ad,len,cap,elems,rest,n,_,h1,_,_,h4,h5,h6,h7,h8⟩
   ·exact⟨[],⟨none,0,0,h1,rfl,le_refl _,.inl rfl⟩,zero_le _,fun x hx=>by cases hx⟩
   ·rw [t2]at h7;by_cases hlen:len=0
    ·subst hlen;exact⟨[],⟨some ad,0,cap,h1,rfl,zero_le _,.inl rfl⟩,zero_le _,fun x hx=>by cases hx⟩
    ·have key:∀i,i<len->∃y vs,w.cells? base (ad.add (i*e.size)) e.size=some vs /\ DataW.trod enc P w base spare held n te vs=some y:=by
      intro i hi;have:=h7 i hi;rw[List.getElem?_eq_getElem (by omega)]at this;obtain⟨vs,g1,g2⟩:=Option.bind_eq_some_iff.1 this;exact⟨_,vs,g1,g2⟩
     obtain⟨y0,vs0,g1,_⟩:=key 0 (by omega);have hc0:∃v,w.cell? ad=some v:=by
      unfold World.cells? at g1;split at g1
      ·obtain⟨_,g3⟩:=b8P g1;obtain⟨v,_,g4⟩:=g3 0 t3;rw[Nat.zero_mul]at g4;exact⟨v,g4⟩
      ·cases g1
     obtain⟨v0,hc0⟩:=hc0;obtain⟨b,off,spot⟩:=ad;unfold World.cell? at hc0;split at hc0
     case h_2=>cases hc0
     rename_i arr T fz hh;dsimp only at hh hc0;cases spot with
     |some q=>simp at hc0
     | none =>
       have hK:b4j w b=some (e.isJ,arr):=by unfold b4j;rw[hh,e4Q t1]
       have each:∀i,i<len->∃x:Den e,DR (b4j w) e x (sub arr.toList (off+i*e.size) e.size) /\ Wf e x:=by
        intro i hi;obtain⟨y,vs,g1,g2⟩:=key i hi;rw[a3c]at g1;rw[<- d0D hh g1];exact ih.1 te n vs y t1 g2
       have:∃l:List (Den e),l.length=len /\ ∀i (hi:i<l.length),DR (b4j w) e l[i] (sub arr.toList (off+i*e.size) e.size) /\ Wf e l[i]:=by
        clear h8 h7 h6 h5 h4 h1 key hlen
        induction len with
        |zero=>exact⟨[],rfl,fun i hi=>by simp at hi⟩
        | succ m ihm =>
          obtain⟨l,l1,l2⟩:=ihm fun i hi=>each i (by omega)
          obtain⟨x,hx⟩:=each m (by omega);refine⟨l++[x],by simp[l1],fun i hi=>?_⟩;by_cases him:i<l.length
          ·rw[List.getElem_append_left him];exact l2 i him
          ·have:i=l.length:=by simp at hi;omega
           subst this;rw[List.getElem_append_right (le_refl _)];simp only[Nat.sub_self,List.getElem_cons_zero];rw[l1];exact hx
       obtain⟨l,l1,l2⟩:=this;refine⟨l,⟨some ⟨b,off,none⟩,len,cap,h1,l1.symm,h4,.inr ⟨b,off,arr,rfl,hK,fun i hi=>(l2 i hi).1⟩⟩,?_,fun x hx=>?_⟩
       ·omega
       ·obtain⟨i,hi,rfl⟩:=List.mem_iff_getElem.1 hx;exact(l2 i hi).2
 | cons a b iha ihb =>
   have step:∀(f:Field) (r:List Field) (off fuel:Nat) (cs:List Value),f.offset=off->tyB P a f.type=true->P.cellsOf f.type=a.size->fldB P b r (off+a.size)=true ->
    (∀g∈f::r,∃y,DataW.trod enc P w base spare held fuel g.type ((cs.drop g.offset).take (P.cellsOf g.type))=some y)->cs.length=off+(a.size+b.size) ->
    ∃x:Den (.cons a b),DR (b4j w) (.cons a b) x (cs.drop off) /\ Wf (.cons a b) x:=by
    intro f r off fuel cs h1 h2 h3 h4 h5 h6;obtain⟨y,hy⟩:=h5 f (List.mem_cons_self ..);rw[h1,h3]at hy;obtain⟨x1,d1,w1⟩:=iha.1 f.type fuel _ y h2 hy;obtain⟨x2,d2,w2⟩:=ihb.2 r (off+a.size) fuel cs h4 (fun g hg=>h5 g (List.mem_cons_of_mem _ hg)) (by omega);refine⟨(x1,x2),⟨_,_,?_,d1,d2⟩,w1,w2⟩;rw[<- List.drop_drop];exact(List.take_append_drop ..).symm
   refine⟨fun t fuel cs d ht h=>?_,fun fs off fuel cs h hf hl=>?_⟩
   ·simp only[tyB]at ht;split at ht
    case h_2=>cases ht
    rename_i fs hu;obtain⟨xs,n,_,_,h3,h4,h5⟩:=DataW.trod_struct hu h;split at ht
    case h_2=>cases ht
    rename_i f r hfs;simp only[and_eq_true]at ht;obtain⟨⟨⟨⟨g1,g2⟩,g3⟩,g4⟩,g5⟩:=ht;have:=step f r 0 n cs (a0l g1) g2 (a0l g3) (by rw[Nat.zero_add];exact g4) (fun g hg=>?_) (by rw[h3,a0l g5];omega)
    ·rw[List.drop_zero]at this;exact this
    ·rw[<- hfs]at hg;obtain⟨i,hi,he⟩:=List.mem_iff_getElem.1 hg;have hi':i<fs.size:=by simpa using hi
     have he':fs[i]?=some g:=by
      rw[Array.getElem?_eq_getElem hi',<- he];simp
     have:=h5 i g he';rw[List.getElem?_eq_getElem (by omega)]at this;exact⟨_,this⟩
   ·cases fs with
    |nil=>simp[fldB]at h
    | cons f r =>
      simp only[fldB,and_eq_true]at h;obtain⟨⟨⟨g1,g2⟩,g3⟩,g4⟩:=h;exact step f r off fuel cs (a0l g1) g2 (a0l g3) g4 hf (by simpa[Ty.size]using hl)
def e4S:(t:Ty)->Den t->W
 |.bool,b => .one (.bool b)
 |.int k,n => .one (.int k n)
 |.flt k,b => .one (.flt k b)
 |.cpx k,p => .one (.cpx k p.1 p.2)
 |.str,s => .one (.str s)
 |.slice t,l => .one (.sl t l)
 |.nil,_ => .agg []
 |.cons a b,p => .agg (AM.enc (.cons a b) p)
 |.jnk,_ => .one .junk
theorem e4T {β:Bt} {K:Ks} {t:Ty} {x:Den t} {v:Value} (h:DR K t x v.cells.toList) (hv:match t with|.nil=>(∃cs,v = .agg cs)|.cons _ _=>(∃cs,v = .agg cs)|_=>v.cells=#[v]):WR β K (e4S t x) v:=by
 have he:=DR.enc (β:=β) t h;cases t with
 |nil=>obtain⟨cs,rfl⟩:=hv;exact⟨cs,rfl,he⟩
 |cons a b=>obtain⟨cs,rfl⟩:=hv;exact⟨cs,rfl,he⟩
 |bool=>dsimp only at hv;rw[hv]at he;exact he.1
 |int k=>dsimp only at hv;rw[hv]at he;exact he.1
 |flt k=>dsimp only at hv;rw[hv]at he;exact he.1
 |cpx k=>dsimp only at hv;rw[hv]at he;exact he.1
 |str=>dsimp only at hv;rw[hv]at he;exact he.1
 |slice t=>dsimp only at hv;rw[hv]at he;exact he.1
 |jnk=>dsimp only at hv;rw[hv]at he;exact he.1
theorem e9C {ty:Ty} {t:Nat} {v:Value} {d:DataW H} {ps:List MemPlace} {r:Reach} {b0:Nat} (ht:tyB P ty t=true) (hv:Value.okWide P w r b0 t v) (h:DataW.Trod enc P w base spare held t v d ps) :
 ∃x:Den ty,Wf ty x /\ ∀β,WR β (b4j w) (e4S ty x) v:=by
 obtain⟨fuel,h⟩:=h;obtain⟨x,hd,hw⟩:=(e4R (H:=H) ty).1 t fuel _ _ ht h;refine⟨x,hw,fun β=>e4T hd ?_⟩;cases ty with
 |nil=>simp[tyB]at ht
 |cpx k=>simp[tyB]at ht
 |jnk=>simp[tyB]at ht
 | cons a b =>
   simp only[tyB]at ht;split at ht
   ·rename_i fs hu;obtain⟨cs,e,_⟩:=okWide_struct hu hv;exact⟨cs,e⟩
   ·cases ht
 | bool =>
   simp only[tyB]at ht;split at ht
   ·rename_i hu;obtain⟨b,rfl⟩:=okWide_bool hu hv;rfl
   ·cases ht
 | int k =>
   simp only[tyB]at ht;split at ht
   ·rename_i hu;obtain⟨b,rfl⟩:=okWide_int hu hv;rfl
   ·cases ht
 | flt k =>
   simp only[tyB]at ht;split at ht
   ·rename_i hu;simp only[Value.okWide,hu,Cell.okWide]at hv;cases v<;>first|rfl|(simp_all[Cell.ok];done)
   ·cases ht
 | str =>
   simp only[tyB]at ht;split at ht
   ·rename_i hu;obtain⟨b,rfl⟩:=okWide_string hu hv;rfl
   ·cases ht
 | slice e =>
   simp only[tyB]at ht;split at ht
   ·rename_i hu;obtain⟨a,n,c,rfl⟩:=okWide_slice hu hv;rfl
   ·cases ht
end
open Go Go.RowKit
def c9s (t:Ty) (cs:List C):Option (Den t):=match dec t cs with
 |some (x,[])=>some x
 |_=>none
def f4v:(t:Ty)->W->Option (Den t)
 |.nil,.agg cs=>c9s .nil cs
 |.cons a b,.agg cs=>c9s (.cons a b) cs
 |.bool,.one c=>c9s .bool [c]
 |.int k,.one c=>c9s (.int k) [c]
 |.flt k,.one c=>c9s (.flt k) [c]
 |.cpx k,.one c=>c9s (.cpx k) [c]
 |.str,.one c=>c9s .str [c]
 |.slice t,.one c=>c9s (.slice t) [c]
 |_,_=>none
def c4z:(t:Ty)->List W->Option (Den t)
 |.nil,[]=>some ()
 | .cons a b,w::ws=>match f4v a w with
   | some x=>match c4z b ws with
     |some y=>some (x,y)
     |none=>none
   |none=>none
 |_,_=>none
def a0M:(t:Ty)->Den t->List W
 |.cons a b,p=>e4S a p.1::a0M b p.2
 |_,_=>[]
theorem b4k {β:Bt} {K:Ks} {t:Ty} {cs:List C} {x:Den t} {vs:List Value} (h:c9s t cs=some x) (hv:All2 (CR β K) cs vs):DR K t x vs:=by
 unfold c9s at h;split at h
 ·rename_i y e;cases h;obtain⟨v1,v2,rfl,hd,h2⟩:=b8r t e hv;cases v2 with
  |nil=>rw[List.append_nil];exact hd
  |cons _ _=>exact h2.elim
 ·cases h
theorem d0E {β:Bt} {K:Ks} {t:Ty} {u:W} {x:Den t} {v:Value} (h:f4v t u=some x) (hv:WR β K u v):WR β K (e4S t x) v:=by
 have one:∀c,c9s t [c]=some x->CR β K c v->All2 (CR β K) (AM.enc t x) [v]:=fun c hc hcr=>DR.enc t (b4k hc ⟨hcr,trivial⟩)
 unfold f4v at h;split at h<;>first|cases h;done|skip
 ·obtain⟨arr,rfl,ha⟩:=hv;exact⟨arr,rfl,DR.enc _ (b4k h ha)⟩
 ·obtain⟨arr,rfl,ha⟩:=hv;exact⟨arr,rfl,DR.enc _ (b4k h ha)⟩
 ·exact(one _ h hv).1
 ·exact(one _ h hv).1
 ·exact(one _ h hv).1
 ·exact(one _ h hv).1
 ·exact(one _ h hv).1
 ·exact(one _ h hv).1
theorem a6L {β:Bt} {K:Ks}:∀{t:Ty} {us:List W} {x:Den t} {vs:List Value},c4z t us=some x->All2 (WR β K) us vs->All2 (WR β K) (a0M t x) vs:=by
 intro t
 induction t with
 | nil =>
   intro us x vs h hv;cases us with
   |nil=>exact hv
   |cons _ _=>simp[c4z]at h
 | cons a b _ ihb =>
   intro us x vs h hv;cases us with
   |nil=>simp[c4z]at h
   | cons u us =>
     simp only[c4z]at h;split at h
     ·rename_i y hy;split at h
      ·rename_i z hz;cases h;cases vs with
       |nil=>exact hv.elim
       |cons v vs=>exact⟨d0E hy hv.1,ihb hz hv.2⟩
      ·cases h
     ·cases h
 |_=>intro us x vs h;cases us<;>simp[c4z]at h
def a0a (A R:Ty) (ok:Den A->Bool) (g:Den A->Den R):b2y:=⟨false,fun ws ins=>match ins with
 | []=>match c4z A ws with
   |some x=>some (ok x,a0M R (g x),[])
   |none=>none
 |_=>none⟩
def a0m (tab:List (Nat×TI)) (eqs:List Nat) (sems:List (Nat×b2y)) (nt:Nat) (res:List ResultVar) (frz:List Nat) (cut:List (Nat×(List Nat×List Cv))) (loops:List (Nat×a6E)) (past:List (Nat×(List Nat×List Cv))) (rown:List Cv):Env:=
 { tab:=a2a tab,sem:=a2a sems,eqT:=b8j eqs,nt,res,frz,cut,loops,past,rown }
def c4A {α:Type} (R:α->Prop):List α->Prop
 |[]=>True
 |x::r=>R x /\ c4A R r
theorem c4A.mem {α:Type} {R:α->Prop}:∀{l:List α},c4A R l->∀x∈l,R x
 |[],_,x,h=>by cases h
 | y::r,h,x,hx=>by
   rcases List.mem_cons.1 hx with rfl|hx
   ·exact h.1
   ·exact h.2.mem x hx
theorem c4A.nil {α:Type} {R:α->Prop}:c4A R []:=trivial
theorem c4A.cons {α:Type} {R:α->Prop} {x:α} {r:List α} (h:R x) (hs:c4A R r):c4A R (x::r):=⟨h,hs⟩
def a0k (P:Program) (x:Nat×b2y):Prop:=e1z P x.1 x.2 /\ e4A P x.1
theorem a0v {P:Program} {tab:List (Nat×TI)} {eqs:List Nat} {sems:List (Nat×b2y)} (hm:P.follows .mixedOrders=true) (ht:f4u P tab=true) (he:c4A (e9t P) eqs) (hs:c4A (a0k P) sems) {nt:Nat} {res:List ResultVar} {frz:List Nat} {cut:List (Nat×(List Nat×List Cv))} {loops:List (Nat×a6E)} {past:List (Nat×(List Nat×List Cv))} {rown:List Cv} :
 a1F P (a0m tab eqs sems nt res frz cut loops past rown):=
 ⟨e4N ht,fun f sm e=>hs.mem (f,sm) (b4i e),(fun t e=>he.mem t (a9W.1 e)),hm⟩
section
variable {P:Program} {Γ:Env}
def a1a (R:Ty):List W×List (Option Blk)->Option (Den R):=fun p=>match p.2 with
 |[]=>c4z R p.1
 |_=>none
theorem d7K:∀{t:Ty} {us:List W} {x:Den t},c4z t us=some x->(a0M t x).length=us.length:=by
 intro t
 induction t with
 | nil=>intro us x h;cases us with
   |nil=>rfl
   |cons _ _=>simp[c4z]at h
 | cons a b _ ihb =>
   intro us x h;cases us with
   |nil=>simp[c4z]at h
   | cons u us =>
     simp only[c4z]at h;split at h
     ·split at h
      ·rename_i z hz;cases h;simp[a0M,ihb hz]
      ·cases h
     ·cases h
 |_=>intro us x h;cases us<;>simp[c4z]at h
theorem a9Z {β:Bt} {K:Ks} {R:Ty} {rs:List W} {r:Den R} {v:Value} (h:c4z R rs=some r) (hv:a8h β K rs v):a8h β K (a0M R r) v:=by
 have hl:=d7K h;unfold a8h at hv ⊢
 match rs,a0M R r,hl,(fun vs=>a6L (β:=β) (K:=K) (vs:=vs) h)with
 |[],[],_,_=>exact hv
 |[u],[u'],_,hk=>exact(hk [v] ⟨hv,trivial⟩).1
 | u::u2::us,y::y2::ys,_,hk =>
   obtain⟨arr,e,ha⟩:=hv;exact⟨arr,e,hk arr.toList ha⟩
theorem f7i (env:a1F P Γ) {f:Nat} {c:Code} (hf:a6z P f Γ c) {A R:Ty} {ok:Den A->Bool} {g:Den A->Den R} (h:∀x,ok x=true->a0t Γ c (a1a R) (a0M A x) []=some (g x)):a0k P (f,a0a A R ok g):=by
 refine⟨?_,hf.ok⟩;intro args ins rs outs hrun β0 K0 w0 vs hk hm hfr hv;cases ins with
 |cons _ _=>simp[a0a]at hrun
 | nil =>
   simp only[a0a]at hrun;split at hrun
   ·rename_i x hx;simp only[injEq,Prod.mk.injEq]at hrun;obtain⟨hok,rfl,rfl⟩:=hrun;refine(c4x env hf (h x hok) hk hm hfr (a6L hx hv)).mono ?_;rintro e w' ⟨v,β,K,rs',outs',rfl,hg,hR⟩;unfold a1a at hg;dsimp only at hg;split at hg
    ·exact⟨v,β,K,rfl,{ hR with out:=a9Z hg hR.out }⟩
    ·cases hg
   ·cases hrun
theorem a1d (env:a1F P Γ) {f:Nat} {c:Code} (hf:a6z P f Γ c) {A R:Ty} {p:Den A->Option (Den R)} (h:∀x,a0t Γ c (a1a R) (a0M A x) []=p x):a0k P (f,a0a A R (fun x=>(p x).isSome) (fun x=>(p x).getD (zero R))):=
 f7i env hf fun x hx=>by
  rw[h x];cases hp:p x with
  |none=>rw[hp]at hx;cases hx
  |some r=>rfl
end
def f4w (P:Program):List Field->Nat->Bool
 |[],_=>true
 | f :: fs,off=>beq f.offset off&&decide (f.name ≠ "_")&&(match P.info? f.type,P.underlying f.type with
     |some i,some d=>beq i.size 1&&(match d with|.int _=>true|_=>false)
     |_,_=>false)&&f4w P fs (off+1)
def eqB (P:Program) (t:Nat):Bool:=(match P.underlying t with
 |some (.struct fs)=>f4w P fs.toList 0&&(match P.info? t with|some i=>beq i.size fs.size|none=>false)
 |_=>false)&&!P.stoodInHeld t&&!P.eqGuardType P.depth t
theorem a7y:∀{cs ds:List C} {b:Bool},a8k cs ds=some b->cs.length=ds.length /\ (cs=[]->b=true) /\
 ∀(c d:C) (r r':List C),cs=c::r->ds=d::r'->∃e b',a8k r r'=some b' /\ b=(e&&b') /\ ∃k x y,c = .int k x /\ d = .int k y /\ e=(x==y)
 | [],[],b,h=>by
   simp only[a8k,injEq]at h;exact⟨rfl,fun _=>h.symm,fun c d r r' e=>by cases e⟩
 |[],_::_,b,h=>by simp[a8k]at h
 |c::r,[],b,h=>by cases c<;>simp[a8k]at h
 | c :: r,d::r',b,h=>by
   have main:∀e,(match r,r' with|[],[]=>some e|_,_=>match a8k r r' with|some b'=>some (e&&b')|none=>none)=some b->∃b',a8k r r'=some b' /\ b=(e&&b'):=by
    intro e he;split at he
    ·cases he;exact⟨true,rfl,by simp⟩
    ·split at he
     ·rename_i b' hb;cases he;exact⟨b',hb,rfl⟩
     ·cases he
   cases c<;>cases d<;>first|(simp[a8k]at h;done)|skip
   ·rename_i k x k' y;simp only[a8k]at h;split at h
    ·rename_i hk;have hk:k=k':=of_decide_eq_true hk;subst hk;obtain⟨b',h1,h2⟩:=main (x==y) h;have hl:=(a7y h1).1;refine⟨by simp[hl],fun e=>(by cases e),fun c d q q' e e'=>?_⟩;cases e;cases e';exact⟨_,b',h1,h2,k,x,y,rfl,rfl,rfl⟩
    ·cases h
section
variable {P:Program} {w:World} {β:Bt} {K:Ks}
theorem b8Q {t:TypeId} {fi:TypeInfo} {fd:TypeDesc} (hfi:P.info? t=some fi) (hfd:P.underlying t=some fd) (hag:d6p fd=false) (hs:fi.size=1) {cs:List C} {arr:Array Value} {off:Nat} {c:C} {r:List C}
 (hc:All2 (CR β K) cs arr.toList) (hd:cs.drop off=c::r):∃v,(part t arr off).run P w = .ok v w /\ CR β K c v:=
 c4p (P:=P) (w:=w) (u := .one c) false t hfi hfd hag hc (by rw[hs];simp[a4z,hd,a4b])
theorem b0P (d:Nat) {xs ys:Array Value} {cs ds:List C} (hx:All2 (CR β K) cs xs.toList) (hy:All2 (CR β K) ds ys.toList):∀(fs:List Field) (off:Nat) (b:Bool),f4w P fs off=true->fs.length+off=cs.length->cs.length=ds.length->a8k (cs.drop off) (ds.drop off)=some b ->
 (Op.eqFields (d+1) xs ys fs).run P w = .ok b w
 | [],off,b,_,hl,hl2,hq=>by
   have h1:=(a7y hq).2.1 (by rw[List.drop_eq_nil_iff];simp at hl;omega)
   subst h1
   simp[Op.eqFields]
 | f :: fs,off,b,hf,hl,hl2,hq=>by
   simp only[f4w,and_eq_true]at hf
   obtain⟨⟨⟨f1,f2⟩,f3⟩,f4⟩:=hf
   have f1:=a0l f1
   have f2:f.name ≠ "_" := of_decide_eq_true f2
   simp only[List.length_cons]at hl
   have hlt:off<cs.length:=by omega
   have hlt2:off<ds.length:=by omega
   have d1:cs.drop off=cs[off]::cs.drop (off+1):=List.drop_eq_getElem_cons hlt
   have d2:ds.drop off=ds[off]::ds.drop (off+1):=List.drop_eq_getElem_cons hlt2
   obtain⟨e,b',g1,g2,g3⟩:=(a7y hq).2.2 _ _ _ _ d1 d2
   split at f3
   case h_2=>cases f3
   rename_i i ud hi hu
   simp only[and_eq_true]at f3
   obtain⟨f5,f6⟩:=f3
   have hag:d6p ud=false:=by
    split at f6<;>first|rfl|cases f6
   obtain⟨v,r1,c1⟩:=b8Q (w:=w) hi hu hag (a0l f5) hx d1
   obtain⟨v',r2,c2⟩:=b8Q (w:=w) hi hu hag (a0l f5) hy d2
   have heq:(Op.equalIn (d+1) f.type v v').run P w = .ok e w:=by
    obtain⟨k,x,y,e1,e2,e3⟩:=g3
    rw[e1]at c1;rw[e2]at c2
    rw[show v=_ from c1,show v'=_ from c2,e3]
    split at f6
    ·exact run_equalIn_int w d f.type k _ x y hu
    ·cases f6
   have ih:=b0P d hx hy fs (off+1) b' f4 (by omega) hl2 g1
   rw[<- f1]at r1 r2
   simp only[Op.eqFields]
   rw[if_pos f2]
   simp only[Sem.run_bind,r1,r2,heq,Result.andThen_ok]
   cases e with
   |false=>simp[g2]
   | true =>
     simp only[Bool.not_true,Bool.false_eq_true,if_false]
     rw[ih,g2]
     simp
end
theorem e9D {P:Program} {t:Nat} (h:eqB P t=true):e9t P t:=by
 simp only[eqB,and_eq_true]at h;obtain⟨⟨h1,h2⟩,h3⟩:=h;split at h1
 case h_2=>cases h1
 rename_i fs hu;simp only[and_eq_true]at h1;have hf:P.fieldsOf t=fs:=by unfold Program.fieldsOf;rw[hu]
 refine⟨by simpa using h3,fun cs ds xs ys b β K w hln hq hx hy=>?_⟩;rw[run_equalIn_struct w 9999 t xs ys (by rw[hf];exact hu) (by simpa using h2),hf];have hlen:=(a7y hq).1;obtain⟨h4,h5⟩:=h1;split at h5
 ·rename_i i hi;have h6:=hln i hi;have h7:=a0l h5;exact b0P 9998 hx hy fs.toList 0 b h4 (by simp;omega) hlen (by simpa using hq)
 ·cases h5
def g3X (P:Program) (l:List Nat):Bool:=l.all (eqB P)
theorem d0F {P:Program}:∀{l:List Nat},g3X P l=true->c4A (e9t P) l
 |[],_=>trivial
 | t::r,h=>by
   simp only[g3X,List.all_cons,and_eq_true]at h;exact⟨e9D h.1,d0F h.2⟩
section
variable {Γ:Env}
theorem b4l (o:Oper) (s:St):(∀(R:Type) (K:St->Ent->Option R),c9r Γ o K s=none)∨∃s' e,∀(R:Type) (K:St->Ent->Option R),c9r Γ o K s=K s' e:=by
 cases h:act Γ o s.val s.get s.n with
 |none=>left;intro R K;simp only[c9r,h]
 | some out =>
   cases h1:a8l Γ o.dst with
   |false=>left;intro R K;simp only[c9r,h,h1]
   | true =>
     cases h2:out.ok with
     |false=>left;intro R K;simp only[c9r,h,h1,h2]
     |true=>right;exact⟨_,_,fun R K=>by simp only[c9r,h,h1,h2];rfl⟩
theorem b0Q (o:Oper) (s:St):(∀(R:Type) (K:St->Ent->Option R),a8m Γ o K s=none)∨∃s' e,∀(R:Type) (K:St->Ent->Option R),a8m Γ o K s=K s' e:=by
 unfold a8m;split
 ·split
  ·rename_i b _;cases b with
   |true=>exact b4l o _
   |false=>exact b4l o _
  ·exact .inl fun _ _=>rfl
 ·exact b4l o s
theorem b0R (o:Oper) (s:St):(∀(R:Type) (K:St->Ent->Option R),a9z Γ o K s=none)∨∃s' e,∀(R:Type) (K:St->Ent->Option R),a9z Γ o K s=K s' e:=by
 unfold a9z;cases a8l Γ o.dst with
 |true=>exact .inr ⟨_,_,fun _ _=>rfl⟩
 |false=>exact .inl fun _ _=>rfl
theorem c4B (ops:Array Oper):∀(L:List Oper) (s:St) (tr:List Ent),(∀(R:Type) (K:St->List Ent->Option R),b2z Γ ops L s tr K=none)∨∃s' tr',∀(R:Type) (K:St->List Ent->Option R),b2z Γ ops L s tr K=K s' tr'
 |[],s,tr => .inr ⟨s,tr,fun _ _=>rfl⟩
 | o :: L,s,tr=>by
   have next:∀(X:∀(R:Type),(St->Ent->Option R)->Option R),((∀R K,X R K=none)∨∃s' e,∀R K,X R K=K s' e) ->
    (∀(R:Type) (K:St->List Ent->Option R),X R (fun s' e=>b2z Γ ops L s' (e::tr) K)=none)∨∃s' tr',∀(R:Type) (K:St->List Ent->Option R),X R (fun s' e=>b2z Γ ops L s' (e::tr) K)=K s' tr':=by
    intro X hX;rcases hX with h|⟨s',e,h⟩
    ·exact .inl fun R K=>h R _
    ·rcases c4B ops L s' (e::tr)with h2|⟨s2,t2,h2⟩
     ·exact .inl fun R K=>by rw[h];exact h2 R K
     ·exact .inr ⟨s2,t2,fun R K=>by rw[h];exact h2 R K⟩
   unfold b2z;split
   ·exact next (fun R K=>a8m Γ o K s) (b0Q o s)
   ·split
    ·exact .inl fun _ _=>rfl
    ·rename_i g want hg _ t ht;split
     ·rename_i b _;cases b<;>cases want
      ·exact next (fun R K=>a8m Γ o K (s.put t (a2I false))) (b0Q o _)
      ·exact next (fun R K=>a9z Γ o K (s.put t (a2I false))) (b0R o _)
      ·exact next (fun R K=>a9z Γ o K (s.put t (a2I true))) (b0R o _)
      ·exact next (fun R K=>a8m Γ o K (s.put t (a2I true))) (b0Q o _)
     ·exact next (fun R K=>a9z Γ o K s) (b0R o s)
     ·exact .inl fun _ _=>rfl
def a8s (X:∀(R:Type),(Ex->St->Option R)->Option R):Prop:=(∀R K,X R K=none)∨∃e s',∀R K,X R K=K e s'
theorem a8s.bind {X:∀(R:Type),(Ex->St->Option R)->Option R} (h:a8s X) {T:∀(R:Type),(Ex->St->Option R)->Ex->St->Option R} (hT:∀e s,a8s fun R K=>T R K e s):a8s fun R K=>X R (T R K):=by
 rcases h with h|⟨e,s,h⟩
 ·exact .inl fun R K=>h R _
 ·rcases hT e s with h2|⟨e',s',h2⟩
  ·exact .inl fun R K=>(h R _).trans (h2 R K)
  ·exact .inr ⟨e',s',fun R K=>(h R _).trans (h2 R K)⟩
theorem a8s.pure (e:Ex) (s:St):a8s fun R K=>K e s := .inr ⟨e,s,fun _ _=>rfl⟩
theorem a8s.none:a8s fun R K=>(Option.none:Option R) := .inl fun _ _=>rfl
theorem a6b (cut:Option (List Nat×List Cv)) (e:Ex) (s:St):a8s fun R K=>a6F cut K e s:=by
 cases e with
 | normal =>
   cases cut with
   |none=>exact a8s.pure .normal s
   | some c =>
     cases h:b0r c.1 c.2 s with
     |none=>exact .inl fun R K=>by simp only[a6F,h]
     |some s'=>exact .inr ⟨.normal,s',fun R K=>by simp only[a6F,h]⟩
 |exit i=>exact a8s.pure (.exit i) s
 |ret=>exact a8s.pure .ret s
theorem c2y (id:Nat) (cut:Option (List Nat×List Cv)) (e:Ex) (s:St):a8s fun R K=>a9b id cut K e s:=by
 cases e with
 |normal=>exact a6b cut .normal s
 | exit i =>
   cases h:beq i id with
   | true =>
     have:=a6b cut .normal s;unfold a8s at this ⊢;simp only[a9b,h];exact this
   |false=>exact .inr ⟨.exit i,s,fun R K=>by simp only[a9b,h]⟩
 |ret=>exact a8s.pure .ret s
theorem c4C:∀(c:Code) (s:St),a8s fun R K=>EBk (R:=R) Γ c K s:=by
 intro c
 induction c with
 |skip=>exact fun s=>a8s.pure .normal s
 |label l=>exact fun s=>a8s.pure .normal s
 |exit id=>exact fun s=>a8s.pure (.exit id) s
 | ret =>
   intro s;cases h:b0r (Γ.res.map g3V) Γ.rown s with
   |none=>exact .inl fun R K=>by simp only[EBk,h]
   |some s'=>exact .inr ⟨.ret,s',fun R K=>by simp only[EBk,h]⟩
 | seq x y ihx ihy =>
   intro s;refine a8s.bind (ihx s) (T:=fun R K e s'=>match e with|.normal=>EBk Γ y K s'|e=>K e s') fun e s'=>?_
   cases e with
   |normal=>exact ihy s'
   |exit i=>exact a8s.pure (.exit i) s'
   |ret=>exact a8s.pure .ret s'
 | cond c x y ihx ihy =>
   intro s;show a8s fun R K=>(match s.val c with
    | .val (.one (.bool b))=>match b with
      |true=>EBk Γ x (a6F (a2a Γ.cut (b8p c)) K) (s.putC c true)
      |false=>EBk Γ y (a6F (a2a Γ.cut (b8p c)) K) (s.putC c false)
    |_=>Option.none:Option R)
   split
   ·rename_i b _;cases b with
    |true=>exact a8s.bind (ihx _) (T:=fun R K=>a6F (a2a Γ.cut (b8p c)) K) fun e s'=>a6b _ e s'
    |false=>exact a8s.bind (ihy _) (T:=fun R K=>a6F (a2a Γ.cut (b8p c)) K) fun e s'=>a6b _ e s'
   ·exact a8s.none
 | block id x ih =>
   intro s;exact a8s.bind (ih s) (T:=fun R K=>a9b id (a2a Γ.past id) K) fun e s'=>c2y _ _ e s'
 | loop x ih =>
   intro s;cases h:a2a Γ.loops (a1n x)with
   |none=>exact .inl fun R K=>by simp only[EBk,h]
   | some L =>
     cases h1:b0r L.live L.own s with
     |none=>exact .inl fun R K=>by simp only[EBk,h,e4z,h1]
     | some s0 =>
       cases h2:L.run s0 with
       |none=>exact .inl fun R K=>by simp only[EBk,h,e4z,h1,h2]
       | some p =>
         obtain⟨ok,b,s1,s2⟩:=p;cases ok with
         |false=>exact .inl fun R K=>by simp only[EBk,h,e4z,h1,h2]
         | true=>cases b with
           |true=>exact .inr ⟨.ret,s2,fun R K=>by simp only[EBk,h,e4z,h1,h2]⟩
           |false=>exact .inr ⟨.exit L.ex,s1,fun R K=>by simp only[EBk,h,e4z,h1,h2]⟩
 | region id ops d =>
   intro s;rcases c4B (Γ:=Γ) ops ops.toList s []with h|⟨s',tr,h⟩
   ·exact .inl fun R K=>by simp only[EBk];exact h R _
   ·cases d with
    |false=>exact .inr ⟨.normal,s',fun R K=>by simp only[EBk];exact h R _⟩
    | true =>
      cases hd:b8n ops tr with
      |true=>exact .inr ⟨.normal,s',fun R K=>by simp only[EBk];rw[h R _,hd]⟩
      |false=>exact .inl fun R K=>by simp only[EBk];rw[h R _,hd]
 |_=>exact fun s => .inl fun R K=>by simp only[EBk]
end
inductive ShC where
 |bool
 |int (k:IntKind)
 |flt (k:FloatKind)
 |cpx (k:FloatKind)
 |str
 |sl (t:Ty)
 |pois
 |nil (t:Ty)
 |ref (t:Ty) (k:Nat)
 |ptr (k o:Nat)
 |fn (f:Nat) (caps:List Nat)
@[reducible] def ShC.den:ShC->Type
 |.bool=>Bool
 |.int _=>Int
 |.flt _=>Nat
 |.cpx _=>Nat×Nat
 |.str=>ByteArray
 |.sl t=>List (Den t)
 |_=>Unit
def mkC:(c:ShC)->c.den->C
 |.bool,b => .bool b
 |.int k,n => .int k n
 |.flt k,b => .flt k b
 |.cpx k,p => .cpx k p.1 p.2
 |.str,s => .str s
 |.sl t,l => .sl t l
 |.pois,_ => .pois
 |.nil t,_ => .nil t
 |.ref t k,_ => .ref t k
 |.ptr k o,_ => .ptr k o
 |.fn f caps,_ => .fn f caps
def d0G (t t':Ty):Bool:=match a4a t t' with
 |some _=>true
 |none=>false
theorem b4m {t t':Ty} (h:d0G t t'=true):t=t':=by
 unfold d0G at h;split at h
 ·rename_i h' _;exact h'.down
 ·cases h
def eqL:List Nat->List Nat->Bool
 |[],[]=>true
 |x::r,y::q=>beq x y&&eqL r q
 |_,_=>false
theorem e1F:∀{l r:List Nat},eqL l r=true->l=r
 |[],[],_=>rfl
 | x::r,y::q,h=>by
   simp only[eqL,and_eq_true]at h;rw[a0l h.1,e1F h.2]
 |[],_::_,h=>by cases h
 |_::_,[],h=>by cases h
def e9E:(c:ShC)->C->Option c.den
 |.bool,.bool b=>some b
 |.int k,.int k' n=>match a3M k k' with|true=>some n|false=>none
 |.flt k,.flt k' b=>match a1q k k' with|true=>some b|false=>none
 |.cpx k,.cpx k' a b=>match a1q k k' with|true=>some (a,b)|false=>none
 |.str,.str s=>some s
 | .sl t,.sl t' l=>match a4a t' t with
   |some ⟨h⟩=>some (h ▸ l)
   |none=>none
 |.pois,.pois=>some ()
 |.nil t,.nil t'=>match d0G t t' with|true=>some ()|false=>none
 |.ref t k,.ref t' k'=>match d0G t t'&&beq k k' with|true=>some ()|false=>none
 |.ptr k o,.ptr k' o'=>match beq k k'&&beq o o' with|true=>some ()|false=>none
 |.fn f caps,.fn f' caps'=>match beq f f'&&eqL caps caps' with|true=>some ()|false=>none
 |_,_=>none
theorem c2z {c:ShC} {x:C} {v:c.den} (h:e9E c x=some v):x=mkC c v:=by
 cases c<;>cases x<;>simp only[e9E]at h<;>first|cases h;done|skip
 ·cases h;rfl
 ·split at h
  ·rename_i hk;have:=of_decide_eq_true hk;cases h;subst this;rfl
  ·cases h
 ·split at h
  ·rename_i hk;have:=of_decide_eq_true hk;cases h;subst this;rfl
  ·cases h
 ·split at h
  ·rename_i hk;have:=of_decide_eq_true hk;cases h;subst this;rfl
  ·cases h
 ·cases h;rfl
 ·split at h
  ·rename_i e _;subst e;cases h;rfl
  ·cases h
 ·rfl
 ·split at h
  ·rename_i hk;rw[<- b4m hk];rfl
  ·cases h
 ·split at h
  ·rename_i hk;simp only[and_eq_true]at hk;rw[<- b4m hk.1,<- a0l hk.2];rfl
  ·cases h
 ·split at h
  ·rename_i hk;simp only[and_eq_true]at hk;rw[<- a0l hk.1,<- a0l hk.2];rfl
  ·cases h
 ·split at h
  ·rename_i hk;simp only[and_eq_true]at hk;rw[<- a0l hk.1,<- e1F hk.2];rfl
  ·cases h
@[reducible] def d0H:List ShC->Type
 |[]=>Unit
 |c::r=>c.den×d0H r
def mkL:(l:List ShC)->d0H l->List C
 |[],_=>[]
 |c::r,p=>mkC c p.1::mkL r p.2
def c2A:(l:List ShC)->List C->Option (d0H l)
 |[],[]=>some ()
 | c :: r,x::xs=>match e9E c x with
   | some v=>match c2A r xs with
     |some w=>some (v,w)
     |none=>none
   |none=>none
 |_,_=>none
theorem b4n:∀{l:List ShC} {xs:List C} {v:d0H l},c2A l xs=some v->xs=mkL l v
 |[],[],_,_=>rfl
 | c :: r,x::xs,v,h=>by
   simp only[c2A]at h;split at h
   ·rename_i a ha;split at h
    ·rename_i b hb;cases h;rw[c2z ha,b4n hb];rfl
    ·cases h
   ·cases h
 |[],_::_,_,h=>by simp[c2A]at h
 |_::_,[],_,h=>by simp[c2A]at h
inductive ShV where
 |one (c:ShC)
 |agg (cs:List ShC)
 |tup
@[reducible] def ShV.den:ShV->Type
 |.one c=>c.den
 |.agg cs=>d0H cs
 |.tup=>Unit
def mkV:(s:ShV)->s.den->V
 |.one c,v => .val (.one (mkC c v))
 |.agg cs,v => .val (.agg (mkL cs v))
 |.tup,_ => .tup []
def f7j:(s:ShV)->V->Option s.den
 |.one c,.val (.one x)=>e9E c x
 |.agg cs,.val (.agg xs)=>c2A cs xs
 |.tup,.tup []=>some ()
 |_,_=>none
theorem e4U {s:ShV} {x:V} {v:s.den} (h:f7j s x=some v):x=mkV s v:=by
 unfold f7j at h;split at h
 ·rw[c2z h];rfl
 ·rw[b4n h];rfl
 ·rfl
 ·cases h
inductive ShB where
 |box (cs:List ShC)
 |arr (t:Ty)
 |gone
@[reducible] def ShB.den:ShB->Type
 |.box cs=>d0H cs
 |.arr t=>List (Den t)
 |.gone=>Unit
def mkB:(s:ShB)->s.den->Option Blk
 |.box cs,v=>some (.box (mkL cs v))
 |.arr t,l=>some (.arr t l)
 |.gone,_=>none
def f7k:(s:ShB)->Option Blk->Option s.den
 |.box cs,some (.box xs)=>c2A cs xs
 | .arr t,some (.arr t' l)=>match a4a t' t with
   |some ⟨h⟩=>some (h ▸ l)
   |none=>none
 |.gone,none=>some ()
 |_,_=>none
theorem e4V {s:ShB} {x:Option Blk} {v:s.den} (h:f7k s x=some v):x=mkB s v:=by
 unfold f7k at h;split at h
 ·rw[b4n h];rfl
 ·split at h
  ·rename_i e _;subst e;cases h;rfl
  ·cases h
 ·rfl
 ·cases h
@[reducible] def e9F:List (Nat×ShV)->Type
 |[]=>Unit
 |p::r=>p.2.den×e9F r
def mkT:(l:List (Nat×ShV))->e9F l->List (Nat×V)
 |[],_=>[]
 |p::r,v=>(p.1,mkV p.2 v.1)::mkT r v.2
def e8N:(l:List (Nat×ShV))->List (Nat×V)->Option (e9F l)
 |[],[]=>some ()
 | p :: r,x::xs=>match beq p.1 x.1 with
   | true=>match f7j p.2 x.2 with
     | some v=>match e8N r xs with
       |some w=>some (v,w)
       |none=>none
     |none=>none
   |false=>none
 |_,_=>none
theorem d0I:∀{l:List (Nat×ShV)} {xs:List (Nat×V)} {v:e9F l},e8N l xs=some v->xs=mkT l v
 |[],[],_,_=>rfl
 | p :: r,(k,x)::xs,v,h=>by
   simp only[e8N]at h;split at h
   ·rename_i hk;split at h
    ·rename_i a ha;split at h
     ·rename_i b hb;cases h;rw[e4U ha,d0I hb,<- a0l hk];rfl
     ·cases h
    ·cases h
   ·cases h
 |[],_::_,_,h=>by simp[e8N]at h
 |_::_,[],_,h=>by simp[e8N]at h
@[reducible] def e9G:List (Nat×ShB)->Type
 |[]=>Unit
 |p::r=>p.2.den×e9G r
def mkM:(l:List (Nat×ShB))->e9G l->List (Nat×Option Blk)
 |[],_=>[]
 |p::r,v=>(p.1,mkB p.2 v.1)::mkM r v.2
def e8O:(l:List (Nat×ShB))->List (Nat×Option Blk)->Option (e9G l)
 |[],[]=>some ()
 | p :: r,x::xs=>match beq p.1 x.1 with
   | true=>match f7k p.2 x.2 with
     | some v=>match e8O r xs with
       |some w=>some (v,w)
       |none=>none
     |none=>none
   |false=>none
 |_,_=>none
theorem d0J:∀{l:List (Nat×ShB)} {xs:List (Nat×Option Blk)} {v:e9G l},e8O l xs=some v->xs=mkM l v
 |[],[],_,_=>rfl
 | p :: r,(k,x)::xs,v,h=>by
   simp only[e8O]at h;split at h
   ·rename_i hk;split at h
    ·rename_i a ha;split at h
     ·rename_i b hb;cases h;rw[e4V ha,d0J hb,<- a0l hk];rfl
     ·cases h
    ·cases h
   ·cases h
 |[],_::_,_,h=>by simp[e8O]at h
 |_::_,[],_,h=>by simp[e8O]at h
structure ShS where
 tmps:List (Nat×ShV)
 mem:List (Nat×ShB)
 n:Nat
 m:Nat
@[reducible] def ShS.den (s:ShS):Type:=e9F s.tmps×e9G s.mem
def mkS (s:ShS) (v:s.den):St:=⟨mkT s.tmps v.1,mkM s.mem v.2,s.n,s.m⟩
def e9H (sh:ShS) (s:St):Option sh.den:=match beq sh.n s.n&&beq sh.m s.m with
 | true=>match e8N sh.tmps s.tmps with
   | some v=>match e8O sh.mem s.mem with
     |some w=>some (v,w)
     |none=>none
   |none=>none
 |false=>none
theorem a6M {sh:ShS} {s:St} {v:sh.den} (h:e9H sh s=some v):s=mkS sh v:=by
 obtain⟨tmps,mem,n,m⟩:=s;simp only[e9H]at h;split at h
 ·rename_i hk;simp only[and_eq_true]at hk;split at h
  ·rename_i a ha;split at h
   ·rename_i b hb;cases h;rw[d0I ha,d0J hb,<- a0l hk.1,<- a0l hk.2];rfl
   ·cases h
  ·cases h
 ·cases h
def atS {R:Type} (sh:ShS) (f:sh.den->Option R) (s:St):Option R:=match e9H sh s with
 |some v=>f v
 |none=>none
def a6c (shX shR:ShS) (e:Ex) (s:St):Option (shX.den⊕shR.den):=match e with
 |.normal=>none
 |.exit _=>atS shX (fun v=>some (.inl v)) s
 |.ret=>atS shR (fun v=>some (.inr v)) s
def a4X (shX:ShS) (e:Ex) (s:St):Option shX.den:=match e with
 |.exit _=>atS shX some s
 |_=>none
def a1t {V X:Type} (g:(V->Option X)->V->Option X):Nat->V->Option X
 |0,_=>none
 |n+1,v=>g (a1t g n) v
def a2d (live:List Nat) (own:List Cv) (ex:Nat) (past:List Nat) (pown:List Cv) (sh shX shR:ShS) (k t:sh.den->Bool) (x:sh.den->shX.den) (y:sh.den->shR.den):a6E:=
 ⟨live,own,ex,past,pown,fun s=>match e9H sh s with
  |some v=>some (k v,t v,mkS shX (x v),mkS shR (y v))
  |none=>none⟩
def a1Q (live:List Nat) (own:List Cv) (ex:Nat) (past:List Nat) (pown:List Cv) (sh shX:ShS) (k:sh.den->Bool) (x:sh.den->shX.den):a6E:=
 ⟨live,own,ex,past,pown,fun s=>match e9H sh s with
  |some v=>some (k v,false,mkS shX (x v),s)
  |none=>none⟩
def isR {X Y:Type}:Option (X⊕Y)->Bool
 |some (.inr _)=>true
 |_=>false
def xOf {X Y:Type} (d:X):Option (X⊕Y)->X
 |some (.inl x)=>x
 |_=>d
def yOf {X Y:Type} (d:Y):Option (X⊕Y)->Y
 |some (.inr y)=>y
 |_=>d
theorem a0u {Γ:Env} {c:Code} {live:List Nat} {own:List Cv} {ex:Nat} {past:List Nat} {pown:List Cv} {sh shX shR:ShS} {g:(sh.den->Option (shX.den⊕shR.den))->sh.den->Option (shX.den⊕shR.den)}
 (h:∀f v,EBk Γ c (a0z live own ex past pown (atS sh f) (a6c shX shR)) (mkS sh v)=g f v) (bd:sh.den->Nat) (dx:shX.den) (dr:shR.den) :
 a4d Γ c (a2d live own ex past pown sh shX shR (fun v=>(a1t g (bd v) v).isSome) (fun v=>isR (a1t g (bd v) v)) (fun v=>xOf dx (a1t g (bd v) v)) (fun v=>yOf dr (a1t g (bd v) v))):=by
 intro s0 b s1 s2 hrun R K;generalize hL:a2d live own ex past pown sh shX shR _ _ _ _=L at hrun;have hl:L.live=live /\ L.own=own /\ L.ex=ex /\ L.past=past /\ L.pown=pown:=by subst hL;exact⟨rfl,rfl,rfl,rfl,rfl⟩
 have main:∀n v y,a1t g n v=some y->b2f Γ c L K n (mkS sh v)=(match y with|.inl x=>K (.exit ex) (mkS shX x)|.inr x=>K .ret (mkS shR x)):=by
  intro n
  induction n with
  |zero=>intro v y hy;cases hy
  | succ n ih =>
    intro v y hy;simp only[a1t]at hy;rw[<- h]at hy;simp only[b2f,hl.1,hl.2.1,hl.2.2.1,hl.2.2.2.1,hl.2.2.2.2];rcases c4C (Γ:=Γ) c (mkS sh v)with hn|⟨e,s',hr⟩
    ·dsimp only at hn;rw[hn]at hy;cases hy
    ·dsimp only at hr;rw[hr]at hy ⊢;cases e with
     | normal =>
       simp only[a0z]at hy ⊢;split at hy
       ·rename_i s'' hc;unfold atS at hy;split at hy
        ·rename_i v' hv';rw[a6M hv'];exact ih v' y hy
        ·cases hy
       ·cases hy
     | exit i =>
       simp only[a0z,e4y]at hy ⊢;split at hy
       ·rename_i hb;split at hy
        ·rename_i s'' hc;simp only[a6c,atS]at hy;split at hy
         ·rename_i v' hv';cases hy;rw[a6M hv',a0l hb]
         ·cases hy
        ·cases hy
       ·cases hy
     | ret =>
       simp only[a0z,e4y,a6c,atS]at hy ⊢;split at hy
       ·rename_i v' hv';cases hy;rw[a6M hv']
       ·cases hy
 subst hL;simp only[a2d]at hrun;split at hrun
 ·rename_i v hv;simp only[injEq,Prod.mk.injEq]at hrun;obtain⟨h1,h2,h3,h4⟩:=hrun;cases hi:a1t g (bd v) v with
  |none=>rw[hi]at h1;cases h1
  | some y =>
    have hm:=main (bd v) v y hi;rw[hi]at h2 h3 h4;refine⟨bd v,?_⟩;rw[a6M hv];refine hm.trans ?_;cases y with
    |inl x=>subst h2;subst h3;rfl
    |inr x=>subst h2;subst h4;rfl
 ·cases hrun
theorem a0q {Γ:Env} {c:Code} {live:List Nat} {own:List Cv} {ex:Nat} {past:List Nat} {pown:List Cv} {sh shX:ShS} {g:(sh.den->Option shX.den)->sh.den->Option shX.den}
 (h:∀f v,EBk Γ c (a0z live own ex past pown (atS sh f) (a4X shX)) (mkS sh v)=g f v) (bd:sh.den->Nat) (dx:shX.den) :
 a4d Γ c (a1Q live own ex past pown sh shX (fun v=>(a1t g (bd v) v).isSome) (fun v=>(a1t g (bd v) v).getD dx)):=by
 intro s0 b s1 s2 hrun R K;generalize hL:a1Q live own ex past pown sh shX _ _=L at hrun;have hl:L.live=live /\ L.own=own /\ L.ex=ex /\ L.past=past /\ L.pown=pown:=by subst hL;exact⟨rfl,rfl,rfl,rfl,rfl⟩
 have main:∀n v y,a1t g n v=some y->b2f Γ c L K n (mkS sh v)=K (.exit ex) (mkS shX y):=by
  intro n
  induction n with
  |zero=>intro v y hy;cases hy
  | succ n ih =>
    intro v y hy;simp only[a1t]at hy;rw[<- h]at hy;simp only[b2f,hl.1,hl.2.1,hl.2.2.1,hl.2.2.2.1,hl.2.2.2.2];rcases c4C (Γ:=Γ) c (mkS sh v)with hn|⟨e,s',hr⟩
    ·dsimp only at hn;rw[hn]at hy;cases hy
    ·dsimp only at hr;rw[hr]at hy ⊢;cases e with
     | normal =>
       simp only[a0z]at hy ⊢;split at hy
       ·rename_i s'' hc;unfold atS at hy;split at hy
        ·rename_i v' hv';rw[a6M hv'];exact ih v' y hy
        ·cases hy
       ·cases hy
     | exit i =>
       simp only[a0z,e4y]at hy ⊢;split at hy
       ·rename_i hb;split at hy
        ·rename_i s'' hc;simp only[a4X,atS]at hy;split at hy
         ·rename_i v' hv';cases hy;rw[a6M hv',a0l hb]
         ·cases hy
        ·cases hy
       ·cases hy
     |ret=>simp only[a0z,e4y,a4X]at hy;cases hy
 subst hL;simp only[a1Q]at hrun;split at hrun
 ·rename_i v hv;simp only[injEq,Prod.mk.injEq]at hrun;obtain⟨h1,h2,h3,h4⟩:=hrun;cases hi:a1t g (bd v) v with
  |none=>rw[hi]at h1;cases h1
  | some y =>
    have hm:=main (bd v) v y hi;rw[hi]at h3;refine⟨bd v,?_⟩;rw[a6M hv];refine hm.trans ?_;subst h2;subst h3;rfl
 ·cases hrun
theorem a0y {Γ:Env} {c:Code} {l:List Code} (h:a0p c=l) (ha:c4A (fun c'=>∀L,a2a Γ.loops (a1n c')=some L->a4d Γ c' L) l):a8n Γ c:=
 fun c' hc=>ha.mem c' (by rw[<- h];exact hc)
theorem a0o {Γ:Env} {c:Code} {L0:a6E} (hl:a2a Γ.loops (a1n c)=some L0) (hs:a4d Γ c L0):∀L,a2a Γ.loops (a1n c)=some L->a4d Γ c L:=by
 intro L h;rw[hl]at h;cases h;exact hs
def e4W:(c:ShC)->C->Option c.den
 |.sl t,.nil _=>some []
 |.pois,_=>some ()
 |c,x=>e9E c x
theorem d7L {β:Bt} {K:Ks} {c:ShC} {x:C} {v:c.den} (h:e4W c x=some v) {u:Value} (hu:CR β K x u):CR β K (mkC c v) u:=by
 unfold e4W at h;split at h
 ·cases h;obtain⟨a,rfl⟩:=hu;exact⟨a,0,0,rfl,rfl,le_refl _,.inl rfl⟩
 ·trivial
 ·rw[<- c2z h];exact hu
def c2B:(l:List ShC)->List C->Option (d0H l)
 |[],[]=>some ()
 | c :: r,x::xs=>match e4W c x with
   | some v=>match c2B r xs with
     |some w=>some (v,w)
     |none=>none
   |none=>none
 |_,_=>none
theorem b4o {β:Bt} {K:Ks}:∀{l:List ShC} {xs:List C} {v:d0H l},c2B l xs=some v->∀{us:List Value},All2 (CR β K) xs us->All2 (CR β K) (mkL l v) us
 |[],[],_,_,us,hu=>hu
 | c :: r,x::xs,v,h,us,hu=>by
   simp only[c2B]at h;split at h
   ·rename_i a ha;split at h
    ·rename_i b hb;cases h;cases us with
     |nil=>exact hu.elim
     |cons u us=>exact⟨d7L ha hu.1,b4o hb hu.2⟩
    ·cases h
   ·cases h
 |[],_::_,_,h,_,_=>by simp[c2B]at h
 |_::_,[],_,h,_,_=>by simp[c2B]at h
inductive Kn where
 |val (t:Ty)
 |own (t:Ty) (k:Nat)
 |ptr (k:Nat)
 |mix (cs:List ShC)
 |fnv (f:Nat) (ks:List Nat)
@[reducible] def Kn.den:Kn->Type
 |.val t=>Den t
 |.mix cs=>d0H cs
 |_=>Unit
def g3Y:(k:Kn)->k.den->W
 |.val t,x=>e4S t x
 |.own t k,_ => .one (.ref t k)
 |.ptr k,_ => .one (.ptr k 0)
 |.mix cs,x => .agg (mkL cs x)
 |.fnv f ks,_ => .one (.fn f ks)
def b2J:List Nat->List Nat->Bool
 |[],[]=>true
 |a::r,b::s=>beq a b&&b2J r s
 |_,_=>false
theorem b8R:∀{l m:List Nat},b2J l m=true->l=m
 |[],[],_=>rfl
 | a::r,b::s,h=>by
   simp only[b2J,and_eq_true]at h;rw[a0l h.1,b8R h.2]
 |[],_::_,h=>by simp[b2J]at h
 |_::_,[],h=>by simp[b2J]at h
def f7l:(k:Kn)->W->Option k.den
 |.val t,w=>f4v t w
 | .own t k,.one (.ref t' k')=>match d0G t t'&&beq k k' with
   |true=>some ()
   |false=>none
 | .ptr k,.one (.ptr k' o)=>match beq k k'&&beq o 0 with
   |true=>some ()
   |false=>none
 |.mix cs,.agg xs=>c2B cs xs
 | .fnv f ks,.one (.fn f' ks')=>match beq f f'&&b2J ks ks' with
   |true=>some ()
   |false=>none
 |_,_=>none
theorem e4X {β:Bt} {K:Ks} {k:Kn} {u:W} {x:k.den} (h:f7l k u=some x) {v:Value} (hv:WR β K u v):WR β K (g3Y k x) v:=by
 unfold f7l at h;split at h
 ·exact d0E h hv
 ·split at h
  ·rename_i hk;simp only[and_eq_true]at hk;rw[<- b4m hk.1,<- a0l hk.2]at hv;exact hv
  ·cases h
 ·split at h
  ·rename_i hk;simp only[and_eq_true]at hk;rw[<- a0l hk.1,a0l hk.2]at hv;exact hv
  ·cases h
 ·obtain⟨arr,rfl,ha⟩:=hv;exact⟨arr,rfl,b4o h ha⟩
 ·split at h
  ·rename_i hk;simp only[and_eq_true]at hk;rw[<- a0l hk.1,<- b8R hk.2]at hv;exact hv
  ·cases h
 ·cases h
@[reducible] def a6o:List Kn->Type
 |[]=>Unit
 |k::r=>k.den×a6o r
def a3n:(l:List Kn)->a6o l->List W
 |[],_=>[]
 |k::r,x=>g3Y k x.1::a3n r x.2
def b0S:(l:List Kn)->List W->Option (a6o l)
 |[],[]=>some ()
 | k :: r,w::ws=>match f7l k w with
   | some x=>match b0S r ws with
     |some y=>some (x,y)
     |none=>none
   |none=>none
 |_,_=>none
theorem a6d {β:Bt} {K:Ks}:∀{l:List Kn} {us:List W} {x:a6o l},b0S l us=some x->∀{vs:List Value},All2 (WR β K) us vs->All2 (WR β K) (a3n l x) vs
 |[],[],_,_,vs,hv=>hv
 | k :: r,u::us,x,h,vs,hv=>by
   simp only[b0S]at h;split at h
   ·rename_i a ha;split at h
    ·rename_i b hb;cases h;cases vs with
     |nil=>exact hv.elim
     |cons v vs=>exact⟨e4X ha hv.1,a6d hb hv.2⟩
    ·cases h
   ·cases h
 |[],_::_,_,h,_,_=>by simp[b0S]at h
 |_::_,[],_,h,_,_=>by simp[b0S]at h
theorem b8S:∀{l:List Kn} {us:List W} {x:a6o l},b0S l us=some x->(a3n l x).length=us.length
 |[],[],_,_=>rfl
 | k :: r,u::us,x,h=>by
   simp only[b0S]at h;split at h
   ·split at h
    ·rename_i b hb;cases h;simp[a3n,b8S hb]
    ·cases h
   ·cases h
 |[],_::_,_,h=>by simp[b0S]at h
 |_::_,[],_,h=>by simp[b0S]at h
inductive Bn where
 |box (t:Ty)
 |boxC (cs:List ShC)
 |arr (t:Ty)
 |gone
@[reducible] def Bn.den:Bn->Type
 |.box t=>Den t
 |.boxC cs=>d0H cs
 |.arr t=>List (Den t)
 |.gone=>Unit
def f7m:(b:Bn)->b.den->Option Blk
 |.box t,x=>some (.box (AM.enc t x))
 |.boxC cs,x=>some (.box (mkL cs x))
 |.arr t,l=>some (.arr t l)
 |.gone,_=>none
def f7n:(b:Bn)->Option Blk->Option b.den
 |.box t,some (.box cs)=>c9s t cs
 |.boxC cs,some (.box xs)=>c2B cs xs
 | .arr t,some (.arr t' l)=>match a4a t' t with
   |some ⟨h⟩=>some (h ▸ l)
   |none=>none
 |.gone,_=>some ()
 |_,_=>none
def f4x (b b':Blk):Prop:=∀β K h w,BR β K b h w->BR β K b' h w
theorem e4Y {b:Bn} {o:Option Blk} {x:b.den} (h:f7n b o=some x) {b':Blk} (hb:f7m b x=some b'):∃b0,o=some b0 /\ f4x b0 b':=by
 unfold f7n at h;split at h
 ·cases hb;refine⟨_,rfl,fun β K h' w hr=>?_⟩;obtain⟨y,arr,T,e,hh,hc⟩:=hr;exact⟨y,arr,T,e,hh,DR.enc _ (b4k h hc)⟩
 ·cases hb;refine⟨_,rfl,fun β K h' w hr=>?_⟩;obtain⟨y,arr,T,e,hh,hc⟩:=hr;exact⟨y,arr,T,e,hh,b4o h hc⟩
 ·split at h
  ·rename_i e _;subst e;cases h;cases hb;exact⟨_,rfl,fun _ _ _ _ hr=>hr⟩
  ·cases h
 ·cases hb
 ·cases h
@[reducible] def c7F:List Bn->Type
 |[]=>Unit
 |k::r=>k.den×c7F r
def a3X:(l:List Bn)->c7F l->List (Option Blk)
 |[],_=>[]
 |b::r,x=>f7m b x.1::a3X r x.2
def c7G:(l:List Bn)->List (Option Blk)->Option (c7F l)
 |[],[]=>some ()
 | b :: r,o::os=>match f7n b o with
   | some x=>match c7G r os with
     |some y=>some (x,y)
     |none=>none
   |none=>none
 |_,_=>none
theorem a3o:∀{l:List Bn} {os:List (Option Blk)} {x:c7F l},c7G l os=some x->(a3X l x).length=os.length /\ ∀p b',a2r (a3X l x) p=some b'->∃b,a2r os p=some b /\ f4x b b'
 |[],[],_,_=>⟨rfl,fun p b' e=>by simp[a3X,a2r]at e⟩
 | k :: r,o::os,x,h=>by
   simp only[c7G]at h;split at h
   ·rename_i a ha;split at h
    ·rename_i b hb;cases h;obtain⟨h1,h2⟩:=a3o hb;refine⟨by simp[a3X,h1],fun p b' e=>?_⟩;cases p with
     | zero =>
       have e':f7m k a=some b':=by simpa[a3X,a2r]using e
       obtain⟨b0,h3,h4⟩:=e4Y ha e';exact⟨b0,by simpa[a2r]using h3,h4⟩
     | succ p =>
       have:=h2 p b' (by simpa[a3X,a2r]using e);simpa[a2r]using this
    ·cases h
   ·cases h
 |[],_::_,_,h=>by simp[c7G]at h
 |_::_,[],_,h=>by simp[c7G]at h
def b8T:List (Option Blk)->Option (List Blk)
 |[]=>some []
 | some b::r=>match b8T r with
   |some l=>some (b::l)
   |none=>none
 |none::_=>none
theorem a5D:∀{os:List (Option Blk)} {ins:List Blk},b8T os=some ins->ins.length=os.length /\ a2t ins=a2r os
 |[],ins,h=>by simp only[b8T,injEq]at h;subst h;exact⟨rfl,by funext p;simp[a2t,a2r]⟩
 | some b::r,ins,h=>by
   simp only[b8T]at h;split at h
   ·rename_i l hl;cases h;obtain⟨h1,h2⟩:=a5D hl;refine⟨by simp[h1],?_⟩;funext p;cases p with
    |zero=>simp[a2t,a2r]
    | succ p =>
      have:=congrFun h2 p;simpa[a2t,a2r]using this
   ·cases h
 |none::_,_,h=>by simp[b8T]at h
theorem a7z (ins:List Blk):a2r (ins.map some)=a2t ins:=by
 funext p;simp only[a2r,a2t,List.getElem?_map];cases ins[p]?<;>rfl
theorem MR.lax {β:Bt} {K:Ks} {get get':Get} {w:World} (h:MR β K get w) (hg:∀p b',get' p=some b'->∃b,get p=some b /\ f4x b b'):MR β K get' w:=by
 refine⟨fun k b e=>?_,fun k k' b b' y y' x e e' f f' g g'=>?_,fun k b y x e f g=>?_⟩
 ·obtain⟨b0,h1,h2⟩:=hg k b e;obtain⟨y,h3,h4⟩:=h.blk k b0 h1;exact⟨y,h3,h2 _ _ _ _ h4⟩
 ·obtain⟨b0,h1,_⟩:=hg k b e;obtain⟨b1,h2,_⟩:=hg k' b' e';exact h.sep k k' b0 b1 y y' x h1 h2 f f' g g'
 ·obtain⟨b0,h1,_⟩:=hg k b e;exact h.ro k b0 y x h1 f g
theorem Own.lax {β:Bt} {get get':Get} (hg:∀p b',get' p=some b'->∃b,get p=some b /\ f4x b b') {x:Nat} (h:Own β get' x):Own β get x:=by
 obtain⟨k,b,y,e,f,g⟩:=h;obtain⟨b0,h1,_⟩:=hg k b e;exact⟨k,b0,y,h1,f,g⟩
structure Sg where
 ws:List Kn
 bs:List Bn
@[reducible] def Sg.den (s:Sg):Type:=a6o s.ws×c7F s.bs
def c7H (O:Sg):List W×List (Option Blk)->Option O.den:=fun p=>match b0S O.ws p.1 with
 | some x=>match c7G O.bs p.2 with
   |some y=>some (x,y)
   |none=>none
 |none=>none
def f7o:(c:ShC)->c.den
 |.bool=>false
 |.int _=>(0:Int)
 |.flt _=>(0:Nat)
 |.cpx _=>((0,0):Nat×Nat)
 |.str=>ByteArray.empty
 |.sl t=>([]:List (Den t))
 |.pois=>()
 |.nil _=>()
 |.ref _ _=>()
 |.ptr _ _=>()
 |.fn _ _=>()
def e4Z:(l:List ShC)->d0H l
 |[]=>()
 |c::r=>(f7o c,e4Z r)
def b2K:(l:List Kn)->a6o l
 |[]=>()
 |.val t::r=>(zero t,b2K r)
 |.mix cs::r=>(e4Z cs,b2K r)
 |.own _ _::r=>((),b2K r)
 |.ptr _::r=>((),b2K r)
 |.fnv _ _::r=>((),b2K r)
def b8U:(l:List Bn)->c7F l
 |[]=>()
 |.box t::r=>(zero t,b8U r)
 |.boxC cs::r=>(e4Z cs,b8U r)
 |.arr t::r=>(([]:List (Den t)),b8U r)
 |.gone::r=>((),b8U r)
def a1l (O:Sg):O.den:=(b2K O.ws,b8U O.bs)
def a0j (own:Bool) (I O:Sg) (ok:I.den->Bool) (g:I.den->O.den):b2y:=⟨own,fun ws ins=>match c7H I (ws,ins.map some)with
 | some x=>match b8T (a3X I.bs x.2)with
   |some _=>some (ok x,a3n O.ws (g x).1,a3X O.bs (g x).2)
   |none=>none
 |none=>none⟩
theorem a7A {β:Bt} {K:Ks} {l:List Kn} {rs:List W} {x:a6o l} {v:Value} (h:b0S l rs=some x) (hv:a8h β K rs v):a8h β K (a3n l x) v:=by
 have hl:=b8S h;unfold a8h at hv ⊢
 match rs,a3n l x,hl,(fun vs=>a6d (β:=β) (K:=K) h (vs:=vs))with
 |[],[],_,_=>exact hv
 |[u],[u'],_,hk=>exact(hk [v] ⟨hv,trivial⟩).1
 | u::u2::us,y::y2::ys,_,hk =>
   obtain⟨arr,e,ha⟩:=hv;exact⟨arr,e,hk arr.toList ha⟩
section
variable {P:Program} {Γ:Env}
def a1W (Γ:Env) (c:Code) (I O:Sg) (x:I.den):Option O.den:=match b8T (a3X I.bs x.2)with
 |some ins=>a0t Γ c (c7H O) (a3n I.ws x.1) ins
 |none=>none
theorem e9I (env:a1F P Γ) {f:Nat} {c:Code} (hf:a6z P f Γ c) {own:Bool} {I O:Sg} {ok:I.den->Bool} {g:I.den->O.den} (h:∀x,ok x=true->a1W Γ c I O x=some (g x)):a0k P (f,a0j own I O ok g):=by
 refine⟨?_,hf.ok⟩;intro args ins rs outs hrun β0 K0 w0 vs hk hm hfr hv;simp only[a0j,c7H]at hrun;split at hrun
 case h_2=>cases hrun
 rename_i x hx;split at hx
 case h_2=>cases hx
 rename_i x1 hx1;split at hx
 case h_2=>cases hx
 rename_i x2 hx2;cases hx;split at hrun
 case h_2=>cases hrun
 rename_i ins' hins';simp only[injEq,Prod.mk.injEq]at hrun;obtain⟨hok,rfl,rfl⟩:=hrun;obtain⟨hl1,hg1⟩:=a3o hx2;obtain⟨hl2,hg2⟩:=a5D hins';rw[a7z]at hg1;rw[<- hg2]at hg1;have hlen:ins'.length=ins.length:=by rw[hl2,hl1];simp
 have he:=h (x1,x2) hok;simp only[a1W,hins']at he;refine(c4x env hf he hk (hm.lax hg1) (fun k hk=>hfr k (by omega)) (a6d hx1 hv)).mono ?_;rintro e w' ⟨v,β,K,rs',outs',rfl,hg,hR⟩;simp only[c7H]at hg;split at hg
 case h_2=>cases hg
 rename_i y1 hy1;split at hg
 case h_2=>cases hg
 rename_i y2 hy2;obtain⟨hl3,hg3⟩:=a3o hy2;have hl3':(a3X O.bs (y1,y2).2).length=outs'.length:=hl3;have hgx:g (x1,x2)=(y1,y2):=by simpa using hg.symm
 rw[hgx];have hown:∀b,Own β0 (a2t ins') b->Own β0 (a2t ins) b:=fun b hb=>hb.lax hg1
 refine⟨v,β,K,rfl,⟨hR.kle,hR.kok,fun b arr e=>?_,hR.mr.lax hg3,fun k hk=>hR.fresh k (by simp only at hk hl3';omega),a7A hy1 hR.out,⟨hR.fr.os,hR.fr.tape,hR.fr.output,hR.fr.size,fun b hb hn=>hR.fr.block b hb fun hc=>hn (hc.imp (hown b) id)⟩,fun x hx=>?_,hR.ble,?_⟩⟩
 ·rcases hR.knew b arr e with h1|h1|h1
  ·exact .inl h1
  ·exact .inr (.inl (hown b h1))
  ·exact .inr (.inr h1)
 ·rcases hR.own x (hx.lax hg3)with h1|h1
  ·exact .inl (hown x h1)
  ·exact .inr h1
 ·have:=hR.le;simp only at hl3' ⊢;omega
theorem a1p (env:a1F P Γ) {f:Nat} {c:Code} (hf:a6z P f Γ c) (own:Bool) {I O:Sg} {p:I.den->Option O.den} (h:∀x,a1W Γ c I O x=p x):a0k P (f,a0j own I O (fun x=>(p x).isSome) (fun x=>(p x).getD (a1l O))):=
 e9I env hf fun x hx=>by
  rw[h x];cases hp:p x with
  |none=>rw[hp]at hx;cases hx
  |some r=>rfl
end
theorem a0V {V X:Type} {q:(V->Option X)->V->Option X} (I:V->Prop) (P:V->Option X->Prop) (μ:V->Nat)
 (step:∀v f,I v->(∀v',I v'->μ v'<μ v->P v' (f v'))->P v (q f v)):∀n v,I v->μ v<n->P v (a1t q n v)
 |0,v,_,h=>by omega
 |n+1,v,hi,h=>step v _ hi fun v' hi' hm=>a0V I P μ step n v' hi' (by omega)
def a2U {X:Type} (stop:Nat->Option X) (e:X):Nat->Nat->X
 |_,0=>e
 | k,n+1=>match stop k with
   |some x=>x
   |none=>a2U stop e (k+1) n
theorem b0a {V X:Type} {q:(V->Option X)->V->Option X} (S:Nat->V) (n:Nat) (stop:Nat->Option X) (e:X)
 (step:∀k f,k<n->q f (S k)=match stop k with|some x=>some x|none=>f (S (k+1))) (fin:∀f,q f (S n)=some e) :
 ∀m j k,k+j=n->j<m->a1t q m (S k)=some (a2U stop e k j)
 |0,_,_,_,h=>by omega
 | m+1,0,k,hk,h=>by
   have:k=n:=by omega
   subst this;exact fin _
 | m+1,j+1,k,hk,h=>by
   show q (a1t q m) (S k)=_;rw[step k _ (by omega)];simp only[a2U];cases hs:stop k with
   |some x=>rfl
   |none=>exact b0a S n stop e step fin m j (k+1) (by omega) (by omega)
theorem a6A {X:Type} {stop:Nat->Option X} {e:X}:∀{n k:Nat},(∀j,k<=j->j<k+n->stop j=none)->a2U stop e k n=e
 |0,_,_=>rfl
 | n+1,k,h=>by
   simp only[a2U,h k (le_refl _) (by omega)];exact a6A fun j h1 h2=>h j (by omega) (by omega)
theorem a2z {V X:Type} {q:(V->Option X)->V->Option X} (S:Nat->V) (n:Nat) (e:X) (step:∀k f,k<n->q f (S k)=f (S (k+1))) (fin:∀f,q f (S n)=some e) (m:Nat) (h:n<m):a1t q m (S 0)=some e:=by
 have:=b0a S n (fun _=>none) e step fin m n 0 (by omega) h;rw[a6A fun _ _ _=>rfl]at this;exact this
def a0r (g:Nat->Bool):Nat->Nat->Bool
 |_,0=>true
 |k,n+1=>g k&&a0r g (k+1) n
theorem a0H {g:Nat->Bool}:∀{n k:Nat},a0r g k n=true↔∀j,k<=j->j<k+n->g j=true
 |0,k=>by simp[a0r];omega
 | n+1,k=>by
   simp only[a0r,and_eq_true,a0H (n:=n)];constructor
   ·rintro⟨h1,h2⟩ j h3 h4;rcases Nat.eq_or_lt_of_le h3 with rfl|h5
    ·exact h1
    ·exact h2 j h5 (by omega)
   ·intro h;exact⟨h k (le_refl _) (by omega),fun j h1 h2=>h j (by omega) (by omega)⟩
theorem a7B {X:Type} {stop:Nat->Option X} {g:Nat->Bool} {e s:X}:∀{n k:Nat},(∀j,k<=j->j<k+n->stop j=bif g j then none else some s)->a2U stop e k n=bif a0r g k n then e else s
 |0,_,_=>rfl
 | n+1,k,h=>by
   simp only[a2U,a0r,h k (le_refl _) (by omega)];cases g k with
   |false=>rfl
   |true=>exact a7B fun j h1 h2=>h j (by omega) (by omega)
theorem a0Z {V X:Type} {q:(V->Option X)->V->Option X} (S:Nat->V) (n:Nat) (g:Nat->Bool) (e s:X) (step:∀k f,k<n->q f (S k)=bif g k then f (S (k+1))else some s) (fin:∀f,q f (S n)=some e) (m:Nat) (h:n<m) :
 a1t q m (S 0)=some (bif a0r g 0 n then e else s):=by
 rw[b0a S n (fun k=>bif g k then none else some s) e (fun k f hk=>by rw[step k f hk];cases g k<;>rfl) fin m n 0 (by omega) h];rw[a7B fun _ _ _=>rfl]
def a0L (g:Nat->Bool):Nat->Nat->Option Nat
 |_,0=>none
 |k,n+1=>bif g k then some k else a0L g (k+1) n
theorem a1B {g:Nat->Bool}:∀{n k j:Nat},a0L g k n=some j->k<=j /\ j<k+n /\ g j=true /\ ∀i,k<=i->i<j->g i=false
 |0,k,j,h=>by cases h
 | n + 1,k,j,h=>by
   simp only[a0L]at h;cases hg:g k with
   | true =>
     rw[hg]at h;cases h;exact⟨le_refl _,by omega,hg,fun i h1 h2=>by omega⟩
   | false =>
     rw[hg]at h;obtain⟨h1,h2,h3,h4⟩:=a1B (n:=n) h;refine⟨by omega,by omega,h3,fun i h5 h6=>?_⟩;rcases Nat.eq_or_lt_of_le h5 with rfl|h7
     ·exact hg
     ·exact h4 i h7 h6
theorem a2A {g:Nat->Bool}:∀{n k:Nat},a0L g k n=none↔∀i,k<=i->i<k+n->g i=false
 |0,k=>by simp[a0L];omega
 | n + 1,k=>by
   simp only[a0L];cases hg:g k with
   | true =>
     simp only[cond_true];constructor
     ·intro h;cases h
     ·intro h;rw[h k (le_refl _) (by omega)]at hg;cases hg
   | false =>
     simp only[cond_false,a2A (n:=n)];constructor
     ·intro h i h1 h2;rcases Nat.eq_or_lt_of_le h1 with rfl|h3
      ·exact hg
      ·exact h i h3 (by omega)
     ·intro h i h1 h2;exact h i (by omega) (by omega)
theorem a7C {V X:Type} {q:(V->Option X)->V->Option X} (S:Nat->V) (n:Nat) (g:Nat->Bool) (e:X) (s:Nat->X) (step:∀k f,k<n->q f (S k)=bif g k then some (s k)else f (S (k+1))) (fin:∀f,q f (S n)=some e) (m:Nat) (h:n<m) :
 a1t q m (S 0)=some (match a0L g 0 n with|some j=>s j|none=>e):=by
 rw[b0a S n (fun k=>bif g k then some (s k)else none) e (fun k f hk=>by rw[step k f hk];cases g k<;>rfl) fin m n 0 (by omega) h];congr 1;clear h step fin;generalize 0=k
 induction n generalizing k with
 |zero=>rfl
 | succ n ih =>
   simp only[a2U,a0L];cases g k with
   |true=>rfl
   |false=>exact ih (k+1)
theorem w64 {x:Int} (h:-9223372036854775808<=x) (h':x<=9223372036854775807):IntKind.wrap IntKind.i64 x=x:=IntWalk.i64_in x (by omega)
theorem a3I (k:Nat) (h:k<9223372036854775807):IntKind.wrap IntKind.i64 ((k:Int)+1)=((k+1:Nat):Int):=by rw[w64 (by omega) (by omega)];simp
theorem a0K {n:Nat} (h:n<=1099511627776):a0D n=true:=Nat.ble_eq_true_of_le h
theorem a5E {α:Type} (l:List α) (k:Nat) (z:α) (h:k<l.length):l.getD k z=l[k]:=by
 rw[List.getD_eq_getElem?_getD,List.getElem?_eq_getElem h];rfl
def a1Y {A X:Type} (next:Nat->A->A⊕X) (e:A->X):Nat->Nat->A->X
 |_,0,a=>e a
 | k,n+1,a=>match next k a with
   |.inl a'=>a1Y next e (k+1) n a'
   |.inr x=>x
theorem c4D {V X A:Type} {q:(V->Option X)->V->Option X} (S:Nat->A->V) (n:Nat) (next:Nat->A->A⊕X) (e:A->X)
 (step:∀k a f,k<n->q f (S k a)=match next k a with|.inl a'=>f (S (k+1) a')|.inr x=>some x) (fin:∀a f,q f (S n a)=some (e a)) :
 ∀m j k a,k+j=n->j<m->a1t q m (S k a)=some (a1Y next e k j a)
 |0,_,_,_,_,h=>by omega
 | m+1,0,k,a,hk,h=>by
   have:k=n:=by omega
   subst this;exact fin _ _
 | m+1,j+1,k,a,hk,h=>by
   show q (a1t q m) (S k a)=_;rw[step k a _ (by omega)];simp only[a1Y];cases hs:next k a with
   |inl a'=>exact c4D S n next e step fin m j (k+1) a' (by omega) (by omega)
   |inr x=>rfl
theorem b8V {V X A:Type} {q:(V->Option X)->V->Option X} (S:Nat->A->V) (n:Nat) (next:Nat->A->A⊕X) (e:A->X) (I:Nat->A->Prop)
 (step:∀k a f,k<n->I k a->q f (S k a)=match next k a with|.inl a'=>f (S (k+1) a')|.inr x=>some x) (keep:∀k a a',k<n->I k a->next k a = .inl a'->I (k+1) a') (fin:∀a f,I n a->q f (S n a)=some (e a)) :
 ∀m j k a,k+j=n->j<m->I k a->a1t q m (S k a)=some (a1Y next e k j a)
 |0,_,_,_,_,h,_=>by omega
 | m+1,0,k,a,hk,h,hi=>by
   have:k=n:=by omega
   subst this;exact fin _ _ hi
 | m+1,j+1,k,a,hk,h,hi=>by
   show q (a1t q m) (S k a)=_;rw[step k a _ (by omega) hi];simp only[a1Y];cases hs:next k a with
   |inl a'=>exact b8V S n next e I step keep fin m j (k+1) a' (by omega) (by omega) (keep k a a' (by omega) hi hs)
   |inr x=>rfl
structure Fam where
 ι:Type
 inh:Nonempty ι
 mean:ι->b2y
 own:Bool
def DoesCall (P:Program) (f:Nat) (vs:Array Value) (w:World) (Q:Ending->World->Prop):Prop:=
 (e4A P f /\ Calls P f vs w Q)∨∃v w',(callFunc f vs).run P w = .ok (.value v) w' /\ Q (.returned v) w'
theorem DoesCall.mono {P:Program} {f:Nat} {vs:Array Value} {w:World} {Q Q':Ending->World->Prop} (h:DoesCall P f vs w Q) (hq:∀e w',Q e w'->Q' e w'):DoesCall P f vs w Q':=by
 rcases h with⟨h1,h2⟩|⟨v,w',h1,h2⟩
 ·exact .inl ⟨h1,h2.mono hq⟩
 ·exact .inr ⟨v,w',h1,hq _ _ h2⟩
structure a2V (P:Program) (f:Nat) (fam:Fam):Prop where
 own:∀z,(fam.mean z).own=fam.own
 mean:∀(args:List W) (ins:List Blk),(∀z,∃rs outs,(fam.mean z).run args ins=some (true,rs,outs)) ->
  ∀(β0:Bt) (K0:Ks) (w0:World) (vs:Array Value),KOK K0 w0->MR β0 K0 (a2t ins) w0->(∀k,ins.length<=k->β0 k=none)->All2 (WR β0 K0) args vs.toList ->
  DoesCall P f vs w0 fun e w'=>∃z rs outs v β K,(fam.mean z).run args ins=some (true,rs,outs) /\ e = .returned v /\ Ret ins outs rs β0 K0 w0 v w' β K
section
variable {P:Program} {Γ:Env} {β:Bt} {K:Ks} {get:Get} {n:Nat} {w:World} {ρ:Operand->V} {a:Act} {o:Oper}
theorem b2L (h:Pre P Γ β K get n w ρ a) {c:Call} {f:Operand} {g:Nat} {caps:List Nat} {ws:List W} (ho:o.op = .call c) (hc:c.callee = .value f) (hf:ρ f = .val (.one (.fn g caps)))
 (hw:a6m (c.args.toList.map ρ)=some ws):∃vs:Array Value,(∀r,(callFunc g vs).run P w=r->(execOp a.eval o).run P w=r) /\ All2 (WR β K) (ws++caps.map fun k => .one (.ptr k 0)) vs.toList:=by
 obtain⟨cs,hfv,hcs⟩:=h.one hf;refine⟨(c.args.map a.eval)++cs.toArray,?_,?_⟩
 ·intro r hr;rw[<- hr];simp[execOp,ho,resolve,hc,hfv,Deferred.ofValue,invoke]
 ·rw [Array.toList_append];refine All2.append ?_ ?_
  ·have hl:All2 (fun(x:V) (u:Value)=>VR β K x u) (c.args.toList.map ρ) (c.args.map a.eval).toList:=by
    rw[Array.toList_map];generalize c.args.toList=l
    induction l with
    |nil=>trivial
    |cons x r ih=>exact⟨h.val x,ih⟩
   refine a1k hw hl fun x c u _ hx hu=>?_
   split at hx
   ·cases hx;exact hu
   ·cases hx
  ·simp only[];clear hf hfv
   induction caps generalizing cs with
   | nil=>cases cs with
     |nil=>trivial
     |cons _ _=>exact hcs.elim
   | cons k caps ih=>cases cs with
     |nil=>exact hcs.elim
     |cons u cs=>exact⟨hcs.1,ih cs hcs.2⟩
theorem b2k {g:Nat} {vs:Array Value} (hfn:e4A P g) (w:World):(callFunc g vs).run P w = .ok (.enter g vs) w:=by
 obtain⟨fn,h1,h2,h3⟩:=hfn.body
 have hb:¬fn.body=none:=by intro e;rw[e]at h2;cases h2
 have h3':¬fn.name = "runtime.NumGoroutine" := by simpa using h3
 simp[callFunc,h1,h3',hb]
theorem b2M {g:Nat} {vs:Array Value} {post:Value->World->Prop} (hx:∀r,(callFunc g vs).run P w=r->(execOp a.eval o).run P w=r) (hc:DoesCall P g vs w fun e w'=>∃v,e = .returned v /\ post v w'):a0A P o a w post:=by
 rcases hc with⟨h1,h2⟩|⟨v,w',h1,v',h2,h3⟩
 ·exact a0A.call (hx _ (b2k h1 w)) h2
 ·cases h2;exact a0A.value (hx _ h1) h3
theorem b0T (h:Pre P Γ β K get n w ρ a) {c:Call} {f:Operand} {g:Nat} {caps:List Nat} {ws:List W} {fam:Fam} {out:fam.ι->Out} (ho:o.op = .call c) (hc:c.callee = .value f) (hf:ρ f = .val (.one (.fn g caps)))
 (hw:a6m (c.args.toList.map ρ)=some ws) (hfam:a2V P g fam) (hl:∀z,a3V (fam.mean z) get n (ws++caps.map fun k => .one (.ptr k 0))=some (out z)) (hok:∀z,(out z).ok=true):a0A P o a w (fun v w'=>∃z,a1i β K get n w (out z) v w'):=by
 obtain⟨_,hmean⟩:=hfam;obtain⟨vs,hx,hvs⟩:=b2L h ho hc hf hw;generalize (ws++caps.map fun k=>W.one (C.ptr k 0))=args at hl hvs;simp only[a3V]at hl;generalize hks:a2H get a1X (args.flatMap a1b) []=ks at hl;have hnd:ks.Nodup:=by rw[<- hks];exact a2n _ _ _ _ (by simp)
 obtain⟨z0⟩:=fam.inh;obtain⟨args',hargs⟩:∃args',a1S (c7i fun k=>a2v ks k 0) args=some args':=by
  cases hq:a1S (c7i fun k=>a2v ks k 0) args with
  |none=>have:=hl z0;rw[hq]at this;cases this
  |some x=>exact⟨x,rfl⟩
 obtain⟨ins,hins⟩:∃ins,a1S (fun k=>(get k).bind (b3M fun k=>a2v ks k 0)) ks=some ins:=by
  cases hq:a1S (fun k=>(get k).bind (b3M fun k=>a2v ks k 0)) ks with
  |none=>have:=hl z0;rw[hargs,hq]at this;cases this
  |some x=>exact⟨x,rfl⟩
 have hl:∀z,∃rs outs rs' outs',(fam.mean z).run args' ins=some (true,rs,outs) /\ Nat.ble ks.length outs.length=true /\ a1S (c7i fun i=>some (a5y ks n i)) rs=some rs' /\ a1S (a7g fun i=>some (a5y ks n i)) outs=some outs' /\
  out z=⟨true,d7o rs',c1X ks outs' n,n+(outs.length-ks.length)⟩:=by
  intro z;have h1:=hl z;rw[hargs,hins]at h1;dsimp only at h1;split at h1
  case h_2=>cases h1
  rename_i ok rs outs hrun;split at h1
  case h_2=>cases h1
  rename_i rs' outs' hlen hrs' houts';have h2:=Option.some.inj h1;have h3:=hok z;rw[<- h2]at h3;dsimp only at h3;subst h3;exact⟨rs,outs,rs',outs',hrun,hlen,hrs',houts',h2.symm⟩
 have hinl:ins.length=ks.length:=a2m hins;have hin:∀p b,a2t ins p=some b->∃k b0 y,ks[p]?=some k /\ get k=some b0 /\ b3M (fun k=>a2v ks k 0) b0=some b /\ β k=some y /\ BR β K b0 y w:=by
  intro p b e;obtain⟨k,hk,hb⟩:=(All2.ofMap hins).get?' e;cases hg:get k with
  |none=>rw[hg]at hb;cases hb
  | some b0 =>
    rw[hg]at hb;obtain⟨y,hy,hbr⟩:=h.mr.blk k b0 hg;exact⟨k,b0,y,hk,hg,hb,hy,hbr⟩
 have hksome:∀(p k:Nat),ks[p]?=some k->∃b0 y,get k=some b0 /\ β k=some y:=by
  intro p k hk;obtain⟨b,_,hb⟩:=(All2.ofMap hins).get? hk;cases hg:get k with
  |none=>rw[hg]at hb;cases hb
  | some b0 =>
    obtain⟨y,hy,_⟩:=h.mr.blk k b0 hg;exact⟨b0,y,rfl,hy⟩
 have hklt:∀x∈ks,x<n:=by
  intro x hx;obtain⟨p,hp,he⟩:=List.mem_iff_getElem.1 hx;obtain⟨b0,y,_,hy⟩:=hksome p x (by rw[List.getElem?_eq_getElem hp,he]);rcases Nat.lt_or_ge x n with h1|h1
  ·exact h1
  ·rw[h.fresh x h1]at hy;cases hy
 have hσ0:∀k k' y,(fun k=>a2v ks k 0) k=some k'->β k=some y->(fun i=>(ks[i]?).bind β) k'=some y:=by
  intro k k' y e hy;obtain⟨p,hp,hk⟩:=a4I e;have:k'=p:=by omega
  subst this;dsimp only;rw[hk];exact hy
 have hM0:MR (fun i=>(ks[i]?).bind β) K (a2t ins) w:=by
  refine⟨fun p b e=>?_,fun p p' b b' y y' x e e' f f' g g'=>?_,fun p b y x e f g=>?_⟩
  ·obtain⟨k,b0,y,hk,hg,hb,hy,hbr⟩:=hin p b e;exact⟨y,by show(ks[p]?).bind β=some y;rw[hk];exact hy,a6I hσ0 hb hbr⟩
  ·obtain⟨k,b0,z,hk,hg,hb,hy,hbr⟩:=hin p b e;obtain⟨k',b0',z',hk',hg',hb',hy',hbr'⟩:=hin p' b' e'
   try dsimp only at f f'
   rw[hk]at f;rw[hk']at f';have hkk:=h.mr.sep k k' b0 b0' y y' x hg hg' f f' g g';subst hkk;exact(List.getElem?_inj (List.getElem?_eq_some_iff.1 hk).1 hnd).1 (hk.trans hk'.symm)
  ·obtain⟨k,b0,z,hk,hg,hb,hy,hbr⟩:=hin p b e
   try dsimp only at f
   rw[hk]at f;exact h.mr.ro k b0 y x hg f g
 have hargs':All2 (WR (fun i=>(ks[i]?).bind β) K) args' vs.toList:=a1k hargs hvs fun c c' u _ hcc hu=>a6H hσ0 hcc hu
 refine b2M hx ?_;refine(hmean args' ins (fun z=>by obtain⟨rs,outs,_,_,h1,_⟩:=hl z;exact⟨rs,outs,h1⟩) _ K w vs h.kok hM0 (fun k hk=>by rw[List.getElem?_eq_none (by omega)];rfl) hargs').mono ?_;rintro e w' ⟨z,rs,outs,v,β',K',hrz,rfl,hR⟩;refine⟨v,rfl,z,?_⟩;obtain⟨rs2,outs2,rs',outs',hrun,hlen,hrs',houts',hout⟩:=hl z;rw[hrz]at hrun;cases hrun;rw[hout];have hlen:ks.length<=outs.length:=by simpa using hlen
 have hown:∀x,Own (fun i=>(ks[i]?).bind β) (a2t ins) x->∃(p k:Nat) (b0:Blk) (y:Hd),ks[p]?=some k /\ get k=some b0 /\ β k=some y /\ y.b=some x:=by
  rintro x ⟨p,b,y,e,f,g⟩;obtain⟨k,b0,z,hk,hg,hb,hy,hbr⟩:=hin p b e
  try dsimp only at f
  rw[hk]at f;exact⟨p,k,b0,y,hk,hg,f,g⟩
 have hold:∀k b y x,get k=some b->β k=some y->y.b=some x->k ∉ ks->¬Own (fun i=>(ks[i]?).bind β) (a2t ins) x:=by
  intro k b y x e f g hk ho';obtain⟨p,k',b0,y',h1,h2,h3,h4⟩:=hown x ho';have:=h.mr.sep k k' b b0 y y' x e h2 f h3 g h4;subst this;exact hk (List.mem_of_getElem? h1)
 have hgn:=h.gnone;have hβ'':∀k,k<n->(fun k=>if n<=k then β' (ks.length+(k-n))else β k) k=β k:=fun k hk=>by dsimp only;rw[if_neg (by omega)]
 have hβn:∀k,n<=k->(fun k=>if n<=k then β' (ks.length+(k-n))else β k) k=β' (ks.length+(k-n)):=fun k hk=>by dsimp only;rw[if_pos hk]
 generalize hβe:(fun k=>if n<=k then β' (ks.length+(k-n))else β k)=β'' at hβ'' hβn;have hble:BLe β β'':=by
  intro k y e;rw[hβ'' k]
  ·exact e
  ·rcases Nat.lt_or_ge k n with h1|h1
   ·exact h1
   ·rw[h.fresh k h1]at e;cases e
 have hσ:∀k k' y,(fun i=>some (a5y ks n i)) k=some k'->β' k=some y->β'' k'=some y:=by
  intro k k' y e hy;cases e;rcases Nat.lt_or_ge k ks.length with h1|h1
  ·have hk:=List.getElem?_eq_getElem h1;rw[a7n hk];obtain⟨b0,z,h2,h3⟩:=hksome k _ hk;have h4:=hR.ble k z (by show(ks[k]?).bind β=some z;rw[hk];exact h3);rw[hy]at h4;cases h4;rw[hβ'' _ (hklt _ (List.mem_of_getElem? hk))];exact h3
  ·rw[b3X h1,hβn _ (by omega)];have:ks.length+(n+(k-ks.length)-n)=k:=by omega
   rw[this];exact hy
 have hcase:∀k b,a4A (c1X ks outs' n) get k=some b->(∃(p:Nat) (b0:Blk),((∃hp:ks[p]?=some k,True)∨(n<=k /\ p=ks.length+(k-n))) /\ a2r outs p=some b0 /\ b3M (fun i=>some (a5y ks n i)) b0=some b /\ β'' k=β' p)∨(k ∉ ks /\ k<n /\ get k=some b):=by
  intro k b e;have hll:ks.length<=outs'.length:=by rw[a2m houts'];exact hlen
  obtain⟨hl1,hl2⟩:=b0C (ks:=ks) (outs:=outs') (n:=n) (k:=k) hll hklt hnd;by_cases hk:k∈ks
  ·obtain⟨p,hp,he⟩:=List.mem_iff_getElem.1 hk;have hpk:ks[p]?=some k:=by rw[List.getElem?_eq_getElem hp,he]
   have h1:=hl1 p hpk;unfold a4A at e;rw[h1]at e;have hpo:p<outs'.length:=by omega
   rw[List.getElem?_eq_getElem hpo]at e;have hgo:a2r outs' p=some b:=by unfold a2r;rw[List.getElem?_eq_getElem hpo];exact e
   obtain⟨b0,h3,h4⟩:=a2h houts' hgo;left;refine⟨p,b0,.inl ⟨hpk,trivial⟩,h3,h4,?_⟩;obtain⟨y,hy,_⟩:=hR.mr.blk p b0 h3;rw[hy];exact hσ p k y (by show some (a5y ks n p)=some k;rw[a7n hpk]) hy
  ·have h1:=hl2 hk;unfold a4A at e;rw[h1]at e;by_cases hkn:n<=k
   ·rw[if_pos hkn]at e;left;cases hq:outs'[ks.length+(k-n)]? with
    |none=>rw[hq]at e;dsimp only at e;rw[hgn k hkn]at e;cases e
    | some x =>
      rw[hq]at e;dsimp only at e;subst e;have hgo:a2r outs' (ks.length+(k-n))=some b:=by unfold a2r;rw[hq];rfl
      obtain⟨b0,h3,h4⟩:=a2h houts' hgo;exact⟨_,b0,.inr ⟨hkn,rfl⟩,h3,h4,hβn k hkn⟩
   ·rw[if_neg hkn]at e;exact .inr ⟨hk,by omega,e⟩
 have hsame:∀(k k' p:Nat),((∃hp:ks[p]?=some k,True)∨(n<=k /\ p=ks.length+(k-n)))->((∃hp:ks[p]?=some k',True)∨(n<=k' /\ p=ks.length+(k'-n)))->k=k':=by
  intro k k' p h1 h2;rcases h1 with⟨h1,_⟩|⟨h1,h3⟩<;>rcases h2 with⟨h2,_⟩|⟨h2,h4⟩
  ·rw[h1]at h2;cases h2;rfl
  ·have:=(List.getElem?_eq_some_iff.1 h1).1;omega
  ·have:=(List.getElem?_eq_some_iff.1 h2).1;omega
  ·omega
 refine⟨β'',K',hble,hR.kle,hR.kok,a9X hσ hrs' hR.out,?_,?_,by dsimp only;omega,?_,?_,(fun b arr e=>by
  rcases hR.knew b arr e with h1|h1|h1
  ·exact .inl h1
  ·obtain⟨p,k,b0,y,_,h2,h3,h4⟩:=hown b h1;exact .inr (.inl ⟨k,b0,y,h2,h3,h4⟩)
  ·exact .inr (.inr h1)),hβ''⟩
 ·refine h.mr.step hble hR.kle ?_;intro k b e;rcases hcase k b e with⟨p,b0,hp,h1,h2,h3⟩|⟨hk,hkn,e1⟩
  ·right;obtain⟨y,hy,hbr⟩:=hR.mr.blk p b0 h1;refine⟨y,by rw[h3];exact hy,a6I hσ h2 hbr,fun x hx=>⟨hR.mr.ro p b0 y x h1 hy hx,fun k' b' y' e' f' g'=>?_⟩⟩;rcases hcase k' b' e' with⟨p',b0',hp',h1',h2',h3'⟩|⟨hk',hkn',e1'⟩
   ·rw[h3']at f';have:=hR.mr.sep p' p b0' b0 y' y x h1' h1 f' hy g' hx;subst this;exact hsame k' k p' hp' hp
   ·rw[hβ'' k' hkn']at f';exfalso;rcases hR.own x ⟨p,b0,y,h1,hy,hx⟩with h5|h5
    ·exact hold k' b' y' x e1' f' g' hk' h5
    ·have:=h.mr.lt ⟨k',b',y',e1',f',g'⟩;omega
  ·refine .inl ⟨e1,fun x y f g=>?_⟩;have hx:=h.mr.lt ⟨k,b,y,e1,f,g⟩;have hno:=hold k b y x e1 f g hk;have hnj:¬Jk K x:=h.mr.nj e1 f g;refine⟨hR.fr.block x hx fun h1=>h1.elim hno hnj,?_⟩;cases hq:K' x with
   |none=>rfl
   | some arr =>
     rcases hR.knew x arr hq with h1|h1|h1
     ·rw[h.mr.ro k b y x e1 f g]at h1;cases h1
     ·exact absurd h1 hno
     ·omega
 ·intro k hk;dsimp only at hk;rw[hβn k (by omega)];exact hR.fresh _ (by omega)
 ·refine⟨hR.fr.os,hR.fr.tape,hR.fr.output,hR.fr.size,fun x hx hn=>hR.fr.block x hx fun h1=>hn (h1.elim (fun h1 => .inl ?_) .inr)⟩;obtain⟨p,k,b0,y,_,h2,h3,h4⟩:=hown x h1;exact⟨k,b0,y,h2,h3,h4⟩
 ·rintro x ⟨k,b,y,e,f,g⟩;rcases hcase k b e with⟨p,b0,hp,h1,h2,h3⟩|⟨hk,hkn,e1⟩
  ·rw[h3]at f;rcases hR.own x ⟨p,b0,y,h1,f,g⟩with h5|h5
   ·obtain⟨_,k',b0',y',_,h2,h3,h4⟩:=hown x h5;exact .inl ⟨k',b0',y',h2,h3,h4⟩
   ·exact .inr h5
  ·rw[hβ'' k hkn]at f;exact .inl ⟨k,b,y,e1,f,g⟩
theorem b2N (h:Pre P Γ β K get n w ρ a) {c:Call} {f:Operand} {g:Nat} {caps:List Nat} {ws:List W} {fam:Fam} {frz:Bool} {out:fam.ι->Out} (ho:o.op = .call c) (hc:c.callee = .value f) (hf:ρ f = .val (.one (.fn g caps)))
 (hw:a6m (c.args.toList.map ρ)=some ws) (hfam:a2V P g fam) (hl:∀z,a6w (fam.mean z) frz get n (ws++caps.map fun k => .one (.ptr k 0))=some (out z)) (hok:∀z,(out z).ok=true):a0A P o a w (fun v w'=>∃z,a1i β K get n w (out z) v w'):=by
 obtain⟨_,hmean⟩:=hfam;obtain⟨vs,hx,hvs⟩:=b2L h ho hc hf hw;generalize (ws++caps.map fun k=>W.one (C.ptr k 0))=args at hl hvs;simp only[a6w]at hl;obtain⟨z0⟩:=fam.inh;obtain⟨args',hargs⟩:∃args',a1S (roW get) args=some args':=by
  cases hq:a1S (roW get) args with
  |none=>have:=hl z0;rw[hq]at this;cases this
  |some x=>exact⟨x,rfl⟩
 have hrun:∀z,∃rs outs,(fam.mean z).run args' []=some (true,rs,outs):=by
  intro z;have h1:=hl z;rw[hargs]at h1;dsimp only at h1;split at h1
  case h_2=>cases h1
  rename_i ok rs outs hr;have hok':ok=true:=by
   have h3:=hok z;split at h1
   ·cases h1
   ·split at h1
    ·split at h1
     ·have h2:=Option.some.inj h1;rw[<- h2]at h3;exact h3
     ·cases h1
    ·split at h1
     ·have h2:=Option.some.inj h1;rw[<- h2]at h3;exact h3
     ·cases h1
  subst hok';exact⟨rs,outs,hr⟩
 refine b2M hx ?_;have hK1:=a4E (β:=β) (get:=get) (ks:=args.flatMap a1b) h.kok;have hargs':All2 (WR (fun _=>none) (a4y β K get w (args.flatMap a1b))) args' vs.toList:=
  a1k hargs hvs fun c c' u hmem hcc hu=>a5U h.mr hcc hu (fun k hk=>List.mem_flatMap.2 ⟨c,hmem,hk⟩) _
 have hM0:MR (fun _=>none) (a4y β K get w (args.flatMap a1b)) (a2t []) w:=⟨fun k b e=>by simp[a2t]at e,fun k k' b b' _ _ _ e=>by simp[a2t]at e,fun k b _ _ e=>by simp[a2t]at e⟩;refine(hmean args' [] hrun (fun _=>none) _ w vs hK1 hM0 (fun _ _=>rfl) hargs').mono ?_;rintro e w' ⟨z,rs,outs,v,β',K',hrz,rfl,hR⟩;refine⟨v,rfl,z,?_⟩;have hl:=hl z;generalize out z=out at hl;rw[hargs]at hl;dsimp only at hl;rw[hrz]at hl;dsimp only at hl;have hempty:∀x,¬Own (fun _=>none) (a2t []) x:=by rintro x ⟨k,b,y,e,_⟩;simp[a2t]at e
 have hheap:∀b,b<w.heap.size->¬Jk K b->w'.heap[b]?=w.heap[b]?:=fun b hb hj=>hR.fr.block b hb fun h1=>h1.elim (hempty b) fun h2=>hj (d0d.1 h2)
 have hownb:∀x,Own β' (a2r outs) x->w.heap.size<=x:=fun x hx=>(hR.own x hx).resolve_left (hempty x)
 have hgn:=h.gnone;have hfr:Fr (e1y β K get) w w':=⟨hR.fr.os,hR.fr.tape,hR.fr.output,hR.fr.size,fun b hb hn=>hheap b hb fun h1=>hn (.inr h1)⟩;have main:∀(K2:Ks),(∀b x,w.heap.size<=b->K2 b=some x->∃cur T fz,w'.heap[b]?=some (.cells cur T fz) /\ (x.1=false->cur=x.2) /\ (x.1=true->fz=(0,0) /\ All2 VJ x.2.toList cur.toList)) ->
  ∃K3:Ks,KLe K K3 /\ KOK K3 w' /\ (∀x,x<w.heap.size->K3 x=K x) /\ (∀x,w.heap.size<=x->K3 x=K2 x):=by
  intro K2 h2;refine⟨fun b=>if w.heap.size<=b then K2 b else K b,?_,?_,fun x hx=>?_,fun x hx=>?_⟩
  ·intro b arr e;have:=h.kok.lt e;dsimp only;rw[if_neg (by omega)];exact e
  ·refine⟨?_,h.kok.gk.mono fun b arr e=>?_⟩
   ·intro b arr e
    try dsimp only at e
    split at e
    ·exact h2 b arr ‹_› e
    ·exact hR.kok.ato b arr (hR.kle b arr (a1j b arr e))
   ·have:=h.kok.lt e
    try dsimp only
    rw[if_neg (by omega)];exact e
  ·dsimp only;rw[if_neg (by omega)]
  ·dsimp only;rw[if_pos hx]
 have noref:(args.all fun w=>w.cells.all fun c=>!b3N c)=true->a4y β K get w (args.flatMap a1b)=K:=by
  intro hn;have hk:args.flatMap a1b=[]:=by
   rw[List.flatMap_eq_nil_iff];intro u hu;have hu2:=List.all_eq_true.1 hn u hu;obtain⟨u',hu',hro⟩:∃u',u'∈args' /\ roW get u=some u':=by
    obtain⟨i,hi,he⟩:=List.mem_iff_getElem.1 hu;obtain⟨u',h1,h2⟩:=(All2.ofMap hargs).get? (List.getElem?_eq_getElem hi);rw[he]at h2;exact⟨u',List.mem_of_getElem? h1,h2⟩
   unfold a1b;rw[List.flatMap_eq_nil_iff];intro cc hcc;have h3:=List.all_eq_true.1 hu2 cc hcc;have h4:∃c',roC get cc=some c':=by
    cases u with
    | one c0 =>
      simp only[W.cells,List.mem_singleton]at hcc;subst hcc;simp only[roW,Option.map_eq_some_iff]at hro;exact⟨hro.choose,hro.choose_spec.1⟩
    | agg cs =>
      simp only[roW,Option.map_eq_some_iff]at hro;obtain⟨cs',h5,_⟩:=hro;obtain⟨i,hi,he⟩:=List.mem_iff_getElem.1 (show cc∈cs from hcc);obtain⟨c',_,h6⟩:=(All2.ofMap h5).get? (List.getElem?_eq_getElem hi);rw[he]at h6;exact⟨c',h6⟩
   obtain⟨c',h4⟩:=h4;cases cc with
   |ref t k=>simp[b3N]at h3
   |ptr k o=>simp[roC]at h4
   |eptr k t i o=>simp[roC]at h4
   |aptr k o m j=>simp[roC]at h4
   |aeptr k t i o m j=>simp[roC]at h4
   |asl t k o m=>simp[b3N]at h3
   | fn f caps=>cases caps with
     |nil=>rfl
     |cons _ _=>simp[roC]at h4
   |_=>rfl
  rw[hk];funext b;unfold a4y;cases hq:K b with
  |some _=>rfl
  | none =>
    dsimp only;rw[if_neg];rintro⟨k,hk,_⟩;simp at hk
 split at hl
 ·cases hl
 ·rename_i hcond;split at hl
  ·
   split at hl
   ·rename_i rs' hrs';cases hl;have hnr:(args.all fun w=>w.cells.all fun c=>!b3N c)=true:=by simpa using hcond
    have hKe:=noref hnr;obtain⟨K3,hle3,hok3,hlo,hhi⟩:=main (a4y β' K' (a2r outs) w' (rs.flatMap a1b)) (fun b arr _ e=>(a4E hR.kok).ato b arr e);have hle:KLe (a4y β' K' (a2r outs) w' (rs.flatMap a1b)) K3:=by
     intro b arr e;by_cases hb:w.heap.size<=b
     ·rw[hhi b hb];exact e
     ·rw[hlo b (by omega)];unfold a4y at e;split at e
      ·rename_i x hx;cases e;rcases hR.knew b _ hx with h1|h1|h1
       ·rw[hKe]at h1;exact h1
       ·exact absurd h1 (hempty b)
       ·omega
      ·split at e
       ·rename_i hex;obtain⟨k,_,c,y,h1,h2,h3⟩:=hex;have:=hownb b ⟨k,c,y,h1,h2,h3⟩;omega
       ·cases e
    refine⟨β,K3,BLe.refl β,hle3,hok3,?_,?_,h.fresh,le_refl _,hfr,fun x hx => .inl hx,(fun b arr e=>by
     by_cases hb:w.heap.size<=b
     ·exact .inr (.inr hb)
     ·rw[hlo b (by omega)]at e;exact .inl e),fun _ _=>rfl⟩
    ·refine a7m hrs' hR.out fun c c' u hm hcc hu=>?_
     exact WR.mono (BLe.refl β) hle (a5U hR.mr hcc hu (fun k hk=>List.mem_flatMap.2 ⟨c,hm,hk⟩) β)
    ·refine h.mr.step (BLe.refl β) hle3 fun k b e => .inl ⟨e,fun x y f g=>?_⟩
     have hx:=h.mr.lt ⟨k,b,y,e,f,g⟩;exact⟨hheap x hx (h.mr.nj e f g),by rw[hlo x hx];exact h.mr.ro k b y x e f g⟩
   ·cases hl
  ·split at hl
   ·rename_i rs' outs' hrs' houts';cases hl;obtain⟨K3,hle3,hok3,hlo,hhi⟩:=main K' (fun b arr _ e=>hR.kok.ato b arr e);have hcase:KLe K' K3∨((∀c∈rs,c.cells.all bare=true) /\ ∀b∈outs,c7k b=true):=by
     simp only[Bool.or_eq_true,and_eq_true]at hcond;rcases hcond with hnr|⟨⟨_,h1⟩,h2⟩
     ·left;have hKe:=noref hnr;intro b arr e;by_cases hb:w.heap.size<=b
      ·rw[hhi b hb];exact e
      ·rw[hlo b (by omega)];rcases hR.knew b arr e with h1|h1|h1
       ·rw[hKe]at h1;exact h1
       ·exact absurd h1 (hempty b)
       ·omega
     ·exact .inr ⟨List.all_eq_true.1 h1,List.all_eq_true.1 h2⟩
    have hout:a8h β' K3 rs v:=b8A hR.out fun c hc u hu=>by
     rcases hcase with hle|⟨h1,_⟩
     ·exact WR.mono (BLe.refl _) hle hu
     ·exact d0o (h1 c hc) hu
    have hblk:∀i b y,a2r outs i=some b->BR β' K' b y w'->BR β' K3 b y w':=by
     intro i b y hi hb;rcases hcase with hle|⟨_,h2⟩
     ·exact hb.mono (BLe.refl _) hle
     ·refine d0p (h2 _ ?_) hb;unfold a2r at hi;cases hq:outs[i]? with
      |none=>rw[hq]at hi;cases hi
      |some x=>rw[hq]at hi;have hx:x=some b:=hi;subst hx;exact List.mem_of_getElem? hq
    have hσ:∀k k' y,(fun i=>some (n+i)) k=some k'->β' k=some y->a3l β n β' k'=some y:=by
     intro k k' y e hy;cases e;unfold a3l;rw[if_pos (by omega),Nat.add_sub_cancel_left];exact hy
    have hble:BLe β (a3l β n β'):=by
     intro k y e;unfold a3l;rw[if_neg]
     ·exact e
     ·intro hk;rw[h.fresh k hk]at e;cases e
    refine⟨a3l β n β',K3,hble,hle3,hok3,a9X hσ hrs' hout,?_,?_,by simp,hfr,?_,(fun b arr e=>by
     by_cases hb:w.heap.size<=b
     ·exact .inr (.inr hb)
     ·rw[hlo b (by omega)]at e;exact .inl e),fun k hk=>by unfold a3l;rw[if_neg (by omega)]⟩
    ·refine h.mr.step hble hle3 ?_;intro k b e;rcases a4j e hgn with⟨hk,e1⟩|⟨hk,e1⟩
     ·right;obtain⟨b0,e2,e3⟩:=a2h houts' e1;obtain⟨y,hy,hbr⟩:=hR.mr.blk _ _ e2;refine⟨y,by unfold a3l;rw[if_pos hk];exact hy,a6I hσ e3 (hblk _ _ _ e2 hbr),fun x hx=>?_⟩;have hxs:=hownb x ⟨_,b0,y,e2,hy,hx⟩;refine⟨by rw[hhi x hxs];exact hR.mr.ro _ _ _ _ e2 hy hx,fun k' b' y' e' f' g'=>?_⟩;rcases a4j e' hgn with⟨hk',e1'⟩|⟨hk',e1'⟩
      ·obtain⟨b0',e2',_⟩:=a2h houts' e1';unfold a3l at f';rw[if_pos hk']at f';have:=hR.mr.sep _ _ _ _ _ _ x e2' e2 f' hy g' hx;omega
      ·unfold a3l at f';rw[if_neg (by omega)]at f';have:=h.mr.lt ⟨k',b',y',e1',f',g'⟩;omega
     ·refine .inl ⟨e1,fun x y f g=>?_⟩;have hx:=h.mr.lt ⟨k,b,y,e1,f,g⟩;exact⟨hheap x hx (h.mr.nj e1 f g),by rw[hlo x hx];exact h.mr.ro k b y x e1 f g⟩
    ·intro k hk;dsimp only at hk;unfold a3l;rw[if_pos (by omega)];exact hR.fresh _ (by omega)
    ·rintro x ⟨k,b,y,e,f,g⟩;rcases a4j e hgn with⟨hk,e1⟩|⟨hk,e1⟩
     ·right;obtain⟨b0,e2,e3⟩:=a2h houts' e1;unfold a3l at f;rw[if_pos hk]at f;exact hownb x ⟨_,b0,y,e2,f,g⟩
     ·left;unfold a3l at f;rw[if_neg (by omega)]at f;exact⟨k,b,y,e1,f,g⟩
   ·cases hl
end
def d0K {ι R:Type} (F:(ι->Option R)->Option R):Prop:=(∀f r,F f=some r->∀z,f z=some r) /\ (Nonempty ι->∀f r,(∀z,f z=some r)->F f=some r)
instance {ι R:Type}:Nonempty { F:(ι->Option R)->Option R // d0K F }:=by
 classical
 refine⟨⟨fun f=>if h:∃r,∀z,f z=some r then some h.choose else none,fun f r h=>?_,fun⟨z⟩ f r h=>?_⟩⟩
 ·dsimp only at h
  split at h
  ·rename_i hx
   cases h
   exact hx.choose_spec
  ·cases h
 ·have hx:∃r,∀z,f z=some r:=⟨r,h⟩
  dsimp only
  rw[dif_pos hx]
  exact(hx.choose_spec z).symm.trans (h z)
@[irreducible] noncomputable def f7p (ι R:Type):{ F:(ι->Option R)->Option R // d0K F }:=Classical.choice inferInstance
noncomputable def a3z {ι R:Type} (f:ι->Option R):Option R:=(f7p ι R).1 f
theorem a5F {ι R:Type} {f:ι->Option R} {r:R} (h:a3z f=some r):∀z,f z=some r:=(f7p ι R).2.1 f r h
theorem a0B {ι R:Type} [inh:Nonempty ι] {f:ι->Option R} {r:R} (h:∀z,f z=some r):a3z f=some r:=(f7p ι R).2.2 inh f r h
def Env.withSem (Γ:Env) (f:Nat) (sm:b2y):Env:={ Γ with sem:=fun g=>match beq f g with|true=>some sm|false=>Γ.sem g }
def b0U:Type:={ z:Nat // z<4294967296 }
inductive Alt where
 |no
 |call (f:Nat) (fam:Fam)
 |narrow (b:Nat)
 |isNil (e:Bool)
def b0V (si:Option TI) (di:Option TI) (v:V):Alt:=match si,di,v with
 | some _,some di,.val (.one (.flt s b))=>match s with
   | .f64=>match di.sort with
     | .float d=>match d with
       |.f32 => .narrow b
       |_ => .no
     |_ => .no
   |_ => .no
 |_,_,_ => .no
def e1G:Operand->Bool
 | .const v=>match v with
   | .slice a _ _=>match a with
     |none=>true
     |_=>false
   |_=>false
 |_=>false
def e9J:BinOp->Bool
 |.eql=>true
 |_=>false
def b8W (op:BinOp) (si:Option TI) (v:V) (y:Operand):Alt:=match e9J op&&e1G y,si,v with
 | true,some si,.val (.one (.sl _ l))=>match si.sort with
   |.slice => .isNil l.isEmpty
   |_ => .no
 |_,_,_ => .no
theorem b0W (op:BinOp) (si:Option TI) (v:V) (y:Operand):b8W op si v y = .no∨∃e,b8W op si v y = .isNil e:=by
 unfold b8W;split
 ·split
  ·exact .inr ⟨_,rfl⟩
  ·exact .inl rfl
 ·exact .inl rfl
def b2l (Γ:Env) (N:Nat->Option Fam) (o:Oper) (ρ:Operand->V):Alt:=match o.guard with
 |some _ => .no
 | none=>match o.op with
   | .call c=>match c.callee with
     | .value x=>match x with
       | .func f=>match N f with
         |some fam => .call f fam
         |none => .no
       |_ => .no
     |_ => .no
   |.convert src dst x=>b0V (Γ.tab src) (Γ.tab dst) (ρ x)
   |.binOp op t x y _=>b8W op (Γ.tab t) (ρ x) y
   |_ => .no
noncomputable def d6q {R:Type} (Γ:Env) (N:Nat->Option Fam) (ops:Array Oper):List Oper->(St->Option R)->St->Option R
 |[],K,s=>K s
 | o :: rest,K,s=>match b2l Γ N o s.val with
   |.no=>b2z Γ ops [o] s [] (fun s' _=>d6q Γ N ops rest K s')
   |.call f fam=>a3z fun z:fam.ι=>c9r (Γ.withSem f (fam.mean z)) o (fun s' _=>d6q Γ N ops rest K s') s
   | .narrow b=>match a2k b with
     |true=>b2z Γ ops [o] s [] (fun s' _=>d6q Γ N ops rest K s')
     | false=>match a8l Γ o.dst with
       |true=>a3z fun z:b0U=>d6q Γ N ops rest K (s.putO o.dst (.val (.one (.flt .f32 z.1))))
       |false=>none
   | .isNil e=>match a8l Γ o.dst with
     |true=>a3z fun z:Bool=>d6q Γ N ops rest K (s.putO o.dst (.val (.one (.bool (e&&z)))))
     |false=>none
theorem c7I (P:Program) {b b':Nat} (h:FEq .f64 b b') (hb:a2k b=false) (w:World) :
 ∃(r:Nat) (w':World),r<4294967296 /\ (Conv.floatToFloat .f64 b' .f32).run P w = .ok (.float .f32 r) w' /\ a0E w w':=by
 unfold a2k at hb;rw[Bool.not_eq_false']at hb;split at hb
 ·rename_i s m e hdec;have he:b=b':=by
   rcases h with h|⟨h1,_⟩
   ·exact h
   ·obtain⟨sg,f,hr⟩:=a2c h1;unfold FloatKind.decode at hdec;rw[hr]at hdec;cases hdec
  subst he;unfold Conv.floatToFloat;rw[if_neg (by decide),hdec];dsimp only;rw[if_pos hb];refine⟨_,_,?_,by simp only[Sem.run_bind,run_choose,Question.forced,Sem.run_pure];rfl,a4C w⟩;exact Nat.mod_lt _ (by decide)
 ·cases hb
section
variable {P:Program} {Γ:Env} {z:a6n} {ops:Array Oper} {N:Nat->Option Fam}
theorem d0L {β:Bt} {K:Ks} {get:Get} {n:Nat} {w:World} {ρ:Operand->V} {a:Act} {o:Oper} (h:Pre P Γ β K get n w ρ a) {b:Nat} (ha:b2l Γ N o ρ = .narrow b) (hb:a2k b=false) :
 a0A P o a w (fun v w'=>∃z:b0U,a1i β K get n w ⟨true,.val (.one (.flt .f32 z.1)),[],n⟩ v w'):=by
 unfold b2l at ha;split at ha
 ·cases ha
 split at ha
 ·split at ha
  ·split at ha
   ·split at ha<;>cases ha
   ·cases ha
  ·cases ha
 ·rename_i src dst x ho;unfold b0V at ha;split at ha
  case h_2=>cases ha
  rename_i si di s b1 hs hd hx;split at ha
  case h_2=>cases ha
  split at ha
  case h_2=>cases ha
  rename_i d hk;split at ha
  case h_2=>cases ha
  cases ha;obtain⟨_,d1,_,_,hd1,_⟩:=(h.env.tab src si hs).ex;obtain⟨_,d2,_,_,hd2,_,_,_,_,_,hso,_⟩:=(h.env.tab dst di hd).ex;have hv:=h.one hx;obtain⟨b',he,hf⟩:=hv;simp only[a2e,hk]at hso;subst hso;have exec:∀v w',(convert src dst (a.eval x)).run P w = .ok v w'->(execOp a.eval o).run P w = .ok (.value v) w':=fun v w' hr=>
   a1I (s:=convert src dst (a.eval x)) (by simp[execOp,ho]) hr
  rw[he]at exec;obtain⟨r,w',h1,h2,h3⟩:=c7I P hf hb w;have hp:a0J n true (.one (.flt .f32 r))=some ⟨true,.val (.one (.flt .f32 r)),[],n⟩:=rfl;intro next Q hn;refine(h.pure1 hp (u := .float .f32 r) ⟨_,rfl,.inl rfl⟩ (exec _ w' ?_) h3) next Q fun v w2 hpost=>hn v w2 ⟨⟨r,h1⟩,hpost⟩
  simp[convert,run_underlying hd1,run_underlying hd2,h2]
 ·rcases b0W _ _ _ _ with e|⟨_,e⟩<;>rw[e]at ha<;>cases ha
 ·cases ha
theorem d0M (P:Program) (w:World) {t:TypeId} {el:TypeId} (hd:P.underlying t=some (.slice el)) (a:Option Addr) (n c:Nat) (n' c':Nat) :
 (binOp .eql t (.slice a n c) (.slice none n' c')).run P w = .ok (.bool a.isNone) w:=by
 have h:(Op.equal t (.slice a n c) (.slice none n' c')).run P w = .ok a.isNone w:=by
  unfold Op.equal Op.maxDepth Op.equalIn;cases a with
  |none=>simp[run_underlying hd]
  |some x=>simp[run_underlying hd]
 simp[binOp,h]
theorem d7M {β:Bt} {K:Ks} {get:Get} {n:Nat} {w:World} {ρ:Operand->V} {a:Act} {o:Oper} (h:Pre P Γ β K get n w ρ a) (hval:∀v,a.eval (.const v)=v) {e:Bool} (ha:b2l Γ N o ρ = .isNil e) :
 a0A P o a w (fun v w'=>∃z:Bool,a1i β K get n w ⟨true,.val (.one (.bool (e&&z))),[],n⟩ v w'):=by
 unfold b2l at ha;split at ha
 ·cases ha
 split at ha
 ·split at ha
  ·split at ha
   ·split at ha<;>cases ha
   ·cases ha
  ·cases ha
 ·unfold b0V at ha;split at ha
  case h_2=>cases ha
  split at ha
  case h_2=>cases ha
  split at ha
  case h_2=>cases ha
  split at ha<;>cases ha
 ·rename_i op t x y t' ho;unfold b8W at ha;split at ha
  case h_2=>cases ha
  rename_i si ty l hop hs hx;split at ha
  case h_2=>cases ha
  rename_i hk;cases ha;simp only[and_eq_true]at hop;obtain⟨_,d,_,_,hd,_,_,_,_,_,hso,_⟩:=(h.env.tab t si hs).ex;simp only[a2e,hk]at hso;subst hso;have hop1:op = .eql:=by
   have:=hop.1;cases op<;>simp_all[e9J]
  subst hop1;obtain⟨m,c,rfl⟩:∃m c,y = .const (.slice none m c):=by
   have:=hop.2;unfold e1G at this;split at this
   ·split at this
    ·split at this
     ·exact⟨_,_,rfl⟩
     ·cases this
    ·cases this
   ·cases this
  obtain⟨ad,m',c',he,hm,hc,hr⟩:=h.one hx;have he:a.eval x = .slice ad m' c':=by simpa using he
  have exec:∀v w',(binOp .eql t (a.eval x) (.slice none m c)).run P w = .ok v w'->(execOp a.eval o).run P w = .ok (.value v) w':=by
   intro v w' hr;refine a1I (s:=do eqGuard .eql t x (.const (.slice none m c)) (a.eval x) (a.eval (.const (.slice none m c)));binOp .eql t (a.eval x) (a.eval (.const (.slice none m c)))) (by simp[execOp,ho]) ?_;rw[hval,Sem.run_bind,a6G .eql t x _ (by rw[he];rfl) (by rw[he];exact fun e=>by cases e),Result.andThen_ok,hr]
  rw[he]at exec;have hz:(l.isEmpty&&ad.isNone)=ad.isNone:=by
   rcases hr with h0|⟨b,o',arr,e1,_,_⟩
   ·have:l=[]:=by
     cases l with
     |nil=>rfl
     |cons _ _=>rw[h0]at hm;simp at hm
    rw[this];simp
   ·rw[e1];simp
  have hp:a0J n true (.one (.bool (l.isEmpty&&ad.isNone)))=some ⟨true,.val (.one (.bool (l.isEmpty&&ad.isNone))),[],n⟩:=rfl;intro next Q hn;refine(h.pure1 hp (u := .bool ad.isNone) (by rw[hz];rfl) (exec _ w (d0M P w hd ad m' c' m c)) (a0E.refl w)) next Q fun v w2 hpost=>hn v w2 ⟨ad.isNone,hpost⟩
 ·cases ha
theorem b8X {Γ:Env} {o:Oper} {c:Call} {f:Nat} {T:Nat->V} {G:Get} {n:Nat} (ho:o.op = .call c) (hc:c.callee = .value (.func f)) :
 act Γ o (a5u T) G n=match a6m (c.args.toList.map (a5u T))with
  |some ws=>b8m Γ o G n f (ws++([]:List Nat).map fun k => .one (.ptr k 0))
  |none=>none:=by
 unfold act;simp only[ho,hc,a5u];cases a6m (c.args.toList.map (a5u T))<;>rfl
theorem d7N {β:Bt} {K:Ks} {w:World} {F:FS} {a:Act} {o:Oper} (h:Pre P Γ β K F.G F.n w (a5u F.T) a) {f:Nat} {fam:Fam} (hfam:a2V P f fam) (ha:b2l Γ N o (a5u F.T) = .call f fam)
 {out:fam.ι->Out} (hl:∀z,act (Γ.withSem f (fam.mean z)) o (a5u F.T) F.G F.n=some (out z)) (hok:∀z,(out z).ok=true) :
 a0A P o a w (fun v w'=>∃z,a1i β K F.G F.n w (out z) v w'):=by
 unfold b2l at ha;split at ha
 ·cases ha
 split at ha
 ·rename_i c ho;split at ha
  case h_2=>cases ha
  rename_i x hc;split at ha
  case h_2=>cases ha
  rename_i g;split at ha
  case h_2=>cases ha
  cases ha;have hsem:∀z,(Γ.withSem f (fam.mean z)).sem f=some (fam.mean z):=fun z=>by simp[Env.withSem]
  cases hw:a6m (c.args.toList.map (a5u F.T))with
  | none =>
    obtain⟨z0⟩:=fam.inh;have:=hl z0;rw[b8X ho hc,hw]at this;cases this
  | some ws =>
    have hl':∀z,(match (fam.mean z).own with|true=>a3V (fam.mean z) F.G F.n (ws++([]:List Nat).map fun k => .one (.ptr k 0))|false=>a6w (fam.mean z) (match o.dst with|some d=>b8j Γ.frz d|none=>false) F.G F.n (ws++([]:List Nat).map fun k => .one (.ptr k 0)))=some (out z):=by
     intro z;have:=hl z;rw[b8X ho hc,hw]at this;dsimp only at this;unfold b8m at this;rw[hsem z]at this;exact this
    have hf:a5u F.T (.func f) = .val (.one (.fn f [])):=rfl;cases hown:fam.own with
    |true=>exact b0T h ho hc hf hw hfam (fun z=>by have:=hl' z;rw[hfam.own z,hown]at this;exact this) hok
    |false=>exact b2N h ho hc hf hw hfam (fun z=>by have:=hl' z;rw[hfam.own z,hown]at this;exact this) hok
 ·unfold b0V at ha;split at ha
  case h_2=>cases ha
  split at ha
  case h_2=>cases ha
  split at ha
  case h_2=>cases ha
  split at ha<;>cases ha
 ·rcases b0W _ _ _ _ with e|⟨_,e⟩<;>rw[e]at ha<;>cases ha
 ·cases ha
theorem b0X {o:Oper} {ρ:Operand->V} (h:b2l Γ N o ρ ≠ .no):o.guard=none:=by
 unfold b2l at h;split at h
 ·exact absurd rfl h
 ·assumption
theorem d0N {R:Type} (env:a1F P Γ) (hN:∀f fam,N f=some fam->a2V P f fam) {Q:Exit->Act->World->Prop} {r:R} {K:St->Option R} (hQ:∀s' a w,SR P Γ z s' a w->K s'=some r->Q .normal a w) :
 ∀(L:List Oper) (i:Nat),ops.toList.drop i=L->i+L.length=ops.size->∀s,d6q Γ N ops L K s=some r->∀a w,SR P Γ z s a w->wpOps P ops Q (List.range' i L.length) a w
 |[],i,_,_,s,h,a,w,hs=>hQ s a w hs h
 | o :: rest,i,hd,hi,s,h,a,w,hs=>by
   rw[List.length_cons,List.range'_succ,wpOps_cons];simp only[List.length_cons]at hi;have ho:ops[i]?=some o:=by
    have:(ops.toList.drop i)[0]?=some o:=by rw[hd];rfl
    rw[List.getElem?_drop,Nat.add_zero,Array.getElem?_toList]at this;exact this
   have hrest:ops.toList.drop (i+1)=rest:=by rw[<- List.drop_drop,hd];rfl
   have ih:=d0N env hN hQ rest (i+1) hrest (by omega);obtain⟨hm,β,Ks,hf⟩:=hs;have det:b2z Γ ops [o] s [] (fun s' _=>d6q Γ N ops rest K s')=some r->wpOp P ops Q i (wpOps P ops Q (List.range' (i+1) rest.length)) a w:=by
    intro h;obtain⟨s',E,X,hstep,hm',h2⟩:=b8H h;have h2:d6q Γ N ops rest K s'=some r:=h2;have hw:=a8r (β:=β) (K:=Ks) (a:=a) (T:=s.fs.T) hstep fun _ _ t _ _=>hf.tmp t
    unfold wpOp;rw[ho];dsimp only;rw[hw];cases hr:X.run with
    | true =>
      rw[if_pos rfl];left;obtain⟨_,out,h1,h2',h3,h4,h5,_⟩:=hstep.exec hr;refine d0r (ρ:=a5u s.fs.T) (get:=s.fs.G) (n:=s.fs.n) ⟨env,hf.kok,hf.mr,hf.fresh,fun x=>b0I hf.tmp x⟩ h1 h2' _ _ fun v w' hp=>?_
      obtain⟨β',K',hp⟩:=hp;exact ih s' h2 _ _ ⟨hm'.trans hm,β',K',hf.next (x:=out.v) hstep.dst hp (by rw[hstep.T,h3]) (by rw[hstep.G,h4]) h5⟩
    | false =>
      rw[if_neg (by simp)];obtain⟨_,h1,h2',h3,_⟩:=hstep.skip hr;exact ih s' h2 _ _ ⟨hm'.trans hm,β,Ks,hf.skip hstep.dst (by rw[hstep.T,h1]) (by rw[hstep.G,h2'];rfl) h3⟩
   have hpre:Pre P Γ β Ks s.fs.G s.fs.n w (a5u s.fs.T) a:=⟨env,hf.kok,hf.mr,hf.fresh,fun x=>b0I hf.tmp x⟩;unfold d6q at h;rw[c4v]at h;have wanted:o.guard=none->Region.wanted o (yielded ops a.tmps)=true:=fun hg=>by simp[Region.wanted,hg]
   split at h
   ·exact det h
   ·rename_i f fam halt;have hg:=b0X (o:=o) (by rw[halt];exact fun e=>by cases e);have hfam:N f=some fam:=by
     unfold b2l at halt;rw[hg]at halt;dsimp only at halt;split at halt
     ·split at halt
      ·split at halt
       ·split at halt
        ·cases halt;assumption
        ·cases halt
       ·cases halt
      ·cases halt
     ·unfold b0V at halt;split at halt
      case h_2=>cases halt
      split at halt
      case h_2=>cases halt
      split at halt
      case h_2=>cases halt
      split at halt<;>cases halt
     ·rcases b0W _ _ _ _ with e|⟨_,e⟩<;>rw[e]at halt<;>cases halt
     ·cases halt
    have hall:=a5F h;have hspec:=fun z=>a7r (hall z)
    obtain⟨out,hout⟩:=Classical.axiomOfChoice hspec;unfold wpOp;rw[ho];dsimp only;rw[wanted hg,if_pos rfl];left;refine d7N (F:=s.fs) hpre (hN f fam hfam) halt (out:=out) (fun z=>(hout z).1) (fun z=>(hout z).2.1) _ _ fun v w' hp=>?_
    obtain⟨zz,β',K',hp⟩:=hp;obtain⟨_,_,h3,h4⟩:=hout zz;refine ih _ h4 _ _ ⟨(by rw[(a1M _ _ _).2.2];exact hm),β',K',hf.next (x:=(out zz).v) h3 hp ?_ ?_ ?_⟩
    ·rw[b8E];rfl
    ·rw[(a1M _ _ _).1,d0u]
    ·rw[(a1M _ _ _).2.1];rfl
   ·rename_i b halt;have hg:=b0X (o:=o) (by rw[halt];exact fun e=>by cases e);split at h
    ·exact det h
    ·rename_i hnb;split at h
     ·rename_i hdst;have hall:=a5F h;unfold wpOp;rw[ho];dsimp only;rw[wanted hg,if_pos rfl];left;refine d0L hpre halt hnb _ _ fun v w' hp=>?_
      obtain⟨zz,β',K',hp⟩:=hp;refine ih _ (hall zz) _ _ ⟨(by rw[(a1M _ _ _).2.2];exact hm),β',K',hf.next (x := .val (.one (.flt .f32 zz.1))) hdst hp ?_ ?_ ?_⟩
      ·rw[b8E]
      ·rw[(a1M _ _ _).1];rfl
      ·rw[(a1M _ _ _).2.1]
     ·cases h
   ·rename_i e halt;have hg:=b0X (o:=o) (by rw[halt];exact fun e=>by cases e);split at h
    ·rename_i hdst;have hall:=a5F h;unfold wpOp;rw[ho];dsimp only;rw[wanted hg,if_pos rfl];left;refine d7M hpre (fun v=>rfl) halt _ _ fun v w' hp=>?_
     obtain⟨zz,β',K',hp⟩:=hp;refine ih _ (hall zz) _ _ ⟨(by rw[(a1M _ _ _).2.2];exact hm),β',K',hf.next (x := .val (.one (.bool (e&&zz)))) hdst hp ?_ ?_ ?_⟩
     ·rw[b8E]
     ·rw[(a1M _ _ _).1];rfl
     ·rw[(a1M _ _ _).2.1]
    ·cases h
end
def b0Y (o:Oper):Bool:=(match o.guard with
 |none=>true
 |some _=>false)&&(match o.op with
 |.move _=>true
 |.assign _=>true
 |.load _ _=>true
 |.fieldAddr _ _ _=>true
 |.indexAddr _ _ _=>true
 |_=>false)
def a6N (f:Nat) (o:Oper):Bool:=match o.op with
 | .call c=>match c.callee with
   | .value x=>match x with
     |.func g=>!beq g f
     |_=>false
   |.builtin _=>true
   |_=>false
 |_=>true
def d7O (f p:Nat):Nat->List Nat->List Oper->Bool
 | i,a::as1,o::r=>(match beq i p with
   |true=>true
   |false=>a6N f o&&(Nat.blt i p||Nat.testBit a p||b0Y o))&&d7O f p (i+1) as1 r
 |_,[],[]=>true
 |_,_,_=>false
def b4p (N:Nat->Option Fam) (o:Oper):Option (Nat×Fam):=match o.guard with
 |some _=>none
 | none=>match o.op with
   | .call c=>match c.callee with
     | .value x=>match x with
       | .func f=>match N f with
         |some fam=>some (f,fam)
         |none=>none
       |_=>none
     |_=>none
   |_=>none
def a7D (N:Nat->Option Fam):Nat->List Oper->Option (Nat×Nat×Fam)
 |_,[]=>none
 | i,o::r=>match b4p N o with
   |some (f,fam)=>some (i,f,fam)
   |none=>a7D N (i+1) r
noncomputable def f7q {R:Type} (Γ:Env) (N:Nat->Option Fam) (id:Nat) (ops:Array Oper) (K:Ex->St->Option R) (s:St):Option R:=
 match a7D N 0 ops.toList with
 |none=>EBk Γ (.region id ops true) K s
 | some (p,f,fam)=>match d7O f p 0 (c9R ops.toList []) ops.toList with
   |true=>a3z fun z:fam.ι=>EBk (Γ.withSem f (fam.mean z)) (.region id ops true) K s
   |false=>none
theorem b8Y {N:Nat->Option Fam} {o:Oper} {f:Nat} {fam:Fam} (h:b4p N o=some (f,fam)):o.guard=none /\ N f=some fam /\ ∃c,o.op = .call c /\ c.callee = .value (.func f):=by
 unfold b4p at h;split at h
 ·cases h
 rename_i hg;split at h
 ·rename_i c ho;split at h
  ·rename_i x hc;split at h
   ·split at h
    ·rename_i hN;cases h;exact⟨hg,hN,c,ho,hc⟩
    ·cases h
   ·cases h
  ·cases h
 ·cases h
theorem a7E {N:Nat->Option Fam}:∀{L:List Oper} {i p f:Nat} {fam:Fam},a7D N i L=some (p,f,fam)->i<=p /\ ∃o,L[p-i]?=some o /\ b4p N o=some (f,fam)
 |[],_,_,_,_,h=>by simp[a7D]at h
 | o::r,i,p,f,fam,h=>by
   simp only[a7D]at h;split at h
   ·rename_i hc;cases h;exact⟨le_refl _,o,by simp,hc⟩
   ·obtain⟨h1,o',h2,h3⟩:=a7E h;refine⟨by omega,o',?_,h3⟩;rw[show p-i=(p-(i+1))+1 by omega];exact h2
theorem a8t {f p:Nat}:∀{L:List Oper} {as1:List Nat} {i:Nat},d7O f p i as1 L=true->∀j o a,L[j]?=some o->as1[j]?=some a->i+j≠p->a6N f o=true /\ (i+j<p∨a.testBit p=true∨b0Y o=true)
 |[],_,_,_,j,o,a,ho,_,_=>by simp at ho
 |o0::r,[],_,h,_,_,_,_,ha,_=>by simp at ha
 | o0::r,a0::as1,i,h,j,o,a,ho,ha,hj=>by
   simp only[d7O,and_eq_true]at h;cases j with
   | zero =>
     simp only[List.getElem?_cons_zero,injEq]at ho ha;subst ho ha;have h1:=h.1;rw[a1T (by omega)]at h1;simp only[and_eq_true,Bool.or_eq_true,Nat.blt_eq]at h1;refine⟨h1.1,?_⟩;rcases h1.2 with(h2|h2)|h2
     ·exact .inl (by omega)
     ·exact .inr (.inl h2)
     ·exact .inr (.inr h2)
   | succ j =>
     have:=a8t h.2 j o a (by simpa using ho) (by simpa using ha) (by omega);rw[show i+(j+1)=i+1+j by omega];exact this
theorem a6O {Γ:Env} {f:Nat} {sm:b2y} {o:Oper} (hf:a6N f o=true) (T:Nat->V) (G:Get) (n:Nat):act (Γ.withSem f sm) o (a5u T) G n=act Γ o (a5u T) G n:=by
 obtain⟨dst,op,type,pos,after,guard⟩:=o;cases op with
 | call c =>
   obtain⟨callee,args,ats⟩:=c;cases callee with
   | value x =>
     cases x with
     | func g =>
       have hne:beq f g=false:=by
        simp only[a6N,Bool.not_eq_true']at hf;refine a1T fun e=>?_
        subst e;rw[show beq f f=true from Nat.beq_refl f]at hf;cases hf
       simp only[act,a5u];split
       ·rename_i g' caps ws hg hw;simp only[V.val.injEq,W.one.injEq,C.fn.injEq]at hg;obtain⟨rfl,rfl⟩:=hg;unfold b8m;simp only[Env.withSem,hne]
       ·rfl
     |_=>simp[a6N]at hf
   |builtin b=>rfl
   |_=>simp[a6N]at hf
 |_=>rfl
theorem c2C {o:Oper} (hc:b0Y o=true) {ρ ρ':Operand->V} {G G':Get} (h:∀x∈o.op.operands,ρ x=ρ' x):a9U o ρ G=a9U o ρ' G':=by
 obtain⟨dst,op,type,pos,after,guard⟩:=o;cases op<;>simp[b0Y]at hc<;>simp only[Op.operands]at h<;>simp only[a9U]
 ·rw[h _ (by simp)]
 ·rw[h _ (by simp)]
theorem c7J (G:Get) (n:Nat) (ag:Bool) (size:Nat) (v:V):a1u G n ag size v=(a1u G 0 ag size v).map fun x=>{ x with n:=n }:=by
 unfold a1u
 repeat' (first|rfl|split)
theorem d7P {G:Get} {ag:Bool} {size:Nat} {v:V} {out:Out} (h:a1u G 0 ag size v=some out):out.upd=[]:=by
 unfold a1u at h
 repeat' (first|(cases h;done)|(simp only[a0J,injEq]at h;subst h;rfl)|split at h)
theorem d0O (n size m:Nat) (x i:V):a2Q n size m x i=(a2Q 0 size m x i).map fun x=>{ x with n:=n }:=by
 unfold a2Q
 repeat' (first|rfl|split)
theorem e5a {size m:Nat} {x i:V} {out:Out} (h:a2Q 0 size m x i=some out):out.upd=[]:=by
 unfold a2Q at h
 repeat' (first|(cases h;done)|(simp only[a0J,injEq]at h;subst h;rfl)|split at h)
theorem b8Z {Γ:Env} {o:Oper} (hc:b0Y o=true) (ρ:Operand->V) (G:Get) (n:Nat):act Γ o ρ G n=(act Γ o ρ G 0).map fun x=>{ x with n:=n }:=by
 obtain⟨dst,op,type,pos,after,guard⟩:=o;cases op<;>simp[b0Y]at hc<;>simp only[act]
 ·rfl
 ·rfl
 ·split
  ·exact c7J _ _ _ _ _
  ·rfl
 ·repeat' (first|rfl|split)
 ·split
  ·split
   ·split
    ·repeat' (first|rfl|split)
    ·rfl
   ·split
    ·exact d0O _ _ _ _ _
    ·rfl
   ·rfl
  ·rfl
theorem e5b {Γ:Env} {o:Oper} (hc:b0Y o=true) {ρ:Operand->V} {G:Get} {out:Out} (h:act Γ o ρ G 0=some out):out.upd=[]:=by
 obtain⟨dst,op,type,pos,after,guard⟩:=o;cases op<;>simp[b0Y]at hc<;>simp only[act]at h
 ·cases h;rfl
 ·cases h;rfl
 ·split at h
  ·exact d7P h
  ·cases h
 ·repeat' (first|(cases h;done)|(simp only[a0J,injEq]at h;subst h;rfl)|split at h)
 ·split at h
  ·split at h
   ·split at h
    ·repeat' (first|(cases h;done)|(simp only[a0J,injEq]at h;subst h;rfl)|split at h)
    ·cases h
   ·split at h
    ·exact e5a h
    ·cases h
   ·cases h
  ·cases h
theorem d7Q {Γ:Env} {o:Oper} (hc:b0Y o=true) {ρ:Operand->V} {G:Get} {n:Nat} {out:Out} (h:act Γ o ρ G n=some out):out.upd=[] /\ out.n=n /\ ∀n',act Γ o ρ G n'=some { out with n:=n' }:=by
 rw[b8Z hc]at h;cases h0:act Γ o ρ G 0 with
 |none=>rw[h0]at h;cases h
 | some x =>
   rw[h0]at h;cases h;exact⟨show x.upd=[]from e5b hc h0,rfl,fun n'=>by rw[b8Z hc,h0];rfl⟩
section
variable {P:Program} {Γ:Env} {z:a6n} {ops:Array Oper} {Q:Exit->Act->World->Prop}
theorem d7R (b:Bool):a2I b≠a2I (!b):=by cases b<;>intro h<;>cases h
theorem d0P (b:Bool):a2I b ≠ .tup []:=by intro h;cases h
theorem d0Q {Γ1 Γ2:Env} {o:Oper} {F F' F1 F2:FS} {E E':Ent} {X X':Res} (h1:a4k Γ1 ops o F E X F1) (h2:a4k Γ2 ops o F' E' X' F2) (hT:∀g want t,o.guard=some (g,want)->b2c ops g=some t->F.T t=F'.T t):X.run=X'.run:=by
 have key:∀{Γ1 Γ2:Env} {F F' F1 F2:FS} {E E':Ent} {X X':Res},a4k Γ1 ops o F E X F1->a4k Γ2 ops o F' E' X' F2->(∀g want t,o.guard=some (g,want)->b2c ops g=some t->F.T t=F'.T t)->X.run=false->X'.run=true->False:=by
  intro Γ1 Γ2 F F' F1 F2 E E' X X' h1 h2 hT e1 e2;obtain⟨⟨g,want,t,a1,a2,a3⟩,_⟩:=h1.skip e1;obtain⟨h,_⟩:=h2.exec e2;rcases h with h|⟨g',want',t',b1,b2,b3⟩
  ·rw[h]at a1;cases a1
  ·have:=hT g want t a1 a2;rw[a1]at b1;cases b1;rw[a2]at b2;cases b2;rw[this,b3]at a3;rcases a3 with a3|a3
   ·exact d7R _ a3
   ·exact d0P _ a3
 cases e1:X.run<;>cases e2:X'.run
 ·rfl
 ·exact(key h1 h2 hT e1 e2).elim
 ·exact(key h2 h1 (fun g w t a b=>(hT g w t a b).symm) e2 e1).elim
 ·rfl
theorem a4k.det {Γ1 Γ2:Env} {o:Oper} {F F1 F2:FS} {E E':Ent} {X X':Res} (h1:a4k Γ1 ops o F E X F1) (h2:a4k Γ2 ops o F E' X' F2) (heq:∀T G n,act Γ1 o (a5u T) G n=act Γ2 o (a5u T) G n):X=X' /\ F1=F2:=by
 have hrun:=d0Q h1 h2 fun _ _ _ _ _=>rfl
 have hX:X=X' /\ F1.n=F2.n:=by
  cases e1:X.run with
  | true =>
    obtain⟨_,out,p1,_,p3,p4,p5,_⟩:=h1.exec e1;obtain⟨_,out',q1,_,q3,q4,q5,_⟩:=h2.exec (hrun ▸ e1);rw[heq,q1]at p1;cases p1;refine⟨?_,by rw[p5,q5]⟩;obtain⟨v,u,r⟩:=X;obtain⟨v',u',r'⟩:=X';dsimp only at p3 p4 q3 q4 hrun;rw[p3,p4,q3,q4,hrun]
  | false =>
    obtain⟨_,p1,p2,p3,_⟩:=h1.skip e1;obtain⟨_,q1,q2,q3,_⟩:=h2.skip (hrun ▸ e1);refine⟨?_,by rw[p3,q3]⟩;obtain⟨v,u,r⟩:=X;obtain⟨v',u',r'⟩:=X';dsimp only at p1 p2 q1 q2 hrun;rw[p1,p2,q1,q2,hrun]
 refine⟨hX.1,?_⟩;have hT:F1.T=F2.T:=by rw[h1.T,h2.T,hX.1]
 have hG:F1.G=F2.G:=by rw[h1.G,h2.G,hX.1]
 obtain⟨a,b,c⟩:=F1;obtain⟨a',b',c'⟩:=F2;have hn:=hX.2;dsimp only at hT hG hn;rw[hT,hG,hn]
theorem e5c {T0:Nat->V} {dst:Nat->Option Nat} {vs vs':Nat->V} {D:Nat->Bool} {t:Nat}:∀(N:Nat),(∀j,j<N->D j=true->vs j=vs' j)->TD T0 dst vs D N t=TD T0 dst vs' D N t
 |0,_=>rfl
 | N+1,h=>by
   simp only[TD];rw[e5c N fun j hj=>h j (by omega)];by_cases e:D N=true /\ dst N=some t
   ·rw[if_pos e,if_pos e,h N (by omega) e.1]
   ·rw[if_neg e,if_neg e]
theorem d0R {G0:Get} {upd upd':Nat->List (Nat×Option Blk)} {D:Nat->Bool}:∀(N:Nat),(∀j,j<N->D j=true->upd j=upd' j)->GD G0 upd D N=GD G0 upd' D N
 |0,_=>rfl
 | N+1,h=>by
   simp only[GD];rw[d0R N fun j hj=>h j (by omega)];by_cases e:D N=true
   ·rw[if_pos e,if_pos e,h N (by omega) e]
   ·rw[if_neg e,if_neg e]
theorem DS.sem {f:Nat} {sm:b2y} {F:Nat->FS} {X:Nat->Res} {D:Nat->Bool} {β:Bt} {K:Ks} {a:Act} {w:World} (h:DS P Γ z ops F X D β K a w):DS P (Γ.withSem f sm) z ops F X D β K a w:=
 ⟨h.tmp,h.nt,h.defers,h.kok,h.mr,h.dom,h.kle,h.knew,h.fr,h.own,h.ble,h.le⟩
theorem DS.unsem {f:Nat} {sm:b2y} {F:Nat->FS} {X:Nat->Res} {D:Nat->Bool} {β:Bt} {K:Ks} {a:Act} {w:World} (h:DS P (Γ.withSem f sm) z ops F X D β K a w):DS P Γ z ops F X D β K a w:=
 ⟨h.tmp,h.nt,h.defers,h.kok,h.mr,h.dom,h.kle,h.knew,h.fr,h.own,h.ble,h.le⟩
theorem SRf.unsem {f:Nat} {sm:b2y} {F:FS} {β:Bt} {K:Ks} {a:Act} {w:World} (h:SRf P (Γ.withSem f sm) z β K F a w):SRf P Γ z β K F a w:=
 ⟨h.tmp,h.nt,h.defers,h.kok,h.mr,h.fresh,h.kle,h.knew,h.fr,h.own,h.ble,h.le⟩
structure b9a (Γ:Env) (ops:Array Oper) (f:Nat) (fam:Fam) (p:Nat) (F:fam.ι->Nat->FS) (E:fam.ι->Nat->Ent) (X:fam.ι->Nat->Res):Prop where
 rgn:∀y,Rgn (Γ.withSem f (fam.mean y)) ops (F y) (E y) (X y)
 start:∀y y',F y 0=F y' 0
 other:∀i o,i≠p->ops[i]?=some o->a6N f o=true
 late:∀i o,p<i->ops[i]?=some o->∀D,a2T ops D->D i=true->D p=false->b0Y o=true
variable {f:Nat} {fam:Fam} {p:Nat} {F:fam.ι->Nat->FS} {E:fam.ι->Nat->Ent} {X:fam.ι->Nat->Res}
theorem b9a.act (R:b9a Γ ops f fam p F E X) {i:Nat} {o:Oper} (hi:i≠p) (ho:ops[i]?=some o) (y y':fam.ι) (T:Nat->V) (G:Get) (n:Nat):AM.act (Γ.withSem f (fam.mean y)) o (a5u T) G n=AM.act (Γ.withSem f (fam.mean y')) o (a5u T) G n:=by
 rw[a6O (R.other i o hi ho),a6O (R.other i o hi ho)]
theorem b9a.pre (R:b9a Γ ops f fam p F E X) (hp:p<ops.size) (y y':fam.ι):∀i,i<=p->F y i=F y' i /\ ∀j,j<i->X y j=X y' j
 |0,_=>⟨R.start y y',fun j h=>by omega⟩
 | i+1,h=>by
   obtain⟨h1,h2⟩:=R.pre hp y y' i (by omega);have ho:ops[i]?=some ops[i]:=Array.getElem?_eq_getElem (by omega);have s1:=(R.rgn y).step i _ ho;have s2:=(R.rgn y').step i _ ho;rw[<- h1]at s2;obtain⟨e1,e2⟩:=s1.det s2 (R.act (by omega) ho y y');refine⟨e2,fun j hj=>?_⟩;by_cases e:j=i
   ·subst e;exact e1
   ·exact h2 j (by omega)
theorem b9a.same (R:b9a Γ ops f fam p F E X) (hp:p<ops.size) (y y':fam.ι) {D:Nat->Bool} (hc:a2T ops D) (hD:D p=false):∀i,i<ops.size->D i=true->X y i=X y' i /\ (p<i->(F y (i+1)).n=(F y i).n):=by
 intro i
 induction i using Nat.strongRecOn with
 | _ i ih =>
   intro hi hDi;have hne:i≠p:=fun e=>by subst e;rw[hD]at hDi;cases hDi
   rcases Nat.lt_or_ge i p with hlt|hge
   ·exact⟨(R.pre hp y y' p (le_refl _)).2 i hlt,fun h=>by omega⟩
   have hpi:p<i:=by omega
   have ho:ops[i]?=some ops[i]:=Array.getElem?_eq_getElem hi;have hcalm:=R.late i _ hpi ho D hc hDi hD;have hg:ops[i].guard=none:=by
    unfold b0Y at hcalm;simp only[and_eq_true]at hcalm;have:=hcalm.1;split at this
    ·assumption
    ·cases this
   obtain⟨D',hD'⟩:∃D':Nat->Bool,D'=fun k=>D k&&Nat.blt k i:=⟨_,rfl⟩
   have hD'i:D' i=false:=by
    rw[hD'];dsimp only;rw[show Nat.blt i i=false by
     cases hq:Nat.blt i i with
     |false=>rfl
     |true=>rw[Nat.blt_eq]at hq;omega,Bool.and_false]
   have hsub:∀k,D' k=true->D k=true /\ k<i:=fun k hk=>by
    rw[hD']at hk;simp only[and_eq_true,Nat.blt_eq]at hk;exact hk
   have hin:∀k,D k=true->k<i->D' k=true:=fun k h1 h2=>by
    rw[hD'];simp only[and_eq_true,Nat.blt_eq];exact⟨h1,h2⟩
   have hc':a2T ops D':=by
    intro k o hk hDk e he hb;obtain⟨h1,h2⟩:=hsub k hDk;have h3:=hc k o hk h1 e he hb;have h4:=(R.rgn y).edge k o hk e he hb;exact hin _ h3 (by omega)
   have hb':a9E D' ops[i]:=fun e he hb=>hin _ (hc i _ ho hDi e he hb) ((R.rgn y).edge i _ ho e he hb)
   have hX:∀j,j<ops.size->D' j=true->X y j=X y' j:=fun j hj hDj=>(ih j (hsub j hDj).2 hj (hsub j hDj).1).1
   have hTX:∀t,TX ops (F y) (X y) D' t=TX ops (F y') (X y') D' t:=fun t=>by
    show TD (F y 0).T (b2c ops) (fun i=>(X y i).v) D' ops.size t=TD (F y' 0).T (b2c ops) (fun i=>(X y' i).v) D' ops.size t;rw[R.start y y'];exact e5c _ fun j hj hDj=>by rw[hX j hj hDj]
   have hGX:GX ops (F y) (X y) D'=GX ops (F y') (X y') D':=by
    show GD (F y 0).G (fun i=>(X y i).upd) D' ops.size=GD (F y' 0).G (fun i=>(X y' i).upd) D' ops.size;rw[R.start y y'];exact d0R _ fun j hj hDj=>by rw[hX j hj hDj]
   have hT:∀t,t∈looks ops ops[i]->(F y i).T t=(F y' i).T t:=fun t ht=>by
    rw[<- (R.rgn y).lookT hc' ho hb' hD'i ht,<- (R.rgn y').lookT hc' ho hb' hD'i ht,hTX]
   have hρ:∀x∈ops[i].op.operands,a5u (F y i).T x=a5u (F y' i).T x:=fun x hx=>by
    cases x with
    |tmp t=>exact hT t (List.mem_append_left _ (List.mem_filterMap.2 ⟨.tmp t,by simpa using hx,rfl⟩))
    |_=>rfl
   have s1:=(R.rgn y).step i _ ho;have s2:=(R.rgn y').step i _ ho;have hrun:∀{Γ':Env} {F1 F2:FS} {E':Ent} {X':Res},a4k Γ' ops ops[i] F1 E' X' F2->X'.run=true:=by
    intro Γ' F1 F2 E' X' s;cases e:X'.run with
    |true=>rfl
    | false =>
      obtain⟨⟨g,want,t,a1,_⟩,_⟩:=s.skip e;rw[hg]at a1;cases a1
   obtain⟨_,out,p1,_,p3,p4,p5,p6⟩:=s1.exec (hrun s1);obtain⟨_,out',q1,_,q3,q4,q5,q6⟩:=s2.exec (hrun s2);have hfp:=c2C hcalm (G:=(F y i).G) (G':=(F y' i).G) hρ;have hGk:∀k∈a9U ops[i] (a5u (F y' i).T) (F y i).G,(F y i).G k=(F y' i).G k:=fun k hk=>by
    have hk1:k∈(E y i).fp:=by rw[p6];dsimp only;rw[hfp,c2C hcalm (G':=(F y i).G) (fun _ _=>rfl)];exact hk
    have hk2:k∈(E y' i).fp:=by rw[q6];dsimp only;rw[c2C hcalm (G':=(F y i).G) (fun _ _=>rfl)];exact hk
    rw[<- (R.rgn y).lookG hc' ho hb' hD'i hk1,<- (R.rgn y').lookG hc' ho hb' hD'i hk2,hGX]
   rw[R.act hne ho y y',c2t hρ,c2u hGk]at p1;obtain⟨u1,u2,u3⟩:=d7Q hcalm p1;rw[u3 (F y' i).n]at q1;have hout:out'={ out with n:=(F y' i).n }:=(Option.some.inj q1).symm;refine⟨?_,fun _=>by rw[p5,u2]⟩;have hr1:=hrun s1;have hr2:=hrun s2;generalize X y i=A at *;generalize X y' i=B at *;obtain⟨v,u,r⟩:=A;obtain⟨v',u',r'⟩:=B;dsimp only at p3 p4 q3 q4 hr1 hr2;rw[p3,p4,q3,q4,hr1,hr2,hout]
theorem b9a.TX (R:b9a Γ ops f fam p F E X) (hp:p<ops.size) (y y':fam.ι) {D:Nat->Bool} (hc:a2T ops D) (hD:D p=false) (t:Nat):AM.TX ops (F y) (X y) D t=AM.TX ops (F y') (X y') D t:=by
 show TD (F y 0).T (b2c ops) (fun i=>(X y i).v) D ops.size t=TD (F y' 0).T (b2c ops) (fun i=>(X y' i).v) D ops.size t;rw[R.start y y'];exact e5c _ fun j hj hDj=>by rw[(R.same hp y y' hc hD j hj hDj).1]
theorem b9a.GX (R:b9a Γ ops f fam p F E X) (hp:p<ops.size) (y y':fam.ι) {D:Nat->Bool} (hc:a2T ops D) (hD:D p=false):AM.GX ops (F y) (X y) D=AM.GX ops (F y') (X y') D:=by
 show GD (F y 0).G (fun i=>(X y i).upd) D ops.size=GD (F y' 0).G (fun i=>(X y' i).upd) D ops.size;rw[R.start y y'];exact d0R _ fun j hj hDj=>by rw[(R.same hp y y' hc hD j hj hDj).1]
theorem b9a.switch (R:b9a Γ ops f fam p F E X) (hp:p<ops.size) (y y':fam.ι) {D:Nat->Bool} (hc:a2T ops D) (hD:D p=false) {β:Bt} {K:Ks} {a:Act} {w:World}
 (h:DS P Γ z ops (F y) (X y) D β K a w):DS P Γ z ops (F y') (X y') D β K a w:=by
 have hT:=R.TX hp y y' hc hD;have hG:=R.GX hp y y' hc hD;refine⟨fun t=>by rw[<- hT t];exact h.tmp t,h.nt,h.defers,h.kok,by rw[<- hG];exact h.mr,?_,h.kle,h.knew,h.fr,by rw[<- hG];exact h.own,h.ble,by rw[<- R.start y y'];exact h.le⟩;intro k hk;rcases h.dom k hk with h1|⟨i,h1,h2,h3,h4⟩
 ·exact .inl (by rw[<- R.start y y'];exact h1)
 ·have hne:i≠p:=fun e=>by subst e;rw[hD]at h2;cases h2
  rcases Nat.lt_or_ge i p with hlt|hge
  ·refine .inr ⟨i,h1,h2,?_⟩;rw[<- (R.pre hp y y' i (by omega)).1,<- (R.pre hp y y' (i+1) (by omega)).1];exact⟨h3,h4⟩
  ·have:=(R.same hp y y' hc hD i h1 h2).2 (by omega);omega
theorem d7S {β:Bt} {K:Ks} {get:Get} {n:Nat} {w:World} {ρ:Operand->V} {a:Act} {o:Oper} (h:Pre P Γ β K get n w ρ a) (hfam:a2V P f fam) {c:Call} (ho:o.op = .call c) (hc:c.callee = .value (.func f))
 (hf:ρ (.func f) = .val (.one (.fn f []))) {out:fam.ι->Out} (hl:∀y,AM.act (Γ.withSem f (fam.mean y)) o ρ get n=some (out y)) (hok:∀y,(out y).ok=true) :
 a0A P o a w (fun v w'=>∃y,a1i β K get n w (out y) v w'):=by
 have hsem:∀y,(Γ.withSem f (fam.mean y)).sem f=some (fam.mean y):=fun y=>by simp[Env.withSem]
 have hact:∀y,AM.act (Γ.withSem f (fam.mean y)) o ρ get n=match a6m (c.args.toList.map ρ)with
  |some ws=>b8m (Γ.withSem f (fam.mean y)) o get n f (ws++([]:List Nat).map fun k => .one (.ptr k 0))
  |none=>none:=by
  intro y;unfold AM.act;simp only[ho,hc,hf];cases a6m (c.args.toList.map ρ)<;>rfl
 cases hw:a6m (c.args.toList.map ρ)with
 | none =>
   obtain⟨y0⟩:=fam.inh;have:=hl y0;rw[hact,hw]at this;cases this
 | some ws =>
   have hl':∀y,(match (fam.mean y).own with|true=>a3V (fam.mean y) get n (ws++([]:List Nat).map fun k => .one (.ptr k 0))|false=>a6w (fam.mean y) (match o.dst with|some d=>b8j Γ.frz d|none=>false) get n (ws++([]:List Nat).map fun k => .one (.ptr k 0)))=some (out y):=by
    intro y;have:=hl y;rw[hact,hw]at this;dsimp only at this;unfold b8m at this;rw[hsem y]at this;exact this
   cases hown:fam.own with
   |true=>exact b0T h ho hc hf hw hfam (fun y=>by have:=hl' y;rw[hfam.own y,hown]at this;exact this) hok
   |false=>exact b2N h ho hc hf hw hfam (fun y=>by have:=hl' y;rw[hfam.own y,hown]at this;exact this) hok
theorem b9a.step (R:b9a Γ ops f fam p F E X) (env:a1F P Γ) (hfam:a2V P f fam) {o:Oper} (hp:ops[p]?=some o) (hg:o.guard=none) {c:Call} (hop:o.op = .call c) (hcal:c.callee = .value (.func f))
 {y:fam.ι} {D:Nat->Bool} {β:Bt} {K:Ks} {a:Act} {w:World} (h:DS P Γ z ops (F y) (X y) D β K a w) (hc:a2T ops D) (hb:a9E D o) (hD:D p=false)
 {next:Act->World->Prop} (hn:∀y' β K a w,DS P Γ z ops (F y') (X y') (b2i D p) β K a w->next a w):wpOp P ops Q p next a w:=by
 have hlt:p<ops.size:=(Array.getElem?_eq_some_iff.1 hp).1;have hsw:∀y',DS P Γ z ops (F y') (X y') D β K a w:=fun y'=>R.switch hlt y y' hc hD h
 have hF:∀y',F y' p=F y p:=fun y'=>(R.pre hlt y' y p (le_refl _)).1
 have hrun:∀y',(X y' p).run=true:=by
  intro y';cases e:(X y' p).run with
  |true=>rfl
  | false =>
    obtain⟨⟨g,want,t,a1,_⟩,_⟩:=((R.rgn y').step p o hp).skip e;rw[hg]at a1;cases a1
 have hex:=fun y'=>(((R.rgn y').step p o hp).exec (hrun y')).2
 obtain⟨out,hout⟩:=Classical.axiomOfChoice hex;unfold wpOp;rw[hp];dsimp only;rw[show Region.wanted o (yielded ops a.tmps)=true by simp[Region.wanted,hg],if_pos rfl];left;have hlook:∀t,t∈looks ops o->VR β K ((F y p).T t) (a.tmps.getD t undef):=fun t ht=>by rw[<- (R.rgn y).lookT hc hp hb hD ht];exact h.tmp t
 refine d0t (ι:=fam.ι) fam.inh (β:=β) (K:=K) (ρ:=a5u (F y p).T) (G:=(F y p).G) (Gc:=AM.GX ops (F y) (X y) D) (n:=(F y p).n) (out:=out) env ?_ ?_ ?_ h.kok h.mr ?_ ?_ _ _ fun v w' hpost=>?_
 ·intro ρr Gr e1 e2 hpre;refine d7S hpre hfam hop hcal ?_ (fun y'=>?_) fun y'=>(hout y').2.1
  ·rw[<- e1 (.func f) (by rw[hop];simp[Op.operands,Call.operands,hcal])];rfl
  ·have:=(hout y').1;rw[hF y']at this;rw[<- this,<- c2t e1];exact(c2u fun k hk=>e2 k hk).symm
 ·intro y';have h1:=(R.rgn y').kb p hlt;rw[(hout y').2.2.2.2.2,hF y']at h1;exact h1
 ·intro k hk;refine(R.rgn y).lookG hc hp hb hD ?_;rw[(hout y).2.2.2.2.2];exact hk
 ·intro y' k h1 h2;refine(hsw y').sem.free (R.rgn y') hlt hD k (by rw[hF y'];exact h1) ?_;rw[(hout y').2.2.2.2.1];exact h2
 ·intro x hx;cases x with
  | tmp t =>
    refine hlook t ?_;unfold looks c9S;exact List.mem_append_left _ (List.mem_filterMap.2 ⟨.tmp t,by simpa using hx,rfl⟩)
  |const v=>exact b0H v
  |global g=>exact a6J
  |func f=>exact⟨[],rfl,trivial⟩
 ·obtain⟨y',β',K',hp'⟩:=hpost;have h':=hsw y';have hG':=R.GX hlt y y' hc hD;obtain⟨_,_,h3,h4,h5,_⟩:=hout y';have hs:=(R.rgn y').step p o hp;have hT':∀t,VR β K (AM.TX ops (F y') (X y') D t) (a.tmps.getD t undef):=h'.tmp;obtain⟨g1,g2,g3⟩:=b0G (Γ:=Γ) (d:=o.dst) (x:=(out y').v) (v:=v) hT' hp'.ble hp'.kle h'.nt hs.dst hp'.vr;refine hn y' β' K' _ _ ⟨?_,g2,g3.trans h'.defers,hp'.kok,?_,?_,h'.kle.trans hp'.kle,?_,?_,?_,fun k y hk e=>hp'.ble _ _ (h'.ble k y hk e),h'.le⟩
  ·rw[(R.rgn y').addT hc hp hD,h3];exact g1
  ·rw[(R.rgn y').addG hc hp hD,h4,<- hG'];exact hp'.mr
  ·intro k hk;rcases hp'.dom k hk with h7|⟨h7,h8⟩
   ·rcases h'.dom k h7 with h9|⟨j,h9,h10,h11⟩
    ·exact .inl h9
    ·exact .inr ⟨j,h9,by simp[b2i,h10],h11⟩
   ·exact .inr ⟨p,hlt,a2y,by rw[hF y'];exact h7,by rw[h5];exact h8⟩
  ·intro b arr e;rcases hp'.knew b arr e with h7|h7|h7
   ·exact h.knew b arr h7
   ·exact .inr (h.own b h7)
   ·exact .inr (.inr (Nat.le_trans h.fr.size h7))
  ·exact h.fr.trans hp'.fr (f7g h.own h.knew)
  ·intro x hx;rw[(R.rgn y').addG hc hp hD,h4,<- hG']at hx;rcases hp'.own x hx with h7|h7
   ·exact h.own x h7
   ·exact .inr (Nat.le_trans h.fr.size h7)
theorem b9a.any (R:b9a Γ ops f fam p F E X) (env:a1F P Γ) (hfam:a2V P f fam) {op:Oper} (hp:ops[p]?=some op) (hg:op.guard=none) {c:Call} (hop:op.op = .call c) (hcal:c.callee = .value (.func f))
 (hQ:∀y β K a w,SRf P Γ z β K (F y ops.size) a w->Q .normal a w) :
 ∀(fuel:Nat) (listed:Array Bool),listed.size=ops.size->cnt (fun k=>listed.getD k false) ops.size<=fuel->a2T ops (fun k=>listed.getD k false) ->
 ∀y β K a w,DS P Γ z ops (F y) (X y) (fun k=>listed.getD k false) β K a w->wpAny P .any ops Q fuel listed a w:=by
 have hall:∀(listed:Array Bool),listed.size=ops.size->Region.ready .any ops listed=[]->∀i,i<ops.size->listed.getD i false=true:=by
  intro listed hsz hr i
  induction i using Nat.strongRecOn with
  | _ i ih =>
    intro hi;cases hq:listed.getD i false with
    |true=>rfl
    | false =>
      exfalso;have ho:ops[i]?=some ops[i]:=Array.getElem?_eq_getElem hi;have:i∈Region.ready .any ops listed:=by
       rw[mem_ready];refine⟨?_,_,ho,fun e he hb=>?_⟩
       ·have hlt:i<listed.size:=by omega
        simp[hlt]at hq ⊢;exact hq
       ·obtain⟨y0⟩:=fam.inh;have hlt:=(R.rgn y0).edge i _ ho e he hb;exact ih e.on hlt (by omega)
      rw[hr]at this;cases this
 intro fuel
 induction fuel with
 | zero =>
   intro listed hsz hc hcl y β K a w h;have hD:=b4c (Nat.le_zero.1 hc);refine⟨?_,hQ y β K a w (h.sem.all (R.rgn y) hD).unsem⟩;cases hr:Region.ready .any ops listed with
   |nil=>rfl
   | cons i r =>
     exfalso;have hm:i∈Region.ready .any ops listed:=by rw[hr];exact List.mem_cons_self ..
     obtain⟨h1,o,ho,_⟩:=mem_ready.1 hm;have hlt:i<ops.size:=(Array.getElem?_eq_some_iff.1 ho).1;have h2:=hD i hlt;have hlt2:i<listed.size:=by omega
     simp[hlt2]at h1 h2;rw[h1]at h2;cases h2
 | succ fuel ih =>
   intro listed hsz hc hcl y β K a w h;refine⟨fun hr=>hQ y β K a w (h.sem.all (R.rgn y) (hall listed hsz hr)).unsem,fun i hi=>?_⟩;obtain⟨h1,o,ho,h2⟩:=mem_ready.1 hi;have hlt:i<ops.size:=(Array.getElem?_eq_some_iff.1 ho).1;have hlt2:i<listed.size:=by omega
   have hDi:(fun k=>listed.getD k false) i=false:=by
    simp[hlt2]at h1 ⊢;exact h1
   have hD':(fun k=>(listed.setIfInBounds i true).getD k false)=b2i (fun k=>listed.getD k false) i:=by
    funext k;by_cases hk:k=i
    ·subst hk;rw[a2y];simp[hlt2]
    ·rw[a3x hk];exact getD_set_ne false (Ne.symm hk)
   have hbo:a9E (fun k=>listed.getD k false) o:=fun e he hb=>h2 e he hb
   have hnext:∀y' β' K' a' w',DS P Γ z ops (F y') (X y') (b2i (fun k=>listed.getD k false) i) β' K' a' w'->wpAny P .any ops Q fuel (listed.setIfInBounds i true) a' w':=by
    intro y' β' K' a' w' h';refine ih (listed.setIfInBounds i true) (by simpa using hsz) ?_ ?_ y' β' K' a' w' (by rw[hD'];exact h')
    ·rw[hD'];have:=c2x (D:=fun k=>listed.getD k false) hDi hlt;omega
    ·rw[hD'];exact hcl.add ho hbo
   by_cases hip:i=p
   ·subst hip;rw[hp]at ho;cases ho;exact R.step env hfam hp hg hop hcal h hcl hbo hDi hnext
   ·exact DS.step env (R.rgn y) h.sem hcl ho (fun T G n=>a6O (R.other i o hip ho) T G n) hbo hDi fun β' K' a' w' h'=>hnext y β' K' a' w' h'.unsem
theorem e5d {R:Type} (env:a1F P Γ) {N:Nat->Option Fam} (hN:∀f fam,N f=some fam->a2V P f fam) {id:Nat} {K:Ex->St->Option R} {s:St} {r:R} (h:f7q Γ N id ops K s=some r) {a:Act} {w:World} (hs:SR P Γ z s a w) :
 (Code.region id ops true).wp P (a7w P Γ z K r) a w:=by
 unfold f7q at h;split at h
 ·exact c4w env (.region id ops true) (fun c' hc'=>by cases hc') K s r h a w hs
 ·rename_i p f fam hopen;split at h
  case h_2=>cases h
  rename_i hrest;obtain⟨_,op,hop,halt⟩:=a7E hopen;rw[Nat.sub_zero]at hop;obtain⟨hg,hNf,c,hcall,hcal⟩:=b8Y halt;have hall:=a5F h;have hrun:∀y:fam.ι,∃(q:(Nat->FS)×(Nat->Ent)×(Nat->Res)×St),q.1 0=s.fs /\ q.1 ops.size=q.2.2.2.fs /\ q.2.2.2.m=s.m /\ (∀i o,ops[i]?=some o->a4k (Γ.withSem f (fam.mean y)) ops o (q.1 i) (q.2.1 i) (q.2.2.1 i) (q.1 (i+1))) /\
   b8n ops (((List.range ops.size).map q.2.1).reverse++[])=true /\ K .normal q.2.2.2=some r:=by
   intro y;have hy:=hall y;unfold EBk at hy;obtain⟨F,E,X,s',f0,fl,fm,fs,fk⟩:=b4a ops.toList hy;rw[Array.length_toList]at fl fk;dsimp only at fk;split at fk
   ·rename_i hd;exact⟨(F,E,X,s'),f0,fl,fm,fun i o e=>fs i o (by rw[Array.getElem?_toList];exact e),hd,fk⟩
   ·cases fk
  obtain⟨q,hq⟩:=Classical.axiomOfChoice hrun;have hp:ops[p]?=some op:=by rw[<- Array.getElem?_toList];exact hop
  have hlt:p<ops.size:=(Array.getElem?_eq_some_iff.1 hp).1;have R:b9a Γ ops f fam p (fun y=>(q y).1) (fun y=>(q y).2.1) (fun y=>(q y).2.2.1):=by
   refine⟨fun y=>?_,fun y y'=>(hq y).1.trans (hq y').1.symm,fun i o hi ho=>?_,fun i o hi ho D hc hD hDp=>?_⟩
   ·obtain⟨_,_,_,h4,h5,_⟩:=hq y;obtain⟨d1,d2,d3⟩:=b8K h5;exact⟨h4,d1,d2,d3⟩
   ·have hlen:i<(c9R ops.toList []).length:=by rw[a4K];have:=(Array.getElem?_eq_some_iff.1 ho).1;simpa using this
    exact(a8t hrest i o _ (by rw[Array.getElem?_toList];exact ho) (List.getElem?_eq_getElem hlen) (by omega)).1
   ·have hlen:i<(c9R ops.toList []).length:=by rw[a4K];have:=(Array.getElem?_eq_some_iff.1 ho).1;simpa using this
    have ha:=List.getElem?_eq_getElem hlen;rcases (a8t hrest i o _ (by rw[Array.getElem?_toList];exact ho) ha (by omega)).2 with h1|h1|h1
    ·omega
    ·have:=b4b (D:=D) ops.toList [] (fun i o e hd=>hc i o (by rw[<- Array.getElem?_toList];exact e) (by simpa using hd)) (fun p x e=>by simp at e) i _ ha hD p h1;rw[hDp]at this;cases this
    ·exact h1
  obtain⟨hm,β,Ks,hf⟩:=hs;obtain⟨y0⟩:=fam.inh;have hrep:∀k,(Array.replicate ops.size false).getD k false=false:=by
   intro k;simp only[Array.getD_eq_getD_getElem?,Array.getElem?_replicate];split<;>rfl
  have hf0:SRf P (Γ.withSem f (fam.mean y0)) z β Ks ((q y0).1 0) a { w with drawn:=w.drawn+1 }:=by
   rw[(hq y0).1];have:=hf.still (w':={ w with drawn:=w.drawn+1 }) ⟨rfl,rfl,rfl,rfl⟩;exact⟨this.tmp,this.nt,this.defers,this.kok,this.mr,this.fresh,this.kle,this.knew,this.fr,this.own,this.ble,this.le⟩
  refine wp_region_any env.mixed (R.any (z:=z) env (hN f fam hNf) hp hg hcall hcal (fun y β K' a w h=>⟨(q y).2.2.2,⟨(hq y).2.2.1.trans hm,β,K',by rw[<- (hq y).2.1];exact h⟩,(hq y).2.2.2.2.2⟩) ops.size _ (by simp) ?_ ?_ y0 β Ks _ _ ?_)
  ·have:∀N,cnt (fun k=>(Array.replicate ops.size false).getD k false) N=N:=by
    intro N
    induction N with
    |zero=>rfl
    | succ N ih =>
      simp only[cnt];rw[if_neg (by rw[hrep];simp),ih];omega
   rw[this];exact le_refl _
  ·intro i o hi hD;dsimp only at hD;rw[hrep]at hD;cases hD
  ·exact(DS.start (R.rgn y0) hf0 hrep).unsem
end
structure g5c where
 ι:Type
 inh:Nonempty ι
 out:ι->Bool×St×St
structure d0S where
 m:a6E
 run:St->Option (Bool×g5c)
structure a9F where
 fam:Nat->Option Fam
 loops:Nat->Option d0S
def g3Z {R:Type} (L:a6E) (K:Ex->St->Option R) (p:Bool×St×St):Option R:=match p.1 with
 |true=>K .ret p.2.2
 |false=>K (.exit L.ex) p.2.1
noncomputable def g4a {R:Type} (L:d0S) (K:Ex->St->Option R) (s:St):Option R:=
 match b0r L.m.live L.m.own s with
 |none=>none
 | some s0=>match L.run s0 with
   |none=>none
   | some (ok,fam)=>match ok with
     |true=>a3z fun z=>g3Z L.m K (fam.out z)
     |false=>none
noncomputable def EBn {R:Type} (Γ:Env) (N:a9F):Code->(Ex->St->Option R)->St->Option R
 | .seq x y,K,s=>EBn Γ N x (fun e s'=>match e with
   |.normal=>EBn Γ N y K s'
   |e=>K e s') s
 | .cond c x y,K,s=>match s.val c with
   | .val (.one (.bool b))=>match b with
     |true=>EBn Γ N x (a6F (a2a Γ.cut (b8p c)) K) (s.putC c true)
     |false=>EBn Γ N y (a6F (a2a Γ.cut (b8p c)) K) (s.putC c false)
   |_=>none
 |.block id x,K,s=>EBn Γ N x (a9b id (a2a Γ.past id) K) s
 | .loop c,K,s=>match N.loops (a1n c)with
   |some L=>g4a L K s
   |none=>EBk Γ (.loop c) K s
 | .region id ops d,K,s=>match d with
   |false=>d6q Γ N.fam ops ops.toList (fun s'=>K .normal s') s
   |true=>f7q Γ N.fam id ops K s
 |.skip,K,s=>K .normal s
 |.label _,K,s=>K .normal s
 |.exit id,K,s=>K (.exit id) s
 |.ret,K,s=>EBk Γ .ret K s
 |_,_,_=>none
noncomputable def c7K {R:Type} (Γ:Env) (N:a9F) (c:Code) (L:a6E) (K:Ex->St->Option R):Nat->St->Option R
 |0,_=>none
 |k+1,s=>EBn Γ N c (a0z L.live L.own L.ex L.past L.pown (c7K Γ N c L K k) K) s
def c7L (Γ:Env) (N:a9F) (c:Code) (L:d0S):Prop:=
 ∀s0 fam,L.run s0=some (true,fam)->∀(R:Type) (K:Ex->St->Option R) (r:R),(∀z,g3Z L.m K (fam.out z)=some r)->∃n,c7K Γ N c L.m K n s0=some r
def a3p (Γ:Env) (N:a9F) (c:Code):Prop:=∀c'∈a0p c,∀L,N.loops (a1n c')=some L->c7L Γ N c' L
def NOK (P:Program) (N:a9F):Prop:=∀f fam,N.fam f=some fam->a2V P f fam
noncomputable def a6p {R:Type} (Γ:Env) (N:a9F) (c:Code) (f:List W×List (Option Blk)->Option R) (args:List W) (ins:List Blk):Option R:=
 match Nat.ble args.length Γ.nt with
 | true=>EBn Γ N c (fun e s=>match e with
   |.exit _=>none
   | _=>match fin Γ s with
     |some r=>f r
     |none=>none) (a9A args ins)
 |false=>none
section
variable {P:Program} {Γ:Env} {z:a6n}
theorem d7T {R:Type} {N:a9F} {c:Code} {L:a6E} {K:Ex->St->Option R} {r:R}
 (hc:∀(K:Ex->St->Option R) s r,EBn Γ N c K s=some r->∀a w,SR P Γ z s a w->c.wp P (a7w P Γ z K r) a w) (n:Nat) {s:St} (h:c7K Γ N c L K n s=some r) {a:Act} {w:World} (hs:SR P Γ z s a w) :
 (Code.loop c).wp P (a7w P Γ z K r) a w:=by
 classical
 let J:Act->World->Nat->Prop:=fun a w k=>∃s,SR P Γ z s a w /\ c7K Γ N c L K k s=some r
 let I:Act->World->Prop:=fun a w=>∃k,J a w k
 have hmin:∀a w,I a w->∃k,J a w k /\ ∀j,j<k->¬J a w j:=fun a w ⟨k,hk⟩=>e9A k hk
 let μ:Act->World->Nat:=fun a w=>if h:I a w then(hmin a w h).choose else 0
 have hμ:∀a w,I a w->J a w (μ a w) /\ ∀j,j<μ a w->¬J a w j:=by
  intro a w hI;have:μ a w=(hmin a w hI).choose:=dif_pos hI;rw[this];exact(hmin a w hI).choose_spec
 refine wp_loop I μ ⟨n,s,hs,h⟩ fun a w hI=>?_
 obtain⟨⟨s,hs,hk⟩,_⟩:=hμ a w hI;cases hn:μ a w with
 |zero=>rw[hn]at hk;simp[c7K]at hk
 | succ k =>
   rw[hn]at hk;simp only[c7K]at hk;refine wp_mono (hc _ s r hk a w hs) fun e a' w' he=>?_
   cases e with
   | normal =>
     obtain⟨s',hs',hk'⟩:=he;unfold a0z at hk';dsimp only at hk';split at hk'
     ·rename_i s'' hc';have hJ:J a' w' k:=⟨s'',a4L hs' hc',hk'⟩;have hI':I a' w':=⟨k,hJ⟩;refine⟨hI',?_⟩;have h2:=(hμ a' w' hI').2 k;rcases Nat.lt_or_ge k (μ a' w')with h3|h3
      ·exact absurd hJ (h2 h3)
      ·omega
     ·cases hk'
   |exit i=>exact b4f (ex:=L.ex) (past:=L.past) (pown:=L.pown) (.exit i) a' w' he
   |ret=>exact b4f (ex:=L.ex) (past:=L.past) (pown:=L.pown) .ret a' w' he
   |_=>exact he
theorem e9K {R:Type} (env:a1F P Γ) {N:a9F} (hN:NOK P N):∀(c:Code),a8n Γ c->a3p Γ N c->∀(K:Ex->St->Option R) (s:St) (r:R),EBn Γ N c K s=some r->∀a w,SR P Γ z s a w->c.wp P (a7w P Γ z K r) a w:=by
 intro c
 induction c with
 |skip=>exact fun _ _ K s r h a w hs=>wp_skip ⟨s,hs,h⟩
 |label l=>exact fun _ _ K s r h a w hs=>wp_label ⟨s,hs,h⟩
 |exit id=>exact fun _ _ K s r h a w hs=>wp_exit ⟨s,hs,h⟩
 |ret=>exact fun hL _ K s r h a w hs=>c4w env .ret hL K s r h a w hs
 | seq x y ihx ihy =>
   intro hL hM K s r h a w hs;unfold EBn at h;refine wp_seq (wp_mono (ihx (fun c' hc'=>hL c' (List.mem_append_left _ hc')) (fun c' hc'=>hM c' (List.mem_append_left _ hc')) _ s r h a w hs) fun e a' w' he=>?_);cases e with
   | normal =>
     obtain⟨s',hs',hk⟩:=he;exact ihy (fun c' hc'=>hL c' (List.mem_append_right _ hc')) (fun c' hc'=>hM c' (List.mem_append_right _ hc')) K s' r hk a' w' hs'
   |exit i=>exact he
   |ret=>exact he
   |_=>exact he
 | cond c x y ihx ihy =>
   intro hL hM K s r h a w hs;unfold EBn at h;split at h
   ·rename_i b hb;obtain⟨hm,β,Ks,hf⟩:=hs;have hv:=b0I hf.tmp c;rw[<- c4v,hb]at hv;have hev:a.eval c = .bool b:=hv;have hput:∀b',b=b'->SR P Γ z (s.putC c b') a w:=by
     intro b' e;subst e;cases c with
     | tmp t =>
       have:=a5W s t (a2I b) hb;exact⟨hm,β,Ks,by rw[show(s.putC (.tmp t) b).fs=(s.put t (a2I b)).fs from rfl,this];exact hf⟩
     |_=>exact⟨hm,β,Ks,hf⟩
    refine wp_cond hev ?_;cases b with
    |true=>exact wp_mono (ihx (fun c' hc'=>hL c' (List.mem_append_left _ hc')) (fun c' hc'=>hM c' (List.mem_append_left _ hc')) _ _ r h a w (hput true rfl)) a5Z
    |false=>exact wp_mono (ihy (fun c' hc'=>hL c' (List.mem_append_right _ hc')) (fun c' hc'=>hM c' (List.mem_append_right _ hc')) _ _ r h a w (hput false rfl)) a5Z
   ·cases h
 | block id x ih =>
   intro hL hM K s r h a w hs;unfold EBn at h;exact wp_block (wp_mono (ih hL hM _ s r h a w hs) b8O)
 | loop x ih =>
   intro hL hM K s r h a w hs;unfold EBn at h;split at h
   ·rename_i L hl;unfold g4a at h;split at h
    ·cases h
    ·rename_i s0 hc0;split at h
     ·cases h
     ·rename_i ok fam hrun;split at h
      case h_2=>cases h
      obtain⟨n,hn⟩:=hM x (List.mem_cons_self ..) L hl s0 fam hrun R K r (a5F h);exact d7T (L:=L.m) (ih (fun c' hc'=>hL c' (List.mem_cons_of_mem _ hc')) (fun c' hc'=>hM c' (List.mem_cons_of_mem _ hc'))) n hn (a4L hs hc0)
   ·exact c4w env (.loop x) hL K s r h a w hs
 | region id ops d =>
   intro hL hM K s r h a w hs;cases d with
   | false =>
     unfold EBn at h;refine wp_region ?_;rw[List.range_eq_range'];have:=d0N env hN (ops:=ops) (Q:=a7w P Γ z K r) (r:=r) (K:=fun s'=>K .normal s') (fun s' a w h1 h2=>⟨s',h1,h2⟩) ops.toList 0 rfl (by simp) s h a w hs;rw[Array.length_toList]at this;exact this
   | true =>
     unfold EBn at h;exact e5d env hN h hs
 |_=>intro _ _ K s r h;simp[EBn]at h
theorem a6e {R:Type} (env:a1F P Γ) {N:a9F} (hN:NOK P N) {f:Nat} {c:Code} (hf:a6z P f Γ c) (hNL:a3p Γ N c) {g:List W×List (Option Blk)->Option R} {args:List W} {ins:List Blk} {r:R} (h:a6p Γ N c g args ins=some r)
 {β0:Bt} {K0:Ks} {w0:World} {vs:Array Value} (hk:KOK K0 w0) (hm:MR β0 K0 (a2t ins) w0) (hfr:∀k,ins.length<=k->β0 k=none) (hv:All2 (WR β0 K0) args vs.toList) :
 Calls P f vs w0 fun e w'=>∃v β K rs outs,e = .returned v /\ g (rs,outs)=some r /\ Ret ins outs rs β0 K0 w0 v w' β K:=by
 obtain⟨fn,hfn,hbody,hres,hnt,_⟩:=hf.is;unfold a6p at h;split at h
 case h_2=>cases h
 rename_i hle;have hle:args.length<=Γ.nt:=by simpa using hle
 have hlen:args.length=vs.size:=by simpa using hv.length
 refine calls_of_wp hfn hbody ?_;rw[hnt]
 let z:a6n:=⟨β0,K0,w0,ins.length,Own β0 (a2t ins)⟩
 have h0:SR P Γ z (a9A args ins) { tmps:=vs++Array.replicate (Γ.nt-vs.size) undef,defers:=[] } w0:=by
  refine⟨rfl,β0,K0,⟨fun t=>?_,by simp;omega,rfl,hk,?_,hfr,KLe.refl _,fun b arr e => .inl e,Fr.refl _ _,?_,fun k y _ e=>e,le_refl _⟩⟩
  ·have h1:=(a6a (i:=0) hv t).1;rw[Nat.zero_add]at h1;have h2:(vs++Array.replicate (Γ.nt-vs.size) undef).getD t undef=vs.toList.getD t undef:=by
    simp only[Array.getD_eq_getD_getElem?,List.getD_eq_getElem?_getD,Array.getElem?_toList];rw[Array.getElem?_append];split
    ·rfl
    ·rename_i hlt;rw[Array.getElem?_replicate,Array.getElem?_eq_none (xs:=vs) (by omega)];split<;>rfl
   show VR β0 K0 ((a9A args ins).tmpV t) ((vs++Array.replicate (Γ.nt-vs.size) undef).getD t undef);rw[h2];exact h1
  ·show MR β0 K0 (a9A args ins).get w0;rw[a7x];exact hm
  ·intro x hx;left;have:(a9A args ins).fs.G=a2t ins:=a7x args ins;rw[this]at hx;exact hx
 refine wp_mono (e9K env hN c hf.loops hNL _ _ r h _ _ h0) fun e a w he=>?_
 have main:∀s,SR P Γ z s a w->(match fin Γ s with|some r=>g r|none=>none)=some r->a.defers=[] /\ ∃v,(results fn a.tmps).run P w = .ok v w /\ ∃v' β K rs outs,Ending.returned v = .returned v' /\ g (rs,outs)=some r /\ Ret ins outs rs β0 K0 w0 v' w β K:=by
  intro s hs hg;split at hg
  case h_2=>cases hg
  rename_i ro hfin;obtain⟨rs,outs⟩:=ro;obtain⟨hm',β,K,hs⟩:=hs;unfold fin at hfin;split at hfin
  ·cases hfin
  ·rename_i ws hws;obtain⟨v,hr1,hr2⟩:=e1E env hres hs hws;dsimp only at hfin;generalize hksd:a2H s.get a1X (b2b s.m++ws.flatMap a1b) (b2b 0)=ks at hfin;have hnd:(a4c ks s.m).Nodup:=by
    rw[a4l,<- hksd];exact List.Pairwise.filter _ (a2n _ _ _ _ (by simp[b2b]))
   have hge:∀k∈a4c ks s.m,s.m<=k:=by
    intro k hk;rw[a4l,List.mem_filter]at hk;simpa using hk.2
   generalize a4c ks s.m=rest at hfin hnd hge;split at hfin
   ·rename_i ws' outs' h1 h2;cases hfin;have hlo:outs.length=s.m+rest.length:=by rw[a2m h2,List.length_append,a3y]
    have hsrc:∀k' b',a2r outs k'=some b'->∃k b,a3h rest s.m k=some k' /\ s.get k=some b /\ b3M (a3h rest s.m) b=some b':=by
     intro k' b' e;unfold a2r at e;cases hq:outs[k']? with
     |none=>rw[hq]at e;cases e
     | some x =>
       rw[hq]at e;have hx:x=some b':=e;subst hx;obtain⟨k,hk,hr⟩:=(All2.ofMap h2).get?' hq;have hnk:a3h rest s.m k=some k':=by
        rw[List.getElem?_append,a3y]at hk;unfold a3h;split at hk
        ·rename_i hlt;rw[b4g,if_pos hlt]at hk;have hkk:k'=k:=Option.some.inj hk;rw[<- hkk,show Nat.blt k' s.m=true by simpa[Nat.blt_eq]using hlt]
        ·rename_i hlt;have h3:=hge k (List.mem_of_getElem? hk);rw[show Nat.blt k s.m=false from Bool.eq_false_iff.2 fun e=>by rw[Nat.blt_eq]at e;omega];dsimp only;rw[b0N hnd hk];congr 1;omega
       cases hg0:s.get k with
       |none=>rw[hg0]at hr;simp[a7g]at hr
       | some b0 =>
         rw[hg0]at hr;simp only[a7g,Option.map_eq_some_iff,injEq]at hr;obtain⟨b1,h4,h5⟩:=hr;exact⟨k,b0,hnk,hg0,by rw[h4,h5]⟩
    refine⟨hs.defers,v,hr1,v,b0O β rest s.m,K,rs,outs,rfl,hg,⟨hs.kle,hs.kok,hs.knew,hs.mr.ren a3m hsrc,fun k hk=>b4e (by omega),?_,hs.fr,fun x hx=>hs.own x (hx.ren hs.mr a3m hsrc),?_,?_⟩⟩
    ·have h3:VR (b0O β rest s.m) K (d7o rs) v:=a7m h1 hr2 fun c c' u _ hcc hu=>a6H a3m hcc hu
     exact h3
    ·intro k y e;have hkm:k<ins.length:=by
      rcases Nat.lt_or_ge k ins.length with h3|h3
      ·exact h3
      ·rw[hfr k h3]at e;cases e
     have hzm:s.m=ins.length:=hm';rw[b4d (by omega)];exact hs.ble k y hkm e
    ·have hzm:s.m=ins.length:=hm';omega
   ·cases hfin
 cases e with
 |normal=>obtain⟨s,hs,hg⟩:=he;exact main s hs hg
 |ret=>obtain⟨s,hs,hg⟩:=he;exact main s hs hg
 |exit i=>obtain⟨s,hs,hg⟩:=he;cases hg
 |_=>exact he.elim
end
section
variable {Γ:Env} {N:a9F}
instance:Nonempty b0U:=⟨⟨0,by decide⟩⟩
def d0T.{u} {α:Type u}:List (Nat×α)->Nat->Option α
 |[],_=>none
 | (k,x)::r,t=>match beq k t with
   |true=>some x
   |false=>d0T r t
theorem b9b.{u} {α:Type u}:∀{l:List (Nat×α)} {t:Nat} {x:α},d0T l t=some x->(t,x)∈l
 | (k,y)::r,t,x,h=>by
   simp only[d0T]at h;split at h
   ·rename_i e;cases h;rw[a0l e];exact List.mem_cons_self ..
   ·exact List.mem_cons_of_mem _ (b9b h)
def mkN (fams:List (Nat×Fam)) (loops:List (Nat×d0S)):a9F:=⟨d0T fams,d0T loops⟩
def f4y.{u} {α:Type u} (R:α->Prop):List α->Prop
 |[]=>True
 |x::r=>R x /\ f4y R r
theorem f4y.mem.{u} {α:Type u} {R:α->Prop}:∀{l:List α},f4y R l->∀x∈l,R x
 | y::r,h,x,hx=>by
   rcases List.mem_cons.1 hx with rfl|hx
   ·exact h.1
   ·exact h.2.mem x hx
theorem a2W {P:Program} {fams:List (Nat×Fam)} {loops:List (Nat×d0S)} (h:f4y (fun x=>a2V P x.1 x.2) fams):NOK P (mkN fams loops):=fun f fam e=>h.mem (f,fam) (b9b e)
theorem a1C {Γ:Env} {fams:List (Nat×Fam)} {c:Code}:a3p Γ (mkN fams []) c:=fun c' hc L h=>by cases h
def f4z (O:Sg) {R:Type} (h:O.den->Option R) (p:List W×List (Option Blk)):Option R:=match c7H O p with
 |some y=>h y
 |none=>none
def a6q (R:Ty) {T:Type} (h:Den R->Option T) (p:List W×List (Option Blk)):Option T:=match a1a R p with
 |some y=>h y
 |none=>none
noncomputable def a3A (Γ:Env) (N:a9F) (c:Code) (I O:Sg) (h:O.den->Option Unit) (x:I.den):Option Unit:=match b8T (a3X I.bs x.2)with
 |some ins=>a6p Γ N c (f4z O h) (a3n I.ws x.1) ins
 |none=>none
abbrev Ch (I O:Sg) (ok:I.den->Bool) (Q:I.den->O.den->Prop):Type:={ g:I.den->O.den // ∀x,ok x=true->Q x (g x) }
def a3B (own:Bool) (I O:Sg) (ok:I.den->Bool) (Q:I.den->O.den->Prop) (hne:Nonempty (Ch I O ok Q)):Fam:=⟨Ch I O ok Q,hne,fun g=>a0j own I O ok g.1,own⟩
end
section
variable {P:Program} {Γ:Env} {N:a9F}
theorem b9c (env:a1F P Γ) (hN:NOK P N) {f:Nat} {c:Code} (hf:a6z P f Γ c) (hNL:a3p Γ N c) {own:Bool} {I O:Sg} {ok:I.den->Bool} {Q:I.den->O.den->Prop} {hne:Nonempty (Ch I O ok Q)}
 (h:∀x,ok x=true->∀k:O.den->Option Unit,(∀y,Q x y->k y=some ())->a3A Γ N c I O k x=some ()):a2V P f (a3B own I O ok Q hne):=by
 classical
 refine⟨fun _=>rfl,?_⟩;intro args ins hruns β0 K0 w0 vs hk hm hfr hv;obtain⟨g0⟩:=hne;obtain⟨rs0,outs0,hrun⟩:=hruns g0;simp only[a3B,a0j,c7H]at hrun;split at hrun
 case h_2=>cases hrun
 rename_i x hx;split at hx
 case h_2=>cases hx
 rename_i x1 hx1;split at hx
 case h_2=>cases hx
 rename_i x2 hx2;cases hx;split at hrun
 case h_2=>cases hrun
 rename_i ins' hins';simp only[injEq,Prod.mk.injEq]at hrun;obtain⟨hok,_,_⟩:=hrun;obtain⟨hl1,hg1⟩:=a3o hx2;obtain⟨hl2,hg2⟩:=a5D hins';rw[a7z]at hg1;rw[<- hg2]at hg1;have hlen:ins'.length=ins.length:=by rw[hl2,hl1];simp
 have he:=h (x1,x2) hok (fun y=>if Q (x1,x2) y then some ()else none) (fun y hy=>if_pos hy);simp only[a3A,hins']at he;refine .inl ⟨hf.ok,(a6e env hN hf hNL he hk (hm.lax hg1) (fun k hk=>hfr k (by omega)) (a6d hx1 hv)).mono ?_⟩;rintro e w' ⟨v,β,K,rs',outs',rfl,hg,hR⟩;simp only[f4z]at hg;split at hg
 case h_2=>cases hg
 rename_i y hy;split at hg
 case isFalse=>cases hg
 rename_i hQ;simp only[c7H]at hy;split at hy
 case h_2=>cases hy
 rename_i y1 hy1;split at hy
 case h_2=>cases hy
 rename_i y2 hy2;cases hy;obtain⟨hl3,hg3⟩:=a3o hy2;have hl3':(a3X O.bs (y1,y2).2).length=outs'.length:=hl3;have hown:∀b,Own β0 (a2t ins') b->Own β0 (a2t ins) b:=fun b hb=>hb.lax hg1
 refine⟨⟨fun x=>if x=(x1,x2)then(y1,y2)else g0.1 x,fun x hx=>?_⟩,a3n O.ws y1,a3X O.bs y2,v,β,K,?_,rfl,⟨hR.kle,hR.kok,fun b arr e=>?_,hR.mr.lax hg3,fun k hk=>hR.fresh k (by simp only at hk hl3';omega),a7A hy1 hR.out,⟨hR.fr.os,hR.fr.tape,hR.fr.output,hR.fr.size,fun b hb hn=>hR.fr.block b hb fun hc=>hn (hc.imp (hown b) id)⟩,fun x hx=>?_,hR.ble,?_⟩⟩
 ·dsimp only;split
  ·rename_i e;rw[e];exact hQ
  ·exact g0.2 x hx
 ·simp only[a3B,a0j,c7H,hx1,hx2,hins',hok,if_pos]
 ·rcases hR.knew b arr e with h1|h1|h1
  ·exact .inl h1
  ·exact .inr (.inl (hown b h1))
  ·exact .inr (.inr h1)
 ·rcases hR.own x (hx.lax hg3)with h1|h1
  ·exact .inl (hown x h1)
  ·exact .inr h1
 ·have:=hR.le;simp only at hl3' ⊢;omega
theorem d0U (env:a1F P Γ) (hN:NOK P N) {f:Nat} {c:Code} (hf:a6z P f Γ c) (hNL:a3p Γ N c) {own:Bool} {I O:Sg} {ok:I.den->Bool} {g:I.den->O.den}
 (h:∀x,ok x=true->∀k:O.den->Option Unit,k (g x)=some ()->a3A Γ N c I O k x=some ()):a0k P (f,a0j own I O ok g):=by
 classical
 refine⟨?_,hf.ok⟩;intro args ins rs outs hrun β0 K0 w0 vs hk hm hfr hv;simp only[a0j,c7H]at hrun;split at hrun
 case h_2=>cases hrun
 rename_i x hx;split at hx
 case h_2=>cases hx
 rename_i x1 hx1;split at hx
 case h_2=>cases hx
 rename_i x2 hx2;cases hx;split at hrun
 case h_2=>cases hrun
 rename_i ins' hins';simp only[injEq,Prod.mk.injEq]at hrun;obtain⟨hok,rfl,rfl⟩:=hrun;obtain⟨hl1,hg1⟩:=a3o hx2;obtain⟨hl2,hg2⟩:=a5D hins';rw[a7z]at hg1;rw[<- hg2]at hg1;have hlen:ins'.length=ins.length:=by rw[hl2,hl1];simp
 have he:=h (x1,x2) hok (fun y=>if y=g (x1,x2)then some ()else none) (if_pos rfl);simp only[a3A,hins']at he;refine(a6e env hN hf hNL he hk (hm.lax hg1) (fun k hk=>hfr k (by omega)) (a6d hx1 hv)).mono ?_;rintro e w' ⟨v,β,K,rs',outs',rfl,hg,hR⟩;simp only[f4z]at hg;split at hg
 case h_2=>cases hg
 rename_i y hy;split at hg
 case isFalse=>cases hg
 rename_i hQ;simp only[c7H]at hy;split at hy
 case h_2=>cases hy
 rename_i y1 hy1;split at hy
 case h_2=>cases hy
 rename_i y2 hy2;cases hy;obtain⟨hl3,hg3⟩:=a3o hy2;have hl3':(a3X O.bs (y1,y2).2).length=outs'.length:=hl3;have hown:∀b,Own β0 (a2t ins') b->Own β0 (a2t ins) b:=fun b hb=>hb.lax hg1
 rw[<- hQ];refine⟨v,β,K,rfl,⟨hR.kle,hR.kok,fun b arr e=>?_,hR.mr.lax hg3,fun k hk=>hR.fresh k (by simp only at hk hl3';omega),a7A hy1 hR.out,⟨hR.fr.os,hR.fr.tape,hR.fr.output,hR.fr.size,fun b hb hn=>hR.fr.block b hb fun hc=>hn (hc.imp (hown b) id)⟩,fun x hx=>?_,hR.ble,?_⟩⟩
 ·rcases hR.knew b arr e with h1|h1|h1
  ·exact .inl h1
  ·exact .inr (.inl (hown b h1))
  ·exact .inr (.inr h1)
 ·rcases hR.own x (hx.lax hg3)with h1|h1
  ·exact .inl (hown x h1)
  ·exact .inr h1
 ·have:=hR.le;simp only at hl3' ⊢;omega
theorem e5e (env:a1F P Γ) (hN:NOK P N) {f:Nat} {c:Code} (hf:a6z P f Γ c) (hNL:a3p Γ N c) {args:List W} {k:Den (.cons .bool .nil)->Option Unit} (hk:∀y,k y=some ()->y=(true,())) (h:a6p Γ N c (a6q (.cons .bool .nil) k) args []=some ()) {w:World} {vs:Array Value} (hgk:GK (b4j w))
 (hv:All2 (WR (fun _=>none) (b4j w)) args vs.toList):Calls P f vs w fun e w'=>e = .returned (.bool true) /\ Below w.heap.size w w':=by
 have hm:MR (fun _=>none) (b4j w) (a2t []) w:=⟨fun k b e=>by simp[a2t]at e,fun k k' b b' _ _ _ e=>by simp[a2t]at e,fun k b _ _ e=>by simp[a2t]at e⟩;refine(a6e env hN hf hNL h (e4P w hgk) hm (fun _ _=>rfl) hv).mono ?_;rintro e w' ⟨v,β,K,rs,outs',rfl,hg,hR⟩;have hno:∀x,¬Own (fun _=>none) (a2t []) x:=by rintro x ⟨k,b,y,e,_⟩;simp[a2t]at e
 unfold a6q at hg;split at hg
 ·rename_i y hy;have:=hk y hg;subst this;unfold a1a at hy;dsimp only at hy;split at hy
  ·have hout:v = .bool true:=a9Z hy hR.out;exact⟨by rw[hout],hR.fr.os,hR.fr.tape,hR.fr.output,hR.fr.size,fun k hk=>hR.fr.block k hk fun h1=>h1.elim (hno k) (e4O w k)⟩
  ·cases hy
 ·cases hg
end
section
variable {P:Program} {Γ:Env} {N:a9F}
structure c2D (P:Program) (f:Nat) (e:Array Value->Sem Value):Prop where
 is:∃fn,P.funcs[f]?=some fn /\ (fn.name == "runtime.NumGoroutine")=false /\ fn.body.isNone=true /\ Extern.findNext fn=none /\ Extern.find fn=some e
theorem c2D.run {f:Nat} {e:Array Value->Sem Value} (h:c2D P f e) {vs:Array Value} {w w':World} {v:Value} (hr:(e vs).run P w = .ok v w'):(callFunc f vs).run P w = .ok (.value v) w':=by
 obtain⟨fn,h1,h2,h3,h4,h5⟩:=h.is
 have h2':¬fn.name = "runtime.NumGoroutine" := by simpa using h2
 have h3':fn.body=none:=by simpa using h3
 simp[callFunc,h1,h2',h3',h4,h5,hr]
def a6B (A R:Ty) (ι:Type) (inh:Nonempty ι) (g:ι->Den A->Den R):Fam:=⟨ι,inh,fun z=>a0a A R (fun _=>true) (g z),false⟩
theorem e1H {f:Nat} {e:Array Value->Sem Value} (he:c2D P f e) {A R:Ty} {ι:Type} {inh:Nonempty ι} {g:ι->Den A->Den R}
 (h:∀(x:Den A) (vs:Array Value) (β:Bt) (K:Ks) (w:World),All2 (WR β K) (a0M A x) vs.toList->∃v w' z,(e vs).run P w = .ok v w' /\ a0E w w' /\ a8h β K (a0M R (g z x)) v):a2V P f (a6B A R ι inh g):=by
 refine⟨fun _=>rfl,?_⟩;intro args ins hruns β0 K0 w0 vs hk hm hfr hv;obtain⟨z0⟩:=inh;obtain⟨rs0,outs0,hrun⟩:=hruns z0;cases ins with
 |cons _ _=>simp[a6B,a0a]at hrun
 | nil =>
   simp only[a6B,a0a]at hrun;split at hrun
   ·rename_i x hx;obtain⟨v,w',z,h1,h2,h3⟩:=h x vs β0 K0 w0 (a6L hx hv);refine .inr ⟨v,w',he.run h1,z,a0M R (g z x),[],v,β0,K0,?_,rfl,?_⟩
    ·simp only[a6B,a0a,hx]
    ·exact⟨KLe.refl _,hk.still h2,fun _ _ e => .inl e,⟨fun k b e=>by simp[a2r]at e,fun k k' b b' _ _ _ e=>by simp[a2r]at e,fun k b _ _ e=>by simp[a2r]at e⟩,fun k _=>hfr k (zero_le _),h3,Fr.still h2,fun x hx=>by
      obtain⟨k,b,y,e,_⟩:=hx;simp[a2r]at e,BLe.refl _,le_refl _⟩
   ·cases hrun
abbrev ChT (A R:Ty) (ok:Den A->Bool) (Q:Den A->Den R->Prop):Type:={ g:Den A->Den R // ∀x,ok x=true->Q x (g x) }
def c7M (A R:Ty) (ok:Den A->Bool) (Q:Den A->Den R->Prop) (hne:Nonempty (ChT A R ok Q)):Fam:=⟨ChT A R ok Q,hne,fun g=>a0a A R ok g.1,false⟩
theorem e9L (env:a1F P Γ) (hN:NOK P N) {f:Nat} {c:Code} (hf:a6z P f Γ c) (hNL:a3p Γ N c) {A R:Ty} {ok:Den A->Bool} {Q:Den A->Den R->Prop} {hne:Nonempty (ChT A R ok Q)}
 (h:∀x,ok x=true->∀k:Den R->Option Unit,(∀y,Q x y->k y=some ())->a6p Γ N c (a6q R k) (a0M A x) []=some ()):a2V P f (c7M A R ok Q hne):=by
 classical
 refine⟨fun _=>rfl,?_⟩;intro args ins hruns β0 K0 w0 vs hk hm hfr hv;obtain⟨g0⟩:=hne;obtain⟨rs0,outs0,hrun⟩:=hruns g0;cases ins with
 |cons _ _=>simp[c7M,a0a]at hrun
 | nil =>
   simp only[c7M,a0a]at hrun;split at hrun
   ·rename_i x hx;simp only[injEq,Prod.mk.injEq]at hrun;obtain⟨hok,_,_⟩:=hrun;have he:=h x hok (fun y=>if Q x y then some ()else none) (fun y hy=>if_pos hy);refine .inl ⟨hf.ok,(a6e env hN hf hNL he hk hm hfr (a6L hx hv)).mono ?_⟩;rintro e w' ⟨v,β,K,rs',outs',rfl,hg,hR⟩;unfold a6q at hg;split at hg
    case h_2=>cases hg
    rename_i y hy;dsimp only at hg;split at hg
    case isFalse=>cases hg
    rename_i hq;unfold a1a at hy;dsimp only at hy;split at hy
    ·refine⟨⟨fun u=>if u=x then y else g0.1 u,fun u hu=>?_⟩,a0M R y,[],v,β,K,?_,rfl,{ hR with out:=a9Z hy hR.out }⟩
     ·dsimp only;split
      ·rename_i e;rw[e];exact hq
      ·exact g0.2 u hu
     ·simp only[c7M,a0a,hx,hok,if_pos]
    ·cases hy
   ·cases hrun
theorem a6P (env:a1F P Γ) (hN:NOK P N) {f:Nat} {c:Code} (hf:a6z P f Γ c) (hNL:a3p Γ N c) {A R:Ty} {ok:Den A->Bool} {g:Den A->Den R} {Q:Den A->Den R->Prop}
 (hQ:∀x y,Q x y->∀β K v,a8h β K (a0M R y) v->a8h β K (a0M R (g x)) v)
 (h:∀x,ok x=true->∀k:Den R->Option Unit,(∀y,Q x y->k y=some ())->a6p Γ N c (a6q R k) (a0M A x) []=some ()):a0k P (f,a0a A R ok g):=by
 classical
 refine⟨?_,hf.ok⟩;intro args ins rs outs hrun β0 K0 w0 vs hk hm hfr hv;cases ins with
 |cons _ _=>simp[a0a]at hrun
 | nil =>
   simp only[a0a]at hrun;split at hrun
   ·rename_i x hx;simp only[injEq,Prod.mk.injEq]at hrun;obtain⟨hok,rfl,rfl⟩:=hrun;have he:=h x hok (fun y=>if Q x y then some ()else none) (fun y hy=>if_pos hy);refine(a6e env hN hf hNL he hk hm hfr (a6L hx hv)).mono ?_;rintro e w' ⟨v,β,K,rs',outs',rfl,hg,hR⟩;unfold a6q at hg;split at hg
    case h_2=>cases hg
    rename_i y hy;dsimp only at hg;split at hg
    case isFalse=>cases hg
    rename_i hq;unfold a1a at hy;dsimp only at hy;split at hy
    ·exact⟨v,β,K,rfl,{ hR with out:=hQ x y hq β K v (a9Z hy hR.out) }⟩
    ·cases hy
   ·cases hrun
end
theorem c4E {P:Program} {f:Nat} (he:c2D P f Extern.MathFloatBits.float64bits) {inh:Nonempty { z:Nat // a1O .f64 z=true }} :
 a2V P f (a6B (.cons (.flt .f64) .nil) (.cons (.int .u64) .nil) { z:Nat // a1O .f64 z=true } inh (fun z x=>((((bif a1O .f64 x.1 then z.1 else x.1:Nat):Int)),()))):=by
 refine e1H he fun x vs β K w hv=>?_
 obtain⟨b,_⟩:=x;obtain⟨z0⟩:=inh;rcases vs with⟨l⟩
 cases l with
 |nil=>exact hv.elim
 | cons v r =>
   cases r with
   |cons _ _=>exact hv.2.elim
   | nil =>
     obtain⟨b',rfl,hb⟩:=hv.1;have hb:FEq .f64 b b':=hb;by_cases hn:a1O .f64 b=true
     ·refine⟨.int .u64 b',w,⟨b',FEq.nan_left hb hn⟩,rfl,a0E.refl w,?_⟩;show Value.int .u64 b' = .int .u64 _;rw[hn];rfl
     ·rcases hb with rfl|⟨h1,_⟩
      ·refine⟨.int .u64 b,w,z0,rfl,a0E.refl w,?_⟩;show Value.int .u64 b = .int .u64 _;rw[Bool.eq_false_iff.2 hn];rfl
      ·exact absurd h1 hn
theorem a9e {P:Program} {f:Nat} (he:c2D P f Extern.MathFloatBits.float64frombits) :
 a2V P f (a6B (.cons (.int .u64) .nil) (.cons (.flt .f64) .nil) Unit ⟨()⟩ (fun _ x=>((x.1:Int).toNat,()))):=by
 refine e1H he fun x vs β K w hv=>?_
 obtain⟨n,_⟩:=x;rcases vs with⟨l⟩
 cases l with
 |nil=>exact hv.elim
 | cons v r =>
   cases r with
   |cons _ _=>exact hv.2.elim
   | nil =>
     have hv1:v = .int .u64 n:=hv.1;subst hv1;exact⟨.float .f64 (n:Int).toNat,w,(),rfl,a0E.refl w,⟨_,rfl,.inl rfl⟩⟩
@[reducible] def unJ:Ty->Ty
 |.jnk => .flt .f32
 |.slice t => .slice (unJ t)
 |.cons a b => .cons (unJ a) (unJ b)
 |.bool => .bool
 |.int k => .int k
 |.flt k => .flt k
 |.cpx k => .cpx k
 |.str => .str
 |.nil => .nil
def shp:(t:Ty)->Den (unJ t)->Den t
 |.jnk,_=>()
 |.slice t,l=>List.map (shp t) l
 |.cons a b,p=>(shp a p.1,shp b p.2)
 |.bool,x=>x
 |.int _,x=>x
 |.flt _,x=>x
 |.cpx _,x=>x
 |.str,x=>x
 |.nil,x=>x
theorem d7U:∀t,(unJ t).size=t.size:=by
 intro t
 induction t with
 |cons a b iha ihb=>simp[Ty.size,iha,ihb]
 |_=>rfl
theorem e5f (t:Ty):(unJ t).isJ=false:=by cases t<;>rfl
def noJ:Ty->Bool
 |.jnk=>false
 |.slice t=>noJ t
 |.cons a b=>noJ a&&noJ b
 |_=>true
theorem b4q {t:Ty} (h:noJ t=true):t.isJ=false:=by
 cases t with
 |jnk=>simp[noJ]at h
 |_=>rfl
def a7F (K K':Ks):Prop:=∀x arr,K x=some (false,arr)->K' x=some (false,arr)
theorem DR.clean {K K':Ks} (h:a7F K K'):∀(t:Ty) {x:Den t} {vs:List Value},noJ t=true->DR K t x vs->DR K' t x vs:=by
 intro t
 induction t with
 | slice t ih =>
   rintro x vs hj ⟨a,n,c,e,hn,hc,hr⟩;have hj:noJ t=true:=hj;refine⟨a,n,c,e,hn,hc,hr.imp id ?_⟩;rintro⟨b,o,arr,ha,hb,hi⟩;rw[b4q hj]at hb;exact⟨b,o,arr,ha,by rw[b4q hj];exact h _ _ hb,fun i hl=>ih hj (hi i hl)⟩
 | cons a b iha ihb =>
   rintro x vs hj ⟨v1,v2,e,h1,h2⟩;simp only[noJ,and_eq_true]at hj;exact⟨v1,v2,e,iha hj.1 h1,ihb hj.2 h2⟩
 |jnk=>intro x vs hj;simp[noJ]at hj
 |_=>exact fun _ h=>h
theorem e5g {α γ:Type} {R:α->γ->Nat->Prop} (x:List γ) (h:∀i (hi:i<x.length),∃y,R y x[i] i):∃l:List α,l.length=x.length /\ ∀i (h1:i<l.length) (h2:i<x.length),R l[i] x[i] i:=by
 refine⟨List.ofFn fun i:Fin x.length=>(h i.1 i.2).choose,by simp,fun i h1 h2=>?_⟩;rw[List.getElem_ofFn];exact(h i h2).choose_spec
theorem DR.told {K Kf:Ks} {w:World} (hk:KOK K w) (h:∀x z,K x=some z->∃cur T fz,Kf x=some (false,cur) /\ w.heap[x]?=some (.cells cur T fz)) :
 ∀(t:Ty) {x:Den t} {vs:List Value},DR K t x vs->∃x':Den (unJ t),shp t x'=x /\ DR Kf (unJ t) x' vs:=by
 intro t
 induction t with
 | slice t ih =>
   rintro x vs ⟨a,n,c,rfl,hn,hc,hr⟩;rcases hr with h0|⟨b,o,arr,ha,hb,hi⟩
   ·have hx:x=[]:=List.eq_nil_of_length_eq_zero (by omega);subst hx;exact⟨([]:List (Den (unJ t))),rfl,a,n,c,rfl,hn,hc,.inl h0⟩
   ·obtain⟨cur,T,fz,hh,hsz,hs⟩:=hk.see hb;obtain⟨cur',T',fz',hf,hh'⟩:=h b _ hb;rw[hh]at hh';cases hh';obtain⟨l,hl,hR⟩:=e5g (R:=fun(y:Den (unJ t)) (z:Den t) i=>shp t y=z /\ DR Kf (unJ t) y (sub cur.toList (o+i*t.size) t.size)) x fun i hix=>ih (hs _ _ (hi i hix))
    refine⟨l,?_,a,n,c,rfl,by rw[hl];exact hn,hc,.inr ⟨b,o,cur,ha,by rw[e5f];exact hf,fun i hil=>?_⟩⟩
    ·show List.map (shp t) l=x;refine List.ext_getElem (by simpa using hl) fun i h1 h2=>?_
     rw[List.getElem_map];exact(hR i (by simpa using h1) h2).1
    ·rw[d7U];exact(hR i hil (by rw[<- hl];exact hil)).2
 | cons a b iha ihb =>
   rintro x vs ⟨v1,v2,e,h1,h2⟩;obtain⟨x1,e1,d1⟩:=iha h1;obtain⟨x2,e2,d2⟩:=ihb h2;exact⟨(x1,x2),by show(shp a x1,shp b x2)=x;rw[e1,e2],v1,v2,e,d1,d2⟩
 | jnk =>
   rintro x vs ⟨n,rfl⟩;exact⟨n,rfl,n,rfl,.inl rfl⟩
 |_=>exact fun{x vs} h=>⟨x,rfl,h⟩
theorem f7r {β:Bt} {K:Ks}:∀(t:Ty) {x:Den t} {vs:List Value},All2 (CR β K) (AM.enc t x) vs->DR K t x vs:=by
 intro t;have one:∀{c:C} {vs:List Value},All2 (CR β K) [c] vs->∃v,vs=[v] /\ CR β K c v:=fun{c vs} h=>by
  cases vs with
  |nil=>exact h.elim
  | cons v vs=>cases vs with
    |nil=>exact⟨v,rfl,h.1⟩
    |cons _ _=>exact h.2.elim
 induction t with
 | cons a b iha ihb =>
   intro x vs h;obtain⟨v1,v2,rfl,h1,h2⟩:=All2.split h;exact⟨v1,v2,rfl,iha h1,ihb h2⟩
 | nil =>
   intro x vs h;cases vs with
   |nil=>rfl
   |cons _ _=>exact h.elim
 |bool=>intro x vs h;obtain⟨v,rfl,h2⟩:=one h;rw[show v=_ from h2];rfl
 |int k=>intro x vs h;obtain⟨v,rfl,h2⟩:=one h;rw[show v=_ from h2];rfl
 |flt k=>intro x vs h;obtain⟨v,rfl,b,rfl,h2⟩:=one h;exact⟨b,rfl,h2⟩
 |cpx k=>intro x vs h;obtain⟨v,rfl,a,b,rfl,h2⟩:=one h;exact⟨a,b,rfl,h2⟩
 |str=>intro x vs h;obtain⟨v,rfl,h2⟩:=one h;rw[show v=_ from h2];rfl
 |slice t ih=>intro x vs h;obtain⟨v,rfl,h2⟩:=one h;exact h2
 |jnk=>intro x vs h;obtain⟨v,rfl,n,rfl⟩:=one h;exact⟨n,rfl⟩
theorem CRs.clean0 {β:Bt} {K K':Ks}:∀{vs:List Value},All2 (CR β K) [] vs->All2 (CR β K') [] vs
 |[],_=>trivial
 |_::_,h=>h.elim
theorem WR.told {K Kf:Ks} {w:World} {β:Bt} (hk:KOK K w) (h:∀x z,K x=some z->∃cur T fz,Kf x=some (false,cur) /\ w.heap[x]?=some (.cells cur T fz)) {t:Ty} {x:Den t} {v:Value}
 (hv:WR β K (e4S t x) v):∃x':Den (unJ t),shp t x'=x /\ WR β Kf (e4S (unJ t) x') v:=by
 cases t with
 | slice t =>
   obtain⟨x',e,d⟩:=DR.told hk h (.slice t) (show DR K (.slice t) x [v]from hv);exact⟨x',e,d⟩
 | cons a b =>
   obtain⟨arr,rfl,ha⟩:=hv;obtain⟨x',e,d⟩:=DR.told hk h (.cons a b) (f7r (.cons a b) ha);exact⟨x',e,arr,rfl,DR.enc (unJ (.cons a b)) d⟩
 | jnk =>
   obtain⟨n,rfl⟩:=hv;exact⟨n,rfl,n,rfl,.inl rfl⟩
 | nil =>
   obtain⟨arr,rfl,ha⟩:=hv;exact⟨x,rfl,arr,rfl,CRs.clean0 ha⟩
 |_=>exact⟨x,rfl,hv⟩
@[reducible] def unK:Kn->Kn
 |.val t => .val (unJ t)
 |k=>k
def g5d:(k:Kn)->(unK k).den->k.den
 |.val t,x=>shp t x
 |.own _ _,x=>x
 |.ptr _,x=>x
 |.mix _,x=>x
 |.fnv _ _,x=>x
@[reducible] def c4F:List Kn->List Kn
 |[]=>[]
 |k::r=>unK k::c4F r
def c7N:(l:List Kn)->a6o (c4F l)->a6o l
 |[],x=>x
 |k::r,x=>(g5d k x.1,c7N r x.2)
def b9d:Kn->Bool
 |.val _=>true
 |_=>false
@[reducible] def unO (O:Sg):Sg:=⟨c4F O.ws,O.bs⟩
def e9M (O:Sg) (y:(unO O).den):O.den:=(c7N O.ws y.1,y.2)
theorem b9e {K Kf:Ks} {w:World} {β:Bt} (hk:KOK K w) (h:∀x z,K x=some z->∃cur T fz,Kf x=some (false,cur) /\ w.heap[x]?=some (.cells cur T fz)) :
 ∀{l:List Kn} (hl:l.all b9d=true) {x:a6o l} {vs:List Value},All2 (WR β K) (a3n l x) vs->∃x':a6o (c4F l),c7N l x'=x /\ All2 (WR β Kf) (a3n (c4F l) x') vs
 |[],_,x,[],hv=>⟨x,rfl,trivial⟩
 |[],_,x,_::_,hv=>hv.elim
 |.val t::r,hl,x,[],hv=>hv.elim
 | .val t::r,hl,x,v::vs,hv=>by
   obtain⟨x1,e1,d1⟩:=WR.told hk h hv.1;obtain⟨x2,e2,d2⟩:=b9e hk h (l:=r) (by simpa[b9d]using hl) hv.2;exact⟨(x1,x2),by show(shp t x1,c7N r x2)=x;rw[e1,e2],d1,d2⟩
 |.own _ _::r,hl,_,_,_=>by simp[b9d]at hl
 |.ptr _::r,hl,_,_,_=>by simp[b9d]at hl
 |.mix _::r,hl,_,_,_=>by simp[b9d]at hl
 |.fnv _ _::r,hl,_,_,_=>by simp[b9d]at hl
theorem b0Z:∀(l:List Kn) (x:a6o l),(a3n l x).length=l.length
 |[],_=>rfl
 |k::r,x=>by simp[a3n,b0Z r]
theorem c4G:∀(l:List Kn),(c4F l).length=l.length
 |[]=>rfl
 |k::r=>by simp[c4G r]
theorem a8h.told {K Kf:Ks} {w:World} {β:Bt} (hk:KOK K w) (h:∀x z,K x=some z->∃cur T fz,Kf x=some (false,cur) /\ w.heap[x]?=some (.cells cur T fz)) {l:List Kn} (hl:l.all b9d=true) {x:a6o l} {v:Value}
 (hv:a8h β K (a3n l x) v):∃x':a6o (c4F l),c7N l x'=x /\ a8h β Kf (a3n (c4F l) x') v:=by
 have key:=fun(vs:List Value)=>b9e (β:=β) hk h hl (x:=x) (vs:=vs)
 have hlen:∀x':a6o (c4F l),(a3n (c4F l) x').length=(a3n l x).length:=fun x'=>by rw[b0Z,b0Z,c4G]
 unfold a8h at hv ⊢;generalize a3n l x=us at hv key hlen
 match us,hv,key,hlen with
 | [],hv,key,hlen =>
   obtain⟨arr,e,ha⟩:=hv;obtain⟨x',e1,d⟩:=key arr.toList ha;refine⟨x',e1,?_⟩;have:=hlen x';generalize a3n (c4F l) x'=us' at d this ⊢
   match us',d,this with
   |[],d,_=>exact⟨arr,e,d⟩
 | [u],hv,key,hlen =>
   obtain⟨x',e1,d⟩:=key [v] ⟨hv,trivial⟩;refine⟨x',e1,?_⟩;have:=hlen x';generalize a3n (c4F l) x'=us' at d this ⊢
   match us',d,this with
   |[u'],d,_=>exact d.1
 | u::u2::us,hv,key,hlen =>
   obtain⟨arr,e,ha⟩:=hv;obtain⟨x',e1,d⟩:=key arr.toList ha;refine⟨x',e1,?_⟩;have:=hlen x';generalize a3n (c4F l) x'=us' at d this ⊢
   match us',d,this with
   |y::y2::ys,d,_=>exact⟨arr,e,d⟩
def f4A:C->Bool
 |.sl t _=>noJ t
 |.rptr t _ _ _=>noJ t
 |_=>true
def f4B (u:W):Bool:=u.cells.all f4A
def e9N:Blk->Bool
 |.box cs=>cs.all f4A
 |.arr t _=>noJ t
def f7s:Option Blk->Bool
 |some b=>e9N b
 |none=>true
theorem CR.clean {β:Bt} {K K':Ks} (h:a7F K K') {c:C} (hc:f4A c=true) {v:Value} (hv:CR β K c v):CR β K' c v:=by
 cases c with
 |sl t l=>exact DR.clean h (.slice t) hc hv
 | rptr t l i o =>
   have hj:noJ t=true:=hc;obtain⟨hi,b,o',arr,h1,h2,h3⟩:=hv;rw[b4q hj]at h1;exact⟨hi,b,o',arr,by rw[b4q hj];exact h _ _ h1,fun j hjj=>DR.clean h t hj (h2 j hjj),h3⟩
 |_=>exact hv
theorem CRs.clean {β:Bt} {K K':Ks} (h:a7F K K'):∀{cs:List C} {vs:List Value},cs.all f4A=true->All2 (CR β K) cs vs->All2 (CR β K') cs vs
 |[],[],_,hv=>hv
 | c::cs,v::vs,hc,hv=>by
   simp only[List.all_cons,and_eq_true]at hc;exact⟨CR.clean h hc.1 hv.1,CRs.clean h hc.2 hv.2⟩
 |[],_::_,_,hv=>hv.elim
 |_::_,[],_,hv=>hv.elim
theorem WR.clean {β:Bt} {K K':Ks} (h:a7F K K') {u:W} (hc:f4B u=true) {v:Value} (hv:WR β K u v):WR β K' u v:=by
 cases u with
 |one c=>exact CR.clean h (by simpa[f4B,W.cells]using hc) hv
 |agg cs=>obtain⟨arr,e,ha⟩:=hv;exact⟨arr,e,CRs.clean h hc ha⟩
theorem WRs.clean {β:Bt} {K K':Ks} (h:a7F K K'):∀{us:List W} {vs:List Value},us.all f4B=true->All2 (WR β K) us vs->All2 (WR β K') us vs
 |[],[],_,hv=>hv
 | c::cs,v::vs,hc,hv=>by
   simp only[List.all_cons,and_eq_true]at hc;exact⟨WR.clean h hc.1 hv.1,WRs.clean h hc.2 hv.2⟩
 |[],_::_,_,hv=>hv.elim
 |_::_,[],_,hv=>hv.elim
theorem BR.clean {β:Bt} {K K':Ks} (h:a7F K K') {b:Blk} (hc:e9N b=true) {y:Hd} {w:World} (hr:BR β K b y w):BR β K' b y w:=by
 cases b with
 |box cs=>obtain⟨x,arr,T,e,hh,ha⟩:=hr;exact⟨x,arr,T,e,hh,CRs.clean h hc ha⟩
 | arr t l =>
   rcases hr with hr|⟨x,cap,cur,T,e,hh,h1,h2,h3,h4⟩
   ·exact .inl hr
   ·exact .inr ⟨x,cap,cur,T,e,hh,h1,h2,h3,fun i hi=>DR.clean h t hc (h4 i hi)⟩
theorem MR.clean {β:Bt} {K K':Ks} {get:Get} {w:World} (hm:MR β K get w) (h:a7F K K') (hb:∀k b,get k=some b->e9N b=true) (hro:∀x,Own β get x->K' x=none):MR β K' get w:=
 ⟨fun k b e=>by
  obtain⟨y,h1,h2⟩:=hm.blk k b e;exact⟨y,h1,h2.clean h (hb k b e)⟩,hm.sep,fun k b y x e f g=>hro x ⟨k,b,y,e,f,g⟩⟩
theorem c4H {os:List (Option Blk)} (h:os.all f7s=true):∀k b,a2r os k=some b->e9N b=true:=by
 intro k b e;unfold a2r at e;cases hq:os[k]? with
 |none=>rw[hq]at e;cases e
 | some o =>
   rw[hq]at e;have e:o=some b:=e;have:=List.all_eq_true.1 h o (List.mem_of_getElem? hq);rw[e]at this;exact this
section
variable {P:Program} {Γ:Env} {N:a9F}
theorem e9O (env:a1F P Γ) (hN:NOK P N) {f:Nat} {c:Code} (hf:a6z P f Γ c) (hNL:a3p Γ N c) {own:Bool} {I O:Sg} {ok:I.den->Bool} {Q:I.den->O.den->Prop} {hne:Nonempty (Ch I (unO O) ok fun x y=>Q x (e9M O y))}
 (hv0:O.ws.all b9d=true) (nI1:∀x,(a3n I.ws x).all f4B=true) (nI2:∀x,(a3X I.bs x).all f7s=true) (nO:∀y,(a3X O.bs y).all f7s=true)
 (h:∀x,ok x=true->∀k:O.den->Option Unit,(∀y,Q x y->k y=some ())->a3A Γ N c I O k x=some ()):a2V P f (a3B own I (unO O) ok (fun x y=>Q x (e9M O y)) hne):=by
 classical
 refine⟨fun _=>rfl,?_⟩;intro args ins hruns β0 K0 w0 vs hk hm hfr hv;obtain⟨g0⟩:=hne;obtain⟨rs0,outs0,hrun⟩:=hruns g0;simp only[a3B,a0j,c7H]at hrun;split at hrun
 case h_2=>cases hrun
 rename_i x hx;split at hx
 case h_2=>cases hx
 rename_i x1 hx1;split at hx
 case h_2=>cases hx
 rename_i x2 hx2;cases hx;split at hrun
 case h_2=>cases hrun
 rename_i ins' hins';simp only[injEq,Prod.mk.injEq]at hrun;obtain⟨hok,_,_⟩:=hrun;obtain⟨hl1,hg1⟩:=a3o hx2;obtain⟨hl2,hg2⟩:=a5D hins';rw[a7z]at hg1;rw[<- hg2]at hg1;have hlen:ins'.length=ins.length:=by rw[hl2,hl1];simp
 have he:=h (x1,x2) hok (fun y=>if Q (x1,x2) y then some ()else none) (fun y hy=>if_pos hy);simp only[a3A,hins']at he;obtain⟨K0',hK0'⟩:∃K0':Ks,K0'=fun x=>match K0 x with|some (false,arr)=>some (false,arr)|_=>none:=⟨_,rfl⟩
 have hc0:a7F K0 K0':=fun x arr e=>by rw[hK0'];dsimp only;rw[e]
 have hc1:∀x z,K0' x=some z->K0 x=some z /\ z.1=false:=fun x z e=>by
  rw[hK0']at e;dsimp only at e;split at e
  ·rename_i arr ha;cases e;exact⟨ha,rfl⟩
  ·cases e
 have hmL:MR β0 K0 (a2t ins') w0:=hm.lax hg1;have hb1:∀k b,a2t ins' k=some b->e9N b=true:=by
  intro k b e;rw[hg2]at e;exact c4H (nI2 x2) k b e
 have hk':KOK K0' w0:=⟨fun x z e=>hk.ato x z (hc1 x z e).1,by
  obtain⟨m,hm⟩:=hk.gk;exact⟨m,fun x hx=>hc0 _ _ (hm x hx)⟩⟩
 have hro0:∀x,Own β0 (a2t ins') x->K0' x=none:=by
  rintro x ⟨k,b,y,e,f,g⟩;cases hq:K0' x with
  |none=>rfl
  | some z =>
    have:=(hc1 x z hq).1;rw[hmL.ro k b y x e f g]at this;cases this
 have hm':MR β0 K0' (a2t ins') w0:=hmL.clean hc0 hb1 hro0;have hv':=WRs.clean hc0 (nI1 x1) (a6d hx1 hv);refine .inl ⟨hf.ok,(a6e env hN hf hNL he hk' hm' (fun k hk=>hfr k (by omega)) hv').mono ?_⟩;rintro e w' ⟨v,β,K,rs',outs',rfl,hg,hR⟩;simp only[f4z]at hg;split at hg
 case h_2=>cases hg
 rename_i y hy;split at hg
 case isFalse=>cases hg
 rename_i hQ;simp only[c7H]at hy;split at hy
 case h_2=>cases hy
 rename_i y1 hy1;split at hy
 case h_2=>cases hy
 rename_i y2 hy2;cases hy;obtain⟨hl3,hg3⟩:=a3o hy2;have hl3':(a3X O.bs (y1,y2).2).length=outs'.length:=hl3;have hown:∀b,Own β0 (a2t ins') b->Own β0 (a2t ins) b:=fun b hb=>hb.lax hg1
 have hownK:∀x,Own β0 (a2t ins') x->K0 x=none:=by
  rintro x ⟨k,b,y,e,f,g⟩;exact hmL.ro k b y x e f g
 obtain⟨Kf,hKf⟩:∃Kf:Ks,Kf=fun x=>match K0 x with
  |some z=>some z
  | none=>match K x with
    | some _=>match w'.heap[x]? with
      |some (.cells cur _ _)=>some (false,cur)
      |_=>none
    |none=>none:=⟨_,rfl⟩
 have hKf1:∀x z,K0 x=some z->Kf x=some z:=fun x z e=>by rw[hKf];dsimp only;rw[e]
 have told:∀x z,K x=some z->∃cur T fz,Kf x=some (false,cur) /\ w'.heap[x]?=some (.cells cur T fz):=by
  intro x z e;obtain⟨cur,T,fz,hh,h1,h2⟩:=hR.kok.ato x z e;refine⟨cur,T,fz,?_,hh⟩;cases hq:K0 x with
  | none =>
    rw[hKf];dsimp only;rw[hq];dsimp only;rw[e];dsimp only;rw[hh]
  | some q =>
    rw[hKf1 x q hq];rcases hR.knew x z e with h3|h3|h3
    ·obtain⟨h4,h5⟩:=hc1 x z h3;have h6:q=z:=Option.some.inj (hq.symm.trans h4);rw[h6,h1 h5];show some z=some (false,z.2);rw[<- h5]
    ·rw[hownK x h3]at hq;cases hq
    ·have:=hk.lt hq;omega
 have cleanf:a7F K Kf:=by
  intro x arr e;obtain⟨cur,T,fz,h1,h2⟩:=told x _ e;obtain⟨cur',T',fz',h3,h4,_⟩:=hR.kok.ato x _ e;rw[h2]at h3;cases h3;rw[h1,h4 rfl]
 have hfr':Fr (e1y β0 K0 (a2t ins)) w0 w':=⟨hR.fr.os,hR.fr.tape,hR.fr.output,hR.fr.size,fun b hb hn=>hR.fr.block b hb fun h1=>h1.elim (fun h1=>hn (.inl (hown b h1))) fun⟨arr,h1⟩=>by
  have:=(hc1 b _ h1).2;cases this⟩
 have hkokf:KOK Kf w':=by
  refine⟨?_,hk.gk.mono hKf1⟩;intro x z e;cases hq:K0 x with
  | some q =>
    rw[hKf1 x q hq]at e;have e':=Option.some.inj e;subst e';obtain⟨fl,arr⟩:=q;cases fl with
    |false=>exact hR.kok.ato x _ (hR.kle x _ (hc0 x arr hq))
    | true =>
      have hn:¬e1y β0 K0' (a2t ins') x:=by
       rintro(h1|⟨arr',h1⟩)
       ·rw[hownK x h1]at hq;cases hq
       ·have:=(hc1 x _ h1).2;cases this
      rw[hR.fr.block x (hk.lt hq) hn];exact hk.ato x _ hq
  | none =>
    rw[hKf]at e;dsimp only at e;rw[hq]at e;dsimp only at e;split at e
    ·split at e
     ·rename_i cur T fz hh;cases e;exact⟨cur,T,fz,hh,KOK.self fun e=>by cases e⟩
     ·cases e
    ·cases e
 obtain⟨y1',e1,d1⟩:=a8h.told (β:=β) hR.kok told hv0 (a7A hy1 hR.out);have hmo:MR β Kf (a2r (a3X O.bs y2)) w':=by
  have h1:MR β K (a2r (a3X O.bs y2)) w':=hR.mr.lax hg3;refine h1.clean cleanf (c4H (nO y2)) fun x hx=>?_
  have h2:K x=none:=by
   obtain⟨k,b,y,e,f,g⟩:=hx;exact h1.ro k b y x e f g
  cases hq:K0 x with
  |none=>rw[hKf];dsimp only;rw[hq];dsimp only;rw[h2]
  | some q =>
    rcases hR.own x (hx.lax hg3)with h3|h3
    ·rw[hownK x h3]at hq;cases hq
    ·have:=hk.lt hq;omega
 refine⟨⟨fun x=>if x=(x1,x2)then(y1',y2)else g0.1 x,fun x hx=>?_⟩,a3n (c4F O.ws) y1',a3X O.bs y2,v,β,Kf,?_,rfl,⟨hKf1,hkokf,fun b arr e=>?_,hmo,fun k hk=>hR.fresh k (by simp only at hk hl3';omega),d1,hfr',fun x hx=>?_,hR.ble,?_⟩⟩
 ·dsimp only;split
  ·rename_i e;rw[e];show Q (x1,x2) (c7N O.ws y1',y2);rw[e1];exact hQ
  ·exact g0.2 x hx
 ·simp only[a3B,a0j,c7H,hx1,hx2,hins',hok,if_pos]
 ·cases hq:K0 b with
  |some q=>rw[hKf1 b q hq]at e;cases e;exact .inl rfl
  | none =>
    rw[hKf]at e;dsimp only at e;rw[hq]at e;dsimp only at e;split at e
    ·rename_i z hz;rcases hR.knew b z hz with h1|h1|h1
     ·rw[(hc1 b z h1).1]at hq;cases hq
     ·exact .inr (.inl (hown b h1))
     ·exact .inr (.inr h1)
    ·cases e
 ·rcases hR.own x (hx.lax hg3)with h1|h1
  ·exact .inl (hown x h1)
  ·exact .inr h1
 ·have:=hR.le;simp only at hl3' ⊢;omega
end
end Go.Proofs.YtjomnmoekchfeaaGreatDoor.AM
namespace Go.Proofs.YtjomnmoekchfeaaGreatDoor.Card
open Go Go.Proofs Go.ChangeShapes Go.WideShapes Go.ChangeAt Go.RowKit Go.Proofs.YtjomnmoekchfeaaGreatDoor.AM
set_option maxRecDepth 100000
theorem own:ownKnob Tryz.prog.godebug=none:=by kernel_rfl
theorem e5h:laidOutB Tryz.prog=true:=by kernel_rfl
theorem gP:Tryz.prog.globalNamed "internal/strconv.uint64pow10" = some 2:=by kernel_rfl
noncomputable def d0V:List (String×DataW Unit):=Rows.fnSecondsSailedRow.laid
def g5e:DataW Unit->Value
 |.lit (.int k n) => .int k n
 |_ => .bool false
def d7V:Array Value:=match Go.Pinned.utf8First with
 |.agg l=>(l.map g5e).toArray
 |_=>#[]
noncomputable def b9f (os:Os):World:=
 { World.doorLaid Tryz.prog 34 os with heap:=(World.doorLaid Tryz.prog 34 os).heap.modify 3 fun
  |.cells _ t fz => .cells d7V t fz
  |o=>o }
theorem d7W (os:Os) (args:Array Value):laidMetH Tryz.prog d0V ((b9f os).forCall (fun _ _=>0) ⟨#[],args,[]⟩).memory:=
 laidMetH_of_parts3 (fuel:=8) (laidMet_of_run' 8 (by kernel_rfl) (by kernel_rfl)) (by kernel_rfl) (by kernel_rfl)
theorem f7t {H:Type} {enc:TypeId×Value->H} {a:Assume} {C:Checked} {os:Os} {f:FuncId} {fn:Func} {s:ChangeSpec} {conds:List PathCond} {apart fresh handsOn again:Bool} {X:World->Array Value->Prop}
 (hX:∀(w w':World) (args:Array Value),w.heap=w'.heap->X w args->X w' args)
 (own:ownKnob C.prog.godebug=none) (started:os.Started) (noInit:C.prog.inits.idxOf? f=none) (hfn:C.prog.funcs[f]?=some fn)
 (witness:∃(w:World) (tape:Tape) (i:Input),w.os=os /\ (w.forCall tape i).Shaped C.prog /\ i.vars=[] /\ Input.okWide C.prog (w.forCall tape i) .any w.heap.size f i /\
  ((s.pre enc C.prog fn conds apart (w.forCall tape i).memory i.args /\ X (w.forCall tape i).memory i.args) /\ sizedMet enc C.prog fn (OpenSpec.ofChange s) apart (w.forCall tape i).memory i.args) /\ a.holds C.prog (lone (Frame.enter C.prog f i.args .normal) [] (w.forCall tape i)))
 (contract:∀(W:World) (base:Nat) (args:Array Value) (ds gs:List (DataW H)) (before:List MemPlace),
  (∀(j:Nat) t v,fn.params[j]?=some t->args[j]?=some v->Value.okWide C.prog W .any base t v) ->
  DataW.Whole enc C.prog fn.params.toList s.vars apart W args.toList ds gs before ->
  W.ShapedOpen C.prog->X W args ->
  Calls C.prog f args W fun e W'=>∃v,e = .returned v /\ s.post enc C.prog fn apart fresh handsOn again W args v W') :
 ReturnsInHanded a C os f .any (fun w args=>(s.pre enc C.prog fn conds apart w args /\ X w args) /\ sizedMet enc C.prog fn (OpenSpec.ofChange s) apart w args) (s.post enc C.prog fn apart fresh handsOn again):=by
 refine returnsInHanded_of_calls own started noInit witness ?_;intro w tape i _ hsh _ hok hpre hholds;obtain⟨_,_,_,fn',hfn',_,_,_,_,hval⟩:=hok;have e:fn'=fn:=Option.some.inj (hfn'.symm.trans hfn);subst e;obtain⟨⟨⟨ds,gs,before,hw,hc⟩,hx⟩,hz⟩:=hpre;have hw':=DataW.Whole.of_heap (w':=w.forCall tape i) (by rfl) hw;refine(contract (w.forCall tape i) w.heap.size i.args ds gs before hval hw' hsh (hX _ _ _ (by rfl) hx)).mono fun e W' ⟨v,he,hp⟩=>?_
 subst he;exact ChangeSpec.post_blind hp
theorem f7u {W:World} (hsh:W.ShapedOpen Tryz.prog) (hL:laidMetH Tryz.prog d0V W):GK (b4j W):=by
 rw[MakeChecks.laidMetH_plain _ _ _ (by kernel_rfl)]at hL
 have ht:Lib.TabIs Tryz.prog W "internal/strconv.uint64pow10" .u64 ((List.range 20).map fun i=>((10^i:Nat):Int)):=
  Lib.tabIs_of_head (t:=257) (e:=104) (n:=20) gP (by kernel_rfl) (by kernel_rfl) (by kernel_rfl) (by kernel_rfl) (by kernel_rfl) hL.tail.tail
 obtain⟨cs,hh,hs,_⟩:=hsh.1 1 #[.int .i64 0] 3 (of_decide_eq_true (by kernel_rfl)) (by kernel_rfl)
 obtain⟨m,hm⟩:∃m,W.cell? ⟨1,0,none⟩=some (.int .i64 m):=cell_of_shapedOpen_int (t:=3) (zero:=#[.int .i64 0]) hsh (of_decide_eq_true (by kernel_rfl)) (by kernel_rfl) (by kernel_rfl) (by kernel_rfl) (by kernel_rfl) (by kernel_rfl)
 refine⟨m,?_⟩
 unfold e9s
 intro x hx
 simp only[List.mem_cons,List.not_mem_nil,or_false]at hx
 rcases hx with rfl|rfl
 ·unfold b4j
  rw[hh]
  obtain⟨l⟩:=cs
  match l,hs with
  | [v],_ =>
    have:W.cell? ⟨1,0,none⟩=some v:=by
     unfold World.cell?
     rw[hh]
     rfl
    rw[this]at hm
    cases hm
    rfl
 ·unfold Lib.TabIs World.var? at ht
  rw[gP]at ht
  simp only[Option.bind_some]at ht
  unfold b4j
  split at ht
  ·rename_i c T fz h
   cases ht
   rw[h]
   rfl
  ·cases ht
end Go.Proofs.YtjomnmoekchfeaaGreatDoor.Card
