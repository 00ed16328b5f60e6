/- Texts of one proof, joined: an abstract machine for the program, its functions evaluated, plain lemmas. Conditions: those that each lemma names. -/
import Derived.Test.YtjomnmoekchfeaaGreatDoorM1
import Derived.WideShapes
import Derived.ChangeShapes
import Derived.ChangeArms
import Derived.Below
import Derived.IntWalk
import Derived.Test.YtjomnmoekchfeaaGreatDoorRows
import Derived.WalkKit
import Derived.ProofKit
import Derived.OpenShut
import Derived.LaidMore
import Derived.Stop.Joined
import Derived.Stop.LaidErr
import Derived.MakeChecks
import Derived.Shelf.Vars
import Derived.Lib.LaidTab
set_option linter.unusedVariables false
set_option linter.unusedSimpArgs false
namespace Go.Proofs.YtjomnmoekchfeaaGreatDoor.AM
open Bool (and_eq_true)
open Nat (le_refl beq zero_le)
open Option.some (injEq)
open Go
theorem a6p:∀{l:List Nat} {n:Nat},c1D n l=true->∀k∈l,k<n
 |[],_,_,_,h=>by cases h
 | x::r,n,h,k,hk=>by
   simp only[c1D,and_eq_true]at h;rcases List.mem_cons.1 hk with rfl|hk
   ·simpa[Nat.blt_eq]using h.1
   ·exact a6p h.2 k hk
def a2a (β:Bt) (n:Nat):Bt:=fun k=>if k<n then β k else none
theorem a5e {β:Bt} {n k:Nat} (h:k<n):a2a β n k=β k:=if_pos h
theorem d1B {β:Bt} {n k:Nat} (h:n<=k):a2a β n k=none:=if_neg (by omega)
theorem a6q {β:Bt} {n:Nat}:BLe (a2a β n) β:=fun k h e=>by
 unfold a2a at e;split at e
 ·exact e
 ·cases e
theorem PR.below {β:Bt} {n k off:Nat} {v:Value} (hk:k<n) (h:PR β k off v):PR (a2a β n) k off v:=by
 obtain⟨y,b,h1,h2,h3⟩:=h;exact⟨y,b,by rw[a5e hk];exact h1,h2,h3⟩
theorem CR.below {β:Bt} {K:Ks} {n:Nat} {c:C} {v:Value} (hk:∀k∈a0N c,k<n) (h:CR β K c v):CR (a2a β n) K c v:=by
 cases c with
 | ref t k =>
   obtain⟨y,a,m,c,h1,h2⟩:=h;exact⟨y,a,m,c,by rw[a5e (hk k (by simp[a0N]))];exact h1,h2⟩
 |ptr k o=>exact PR.below (hk k (by simp[a0N])) h
 | eptr k t i o =>
   obtain⟨y,a,m,c,h1,h2⟩:=h;exact⟨y,a,m,c,by rw[a5e (hk k (by simp[a0N]))];exact h1,h2⟩
 | fn f caps =>
   obtain⟨cs,h1,h2⟩:=h;exact⟨cs,h1,h2.mono_mem fun k u hm hu=>PR.below (hk k hm) hu⟩
 |aptr k o m j=>exact⟨h.1,PR.below (hk k (by simp[a0N])) h.2⟩
 | aeptr k t i o m j =>
   obtain⟨h0,y,a,q,c,h1,h2⟩:=h;exact⟨h0,y,a,q,c,by rw[a5e (hk k (by simp[a0N]))];exact h1,h2⟩
 | asl t k o m =>
   obtain⟨b,c,h1,h2⟩:=h;exact⟨b,c,PR.below (hk k (by simp[a0N])) h1,h2⟩
 |_=>exact h
theorem WR.below {β:Bt} {K:Ks} {n:Nat} {c:W} {v:Value} (hk:∀k∈a0L c,k<n) (h:WR β K c v):WR (a2a β n) K c v:=by
 cases c with
 |one c=>exact CR.below (fun k hh=>hk k (by simpa[a0L,W.cells]using hh)) h
 | agg cs =>
   obtain⟨arr,e,h⟩:=h;exact⟨arr,e,h.mono_mem fun c u hm hu=>CR.below (fun k hh=>hk k (List.mem_flatMap.2 ⟨c,hm,hh⟩)) hu⟩
theorem VR.below {β:Bt} {K:Ks} {n:Nat} {c:V} {v:Value} (hk:∀k∈a1r c,k<n) (h:VR β K c v):VR (a2a β n) K c v:=by
 cases c with
 |val c=>exact WR.below hk h
 | tup ws =>
   obtain⟨arr,e,h⟩:=h;exact⟨arr,e,h.mono_mem fun c u hm hu=>WR.below (fun k hh=>hk k (List.mem_flatMap.2 ⟨c,hm,hh⟩)) hu⟩
theorem BR.below {β:Bt} {K:Ks} {n:Nat} {b:Blk} {y:Hd} {w:World} (hk:∀k∈e6K (some b),k<n) (h:BR β K b y w):BR (a2a β n) K b y w:=by
 cases b with
 | box cs =>
   obtain⟨x,arr,T,e,hh,h⟩:=h;exact⟨x,arr,T,e,hh,h.mono_mem fun c u hm hu=>CR.below (fun k hh=>hk k (List.mem_flatMap.2 ⟨c,hm,hh⟩)) hu⟩
 |arr t l=>exact h
theorem a5P {β:Bt} {K:Ks} {v:Value}:VR β K pois v:=trivial
structure e6Q (β:Bt) (K:Ks) (get:Get) (n:Nat) (w:World) (out:Out) (v:Value) (w':World) (β':Bt) (K':Ks):Prop where
 ble:BLe β β'
 kle:KLe K K'
 kok:KOK K' w'
 vr:VR β' K' out.v v
 mr:MR β' K' (a4O out.upd get) w'
 dom:∀k,β' k≠none->β k≠none∨(n<=k /\ k<out.n)
 fr:Fr (e0E β K get) w w'
 own:∀x,Own β' (a4O out.upd get) x->Own β get x∨w.heap.size<=x
 knew:∀b arr,K' b=some arr->K b=some arr∨Own β get b∨w.heap.size<=b
theorem Own.mono {β β':Bt} {get get':Get} (hb:BLe β β') (hg:∀k b,get k=some b->get' k=some b) {x:Nat} (h:Own β get x):Own β' get' x:=by
 obtain⟨k,b,y,e,f,g⟩:=h;exact⟨k,b,y,hg _ _ e,hb _ _ f,g⟩
theorem Fr.mono {S S':Nat->Prop} {a b:World} (h:Fr S a b) (hs:∀x,S x->S' x):Fr S' a b:=
 ⟨h.os,h.tape,h.output,h.size,fun k hk hn=>h.block k hk fun e=>hn (hs k e)⟩
section
variable {P:Program} {Γ:Env} {β:Bt} {K:Ks} {w:World} {a:Act} {o:Oper}
theorem c3Y {ι:Type} (inh:Nonempty ι) {ρ:Operand->V} {G Gc:Get} {n:Nat} {out:ι->Out} (env:a1g P Γ)
 (hstep:∀(ρr:Operand->V) (Gr:Get),(∀x∈o.op.operands,ρ x=ρr x)->(∀k∈a8d o ρ G,G k=Gr k)->Pre P Γ (a2a β n) K Gr n w ρr a->a0m P o a w (fun v w'=>∃z,a0Q (a2a β n) K Gr n w (out z) v w'))
 (hkb:∀z,d1i o ρ G n (out z).n=true)
 (hg:∀k∈a8d o ρ G,Gc k=G k) (kok:KOK K w) (mr:MR β K Gc w) (fresh:∀z k,n<=k->k<(out z).n->β k=none) (val:∀x∈o.op.operands,VR β K (ρ x) (a.eval x)) :
 a0m P o a w (fun v w'=>∃z β' K',e6Q β K Gc n w (out z) v w' β' K'):=by
 classical
 obtain⟨z0⟩:=inh;have hkb0:=hkb z0;simp only[d1i,and_eq_true]at hkb0;obtain⟨⟨⟨_,k2⟩,k3⟩,k4⟩:=hkb0;have k2:=a6p k2;have k3:=a6p k3;have k4:=a6p k4;obtain⟨ρr,hρ⟩:∃ρr:Operand->V,ρr=fun x=>if x∈o.op.operands then ρ x else pois:=⟨_,rfl⟩
 obtain⟨Gr,hG⟩:∃Gr:Get,Gr=fun k=>if k∈a8d o ρ G then G k else none:=⟨_,rfl⟩
 have eρ:∀x∈o.op.operands,ρ x=ρr x:=fun x hx=>by rw[hρ];dsimp only;rw[if_pos hx]
 have eG:∀k∈a8d o ρ G,G k=Gr k:=fun k hk=>by rw[hG];dsimp only;rw[if_pos hk]
 have hGr:∀k b,Gr k=some b->k∈a8d o ρ G /\ G k=some b /\ Gc k=some b /\ k<n:=by
  intro k b e;rw[hG]at e;dsimp only at e;split at e
  ·rename_i hk;exact⟨hk,e,by rw[hg k hk];exact e,k3 k hk⟩
  ·cases e
 have hpre:Pre P Γ (a2a β n) K Gr n w ρr a:=by
  refine⟨env,kok,⟨?_,?_,?_⟩,fun k hk=>d1B hk,?_⟩
  ·intro k b e;obtain⟨h1,h2,h3,h4⟩:=hGr k b e;obtain⟨y,hy,hbr⟩:=mr.blk k b h3;refine⟨y,by rw[a5e h4];exact hy,hbr.below fun j hj=>k4 j (List.mem_flatMap.2 ⟨k,h1,?_⟩)⟩;rw[h2];exact hj
  ·intro k k' b b' y y' x e e' f f' g g';exact mr.sep k k' b b' y y' x (hGr k b e).2.2.1 (hGr k' b' e').2.2.1 (a6q _ _ f) (a6q _ _ f') g g'
  ·intro k b y x e f g;exact mr.ro k b y x (hGr k b e).2.2.1 (a6q _ _ f) g
  ·intro x;rw[hρ];dsimp only;split
   ·rename_i hx;exact(val x hx).below fun k hk=>k2 k (List.mem_flatMap.2 ⟨x,by simpa using hx,hk⟩)
   ·exact a5P
 have hstep:=hstep ρr Gr eρ eG hpre;intro next Q hn;refine hstep next Q fun v w' hp=>hn v w' ?_
 obtain⟨z,β1,K1,hp⟩:=hp;have fresh:=fresh z;have k1:n<=(out z).n:=by
  have:=hkb z;simp only[d1i,and_eq_true]at this;simpa using this.1.1.1
 refine⟨z,?_⟩;generalize out z=out at *;have hownr:∀x,Own (a2a β n) Gr x->∃k b y,k∈a8d o ρ G /\ Gc k=some b /\ β k=some y /\ y.b=some x:=by
  rintro x ⟨k,b,y,e,f,g⟩;exact⟨k,b,y,(hGr k b e).1,(hGr k b e).2.2.1,a6q _ _ f,g⟩
 have hnot:∀k b y x,Gc k=some b->β k=some y->y.b=some x->k ∉ a8d o ρ G->¬Own (a2a β n) Gr x:=by
  intro k b y x e f g hk hx;obtain⟨k',b',y',h1,h2,h3,h4⟩:=hownr x hx;have:=mr.sep k k' b b' y y' x e h2 f h3 g h4;subst this;exact hk h1
 obtain⟨β2,hβ2⟩:∃β2:Bt,β2=fun k=>match β k with|some y=>some y|none=>if n<=k /\ k<out.n then β1 k else none:=⟨_,rfl⟩
 have hle:BLe β β2:=fun k y e=>by rw[hβ2];dsimp only;rw[e]
 have hle1:BLe β1 β2:=by
  intro k y e;have hlt:k<out.n:=by
   rcases Nat.lt_or_ge k out.n with h1|h1
   ·exact h1
   ·rw[hp.fresh k h1]at e;cases e
  rcases Nat.lt_or_ge k n with h1|h1
  ·rw[hp.dom k h1,a5e h1]at e;exact hle _ _ e
  ·rw[hβ2];dsimp only;rw[fresh k h1 hlt];dsimp only;rw[if_pos ⟨h1,hlt⟩];exact e
 have hcase:∀k b,a4O out.upd Gc k=some b->a4O out.upd Gr k=some b∨(k ∉ a8d o ρ G /\ Gc k=some b):=by
  intro k b e;unfold a4O at e ⊢;cases hq:a1D out.upd k with
  |some x=>rw[hq]at e;left;exact e
  | none =>
    rw[hq]at e;dsimp only at e ⊢;by_cases hk:k∈a8d o ρ G
    ·left;rw[hG];dsimp only;rw[if_pos hk,<- hg k hk];exact e
    ·exact .inr ⟨hk,e⟩
 have hold:∀k b y x,Gc k=some b->β k=some y->y.b=some x->k ∉ a8d o ρ G->w'.heap[x]?=w.heap[x]? /\ K1 x=none:=by
  intro k b y x e f g hk;have hx:=mr.lt ⟨k,b,y,e,f,g⟩;have hno:=hnot k b y x e f g hk;have hnj:¬Jk K x:=mr.nj e f g;refine⟨hp.fr.block x hx fun h1=>h1.elim hno hnj,?_⟩;cases hq:K1 x with
  |none=>rfl
  | some arr =>
    rcases hp.knew x arr hq with h1|h1|h1
    ·rw[mr.ro k b y x e f g]at h1;cases h1
    ·exact absurd h1 hno
    ·omega
 have hβ:∀k b y,Gc k=some b->β2 k=some y->β k=some y:=by
  intro k b y e f;obtain⟨z,hz,_⟩:=mr.blk k b e;have:=hle _ _ hz;rw[f]at this;cases this;exact hz
 refine⟨β2,K1,hle,hp.kle,hp.kok,hp.vr.mono hle1 (KLe.refl _),?_,?_,hp.fr.mono fun x hx=>hx.imp (fun hx=>hx.mono a6q fun k b e=>(hGr k b e).2.2.1) id,?_,fun b arr e=>?_⟩
 ·refine mr.step hle hp.kle ?_;intro k b e;rcases hcase k b e with h1|⟨h1,h2⟩
  ·right;obtain⟨y,hy,hbr⟩:=hp.mr.blk k b h1;refine⟨y,hle1 _ _ hy,hbr.mono hle1 (KLe.refl _),fun x hx=>⟨hp.mr.ro k b y x h1 hy hx,fun k' b' y' e' f' g'=>?_⟩⟩;rcases hcase k' b' e' with h1'|⟨h1',h2'⟩
   ·obtain⟨z,hz,_⟩:=hp.mr.blk k' b' h1';have:=hle1 _ _ hz;rw[f']at this;cases this;exact hp.mr.sep k' k b' b y' y x h1' h1 hz hy g' hx
   ·exfalso;have f2:=hβ k' b' y' h2' f';rcases hp.own x ⟨k,b,y,h1,hy,hx⟩with h5|h5
    ·exact hnot k' b' y' x h2' f2 g' h1' h5
    ·have:=mr.lt ⟨k',b',y',h2',f2,g'⟩;omega
  ·exact .inl ⟨h2,fun x y f g=>hold k b y x h2 f g h1⟩
 ·intro k hk;rw[hβ2]at hk;dsimp only at hk;cases hq:β k with
  |some y=>left;simp
  | none =>
    rw[hq]at hk;dsimp only at hk;split at hk
    ·right;assumption
    ·exact absurd rfl hk
 ·rintro x ⟨k,b,y,e,f,g⟩;rcases hcase k b e with h1|⟨h1,h2⟩
  ·obtain⟨z,hz,_⟩:=hp.mr.blk k b h1;have:=hle1 _ _ hz;rw[f]at this;cases this;rcases hp.own x ⟨k,b,y,h1,hz,g⟩with h5|h5
   ·obtain⟨k',b',y',_,h6,h7,h8⟩:=hownr x h5;exact .inl ⟨k',b',y',h6,h7,h8⟩
   ·exact .inr h5
  ·exact .inl ⟨k,b,y,h2,hβ k b y h2 f,g⟩
 ·rcases hp.knew b arr e with h1|h1|h1
  ·exact .inl h1
  ·obtain⟨k',b',y',_,h6,h7,h8⟩:=hownr b h1;exact .inr (.inl ⟨k',b',y',h6,h7,h8⟩)
  ·exact .inr (.inr h1)
theorem e6R {ρ:Operand->V} {G Gc:Get} {n:Nat} {out:Out} (env:a1g P Γ) (hact:act Γ o ρ G n=some out) (hok:out.ok=true) (hkb:d1i o ρ G n out.n=true)
 (hg:∀k∈a8d o ρ G,Gc k=G k) (kok:KOK K w) (mr:MR β K Gc w) (fresh:∀k,n<=k->k<out.n->β k=none) (val:∀x∈o.op.operands,VR β K (ρ x) (a.eval x)) :
 a0m P o a w (fun v w'=>∃β' K',e6Q β K Gc n w out v w' β' K'):=by
 have:=c3Y (ι:=Unit) ⟨()⟩ (P:=P) (β:=β) (K:=K) (w:=w) (a:=a) (o:=o) (ρ:=ρ) (G:=G) (Gc:=Gc) (n:=n) (out:=fun _=>out) env (fun ρr Gr h1 h2 hpre next Q hn=>by
  refine c3W hpre (out:=out) ?_ hok next Q fun v w' hp=>hn v w' ⟨(),hp⟩
  rw[<- hact,<- b5N (ρ:=ρ) (ρ':=ρr) h1];exact(b5O fun k hk=>h2 k hk).symm) (fun _=>hkb) hg kok mr (fun _=>fresh) val
 intro next Q hn;exact this next Q fun v w' hp=>hn v w' (by obtain⟨_,h⟩:=hp;exact h)
end
structure FS where
 T:Nat->V
 G:Get
 n:Nat
def St.fs (s:St):FS:=⟨s.tmpV,s.get,s.n⟩
structure Res where
 v:V
 upd:List (Nat×Option Blk)
 run:Bool
def a4K (T:Nat->V):Operand->V
 |.tmp t=>T t
 |.const v=>b7N v
 |.func f => .val (.one (.fn f []))
 |.global _=>pois
theorem b8f (s:St):s.val=a4K s.fs.T:=by
 funext x;cases x<;>rfl
def c1Q (T:Nat->V) (d:Option Nat) (v:V):Nat->V:=fun t=>if d=some t then v else T t
def a9J (ops:Array Oper) (g:Nat):Option Nat:=(ops[g]?).bind (·.dst)
structure a3Y (Γ:Env) (ops:Array Oper) (o:Oper) (F:FS) (E:Ent) (X:Res) (F':FS):Prop where
 T:F'.T=c1Q F.T o.dst X.v
 G:F'.G=a4O X.upd F.G
 dst:a6Y Γ o.dst=true
 exec:X.run=true->(o.guard=none∨∃g want t,o.guard=some (g,want) /\ a9J ops g=some t /\ F.T t=a2r want) /\
  ∃ out,act Γ o (a4K F.T) F.G F.n=some out /\ out.ok=true /\ X.v=out.v /\ X.upd=out.upd /\ F'.n=out.n /\
    E=⟨a8d o (a4K F.T) F.G,out.upd.map (·.1),d1i o (a4K F.T) F.G F.n out.n⟩
 skip:X.run=false->(∃g want t,o.guard=some (g,want) /\ a9J ops g=some t /\ (F.T t=a2r (!want)∨F.T t = .tup [])) /\ X.v = .tup [] /\ X.upd=[] /\ F'.n=F.n /\ E=⟨[],[],true⟩
theorem b2X (s:St) (d:Option Nat) (v:V):(s.putO d v).fs.T=c1Q s.fs.T d v:=by
 funext t;cases d with
 |none=>rfl
 | some e =>
   unfold c1Q;show(s.put e v).tmpV t=_;unfold St.tmpV St.put;simp only[a1D];by_cases h:e=t
   ·subst h;simp
   ·rw[a1A h];simp[h];rfl
theorem a1s (s:St) (d:Option Nat) (v:V):(s.putO d v).fs.G=s.fs.G /\ (s.putO d v).fs.n=s.fs.n /\ (s.putO d v).m=s.m:=by
 cases d<;>exact⟨rfl,rfl,rfl⟩
theorem a5f (s:St) (t:Nat) (v:V) (h:s.tmpV t=v):(s.put t v).fs=s.fs:=by
 unfold St.fs;have:(s.put t v).tmpV=s.tmpV:=by
  funext j;unfold St.tmpV St.put at *;simp only[a1D];by_cases e:t=j
  ·subst e;simp;exact h.symm
  ·rw[a1A e]
 rw[this];rfl
theorem c3Z (s:St) (out:Out):(s.apply out).fs.G=a4O out.upd s.fs.G:=by
 funext k;show(s.apply out).get k=a4O out.upd s.get k;unfold St.apply St.get a4O;dsimp only;rw[b7Z];cases a1D out.upd k<;>rfl
section
variable {Γ:Env} {ops:Array Oper} {R:Type}
theorem a6r {o:Oper} {K:St->Ent->Option R} {s:St} {r:R} (h:c3p Γ o K s=some r) :
 ∃ out,act Γ o (a4K s.fs.T) s.fs.G s.fs.n=some out /\ out.ok=true /\ a6Y Γ o.dst=true /\
   K ((s.apply out).putO o.dst out.v) ⟨a8d o (a4K s.fs.T) s.fs.G,out.upd.map (·.1),d1i o (a4K s.fs.T) s.fs.G s.fs.n out.n⟩=some r:=by
 unfold c3p at h;rw[b8f]at h;split at h
 ·cases h
 ·rename_i out ha;split at h
  ·rename_i hd;split at h
   ·rename_i hok;exact⟨out,ha,hok,hd,h⟩
   ·cases h
  ·cases h
theorem c1R {o:Oper} {K:St->Ent->Option R} {s:St} {r:R} (h:a6Z Γ o K s=some r) :
 ∃ (s1:St) (out:Out),s1.fs=s.fs /\ s1.m=s.m /\ act Γ o (a4K s.fs.T) s.fs.G s.fs.n=some out /\ out.ok=true /\ a6Y Γ o.dst=true /\
   K ((s1.apply out).putO o.dst out.v) ⟨a8d o (a4K s.fs.T) s.fs.G,out.upd.map (·.1),d1i o (a4K s.fs.T) s.fs.G s.fs.n out.n⟩=some r:=by
 unfold a6Z at h;split at h
 ·split at h
  ·rename_i b hb;cases b with
   | true =>
     obtain⟨out,h1,h2,h3,h4⟩:=a6r h;have hs:=a5f s _ (a2r true) hb;rw[hs]at h1 h4;exact⟨_,out,hs,rfl,h1,h2,h3,h4⟩
   | false =>
     obtain⟨out,h1,h2,h3,h4⟩:=a6r h;have hs:=a5f s _ (a2r false) hb;rw[hs]at h1 h4;exact⟨_,out,hs,rfl,h1,h2,h3,h4⟩
  ·cases h
 ·obtain⟨out,h1,h2,h3,h4⟩:=a6r h;exact⟨s,out,rfl,rfl,h1,h2,h3,h4⟩
theorem b2Y {o:Oper} {K:St->Ent->Option R} {s:St} {r:R} (hg:o.guard=none∨∃g want t,o.guard=some (g,want) /\ a9J ops g=some t /\ s.fs.T t=a2r want) (h:a6Z Γ o K s=some r) :
 ∃s' E X,a3Y Γ ops o s.fs E X s'.fs /\ s'.m=s.m /\ K s' E=some r:=by
 obtain⟨s1,out,h0,hm,h1,h2,h3,h4⟩:=c1R h;refine⟨_,_,⟨out.v,out.upd,true⟩,⟨?_,?_,h3,fun _=>⟨hg,out,h1,h2,rfl,rfl,?_,rfl⟩,(fun e=>by cases e)⟩,?_,h4⟩
 ·rw[b2X];show c1Q (s1.apply out).fs.T o.dst out.v=_;rw[show(s1.apply out).fs.T=s1.fs.T from rfl,h0]
 ·rw[(a1s _ _ _).1,c3Z,h0]
 ·rw[(a1s _ _ _).2.1];rfl
 ·rw[(a1s _ _ _).2.2];exact hm
theorem b2Z {o:Oper} {K:St->Ent->Option R} {s:St} {r:R} (hg:∃g want t,o.guard=some (g,want) /\ a9J ops g=some t /\ (s.fs.T t=a2r (!want)∨s.fs.T t = .tup [])) (h:a7S Γ o K s=some r) :
 ∃s' E X,a3Y Γ ops o s.fs E X s'.fs /\ s'.m=s.m /\ K s' E=some r:=by
 unfold a7S at h;split at h
 ·rename_i hd;refine⟨_,_,⟨.tup [],[],false⟩,⟨b2X s o.dst _,?_,hd,(fun e=>by cases e),fun _=>⟨hg,rfl,rfl,(a1s _ _ _).2.1,rfl⟩⟩,(a1s _ _ _).2.2,h⟩;rw[(a1s _ _ _).1];rfl
 ·cases h
theorem b3a {o:Oper} {L:List Oper} {s:St} {tr:List Ent} {K:St->List Ent->Option R} {r:R} (h:b0d Γ ops (o::L) s tr K=some r) :
 ∃s' E X,a3Y Γ ops o s.fs E X s'.fs /\ s'.m=s.m /\ b0d Γ ops L s' (E::tr) K=some r:=by
 unfold b0d at h;split at h
 ·rename_i hg;exact b2Y (.inl hg) h
 ·rename_i g want hg;split at h
  ·cases h
  ·rename_i t ht;split at h
   ·rename_i b hb;have hT:s.fs.T t=a2r b:=hb;have key:∀{s1:St} {K':St->Ent->Option R},s1.fs=s.fs->s1.m=s.m->∀c,b=c->(want=c->a6Z Γ o K' s1=some r->∃s' E X,a3Y Γ ops o s.fs E X s'.fs /\ s'.m=s.m /\ K' s' E=some r) /\
     (want=!c->a7S Γ o K' s1=some r->∃s' E X,a3Y Γ ops o s.fs E X s'.fs /\ s'.m=s.m /\ K' s' E=some r):=by
     intro s1 K' h0 hm c hc;subst hc;refine⟨fun hw hx=>?_,fun hw hx=>?_⟩
     ·obtain⟨s',E,X,h1,h2,h3⟩:=b2Y (ops:=ops) (.inr ⟨g,want,t,hg,ht,by rw[h0,hw];exact hT⟩) hx;exact⟨s',E,X,by rw[<- h0];exact h1,h2.trans hm,h3⟩
     ·obtain⟨s',E,X,h1,h2,h3⟩:=b2Z (ops:=ops) ⟨g,want,t,hg,ht,.inl (by rw[h0,hw,Bool.not_not];exact hT)⟩ hx;exact⟨s',E,X,by rw[<- h0];exact h1,h2.trans hm,h3⟩
    cases b with
    | true =>
      have e:=a5f s t (a2r true) hT;cases want with
      |true=>exact(key e rfl true rfl).1 rfl h
      |false=>exact(key e rfl true rfl).2 rfl h
    | false =>
      have e:=a5f s t (a2r false) hT;cases want with
      |true=>exact(key e rfl false rfl).2 rfl h
      |false=>exact(key e rfl false rfl).1 rfl h
   ·rename_i hb;exact b2Z ⟨g,want,t,hg,ht,.inr hb⟩ h
   ·cases h
def e0P {α:Type} (x:α) (f:Nat->α):Nat->α
 |0=>x
 |i+1=>f i
theorem b1x:∀(L:List Oper) {s:St} {tr:List Ent} {K:St->List Ent->Option R} {r:R},b0d Γ ops L s tr K=some r ->
 ∃ (F:Nat->FS) (E:Nat->Ent) (X:Nat->Res) (s':St),F 0=s.fs /\ F L.length=s'.fs /\ s'.m=s.m /\ (∀i o,L[i]?=some o->a3Y Γ ops o (F i) (E i) (X i) (F (i+1))) /\
   K s' (((List.range L.length).map E).reverse++tr)=some r
 |[],s,tr,K,r,h=>⟨fun _=>s.fs,fun _=>⟨[],[],true⟩,fun _=>⟨.tup [],[],true⟩,s,rfl,rfl,rfl,fun i o e=>by simp at e,by simpa[b0d]using h⟩
 | o::L,s,tr,K,r,h=>by
   obtain⟨s1,E0,X0,h1,h2,h3⟩:=b3a h;obtain⟨F,E,X,s',f0,fl,fm,fs,fk⟩:=b1x L h3;refine⟨e0P s.fs F,e0P E0 E,e0P X0 X,s',rfl,fl,fm.trans h2,?_,?_⟩
   ·intro i o' e;cases i with
    | zero =>
      simp only[List.getElem?_cons_zero,injEq]at e;subst e;show a3Y Γ ops o s.fs E0 X0 (F 0);rw[f0];exact h1
    |succ i=>exact fs i o' (by simpa using e)
   ·rw[<- fk];congr 1;rw[List.length_cons,List.range_succ_eq_map,List.map_cons,List.map_map,List.reverse_cons,List.append_assoc];rfl
end
structure a5r where
 β:Bt
 K:Ks
 w:World
 m:Nat
 S:Nat->Prop
def a5r.J (z:a5r) (x:Nat):Prop:=z.S x∨Jk z.K x
theorem f7G {z:a5r} {β:Bt} {K:Ks} {get:Get} (own:∀x,Own β get x->z.S x∨z.w.heap.size<=x) (knew:∀b arr,K b=some arr->z.K b=some arr∨z.S b∨z.w.heap.size<=b) :
 ∀x,x<z.w.heap.size->e0E β K get x->z.J x:=by
 rintro x hx (h|⟨arr,e⟩)
 ·exact .inl ((own x h).resolve_right (by omega))
 ·rcases knew x _ e with h1|h1|h1
  ·exact .inr ⟨arr,h1⟩
  ·exact .inl h1
  ·omega
structure SRf (P:Program) (Γ:Env) (z:a5r) (β:Bt) (K:Ks) (F:FS) (a:Act) (w:World):Prop where
 tmp:∀t,VR β K (F.T t) (a.tmps.getD t undef)
 nt:a.tmps.size=Γ.nt
 defers:a.defers=[]
 kok:KOK K w
 mr:MR β K F.G w
 fresh:∀k,F.n<=k->β k=none
 kle:KLe z.K K
 knew:∀b arr,K b=some arr->z.K b=some arr∨z.S b∨z.w.heap.size<=b
 fr:Fr z.J z.w w
 own:∀x,Own β F.G x->z.S x∨z.w.heap.size<=x
 ble:∀k h,k<z.m->z.β k=some h->β k=some h
 le:z.m<=F.n
theorem a8F {β β':Bt} {K K':Ks} {a:Act} {Γ:Env} {T:Nat->V} {d:Option Nat} {x:V} {v:Value} (h:∀t,VR β K (T t) (a.tmps.getD t undef)) (hb:BLe β β') (hk:KLe K K') (hn:a.tmps.size=Γ.nt) (hd:a6Y Γ d=true) (hv:VR β' K' x v) :
 (∀t,VR β' K' (c1Q T d x t) ((a.put d v).tmps.getD t undef)) /\ (a.put d v).tmps.size=Γ.nt /\ (a.put d v).defers=a.defers:=by
 cases d with
 |none=>exact⟨fun t=>(h t).mono hb hk,hn,rfl⟩
 | some e =>
   have he:e<a.tmps.size:=by rw[hn];simpa[a6Y,Nat.blt_eq]using hd
   refine⟨fun t=>?_,by simpa[Act.put]using hn,rfl⟩;unfold c1Q;by_cases ht:e=t
   ·subst ht;rw[if_pos rfl];have:(a.put (some e) v).tmps.getD e undef=v:=by simp[Act.put,he]
    rw[this];exact hv
   ·rw[if_neg (fun e'=>ht (by cases e';rfl))];have:(a.put (some e) v).tmps.getD t undef=a.tmps.getD t undef:=by simp[Act.put,Array.getElem?_setIfInBounds_ne ht]
    rw[this];exact(h t).mono hb hk
theorem b3b {β:Bt} {K:Ks} (v:Value):CR β K (b7M v) v:=by
 cases v with
 |bool b=>rfl
 |int k n=>rfl
 |float k b=>exact⟨b,rfl,FEq.refl k b⟩
 |complex k x y=>exact⟨x,y,rfl,FEq.refl k x,FEq.refl k y⟩
 |string s=>rfl
 |_=>trivial
theorem a8G {β:Bt} {K:Ks} (v:Value):VR β K (b7N v) v:=by
 have key:∀v,VR β K (.val (.one (b7M v))) v:=fun v=>b3b v
 cases v with
 | agg cs =>
   refine⟨cs,rfl,?_⟩;generalize cs.toList=l
   induction l with
   |nil=>trivial
   |cons x r ih=>exact⟨b3b x,ih⟩
 |_=>simp only[b7N];exact key _
theorem a8H {β:Bt} {K:Ks} {T:Nat->V} {a:Act} (h:∀t,VR β K (T t) (a.tmps.getD t undef)) (x:Operand):VR β K (a4K T x) (a.eval x):=by
 cases x with
 |tmp t=>exact h t
 |const v=>exact a8G v
 |global g=>exact a5P
 |func f=>exact⟨[],rfl,trivial⟩
section
variable {P:Program} {Γ:Env} {z:a5r} {ops:Array Oper} {Q:Exit->Act->World->Prop}
theorem b0m {a:Act} {g t:Nat} {b:Bool} (hg:a9J ops g=some t) (h:a.tmps.getD t undef = .bool b):yielded ops a.tmps g=some b:=by
 have ht:a.tmps[t]?=some (.bool b):=by
  cases hq:a.tmps[t]? with
  |none=>simp[hq,undef]at h
  |some v=>simp[hq]at h;rw[h]
 unfold yielded;unfold a9J at hg;rw[hg];simp[ht]
theorem c4a {a:Act} {g t:Nat} {arr:Array Value} (hg:a9J ops g=some t) (h:a.tmps.getD t undef = .tuple arr):yielded ops a.tmps g=none:=by
 unfold yielded;unfold a9J at hg;rw[hg];cases hq:a.tmps[t]? with
 |none=>simp[hq]
 |some v=>simp[hq]at h;simp[hq,h]
theorem a7h {β:Bt} {K:Ks} {a:Act} {o:Oper} {F F':FS} {E:Ent} {X:Res} {T:Nat->V} (h:a3Y Γ ops o F E X F')
 (hv:∀g want t,o.guard=some (g,want)->a9J ops g=some t->VR β K (F.T t) (a.tmps.getD t undef)):Region.wanted o (yielded ops a.tmps)=X.run:=by
 cases hr:X.run with
 | true =>
   rcases (h.exec hr).1 with hg|⟨g,want,t,hg,ht,hT⟩
   ·simp[Region.wanted,hg]
   ·have:=hv g want t hg ht;rw[hT]at this;simp[Region.wanted,hg,b0m ht this]
 | false =>
   obtain⟨⟨g,want,t,hg,ht,hT⟩,_⟩:=h.skip hr;have:=hv g want t hg ht;rcases hT with hT|hT
   ·rw[hT]at this;simp[Region.wanted,hg,b0m ht this]
   ·rw[hT]at this;obtain⟨arr,e,_⟩:=this;simp[Region.wanted,hg,c4a ht e]
theorem SRf.next {β β':Bt} {K K':Ks} {F F':FS} {a:Act} {w w':World} {d:Option Nat} {x:V} {v:Value} {out:Out} (h:SRf P Γ z β K F a w) (hd:a6Y Γ d=true)
 (hp:a8q β K F.G F.n w out v w' β' K') (hT:F'.T=c1Q F.T d out.v) (hG:F'.G=a4O out.upd F.G) (hn:F'.n=out.n):SRf P Γ z β' K' F' (a.put d v) w':=by
 obtain⟨h1,h2,h3⟩:=a8F h.tmp hp.ble hp.kle h.nt hd hp.vr;refine⟨by rw[hT];exact h1,h2,h3.trans h.defers,hp.kok,by rw[hG];exact hp.mr,by rw[hn];exact hp.fresh,h.kle.trans hp.kle,?_,?_,?_,fun k y hk e=>hp.ble _ _ (h.ble k y hk e),by rw[hn];exact Nat.le_trans h.le hp.le⟩
 ·intro b arr e;rcases hp.knew b arr e with h4|h4|h4
  ·exact h.knew b arr h4
  ·exact .inr (h.own b h4)
  ·exact .inr (.inr (Nat.le_trans h.fr.size h4))
 ·exact h.fr.trans hp.fr (f7G h.own h.knew)
 ·intro x hx;rw[hG]at hx;rcases hp.own x hx with h4|h4
  ·exact h.own x h4
  ·exact .inr (Nat.le_trans h.fr.size h4)
theorem SRf.skip {β:Bt} {K:Ks} {F F':FS} {a:Act} {w:World} {d:Option Nat} (h:SRf P Γ z β K F a w) (hd:a6Y Γ d=true) (hT:F'.T=c1Q F.T d (.tup [])) (hG:F'.G=F.G) (hn:F'.n=F.n) :
 SRf P Γ z β K F' (a.put d undef) w:=by
 obtain⟨h1,h2,h3⟩:=a8F (x := .tup []) (v:=undef) h.tmp (BLe.refl β) (KLe.refl K) h.nt hd ⟨#[],rfl,trivial⟩;exact⟨by rw[hT];exact h1,h2,h3.trans h.defers,h.kok,by rw[hG];exact h.mr,by rw[hn];exact h.fresh,h.kle,h.knew,h.fr,by rw[hG];exact h.own,h.ble,by rw[hn];exact h.le⟩
theorem b5P (env:a1g P Γ) {F:Nat->FS} {E:Nat->Ent} {X:Nat->Res} (hs:∀i o,ops[i]?=some o->a3Y Γ ops o (F i) (E i) (X i) (F (i+1)))
 (hQ:∀β K a w,SRf P Γ z β K (F ops.size) a w->Q .normal a w):∀(k i:Nat),i+k=ops.size->∀β K a w,SRf P Γ z β K (F i) a w->wpOps P ops Q (List.range' i k) a w:=by
 intro k
 induction k with
 | zero =>
   intro i hi β K a w h;have:i=ops.size:=by omega
   subst this;exact hQ β K a w h
 | succ k ih =>
   intro i hi β K a w h;rw[List.range'_succ,wpOps_cons];have hlt:i<ops.size:=by omega
   have ho:ops[i]?=some ops[i]:=Array.getElem?_eq_getElem hlt;have hstep:=hs i _ ho;have hw:=a7h (β:=β) (K:=K) (a:=a) (T:=(F i).T) hstep fun _ _ t _ _=>h.tmp t
   unfold wpOp;rw[ho];dsimp only;rw[hw];cases hr:(X i).run with
   | true =>
     rw[if_pos rfl];left;obtain⟨_,out,h1,h2,h3,h4,h5,_⟩:=hstep.exec hr;refine c3W (ρ:=a4K (F i).T) (get:=(F i).G) (n:=(F i).n) ⟨env,h.kok,h.mr,h.fresh,fun x=>a8H h.tmp x⟩ h1 h2 _ _ fun v w' hp=>?_
     obtain⟨β',K',hp⟩:=hp;exact ih (i+1) (by omega) β' K' _ _ (h.next (x:=out.v) hstep.dst hp (by rw[hstep.T,h3]) (by rw[hstep.G,h4]) h5)
   | false =>
     rw[if_neg (by simp)];obtain⟨_,h1,h2,h3,_⟩:=hstep.skip hr;exact ih (i+1) (by omega) β K _ _ (h.skip hstep.dst (by rw[hstep.T,h1]) (by rw[hstep.G,h2];rfl) h3)
def TD (T0:Nat->V) (dst:Nat->Option Nat) (v:Nat->V) (D:Nat->Bool):Nat->Nat->V
 |0,t=>T0 t
 |i+1,t=>if D i=true /\ dst i=some t then v i else TD T0 dst v D i t
def GD (G0:Get) (upd:Nat->List (Nat×Option Blk)) (D:Nat->Bool):Nat->Get
 |0=>G0
 |i+1=>if D i=true then a4O (upd i) (GD G0 upd D i)else GD G0 upd D i
def a9S (D:Nat->Bool) (i:Nat):Nat->Bool:=fun k=>D k||beq k i
section
variable {T0:Nat->V} {dst:Nat->Option Nat} {vs:Nat->V} {G0:Get} {upd:Nat->List (Nat×Option Blk)} {D D':Nat->Bool}
theorem a6s {t:Nat}:∀(N:Nat),(∀p,p<N->dst p=some t->D p=D' p)->TD T0 dst vs D N t=TD T0 dst vs D' N t
 |0,_=>rfl
 | N+1,h=>by
   simp only[TD];rw[a6s N fun p hp e=>h p (by omega) e];by_cases e:dst N=some t
   ·rw[h N (by omega) e]
   ·rw[if_neg (fun h=>e h.2),if_neg (fun h=>e h.2)]
theorem b3c {α:Type}:∀{l:List (Nat×α)} {k:Nat},k ∉ l.map (·.1)->a1D l k=none
 |[],k,_=>rfl
 | (j,x)::r,k,h=>by
   simp only[List.map_cons,List.mem_cons,not_or]at h;simp only[a1D];rw[a1A (fun e=>h.1 e.symm)];exact b3c h.2
theorem a5g {l:List (Nat×Option Blk)} {g:Get} {k:Nat} (h:k ∉ l.map (·.1)):a4O l g k=g k:=by
 unfold a4O;rw[b3c h]
theorem b5Q {l:List (Nat×Option Blk)} {g g':Get} {k:Nat} (h:g k=g' k):a4O l g k=a4O l g' k:=by
 unfold a4O;rw[h]
theorem a6t {k:Nat}:∀(N:Nat),(∀p,p<N->k∈(upd p).map (·.1)->D p=D' p)->GD G0 upd D N k=GD G0 upd D' N k
 |0,_=>rfl
 | N + 1,h=>by
   have ih:=a6t N fun p hp e=>h p (by omega) e
   simp only[GD];by_cases e:k∈(upd N).map (·.1)
   ·rw[h N (by omega) e];split
    ·exact b5Q ih
    ·exact ih
   ·have h1:∀(g:Get),(if D N=true then a4O (upd N) g else g) k=g k:=by
     intro g;split
     ·exact a5g e
     ·rfl
    have h2:∀(g:Get),(if D' N=true then a4O (upd N) g else g) k=g k:=by
     intro g;split
     ·exact a5g e
     ·rfl
    rw[h1,h2,ih]
theorem a3n {i p:Nat} (h:p≠i):a9S D i p=D p:=by simp[a9S,a1A h]
theorem a2b {i:Nat}:a9S D i i=true:=by simp[a9S]
theorem d5p {i:Nat} {t:Nat} (hi:D i=false):∀(N:Nat),i<N->(∀p,i<p->p<N->D p=true->∀t,dst i=some t->dst p≠some t) ->
 TD T0 dst vs (a9S D i) N t=c1Q (TD T0 dst vs D N) (dst i) (vs i) t
 |0,h,_=>by omega
 | N+1,hlt,h=>by
   by_cases hN:i=N
   ·subst hN;simp only[TD,a2b,hi,true_and,Bool.false_eq_true,false_and,if_false,c1Q];rw[a6s (D':=D) i fun p hp _=>a3n (by omega)]
   ·have ih:=d5p (t:=t) hi N (by omega) fun p h1 h2=>h p h1 (by omega)
    simp only[TD];rw[a3n (fun e=>hN e.symm),ih];unfold c1Q;dsimp only;by_cases e:D N=true /\ dst N=some t
    ·rw[if_pos e,if_neg fun e'=>h N (by omega) (by omega) e.1 t e' e.2,if_pos e]
    ·rw[if_neg e,if_neg e]
theorem d5q {i:Nat} {k:Nat} (hi:D i=false):∀(N:Nat),i<N->(∀p,i<p->p<N->D p=true->k∈(upd i).map (·.1)->k ∉ (upd p).map (·.1)) ->
 GD G0 upd (a9S D i) N k=a4O (upd i) (GD G0 upd D N) k
 |0,h,_=>by omega
 | N + 1,hlt,h=>by
   by_cases hN:i=N
   ·subst hN;simp only[GD,a2b,hi,Bool.false_eq_true,if_false,if_true];exact b5Q (a6t (D':=D) i fun p hp _=>a3n (by omega))
   ·have ih:=d5q (k:=k) hi N (by omega) fun p h1 h2=>h p h1 (by omega)
    simp only[GD];rw[a3n (fun e=>hN e.symm)];cases hD:D N with
    |false=>simp only[Bool.false_eq_true,if_false];exact ih
    | true =>
      simp only[if_true];by_cases hk:k∈(upd i).map (·.1)
      ·have hk2:=h N (by omega) (by omega) hD hk;rw[a5g hk2,ih];unfold a4O;cases hl:a1D (upd i) k with
       |some b=>rfl
       | none =>
         dsimp only;exact(a5g hk2).symm
      ·rw[a5g hk];rw[a5g hk]at ih;exact b5Q ih
theorem c4b {i:Nat} {t:Nat}:∀(N:Nat),i<=N->TD T0 dst vs (fun p=>Nat.blt p i) N t=TD T0 dst vs (fun _=>true) i t
 | 0,h=>by
   have:i=0:=by omega
   subst this;rfl
 | N+1,h=>by
   by_cases hN:i=N+1
   ·subst hN;exact a6s _ fun p hp _=>by simpa[Nat.blt_eq]using hp
   ·simp only[TD];rw[if_neg (fun e=>by have:=e.1;simp[Nat.blt_eq]at this;omega)];exact c4b N (by omega)
theorem c4c {i:Nat}:∀(N:Nat),i<=N->GD G0 upd (fun p=>Nat.blt p i) N=GD G0 upd (fun _=>true) i
 | 0,h=>by
   have:i=0:=by omega
   subst this;rfl
 | N+1,h=>by
   by_cases hN:i=N+1
   ·subst hN;funext k;exact a6t _ fun p hp _=>by simpa[Nat.blt_eq]using hp
   ·simp only[GD];rw[if_neg (fun e=>by simp[Nat.blt_eq]at e;omega)];exact c4c N (by omega)
end
def a7Y (D:Nat->Bool) (o:Oper):Prop:=∀e∈o.after,Region.binds .any e=true->D e.on=true
theorem a8I {acc:List Nat} {j:Nat}:∀{l:List Edge},(c1E acc l).testBit j=true->∃e∈l,Region.binds .any e=true /\ (j=e.on∨(acc.getD e.on 0).testBit j=true)
 |[],h=>by simp[c1E]at h
 | e :: r,h=>by
   unfold c1E at h;split at h
   ·rename_i hb;simp only[Nat.lor_eq,Nat.shiftLeft_eq',Nat.testBit_or,Bool.or_eq_true]at h;rcases h with(h|h)|h
    ·refine⟨e,List.mem_cons_self ..,hb,.inl ?_⟩;rw[Nat.one_shiftLeft,Nat.testBit_two_pow]at h;simpa using(of_decide_eq_true h).symm
    ·exact⟨e,List.mem_cons_self ..,hb,.inr h⟩
    ·obtain⟨e',h1,h2⟩:=a8I h;exact⟨e',List.mem_cons_of_mem _ h1,h2⟩
   ·obtain⟨e',h1,h2⟩:=a8I h;exact⟨e',List.mem_cons_of_mem _ h1,h2⟩
theorem b1y {D:Nat->Bool}:∀(L:List Oper) (acc:List Nat),(∀i o,L[i]?=some o->D (acc.length+i)=true->a7Y D o)->(∀p x,acc[p]?=some x->D p=true->∀j,x.testBit j=true->D j=true) ->
 ∀p x,(c3y L acc)[p]?=some x->D p=true->∀j,x.testBit j=true->D j=true
 |[],acc,_,h=>h
 | o :: L,acc,hc,h=>by
   unfold c3y;refine b1y L _ ?_ ?_
   ·intro i o' e hD;refine hc (i+1) o' (by simpa using e) ?_;rw[<- hD];congr 1;simp;omega
   ·intro p x e hD j hj;rw[List.getElem?_append]at e;split at e
    ·exact h p x e hD j hj
    ·rename_i hp;have hp0:p-acc.length=0:=by
      have:=(List.getElem?_eq_some_iff.1 e).1;simpa using this
     rw[hp0]at e;simp only[List.getElem?_cons_zero,injEq]at e;subst e;have hpe:p=acc.length:=by omega
     subst hpe;obtain⟨ed,h1,h2,h3⟩:=a8I hj;have hb:=hc 0 o rfl (by simpa using hD) ed (by simpa using h1) h2;rcases h3 with rfl|h3
     ·exact hb
     ·rw[List.getD_eq_getElem?_getD]at h3;cases hq:acc[ed.on]? with
      |none=>rw[hq]at h3;simp at h3
      | some y =>
        rw[hq]at h3;exact h _ y hq hb j (by simpa using h3)
theorem a4s:∀(L:List Oper) (acc:List Nat),(c3y L acc).length=acc.length+L.length
 |[],acc=>by simp[c3y]
 |o::L,acc=>by unfold c3y;rw[a4s L];simp;omega
def c4d (ops:Array Oper) (anc j:Nat) (o o':Oper) (e e':Ent):Prop:=anc.testBit j=true∨(d1j e e'=true /\ b7P ops o o'=true)
theorem a6u {anc:Nat} {o:Oper} {e:Ent}:∀{l:List (Nat×Oper×Ent)},a8e ops anc o e l=true->∀j o' e',(j,o',e')∈l->c4d ops anc j o o' e e'
 |[],_,_,_,_,h=>by cases h
 | (i,x,y)::r,h,j,o',e',hm=>by
   simp only[a8e,and_eq_true]at h;rcases List.mem_cons.1 hm with hm|hm
   ·have h0:=h.1;have hj:j=i:=congrArg (fun x:Nat×Oper×Ent=>x.1) hm;have ho:o'=x:=congrArg (fun x:Nat×Oper×Ent=>x.2.1) hm;have he:e'=y:=congrArg (fun x:Nat×Oper×Ent=>x.2.2) hm;rw[hj,ho,he];cases hb:Nat.testBit anc i with
    |true=>exact .inl hb
    | false =>
      rw[hb]at h0;exact .inr (by simpa using h0)
   ·exact a6u h.2 j o' e' hm
theorem a8J:∀{as1:List Nat} {L:List Oper} {es:List Ent} {i:Nat} {before:List (Nat×Oper×Ent)},b7Q ops as1 (b1n i L es) before=true->∀p a o e,as1[p]?=some a->L[p]?=some o->es[p]?=some e ->
 (∀j o' e',(j,o',e')∈before->c4d ops a j o o' e e') /\ ∀q o' e',q<p->L[q]?=some o'->es[q]?=some e'->c4d ops a (i+q) o o' e e'
 |[],_,_,_,_,_,_,_,_,_,h,_,_=>by simp at h
 |_::_,[],_,_,_,_,_,_,_,_,_,h,_=>by simp at h
 |_::_,_::_,[],_,_,_,_,_,_,_,_,_,h=>by simp at h
 | a0::as1,o0::L,e0::es,i,before,h,p,a,o,e,h1,h2,h3=>by
   simp only[b1n,b7Q,and_eq_true]at h;cases p with
   | zero =>
     simp only[List.getElem?_cons_zero,injEq]at h1 h2 h3;subst h1;subst h2;subst h3;exact⟨a6u h.1,fun q _ _ hq=>by omega⟩
   | succ p =>
     obtain⟨h4,h5⟩:=a8J h.2 p a o e (by simpa using h1) (by simpa using h2) (by simpa using h3);refine⟨fun j o' e' hm=>h4 j o' e' (List.mem_cons_of_mem _ hm),fun q o' e' hq g1 g2=>?_⟩;cases q with
     | zero =>
       simp only[List.getElem?_cons_zero,injEq]at g1 g2;subst g1;subst g2;exact h4 i o0 e0 (List.mem_cons_self ..)
     | succ q =>
       have:=h5 q o' e' (by omega) (by simpa using g1) (by simpa using g2);rw[show i+(q+1)=i+1+q by omega];exact this
theorem a8K:∀{L:List Oper} {i:Nat},b7R i L=true->∀p o,L[p]?=some o->∀e∈o.after,Region.binds .any e=true->e.on<i+p
 |[],_,_,_,_,h,_,_,_=>by simp at h
 | o0::L,i,h,p,o,ho,e,he,hb=>by
   simp only[b7R,and_eq_true,List.all_eq_true]at h;cases p with
   | zero =>
     simp only[List.getElem?_cons_zero,injEq]at ho;subst ho;have:=h.1 e (by simpa using he);rw[hb]at this;simpa[Nat.blt_eq]using this
   | succ p =>
     have:=a8K h.2 p o (by simpa using ho) e he hb;omega
theorem a6v:∀{l l':List Nat},e5z l l'=true->∀k∈l,k ∉ l'
 |[],_,_,_,h=>by cases h
 | x::r,l',h,k,hk=>by
   unfold e5z at h;split at h
   ·cases h
   ·rename_i hx;rcases List.mem_cons.1 hk with rfl|hk
    ·exact a3V hx
    ·exact a6v h k hk
structure e6S (a b:Ent):Prop where
 fu:∀k∈a.fp,k ∉ b.up
 uf:∀k∈b.fp,k ∉ a.up
 uu:∀k∈a.up,k ∉ b.up
theorem c1S {a b:Ent} (h:d1j a b=true):e6S a b:=by
 simp only[d1j,and_eq_true]at h;exact⟨a6v h.1.1,a6v h.1.2,a6v h.2⟩
structure e6T (ops:Array Oper) (x y:Oper):Prop where
 xy:∀d,x.dst=some d->d ∉ looks ops y
 yx:∀d,y.dst=some d->d ∉ looks ops x
 dd:∀d,x.dst=some d->y.dst≠some d
theorem c1T {x y:Oper} (h:b7P ops x y=true):e6T ops x y:=by
 simp only[b7P,and_eq_true]at h;refine⟨fun d hd=>?_,fun d hd=>?_,fun d hd hd'=>?_⟩
 ·have:=h.1.1;rw[hd]at this;exact a3V (by simpa using this)
 ·have:=h.1.2;rw[hd]at this;exact a3V (by simpa using this)
 ·have:=h.2;rw[hd,hd']at this;simp at this
structure g5j (ops:Array Oper) (E:Nat->Ent) (i j:Nat):Prop where
 ind:e6S (E i) (E j)
 apart:∀o o',ops[i]?=some o->ops[j]?=some o'->e6T ops o o'
theorem b3d {E:Nat->Ent} (h:b2H ops (((List.range ops.size).map E).reverse++[])=true) :
 (∀(D:Nat->Bool),(∀i o,ops[i]?=some o->D i=true->a7Y D o)->∀i j,j<i->i<ops.size->D i=true->D j=false->g5j ops E i j) /\
 (∀i o,ops[i]?=some o->∀e∈o.after,Region.binds .any e=true->e.on<i) /\ ∀i,i<ops.size->(E i).kb=true:=by
 simp only[b2H,List.append_nil,List.reverse_reverse,and_eq_true]at h;obtain⟨⟨h1,h2⟩,h3⟩:=h;refine⟨?_,?_,?_⟩
 ·intro D hD i j hj hi hDi hDj;have hlen:i<(c3y ops.toList []).length:=by rw[a4s];simpa using hi
  have ha:=List.getElem?_eq_getElem hlen;have hoi:ops.toList[i]?=some ops[i]:=by rw[Array.getElem?_toList];exact Array.getElem?_eq_getElem hi
  have hoj:ops.toList[j]?=some ops[j]:=by rw[Array.getElem?_toList];exact Array.getElem?_eq_getElem (by omega)
  have hei:((List.range ops.size).map E)[i]?=some (E i):=by simp[hi]
  have hej:((List.range ops.size).map E)[j]?=some (E j):=by rw[List.getElem?_map,List.getElem?_range (by omega)];rfl
  have:=(a8J h1 i _ _ _ ha hoi hei).2 j _ _ hj hoj hej;rw[Nat.zero_add]at this;rcases this with hb|⟨hb1,hb2⟩
  ·have:=b1y (D:=D) ops.toList [] (fun i o e hd=>hD i o (by rw[<- Array.getElem?_toList];exact e) (by simpa using hd)) (fun p x e=>by simp at e) i _ ha hDi j hb;rw[hDj]at this;cases this
  ·refine⟨c1S hb1,fun o o' e e'=>?_⟩;rw[Array.getElem?_eq_getElem hi]at e;rw[Array.getElem?_eq_getElem (by omega)]at e';cases e;cases e';exact c1T hb2
 ·intro i o ho e he hb;have:=a8K h2 i o (by rw[Array.getElem?_toList];exact ho) e he hb;omega
 ·intro i hi;have:=List.all_eq_true.1 h3 (E i) (by
   rw[List.mem_reverse,List.mem_map];exact⟨i,by simpa using hi,rfl⟩)
  exact this
end
def cnt (D:Nat->Bool):Nat->Nat
 |0=>0
 |i+1=>(if D i=true then 0 else 1)+cnt D i
theorem b1z {D:Nat->Bool}:∀{N:Nat},cnt D N=0->∀i,i<N->D i=true
 |0,_,_,h=>by omega
 | N+1,h,i,hi=>by
   simp only[cnt]at h;by_cases e:D N=true
   ·rw[if_pos e]at h;by_cases hN:i=N
    ·subst hN;exact e
    ·exact b1z (N:=N) (D:=D) (by omega) i (by omega)
   ·rw[if_neg e]at h;omega
theorem b3e {D D':Nat->Bool}:∀{N:Nat},(∀i,i<N->D i=D' i)->cnt D N=cnt D' N
 |0,_=>rfl
 | N+1,h=>by
   simp only[cnt];rw[h N (by omega),b3e fun i hi=>h i (by omega)]
theorem b5R {D:Nat->Bool} {i:Nat} (hi:D i=false):∀{N:Nat},i<N->cnt (a9S D i) N+1=cnt D N
 |0,h=>by omega
 | N+1,h=>by
   simp only[cnt];by_cases hN:i=N
   ·subst hN;rw[a2b,hi,b3e (D':=D) fun j hj=>a3n (by omega)];simp;omega
   ·have:=b5R hi (N:=N) (by omega);rw[a3n (fun e=>hN e.symm)];omega
section
variable {P:Program} {Γ:Env} {z:a5r} {ops:Array Oper} {Q:Exit->Act->World->Prop} {F:Nat->FS} {E:Nat->Ent} {X:Nat->Res}
structure Rgn (Γ:Env) (ops:Array Oper) (F:Nat->FS) (E:Nat->Ent) (X:Nat->Res):Prop where
 step:∀i o,ops[i]?=some o->a3Y Γ ops o (F i) (E i) (X i) (F (i+1))
 both:∀(D:Nat->Bool),(∀i o,ops[i]?=some o->D i=true->a7Y D o)->∀i j,j<i->i<ops.size->D i=true->D j=false->g5j ops E i j
 edge:∀i o,ops[i]?=some o->∀e∈o.after,Region.binds .any e=true->e.on<i
 kb:∀i,i<ops.size->(E i).kb=true
abbrev TX (ops:Array Oper) (F:Nat->FS) (X:Nat->Res) (D:Nat->Bool):Nat->V:=TD (F 0).T (a9J ops) (fun i=>(X i).v) D ops.size
abbrev GX (ops:Array Oper) (F:Nat->FS) (X:Nat->Res) (D:Nat->Bool):Get:=GD (F 0).G (fun i=>(X i).upd) D ops.size
theorem a8L {i:Nat} {o:Oper} (h:ops[i]?=some o):a9J ops i=o.dst:=by unfold a9J;rw[h];rfl
theorem Rgn.up (R:Rgn Γ ops F E X) {i:Nat} {o:Oper} (h:ops[i]?=some o):(E i).up=(X i).upd.map (·.1):=by
 have hs:=R.step i o h;cases hr:(X i).run with
 |true=>obtain⟨_,out,_,_,_,h4,_,h6⟩:=hs.exec hr;rw[h6,h4]
 |false=>obtain⟨_,_,h4,_,h6⟩:=hs.skip hr;rw[h6,h4];rfl
theorem Rgn.T (R:Rgn Γ ops F E X):∀i,i<=ops.size->(F i).T=TD (F 0).T (a9J ops) (fun i=>(X i).v) (fun _=>true) i
 |0,_=>rfl
 | i+1,h=>by
   have ho:ops[i]?=some ops[i]:=Array.getElem?_eq_getElem (by omega);rw[(R.step i _ ho).T,R.T i (by omega)];funext t;simp only[TD,c1Q,a8L ho,true_and]
theorem Rgn.G (R:Rgn Γ ops F E X):∀i,i<=ops.size->(F i).G=GD (F 0).G (fun i=>(X i).upd) (fun _=>true) i
 |0,_=>rfl
 | i+1,h=>by
   have ho:ops[i]?=some ops[i]:=Array.getElem?_eq_getElem (by omega);rw[(R.step i _ ho).G,R.G i (by omega)];simp only[GD,if_true]
theorem Rgn.n1 (R:Rgn Γ ops F E X) {i:Nat} (h:i<ops.size):(F i).n<=(F (i+1)).n:=by
 have ho:ops[i]?=some ops[i]:=Array.getElem?_eq_getElem h;have hs:=R.step i _ ho;cases hr:(X i).run with
 | true =>
   obtain⟨_,out,_,_,_,_,h5,h6⟩:=hs.exec hr;have:=R.kb i h;rw[h6]at this;simp only[d1i,and_eq_true]at this;rw[h5];simpa using this.1.1.1
 |false=>obtain⟨_,_,_,h5,_⟩:=hs.skip hr;omega
theorem Rgn.n (R:Rgn Γ ops F E X) {i:Nat}:∀{j:Nat},i<=j->j<=ops.size->(F i).n<=(F j).n
 | 0,h,_=>by
   have:i=0:=by omega
   subst this;exact le_refl _
 | j+1,h,h'=>by
   by_cases e:i=j+1
   ·subst e;exact le_refl _
   ·exact Nat.le_trans (R.n (j:=j) (by omega) (by omega)) (R.n1 (by omega))
def a2I (ops:Array Oper) (D:Nat->Bool):Prop:=∀i o,ops[i]?=some o->D i=true->a7Y D o
theorem a2I.add {D:Nat->Bool} (h:a2I ops D) {i:Nat} {o:Oper} (hi:ops[i]?=some o) (hb:a7Y D o):a2I ops (a9S D i):=by
 intro j o' hj hD e he hbb;by_cases hji:j=i
 ·subst hji;rw[hi]at hj;cases hj;simp[a9S,hb e he hbb]
 ·rw[a3n hji]at hD;simp[a9S,h j o' hj hD e he hbb]
theorem Rgn.lookT (R:Rgn Γ ops F E X) {D:Nat->Bool} {i:Nat} {o:Oper} (hc:a2I ops D) (hi:ops[i]?=some o) (hb:a7Y D o) (hD:D i=false) {t:Nat} (ht:t∈looks ops o):TX ops F X D t=(F i).T t:=by
 have hlt:i<ops.size:=(Array.getElem?_eq_some_iff.1 hi).1;rw[R.T i (by omega),<- c4b (T0:=(F 0).T) (dst:=a9J ops) (vs:=fun i=>(X i).v) (t:=t) ops.size (by omega)];refine a6s _ fun p hp e=>?_
 have hop:ops[p]?=some ops[p]:=Array.getElem?_eq_getElem hp;rw[a8L hop]at e;rcases Nat.lt_trichotomy p i with h|h|h
 ·rw[show Nat.blt p i=true by simpa[Nat.blt_eq]using h];cases hq:D p with
  |true=>rfl
  | false =>
    have:=R.both _ (hc.add hi hb) i p h hlt a2b (by rw[a3n (by omega)];exact hq);exact absurd ht ((this.apart _ _ hi hop).yx t e)
 ·subst h;rw[hD];exact(Bool.eq_false_iff.2 fun e=>by rw[Nat.blt_eq]at e;omega).symm
 ·rw[show Nat.blt p i=false by
   cases hq:Nat.blt p i with
   |false=>rfl
   |true=>rw[Nat.blt_eq]at hq;omega]
  cases hq:D p with
  |false=>rfl
  | true =>
    have:=R.both D hc p i h hp hq hD;exact absurd ht ((this.apart _ _ hop hi).xy t e)
theorem Rgn.lookG (R:Rgn Γ ops F E X) {D:Nat->Bool} {i:Nat} {o:Oper} (hc:a2I ops D) (hi:ops[i]?=some o) (hb:a7Y D o) (hD:D i=false) {k:Nat} (hk:k∈(E i).fp):GX ops F X D k=(F i).G k:=by
 have hlt:i<ops.size:=(Array.getElem?_eq_some_iff.1 hi).1;rw[R.G i (by omega),<- c4c (G0:=(F 0).G) (upd:=fun i=>(X i).upd) ops.size (by omega)];refine a6t _ fun p hp e=>?_
 have hop:ops[p]?=some ops[p]:=Array.getElem?_eq_getElem hp;rw[<- R.up hop]at e;rcases Nat.lt_trichotomy p i with h|h|h
 ·rw[show Nat.blt p i=true by simpa[Nat.blt_eq]using h];cases hq:D p with
  |true=>rfl
  | false =>
    have:=R.both _ (hc.add hi hb) i p h hlt a2b (by rw[a3n (by omega)];exact hq);exact absurd e (this.ind.fu k hk)
 ·subst h;rw[hD];exact(Bool.eq_false_iff.2 fun e=>by rw[Nat.blt_eq]at e;omega).symm
 ·rw[show Nat.blt p i=false by
   cases hq:Nat.blt p i with
   |false=>rfl
   |true=>rw[Nat.blt_eq]at hq;omega]
  cases hq:D p with
  |false=>rfl
  | true =>
    have:=R.both D hc p i h hp hq hD;exact absurd e (this.ind.uf k hk)
theorem Rgn.addT (R:Rgn Γ ops F E X) {D:Nat->Bool} {i:Nat} {o:Oper} (hc:a2I ops D) (hi:ops[i]?=some o) (hD:D i=false):TX ops F X (a9S D i)=c1Q (TX ops F X D) o.dst (X i).v:=by
 have hlt:i<ops.size:=(Array.getElem?_eq_some_iff.1 hi).1;funext t;rw[<- a8L hi];refine d5p hD _ hlt fun p h1 h2 h3 t e e'=>?_
 have hop:ops[p]?=some ops[p]:=Array.getElem?_eq_getElem h2;rw[a8L hi]at e;rw[a8L hop]at e';exact((R.both D hc p i h1 h2 h3 hD).apart _ _ hop hi).dd t e' e
theorem Rgn.addG (R:Rgn Γ ops F E X) {D:Nat->Bool} {i:Nat} {o:Oper} (hc:a2I ops D) (hi:ops[i]?=some o) (hD:D i=false):GX ops F X (a9S D i)=a4O (X i).upd (GX ops F X D):=by
 have hlt:i<ops.size:=(Array.getElem?_eq_some_iff.1 hi).1;funext k;refine d5q hD _ hlt fun p h1 h2 h3 e e'=>?_
 have hop:ops[p]?=some ops[p]:=Array.getElem?_eq_getElem h2;rw[<- R.up hi]at e;rw[<- R.up hop]at e';exact(R.both D hc p i h1 h2 h3 hD).ind.uu k e' e
structure DS (P:Program) (Γ:Env) (z:a5r) (ops:Array Oper) (F:Nat->FS) (X:Nat->Res) (D:Nat->Bool) (β:Bt) (K:Ks) (a:Act) (w:World):Prop where
 tmp:∀t,VR β K (TX ops F X D t) (a.tmps.getD t undef)
 nt:a.tmps.size=Γ.nt
 defers:a.defers=[]
 kok:KOK K w
 mr:MR β K (GX ops F X D) w
 dom:∀k,β k≠none->k<(F 0).n∨∃i,i<ops.size /\ D i=true /\ (F i).n<=k /\ k<(F (i+1)).n
 kle:KLe z.K K
 knew:∀b arr,K b=some arr->z.K b=some arr∨z.S b∨z.w.heap.size<=b
 fr:Fr z.J z.w w
 own:∀x,Own β (GX ops F X D) x->z.S x∨z.w.heap.size<=x
 ble:∀k h,k<z.m->z.β k=some h->β k=some h
 le:z.m<=(F 0).n
theorem DS.free (R:Rgn Γ ops F E X) {D:Nat->Bool} {β:Bt} {K:Ks} {a:Act} {w:World} (h:DS P Γ z ops F X D β K a w) {i:Nat} (hi:i<ops.size) (hD:D i=false):∀k,(F i).n<=k->k<(F (i+1)).n->β k=none:=by
 intro k h1 h2;cases hq:β k with
 |none=>rfl
 | some y =>
   exfalso;rcases h.dom k (by rw[hq];simp)with h3|⟨j,h3,h4,h5,h6⟩
   ·have:=R.n (i:=0) (j:=i) (by omega) (by omega);omega
   ·rcases Nat.lt_trichotomy j i with h7|h7|h7
    ·have:=R.n (i:=j+1) (j:=i) (by omega) (by omega);omega
    ·subst h7;rw[hD]at h4;cases h4
    ·have:=R.n (i:=i+1) (j:=j) (by omega) (by omega);omega
theorem DS.step {Γ':Env} (env:a1g P Γ') (R:Rgn Γ ops F E X) {D:Nat->Bool} {β:Bt} {K:Ks} {a:Act} {w:World} (h:DS P Γ z ops F X D β K a w) (hc:a2I ops D) {i:Nat} {o:Oper} (hi:ops[i]?=some o) (heq:∀T G n,act Γ o (a4K T) G n=act Γ' o (a4K T) G n) (hb:a7Y D o) (hD:D i=false)
 {next:Act->World->Prop} (hn:∀β K a w,DS P Γ z ops F X (a9S D i) β K a w->next a w):wpOp P ops Q i next a w:=by
 have hlt:i<ops.size:=(Array.getElem?_eq_some_iff.1 hi).1;have hs:=R.step i o hi;have hlook:∀t,t∈looks ops o->VR β K ((F i).T t) (a.tmps.getD t undef):=fun t ht=>by rw[<- R.lookT hc hi hb hD ht];exact h.tmp t
 have hw:=a7h (β:=β) (K:=K) (a:=a) (T:=(F i).T) hs fun g want t hg ht=>hlook t (by
  unfold looks;rw[hg];dsimp only;unfold a9J at ht;rw[ht];exact List.mem_append_right _ (List.mem_singleton.2 rfl))
 unfold wpOp;rw[hi];dsimp only;rw[hw];cases hr:(X i).run with
 | true =>
   rw[if_pos rfl];left;obtain⟨_,out,h1,h2,h3,h4,h5,h6⟩:=hs.exec hr;have hkb:=R.kb i hlt;have hfp:(E i).fp=a8d o (a4K (F i).T) (F i).G:=by rw[h6]
   rw[h6]at hkb;dsimp only at hkb;rw[heq]at h1;refine e6R (Gc:=GX ops F X D) (β:=β) (K:=K) env h1 h2 hkb (fun k hk=>R.lookG hc hi hb hD (by rw[hfp];exact hk)) h.kok h.mr (by rw[<- h5];exact h.free R hlt hD) ?_ _ _ fun v w' hp=>?_
   ·intro x hx;cases x with
    | tmp t =>
      refine hlook t ?_;unfold looks c3z;exact List.mem_append_left _ (List.mem_filterMap.2 ⟨.tmp t,by simpa using hx,rfl⟩)
    |const v=>exact a8G v
    |global g=>exact a5P
    |func f=>exact⟨[],rfl,trivial⟩
   ·obtain⟨β',K',hp⟩:=hp;obtain⟨g1,g2,g3⟩:=a8F (Γ:=Γ) (d:=o.dst) (x:=out.v) (v:=v) h.tmp hp.ble hp.kle h.nt hs.dst hp.vr;refine hn β' K' _ _ ⟨?_,g2,g3.trans h.defers,hp.kok,?_,?_,h.kle.trans hp.kle,?_,?_,?_,fun k y hk e=>hp.ble _ _ (h.ble k y hk e),h.le⟩
    ·rw[R.addT hc hi hD,h3];exact g1
    ·rw[R.addG hc hi hD,h4];exact hp.mr
    ·intro k hk;rcases hp.dom k hk with h7|⟨h7,h8⟩
     ·rcases h.dom k h7 with h9|⟨j,h9,h10,h11⟩
      ·exact .inl h9
      ·exact .inr ⟨j,h9,by simp[a9S,h10],h11⟩
     ·exact .inr ⟨i,hlt,a2b,h7,by rw[h5];exact h8⟩
    ·intro b arr e;rcases hp.knew b arr e with h7|h7|h7
     ·exact h.knew b arr h7
     ·exact .inr (h.own b h7)
     ·exact .inr (.inr (Nat.le_trans h.fr.size h7))
    ·exact h.fr.trans hp.fr (f7G h.own h.knew)
    ·intro x hx;rw[R.addG hc hi hD,h4]at hx;rcases hp.own x hx with h7|h7
     ·exact h.own x h7
     ·exact .inr (Nat.le_trans h.fr.size h7)
 | false =>
   rw[if_neg (by simp)];obtain⟨_,h1,h2,h3,_⟩:=hs.skip hr;obtain⟨g1,g2,g3⟩:=a8F (Γ:=Γ) (d:=o.dst) (x := .tup []) (v:=undef) h.tmp (BLe.refl β) (KLe.refl K) h.nt hs.dst ⟨#[],rfl,trivial⟩;have hG:GX ops F X (a9S D i)=GX ops F X D:=by rw[R.addG hc hi hD,h2];rfl
   refine hn β K _ _ ⟨?_,g2,g3.trans h.defers,h.kok,by rw[hG];exact h.mr,?_,h.kle,h.knew,h.fr,by rw[hG];exact h.own,h.ble,h.le⟩
   ·rw[R.addT hc hi hD,h1];exact g1
   ·intro k hk;rcases h.dom k hk with h9|⟨j,h9,h10,h11⟩
    ·exact .inl h9
    ·exact .inr ⟨j,h9,by simp[a9S,h10],h11⟩
theorem DS.all (R:Rgn Γ ops F E X) {D:Nat->Bool} {β:Bt} {K:Ks} {a:Act} {w:World} (h:DS P Γ z ops F X D β K a w) (hD:∀i,i<ops.size->D i=true):SRf P Γ z β K (F ops.size) a w:=by
 have hT:TX ops F X D=(F ops.size).T:=by
  rw[R.T _ (le_refl _)];funext t;exact a6s _ fun p hp _=>hD p hp
 have hG:GX ops F X D=(F ops.size).G:=by
  rw[R.G _ (le_refl _)];funext t;exact a6t _ fun p hp _=>hD p hp
 refine⟨by rw[<- hT];exact h.tmp,h.nt,h.defers,h.kok,by rw[<- hG];exact h.mr,?_,h.kle,h.knew,h.fr,by rw[<- hG];exact h.own,h.ble,Nat.le_trans h.le (R.n (zero_le _) (le_refl _))⟩;intro k hk;cases hq:β k with
 |none=>rfl
 | some y =>
   exfalso;rcases h.dom k (by rw[hq];simp)with h3|⟨j,h3,_,_,h6⟩
   ·have:=R.n (i:=0) (j:=ops.size) (by omega) (le_refl _);omega
   ·have:=R.n (i:=j+1) (j:=ops.size) (by omega) (le_refl _);omega
theorem c1U (env:a1g P Γ) (R:Rgn Γ ops F E X) (hQ:∀β K a w,SRf P Γ z β K (F ops.size) a w->Q .normal a w) :
 ∀(fuel:Nat) (listed:Array Bool),listed.size=ops.size->cnt (fun k=>listed.getD k false) ops.size<=fuel->a2I ops (fun k=>listed.getD k false) ->
 ∀β K a w,DS P Γ z ops F X (fun k=>listed.getD k false) β K a w->wpAny P .any ops Q fuel listed a w:=by
 have hall:∀(listed:Array Bool),listed.size=ops.size->Region.ready .any ops listed=[]->∀i,i<ops.size->listed.getD i false=true:=by
  intro listed hsz hr i
  induction i using Nat.strongRecOn with
  | _ i ih =>
    intro hi;cases hq:listed.getD i false with
    |true=>rfl
    | false =>
      exfalso;have ho:ops[i]?=some ops[i]:=Array.getElem?_eq_getElem hi;have:i∈Region.ready .any ops listed:=by
       rw[mem_ready];refine⟨?_,_,ho,fun e he hb=>?_⟩
       ·have hlt:i<listed.size:=by omega
        simp[hlt]at hq ⊢;exact hq
       ·have hlt:=R.edge i _ ho e he hb;exact ih e.on hlt (by omega)
      rw[hr]at this;cases this
 intro fuel
 induction fuel with
 | zero =>
   intro listed hsz hc hcl β K a w h;have hD:=b1z (Nat.le_zero.1 hc);refine⟨?_,hQ β K a w (h.all R hD)⟩;cases hr:Region.ready .any ops listed with
   |nil=>rfl
   | cons i r =>
     exfalso;have hm:i∈Region.ready .any ops listed:=by rw[hr];exact List.mem_cons_self ..
     obtain⟨h1,o,ho,_⟩:=mem_ready.1 hm;have hlt:i<ops.size:=(Array.getElem?_eq_some_iff.1 ho).1;have h2:=hD i hlt;have hlt2:i<listed.size:=by omega
     simp[hlt2]at h1 h2;rw[h1]at h2;cases h2
 | succ fuel ih =>
   intro listed hsz hc hcl β K a w h;refine⟨fun hr=>hQ β K a w (h.all R (hall listed hsz hr)),fun i hi=>?_⟩;obtain⟨h1,o,ho,h2⟩:=mem_ready.1 hi;have hlt:i<ops.size:=(Array.getElem?_eq_some_iff.1 ho).1;have hlt2:i<listed.size:=by omega
   have hDi:(fun k=>listed.getD k false) i=false:=by
    simp[hlt2]at h1 ⊢;exact h1
   have hD':(fun k=>(listed.setIfInBounds i true).getD k false)=a9S (fun k=>listed.getD k false) i:=by
    funext k;by_cases hk:k=i
    ·subst hk;rw[a2b];simp[hlt2]
    ·rw[a3n hk];exact getD_set_ne false (Ne.symm hk)
   have hbo:a7Y (fun k=>listed.getD k false) o:=fun e he hb=>h2 e he hb
   refine h.step env R hcl ho (fun _ _ _=>rfl) hbo hDi fun β' K' a' w' h'=>?_
   refine ih (listed.setIfInBounds i true) (by simpa using hsz) ?_ ?_ β' K' a' w' (by rw[hD'];exact h')
   ·rw[hD'];have:=b5R (D:=fun k=>listed.getD k false) hDi hlt;omega
   ·rw[hD'];exact hcl.add ho hbo
theorem DS.start (R:Rgn Γ ops F E X) {β:Bt} {K:Ks} {a:Act} {w:World} (h:SRf P Γ z β K (F 0) a w) {D:Nat->Bool} (hD:∀i,D i=false):DS P Γ z ops F X D β K a w:=by
 have hT:∀N t,TD (F 0).T (a9J ops) (fun i=>(X i).v) D N t=(F 0).T t:=by
  intro N t
  induction N with
  |zero=>rfl
  |succ N ih=>simp only[TD,hD N,Bool.false_eq_true,false_and,if_false];exact ih
 have hG:∀N,GD (F 0).G (fun i=>(X i).upd) D N=(F 0).G:=by
  intro N
  induction N with
  |zero=>rfl
  |succ N ih=>simp only[GD,hD N,Bool.false_eq_true,if_false];exact ih
 refine⟨fun t=>by rw[show TX ops F X D t=(F 0).T t from hT _ t];exact h.tmp t,h.nt,h.defers,h.kok,by rw[show GX ops F X D=(F 0).G from hG _];exact h.mr,?_,h.kle,h.knew,h.fr,by rw[show GX ops F X D=(F 0).G from hG _];exact h.own,h.ble,h.le⟩;intro k hk;left;rcases Nat.lt_or_ge k (F 0).n with h1|h1
 ·exact h1
 ·exact absurd (h.fresh k h1) hk
end
theorem MR.ren {β β':Bt} {K:Ks} {get get':Get} {w:World} {σ:Nat->Option Nat} (h:MR β K get w) (hσ:∀k k' h,σ k=some k'->β k=some h->β' k'=some h)
 (hs:∀k' b',get' k'=some b'->∃k b,σ k=some k' /\ get k=some b /\ b2D σ b=some b'):MR β' K get' w:=by
 refine⟨fun k' b' e=>?_,fun k k' b b' y y' x e e' f f' g g'=>?_,fun k' b' y x e f g=>?_⟩
 ·obtain⟨k,b,h1,h2,h3⟩:=hs k' b' e;obtain⟨y,h4,h5⟩:=h.blk k b h2;exact⟨y,hσ _ _ _ h1 h4,a8A hσ h3 h5⟩
 ·obtain⟨j,c,h1,h2,_⟩:=hs k b e;obtain⟨j',c',h1',h2',_⟩:=hs k' b' e';obtain⟨u,h4,_⟩:=h.blk j c h2;obtain⟨u',h4',_⟩:=h.blk j' c' h2';have h5:=hσ _ _ _ h1 h4;have h5':=hσ _ _ _ h1' h4';rw[f]at h5;rw[f']at h5';cases h5;cases h5';have:=h.sep j j' c c' _ _ x h2 h2' h4 h4' g g';subst this;rw[h1]at h1';cases h1';rfl
 ·obtain⟨j,c,h1,h2,_⟩:=hs k' b' e;obtain⟨u,h4,_⟩:=h.blk j c h2;have h5:=hσ _ _ _ h1 h4;rw[f]at h5;cases h5;exact h.ro j c _ x h2 h4 g
theorem Own.ren {β β':Bt} {K:Ks} {get get':Get} {w:World} {σ:Nat->Option Nat} (h:MR β K get w) (hσ:∀k k' h,σ k=some k'->β k=some h->β' k'=some h)
 (hs:∀k' b',get' k'=some b'->∃k b,σ k=some k' /\ get k=some b /\ b2D σ b=some b') {x:Nat} (ho:Own β' get' x):Own β get x:=by
 obtain⟨k',b',y,e,f,g⟩:=ho;obtain⟨j,c,h1,h2,_⟩:=hs k' b' e;obtain⟨u,h4,_⟩:=h.blk j c h2;have h5:=hσ _ _ _ h1 h4;rw[f]at h5;cases h5;exact⟨j,c,_,h2,h4,g⟩
theorem a3Z:∀(l:List Nat) (m:Nat),a3Q l m=l.filter fun k=>Nat.ble m k
 |[],_=>rfl
 | k::r,m=>by
   unfold a3Q;cases h:Nat.ble m k with
   |true=>rw[List.filter_cons_of_pos (by exact h),a3Z r m]
   |false=>rw[List.filter_cons_of_neg (by rw[h];simp),a3Z r m]
theorem a8M:∀{ks:List Nat} {k i p:Nat},ks.Nodup->ks[p]?=some k->a2F ks k i=some (i+p)
 |[],_,_,_,_,h=>by simp at h
 | x::r,k,i,0,hn,h=>by
   simp only[List.getElem?_cons_zero,injEq]at h;subst h;simp[a2F]
 | x::r,k,i,p+1,hn,h=>by
   simp only[List.getElem?_cons_succ]at h;have hne:x≠k:=fun e=>by
    subst e;exact(List.nodup_cons.1 hn).1 (List.mem_of_getElem? h)
   simp only[a2F,a1A hne];rw[a8M (List.nodup_cons.1 hn).2 h];congr 1;omega
def a8N (β:Bt) (rest:List Nat) (m:Nat):Bt:=fun k=>if k<m then β k else(rest[k-m]?).bind β
theorem a2W {β:Bt} {rest:List Nat} {m:Nat}:∀k k' h,a2S rest m k=some k'->β k=some h->a8N β rest m k'=some h:=by
 intro k k' h e hb;unfold a2S at e;split at e
 ·rename_i hlt;cases e;unfold a8N;rw[if_pos (by simpa[Nat.blt_eq]using hlt)];exact hb
 ·obtain⟨p,h1,h2⟩:=a5N e;unfold a8N;rw[if_neg (by omega)];have:k'-m=p:=by omega
  rw[this,h2];exact hb
theorem b1A {β:Bt} {rest:List Nat} {m k:Nat} (h:k<m):a8N β rest m k=β k:=if_pos h
theorem b1B {β:Bt} {rest:List Nat} {m k:Nat} (h:m+rest.length<=k):a8N β rest m k=none:=by
 unfold a8N;rw[if_neg (by omega),List.getElem?_eq_none (by omega)];rfl
theorem b0n {get:Get} {σ:Nat->Option Nat}:∀{ks:List Nat} {l:List (Nat×Option Blk)},c3A get σ ks=some l->∀k' b',a1D l k'=some (some b')->∃k b,σ k=some k' /\ get k=some b /\ b2D σ b=some b'
 |[],l,h,k',b',e=>by simp only[c3A,injEq]at h;subst h;simp[a1D]at e
 | k :: r,l,h,k',b',e=>by
   simp only[c3A]at h;split at h
   ·rename_i j b l' h1 h2 h3;cases h;simp only[a1D]at e;split at e
    ·rename_i hj;have:=a0g hj;subst this;cases e;cases hg:get k with
     |none=>rw[hg]at h2;simp[a5J]at h2
     | some b0 =>
       rw[hg]at h2;simp only[a5J,Option.map_eq_some_iff,injEq]at h2;obtain⟨b1,h4,h5⟩:=h2;exact⟨k,b0,h1,hg,by rw[h4,h5]⟩
    ·exact b0n h3 k' b' e
   ·cases h
theorem b3f {s:St} {σ:Nat->Option Nat}:∀{live:List Nat} {l:List (Nat×V)},a1v (fun t=>(e5w σ (s.tmpV t)).map fun v=>(t,v)) live=some l->∀t v,a1D l t=some v->e5w σ (s.tmpV t)=some v
 |[],l,h,t,v,e=>by simp only[a1v,injEq]at h;subst h;simp[a1D]at e
 | j :: r,l,h,t,v,e=>by
   simp only[a1v]at h;split at h
   ·rename_i y hy;split at h
    ·rename_i ys hys;cases h;simp only[Option.map_eq_some_iff]at hy;obtain⟨u,h1,h2⟩:=hy;subst h2;simp only[a1D]at e;split at e
     ·rename_i hj;have:=a0g hj;subst this;cases e;exact h1
     ·exact b3f hys t v e
    ·cases h
   ·cases h
section
variable {P:Program} {Γ:Env} {z:a5r}
def SR (P:Program) (Γ:Env) (z:a5r) (s:St) (a:Act) (w:World):Prop:=s.m=z.m /\ ∃β K,SRf P Γ z β K s.fs a w
theorem SRf.still {β:Bt} {K:Ks} {F:FS} {a:Act} {w w':World} (h:SRf P Γ z β K F a w) (s:a0p w w'):SRf P Γ z β K F a w':=
 ⟨h.tmp,h.nt,h.defers,h.kok.still s,h.mr.still s,h.fresh,h.kle,h.knew,⟨s.os.trans h.fr.os,s.tape.trans h.fr.tape,s.output.trans h.fr.output,by rw[s.heap];exact h.fr.size,fun b hb hn=>by rw[s.heap];exact h.fr.block b hb hn⟩,h.own,h.ble,h.le⟩
theorem SRf.turn {β β':Bt} {K K':Ks} {F F':FS} {a:Act} {w:World} (h:SRf P Γ z β K F a w) (hb:∀k h,k<z.m->β k=some h->β' k=some h) (hk:KLe K K') (kok:KOK K' w)
 (knew:∀b arr,K' b=some arr->K b=some arr∨Own β F.G b∨w.heap.size<=b) (tmp:∀t,VR β' K' (F'.T t) (a.tmps.getD t undef)) (mr:MR β' K' F'.G w) (fresh:∀k,F'.n<=k->β' k=none)
 (own:∀x,Own β' F'.G x->Own β F.G x) (le:F.n<=F'.n):SRf P Γ z β' K' F' a w:=
 ⟨tmp,h.nt,h.defers,kok,mr,fresh,h.kle.trans hk,fun b arr e=>by
  rcases knew b arr e with h1|h1|h1
  ·exact h.knew b arr h1
  ·exact .inr (h.own b h1)
  ·exact .inr (.inr (Nat.le_trans h.fr.size h1)),h.fr,fun x hx=>h.own x (own x hx),fun k y hk e=>hb k y hk (h.ble k y hk e),Nat.le_trans h.le le⟩
theorem a2X {s:St} {tm:List (Nat×V)} {n:Nat} {l:List (Nat×Option Blk)} {k:Nat} {b:Blk} (h:(St.get { s with tmps:=tm,mem:=l++s.mem,n:=n }) k=some b):a4O l s.get k=some b:=by
 induction l with
 |nil=>exact h
 | cons p l ih =>
   obtain⟨j,c⟩:=p;simp only[St.get,List.cons_append,a1D,a4O]at h ih ⊢;by_cases hj:j=k
   ·subst hj;simpa using h
   ·rw[a1A hj]at h ⊢;exact ih h
theorem a5h {s:St} {t:Nat} {v:V} {mm:List (Nat×Option Blk)} {n:Nat} (j:Nat):(St.tmpV { s with tmps:=(t,v)::s.tmps,mem:=mm,n:=n }) j=if t=j then v else s.tmpV j:=by
 unfold St.tmpV;simp only[a1D];by_cases hj:t=j
 ·subst hj;simp
 ·rw[a1A hj,if_neg hj]
theorem c4e {β:Bt} {K:Ks} {s:St} {a:Act} {w:World} (h:SRf P Γ z β K s.fs a w) {ty:Ty} {ad:Option Addr} :
 (∀k b,s.get k=some b->k≠s.n) /\ BLe β (a9P β s.n ⟨.slice ad 0 0,none⟩) /\ (∀K',CR (a9P β s.n ⟨.slice ad 0 0,none⟩) K' (.ref ty s.n) (.slice ad 0 0)):=by
 have hn:β s.n=none:=h.fresh s.n (le_refl _);refine⟨fun k b e e'=>?_,BLe.add _ hn,fun K'=>⟨_,ad,0,0,a0A ..,rfl,rfl⟩⟩;subst e';obtain⟨y,hy,_⟩:=h.mr.blk _ b e;rw[hn]at hy;cases hy
theorem a6w {α γ:Type} {R:α->γ->Prop}:∀{as1:List α} {bs:List γ} {i:Nat} {x:α},All2 R as1 bs->(∀y,bs[i]?=some y->R x y)->All2 R (as1.set i x) bs
 |[],_,_,_,h,_=>h
 |_::_,[],_,_,h,_=>h.elim
 |a::as1,b::bs,0,x,h,hx=>⟨hx b rfl,h.2⟩
 |a::as1,b::bs,i+1,x,h,hx=>⟨h.1,a6w h.2 fun y hy=>hx y hy⟩
theorem e0Q {a:Act} {w:World} (c:Cv) {s:St} (h0:SR P Γ z s a w):SR P Γ z (c3q c s) a w /\ (c3q c s).m=s.m:=by
 have a3i:SR P Γ z s a w /\ s.m=s.m:=⟨h0,rfl⟩;obtain⟨hm,β,K,h⟩:=h0;have nilSl:∀{β:Bt} {K:Ks} {ty:Ty} {u:Value},CR β K (.nil ty) u->CR β K (.sl ty []) u:=fun{β K ty u} hu=>by
  obtain⟨ad,rfl⟩:=hu;exact⟨ad,0,0,rfl,rfl,le_refl _,.inl rfl⟩
 cases c with
 | sl t =>
   unfold c3q;dsimp only;split
   ·rename_i ty ht;have hv:=h.tmp t;rw[show s.fs.T t = .val (.one (.nil ty))from ht]at hv;refine⟨⟨hm,β,K,h.turn (fun k y _ e=>e) (KLe.refl K) h.kok (fun _ _ e => .inl e) (fun j=>?_) h.mr h.fresh (fun x hx=>hx) (le_refl _)⟩,rfl⟩;show VR β K (St.tmpV { s with tmps:=(t,.val (.one (.sl ty [])))::s.tmps,mem:=s.mem,n:=s.n } j) _;rw[a5h];split
    ·rename_i hj;subst hj;exact nilSl (β:=β) hv
    ·exact h.tmp j
   ·exact a3i
 | boxSl t off =>
   unfold c3q;dsimp only;split
   ·rename_i k0 o0 ht;split
    ·rename_i cs hg;split
     ·rename_i ty hc;obtain⟨y0,hy0,bb,arr,T,rfl,hh,hcs⟩:=h.mr.blk k0 _ hg;obtain⟨u,hu,hv⟩:=hcs.get? hc;have hcase:∀k b,(St.get { s with mem:=(k0,some (.box (cs.set off (.sl ty []))))::s.mem }) k=some b->(k=k0 /\ b = .box (cs.set off (.sl ty [])))∨(k≠k0 /\ s.get k=some b):=by
       intro k b e;rcases a0B (a2X (tm:=s.tmps) (n:=s.n) (l:=[(k0,some (.box (cs.set off (.sl ty []))))]) e)with⟨rfl,e1⟩|⟨h1,h2⟩
       ·cases e1;exact .inl ⟨rfl,rfl⟩
       ·exact .inr ⟨h1,h2⟩
      refine⟨⟨hm,β,K,h.turn (fun k y _ e=>e) (KLe.refl K) h.kok (fun _ _ e => .inl e) (fun j=>h.tmp j) ?_ h.fresh ?_ (le_refl _)⟩,rfl⟩
      ·refine h.mr.step (BLe.refl β) (KLe.refl K) fun k b e=>?_
       rcases hcase k b e with⟨rfl,rfl⟩|⟨h1,h3⟩
       ·refine .inr ⟨_,hy0,⟨bb,arr,T,rfl,hh,a6w hcs fun y hy=>by rw[hu]at hy;cases hy;exact nilSl hv⟩,fun x hx=>⟨h.mr.ro k _ _ x hg hy0 hx,fun k' b' y' e' f' g'=>?_⟩⟩;rcases hcase k' b' e' with⟨rfl,rfl⟩|⟨h1,h3⟩
        ·rfl
        ·exact h.mr.sep k' k b' _ y' _ x h3 hg f' hy0 g' hx
       ·exact .inl ⟨h3,fun x y f g=>⟨rfl,h.mr.ro k b y x h3 f g⟩⟩
      ·rintro x ⟨k,b,y,e,f,g⟩;rcases hcase k b e with⟨rfl,rfl⟩|⟨h1,h3⟩
       ·exact⟨k,_,y,hg,f,g⟩
       ·exact⟨k,b,y,h3,f,g⟩
     ·exact a3i
    ·exact a3i
   ·exact a3i
 | forget t =>
   refine⟨⟨hm,β,K,h.turn (fun k y _ e=>e) (KLe.refl K) h.kok (fun _ _ e => .inl e) (fun j=>?_) h.mr h.fresh (fun x hx=>hx) (le_refl _)⟩,rfl⟩;show VR β K (St.tmpV { s with tmps:=(t,pois)::s.tmps,mem:=s.mem,n:=s.n } j) _;rw[a5h];split
   ·exact a5P
   ·exact h.tmp j
 | nil t =>
   unfold c3q;dsimp only;split
   ·rename_i ty ht;refine⟨⟨hm,?_⟩,rfl⟩;have hv:=h.tmp t;rw[show s.fs.T t = .val (.one (.nil ty))from ht]at hv;obtain⟨ad,hv⟩:=hv;obtain⟨hgn,hle,hcr⟩:=c4e h (ty:=ty) (ad:=ad);refine⟨a9P β s.n ⟨.slice ad 0 0,none⟩,K,h.turn (fun k y _ e=>hle _ _ e) (KLe.refl K) h.kok (fun _ _ e => .inl e) (fun j=>?_) ?_ ?_ ?_ (Nat.le_succ _)⟩
    ·show VR _ K (St.tmpV { s with tmps:=(t,.val (.one (.ref ty s.n)))::s.tmps,mem:=(s.n,some (.arr ty []))::s.mem,n:=s.n+1 } j) _;rw[a5h];split
     ·rename_i hj;subst hj;rw[hv];exact hcr K
     ·exact(h.tmp j).mono hle (KLe.refl K)
    ·refine h.mr.step hle (KLe.refl K) fun k b e=>?_
     rcases a0B (a2X (l:=[(s.n,some (.arr ty []))]) e)with⟨rfl,e1⟩|⟨h1,h2⟩
     ·cases e1;exact .inr ⟨_,a0A ..,.inl ⟨rfl,ad,rfl⟩,fun x hx=>by cases hx⟩
     ·exact .inl ⟨h2,fun x y f g=>⟨rfl,h.mr.ro k b y x h2 f g⟩⟩
    ·intro k hk;have hk':s.n+1<=k:=hk;rw[a1a _ _ (by omega)];exact h.fresh k (by show s.n<=k;omega)
    ·rintro x ⟨k,b,y,e,f,g⟩;rcases a0B (a2X (l:=[(s.n,some (.arr ty []))]) e)with⟨rfl,e1⟩|⟨h1,h2⟩
     ·rw[a0A]at f;cases f;cases g
     ·rw[a1a _ _ h1]at f;exact⟨k,b,y,h2,f,g⟩
   ·exact a3i
 | boxNil t off =>
   unfold c3q;dsimp only;split
   ·rename_i k0 o0 ht;split
    ·rename_i cs hg;split
     ·rename_i ty hc;refine⟨⟨hm,?_⟩,rfl⟩;obtain⟨y0,hy0,bb,arr,T,rfl,hh,hcs⟩:=h.mr.blk k0 _ hg;obtain⟨u,hu,ad,hv⟩:=hcs.get? hc;obtain⟨hgn,hle,hcr⟩:=c4e h (ty:=ty) (ad:=ad);have hk0:k0≠s.n:=hgn k0 _ hg;have hcase:∀k b,(St.get { s with mem:=(k0,some (.box (cs.set off (.ref ty s.n))))::(s.n,some (.arr ty []))::s.mem,n:=s.n+1 }) k=some b ->
       (k=k0 /\ b = .box (cs.set off (.ref ty s.n)))∨(k=s.n /\ b = .arr ty [])∨(k≠k0 /\ k≠s.n /\ s.get k=some b):=by
       intro k b e;rcases a0B (a2X (l:=[(k0,some (.box (cs.set off (.ref ty s.n)))),(s.n,some (.arr ty []))]) e)with⟨rfl,e1⟩|⟨h1,h2⟩
       ·cases e1;exact .inl ⟨rfl,rfl⟩
       ·rcases a0B h2 with⟨rfl,e1⟩|⟨h3,h4⟩
        ·cases e1;exact .inr (.inl ⟨rfl,rfl⟩)
        ·exact .inr (.inr ⟨h1,h3,h4⟩)
      refine⟨a9P β s.n ⟨.slice ad 0 0,none⟩,K,h.turn (fun k y _ e=>hle _ _ e) (KLe.refl K) h.kok (fun _ _ e => .inl e) (fun j=>(h.tmp j).mono hle (KLe.refl K)) ?_ ?_ ?_ (Nat.le_succ _)⟩
      ·refine h.mr.step hle (KLe.refl K) fun k b e=>?_
       rcases hcase k b e with⟨rfl,rfl⟩|⟨rfl,rfl⟩|⟨h1,h2,h3⟩
       ·refine .inr ⟨_,hle _ _ hy0,⟨bb,arr,T,rfl,hh,a6w (hcs.mono fun _ _=>CR.mono hle (KLe.refl K)) fun y hy=>?_⟩,fun x hx=>⟨h.mr.ro k _ _ x hg hy0 hx,fun k' b' y' e' f' g'=>?_⟩⟩
        ·rw[hu]at hy;cases hy;rw[hv];exact hcr K
        ·rcases hcase k' b' e' with⟨rfl,rfl⟩|⟨rfl,rfl⟩|⟨h1,h2,h3⟩
         ·rfl
         ·rw[a0A]at f';cases f';cases g'
         ·rw[a1a _ _ h2]at f';exact h.mr.sep k' k b' _ y' _ x h3 hg f' hy0 g' hx
       ·exact .inr ⟨_,a0A ..,.inl ⟨rfl,ad,rfl⟩,fun x hx=>by cases hx⟩
       ·exact .inl ⟨h3,fun x y f g=>⟨rfl,h.mr.ro k b y x h3 f g⟩⟩
      ·intro k hk;have hk':s.n+1<=k:=hk;rw[a1a _ _ (by omega)];exact h.fresh k (by show s.n<=k;omega)
      ·rintro x ⟨k,b,y,e,f,g⟩;rcases hcase k b e with⟨rfl,rfl⟩|⟨rfl,rfl⟩|⟨h1,h2,h3⟩
       ·rw[a1a _ _ hk0]at f;exact⟨k,_,y,hg,f,g⟩
       ·rw[a0A]at f;cases f;cases g
       ·rw[a1a _ _ h2]at f;exact⟨k,b,y,h3,f,g⟩
     ·exact a3i
    ·exact a3i
   ·exact a3i
 | mv t off j =>
   unfold c3q;dsimp only;split
   ·rename_i k0 o0 ht;split
    ·rename_i cs hg;split
     ·rename_i ty j' hc;split
      ·rename_i hj;have hj:j=j':=a0g hj;subst hj;split
       ·rename_i ty' l hgj;refine⟨⟨hm,?_⟩,rfl⟩;obtain⟨y0,hy0,bb,arr,T,rfl,hh,hcs⟩:=h.mr.blk k0 _ hg;obtain⟨yj,hyj,hbj⟩:=h.mr.blk j _ hgj;obtain⟨u,hu,hv⟩:=hcs.get? hc;have hn:β s.n=none:=h.fresh s.n (le_refl _);have hgn:∀k b,s.get k=some b->k≠s.n:=fun k b e e'=>by
         subst e';obtain⟨y,hy,_⟩:=h.mr.blk _ b e;rw[hn]at hy;cases hy
        have hle:BLe β (a9P β s.n yj):=BLe.add _ hn;have hk0:k0≠s.n:=hgn k0 _ hg;have hjn:j≠s.n:=hgn j _ hgj;have hkj:k0≠j:=fun e=>by subst e;rw[hg]at hgj;cases hgj
        have hcase:∀k b,(St.get { s with mem:=(k0,some (.box (cs.set off (.ref ty s.n))))::(s.n,some (.arr ty' l))::(j,none)::s.mem,n:=s.n+1 }) k=some b ->
         (k=k0 /\ b = .box (cs.set off (.ref ty s.n)))∨(k=s.n /\ b = .arr ty' l)∨(k≠k0 /\ k≠s.n /\ k≠j /\ s.get k=some b):=by
         intro k b e;rcases a0B (a2X (l:=[(k0,some (.box (cs.set off (.ref ty s.n)))),(s.n,some (.arr ty' l)),(j,none)]) e)with⟨rfl,e1⟩|⟨h1,h2⟩
         ·cases e1;exact .inl ⟨rfl,rfl⟩
         ·rcases a0B h2 with⟨rfl,e1⟩|⟨h3,h4⟩
          ·cases e1;exact .inr (.inl ⟨rfl,rfl⟩)
          ·rcases a0B h4 with⟨rfl,e1⟩|⟨h5,h6⟩
           ·cases e1
           ·exact .inr (.inr ⟨h1,h3,h5,h6⟩)
        refine⟨a9P β s.n yj,K,h.turn (fun k y _ e=>hle _ _ e) (KLe.refl K) h.kok (fun _ _ e => .inl e) (fun j=>(h.tmp j).mono hle (KLe.refl K)) ?_ ?_ ?_ (Nat.le_succ _)⟩
        ·refine h.mr.step hle (KLe.refl K) fun k b e=>?_
         rcases hcase k b e with⟨rfl,rfl⟩|⟨rfl,rfl⟩|⟨h1,h2,h2',h3⟩
         ·refine .inr ⟨_,hle _ _ hy0,⟨bb,arr,T,rfl,hh,a6w (hcs.mono fun _ _=>CR.mono hle (KLe.refl K)) fun y hy=>?_⟩,fun x hx=>⟨h.mr.ro k _ _ x hg hy0 hx,fun k' b' y' e' f' g'=>?_⟩⟩
          ·rw[hu]at hy;cases hy;obtain⟨hd,a1,n1,c1,e1,e2,e3⟩:=hv;rw[hyj]at e1;cases e1;exact⟨_,a1,n1,c1,a0A ..,e2,e3⟩
          ·rcases hcase k' b' e' with⟨rfl,rfl⟩|⟨rfl,rfl⟩|⟨h1,h2,h2',h3⟩
           ·rfl
           ·rw[a0A]at f';cases f';exact absurd (h.mr.sep k j _ _ _ _ x hg hgj hy0 hyj hx g') hkj
           ·rw[a1a _ _ h2]at f';exact h.mr.sep k' k b' _ y' _ x h3 hg f' hy0 g' hx
         ·refine .inr ⟨_,a0A ..,hbj.mono hle (KLe.refl K),fun x hx=>⟨h.mr.ro j _ _ x hgj hyj hx,fun k' b' y' e' f' g'=>?_⟩⟩;rcases hcase k' b' e' with⟨rfl,rfl⟩|⟨rfl,rfl⟩|⟨h1,h2,h2',h3⟩
          ·rw[a1a _ _ hk0]at f';exact absurd (h.mr.sep k' j _ _ _ _ x hg hgj f' hyj g' hx) hkj
          ·rfl
          ·rw[a1a _ _ h2]at f';exact absurd (h.mr.sep k' j _ _ _ _ x h3 hgj f' hyj g' hx) h2'
         ·exact .inl ⟨h3,fun x y f g=>⟨rfl,h.mr.ro k b y x h3 f g⟩⟩
        ·intro k hk;have hk':s.n+1<=k:=hk;rw[a1a _ _ (by omega)];exact h.fresh k (by show s.n<=k;omega)
        ·rintro x ⟨k,b,y,e,f,g⟩;rcases hcase k b e with⟨rfl,rfl⟩|⟨rfl,rfl⟩|⟨h1,h2,h2',h3⟩
         ·rw[a1a _ _ hk0]at f;exact⟨k,_,y,hg,f,g⟩
         ·rw[a0A]at f;cases f;exact⟨j,_,_,hgj,hyj,g⟩
         ·rw[a1a _ _ h2]at f;exact⟨k,b,y,h3,f,g⟩
       ·exact a3i
      ·exact a3i
     ·exact a3i
    ·exact a3i
   ·exact a3i
 | frz t =>
   unfold c3q;dsimp only;split
   ·rename_i u ht;split
    ·rename_i u' hu;refine⟨⟨hm,?_⟩,rfl⟩;have hv:=h.tmp t;rw[show s.fs.T t = .val u from ht]at hv;have hget:∀k b,(St.get { s with tmps:=(t,.val u')::s.tmps,mem:=gone (a0L u)++s.mem }) k=some b->k ∉ a0L u /\ s.get k=some b:=fun k b e=>a1o (a2X (n:=s.n) e)
     refine⟨β,a4P β K s.get w (a0L u),h.turn (fun k y _ e=>e) a0K (a4m h.kok) a4n (fun j=>?_) ?_ h.fresh ?_ (le_refl _)⟩
     ·show VR _ _ (St.tmpV { s with tmps:=(t,.val u')::s.tmps,mem:=gone (a0L u)++s.mem } j) _;rw[a5h (n:=s.n)];split
      ·rename_i hj;subst hj;exact a5d h.mr hu hv (fun k hk=>hk) β
      ·exact(h.tmp j).mono (BLe.refl β) a0K
     ·refine h.mr.step (BLe.refl β) a0K fun k b e=>?_
      obtain⟨h1,h2⟩:=hget k b e;exact .inl ⟨h2,fun x y f g=>⟨rfl,a1M h.mr h2 h1 f g⟩⟩
     ·rintro x ⟨k,b,y,e,f,g⟩;obtain⟨h1,h2⟩:=hget k b e;exact⟨k,b,y,h2,f,g⟩
    ·exact a3i
   ·exact a3i
 | frzBox t =>
   unfold c3q;dsimp only;split
   ·rename_i k0 o0 ht;split
    ·rename_i cs hg;split
     ·rename_i cs' hcs';split
      ·rename_i hno;refine⟨⟨hm,?_⟩,rfl⟩;have hno':k0 ∉ cs.flatMap a0N:=fun e=>by rw[a6k.2 e]at hno;cases hno
       obtain⟨y0,hy0,bb,arr,T,rfl,hh,hcs⟩:=h.mr.blk k0 _ hg;have hcase:∀k b,(St.get { s with mem:=(k0,some (.box cs'))::(gone (cs.flatMap a0N)++s.mem) }) k=some b->(k=k0 /\ b = .box cs')∨(k≠k0 /\ k ∉ cs.flatMap a0N /\ s.get k=some b):=by
        intro k b e;rcases a0B (a2X (tm:=s.tmps) (n:=s.n) (l:=(k0,some (.box cs'))::gone (cs.flatMap a0N)) e)with⟨rfl,e1⟩|⟨h1,h2⟩
        ·cases e1;exact .inl ⟨rfl,rfl⟩
        ·obtain⟨h3,h4⟩:=a1o h2;exact .inr ⟨h1,h3,h4⟩
       refine⟨β,a4P β K s.get w (cs.flatMap a0N),h.turn (fun k y _ e=>e) a0K (a4m h.kok) a4n (fun j=>(h.tmp j).mono (BLe.refl β) a0K) ?_ h.fresh ?_ (le_refl _)⟩
       ·refine h.mr.step (BLe.refl β) a0K fun k b e=>?_
        rcases hcase k b e with⟨rfl,rfl⟩|⟨h1,h2,h3⟩
        ·refine .inr ⟨_,hy0,⟨bb,arr,T,rfl,hh,?_⟩,fun x hx=>⟨a1M h.mr hg hno' hy0 hx,fun k' b' y' e' f' g'=>?_⟩⟩
         ·have:=a5d h.mr (ks:=cs.flatMap a0N) (c := .agg cs) (c' := .agg cs') (show(a1v (roC s.get) cs).map W.agg=some (.agg cs')by rw[hcs'];rfl) ⟨arr,rfl,hcs⟩ (fun k hk=>hk) β;obtain⟨arr',e1,h2⟩:=this;cases e1;exact h2
         ·rcases hcase k' b' e' with⟨rfl,rfl⟩|⟨h1,h2,h3⟩
          ·rfl
          ·exact h.mr.sep k' k b' _ y' _ x h3 hg f' hy0 g' hx
        ·exact .inl ⟨h3,fun x y f g=>⟨rfl,a1M h.mr h3 h2 f g⟩⟩
       ·rintro x ⟨k,b,y,e,f,g⟩;rcases hcase k b e with⟨rfl,rfl⟩|⟨h1,h2,h3⟩
        ·exact⟨k,_,y,hg,f,g⟩
        ·exact⟨k,b,y,h3,f,g⟩
      ·exact a3i
     ·exact a3i
    ·exact a3i
   ·exact a3i
 | frzCell t off =>
   unfold c3q;dsimp only;split
   ·rename_i k0 o0 ht;split
    ·rename_i cs hg;split
     ·rename_i c hc;split
      ·rename_i c' hcc;split
       ·rename_i hno;refine⟨⟨hm,?_⟩,rfl⟩;have hno':k0 ∉ a0N c:=fun e=>by rw[a6k.2 e]at hno;cases hno
        obtain⟨y0,hy0,bb,arr,T,rfl,hh,hcs⟩:=h.mr.blk k0 _ hg;obtain⟨u,hu,hv⟩:=hcs.get? hc;have hcase:∀k b,(St.get { s with mem:=(k0,some (.box (cs.set off c')))::(gone (a0N c)++s.mem) }) k=some b->(k=k0 /\ b = .box (cs.set off c'))∨(k≠k0 /\ k ∉ a0N c /\ s.get k=some b):=by
         intro k b e;rcases a0B (a2X (tm:=s.tmps) (n:=s.n) (l:=(k0,some (.box (cs.set off c')))::gone (a0N c)) e)with⟨rfl,e1⟩|⟨h1,h2⟩
         ·cases e1;exact .inl ⟨rfl,rfl⟩
         ·obtain⟨h3,h4⟩:=a1o h2;exact .inr ⟨h1,h3,h4⟩
        refine⟨β,a4P β K s.get w (a0N c),h.turn (fun k y _ e=>e) a0K (a4m h.kok) a4n (fun j=>(h.tmp j).mono (BLe.refl β) a0K) ?_ h.fresh ?_ (le_refl _)⟩
        ·refine h.mr.step (BLe.refl β) a0K fun k b e=>?_
         rcases hcase k b e with⟨rfl,rfl⟩|⟨h1,h2,h3⟩
         ·refine .inr ⟨_,hy0,⟨bb,arr,T,rfl,hh,a6w (hcs.mono fun _ _=>CR.mono (BLe.refl β) a0K) fun y hy=>?_⟩,fun x hx=>⟨a1M h.mr hg hno' hy0 hx,fun k' b' y' e' f' g'=>?_⟩⟩
          ·rw[hu]at hy;cases hy;exact a5d h.mr (ks:=a0N c) (c := .one c) (c' := .one c') (show(roC s.get c).map W.one=some (.one c')by rw[hcc];rfl) hv (fun k hk=>by simpa[a0L,W.cells]using hk) β
          ·rcases hcase k' b' e' with⟨rfl,rfl⟩|⟨h1,h2,h3⟩
           ·rfl
           ·exact h.mr.sep k' k b' _ y' _ x h3 hg f' hy0 g' hx
         ·exact .inl ⟨h3,fun x y f g=>⟨rfl,a1M h.mr h3 h2 f g⟩⟩
        ·rintro x ⟨k,b,y,e,f,g⟩;rcases hcase k b e with⟨rfl,rfl⟩|⟨h1,h2,h3⟩
         ·exact⟨k,_,y,hg,f,g⟩
         ·exact⟨k,b,y,h3,f,g⟩
       ·exact a3i
      ·exact a3i
     ·exact a3i
    ·exact a3i
   ·exact a3i
 | jnk t =>
   unfold c3q;dsimp only;split
   ·rename_i k ht;split
    ·rename_i l hg;refine⟨⟨hm,?_⟩,rfl⟩;have hv:=h.tmp t;rw[show s.fs.T t = .val (.one (.ref (.flt .f32) k))from ht]at hv;obtain⟨y,ad,m,c,hb,hy,hu⟩:=hv;obtain⟨y',hb',hbr⟩:=h.mr.blk k _ hg;rw[hb]at hb';cases hb';have hget:∀j b,(St.get { s with tmps:=(t,.val (.one (.sl .jnk (l.map fun _=>()))))::s.tmps,mem:=(k,none)::s.mem }) j=some b->j≠k /\ s.get j=some b:=fun j b e=>by
      rcases a0B (a2X (n:=s.n) (l:=[(k,none)]) e)with⟨_,e1⟩|⟨h1,h2⟩
      ·cases e1
      ·exact⟨h1,h2⟩
     rcases hbr with⟨hl0,a',e'⟩|⟨b,cap,cur,T,e',hh,h1,h2,h3,h4⟩
     ·subst e';cases hy;subst hl0;refine⟨β,K,h.turn (fun k y _ e=>e) (KLe.refl K) h.kok (fun _ _ e => .inl e) (fun j=>?_) ?_ h.fresh ?_ (le_refl _)⟩
      ·show VR _ _ (St.tmpV { s with tmps:=(t,.val (.one (.sl .jnk [])))::s.tmps,mem:=(k,none)::s.mem } j) _;rw[a5h (n:=s.n)];split
       ·rename_i hj;subst hj;rw[hu];exact⟨_,0,0,rfl,rfl,le_refl _,.inl rfl⟩
       ·exact h.tmp j
      ·refine h.mr.step (BLe.refl β) (KLe.refl K) fun j b e=>?_
       obtain⟨h1,h2⟩:=hget j b e;exact .inl ⟨h2,fun x y f g=>⟨rfl,h.mr.ro j b y x h2 f g⟩⟩
      ·rintro x ⟨j,b,y,e,f,g⟩;obtain⟨h1,h2⟩:=hget j b e;exact⟨j,b,y,h2,f,g⟩
     ·subst e';cases hy;have hKb:K b=none:=h.mr.ro k _ _ b hg hb rfl;obtain⟨K',hK'⟩:∃K':Ks,K'=fun x=>if x=b then some (true,cur)else K x:=⟨_,rfl⟩
      have hKself:K' b=some (true,cur):=by rw[hK'];simp
      have hKne:∀x,x≠b->K' x=K x:=fun x hx=>by rw[hK'];simp[hx]
      have hle:KLe K K':=fun x z e=>by
       rw[hKne x (fun e'=>by rw[e',hKb]at e;cases e)];exact e
      refine⟨β,K',h.turn (fun k y _ e=>e) hle ⟨?_,h.kok.gk.mono hle⟩ ?_ (fun j=>?_) ?_ h.fresh ?_ (le_refl _)⟩
      ·intro x z e;by_cases hx:x=b
       ·subst hx;rw[hKself]at e;cases e;exact⟨cur,T,(0,0),hh,KOK.self fun _=>rfl⟩
       ·rw[hKne x hx]at e;exact h.kok.ato x z e
      ·intro x z e;by_cases hx:x=b
       ·subst hx;exact .inr (.inl ⟨k,_,_,hg,hb,rfl⟩)
       ·rw[hKne x hx]at e;exact .inl e
      ·show VR _ _ (St.tmpV { s with tmps:=(t,.val (.one (.sl .jnk (l.map fun _=>()))))::s.tmps,mem:=(k,none)::s.mem } j) _;rw[a5h (n:=s.n)];split
       ·rename_i hj;subst hj;rw[hu];refine⟨_,_,_,rfl,by simp,h1,.inr ⟨b,0,cur,rfl,hKself,fun i hi=>?_⟩⟩;have hi':i<l.length:=by simpa using hi
        obtain⟨q,hq,_⟩:=h4 i hi';rw[Nat.zero_add];exact⟨q,hq⟩
       ·exact(h.tmp j).mono (BLe.refl β) hle
      ·refine h.mr.step (BLe.refl β) hle fun j c e=>?_
       obtain⟨e1,e2⟩:=hget j c e;refine .inl ⟨e2,fun x y f g=>⟨rfl,?_⟩⟩;rw[hKne x (fun e'=>by subst e';exact e1 (h.mr.sep j k c _ y _ x e2 hg f hb g rfl))];exact h.mr.ro j c y x e2 f g
      ·rintro x ⟨j,c,y,e,f,g⟩;obtain⟨e1,e2⟩:=hget j c e;exact⟨j,c,y,e2,f,g⟩
    ·exact a3i
   ·exact a3i
theorem b3g {a:Act} {w:World}:∀(own:List Cv) {s:St},SR P Γ z s a w->SR P Γ z (b2I own s) a w /\ (b2I own s).m=s.m
 |[],s,h=>⟨h,rfl⟩
 | c::r,s,h=>by
   obtain⟨h1,h2⟩:=e0Q c h;obtain⟨h3,h4⟩:=b3g r h1;exact⟨h3,h4.trans h2⟩
theorem a4t {a:Act} {w:World} {live:List Nat} {own:List Cv} {s s':St} (h:SR P Γ z s a w) (hc:a8p live own s=some s'):SR P Γ z s' a w:=by
 obtain⟨h,_⟩:=b3g own h;simp only[a8p]at hc;generalize b2I own s=s1 at h hc;generalize hrest:a3Q (a2E s1.get a1L (a9I s1.m++live.flatMap fun t=>a1r (s1.tmpV t)) (a9I 0)) s1.m=rest at hc;split at hc
 ·rename_i tmps mem h1 h2;cases hc;obtain⟨hm,β,K,h⟩:=h;have hs:∀k' b',St.get { tmps,mem,n:=s1.m+rest.length,m:=s1.m } k'=some b'->∃k b,a2S rest s1.m k=some k' /\ s1.get k=some b /\ b2D (a2S rest s1.m) b=some b':=by
   intro k' b' e;unfold St.get at e;dsimp only at e;refine b0n h2 k' b' ?_;cases hq:a1D mem k' with
   |none=>rw[hq]at e;cases e
   |some x=>rw[hq]at e;dsimp only at e;rw[e]
  refine⟨hm,a8N β rest s1.m,K,⟨fun t=>?_,h.nt,h.defers,h.kok,h.mr.ren a2W hs,fun k hk=>b1B hk,h.kle,h.knew,h.fr,fun x hx=>h.own x (hx.ren h.mr a2W hs),fun k y hk e=>?_,?_⟩⟩
  ·show VR _ K (St.tmpV { tmps,mem,n:=s1.m+rest.length,m:=s1.m } t) _;unfold St.tmpV;dsimp only;cases hq:a1D tmps t with
   |none=>exact a5P
   |some v=>exact e0L a2W (b3f h1 t v hq) (h.tmp t)
  ·rw[b1A (by rw[hm];exact hk)];exact h.ble k y hk e
  ·show z.m<=s1.m+rest.length;omega
 ·cases hc
def a6x {R:Type} (P:Program) (Γ:Env) (z:a5r) (K:Ex->St->Option R) (r:R):Exit->Act->World->Prop
 |.normal,a,w=>∃s,SR P Γ z s a w /\ K .normal s=some r
 |.exit i,a,w=>∃s,SR P Γ z s a w /\ K (.exit i) s=some r
 |.ret,a,w=>∃s,SR P Γ z s a w /\ K .ret s=some r
 |_,_,_=>False
theorem a5i {R:Type} {cut:Option (List Nat×List Cv)} {K:Ex->St->Option R} {r:R}:∀e a w,a6x P Γ z (a5L cut K) r e a w->a6x P Γ z K r e a w:=by
 intro e a w h;cases e with
 | normal =>
   obtain⟨s,hs,hk⟩:=h;unfold a5L at hk;dsimp only at hk;split at hk
   ·split at hk
    ·rename_i s' hc;exact⟨s',a4t hs hc,hk⟩
    ·cases hk
   ·exact⟨s,hs,hk⟩
 |exit i=>exact h
 |ret=>exact h
 |_=>exact h
theorem b3h {R:Type} {id:Nat} {cut:Option (List Nat×List Cv)} {K:Ex->St->Option R} {r:R}:∀e a w,a6x P Γ z (a7D id cut K) r e a w->Exit.inBlock id (a6x P Γ z K r) e a w:=by
 intro e a w h;cases e with
 | normal =>
   obtain⟨s,hs,hk⟩:=h;exact a5i (cut:=cut) .normal a w ⟨s,hs,hk⟩
 | exit i =>
   obtain⟨s,hs,hk⟩:=h;simp only[Exit.inBlock];unfold a7D at hk;dsimp only at hk;split at hk
   ·rename_i hb;rw[if_pos (a0g hb)];exact a5i (cut:=cut) .normal a w ⟨s,hs,hk⟩
   ·rename_i hb;rw[if_neg (fun e=>by subst e;simp at hb)];exact⟨s,hs,hk⟩
 |ret=>exact h
 |_=>exact h
theorem e6U {p:Nat->Prop}:∀(n:Nat),p n->∃k,p k /\ ∀j,j<k->¬p j:=by
 intro n
 induction n using Nat.strongRecOn with
 | _ n ih =>
   intro h;by_cases hq:∃j,j<n /\ p j
   ·obtain⟨j,h1,h2⟩:=hq;exact ih j h1 h2
   ·exact⟨n,h,fun j hj hp=>hq ⟨j,hj,hp⟩⟩
theorem b1C {R:Type} {ex:Nat} {past:List Nat} {pown:List Cv} {K:Ex->St->Option R} {r:R}:∀e a w,a6x P Γ z (e0C ex past pown K) r e a w->a6x P Γ z K r e a w:=by
 intro e a w h;cases e with
 |normal=>obtain⟨s,hs,hk⟩:=h;cases hk
 | exit i =>
   obtain⟨s,hs,hk⟩:=h;unfold e0C at hk;dsimp only at hk;split at hk
   ·split at hk
    ·rename_i s' hc;exact⟨s',a4t hs hc,hk⟩
    ·cases hk
   ·cases hk
 |ret=>exact h
 |_=>exact h
theorem e0R {R:Type} {c:Code} {L:a4J} {K:Ex->St->Option R} {r:R}
 (hc:∀(K:Ex->St->Option R) s r,EBk Γ c K s=some r->∀a w,SR P Γ z s a w->c.wp P (a6x P Γ z K r) a w) (n:Nat) {s:St} (h:a9O Γ c L K n s=some r) {a:Act} {w:World} (hs:SR P Γ z s a w) :
 (Code.loop c).wp P (a6x P Γ z K r) a w:=by
 classical
 let J:Act->World->Nat->Prop:=fun a w k=>∃s,SR P Γ z s a w /\ a9O Γ c L K k s=some r
 let I:Act->World->Prop:=fun a w=>∃k,J a w k
 have hmin:∀a w,I a w->∃k,J a w k /\ ∀j,j<k->¬J a w j:=fun a w ⟨k,hk⟩=>e6U k hk
 let μ:Act->World->Nat:=fun a w=>if h:I a w then(hmin a w h).choose else 0
 have hμ:∀a w,I a w->J a w (μ a w) /\ ∀j,j<μ a w->¬J a w j:=by
  intro a w hI;have:μ a w=(hmin a w hI).choose:=dif_pos hI;rw[this];exact(hmin a w hI).choose_spec
 refine wp_loop I μ ⟨n,s,hs,h⟩ fun a w hI=>?_
 obtain⟨⟨s,hs,hk⟩,_⟩:=hμ a w hI;cases hn:μ a w with
 |zero=>rw[hn]at hk;simp[a9O]at hk
 | succ k =>
   rw[hn]at hk;simp only[a9O]at hk;refine wp_mono (hc _ s r hk a w hs) fun e a' w' he=>?_
   cases e with
   | normal =>
     obtain⟨s',hs',hk'⟩:=he;unfold a3D at hk';dsimp only at hk';split at hk'
     ·rename_i s'' hc';have hJ:J a' w' k:=⟨s'',a4t hs' hc',hk'⟩;have hI':I a' w':=⟨k,hJ⟩;refine⟨hI',?_⟩;have h2:=(hμ a' w' hI').2 k;rcases Nat.lt_or_ge k (μ a' w')with h3|h3
      ·exact absurd hJ (h2 h3)
      ·omega
     ·cases hk'
   |exit i=>exact b1C (ex:=L.ex) (past:=L.past) (pown:=L.pown) (.exit i) a' w' he
   |ret=>exact b1C (ex:=L.ex) (past:=L.past) (pown:=L.pown) .ret a' w' he
   |_=>exact he
theorem b8g {R:Type} (env:a1g P Γ):∀(c:Code),a7a Γ c->∀(K:Ex->St->Option R) (s:St) (r:R),EBk Γ c K s=some r->∀a w,SR P Γ z s a w->c.wp P (a6x P Γ z K r) a w:=by
 intro c
 induction c with
 |skip=>exact fun _ K s r h a w hs=>wp_skip ⟨s,hs,h⟩
 |label l=>exact fun _ K s r h a w hs=>wp_label ⟨s,hs,h⟩
 |exit id=>exact fun _ K s r h a w hs=>wp_exit ⟨s,hs,h⟩
 | ret =>
   intro _ K s r h a w hs;unfold EBk at h;split at h
   ·rename_i s' hc;exact wp_ret ⟨s',a4t hs hc,h⟩
   ·cases h
 | seq x y ihx ihy =>
   intro hL K s r h a w hs;unfold EBk at h;refine wp_seq (wp_mono (ihx (fun c' hc'=>hL c' (List.mem_append_left _ hc')) _ s r h a w hs) fun e a' w' he=>?_);cases e with
   | normal =>
     obtain⟨s',hs',hk⟩:=he;exact ihy (fun c' hc'=>hL c' (List.mem_append_right _ hc')) K s' r hk a' w' hs'
   |exit i=>exact he
   |ret=>exact he
   |_=>exact he
 | cond c x y ihx ihy =>
   intro hL K s r h a w hs;unfold EBk at h;split at h
   ·rename_i b hb;obtain⟨hm,β,Ks,hf⟩:=hs;have hv:=a8H hf.tmp c;rw[<- b8f,hb]at hv;have hev:a.eval c = .bool b:=hv;have hput:∀b',b=b'->SR P Γ z (s.putC c b') a w:=by
     intro b' e;subst e;cases c with
     | tmp t =>
       have:=a5f s t (a2r b) hb;exact⟨hm,β,Ks,by rw[show(s.putC (.tmp t) b).fs=(s.put t (a2r b)).fs from rfl,this];exact hf⟩
     |_=>exact⟨hm,β,Ks,hf⟩
    refine wp_cond hev ?_;cases b with
    |true=>exact wp_mono (ihx (fun c' hc'=>hL c' (List.mem_append_left _ hc')) _ _ r h a w (hput true rfl)) a5i
    |false=>exact wp_mono (ihy (fun c' hc'=>hL c' (List.mem_append_right _ hc')) _ _ r h a w (hput false rfl)) a5i
   ·cases h
 | block id x ih =>
   intro hL K s r h a w hs;unfold EBk at h;exact wp_block (wp_mono (ih hL _ s r h a w hs) b3h)
 | loop x ih =>
   intro hL K s r h a w hs;unfold EBk at h;split at h
   ·rename_i L hl;unfold e0D at h;split at h
    ·cases h
    ·rename_i s0 hc0;split at h
     ·cases h
     ·rename_i ok b s1 s2 hrun;split at h
      ·cases h
      ·obtain⟨n,hn⟩:=hL x (List.mem_cons_self ..) L hl s0 b s1 s2 hrun R K;refine e0R (L:=L) (ih fun c' hc'=>hL c' (List.mem_cons_of_mem _ hc')) n (r:=r) (K:=K) ?_ (a4t hs hc0);rw[hn];cases b
       ·exact h
       ·exact h
   ·cases h
 | region id ops d =>
   intro hL K s r h a w hs;unfold EBk at h;obtain⟨hm,β,Ks,hf⟩:=hs;obtain⟨F,E,X,s',f0,fl,fm,fs,fk⟩:=b1x ops.toList h;have fs':∀i o,ops[i]?=some o->a3Y Γ ops o (F i) (E i) (X i) (F (i+1)):=fun i o e=>fs i o (by rw[Array.getElem?_toList];exact e)
   rw[Array.length_toList]at fl fk;have hend:∀β K' a w,SRf P Γ z β K' (F ops.size) a w->SR P Γ z s' a w:=fun β K' a w h=>⟨fm.trans hm,β,K',by rw[<- fl];exact h⟩
   cases d with
   | false =>
     dsimp only at fk;refine wp_region ?_;rw[List.range_eq_range'];refine b5P env fs' (fun β K' a w h=>⟨s',hend β K' a w h,fk⟩) ops.size 0 (by omega) β Ks a w ?_;rw[f0];exact hf
   | true =>
     dsimp only at fk;split at fk
     ·rename_i hd;obtain⟨d1,d2,d3⟩:=b3d hd;have R:Rgn Γ ops F E X:=⟨fs',d1,d2,d3⟩;have hf0:SRf P Γ z β Ks (F 0) a { w with drawn:=w.drawn+1 }:=by
       rw[f0];exact hf.still ⟨rfl,rfl,rfl,rfl⟩
      have hrep:∀k,(Array.replicate ops.size false).getD k false=false:=by
       intro k;simp only[Array.getD_eq_getD_getElem?,Array.getElem?_replicate];split<;>rfl
      refine wp_region_any env.mixed (c1U env R (fun β K' a w h=>⟨s',hend β K' a w h,fk⟩) ops.size _ (by simp) ?_ ?_ β Ks _ _ ?_)
      ·have:∀N,cnt (fun k=>(Array.replicate ops.size false).getD k false) N=N:=by
        intro N
        induction N with
        |zero=>rfl
        | succ N ih =>
          simp only[cnt];rw[if_neg (by rw[hrep];simp),ih];omega
       rw[this];exact le_refl _
      ·intro i o hi hD;dsimp only at hD;rw[hrep]at hD;cases hD
      ·exact DS.start R hf0 hrep
     ·cases fk
 |_=>intro _ K s r h;simp[EBk]at h
end
section
variable {P:Program} {Γ:Env}
theorem a5j:∀{args:List W} {i:Nat} {β:Bt} {K:Ks} {vs:List Value},All2 (WR β K) args vs->∀t,VR β K (match a1D (b2K i args) (i+t)with|some v=>v|none=>pois) (vs.getD t undef) /\ ∀j,j<i->a1D (b2K i args) j=none
 |[],i,β,K,vs,h,t=>⟨by simp only[b2K,a1D];exact a5P,fun j _=>rfl⟩
 |u::r,i,β,K,[],h,t=>h.elim
 | u::r,i,β,K,v::vs,h,t=>by
   refine⟨?_,fun j hj=>?_⟩
   ·cases t with
    | zero =>
      simp only[b2K,a1D,Nat.add_zero,Nat.beq_refl];exact h.1
    | succ t =>
      simp only[b2K,a1D];rw[a1A (by omega)];have:=(a5j (i:=i+1) h.2 t).1;rw[show i+1+t=i+(t+1)by omega]at this;exact this
   ·simp only[b2K,a1D];rw[a1A (by omega)];exact(a5j (i:=i+1) h.2 t).2 j (by omega)
theorem b0o:∀{ins:List Blk} {i:Nat} (k:Nat),a1D (c3B i ins) (i+k)=(ins[k]?).map some
 |[],i,k=>rfl
 |b::r,i,0=>by simp[c3B,a1D]
 | b::r,i,k+1=>by
   simp only[c3B,a1D];rw[a1A (by omega)];have:=b0o (ins:=r) (i:=i+1) k;rw[show i+1+k=i+(k+1)by omega]at this;rw[this];simp
theorem a6y (args:List W) (ins:List Blk):(a7T args ins).get=a1W ins:=by
 funext k;unfold St.get a7T a1W;dsimp only;have:=b0o (ins:=ins) (i:=0) k;rw[Nat.zero_add]at this;rw[this];cases ins[k]?<;>rfl
theorem b1D:∀(m p:Nat),(a9I m)[p]?=if p<m then some p else none
 |0,p=>by simp[a9I]
 | m + 1,p=>by
   simp only[a9I];have hl:(a9I m).length=m:=by
    clear p
    induction m with
    |zero=>rfl
    |succ m ih=>simp[a9I,ih]
   rw[List.getElem?_append,hl];split
   ·rename_i h;rw[b1D m p,if_pos h,if_pos (by omega)]
   ·rename_i h;by_cases e:p=m
    ·subst e;simp
    ·rw[if_neg (by omega),List.getElem?_eq_none (by simp;omega)]
theorem a3o:∀(m:Nat),(a9I m).length=m
 |0=>rfl
 |m+1=>by simp[a9I,a3o m]
theorem d5r {z:a5r} {fn:Func} (env:a1g P Γ) (hres:fn.results.toList=Γ.res) {β:Bt} {K:Ks} {s:St} {a:Act} {w:World} (h:SRf P Γ z β K s.fs a w) {ws:List W} (hw:a1v (e6L Γ s) Γ.res=some ws) :
 ∃v,(results fn a.tmps).run P w = .ok v w /\ a7b β K ws v:=by
 have key : ∀(rs:List ResultVar) (ws:List W),a1v (e6L Γ s) rs=some ws->∃vs:List Value,All2 (WR β K) ws vs /\
  (rs.mapM (fun(x:ResultVar)=>match x with
   |.tmp t=>(pure (a.tmps.getD t undef):Go.Sem Value)
   |.cell b t=>do loadVar t (<- asAddr (a.tmps.getD b undef)))).run P w = .ok vs w:=by
  intro rs
  induction rs with
  |nil=>intro ws hw;simp only[a1v,injEq]at hw;subst hw;exact⟨[],trivial,by simp⟩
  | cons x rs ih =>
    intro ws hw;simp only[a1v]at hw;split at hw
    ·rename_i y hy;split at hw
     ·rename_i ys hys;cases hw;obtain⟨vs,h1,h2⟩:=ih ys hys;cases x with
      | tmp t =>
        simp only[e6L]at hy;split at hy
        ·rename_i u hu;cases hy;have hv:=h.tmp t;rw[show s.fs.T t = .val y from hu]at hv;refine⟨a.tmps.getD t undef::vs,⟨hv,h1⟩,?_⟩;rw[List.mapM_cons];simp only[Sem.run_bind,Sem.run_pure,Result.andThen_ok,h2]
        ·cases hy
      | cell b t =>
        simp only[e6L]at hy;split at hy
        ·rename_i ti hti;split at hy
         ·rename_i out hout;split at hy
          ·rename_i u hu;cases hy;obtain⟨bb,off,u',v,e1,e2,e3,e4⟩:=b7W (P:=P) (get:=s.get) (n:=0) (env.tab t ti hti) h.kok h.mr (h.tmp b) hout;simp only[AM.a0v,injEq]at e4;rw[<- e4]at hu;cases hu;refine⟨v::vs,⟨e3,h1⟩,?_⟩;have ha:(do loadVar t (<- asAddr (a.tmps.getD b undef)):Go.Sem Value).run P w = .ok v w:=by
            rw[e1,Sem.run_bind];simp only[asAddr,Sem.run_pure,Result.andThen_ok,e2]
           rw[List.mapM_cons,Sem.run_bind];dsimp only;rw[ha];simp only[Result.andThen_ok,Sem.run_bind,h2,Sem.run_pure]
          ·cases hy
         ·cases hy
        ·cases hy
     ·cases hw
    ·cases hw
 obtain⟨vs,h1,h2⟩:=key _ _ hw;rw[<- hres]at h2;refine⟨if h:vs.toArray.size=1 then vs.toArray[0]else .tuple vs.toArray,?_,?_⟩
 ·unfold results;rw[Array.mapM_eq_mapM_toList,Sem.run_bind,Sem.run_map]
  erw [h2]
  rfl
 ·unfold a7b;cases ws with
  | nil=>cases vs with
    |nil=>exact⟨#[],rfl,trivial⟩
    |cons _ _=>exact h1.elim
  | cons x r=>cases vs with
    |nil=>exact h1.elim
    | cons v vs=>cases r with
      | nil=>cases vs with
        |nil=>exact h1.1
        |cons _ _=>exact h1.2.elim
      | cons y r=>cases vs with
        |nil=>exact h1.2.elim
        |cons v' vs=>exact⟨(v::v'::vs).toArray,by simp,by simpa using h1⟩
structure a5s (P:Program) (f:Nat) (Γ:Env) (c:Code):Prop where
 loops:a7a Γ c
 is:∃fn,P.funcs[f]?=some fn /\ fn.body=some c /\ fn.results.toList=Γ.res /\ fn.ntmps=Γ.nt /\ (fn.name == "runtime.NumGoroutine")=false
theorem a5s.ok {f:Nat} {c:Code} (h:a5s P f Γ c):e0F P f:=by
 obtain⟨fn,h1,h2,_,_,h3⟩:=h.is;exact⟨fn,h1,by rw[h2];rfl,h3⟩
theorem b8h {R:Type} (env:a1g P Γ) {f:Nat} {c:Code} (hf:a5s P f Γ c) {g:List W×List (Option Blk)->Option R} {args:List W} {ins:List Blk} {r:R} (h:b5A Γ c g args ins=some r)
 {β0:Bt} {K0:Ks} {w0:World} {vs:Array Value} (hk:KOK K0 w0) (hm:MR β0 K0 (a1W ins) w0) (hfr:∀k,ins.length<=k->β0 k=none) (hv:All2 (WR β0 K0) args vs.toList) :
 Calls P f vs w0 fun e w'=>∃v β K rs outs,e = .returned v /\ g (rs,outs)=some r /\ Ret ins outs rs β0 K0 w0 v w' β K:=by
 obtain⟨fn,hfn,hbody,hres,hnt,_⟩:=hf.is;unfold b5A at h;split at h
 case h_2=>cases h
 rename_i hle;have hle:args.length<=Γ.nt:=by simpa using hle
 have hlen:args.length=vs.size:=by simpa using hv.length
 refine calls_of_wp hfn hbody ?_;rw[hnt]
 let z:a5r:=⟨β0,K0,w0,ins.length,Own β0 (a1W ins)⟩
 have h0:SR P Γ z (a7T args ins) { tmps:=vs++Array.replicate (Γ.nt-vs.size) undef,defers:=[] } w0:=by
  refine⟨rfl,β0,K0,⟨fun t=>?_,by simp;omega,rfl,hk,?_,hfr,KLe.refl _,fun b arr e => .inl e,Fr.refl _ _,?_,fun k y _ e=>e,le_refl _⟩⟩
  ·have h1:=(a5j (i:=0) hv t).1;rw[Nat.zero_add]at h1;have h2:(vs++Array.replicate (Γ.nt-vs.size) undef).getD t undef=vs.toList.getD t undef:=by
    simp only[Array.getD_eq_getD_getElem?,List.getD_eq_getElem?_getD,Array.getElem?_toList];rw[Array.getElem?_append];split
    ·rfl
    ·rename_i hlt;rw[Array.getElem?_replicate,Array.getElem?_eq_none (xs:=vs) (by omega)];split<;>rfl
   show VR β0 K0 ((a7T args ins).tmpV t) ((vs++Array.replicate (Γ.nt-vs.size) undef).getD t undef);rw[h2];exact h1
  ·show MR β0 K0 (a7T args ins).get w0;rw[a6y];exact hm
  ·intro x hx;left;have:(a7T args ins).fs.G=a1W ins:=a6y args ins;rw[this]at hx;exact hx
 refine wp_mono (b8g env c hf.loops _ _ r h _ _ h0) fun e a w he=>?_
 have main:∀s,SR P Γ z s a w->(match fin Γ s with|some r=>g r|none=>none)=some r->a.defers=[] /\ ∃v,(results fn a.tmps).run P w = .ok v w /\ ∃v' β K rs outs,Ending.returned v = .returned v' /\ g (rs,outs)=some r /\ Ret ins outs rs β0 K0 w0 v' w β K:=by
  intro s hs hg;split at hg
  case h_2=>cases hg
  rename_i ro hfin;obtain⟨rs,outs⟩:=ro;obtain⟨hm',β,K,hs⟩:=hs;unfold fin at hfin;split at hfin
  ·cases hfin
  ·rename_i ws hws;obtain⟨v,hr1,hr2⟩:=d5r env hres hs hws;dsimp only at hfin;generalize hksd:a2E s.get a1L (a9I s.m++ws.flatMap a0L) (a9I 0)=ks at hfin;have hnd:(a3Q ks s.m).Nodup:=by
    rw[a3Z,<- hksd];exact List.Pairwise.filter _ (a2u _ _ _ _ (by simp[a9I]))
   have hge:∀k∈a3Q ks s.m,s.m<=k:=by
    intro k hk;rw[a3Z,List.mem_filter]at hk;simpa using hk.2
   generalize a3Q ks s.m=rest at hfin hnd hge;split at hfin
   ·rename_i ws' outs' h1 h2;cases hfin;have hlo:outs.length=s.m+rest.length:=by rw[a2t h2,List.length_append,a3o]
    have hsrc:∀k' b',a2q outs k'=some b'->∃k b,a2S rest s.m k=some k' /\ s.get k=some b /\ b2D (a2S rest s.m) b=some b':=by
     intro k' b' e;unfold a2q at e;cases hq:outs[k']? with
     |none=>rw[hq]at e;cases e
     | some x =>
       rw[hq]at e;have hx:x=some b':=e;subst hx;obtain⟨k,hk,hr⟩:=(All2.ofMap h2).get?' hq;have hnk:a2S rest s.m k=some k':=by
        rw[List.getElem?_append,a3o]at hk;unfold a2S;split at hk
        ·rename_i hlt;rw[b1D,if_pos hlt]at hk;have hkk:k'=k:=Option.some.inj hk;rw[<- hkk,show Nat.blt k' s.m=true by simpa[Nat.blt_eq]using hlt]
        ·rename_i hlt;have h3:=hge k (List.mem_of_getElem? hk);rw[show Nat.blt k s.m=false from Bool.eq_false_iff.2 fun e=>by rw[Nat.blt_eq]at e;omega];dsimp only;rw[a8M hnd hk];congr 1;omega
       cases hg0:s.get k with
       |none=>rw[hg0]at hr;simp[a5J]at hr
       | some b0 =>
         rw[hg0]at hr;simp only[a5J,Option.map_eq_some_iff,injEq]at hr;obtain⟨b1,h4,h5⟩:=hr;exact⟨k,b0,hnk,hg0,by rw[h4,h5]⟩
    refine⟨hs.defers,v,hr1,v,a8N β rest s.m,K,rs,outs,rfl,hg,⟨hs.kle,hs.kok,hs.knew,hs.mr.ren a2W hsrc,fun k hk=>b1B (by omega),?_,hs.fr,fun x hx=>hs.own x (hx.ren hs.mr a2W hsrc),?_,?_⟩⟩
    ·have h3:VR (a8N β rest s.m) K (d1h rs) v:=a8f h1 hr2 fun c c' u _ hcc hu=>a7f a2W hcc hu
     exact h3
    ·intro k y e;have hkm:k<ins.length:=by
      rcases Nat.lt_or_ge k ins.length with h3|h3
      ·exact h3
      ·rw[hfr k h3]at e;cases e
     have hzm:s.m=ins.length:=hm';rw[b1A (by omega)];exact hs.ble k y hkm e
    ·have hzm:s.m=ins.length:=hm';omega
   ·cases hfin
 cases e with
 |normal=>obtain⟨s,hs,hg⟩:=he;exact main s hs hg
 |ret=>obtain⟨s,hs,hg⟩:=he;exact main s hs hg
 |exit i=>obtain⟨s,hs,hg⟩:=he;cases hg
 |_=>exact he.elim
end
open Go Go.ChangeShapes Go.WideShapes
def e0S:C->Value->Bool
 |.pois,_=>true
 |.bool b,.bool b'=>b==b'
 |.int k n,.int k' n'=>a2C k k'&&decide (n=n')
 |.flt k b,.float k' b'=>a0X k k'&&beq b b'
 |.cpx k a b,.complex k' a' b'=>a0X k k'&&beq a a'&&beq b b'
 |.str s,.string s'=>beq s.size 0&&beq s'.size 0
 |.nil _,.slice _ n c=>beq n 0&&beq c 0
 |_,_=>false
theorem a5Q {s:ByteArray} (h:s.size=0):s=ByteArray.empty:=by
 apply ByteArray.ext;apply Array.eq_empty_of_size_eq_zero;exact h
theorem d1C {c:C} {v:Value} (h:e0S c v=true):ZR c v:=by
 intro β K;unfold e0S at h;split at h
 ·trivial
 ·rename_i b b';have:b=b':=by simpa using h
  rw[this];rfl
 ·simp only[and_eq_true,a2C,decide_eq_true_eq]at h;obtain⟨rfl,rfl⟩:=h;rfl
 ·simp only[and_eq_true,a0X,decide_eq_true_eq]at h;obtain⟨rfl,h⟩:=h;rw[a0g h];exact⟨_,rfl,FEq.refl _ _⟩
 ·simp only[and_eq_true,a0X,decide_eq_true_eq]at h;obtain⟨⟨rfl,h⟩,h'⟩:=h;rw[a0g h,a0g h'];exact⟨_,_,rfl,FEq.refl _ _,FEq.refl _ _⟩
 ·simp only[and_eq_true]at h;rw[a5Q (a0g h.1),a5Q (a0g h.2)];rfl
 ·simp only[and_eq_true]at h;rw[a0g h.1,a0g h.2];exact⟨_,rfl⟩
 ·cases h
def c4f {α γ:Type} (f:α->γ->Bool):List α->List γ->Bool
 |[],[]=>true
 |a::as1,b::bs=>f a b&&c4f f as1 bs
 |_,_=>false
theorem b1E {α γ:Type} {f:α->γ->Bool} {R:α->γ->Prop} (hf:∀a b,f a b=true->R a b):∀{as1:List α} {bs:List γ},c4f f as1 bs=true->All2 R as1 bs
 |[],[],_=>trivial
 | a::as1,b::bs,h=>by
   simp only[c4f,and_eq_true]at h;exact⟨hf _ _ h.1,b1E hf h.2⟩
 |[],_::_,h=>by cases h
 |_::_,[],h=>by cases h
def c4g (P:Program) (f:Field) (x:Nat×Nat×Bool):Bool:=
 beq f.offset x.1&&(match P.info? f.type,P.underlying f.type with
  |some fi,some fd=>beq fi.size x.2.1&&(d1k fd==x.2.2)
  |_,_=>false)
def f7H (P:Program) (d:TypeDesc) (ti:TI):Bool:=match ti.sort,d with
 |.slice,.slice e=>beq e ti.elem
 |.array n,.array m e=>beq m n&&beq e ti.elem
 |.string,.string=>true
 |.struct,.struct fs=>c4f (c4g P) fs.toList ti.fields
 |.bool,.bool=>true
 |.int k,.int k'=>a2C k k'
 |.float k,.float k'=>a0X k k'
 |.complex k,.complex k'=>a0X k k'
 |.other,_=>true
 |_,_=>false
theorem c4h {P:Program} {f:Field} {x:Nat×Nat×Bool} (h:c4g P f x=true):f.offset=x.1 /\ ∃fi fd,P.info? f.type=some fi /\ fi.size=x.2.1 /\ P.underlying f.type=some fd /\ d1k fd=x.2.2:=by
 simp only[c4g,and_eq_true]at h;obtain⟨h1,h2⟩:=h;split at h2
 ·rename_i fi fd e1 e2;simp only[and_eq_true]at h2;exact⟨a0g h1,fi,fd,e1,a0g h2.1,e2,by simpa using h2.2⟩
 ·cases h2
theorem e0T {P:Program} {d:TypeDesc} {ti:TI} (h:f7H P d ti=true):a1J P d ti:=by
 unfold f7H at h;unfold a1J;split at h
 ·rename_i e;rw[e];rw[a0g h]
 ·rename_i e;simp only[and_eq_true]at h;rw[e];dsimp only;rw[a0g h.1,a0g h.2]
 ·rename_i e;rw[e]
 ·rename_i e;rw[e];exact⟨_,rfl,b1E (fun _ _=>c4h) h⟩
 ·rename_i e;rw[e]
 ·rename_i e;rw[e];dsimp only;rw[show _=_ from of_decide_eq_true h]
 ·rename_i e;rw[e];dsimp only;rw[show _=_ from of_decide_eq_true h]
 ·rename_i e;rw[e];dsimp only;rw[show _=_ from of_decide_eq_true h]
 ·rename_i e;rw[e];trivial
 ·cases h
def a3x:Ty->List Value->Option (List Value)
 |.bool,.bool false::r=>some r
 |.int k,.int k' n::r=>match a2C k k'&&decide (n=0)with|true=>some r|false=>none
 |.flt k,.float k' b::r=>match a0X k k'&&beq b 0 with|true=>some r|false=>none
 |.cpx k,.complex k' a b::r=>match a0X k k'&&beq a 0&&beq b 0 with|true=>some r|false=>none
 |.str,.string s::r=>match beq s.size 0 with|true=>some r|false=>none
 |.slice _,.slice _ n c::r=>match beq n 0&&beq c 0 with|true=>some r|false=>none
 |.nil,r=>some r
 | .cons a b,r=>match a3x a r with
   |some r'=>a3x b r'
   |none=>none
 |_,_=>none
theorem d1D:∀(t:Ty) {vs r:List Value},a3x t vs=some r->∃v1,vs=v1++r /\ ∀K,DR K t (zero t) v1:=by
 intro t
 induction t with
 | cons a b iha ihb =>
   intro vs r h;simp only[a3x]at h;split at h
   ·rename_i r' h1;obtain⟨v1,rfl,d1⟩:=iha h1;obtain⟨v2,rfl,d2⟩:=ihb h;exact⟨v1++v2,by simp,fun K=>⟨v1,v2,rfl,d1 K,d2 K⟩⟩
   ·cases h
 |nil=>intro vs r h;simp only[a3x,injEq]at h;subst h;exact⟨[],rfl,fun K=>rfl⟩
 | jnk =>
   intro vs r h;cases vs with
   |nil=>simp[a3x]at h
   |cons v vs=>cases v<;>simp[a3x]at h
 | bool =>
   intro vs r h;cases vs with
   |nil=>simp[a3x]at h
   | cons v vs =>
     cases v<;>first|(simp[a3x]at h;done)|skip
     rename_i b;cases b
     ·simp only[a3x,injEq]at h;subst h;exact⟨[_],rfl,fun K=>rfl⟩
     ·simp[a3x]at h
 | int k =>
   intro vs r h;cases vs with
   |nil=>simp[a3x]at h
   | cons v vs =>
     cases v<;>simp only[a3x]at h<;>first|cases h|skip
     split at h
     ·rename_i hb;simp only[and_eq_true,a2C,decide_eq_true_eq]at hb;obtain⟨rfl,rfl⟩:=hb;cases h;exact⟨[_],rfl,fun K=>rfl⟩
     ·cases h
 | flt k =>
   intro vs r h;cases vs with
   |nil=>simp[a3x]at h
   | cons v vs =>
     cases v<;>simp only[a3x]at h<;>first|cases h|skip
     split at h
     ·rename_i hb;simp only[and_eq_true,a0X,decide_eq_true_eq]at hb;obtain⟨rfl,hb⟩:=hb;rw[a0g hb];cases h;exact⟨[_],rfl,fun K=>⟨_,rfl,FEq.refl _ _⟩⟩
     ·cases h
 | cpx k =>
   intro vs r h;cases vs with
   |nil=>simp[a3x]at h
   | cons v vs =>
     cases v<;>simp only[a3x]at h<;>first|cases h|skip
     split at h
     ·rename_i hb;simp only[and_eq_true,a0X,decide_eq_true_eq]at hb;obtain⟨⟨rfl,hb⟩,hc⟩:=hb;rw[a0g hb,a0g hc];cases h;exact⟨[_],rfl,fun K=>⟨_,_,rfl,FEq.refl _ _,FEq.refl _ _⟩⟩
     ·cases h
 | str =>
   intro vs r h;cases vs with
   |nil=>simp[a3x]at h
   | cons v vs =>
     cases v<;>simp only[a3x]at h<;>first|cases h|skip
     split at h
     ·rename_i hb;cases h;rw[a5Q (a0g hb)];exact⟨[_],rfl,fun K=>rfl⟩
     ·cases h
 | slice t ih =>
   intro vs r h;cases vs with
   |nil=>simp[a3x]at h
   | cons v vs =>
     cases v<;>simp only[a3x]at h<;>first|cases h|skip
     split at h
     ·rename_i hb;simp only[and_eq_true]at hb;rw[a0g hb.1,a0g hb.2];cases h;exact⟨[_],rfl,fun K=>⟨_,0,0,rfl,rfl,le_refl _,.inl rfl⟩⟩
     ·cases h
def tiB (P:Program) (t:Nat) (ti:TI):Bool:=match P.info? t,P.underlying t with
 | some i,some d=>match i.zero with
   |some z=>beq i.size ti.size&&beq i.bytes ti.bytes&&(d1k d==ti.agg)&&c4f e0S ti.zero z.cells.toList&&f7H P d ti &&
    (!beq ti.ty.size ti.size||(match a3x ti.ty z.cells.toList with|some []=>true|_=>false))&&beq z.cells.size i.size
   |none=>false
 |_,_=>false
theorem e6V {P:Program} {t:Nat} {ti:TI} (h:tiB P t ti=true):e5A P t ti:=by
 unfold tiB at h;split at h
 ·rename_i i d h1 h2;split at h
  ·rename_i z h3;simp only[and_eq_true]at h;obtain⟨⟨⟨⟨⟨⟨g1,g2⟩,g3⟩,g4⟩,g5⟩,g6⟩,g7⟩:=h;refine⟨i,d,z,h1,h2,h3,a0g g1,a0g g2,by simpa using g3,b1E (fun _ _=>d1C) g4,e0T g5,fun hs=>?_,a0g g7⟩;rw[hs]at g6;simp only[Nat.beq_refl,Bool.not_true,Bool.false_or]at g6;split at g6
   ·rename_i hz;obtain⟨v1,e,hd⟩:=d1D _ hz;rw[List.append_nil]at e;rw[e];exact hd
   ·cases g6
  ·cases h
 ·cases h
def f4m (P:Program) (l:List (Nat×TI)):Bool:=l.all fun x=>tiB P x.1 x.2
theorem b1F {α:Type}:∀{l:List (Nat×α)} {t:Nat} {x:α},a1D l t=some x->(t,x)∈l
 |[],_,_,h=>by cases h
 | (k,y)::r,t,x,h=>by
   simp only[a1D]at h;split at h
   ·rename_i e;cases h;rw[a0g e];exact List.mem_cons_self ..
   ·exact List.mem_cons_of_mem _ (b1F h)
theorem e0U {P:Program} {l:List (Nat×TI)} (h:f4m P l=true):∀t ti,a1D l t=some ti->e5A P t ti:=fun t ti e=>
 e6V (List.all_eq_true.1 h _ (b1F e))
def b1G (w:World):Ks:=fun b=>match w.heap[b]? with
 |some (.cells arr _ _)=>some (false,arr)
 |_=>none
theorem e0V (w:World) (x:Nat):¬Jk (b1G w) x:=by
 rintro⟨arr,e⟩;unfold b1G at e;split at e<;>cases e
theorem e0W (w:World) (hg:GK (b1G w)):KOK (b1G w) w:=by
 refine⟨?_,hg⟩;intro b arr e;unfold b1G at e;split at e
 ·rename_i a T fz h;cases e;exact⟨a,T,fz,h,KOK.self fun e=>by cases e⟩
 ·cases e
def Wf:(t:Ty)->Den t->Prop
 |.int k,n=>(Lit.int k n).wf=true
 |.flt k,b=>(Lit.float k b).wf=true
 |.str,s=>s.size<=maxLen
 |.slice t,l=>l.length<=maxLen /\ ∀x∈l,Wf t x
 |.cons a b,p=>Wf a p.1 /\ Wf b p.2
 |_,_=>True
mutual
def tyB (P:Program):Ty->Nat->Bool
 |.bool,t=>match P.underlying t with|some .bool=>true|_=>false
 |.int k,t=>match P.underlying t with|some (.int k')=>a2C k k'|_=>false
 |.flt k,t=>match P.underlying t with|some (.float k')=>a0X k k'|_=>false
 |.str,t=>match P.underlying t with|some .string=>true|_=>false
 |.cpx _,_=>false
 |.jnk,_=>false
 |.nil,_=>false
 | .slice e,t=>match P.underlying t with
   |some (.slice te)=>tyB P e te&&beq (P.cellsOf te) e.size&&Nat.blt 0 e.size
   |_=>false
 | .cons a b,t=>match P.underlying t with
   | some (.struct fs)=>match fs.toList with
     |f::r=>beq f.offset 0&&tyB P a f.type&&beq (P.cellsOf f.type) a.size&&fldB P b r a.size&&beq (P.cellsOf t) (a.size+b.size)
     |[]=>false
   |_=>false
def fldB (P:Program):Ty->List Field->Nat->Bool
 |.nil,fs,_=>fs.isEmpty
 | .cons a b,fs,off=>match fs with
   |f::r=>beq f.offset off&&tyB P a f.type&&beq (P.cellsOf f.type) a.size&&fldB P b r (off+a.size)
   |[]=>false
 |_,_,_=>false
end
theorem e0X {P:Program} {e:Ty} {t:Nat} (h:tyB P e t=true):e.isJ=false:=by
 cases e with
 |jnk=>simp[tyB]at h
 |_=>rfl
theorem a9T {α γ:Type} {f:α->Option γ} {x:α} {l:List α} {ys:List γ} (h:(x::l).mapM f=some ys):∃y ys',f x=some y /\ l.mapM f=some ys' /\ ys=y::ys':=by
 rw[List.mapM_cons]at h;cases h1:f x with
 |none=>rw[h1]at h;cases h
 | some y =>
   rw[h1]at h;cases h2:l.mapM f with
   |none=>rw[h2]at h;cases h
   | some ys' =>
     rw[h2]at h;exact⟨y,ys',rfl,rfl,(Option.some.inj h).symm⟩
theorem b8i {α γ:Type} {f:α->Option γ}:∀{l:List α} {ys:List γ},l.mapM f=some ys->ys.length=l.length /\ ∀(i:Nat) x,l[i]?=some x->∃y,ys[i]?=some y /\ f x=some y
 | [],ys,h=>by
   have:ys=[]:=by simpa using h.symm
   subst this;exact⟨rfl,fun i x e=>by simp at e⟩
 | x::l,ys,h=>by
   obtain⟨y,ys',h1,h2,rfl⟩:=a9T h;obtain⟨h3,h4⟩:=b8i h2;refine⟨by simp[h3],fun i z e=>?_⟩;cases i with
   |zero=>simp only[List.getElem?_cons_zero,injEq]at e;subst e;exact⟨y,rfl,h1⟩
   |succ i=>exact h4 i z (by simpa using e)
theorem b3i {γ:Type} {f:Nat->Option γ} {n:Nat} {ys:List γ} (h:(List.range n).mapM f=some ys):ys.length=n /\ ∀i,i<n->∃y,ys[i]?=some y /\ f i=some y:=by
 obtain⟨h1,h2⟩:=b8i h;exact⟨by simpa using h1,fun i hi=>h2 i i (by simp[hi])⟩
theorem c4i {w:World} {base b off n:Nat} {arr:Array Value} {T:TypeId} {fz:Nat×Nat} (hh:w.heap[b]?=some (.cells arr T fz)) {vs:List Value} (h:w.cells? base ⟨b,off,none⟩ n=some vs):vs=sub arr.toList off n:=by
 unfold World.cells? at h;split at h
 ·obtain⟨h1,h2⟩:=b3i h;apply List.ext_getElem?;intro j;unfold sub;rw[List.getElem?_take];split
  ·rename_i hj;obtain⟨y,e1,e2⟩:=h2 j hj;rw[e1,List.getElem?_drop,Array.getElem?_toList];rw[a2Q]at e2;unfold World.cell? at e2;rw[hh]at e2;simpa using e2.symm
  ·rw[List.getElem?_eq_none (by omega)]
 ·cases h
section
variable {H:Type} {enc:TypeId×Value->H} {P:Program} {w:World} {base:Nat} {spare:Nat->Bool} {held:Bool}
theorem e0Y:∀(ty:Ty),
 (∀(t fuel:Nat) (cs:List Value) (d:DataW H×List MemPlace),tyB P ty t=true->DataW.trod enc P w base spare held fuel t cs=some d->∃x:Den ty,DR (b1G w) ty x cs /\ Wf ty x) /\
 (∀(fs:List Field) (off fuel:Nat) (cs:List Value),fldB P ty fs off=true->(∀f∈fs,∃y,DataW.trod enc P w base spare held fuel f.type ((cs.drop f.offset).take (P.cellsOf f.type))=some y) ->
  cs.length=off+ty.size->∃x:Den ty,DR (b1G w) ty x (cs.drop off) /\ Wf ty x):=by
 intro ty
 induction ty with
 | bool =>
   refine⟨fun t fuel cs d ht h=>?_,fun fs off fuel cs h=>by simp[fldB]at h⟩;simp only[tyB]at ht;split at ht
   ·rename_i hu;obtain⟨b,h1,_⟩:=DataW.trod_bool hu h;exact⟨b,h1,trivial⟩
   ·cases ht
 | int k =>
   refine⟨fun t fuel cs d ht h=>?_,fun fs off fuel cs h=>by simp[fldB]at h⟩;simp only[tyB]at ht;split at ht
   ·rename_i k' hu;have hk:k=k':=of_decide_eq_true ht;subst hk;obtain⟨n,h1,_,h3⟩:=DataW.trod_int hu h;exact⟨n,h1,h3⟩
   ·cases ht
 | flt k =>
   refine⟨fun t fuel cs d ht h=>?_,fun fs off fuel cs h=>by simp[fldB]at h⟩;simp only[tyB]at ht;split at ht
   ·rename_i k' hu;have hk:k=k':=of_decide_eq_true ht;subst hk;have:∃b,cs=[.float k b] /\ (Lit.float k b).wf=true:=by
     cases fuel with
     |zero=>simp[DataW.trod]at h
     | succ fuel =>
       unfold DataW.trod at h;rw[hu]at h;split at h<;>simp_all
    obtain⟨b,h1,h3⟩:=this;exact⟨b,⟨b,h1,FEq.refl _ _⟩,h3⟩
   ·cases ht
 | str =>
   refine⟨fun t fuel cs d ht h=>?_,fun fs off fuel cs h=>by simp[fldB]at h⟩;simp only[tyB]at ht;split at ht
   ·rename_i hu;obtain⟨s,h1,_,h3⟩:=DataW.trod_string hu h;exact⟨s,h1,h3⟩
   ·cases ht
 |cpx k=>exact⟨fun t fuel cs d h=>by simp[tyB]at h,fun fs off fuel cs h=>by simp[fldB]at h⟩
 |jnk=>exact⟨fun t fuel cs d h=>by simp[tyB]at h,fun fs off fuel cs h=>by simp[fldB]at h⟩
 | nil =>
   refine⟨fun t fuel cs d h=>by simp[tyB]at h,fun fs off fuel cs h hm hl=>?_⟩;refine⟨(),?_,trivial⟩;show cs.drop off=[];rw[List.drop_eq_nil_iff];simp only[Ty.size]at hl;omega
 | slice e ih =>
   refine⟨fun t fuel cs d ht h=>?_,fun fs off fuel cs h=>by simp[fldB]at h⟩;simp only[tyB]at ht;split at ht
   case h_2=>cases ht
   rename_i te hu;simp only[and_eq_true]at ht;obtain⟨⟨t1,t2⟩,t3⟩:=ht;have t2:=a0g t2;have t3:0<e.size:=by simpa[Nat.blt_eq]using t3
   rcases DataW.trod_slice hu h with⟨h1,_⟩|⟨ad,len,cap,elems,rest,n,_,h1,_,_,h4,h5,h6,h7,h8⟩
   ·exact⟨[],⟨none,0,0,h1,rfl,le_refl _,.inl rfl⟩,zero_le _,fun x hx=>by cases hx⟩
   ·rw [t2]at h7;by_cases hlen:len=0
    ·subst hlen;exact⟨[],⟨some ad,0,cap,h1,rfl,zero_le _,.inl rfl⟩,zero_le _,fun x hx=>by cases hx⟩
    ·have key:∀i,i<len->∃y vs,w.cells? base (ad.add (i*e.size)) e.size=some vs /\ DataW.trod enc P w base spare held n te vs=some y:=by
      intro i hi;have:=h7 i hi;rw[List.getElem?_eq_getElem (by omega)]at this;obtain⟨vs,g1,g2⟩:=Option.bind_eq_some_iff.1 this;exact⟨_,vs,g1,g2⟩
     obtain⟨y0,vs0,g1,_⟩:=key 0 (by omega);have hc0:∃v,w.cell? ad=some v:=by
      unfold World.cells? at g1;split at g1
      ·obtain⟨_,g3⟩:=b3i g1;obtain⟨v,_,g4⟩:=g3 0 t3;rw[Nat.zero_mul]at g4;exact⟨v,g4⟩
      ·cases g1
     obtain⟨v0,hc0⟩:=hc0;obtain⟨b,off,spot⟩:=ad;unfold World.cell? at hc0;split at hc0
     case h_2=>cases hc0
     rename_i arr T fz hh;dsimp only at hh hc0;cases spot with
     |some q=>simp at hc0
     | none =>
       have hK:b1G w b=some (e.isJ,arr):=by unfold b1G;rw[hh,e0X t1]
       have each:∀i,i<len->∃x:Den e,DR (b1G w) e x (sub arr.toList (off+i*e.size) e.size) /\ Wf e x:=by
        intro i hi;obtain⟨y,vs,g1,g2⟩:=key i hi;rw[a2Q]at g1;rw[<- c4i hh g1];exact ih.1 te n vs y t1 g2
       have:∃l:List (Den e),l.length=len /\ ∀i (hi:i<l.length),DR (b1G w) e l[i] (sub arr.toList (off+i*e.size) e.size) /\ Wf e l[i]:=by
        clear h8 h7 h6 h5 h4 h1 key hlen
        induction len with
        |zero=>exact⟨[],rfl,fun i hi=>by simp at hi⟩
        | succ m ihm =>
          obtain⟨l,l1,l2⟩:=ihm fun i hi=>each i (by omega)
          obtain⟨x,hx⟩:=each m (by omega);refine⟨l++[x],by simp[l1],fun i hi=>?_⟩;by_cases him:i<l.length
          ·rw[List.getElem_append_left him];exact l2 i him
          ·have:i=l.length:=by simp at hi;omega
           subst this;rw[List.getElem_append_right (le_refl _)];simp only[Nat.sub_self,List.getElem_cons_zero];rw[l1];exact hx
       obtain⟨l,l1,l2⟩:=this;refine⟨l,⟨some ⟨b,off,none⟩,len,cap,h1,l1.symm,h4,.inr ⟨b,off,arr,rfl,hK,fun i hi=>(l2 i hi).1⟩⟩,?_,fun x hx=>?_⟩
       ·omega
       ·obtain⟨i,hi,rfl⟩:=List.mem_iff_getElem.1 hx;exact(l2 i hi).2
 | cons a b iha ihb =>
   have step:∀(f:Field) (r:List Field) (off fuel:Nat) (cs:List Value),f.offset=off->tyB P a f.type=true->P.cellsOf f.type=a.size->fldB P b r (off+a.size)=true ->
    (∀g∈f::r,∃y,DataW.trod enc P w base spare held fuel g.type ((cs.drop g.offset).take (P.cellsOf g.type))=some y)->cs.length=off+(a.size+b.size) ->
    ∃x:Den (.cons a b),DR (b1G w) (.cons a b) x (cs.drop off) /\ Wf (.cons a b) x:=by
    intro f r off fuel cs h1 h2 h3 h4 h5 h6;obtain⟨y,hy⟩:=h5 f (List.mem_cons_self ..);rw[h1,h3]at hy;obtain⟨x1,d1,w1⟩:=iha.1 f.type fuel _ y h2 hy;obtain⟨x2,d2,w2⟩:=ihb.2 r (off+a.size) fuel cs h4 (fun g hg=>h5 g (List.mem_cons_of_mem _ hg)) (by omega);refine⟨(x1,x2),⟨_,_,?_,d1,d2⟩,w1,w2⟩;rw[<- List.drop_drop];exact(List.take_append_drop ..).symm
   refine⟨fun t fuel cs d ht h=>?_,fun fs off fuel cs h hf hl=>?_⟩
   ·simp only[tyB]at ht;split at ht
    case h_2=>cases ht
    rename_i fs hu;obtain⟨xs,n,_,_,h3,h4,h5⟩:=DataW.trod_struct hu h;split at ht
    case h_2=>cases ht
    rename_i f r hfs;simp only[and_eq_true]at ht;obtain⟨⟨⟨⟨g1,g2⟩,g3⟩,g4⟩,g5⟩:=ht;have:=step f r 0 n cs (a0g g1) g2 (a0g g3) (by rw[Nat.zero_add];exact g4) (fun g hg=>?_) (by rw[h3,a0g g5];omega)
    ·rw[List.drop_zero]at this;exact this
    ·rw[<- hfs]at hg;obtain⟨i,hi,he⟩:=List.mem_iff_getElem.1 hg;have hi':i<fs.size:=by simpa using hi
     have he':fs[i]?=some g:=by
      rw[Array.getElem?_eq_getElem hi',<- he];simp
     have:=h5 i g he';rw[List.getElem?_eq_getElem (by omega)]at this;exact⟨_,this⟩
   ·cases fs with
    |nil=>simp[fldB]at h
    | cons f r =>
      simp only[fldB,and_eq_true]at h;obtain⟨⟨⟨g1,g2⟩,g3⟩,g4⟩:=h;exact step f r off fuel cs (a0g g1) g2 (a0g g3) g4 hf (by simpa[Ty.size]using hl)
def e0Z:(t:Ty)->Den t->W
 |.bool,b => .one (.bool b)
 |.int k,n => .one (.int k n)
 |.flt k,b => .one (.flt k b)
 |.cpx k,p => .one (.cpx k p.1 p.2)
 |.str,s => .one (.str s)
 |.slice t,l => .one (.sl t l)
 |.nil,_ => .agg []
 |.cons a b,p => .agg (AM.enc (.cons a b) p)
 |.jnk,_ => .one .junk
theorem e1a {β:Bt} {K:Ks} {t:Ty} {x:Den t} {v:Value} (h:DR K t x v.cells.toList) (hv:match t with|.nil=>(∃cs,v = .agg cs)|.cons _ _=>(∃cs,v = .agg cs)|_=>v.cells=#[v]):WR β K (e0Z t x) v:=by
 have he:=DR.enc (β:=β) t h;cases t with
 |nil=>obtain⟨cs,rfl⟩:=hv;exact⟨cs,rfl,he⟩
 |cons a b=>obtain⟨cs,rfl⟩:=hv;exact⟨cs,rfl,he⟩
 |bool=>dsimp only at hv;rw[hv]at he;exact he.1
 |int k=>dsimp only at hv;rw[hv]at he;exact he.1
 |flt k=>dsimp only at hv;rw[hv]at he;exact he.1
 |cpx k=>dsimp only at hv;rw[hv]at he;exact he.1
 |str=>dsimp only at hv;rw[hv]at he;exact he.1
 |slice t=>dsimp only at hv;rw[hv]at he;exact he.1
 |jnk=>dsimp only at hv;rw[hv]at he;exact he.1
theorem e6W {ty:Ty} {t:Nat} {v:Value} {d:DataW H} {ps:List MemPlace} {r:Reach} {b0:Nat} (ht:tyB P ty t=true) (hv:Value.okWide P w r b0 t v) (h:DataW.Trod enc P w base spare held t v d ps) :
 ∃x:Den ty,Wf ty x /\ ∀β,WR β (b1G w) (e0Z ty x) v:=by
 obtain⟨fuel,h⟩:=h;obtain⟨x,hd,hw⟩:=(e0Y (H:=H) ty).1 t fuel _ _ ht h;refine⟨x,hw,fun β=>e1a hd ?_⟩;cases ty with
 |nil=>simp[tyB]at ht
 |cpx k=>simp[tyB]at ht
 |jnk=>simp[tyB]at ht
 | cons a b =>
   simp only[tyB]at ht;split at ht
   ·rename_i fs hu;obtain⟨cs,e,_⟩:=okWide_struct hu hv;exact⟨cs,e⟩
   ·cases ht
 | bool =>
   simp only[tyB]at ht;split at ht
   ·rename_i hu;obtain⟨b,rfl⟩:=okWide_bool hu hv;rfl
   ·cases ht
 | int k =>
   simp only[tyB]at ht;split at ht
   ·rename_i hu;obtain⟨b,rfl⟩:=okWide_int hu hv;rfl
   ·cases ht
 | flt k =>
   simp only[tyB]at ht;split at ht
   ·rename_i hu;simp only[Value.okWide,hu,Cell.okWide]at hv;cases v<;>first|rfl|(simp_all[Cell.ok];done)
   ·cases ht
 | str =>
   simp only[tyB]at ht;split at ht
   ·rename_i hu;obtain⟨b,rfl⟩:=okWide_string hu hv;rfl
   ·cases ht
 | slice e =>
   simp only[tyB]at ht;split at ht
   ·rename_i hu;obtain⟨a,n,c,rfl⟩:=okWide_slice hu hv;rfl
   ·cases ht
end
open Go Go.RowKit
def c3r (t:Ty) (cs:List C):Option (Den t):=match dec t cs with
 |some (x,[])=>some x
 |_=>none
def f4n:(t:Ty)->W->Option (Den t)
 |.nil,.agg cs=>c3r .nil cs
 |.cons a b,.agg cs=>c3r (.cons a b) cs
 |.bool,.one c=>c3r .bool [c]
 |.int k,.one c=>c3r (.int k) [c]
 |.flt k,.one c=>c3r (.flt k) [c]
 |.cpx k,.one c=>c3r (.cpx k) [c]
 |.str,.one c=>c3r .str [c]
 |.slice t,.one c=>c3r (.slice t) [c]
 |_,_=>none
def b8j:(t:Ty)->List W->Option (Den t)
 |.nil,[]=>some ()
 | .cons a b,w::ws=>match f4n a w with
   | some x=>match b8j b ws with
     |some y=>some (x,y)
     |none=>none
   |none=>none
 |_,_=>none
def a5F:(t:Ty)->Den t->List W
 |.cons a b,p=>e0Z a p.1::a5F b p.2
 |_,_=>[]
theorem b1H {β:Bt} {K:Ks} {t:Ty} {cs:List C} {x:Den t} {vs:List Value} (h:c3r t cs=some x) (hv:All2 (CR β K) cs vs):DR K t x vs:=by
 unfold c3r at h;split at h
 ·rename_i y e;cases h;obtain⟨v1,v2,rfl,hd,h2⟩:=b2L t e hv;cases v2 with
  |nil=>rw[List.append_nil];exact hd
  |cons _ _=>exact h2.elim
 ·cases h
theorem c4j {β:Bt} {K:Ks} {t:Ty} {u:W} {x:Den t} {v:Value} (h:f4n t u=some x) (hv:WR β K u v):WR β K (e0Z t x) v:=by
 have one:∀c,c3r t [c]=some x->CR β K c v->All2 (CR β K) (AM.enc t x) [v]:=fun c hc hcr=>DR.enc t (b1H hc ⟨hcr,trivial⟩)
 unfold f4n at h;split at h<;>first|cases h;done|skip
 ·obtain⟨arr,rfl,ha⟩:=hv;exact⟨arr,rfl,DR.enc _ (b1H h ha)⟩
 ·obtain⟨arr,rfl,ha⟩:=hv;exact⟨arr,rfl,DR.enc _ (b1H h ha)⟩
 ·exact(one _ h hv).1
 ·exact(one _ h hv).1
 ·exact(one _ h hv).1
 ·exact(one _ h hv).1
 ·exact(one _ h hv).1
 ·exact(one _ h hv).1
theorem a5R {β:Bt} {K:Ks}:∀{t:Ty} {us:List W} {x:Den t} {vs:List Value},b8j t us=some x->All2 (WR β K) us vs->All2 (WR β K) (a5F t x) vs:=by
 intro t
 induction t with
 | nil =>
   intro us x vs h hv;cases us with
   |nil=>exact hv
   |cons _ _=>simp[b8j]at h
 | cons a b _ ihb =>
   intro us x vs h hv;cases us with
   |nil=>simp[b8j]at h
   | cons u us =>
     simp only[b8j]at h;split at h
     ·rename_i y hy;split at h
      ·rename_i z hz;cases h;cases vs with
       |nil=>exact hv.elim
       |cons v vs=>exact⟨c4j hy hv.1,ihb hz hv.2⟩
      ·cases h
     ·cases h
 |_=>intro us x vs h;cases us<;>simp[b8j]at h
def a0b (A R:Ty) (ok:Den A->Bool) (g:Den A->Den R):a6e:=⟨false,fun ws ins=>match ins with
 | []=>match b8j A ws with
   |some x=>some (ok x,a5F R (g x),[])
   |none=>none
 |_=>none⟩
def a7Z (tab:List (Nat×TI)) (eqs:List Nat) (sems:List (Nat×a6e)) (nt:Nat) (res:List ResultVar) (frz:List Nat) (cut:List (Nat×(List Nat×List Cv))) (loops:List (Nat×a4J)) (past:List (Nat×(List Nat×List Cv))) (rown:List Cv):Env:=
 { tab:=a1D tab,sem:=a1D sems,eqT:=b1j eqs,nt,res,frz,cut,loops,past,rown }
def a6W {α:Type} (R:α->Prop):List α->Prop
 |[]=>True
 |x::r=>R x /\ a6W R r
theorem a6W.mem {α:Type} {R:α->Prop}:∀{l:List α},a6W R l->∀x∈l,R x
 |[],_,x,h=>by cases h
 | y::r,h,x,hx=>by
   rcases List.mem_cons.1 hx with rfl|hx
   ·exact h.1
   ·exact h.2.mem x hx
theorem a6W.nil {α:Type} {R:α->Prop}:a6W R []:=trivial
theorem a6W.cons {α:Type} {R:α->Prop} {x:α} {r:List α} (h:R x) (hs:a6W R r):a6W R (x::r):=⟨h,hs⟩
def a0d (P:Program) (x:Nat×a6e):Prop:=c3C P x.1 x.2 /\ e0F P x.1
theorem a4E {P:Program} {tab:List (Nat×TI)} {eqs:List Nat} {sems:List (Nat×a6e)} (hm:P.follows .mixedOrders=true) (ht:f4m P tab=true) (he:a6W (e6N P) eqs) (hs:a6W (a0d P) sems) {nt:Nat} {res:List ResultVar} {frz:List Nat} {cut:List (Nat×(List Nat×List Cv))} {loops:List (Nat×a4J)} {past:List (Nat×(List Nat×List Cv))} {rown:List Cv} :
 a1g P (a7Z tab eqs sems nt res frz cut loops past rown):=
 ⟨e0U ht,fun f sm e=>hs.mem (f,sm) (b1F e),(fun t e=>he.mem t (a6k.1 e)),hm⟩
section
variable {P:Program} {Γ:Env}
def d1E (R:Ty):List W×List (Option Blk)->Option (Den R):=fun p=>match p.2 with
 |[]=>b8j R p.1
 |_=>none
theorem d1F:∀{t:Ty} {us:List W} {x:Den t},b8j t us=some x->(a5F t x).length=us.length:=by
 intro t
 induction t with
 | nil=>intro us x h;cases us with
   |nil=>rfl
   |cons _ _=>simp[b8j]at h
 | cons a b _ ihb =>
   intro us x h;cases us with
   |nil=>simp[b8j]at h
   | cons u us =>
     simp only[b8j]at h;split at h
     ·split at h
      ·rename_i z hz;cases h;simp[a5F,ihb hz]
      ·cases h
     ·cases h
 |_=>intro us x h;cases us<;>simp[b8j]at h
theorem a8g {β:Bt} {K:Ks} {R:Ty} {rs:List W} {r:Den R} {v:Value} (h:b8j R rs=some r) (hv:a7b β K rs v):a7b β K (a5F R r) v:=by
 have hl:=d1F h;unfold a7b at hv ⊢
 match rs,a5F R r,hl,(fun vs=>a5R (β:=β) (K:=K) (vs:=vs) h)with
 |[],[],_,_=>exact hv
 |[u],[u'],_,hk=>exact(hk [v] ⟨hv,trivial⟩).1
 | u::u2::us,y::y2::ys,_,hk =>
   obtain⟨arr,e,ha⟩:=hv;exact⟨arr,e,hk arr.toList ha⟩
theorem f7I (env:a1g P Γ) {f:Nat} {c:Code} (hf:a5s P f Γ c) {A R:Ty} {ok:Den A->Bool} {g:Den A->Den R} (h:∀x,ok x=true->b5A Γ c (d1E R) (a5F A x) []=some (g x)):a0d P (f,a0b A R ok g):=by
 refine⟨?_,hf.ok⟩;intro args ins rs outs hrun β0 K0 w0 vs hk hm hfr hv;cases ins with
 |cons _ _=>simp[a0b]at hrun
 | nil =>
   simp only[a0b]at hrun;split at hrun
   ·rename_i x hx;simp only[injEq,Prod.mk.injEq]at hrun;obtain⟨hok,rfl,rfl⟩:=hrun;refine(b8h env hf (h x hok) hk hm hfr (a5R hx hv)).mono ?_;rintro e w' ⟨v,β,K,rs',outs',rfl,hg,hR⟩;unfold d1E at hg;dsimp only at hg;split at hg
    ·exact⟨v,β,K,rfl,{ hR with out:=a8g hg hR.out }⟩
    ·cases hg
   ·cases hrun
theorem a0w (env:a1g P Γ) {f:Nat} {c:Code} (hf:a5s P f Γ c) {A R:Ty} {p:Den A->Option (Den R)} (h:∀x,b5A Γ c (d1E R) (a5F A x) []=p x):a0d P (f,a0b A R (fun x=>(p x).isSome) (fun x=>(p x).getD (zero R))):=
 f7I env hf fun x hx=>by
  rw[h x];cases hp:p x with
  |none=>rw[hp]at hx;cases hx
  |some r=>rfl
end
inductive d1G:C->C->Bool->Prop
 |int (k:IntKind) (x y:Int):d1G (.int k x) (.int k y) (x==y)
 |bool (x y:Bool):d1G (.bool x) (.bool y) (x==y)
theorem a3p:∀{cs ds:List C} {b:Bool},a2P cs ds=some b->cs.length=ds.length /\ (cs=[]->b=true) /\
 ∀(c d:C) (r r':List C),cs=c::r->ds=d::r'->∃e b',a2P r r'=some b' /\ b=(e&&b') /\ d1G c d e
 | [],[],b,h=>by
   simp only[a2P,injEq]at h;exact⟨rfl,fun _=>h.symm,fun c d r r' e=>by cases e⟩
 |[],_::_,b,h=>by simp[a2P]at h
 |c::r,[],b,h=>by cases c<;>simp[a2P]at h
 | c :: r,d::r',b,h=>by
   have main:∀e,(match r,r' with|[],[]=>some e|_,_=>match a2P r r' with|some b'=>some (e&&b')|none=>none)=some b->∃b',a2P r r'=some b' /\ b=(e&&b'):=by
    intro e he;split at he
    ·cases he;exact⟨true,rfl,by simp⟩
    ·split at he
     ·rename_i b' hb;cases he;exact⟨b',hb,rfl⟩
     ·cases he
   cases c<;>cases d<;>first|(simp[a2P]at h;done)|skip
   ·rename_i x y;simp only[a2P]at h;obtain⟨b',h1,h2⟩:=main (x==y) h;have hl:=(a3p h1).1;refine⟨by simp[hl],fun e=>(by cases e),fun c d q q' e e'=>?_⟩;cases e;cases e';exact⟨_,b',h1,h2,.bool x y⟩
   ·rename_i k x k' y;simp only[a2P]at h;split at h
    ·rename_i hk;have hk:k=k':=of_decide_eq_true hk;subst hk;obtain⟨b',h1,h2⟩:=main (x==y) h;have hl:=(a3p h1).1;refine⟨by simp[hl],fun e=>(by cases e),fun c d q q' e e'=>?_⟩;cases e;cases e';exact⟨_,b',h1,h2,.int k x y⟩
    ·cases h
theorem b3j:∀(n:Nat) {cs ds:List C} {b:Bool},a2P cs ds=some b->∃e e',a2P (cs.take n) (ds.take n)=some e /\ a2P (cs.drop n) (ds.drop n)=some e' /\ b=(e&&e')
 |0,cs,ds,b,h=>⟨true,b,rfl,h,by simp⟩
 | n+1,[],[],b,h=>by
   cases h;exact⟨true,true,rfl,rfl,rfl⟩
 |n+1,[],_::_,b,h=>by simp[a2P]at h
 |n+1,c::r,[],b,h=>by cases c<;>simp[a2P]at h
 | n+1,c::r,d::r',b,h=>by
   obtain⟨e,b',h1,h2,h3⟩:=(a3p h).2.2 c d r r' rfl rfl;obtain⟨f,f',g1,g2,g3⟩:=b3j n h1;refine⟨e&&f,f',?_,g2,by rw[h2,g3,Bool.and_assoc]⟩;have add:∀(p p':List C) (x:Bool),a2P p p'=some x->a2P (c::p) (d::p')=some (e&&x):=by
    intro p p' x hx;have hl:=a3p hx;cases h3 with
    | int k u v =>
      simp only[a2P];rw[show a2C k k=true by simp[a2C]];cases p with
      | nil =>
        cases p' with
        |nil=>have:=hl.2.1 rfl;subst this;simp
        |cons _ _=>simp at hl
      | cons _ _ =>
        cases p' with
        |nil=>simp at hl
        |cons _ _=>simp only[hx]
    | bool u v =>
      simp only[a2P];cases p with
      | nil =>
        cases p' with
        |nil=>have:=hl.2.1 rfl;subst this;simp
        |cons _ _=>simp at hl
      | cons _ _ =>
        cases p' with
        |nil=>simp at hl
        |cons _ _=>simp only[hx]
   exact add _ _ _ g1
def d1H (v:Value) (c:C):Prop:=(∃k x y,v = .int k x /\ c = .int k y)∨(∃x y,v = .bool x /\ c = .bool y)
theorem b1I:∀{zs cs:List C} {vs:List Value},a8n zs cs=true->All2 ZR zs vs->All2 d1H vs cs
 |[],[],[],_,_=>trivial
 |[],[],_::_,_,h=>by cases h
 |z::r,[],vs,h,_=>by cases z<;>simp[a8n]at h
 |[],_::_,vs,h,_=>by simp[a8n]at h
 |z::r,c::r',[],_,h=>by cases h
 | z::r,c::r',v::vs,h,hz=>by
   obtain⟨h1,h2⟩:=hz;have h1:=h1 (fun _=>none) (fun _=>none);cases z<;>cases c<;>first|(simp[a8n]at h;done)|skip
   ·simp only[a8n]at h;exact⟨.inr ⟨_,_,h1,rfl⟩,b1I h h2⟩
   ·simp only[a8n,and_eq_true]at h;have hk:=of_decide_eq_true h.1;subst hk;exact⟨.inl ⟨_,_,_,h1,rfl⟩,b1I h.2 h2⟩
def e6X:Option Value->Bool
 |some (.int _ _)=>true
 |_=>false
def e1b:Option Value->Bool
 |some (.bool _)=>true
 |_=>false
def d5s (P:Program) (zl:List Value) (et:Nat->List Value->Bool):List Field->Nat->Option Nat
 |[],off=>some off
 | f :: fs,off=>match beq f.offset off&&decide (f.name ≠ "_"),P.info? f.type,P.underlying f.type with
   | true,some i,some d=>match (match d with|.int _=>beq i.size 1&&e6X zl[off]?|.bool=>beq i.size 1&&e1b zl[off]?|.struct _=>et f.type ((zl.drop off).take i.size)|_=>false)with
     |true=>d5s P zl et fs (off+i.size)
     |false=>none
   |_,_,_=>none
def d5t (P:Program):Nat->Nat->List Value->Bool
 |0,_,_=>false
 | n+1,t,zl=>(match P.underlying t,P.info? t with
   |some (.struct fs),some i=>(match d5s P zl (d5t P n) fs.toList 0 with|some m=>beq i.size m|none=>false)
   |_,_=>false)&&!P.stoodInHeld t
section
variable {P:Program} {w:World} {β:Bt} {K:Ks}
def EqN (P:Program) (n t:Nat) (zl:List Value):Prop:=∀(d:Nat),n<=d->∀(cs ds:List C) (xs ys:Array Value) (b:Bool) (β:Bt) (K:Ks) (w:World),(∀i,P.info? t=some i->cs.length=i.size)->All2 d1H zl cs->a2P cs ds=some b->All2 (CR β K) cs xs.toList->All2 (CR β K) ds ys.toList ->
    (Op.equalIn (d+1) t (.agg xs) (.agg ys)).run P w = .ok b w
theorem b8k {α β:Type} {R:α->β->Prop}:∀{l:List α} {m:List β},All2 R l m->l.length=m.length
 |[],[],_=>rfl
 |_::_,_::_,⟨_,h⟩=>by simp[b8k h]
 |[],_::_,h=>by cases h
 |_::_,[],h=>by cases h
theorem b8l {α β:Type} {R:α->β->Prop}:∀{l:List α} {m:List β} {i:Nat} {a:α} {b:β},All2 R l m->l[i]?=some a->m[i]?=some b->R a b
 |_::_,_::_,0,a,b,⟨h,_⟩,h1,h2=>by cases h1;cases h2;exact h
 |_::_,_::_,i+1,a,b,⟨_,h⟩,h1,h2=>b8l h (by simpa using h1) (by simpa using h2)
 |[],_,_,_,_,_,h1,_=>by simp at h1
 |_::_,[],_,_,_,h,_,_=>by cases h
theorem b3k {α β:Type} {R:α->β->Prop}:∀(n:Nat) {l:List α} {m:List β},All2 R l m->All2 R (l.drop n) (m.drop n)
 |0,_,_,h=>h
 |n+1,[],[],_=>trivial
 |n+1,_::_,_::_,⟨_,h⟩=>b3k n h
 |n+1,[],_::_,h=>by cases h
 |n+1,_::_,[],h=>by cases h
theorem b3l {α β:Type} {R:α->β->Prop}:∀(n:Nat) {l:List α} {m:List β},All2 R l m->All2 R (l.take n) (m.take n)
 |0,_,_,_=>trivial
 |n+1,[],[],_=>trivial
 |n+1,_::_,_::_,⟨h1,h⟩=>⟨h1,b3l n h⟩
 |n+1,[],_::_,h=>by cases h
 |n+1,_::_,[],h=>by cases h
theorem a7G (n:Nat) (IH:∀t zl,d5t P n t zl=true->EqN P n t zl) (d:Nat) (hd:n<=d) {xs ys:Array Value} {cs ds:List C} {zl:List Value} (hz:All2 d1H zl cs) (hx:All2 (CR β K) cs xs.toList) (hy:All2 (CR β K) ds ys.toList):∀(fs:List Field) (off m:Nat) (b:Bool),d5s P zl (d5t P n) fs off=some m->m=cs.length->off<=cs.length->cs.length=ds.length->a2P (cs.drop off) (ds.drop off)=some b ->
 (Op.eqFields (d+1) xs ys fs).run P w = .ok b w
 | [],off,m,b,hm,hl,ho,hl2,hq=>by
   simp only[d5s,injEq]at hm
   have h1:=(a3p hq).2.1 (by rw[List.drop_eq_nil_iff];omega)
   subst h1
   simp[Op.eqFields]
 | f :: fs,off,m,b,hm,hl,ho,hl2,hq=>by
   simp only[d5s]at hm
   split at hm
   case h_2=>cases hm
   rename_i i ud f12 hi hu
   split at hm
   case h_2=>cases hm
   rename_i f3
   rw[and_eq_true]at f12
   have f1:=a0g f12.1
   have f2:f.name ≠ "_" := of_decide_eq_true f12.2
   obtain⟨e,e',g1,g2,g3⟩:=b3j i.size hq
   have hmono:∀(l:List Field) (o k:Nat),d5s P zl (d5t P n) l o=some k->o<=k:=by
    intro l
    induction l with
    |nil=>intro o k h;simp only[d5s,injEq]at h;omega
    | cons a l ih =>
      intro o k h
      simp only[d5s]at h
      split at h
      ·split at h
       ·have:=ih _ _ h;omega
       ·cases h
      ·cases h
   have hmo:=hmono _ _ _ hm
   have l1:(a2D cs off i.size).length=i.size:=by unfold a2D;rw[List.length_take,List.length_drop];omega
   have l2:(a2D ds off i.size).length=i.size:=by unfold a2D;rw[List.length_take,List.length_drop];omega
   have ih:=a7G n IH d hd hz hx hy fs (off+i.size) m e' hm hl (by omega) hl2 (by rw[<- List.drop_drop,<- List.drop_drop];exact g2)
   have main:∃v v',(part f.type xs off).run P w = .ok v w /\ (part f.type ys off).run P w = .ok v' w /\ (Op.equalIn (d+1) f.type v v').run P w = .ok e w:=by
    have one:∀(hag:d1k ud=false) (hs:i.size=1),∃c c' v v' z,(part f.type xs off).run P w = .ok v w /\ (part f.type ys off).run P w = .ok v' w /\ CR β K c v /\ CR β K c' v' /\ d1G c c' e /\ zl[off]?=some z /\ d1H z c:=by
     intro hag hs
     rw[hs]at g1 l1 l2
     obtain⟨c,hc⟩:=List.length_eq_one_iff.1 l1
     obtain⟨c',hc'⟩:=List.length_eq_one_iff.1 l2
     obtain⟨v,r1,c1⟩:=a6l (P:=P) (w:=w) (u := .one c) false f.type hi hu hag hx (by rw[hs,hc];rfl)
     obtain⟨v',r2,c2⟩:=a6l (P:=P) (w:=w) (u := .one c') false f.type hi hu hag hy (by rw[hs,hc'];rfl)
     have hc0:=hc
     unfold a2D at hc hc'
     rw[hc,hc']at g1
     obtain⟨q,b',q1,q2,q3⟩:=(a3p g1).2.2 _ _ _ _ rfl rfl
     cases q1
     rw[Bool.and_true]at q2
     subst q2
     have hzl:=b8k hz
     have hoz:off<zl.length:=by omega
     have hcs:cs[off]?=some c:=by
      have:((cs.drop off).take 1)[0]?=some c:=by rw[hc];rfl
      rw[List.getElem?_take_of_lt (by omega),List.getElem?_drop]at this
      simpa using this
     refine⟨c,c',v,v',zl[off],r1,r2,c1,c2,q3,List.getElem?_eq_getElem hoz,b8l hz (List.getElem?_eq_getElem hoz) hcs⟩
    split at f3
    ·rename_i ik
     rw[and_eq_true]at f3
     obtain⟨c,c',v,v',z,r1,r2,c1,c2,q3,hz0,hl0⟩:=one rfl (a0g f3.1)
     refine⟨v,v',r1,r2,?_⟩
     cases q3 with
     |int k x y=>rw[show v=_ from c1,show v'=_ from c2];exact run_equalIn_int w d f.type k _ x y hu
     | bool x y =>
       have f3:=f3.2
       rw[hz0]at f3
       rcases hl0 with⟨_,_,_,_,h⟩|⟨_,_,h,_⟩
       ·cases h
       ·subst h;cases f3
    ·rw[and_eq_true]at f3
     obtain⟨c,c',v,v',z,r1,r2,c1,c2,q3,hz0,hl0⟩:=one rfl (a0g f3.1)
     refine⟨v,v',r1,r2,?_⟩
     cases q3 with
     |bool x y=>rw[show v=_ from c1,show v'=_ from c2];exact run_equalIn_bool' w d f.type x y hu
     | int k x y =>
       have f3:=f3.2
       rw[hz0]at f3
       rcases hl0 with⟨_,_,_,h,_⟩|⟨_,_,_,h⟩
       ·subst h;cases f3
       ·cases h
    ·rename_i fs'
     obtain⟨v,r1,xs',rfl,c1⟩:=a6l (P:=P) (w:=w) (u := .agg (a2D cs off i.size)) true f.type hi hu rfl hx (by unfold a3w;rw[l1];simp)
     obtain⟨v',r2,ys',rfl,c2⟩:=a6l (P:=P) (w:=w) (u := .agg (a2D ds off i.size)) true f.type hi hu rfl hy (by unfold a3w;rw[l2];simp)
     refine⟨_,_,r1,r2,?_⟩
     exact IH _ _ f3 d hd _ _ _ _ e β K w (fun i' hi'=>by rw[hi]at hi';cases hi';exact l1) (b3l _ (b3k _ hz)) g1 c1 c2
    ·cases f3
   obtain⟨v,v',r1,r2,heq⟩:=main
   rw[<- f1]at r1 r2
   simp only[Op.eqFields]
   rw[if_pos f2]
   simp only[Sem.run_bind,r1,r2,heq,Result.andThen_ok]
   cases e with
   |false=>simp[g3]
   | true =>
     simp only[Bool.not_true,Bool.false_eq_true,if_false]
     rw[ih,g3]
     simp
theorem c4k:∀(n t:Nat) (zl:List Value),d5t P n t zl=true->EqN P n t zl
 |0,_,_,h=>by simp[d5t]at h
 | n+1,t,zl,h=>by
   simp only[d5t,and_eq_true]at h;obtain⟨h1,h2⟩:=h;split at h1
   case h_2=>cases h1
   rename_i fs i hu hi;split at h1
   case h_2=>cases h1
   rename_i m hm;have hf:P.fieldsOf t=fs:=by unfold Program.fieldsOf;rw[hu]
   intro d hd cs ds xs ys b β K w hln hz hq hx hy;rw[run_equalIn_struct w d t xs ys (by rw[hf];exact hu) (by simpa using h2),hf];obtain⟨d,rfl⟩:∃e,d=e+1:=⟨d-1,by omega⟩;have hlen:=(a3p hq).1;exact a7G n (fun t zl h=>c4k n t zl h) d (by omega) hz hx hy fs.toList 0 m b hm (by rw[hln i hi,a0g h1]) (by omega) hlen (by simpa using hq)
end
def eqB (P:Program) (t:Nat):Bool:=(match P.info? t with
 |some i=>(match i.zero with|some z=>d5t P 6 t z.cells.toList|none=>false)
 |none=>false)&&!P.eqGuardType P.depth t
theorem e6Y {P:Program} {t:Nat} (h:eqB P t=true):e6N P t:=by
 simp only[eqB,and_eq_true]at h;obtain⟨h1,h3⟩:=h;split at h1
 case h_2=>cases h1
 rename_i i hi;split at h1
 case h_2=>cases h1
 rename_i z hz;refine⟨by simpa using h3,fun cs ds xs ys b β K w hln hq hx hy=>?_⟩;obtain⟨h4,z',zs,e1,e2,e3⟩:=hln i hi;rw[hz]at e1;cases e1;exact c4k 6 t z.cells.toList h1 9999 (by decide) cs ds xs ys b β K w (fun i' hi'=>by rw[hi]at hi';cases hi';exact h4) (b1I e3 e2) hq hx hy
def g5k (P:Program) (l:List Nat):Bool:=l.all (eqB P)
theorem c4l {P:Program}:∀{l:List Nat},g5k P l=true->a6W (e6N P) l
 |[],_=>trivial
 | t::r,h=>by
   simp only[g5k,List.all_cons,and_eq_true]at h;exact⟨e6Y h.1,c4l h.2⟩
section
variable {Γ:Env}
theorem b1J (o:Oper) (s:St):(∀(R:Type) (K:St->Ent->Option R),c3p Γ o K s=none)∨∃s' e,∀(R:Type) (K:St->Ent->Option R),c3p Γ o K s=K s' e:=by
 cases h:act Γ o s.val s.get s.n with
 |none=>left;intro R K;simp only[c3p,h]
 | some out =>
   cases h1:a6Y Γ o.dst with
   |false=>left;intro R K;simp only[c3p,h,h1]
   | true =>
     cases h2:out.ok with
     |false=>left;intro R K;simp only[c3p,h,h1,h2]
     |true=>right;exact⟨_,_,fun R K=>by simp only[c3p,h,h1,h2];rfl⟩
theorem a8O (o:Oper) (s:St):(∀(R:Type) (K:St->Ent->Option R),a6Z Γ o K s=none)∨∃s' e,∀(R:Type) (K:St->Ent->Option R),a6Z Γ o K s=K s' e:=by
 unfold a6Z;split
 ·split
  ·rename_i b _;cases b with
   |true=>exact b1J o _
   |false=>exact b1J o _
  ·exact .inl fun _ _=>rfl
 ·exact b1J o s
theorem a8P (o:Oper) (s:St):(∀(R:Type) (K:St->Ent->Option R),a7S Γ o K s=none)∨∃s' e,∀(R:Type) (K:St->Ent->Option R),a7S Γ o K s=K s' e:=by
 unfold a7S;cases a6Y Γ o.dst with
 |true=>exact .inr ⟨_,_,fun _ _=>rfl⟩
 |false=>exact .inl fun _ _=>rfl
theorem b8m (ops:Array Oper):∀(L:List Oper) (s:St) (tr:List Ent),(∀(R:Type) (K:St->List Ent->Option R),b0d Γ ops L s tr K=none)∨∃s' tr',∀(R:Type) (K:St->List Ent->Option R),b0d Γ ops L s tr K=K s' tr'
 |[],s,tr => .inr ⟨s,tr,fun _ _=>rfl⟩
 | o :: L,s,tr=>by
   have next:∀(X:∀(R:Type),(St->Ent->Option R)->Option R),((∀R K,X R K=none)∨∃s' e,∀R K,X R K=K s' e) ->
    (∀(R:Type) (K:St->List Ent->Option R),X R (fun s' e=>b0d Γ ops L s' (e::tr) K)=none)∨∃s' tr',∀(R:Type) (K:St->List Ent->Option R),X R (fun s' e=>b0d Γ ops L s' (e::tr) K)=K s' tr':=by
    intro X hX;rcases hX with h|⟨s',e,h⟩
    ·exact .inl fun R K=>h R _
    ·rcases b8m ops L s' (e::tr)with h2|⟨s2,t2,h2⟩
     ·exact .inl fun R K=>by rw[h];exact h2 R K
     ·exact .inr ⟨s2,t2,fun R K=>by rw[h];exact h2 R K⟩
   unfold b0d;split
   ·exact next (fun R K=>a6Z Γ o K s) (a8O o s)
   ·split
    ·exact .inl fun _ _=>rfl
    ·rename_i g want hg _ t ht;split
     ·rename_i b _;cases b<;>cases want
      ·exact next (fun R K=>a6Z Γ o K (s.put t (a2r false))) (a8O o _)
      ·exact next (fun R K=>a7S Γ o K (s.put t (a2r false))) (a8P o _)
      ·exact next (fun R K=>a7S Γ o K (s.put t (a2r true))) (a8P o _)
      ·exact next (fun R K=>a6Z Γ o K (s.put t (a2r true))) (a8O o _)
     ·exact next (fun R K=>a7S Γ o K s) (a8P o s)
     ·exact .inl fun _ _=>rfl
def a7i (X:∀(R:Type),(Ex->St->Option R)->Option R):Prop:=(∀R K,X R K=none)∨∃e s',∀R K,X R K=K e s'
theorem a7i.bind {X:∀(R:Type),(Ex->St->Option R)->Option R} (h:a7i X) {T:∀(R:Type),(Ex->St->Option R)->Ex->St->Option R} (hT:∀e s,a7i fun R K=>T R K e s):a7i fun R K=>X R (T R K):=by
 rcases h with h|⟨e,s,h⟩
 ·exact .inl fun R K=>h R _
 ·rcases hT e s with h2|⟨e',s',h2⟩
  ·exact .inl fun R K=>(h R _).trans (h2 R K)
  ·exact .inr ⟨e',s',fun R K=>(h R _).trans (h2 R K)⟩
theorem a7i.pure (e:Ex) (s:St):a7i fun R K=>K e s := .inr ⟨e,s,fun _ _=>rfl⟩
theorem a7i.none:a7i fun R K=>(Option.none:Option R) := .inl fun _ _=>rfl
theorem a5k (cut:Option (List Nat×List Cv)) (e:Ex) (s:St):a7i fun R K=>a5L cut K e s:=by
 cases e with
 | normal =>
   cases cut with
   |none=>exact a7i.pure .normal s
   | some c =>
     cases h:a8p c.1 c.2 s with
     |none=>exact .inl fun R K=>by simp only[a5L,h]
     |some s'=>exact .inr ⟨.normal,s',fun R K=>by simp only[a5L,h]⟩
 |exit i=>exact a7i.pure (.exit i) s
 |ret=>exact a7i.pure .ret s
theorem b5S (id:Nat) (cut:Option (List Nat×List Cv)) (e:Ex) (s:St):a7i fun R K=>a7D id cut K e s:=by
 cases e with
 |normal=>exact a5k cut .normal s
 | exit i =>
   cases h:beq i id with
   | true =>
     have:=a5k cut .normal s;unfold a7i at this ⊢;simp only[a7D,h];exact this
   |false=>exact .inr ⟨.exit i,s,fun R K=>by simp only[a7D,h]⟩
 |ret=>exact a7i.pure .ret s
theorem b8n:∀(c:Code) (s:St),a7i fun R K=>EBk (R:=R) Γ c K s:=by
 intro c
 induction c with
 |skip=>exact fun s=>a7i.pure .normal s
 |label l=>exact fun s=>a7i.pure .normal s
 |exit id=>exact fun s=>a7i.pure (.exit id) s
 | ret =>
   intro s;cases h:a8p (Γ.res.map g5i) Γ.rown s with
   |none=>exact .inl fun R K=>by simp only[EBk,h]
   |some s'=>exact .inr ⟨.ret,s',fun R K=>by simp only[EBk,h]⟩
 | seq x y ihx ihy =>
   intro s;refine a7i.bind (ihx s) (T:=fun R K e s'=>match e with|.normal=>EBk Γ y K s'|e=>K e s') fun e s'=>?_
   cases e with
   |normal=>exact ihy s'
   |exit i=>exact a7i.pure (.exit i) s'
   |ret=>exact a7i.pure .ret s'
 | cond c x y ihx ihy =>
   intro s;show a7i fun R K=>(match s.val c with
    | .val (.one (.bool b))=>match b with
      |true=>EBk Γ x (a5L (a1D Γ.cut (b2J c)) K) (s.putC c true)
      |false=>EBk Γ y (a5L (a1D Γ.cut (b2J c)) K) (s.putC c false)
    |_=>Option.none:Option R)
   split
   ·rename_i b _;cases b with
    |true=>exact a7i.bind (ihx _) (T:=fun R K=>a5L (a1D Γ.cut (b2J c)) K) fun e s'=>a5k _ e s'
    |false=>exact a7i.bind (ihy _) (T:=fun R K=>a5L (a1D Γ.cut (b2J c)) K) fun e s'=>a5k _ e s'
   ·exact a7i.none
 | block id x ih =>
   intro s;exact a7i.bind (ih s) (T:=fun R K=>a7D id (a1D Γ.past id) K) fun e s'=>b5S _ _ e s'
 | loop x ih =>
   intro s;cases h:a1D Γ.loops (a0I x)with
   |none=>exact .inl fun R K=>by simp only[EBk,h]
   | some L =>
     cases h1:a8p L.live L.own s with
     |none=>exact .inl fun R K=>by simp only[EBk,h,e0D,h1]
     | some s0 =>
       cases h2:L.run s0 with
       |none=>exact .inl fun R K=>by simp only[EBk,h,e0D,h1,h2]
       | some p =>
         obtain⟨ok,b,s1,s2⟩:=p;cases ok with
         |false=>exact .inl fun R K=>by simp only[EBk,h,e0D,h1,h2]
         | true=>cases b with
           |true=>exact .inr ⟨.ret,s2,fun R K=>by simp only[EBk,h,e0D,h1,h2]⟩
           |false=>exact .inr ⟨.exit L.ex,s1,fun R K=>by simp only[EBk,h,e0D,h1,h2]⟩
 | region id ops d =>
   intro s;rcases b8m (Γ:=Γ) ops ops.toList s []with h|⟨s',tr,h⟩
   ·exact .inl fun R K=>by simp only[EBk];exact h R _
   ·cases d with
    |false=>exact .inr ⟨.normal,s',fun R K=>by simp only[EBk];exact h R _⟩
    | true =>
      cases hd:b2H ops tr with
      |true=>exact .inr ⟨.normal,s',fun R K=>by simp only[EBk];rw[h R _,hd]⟩
      |false=>exact .inl fun R K=>by simp only[EBk];rw[h R _,hd]
 |_=>exact fun s => .inl fun R K=>by simp only[EBk]
end
inductive ShC where
 |bool
 |int (k:IntKind)
 |flt (k:FloatKind)
 |cpx (k:FloatKind)
 |str
 |sl (t:Ty)
 |pois
 |nil (t:Ty)
 |ref (t:Ty) (k:Nat)
 |ptr (k o:Nat)
 |fn (f:Nat) (caps:List Nat)
@[reducible] def ShC.den:ShC->Type
 |.bool=>Bool
 |.int _=>Int
 |.flt _=>Nat
 |.cpx _=>Nat×Nat
 |.str=>ByteArray
 |.sl t=>List (Den t)
 |_=>Unit
def mkC:(c:ShC)->c.den->C
 |.bool,b => .bool b
 |.int k,n => .int k n
 |.flt k,b => .flt k b
 |.cpx k,p => .cpx k p.1 p.2
 |.str,s => .str s
 |.sl t,l => .sl t l
 |.pois,_ => .pois
 |.nil t,_ => .nil t
 |.ref t k,_ => .ref t k
 |.ptr k o,_ => .ptr k o
 |.fn f caps,_ => .fn f caps
def c4m (t t':Ty):Bool:=match a3i t t' with
 |some _=>true
 |none=>false
theorem b1K {t t':Ty} (h:c4m t t'=true):t=t':=by
 unfold c4m at h;split at h
 ·rename_i h' _;exact h'.down
 ·cases h
def eqL:List Nat->List Nat->Bool
 |[],[]=>true
 |x::r,y::q=>beq x y&&eqL r q
 |_,_=>false
theorem d5u:∀{l r:List Nat},eqL l r=true->l=r
 |[],[],_=>rfl
 | x::r,y::q,h=>by
   simp only[eqL,and_eq_true]at h;rw[a0g h.1,d5u h.2]
 |[],_::_,h=>by cases h
 |_::_,[],h=>by cases h
def e6Z:(c:ShC)->C->Option c.den
 |.bool,.bool b=>some b
 |.int k,.int k' n=>match a2C k k' with|true=>some n|false=>none
 |.flt k,.flt k' b=>match a0X k k' with|true=>some b|false=>none
 |.cpx k,.cpx k' a b=>match a0X k k' with|true=>some (a,b)|false=>none
 |.str,.str s=>some s
 | .sl t,.sl t' l=>match a3i t' t with
   |some ⟨h⟩=>some (h ▸ l)
   |none=>none
 |.pois,.pois=>some ()
 |.nil t,.nil t'=>match c4m t t' with|true=>some ()|false=>none
 |.ref t k,.ref t' k'=>match c4m t t'&&beq k k' with|true=>some ()|false=>none
 |.ptr k o,.ptr k' o'=>match beq k k'&&beq o o' with|true=>some ()|false=>none
 |.fn f caps,.fn f' caps'=>match beq f f'&&eqL caps caps' with|true=>some ()|false=>none
 |_,_=>none
theorem b5T {c:ShC} {x:C} {v:c.den} (h:e6Z c x=some v):x=mkC c v:=by
 cases c<;>cases x<;>simp only[e6Z]at h<;>first|cases h;done|skip
 ·cases h;rfl
 ·split at h
  ·rename_i hk;have:=of_decide_eq_true hk;cases h;subst this;rfl
  ·cases h
 ·split at h
  ·rename_i hk;have:=of_decide_eq_true hk;cases h;subst this;rfl
  ·cases h
 ·split at h
  ·rename_i hk;have:=of_decide_eq_true hk;cases h;subst this;rfl
  ·cases h
 ·cases h;rfl
 ·split at h
  ·rename_i e _;subst e;cases h;rfl
  ·cases h
 ·rfl
 ·split at h
  ·rename_i hk;rw[<- b1K hk];rfl
  ·cases h
 ·split at h
  ·rename_i hk;simp only[and_eq_true]at hk;rw[<- b1K hk.1,<- a0g hk.2];rfl
  ·cases h
 ·split at h
  ·rename_i hk;simp only[and_eq_true]at hk;rw[<- a0g hk.1,<- a0g hk.2];rfl
  ·cases h
 ·split at h
  ·rename_i hk;simp only[and_eq_true]at hk;rw[<- a0g hk.1,<- d5u hk.2];rfl
  ·cases h
@[reducible] def c4n:List ShC->Type
 |[]=>Unit
 |c::r=>c.den×c4n r
def mkL:(l:List ShC)->c4n l->List C
 |[],_=>[]
 |c::r,p=>mkC c p.1::mkL r p.2
def b5U:(l:List ShC)->List C->Option (c4n l)
 |[],[]=>some ()
 | c :: r,x::xs=>match e6Z c x with
   | some v=>match b5U r xs with
     |some w=>some (v,w)
     |none=>none
   |none=>none
 |_,_=>none
theorem b1L:∀{l:List ShC} {xs:List C} {v:c4n l},b5U l xs=some v->xs=mkL l v
 |[],[],_,_=>rfl
 | c :: r,x::xs,v,h=>by
   simp only[b5U]at h;split at h
   ·rename_i a ha;split at h
    ·rename_i b hb;cases h;rw[b5T ha,b1L hb];rfl
    ·cases h
   ·cases h
 |[],_::_,_,h=>by simp[b5U]at h
 |_::_,[],_,h=>by simp[b5U]at h
inductive ShV where
 |one (c:ShC)
 |agg (cs:List ShC)
 |tup
@[reducible] def ShV.den:ShV->Type
 |.one c=>c.den
 |.agg cs=>c4n cs
 |.tup=>Unit
def mkV:(s:ShV)->s.den->V
 |.one c,v => .val (.one (mkC c v))
 |.agg cs,v => .val (.agg (mkL cs v))
 |.tup,_ => .tup []
def f7J:(s:ShV)->V->Option s.den
 |.one c,.val (.one x)=>e6Z c x
 |.agg cs,.val (.agg xs)=>b5U cs xs
 |.tup,.tup []=>some ()
 |_,_=>none
theorem e1c {s:ShV} {x:V} {v:s.den} (h:f7J s x=some v):x=mkV s v:=by
 unfold f7J at h;split at h
 ·rw[b5T h];rfl
 ·rw[b1L h];rfl
 ·rfl
 ·cases h
inductive ShB where
 |box (cs:List ShC)
 |arr (t:Ty)
 |gone
@[reducible] def ShB.den:ShB->Type
 |.box cs=>c4n cs
 |.arr t=>List (Den t)
 |.gone=>Unit
def mkB:(s:ShB)->s.den->Option Blk
 |.box cs,v=>some (.box (mkL cs v))
 |.arr t,l=>some (.arr t l)
 |.gone,_=>none
def f7K:(s:ShB)->Option Blk->Option s.den
 |.box cs,some (.box xs)=>b5U cs xs
 | .arr t,some (.arr t' l)=>match a3i t' t with
   |some ⟨h⟩=>some (h ▸ l)
   |none=>none
 |.gone,none=>some ()
 |_,_=>none
theorem e1d {s:ShB} {x:Option Blk} {v:s.den} (h:f7K s x=some v):x=mkB s v:=by
 unfold f7K at h;split at h
 ·rw[b1L h];rfl
 ·split at h
  ·rename_i e _;subst e;cases h;rfl
  ·cases h
 ·rfl
 ·cases h
@[reducible] def e5B:List (Nat×ShV)->Type
 |[]=>Unit
 |p::r=>p.2.den×e5B r
def mkT:(l:List (Nat×ShV))->e5B l->List (Nat×V)
 |[],_=>[]
 |p::r,v=>(p.1,mkV p.2 v.1)::mkT r v.2
def e5C:(l:List (Nat×ShV))->List (Nat×V)->Option (e5B l)
 |[],[]=>some ()
 | p :: r,x::xs=>match beq p.1 x.1 with
   | true=>match f7J p.2 x.2 with
     | some v=>match e5C r xs with
       |some w=>some (v,w)
       |none=>none
     |none=>none
   |false=>none
 |_,_=>none
theorem c4o:∀{l:List (Nat×ShV)} {xs:List (Nat×V)} {v:e5B l},e5C l xs=some v->xs=mkT l v
 |[],[],_,_=>rfl
 | p :: r,(k,x)::xs,v,h=>by
   simp only[e5C]at h;split at h
   ·rename_i hk;split at h
    ·rename_i a ha;split at h
     ·rename_i b hb;cases h;rw[e1c ha,c4o hb,<- a0g hk];rfl
     ·cases h
    ·cases h
   ·cases h
 |[],_::_,_,h=>by simp[e5C]at h
 |_::_,[],_,h=>by simp[e5C]at h
@[reducible] def e5D:List (Nat×ShB)->Type
 |[]=>Unit
 |p::r=>p.2.den×e5D r
def mkM:(l:List (Nat×ShB))->e5D l->List (Nat×Option Blk)
 |[],_=>[]
 |p::r,v=>(p.1,mkB p.2 v.1)::mkM r v.2
def e5E:(l:List (Nat×ShB))->List (Nat×Option Blk)->Option (e5D l)
 |[],[]=>some ()
 | p :: r,x::xs=>match beq p.1 x.1 with
   | true=>match f7K p.2 x.2 with
     | some v=>match e5E r xs with
       |some w=>some (v,w)
       |none=>none
     |none=>none
   |false=>none
 |_,_=>none
theorem c4p:∀{l:List (Nat×ShB)} {xs:List (Nat×Option Blk)} {v:e5D l},e5E l xs=some v->xs=mkM l v
 |[],[],_,_=>rfl
 | p :: r,(k,x)::xs,v,h=>by
   simp only[e5E]at h;split at h
   ·rename_i hk;split at h
    ·rename_i a ha;split at h
     ·rename_i b hb;cases h;rw[e1d ha,c4p hb,<- a0g hk];rfl
     ·cases h
    ·cases h
   ·cases h
 |[],_::_,_,h=>by simp[e5E]at h
 |_::_,[],_,h=>by simp[e5E]at h
structure ShS where
 tmps:List (Nat×ShV)
 mem:List (Nat×ShB)
 n:Nat
 m:Nat
@[reducible] def ShS.den (s:ShS):Type:=e5B s.tmps×e5D s.mem
def mkS (s:ShS) (v:s.den):St:=⟨mkT s.tmps v.1,mkM s.mem v.2,s.n,s.m⟩
def e7a (sh:ShS) (s:St):Option sh.den:=match beq sh.n s.n&&beq sh.m s.m with
 | true=>match e5C sh.tmps s.tmps with
   | some v=>match e5E sh.mem s.mem with
     |some w=>some (v,w)
     |none=>none
   |none=>none
 |false=>none
theorem a5S {sh:ShS} {s:St} {v:sh.den} (h:e7a sh s=some v):s=mkS sh v:=by
 obtain⟨tmps,mem,n,m⟩:=s;simp only[e7a]at h;split at h
 ·rename_i hk;simp only[and_eq_true]at hk;split at h
  ·rename_i a ha;split at h
   ·rename_i b hb;cases h;rw[c4o ha,c4p hb,<- a0g hk.1,<- a0g hk.2];rfl
   ·cases h
  ·cases h
 ·cases h
def atS {R:Type} (sh:ShS) (f:sh.den->Option R) (s:St):Option R:=match e7a sh s with
 |some v=>f v
 |none=>none
def f4o (shX shR:ShS) (e:Ex) (s:St):Option (shX.den⊕shR.den):=match e with
 |.normal=>none
 |.exit _=>atS shX (fun v=>some (.inl v)) s
 |.ret=>atS shR (fun v=>some (.inr v)) s
def f4p (shX:ShS) (e:Ex) (s:St):Option shX.den:=match e with
 |.exit _=>atS shX some s
 |_=>none
def a0C {V X:Type} (g:(V->Option X)->V->Option X):Nat->V->Option X
 |0,_=>none
 |n+1,v=>g (a0C g n) v
def d1I (live:List Nat) (own:List Cv) (ex:Nat) (past:List Nat) (pown:List Cv) (sh shX shR:ShS) (k t:sh.den->Bool) (x:sh.den->shX.den) (y:sh.den->shR.den):a4J:=
 ⟨live,own,ex,past,pown,fun s=>match e7a sh s with
  |some v=>some (k v,t v,mkS shX (x v),mkS shR (y v))
  |none=>none⟩
def d1J (live:List Nat) (own:List Cv) (ex:Nat) (past:List Nat) (pown:List Cv) (sh shX:ShS) (k:sh.den->Bool) (x:sh.den->shX.den):a4J:=
 ⟨live,own,ex,past,pown,fun s=>match e7a sh s with
  |some v=>some (k v,false,mkS shX (x v),s)
  |none=>none⟩
def isR {X Y:Type}:Option (X⊕Y)->Bool
 |some (.inr _)=>true
 |_=>false
def xOf {X Y:Type} (d:X):Option (X⊕Y)->X
 |some (.inl x)=>x
 |_=>d
def yOf {X Y:Type} (d:Y):Option (X⊕Y)->Y
 |some (.inr y)=>y
 |_=>d
theorem b5V {Γ:Env} {c:Code} {live:List Nat} {own:List Cv} {ex:Nat} {past:List Nat} {pown:List Cv} {sh shX shR:ShS} {g:(sh.den->Option (shX.den⊕shR.den))->sh.den->Option (shX.den⊕shR.den)}
 (h:∀f v,EBk Γ c (a3D live own ex past pown (atS sh f) (f4o shX shR)) (mkS sh v)=g f v) (bd:sh.den->Nat) (dx:shX.den) (dr:shR.den) :
 a3j Γ c (d1I live own ex past pown sh shX shR (fun v=>(a0C g (bd v) v).isSome) (fun v=>isR (a0C g (bd v) v)) (fun v=>xOf dx (a0C g (bd v) v)) (fun v=>yOf dr (a0C g (bd v) v))):=by
 intro s0 b s1 s2 hrun R K;generalize hL:d1I live own ex past pown sh shX shR _ _ _ _=L at hrun;have hl:L.live=live /\ L.own=own /\ L.ex=ex /\ L.past=past /\ L.pown=pown:=by subst hL;exact⟨rfl,rfl,rfl,rfl,rfl⟩
 have main:∀n v y,a0C g n v=some y->a9O Γ c L K n (mkS sh v)=(match y with|.inl x=>K (.exit ex) (mkS shX x)|.inr x=>K .ret (mkS shR x)):=by
  intro n
  induction n with
  |zero=>intro v y hy;cases hy
  | succ n ih =>
    intro v y hy;simp only[a0C]at hy;rw[<- h]at hy;simp only[a9O,hl.1,hl.2.1,hl.2.2.1,hl.2.2.2.1,hl.2.2.2.2];rcases b8n (Γ:=Γ) c (mkS sh v)with hn|⟨e,s',hr⟩
    ·dsimp only at hn;rw[hn]at hy;cases hy
    ·dsimp only at hr;rw[hr]at hy ⊢;cases e with
     | normal =>
       simp only[a3D]at hy ⊢;split at hy
       ·rename_i s'' hc;unfold atS at hy;split at hy
        ·rename_i v' hv';rw[a5S hv'];exact ih v' y hy
        ·cases hy
       ·cases hy
     | exit i =>
       simp only[a3D,e0C]at hy ⊢;split at hy
       ·rename_i hb;split at hy
        ·rename_i s'' hc;simp only[f4o,atS]at hy;split at hy
         ·rename_i v' hv';cases hy;rw[a5S hv',a0g hb]
         ·cases hy
        ·cases hy
       ·cases hy
     | ret =>
       simp only[a3D,e0C,f4o,atS]at hy ⊢;split at hy
       ·rename_i v' hv';cases hy;rw[a5S hv']
       ·cases hy
 subst hL;simp only[d1I]at hrun;split at hrun
 ·rename_i v hv;simp only[injEq,Prod.mk.injEq]at hrun;obtain⟨h1,h2,h3,h4⟩:=hrun;cases hi:a0C g (bd v) v with
  |none=>rw[hi]at h1;cases h1
  | some y =>
    have hm:=main (bd v) v y hi;rw[hi]at h2 h3 h4;refine⟨bd v,?_⟩;rw[a5S hv];refine hm.trans ?_;cases y with
    |inl x=>subst h2;subst h3;rfl
    |inr x=>subst h2;subst h4;rfl
 ·cases hrun
theorem b5W {Γ:Env} {c:Code} {live:List Nat} {own:List Cv} {ex:Nat} {past:List Nat} {pown:List Cv} {sh shX:ShS} {g:(sh.den->Option shX.den)->sh.den->Option shX.den}
 (h:∀f v,EBk Γ c (a3D live own ex past pown (atS sh f) (f4p shX)) (mkS sh v)=g f v) (bd:sh.den->Nat) (dx:shX.den) :
 a3j Γ c (d1J live own ex past pown sh shX (fun v=>(a0C g (bd v) v).isSome) (fun v=>(a0C g (bd v) v).getD dx)):=by
 intro s0 b s1 s2 hrun R K;generalize hL:d1J live own ex past pown sh shX _ _=L at hrun;have hl:L.live=live /\ L.own=own /\ L.ex=ex /\ L.past=past /\ L.pown=pown:=by subst hL;exact⟨rfl,rfl,rfl,rfl,rfl⟩
 have main:∀n v y,a0C g n v=some y->a9O Γ c L K n (mkS sh v)=K (.exit ex) (mkS shX y):=by
  intro n
  induction n with
  |zero=>intro v y hy;cases hy
  | succ n ih =>
    intro v y hy;simp only[a0C]at hy;rw[<- h]at hy;simp only[a9O,hl.1,hl.2.1,hl.2.2.1,hl.2.2.2.1,hl.2.2.2.2];rcases b8n (Γ:=Γ) c (mkS sh v)with hn|⟨e,s',hr⟩
    ·dsimp only at hn;rw[hn]at hy;cases hy
    ·dsimp only at hr;rw[hr]at hy ⊢;cases e with
     | normal =>
       simp only[a3D]at hy ⊢;split at hy
       ·rename_i s'' hc;unfold atS at hy;split at hy
        ·rename_i v' hv';rw[a5S hv'];exact ih v' y hy
        ·cases hy
       ·cases hy
     | exit i =>
       simp only[a3D,e0C]at hy ⊢;split at hy
       ·rename_i hb;split at hy
        ·rename_i s'' hc;simp only[f4p,atS]at hy;split at hy
         ·rename_i v' hv';cases hy;rw[a5S hv',a0g hb]
         ·cases hy
        ·cases hy
       ·cases hy
     |ret=>simp only[a3D,e0C,f4p]at hy;cases hy
 subst hL;simp only[d1J]at hrun;split at hrun
 ·rename_i v hv;simp only[injEq,Prod.mk.injEq]at hrun;obtain⟨h1,h2,h3,h4⟩:=hrun;cases hi:a0C g (bd v) v with
  |none=>rw[hi]at h1;cases h1
  | some y =>
    have hm:=main (bd v) v y hi;rw[hi]at h3;refine⟨bd v,?_⟩;rw[a5S hv];refine hm.trans ?_;subst h2;subst h3;rfl
 ·cases hrun
theorem a0f {Γ:Env} {c:Code} {l:List Code} (h:a1Z c=l) (ha:a6W (fun c'=>∀L,a1D Γ.loops (a0I c')=some L->a3j Γ c' L) l):a7a Γ c:=
 fun c' hc=>ha.mem c' (by rw[<- h];exact hc)
theorem b8o {Γ:Env} {c:Code} {L0:a4J} (hl:a1D Γ.loops (a0I c)=some L0) (hs:a3j Γ c L0):∀L,a1D Γ.loops (a0I c)=some L->a3j Γ c L:=by
 intro L h;rw[hl]at h;cases h;exact hs
def e1e:(c:ShC)->C->Option c.den
 |.sl t,.nil _=>some []
 |.pois,_=>some ()
 |c,x=>e6Z c x
theorem d1K {β:Bt} {K:Ks} {c:ShC} {x:C} {v:c.den} (h:e1e c x=some v) {u:Value} (hu:CR β K x u):CR β K (mkC c v) u:=by
 unfold e1e at h;split at h
 ·cases h;obtain⟨a,rfl⟩:=hu;exact⟨a,0,0,rfl,rfl,le_refl _,.inl rfl⟩
 ·trivial
 ·rw[<- b5T h];exact hu
def b5X:(l:List ShC)->List C->Option (c4n l)
 |[],[]=>some ()
 | c :: r,x::xs=>match e1e c x with
   | some v=>match b5X r xs with
     |some w=>some (v,w)
     |none=>none
   |none=>none
 |_,_=>none
theorem b1M {β:Bt} {K:Ks}:∀{l:List ShC} {xs:List C} {v:c4n l},b5X l xs=some v->∀{us:List Value},All2 (CR β K) xs us->All2 (CR β K) (mkL l v) us
 |[],[],_,_,us,hu=>hu
 | c :: r,x::xs,v,h,us,hu=>by
   simp only[b5X]at h;split at h
   ·rename_i a ha;split at h
    ·rename_i b hb;cases h;cases us with
     |nil=>exact hu.elim
     |cons u us=>exact⟨d1K ha hu.1,b1M hb hu.2⟩
    ·cases h
   ·cases h
 |[],_::_,_,h,_,_=>by simp[b5X]at h
 |_::_,[],_,h,_,_=>by simp[b5X]at h
inductive Kn where
 |val (t:Ty)
 |own (t:Ty) (k:Nat)
 |ptr (k:Nat)
 |mix (cs:List ShC)
 |fnv (f:Nat) (ks:List Nat)
@[reducible] def Kn.den:Kn->Type
 |.val t=>Den t
 |.mix cs=>c4n cs
 |_=>Unit
def g5l:(k:Kn)->k.den->W
 |.val t,x=>e0Z t x
 |.own t k,_ => .one (.ref t k)
 |.ptr k,_ => .one (.ptr k 0)
 |.mix cs,x => .agg (mkL cs x)
 |.fnv f ks,_ => .one (.fn f ks)
def b0p:List Nat->List Nat->Bool
 |[],[]=>true
 |a::r,b::s=>beq a b&&b0p r s
 |_,_=>false
theorem b3m:∀{l m:List Nat},b0p l m=true->l=m
 |[],[],_=>rfl
 | a::r,b::s,h=>by
   simp only[b0p,and_eq_true]at h;rw[a0g h.1,b3m h.2]
 |[],_::_,h=>by simp[b0p]at h
 |_::_,[],h=>by simp[b0p]at h
def f7L:(k:Kn)->W->Option k.den
 |.val t,w=>f4n t w
 | .own t k,.one (.ref t' k')=>match c4m t t'&&beq k k' with
   |true=>some ()
   |false=>none
 | .ptr k,.one (.ptr k' o)=>match beq k k'&&beq o 0 with
   |true=>some ()
   |false=>none
 |.mix cs,.agg xs=>b5X cs xs
 | .fnv f ks,.one (.fn f' ks')=>match beq f f'&&b0p ks ks' with
   |true=>some ()
   |false=>none
 |_,_=>none
theorem e1f {β:Bt} {K:Ks} {k:Kn} {u:W} {x:k.den} (h:f7L k u=some x) {v:Value} (hv:WR β K u v):WR β K (g5l k x) v:=by
 unfold f7L at h;split at h
 ·exact c4j h hv
 ·split at h
  ·rename_i hk;simp only[and_eq_true]at hk;rw[<- b1K hk.1,<- a0g hk.2]at hv;exact hv
  ·cases h
 ·split at h
  ·rename_i hk;simp only[and_eq_true]at hk;rw[<- a0g hk.1,a0g hk.2]at hv;exact hv
  ·cases h
 ·obtain⟨arr,rfl,ha⟩:=hv;exact⟨arr,rfl,b1M h ha⟩
 ·split at h
  ·rename_i hk;simp only[and_eq_true]at hk;rw[<- a0g hk.1,<- b3m hk.2]at hv;exact hv
  ·cases h
 ·cases h
@[reducible] def a5t:List Kn->Type
 |[]=>Unit
 |k::r=>k.den×a5t r
def a2Y:(l:List Kn)->a5t l->List W
 |[],_=>[]
 |k::r,x=>g5l k x.1::a2Y r x.2
def a8Q:(l:List Kn)->List W->Option (a5t l)
 |[],[]=>some ()
 | k :: r,w::ws=>match f7L k w with
   | some x=>match a8Q r ws with
     |some y=>some (x,y)
     |none=>none
   |none=>none
 |_,_=>none
theorem a5l {β:Bt} {K:Ks}:∀{l:List Kn} {us:List W} {x:a5t l},a8Q l us=some x->∀{vs:List Value},All2 (WR β K) us vs->All2 (WR β K) (a2Y l x) vs
 |[],[],_,_,vs,hv=>hv
 | k :: r,u::us,x,h,vs,hv=>by
   simp only[a8Q]at h;split at h
   ·rename_i a ha;split at h
    ·rename_i b hb;cases h;cases vs with
     |nil=>exact hv.elim
     |cons v vs=>exact⟨e1f ha hv.1,a5l hb hv.2⟩
    ·cases h
   ·cases h
 |[],_::_,_,h,_,_=>by simp[a8Q]at h
 |_::_,[],_,h,_,_=>by simp[a8Q]at h
theorem b3n:∀{l:List Kn} {us:List W} {x:a5t l},a8Q l us=some x->(a2Y l x).length=us.length
 |[],[],_,_=>rfl
 | k :: r,u::us,x,h=>by
   simp only[a8Q]at h;split at h
   ·split at h
    ·rename_i b hb;cases h;simp[a2Y,b3n hb]
    ·cases h
   ·cases h
 |[],_::_,_,h=>by simp[a8Q]at h
 |_::_,[],_,h=>by simp[a8Q]at h
inductive Bn where
 |box (t:Ty)
 |boxC (cs:List ShC)
 |arr (t:Ty)
 |gone
@[reducible] def Bn.den:Bn->Type
 |.box t=>Den t
 |.boxC cs=>c4n cs
 |.arr t=>List (Den t)
 |.gone=>Unit
def f7M:(b:Bn)->b.den->Option Blk
 |.box t,x=>some (.box (AM.enc t x))
 |.boxC cs,x=>some (.box (mkL cs x))
 |.arr t,l=>some (.arr t l)
 |.gone,_=>none
def f7N:(b:Bn)->Option Blk->Option b.den
 |.box t,some (.box cs)=>c3r t cs
 |.boxC cs,some (.box xs)=>b5X cs xs
 | .arr t,some (.arr t' l)=>match a3i t' t with
   |some ⟨h⟩=>some (h ▸ l)
   |none=>none
 |.gone,_=>some ()
 |_,_=>none
def f4q (b b':Blk):Prop:=∀β K h w,BR β K b h w->BR β K b' h w
theorem e1g {b:Bn} {o:Option Blk} {x:b.den} (h:f7N b o=some x) {b':Blk} (hb:f7M b x=some b'):∃b0,o=some b0 /\ f4q b0 b':=by
 unfold f7N at h;split at h
 ·cases hb;refine⟨_,rfl,fun β K h' w hr=>?_⟩;obtain⟨y,arr,T,e,hh,hc⟩:=hr;exact⟨y,arr,T,e,hh,DR.enc _ (b1H h hc)⟩
 ·cases hb;refine⟨_,rfl,fun β K h' w hr=>?_⟩;obtain⟨y,arr,T,e,hh,hc⟩:=hr;exact⟨y,arr,T,e,hh,b1M h hc⟩
 ·split at h
  ·rename_i e _;subst e;cases h;cases hb;exact⟨_,rfl,fun _ _ _ _ hr=>hr⟩
  ·cases h
 ·cases hb
 ·cases h
@[reducible] def c1V:List Bn->Type
 |[]=>Unit
 |k::r=>k.den×c1V r
def a3M:(l:List Bn)->c1V l->List (Option Blk)
 |[],_=>[]
 |b::r,x=>f7M b x.1::a3M r x.2
def c1W:(l:List Bn)->List (Option Blk)->Option (c1V l)
 |[],[]=>some ()
 | b :: r,o::os=>match f7N b o with
   | some x=>match c1W r os with
     |some y=>some (x,y)
     |none=>none
   |none=>none
 |_,_=>none
theorem a2Z:∀{l:List Bn} {os:List (Option Blk)} {x:c1V l},c1W l os=some x->(a3M l x).length=os.length /\ ∀p b',a2q (a3M l x) p=some b'->∃b,a2q os p=some b /\ f4q b b'
 |[],[],_,_=>⟨rfl,fun p b' e=>by simp[a3M,a2q]at e⟩
 | k :: r,o::os,x,h=>by
   simp only[c1W]at h;split at h
   ·rename_i a ha;split at h
    ·rename_i b hb;cases h;obtain⟨h1,h2⟩:=a2Z hb;refine⟨by simp[a3M,h1],fun p b' e=>?_⟩;cases p with
     | zero =>
       have e':f7M k a=some b':=by simpa[a3M,a2q]using e
       obtain⟨b0,h3,h4⟩:=e1g ha e';exact⟨b0,by simpa[a2q]using h3,h4⟩
     | succ p =>
       have:=h2 p b' (by simpa[a3M,a2q]using e);simpa[a2q]using this
    ·cases h
   ·cases h
 |[],_::_,_,h=>by simp[c1W]at h
 |_::_,[],_,h=>by simp[c1W]at h
def b3o:List (Option Blk)->Option (List Blk)
 |[]=>some []
 | some b::r=>match b3o r with
   |some l=>some (b::l)
   |none=>none
 |none::_=>none
theorem a4U:∀{os:List (Option Blk)} {ins:List Blk},b3o os=some ins->ins.length=os.length /\ a1W ins=a2q os
 |[],ins,h=>by simp only[b3o,injEq]at h;subst h;exact⟨rfl,by funext p;simp[a1W,a2q]⟩
 | some b::r,ins,h=>by
   simp only[b3o]at h;split at h
   ·rename_i l hl;cases h;obtain⟨h1,h2⟩:=a4U hl;refine⟨by simp[h1],?_⟩;funext p;cases p with
    |zero=>simp[a1W,a2q]
    | succ p =>
      have:=congrFun h2 p;simpa[a1W,a2q]using this
   ·cases h
 |none::_,_,h=>by simp[b3o]at h
theorem a6z (ins:List Blk):a2q (ins.map some)=a1W ins:=by
 funext p;simp only[a2q,a1W,List.getElem?_map];cases ins[p]?<;>rfl
theorem MR.lax {β:Bt} {K:Ks} {get get':Get} {w:World} (h:MR β K get w) (hg:∀p b',get' p=some b'->∃b,get p=some b /\ f4q b b'):MR β K get' w:=by
 refine⟨fun k b e=>?_,fun k k' b b' y y' x e e' f f' g g'=>?_,fun k b y x e f g=>?_⟩
 ·obtain⟨b0,h1,h2⟩:=hg k b e;obtain⟨y,h3,h4⟩:=h.blk k b0 h1;exact⟨y,h3,h2 _ _ _ _ h4⟩
 ·obtain⟨b0,h1,_⟩:=hg k b e;obtain⟨b1,h2,_⟩:=hg k' b' e';exact h.sep k k' b0 b1 y y' x h1 h2 f f' g g'
 ·obtain⟨b0,h1,_⟩:=hg k b e;exact h.ro k b0 y x h1 f g
theorem Own.lax {β:Bt} {get get':Get} (hg:∀p b',get' p=some b'->∃b,get p=some b /\ f4q b b') {x:Nat} (h:Own β get' x):Own β get x:=by
 obtain⟨k,b,y,e,f,g⟩:=h;obtain⟨b0,h1,_⟩:=hg k b e;exact⟨k,b0,y,h1,f,g⟩
structure Sg where
 ws:List Kn
 bs:List Bn
@[reducible] def Sg.den (s:Sg):Type:=a5t s.ws×c1V s.bs
def c1X (O:Sg):List W×List (Option Blk)->Option O.den:=fun p=>match a8Q O.ws p.1 with
 | some x=>match c1W O.bs p.2 with
   |some y=>some (x,y)
   |none=>none
 |none=>none
def e7b:(c:ShC)->c.den
 |.bool=>false
 |.int _=>(0:Int)
 |.flt _=>(0:Nat)
 |.cpx _=>((0,0):Nat×Nat)
 |.str=>ByteArray.empty
 |.sl t=>([]:List (Den t))
 |.pois=>()
 |.nil _=>()
 |.ref _ _=>()
 |.ptr _ _=>()
 |.fn _ _=>()
def c4q:(l:List ShC)->c4n l
 |[]=>()
 |c::r=>(e7b c,c4q r)
def b0q:(l:List Kn)->a5t l
 |[]=>()
 |.val t::r=>(zero t,b0q r)
 |.mix cs::r=>(c4q cs,b0q r)
 |.own _ _::r=>((),b0q r)
 |.ptr _::r=>((),b0q r)
 |.fnv _ _::r=>((),b0q r)
def b3p:(l:List Bn)->c1V l
 |[]=>()
 |.box t::r=>(zero t,b3p r)
 |.boxC cs::r=>(c4q cs,b3p r)
 |.arr t::r=>(([]:List (Den t)),b3p r)
 |.gone::r=>((),b3p r)
def a0R (O:Sg):O.den:=(b0q O.ws,b3p O.bs)
def a0y (own:Bool) (I O:Sg) (ok:I.den->Bool) (g:I.den->O.den):a6e:=⟨own,fun ws ins=>match c1X I (ws,ins.map some)with
 | some x=>match b3o (a3M I.bs x.2)with
   |some _=>some (ok x,a2Y O.ws (g x).1,a3M O.bs (g x).2)
   |none=>none
 |none=>none⟩
theorem a6A {β:Bt} {K:Ks} {l:List Kn} {rs:List W} {x:a5t l} {v:Value} (h:a8Q l rs=some x) (hv:a7b β K rs v):a7b β K (a2Y l x) v:=by
 have hl:=b3n h;unfold a7b at hv ⊢
 match rs,a2Y l x,hl,(fun vs=>a5l (β:=β) (K:=K) h (vs:=vs))with
 |[],[],_,_=>exact hv
 |[u],[u'],_,hk=>exact(hk [v] ⟨hv,trivial⟩).1
 | u::u2::us,y::y2::ys,_,hk =>
   obtain⟨arr,e,ha⟩:=hv;exact⟨arr,e,hk arr.toList ha⟩
section
variable {P:Program} {Γ:Env}
def d1L (Γ:Env) (c:Code) (I O:Sg) (x:I.den):Option O.den:=match b3o (a3M I.bs x.2)with
 |some ins=>b5A Γ c (c1X O) (a2Y I.ws x.1) ins
 |none=>none
theorem f7O (env:a1g P Γ) {f:Nat} {c:Code} (hf:a5s P f Γ c) {own:Bool} {I O:Sg} {ok:I.den->Bool} {g:I.den->O.den} (h:∀x,ok x=true->d1L Γ c I O x=some (g x)):a0d P (f,a0y own I O ok g):=by
 refine⟨?_,hf.ok⟩;intro args ins rs outs hrun β0 K0 w0 vs hk hm hfr hv;simp only[a0y,c1X]at hrun;split at hrun
 case h_2=>cases hrun
 rename_i x hx;split at hx
 case h_2=>cases hx
 rename_i x1 hx1;split at hx
 case h_2=>cases hx
 rename_i x2 hx2;cases hx;split at hrun
 case h_2=>cases hrun
 rename_i ins' hins';simp only[injEq,Prod.mk.injEq]at hrun;obtain⟨hok,rfl,rfl⟩:=hrun;obtain⟨hl1,hg1⟩:=a2Z hx2;obtain⟨hl2,hg2⟩:=a4U hins';rw[a6z]at hg1;rw[<- hg2]at hg1;have hlen:ins'.length=ins.length:=by rw[hl2,hl1];simp
 have he:=h (x1,x2) hok;simp only[d1L,hins']at he;refine(b8h env hf he hk (hm.lax hg1) (fun k hk=>hfr k (by omega)) (a5l hx1 hv)).mono ?_;rintro e w' ⟨v,β,K,rs',outs',rfl,hg,hR⟩;simp only[c1X]at hg;split at hg
 case h_2=>cases hg
 rename_i y1 hy1;split at hg
 case h_2=>cases hg
 rename_i y2 hy2;obtain⟨hl3,hg3⟩:=a2Z hy2;have hl3':(a3M O.bs (y1,y2).2).length=outs'.length:=hl3;have hgx:g (x1,x2)=(y1,y2):=by simpa using hg.symm
 rw[hgx];have hown:∀b,Own β0 (a1W ins') b->Own β0 (a1W ins) b:=fun b hb=>hb.lax hg1
 refine⟨v,β,K,rfl,⟨hR.kle,hR.kok,fun b arr e=>?_,hR.mr.lax hg3,fun k hk=>hR.fresh k (by simp only at hk hl3';omega),a6A hy1 hR.out,⟨hR.fr.os,hR.fr.tape,hR.fr.output,hR.fr.size,fun b hb hn=>hR.fr.block b hb fun hc=>hn (hc.imp (hown b) id)⟩,fun x hx=>?_,hR.ble,?_⟩⟩
 ·rcases hR.knew b arr e with h1|h1|h1
  ·exact .inl h1
  ·exact .inr (.inl (hown b h1))
  ·exact .inr (.inr h1)
 ·rcases hR.own x (hx.lax hg3)with h1|h1
  ·exact .inl (hown x h1)
  ·exact .inr h1
 ·have:=hR.le;simp only at hl3' ⊢;omega
theorem a4a (env:a1g P Γ) {f:Nat} {c:Code} (hf:a5s P f Γ c) (own:Bool) {I O:Sg} {p:I.den->Option O.den} (h:∀x,d1L Γ c I O x=p x):a0d P (f,a0y own I O (fun x=>(p x).isSome) (fun x=>(p x).getD (a0R O))):=
 f7O env hf fun x hx=>by
  rw[h x];cases hp:p x with
  |none=>rw[hp]at hx;cases hx
  |some r=>rfl
end
theorem a0E {V X:Type} {q:(V->Option X)->V->Option X} (I:V->Prop) (P:V->Option X->Prop) (μ:V->Nat)
 (step:∀v f,I v->(∀v',I v'->μ v'<μ v->P v' (f v'))->P v (q f v)):∀n v,I v->μ v<n->P v (a0C q n v)
 |0,v,_,h=>by omega
 |n+1,v,hi,h=>step v _ hi fun v' hi' hm=>a0E I P μ step n v' hi' (by omega)
def a2J {X:Type} (stop:Nat->Option X) (e:X):Nat->Nat->X
 |_,0=>e
 | k,n+1=>match stop k with
   |some x=>x
   |none=>a2J stop e (k+1) n
theorem a8h {V X:Type} {q:(V->Option X)->V->Option X} (S:Nat->V) (n:Nat) (stop:Nat->Option X) (e:X)
 (step:∀k f,k<n->q f (S k)=match stop k with|some x=>some x|none=>f (S (k+1))) (fin:∀f,q f (S n)=some e) :
 ∀m j k,k+j=n->j<m->a0C q m (S k)=some (a2J stop e k j)
 |0,_,_,_,h=>by omega
 | m+1,0,k,hk,h=>by
   have:k=n:=by omega
   subst this;exact fin _
 | m+1,j+1,k,hk,h=>by
   show q (a0C q m) (S k)=_;rw[step k _ (by omega)];simp only[a2J];cases hs:stop k with
   |some x=>rfl
   |none=>exact a8h S n stop e step fin m j (k+1) (by omega) (by omega)
theorem a5G {X:Type} {stop:Nat->Option X} {e:X}:∀{n k:Nat},(∀j,k<=j->j<k+n->stop j=none)->a2J stop e k n=e
 |0,_,_=>rfl
 | n+1,k,h=>by
   simp only[a2J,h k (le_refl _) (by omega)];exact a5G fun j h1 h2=>h j (by omega) (by omega)
theorem a1k {V X:Type} {q:(V->Option X)->V->Option X} (S:Nat->V) (n:Nat) (e:X) (step:∀k f,k<n->q f (S k)=f (S (k+1))) (fin:∀f,q f (S n)=some e) (m:Nat) (h:n<m):a0C q m (S 0)=some e:=by
 have:=a8h S n (fun _=>none) e step fin m n 0 (by omega) h;rw[a5G fun _ _ _=>rfl]at this;exact this
def a0i (g:Nat->Bool):Nat->Nat->Bool
 |_,0=>true
 |k,n+1=>g k&&a0i g (k+1) n
theorem a0t {g:Nat->Bool}:∀{n k:Nat},a0i g k n=true↔∀j,k<=j->j<k+n->g j=true
 |0,k=>by simp[a0i];omega
 | n+1,k=>by
   simp only[a0i,and_eq_true,a0t (n:=n)];constructor
   ·rintro⟨h1,h2⟩ j h3 h4;rcases Nat.eq_or_lt_of_le h3 with rfl|h5
    ·exact h1
    ·exact h2 j h5 (by omega)
   ·intro h;exact⟨h k (le_refl _) (by omega),fun j h1 h2=>h j (by omega) (by omega)⟩
theorem a6B {X:Type} {stop:Nat->Option X} {g:Nat->Bool} {e s:X}:∀{n k:Nat},(∀j,k<=j->j<k+n->stop j=bif g j then none else some s)->a2J stop e k n=bif a0i g k n then e else s
 |0,_,_=>rfl
 | n+1,k,h=>by
   simp only[a2J,a0i,h k (le_refl _) (by omega)];cases g k with
   |false=>rfl
   |true=>exact a6B fun j h1 h2=>h j (by omega) (by omega)
theorem a0H {V X:Type} {q:(V->Option X)->V->Option X} (S:Nat->V) (n:Nat) (g:Nat->Bool) (e s:X) (step:∀k f,k<n->q f (S k)=bif g k then f (S (k+1))else some s) (fin:∀f,q f (S n)=some e) (m:Nat) (h:n<m) :
 a0C q m (S 0)=some (bif a0i g 0 n then e else s):=by
 rw[a8h S n (fun k=>bif g k then none else some s) e (fun k f hk=>by rw[step k f hk];cases g k<;>rfl) fin m n 0 (by omega) h];rw[a6B fun _ _ _=>rfl]
def a0s (g:Nat->Bool):Nat->Nat->Option Nat
 |_,0=>none
 |k,n+1=>bif g k then some k else a0s g (k+1) n
theorem a1I {g:Nat->Bool}:∀{n k j:Nat},a0s g k n=some j->k<=j /\ j<k+n /\ g j=true /\ ∀i,k<=i->i<j->g i=false
 |0,k,j,h=>by cases h
 | n + 1,k,j,h=>by
   simp only[a0s]at h;cases hg:g k with
   | true =>
     rw[hg]at h;cases h;exact⟨le_refl _,by omega,hg,fun i h1 h2=>by omega⟩
   | false =>
     rw[hg]at h;obtain⟨h1,h2,h3,h4⟩:=a1I (n:=n) h;refine⟨by omega,by omega,h3,fun i h5 h6=>?_⟩;rcases Nat.eq_or_lt_of_le h5 with rfl|h7
     ·exact hg
     ·exact h4 i h7 h6
theorem a2c {g:Nat->Bool}:∀{n k:Nat},a0s g k n=none↔∀i,k<=i->i<k+n->g i=false
 |0,k=>by simp[a0s];omega
 | n + 1,k=>by
   simp only[a0s];cases hg:g k with
   | true =>
     simp only[cond_true];constructor
     ·intro h;cases h
     ·intro h;rw[h k (le_refl _) (by omega)]at hg;cases hg
   | false =>
     simp only[cond_false,a2c (n:=n)];constructor
     ·intro h i h1 h2;rcases Nat.eq_or_lt_of_le h1 with rfl|h3
      ·exact hg
      ·exact h i h3 (by omega)
     ·intro h i h1 h2;exact h i (by omega) (by omega)
theorem a4b {V X:Type} {q:(V->Option X)->V->Option X} (S:Nat->V) (n:Nat) (g:Nat->Bool) (e:X) (s:Nat->X) (step:∀k f,k<n->q f (S k)=bif g k then some (s k)else f (S (k+1))) (fin:∀f,q f (S n)=some e) (m:Nat) (h:n<m) :
 a0C q m (S 0)=some (match a0s g 0 n with|some j=>s j|none=>e):=by
 rw[a8h S n (fun k=>bif g k then some (s k)else none) e (fun k f hk=>by rw[step k f hk];cases g k<;>rfl) fin m n 0 (by omega) h];congr 1;clear h step fin;generalize 0=k
 induction n generalizing k with
 |zero=>rfl
 | succ n ih =>
   simp only[a2J,a0s];cases g k with
   |true=>rfl
   |false=>exact ih (k+1)
theorem w64 {x:Int} (h:-9223372036854775808<=x) (h':x<=9223372036854775807):IntKind.wrap IntKind.i64 x=x:=IntWalk.i64_in x (by omega)
theorem a2h (k:Nat) (h:k<9223372036854775807):IntKind.wrap IntKind.i64 ((k:Int)+1)=((k+1:Nat):Int):=by rw[w64 (by omega) (by omega)];simp
theorem a0r {n:Nat} (h:n<=1099511627776):a0j n=true:=Nat.ble_eq_true_of_le h
theorem a3q {α:Type} (l:List α) (k:Nat) (z:α) (h:k<l.length):l.getD k z=l[k]:=by
 rw[List.getD_eq_getElem?_getD,List.getElem?_eq_getElem h];rfl
def a1t {A X:Type} (next:Nat->A->A⊕X) (e:A->X):Nat->Nat->A->X
 |_,0,a=>e a
 | k,n+1,a=>match next k a with
   |.inl a'=>a1t next e (k+1) n a'
   |.inr x=>x
theorem b1N {V X A:Type} {q:(V->Option X)->V->Option X} (S:Nat->A->V) (n:Nat) (next:Nat->A->A⊕X) (e:A->X)
 (step:∀k a f,k<n->q f (S k a)=match next k a with|.inl a'=>f (S (k+1) a')|.inr x=>some x) (fin:∀a f,q f (S n a)=some (e a)) :
 ∀m j k a,k+j=n->j<m->a0C q m (S k a)=some (a1t next e k j a)
 |0,_,_,_,_,h=>by omega
 | m+1,0,k,a,hk,h=>by
   have:k=n:=by omega
   subst this;exact fin _ _
 | m+1,j+1,k,a,hk,h=>by
   show q (a0C q m) (S k a)=_;rw[step k a _ (by omega)];simp only[a1t];cases hs:next k a with
   |inl a'=>exact b1N S n next e step fin m j (k+1) a' (by omega) (by omega)
   |inr x=>rfl
theorem a8R {V X A:Type} {q:(V->Option X)->V->Option X} (S:Nat->A->V) (n:Nat) (next:Nat->A->A⊕X) (e:A->X) (I:Nat->A->Prop)
 (step:∀k a f,k<n->I k a->q f (S k a)=match next k a with|.inl a'=>f (S (k+1) a')|.inr x=>some x) (keep:∀k a a',k<n->I k a->next k a = .inl a'->I (k+1) a') (fin:∀a f,I n a->q f (S n a)=some (e a)) :
 ∀m j k a,k+j=n->j<m->I k a->a0C q m (S k a)=some (a1t next e k j a)
 |0,_,_,_,_,h,_=>by omega
 | m+1,0,k,a,hk,h,hi=>by
   have:k=n:=by omega
   subst this;exact fin _ _ hi
 | m+1,j+1,k,a,hk,h,hi=>by
   show q (a0C q m) (S k a)=_;rw[step k a _ (by omega) hi];simp only[a1t];cases hs:next k a with
   |inl a'=>exact a8R S n next e I step keep fin m j (k+1) a' (by omega) (by omega) (keep k a a' (by omega) hi hs)
   |inr x=>rfl
open Go Go.Proofs
def b5Y (m:a6e):a6e:=⟨true,fun args ins=>match a1v (roW (a1W ins)) args with
 | some args'=>match m.run args' []with
   | some (ok,rs,outs)=>match a1v (b7O fun i=>some (ins.length+i)) rs,a1v (a5J fun i=>some (ins.length+i)) outs with
     |some rs',some outs'=>some (ok,rs',ins.map (fun _=>none)++outs')
     |_,_=>none
   |none=>none
 |none=>none⟩
theorem d5v {P:Program} {f:Nat} {m:a6e} (h:a0d P (f,m)):a0d P (f,b5Y m):=by
 refine⟨?_,h.2⟩;intro args ins rs outs hrun β0 K0 w0 vs hk hm hfr hv;simp only[b5Y]at hrun;split at hrun
 case h_2=>cases hrun
 rename_i args' hargs;split at hrun
 case h_2=>cases hrun
 rename_i ok rs1 outs1 hr1;split at hrun
 case h_2=>cases hrun
 rename_i rs' outs' hrs houts;simp only[injEq,Prod.mk.injEq]at hrun;obtain⟨rfl,rfl,rfl⟩:=hrun;have hK1:=a4m (β:=β0) (get:=a1W ins) (ks:=args.flatMap a0L) hk;have hargs':All2 (WR (fun _=>none) (a4P β0 K0 (a1W ins) w0 (args.flatMap a0L))) args' vs.toList:=
  a1c hargs hv fun c c' u hmem hcc hu=>a5d hm hcc hu (fun k hk=>List.mem_flatMap.2 ⟨c,hmem,hk⟩) _
 have hM0:MR (fun _=>none) (a4P β0 K0 (a1W ins) w0 (args.flatMap a0L)) (a1W []) w0:=⟨fun k b e=>by simp[a1W]at e,fun k k' b b' _ _ _ e=>by simp[a1W]at e,fun k b _ _ e=>by simp[a1W]at e⟩;refine(h.1 args' [] rs1 outs1 hr1 (fun _=>none) _ w0 vs hK1 hM0 (fun _ _=>rfl) hargs').mono ?_;rintro e w' ⟨v,β',K',rfl,hR⟩;have hempty:∀x,¬Own (fun _=>none) (a1W []) x:=by rintro x ⟨k,b,y,e,_⟩;simp[a1W]at e
 have hlen:outs1.length=outs'.length:=(a2t houts).symm;have hσ:∀k k' y,(fun i=>some (ins.length+i)) k=some k'->β' k=some y->(fun k=>if k<ins.length then β0 k else β' (k-ins.length)) k'=some y:=by
  intro k k' y e g;cases e;dsimp only;rw[if_neg (by omega),Nat.add_sub_cancel_left];exact g
 have hget:∀k b,a2q (ins.map (fun _=>none)++outs') k=some b->ins.length<=k /\ ∃b0,a2q outs1 (k-ins.length)=some b0 /\ b2D (fun i=>some (ins.length+i)) b0=some b:=by
  intro k b e;unfold a2q at e;rw[List.getElem?_append]at e;split at e
  ·rename_i hlt;rw[List.getElem?_map]at e;cases hq:ins[k]? with
   |none=>rw[hq]at e;cases e
   |some _=>rw[hq]at e;cases e
  ·rename_i hge;rw[List.length_map]at hge e;exact⟨by omega,a3X houts (show a2q outs' (k-ins.length)=some b from e)⟩
 have hβ:∀k y,ins.length<=k->(fun k=>if k<ins.length then β0 k else β' (k-ins.length)) k=some y->β' (k-ins.length)=some y:=by
  intro k y hk e;dsimp only at e;rw[if_neg (by omega)]at e;exact e
 refine⟨v,fun k=>if k<ins.length then β0 k else β' (k-ins.length),K',rfl,⟨fun b arr e=>hR.kle b arr (a0K b arr e),hR.kok,fun b arr e=>?_,⟨fun k b e=>?_,fun k k' b b' y y' x e e' f f' g g'=>?_,fun k b y x e f g=>?_⟩,fun k hk=>?_,b1s hσ hrs hR.out,⟨hR.fr.os,hR.fr.tape,hR.fr.output,hR.fr.size,fun b hb hn=>hR.fr.block b hb fun h1=>h1.elim (hempty b) fun h2=>hn (.inr (c3I.1 h2))⟩,?_,fun k y e=>?_,?_⟩⟩
 ·rcases hR.knew b arr e with h1|h1|h1
  ·exact a4n b arr h1
  ·exact absurd h1 (hempty b)
  ·exact .inr (.inr h1)
 ·obtain⟨hle,b0,h1,h2⟩:=hget k b e;obtain⟨y,hy,hbr⟩:=hR.mr.blk _ _ h1;exact⟨y,by rw[if_neg (by omega)];exact hy,a8A hσ h2 hbr⟩
 ·obtain⟨hle,b0,h1,_⟩:=hget k b e;obtain⟨hle',b0',h1',_⟩:=hget k' b' e';have:=hR.mr.sep _ _ _ _ _ _ x h1 h1' (hβ k y hle f) (hβ k' y' hle' f') g g';omega
 ·obtain⟨hle,b0,h1,_⟩:=hget k b e;exact hR.mr.ro _ _ _ _ h1 (hβ k y hle f) g
 ·simp only[List.length_append,List.length_map]at hk
  try dsimp only
  rw[if_neg (by omega)];exact hR.fresh _ (by omega)
 ·rintro x ⟨k,b,y,e,f,g⟩;obtain⟨hle,b0,h1,_⟩:=hget k b e;exact(hR.own x ⟨_,_,_,h1,hβ k y hle f,g⟩).imp (fun h=>absurd h (hempty x)) id
 ·try dsimp only
  split
  ·exact e
  ·rename_i hge;rw[hfr k (by omega)]at e;cases e
 ·simp
def c4r {ι R:Type} (F:(ι->Option R)->Option R):Prop:=(∀f r,F f=some r->∀z,f z=some r) /\ (Nonempty ι->∀f r,(∀z,f z=some r)->F f=some r)
instance {ι R:Type}:Nonempty { F:(ι->Option R)->Option R // c4r F }:=by
 classical
 refine⟨⟨fun f=>if h:∃r,∀z,f z=some r then some h.choose else none,fun f r h=>?_,fun⟨z⟩ f r h=>?_⟩⟩
 ·dsimp only at h
  split at h
  ·rename_i hx
   cases h
   exact hx.choose_spec
  ·cases h
 ·have hx:∃r,∀z,f z=some r:=⟨r,h⟩
  dsimp only
  rw[dif_pos hx]
  exact(hx.choose_spec z).symm.trans (h z)
@[irreducible] noncomputable def f7P (ι R:Type):{ F:(ι->Option R)->Option R // c4r F }:=Classical.choice inferInstance
noncomputable def a3a {ι R:Type} (f:ι->Option R):Option R:=(f7P ι R).1 f
theorem a4V {ι R:Type} {f:ι->Option R} {r:R} (h:a3a f=some r):∀z,f z=some r:=(f7P ι R).2.1 f r h
theorem a0l {ι R:Type} [inh:Nonempty ι] {f:ι->Option R} {r:R} (h:∀z,f z=some r):a3a f=some r:=(f7P ι R).2.2 inh f r h
def Env.withSem (Γ:Env) (f:Nat) (sm:a6e):Env:={ Γ with sem:=fun g=>match beq f g with|true=>some sm|false=>Γ.sem g }
def a8S:Type:={ z:Nat // z<4294967296 }
inductive Alt where
 |no
 |call (f:Nat) (fam:Fam)
 |narrow (b:Nat)
 |isNil (e:Bool)
def a8T (si:Option TI) (di:Option TI) (v:V):Alt:=match si,di,v with
 | some _,some di,.val (.one (.flt s b))=>match s with
   | .f64=>match di.sort with
     | .float d=>match d with
       |.f32 => .narrow b
       |_ => .no
     |_ => .no
   |_ => .no
 |_,_,_ => .no
def d5w:Operand->Bool
 | .const v=>match v with
   | .slice a _ _=>match a with
     |none=>true
     |_=>false
   |_=>false
 |_=>false
def e7c:BinOp->Bool
 |.eql=>true
 |_=>false
def b3q (op:BinOp) (si:Option TI) (v:V) (y:Operand):Alt:=match e7c op&&d5w y,si,v with
 | true,some si,.val (.one (.sl _ l))=>match si.sort with
   |.slice => .isNil l.isEmpty
   |_ => .no
 |_,_,_ => .no
theorem a8U (op:BinOp) (si:Option TI) (v:V) (y:Operand):b3q op si v y = .no∨∃e,b3q op si v y = .isNil e:=by
 unfold b3q;split
 ·split
  ·exact .inr ⟨_,rfl⟩
  ·exact .inl rfl
 ·exact .inl rfl
def a9U (Γ:Env) (N:Nat->Option Fam) (o:Oper) (ρ:Operand->V):Alt:=match o.guard with
 |some _ => .no
 | none=>match o.op with
   | .call c=>match c.callee with
     | .value x=>match x with
       | .func f=>match N f with
         |some fam => .call f fam
         |none => .no
       |_ => .no
     |_ => .no
   |.convert src dst x=>a8T (Γ.tab src) (Γ.tab dst) (ρ x)
   |.binOp op t x y _=>b3q op (Γ.tab t) (ρ x) y
   |_ => .no
noncomputable def d0O {R:Type} (Γ:Env) (N:Nat->Option Fam) (ops:Array Oper):List Oper->(St->Option R)->St->Option R
 |[],K,s=>K s
 | o :: rest,K,s=>match a9U Γ N o s.val with
   |.no=>b0d Γ ops [o] s [] (fun s' _=>d0O Γ N ops rest K s')
   |.call f fam=>a3a fun z:fam.ι=>c3p (Γ.withSem f (fam.mean z)) o (fun s' _=>d0O Γ N ops rest K s') s
   | .narrow b=>match a1Q b with
     |true=>b0d Γ ops [o] s [] (fun s' _=>d0O Γ N ops rest K s')
     | false=>match a6Y Γ o.dst with
       |true=>a3a fun z:a8S=>d0O Γ N ops rest K (s.putO o.dst (.val (.one (.flt .f32 z.1))))
       |false=>none
   | .isNil e=>match a6Y Γ o.dst with
     |true=>a3a fun z:Bool=>d0O Γ N ops rest K (s.putO o.dst (.val (.one (.bool (e&&z)))))
     |false=>none
theorem c1Y (P:Program) {b b':Nat} (h:FEq .f64 b b') (hb:a1Q b=false) (w:World) :
 ∃(r:Nat) (w':World),r<4294967296 /\ (Conv.floatToFloat .f64 b' .f32).run P w = .ok (.float .f32 r) w' /\ a0p w w':=by
 unfold a1Q at hb;rw[Bool.not_eq_false']at hb;split at hb
 ·rename_i s m e hdec;have he:b=b':=by
   rcases h with h|⟨h1,_⟩
   ·exact h
   ·obtain⟨sg,f,hr⟩:=a1H h1;unfold FloatKind.decode at hdec;rw[hr]at hdec;cases hdec
  subst he;unfold Conv.floatToFloat;rw[if_neg (by decide),hdec];dsimp only;rw[if_pos hb];refine⟨_,_,?_,by simp only[Sem.run_bind,run_choose,Question.forced,Sem.run_pure];rfl,a4l w⟩;exact Nat.mod_lt _ (by decide)
 ·cases hb
section
variable {P:Program} {Γ:Env} {z:a5r} {ops:Array Oper} {N:Nat->Option Fam}
theorem c4s {β:Bt} {K:Ks} {get:Get} {n:Nat} {w:World} {ρ:Operand->V} {a:Act} {o:Oper} (h:Pre P Γ β K get n w ρ a) {b:Nat} (ha:a9U Γ N o ρ = .narrow b) (hb:a1Q b=false) :
 a0m P o a w (fun v w'=>∃z:a8S,a0Q β K get n w ⟨true,.val (.one (.flt .f32 z.1)),[],n⟩ v w'):=by
 unfold a9U at ha;split at ha
 ·cases ha
 split at ha
 ·split at ha
  ·split at ha
   ·split at ha<;>cases ha
   ·cases ha
  ·cases ha
 ·rename_i src dst x ho;unfold a8T at ha;split at ha
  case h_2=>cases ha
  rename_i si di s b1 hs hd hx;split at ha
  case h_2=>cases ha
  split at ha
  case h_2=>cases ha
  rename_i d hk;split at ha
  case h_2=>cases ha
  cases ha;obtain⟨_,d1,_,_,hd1,_⟩:=(h.env.tab src si hs).ex;obtain⟨_,d2,_,_,hd2,_,_,_,_,_,hso,_⟩:=(h.env.tab dst di hd).ex;have hv:=h.one hx;obtain⟨b',he,hf⟩:=hv;simp only[a1J,hk]at hso;subst hso;have exec:∀v w',(convert src dst (a.eval x)).run P w = .ok v w'->(execOp a.eval o).run P w = .ok (.value v) w':=fun v w' hr=>
   a1p (s:=convert src dst (a.eval x)) (by simp[execOp,ho]) hr
  rw[he]at exec;obtain⟨r,w',h1,h2,h3⟩:=c1Y P hf hb w;have hp:a0v n true (.one (.flt .f32 r))=some ⟨true,.val (.one (.flt .f32 r)),[],n⟩:=rfl;intro next Q hn;refine(h.pure1 hp (u := .float .f32 r) ⟨_,rfl,.inl rfl⟩ (exec _ w' ?_) h3) next Q fun v w2 hpost=>hn v w2 ⟨⟨r,h1⟩,hpost⟩
  simp[convert,run_underlying hd1,run_underlying hd2,h2]
 ·rcases a8U _ _ _ _ with e|⟨_,e⟩<;>rw[e]at ha<;>cases ha
 ·cases ha
theorem c4t (P:Program) (w:World) {t:TypeId} {el:TypeId} (hd:P.underlying t=some (.slice el)) (a:Option Addr) (n c:Nat) (n' c':Nat) :
 (binOp .eql t (.slice a n c) (.slice none n' c')).run P w = .ok (.bool a.isNone) w:=by
 have h:(Op.equal t (.slice a n c) (.slice none n' c')).run P w = .ok a.isNone w:=by
  unfold Op.equal Op.maxDepth Op.equalIn;cases a with
  |none=>simp[run_underlying hd]
  |some x=>simp[run_underlying hd]
 simp[binOp,h]
theorem d1M {β:Bt} {K:Ks} {get:Get} {n:Nat} {w:World} {ρ:Operand->V} {a:Act} {o:Oper} (h:Pre P Γ β K get n w ρ a) (hval:∀v,a.eval (.const v)=v) {e:Bool} (ha:a9U Γ N o ρ = .isNil e) :
 a0m P o a w (fun v w'=>∃z:Bool,a0Q β K get n w ⟨true,.val (.one (.bool (e&&z))),[],n⟩ v w'):=by
 unfold a9U at ha;split at ha
 ·cases ha
 split at ha
 ·split at ha
  ·split at ha
   ·split at ha<;>cases ha
   ·cases ha
  ·cases ha
 ·unfold a8T at ha;split at ha
  case h_2=>cases ha
  split at ha
  case h_2=>cases ha
  split at ha
  case h_2=>cases ha
  split at ha<;>cases ha
 ·rename_i op t x y t' ho;unfold b3q at ha;split at ha
  case h_2=>cases ha
  rename_i si ty l hop hs hx;split at ha
  case h_2=>cases ha
  rename_i hk;cases ha;simp only[and_eq_true]at hop;obtain⟨_,d,_,_,hd,_,_,_,_,_,hso,_⟩:=(h.env.tab t si hs).ex;simp only[a1J,hk]at hso;subst hso;have hop1:op = .eql:=by
   have:=hop.1;cases op<;>simp_all[e7c]
  subst hop1;obtain⟨m,c,rfl⟩:∃m c,y = .const (.slice none m c):=by
   have:=hop.2;unfold d5w at this;split at this
   ·split at this
    ·split at this
     ·exact⟨_,_,rfl⟩
     ·cases this
    ·cases this
   ·cases this
  obtain⟨ad,m',c',he,hm,hc,hr⟩:=h.one hx;have he:a.eval x = .slice ad m' c':=by simpa using he
  have exec:∀v w',(binOp .eql t (a.eval x) (.slice none m c)).run P w = .ok v w'->(execOp a.eval o).run P w = .ok (.value v) w':=by
   intro v w' hr;refine a1p (s:=do eqGuard .eql t x (.const (.slice none m c)) (a.eval x) (a.eval (.const (.slice none m c)));binOp .eql t (a.eval x) (a.eval (.const (.slice none m c)))) (by simp[execOp,ho]) ?_;rw[hval,Sem.run_bind,a5M .eql t x _ (by rw[he];rfl) (by rw[he];exact fun e=>by cases e),Result.andThen_ok,hr]
  rw[he]at exec;have hz:(l.isEmpty&&ad.isNone)=ad.isNone:=by
   rcases hr with h0|⟨b,o',arr,e1,_,_⟩
   ·have:l=[]:=by
     cases l with
     |nil=>rfl
     |cons _ _=>rw[h0]at hm;simp at hm
    rw[this];simp
   ·rw[e1];simp
  have hp:a0v n true (.one (.bool (l.isEmpty&&ad.isNone)))=some ⟨true,.val (.one (.bool (l.isEmpty&&ad.isNone))),[],n⟩:=rfl;intro next Q hn;refine(h.pure1 hp (u := .bool ad.isNone) (by rw[hz];rfl) (exec _ w (c4t P w hd ad m' c' m c)) (a0p.refl w)) next Q fun v w2 hpost=>hn v w2 ⟨ad.isNone,hpost⟩
 ·cases ha
theorem b3r {Γ:Env} {o:Oper} {c:Call} {f:Nat} {T:Nat->V} {G:Get} {n:Nat} (ho:o.op = .call c) (hc:c.callee = .value (.func f)) :
 act Γ o (a4K T) G n=match a5K (c.args.toList.map (a4K T))with
  |some ws=>b2G Γ o G n f (ws++([]:List Nat).map fun k => .one (.ptr k 0))
  |none=>none:=by
 unfold act;simp only[ho,hc,a4K];cases a5K (c.args.toList.map (a4K T))<;>rfl
theorem d1N {β:Bt} {K:Ks} {w:World} {F:FS} {a:Act} {o:Oper} (h:Pre P Γ β K F.G F.n w (a4K F.T) a) {f:Nat} {fam:Fam} (hfam:a2i P f fam) (ha:a9U Γ N o (a4K F.T) = .call f fam)
 {out:fam.ι->Out} (hl:∀z,act (Γ.withSem f (fam.mean z)) o (a4K F.T) F.G F.n=some (out z)) (hok:∀z,(out z).ok=true) :
 a0m P o a w (fun v w'=>∃z,a0Q β K F.G F.n w (out z) v w'):=by
 unfold a9U at ha;split at ha
 ·cases ha
 split at ha
 ·rename_i c ho;split at ha
  case h_2=>cases ha
  rename_i x hc;split at ha
  case h_2=>cases ha
  rename_i g;split at ha
  case h_2=>cases ha
  cases ha;have hsem:∀z,(Γ.withSem f (fam.mean z)).sem f=some (fam.mean z):=fun z=>by simp[Env.withSem]
  cases hw:a5K (c.args.toList.map (a4K F.T))with
  | none =>
    obtain⟨z0⟩:=fam.inh;have:=hl z0;rw[b3r ho hc,hw]at this;cases this
  | some ws =>
    have hl':∀z,(match (fam.mean z).own with|true=>a4j (fam.mean z) F.G F.n (ws++([]:List Nat).map fun k => .one (.ptr k 0))|false=>a6h (fam.mean z) (match o.dst with|some d=>b1j Γ.frz d|none=>false) F.G F.n (ws++([]:List Nat).map fun k => .one (.ptr k 0)))=some (out z):=by
     intro z;have:=hl z;rw[b3r ho hc,hw]at this;dsimp only at this;unfold b2G at this;rw[hsem z]at this;exact this
    have hf:a4K F.T (.func f) = .val (.one (.fn f [])):=rfl;cases hown:fam.own with
    |true=>exact a5O h ho hc hf hw hfam (fun z=>by have:=hl' z;rw[hfam.own z,hown]at this;exact this) hok
    |false=>exact a7g h ho hc hf hw hfam (fun z=>by have:=hl' z;rw[hfam.own z,hown]at this;exact this) hok
 ·unfold a8T at ha;split at ha
  case h_2=>cases ha
  split at ha
  case h_2=>cases ha
  split at ha
  case h_2=>cases ha
  split at ha<;>cases ha
 ·rcases a8U _ _ _ _ with e|⟨_,e⟩<;>rw[e]at ha<;>cases ha
 ·cases ha
theorem a8V {o:Oper} {ρ:Operand->V} (h:a9U Γ N o ρ ≠ .no):o.guard=none:=by
 unfold a9U at h;split at h
 ·exact absurd rfl h
 ·assumption
theorem c4u {R:Type} (env:a1g P Γ) (hN:∀f fam,N f=some fam->a2i P f fam) {Q:Exit->Act->World->Prop} {r:R} {K:St->Option R} (hQ:∀s' a w,SR P Γ z s' a w->K s'=some r->Q .normal a w) :
 ∀(L:List Oper) (i:Nat),ops.toList.drop i=L->i+L.length=ops.size->∀s,d0O Γ N ops L K s=some r->∀a w,SR P Γ z s a w->wpOps P ops Q (List.range' i L.length) a w
 |[],i,_,_,s,h,a,w,hs=>hQ s a w hs h
 | o :: rest,i,hd,hi,s,h,a,w,hs=>by
   rw[List.length_cons,List.range'_succ,wpOps_cons];simp only[List.length_cons]at hi;have ho:ops[i]?=some o:=by
    have:(ops.toList.drop i)[0]?=some o:=by rw[hd];rfl
    rw[List.getElem?_drop,Nat.add_zero,Array.getElem?_toList]at this;exact this
   have hrest:ops.toList.drop (i+1)=rest:=by rw[<- List.drop_drop,hd];rfl
   have ih:=c4u env hN hQ rest (i+1) hrest (by omega);obtain⟨hm,β,Ks,hf⟩:=hs;have det:b0d Γ ops [o] s [] (fun s' _=>d0O Γ N ops rest K s')=some r->wpOp P ops Q i (wpOps P ops Q (List.range' (i+1) rest.length)) a w:=by
    intro h;obtain⟨s',E,X,hstep,hm',h2⟩:=b3a h;have h2:d0O Γ N ops rest K s'=some r:=h2;have hw:=a7h (β:=β) (K:=Ks) (a:=a) (T:=s.fs.T) hstep fun _ _ t _ _=>hf.tmp t
    unfold wpOp;rw[ho];dsimp only;rw[hw];cases hr:X.run with
    | true =>
      rw[if_pos rfl];left;obtain⟨_,out,h1,h2',h3,h4,h5,_⟩:=hstep.exec hr;refine c3W (ρ:=a4K s.fs.T) (get:=s.fs.G) (n:=s.fs.n) ⟨env,hf.kok,hf.mr,hf.fresh,fun x=>a8H hf.tmp x⟩ h1 h2' _ _ fun v w' hp=>?_
      obtain⟨β',K',hp⟩:=hp;exact ih s' h2 _ _ ⟨hm'.trans hm,β',K',hf.next (x:=out.v) hstep.dst hp (by rw[hstep.T,h3]) (by rw[hstep.G,h4]) h5⟩
    | false =>
      rw[if_neg (by simp)];obtain⟨_,h1,h2',h3,_⟩:=hstep.skip hr;exact ih s' h2 _ _ ⟨hm'.trans hm,β,Ks,hf.skip hstep.dst (by rw[hstep.T,h1]) (by rw[hstep.G,h2'];rfl) h3⟩
   have hpre:Pre P Γ β Ks s.fs.G s.fs.n w (a4K s.fs.T) a:=⟨env,hf.kok,hf.mr,hf.fresh,fun x=>a8H hf.tmp x⟩;unfold d0O at h;rw[b8f]at h;have wanted:o.guard=none->Region.wanted o (yielded ops a.tmps)=true:=fun hg=>by simp[Region.wanted,hg]
   split at h
   ·exact det h
   ·rename_i f fam halt;have hg:=a8V (o:=o) (by rw[halt];exact fun e=>by cases e);have hfam:N f=some fam:=by
     unfold a9U at halt;rw[hg]at halt;dsimp only at halt;split at halt
     ·split at halt
      ·split at halt
       ·split at halt
        ·cases halt;assumption
        ·cases halt
       ·cases halt
      ·cases halt
     ·unfold a8T at halt;split at halt
      case h_2=>cases halt
      split at halt
      case h_2=>cases halt
      split at halt
      case h_2=>cases halt
      split at halt<;>cases halt
     ·rcases a8U _ _ _ _ with e|⟨_,e⟩<;>rw[e]at halt<;>cases halt
     ·cases halt
    have hall:=a4V h;have hspec:=fun z=>a6r (hall z)
    obtain⟨out,hout⟩:=Classical.axiomOfChoice hspec;unfold wpOp;rw[ho];dsimp only;rw[wanted hg,if_pos rfl];left;refine d1N (F:=s.fs) hpre (hN f fam hfam) halt (out:=out) (fun z=>(hout z).1) (fun z=>(hout z).2.1) _ _ fun v w' hp=>?_
    obtain⟨zz,β',K',hp⟩:=hp;obtain⟨_,_,h3,h4⟩:=hout zz;refine ih _ h4 _ _ ⟨(by rw[(a1s _ _ _).2.2];exact hm),β',K',hf.next (x:=(out zz).v) h3 hp ?_ ?_ ?_⟩
    ·rw[b2X];rfl
    ·rw[(a1s _ _ _).1,c3Z]
    ·rw[(a1s _ _ _).2.1];rfl
   ·rename_i b halt;have hg:=a8V (o:=o) (by rw[halt];exact fun e=>by cases e);split at h
    ·exact det h
    ·rename_i hnb;split at h
     ·rename_i hdst;have hall:=a4V h;unfold wpOp;rw[ho];dsimp only;rw[wanted hg,if_pos rfl];left;refine c4s hpre halt hnb _ _ fun v w' hp=>?_
      obtain⟨zz,β',K',hp⟩:=hp;refine ih _ (hall zz) _ _ ⟨(by rw[(a1s _ _ _).2.2];exact hm),β',K',hf.next (x := .val (.one (.flt .f32 zz.1))) hdst hp ?_ ?_ ?_⟩
      ·rw[b2X]
      ·rw[(a1s _ _ _).1];rfl
      ·rw[(a1s _ _ _).2.1]
     ·cases h
   ·rename_i e halt;have hg:=a8V (o:=o) (by rw[halt];exact fun e=>by cases e);split at h
    ·rename_i hdst;have hall:=a4V h;unfold wpOp;rw[ho];dsimp only;rw[wanted hg,if_pos rfl];left;refine d1M hpre (fun v=>rfl) halt _ _ fun v w' hp=>?_
     obtain⟨zz,β',K',hp⟩:=hp;refine ih _ (hall zz) _ _ ⟨(by rw[(a1s _ _ _).2.2];exact hm),β',K',hf.next (x := .val (.one (.bool (e&&zz)))) hdst hp ?_ ?_ ?_⟩
     ·rw[b2X]
     ·rw[(a1s _ _ _).1];rfl
     ·rw[(a1s _ _ _).2.1]
    ·cases h
end
def a8W (o:Oper):Bool:=(match o.guard with
 |none=>true
 |some _=>false)&&(match o.op with
 |.move _=>true
 |.assign _=>true
 |.load _ _=>true
 |.fieldAddr _ _ _=>true
 |.indexAddr _ _ _=>true
 |_=>false)
def a5T (f:Nat) (o:Oper):Bool:=match o.op with
 | .call c=>match c.callee with
   | .value x=>match x with
     |.func g=>!beq g f
     |_=>false
   |.builtin _=>true
   |_=>false
 |_=>true
def d1O (f p:Nat):Nat->List Nat->List Oper->Bool
 | i,a::as1,o::r=>(match beq i p with
   |true=>true
   |false=>a5T f o&&(Nat.blt i p||Nat.testBit a p||a8W o))&&d1O f p (i+1) as1 r
 |_,[],[]=>true
 |_,_,_=>false
def b1O (N:Nat->Option Fam) (o:Oper):Option (Nat×Fam):=match o.guard with
 |some _=>none
 | none=>match o.op with
   | .call c=>match c.callee with
     | .value x=>match x with
       | .func f=>match N f with
         |some fam=>some (f,fam)
         |none=>none
       |_=>none
     |_=>none
   |_=>none
def a6C (N:Nat->Option Fam):Nat->List Oper->Option (Nat×Nat×Fam)
 |_,[]=>none
 | i,o::r=>match b1O N o with
   |some (f,fam)=>some (i,f,fam)
   |none=>a6C N (i+1) r
noncomputable def f7Q {R:Type} (Γ:Env) (N:Nat->Option Fam) (id:Nat) (ops:Array Oper) (K:Ex->St->Option R) (s:St):Option R:=
 match a6C N 0 ops.toList with
 |none=>EBk Γ (.region id ops true) K s
 | some (p,f,fam)=>match d1O f p 0 (c3y ops.toList []) ops.toList with
   |true=>a3a fun z:fam.ι=>EBk (Γ.withSem f (fam.mean z)) (.region id ops true) K s
   |false=>none
theorem b3s {N:Nat->Option Fam} {o:Oper} {f:Nat} {fam:Fam} (h:b1O N o=some (f,fam)):o.guard=none /\ N f=some fam /\ ∃c,o.op = .call c /\ c.callee = .value (.func f):=by
 unfold b1O at h;split at h
 ·cases h
 rename_i hg;split at h
 ·rename_i c ho;split at h
  ·rename_i x hc;split at h
   ·split at h
    ·rename_i hN;cases h;exact⟨hg,hN,c,ho,hc⟩
    ·cases h
   ·cases h
  ·cases h
 ·cases h
theorem a6D {N:Nat->Option Fam}:∀{L:List Oper} {i p f:Nat} {fam:Fam},a6C N i L=some (p,f,fam)->i<=p /\ ∃o,L[p-i]?=some o /\ b1O N o=some (f,fam)
 |[],_,_,_,_,h=>by simp[a6C]at h
 | o::r,i,p,f,fam,h=>by
   simp only[a6C]at h;split at h
   ·rename_i hc;cases h;exact⟨le_refl _,o,by simp,hc⟩
   ·obtain⟨h1,o',h2,h3⟩:=a6D h;refine⟨by omega,o',?_,h3⟩;rw[show p-i=(p-(i+1))+1 by omega];exact h2
theorem a7j {f p:Nat}:∀{L:List Oper} {as1:List Nat} {i:Nat},d1O f p i as1 L=true->∀j o a,L[j]?=some o->as1[j]?=some a->i+j≠p->a5T f o=true /\ (i+j<p∨a.testBit p=true∨a8W o=true)
 |[],_,_,_,j,o,a,ho,_,_=>by simp at ho
 |o0::r,[],_,h,_,_,_,_,ha,_=>by simp at ha
 | o0::r,a0::as1,i,h,j,o,a,ho,ha,hj=>by
   simp only[d1O,and_eq_true]at h;cases j with
   | zero =>
     simp only[List.getElem?_cons_zero,injEq]at ho ha;subst ho ha;have h1:=h.1;rw[a1A (by omega)]at h1;simp only[and_eq_true,Bool.or_eq_true,Nat.blt_eq]at h1;refine⟨h1.1,?_⟩;rcases h1.2 with(h2|h2)|h2
     ·exact .inl (by omega)
     ·exact .inr (.inl h2)
     ·exact .inr (.inr h2)
   | succ j =>
     have:=a7j h.2 j o a (by simpa using ho) (by simpa using ha) (by omega);rw[show i+(j+1)=i+1+j by omega];exact this
theorem a5U {Γ:Env} {f:Nat} {sm:a6e} {o:Oper} (hf:a5T f o=true) (T:Nat->V) (G:Get) (n:Nat):act (Γ.withSem f sm) o (a4K T) G n=act Γ o (a4K T) G n:=by
 obtain⟨dst,op,type,pos,after,guard⟩:=o;cases op with
 | call c =>
   obtain⟨callee,args,ats⟩:=c;cases callee with
   | value x =>
     cases x with
     | func g =>
       have hne:beq f g=false:=by
        simp only[a5T,Bool.not_eq_true']at hf;refine a1A fun e=>?_
        subst e;rw[show beq f f=true from Nat.beq_refl f]at hf;cases hf
       simp only[act,a4K];split
       ·rename_i g' caps ws hg hw;simp only[V.val.injEq,W.one.injEq,C.fn.injEq]at hg;obtain⟨rfl,rfl⟩:=hg;unfold b2G;simp only[Env.withSem,hne]
       ·rfl
     |_=>simp[a5T]at hf
   |builtin b=>rfl
   |_=>simp[a5T]at hf
 |_=>rfl
theorem b5Z {o:Oper} (hc:a8W o=true) {ρ ρ':Operand->V} {G G':Get} (h:∀x∈o.op.operands,ρ x=ρ' x):a8d o ρ G=a8d o ρ' G':=by
 obtain⟨dst,op,type,pos,after,guard⟩:=o;cases op<;>simp[a8W]at hc<;>simp only[Op.operands]at h<;>simp only[a8d]
 ·rw[h _ (by simp)]
 ·rw[h _ (by simp)]
theorem c1Z (G:Get) (n:Nat) (ag:Bool) (size:Nat) (v:V):a0Y G n ag size v=(a0Y G 0 ag size v).map fun x=>{ x with n:=n }:=by
 unfold a0Y
 repeat' (first|rfl|split)
theorem d1P {G:Get} {ag:Bool} {size:Nat} {v:V} {out:Out} (h:a0Y G 0 ag size v=some out):out.upd=[]:=by
 unfold a0Y at h
 repeat' (first|(cases h;done)|(simp only[a0v,injEq]at h;subst h;rfl)|split at h)
theorem c4v (n size m:Nat) (x i:V):a2G n size m x i=(a2G 0 size m x i).map fun x=>{ x with n:=n }:=by
 unfold a2G
 repeat' (first|rfl|split)
theorem e1h {size m:Nat} {x i:V} {out:Out} (h:a2G 0 size m x i=some out):out.upd=[]:=by
 unfold a2G at h
 repeat' (first|(cases h;done)|(simp only[a0v,injEq]at h;subst h;rfl)|split at h)
theorem b3t {Γ:Env} {o:Oper} (hc:a8W o=true) (ρ:Operand->V) (G:Get) (n:Nat):act Γ o ρ G n=(act Γ o ρ G 0).map fun x=>{ x with n:=n }:=by
 obtain⟨dst,op,type,pos,after,guard⟩:=o;cases op<;>simp[a8W]at hc<;>simp only[act]
 ·rfl
 ·rfl
 ·split
  ·exact c1Z _ _ _ _ _
  ·rfl
 ·repeat' (first|rfl|split)
 ·split
  ·split
   ·split
    ·repeat' (first|rfl|split)
    ·rfl
   ·split
    ·exact c4v _ _ _ _ _
    ·rfl
   ·rfl
  ·rfl
theorem e1i {Γ:Env} {o:Oper} (hc:a8W o=true) {ρ:Operand->V} {G:Get} {out:Out} (h:act Γ o ρ G 0=some out):out.upd=[]:=by
 obtain⟨dst,op,type,pos,after,guard⟩:=o;cases op<;>simp[a8W]at hc<;>simp only[act]at h
 ·cases h;rfl
 ·cases h;rfl
 ·split at h
  ·exact d1P h
  ·cases h
 ·repeat' (first|(cases h;done)|(simp only[a0v,injEq]at h;subst h;rfl)|split at h)
 ·split at h
  ·split at h
   ·split at h
    ·repeat' (first|(cases h;done)|(simp only[a0v,injEq]at h;subst h;rfl)|split at h)
    ·cases h
   ·split at h
    ·exact e1h h
    ·cases h
   ·cases h
  ·cases h
theorem d1Q {Γ:Env} {o:Oper} (hc:a8W o=true) {ρ:Operand->V} {G:Get} {n:Nat} {out:Out} (h:act Γ o ρ G n=some out):out.upd=[] /\ out.n=n /\ ∀n',act Γ o ρ G n'=some { out with n:=n' }:=by
 rw[b3t hc]at h;cases h0:act Γ o ρ G 0 with
 |none=>rw[h0]at h;cases h
 | some x =>
   rw[h0]at h;cases h;exact⟨show x.upd=[]from e1i hc h0,rfl,fun n'=>by rw[b3t hc,h0];rfl⟩
section
variable {P:Program} {Γ:Env} {z:a5r} {ops:Array Oper} {Q:Exit->Act->World->Prop}
theorem d1R (b:Bool):a2r b≠a2r (!b):=by cases b<;>intro h<;>cases h
theorem c4w (b:Bool):a2r b ≠ .tup []:=by intro h;cases h
theorem c4x {Γ1 Γ2:Env} {o:Oper} {F F' F1 F2:FS} {E E':Ent} {X X':Res} (h1:a3Y Γ1 ops o F E X F1) (h2:a3Y Γ2 ops o F' E' X' F2) (hT:∀g want t,o.guard=some (g,want)->a9J ops g=some t->F.T t=F'.T t):X.run=X'.run:=by
 have key:∀{Γ1 Γ2:Env} {F F' F1 F2:FS} {E E':Ent} {X X':Res},a3Y Γ1 ops o F E X F1->a3Y Γ2 ops o F' E' X' F2->(∀g want t,o.guard=some (g,want)->a9J ops g=some t->F.T t=F'.T t)->X.run=false->X'.run=true->False:=by
  intro Γ1 Γ2 F F' F1 F2 E E' X X' h1 h2 hT e1 e2;obtain⟨⟨g,want,t,a1,a2,a3⟩,_⟩:=h1.skip e1;obtain⟨h,_⟩:=h2.exec e2;rcases h with h|⟨g',want',t',b1,b2,b3⟩
  ·rw[h]at a1;cases a1
  ·have:=hT g want t a1 a2;rw[a1]at b1;cases b1;rw[a2]at b2;cases b2;rw[this,b3]at a3;rcases a3 with a3|a3
   ·exact d1R _ a3
   ·exact c4w _ a3
 cases e1:X.run<;>cases e2:X'.run
 ·rfl
 ·exact(key h1 h2 hT e1 e2).elim
 ·exact(key h2 h1 (fun g w t a b=>(hT g w t a b).symm) e2 e1).elim
 ·rfl
theorem a3Y.det {Γ1 Γ2:Env} {o:Oper} {F F1 F2:FS} {E E':Ent} {X X':Res} (h1:a3Y Γ1 ops o F E X F1) (h2:a3Y Γ2 ops o F E' X' F2) (heq:∀T G n,act Γ1 o (a4K T) G n=act Γ2 o (a4K T) G n):X=X' /\ F1=F2:=by
 have hrun:=c4x h1 h2 fun _ _ _ _ _=>rfl
 have hX:X=X' /\ F1.n=F2.n:=by
  cases e1:X.run with
  | true =>
    obtain⟨_,out,p1,_,p3,p4,p5,_⟩:=h1.exec e1;obtain⟨_,out',q1,_,q3,q4,q5,_⟩:=h2.exec (hrun ▸ e1);rw[heq,q1]at p1;cases p1;refine⟨?_,by rw[p5,q5]⟩;obtain⟨v,u,r⟩:=X;obtain⟨v',u',r'⟩:=X';dsimp only at p3 p4 q3 q4 hrun;rw[p3,p4,q3,q4,hrun]
  | false =>
    obtain⟨_,p1,p2,p3,_⟩:=h1.skip e1;obtain⟨_,q1,q2,q3,_⟩:=h2.skip (hrun ▸ e1);refine⟨?_,by rw[p3,q3]⟩;obtain⟨v,u,r⟩:=X;obtain⟨v',u',r'⟩:=X';dsimp only at p1 p2 q1 q2 hrun;rw[p1,p2,q1,q2,hrun]
 refine⟨hX.1,?_⟩;have hT:F1.T=F2.T:=by rw[h1.T,h2.T,hX.1]
 have hG:F1.G=F2.G:=by rw[h1.G,h2.G,hX.1]
 obtain⟨a,b,c⟩:=F1;obtain⟨a',b',c'⟩:=F2;have hn:=hX.2;dsimp only at hT hG hn;rw[hT,hG,hn]
theorem e1j {T0:Nat->V} {dst:Nat->Option Nat} {vs vs':Nat->V} {D:Nat->Bool} {t:Nat}:∀(N:Nat),(∀j,j<N->D j=true->vs j=vs' j)->TD T0 dst vs D N t=TD T0 dst vs' D N t
 |0,_=>rfl
 | N+1,h=>by
   simp only[TD];rw[e1j N fun j hj=>h j (by omega)];by_cases e:D N=true /\ dst N=some t
   ·rw[if_pos e,if_pos e,h N (by omega) e.1]
   ·rw[if_neg e,if_neg e]
theorem c4y {G0:Get} {upd upd':Nat->List (Nat×Option Blk)} {D:Nat->Bool}:∀(N:Nat),(∀j,j<N->D j=true->upd j=upd' j)->GD G0 upd D N=GD G0 upd' D N
 |0,_=>rfl
 | N+1,h=>by
   simp only[GD];rw[c4y N fun j hj=>h j (by omega)];by_cases e:D N=true
   ·rw[if_pos e,if_pos e,h N (by omega) e]
   ·rw[if_neg e,if_neg e]
theorem DS.sem {f:Nat} {sm:a6e} {F:Nat->FS} {X:Nat->Res} {D:Nat->Bool} {β:Bt} {K:Ks} {a:Act} {w:World} (h:DS P Γ z ops F X D β K a w):DS P (Γ.withSem f sm) z ops F X D β K a w:=
 ⟨h.tmp,h.nt,h.defers,h.kok,h.mr,h.dom,h.kle,h.knew,h.fr,h.own,h.ble,h.le⟩
theorem DS.unsem {f:Nat} {sm:a6e} {F:Nat->FS} {X:Nat->Res} {D:Nat->Bool} {β:Bt} {K:Ks} {a:Act} {w:World} (h:DS P (Γ.withSem f sm) z ops F X D β K a w):DS P Γ z ops F X D β K a w:=
 ⟨h.tmp,h.nt,h.defers,h.kok,h.mr,h.dom,h.kle,h.knew,h.fr,h.own,h.ble,h.le⟩
theorem SRf.unsem {f:Nat} {sm:a6e} {F:FS} {β:Bt} {K:Ks} {a:Act} {w:World} (h:SRf P (Γ.withSem f sm) z β K F a w):SRf P Γ z β K F a w:=
 ⟨h.tmp,h.nt,h.defers,h.kok,h.mr,h.fresh,h.kle,h.knew,h.fr,h.own,h.ble,h.le⟩
structure b3u (Γ:Env) (ops:Array Oper) (f:Nat) (fam:Fam) (p:Nat) (F:fam.ι->Nat->FS) (E:fam.ι->Nat->Ent) (X:fam.ι->Nat->Res):Prop where
 rgn:∀y,Rgn (Γ.withSem f (fam.mean y)) ops (F y) (E y) (X y)
 start:∀y y',F y 0=F y' 0
 other:∀i o,i≠p->ops[i]?=some o->a5T f o=true
 late:∀i o,p<i->ops[i]?=some o->∀D,a2I ops D->D i=true->D p=false->a8W o=true
variable {f:Nat} {fam:Fam} {p:Nat} {F:fam.ι->Nat->FS} {E:fam.ι->Nat->Ent} {X:fam.ι->Nat->Res}
theorem b3u.act (R:b3u Γ ops f fam p F E X) {i:Nat} {o:Oper} (hi:i≠p) (ho:ops[i]?=some o) (y y':fam.ι) (T:Nat->V) (G:Get) (n:Nat):AM.act (Γ.withSem f (fam.mean y)) o (a4K T) G n=AM.act (Γ.withSem f (fam.mean y')) o (a4K T) G n:=by
 rw[a5U (R.other i o hi ho),a5U (R.other i o hi ho)]
theorem b3u.pre (R:b3u Γ ops f fam p F E X) (hp:p<ops.size) (y y':fam.ι):∀i,i<=p->F y i=F y' i /\ ∀j,j<i->X y j=X y' j
 |0,_=>⟨R.start y y',fun j h=>by omega⟩
 | i+1,h=>by
   obtain⟨h1,h2⟩:=R.pre hp y y' i (by omega);have ho:ops[i]?=some ops[i]:=Array.getElem?_eq_getElem (by omega);have s1:=(R.rgn y).step i _ ho;have s2:=(R.rgn y').step i _ ho;rw[<- h1]at s2;obtain⟨e1,e2⟩:=s1.det s2 (R.act (by omega) ho y y');refine⟨e2,fun j hj=>?_⟩;by_cases e:j=i
   ·subst e;exact e1
   ·exact h2 j (by omega)
theorem b3u.same (R:b3u Γ ops f fam p F E X) (hp:p<ops.size) (y y':fam.ι) {D:Nat->Bool} (hc:a2I ops D) (hD:D p=false):∀i,i<ops.size->D i=true->X y i=X y' i /\ (p<i->(F y (i+1)).n=(F y i).n):=by
 intro i
 induction i using Nat.strongRecOn with
 | _ i ih =>
   intro hi hDi;have hne:i≠p:=fun e=>by subst e;rw[hD]at hDi;cases hDi
   rcases Nat.lt_or_ge i p with hlt|hge
   ·exact⟨(R.pre hp y y' p (le_refl _)).2 i hlt,fun h=>by omega⟩
   have hpi:p<i:=by omega
   have ho:ops[i]?=some ops[i]:=Array.getElem?_eq_getElem hi;have hcalm:=R.late i _ hpi ho D hc hDi hD;have hg:ops[i].guard=none:=by
    unfold a8W at hcalm;simp only[and_eq_true]at hcalm;have:=hcalm.1;split at this
    ·assumption
    ·cases this
   obtain⟨D',hD'⟩:∃D':Nat->Bool,D'=fun k=>D k&&Nat.blt k i:=⟨_,rfl⟩
   have hD'i:D' i=false:=by
    rw[hD'];dsimp only;rw[show Nat.blt i i=false by
     cases hq:Nat.blt i i with
     |false=>rfl
     |true=>rw[Nat.blt_eq]at hq;omega,Bool.and_false]
   have hsub:∀k,D' k=true->D k=true /\ k<i:=fun k hk=>by
    rw[hD']at hk;simp only[and_eq_true,Nat.blt_eq]at hk;exact hk
   have hin:∀k,D k=true->k<i->D' k=true:=fun k h1 h2=>by
    rw[hD'];simp only[and_eq_true,Nat.blt_eq];exact⟨h1,h2⟩
   have hc':a2I ops D':=by
    intro k o hk hDk e he hb;obtain⟨h1,h2⟩:=hsub k hDk;have h3:=hc k o hk h1 e he hb;have h4:=(R.rgn y).edge k o hk e he hb;exact hin _ h3 (by omega)
   have hb':a7Y D' ops[i]:=fun e he hb=>hin _ (hc i _ ho hDi e he hb) ((R.rgn y).edge i _ ho e he hb)
   have hX:∀j,j<ops.size->D' j=true->X y j=X y' j:=fun j hj hDj=>(ih j (hsub j hDj).2 hj (hsub j hDj).1).1
   have hTX:∀t,TX ops (F y) (X y) D' t=TX ops (F y') (X y') D' t:=fun t=>by
    show TD (F y 0).T (a9J ops) (fun i=>(X y i).v) D' ops.size t=TD (F y' 0).T (a9J ops) (fun i=>(X y' i).v) D' ops.size t;rw[R.start y y'];exact e1j _ fun j hj hDj=>by rw[hX j hj hDj]
   have hGX:GX ops (F y) (X y) D'=GX ops (F y') (X y') D':=by
    show GD (F y 0).G (fun i=>(X y i).upd) D' ops.size=GD (F y' 0).G (fun i=>(X y' i).upd) D' ops.size;rw[R.start y y'];exact c4y _ fun j hj hDj=>by rw[hX j hj hDj]
   have hT:∀t,t∈looks ops ops[i]->(F y i).T t=(F y' i).T t:=fun t ht=>by
    rw[<- (R.rgn y).lookT hc' ho hb' hD'i ht,<- (R.rgn y').lookT hc' ho hb' hD'i ht,hTX]
   have hρ:∀x∈ops[i].op.operands,a4K (F y i).T x=a4K (F y' i).T x:=fun x hx=>by
    cases x with
    |tmp t=>exact hT t (List.mem_append_left _ (List.mem_filterMap.2 ⟨.tmp t,by simpa using hx,rfl⟩))
    |_=>rfl
   have s1:=(R.rgn y).step i _ ho;have s2:=(R.rgn y').step i _ ho;have hrun:∀{Γ':Env} {F1 F2:FS} {E':Ent} {X':Res},a3Y Γ' ops ops[i] F1 E' X' F2->X'.run=true:=by
    intro Γ' F1 F2 E' X' s;cases e:X'.run with
    |true=>rfl
    | false =>
      obtain⟨⟨g,want,t,a1,_⟩,_⟩:=s.skip e;rw[hg]at a1;cases a1
   obtain⟨_,out,p1,_,p3,p4,p5,p6⟩:=s1.exec (hrun s1);obtain⟨_,out',q1,_,q3,q4,q5,q6⟩:=s2.exec (hrun s2);have hfp:=b5Z hcalm (G:=(F y i).G) (G':=(F y' i).G) hρ;have hGk:∀k∈a8d ops[i] (a4K (F y' i).T) (F y i).G,(F y i).G k=(F y' i).G k:=fun k hk=>by
    have hk1:k∈(E y i).fp:=by rw[p6];dsimp only;rw[hfp,b5Z hcalm (G':=(F y i).G) (fun _ _=>rfl)];exact hk
    have hk2:k∈(E y' i).fp:=by rw[q6];dsimp only;rw[b5Z hcalm (G':=(F y i).G) (fun _ _=>rfl)];exact hk
    rw[<- (R.rgn y).lookG hc' ho hb' hD'i hk1,<- (R.rgn y').lookG hc' ho hb' hD'i hk2,hGX]
   rw[R.act hne ho y y',b5N hρ,b5O hGk]at p1;obtain⟨u1,u2,u3⟩:=d1Q hcalm p1;rw[u3 (F y' i).n]at q1;have hout:out'={ out with n:=(F y' i).n }:=(Option.some.inj q1).symm;refine⟨?_,fun _=>by rw[p5,u2]⟩;have hr1:=hrun s1;have hr2:=hrun s2;generalize X y i=A at *;generalize X y' i=B at *;obtain⟨v,u,r⟩:=A;obtain⟨v',u',r'⟩:=B;dsimp only at p3 p4 q3 q4 hr1 hr2;rw[p3,p4,q3,q4,hr1,hr2,hout]
theorem b3u.TX (R:b3u Γ ops f fam p F E X) (hp:p<ops.size) (y y':fam.ι) {D:Nat->Bool} (hc:a2I ops D) (hD:D p=false) (t:Nat):AM.TX ops (F y) (X y) D t=AM.TX ops (F y') (X y') D t:=by
 show TD (F y 0).T (a9J ops) (fun i=>(X y i).v) D ops.size t=TD (F y' 0).T (a9J ops) (fun i=>(X y' i).v) D ops.size t;rw[R.start y y'];exact e1j _ fun j hj hDj=>by rw[(R.same hp y y' hc hD j hj hDj).1]
theorem b3u.GX (R:b3u Γ ops f fam p F E X) (hp:p<ops.size) (y y':fam.ι) {D:Nat->Bool} (hc:a2I ops D) (hD:D p=false):AM.GX ops (F y) (X y) D=AM.GX ops (F y') (X y') D:=by
 show GD (F y 0).G (fun i=>(X y i).upd) D ops.size=GD (F y' 0).G (fun i=>(X y' i).upd) D ops.size;rw[R.start y y'];exact c4y _ fun j hj hDj=>by rw[(R.same hp y y' hc hD j hj hDj).1]
theorem b3u.switch (R:b3u Γ ops f fam p F E X) (hp:p<ops.size) (y y':fam.ι) {D:Nat->Bool} (hc:a2I ops D) (hD:D p=false) {β:Bt} {K:Ks} {a:Act} {w:World}
 (h:DS P Γ z ops (F y) (X y) D β K a w):DS P Γ z ops (F y') (X y') D β K a w:=by
 have hT:=R.TX hp y y' hc hD;have hG:=R.GX hp y y' hc hD;refine⟨fun t=>by rw[<- hT t];exact h.tmp t,h.nt,h.defers,h.kok,by rw[<- hG];exact h.mr,?_,h.kle,h.knew,h.fr,by rw[<- hG];exact h.own,h.ble,by rw[<- R.start y y'];exact h.le⟩;intro k hk;rcases h.dom k hk with h1|⟨i,h1,h2,h3,h4⟩
 ·exact .inl (by rw[<- R.start y y'];exact h1)
 ·have hne:i≠p:=fun e=>by subst e;rw[hD]at h2;cases h2
  rcases Nat.lt_or_ge i p with hlt|hge
  ·refine .inr ⟨i,h1,h2,?_⟩;rw[<- (R.pre hp y y' i (by omega)).1,<- (R.pre hp y y' (i+1) (by omega)).1];exact⟨h3,h4⟩
  ·have:=(R.same hp y y' hc hD i h1 h2).2 (by omega);omega
theorem d1S {β:Bt} {K:Ks} {get:Get} {n:Nat} {w:World} {ρ:Operand->V} {a:Act} {o:Oper} (h:Pre P Γ β K get n w ρ a) (hfam:a2i P f fam) {c:Call} (ho:o.op = .call c) (hc:c.callee = .value (.func f))
 (hf:ρ (.func f) = .val (.one (.fn f []))) {out:fam.ι->Out} (hl:∀y,AM.act (Γ.withSem f (fam.mean y)) o ρ get n=some (out y)) (hok:∀y,(out y).ok=true) :
 a0m P o a w (fun v w'=>∃y,a0Q β K get n w (out y) v w'):=by
 have hsem:∀y,(Γ.withSem f (fam.mean y)).sem f=some (fam.mean y):=fun y=>by simp[Env.withSem]
 have hact:∀y,AM.act (Γ.withSem f (fam.mean y)) o ρ get n=match a5K (c.args.toList.map ρ)with
  |some ws=>b2G (Γ.withSem f (fam.mean y)) o get n f (ws++([]:List Nat).map fun k => .one (.ptr k 0))
  |none=>none:=by
  intro y;unfold AM.act;simp only[ho,hc,hf];cases a5K (c.args.toList.map ρ)<;>rfl
 cases hw:a5K (c.args.toList.map ρ)with
 | none =>
   obtain⟨y0⟩:=fam.inh;have:=hl y0;rw[hact,hw]at this;cases this
 | some ws =>
   have hl':∀y,(match (fam.mean y).own with|true=>a4j (fam.mean y) get n (ws++([]:List Nat).map fun k => .one (.ptr k 0))|false=>a6h (fam.mean y) (match o.dst with|some d=>b1j Γ.frz d|none=>false) get n (ws++([]:List Nat).map fun k => .one (.ptr k 0)))=some (out y):=by
    intro y;have:=hl y;rw[hact,hw]at this;dsimp only at this;unfold b2G at this;rw[hsem y]at this;exact this
   cases hown:fam.own with
   |true=>exact a5O h ho hc hf hw hfam (fun y=>by have:=hl' y;rw[hfam.own y,hown]at this;exact this) hok
   |false=>exact a7g h ho hc hf hw hfam (fun y=>by have:=hl' y;rw[hfam.own y,hown]at this;exact this) hok
theorem b3u.step (R:b3u Γ ops f fam p F E X) (env:a1g P Γ) (hfam:a2i P f fam) {o:Oper} (hp:ops[p]?=some o) (hg:o.guard=none) {c:Call} (hop:o.op = .call c) (hcal:c.callee = .value (.func f))
 {y:fam.ι} {D:Nat->Bool} {β:Bt} {K:Ks} {a:Act} {w:World} (h:DS P Γ z ops (F y) (X y) D β K a w) (hc:a2I ops D) (hb:a7Y D o) (hD:D p=false)
 {next:Act->World->Prop} (hn:∀y' β K a w,DS P Γ z ops (F y') (X y') (a9S D p) β K a w->next a w):wpOp P ops Q p next a w:=by
 have hlt:p<ops.size:=(Array.getElem?_eq_some_iff.1 hp).1;have hsw:∀y',DS P Γ z ops (F y') (X y') D β K a w:=fun y'=>R.switch hlt y y' hc hD h
 have hF:∀y',F y' p=F y p:=fun y'=>(R.pre hlt y' y p (le_refl _)).1
 have hrun:∀y',(X y' p).run=true:=by
  intro y';cases e:(X y' p).run with
  |true=>rfl
  | false =>
    obtain⟨⟨g,want,t,a1,_⟩,_⟩:=((R.rgn y').step p o hp).skip e;rw[hg]at a1;cases a1
 have hex:=fun y'=>(((R.rgn y').step p o hp).exec (hrun y')).2
 obtain⟨out,hout⟩:=Classical.axiomOfChoice hex;unfold wpOp;rw[hp];dsimp only;rw[show Region.wanted o (yielded ops a.tmps)=true by simp[Region.wanted,hg],if_pos rfl];left;have hlook:∀t,t∈looks ops o->VR β K ((F y p).T t) (a.tmps.getD t undef):=fun t ht=>by rw[<- (R.rgn y).lookT hc hp hb hD ht];exact h.tmp t
 refine c3Y (ι:=fam.ι) fam.inh (β:=β) (K:=K) (ρ:=a4K (F y p).T) (G:=(F y p).G) (Gc:=AM.GX ops (F y) (X y) D) (n:=(F y p).n) (out:=out) env ?_ ?_ ?_ h.kok h.mr ?_ ?_ _ _ fun v w' hpost=>?_
 ·intro ρr Gr e1 e2 hpre;refine d1S hpre hfam hop hcal ?_ (fun y'=>?_) fun y'=>(hout y').2.1
  ·rw[<- e1 (.func f) (by rw[hop];simp[Op.operands,Call.operands,hcal])];rfl
  ·have:=(hout y').1;rw[hF y']at this;rw[<- this,<- b5N e1];exact(b5O fun k hk=>e2 k hk).symm
 ·intro y';have h1:=(R.rgn y').kb p hlt;rw[(hout y').2.2.2.2.2,hF y']at h1;exact h1
 ·intro k hk;refine(R.rgn y).lookG hc hp hb hD ?_;rw[(hout y).2.2.2.2.2];exact hk
 ·intro y' k h1 h2;refine(hsw y').sem.free (R.rgn y') hlt hD k (by rw[hF y'];exact h1) ?_;rw[(hout y').2.2.2.2.1];exact h2
 ·intro x hx;cases x with
  | tmp t =>
    refine hlook t ?_;unfold looks c3z;exact List.mem_append_left _ (List.mem_filterMap.2 ⟨.tmp t,by simpa using hx,rfl⟩)
  |const v=>exact a8G v
  |global g=>exact a5P
  |func f=>exact⟨[],rfl,trivial⟩
 ·obtain⟨y',β',K',hp'⟩:=hpost;have h':=hsw y';have hG':=R.GX hlt y y' hc hD;obtain⟨_,_,h3,h4,h5,_⟩:=hout y';have hs:=(R.rgn y').step p o hp;have hT':∀t,VR β K (AM.TX ops (F y') (X y') D t) (a.tmps.getD t undef):=h'.tmp;obtain⟨g1,g2,g3⟩:=a8F (Γ:=Γ) (d:=o.dst) (x:=(out y').v) (v:=v) hT' hp'.ble hp'.kle h'.nt hs.dst hp'.vr;refine hn y' β' K' _ _ ⟨?_,g2,g3.trans h'.defers,hp'.kok,?_,?_,h'.kle.trans hp'.kle,?_,?_,?_,fun k y hk e=>hp'.ble _ _ (h'.ble k y hk e),h'.le⟩
  ·rw[(R.rgn y').addT hc hp hD,h3];exact g1
  ·rw[(R.rgn y').addG hc hp hD,h4,<- hG'];exact hp'.mr
  ·intro k hk;rcases hp'.dom k hk with h7|⟨h7,h8⟩
   ·rcases h'.dom k h7 with h9|⟨j,h9,h10,h11⟩
    ·exact .inl h9
    ·exact .inr ⟨j,h9,by simp[a9S,h10],h11⟩
   ·exact .inr ⟨p,hlt,a2b,by rw[hF y'];exact h7,by rw[h5];exact h8⟩
  ·intro b arr e;rcases hp'.knew b arr e with h7|h7|h7
   ·exact h.knew b arr h7
   ·exact .inr (h.own b h7)
   ·exact .inr (.inr (Nat.le_trans h.fr.size h7))
  ·exact h.fr.trans hp'.fr (f7G h.own h.knew)
  ·intro x hx;rw[(R.rgn y').addG hc hp hD,h4,<- hG']at hx;rcases hp'.own x hx with h7|h7
   ·exact h.own x h7
   ·exact .inr (Nat.le_trans h.fr.size h7)
theorem b3u.any (R:b3u Γ ops f fam p F E X) (env:a1g P Γ) (hfam:a2i P f fam) {op:Oper} (hp:ops[p]?=some op) (hg:op.guard=none) {c:Call} (hop:op.op = .call c) (hcal:c.callee = .value (.func f))
 (hQ:∀y β K a w,SRf P Γ z β K (F y ops.size) a w->Q .normal a w) :
 ∀(fuel:Nat) (listed:Array Bool),listed.size=ops.size->cnt (fun k=>listed.getD k false) ops.size<=fuel->a2I ops (fun k=>listed.getD k false) ->
 ∀y β K a w,DS P Γ z ops (F y) (X y) (fun k=>listed.getD k false) β K a w->wpAny P .any ops Q fuel listed a w:=by
 have hall:∀(listed:Array Bool),listed.size=ops.size->Region.ready .any ops listed=[]->∀i,i<ops.size->listed.getD i false=true:=by
  intro listed hsz hr i
  induction i using Nat.strongRecOn with
  | _ i ih =>
    intro hi;cases hq:listed.getD i false with
    |true=>rfl
    | false =>
      exfalso;have ho:ops[i]?=some ops[i]:=Array.getElem?_eq_getElem hi;have:i∈Region.ready .any ops listed:=by
       rw[mem_ready];refine⟨?_,_,ho,fun e he hb=>?_⟩
       ·have hlt:i<listed.size:=by omega
        simp[hlt]at hq ⊢;exact hq
       ·obtain⟨y0⟩:=fam.inh;have hlt:=(R.rgn y0).edge i _ ho e he hb;exact ih e.on hlt (by omega)
      rw[hr]at this;cases this
 intro fuel
 induction fuel with
 | zero =>
   intro listed hsz hc hcl y β K a w h;have hD:=b1z (Nat.le_zero.1 hc);refine⟨?_,hQ y β K a w (h.sem.all (R.rgn y) hD).unsem⟩;cases hr:Region.ready .any ops listed with
   |nil=>rfl
   | cons i r =>
     exfalso;have hm:i∈Region.ready .any ops listed:=by rw[hr];exact List.mem_cons_self ..
     obtain⟨h1,o,ho,_⟩:=mem_ready.1 hm;have hlt:i<ops.size:=(Array.getElem?_eq_some_iff.1 ho).1;have h2:=hD i hlt;have hlt2:i<listed.size:=by omega
     simp[hlt2]at h1 h2;rw[h1]at h2;cases h2
 | succ fuel ih =>
   intro listed hsz hc hcl y β K a w h;refine⟨fun hr=>hQ y β K a w (h.sem.all (R.rgn y) (hall listed hsz hr)).unsem,fun i hi=>?_⟩;obtain⟨h1,o,ho,h2⟩:=mem_ready.1 hi;have hlt:i<ops.size:=(Array.getElem?_eq_some_iff.1 ho).1;have hlt2:i<listed.size:=by omega
   have hDi:(fun k=>listed.getD k false) i=false:=by
    simp[hlt2]at h1 ⊢;exact h1
   have hD':(fun k=>(listed.setIfInBounds i true).getD k false)=a9S (fun k=>listed.getD k false) i:=by
    funext k;by_cases hk:k=i
    ·subst hk;rw[a2b];simp[hlt2]
    ·rw[a3n hk];exact getD_set_ne false (Ne.symm hk)
   have hbo:a7Y (fun k=>listed.getD k false) o:=fun e he hb=>h2 e he hb
   have hnext:∀y' β' K' a' w',DS P Γ z ops (F y') (X y') (a9S (fun k=>listed.getD k false) i) β' K' a' w'->wpAny P .any ops Q fuel (listed.setIfInBounds i true) a' w':=by
    intro y' β' K' a' w' h';refine ih (listed.setIfInBounds i true) (by simpa using hsz) ?_ ?_ y' β' K' a' w' (by rw[hD'];exact h')
    ·rw[hD'];have:=b5R (D:=fun k=>listed.getD k false) hDi hlt;omega
    ·rw[hD'];exact hcl.add ho hbo
   by_cases hip:i=p
   ·subst hip;rw[hp]at ho;cases ho;exact R.step env hfam hp hg hop hcal h hcl hbo hDi hnext
   ·exact DS.step env (R.rgn y) h.sem hcl ho (fun T G n=>a5U (R.other i o hip ho) T G n) hbo hDi fun β' K' a' w' h'=>hnext y β' K' a' w' h'.unsem
theorem e1k {R:Type} (env:a1g P Γ) {N:Nat->Option Fam} (hN:∀f fam,N f=some fam->a2i P f fam) {id:Nat} {K:Ex->St->Option R} {s:St} {r:R} (h:f7Q Γ N id ops K s=some r) {a:Act} {w:World} (hs:SR P Γ z s a w) :
 (Code.region id ops true).wp P (a6x P Γ z K r) a w:=by
 unfold f7Q at h;split at h
 ·exact b8g env (.region id ops true) (fun c' hc'=>by cases hc') K s r h a w hs
 ·rename_i p f fam hopen;split at h
  case h_2=>cases h
  rename_i hrest;obtain⟨_,op,hop,halt⟩:=a6D hopen;rw[Nat.sub_zero]at hop;obtain⟨hg,hNf,c,hcall,hcal⟩:=b3s halt;have hall:=a4V h;have hrun:∀y:fam.ι,∃(q:(Nat->FS)×(Nat->Ent)×(Nat->Res)×St),q.1 0=s.fs /\ q.1 ops.size=q.2.2.2.fs /\ q.2.2.2.m=s.m /\ (∀i o,ops[i]?=some o->a3Y (Γ.withSem f (fam.mean y)) ops o (q.1 i) (q.2.1 i) (q.2.2.1 i) (q.1 (i+1))) /\
   b2H ops (((List.range ops.size).map q.2.1).reverse++[])=true /\ K .normal q.2.2.2=some r:=by
   intro y;have hy:=hall y;unfold EBk at hy;obtain⟨F,E,X,s',f0,fl,fm,fs,fk⟩:=b1x ops.toList hy;rw[Array.length_toList]at fl fk;dsimp only at fk;split at fk
   ·rename_i hd;exact⟨(F,E,X,s'),f0,fl,fm,fun i o e=>fs i o (by rw[Array.getElem?_toList];exact e),hd,fk⟩
   ·cases fk
  obtain⟨q,hq⟩:=Classical.axiomOfChoice hrun;have hp:ops[p]?=some op:=by rw[<- Array.getElem?_toList];exact hop
  have hlt:p<ops.size:=(Array.getElem?_eq_some_iff.1 hp).1;have R:b3u Γ ops f fam p (fun y=>(q y).1) (fun y=>(q y).2.1) (fun y=>(q y).2.2.1):=by
   refine⟨fun y=>?_,fun y y'=>(hq y).1.trans (hq y').1.symm,fun i o hi ho=>?_,fun i o hi ho D hc hD hDp=>?_⟩
   ·obtain⟨_,_,_,h4,h5,_⟩:=hq y;obtain⟨d1,d2,d3⟩:=b3d h5;exact⟨h4,d1,d2,d3⟩
   ·have hlen:i<(c3y ops.toList []).length:=by rw[a4s];have:=(Array.getElem?_eq_some_iff.1 ho).1;simpa using this
    exact(a7j hrest i o _ (by rw[Array.getElem?_toList];exact ho) (List.getElem?_eq_getElem hlen) (by omega)).1
   ·have hlen:i<(c3y ops.toList []).length:=by rw[a4s];have:=(Array.getElem?_eq_some_iff.1 ho).1;simpa using this
    have ha:=List.getElem?_eq_getElem hlen;rcases (a7j hrest i o _ (by rw[Array.getElem?_toList];exact ho) ha (by omega)).2 with h1|h1|h1
    ·omega
    ·have:=b1y (D:=D) ops.toList [] (fun i o e hd=>hc i o (by rw[<- Array.getElem?_toList];exact e) (by simpa using hd)) (fun p x e=>by simp at e) i _ ha hD p h1;rw[hDp]at this;cases this
    ·exact h1
  obtain⟨hm,β,Ks,hf⟩:=hs;obtain⟨y0⟩:=fam.inh;have hrep:∀k,(Array.replicate ops.size false).getD k false=false:=by
   intro k;simp only[Array.getD_eq_getD_getElem?,Array.getElem?_replicate];split<;>rfl
  have hf0:SRf P (Γ.withSem f (fam.mean y0)) z β Ks ((q y0).1 0) a { w with drawn:=w.drawn+1 }:=by
   rw[(hq y0).1];have:=hf.still (w':={ w with drawn:=w.drawn+1 }) ⟨rfl,rfl,rfl,rfl⟩;exact⟨this.tmp,this.nt,this.defers,this.kok,this.mr,this.fresh,this.kle,this.knew,this.fr,this.own,this.ble,this.le⟩
  refine wp_region_any env.mixed (R.any (z:=z) env (hN f fam hNf) hp hg hcall hcal (fun y β K' a w h=>⟨(q y).2.2.2,⟨(hq y).2.2.1.trans hm,β,K',by rw[<- (hq y).2.1];exact h⟩,(hq y).2.2.2.2.2⟩) ops.size _ (by simp) ?_ ?_ y0 β Ks _ _ ?_)
  ·have:∀N,cnt (fun k=>(Array.replicate ops.size false).getD k false) N=N:=by
    intro N
    induction N with
    |zero=>rfl
    | succ N ih =>
      simp only[cnt];rw[if_neg (by rw[hrep];simp),ih];omega
   rw[this];exact le_refl _
  ·intro i o hi hD;dsimp only at hD;rw[hrep]at hD;cases hD
  ·exact(DS.start (R.rgn y0) hf0 hrep).unsem
end
structure g8Y where
 ι:Type
 inh:Nonempty ι
 out:ι->Bool×St×St
structure c4z where
 m:a4J
 run:St->Option (Bool×g8Y)
structure a7H where
 fam:Nat->Option Fam
 loops:Nat->Option c4z
def g5m {R:Type} (L:a4J) (K:Ex->St->Option R) (p:Bool×St×St):Option R:=match p.1 with
 |true=>K .ret p.2.2
 |false=>K (.exit L.ex) p.2.1
noncomputable def g5n {R:Type} (L:c4z) (K:Ex->St->Option R) (s:St):Option R:=
 match a8p L.m.live L.m.own s with
 |none=>none
 | some s0=>match L.run s0 with
   |none=>none
   | some (ok,fam)=>match ok with
     |true=>a3a fun z=>g5m L.m K (fam.out z)
     |false=>none
noncomputable def EBn {R:Type} (Γ:Env) (N:a7H):Code->(Ex->St->Option R)->St->Option R
 | .seq x y,K,s=>EBn Γ N x (fun e s'=>match e with
   |.normal=>EBn Γ N y K s'
   |e=>K e s') s
 | .cond c x y,K,s=>match s.val c with
   | .val (.one (.bool b))=>match b with
     |true=>EBn Γ N x (a5L (a1D Γ.cut (b2J c)) K) (s.putC c true)
     |false=>EBn Γ N y (a5L (a1D Γ.cut (b2J c)) K) (s.putC c false)
   |_=>none
 |.block id x,K,s=>EBn Γ N x (a7D id (a1D Γ.past id) K) s
 | .loop c,K,s=>match N.loops (a0I c)with
   |some L=>g5n L K s
   |none=>EBk Γ (.loop c) K s
 | .region id ops d,K,s=>match d with
   |false=>d0O Γ N.fam ops ops.toList (fun s'=>K .normal s') s
   |true=>f7Q Γ N.fam id ops K s
 |.skip,K,s=>K .normal s
 |.label _,K,s=>K .normal s
 |.exit id,K,s=>K (.exit id) s
 |.ret,K,s=>EBk Γ .ret K s
 |_,_,_=>none
noncomputable def c2a {R:Type} (Γ:Env) (N:a7H) (c:Code) (L:a4J) (K:Ex->St->Option R):Nat->St->Option R
 |0,_=>none
 |k+1,s=>EBn Γ N c (a3D L.live L.own L.ex L.past L.pown (c2a Γ N c L K k) K) s
def c2b (Γ:Env) (N:a7H) (c:Code) (L:c4z):Prop:=
 ∀s0 fam,L.run s0=some (true,fam)->∀(R:Type) (K:Ex->St->Option R) (r:R),(∀z,g5m L.m K (fam.out z)=some r)->∃n,c2a Γ N c L.m K n s0=some r
def a3b (Γ:Env) (N:a7H) (c:Code):Prop:=∀c'∈a1Z c,∀L,N.loops (a0I c')=some L->c2b Γ N c' L
def NOK (P:Program) (N:a7H):Prop:=∀f fam,N.fam f=some fam->a2i P f fam
noncomputable def a5u {R:Type} (Γ:Env) (N:a7H) (c:Code) (f:List W×List (Option Blk)->Option R) (args:List W) (ins:List Blk):Option R:=
 match Nat.ble args.length Γ.nt with
 | true=>EBn Γ N c (fun e s=>match e with
   |.exit _=>none
   | _=>match fin Γ s with
     |some r=>f r
     |none=>none) (a7T args ins)
 |false=>none
section
variable {P:Program} {Γ:Env} {z:a5r}
theorem d1T {R:Type} {N:a7H} {c:Code} {L:a4J} {K:Ex->St->Option R} {r:R}
 (hc:∀(K:Ex->St->Option R) s r,EBn Γ N c K s=some r->∀a w,SR P Γ z s a w->c.wp P (a6x P Γ z K r) a w) (n:Nat) {s:St} (h:c2a Γ N c L K n s=some r) {a:Act} {w:World} (hs:SR P Γ z s a w) :
 (Code.loop c).wp P (a6x P Γ z K r) a w:=by
 classical
 let J:Act->World->Nat->Prop:=fun a w k=>∃s,SR P Γ z s a w /\ c2a Γ N c L K k s=some r
 let I:Act->World->Prop:=fun a w=>∃k,J a w k
 have hmin:∀a w,I a w->∃k,J a w k /\ ∀j,j<k->¬J a w j:=fun a w ⟨k,hk⟩=>e6U k hk
 let μ:Act->World->Nat:=fun a w=>if h:I a w then(hmin a w h).choose else 0
 have hμ:∀a w,I a w->J a w (μ a w) /\ ∀j,j<μ a w->¬J a w j:=by
  intro a w hI;have:μ a w=(hmin a w hI).choose:=dif_pos hI;rw[this];exact(hmin a w hI).choose_spec
 refine wp_loop I μ ⟨n,s,hs,h⟩ fun a w hI=>?_
 obtain⟨⟨s,hs,hk⟩,_⟩:=hμ a w hI;cases hn:μ a w with
 |zero=>rw[hn]at hk;simp[c2a]at hk
 | succ k =>
   rw[hn]at hk;simp only[c2a]at hk;refine wp_mono (hc _ s r hk a w hs) fun e a' w' he=>?_
   cases e with
   | normal =>
     obtain⟨s',hs',hk'⟩:=he;unfold a3D at hk';dsimp only at hk';split at hk'
     ·rename_i s'' hc';have hJ:J a' w' k:=⟨s'',a4t hs' hc',hk'⟩;have hI':I a' w':=⟨k,hJ⟩;refine⟨hI',?_⟩;have h2:=(hμ a' w' hI').2 k;rcases Nat.lt_or_ge k (μ a' w')with h3|h3
      ·exact absurd hJ (h2 h3)
      ·omega
     ·cases hk'
   |exit i=>exact b1C (ex:=L.ex) (past:=L.past) (pown:=L.pown) (.exit i) a' w' he
   |ret=>exact b1C (ex:=L.ex) (past:=L.past) (pown:=L.pown) .ret a' w' he
   |_=>exact he
theorem e7d {R:Type} (env:a1g P Γ) {N:a7H} (hN:NOK P N):∀(c:Code),a7a Γ c->a3b Γ N c->∀(K:Ex->St->Option R) (s:St) (r:R),EBn Γ N c K s=some r->∀a w,SR P Γ z s a w->c.wp P (a6x P Γ z K r) a w:=by
 intro c
 induction c with
 |skip=>exact fun _ _ K s r h a w hs=>wp_skip ⟨s,hs,h⟩
 |label l=>exact fun _ _ K s r h a w hs=>wp_label ⟨s,hs,h⟩
 |exit id=>exact fun _ _ K s r h a w hs=>wp_exit ⟨s,hs,h⟩
 |ret=>exact fun hL _ K s r h a w hs=>b8g env .ret hL K s r h a w hs
 | seq x y ihx ihy =>
   intro hL hM K s r h a w hs;unfold EBn at h;refine wp_seq (wp_mono (ihx (fun c' hc'=>hL c' (List.mem_append_left _ hc')) (fun c' hc'=>hM c' (List.mem_append_left _ hc')) _ s r h a w hs) fun e a' w' he=>?_);cases e with
   | normal =>
     obtain⟨s',hs',hk⟩:=he;exact ihy (fun c' hc'=>hL c' (List.mem_append_right _ hc')) (fun c' hc'=>hM c' (List.mem_append_right _ hc')) K s' r hk a' w' hs'
   |exit i=>exact he
   |ret=>exact he
   |_=>exact he
 | cond c x y ihx ihy =>
   intro hL hM K s r h a w hs;unfold EBn at h;split at h
   ·rename_i b hb;obtain⟨hm,β,Ks,hf⟩:=hs;have hv:=a8H hf.tmp c;rw[<- b8f,hb]at hv;have hev:a.eval c = .bool b:=hv;have hput:∀b',b=b'->SR P Γ z (s.putC c b') a w:=by
     intro b' e;subst e;cases c with
     | tmp t =>
       have:=a5f s t (a2r b) hb;exact⟨hm,β,Ks,by rw[show(s.putC (.tmp t) b).fs=(s.put t (a2r b)).fs from rfl,this];exact hf⟩
     |_=>exact⟨hm,β,Ks,hf⟩
    refine wp_cond hev ?_;cases b with
    |true=>exact wp_mono (ihx (fun c' hc'=>hL c' (List.mem_append_left _ hc')) (fun c' hc'=>hM c' (List.mem_append_left _ hc')) _ _ r h a w (hput true rfl)) a5i
    |false=>exact wp_mono (ihy (fun c' hc'=>hL c' (List.mem_append_right _ hc')) (fun c' hc'=>hM c' (List.mem_append_right _ hc')) _ _ r h a w (hput false rfl)) a5i
   ·cases h
 | block id x ih =>
   intro hL hM K s r h a w hs;unfold EBn at h;exact wp_block (wp_mono (ih hL hM _ s r h a w hs) b3h)
 | loop x ih =>
   intro hL hM K s r h a w hs;unfold EBn at h;split at h
   ·rename_i L hl;unfold g5n at h;split at h
    ·cases h
    ·rename_i s0 hc0;split at h
     ·cases h
     ·rename_i ok fam hrun;split at h
      case h_2=>cases h
      obtain⟨n,hn⟩:=hM x (List.mem_cons_self ..) L hl s0 fam hrun R K r (a4V h);exact d1T (L:=L.m) (ih (fun c' hc'=>hL c' (List.mem_cons_of_mem _ hc')) (fun c' hc'=>hM c' (List.mem_cons_of_mem _ hc'))) n hn (a4t hs hc0)
   ·exact b8g env (.loop x) hL K s r h a w hs
 | region id ops d =>
   intro hL hM K s r h a w hs;cases d with
   | false =>
     unfold EBn at h;refine wp_region ?_;rw[List.range_eq_range'];have:=c4u env hN (ops:=ops) (Q:=a6x P Γ z K r) (r:=r) (K:=fun s'=>K .normal s') (fun s' a w h1 h2=>⟨s',h1,h2⟩) ops.toList 0 rfl (by simp) s h a w hs;rw[Array.length_toList]at this;exact this
   | true =>
     unfold EBn at h;exact e1k env hN h hs
 |_=>intro _ _ K s r h;simp[EBn]at h
theorem a5m {R:Type} (env:a1g P Γ) {N:a7H} (hN:NOK P N) {f:Nat} {c:Code} (hf:a5s P f Γ c) (hNL:a3b Γ N c) {g:List W×List (Option Blk)->Option R} {args:List W} {ins:List Blk} {r:R} (h:a5u Γ N c g args ins=some r)
 {β0:Bt} {K0:Ks} {w0:World} {vs:Array Value} (hk:KOK K0 w0) (hm:MR β0 K0 (a1W ins) w0) (hfr:∀k,ins.length<=k->β0 k=none) (hv:All2 (WR β0 K0) args vs.toList) :
 Calls P f vs w0 fun e w'=>∃v β K rs outs,e = .returned v /\ g (rs,outs)=some r /\ Ret ins outs rs β0 K0 w0 v w' β K:=by
 obtain⟨fn,hfn,hbody,hres,hnt,_⟩:=hf.is;unfold a5u at h;split at h
 case h_2=>cases h
 rename_i hle;have hle:args.length<=Γ.nt:=by simpa using hle
 have hlen:args.length=vs.size:=by simpa using hv.length
 refine calls_of_wp hfn hbody ?_;rw[hnt]
 let z:a5r:=⟨β0,K0,w0,ins.length,Own β0 (a1W ins)⟩
 have h0:SR P Γ z (a7T args ins) { tmps:=vs++Array.replicate (Γ.nt-vs.size) undef,defers:=[] } w0:=by
  refine⟨rfl,β0,K0,⟨fun t=>?_,by simp;omega,rfl,hk,?_,hfr,KLe.refl _,fun b arr e => .inl e,Fr.refl _ _,?_,fun k y _ e=>e,le_refl _⟩⟩
  ·have h1:=(a5j (i:=0) hv t).1;rw[Nat.zero_add]at h1;have h2:(vs++Array.replicate (Γ.nt-vs.size) undef).getD t undef=vs.toList.getD t undef:=by
    simp only[Array.getD_eq_getD_getElem?,List.getD_eq_getElem?_getD,Array.getElem?_toList];rw[Array.getElem?_append];split
    ·rfl
    ·rename_i hlt;rw[Array.getElem?_replicate,Array.getElem?_eq_none (xs:=vs) (by omega)];split<;>rfl
   show VR β0 K0 ((a7T args ins).tmpV t) ((vs++Array.replicate (Γ.nt-vs.size) undef).getD t undef);rw[h2];exact h1
  ·show MR β0 K0 (a7T args ins).get w0;rw[a6y];exact hm
  ·intro x hx;left;have:(a7T args ins).fs.G=a1W ins:=a6y args ins;rw[this]at hx;exact hx
 refine wp_mono (e7d env hN c hf.loops hNL _ _ r h _ _ h0) fun e a w he=>?_
 have main:∀s,SR P Γ z s a w->(match fin Γ s with|some r=>g r|none=>none)=some r->a.defers=[] /\ ∃v,(results fn a.tmps).run P w = .ok v w /\ ∃v' β K rs outs,Ending.returned v = .returned v' /\ g (rs,outs)=some r /\ Ret ins outs rs β0 K0 w0 v' w β K:=by
  intro s hs hg;split at hg
  case h_2=>cases hg
  rename_i ro hfin;obtain⟨rs,outs⟩:=ro;obtain⟨hm',β,K,hs⟩:=hs;unfold fin at hfin;split at hfin
  ·cases hfin
  ·rename_i ws hws;obtain⟨v,hr1,hr2⟩:=d5r env hres hs hws;dsimp only at hfin;generalize hksd:a2E s.get a1L (a9I s.m++ws.flatMap a0L) (a9I 0)=ks at hfin;have hnd:(a3Q ks s.m).Nodup:=by
    rw[a3Z,<- hksd];exact List.Pairwise.filter _ (a2u _ _ _ _ (by simp[a9I]))
   have hge:∀k∈a3Q ks s.m,s.m<=k:=by
    intro k hk;rw[a3Z,List.mem_filter]at hk;simpa using hk.2
   generalize a3Q ks s.m=rest at hfin hnd hge;split at hfin
   ·rename_i ws' outs' h1 h2;cases hfin;have hlo:outs.length=s.m+rest.length:=by rw[a2t h2,List.length_append,a3o]
    have hsrc:∀k' b',a2q outs k'=some b'->∃k b,a2S rest s.m k=some k' /\ s.get k=some b /\ b2D (a2S rest s.m) b=some b':=by
     intro k' b' e;unfold a2q at e;cases hq:outs[k']? with
     |none=>rw[hq]at e;cases e
     | some x =>
       rw[hq]at e;have hx:x=some b':=e;subst hx;obtain⟨k,hk,hr⟩:=(All2.ofMap h2).get?' hq;have hnk:a2S rest s.m k=some k':=by
        rw[List.getElem?_append,a3o]at hk;unfold a2S;split at hk
        ·rename_i hlt;rw[b1D,if_pos hlt]at hk;have hkk:k'=k:=Option.some.inj hk;rw[<- hkk,show Nat.blt k' s.m=true by simpa[Nat.blt_eq]using hlt]
        ·rename_i hlt;have h3:=hge k (List.mem_of_getElem? hk);rw[show Nat.blt k s.m=false from Bool.eq_false_iff.2 fun e=>by rw[Nat.blt_eq]at e;omega];dsimp only;rw[a8M hnd hk];congr 1;omega
       cases hg0:s.get k with
       |none=>rw[hg0]at hr;simp[a5J]at hr
       | some b0 =>
         rw[hg0]at hr;simp only[a5J,Option.map_eq_some_iff,injEq]at hr;obtain⟨b1,h4,h5⟩:=hr;exact⟨k,b0,hnk,hg0,by rw[h4,h5]⟩
    refine⟨hs.defers,v,hr1,v,a8N β rest s.m,K,rs,outs,rfl,hg,⟨hs.kle,hs.kok,hs.knew,hs.mr.ren a2W hsrc,fun k hk=>b1B (by omega),?_,hs.fr,fun x hx=>hs.own x (hx.ren hs.mr a2W hsrc),?_,?_⟩⟩
    ·have h3:VR (a8N β rest s.m) K (d1h rs) v:=a8f h1 hr2 fun c c' u _ hcc hu=>a7f a2W hcc hu
     exact h3
    ·intro k y e;have hkm:k<ins.length:=by
      rcases Nat.lt_or_ge k ins.length with h3|h3
      ·exact h3
      ·rw[hfr k h3]at e;cases e
     have hzm:s.m=ins.length:=hm';rw[b1A (by omega)];exact hs.ble k y hkm e
    ·have hzm:s.m=ins.length:=hm';omega
   ·cases hfin
 cases e with
 |normal=>obtain⟨s,hs,hg⟩:=he;exact main s hs hg
 |ret=>obtain⟨s,hs,hg⟩:=he;exact main s hs hg
 |exit i=>obtain⟨s,hs,hg⟩:=he;cases hg
 |_=>exact he.elim
end
section
variable {Γ:Env} {N:a7H}
instance:Nonempty a8S:=⟨⟨0,by decide⟩⟩
def c4A.{u} {α:Type u}:List (Nat×α)->Nat->Option α
 |[],_=>none
 | (k,x)::r,t=>match beq k t with
   |true=>some x
   |false=>c4A r t
theorem b3v.{u} {α:Type u}:∀{l:List (Nat×α)} {t:Nat} {x:α},c4A l t=some x->(t,x)∈l
 | (k,y)::r,t,x,h=>by
   simp only[c4A]at h;split at h
   ·rename_i e;cases h;rw[a0g e];exact List.mem_cons_self ..
   ·exact List.mem_cons_of_mem _ (b3v h)
def mkN (fams:List (Nat×Fam)) (loops:List (Nat×c4z)):a7H:=⟨c4A fams,c4A loops⟩
def f4r.{u} {α:Type u} (R:α->Prop):List α->Prop
 |[]=>True
 |x::r=>R x /\ f4r R r
theorem f4r.mem.{u} {α:Type u} {R:α->Prop}:∀{l:List α},f4r R l->∀x∈l,R x
 | y::r,h,x,hx=>by
   rcases List.mem_cons.1 hx with rfl|hx
   ·exact h.1
   ·exact h.2.mem x hx
theorem a2m {P:Program} {fams:List (Nat×Fam)} {loops:List (Nat×c4z)} (h:f4r (fun x=>a2i P x.1 x.2) fams):NOK P (mkN fams loops):=fun f fam e=>h.mem (f,fam) (b3v e)
theorem a1d {Γ:Env} {fams:List (Nat×Fam)} {c:Code}:a3b Γ (mkN fams []) c:=fun c' hc L h=>by cases h
def f4s (O:Sg) {R:Type} (h:O.den->Option R) (p:List W×List (Option Blk)):Option R:=match c1X O p with
 |some y=>h y
 |none=>none
def a5v (R:Ty) {T:Type} (h:Den R->Option T) (p:List W×List (Option Blk)):Option T:=match d1E R p with
 |some y=>h y
 |none=>none
noncomputable def a2T (Γ:Env) (N:a7H) (c:Code) (I O:Sg) (h:O.den->Option Unit) (x:I.den):Option Unit:=match b3o (a3M I.bs x.2)with
 |some ins=>a5u Γ N c (f4s O h) (a2Y I.ws x.1) ins
 |none=>none
abbrev Ch (I O:Sg) (ok:I.den->Bool) (Q:I.den->O.den->Prop):Type:={ g:I.den->O.den // ∀x,ok x=true->Q x (g x) }
def a2K (own:Bool) (I O:Sg) (ok:I.den->Bool) (Q:I.den->O.den->Prop) (hne:Nonempty (Ch I O ok Q)):Fam:=⟨Ch I O ok Q,hne,fun g=>a0y own I O ok g.1,own⟩
end
section
variable {P:Program} {Γ:Env} {N:a7H}
theorem b0r (env:a1g P Γ) (hN:NOK P N) {f:Nat} {c:Code} (hf:a5s P f Γ c) (hNL:a3b Γ N c) {own:Bool} {I O:Sg} {ok:I.den->Bool} {Q:I.den->O.den->Prop} {hne:Nonempty (Ch I O ok Q)}
 (h:∀x,ok x=true->∀k:O.den->Option Unit,(∀y,Q x y->k y=some ())->a2T Γ N c I O k x=some ()):a2i P f (a2K own I O ok Q hne):=by
 classical
 refine⟨fun _=>rfl,?_⟩;intro args ins hruns β0 K0 w0 vs hk hm hfr hv;obtain⟨g0⟩:=hne;obtain⟨rs0,outs0,hrun⟩:=hruns g0;simp only[a2K,a0y,c1X]at hrun;split at hrun
 case h_2=>cases hrun
 rename_i x hx;split at hx
 case h_2=>cases hx
 rename_i x1 hx1;split at hx
 case h_2=>cases hx
 rename_i x2 hx2;cases hx;split at hrun
 case h_2=>cases hrun
 rename_i ins' hins';simp only[injEq,Prod.mk.injEq]at hrun;obtain⟨hok,_,_⟩:=hrun;obtain⟨hl1,hg1⟩:=a2Z hx2;obtain⟨hl2,hg2⟩:=a4U hins';rw[a6z]at hg1;rw[<- hg2]at hg1;have hlen:ins'.length=ins.length:=by rw[hl2,hl1];simp
 have he:=h (x1,x2) hok (fun y=>if Q (x1,x2) y then some ()else none) (fun y hy=>if_pos hy);simp only[a2T,hins']at he;refine .inl ⟨hf.ok,(a5m env hN hf hNL he hk (hm.lax hg1) (fun k hk=>hfr k (by omega)) (a5l hx1 hv)).mono ?_⟩;rintro e w' ⟨v,β,K,rs',outs',rfl,hg,hR⟩;simp only[f4s]at hg;split at hg
 case h_2=>cases hg
 rename_i y hy;split at hg
 case isFalse=>cases hg
 rename_i hQ;simp only[c1X]at hy;split at hy
 case h_2=>cases hy
 rename_i y1 hy1;split at hy
 case h_2=>cases hy
 rename_i y2 hy2;cases hy;obtain⟨hl3,hg3⟩:=a2Z hy2;have hl3':(a3M O.bs (y1,y2).2).length=outs'.length:=hl3;have hown:∀b,Own β0 (a1W ins') b->Own β0 (a1W ins) b:=fun b hb=>hb.lax hg1
 refine⟨⟨fun x=>if x=(x1,x2)then(y1,y2)else g0.1 x,fun x hx=>?_⟩,a2Y O.ws y1,a3M O.bs y2,v,β,K,?_,rfl,⟨hR.kle,hR.kok,fun b arr e=>?_,hR.mr.lax hg3,fun k hk=>hR.fresh k (by simp only at hk hl3';omega),a6A hy1 hR.out,⟨hR.fr.os,hR.fr.tape,hR.fr.output,hR.fr.size,fun b hb hn=>hR.fr.block b hb fun hc=>hn (hc.imp (hown b) id)⟩,fun x hx=>?_,hR.ble,?_⟩⟩
 ·dsimp only;split
  ·rename_i e;rw[e];exact hQ
  ·exact g0.2 x hx
 ·simp only[a2K,a0y,c1X,hx1,hx2,hins',hok,if_pos]
 ·rcases hR.knew b arr e with h1|h1|h1
  ·exact .inl h1
  ·exact .inr (.inl (hown b h1))
  ·exact .inr (.inr h1)
 ·rcases hR.own x (hx.lax hg3)with h1|h1
  ·exact .inl (hown x h1)
  ·exact .inr h1
 ·have:=hR.le;simp only at hl3' ⊢;omega
theorem c4B (env:a1g P Γ) (hN:NOK P N) {f:Nat} {c:Code} (hf:a5s P f Γ c) (hNL:a3b Γ N c) {own:Bool} {I O:Sg} {ok:I.den->Bool} {g:I.den->O.den}
 (h:∀x,ok x=true->∀k:O.den->Option Unit,k (g x)=some ()->a2T Γ N c I O k x=some ()):a0d P (f,a0y own I O ok g):=by
 classical
 refine⟨?_,hf.ok⟩;intro args ins rs outs hrun β0 K0 w0 vs hk hm hfr hv;simp only[a0y,c1X]at hrun;split at hrun
 case h_2=>cases hrun
 rename_i x hx;split at hx
 case h_2=>cases hx
 rename_i x1 hx1;split at hx
 case h_2=>cases hx
 rename_i x2 hx2;cases hx;split at hrun
 case h_2=>cases hrun
 rename_i ins' hins';simp only[injEq,Prod.mk.injEq]at hrun;obtain⟨hok,rfl,rfl⟩:=hrun;obtain⟨hl1,hg1⟩:=a2Z hx2;obtain⟨hl2,hg2⟩:=a4U hins';rw[a6z]at hg1;rw[<- hg2]at hg1;have hlen:ins'.length=ins.length:=by rw[hl2,hl1];simp
 have he:=h (x1,x2) hok (fun y=>if y=g (x1,x2)then some ()else none) (if_pos rfl);simp only[a2T,hins']at he;refine(a5m env hN hf hNL he hk (hm.lax hg1) (fun k hk=>hfr k (by omega)) (a5l hx1 hv)).mono ?_;rintro e w' ⟨v,β,K,rs',outs',rfl,hg,hR⟩;simp only[f4s]at hg;split at hg
 case h_2=>cases hg
 rename_i y hy;split at hg
 case isFalse=>cases hg
 rename_i hQ;simp only[c1X]at hy;split at hy
 case h_2=>cases hy
 rename_i y1 hy1;split at hy
 case h_2=>cases hy
 rename_i y2 hy2;cases hy;obtain⟨hl3,hg3⟩:=a2Z hy2;have hl3':(a3M O.bs (y1,y2).2).length=outs'.length:=hl3;have hown:∀b,Own β0 (a1W ins') b->Own β0 (a1W ins) b:=fun b hb=>hb.lax hg1
 rw[<- hQ];refine⟨v,β,K,rfl,⟨hR.kle,hR.kok,fun b arr e=>?_,hR.mr.lax hg3,fun k hk=>hR.fresh k (by simp only at hk hl3';omega),a6A hy1 hR.out,⟨hR.fr.os,hR.fr.tape,hR.fr.output,hR.fr.size,fun b hb hn=>hR.fr.block b hb fun hc=>hn (hc.imp (hown b) id)⟩,fun x hx=>?_,hR.ble,?_⟩⟩
 ·rcases hR.knew b arr e with h1|h1|h1
  ·exact .inl h1
  ·exact .inr (.inl (hown b h1))
  ·exact .inr (.inr h1)
 ·rcases hR.own x (hx.lax hg3)with h1|h1
  ·exact .inl (hown x h1)
  ·exact .inr h1
 ·have:=hR.le;simp only at hl3' ⊢;omega
theorem e1l (env:a1g P Γ) (hN:NOK P N) {f:Nat} {c:Code} (hf:a5s P f Γ c) (hNL:a3b Γ N c) {args:List W} {k:Den (.cons .bool .nil)->Option Unit} (hk:∀y,k y=some ()->y=(true,())) (h:a5u Γ N c (a5v (.cons .bool .nil) k) args []=some ()) {w:World} {vs:Array Value} (hgk:GK (b1G w))
 (hv:All2 (WR (fun _=>none) (b1G w)) args vs.toList):Calls P f vs w fun e w'=>e = .returned (.bool true) /\ Below w.heap.size w w':=by
 have hm:MR (fun _=>none) (b1G w) (a1W []) w:=⟨fun k b e=>by simp[a1W]at e,fun k k' b b' _ _ _ e=>by simp[a1W]at e,fun k b _ _ e=>by simp[a1W]at e⟩;refine(a5m env hN hf hNL h (e0W w hgk) hm (fun _ _=>rfl) hv).mono ?_;rintro e w' ⟨v,β,K,rs,outs',rfl,hg,hR⟩;have hno:∀x,¬Own (fun _=>none) (a1W []) x:=by rintro x ⟨k,b,y,e,_⟩;simp[a1W]at e
 unfold a5v at hg;split at hg
 ·rename_i y hy;have:=hk y hg;subst this;unfold d1E at hy;dsimp only at hy;split at hy
  ·have hout:v = .bool true:=a8g hy hR.out;exact⟨by rw[hout],hR.fr.os,hR.fr.tape,hR.fr.output,hR.fr.size,fun k hk=>hR.fr.block k hk fun h1=>h1.elim (hno k) (e0V w k)⟩
  ·cases hy
 ·cases hg
end
section
variable {P:Program} {Γ:Env} {N:a7H}
structure b6a (P:Program) (f:Nat) (e:Array Value->Sem Value):Prop where
 is:∃fn,P.funcs[f]?=some fn /\ (fn.name == "runtime.NumGoroutine")=false /\ fn.body.isNone=true /\ Extern.findNext fn=none /\ Extern.find fn=some e
theorem b6a.run {f:Nat} {e:Array Value->Sem Value} (h:b6a P f e) {vs:Array Value} {w w':World} {v:Value} (hr:(e vs).run P w = .ok v w'):(callFunc f vs).run P w = .ok (.value v) w':=by
 obtain⟨fn,h1,h2,h3,h4,h5⟩:=h.is
 have h2':¬fn.name = "runtime.NumGoroutine" := by simpa using h2
 have h3':fn.body=none:=by simpa using h3
 simp[callFunc,h1,h2',h3',h4,h5,hr]
def a5H (A R:Ty) (ι:Type) (inh:Nonempty ι) (g:ι->Den A->Den R):Fam:=⟨ι,inh,fun z=>a0b A R (fun _=>true) (g z),false⟩
theorem d5x {f:Nat} {e:Array Value->Sem Value} (he:b6a P f e) {A R:Ty} {ι:Type} {inh:Nonempty ι} {g:ι->Den A->Den R}
 (h:∀(x:Den A) (vs:Array Value) (β:Bt) (K:Ks) (w:World),All2 (WR β K) (a5F A x) vs.toList->∃v w' z,(e vs).run P w = .ok v w' /\ a0p w w' /\ a7b β K (a5F R (g z x)) v):a2i P f (a5H A R ι inh g):=by
 refine⟨fun _=>rfl,?_⟩;intro args ins hruns β0 K0 w0 vs hk hm hfr hv;obtain⟨z0⟩:=inh;obtain⟨rs0,outs0,hrun⟩:=hruns z0;cases ins with
 |cons _ _=>simp[a5H,a0b]at hrun
 | nil =>
   simp only[a5H,a0b]at hrun;split at hrun
   ·rename_i x hx;obtain⟨v,w',z,h1,h2,h3⟩:=h x vs β0 K0 w0 (a5R hx hv);refine .inr ⟨v,w',he.run h1,z,a5F R (g z x),[],v,β0,K0,?_,rfl,?_⟩
    ·simp only[a5H,a0b,hx]
    ·exact⟨KLe.refl _,hk.still h2,fun _ _ e => .inl e,⟨fun k b e=>by simp[a2q]at e,fun k k' b b' _ _ _ e=>by simp[a2q]at e,fun k b _ _ e=>by simp[a2q]at e⟩,fun k _=>hfr k (zero_le _),h3,Fr.still h2,fun x hx=>by
      obtain⟨k,b,y,e,_⟩:=hx;simp[a2q]at e,BLe.refl _,le_refl _⟩
   ·cases hrun
abbrev ChT (A R:Ty) (ok:Den A->Bool) (Q:Den A->Den R->Prop):Type:={ g:Den A->Den R // ∀x,ok x=true->Q x (g x) }
def c2c (A R:Ty) (ok:Den A->Bool) (Q:Den A->Den R->Prop) (hne:Nonempty (ChT A R ok Q)):Fam:=⟨ChT A R ok Q,hne,fun g=>a0b A R ok g.1,false⟩
theorem e7e (env:a1g P Γ) (hN:NOK P N) {f:Nat} {c:Code} (hf:a5s P f Γ c) (hNL:a3b Γ N c) {A R:Ty} {ok:Den A->Bool} {Q:Den A->Den R->Prop} {hne:Nonempty (ChT A R ok Q)}
 (h:∀x,ok x=true->∀k:Den R->Option Unit,(∀y,Q x y->k y=some ())->a5u Γ N c (a5v R k) (a5F A x) []=some ()):a2i P f (c2c A R ok Q hne):=by
 classical
 refine⟨fun _=>rfl,?_⟩;intro args ins hruns β0 K0 w0 vs hk hm hfr hv;obtain⟨g0⟩:=hne;obtain⟨rs0,outs0,hrun⟩:=hruns g0;cases ins with
 |cons _ _=>simp[c2c,a0b]at hrun
 | nil =>
   simp only[c2c,a0b]at hrun;split at hrun
   ·rename_i x hx;simp only[injEq,Prod.mk.injEq]at hrun;obtain⟨hok,_,_⟩:=hrun;have he:=h x hok (fun y=>if Q x y then some ()else none) (fun y hy=>if_pos hy);refine .inl ⟨hf.ok,(a5m env hN hf hNL he hk hm hfr (a5R hx hv)).mono ?_⟩;rintro e w' ⟨v,β,K,rs',outs',rfl,hg,hR⟩;unfold a5v at hg;split at hg
    case h_2=>cases hg
    rename_i y hy;dsimp only at hg;split at hg
    case isFalse=>cases hg
    rename_i hq;unfold d1E at hy;dsimp only at hy;split at hy
    ·refine⟨⟨fun u=>if u=x then y else g0.1 u,fun u hu=>?_⟩,a5F R y,[],v,β,K,?_,rfl,{ hR with out:=a8g hy hR.out }⟩
     ·dsimp only;split
      ·rename_i e;rw[e];exact hq
      ·exact g0.2 u hu
     ·simp only[c2c,a0b,hx,hok,if_pos]
    ·cases hy
   ·cases hrun
theorem a5V (env:a1g P Γ) (hN:NOK P N) {f:Nat} {c:Code} (hf:a5s P f Γ c) (hNL:a3b Γ N c) {A R:Ty} {ok:Den A->Bool} {g:Den A->Den R} {Q:Den A->Den R->Prop}
 (hQ:∀x y,Q x y->∀β K v,a7b β K (a5F R y) v->a7b β K (a5F R (g x)) v)
 (h:∀x,ok x=true->∀k:Den R->Option Unit,(∀y,Q x y->k y=some ())->a5u Γ N c (a5v R k) (a5F A x) []=some ()):a0d P (f,a0b A R ok g):=by
 classical
 refine⟨?_,hf.ok⟩;intro args ins rs outs hrun β0 K0 w0 vs hk hm hfr hv;cases ins with
 |cons _ _=>simp[a0b]at hrun
 | nil =>
   simp only[a0b]at hrun;split at hrun
   ·rename_i x hx;simp only[injEq,Prod.mk.injEq]at hrun;obtain⟨hok,rfl,rfl⟩:=hrun;have he:=h x hok (fun y=>if Q x y then some ()else none) (fun y hy=>if_pos hy);refine(a5m env hN hf hNL he hk hm hfr (a5R hx hv)).mono ?_;rintro e w' ⟨v,β,K,rs',outs',rfl,hg,hR⟩;unfold a5v at hg;split at hg
    case h_2=>cases hg
    rename_i y hy;dsimp only at hg;split at hg
    case isFalse=>cases hg
    rename_i hq;unfold d1E at hy;dsimp only at hy;split at hy
    ·exact⟨v,β,K,rfl,{ hR with out:=hQ x y hq β K v (a8g hy hR.out) }⟩
    ·cases hy
   ·cases hrun
end
theorem b8p {P:Program} {f:Nat} (he:b6a P f Extern.MathFloatBits.float64bits) {inh:Nonempty { z:Nat // a1w .f64 z=true }} :
 a2i P f (a5H (.cons (.flt .f64) .nil) (.cons (.int .u64) .nil) { z:Nat // a1w .f64 z=true } inh (fun z x=>((((bif a1w .f64 x.1 then z.1 else x.1:Nat):Int)),()))):=by
 refine d5x he fun x vs β K w hv=>?_
 obtain⟨b,_⟩:=x;obtain⟨z0⟩:=inh;rcases vs with⟨l⟩
 cases l with
 |nil=>exact hv.elim
 | cons v r =>
   cases r with
   |cons _ _=>exact hv.2.elim
   | nil =>
     obtain⟨b',rfl,hb⟩:=hv.1;have hb:FEq .f64 b b':=hb;by_cases hn:a1w .f64 b=true
     ·refine⟨.int .u64 b',w,⟨b',FEq.nan_left hb hn⟩,rfl,a0p.refl w,?_⟩;show Value.int .u64 b' = .int .u64 _;rw[hn];rfl
     ·rcases hb with rfl|⟨h1,_⟩
      ·refine⟨.int .u64 b,w,z0,rfl,a0p.refl w,?_⟩;show Value.int .u64 b = .int .u64 _;rw[Bool.eq_false_iff.2 hn];rfl
      ·exact absurd h1 hn
theorem a7I {P:Program} {f:Nat} (he:b6a P f Extern.MathFloatBits.float64frombits) :
 a2i P f (a5H (.cons (.int .u64) .nil) (.cons (.flt .f64) .nil) Unit ⟨()⟩ (fun _ x=>((x.1:Int).toNat,()))):=by
 refine d5x he fun x vs β K w hv=>?_
 obtain⟨n,_⟩:=x;rcases vs with⟨l⟩
 cases l with
 |nil=>exact hv.elim
 | cons v r =>
   cases r with
   |cons _ _=>exact hv.2.elim
   | nil =>
     have hv1:v = .int .u64 n:=hv.1;subst hv1;exact⟨.float .f64 (n:Int).toNat,w,(),rfl,a0p.refl w,⟨_,rfl,.inl rfl⟩⟩
@[reducible] def unJ:Ty->Ty
 |.jnk => .flt .f32
 |.slice t => .slice (unJ t)
 |.cons a b => .cons (unJ a) (unJ b)
 |.bool => .bool
 |.int k => .int k
 |.flt k => .flt k
 |.cpx k => .cpx k
 |.str => .str
 |.nil => .nil
def shp:(t:Ty)->Den (unJ t)->Den t
 |.jnk,_=>()
 |.slice t,l=>List.map (shp t) l
 |.cons a b,p=>(shp a p.1,shp b p.2)
 |.bool,x=>x
 |.int _,x=>x
 |.flt _,x=>x
 |.cpx _,x=>x
 |.str,x=>x
 |.nil,x=>x
theorem d1U:∀t,(unJ t).size=t.size:=by
 intro t
 induction t with
 |cons a b iha ihb=>simp[Ty.size,iha,ihb]
 |_=>rfl
theorem e1m (t:Ty):(unJ t).isJ=false:=by cases t<;>rfl
def noJ:Ty->Bool
 |.jnk=>false
 |.slice t=>noJ t
 |.cons a b=>noJ a&&noJ b
 |_=>true
theorem a7k {t:Ty} (h:noJ t=true):t.isJ=false:=by
 cases t with
 |jnk=>simp[noJ]at h
 |_=>rfl
def a6E (K K':Ks):Prop:=∀x arr,K x=some (false,arr)->K' x=some (false,arr)
theorem DR.clean {K K':Ks} (h:a6E K K'):∀(t:Ty) {x:Den t} {vs:List Value},noJ t=true->DR K t x vs->DR K' t x vs:=by
 intro t
 induction t with
 | slice t ih =>
   rintro x vs hj ⟨a,n,c,e,hn,hc,hr⟩;have hj:noJ t=true:=hj;refine⟨a,n,c,e,hn,hc,hr.imp id ?_⟩;rintro⟨b,o,arr,ha,hb,hi⟩;rw[a7k hj]at hb;exact⟨b,o,arr,ha,by rw[a7k hj];exact h _ _ hb,fun i hl=>ih hj (hi i hl)⟩
 | cons a b iha ihb =>
   rintro x vs hj ⟨v1,v2,e,h1,h2⟩;simp only[noJ,and_eq_true]at hj;exact⟨v1,v2,e,iha hj.1 h1,ihb hj.2 h2⟩
 |jnk=>intro x vs hj;simp[noJ]at hj
 |_=>exact fun _ h=>h
theorem e1n {α γ:Type} {R:α->γ->Nat->Prop} (x:List γ) (h:∀i (hi:i<x.length),∃y,R y x[i] i):∃l:List α,l.length=x.length /\ ∀i (h1:i<l.length) (h2:i<x.length),R l[i] x[i] i:=by
 refine⟨List.ofFn fun i:Fin x.length=>(h i.1 i.2).choose,by simp,fun i h1 h2=>?_⟩;rw[List.getElem_ofFn];exact(h i h2).choose_spec
theorem DR.told {K Kf:Ks} {w:World} (hk:KOK K w) (h:∀x z,K x=some z->∃cur T fz,Kf x=some (false,cur) /\ w.heap[x]?=some (.cells cur T fz)) :
 ∀(t:Ty) {x:Den t} {vs:List Value},DR K t x vs->∃x':Den (unJ t),shp t x'=x /\ DR Kf (unJ t) x' vs:=by
 intro t
 induction t with
 | slice t ih =>
   rintro x vs ⟨a,n,c,rfl,hn,hc,hr⟩;rcases hr with h0|⟨b,o,arr,ha,hb,hi⟩
   ·have hx:x=[]:=List.eq_nil_of_length_eq_zero (by omega);subst hx;exact⟨([]:List (Den (unJ t))),rfl,a,n,c,rfl,hn,hc,.inl h0⟩
   ·obtain⟨cur,T,fz,hh,hsz,hs⟩:=hk.see hb;obtain⟨cur',T',fz',hf,hh'⟩:=h b _ hb;rw[hh]at hh';cases hh';obtain⟨l,hl,hR⟩:=e1n (R:=fun(y:Den (unJ t)) (z:Den t) i=>shp t y=z /\ DR Kf (unJ t) y (sub cur.toList (o+i*t.size) t.size)) x fun i hix=>ih (hs _ _ (hi i hix))
    refine⟨l,?_,a,n,c,rfl,by rw[hl];exact hn,hc,.inr ⟨b,o,cur,ha,by rw[e1m];exact hf,fun i hil=>?_⟩⟩
    ·show List.map (shp t) l=x;refine List.ext_getElem (by simpa using hl) fun i h1 h2=>?_
     rw[List.getElem_map];exact(hR i (by simpa using h1) h2).1
    ·rw[d1U];exact(hR i hil (by rw[<- hl];exact hil)).2
 | cons a b iha ihb =>
   rintro x vs ⟨v1,v2,e,h1,h2⟩;obtain⟨x1,e1,d1⟩:=iha h1;obtain⟨x2,e2,d2⟩:=ihb h2;exact⟨(x1,x2),by show(shp a x1,shp b x2)=x;rw[e1,e2],v1,v2,e,d1,d2⟩
 | jnk =>
   rintro x vs ⟨n,rfl⟩;exact⟨n,rfl,n,rfl,.inl rfl⟩
 |_=>exact fun{x vs} h=>⟨x,rfl,h⟩
theorem f7R {β:Bt} {K:Ks}:∀(t:Ty) {x:Den t} {vs:List Value},All2 (CR β K) (AM.enc t x) vs->DR K t x vs:=by
 intro t;have one:∀{c:C} {vs:List Value},All2 (CR β K) [c] vs->∃v,vs=[v] /\ CR β K c v:=fun{c vs} h=>by
  cases vs with
  |nil=>exact h.elim
  | cons v vs=>cases vs with
    |nil=>exact⟨v,rfl,h.1⟩
    |cons _ _=>exact h.2.elim
 induction t with
 | cons a b iha ihb =>
   intro x vs h;obtain⟨v1,v2,rfl,h1,h2⟩:=All2.split h;exact⟨v1,v2,rfl,iha h1,ihb h2⟩
 | nil =>
   intro x vs h;cases vs with
   |nil=>rfl
   |cons _ _=>exact h.elim
 |bool=>intro x vs h;obtain⟨v,rfl,h2⟩:=one h;rw[show v=_ from h2];rfl
 |int k=>intro x vs h;obtain⟨v,rfl,h2⟩:=one h;rw[show v=_ from h2];rfl
 |flt k=>intro x vs h;obtain⟨v,rfl,b,rfl,h2⟩:=one h;exact⟨b,rfl,h2⟩
 |cpx k=>intro x vs h;obtain⟨v,rfl,a,b,rfl,h2⟩:=one h;exact⟨a,b,rfl,h2⟩
 |str=>intro x vs h;obtain⟨v,rfl,h2⟩:=one h;rw[show v=_ from h2];rfl
 |slice t ih=>intro x vs h;obtain⟨v,rfl,h2⟩:=one h;exact h2
 |jnk=>intro x vs h;obtain⟨v,rfl,n,rfl⟩:=one h;exact⟨n,rfl⟩
theorem CRs.clean0 {β:Bt} {K K':Ks}:∀{vs:List Value},All2 (CR β K) [] vs->All2 (CR β K') [] vs
 |[],_=>trivial
 |_::_,h=>h.elim
theorem WR.told {K Kf:Ks} {w:World} {β:Bt} (hk:KOK K w) (h:∀x z,K x=some z->∃cur T fz,Kf x=some (false,cur) /\ w.heap[x]?=some (.cells cur T fz)) {t:Ty} {x:Den t} {v:Value}
 (hv:WR β K (e0Z t x) v):∃x':Den (unJ t),shp t x'=x /\ WR β Kf (e0Z (unJ t) x') v:=by
 cases t with
 | slice t =>
   obtain⟨x',e,d⟩:=DR.told hk h (.slice t) (show DR K (.slice t) x [v]from hv);exact⟨x',e,d⟩
 | cons a b =>
   obtain⟨arr,rfl,ha⟩:=hv;obtain⟨x',e,d⟩:=DR.told hk h (.cons a b) (f7R (.cons a b) ha);exact⟨x',e,arr,rfl,DR.enc (unJ (.cons a b)) d⟩
 | jnk =>
   obtain⟨n,rfl⟩:=hv;exact⟨n,rfl,n,rfl,.inl rfl⟩
 | nil =>
   obtain⟨arr,rfl,ha⟩:=hv;exact⟨x,rfl,arr,rfl,CRs.clean0 ha⟩
 |_=>exact⟨x,rfl,hv⟩
@[reducible] def unK:Kn->Kn
 |.val t => .val (unJ t)
 |k=>k
def g8Z:(k:Kn)->(unK k).den->k.den
 |.val t,x=>shp t x
 |.own _ _,x=>x
 |.ptr _,x=>x
 |.mix _,x=>x
 |.fnv _ _,x=>x
@[reducible] def b8q:List Kn->List Kn
 |[]=>[]
 |k::r=>unK k::b8q r
def c2d:(l:List Kn)->a5t (b8q l)->a5t l
 |[],x=>x
 |k::r,x=>(g8Z k x.1,c2d r x.2)
def b3w:Kn->Bool
 |.val _=>true
 |_=>false
@[reducible] def unO (O:Sg):Sg:=⟨b8q O.ws,O.bs⟩
def e7f (O:Sg) (y:(unO O).den):O.den:=(c2d O.ws y.1,y.2)
theorem b3x {K Kf:Ks} {w:World} {β:Bt} (hk:KOK K w) (h:∀x z,K x=some z->∃cur T fz,Kf x=some (false,cur) /\ w.heap[x]?=some (.cells cur T fz)) :
 ∀{l:List Kn} (hl:l.all b3w=true) {x:a5t l} {vs:List Value},All2 (WR β K) (a2Y l x) vs->∃x':a5t (b8q l),c2d l x'=x /\ All2 (WR β Kf) (a2Y (b8q l) x') vs
 |[],_,x,[],hv=>⟨x,rfl,trivial⟩
 |[],_,x,_::_,hv=>hv.elim
 |.val t::r,hl,x,[],hv=>hv.elim
 | .val t::r,hl,x,v::vs,hv=>by
   obtain⟨x1,e1,d1⟩:=WR.told hk h hv.1;obtain⟨x2,e2,d2⟩:=b3x hk h (l:=r) (by simpa[b3w]using hl) hv.2;exact⟨(x1,x2),by show(shp t x1,c2d r x2)=x;rw[e1,e2],d1,d2⟩
 |.own _ _::r,hl,_,_,_=>by simp[b3w]at hl
 |.ptr _::r,hl,_,_,_=>by simp[b3w]at hl
 |.mix _::r,hl,_,_,_=>by simp[b3w]at hl
 |.fnv _ _::r,hl,_,_,_=>by simp[b3w]at hl
theorem a8X:∀(l:List Kn) (x:a5t l),(a2Y l x).length=l.length
 |[],_=>rfl
 |k::r,x=>by simp[a2Y,a8X r]
theorem b8r:∀(l:List Kn),(b8q l).length=l.length
 |[]=>rfl
 |k::r=>by simp[b8r r]
theorem a7b.told {K Kf:Ks} {w:World} {β:Bt} (hk:KOK K w) (h:∀x z,K x=some z->∃cur T fz,Kf x=some (false,cur) /\ w.heap[x]?=some (.cells cur T fz)) {l:List Kn} (hl:l.all b3w=true) {x:a5t l} {v:Value}
 (hv:a7b β K (a2Y l x) v):∃x':a5t (b8q l),c2d l x'=x /\ a7b β Kf (a2Y (b8q l) x') v:=by
 have key:=fun(vs:List Value)=>b3x (β:=β) hk h hl (x:=x) (vs:=vs)
 have hlen:∀x':a5t (b8q l),(a2Y (b8q l) x').length=(a2Y l x).length:=fun x'=>by rw[a8X,a8X,b8r]
 unfold a7b at hv ⊢;generalize a2Y l x=us at hv key hlen
 match us,hv,key,hlen with
 | [],hv,key,hlen =>
   obtain⟨arr,e,ha⟩:=hv;obtain⟨x',e1,d⟩:=key arr.toList ha;refine⟨x',e1,?_⟩;have:=hlen x';generalize a2Y (b8q l) x'=us' at d this ⊢
   match us',d,this with
   |[],d,_=>exact⟨arr,e,d⟩
 | [u],hv,key,hlen =>
   obtain⟨x',e1,d⟩:=key [v] ⟨hv,trivial⟩;refine⟨x',e1,?_⟩;have:=hlen x';generalize a2Y (b8q l) x'=us' at d this ⊢
   match us',d,this with
   |[u'],d,_=>exact d.1
 | u::u2::us,hv,key,hlen =>
   obtain⟨arr,e,ha⟩:=hv;obtain⟨x',e1,d⟩:=key arr.toList ha;refine⟨x',e1,?_⟩;have:=hlen x';generalize a2Y (b8q l) x'=us' at d this ⊢
   match us',d,this with
   |y::y2::ys,d,_=>exact⟨arr,e,d⟩
def f4t:C->Bool
 |.sl t _=>noJ t
 |.rptr t _ _ _=>noJ t
 |.arptr t _ _ _ _ _=>noJ t
 |_=>true
def f4u (u:W):Bool:=u.cells.all f4t
def e7g:Blk->Bool
 |.box cs=>cs.all f4t
 |.arr t _=>noJ t
def f7S:Option Blk->Bool
 |some b=>e7g b
 |none=>true
theorem CR.clean {β:Bt} {K K':Ks} (h:a6E K K') {c:C} (hc:f4t c=true) {v:Value} (hv:CR β K c v):CR β K' c v:=by
 cases c with
 |sl t l=>exact DR.clean h (.slice t) hc hv
 | rptr t l i o =>
   have hj:noJ t=true:=hc;obtain⟨hi,b,o',arr,h1,h2,h3⟩:=hv;rw[a7k hj]at h1;exact⟨hi,b,o',arr,by rw[a7k hj];exact h _ _ h1,fun j hjj=>DR.clean h t hj (h2 j hjj),h3⟩
 | arptr t l i o m q =>
   have hj:noJ t=true:=hc;obtain⟨hq,hi,b,o',arr,h1,h2,h3⟩:=hv;rw[a7k hj]at h1;exact⟨hq,hi,b,o',arr,by rw[a7k hj];exact h _ _ h1,fun j hjj=>DR.clean h t hj (h2 j hjj),h3⟩
 |_=>exact hv
theorem CRs.clean {β:Bt} {K K':Ks} (h:a6E K K'):∀{cs:List C} {vs:List Value},cs.all f4t=true->All2 (CR β K) cs vs->All2 (CR β K') cs vs
 |[],[],_,hv=>hv
 | c::cs,v::vs,hc,hv=>by
   simp only[List.all_cons,and_eq_true]at hc;exact⟨CR.clean h hc.1 hv.1,CRs.clean h hc.2 hv.2⟩
 |[],_::_,_,hv=>hv.elim
 |_::_,[],_,hv=>hv.elim
theorem WR.clean {β:Bt} {K K':Ks} (h:a6E K K') {u:W} (hc:f4u u=true) {v:Value} (hv:WR β K u v):WR β K' u v:=by
 cases u with
 |one c=>exact CR.clean h (by simpa[f4u,W.cells]using hc) hv
 |agg cs=>obtain⟨arr,e,ha⟩:=hv;exact⟨arr,e,CRs.clean h hc ha⟩
theorem WRs.clean {β:Bt} {K K':Ks} (h:a6E K K'):∀{us:List W} {vs:List Value},us.all f4u=true->All2 (WR β K) us vs->All2 (WR β K') us vs
 |[],[],_,hv=>hv
 | c::cs,v::vs,hc,hv=>by
   simp only[List.all_cons,and_eq_true]at hc;exact⟨WR.clean h hc.1 hv.1,WRs.clean h hc.2 hv.2⟩
 |[],_::_,_,hv=>hv.elim
 |_::_,[],_,hv=>hv.elim
theorem BR.clean {β:Bt} {K K':Ks} (h:a6E K K') {b:Blk} (hc:e7g b=true) {y:Hd} {w:World} (hr:BR β K b y w):BR β K' b y w:=by
 cases b with
 |box cs=>obtain⟨x,arr,T,e,hh,ha⟩:=hr;exact⟨x,arr,T,e,hh,CRs.clean h hc ha⟩
 | arr t l =>
   rcases hr with hr|⟨x,cap,cur,T,e,hh,h1,h2,h3,h4⟩
   ·exact .inl hr
   ·exact .inr ⟨x,cap,cur,T,e,hh,h1,h2,h3,fun i hi=>DR.clean h t hc (h4 i hi)⟩
theorem MR.clean {β:Bt} {K K':Ks} {get:Get} {w:World} (hm:MR β K get w) (h:a6E K K') (hb:∀k b,get k=some b->e7g b=true) (hro:∀x,Own β get x->K' x=none):MR β K' get w:=
 ⟨fun k b e=>by
  obtain⟨y,h1,h2⟩:=hm.blk k b e;exact⟨y,h1,h2.clean h (hb k b e)⟩,hm.sep,fun k b y x e f g=>hro x ⟨k,b,y,e,f,g⟩⟩
theorem b8s {os:List (Option Blk)} (h:os.all f7S=true):∀k b,a2q os k=some b->e7g b=true:=by
 intro k b e;unfold a2q at e;cases hq:os[k]? with
 |none=>rw[hq]at e;cases e
 | some o =>
   rw[hq]at e;have e:o=some b:=e;have:=List.all_eq_true.1 h o (List.mem_of_getElem? hq);rw[e]at this;exact this
section
variable {P:Program} {Γ:Env} {N:a7H}
theorem e7h (env:a1g P Γ) (hN:NOK P N) {f:Nat} {c:Code} (hf:a5s P f Γ c) (hNL:a3b Γ N c) {own:Bool} {I O:Sg} {ok:I.den->Bool} {Q:I.den->O.den->Prop} {hne:Nonempty (Ch I (unO O) ok fun x y=>Q x (e7f O y))}
 (hv0:O.ws.all b3w=true) (nI1:∀x,(a2Y I.ws x).all f4u=true) (nI2:∀x,(a3M I.bs x).all f7S=true) (nO:∀y,(a3M O.bs y).all f7S=true)
 (h:∀x,ok x=true->∀k:O.den->Option Unit,(∀y,Q x y->k y=some ())->a2T Γ N c I O k x=some ()):a2i P f (a2K own I (unO O) ok (fun x y=>Q x (e7f O y)) hne):=by
 classical
 refine⟨fun _=>rfl,?_⟩;intro args ins hruns β0 K0 w0 vs hk hm hfr hv;obtain⟨g0⟩:=hne;obtain⟨rs0,outs0,hrun⟩:=hruns g0;simp only[a2K,a0y,c1X]at hrun;split at hrun
 case h_2=>cases hrun
 rename_i x hx;split at hx
 case h_2=>cases hx
 rename_i x1 hx1;split at hx
 case h_2=>cases hx
 rename_i x2 hx2;cases hx;split at hrun
 case h_2=>cases hrun
 rename_i ins' hins';simp only[injEq,Prod.mk.injEq]at hrun;obtain⟨hok,_,_⟩:=hrun;obtain⟨hl1,hg1⟩:=a2Z hx2;obtain⟨hl2,hg2⟩:=a4U hins';rw[a6z]at hg1;rw[<- hg2]at hg1;have hlen:ins'.length=ins.length:=by rw[hl2,hl1];simp
 have he:=h (x1,x2) hok (fun y=>if Q (x1,x2) y then some ()else none) (fun y hy=>if_pos hy);simp only[a2T,hins']at he;obtain⟨K0',hK0'⟩:∃K0':Ks,K0'=fun x=>match K0 x with|some (false,arr)=>some (false,arr)|_=>none:=⟨_,rfl⟩
 have hc0:a6E K0 K0':=fun x arr e=>by rw[hK0'];dsimp only;rw[e]
 have hc1:∀x z,K0' x=some z->K0 x=some z /\ z.1=false:=fun x z e=>by
  rw[hK0']at e;dsimp only at e;split at e
  ·rename_i arr ha;cases e;exact⟨ha,rfl⟩
  ·cases e
 have hmL:MR β0 K0 (a1W ins') w0:=hm.lax hg1;have hb1:∀k b,a1W ins' k=some b->e7g b=true:=by
  intro k b e;rw[hg2]at e;exact b8s (nI2 x2) k b e
 have hk':KOK K0' w0:=⟨fun x z e=>hk.ato x z (hc1 x z e).1,by
  obtain⟨m,hm⟩:=hk.gk;exact⟨m,fun x hx=>hc0 _ _ (hm x hx)⟩⟩
 have hro0:∀x,Own β0 (a1W ins') x->K0' x=none:=by
  rintro x ⟨k,b,y,e,f,g⟩;cases hq:K0' x with
  |none=>rfl
  | some z =>
    have:=(hc1 x z hq).1;rw[hmL.ro k b y x e f g]at this;cases this
 have hm':MR β0 K0' (a1W ins') w0:=hmL.clean hc0 hb1 hro0;have hv':=WRs.clean hc0 (nI1 x1) (a5l hx1 hv);refine .inl ⟨hf.ok,(a5m env hN hf hNL he hk' hm' (fun k hk=>hfr k (by omega)) hv').mono ?_⟩;rintro e w' ⟨v,β,K,rs',outs',rfl,hg,hR⟩;simp only[f4s]at hg;split at hg
 case h_2=>cases hg
 rename_i y hy;split at hg
 case isFalse=>cases hg
 rename_i hQ;simp only[c1X]at hy;split at hy
 case h_2=>cases hy
 rename_i y1 hy1;split at hy
 case h_2=>cases hy
 rename_i y2 hy2;cases hy;obtain⟨hl3,hg3⟩:=a2Z hy2;have hl3':(a3M O.bs (y1,y2).2).length=outs'.length:=hl3;have hown:∀b,Own β0 (a1W ins') b->Own β0 (a1W ins) b:=fun b hb=>hb.lax hg1
 have hownK:∀x,Own β0 (a1W ins') x->K0 x=none:=by
  rintro x ⟨k,b,y,e,f,g⟩;exact hmL.ro k b y x e f g
 obtain⟨Kf,hKf⟩:∃Kf:Ks,Kf=fun x=>match K0 x with
  |some z=>some z
  | none=>match K x with
    | some _=>match w'.heap[x]? with
      |some (.cells cur _ _)=>some (false,cur)
      |_=>none
    |none=>none:=⟨_,rfl⟩
 have hKf1:∀x z,K0 x=some z->Kf x=some z:=fun x z e=>by rw[hKf];dsimp only;rw[e]
 have told:∀x z,K x=some z->∃cur T fz,Kf x=some (false,cur) /\ w'.heap[x]?=some (.cells cur T fz):=by
  intro x z e;obtain⟨cur,T,fz,hh,h1,h2⟩:=hR.kok.ato x z e;refine⟨cur,T,fz,?_,hh⟩;cases hq:K0 x with
  | none =>
    rw[hKf];dsimp only;rw[hq];dsimp only;rw[e];dsimp only;rw[hh]
  | some q =>
    rw[hKf1 x q hq];rcases hR.knew x z e with h3|h3|h3
    ·obtain⟨h4,h5⟩:=hc1 x z h3;have h6:q=z:=Option.some.inj (hq.symm.trans h4);rw[h6,h1 h5];show some z=some (false,z.2);rw[<- h5]
    ·rw[hownK x h3]at hq;cases hq
    ·have:=hk.lt hq;omega
 have cleanf:a6E K Kf:=by
  intro x arr e;obtain⟨cur,T,fz,h1,h2⟩:=told x _ e;obtain⟨cur',T',fz',h3,h4,_⟩:=hR.kok.ato x _ e;rw[h2]at h3;cases h3;rw[h1,h4 rfl]
 have hfr':Fr (e0E β0 K0 (a1W ins)) w0 w':=⟨hR.fr.os,hR.fr.tape,hR.fr.output,hR.fr.size,fun b hb hn=>hR.fr.block b hb fun h1=>h1.elim (fun h1=>hn (.inl (hown b h1))) fun⟨arr,h1⟩=>by
  have:=(hc1 b _ h1).2;cases this⟩
 have hkokf:KOK Kf w':=by
  refine⟨?_,hk.gk.mono hKf1⟩;intro x z e;cases hq:K0 x with
  | some q =>
    rw[hKf1 x q hq]at e;have e':=Option.some.inj e;subst e';obtain⟨fl,arr⟩:=q;cases fl with
    |false=>exact hR.kok.ato x _ (hR.kle x _ (hc0 x arr hq))
    | true =>
      have hn:¬e0E β0 K0' (a1W ins') x:=by
       rintro(h1|⟨arr',h1⟩)
       ·rw[hownK x h1]at hq;cases hq
       ·have:=(hc1 x _ h1).2;cases this
      rw[hR.fr.block x (hk.lt hq) hn];exact hk.ato x _ hq
  | none =>
    rw[hKf]at e;dsimp only at e;rw[hq]at e;dsimp only at e;split at e
    ·split at e
     ·rename_i cur T fz hh;cases e;exact⟨cur,T,fz,hh,KOK.self fun e=>by cases e⟩
     ·cases e
    ·cases e
 obtain⟨y1',e1,d1⟩:=a7b.told (β:=β) hR.kok told hv0 (a6A hy1 hR.out);have hmo:MR β Kf (a2q (a3M O.bs y2)) w':=by
  have h1:MR β K (a2q (a3M O.bs y2)) w':=hR.mr.lax hg3;refine h1.clean cleanf (b8s (nO y2)) fun x hx=>?_
  have h2:K x=none:=by
   obtain⟨k,b,y,e,f,g⟩:=hx;exact h1.ro k b y x e f g
  cases hq:K0 x with
  |none=>rw[hKf];dsimp only;rw[hq];dsimp only;rw[h2]
  | some q =>
    rcases hR.own x (hx.lax hg3)with h3|h3
    ·rw[hownK x h3]at hq;cases hq
    ·have:=hk.lt hq;omega
 refine⟨⟨fun x=>if x=(x1,x2)then(y1',y2)else g0.1 x,fun x hx=>?_⟩,a2Y (b8q O.ws) y1',a3M O.bs y2,v,β,Kf,?_,rfl,⟨hKf1,hkokf,fun b arr e=>?_,hmo,fun k hk=>hR.fresh k (by simp only at hk hl3';omega),d1,hfr',fun x hx=>?_,hR.ble,?_⟩⟩
 ·dsimp only;split
  ·rename_i e;rw[e];show Q (x1,x2) (c2d O.ws y1',y2);rw[e1];exact hQ
  ·exact g0.2 x hx
 ·simp only[a2K,a0y,c1X,hx1,hx2,hins',hok,if_pos]
 ·cases hq:K0 b with
  |some q=>rw[hKf1 b q hq]at e;cases e;exact .inl rfl
  | none =>
    rw[hKf]at e;dsimp only at e;rw[hq]at e;dsimp only at e;split at e
    ·rename_i z hz;rcases hR.knew b z hz with h1|h1|h1
     ·rw[(hc1 b z h1).1]at hq;cases hq
     ·exact .inr (.inl (hown b h1))
     ·exact .inr (.inr h1)
    ·cases e
 ·rcases hR.own x (hx.lax hg3)with h1|h1
  ·exact .inl (hown x h1)
  ·exact .inr h1
 ·have:=hR.le;simp only at hl3' ⊢;omega
end
end Go.Proofs.YtjomnmoekchfeaaGreatDoor.AM
namespace Go.Proofs.YtjomnmoekchfeaaGreatDoor.Card
open Go Go.Proofs Go.ChangeShapes Go.WideShapes Go.ChangeAt Go.RowKit Go.Proofs.YtjomnmoekchfeaaGreatDoor.AM
set_option maxRecDepth 100000
theorem own:ownKnob Tryz.prog.godebug=none:=by kernel_rfl
theorem e1o:laidOutB Tryz.prog=true:=by kernel_rfl
theorem gP:Tryz.prog.globalNamed "internal/strconv.uint64pow10" = some 2:=by kernel_rfl
noncomputable def c4C:List (String×DataW Unit):=Rows.fnSecondsSailedRow.laid
def g9a:DataW Unit->Value
 |.lit (.int k n) => .int k n
 |_ => .bool false
def d1V:Array Value:=match Go.Pinned.utf8First with
 |.agg l=>(l.map g9a).toArray
 |_=>#[]
noncomputable def b3y (os:Os):World:=
 { World.doorLaid Tryz.prog 34 os with heap:=(World.doorLaid Tryz.prog 34 os).heap.modify 3 fun
  |.cells _ t fz => .cells d1V t fz
  |o=>o }
theorem d1W (os:Os) (args:Array Value):laidMetH Tryz.prog c4C ((b3y os).forCall (fun _ _=>0) ⟨#[],args,[]⟩).memory:=
 laidMetH_of_parts3 (fuel:=8) (laidMet_of_run' 8 (by kernel_rfl) (by kernel_rfl)) (by kernel_rfl) (by kernel_rfl)
theorem f7T {H:Type} {enc:TypeId×Value->H} {a:Assume} {C:Checked} {os:Os} {f:FuncId} {fn:Func} {s:ChangeSpec} {conds:List PathCond} {apart fresh handsOn again:Bool} {X:World->Array Value->Prop}
 (hX:∀(w w':World) (args:Array Value),w.heap=w'.heap->X w args->X w' args)
 (own:ownKnob C.prog.godebug=none) (started:os.Started) (noInit:C.prog.inits.idxOf? f=none) (hfn:C.prog.funcs[f]?=some fn)
 (witness:∃(w:World) (tape:Tape) (i:Input),w.os=os /\ (w.forCall tape i).Shaped C.prog /\ i.vars=[] /\ Input.okWide C.prog (w.forCall tape i) .any w.heap.size f i /\
  ((s.pre enc C.prog fn conds apart (w.forCall tape i).memory i.args /\ X (w.forCall tape i).memory i.args) /\ sizedMet enc C.prog fn (OpenSpec.ofChange s) apart (w.forCall tape i).memory i.args) /\ a.holds C.prog (lone (Frame.enter C.prog f i.args .normal) [] (w.forCall tape i)))
 (contract:∀(W:World) (base:Nat) (args:Array Value) (ds gs:List (DataW H)) (before:List MemPlace),
  (∀(j:Nat) t v,fn.params[j]?=some t->args[j]?=some v->Value.okWide C.prog W .any base t v) ->
  DataW.Whole enc C.prog fn.params.toList s.vars apart W args.toList ds gs before ->
  W.ShapedOpen C.prog->X W args ->
  Calls C.prog f args W fun e W'=>∃v,e = .returned v /\ s.post enc C.prog fn apart fresh handsOn again W args v W') :
 ReturnsInHanded a C os f .any (fun w args=>(s.pre enc C.prog fn conds apart w args /\ X w args) /\ sizedMet enc C.prog fn (OpenSpec.ofChange s) apart w args) (s.post enc C.prog fn apart fresh handsOn again):=by
 refine returnsInHanded_of_calls own started noInit witness ?_;intro w tape i _ hsh _ hok hpre hholds;obtain⟨_,_,_,fn',hfn',_,_,_,_,hval⟩:=hok;have e:fn'=fn:=Option.some.inj (hfn'.symm.trans hfn);subst e;obtain⟨⟨⟨ds,gs,before,hw,hc⟩,hx⟩,hz⟩:=hpre;have hw':=DataW.Whole.of_heap (w':=w.forCall tape i) (by rfl) hw;refine(contract (w.forCall tape i) w.heap.size i.args ds gs before hval hw' hsh (hX _ _ _ (by rfl) hx)).mono fun e W' ⟨v,he,hp⟩=>?_
 subst he;exact ChangeSpec.post_blind hp
theorem f7U {W:World} (hsh:W.ShapedOpen Tryz.prog) (hL:laidMetH Tryz.prog c4C W):GK (b1G W):=by
 rw[MakeChecks.laidMetH_plain _ _ _ (by kernel_rfl)]at hL
 have ht:Lib.TabIs Tryz.prog W "internal/strconv.uint64pow10" .u64 ((List.range 20).map fun i=>((10^i:Nat):Int)):=
  Lib.tabIs_of_head (t:=257) (e:=104) (n:=20) gP (by kernel_rfl) (by kernel_rfl) (by kernel_rfl) (by kernel_rfl) (by kernel_rfl) hL.tail.tail
 obtain⟨cs,hh,hs,_⟩:=hsh.1 1 #[.int .i64 0] 3 (of_decide_eq_true (by kernel_rfl)) (by kernel_rfl)
 obtain⟨m,hm⟩:∃m,W.cell? ⟨1,0,none⟩=some (.int .i64 m):=cell_of_shapedOpen_int (t:=3) (zero:=#[.int .i64 0]) hsh (of_decide_eq_true (by kernel_rfl)) (by kernel_rfl) (by kernel_rfl) (by kernel_rfl) (by kernel_rfl) (by kernel_rfl)
 refine⟨m,?_⟩
 unfold e6M
 intro x hx
 simp only[List.mem_cons,List.not_mem_nil,or_false]at hx
 rcases hx with rfl|rfl
 ·unfold b1G
  rw[hh]
  obtain⟨l⟩:=cs
  match l,hs with
  | [v],_ =>
    have:W.cell? ⟨1,0,none⟩=some v:=by
     unfold World.cell?
     rw[hh]
     rfl
    rw[this]at hm
    cases hm
    rfl
 ·unfold Lib.TabIs World.var? at ht
  rw[gP]at ht
  simp only[Option.bind_some]at ht
  unfold b1G
  split at ht
  ·rename_i c T fz h
   cases ht
   rw[h]
   rfl
  ·cases ht
end Go.Proofs.YtjomnmoekchfeaaGreatDoor.Card
