/- Texts of one proof, joined: an abstract machine for the program, its functions evaluated, plain lemmas. Conditions: those that each lemma names. -/
import Derived.Test.YtjomnmoekchfeaaGreatDoorM1
import Derived.WideShapes
import Derived.ChangeShapes
import Derived.ChangeArms
import Derived.Below
import Derived.IntWalk
import Derived.Test.YtjomnmoekchfeaaGreatDoorRows
import Derived.WalkKit
import Derived.ProofKit
import Derived.OpenShut
import Derived.LaidMore
import Derived.Stop.Joined
import Derived.Stop.LaidErr
import Derived.MakeChecks
import Derived.Shelf.Vars
import Derived.Lib.LaidTab
set_option linter.unusedVariables false
set_option linter.unusedSimpArgs false
namespace Go.Proofs.YtjomnmoekchfeaaGreatDoor.AM
open Bool (and_eq_true)
open Nat (le_refl beq zero_le)
open Option.some (injEq)
open Go
theorem a6x:∀{l:List Nat} {n:Nat},c2b n l=true->∀k∈l,k<n
 |[],_,_,_,h=>by cases h
 | x::r,n,h,k,a=>by
   simp only[c2b,and_eq_true]at h;rcases List.mem_cons.1 a with rfl|a
   ·simpa[Nat.blt_eq]using h.1
   ·exact a6x h.2 k a
def a2f (β:Bt) (n:Nat):Bt:=fun k=>if k<n then β k else none
theorem a5q {β:Bt} {n k:Nat} (h:k<n):a2f β n k=β k:=if_pos h
theorem d2G {β:Bt} {n k:Nat} (h:n<=k):a2f β n k=none:=if_neg (by omega)
theorem a6y {β:Bt} {n:Nat}:BLe (a2f β n) β:=fun k h e=>by
 unfold a2f at e;split at e
 ·exact e
 ·cases e
theorem PR.below {β:Bt} {n k off:Nat} {v:Value} (e:k<n) (h:PR β k off v):PR (a2f β n) k off v:=by
 obtain⟨y,b,a,c,d⟩:=h;exact⟨y,b,by rw[a5q e];exact a,c,d⟩
theorem CR.below {β:Bt} {K:Ks} {n:Nat} {c:C} {v:Value} (g:∀k∈a0S c,k<n) (h:CR β K c v):CR (a2f β n) K c v:=by
 cases c with
 | ref t k =>
   obtain⟨y,a,m,c,d,e⟩:=h;exact⟨y,a,m,c,by rw[a5q (g k (by simp[a0S]))];exact d,e⟩
 |ptr k o=>exact PR.below (g k (by simp[a0S])) h
 | eptr k t i o =>
   obtain⟨y,a,m,c,d,e⟩:=h;exact⟨y,a,m,c,by rw[a5q (g k (by simp[a0S]))];exact d,e⟩
 | fn f l =>
   obtain⟨cs,d,e⟩:=h;exact⟨cs,d,e.mono_mem fun k u r s=>PR.below (g k r) s⟩
 |aptr k o m j=>exact⟨h.1,PR.below (g k (by simp[a0S])) h.2⟩
 | aeptr k t i o m j =>
   obtain⟨p,y,a,q,c,d,e⟩:=h;exact⟨p,y,a,q,c,by rw[a5q (g k (by simp[a0S]))];exact d,e⟩
 | asl t k o m =>
   obtain⟨b,c,d,e⟩:=h;exact⟨b,c,PR.below (g k (by simp[a0S])) d,e⟩
 |_=>exact h
theorem WR.below {β:Bt} {K:Ks} {n:Nat} {c:W} {v:Value} (a:∀k∈a0R c,k<n) (h:WR β K c v):WR (a2f β n) K c v:=by
 cases c with
 |one c=>exact CR.below (fun k hh=>a k (by simpa[a0R,W.cells]using hh)) h
 | agg cs =>
   obtain⟨arr,e,h⟩:=h;exact⟨arr,e,h.mono_mem fun c u b d=>CR.below (fun k hh=>a k (List.mem_flatMap.2 ⟨c,b,hh⟩)) d⟩
theorem VR.below {β:Bt} {K:Ks} {n:Nat} {c:V} {v:Value} (a:∀k∈a1u c,k<n) (h:VR β K c v):VR (a2f β n) K c v:=by
 cases c with
 |val c=>exact WR.below a h
 | tup ws =>
   obtain⟨arr,e,h⟩:=h;exact⟨arr,e,h.mono_mem fun c u b d=>WR.below (fun k hh=>a k (List.mem_flatMap.2 ⟨c,b,hh⟩)) d⟩
theorem BR.below {β:Bt} {K:Ks} {n:Nat} {b:Blk} {y:Hd} {w:World} (a:∀k∈e8b (some b),k<n) (h:BR β K b y w):BR (a2f β n) K b y w:=by
 cases b with
 | box cs =>
   obtain⟨x,arr,T,e,hh,h⟩:=h;exact⟨x,arr,T,e,hh,h.mono_mem fun c u d f=>CR.below (fun k hh=>a k (List.mem_flatMap.2 ⟨c,d,hh⟩)) f⟩
 |arr t l=>exact h
theorem a6a {β:Bt} {K:Ks} {v:Value}:VR β K pois v:=trivial
structure e8h (β:Bt) (K:Ks) (get:Get) (n:Nat) (w:World) (out:Out) (v:Value) (w':World) (β':Bt) (K':Ks):Prop where
 ble:BLe β β'
 kle:KLe K K'
 kok:KOK K' w'
 vr:VR β' K' out.v v
 mr:MR β' K' (a4Z out.upd get) w'
 dom:∀k,β' k≠none->β k≠none∨(n<=k /\ k<out.n)
 fr:Fr (e1L β K get) w w'
 own:∀x,Own β' (a4Z out.upd get) x->Own β get x∨w.heap.size<=x
 knew:∀b arr,K' b=some arr->K b=some arr∨Own β get b∨w.heap.size<=b
theorem Own.mono {β β':Bt} {get get':Get} (a:BLe β β') (c:∀k b,get k=some b->get' k=some b) {x:Nat} (h:Own β get x):Own β' get' x:=by
 obtain⟨k,b,y,e,f,g⟩:=h;exact⟨k,b,y,c _ _ e,a _ _ f,g⟩
theorem Fr.mono {S c:Nat->Prop} {a b:World} (h:Fr S a b) (g:∀x,S x->c x):Fr c a b:=
 ⟨h.os,h.tape,h.output,h.size,fun k d f=>h.block k d fun e=>f (g k e)⟩
section
variable {P:Program} {Γ:Env} {β:Bt} {K:Ks} {w:World} {a:Act} {o:Oper}
theorem c4F {ι:Type} (inh:Nonempty ι) {ρ:Operand->V} {G Gc:Get} {n:Nat} {out:ι->Out} (env:a1m P Γ)
 (s:∀(l:Operand->V) (t:Get),(∀x∈o.op.operands,ρ x=l x)->(∀k∈a8m o ρ G,G k=t k)->Pre P Γ (a2f β n) K t n w l a->a0m P o a w (fun v w'=>∃z,a0U (a2f β n) K t n w (out z) v w'))
 (N:∀z,d2n o ρ G n (out z).n=true)
 (hg:∀k∈a8m o ρ G,Gc k=G k) (kok:KOK K w) (mr:MR β K Gc w) (fresh:∀z k,n<=k->k<(out z).n->β k=none) (val:∀x∈o.op.operands,VR β K (ρ x) (a.eval x)) :
 a0m P o a w (fun v w'=>∃z β' K',e8h β K Gc n w (out z) v w' β' K'):=by
 classical
 obtain⟨z0⟩:=inh;have E:=N z0;simp only[d2n,and_eq_true]at E;obtain⟨⟨⟨_,k2⟩,k3⟩,k4⟩:=E;have k2:=a6x k2;have k3:=a6x k3;have k4:=a6x k4;obtain⟨l,W⟩:∃l:Operand->V,l=fun x=>if x∈o.op.operands then ρ x else pois:=⟨_,rfl⟩
 obtain⟨t,hG⟩:∃t:Get,t=fun k=>if k∈a8m o ρ G then G k else none:=⟨_,rfl⟩
 have eρ:∀x∈o.op.operands,ρ x=l x:=fun x m=>by rw[W];dsimp only;rw[if_pos m]
 have eG:∀k∈a8m o ρ G,G k=t k:=fun k d=>by rw[hG];dsimp only;rw[if_pos d]
 have p:∀k b,t k=some b->k∈a8m o ρ G /\ G k=some b /\ Gc k=some b /\ k<n:=by
  intro k b e;rw[hG]at e;dsimp only at e;split at e
  ·rename_i d;exact⟨d,e,by rw[hg k d];exact e,k3 k d⟩
  ·cases e
 have T:Pre P Γ (a2f β n) K t n w l a:=by
  refine⟨env,kok,⟨?_,?_,?_⟩,fun k d=>d2G d,?_⟩
  ·intro k b e;obtain⟨c,C,h3,h4⟩:=p k b e;obtain⟨y,L,J⟩:=mr.blk k b h3;refine⟨y,by rw[a5q h4];exact L,J.below fun j hj=>k4 j (List.mem_flatMap.2 ⟨k,c,?_⟩)⟩;rw[C];exact hj
  ·intro k k' b b' y y' x e e' f Z g M;exact mr.sep k k' b b' y y' x (p k b e).2.2.1 (p k' b' e').2.2.1 (a6y _ _ f) (a6y _ _ Z) g M
  ·intro k b y x e f g;exact mr.ro k b y x (p k b e).2.2.1 (a6y _ _ f) g
  ·intro x;rw[W];dsimp only;split
   ·rename_i m;exact(val x m).below fun k d=>k2 k (List.mem_flatMap.2 ⟨x,by simpa using m,d⟩)
   ·exact a6a
 have s:=s l t eρ eG T;intro X Q hn;refine s X Q fun v w' h=>hn v w' ?_
 obtain⟨z,Y,K1,h⟩:=h;have fresh:=fresh z;have k1:n<=(out z).n:=by
  have:=N z;simp only[d2n,and_eq_true]at this;simpa using this.1.1.1
 refine⟨z,?_⟩;generalize out z=out at *;have r:∀x,Own (a2f β n) t x->∃k b y,k∈a8m o ρ G /\ Gc k=some b /\ β k=some y /\ y.b=some x:=by
  rintro x ⟨k,b,y,e,f,g⟩;exact⟨k,b,y,(p k b e).1,(p k b e).2.2.1,a6y _ _ f,g⟩
 have F:∀k b y x,Gc k=some b->β k=some y->y.b=some x->k ∉ a8m o ρ G->¬Own (a2f β n) t x:=by
  intro k b y x e f g d m;obtain⟨k',b',y',c,C,h3,h4⟩:=r x m;have:=mr.sep k k' b b' y y' x e C f h3 g h4;subst this;exact d c
 obtain⟨u,A⟩:∃u:Bt,u=fun k=>match β k with|some y=>some y|none=>if n<=k /\ k<out.n then Y k else none:=⟨_,rfl⟩
 have D:BLe β u:=fun k y e=>by rw[A];dsimp only;rw[e]
 have i:BLe Y u:=by
  intro k y e;have O:k<out.n:=by
   rcases Nat.lt_or_ge k out.n with c|c
   ·exact c
   ·rw[h.fresh k c]at e;cases e
  rcases Nat.lt_or_ge k n with c|c
  ·rw[h.dom k c,a5q c]at e;exact D _ _ e
  ·rw[A];dsimp only;rw[fresh k c O];dsimp only;rw[if_pos ⟨c,O⟩];exact e
 have q:∀k b,a4Z out.upd Gc k=some b->a4Z out.upd t k=some b∨(k ∉ a8m o ρ G /\ Gc k=some b):=by
  intro k b e;unfold a4Z at e ⊢;cases hq:a1D out.upd k with
  |some x=>rw[hq]at e;left;exact e
  | none =>
    rw[hq]at e;dsimp only at e ⊢;by_cases d:k∈a8m o ρ G
    ·left;rw[hG];dsimp only;rw[if_pos d,<- hg k d];exact e
    ·exact .inr ⟨d,e⟩
 have S:∀k b y x,Gc k=some b->β k=some y->y.b=some x->k ∉ a8m o ρ G->w'.heap[x]?=w.heap[x]? /\ K1 x=none:=by
  intro k b y x e f g d;have m:=mr.lt ⟨k,b,y,e,f,g⟩;have R:=F k b y x e f g d;have hnj:¬Jk K x:=mr.nj e f g;refine⟨h.fr.block x m fun c=>c.elim R hnj,?_⟩;cases hq:K1 x with
  |none=>rfl
  | some arr =>
    rcases h.knew x arr hq with c|c|c
    ·rw[mr.ro k b y x e f g]at c;cases c
    ·exact absurd c R
    ·omega
 have U:∀k b y,Gc k=some b->u k=some y->β k=some y:=by
  intro k b y e f;obtain⟨z,H,_⟩:=mr.blk k b e;have:=D _ _ H;rw[f]at this;cases this;exact H
 refine⟨u,K1,D,h.kle,h.kok,h.vr.mono i (KLe.refl _),?_,?_,h.fr.mono fun x m=>m.imp (fun m=>m.mono a6y fun k b e=>(p k b e).2.2.1) id,?_,fun b arr e=>?_⟩
 ·refine mr.step D h.kle ?_;intro k b e;rcases q k b e with c|⟨c,C⟩
  ·right;obtain⟨y,L,J⟩:=h.mr.blk k b c;refine⟨y,i _ _ L,J.mono i (KLe.refl _),fun x m=>⟨h.mr.ro k b y x c L m,fun k' b' y' e' Z M=>?_⟩⟩;rcases q k' b' e' with B|⟨B,I⟩
   ·obtain⟨z,H,_⟩:=h.mr.blk k' b' B;have:=i _ _ H;rw[Z]at this;cases this;exact h.mr.sep k' k b' b y' y x B c H L M m
   ·exfalso;have f2:=U k' b' y' I Z;rcases h.own x ⟨k,b,y,c,L,m⟩with h5|h5
    ·exact F k' b' y' x I f2 M B h5
    ·have:=mr.lt ⟨k',b',y',I,f2,M⟩;omega
  ·exact .inl ⟨C,fun x y f g=>S k b y x C f g c⟩
 ·intro k d;rw[A]at d;dsimp only at d;cases hq:β k with
  |some y=>left;simp
  | none =>
    rw[hq]at d;dsimp only at d;split at d
    ·right;assumption
    ·exact absurd rfl d
 ·rintro x ⟨k,b,y,e,f,g⟩;rcases q k b e with c|⟨c,C⟩
  ·obtain⟨z,H,_⟩:=h.mr.blk k b c;have:=i _ _ H;rw[f]at this;cases this;rcases h.own x ⟨k,b,y,c,H,g⟩with h5|h5
   ·obtain⟨k',b',y',_,h6,h7,h8⟩:=r x h5;exact .inl ⟨k',b',y',h6,h7,h8⟩
   ·exact .inr h5
  ·exact .inl ⟨k,b,y,C,U k b y C f,g⟩
 ·rcases h.knew b arr e with c|c|c
  ·exact .inl c
  ·obtain⟨k',b',y',_,h6,h7,h8⟩:=r b c;exact .inr (.inl ⟨k',b',y',h6,h7,h8⟩)
  ·exact .inr (.inr c)
theorem e8i {ρ:Operand->V} {G Gc:Get} {n:Nat} {out:Out} (env:a1m P Γ) (c:act Γ o ρ G n=some out) (g:out.ok=true) (e:d2n o ρ G n out.n=true)
 (p:∀k∈a8m o ρ G,Gc k=G k) (kok:KOK K w) (mr:MR β K Gc w) (fresh:∀k,n<=k->k<out.n->β k=none) (val:∀x∈o.op.operands,VR β K (ρ x) (a.eval x)) :
 a0m P o a w (fun v w'=>∃β' K',e8h β K Gc n w out v w' β' K'):=by
 have:=c4F (ι:=Unit) ⟨()⟩ (P:=P) (β:=β) (K:=K) (w:=w) (a:=a) (o:=o) (ρ:=ρ) (G:=G) (Gc:=Gc) (n:=n) (out:=fun _=>out) env (fun j r l m d b Q f=>by
  refine c4D d (out:=out) ?_ g b Q fun v w' i=>f v w' ⟨(),i⟩
  rw[<- c,<- b6m (ρ:=ρ) (ρ':=j) l];exact(b6n fun k q=>m k q).symm) (fun _=>e) p kok mr (fun _=>fresh) val
 intro b Q f;exact this b Q fun v w' i=>f v w' (by obtain⟨_,h⟩:=i;exact h)
end
structure FS where
 T:Nat->V
 G:Get
 n:Nat
def St.fs (s:St):FS:=⟨s.tmpV,s.get,s.n⟩
structure Res where
 v:V
 upd:List (Nat×Option Blk)
 run:Bool
def a4W (T:Nat->V):Operand->V
 |.tmp t=>T t
 |.const v=>b8h v
 |.func f => .val (.one (.fn f []))
 |.global _=>pois
theorem b8z (s:St):s.val=a4W s.fs.T:=by
 funext x;cases x<;>rfl
def c2o (T:Nat->V) (d:Option Nat) (v:V):Nat->V:=fun t=>if d=some t then v else T t
def a9U (ops:Array Oper) (g:Nat):Option Nat:=(ops[g]?).bind (·.dst)
structure a4e (Γ:Env) (ops:Array Oper) (o:Oper) (F:FS) (E:Ent) (X:Res) (F':FS):Prop where
 T:F'.T=c2o F.T o.dst X.v
 G:F'.G=a4Z X.upd F.G
 dst:a7g Γ o.dst=true
 exec:X.run=true->(o.guard=none∨∃g want t,o.guard=some (g,want) /\ a9U ops g=some t /\ F.T t=a2p want) /\
  ∃ out,act Γ o (a4W F.T) F.G F.n=some out /\ out.ok=true /\ X.v=out.v /\ X.upd=out.upd /\ F'.n=out.n /\
    E=⟨a8m o (a4W F.T) F.G,out.upd.map (·.1),d2n o (a4W F.T) F.G F.n out.n⟩
 skip:X.run=false->(∃g want t,o.guard=some (g,want) /\ a9U ops g=some t /\ (F.T t=a2p (!want)∨F.T t = .tup [])) /\ X.v = .tup [] /\ X.upd=[] /\ F'.n=F.n /\ E=⟨[],[],true⟩
theorem b3l (s:St) (d:Option Nat) (v:V):(s.putO d v).fs.T=c2o s.fs.T d v:=by
 funext t;cases d with
 |none=>rfl
 | some e =>
   unfold c2o;show(s.put e v).tmpV t=_;unfold St.tmpV St.put;simp only[a1D];by_cases h:e=t
   ·subst h;simp
   ·rw[a1A h];simp[h];rfl
theorem a1v (s:St) (d:Option Nat) (v:V):(s.putO d v).fs.G=s.fs.G /\ (s.putO d v).fs.n=s.fs.n /\ (s.putO d v).m=s.m:=by
 cases d<;>exact⟨rfl,rfl,rfl⟩
theorem a5r (s:St) (t:Nat) (v:V) (h:s.tmpV t=v):(s.put t v).fs=s.fs:=by
 unfold St.fs;have:(s.put t v).tmpV=s.tmpV:=by
  funext j;unfold St.tmpV St.put at *;simp only[a1D];by_cases e:t=j
  ·subst e;simp;exact h.symm
  ·rw[a1A e]
 rw[this];rfl
theorem c4G (s:St) (out:Out):(s.apply out).fs.G=a4Z out.upd s.fs.G:=by
 funext k;show(s.apply out).get k=a4Z out.upd s.get k;unfold St.apply St.get a4Z;dsimp only;rw[b8t];cases a1D out.upd k<;>rfl
section
variable {Γ:Env} {ops:Array Oper} {R:Type}
theorem a6z {o:Oper} {K:St->Ent->Option R} {s:St} {r:R} (h:c3U Γ o K s=some r) :
 ∃ out,act Γ o (a4W s.fs.T) s.fs.G s.fs.n=some out /\ out.ok=true /\ a7g Γ o.dst=true /\
   K ((s.apply out).putO o.dst out.v) ⟨a8m o (a4W s.fs.T) s.fs.G,out.upd.map (·.1),d2n o (a4W s.fs.T) s.fs.G s.fs.n out.n⟩=some r:=by
 unfold c3U at h;rw[b8z]at h;split at h
 ·cases h
 ·rename_i out b;split at h
  ·rename_i hd;split at h
   ·rename_i a;exact⟨out,b,a,hd,h⟩
   ·cases h
  ·cases h
theorem c2p {o:Oper} {K:St->Ent->Option R} {s:St} {r:R} (h:a7h Γ o K s=some r) :
 ∃ (s1:St) (out:Out),s1.fs=s.fs /\ s1.m=s.m /\ act Γ o (a4W s.fs.T) s.fs.G s.fs.n=some out /\ out.ok=true /\ a7g Γ o.dst=true /\
   K ((s1.apply out).putO o.dst out.v) ⟨a8m o (a4W s.fs.T) s.fs.G,out.upd.map (·.1),d2n o (a4W s.fs.T) s.fs.G s.fs.n out.n⟩=some r:=by
 unfold a7h at h;split at h
 ·split at h
  ·rename_i b g;cases b with
   | true =>
     obtain⟨out,a,d,e,c⟩:=a6z h;have f:=a5r s _ (a2p true) g;rw[f]at a c;exact⟨_,out,f,rfl,a,d,e,c⟩
   | false =>
     obtain⟨out,a,d,e,c⟩:=a6z h;have f:=a5r s _ (a2p false) g;rw[f]at a c;exact⟨_,out,f,rfl,a,d,e,c⟩
  ·cases h
 ·obtain⟨out,a,d,e,c⟩:=a6z h;exact⟨s,out,rfl,rfl,a,d,e,c⟩
theorem b3m {o:Oper} {K:St->Ent->Option R} {s:St} {r:R} (j:o.guard=none∨∃g want t,o.guard=some (g,want) /\ a9U ops g=some t /\ s.fs.T t=a2p want) (h:a7h Γ o K s=some r) :
 ∃a E X,a4e Γ ops o s.fs E X a.fs /\ a.m=s.m /\ K a E=some r:=by
 obtain⟨s1,out,b,k,c,d,f,i⟩:=c2p h;refine⟨_,_,⟨out.v,out.upd,true⟩,⟨?_,?_,f,fun _=>⟨j,out,c,d,rfl,rfl,?_,rfl⟩,(fun e=>by cases e)⟩,?_,i⟩
 ·rw[b3l];show c2o (s1.apply out).fs.T o.dst out.v=_;rw[show(s1.apply out).fs.T=s1.fs.T from rfl,b]
 ·rw[(a1v _ _ _).1,c4G,b]
 ·rw[(a1v _ _ _).2.1];rfl
 ·rw[(a1v _ _ _).2.2];exact k
theorem b3n {o:Oper} {K:St->Ent->Option R} {s:St} {r:R} (b:∃g want t,o.guard=some (g,want) /\ a9U ops g=some t /\ (s.fs.T t=a2p (!want)∨s.fs.T t = .tup [])) (h:a7W Γ o K s=some r) :
 ∃a E X,a4e Γ ops o s.fs E X a.fs /\ a.m=s.m /\ K a E=some r:=by
 unfold a7W at h;split at h
 ·rename_i hd;refine⟨_,_,⟨.tup [],[],false⟩,⟨b3l s o.dst _,?_,hd,(fun e=>by cases e),fun _=>⟨b,rfl,rfl,(a1v _ _ _).2.1,rfl⟩⟩,(a1v _ _ _).2.2,h⟩;rw[(a1v _ _ _).1];rfl
 ·cases h
theorem b3o {o:Oper} {L:List Oper} {s:St} {w:List Ent} {K:St->List Ent->Option R} {r:R} (h:b0n Γ ops (o::L) s w K=some r) :
 ∃a E X,a4e Γ ops o s.fs E X a.fs /\ a.m=s.m /\ b0n Γ ops L a (E::w) K=some r:=by
 unfold b0n at h;split at h
 ·rename_i f;exact b3m (.inl f) h
 ·rename_i g want f;split at h
  ·cases h
  ·rename_i t p;split at h
   ·rename_i b n;have j:s.fs.T t=a2p b:=n;have d:∀{s1:St} {K':St->Ent->Option R},s1.fs=s.fs->s1.m=s.m->∀c,b=c->(want=c->a7h Γ o K' s1=some r->∃a E X,a4e Γ ops o s.fs E X a.fs /\ a.m=s.m /\ K' a E=some r) /\
     (want=!c->a7W Γ o K' s1=some r->∃a E X,a4e Γ ops o s.fs E X a.fs /\ a.m=s.m /\ K' a E=some r):=by
     intro s1 K' i v c x;subst x;refine⟨fun q u=>?_,fun q u=>?_⟩
     ·obtain⟨a,E,X,k,l,m⟩:=b3m (ops:=ops) (.inr ⟨g,want,t,f,p,by rw[i,q];exact j⟩) u;exact⟨a,E,X,by rw[<- i];exact k,l.trans v,m⟩
     ·obtain⟨a,E,X,k,l,m⟩:=b3n (ops:=ops) ⟨g,want,t,f,p,.inl (by rw[i,q,Bool.not_not];exact j)⟩ u;exact⟨a,E,X,by rw[<- i];exact k,l.trans v,m⟩
    cases b with
    | true =>
      have e:=a5r s t (a2p true) j;cases want with
      |true=>exact(d e rfl true rfl).1 rfl h
      |false=>exact(d e rfl true rfl).2 rfl h
    | false =>
      have e:=a5r s t (a2p false) j;cases want with
      |true=>exact(d e rfl false rfl).2 rfl h
      |false=>exact(d e rfl false rfl).1 rfl h
   ·rename_i n;exact b3n ⟨g,want,t,f,p,.inr n⟩ h
   ·cases h
def e1W {α:Type} (x:α) (f:Nat->α):Nat->α
 |0=>x
 |i+1=>f i
theorem b1K:∀(L:List Oper) {s:St} {b:List Ent} {K:St->List Ent->Option R} {r:R},b0n Γ ops L s b K=some r ->
 ∃ (F:Nat->FS) (E:Nat->Ent) (X:Nat->Res) (a:St),F 0=s.fs /\ F L.length=a.fs /\ a.m=s.m /\ (∀i o,L[i]?=some o->a4e Γ ops o (F i) (E i) (X i) (F (i+1))) /\
   K a (((List.range L.length).map E).reverse++b)=some r
 |[],s,b,K,r,h=>⟨fun _=>s.fs,fun _=>⟨[],[],true⟩,fun _=>⟨.tup [],[],true⟩,s,rfl,rfl,rfl,fun i o e=>by simp at e,by simpa[b0n]using h⟩
 | o::L,s,b,K,r,h=>by
   obtain⟨s1,c,d,l,m,n⟩:=b3o h;obtain⟨F,E,X,a,f,fl,j,k,g⟩:=b1K L n;refine⟨e1W s.fs F,e1W c E,e1W d X,a,rfl,fl,j.trans m,?_,?_⟩
   ·intro i o' e;cases i with
    | zero =>
      simp only[List.getElem?_cons_zero,injEq]at e;subst e;show a4e Γ ops o s.fs c d (F 0);rw[f];exact l
    |succ i=>exact k i o' (by simpa using e)
   ·rw[<- g];congr 1;rw[List.length_cons,List.range_succ_eq_map,List.map_cons,List.map_map,List.reverse_cons,List.append_assoc];rfl
end
structure a5E where
 β:Bt
 K:Ks
 w:World
 m:Nat
 S:Nat->Prop
def a5E.J (z:a5E) (x:Nat):Prop:=z.S x∨Jk z.K x
theorem f9e {z:a5E} {β:Bt} {K:Ks} {get:Get} (own:∀x,Own β get x->z.S x∨z.w.heap.size<=x) (knew:∀b arr,K b=some arr->z.K b=some arr∨z.S b∨z.w.heap.size<=b) :
 ∀x,x<z.w.heap.size->e1L β K get x->z.J x:=by
 rintro x c (h|⟨arr,e⟩)
 ·exact .inl ((own x h).resolve_right (by omega))
 ·rcases knew x _ e with a|a|a
  ·exact .inr ⟨arr,a⟩
  ·exact .inl a
  ·omega
structure SRf (P:Program) (Γ:Env) (z:a5E) (β:Bt) (K:Ks) (F:FS) (a:Act) (w:World):Prop where
 tmp:∀t,VR β K (F.T t) (a.tmps.getD t undef)
 nt:a.tmps.size=Γ.nt
 defers:a.defers=[]
 kok:KOK K w
 mr:MR β K F.G w
 fresh:∀k,F.n<=k->β k=none
 kle:KLe z.K K
 knew:∀b arr,K b=some arr->z.K b=some arr∨z.S b∨z.w.heap.size<=b
 fr:Fr z.J z.w w
 own:∀x,Own β F.G x->z.S x∨z.w.heap.size<=x
 ble:∀k h,k<z.m->z.β k=some h->β k=some h
 le:z.m<=F.n
theorem a8O {β β':Bt} {K K':Ks} {a:Act} {Γ:Env} {T:Nat->V} {d:Option Nat} {x:V} {v:Value} (h:∀t,VR β K (T t) (a.tmps.getD t undef)) (f:BLe β β') (g:KLe K K') (b:a.tmps.size=Γ.nt) (hd:a7g Γ d=true) (k:VR β' K' x v) :
 (∀t,VR β' K' (c2o T d x t) ((a.put d v).tmps.getD t undef)) /\ (a.put d v).tmps.size=Γ.nt /\ (a.put d v).defers=a.defers:=by
 cases d with
 |none=>exact⟨fun t=>(h t).mono f g,b,rfl⟩
 | some e =>
   have j:e<a.tmps.size:=by rw[b];simpa[a7g,Nat.blt_eq]using hd
   refine⟨fun t=>?_,by simpa[Act.put]using b,rfl⟩;unfold c2o;by_cases c:e=t
   ·subst c;rw[if_pos rfl];have:(a.put (some e) v).tmps.getD e undef=v:=by simp[Act.put,j]
    rw[this];exact k
   ·rw[if_neg (fun i=>c (by cases i;rfl))];have:(a.put (some e) v).tmps.getD t undef=a.tmps.getD t undef:=by simp[Act.put,Array.getElem?_setIfInBounds_ne c]
    rw[this];exact(h t).mono f g
theorem b3p {β:Bt} {K:Ks} (v:Value):CR β K (b8g v) v:=by
 cases v with
 |bool b=>rfl
 |int k n=>rfl
 |float k b=>exact⟨b,rfl,FEq.refl k b⟩
 |complex k x y=>exact⟨x,y,rfl,FEq.refl k x,FEq.refl k y⟩
 |string s=>rfl
 |_=>trivial
theorem a8P {β:Bt} {K:Ks} (v:Value):VR β K (b8h v) v:=by
 have a:∀v,VR β K (.val (.one (b8g v))) v:=fun v=>b3p v
 cases v with
 | agg cs =>
   refine⟨cs,rfl,?_⟩;generalize cs.toList=l
   induction l with
   |nil=>trivial
   |cons x r b=>exact⟨b3p x,b⟩
 |_=>simp only[b8h];exact a _
theorem a8Q {β:Bt} {K:Ks} {T:Nat->V} {a:Act} (h:∀t,VR β K (T t) (a.tmps.getD t undef)) (x:Operand):VR β K (a4W T x) (a.eval x):=by
 cases x with
 |tmp t=>exact h t
 |const v=>exact a8P v
 |global g=>exact a6a
 |func f=>exact⟨[],rfl,trivial⟩
section
variable {P:Program} {Γ:Env} {z:a5E} {ops:Array Oper} {Q:Exit->Act->World->Prop}
theorem b0w {a:Act} {g t:Nat} {b:Bool} (c:a9U ops g=some t) (h:a.tmps.getD t undef = .bool b):yielded ops a.tmps g=some b:=by
 have d:a.tmps[t]?=some (.bool b):=by
  cases hq:a.tmps[t]? with
  |none=>simp[hq,undef]at h
  |some v=>simp[hq]at h;rw[h]
 unfold yielded;unfold a9U at c;rw[c];simp[d]
theorem c4H {a:Act} {g t:Nat} {arr:Array Value} (b:a9U ops g=some t) (h:a.tmps.getD t undef = .tuple arr):yielded ops a.tmps g=none:=by
 unfold yielded;unfold a9U at b;rw[b];cases hq:a.tmps[t]? with
 |none=>simp[hq]
 |some v=>simp[hq]at h;simp[hq,h]
theorem a7p {β:Bt} {K:Ks} {a:Act} {o:Oper} {F F':FS} {E:Ent} {X:Res} {T:Nat->V} (h:a4e Γ ops o F E X F')
 (f:∀g want t,o.guard=some (g,want)->a9U ops g=some t->VR β K (F.T t) (a.tmps.getD t undef)):Region.wanted o (yielded ops a.tmps)=X.run:=by
 cases hr:X.run with
 | true =>
   rcases (h.exec hr).1 with b|⟨g,want,t,b,d,c⟩
   ·simp[Region.wanted,b]
   ·have:=f g want t b d;rw[c]at this;simp[Region.wanted,b,b0w d this]
 | false =>
   obtain⟨⟨g,want,t,b,d,c⟩,_⟩:=h.skip hr;have:=f g want t b d;rcases c with c|c
   ·rw[c]at this;simp[Region.wanted,b,b0w d this]
   ·rw[c]at this;obtain⟨arr,e,_⟩:=this;simp[Region.wanted,b,c4H d e]
theorem SRf.next {β β':Bt} {K K':Ks} {F F':FS} {a:Act} {w w':World} {d:Option Nat} {x:V} {v:Value} {out:Out} (h:SRf P Γ z β K F a w) (hd:a7g Γ d=true)
 (c:a8z β K F.G F.n w out v w' β' K') (o:F'.T=c2o F.T d out.v) (g:F'.G=a4Z out.upd F.G) (i:F'.n=out.n):SRf P Γ z β' K' F' (a.put d v) w':=by
 obtain⟨l,m,n⟩:=a8O h.tmp c.ble c.kle h.nt hd c.vr;refine⟨by rw[o];exact l,m,n.trans h.defers,c.kok,by rw[g];exact c.mr,by rw[i];exact c.fresh,h.kle.trans c.kle,?_,?_,?_,fun k y p e=>c.ble _ _ (h.ble k y p e),by rw[i];exact Nat.le_trans h.le c.le⟩
 ·intro b arr e;rcases c.knew b arr e with f|f|f
  ·exact h.knew b arr f
  ·exact .inr (h.own b f)
  ·exact .inr (.inr (Nat.le_trans h.fr.size f))
 ·exact h.fr.trans c.fr (f9e h.own h.knew)
 ·intro x j;rw[g]at j;rcases c.own x j with f|f
  ·exact h.own x f
  ·exact .inr (Nat.le_trans h.fr.size f)
theorem SRf.skip {β:Bt} {K:Ks} {F F':FS} {a:Act} {w:World} {d:Option Nat} (h:SRf P Γ z β K F a w) (hd:a7g Γ d=true) (i:F'.T=c2o F.T d (.tup [])) (b:F'.G=F.G) (c:F'.n=F.n) :
 SRf P Γ z β K F' (a.put d undef) w:=by
 obtain⟨e,f,g⟩:=a8O (x := .tup []) (v:=undef) h.tmp (BLe.refl β) (KLe.refl K) h.nt hd ⟨#[],rfl,trivial⟩;exact⟨by rw[i];exact e,f,g.trans h.defers,h.kok,by rw[b];exact h.mr,by rw[c];exact h.fresh,h.kle,h.knew,h.fr,by rw[b];exact h.own,h.ble,by rw[c];exact h.le⟩
theorem b6o (env:a1m P Γ) {F:Nat->FS} {E:Nat->Ent} {X:Nat->Res} (s:∀i o,ops[i]?=some o->a4e Γ ops o (F i) (E i) (X i) (F (i+1)))
 (q:∀β K a w,SRf P Γ z β K (F ops.size) a w->Q .normal a w):∀(k i:Nat),i+k=ops.size->∀β K a w,SRf P Γ z β K (F i) a w->wpOps P ops Q (List.range' i k) a w:=by
 intro k
 induction k with
 | zero =>
   intro i r β K a w h;have:i=ops.size:=by omega
   subst this;exact q β K a w h
 | succ k l =>
   intro i r β K a w h;rw[List.range'_succ,wpOps_cons];have f:i<ops.size:=by omega
   have j:ops[i]?=some ops[i]:=Array.getElem?_eq_getElem f;have b:=s i _ j;have u:=a7p (β:=β) (K:=K) (a:=a) (T:=(F i).T) b fun _ _ t _ _=>h.tmp t
   unfold wpOp;rw[j];dsimp only;rw[u];cases hr:(X i).run with
   | true =>
     rw[if_pos rfl];left;obtain⟨_,out,c,d,e,m,p,_⟩:=b.exec hr;refine c4D (ρ:=a4W (F i).T) (get:=(F i).G) (n:=(F i).n) ⟨env,h.kok,h.mr,h.fresh,fun x=>a8Q h.tmp x⟩ c d _ _ fun v w' g=>?_
     obtain⟨β',K',g⟩:=g;exact l (i+1) (by omega) β' K' _ _ (h.next (x:=out.v) b.dst g (by rw[b.T,e]) (by rw[b.G,m]) p)
   | false =>
     rw[if_neg (by simp)];obtain⟨_,c,d,e,_⟩:=b.skip hr;exact l (i+1) (by omega) β K _ _ (h.skip b.dst (by rw[b.T,c]) (by rw[b.G,d];rfl) e)
def TD (T0:Nat->V) (dst:Nat->Option Nat) (v:Nat->V) (D:Nat->Bool):Nat->Nat->V
 |0,t=>T0 t
 |i+1,t=>if D i=true /\ dst i=some t then v i else TD T0 dst v D i t
def GD (G0:Get) (upd:Nat->List (Nat×Option Blk)) (D:Nat->Bool):Nat->Get
 |0=>G0
 |i+1=>if D i=true then a4Z (upd i) (GD G0 upd D i)else GD G0 upd D i
def b0a (D:Nat->Bool) (i:Nat):Nat->Bool:=fun k=>D k||beq k i
section
variable {T0:Nat->V} {dst:Nat->Option Nat} {vs:Nat->V} {G0:Get} {upd:Nat->List (Nat×Option Blk)} {D D':Nat->Bool}
theorem a6A {t:Nat}:∀(N:Nat),(∀p,p<N->dst p=some t->D p=D' p)->TD T0 dst vs D N t=TD T0 dst vs D' N t
 |0,_=>rfl
 | N+1,h=>by
   simp only[TD];rw[a6A N fun p a e=>h p (by omega) e];by_cases e:dst N=some t
   ·rw[h N (by omega) e]
   ·rw[if_neg (fun h=>e h.2),if_neg (fun h=>e h.2)]
theorem b3q {α:Type}:∀{l:List (Nat×α)} {k:Nat},k ∉ l.map (·.1)->a1D l k=none
 |[],k,_=>rfl
 | (j,x)::r,k,h=>by
   simp only[List.map_cons,List.mem_cons,not_or]at h;simp only[a1D];rw[a1A (fun e=>h.1 e.symm)];exact b3q h.2
theorem a5s {l:List (Nat×Option Blk)} {g:Get} {k:Nat} (h:k ∉ l.map (·.1)):a4Z l g k=g k:=by
 unfold a4Z;rw[b3q h]
theorem b6p {l:List (Nat×Option Blk)} {g a:Get} {k:Nat} (h:g k=a k):a4Z l g k=a4Z l a k:=by
 unfold a4Z;rw[h]
theorem a6B {k:Nat}:∀(N:Nat),(∀p,p<N->k∈(upd p).map (·.1)->D p=D' p)->GD G0 upd D N k=GD G0 upd D' N k
 |0,_=>rfl
 | N + 1,h=>by
   have a:=a6B N fun p d e=>h p (by omega) e
   simp only[GD];by_cases e:k∈(upd N).map (·.1)
   ·rw[h N (by omega) e];split
    ·exact b6p a
    ·exact a
   ·have b:∀(g:Get),(if D N=true then a4Z (upd N) g else g) k=g k:=by
     intro g;split
     ·exact a5s e
     ·rfl
    have c:∀(g:Get),(if D' N=true then a4Z (upd N) g else g) k=g k:=by
     intro g;split
     ·exact a5s e
     ·rfl
    rw[b,c,a]
theorem a3q {i p:Nat} (h:p≠i):b0a D i p=D p:=by simp[b0a,a1A h]
theorem a2g {i:Nat}:b0a D i i=true:=by simp[b0a]
theorem d6x {i:Nat} {t:Nat} (b:D i=false):∀(N:Nat),i<N->(∀p,i<p->p<N->D p=true->∀t,dst i=some t->dst p≠some t) ->
 TD T0 dst vs (b0a D i) N t=c2o (TD T0 dst vs D N) (dst i) (vs i) t
 |0,h,_=>by omega
 | N+1,hlt,h=>by
   by_cases a:i=N
   ·subst a;simp only[TD,a2g,b,true_and,Bool.false_eq_true,false_and,if_false,c2o];rw[a6A (D':=D) i fun p j _=>a3q (by omega)]
   ·have f:=d6x (t:=t) b N (by omega) fun p d g=>h p d (by omega)
    simp only[TD];rw[a3q (fun e=>a e.symm),f];unfold c2o;dsimp only;by_cases e:D N=true /\ dst N=some t
    ·rw[if_pos e,if_neg fun c=>h N (by omega) (by omega) e.1 t c e.2,if_pos e]
    ·rw[if_neg e,if_neg e]
theorem d6y {i:Nat} {k:Nat} (g:D i=false):∀(N:Nat),i<N->(∀p,i<p->p<N->D p=true->k∈(upd i).map (·.1)->k ∉ (upd p).map (·.1)) ->
 GD G0 upd (b0a D i) N k=a4Z (upd i) (GD G0 upd D N) k
 |0,h,_=>by omega
 | N + 1,hlt,h=>by
   by_cases f:i=N
   ·subst f;simp only[GD,a2g,g,Bool.false_eq_true,if_false,if_true];exact b6p (a6B (D':=D) i fun p m _=>a3q (by omega))
   ·have c:=d6y (k:=k) g N (by omega) fun p j l=>h p j (by omega)
    simp only[GD];rw[a3q (fun e=>f e.symm)];cases hD:D N with
    |false=>simp only[Bool.false_eq_true,if_false];exact c
    | true =>
      simp only[if_true];by_cases d:k∈(upd i).map (·.1)
      ·have a:=h N (by omega) (by omega) hD d;rw[a5s a,c];unfold a4Z;cases hl:a1D (upd i) k with
       |some b=>rfl
       | none =>
         dsimp only;exact(a5s a).symm
      ·rw[a5s d];rw[a5s d]at c;exact b6p c
theorem c4I {i:Nat} {t:Nat}:∀(N:Nat),i<=N->TD T0 dst vs (fun p=>Nat.blt p i) N t=TD T0 dst vs (fun _=>true) i t
 | 0,h=>by
   have:i=0:=by omega
   subst this;rfl
 | N+1,h=>by
   by_cases a:i=N+1
   ·subst a;exact a6A _ fun p b _=>by simpa[Nat.blt_eq]using b
   ·simp only[TD];rw[if_neg (fun e=>by have:=e.1;simp[Nat.blt_eq]at this;omega)];exact c4I N (by omega)
theorem c4J {i:Nat}:∀(N:Nat),i<=N->GD G0 upd (fun p=>Nat.blt p i) N=GD G0 upd (fun _=>true) i
 | 0,h=>by
   have:i=0:=by omega
   subst this;rfl
 | N+1,h=>by
   by_cases a:i=N+1
   ·subst a;funext k;exact a6B _ fun p b _=>by simpa[Nat.blt_eq]using b
   ·simp only[GD];rw[if_neg (fun e=>by simp[Nat.blt_eq]at e;omega)];exact c4J N (by omega)
end
def a8c (D:Nat->Bool) (o:Oper):Prop:=∀e∈o.after,Region.binds .any e=true->D e.on=true
theorem a8R {a:List Nat} {j:Nat}:∀{l:List Edge},(c2c a l).testBit j=true->∃e∈l,Region.binds .any e=true /\ (j=e.on∨(a.getD e.on 0).testBit j=true)
 |[],h=>by simp[c2c]at h
 | e :: r,h=>by
   unfold c2c at h;split at h
   ·rename_i f;simp only[Nat.lor_eq,Nat.shiftLeft_eq',Nat.testBit_or,Bool.or_eq_true]at h;rcases h with(h|h)|h
    ·refine⟨e,List.mem_cons_self ..,f,.inl ?_⟩;rw[Nat.one_shiftLeft,Nat.testBit_two_pow]at h;simpa using(of_decide_eq_true h).symm
    ·exact⟨e,List.mem_cons_self ..,f,.inr h⟩
    ·obtain⟨b,c,d⟩:=a8R h;exact⟨b,List.mem_cons_of_mem _ c,d⟩
   ·obtain⟨b,c,d⟩:=a8R h;exact⟨b,List.mem_cons_of_mem _ c,d⟩
theorem b1L {D:Nat->Bool}:∀(L:List Oper) (a:List Nat),(∀i o,L[i]?=some o->D (a.length+i)=true->a8c D o)->(∀p x,a[p]?=some x->D p=true->∀j,x.testBit j=true->D j=true) ->
 ∀p x,(c4f L a)[p]?=some x->D p=true->∀j,x.testBit j=true->D j=true
 |[],a,_,h=>h
 | o :: L,a,hc,h=>by
   unfold c4f;refine b1L L _ ?_ ?_
   ·intro i o' e c;refine hc (i+1) o' (by simpa using e) ?_;rw[<- c];congr 1;simp;omega
   ·intro p x e c j l;rw[List.getElem?_append]at e;split at e
    ·exact h p x e c j l
    ·rename_i q;have d:p-a.length=0:=by
      have:=(List.getElem?_eq_some_iff.1 e).1;simpa using this
     rw[d]at e;simp only[List.getElem?_cons_zero,injEq]at e;subst e;have f:p=a.length:=by omega
     subst f;obtain⟨g,m,n,b⟩:=a8R l;have k:=hc 0 o rfl (by simpa using c) g (by simpa using m) n;rcases b with rfl|b
     ·exact k
     ·rw[List.getD_eq_getElem?_getD]at b;cases hq:a[g.on]? with
      |none=>rw[hq]at b;simp at b
      | some y =>
        rw[hq]at b;exact h _ y hq k j (by simpa using b)
theorem a4C:∀(L:List Oper) (a:List Nat),(c4f L a).length=a.length+L.length
 |[],a=>by simp[c4f]
 |o::L,a=>by unfold c4f;rw[a4C L];simp;omega
def c4K (ops:Array Oper) (a j:Nat) (o o':Oper) (e b:Ent):Prop:=a.testBit j=true∨(d2o e b=true /\ b8j ops o o'=true)
theorem a6C {a:Nat} {o:Oper} {e:Ent}:∀{l:List (Nat×Oper×Ent)},a8n ops a o e l=true->∀j o' c,(j,o',c)∈l->c4K ops a j o o' e c
 |[],_,_,_,_,h=>by cases h
 | (i,x,y)::r,h,j,o',c,b=>by
   simp only[a8n,and_eq_true]at h;rcases List.mem_cons.1 b with b|b
   ·have d:=h.1;have g:j=i:=congrArg (fun x:Nat×Oper×Ent=>x.1) b;have k:o'=x:=congrArg (fun x:Nat×Oper×Ent=>x.2.1) b;have f:c=y:=congrArg (fun x:Nat×Oper×Ent=>x.2.2) b;rw[g,k,f];cases hb:Nat.testBit a i with
    |true=>exact .inl hb
    | false =>
      rw[hb]at d;exact .inr (by simpa using d)
   ·exact a6C h.2 j o' c b
theorem a8S:∀{as1:List Nat} {L:List Oper} {d:List Ent} {i:Nat} {b:List (Nat×Oper×Ent)},b8k ops as1 (b1A i L d) b=true->∀p a o e,as1[p]?=some a->L[p]?=some o->d[p]?=some e ->
 (∀j o' c,(j,o',c)∈b->c4K ops a j o o' e c) /\ ∀q o' c,q<p->L[q]?=some o'->d[q]?=some c->c4K ops a (i+q) o o' e c
 |[],_,_,_,_,_,_,_,_,_,h,_,_=>by simp at h
 |_::_,[],_,_,_,_,_,_,_,_,_,h,_=>by simp at h
 |_::_,_::_,[],_,_,_,_,_,_,_,_,_,h=>by simp at h
 | a0::as1,o0::L,e0::d,i,b,h,p,a,o,e,h1,h2,h3=>by
   simp only[b1A,b8k,and_eq_true]at h;cases p with
   | zero =>
     simp only[List.getElem?_cons_zero,injEq]at h1 h2 h3;subst h1;subst h2;subst h3;exact⟨a6C h.1,fun q _ _ n=>by omega⟩
   | succ p =>
     obtain⟨k,l⟩:=a8S h.2 p a o e (by simpa using h1) (by simpa using h2) (by simpa using h3);refine⟨fun j o' c m=>k j o' c (List.mem_cons_of_mem _ m),fun q o' c n f g=>?_⟩;cases q with
     | zero =>
       simp only[List.getElem?_cons_zero,injEq]at f g;subst f;subst g;exact k i o0 e0 (List.mem_cons_self ..)
     | succ q =>
       have:=l q o' c (by omega) (by simpa using f) (by simpa using g);rw[show i+(q+1)=i+1+q by omega];exact this
theorem a8T:∀{L:List Oper} {i:Nat},b8l i L=true->∀p o,L[p]?=some o->∀e∈o.after,Region.binds .any e=true->e.on<i+p
 |[],_,_,_,_,h,_,_,_=>by simp at h
 | o0::L,i,h,p,o,ho,e,he,hb=>by
   simp only[b8l,and_eq_true,List.all_eq_true]at h;cases p with
   | zero =>
     simp only[List.getElem?_cons_zero,injEq]at ho;subst ho;have:=h.1 e (by simpa using he);rw[hb]at this;simpa[Nat.blt_eq]using this
   | succ p =>
     have:=a8T h.2 p o (by simpa using ho) e he hb;omega
theorem a6D:∀{l l':List Nat},e6K l l'=true->∀k∈l,k ∉ l'
 |[],_,_,_,h=>by cases h
 | x::r,l',h,k,a=>by
   unfold e6K at h;split at h
   ·cases h
   ·rename_i b;rcases List.mem_cons.1 a with rfl|a
    ·exact a4b b
    ·exact a6D h k a
structure e8j (a b:Ent):Prop where
 fu:∀k∈a.fp,k ∉ b.up
 uf:∀k∈b.fp,k ∉ a.up
 uu:∀k∈a.up,k ∉ b.up
theorem c2q {a b:Ent} (h:d2o a b=true):e8j a b:=by
 simp only[d2o,and_eq_true]at h;exact⟨a6D h.1.1,a6D h.1.2,a6D h.2⟩
structure e8k (ops:Array Oper) (x y:Oper):Prop where
 xy:∀d,x.dst=some d->d ∉ looks ops y
 yx:∀d,y.dst=some d->d ∉ looks ops x
 dd:∀d,x.dst=some d->y.dst≠some d
theorem c2r {x y:Oper} (h:b8j ops x y=true):e8k ops x y:=by
 simp only[b8j,and_eq_true]at h;refine⟨fun d hd=>?_,fun d hd=>?_,fun d hd a=>?_⟩
 ·have:=h.1.1;rw[hd]at this;exact a4b (by simpa using this)
 ·have:=h.1.2;rw[hd]at this;exact a4b (by simpa using this)
 ·have:=h.2;rw[hd,a]at this;simp at this
structure g6z (ops:Array Oper) (E:Nat->Ent) (i j:Nat):Prop where
 ind:e8j (E i) (E j)
 apart:∀o o',ops[i]?=some o->ops[j]?=some o'->e8k ops o o'
theorem b3r {E:Nat->Ent} (h:b2V ops (((List.range ops.size).map E).reverse++[])=true) :
 (∀(D:Nat->Bool),(∀i o,ops[i]?=some o->D i=true->a8c D o)->∀i j,j<i->i<ops.size->D i=true->D j=false->g6z ops E i j) /\
 (∀i o,ops[i]?=some o->∀e∈o.after,Region.binds .any e=true->e.on<i) /\ ∀i,i<ops.size->(E i).kb=true:=by
 simp only[b2V,List.append_nil,List.reverse_reverse,and_eq_true]at h;obtain⟨⟨t,u⟩,v⟩:=h;refine⟨?_,?_,?_⟩
 ·intro D w i j z a c d;have b:i<(c4f ops.toList []).length:=by rw[a4C];simpa using a
  have s:=List.getElem?_eq_getElem b;have n:ops.toList[i]?=some ops[i]:=by rw[Array.getElem?_toList];exact Array.getElem?_eq_getElem a
  have q:ops.toList[j]?=some ops[j]:=by rw[Array.getElem?_toList];exact Array.getElem?_eq_getElem (by omega)
  have l:((List.range ops.size).map E)[i]?=some (E i):=by simp[a]
  have m:((List.range ops.size).map E)[j]?=some (E j):=by rw[List.getElem?_map,List.getElem?_range (by omega)];rfl
  have:=(a8S t i _ _ _ s n l).2 j _ _ z q m;rw[Nat.zero_add]at this;rcases this with f|⟨g,k⟩
  ·have:=b1L (D:=D) ops.toList [] (fun i o e hd=>w i o (by rw[<- Array.getElem?_toList];exact e) (by simpa using hd)) (fun p x e=>by simp at e) i _ s c j f;rw[d]at this;cases this
  ·refine⟨c2q g,fun o o' e r=>?_⟩;rw[Array.getElem?_eq_getElem a]at e;rw[Array.getElem?_eq_getElem (by omega)]at r;cases e;cases r;exact c2r k
 ·intro i o A e y f;have:=a8T u i o (by rw[Array.getElem?_toList];exact A) e y f;omega
 ·intro i a;have:=List.all_eq_true.1 v (E i) (by
   rw[List.mem_reverse,List.mem_map];exact⟨i,by simpa using a,rfl⟩)
  exact this
end
def cnt (D:Nat->Bool):Nat->Nat
 |0=>0
 |i+1=>(if D i=true then 0 else 1)+cnt D i
theorem b1M {D:Nat->Bool}:∀{N:Nat},cnt D N=0->∀i,i<N->D i=true
 |0,_,_,h=>by omega
 | N+1,h,i,hi=>by
   simp only[cnt]at h;by_cases e:D N=true
   ·rw[if_pos e]at h;by_cases a:i=N
    ·subst a;exact e
    ·exact b1M (N:=N) (D:=D) (by omega) i (by omega)
   ·rw[if_neg e]at h;omega
theorem b3s {D D':Nat->Bool}:∀{N:Nat},(∀i,i<N->D i=D' i)->cnt D N=cnt D' N
 |0,_=>rfl
 | N+1,h=>by
   simp only[cnt];rw[h N (by omega),b3s fun i a=>h i (by omega)]
theorem b6q {D:Nat->Bool} {i:Nat} (b:D i=false):∀{N:Nat},i<N->cnt (b0a D i) N+1=cnt D N
 |0,h=>by omega
 | N+1,h=>by
   simp only[cnt];by_cases a:i=N
   ·subst a;rw[a2g,b,b3s (D':=D) fun j c=>a3q (by omega)];simp;omega
   ·have:=b6q b (N:=N) (by omega);rw[a3q (fun e=>a e.symm)];omega
section
variable {P:Program} {Γ:Env} {z:a5E} {ops:Array Oper} {Q:Exit->Act->World->Prop} {F:Nat->FS} {E:Nat->Ent} {X:Nat->Res}
structure Rgn (Γ:Env) (ops:Array Oper) (F:Nat->FS) (E:Nat->Ent) (X:Nat->Res):Prop where
 step:∀i o,ops[i]?=some o->a4e Γ ops o (F i) (E i) (X i) (F (i+1))
 both:∀(D:Nat->Bool),(∀i o,ops[i]?=some o->D i=true->a8c D o)->∀i j,j<i->i<ops.size->D i=true->D j=false->g6z ops E i j
 edge:∀i o,ops[i]?=some o->∀e∈o.after,Region.binds .any e=true->e.on<i
 kb:∀i,i<ops.size->(E i).kb=true
abbrev TX (ops:Array Oper) (F:Nat->FS) (X:Nat->Res) (D:Nat->Bool):Nat->V:=TD (F 0).T (a9U ops) (fun i=>(X i).v) D ops.size
abbrev GX (ops:Array Oper) (F:Nat->FS) (X:Nat->Res) (D:Nat->Bool):Get:=GD (F 0).G (fun i=>(X i).upd) D ops.size
theorem a8U {i:Nat} {o:Oper} (h:ops[i]?=some o):a9U ops i=o.dst:=by unfold a9U;rw[h];rfl
theorem Rgn.up (R:Rgn Γ ops F E X) {i:Nat} {o:Oper} (h:ops[i]?=some o):(E i).up=(X i).upd.map (·.1):=by
 have c:=R.step i o h;cases hr:(X i).run with
 |true=>obtain⟨_,out,_,_,_,a,_,b⟩:=c.exec hr;rw[b,a]
 |false=>obtain⟨_,_,a,_,b⟩:=c.skip hr;rw[b,a];rfl
theorem Rgn.T (R:Rgn Γ ops F E X):∀i,i<=ops.size->(F i).T=TD (F 0).T (a9U ops) (fun i=>(X i).v) (fun _=>true) i
 |0,_=>rfl
 | i+1,h=>by
   have a:ops[i]?=some ops[i]:=Array.getElem?_eq_getElem (by omega);rw[(R.step i _ a).T,R.T i (by omega)];funext t;simp only[TD,c2o,a8U a,true_and]
theorem Rgn.G (R:Rgn Γ ops F E X):∀i,i<=ops.size->(F i).G=GD (F 0).G (fun i=>(X i).upd) (fun _=>true) i
 |0,_=>rfl
 | i+1,h=>by
   have a:ops[i]?=some ops[i]:=Array.getElem?_eq_getElem (by omega);rw[(R.step i _ a).G,R.G i (by omega)];simp only[GD,if_true]
theorem Rgn.n1 (R:Rgn Γ ops F E X) {i:Nat} (h:i<ops.size):(F i).n<=(F (i+1)).n:=by
 have d:ops[i]?=some ops[i]:=Array.getElem?_eq_getElem h;have b:=R.step i _ d;cases hr:(X i).run with
 | true =>
   obtain⟨_,out,_,_,_,_,a,c⟩:=b.exec hr;have:=R.kb i h;rw[c]at this;simp only[d2n,and_eq_true]at this;rw[a];simpa using this.1.1.1
 |false=>obtain⟨_,_,_,a,_⟩:=b.skip hr;omega
theorem Rgn.n (R:Rgn Γ ops F E X) {i:Nat}:∀{j:Nat},i<=j->j<=ops.size->(F i).n<=(F j).n
 | 0,h,_=>by
   have:i=0:=by omega
   subst this;exact le_refl _
 | j+1,h,h'=>by
   by_cases e:i=j+1
   ·subst e;exact le_refl _
   ·exact Nat.le_trans (R.n (j:=j) (by omega) (by omega)) (R.n1 (by omega))
def a2I (ops:Array Oper) (D:Nat->Bool):Prop:=∀i o,ops[i]?=some o->D i=true->a8c D o
theorem a2I.add {D:Nat->Bool} (h:a2I ops D) {i:Nat} {o:Oper} (k:ops[i]?=some o) (g:a8c D o):a2I ops (b0a D i):=by
 intro j o' c d e f a;by_cases b:j=i
 ·subst b;rw[k]at c;cases c;simp[b0a,g e f a]
 ·rw[a3q b]at d;simp[b0a,h j o' c d e f a]
theorem Rgn.lookT (R:Rgn Γ ops F E X) {D:Nat->Bool} {i:Nat} {o:Oper} (f:a2I ops D) (b:ops[i]?=some o) (k:a8c D o) (d:D i=false) {t:Nat} (j:t∈looks ops o):TX ops F X D t=(F i).T t:=by
 have c:i<ops.size:=(Array.getElem?_eq_some_iff.1 b).1;rw[R.T i (by omega),<- c4I (T0:=(F 0).T) (dst:=a9U ops) (vs:=fun i=>(X i).v) (t:=t) ops.size (by omega)];refine a6A _ fun p g e=>?_
 have a:ops[p]?=some ops[p]:=Array.getElem?_eq_getElem g;rw[a8U a]at e;rcases Nat.lt_trichotomy p i with h|h|h
 ·rw[show Nat.blt p i=true by simpa[Nat.blt_eq]using h];cases hq:D p with
  |true=>rfl
  | false =>
    have:=R.both _ (f.add b k) i p h c a2g (by rw[a3q (by omega)];exact hq);exact absurd j ((this.apart _ _ b a).yx t e)
 ·subst h;rw[d];exact(Bool.eq_false_iff.2 fun e=>by rw[Nat.blt_eq]at e;omega).symm
 ·rw[show Nat.blt p i=false by
   cases hq:Nat.blt p i with
   |false=>rfl
   |true=>rw[Nat.blt_eq]at hq;omega]
  cases hq:D p with
  |false=>rfl
  | true =>
    have:=R.both D f p i h g hq d;exact absurd j ((this.apart _ _ a b).xy t e)
theorem Rgn.lookG (R:Rgn Γ ops F E X) {D:Nat->Bool} {i:Nat} {o:Oper} (d:a2I ops D) (f:ops[i]?=some o) (l:a8c D o) (c:D i=false) {k:Nat} (g:k∈(E i).fp):GX ops F X D k=(F i).G k:=by
 have a:i<ops.size:=(Array.getElem?_eq_some_iff.1 f).1;rw[R.G i (by omega),<- c4J (G0:=(F 0).G) (upd:=fun i=>(X i).upd) ops.size (by omega)];refine a6B _ fun p j e=>?_
 have b:ops[p]?=some ops[p]:=Array.getElem?_eq_getElem j;rw[<- R.up b]at e;rcases Nat.lt_trichotomy p i with h|h|h
 ·rw[show Nat.blt p i=true by simpa[Nat.blt_eq]using h];cases hq:D p with
  |true=>rfl
  | false =>
    have:=R.both _ (d.add f l) i p h a a2g (by rw[a3q (by omega)];exact hq);exact absurd e (this.ind.fu k g)
 ·subst h;rw[c];exact(Bool.eq_false_iff.2 fun e=>by rw[Nat.blt_eq]at e;omega).symm
 ·rw[show Nat.blt p i=false by
   cases hq:Nat.blt p i with
   |false=>rfl
   |true=>rw[Nat.blt_eq]at hq;omega]
  cases hq:D p with
  |false=>rfl
  | true =>
    have:=R.both D d p i h j hq c;exact absurd e (this.ind.uf k g)
theorem Rgn.addT (R:Rgn Γ ops F E X) {D:Nat->Bool} {i:Nat} {o:Oper} (k:a2I ops D) (b:ops[i]?=some o) (g:D i=false):TX ops F X (b0a D i)=c2o (TX ops F X D) o.dst (X i).v:=by
 have c:i<ops.size:=(Array.getElem?_eq_some_iff.1 b).1;funext t;rw[<- a8U b];refine d6x g _ c fun p h f j t e d=>?_
 have a:ops[p]?=some ops[p]:=Array.getElem?_eq_getElem f;rw[a8U b]at e;rw[a8U a]at d;exact((R.both D k p i h f j g).apart _ _ a b).dd t d e
theorem Rgn.addG (R:Rgn Γ ops F E X) {D:Nat->Bool} {i:Nat} {o:Oper} (l:a2I ops D) (g:ops[i]?=some o) (f:D i=false):GX ops F X (b0a D i)=a4Z (X i).upd (GX ops F X D):=by
 have a:i<ops.size:=(Array.getElem?_eq_some_iff.1 g).1;funext k;refine d6y f _ a fun p h d j e c=>?_
 have b:ops[p]?=some ops[p]:=Array.getElem?_eq_getElem d;rw[<- R.up g]at e;rw[<- R.up b]at c;exact(R.both D l p i h d j f).ind.uu k c e
structure DS (P:Program) (Γ:Env) (z:a5E) (ops:Array Oper) (F:Nat->FS) (X:Nat->Res) (D:Nat->Bool) (β:Bt) (K:Ks) (a:Act) (w:World):Prop where
 tmp:∀t,VR β K (TX ops F X D t) (a.tmps.getD t undef)
 nt:a.tmps.size=Γ.nt
 defers:a.defers=[]
 kok:KOK K w
 mr:MR β K (GX ops F X D) w
 dom:∀k,β k≠none->k<(F 0).n∨∃i,i<ops.size /\ D i=true /\ (F i).n<=k /\ k<(F (i+1)).n
 kle:KLe z.K K
 knew:∀b arr,K b=some arr->z.K b=some arr∨z.S b∨z.w.heap.size<=b
 fr:Fr z.J z.w w
 own:∀x,Own β (GX ops F X D) x->z.S x∨z.w.heap.size<=x
 ble:∀k h,k<z.m->z.β k=some h->β k=some h
 le:z.m<=(F 0).n
theorem DS.free (R:Rgn Γ ops F E X) {D:Nat->Bool} {β:Bt} {K:Ks} {a:Act} {w:World} (h:DS P Γ z ops F X D β K a w) {i:Nat} (f:i<ops.size) (c:D i=false):∀k,(F i).n<=k->k<(F (i+1)).n->β k=none:=by
 intro k d e;cases hq:β k with
 |none=>rfl
 | some y =>
   exfalso;rcases h.dom k (by rw[hq];simp)with h3|⟨j,h3,h4,h5,h6⟩
   ·have:=R.n (i:=0) (j:=i) (by omega) (by omega);omega
   ·rcases Nat.lt_trichotomy j i with b|b|b
    ·have:=R.n (i:=j+1) (j:=i) (by omega) (by omega);omega
    ·subst b;rw[c]at h4;cases h4
    ·have:=R.n (i:=i+1) (j:=j) (by omega) (by omega);omega
theorem DS.step {L:Env} (env:a1m P L) (R:Rgn Γ ops F E X) {D:Nat->Bool} {β:Bt} {K:Ks} {a:Act} {w:World} (h:DS P Γ z ops F X D β K a w) (B:a2I ops D) {i:Nat} {o:Oper} (p:ops[i]?=some o) (Y:∀T G n,act Γ o (a4W T) G n=act L o (a4W T) G n) (hb:a8c D o) (q:D i=false)
 {r:Act->World->Prop} (hn:∀β K a w,DS P Γ z ops F X (b0a D i) β K a w->r a w):wpOp P ops Q i r a w:=by
 have I:i<ops.size:=(Array.getElem?_eq_some_iff.1 p).1;have J:=R.step i o p;have m:∀t,t∈looks ops o->VR β K ((F i).T t) (a.tmps.getD t undef):=fun t N=>by rw[<- R.lookT B p hb q N];exact h.tmp t
 have hw:=a7p (β:=β) (K:=K) (a:=a) (T:=(F i).T) J fun g want t hg N=>m t (by
  unfold looks;rw[hg];dsimp only;unfold a9U at N;rw[N];exact List.mem_append_right _ (List.mem_singleton.2 rfl))
 unfold wpOp;rw[p];dsimp only;rw[hw];cases hr:(X i).run with
 | true =>
   rw[if_pos rfl];left;obtain⟨_,out,M,W,h3,h4,h5,h6⟩:=J.exec hr;have H:=R.kb i I;have Z:(E i).fp=a8m o (a4W (F i).T) (F i).G:=by rw[h6]
   rw[h6]at H;dsimp only at H;rw[Y]at M;refine e8i (Gc:=GX ops F X D) (β:=β) (K:=K) env M W H (fun k C=>R.lookG B p hb q (by rw[Z];exact C)) h.kok h.mr (by rw[<- h5];exact h.free R I q) ?_ _ _ fun v w' l=>?_
   ·intro x O;cases x with
    | tmp t =>
      refine m t ?_;unfold looks c4g;exact List.mem_append_left _ (List.mem_filterMap.2 ⟨.tmp t,by simpa using O,rfl⟩)
    |const v=>exact a8P v
    |global g=>exact a6a
    |func f=>exact⟨[],rfl,trivial⟩
   ·obtain⟨β',K',l⟩:=l;obtain⟨S,U,V⟩:=a8O (Γ:=Γ) (d:=o.dst) (x:=out.v) (v:=v) h.tmp l.ble l.kle h.nt J.dst l.vr;refine hn β' K' _ _ ⟨?_,U,V.trans h.defers,l.kok,?_,?_,h.kle.trans l.kle,?_,?_,?_,fun k y C e=>l.ble _ _ (h.ble k y C e),h.le⟩
    ·rw[R.addT B p q,h3];exact S
    ·rw[R.addG B p q,h4];exact l.mr
    ·intro k C;rcases l.dom k C with c|⟨c,h8⟩
     ·rcases h.dom k c with A|⟨j,A,s,u⟩
      ·exact .inl A
      ·exact .inr ⟨j,A,by simp[b0a,s],u⟩
     ·exact .inr ⟨i,I,a2g,c,by rw[h5];exact h8⟩
    ·intro b arr e;rcases l.knew b arr e with c|c|c
     ·exact h.knew b arr c
     ·exact .inr (h.own b c)
     ·exact .inr (.inr (Nat.le_trans h.fr.size c))
    ·exact h.fr.trans l.fr (f9e h.own h.knew)
    ·intro x O;rw[R.addG B p q,h4]at O;rcases l.own x O with c|c
     ·exact h.own x c
     ·exact .inr (Nat.le_trans h.fr.size c)
 | false =>
   rw[if_neg (by simp)];obtain⟨_,M,W,h3,_⟩:=J.skip hr;obtain⟨S,U,V⟩:=a8O (Γ:=Γ) (d:=o.dst) (x := .tup []) (v:=undef) h.tmp (BLe.refl β) (KLe.refl K) h.nt J.dst ⟨#[],rfl,trivial⟩;have hG:GX ops F X (b0a D i)=GX ops F X D:=by rw[R.addG B p q,W];rfl
   refine hn β K _ _ ⟨?_,U,V.trans h.defers,h.kok,by rw[hG];exact h.mr,?_,h.kle,h.knew,h.fr,by rw[hG];exact h.own,h.ble,h.le⟩
   ·rw[R.addT B p q,M];exact S
   ·intro k C;rcases h.dom k C with A|⟨j,A,s,u⟩
    ·exact .inl A
    ·exact .inr ⟨j,A,by simp[b0a,s],u⟩
theorem DS.all (R:Rgn Γ ops F E X) {D:Nat->Bool} {β:Bt} {K:Ks} {a:Act} {w:World} (h:DS P Γ z ops F X D β K a w) (c:∀i,i<ops.size->D i=true):SRf P Γ z β K (F ops.size) a w:=by
 have e:TX ops F X D=(F ops.size).T:=by
  rw[R.T _ (le_refl _)];funext t;exact a6A _ fun p b _=>c p b
 have d:GX ops F X D=(F ops.size).G:=by
  rw[R.G _ (le_refl _)];funext t;exact a6B _ fun p b _=>c p b
 refine⟨by rw[<- e];exact h.tmp,h.nt,h.defers,h.kok,by rw[<- d];exact h.mr,?_,h.kle,h.knew,h.fr,by rw[<- d];exact h.own,h.ble,Nat.le_trans h.le (R.n (zero_le _) (le_refl _))⟩;intro k f;cases hq:β k with
 |none=>rfl
 | some y =>
   exfalso;rcases h.dom k (by rw[hq];simp)with h3|⟨j,h3,_,_,h6⟩
   ·have:=R.n (i:=0) (j:=ops.size) (by omega) (le_refl _);omega
   ·have:=R.n (i:=j+1) (j:=ops.size) (by omega) (le_refl _);omega
theorem c2s (env:a1m P Γ) (R:Rgn Γ ops F E X) (C:∀β K a w,SRf P Γ z β K (F ops.size) a w->Q .normal a w) :
 ∀(fuel:Nat) (b:Array Bool),b.size=ops.size->cnt (fun k=>b.getD k false) ops.size<=fuel->a2I ops (fun k=>b.getD k false) ->
 ∀β K a w,DS P Γ z ops F X (fun k=>b.getD k false) β K a w->wpAny P .any ops Q fuel b a w:=by
 have q:∀(b:Array Bool),b.size=ops.size->Region.ready .any ops b=[]->∀i,i<ops.size->b.getD i false=true:=by
  intro b f t i
  induction i using Nat.strongRecOn with
  | _ i A =>
    intro x;cases hq:b.getD i false with
    |true=>rfl
    | false =>
      exfalso;have g:ops[i]?=some ops[i]:=Array.getElem?_eq_getElem x;have:i∈Region.ready .any ops b:=by
       rw[mem_ready];refine⟨?_,_,g,fun e v u=>?_⟩
       ·have c:i<b.size:=by omega
        simp[c]at hq ⊢;exact hq
       ·have c:=R.edge i _ g e v u;exact A e.on c (by omega)
      rw[t]at this;cases this
 intro fuel
 induction fuel with
 | zero =>
   intro b f G l β K a w h;have B:=b1M (Nat.le_zero.1 G);refine⟨?_,C β K a w (h.all R B)⟩;cases t:Region.ready .any ops b with
   |nil=>rfl
   | cons i r =>
     exfalso;have I:i∈Region.ready .any ops b:=by rw[t];exact List.mem_cons_self ..
     obtain⟨m,o,g,_⟩:=mem_ready.1 I;have c:i<ops.size:=(Array.getElem?_eq_some_iff.1 g).1;have n:=B i c;have d:i<b.size:=by omega
     simp[d]at m n;rw[m]at n;cases n
 | succ fuel A =>
   intro b f G l β K a w h;refine⟨fun t=>C β K a w (h.all R (q b f t)),fun i x=>?_⟩;obtain⟨m,o,g,n⟩:=mem_ready.1 x;have c:i<ops.size:=(Array.getElem?_eq_some_iff.1 g).1;have d:i<b.size:=by omega
   have p:(fun k=>b.getD k false) i=false:=by
    simp[d]at m ⊢;exact m
   have j:(fun k=>(b.setIfInBounds i true).getD k false)=b0a (fun k=>b.getD k false) i:=by
    funext k;by_cases y:k=i
    ·subst y;rw[a2g];simp[d]
    ·rw[a3q y];exact getD_set_ne false (Ne.symm y)
   have s:a8c (fun k=>b.getD k false) o:=fun e v u=>n e v u
   refine h.step env R l g (fun _ _ _=>rfl) s p fun β' K' H w' h'=>?_
   refine A (b.setIfInBounds i true) (by simpa using f) ?_ ?_ β' K' H w' (by rw[j];exact h')
   ·rw[j];have:=b6q (D:=fun k=>b.getD k false) p c;omega
   ·rw[j];exact l.add g s
theorem DS.start (R:Rgn Γ ops F E X) {β:Bt} {K:Ks} {a:Act} {w:World} (h:SRf P Γ z β K (F 0) a w) {D:Nat->Bool} (d:∀i,D i=false):DS P Γ z ops F X D β K a w:=by
 have f:∀N t,TD (F 0).T (a9U ops) (fun i=>(X i).v) D N t=(F 0).T t:=by
  intro N t
  induction N with
  |zero=>rfl
  |succ N c=>simp only[TD,d N,Bool.false_eq_true,false_and,if_false];exact c
 have e:∀N,GD (F 0).G (fun i=>(X i).upd) D N=(F 0).G:=by
  intro N
  induction N with
  |zero=>rfl
  |succ N c=>simp only[GD,d N,Bool.false_eq_true,if_false];exact c
 refine⟨fun t=>by rw[show TX ops F X D t=(F 0).T t from f _ t];exact h.tmp t,h.nt,h.defers,h.kok,by rw[show GX ops F X D=(F 0).G from e _];exact h.mr,?_,h.kle,h.knew,h.fr,by rw[show GX ops F X D=(F 0).G from e _];exact h.own,h.ble,h.le⟩;intro k g;left;rcases Nat.lt_or_ge k (F 0).n with b|b
 ·exact b
 ·exact absurd (h.fresh k b) g
end
theorem MR.ren {β β':Bt} {K:Ks} {get get':Get} {w:World} {s:Nat->Option Nat} (h:MR β K get w) (a:∀k k' h,s k=some k'->β k=some h->β' k'=some h)
 (r:∀k' b',get' k'=some b'->∃k b,s k=some k' /\ get k=some b /\ b2S s b=some b'):MR β' K get' w:=by
 refine⟨fun k' b' e=>?_,fun k k' b b' y y' x e v f z g A=>?_,fun k' b' y x e f g=>?_⟩
 ·obtain⟨k,b,n,i,B⟩:=r k' b' e;obtain⟨y,l,m⟩:=h.blk k b i;exact⟨y,a _ _ _ n l,a8J a B m⟩
 ·obtain⟨j,c,n,i,_⟩:=r k b e;obtain⟨t,c',d,o,_⟩:=r k' b' v;obtain⟨u,l,_⟩:=h.blk j c i;obtain⟨C,p,_⟩:=h.blk t c' o;have m:=a _ _ _ n l;have q:=a _ _ _ d p;rw[f]at m;rw[z]at q;cases m;cases q;have:=h.sep j t c c' _ _ x i o l p g A;subst this;rw[n]at d;cases d;rfl
 ·obtain⟨j,c,n,i,_⟩:=r k' b' e;obtain⟨u,l,_⟩:=h.blk j c i;have m:=a _ _ _ n l;rw[f]at m;cases m;exact h.ro j c _ x i l g
theorem Own.ren {β β':Bt} {K:Ks} {get get':Get} {w:World} {d:Nat->Option Nat} (h:MR β K get w) (a:∀k k' h,d k=some k'->β k=some h->β' k'=some h)
 (p:∀k' b',get' k'=some b'->∃k b,d k=some k' /\ get k=some b /\ b2S d b=some b') {x:Nat} (o:Own β' get' x):Own β get x:=by
 obtain⟨k',b',y,e,f,g⟩:=o;obtain⟨j,c,n,i,_⟩:=p k' b' e;obtain⟨u,l,_⟩:=h.blk j c i;have m:=a _ _ _ n l;rw[f]at m;cases m;exact⟨j,c,_,i,l,g⟩
theorem a4f:∀(l:List Nat) (m:Nat),a3W l m=l.filter fun k=>Nat.ble m k
 |[],_=>rfl
 | k::r,m=>by
   unfold a3W;cases h:Nat.ble m k with
   |true=>rw[List.filter_cons_of_pos (by exact h),a4f r m]
   |false=>rw[List.filter_cons_of_neg (by rw[h];simp),a4f r m]
theorem a8V:∀{ks:List Nat} {k i p:Nat},ks.Nodup->ks[p]?=some k->a2F ks k i=some (i+p)
 |[],_,_,_,_,h=>by simp at h
 | x::r,k,i,0,hn,h=>by
   simp only[List.getElem?_cons_zero,injEq]at h;subst h;simp[a2F]
 | x::r,k,i,p+1,hn,h=>by
   simp only[List.getElem?_cons_succ]at h;have a:x≠k:=fun e=>by
    subst e;exact(List.nodup_cons.1 hn).1 (List.mem_of_getElem? h)
   simp only[a2F,a1A a];rw[a8V (List.nodup_cons.1 hn).2 h];congr 1;omega
def a8W (β:Bt) (a:List Nat) (m:Nat):Bt:=fun k=>if k<m then β k else(a[k-m]?).bind β
theorem a3b {β:Bt} {a:List Nat} {m:Nat}:∀k k' h,a2Y a m k=some k'->β k=some h->a8W β a m k'=some h:=by
 intro k k' h e c;unfold a2Y at e;split at e
 ·rename_i b;cases e;unfold a8W;rw[if_pos (by simpa[Nat.blt_eq]using b)];exact c
 ·obtain⟨p,f,d⟩:=a5Y e;unfold a8W;rw[if_neg (by omega)];have:k'-m=p:=by omega
  rw[this,d];exact c
theorem b1N {β:Bt} {a:List Nat} {m k:Nat} (h:k<m):a8W β a m k=β k:=if_pos h
theorem b1O {β:Bt} {a:List Nat} {m k:Nat} (h:m+a.length<=k):a8W β a m k=none:=by
 unfold a8W;rw[if_neg (by omega),List.getElem?_eq_none (by omega)];rfl
theorem b0x {get:Get} {c:Nat->Option Nat}:∀{ks:List Nat} {l:List (Nat×Option Blk)},c4h get c ks=some l->∀k' b',a1D l k'=some (some b')->∃k b,c k=some k' /\ get k=some b /\ b2S c b=some b'
 |[],l,h,k',b',e=>by simp only[c4h,injEq]at h;subst h;simp[a1D]at e
 | k :: r,l,h,k',b',e=>by
   simp only[c4h]at h;split at h
   ·rename_i j b l' f a g;cases h;simp only[a1D]at e;split at e
    ·rename_i n;have:=a0g n;subst this;cases e;cases hg:get k with
     |none=>rw[hg]at a;simp[a5U]at a
     | some d =>
       rw[hg]at a;simp only[a5U,Option.map_eq_some_iff,injEq]at a;obtain⟨o,i,m⟩:=a;exact⟨k,d,f,hg,by rw[i,m]⟩
    ·exact b0x g k' b' e
   ·cases h
theorem b3t {s:St} {c:Nat->Option Nat}:∀{live:List Nat} {l:List (Nat×V)},a1x (fun t=>(e6H c (s.tmpV t)).map fun v=>(t,v)) live=some l->∀t v,a1D l t=some v->e6H c (s.tmpV t)=some v
 |[],l,h,t,v,e=>by simp only[a1x,injEq]at h;subst h;simp[a1D]at e
 | j :: r,l,h,t,v,e=>by
   simp only[a1x]at h;split at h
   ·rename_i y b;split at h
    ·rename_i ys a;cases h;simp only[Option.map_eq_some_iff]at b;obtain⟨u,d,f⟩:=b;subst f;simp only[a1D]at e;split at e
     ·rename_i g;have:=a0g g;subst this;cases e;exact d
     ·exact b3t a t v e
    ·cases h
   ·cases h
section
variable {P:Program} {Γ:Env} {z:a5E}
def SR (P:Program) (Γ:Env) (z:a5E) (s:St) (a:Act) (w:World):Prop:=s.m=z.m /\ ∃β K,SRf P Γ z β K s.fs a w
theorem SRf.still {β:Bt} {K:Ks} {F:FS} {a:Act} {w w':World} (h:SRf P Γ z β K F a w) (s:a0t w w'):SRf P Γ z β K F a w':=
 ⟨h.tmp,h.nt,h.defers,h.kok.still s,h.mr.still s,h.fresh,h.kle,h.knew,⟨s.os.trans h.fr.os,s.tape.trans h.fr.tape,s.output.trans h.fr.output,by rw[s.heap];exact h.fr.size,fun b c d=>by rw[s.heap];exact h.fr.block b c d⟩,h.own,h.ble,h.le⟩
theorem SRf.turn {β β':Bt} {K K':Ks} {F F':FS} {a:Act} {w:World} (h:SRf P Γ z β K F a w) (f:∀k h,k<z.m->β k=some h->β' k=some h) (d:KLe K K') (kok:KOK K' w)
 (knew:∀b arr,K' b=some arr->K b=some arr∨Own β F.G b∨w.heap.size<=b) (tmp:∀t,VR β' K' (F'.T t) (a.tmps.getD t undef)) (mr:MR β' K' F'.G w) (fresh:∀k,F'.n<=k->β' k=none)
 (own:∀x,Own β' F'.G x->Own β F.G x) (le:F.n<=F'.n):SRf P Γ z β' K' F' a w:=
 ⟨tmp,h.nt,h.defers,kok,mr,fresh,h.kle.trans d,fun b arr e=>by
  rcases knew b arr e with c|c|c
  ·exact h.knew b arr c
  ·exact .inr (h.own b c)
  ·exact .inr (.inr (Nat.le_trans h.fr.size c)),h.fr,fun x g=>h.own x (own x g),fun k y d e=>f k y d (h.ble k y d e),Nat.le_trans h.le le⟩
theorem a3c {s:St} {tm:List (Nat×V)} {n:Nat} {l:List (Nat×Option Blk)} {k:Nat} {b:Blk} (h:(St.get { s with tmps:=tm,mem:=l++s.mem,n:=n }) k=some b):a4Z l s.get k=some b:=by
 induction l with
 |nil=>exact h
 | cons p l d =>
   obtain⟨j,c⟩:=p;simp only[St.get,List.cons_append,a1D,a4Z]at h d ⊢;by_cases a:j=k
   ·subst a;simpa using h
   ·rw[a1A a]at h ⊢;exact d h
theorem a5t {s:St} {t:Nat} {v:V} {mm:List (Nat×Option Blk)} {n:Nat} (j:Nat):(St.tmpV { s with tmps:=(t,v)::s.tmps,mem:=mm,n:=n }) j=if t=j then v else s.tmpV j:=by
 unfold St.tmpV;simp only[a1D];by_cases a:t=j
 ·subst a;simp
 ·rw[a1A a,if_neg a]
theorem c4L {β:Bt} {K:Ks} {s:St} {a:Act} {w:World} (h:SRf P Γ z β K s.fs a w) {ty:Ty} {ad:Option Addr} :
 (∀k b,s.get k=some b->k≠s.n) /\ BLe β (a9X β s.n ⟨.slice ad 0 0,none⟩) /\ (∀K',CR (a9X β s.n ⟨.slice ad 0 0,none⟩) K' (.ref ty s.n) (.slice ad 0 0)):=by
 have c:β s.n=none:=h.fresh s.n (le_refl _);refine⟨fun k b e f=>?_,BLe.add _ c,fun K'=>⟨_,ad,0,0,a0D ..,rfl,rfl⟩⟩;subst f;obtain⟨y,d,_⟩:=h.mr.blk _ b e;rw[c]at d;cases d
theorem a6E {α c:Type} {R:α->c->Prop}:∀{as1:List α} {bs:List c} {i:Nat} {x:α},All2 R as1 bs->(∀y,bs[i]?=some y->R x y)->All2 R (as1.set i x) bs
 |[],_,_,_,h,_=>h
 |_::_,[],_,_,h,_=>h.elim
 |a::as1,b::bs,0,x,h,hx=>⟨hx b rfl,h.2⟩
 |a::as1,b::bs,i+1,x,h,hx=>⟨h.1,a6E h.2 fun y d=>hx y d⟩
theorem e1X {a:Act} {w:World} (c:Cv) {s:St} (h0:SR P Γ z s a w):SR P Γ z (c3V c s) a w /\ (c3V c s).m=s.m:=by
 have a3l:SR P Γ z s a w /\ s.m=s.m:=⟨h0,rfl⟩;obtain⟨hm,β,K,h⟩:=h0;have nilSl:∀{β:Bt} {K:Ks} {ty:Ty} {u:Value},CR β K (.nil ty) u->CR β K (.sl ty []) u:=fun{β K ty u} R=>by
  obtain⟨ad,rfl⟩:=R;exact⟨ad,0,0,rfl,rfl,le_refl _,.inl rfl⟩
 cases c with
 | sl t =>
   unfold c3V;dsimp only;split
   ·rename_i ty V;have I:=h.tmp t;rw[show s.fs.T t = .val (.one (.nil ty))from V]at I;refine⟨⟨hm,β,K,h.turn (fun k y _ e=>e) (KLe.refl K) h.kok (fun _ _ e => .inl e) (fun j=>?_) h.mr h.fresh (fun x C=>C) (le_refl _)⟩,rfl⟩;show VR β K (St.tmpV { s with tmps:=(t,.val (.one (.sl ty [])))::s.tmps,mem:=s.mem,n:=s.n } j) _;rw[a5t];split
    ·rename_i S;subst S;exact nilSl (β:=β) I
    ·exact h.tmp j
   ·exact a3l
 | boxSl t off =>
   unfold c3V;dsimp only;split
   ·rename_i B o0 V;split
    ·rename_i cs D;split
     ·rename_i ty hc;obtain⟨y0,v,bb,arr,T,rfl,hh,F⟩:=h.mr.blk B _ D;obtain⟨u,R,I⟩:=F.get? hc;have d:∀k b,(St.get { s with mem:=(B,some (.box (cs.set off (.sl ty []))))::s.mem }) k=some b->(k=B /\ b = .box (cs.set off (.sl ty [])))∨(k≠B /\ s.get k=some b):=by
       intro k b e;rcases a0E (a3c (tm:=s.tmps) (n:=s.n) (l:=[(B,some (.box (cs.set off (.sl ty []))))]) e)with⟨rfl,E⟩|⟨A,o⟩
       ·cases E;exact .inl ⟨rfl,rfl⟩
       ·exact .inr ⟨A,o⟩
      refine⟨⟨hm,β,K,h.turn (fun k y _ e=>e) (KLe.refl K) h.kok (fun _ _ e => .inl e) (fun j=>h.tmp j) ?_ h.fresh ?_ (le_refl _)⟩,rfl⟩
      ·refine h.mr.step (BLe.refl β) (KLe.refl K) fun k b e=>?_
       rcases d k b e with⟨rfl,rfl⟩|⟨A,p⟩
       ·refine .inr ⟨_,v,⟨bb,arr,T,rfl,hh,a6E F fun y M=>by rw[R]at M;cases M;exact nilSl I⟩,fun x C=>⟨h.mr.ro k _ _ x D v C,fun k' b' y' H J N=>?_⟩⟩;rcases d k' b' H with⟨rfl,rfl⟩|⟨A,p⟩
        ·rfl
        ·exact h.mr.sep k' k b' _ y' _ x p D J v N C
       ·exact .inl ⟨p,fun x y f g=>⟨rfl,h.mr.ro k b y x p f g⟩⟩
      ·rintro x ⟨k,b,y,e,f,g⟩;rcases d k b e with⟨rfl,rfl⟩|⟨A,p⟩
       ·exact⟨k,_,y,D,f,g⟩
       ·exact⟨k,b,y,p,f,g⟩
     ·exact a3l
    ·exact a3l
   ·exact a3l
 | forget t =>
   refine⟨⟨hm,β,K,h.turn (fun k y _ e=>e) (KLe.refl K) h.kok (fun _ _ e => .inl e) (fun j=>?_) h.mr h.fresh (fun x C=>C) (le_refl _)⟩,rfl⟩;show VR β K (St.tmpV { s with tmps:=(t,pois)::s.tmps,mem:=s.mem,n:=s.n } j) _;rw[a5t];split
   ·exact a6a
   ·exact h.tmp j
 | nil t =>
   unfold c3V;dsimp only;split
   ·rename_i ty V;refine⟨⟨hm,?_⟩,rfl⟩;have I:=h.tmp t;rw[show s.fs.T t = .val (.one (.nil ty))from V]at I;obtain⟨ad,I⟩:=I;obtain⟨Y,r,hcr⟩:=c4L h (ty:=ty) (ad:=ad);refine⟨a9X β s.n ⟨.slice ad 0 0,none⟩,K,h.turn (fun k y _ e=>r _ _ e) (KLe.refl K) h.kok (fun _ _ e => .inl e) (fun j=>?_) ?_ ?_ ?_ (Nat.le_succ _)⟩
    ·show VR _ K (St.tmpV { s with tmps:=(t,.val (.one (.ref ty s.n)))::s.tmps,mem:=(s.n,some (.arr ty []))::s.mem,n:=s.n+1 } j) _;rw[a5t];split
     ·rename_i S;subst S;rw[I];exact hcr K
     ·exact(h.tmp j).mono r (KLe.refl K)
    ·refine h.mr.step r (KLe.refl K) fun k b e=>?_
     rcases a0E (a3c (l:=[(s.n,some (.arr ty []))]) e)with⟨rfl,E⟩|⟨A,o⟩
     ·cases E;exact .inr ⟨_,a0D ..,.inl ⟨rfl,ad,rfl⟩,fun x C=>by cases C⟩
     ·exact .inl ⟨o,fun x y f g=>⟨rfl,h.mr.ro k b y x o f g⟩⟩
    ·intro k Z;have hk':s.n+1<=k:=Z;rw[a1f _ _ (by omega)];exact h.fresh k (by show s.n<=k;omega)
    ·rintro x ⟨k,b,y,e,f,g⟩;rcases a0E (a3c (l:=[(s.n,some (.arr ty []))]) e)with⟨rfl,E⟩|⟨A,o⟩
     ·rw[a0D]at f;cases f;cases g
     ·rw[a1f _ _ A]at f;exact⟨k,b,y,o,f,g⟩
   ·exact a3l
 | boxNil t off =>
   unfold c3V;dsimp only;split
   ·rename_i B o0 V;split
    ·rename_i cs D;split
     ·rename_i ty hc;refine⟨⟨hm,?_⟩,rfl⟩;obtain⟨y0,v,bb,arr,T,rfl,hh,F⟩:=h.mr.blk B _ D;obtain⟨u,R,ad,I⟩:=F.get? hc;obtain⟨Y,r,hcr⟩:=c4L h (ty:=ty) (ad:=ad);have hk0:B≠s.n:=Y B _ D;have d:∀k b,(St.get { s with mem:=(B,some (.box (cs.set off (.ref ty s.n))))::(s.n,some (.arr ty []))::s.mem,n:=s.n+1 }) k=some b ->
       (k=B /\ b = .box (cs.set off (.ref ty s.n)))∨(k=s.n /\ b = .arr ty [])∨(k≠B /\ k≠s.n /\ s.get k=some b):=by
       intro k b e;rcases a0E (a3c (l:=[(B,some (.box (cs.set off (.ref ty s.n)))),(s.n,some (.arr ty []))]) e)with⟨rfl,E⟩|⟨A,o⟩
       ·cases E;exact .inl ⟨rfl,rfl⟩
       ·rcases a0E o with⟨rfl,E⟩|⟨p,h4⟩
        ·cases E;exact .inr (.inl ⟨rfl,rfl⟩)
        ·exact .inr (.inr ⟨A,p,h4⟩)
      refine⟨a9X β s.n ⟨.slice ad 0 0,none⟩,K,h.turn (fun k y _ e=>r _ _ e) (KLe.refl K) h.kok (fun _ _ e => .inl e) (fun j=>(h.tmp j).mono r (KLe.refl K)) ?_ ?_ ?_ (Nat.le_succ _)⟩
      ·refine h.mr.step r (KLe.refl K) fun k b e=>?_
       rcases d k b e with⟨rfl,rfl⟩|⟨rfl,rfl⟩|⟨A,o,p⟩
       ·refine .inr ⟨_,r _ _ v,⟨bb,arr,T,rfl,hh,a6E (F.mono fun _ _=>CR.mono r (KLe.refl K)) fun y M=>?_⟩,fun x C=>⟨h.mr.ro k _ _ x D v C,fun k' b' y' H J N=>?_⟩⟩
        ·rw[R]at M;cases M;rw[I];exact hcr K
        ·rcases d k' b' H with⟨rfl,rfl⟩|⟨rfl,rfl⟩|⟨A,o,p⟩
         ·rfl
         ·rw[a0D]at J;cases J;cases N
         ·rw[a1f _ _ o]at J;exact h.mr.sep k' k b' _ y' _ x p D J v N C
       ·exact .inr ⟨_,a0D ..,.inl ⟨rfl,ad,rfl⟩,fun x C=>by cases C⟩
       ·exact .inl ⟨p,fun x y f g=>⟨rfl,h.mr.ro k b y x p f g⟩⟩
      ·intro k Z;have hk':s.n+1<=k:=Z;rw[a1f _ _ (by omega)];exact h.fresh k (by show s.n<=k;omega)
      ·rintro x ⟨k,b,y,e,f,g⟩;rcases d k b e with⟨rfl,rfl⟩|⟨rfl,rfl⟩|⟨A,o,p⟩
       ·rw[a1f _ _ hk0]at f;exact⟨k,_,y,D,f,g⟩
       ·rw[a0D]at f;cases f;cases g
       ·rw[a1f _ _ o]at f;exact⟨k,b,y,p,f,g⟩
     ·exact a3l
    ·exact a3l
   ·exact a3l
 | mv t off j =>
   unfold c3V;dsimp only;split
   ·rename_i B o0 V;split
    ·rename_i cs D;split
     ·rename_i ty j' hc;split
      ·rename_i S;have S:j=j':=a0g S;subst S;split
       ·rename_i ty' l L;refine⟨⟨hm,?_⟩,rfl⟩;obtain⟨y0,v,bb,arr,T,rfl,hh,F⟩:=h.mr.blk B _ D;obtain⟨yj,U,hbj⟩:=h.mr.blk j _ L;obtain⟨u,R,I⟩:=F.get? hc;have hn:β s.n=none:=h.fresh s.n (le_refl _);have Y:∀k b,s.get k=some b->k≠s.n:=fun k b e H=>by
         subst H;obtain⟨y,M,_⟩:=h.mr.blk _ b e;rw[hn]at M;cases M
        have r:BLe β (a9X β s.n yj):=BLe.add _ hn;have hk0:B≠s.n:=Y B _ D;have hjn:j≠s.n:=Y j _ L;have hkj:B≠j:=fun e=>by subst e;rw[D]at L;cases L
        have d:∀k b,(St.get { s with mem:=(B,some (.box (cs.set off (.ref ty s.n))))::(s.n,some (.arr ty' l))::(j,none)::s.mem,n:=s.n+1 }) k=some b ->
         (k=B /\ b = .box (cs.set off (.ref ty s.n)))∨(k=s.n /\ b = .arr ty' l)∨(k≠B /\ k≠s.n /\ k≠j /\ s.get k=some b):=by
         intro k b e;rcases a0E (a3c (l:=[(B,some (.box (cs.set off (.ref ty s.n)))),(s.n,some (.arr ty' l)),(j,none)]) e)with⟨rfl,E⟩|⟨A,o⟩
         ·cases E;exact .inl ⟨rfl,rfl⟩
         ·rcases a0E o with⟨rfl,E⟩|⟨p,h4⟩
          ·cases E;exact .inr (.inl ⟨rfl,rfl⟩)
          ·rcases a0E h4 with⟨rfl,E⟩|⟨h5,h6⟩
           ·cases E
           ·exact .inr (.inr ⟨A,p,h5,h6⟩)
        refine⟨a9X β s.n yj,K,h.turn (fun k y _ e=>r _ _ e) (KLe.refl K) h.kok (fun _ _ e => .inl e) (fun j=>(h.tmp j).mono r (KLe.refl K)) ?_ ?_ ?_ (Nat.le_succ _)⟩
        ·refine h.mr.step r (KLe.refl K) fun k b e=>?_
         rcases d k b e with⟨rfl,rfl⟩|⟨rfl,rfl⟩|⟨A,o,h2',p⟩
         ·refine .inr ⟨_,r _ _ v,⟨bb,arr,T,rfl,hh,a6E (F.mono fun _ _=>CR.mono r (KLe.refl K)) fun y M=>?_⟩,fun x C=>⟨h.mr.ro k _ _ x D v C,fun k' b' y' H J N=>?_⟩⟩
          ·rw[R]at M;cases M;obtain⟨hd,a1,n1,c1,E,e2,e3⟩:=I;rw[U]at E;cases E;exact⟨_,a1,n1,c1,a0D ..,e2,e3⟩
          ·rcases d k' b' H with⟨rfl,rfl⟩|⟨rfl,rfl⟩|⟨A,o,h2',p⟩
           ·rfl
           ·rw[a0D]at J;cases J;exact absurd (h.mr.sep k j _ _ _ _ x D L v U C N) hkj
           ·rw[a1f _ _ o]at J;exact h.mr.sep k' k b' _ y' _ x p D J v N C
         ·refine .inr ⟨_,a0D ..,hbj.mono r (KLe.refl K),fun x C=>⟨h.mr.ro j _ _ x L U C,fun k' b' y' H J N=>?_⟩⟩;rcases d k' b' H with⟨rfl,rfl⟩|⟨rfl,rfl⟩|⟨A,o,h2',p⟩
          ·rw[a1f _ _ hk0]at J;exact absurd (h.mr.sep k' j _ _ _ _ x D L J U N C) hkj
          ·rfl
          ·rw[a1f _ _ o]at J;exact absurd (h.mr.sep k' j _ _ _ _ x p L J U N C) h2'
         ·exact .inl ⟨p,fun x y f g=>⟨rfl,h.mr.ro k b y x p f g⟩⟩
        ·intro k Z;have hk':s.n+1<=k:=Z;rw[a1f _ _ (by omega)];exact h.fresh k (by show s.n<=k;omega)
        ·rintro x ⟨k,b,y,e,f,g⟩;rcases d k b e with⟨rfl,rfl⟩|⟨rfl,rfl⟩|⟨A,o,h2',p⟩
         ·rw[a1f _ _ hk0]at f;exact⟨k,_,y,D,f,g⟩
         ·rw[a0D]at f;cases f;exact⟨j,_,_,L,U,g⟩
         ·rw[a1f _ _ o]at f;exact⟨k,b,y,p,f,g⟩
       ·exact a3l
      ·exact a3l
     ·exact a3l
    ·exact a3l
   ·exact a3l
 | frz t =>
   unfold c3V;dsimp only;split
   ·rename_i u V;split
    ·rename_i u' R;refine⟨⟨hm,?_⟩,rfl⟩;have I:=h.tmp t;rw[show s.fs.T t = .val u from V]at I;have G:∀k b,(St.get { s with tmps:=(t,.val u')::s.tmps,mem:=gone (a0R u)++s.mem }) k=some b->k ∉ a0R u /\ s.get k=some b:=fun k b e=>a1s (a3c (n:=s.n) e)
     refine⟨β,a5a β K s.get w (a0R u),h.turn (fun k y _ e=>e) a0Q (a4w h.kok) a4x (fun j=>?_) ?_ h.fresh ?_ (le_refl _)⟩
     ·show VR _ _ (St.tmpV { s with tmps:=(t,.val u')::s.tmps,mem:=gone (a0R u)++s.mem } j) _;rw[a5t (n:=s.n)];split
      ·rename_i S;subst S;exact a5p h.mr R I (fun k Z=>Z) β
      ·exact(h.tmp j).mono (BLe.refl β) a0Q
     ·refine h.mr.step (BLe.refl β) a0Q fun k b e=>?_
      obtain⟨A,o⟩:=G k b e;exact .inl ⟨o,fun x y f g=>⟨rfl,a1Q h.mr o A f g⟩⟩
     ·rintro x ⟨k,b,y,e,f,g⟩;obtain⟨A,o⟩:=G k b e;exact⟨k,b,y,o,f,g⟩
    ·exact a3l
   ·exact a3l
 | frzBox t =>
   unfold c3V;dsimp only;split
   ·rename_i B o0 V;split
    ·rename_i cs D;split
     ·rename_i X hcs';split
      ·rename_i hno;refine⟨⟨hm,?_⟩,rfl⟩;have hno':B ∉ cs.flatMap a0S:=fun e=>by rw[a6s.2 e]at hno;cases hno
       obtain⟨y0,v,bb,arr,T,rfl,hh,F⟩:=h.mr.blk B _ D;have d:∀k b,(St.get { s with mem:=(B,some (.box X))::(gone (cs.flatMap a0S)++s.mem) }) k=some b->(k=B /\ b = .box X)∨(k≠B /\ k ∉ cs.flatMap a0S /\ s.get k=some b):=by
        intro k b e;rcases a0E (a3c (tm:=s.tmps) (n:=s.n) (l:=(B,some (.box X))::gone (cs.flatMap a0S)) e)with⟨rfl,E⟩|⟨A,o⟩
        ·cases E;exact .inl ⟨rfl,rfl⟩
        ·obtain⟨p,h4⟩:=a1s o;exact .inr ⟨A,p,h4⟩
       refine⟨β,a5a β K s.get w (cs.flatMap a0S),h.turn (fun k y _ e=>e) a0Q (a4w h.kok) a4x (fun j=>(h.tmp j).mono (BLe.refl β) a0Q) ?_ h.fresh ?_ (le_refl _)⟩
       ·refine h.mr.step (BLe.refl β) a0Q fun k b e=>?_
        rcases d k b e with⟨rfl,rfl⟩|⟨A,o,p⟩
        ·refine .inr ⟨_,v,⟨bb,arr,T,rfl,hh,?_⟩,fun x C=>⟨a1Q h.mr D hno' v C,fun k' b' y' H J N=>?_⟩⟩
         ·have:=a5p h.mr (ks:=cs.flatMap a0S) (c := .agg cs) (c' := .agg X) (show(a1x (roC s.get) cs).map W.agg=some (.agg X)by rw[hcs'];rfl) ⟨arr,rfl,F⟩ (fun k Z=>Z) β;obtain⟨arr',E,o⟩:=this;cases E;exact o
         ·rcases d k' b' H with⟨rfl,rfl⟩|⟨A,o,p⟩
          ·rfl
          ·exact h.mr.sep k' k b' _ y' _ x p D J v N C
        ·exact .inl ⟨p,fun x y f g=>⟨rfl,a1Q h.mr p o f g⟩⟩
       ·rintro x ⟨k,b,y,e,f,g⟩;rcases d k b e with⟨rfl,rfl⟩|⟨A,o,p⟩
        ·exact⟨k,_,y,D,f,g⟩
        ·exact⟨k,b,y,p,f,g⟩
      ·exact a3l
     ·exact a3l
    ·exact a3l
   ·exact a3l
 | frzCell t off =>
   unfold c3V;dsimp only;split
   ·rename_i B o0 V;split
    ·rename_i cs D;split
     ·rename_i c hc;split
      ·rename_i c' hcc;split
       ·rename_i hno;refine⟨⟨hm,?_⟩,rfl⟩;have hno':B ∉ a0S c:=fun e=>by rw[a6s.2 e]at hno;cases hno
        obtain⟨y0,v,bb,arr,T,rfl,hh,F⟩:=h.mr.blk B _ D;obtain⟨u,R,I⟩:=F.get? hc;have d:∀k b,(St.get { s with mem:=(B,some (.box (cs.set off c')))::(gone (a0S c)++s.mem) }) k=some b->(k=B /\ b = .box (cs.set off c'))∨(k≠B /\ k ∉ a0S c /\ s.get k=some b):=by
         intro k b e;rcases a0E (a3c (tm:=s.tmps) (n:=s.n) (l:=(B,some (.box (cs.set off c')))::gone (a0S c)) e)with⟨rfl,E⟩|⟨A,o⟩
         ·cases E;exact .inl ⟨rfl,rfl⟩
         ·obtain⟨p,h4⟩:=a1s o;exact .inr ⟨A,p,h4⟩
        refine⟨β,a5a β K s.get w (a0S c),h.turn (fun k y _ e=>e) a0Q (a4w h.kok) a4x (fun j=>(h.tmp j).mono (BLe.refl β) a0Q) ?_ h.fresh ?_ (le_refl _)⟩
        ·refine h.mr.step (BLe.refl β) a0Q fun k b e=>?_
         rcases d k b e with⟨rfl,rfl⟩|⟨A,o,p⟩
         ·refine .inr ⟨_,v,⟨bb,arr,T,rfl,hh,a6E (F.mono fun _ _=>CR.mono (BLe.refl β) a0Q) fun y M=>?_⟩,fun x C=>⟨a1Q h.mr D hno' v C,fun k' b' y' H J N=>?_⟩⟩
          ·rw[R]at M;cases M;exact a5p h.mr (ks:=a0S c) (c := .one c) (c' := .one c') (show(roC s.get c).map W.one=some (.one c')by rw[hcc];rfl) I (fun k Z=>by simpa[a0R,W.cells]using Z) β
          ·rcases d k' b' H with⟨rfl,rfl⟩|⟨A,o,p⟩
           ·rfl
           ·exact h.mr.sep k' k b' _ y' _ x p D J v N C
         ·exact .inl ⟨p,fun x y f g=>⟨rfl,a1Q h.mr p o f g⟩⟩
        ·rintro x ⟨k,b,y,e,f,g⟩;rcases d k b e with⟨rfl,rfl⟩|⟨A,o,p⟩
         ·exact⟨k,_,y,D,f,g⟩
         ·exact⟨k,b,y,p,f,g⟩
       ·exact a3l
      ·exact a3l
     ·exact a3l
    ·exact a3l
   ·exact a3l
 | jnk t =>
   unfold c3V;dsimp only;split
   ·rename_i k V;split
    ·rename_i l D;refine⟨⟨hm,?_⟩,rfl⟩;have I:=h.tmp t;rw[show s.fs.T t = .val (.one (.ref (.flt .f32) k))from V]at I;obtain⟨y,ad,m,c,hb,M,R⟩:=I;obtain⟨y',hb',hbr⟩:=h.mr.blk k _ D;rw[hb]at hb';cases hb';have G:∀j b,(St.get { s with tmps:=(t,.val (.one (.sl .jnk (l.map fun _=>()))))::s.tmps,mem:=(k,none)::s.mem }) j=some b->j≠k /\ s.get j=some b:=fun j b e=>by
      rcases a0E (a3c (n:=s.n) (l:=[(k,none)]) e)with⟨_,E⟩|⟨A,o⟩
      ·cases E
      ·exact⟨A,o⟩
     rcases hbr with⟨hl0,a',H⟩|⟨b,cap,cur,T,H,hh,A,o,p,h4⟩
     ·subst H;cases M;subst hl0;refine⟨β,K,h.turn (fun k y _ e=>e) (KLe.refl K) h.kok (fun _ _ e => .inl e) (fun j=>?_) ?_ h.fresh ?_ (le_refl _)⟩
      ·show VR _ _ (St.tmpV { s with tmps:=(t,.val (.one (.sl .jnk [])))::s.tmps,mem:=(k,none)::s.mem } j) _;rw[a5t (n:=s.n)];split
       ·rename_i S;subst S;rw[R];exact⟨_,0,0,rfl,rfl,le_refl _,.inl rfl⟩
       ·exact h.tmp j
      ·refine h.mr.step (BLe.refl β) (KLe.refl K) fun j b e=>?_
       obtain⟨A,o⟩:=G j b e;exact .inl ⟨o,fun x y f g=>⟨rfl,h.mr.ro j b y x o f g⟩⟩
      ·rintro x ⟨j,b,y,e,f,g⟩;obtain⟨A,o⟩:=G j b e;exact⟨j,b,y,o,f,g⟩
     ·subst H;cases M;have hKb:K b=none:=h.mr.ro k _ _ b D hb rfl;obtain⟨K',hK'⟩:∃K':Ks,K'=fun x=>if x=b then some (true,cur)else K x:=⟨_,rfl⟩
      have Q:K' b=some (true,cur):=by rw[hK'];simp
      have O:∀x,x≠b->K' x=K x:=fun x C=>by rw[hK'];simp[C]
      have r:KLe K K':=fun x z e=>by
       rw[O x (fun H=>by rw[H,hKb]at e;cases e)];exact e
      refine⟨β,K',h.turn (fun k y _ e=>e) r ⟨?_,h.kok.gk.mono r⟩ ?_ (fun j=>?_) ?_ h.fresh ?_ (le_refl _)⟩
      ·intro x z e;by_cases C:x=b
       ·subst C;rw[Q]at e;cases e;exact⟨cur,T,(0,0),hh,KOK.self fun _=>rfl⟩
       ·rw[O x C]at e;exact h.kok.ato x z e
      ·intro x z e;by_cases C:x=b
       ·subst C;exact .inr (.inl ⟨k,_,_,D,hb,rfl⟩)
       ·rw[O x C]at e;exact .inl e
      ·show VR _ _ (St.tmpV { s with tmps:=(t,.val (.one (.sl .jnk (l.map fun _=>()))))::s.tmps,mem:=(k,none)::s.mem } j) _;rw[a5t (n:=s.n)];split
       ·rename_i S;subst S;rw[R];refine⟨_,_,_,rfl,by simp,A,.inr ⟨b,0,cur,rfl,Q,fun i hi=>?_⟩⟩;have hi':i<l.length:=by simpa using hi
        obtain⟨q,hq,_⟩:=h4 i hi';rw[Nat.zero_add];exact⟨q,hq⟩
       ·exact(h.tmp j).mono (BLe.refl β) r
      ·refine h.mr.step (BLe.refl β) r fun j c e=>?_
       obtain⟨E,e2⟩:=G j c e;refine .inl ⟨e2,fun x y f g=>⟨rfl,?_⟩⟩;rw[O x (fun H=>by subst H;exact E (h.mr.sep j k c _ y _ x e2 D f hb g rfl))];exact h.mr.ro j c y x e2 f g
      ·rintro x ⟨j,c,y,e,f,g⟩;obtain⟨E,e2⟩:=G j c e;exact⟨j,c,y,e2,f,g⟩
    ·exact a3l
   ·exact a3l
theorem b3u {a:Act} {w:World}:∀(own:List Cv) {s:St},SR P Γ z s a w->SR P Γ z (b2W own s) a w /\ (b2W own s).m=s.m
 |[],s,h=>⟨h,rfl⟩
 | c::r,s,h=>by
   obtain⟨b,d⟩:=e1X c h;obtain⟨e,f⟩:=b3u r b;exact⟨e,f.trans d⟩
theorem a4D {a:Act} {w:World} {live:List Nat} {own:List Cv} {s j:St} (h:SR P Γ z s a w) (c:a8y live own s=some j):SR P Γ z j a w:=by
 obtain⟨h,_⟩:=b3u own h;simp only[a8y]at c;generalize b2W own s=s1 at h c;generalize f:a3W (a2E s1.get a1P (a9T s1.m++live.flatMap fun t=>a1u (s1.tmpV t)) (a9T 0)) s1.m=rest at c;split at c
 ·rename_i tmps mem l o;cases c;obtain⟨g,β,K,h⟩:=h;have i:∀k' b',St.get { tmps,mem,n:=s1.m+rest.length,m:=s1.m } k'=some b'->∃k b,a2Y rest s1.m k=some k' /\ s1.get k=some b /\ b2S (a2Y rest s1.m) b=some b':=by
   intro k' b' e;unfold St.get at e;dsimp only at e;refine b0x o k' b' ?_;cases hq:a1D mem k' with
   |none=>rw[hq]at e;cases e
   |some x=>rw[hq]at e;dsimp only at e;rw[e]
  refine⟨g,a8W β rest s1.m,K,⟨fun t=>?_,h.nt,h.defers,h.kok,h.mr.ren a3b i,fun k d=>b1O d,h.kle,h.knew,h.fr,fun x p=>h.own x (p.ren h.mr a3b i),fun k y d e=>?_,?_⟩⟩
  ·show VR _ K (St.tmpV { tmps,mem,n:=s1.m+rest.length,m:=s1.m } t) _;unfold St.tmpV;dsimp only;cases hq:a1D tmps t with
   |none=>exact a6a
   |some v=>exact e1S a3b (b3t l t v hq) (h.tmp t)
  ·rw[b1N (by rw[g];exact d)];exact h.ble k y d e
  ·show z.m<=s1.m+rest.length;omega
 ·cases c
def a6F {R:Type} (P:Program) (Γ:Env) (z:a5E) (K:Ex->St->Option R) (r:R):Exit->Act->World->Prop
 |.normal,a,w=>∃s,SR P Γ z s a w /\ K .normal s=some r
 |.exit i,a,w=>∃s,SR P Γ z s a w /\ K (.exit i) s=some r
 |.ret,a,w=>∃s,SR P Γ z s a w /\ K .ret s=some r
 |_,_,_=>False
theorem a5u {R:Type} {cut:Option (List Nat×List Cv)} {K:Ex->St->Option R} {r:R}:∀e a w,a6F P Γ z (a5W cut K) r e a w->a6F P Γ z K r e a w:=by
 intro e a w h;cases e with
 | normal =>
   obtain⟨s,c,b⟩:=h;unfold a5W at b;dsimp only at b;split at b
   ·split at b
    ·rename_i f d;exact⟨f,a4D c d,b⟩
    ·cases b
   ·exact⟨s,c,b⟩
 |exit i=>exact h
 |ret=>exact h
 |_=>exact h
theorem b3v {R:Type} {id:Nat} {cut:Option (List Nat×List Cv)} {K:Ex->St->Option R} {r:R}:∀e a w,a6F P Γ z (a7I id cut K) r e a w->Exit.inBlock id (a6F P Γ z K r) e a w:=by
 intro e a w h;cases e with
 | normal =>
   obtain⟨s,c,b⟩:=h;exact a5u (cut:=cut) .normal a w ⟨s,c,b⟩
 | exit i =>
   obtain⟨s,c,b⟩:=h;simp only[Exit.inBlock];unfold a7I at b;dsimp only at b;split at b
   ·rename_i d;rw[if_pos (a0g d)];exact a5u (cut:=cut) .normal a w ⟨s,c,b⟩
   ·rename_i d;rw[if_neg (fun e=>by subst e;simp at d)];exact⟨s,c,b⟩
 |ret=>exact h
 |_=>exact h
theorem e8l {p:Nat->Prop}:∀(n:Nat),p n->∃k,p k /\ ∀j,j<k->¬p j:=by
 intro n
 induction n using Nat.strongRecOn with
 | _ n f =>
   intro h;by_cases a:∃j,j<n /\ p j
   ·obtain⟨j,b,c⟩:=a;exact f j b c
   ·exact⟨n,h,fun j d e=>a ⟨j,d,e⟩⟩
theorem b1P {R:Type} {ex:Nat} {past:List Nat} {pown:List Cv} {K:Ex->St->Option R} {r:R}:∀e a w,a6F P Γ z (e1J ex past pown K) r e a w->a6F P Γ z K r e a w:=by
 intro e a w h;cases e with
 |normal=>obtain⟨s,c,b⟩:=h;cases b
 | exit i =>
   obtain⟨s,c,b⟩:=h;unfold e1J at b;dsimp only at b;split at b
   ·split at b
    ·rename_i f d;exact⟨f,a4D c d,b⟩
    ·cases b
   ·cases b
 |ret=>exact h
 |_=>exact h
theorem e1Y {R:Type} {c:Code} {L:a4V} {K:Ex->St->Option R} {r:R}
 (B:∀(K:Ex->St->Option R) s r,EBk Γ c K s=some r->∀a w,SR P Γ z s a w->c.wp P (a6F P Γ z K r) a w) (n:Nat) {s:St} (h:a9W Γ c L K n s=some r) {a:Act} {w:World} (u:SR P Γ z s a w) :
 (Code.loop c).wp P (a6F P Γ z K r) a w:=by
 classical
 let J:Act->World->Nat->Prop:=fun a w k=>∃s,SR P Γ z s a w /\ a9W Γ c L K k s=some r
 let I:Act->World->Prop:=fun a w=>∃k,J a w k
 have d:∀a w,I a w->∃k,J a w k /\ ∀j,j<k->¬J a w j:=fun a w ⟨k,f⟩=>e8l k f
 let l:Act->World->Nat:=fun a w=>if h:I a w then(d a w h).choose else 0
 have p:∀a w,I a w->J a w (l a w) /\ ∀j,j<l a w->¬J a w j:=by
  intro a w m;have:l a w=(d a w m).choose:=dif_pos m;rw[this];exact(d a w m).choose_spec
 refine wp_loop I l ⟨n,s,u,h⟩ fun a w m=>?_
 obtain⟨⟨s,u,f⟩,_⟩:=p a w m;cases hn:l a w with
 |zero=>rw[hn]at f;simp[a9W]at f
 | succ k =>
   rw[hn]at f;simp only[a9W]at f;refine wp_mono (B _ s r f a w u) fun e g w' q=>?_
   cases e with
   | normal =>
     obtain⟨C,v,b⟩:=q;unfold a3M at b;dsimp only at b;split at b
     ·rename_i x t;have y:J g w' k:=⟨x,a4D v t,b⟩;have o:I g w':=⟨k,y⟩;refine⟨o,?_⟩;have A:=(p g w' o).2 k;rcases Nat.lt_or_ge k (l g w')with h3|h3
      ·exact absurd y (A h3)
      ·omega
     ·cases b
   |exit i=>exact b1P (ex:=L.ex) (past:=L.past) (pown:=L.pown) (.exit i) g w' q
   |ret=>exact b1P (ex:=L.ex) (past:=L.past) (pown:=L.pown) .ret g w' q
   |_=>exact q
theorem b8A {R:Type} (env:a1m P Γ):∀(c:Code),a7i Γ c->∀(K:Ex->St->Option R) (s:St) (r:R),EBk Γ c K s=some r->∀a w,SR P Γ z s a w->c.wp P (a6F P Γ z K r) a w:=by
 intro c
 induction c with
 |skip=>exact fun _ K s r h a w g=>wp_skip ⟨s,g,h⟩
 |label l=>exact fun _ K s r h a w g=>wp_label ⟨s,g,h⟩
 |exit id=>exact fun _ K s r h a w g=>wp_exit ⟨s,g,h⟩
 | ret =>
   intro _ K s r h a w g;unfold EBk at h;split at h
   ·rename_i B hc;exact wp_ret ⟨B,a4D g hc,h⟩
   ·cases h
 | seq x y v A =>
   intro j K s r h a w g;unfold EBk at h;refine wp_seq (wp_mono (v (fun c' f=>j c' (List.mem_append_left _ f)) _ s r h a w g) fun e Y w' I=>?_);cases e with
   | normal =>
     obtain⟨B,T,hk⟩:=I;exact A (fun c' f=>j c' (List.mem_append_right _ f)) K B r hk Y w' T
   |exit i=>exact I
   |ret=>exact I
   |_=>exact I
 | cond c x y v A =>
   intro j K s r h a w g;unfold EBk at h;split at h
   ·rename_i b V;obtain⟨J,β,Ks,C⟩:=g;have W:=a8Q C.tmp c;rw[<- b8z,V]at W;have Q:a.eval c = .bool b:=W;have q:∀b',b=b'->SR P Γ z (s.putC c b') a w:=by
     intro b' e;subst e;cases c with
     | tmp t =>
       have:=a5r s t (a2p b) V;exact⟨J,β,Ks,by rw[show(s.putC (.tmp t) b).fs=(s.put t (a2p b)).fs from rfl,this];exact C⟩
     |_=>exact⟨J,β,Ks,C⟩
    refine wp_cond Q ?_;cases b with
    |true=>exact wp_mono (v (fun c' f=>j c' (List.mem_append_left _ f)) _ _ r h a w (q true rfl)) a5u
    |false=>exact wp_mono (A (fun c' f=>j c' (List.mem_append_right _ f)) _ _ r h a w (q false rfl)) a5u
   ·cases h
 | block id x H =>
   intro j K s r h a w g;unfold EBk at h;exact wp_block (wp_mono (H j _ s r h a w g) b3v)
 | loop x H =>
   intro j K s r h a w g;unfold EBk at h;split at h
   ·rename_i L hl;unfold e1K at h;split at h
    ·cases h
    ·rename_i s0 O;split at h
     ·cases h
     ·rename_i ok b s1 s2 G;split at h
      ·cases h
      ·obtain⟨n,hn⟩:=j x (List.mem_cons_self ..) L hl s0 b s1 s2 G R K;refine e1Y (L:=L) (H fun c' f=>j c' (List.mem_cons_of_mem _ f)) n (r:=r) (K:=K) ?_ (a4D g O);rw[hn];cases b
       ·exact h
       ·exact h
   ·cases h
 | region id ops d =>
   intro j K s r h a w g;unfold EBk at h;obtain⟨J,β,Ks,C⟩:=g;obtain⟨F,E,X,B,U,fl,fm,fs,u⟩:=b1K ops.toList h;have D:∀i o,ops[i]?=some o->a4e Γ ops o (F i) (E i) (X i) (F (i+1)):=fun i o e=>fs i o (by rw[Array.getElem?_toList];exact e)
   rw[Array.length_toList]at fl u;have p:∀β K' a w,SRf P Γ z β K' (F ops.size) a w->SR P Γ z B a w:=fun β K' a w h=>⟨fm.trans J,β,K',by rw[<- fl];exact h⟩
   cases d with
   | false =>
     dsimp only at u;refine wp_region ?_;rw[List.range_eq_range'];refine b6o env D (fun β K' a w h=>⟨B,p β K' a w h,u⟩) ops.size 0 (by omega) β Ks a w ?_;rw[U];exact C
   | true =>
     dsimp only at u;split at u
     ·rename_i hd;obtain⟨Z,d2,d3⟩:=b3r hd;have R:Rgn Γ ops F E X:=⟨D,Z,d2,d3⟩;have S:SRf P Γ z β Ks (F 0) a { w with drawn:=w.drawn+1 }:=by
       rw[U];exact C.still ⟨rfl,rfl,rfl,rfl⟩
      have m:∀k,(Array.replicate ops.size false).getD k false=false:=by
       intro k;simp only[Array.getD_eq_getD_getElem?,Array.getElem?_replicate];split<;>rfl
      refine wp_region_any env.mixed (c2s env R (fun β K' a w h=>⟨B,p β K' a w h,u⟩) ops.size _ (by simp) ?_ ?_ β Ks _ _ ?_)
      ·have:∀N,cnt (fun k=>(Array.replicate ops.size false).getD k false) N=N:=by
        intro N
        induction N with
        |zero=>rfl
        | succ N H =>
          simp only[cnt];rw[if_neg (by rw[m];simp),H];omega
       rw[this];exact le_refl _
      ·intro i o hi M;dsimp only at M;rw[m]at M;cases M
      ·exact DS.start R S m
     ·cases u
 |_=>intro _ K s r h;simp[EBk]at h
end
section
variable {P:Program} {Γ:Env}
theorem a5v:∀{args:List W} {i:Nat} {β:Bt} {K:Ks} {vs:List Value},All2 (WR β K) args vs->∀t,VR β K (match a1D (b2Y i args) (i+t)with|some v=>v|none=>pois) (vs.getD t undef) /\ ∀j,j<i->a1D (b2Y i args) j=none
 |[],i,β,K,vs,h,t=>⟨by simp only[b2Y,a1D];exact a6a,fun j _=>rfl⟩
 |u::r,i,β,K,[],h,t=>h.elim
 | u::r,i,β,K,v::vs,h,t=>by
   refine⟨?_,fun j a=>?_⟩
   ·cases t with
    | zero =>
      simp only[b2Y,a1D,Nat.add_zero,Nat.beq_refl];exact h.1
    | succ t =>
      simp only[b2Y,a1D];rw[a1A (by omega)];have:=(a5v (i:=i+1) h.2 t).1;rw[show i+1+t=i+(t+1)by omega]at this;exact this
   ·simp only[b2Y,a1D];rw[a1A (by omega)];exact(a5v (i:=i+1) h.2 t).2 j (by omega)
theorem b0y:∀{ins:List Blk} {i:Nat} (k:Nat),a1D (c4i i ins) (i+k)=(ins[k]?).map some
 |[],i,k=>rfl
 |b::r,i,0=>by simp[c4i,a1D]
 | b::r,i,k+1=>by
   simp only[c4i,a1D];rw[a1A (by omega)];have:=b0y (ins:=r) (i:=i+1) k;rw[show i+1+k=i+(k+1)by omega]at this;rw[this];simp
theorem a6G (args:List W) (ins:List Blk):(a7X args ins).get=a2b ins:=by
 funext k;unfold St.get a7X a2b;dsimp only;have:=b0y (ins:=ins) (i:=0) k;rw[Nat.zero_add]at this;rw[this];cases ins[k]?<;>rfl
theorem b1Q:∀(m p:Nat),(a9T m)[p]?=if p<m then some p else none
 |0,p=>by simp[a9T]
 | m + 1,p=>by
   simp only[a9T];have a:(a9T m).length=m:=by
    clear p
    induction m with
    |zero=>rfl
    |succ m b=>simp[a9T,b]
   rw[List.getElem?_append,a];split
   ·rename_i h;rw[b1Q m p,if_pos h,if_pos (by omega)]
   ·rename_i h;by_cases e:p=m
    ·subst e;simp
    ·rw[if_neg (by omega),List.getElem?_eq_none (by simp;omega)]
theorem a3r:∀(m:Nat),(a9T m).length=m
 |0=>rfl
 |m+1=>by simp[a9T,a3r m]
theorem d6z {z:a5E} {fn:Func} (env:a1m P Γ) (i:fn.results.toList=Γ.res) {β:Bt} {K:Ks} {s:St} {a:Act} {w:World} (h:SRf P Γ z β K s.fs a w) {ws:List W} (d:a1x (e8c Γ s) Γ.res=some ws) :
 ∃v,(results fn a.tmps).run P w = .ok v w /\ a7j β K ws v:=by
 have m : ∀(rs:List ResultVar) (ws:List W),a1x (e8c Γ s) rs=some ws->∃vs:List Value,All2 (WR β K) ws vs /\
  (rs.mapM (fun(x:ResultVar)=>match x with
   |.tmp t=>(pure (a.tmps.getD t undef):Go.Sem Value)
   |.cell b t=>do loadVar t (<- asAddr (a.tmps.getD b undef)))).run P w = .ok vs w:=by
  intro rs
  induction rs with
  |nil=>intro ws d;simp only[a1x,injEq]at d;subst d;exact⟨[],trivial,by simp⟩
  | cons x rs D =>
    intro ws d;simp only[a1x]at d;split at d
    ·rename_i y c;split at d
     ·rename_i ys l;cases d;obtain⟨vs,e,f⟩:=D ys l;cases x with
      | tmp t =>
        simp only[e8c]at c;split at c
        ·rename_i u j;cases c;have p:=h.tmp t;rw[show s.fs.T t = .val y from j]at p;refine⟨a.tmps.getD t undef::vs,⟨p,e⟩,?_⟩;rw[List.mapM_cons];simp only[Sem.run_bind,Sem.run_pure,Result.andThen_ok,f]
        ·cases c
      | cell b t =>
        simp only[e8c]at c;split at c
        ·rename_i ti k;split at c
         ·rename_i out g;split at c
          ·rename_i u j;cases c;obtain⟨F,off,G,v,q,A,B,o⟩:=b8q (P:=P) (get:=s.get) (n:=0) (env.tab t ti k) h.kok h.mr (h.tmp b) g;simp only[AM.a0z,injEq]at o;rw[<- o]at j;cases j;refine⟨v::vs,⟨B,e⟩,?_⟩;have C:(do loadVar t (<- asAddr (a.tmps.getD b undef)):Go.Sem Value).run P w = .ok v w:=by
            rw[q,Sem.run_bind];simp only[asAddr,Sem.run_pure,Result.andThen_ok,A]
           rw[List.mapM_cons,Sem.run_bind];dsimp only;rw[C];simp only[Result.andThen_ok,Sem.run_bind,f,Sem.run_pure]
          ·cases c
         ·cases c
        ·cases c
     ·cases d
    ·cases d
 obtain⟨vs,e,f⟩:=m _ _ d;rw[<- i]at f;refine⟨if h:vs.toArray.size=1 then vs.toArray[0]else .tuple vs.toArray,?_,?_⟩
 ·unfold results;rw[Array.mapM_eq_mapM_toList,Sem.run_bind,Sem.run_map]
  erw [f]
  rfl
 ·unfold a7j;cases ws with
  | nil=>cases vs with
    |nil=>exact⟨#[],rfl,trivial⟩
    |cons _ _=>exact e.elim
  | cons x r=>cases vs with
    |nil=>exact e.elim
    | cons v vs=>cases r with
      | nil=>cases vs with
        |nil=>exact e.1
        |cons _ _=>exact e.2.elim
      | cons y r=>cases vs with
        |nil=>exact e.2.elim
        |cons E vs=>exact⟨(v::E::vs).toArray,by simp,by simpa using e⟩
structure a5P (P:Program) (f:Nat) (Γ:Env) (c:Code):Prop where
 loops:a7i Γ c
 is:∃fn,P.funcs[f]?=some fn /\ fn.body=some c /\ fn.results.toList=Γ.res /\ fn.ntmps=Γ.nt /\ (fn.name == "runtime.NumGoroutine")=false
theorem a5P.ok {f:Nat} {c:Code} (h:a5P P f Γ c):e1M P f:=by
 obtain⟨fn,a,b,_,_,d⟩:=h.is;exact⟨fn,a,by rw[b];rfl,d⟩
theorem b8B {R:Type} (env:a1m P Γ) {f:Nat} {c:Code} (hf:a5P P f Γ c) {g:List W×List (Option Blk)->Option R} {args:List W} {ins:List Blk} {r:R} (h:b5Z Γ c g args ins=some r)
 {β0:Bt} {K0:Ks} {w0:World} {vs:Array Value} (l:KOK K0 w0) (hm:MR β0 K0 (a2b ins) w0) (C:∀k,ins.length<=k->β0 k=none) (hv:All2 (WR β0 K0) args vs.toList) :
 Calls P f vs w0 fun e w'=>∃v β K rs outs,e = .returned v /\ g (rs,outs)=some r /\ Ret ins outs rs β0 K0 w0 v w' β K:=by
 obtain⟨fn,Q,q,J,V,_⟩:=hf.is;unfold b5Z at h;split at h
 case h_2=>cases h
 rename_i F;have F:args.length<=Γ.nt:=by simpa using F
 have hlen:args.length=vs.size:=by simpa using hv.length
 refine calls_of_wp Q q ?_;rw[V]
 let z:a5E:=⟨β0,K0,w0,ins.length,Own β0 (a2b ins)⟩
 have h0:SR P Γ z (a7X args ins) { tmps:=vs++Array.replicate (Γ.nt-vs.size) undef,defers:=[] } w0:=by
  refine⟨rfl,β0,K0,⟨fun t=>?_,by simp;omega,rfl,l,?_,C,KLe.refl _,fun b arr e => .inl e,Fr.refl _ _,?_,fun k y _ e=>e,le_refl _⟩⟩
  ·have L:=(a5v (i:=0) hv t).1;rw[Nat.zero_add]at L;have M:(vs++Array.replicate (Γ.nt-vs.size) undef).getD t undef=vs.toList.getD t undef:=by
    simp only[Array.getD_eq_getD_getElem?,List.getD_eq_getElem?_getD,Array.getElem?_toList];rw[Array.getElem?_append];split
    ·rfl
    ·rename_i n;rw[Array.getElem?_replicate,Array.getElem?_eq_none (xs:=vs) (by omega)];split<;>rfl
   show VR β0 K0 ((a7X args ins).tmpV t) ((vs++Array.replicate (Γ.nt-vs.size) undef).getD t undef);rw[M];exact L
  ·show MR β0 K0 (a7X args ins).get w0;rw[a6G];exact hm
  ·intro x B;left;have:(a7X args ins).fs.G=a2b ins:=a6G args ins;rw[this]at B;exact B
 refine wp_mono (b8A env c hf.loops _ _ r h _ _ h0) fun e a w N=>?_
 have p:∀s,SR P Γ z s a w->(match fin Γ s with|some r=>g r|none=>none)=some r->a.defers=[] /\ ∃v,(results fn a.tmps).run P w = .ok v w /\ ∃v' β K rs outs,Ending.returned v = .returned v' /\ g (rs,outs)=some r /\ Ret ins outs rs β0 K0 w0 v' w β K:=by
  intro s j m;split at m
  case h_2=>cases m
  rename_i ro d;obtain⟨rs,outs⟩:=ro;obtain⟨G,β,K,j⟩:=j;unfold fin at d;split at d
  ·cases d
  ·rename_i ws Z;obtain⟨v,X,Y⟩:=d6z env J j Z;dsimp only at d;generalize E:a2E s.get a1P (a9T s.m++ws.flatMap a0R) (a9T 0)=ks at d;have H:(a3W ks s.m).Nodup:=by
    rw[a4f,<- E];exact List.Pairwise.filter _ (a2t _ _ _ _ (by simp[a9T]))
   have D:∀k∈a3W ks s.m,s.m<=k:=by
    intro k l;rw[a4f,List.mem_filter]at l;simpa using l.2
   generalize a3W ks s.m=rest at d H D;split at d
   ·rename_i ws' outs' L M;cases d;have hlo:outs.length=s.m+rest.length:=by rw[a2r M,List.length_append,a3r]
    have o:∀k' b',a2o outs k'=some b'->∃k b,a2Y rest s.m k=some k' /\ s.get k=some b /\ b2S (a2Y rest s.m) b=some b':=by
     intro k' b' e;unfold a2o at e;cases hq:outs[k']? with
     |none=>rw[hq]at e;cases e
     | some x =>
       rw[hq]at e;have B:x=some b':=e;subst B;obtain⟨k,l,I⟩:=(All2.ofMap M).get?' hq;have U:a2Y rest s.m k=some k':=by
        rw[List.getElem?_append,a3r]at l;unfold a2Y;split at l
        ·rename_i n;rw[b1Q,if_pos n]at l;have S:k'=k:=Option.some.inj l;rw[<- S,show Nat.blt k' s.m=true by simpa[Nat.blt_eq]using n]
        ·rename_i n;have A:=D k (List.mem_of_getElem? l);rw[show Nat.blt k s.m=false from Bool.eq_false_iff.2 fun e=>by rw[Nat.blt_eq]at e;omega];dsimp only;rw[a8V H l];congr 1;omega
       cases hg0:s.get k with
       |none=>rw[hg0]at I;simp[a5U]at I
       | some b0 =>
         rw[hg0]at I;simp only[a5U,Option.map_eq_some_iff,injEq]at I;obtain⟨b1,h4,h5⟩:=I;exact⟨k,b0,U,hg0,by rw[h4,h5]⟩
    refine⟨j.defers,v,X,v,a8W β rest s.m,K,rs,outs,rfl,m,⟨j.kle,j.kok,j.knew,j.mr.ren a3b o,fun k l=>b1O (by omega),?_,j.fr,fun x B=>j.own x (B.ren j.mr a3b o),?_,?_⟩⟩
    ·have A:VR (a8W β rest s.m) K (d2m rs) v:=a8o L Y fun c c' u _ O hu=>a7n a3b O hu
     exact A
    ·intro k y e;have T:k<ins.length:=by
      rcases Nat.lt_or_ge k ins.length with A|A
      ·exact A
      ·rw[C k A]at e;cases e
     have hzm:s.m=ins.length:=G;rw[b1N (by omega)];exact j.ble k y T e
    ·have hzm:s.m=ins.length:=G;omega
   ·cases d
 cases e with
 |normal=>obtain⟨s,j,m⟩:=N;exact p s j m
 |ret=>obtain⟨s,j,m⟩:=N;exact p s j m
 |exit i=>obtain⟨s,j,m⟩:=N;cases m
 |_=>exact N.elim
end
open Go Go.ChangeShapes Go.WideShapes
def e1Z:C->Value->Bool
 |.pois,_=>true
 |.bool b,.bool b'=>b==b'
 |.int k n,.int k' n'=>a2C k k'&&decide (n=n')
 |.flt k b,.float k' b'=>a1d k k'&&beq b b'
 |.cpx k a b,.complex k' a' b'=>a1d k k'&&beq a a'&&beq b b'
 |.str s,.string s'=>beq s.size 0&&beq s'.size 0
 |.nil _,.slice _ n c=>beq n 0&&beq c 0
 |_,_=>false
theorem a6b {s:ByteArray} (h:s.size=0):s=ByteArray.empty:=by
 apply ByteArray.ext;apply Array.eq_empty_of_size_eq_zero;exact h
theorem d2H {c:C} {v:Value} (h:e1Z c v=true):ZR c v:=by
 intro β K;unfold e1Z at h;split at h
 ·trivial
 ·rename_i b b';have:b=b':=by simpa using h
  rw[this];rfl
 ·simp only[and_eq_true,a2C,decide_eq_true_eq]at h;obtain⟨rfl,rfl⟩:=h;rfl
 ·simp only[and_eq_true,a1d,decide_eq_true_eq]at h;obtain⟨rfl,h⟩:=h;rw[a0g h];exact⟨_,rfl,FEq.refl _ _⟩
 ·simp only[and_eq_true,a1d,decide_eq_true_eq]at h;obtain⟨⟨rfl,h⟩,h'⟩:=h;rw[a0g h,a0g h'];exact⟨_,_,rfl,FEq.refl _ _,FEq.refl _ _⟩
 ·simp only[and_eq_true]at h;rw[a6b (a0g h.1),a6b (a0g h.2)];rfl
 ·simp only[and_eq_true]at h;rw[a0g h.1,a0g h.2];exact⟨_,rfl⟩
 ·cases h
def c4M {α c:Type} (f:α->c->Bool):List α->List c->Bool
 |[],[]=>true
 |a::as1,b::bs=>f a b&&c4M f as1 bs
 |_,_=>false
theorem b1R {α c:Type} {f:α->c->Bool} {R:α->c->Prop} (d:∀a b,f a b=true->R a b):∀{as1:List α} {bs:List c},c4M f as1 bs=true->All2 R as1 bs
 |[],[],_=>trivial
 | a::as1,b::bs,h=>by
   simp only[c4M,and_eq_true]at h;exact⟨d _ _ h.1,b1R d h.2⟩
 |[],_::_,h=>by cases h
 |_::_,[],h=>by cases h
def c4N (P:Program) (f:Field) (x:Nat×Nat×Bool):Bool:=
 beq f.offset x.1&&(match P.info? f.type,P.underlying f.type with
  |some fi,some fd=>beq fi.size x.2.1&&(d2p fd==x.2.2)
  |_,_=>false)
def f9f (P:Program) (d:TypeDesc) (ti:TI):Bool:=match ti.sort,d with
 |.slice,.slice e=>beq e ti.elem
 |.array n,.array m e=>beq m n&&beq e ti.elem
 |.string,.string=>true
 |.struct,.struct fs=>c4M (c4N P) fs.toList ti.fields
 |.bool,.bool=>true
 |.int k,.int k'=>a2C k k'
 |.float k,.float k'=>a1d k k'
 |.complex k,.complex k'=>a1d k k'
 |.other,_=>true
 |_,_=>false
theorem c4O {P:Program} {f:Field} {x:Nat×Nat×Bool} (h:c4N P f x=true):f.offset=x.1 /\ ∃b fd,P.info? f.type=some b /\ b.size=x.2.1 /\ P.underlying f.type=some fd /\ d2p fd=x.2.2:=by
 simp only[c4N,and_eq_true]at h;obtain⟨e,a⟩:=h;split at a
 ·rename_i b fd c d;simp only[and_eq_true]at a;exact⟨a0g e,b,fd,c,a0g a.1,d,by simpa using a.2⟩
 ·cases a
theorem e2a {P:Program} {d:TypeDesc} {ti:TI} (h:f9f P d ti=true):a1M P d ti:=by
 unfold f9f at h;unfold a1M;split at h
 ·rename_i e;rw[e];rw[a0g h]
 ·rename_i e;simp only[and_eq_true]at h;rw[e];dsimp only;rw[a0g h.1,a0g h.2]
 ·rename_i e;rw[e]
 ·rename_i e;rw[e];exact⟨_,rfl,b1R (fun _ _=>c4O) h⟩
 ·rename_i e;rw[e]
 ·rename_i e;rw[e];dsimp only;rw[show _=_ from of_decide_eq_true h]
 ·rename_i e;rw[e];dsimp only;rw[show _=_ from of_decide_eq_true h]
 ·rename_i e;rw[e];dsimp only;rw[show _=_ from of_decide_eq_true h]
 ·rename_i e;rw[e];trivial
 ·cases h
def a3J:Ty->List Value->Option (List Value)
 |.bool,.bool false::r=>some r
 |.int k,.int k' n::r=>match a2C k k'&&decide (n=0)with|true=>some r|false=>none
 |.flt k,.float k' b::r=>match a1d k k'&&beq b 0 with|true=>some r|false=>none
 |.cpx k,.complex k' a b::r=>match a1d k k'&&beq a 0&&beq b 0 with|true=>some r|false=>none
 |.str,.string s::r=>match beq s.size 0 with|true=>some r|false=>none
 |.slice _,.slice _ n c::r=>match beq n 0&&beq c 0 with|true=>some r|false=>none
 |.nil,r=>some r
 | .cons a b,r=>match a3J a r with
   |some d=>a3J b d
   |none=>none
 |_,_=>none
theorem d2I:∀(t:Ty) {vs r:List Value},a3J t vs=some r->∃d,vs=d++r /\ ∀K,DR K t (zero t) d:=by
 intro t
 induction t with
 | cons a b e f =>
   intro vs r h;simp only[a3J]at h;split at h
   ·rename_i o l;obtain⟨d,rfl,i⟩:=e l;obtain⟨g,rfl,j⟩:=f h;exact⟨d++g,by simp,fun K=>⟨d,g,rfl,i K,j K⟩⟩
   ·cases h
 |nil=>intro vs r h;simp only[a3J,injEq]at h;subst h;exact⟨[],rfl,fun K=>rfl⟩
 | jnk =>
   intro vs r h;cases vs with
   |nil=>simp[a3J]at h
   |cons v vs=>cases v<;>simp[a3J]at h
 | bool =>
   intro vs r h;cases vs with
   |nil=>simp[a3J]at h
   | cons v vs =>
     cases v<;>first|(simp[a3J]at h;done)|skip
     rename_i b;cases b
     ·simp only[a3J,injEq]at h;subst h;exact⟨[_],rfl,fun K=>rfl⟩
     ·simp[a3J]at h
 | int k =>
   intro vs r h;cases vs with
   |nil=>simp[a3J]at h
   | cons v vs =>
     cases v<;>simp only[a3J]at h<;>first|cases h|skip
     split at h
     ·rename_i c;simp only[and_eq_true,a2C,decide_eq_true_eq]at c;obtain⟨rfl,rfl⟩:=c;cases h;exact⟨[_],rfl,fun K=>rfl⟩
     ·cases h
 | flt k =>
   intro vs r h;cases vs with
   |nil=>simp[a3J]at h
   | cons v vs =>
     cases v<;>simp only[a3J]at h<;>first|cases h|skip
     split at h
     ·rename_i c;simp only[and_eq_true,a1d,decide_eq_true_eq]at c;obtain⟨rfl,c⟩:=c;rw[a0g c];cases h;exact⟨[_],rfl,fun K=>⟨_,rfl,FEq.refl _ _⟩⟩
     ·cases h
 | cpx k =>
   intro vs r h;cases vs with
   |nil=>simp[a3J]at h
   | cons v vs =>
     cases v<;>simp only[a3J]at h<;>first|cases h|skip
     split at h
     ·rename_i c;simp only[and_eq_true,a1d,decide_eq_true_eq]at c;obtain⟨⟨rfl,c⟩,m⟩:=c;rw[a0g c,a0g m];cases h;exact⟨[_],rfl,fun K=>⟨_,_,rfl,FEq.refl _ _,FEq.refl _ _⟩⟩
     ·cases h
 | str =>
   intro vs r h;cases vs with
   |nil=>simp[a3J]at h
   | cons v vs =>
     cases v<;>simp only[a3J]at h<;>first|cases h|skip
     split at h
     ·rename_i c;cases h;rw[a6b (a0g c)];exact⟨[_],rfl,fun K=>rfl⟩
     ·cases h
 | slice t n =>
   intro vs r h;cases vs with
   |nil=>simp[a3J]at h
   | cons v vs =>
     cases v<;>simp only[a3J]at h<;>first|cases h|skip
     split at h
     ·rename_i c;simp only[and_eq_true]at c;rw[a0g c.1,a0g c.2];cases h;exact⟨[_],rfl,fun K=>⟨_,0,0,rfl,rfl,le_refl _,.inl rfl⟩⟩
     ·cases h
def tiB (P:Program) (t:Nat) (ti:TI):Bool:=match P.info? t,P.underlying t with
 | some i,some d=>match i.zero with
   |some z=>beq i.size ti.size&&beq i.bytes ti.bytes&&(d2p d==ti.agg)&&c4M e1Z ti.zero z.cells.toList&&f9f P d ti &&
    (!beq ti.ty.size ti.size||(match a3J ti.ty z.cells.toList with|some []=>true|_=>false))&&beq z.cells.size i.size
   |none=>false
 |_,_=>false
theorem e8m {P:Program} {t:Nat} {ti:TI} (h:tiB P t ti=true):e6L P t ti:=by
 unfold tiB at h;split at h
 ·rename_i i d l m;split at h
  ·rename_i z n;simp only[and_eq_true]at h;obtain⟨⟨⟨⟨⟨⟨b,c⟩,f⟩,g⟩,j⟩,a⟩,k⟩:=h;refine⟨i,d,z,l,m,n,a0g b,a0g c,by simpa using f,b1R (fun _ _=>d2H) g,e2a j,fun o=>?_,a0g k⟩;rw[o]at a;simp only[Nat.beq_refl,Bool.not_true,Bool.false_or]at a;split at a
   ·rename_i p;obtain⟨q,e,hd⟩:=d2I _ p;rw[List.append_nil]at e;rw[e];exact hd
   ·cases a
  ·cases h
 ·cases h
def f5S (P:Program) (l:List (Nat×TI)):Bool:=l.all fun x=>tiB P x.1 x.2
theorem b1S {α:Type}:∀{l:List (Nat×α)} {t:Nat} {x:α},a1D l t=some x->(t,x)∈l
 |[],_,_,h=>by cases h
 | (k,y)::r,t,x,h=>by
   simp only[a1D]at h;split at h
   ·rename_i e;cases h;rw[a0g e];exact List.mem_cons_self ..
   ·exact List.mem_cons_of_mem _ (b1S h)
theorem e2b {P:Program} {l:List (Nat×TI)} (h:f5S P l=true):∀t ti,a1D l t=some ti->e6L P t ti:=fun t ti e=>
 e8m (List.all_eq_true.1 h _ (b1S e))
def b1T (w:World):Ks:=fun b=>match w.heap[b]? with
 |some (.cells arr _ _)=>some (false,arr)
 |_=>none
theorem e2c (w:World) (x:Nat):¬Jk (b1T w) x:=by
 rintro⟨arr,e⟩;unfold b1T at e;split at e<;>cases e
theorem e2d (w:World) (c:GK (b1T w)):KOK (b1T w) w:=by
 refine⟨?_,c⟩;intro b arr e;unfold b1T at e;split at e
 ·rename_i a T fz h;cases e;exact⟨a,T,fz,h,KOK.self fun e=>by cases e⟩
 ·cases e
def Wf:(t:Ty)->Den t->Prop
 |.int k,n=>(Lit.int k n).wf=true
 |.flt k,b=>(Lit.float k b).wf=true
 |.str,s=>s.size<=maxLen
 |.slice t,l=>l.length<=maxLen /\ ∀x∈l,Wf t x
 |.cons a b,p=>Wf a p.1 /\ Wf b p.2
 |_,_=>True
mutual
def tyB (P:Program):Ty->Nat->Bool
 |.bool,t=>match P.underlying t with|some .bool=>true|_=>false
 |.int k,t=>match P.underlying t with|some (.int k')=>a2C k k'|_=>false
 |.flt k,t=>match P.underlying t with|some (.float k')=>a1d k k'|_=>false
 |.str,t=>match P.underlying t with|some .string=>true|_=>false
 |.cpx _,_=>false
 |.jnk,_=>false
 |.nil,_=>false
 | .slice e,t=>match P.underlying t with
   |some (.slice te)=>tyB P e te&&beq (P.cellsOf te) e.size&&Nat.blt 0 e.size
   |_=>false
 | .cons a b,t=>match P.underlying t with
   | some (.struct fs)=>match fs.toList with
     |f::r=>beq f.offset 0&&tyB P a f.type&&beq (P.cellsOf f.type) a.size&&fldB P b r a.size&&beq (P.cellsOf t) (a.size+b.size)
     |[]=>false
   |_=>false
def fldB (P:Program):Ty->List Field->Nat->Bool
 |.nil,fs,_=>fs.isEmpty
 | .cons a b,fs,off=>match fs with
   |f::r=>beq f.offset off&&tyB P a f.type&&beq (P.cellsOf f.type) a.size&&fldB P b r (off+a.size)
   |[]=>false
 |_,_,_=>false
end
theorem e2e {P:Program} {e:Ty} {t:Nat} (h:tyB P e t=true):e.isJ=false:=by
 cases e with
 |jnk=>simp[tyB]at h
 |_=>rfl
theorem b0b {α b:Type} {f:α->Option b} {x:α} {l:List α} {ys:List b} (h:(x::l).mapM f=some ys):∃y a,f x=some y /\ l.mapM f=some a /\ ys=y::a:=by
 rw[List.mapM_cons]at h;cases h1:f x with
 |none=>rw[h1]at h;cases h
 | some y =>
   rw[h1]at h;cases h2:l.mapM f with
   |none=>rw[h2]at h;cases h
   | some a =>
     rw[h2]at h;exact⟨y,a,rfl,rfl,(Option.some.inj h).symm⟩
theorem b8C {α a:Type} {f:α->Option a}:∀{l:List α} {ys:List a},l.mapM f=some ys->ys.length=l.length /\ ∀(i:Nat) x,l[i]?=some x->∃y,ys[i]?=some y /\ f x=some y
 | [],ys,h=>by
   have:ys=[]:=by simpa using h.symm
   subst this;exact⟨rfl,fun i x e=>by simp at e⟩
 | x::l,ys,h=>by
   obtain⟨y,j,b,c,rfl⟩:=b0b h;obtain⟨d,g⟩:=b8C c;refine⟨by simp[d],fun i z e=>?_⟩;cases i with
   |zero=>simp only[List.getElem?_cons_zero,injEq]at e;subst e;exact⟨y,rfl,b⟩
   |succ i=>exact g i z (by simpa using e)
theorem b3w {a:Type} {f:Nat->Option a} {n:Nat} {ys:List a} (h:(List.range n).mapM f=some ys):ys.length=n /\ ∀i,i<n->∃y,ys[i]?=some y /\ f i=some y:=by
 obtain⟨b,c⟩:=b8C h;exact⟨by simpa using b,fun i d=>c i i (by simp[d])⟩
theorem c4P {w:World} {base b off n:Nat} {arr:Array Value} {T:TypeId} {fz:Nat×Nat} (hh:w.heap[b]?=some (.cells arr T fz)) {vs:List Value} (h:w.cells? base ⟨b,off,none⟩ n=some vs):vs=sub arr.toList off n:=by
 unfold World.cells? at h;split at h
 ·obtain⟨f,d⟩:=b3w h;apply List.ext_getElem?;intro j;unfold sub;rw[List.getElem?_take];split
  ·rename_i e;obtain⟨y,c,a⟩:=d j e;rw[c,List.getElem?_drop,Array.getElem?_toList];rw[a2T]at a;unfold World.cell? at a;rw[hh]at a;simpa using a.symm
  ·rw[List.getElem?_eq_none (by omega)]
 ·cases h
section
variable {H:Type} {enc:TypeId×Value->H} {P:Program} {w:World} {base:Nat} {spare:Nat->Bool} {held:Bool}
theorem e2f:∀(ty:Ty),
 (∀(t fuel:Nat) (cs:List Value) (d:DataW H×List MemPlace),tyB P ty t=true->DataW.trod enc P w base spare held fuel t cs=some d->∃x:Den ty,DR (b1T w) ty x cs /\ Wf ty x) /\
 (∀(j:List Field) (off fuel:Nat) (cs:List Value),fldB P ty j off=true->(∀f∈j,∃y,DataW.trod enc P w base spare held fuel f.type ((cs.drop f.offset).take (P.cellsOf f.type))=some y) ->
  cs.length=off+ty.size->∃x:Den ty,DR (b1T w) ty x (cs.drop off) /\ Wf ty x):=by
 intro ty
 induction ty with
 | bool =>
   refine⟨fun t fuel cs d c h=>?_,fun j off fuel cs h=>by simp[fldB]at h⟩;simp only[tyB]at c;split at c
   ·rename_i A;obtain⟨b,o,_⟩:=DataW.trod_bool A h;exact⟨b,o,trivial⟩
   ·cases c
 | int k =>
   refine⟨fun t fuel cs d c h=>?_,fun j off fuel cs h=>by simp[fldB]at h⟩;simp only[tyB]at c;split at c
   ·rename_i k' A;have W:k=k':=of_decide_eq_true c;subst W;obtain⟨n,o,_,B⟩:=DataW.trod_int A h;exact⟨n,o,B⟩
   ·cases c
 | flt k =>
   refine⟨fun t fuel cs d c h=>?_,fun j off fuel cs h=>by simp[fldB]at h⟩;simp only[tyB]at c;split at c
   ·rename_i k' A;have W:k=k':=of_decide_eq_true c;subst W;have:∃b,cs=[.float k b] /\ (Lit.float k b).wf=true:=by
     cases fuel with
     |zero=>simp[DataW.trod]at h
     | succ fuel =>
       unfold DataW.trod at h;rw[A]at h;split at h<;>simp_all
    obtain⟨b,o,B⟩:=this;exact⟨b,⟨b,o,FEq.refl _ _⟩,B⟩
   ·cases c
 | str =>
   refine⟨fun t fuel cs d c h=>?_,fun j off fuel cs h=>by simp[fldB]at h⟩;simp only[tyB]at c;split at c
   ·rename_i A;obtain⟨s,o,_,B⟩:=DataW.trod_string A h;exact⟨s,o,B⟩
   ·cases c
 |cpx k=>exact⟨fun t fuel cs d h=>by simp[tyB]at h,fun j off fuel cs h=>by simp[fldB]at h⟩
 |jnk=>exact⟨fun t fuel cs d h=>by simp[tyB]at h,fun j off fuel cs h=>by simp[fldB]at h⟩
 | nil =>
   refine⟨fun t fuel cs d h=>by simp[tyB]at h,fun j off fuel cs h hm X=>?_⟩;refine⟨(),?_,trivial⟩;show cs.drop off=[];rw[List.drop_eq_nil_iff];simp only[Ty.size]at X;omega
 | slice e ih =>
   refine⟨fun t fuel cs d c h=>?_,fun j off fuel cs h=>by simp[fldB]at h⟩;simp only[tyB]at c;split at c
   case h_2=>cases c
   rename_i te A;simp only[and_eq_true]at c;obtain⟨⟨t1,t2⟩,t3⟩:=c;have t2:=a0g t2;have t3:0<e.size:=by simpa[Nat.blt_eq]using t3
   rcases DataW.trod_slice A h with⟨o,_⟩|⟨ad,len,cap,elems,rest,n,_,o,_,_,L,J,h6,h7,h8⟩
   ·exact⟨[],⟨none,0,0,o,rfl,le_refl _,.inl rfl⟩,zero_le _,fun x F=>by cases F⟩
   ·rw [t2]at h7;by_cases D:len=0
    ·subst D;exact⟨[],⟨some ad,0,cap,o,rfl,zero_le _,.inl rfl⟩,zero_le _,fun x F=>by cases F⟩
    ·have G:∀i,i<len->∃y vs,w.cells? base (ad.add (i*e.size)) e.size=some vs /\ DataW.trod enc P w base spare held n te vs=some y:=by
      intro i u;have:=h7 i u;rw[List.getElem?_eq_getElem (by omega)]at this;obtain⟨vs,z,E⟩:=Option.bind_eq_some_iff.1 this;exact⟨_,vs,z,E⟩
     obtain⟨y0,vs0,z,_⟩:=G 0 (by omega);have p:∃v,w.cell? ad=some v:=by
      unfold World.cells? at z;split at z
      ·obtain⟨_,K⟩:=b3w z;obtain⟨v,_,I⟩:=K 0 t3;rw[Nat.zero_mul]at I;exact⟨v,I⟩
      ·cases z
     obtain⟨v0,p⟩:=p;obtain⟨b,off,N⟩:=ad;unfold World.cell? at p;split at p
     case h_2=>cases p
     rename_i arr T fz hh;dsimp only at hh p;cases N with
     |some q=>simp at p
     | none =>
       have hK:b1T w b=some (e.isJ,arr):=by unfold b1T;rw[hh,e2e t1]
       have C:∀i,i<len->∃x:Den e,DR (b1T w) e x (sub arr.toList (off+i*e.size) e.size) /\ Wf e x:=by
        intro i u;obtain⟨y,vs,z,E⟩:=G i u;rw[a2T]at z;rw[<- c4P hh z];exact ih.1 te n vs y t1 E
       have:∃l:List (Den e),l.length=len /\ ∀i (u:i<l.length),DR (b1T w) e l[i] (sub arr.toList (off+i*e.size) e.size) /\ Wf e l[i]:=by
        clear h8 h7 h6 J L o G D
        induction len with
        |zero=>exact⟨[],rfl,fun i u=>by simp at u⟩
        | succ m ihm =>
          obtain⟨l,Q,R⟩:=ihm fun i u=>C i (by omega)
          obtain⟨x,F⟩:=C m (by omega);refine⟨l++[x],by simp[Q],fun i u=>?_⟩;by_cases M:i<l.length
          ·rw[List.getElem_append_left M];exact R i M
          ·have:i=l.length:=by simp at u;omega
           subst this;rw[List.getElem_append_right (le_refl _)];simp only[Nat.sub_self,List.getElem_cons_zero];rw[Q];exact F
       obtain⟨l,Q,R⟩:=this;refine⟨l,⟨some ⟨b,off,none⟩,len,cap,o,Q.symm,L,.inr ⟨b,off,arr,rfl,hK,fun i u=>(R i u).1⟩⟩,?_,fun x F=>?_⟩
       ·omega
       ·obtain⟨i,u,rfl⟩:=List.mem_iff_getElem.1 F;exact(R i u).2
 | cons a b Y Z =>
   have step:∀(f:Field) (r:List Field) (off fuel:Nat) (cs:List Value),f.offset=off->tyB P a f.type=true->P.cellsOf f.type=a.size->fldB P b r (off+a.size)=true ->
    (∀g∈f::r,∃y,DataW.trod enc P w base spare held fuel g.type ((cs.drop g.offset).take (P.cellsOf g.type))=some y)->cs.length=off+(a.size+b.size) ->
    ∃x:Den (.cons a b),DR (b1T w) (.cons a b) x (cs.drop off) /\ Wf (.cons a b) x:=by
    intro f r off fuel cs o h2 B L J h6;obtain⟨y,hy⟩:=J f (List.mem_cons_self ..);rw[o,B]at hy;obtain⟨x1,d1,w1⟩:=Y.1 f.type fuel _ y h2 hy;obtain⟨x2,d2,w2⟩:=Z.2 r (off+a.size) fuel cs L (fun g O=>J g (List.mem_cons_of_mem _ O)) (by omega);refine⟨(x1,x2),⟨_,_,?_,d1,d2⟩,w1,w2⟩;rw[<- List.drop_drop];exact(List.take_append_drop ..).symm
   refine⟨fun t fuel cs d c h=>?_,fun j off fuel cs h hf X=>?_⟩
   ·simp only[tyB]at c;split at c
    case h_2=>cases c
    rename_i j A;obtain⟨xs,n,_,_,B,L,J⟩:=DataW.trod_struct A h;split at c
    case h_2=>cases c
    rename_i f r U;simp only[and_eq_true]at c;obtain⟨⟨⟨⟨z,E⟩,K⟩,I⟩,g5⟩:=c;have:=step f r 0 n cs (a0g z) E (a0g K) (by rw[Nat.zero_add];exact I) (fun g O=>?_) (by rw[B,a0g g5];omega)
    ·rw[List.drop_zero]at this;exact this
    ·rw[<- U]at O;obtain⟨i,u,he⟩:=List.mem_iff_getElem.1 O;have V:i<j.size:=by simpa using u
     have S:j[i]?=some g:=by
      rw[Array.getElem?_eq_getElem V,<- he];simp
     have:=J i g S;rw[List.getElem?_eq_getElem (by omega)]at this;exact⟨_,this⟩
   ·cases j with
    |nil=>simp[fldB]at h
    | cons f r =>
      simp only[fldB,and_eq_true]at h;obtain⟨⟨⟨z,E⟩,K⟩,I⟩:=h;exact step f r off fuel cs (a0g z) E (a0g K) I hf (by simpa[Ty.size]using X)
def e2g:(t:Ty)->Den t->W
 |.bool,b => .one (.bool b)
 |.int k,n => .one (.int k n)
 |.flt k,b => .one (.flt k b)
 |.cpx k,p => .one (.cpx k p.1 p.2)
 |.str,s => .one (.str s)
 |.slice t,l => .one (.sl t l)
 |.nil,_ => .agg []
 |.cons a b,p => .agg (AM.enc (.cons a b) p)
 |.jnk,_ => .one .junk
theorem e2h {β:Bt} {K:Ks} {t:Ty} {x:Den t} {v:Value} (h:DR K t x v.cells.toList) (d:match t with|.nil=>(∃cs,v = .agg cs)|.cons _ _=>(∃cs,v = .agg cs)|_=>v.cells=#[v]):WR β K (e2g t x) v:=by
 have c:=DR.enc (β:=β) t h;cases t with
 |nil=>obtain⟨cs,rfl⟩:=d;exact⟨cs,rfl,c⟩
 |cons a b=>obtain⟨cs,rfl⟩:=d;exact⟨cs,rfl,c⟩
 |bool=>dsimp only at d;rw[d]at c;exact c.1
 |int k=>dsimp only at d;rw[d]at c;exact c.1
 |flt k=>dsimp only at d;rw[d]at c;exact c.1
 |cpx k=>dsimp only at d;rw[d]at c;exact c.1
 |str=>dsimp only at d;rw[d]at c;exact c.1
 |slice t=>dsimp only at d;rw[d]at c;exact c.1
 |jnk=>dsimp only at d;rw[d]at c;exact c.1
theorem e8n {ty:Ty} {t:Nat} {v:Value} {d:DataW H} {ps:List MemPlace} {r:Reach} {j:Nat} (f:tyB P ty t=true) (i:Value.okWide P w r j t v) (h:DataW.Trod enc P w base spare held t v d ps) :
 ∃x:Den ty,Wf ty x /\ ∀β,WR β (b1T w) (e2g ty x) v:=by
 obtain⟨fuel,h⟩:=h;obtain⟨x,hd,l⟩:=(e2f (H:=H) ty).1 t fuel _ _ f h;refine⟨x,l,fun β=>e2h hd ?_⟩;cases ty with
 |nil=>simp[tyB]at f
 |cpx k=>simp[tyB]at f
 |jnk=>simp[tyB]at f
 | cons a b =>
   simp only[tyB]at f;split at f
   ·rename_i m g;obtain⟨cs,e,_⟩:=okWide_struct g i;exact⟨cs,e⟩
   ·cases f
 | bool =>
   simp only[tyB]at f;split at f
   ·rename_i g;obtain⟨b,rfl⟩:=okWide_bool g i;rfl
   ·cases f
 | int k =>
   simp only[tyB]at f;split at f
   ·rename_i g;obtain⟨b,rfl⟩:=okWide_int g i;rfl
   ·cases f
 | flt k =>
   simp only[tyB]at f;split at f
   ·rename_i g;simp only[Value.okWide,g,Cell.okWide]at i;cases v<;>first|rfl|(simp_all[Cell.ok];done)
   ·cases f
 | str =>
   simp only[tyB]at f;split at f
   ·rename_i g;obtain⟨b,rfl⟩:=okWide_string g i;rfl
   ·cases f
 | slice e =>
   simp only[tyB]at f;split at f
   ·rename_i g;obtain⟨a,n,c,rfl⟩:=okWide_slice g i;rfl
   ·cases f
end
open Go Go.RowKit
def c3W (t:Ty) (cs:List C):Option (Den t):=match dec t cs with
 |some (x,[])=>some x
 |_=>none
def f5T:(t:Ty)->W->Option (Den t)
 |.nil,.agg cs=>c3W .nil cs
 |.cons a b,.agg cs=>c3W (.cons a b) cs
 |.bool,.one c=>c3W .bool [c]
 |.int k,.one c=>c3W (.int k) [c]
 |.flt k,.one c=>c3W (.flt k) [c]
 |.cpx k,.one c=>c3W (.cpx k) [c]
 |.str,.one c=>c3W .str [c]
 |.slice t,.one c=>c3W (.slice t) [c]
 |_,_=>none
def b8D:(t:Ty)->List W->Option (Den t)
 |.nil,[]=>some ()
 | .cons a b,w::ws=>match f5T a w with
   | some x=>match b8D b ws with
     |some y=>some (x,y)
     |none=>none
   |none=>none
 |_,_=>none
def a5Q:(t:Ty)->Den t->List W
 |.cons a b,p=>e2g a p.1::a5Q b p.2
 |_,_=>[]
theorem b1U {β:Bt} {K:Ks} {t:Ty} {cs:List C} {x:Den t} {vs:List Value} (h:c3W t cs=some x) (b:All2 (CR β K) cs vs):DR K t x vs:=by
 unfold c3W at h;split at h
 ·rename_i y e;cases h;obtain⟨d,c,rfl,hd,a⟩:=b2Z t e b;cases c with
  |nil=>rw[List.append_nil];exact hd
  |cons _ _=>exact a.elim
 ·cases h
theorem c4Q {β:Bt} {K:Ks} {t:Ty} {u:W} {x:Den t} {v:Value} (h:f5T t u=some x) (a:WR β K u v):WR β K (e2g t x) v:=by
 have one:∀c,c3W t [c]=some x->CR β K c v->All2 (CR β K) (AM.enc t x) [v]:=fun c e d=>DR.enc t (b1U e ⟨d,trivial⟩)
 unfold f5T at h;split at h<;>first|cases h;done|skip
 ·obtain⟨arr,rfl,b⟩:=a;exact⟨arr,rfl,DR.enc _ (b1U h b)⟩
 ·obtain⟨arr,rfl,b⟩:=a;exact⟨arr,rfl,DR.enc _ (b1U h b)⟩
 ·exact(one _ h a).1
 ·exact(one _ h a).1
 ·exact(one _ h a).1
 ·exact(one _ h a).1
 ·exact(one _ h a).1
 ·exact(one _ h a).1
theorem a6c {β:Bt} {K:Ks}:∀{t:Ty} {c:List W} {x:Den t} {vs:List Value},b8D t c=some x->All2 (WR β K) c vs->All2 (WR β K) (a5Q t x) vs:=by
 intro t
 induction t with
 | nil =>
   intro c x vs h d;cases c with
   |nil=>exact d
   |cons _ _=>simp[b8D]at h
 | cons a b _ e =>
   intro c x vs h d;cases c with
   |nil=>simp[b8D]at h
   | cons u c =>
     simp only[b8D]at h;split at h
     ·rename_i y f;split at h
      ·rename_i z g;cases h;cases vs with
       |nil=>exact d.elim
       |cons v vs=>exact⟨c4Q f d.1,e g d.2⟩
      ·cases h
     ·cases h
 |_=>intro c x vs h;cases c<;>simp[b8D]at h
def a0b (A R:Ty) (ok:Den A->Bool) (g:Den A->Den R):a6m:=⟨false,fun ws ins=>match ins with
 | []=>match b8D A ws with
   |some x=>some (ok x,a5Q R (g x),[])
   |none=>none
 |_=>none⟩
def a8d (tab:List (Nat×TI)) (eqs:List Nat) (a:List (Nat×a6m)) (nt:Nat) (res:List ResultVar) (frz:List Nat) (cut:List (Nat×(List Nat×List Cv))) (loops:List (Nat×a4V)) (past:List (Nat×(List Nat×List Cv))) (rown:List Cv):Env:=
 { tab:=a1D tab,sem:=a1D a,eqT:=b1w eqs,nt,res,frz,cut,loops,past,rown }
def a7e {α:Type} (R:α->Prop):List α->Prop
 |[]=>True
 |x::r=>R x /\ a7e R r
theorem a7e.mem {α:Type} {R:α->Prop}:∀{l:List α},a7e R l->∀x∈l,R x
 |[],_,x,h=>by cases h
 | y::r,h,x,a=>by
   rcases List.mem_cons.1 a with rfl|a
   ·exact h.1
   ·exact h.2.mem x a
theorem a7e.nil {α:Type} {R:α->Prop}:a7e R []:=trivial
theorem a7e.cons {α:Type} {R:α->Prop} {x:α} {r:List α} (h:R x) (a:a7e R r):a7e R (x::r):=⟨h,a⟩
def a0d (P:Program) (x:Nat×a6m):Prop:=c4j P x.1 x.2 /\ e1M P x.1
theorem a4O {P:Program} {tab:List (Nat×TI)} {eqs:List Nat} {a:List (Nat×a6m)} (c:P.follows .mixedOrders=true) (g:f5S P tab=true) (b:a7e (e8e P) eqs) (d:a7e (a0d P) a) {nt:Nat} {res:List ResultVar} {frz:List Nat} {cut:List (Nat×(List Nat×List Cv))} {loops:List (Nat×a4V)} {past:List (Nat×(List Nat×List Cv))} {rown:List Cv} :
 a1m P (a8d tab eqs a nt res frz cut loops past rown):=
 ⟨e2b g,fun f sm e=>d.mem (f,sm) (b1S e),(fun t e=>b.mem t (a6s.1 e)),c⟩
section
variable {P:Program} {Γ:Env}
def d2J (R:Ty):List W×List (Option Blk)->Option (Den R):=fun p=>match p.2 with
 |[]=>b8D R p.1
 |_=>none
theorem d2K:∀{t:Ty} {c:List W} {x:Den t},b8D t c=some x->(a5Q t x).length=c.length:=by
 intro t
 induction t with
 | nil=>intro c x h;cases c with
   |nil=>rfl
   |cons _ _=>simp[b8D]at h
 | cons a b _ d =>
   intro c x h;cases c with
   |nil=>simp[b8D]at h
   | cons u c =>
     simp only[b8D]at h;split at h
     ·split at h
      ·rename_i z e;cases h;simp[a5Q,d e]
      ·cases h
     ·cases h
 |_=>intro c x h;cases c<;>simp[b8D]at h
theorem a8p {β:Bt} {K:Ks} {R:Ty} {rs:List W} {r:Den R} {v:Value} (h:b8D R rs=some r) (a:a7j β K rs v):a7j β K (a5Q R r) v:=by
 have c:=d2K h;unfold a7j at a ⊢
 match rs,a5Q R r,c,(fun vs=>a6c (β:=β) (K:=K) (vs:=vs) h)with
 |[],[],_,_=>exact a
 |[u],[u'],_,hk=>exact(hk [v] ⟨a,trivial⟩).1
 | u::u2::us,y::y2::ys,_,hk =>
   obtain⟨arr,e,b⟩:=a;exact⟨arr,e,hk arr.toList b⟩
theorem f9g (env:a1m P Γ) {f:Nat} {c:Code} (l:a5P P f Γ c) {A R:Ty} {ok:Den A->Bool} {g:Den A->Den R} (h:∀x,ok x=true->b5Z Γ c (d2J R) (a5Q A x) []=some (g x)):a0d P (f,a0b A R ok g):=by
 refine⟨?_,l.ok⟩;intro args ins rs outs a β0 K0 w0 vs m n d o;cases ins with
 |cons _ _=>simp[a0b]at a
 | nil =>
   simp only[a0b]at a;split at a
   ·rename_i x p;simp only[injEq,Prod.mk.injEq]at a;obtain⟨i,rfl,rfl⟩:=a;refine(b8B env l (h x i) m n d (a6c p o)).mono ?_;rintro e w' ⟨v,β,K,q,j,rfl,b,k⟩;unfold d2J at b;dsimp only at b;split at b
    ·exact⟨v,β,K,rfl,{ k with out:=a8p b k.out }⟩
    ·cases b
   ·cases a
theorem a0y (env:a1m P Γ) {f:Nat} {c:Code} (b:a5P P f Γ c) {A R:Ty} {p:Den A->Option (Den R)} (h:∀x,b5Z Γ c (d2J R) (a5Q A x) []=p x):a0d P (f,a0b A R (fun x=>(p x).isSome) (fun x=>(p x).getD (zero R))):=
 f9g env b fun x a=>by
  rw[h x];cases hp:p x with
  |none=>rw[hp]at a;cases a
  |some r=>rfl
end
inductive d2L:C->C->Bool->Prop
 |int (k:IntKind) (x y:Int):d2L (.int k x) (.int k y) (x==y)
 |bool (x y:Bool):d2L (.bool x) (.bool y) (x==y)
theorem a3s:∀{cs ds:List C} {b:Bool},a2S cs ds=some b->cs.length=ds.length /\ (cs=[]->b=true) /\
 ∀(c d:C) (r f:List C),cs=c::r->ds=d::f->∃e b',a2S r f=some b' /\ b=(e&&b') /\ d2L c d e
 | [],[],b,h=>by
   simp only[a2S,injEq]at h;exact⟨rfl,fun _=>h.symm,fun c d r f e=>by cases e⟩
 |[],_::_,b,h=>by simp[a2S]at h
 |c::r,[],b,h=>by cases c<;>simp[a2S]at h
 | c :: r,d::f,b,h=>by
   have a:∀e,(match r,f with|[],[]=>some e|_,_=>match a2S r f with|some b'=>some (e&&b')|none=>none)=some b->∃b',a2S r f=some b' /\ b=(e&&b'):=by
    intro e i;split at i
    ·cases i;exact⟨true,rfl,by simp⟩
    ·split at i
     ·rename_i b' o;cases i;exact⟨b',o,rfl⟩
     ·cases i
   cases c<;>cases d<;>first|(simp[a2S]at h;done)|skip
   ·rename_i x y;simp only[a2S]at h;obtain⟨b',g,l⟩:=a (x==y) h;have n:=(a3s g).1;refine⟨by simp[n],fun e=>(by cases e),fun c d q p e j=>?_⟩;cases e;cases j;exact⟨_,b',g,l,.bool x y⟩
   ·rename_i k x k' y;simp only[a2S]at h;split at h
    ·rename_i m;have m:k=k':=of_decide_eq_true m;subst m;obtain⟨b',g,l⟩:=a (x==y) h;have n:=(a3s g).1;refine⟨by simp[n],fun e=>(by cases e),fun c d q p e j=>?_⟩;cases e;cases j;exact⟨_,b',g,l,.int k x y⟩
    ·cases h
theorem b3x:∀(n:Nat) {cs ds:List C} {b:Bool},a2S cs ds=some b->∃e j,a2S (cs.take n) (ds.take n)=some e /\ a2S (cs.drop n) (ds.drop n)=some j /\ b=(e&&j)
 |0,cs,ds,b,h=>⟨true,b,rfl,h,by simp⟩
 | n+1,[],[],b,h=>by
   cases h;exact⟨true,true,rfl,rfl,rfl⟩
 |n+1,[],_::_,b,h=>by simp[a2S]at h
 |n+1,c::r,[],b,h=>by cases c<;>simp[a2S]at h
 | n+1,c::r,d::r',b,h=>by
   obtain⟨e,b',s,t,w⟩:=(a3s h).2.2 c d r r' rfl rfl;obtain⟨f,l,m,o,q⟩:=b3x n s;refine⟨e&&f,l,?_,o,by rw[t,q,Bool.and_assoc]⟩;have add:∀(p a:List C) (x:Bool),a2S p a=some x->a2S (c::p) (d::a)=some (e&&x):=by
    intro p a x i;have g:=a3s i;cases w with
    | int k u v =>
      simp only[a2S];rw[show a2C k k=true by simp[a2C]];cases p with
      | nil =>
        cases a with
        |nil=>have:=g.2.1 rfl;subst this;simp
        |cons _ _=>simp at g
      | cons _ _ =>
        cases a with
        |nil=>simp at g
        |cons _ _=>simp only[i]
    | bool u v =>
      simp only[a2S];cases p with
      | nil =>
        cases a with
        |nil=>have:=g.2.1 rfl;subst this;simp
        |cons _ _=>simp at g
      | cons _ _ =>
        cases a with
        |nil=>simp at g
        |cons _ _=>simp only[i]
   exact add _ _ _ m
def d2M (v:Value) (c:C):Prop:=(∃k x y,v = .int k x /\ c = .int k y)∨(∃x y,v = .bool x /\ c = .bool y)
theorem b1V:∀{zs cs:List C} {vs:List Value},a8w zs cs=true->All2 ZR zs vs->All2 d2M vs cs
 |[],[],[],_,_=>trivial
 |[],[],_::_,_,h=>by cases h
 |z::r,[],vs,h,_=>by cases z<;>simp[a8w]at h
 |[],_::_,vs,h,_=>by simp[a8w]at h
 |z::r,c::r',[],_,h=>by cases h
 | z::r,c::r',v::vs,h,hz=>by
   obtain⟨a,b⟩:=hz;have a:=a (fun _=>none) (fun _=>none);cases z<;>cases c<;>first|(simp[a8w]at h;done)|skip
   ·simp only[a8w]at h;exact⟨.inr ⟨_,_,a,rfl⟩,b1V h b⟩
   ·simp only[a8w,and_eq_true]at h;have d:=of_decide_eq_true h.1;subst d;exact⟨.inl ⟨_,_,_,a,rfl⟩,b1V h.2 b⟩
def e8o:Option Value->Bool
 |some (.int _ _)=>true
 |_=>false
def e2i:Option Value->Bool
 |some (.bool _)=>true
 |_=>false
def d6A (P:Program) (zl:List Value) (et:Nat->List Value->Bool):List Field->Nat->Option Nat
 |[],off=>some off
 | f :: fs,off=>match beq f.offset off&&decide (f.name ≠ "_"),P.info? f.type,P.underlying f.type with
   | true,some i,some d=>match (match d with|.int _=>beq i.size 1&&e8o zl[off]?|.bool=>beq i.size 1&&e2i zl[off]?|.struct _=>et f.type ((zl.drop off).take i.size)|_=>false)with
     |true=>d6A P zl et fs (off+i.size)
     |false=>none
   |_,_,_=>none
def d6B (P:Program):Nat->Nat->List Value->Bool
 |0,_,_=>false
 | n+1,t,zl=>(match P.underlying t,P.info? t with
   |some (.struct fs),some i=>(match d6A P zl (d6B P n) fs.toList 0 with|some m=>beq i.size m|none=>false)
   |_,_=>false)&&!P.stoodInHeld t
section
variable {P:Program} {w:World} {β:Bt} {K:Ks}
def EqN (P:Program) (n t:Nat) (a:List Value):Prop:=∀(d:Nat),n<=d->∀(cs ds:List C) (xs ys:Array Value) (b:Bool) (β:Bt) (K:Ks) (w:World),(∀i,P.info? t=some i->cs.length=i.size)->All2 d2M a cs->a2S cs ds=some b->All2 (CR β K) cs xs.toList->All2 (CR β K) ds ys.toList ->
    (Op.equalIn (d+1) t (.agg xs) (.agg ys)).run P w = .ok b w
theorem b8E {α β:Type} {R:α->β->Prop}:∀{l:List α} {m:List β},All2 R l m->l.length=m.length
 |[],[],_=>rfl
 |_::_,_::_,⟨_,h⟩=>by simp[b8E h]
 |[],_::_,h=>by cases h
 |_::_,[],h=>by cases h
theorem b8F {α β:Type} {R:α->β->Prop}:∀{l:List α} {m:List β} {i:Nat} {a:α} {b:β},All2 R l m->l[i]?=some a->m[i]?=some b->R a b
 |_::_,_::_,0,a,b,⟨h,_⟩,h1,h2=>by cases h1;cases h2;exact h
 |_::_,_::_,i+1,a,b,⟨_,h⟩,h1,h2=>b8F h (by simpa using h1) (by simpa using h2)
 |[],_,_,_,_,_,h1,_=>by simp at h1
 |_::_,[],_,_,_,h,_,_=>by cases h
theorem b3y {α β:Type} {R:α->β->Prop}:∀(n:Nat) {l:List α} {m:List β},All2 R l m->All2 R (l.drop n) (m.drop n)
 |0,_,_,h=>h
 |n+1,[],[],_=>trivial
 |n+1,_::_,_::_,⟨_,h⟩=>b3y n h
 |n+1,[],_::_,h=>by cases h
 |n+1,_::_,[],h=>by cases h
theorem b3z {α β:Type} {R:α->β->Prop}:∀(n:Nat) {l:List α} {m:List β},All2 R l m->All2 R (l.take n) (m.take n)
 |0,_,_,_=>trivial
 |n+1,[],[],_=>trivial
 |n+1,_::_,_::_,⟨h1,h⟩=>⟨h1,b3z n h⟩
 |n+1,[],_::_,h=>by cases h
 |n+1,_::_,[],h=>by cases h
theorem a7L (n:Nat) (IH:∀t zl,d6B P n t zl=true->EqN P n t zl) (d:Nat) (hd:n<=d) {xs ys:Array Value} {cs ds:List C} {zl:List Value} (hz:All2 d2M zl cs) (hx:All2 (CR β K) cs xs.toList) (hy:All2 (CR β K) ds ys.toList):∀(fs:List Field) (off m:Nat) (b:Bool),d6A P zl (d6B P n) fs off=some m->m=cs.length->off<=cs.length->cs.length=ds.length->a2S (cs.drop off) (ds.drop off)=some b ->
 (Op.eqFields (d+1) xs ys fs).run P w = .ok b w
 | [],off,m,b,hm,hl,ho,hl2,hq=>by
   simp only[d6A,injEq]at hm
   have h1:=(a3s hq).2.1 (by rw[List.drop_eq_nil_iff];omega)
   subst h1
   simp[Op.eqFields]
 | f :: fs,off,m,b,hm,hl,ho,hl2,hq=>by
   simp only[d6A]at hm
   split at hm
   case h_2=>cases hm
   rename_i i ud f12 hi hu
   split at hm
   case h_2=>cases hm
   rename_i f3
   rw[and_eq_true]at f12
   have f1:=a0g f12.1
   have f2:f.name ≠ "_" := of_decide_eq_true f12.2
   obtain⟨e,e',g1,g2,g3⟩:=b3x i.size hq
   have hmono:∀(l:List Field) (o k:Nat),d6A P zl (d6B P n) l o=some k->o<=k:=by
    intro l
    induction l with
    |nil=>intro o k h;simp only[d6A,injEq]at h;omega
    | cons a l ih =>
      intro o k h
      simp only[d6A]at h
      split at h
      ·split at h
       ·have:=ih _ _ h;omega
       ·cases h
      ·cases h
   have hmo:=hmono _ _ _ hm
   have l1:(a2D cs off i.size).length=i.size:=by unfold a2D;rw[List.length_take,List.length_drop];omega
   have l2:(a2D ds off i.size).length=i.size:=by unfold a2D;rw[List.length_take,List.length_drop];omega
   have ih:=a7L n IH d hd hz hx hy fs (off+i.size) m e' hm hl (by omega) hl2 (by rw[<- List.drop_drop,<- List.drop_drop];exact g2)
   have main:∃v v',(part f.type xs off).run P w = .ok v w /\ (part f.type ys off).run P w = .ok v' w /\ (Op.equalIn (d+1) f.type v v').run P w = .ok e w:=by
    have one:∀(hag:d2p ud=false) (hs:i.size=1),∃c c' v v' z,(part f.type xs off).run P w = .ok v w /\ (part f.type ys off).run P w = .ok v' w /\ CR β K c v /\ CR β K c' v' /\ d2L c c' e /\ zl[off]?=some z /\ d2M z c:=by
     intro hag hs
     rw[hs]at g1 l1 l2
     obtain⟨c,hc⟩:=List.length_eq_one_iff.1 l1
     obtain⟨c',hc'⟩:=List.length_eq_one_iff.1 l2
     obtain⟨v,r1,c1⟩:=a6t (P:=P) (w:=w) (u := .one c) false f.type hi hu hag hx (by rw[hs,hc];rfl)
     obtain⟨v',r2,c2⟩:=a6t (P:=P) (w:=w) (u := .one c') false f.type hi hu hag hy (by rw[hs,hc'];rfl)
     have hc0:=hc
     unfold a2D at hc hc'
     rw[hc,hc']at g1
     obtain⟨q,b',q1,q2,q3⟩:=(a3s g1).2.2 _ _ _ _ rfl rfl
     cases q1
     rw[Bool.and_true]at q2
     subst q2
     have hzl:=b8E hz
     have hoz:off<zl.length:=by omega
     have hcs:cs[off]?=some c:=by
      have:((cs.drop off).take 1)[0]?=some c:=by rw[hc];rfl
      rw[List.getElem?_take_of_lt (by omega),List.getElem?_drop]at this
      simpa using this
     refine⟨c,c',v,v',zl[off],r1,r2,c1,c2,q3,List.getElem?_eq_getElem hoz,b8F hz (List.getElem?_eq_getElem hoz) hcs⟩
    split at f3
    ·rename_i ik
     rw[and_eq_true]at f3
     obtain⟨c,c',v,v',z,r1,r2,c1,c2,q3,hz0,hl0⟩:=one rfl (a0g f3.1)
     refine⟨v,v',r1,r2,?_⟩
     cases q3 with
     |int k x y=>rw[show v=_ from c1,show v'=_ from c2];exact run_equalIn_int w d f.type k _ x y hu
     | bool x y =>
       have f3:=f3.2
       rw[hz0]at f3
       rcases hl0 with⟨_,_,_,_,h⟩|⟨_,_,h,_⟩
       ·cases h
       ·subst h;cases f3
    ·rw[and_eq_true]at f3
     obtain⟨c,c',v,v',z,r1,r2,c1,c2,q3,hz0,hl0⟩:=one rfl (a0g f3.1)
     refine⟨v,v',r1,r2,?_⟩
     cases q3 with
     |bool x y=>rw[show v=_ from c1,show v'=_ from c2];exact run_equalIn_bool' w d f.type x y hu
     | int k x y =>
       have f3:=f3.2
       rw[hz0]at f3
       rcases hl0 with⟨_,_,_,h,_⟩|⟨_,_,_,h⟩
       ·subst h;cases f3
       ·cases h
    ·rename_i fs'
     obtain⟨v,r1,xs',rfl,c1⟩:=a6t (P:=P) (w:=w) (u := .agg (a2D cs off i.size)) true f.type hi hu rfl hx (by unfold a3I;rw[l1];simp)
     obtain⟨v',r2,ys',rfl,c2⟩:=a6t (P:=P) (w:=w) (u := .agg (a2D ds off i.size)) true f.type hi hu rfl hy (by unfold a3I;rw[l2];simp)
     refine⟨_,_,r1,r2,?_⟩
     exact IH _ _ f3 d hd _ _ _ _ e β K w (fun i' hi'=>by rw[hi]at hi';cases hi';exact l1) (b3z _ (b3y _ hz)) g1 c1 c2
    ·cases f3
   obtain⟨v,v',r1,r2,heq⟩:=main
   rw[<- f1]at r1 r2
   simp only[Op.eqFields]
   rw[if_pos f2]
   simp only[Sem.run_bind,r1,r2,heq,Result.andThen_ok]
   cases e with
   |false=>simp[g3]
   | true =>
     simp only[Bool.not_true,Bool.false_eq_true,if_false]
     rw[ih,g3]
     simp
theorem c4R:∀(n t:Nat) (f:List Value),d6B P n t f=true->EqN P n t f
 |0,_,_,h=>by simp[d6B]at h
 | n+1,t,f,h=>by
   simp only[d6B,and_eq_true]at h;obtain⟨a,p⟩:=h;split at a
   case h_2=>cases a
   rename_i j i o q;split at a
   case h_2=>cases a
   rename_i m r;have k:P.fieldsOf t=j:=by unfold Program.fieldsOf;rw[o]
   intro d hd cs ds xs ys b β K w g v l s u;rw[run_equalIn_struct w d t xs ys (by rw[k];exact o) (by simpa using p),k];obtain⟨d,rfl⟩:∃e,d=e+1:=⟨d-1,by omega⟩;have c:=(a3s l).1;exact a7L n (fun t f h=>c4R n t f h) d (by omega) v s u j.toList 0 m b r (by rw[g i q,a0g a]) (by omega) c (by simpa using l)
end
def eqB (P:Program) (t:Nat):Bool:=(match P.info? t with
 |some i=>(match i.zero with|some z=>d6B P 6 t z.cells.toList|none=>false)
 |none=>false)&&!P.eqGuardType P.depth t
theorem e8p {P:Program} {t:Nat} (h:eqB P t=true):e8e P t:=by
 simp only[eqB,and_eq_true]at h;obtain⟨a,k⟩:=h;split at a
 case h_2=>cases a
 rename_i i f;split at a
 case h_2=>cases a
 rename_i z p;refine⟨by simpa using k,fun cs ds xs ys b β K w d m n o=>?_⟩;obtain⟨l,r,zs,e,g,j⟩:=d i f;rw[p]at e;cases e;exact c4R 6 t z.cells.toList a 9999 (by decide) cs ds xs ys b β K w (fun q c=>by rw[f]at c;cases c;exact l) (b1V j g) m n o
def g6A (P:Program) (l:List Nat):Bool:=l.all (eqB P)
theorem c4S {P:Program}:∀{l:List Nat},g6A P l=true->a7e (e8e P) l
 |[],_=>trivial
 | t::r,h=>by
   simp only[g6A,List.all_cons,and_eq_true]at h;exact⟨e8p h.1,c4S h.2⟩
section
variable {Γ:Env}
theorem b1W (o:Oper) (s:St):(∀(R:Type) (K:St->Ent->Option R),c3U Γ o K s=none)∨∃a e,∀(R:Type) (K:St->Ent->Option R),c3U Γ o K s=K a e:=by
 cases h:act Γ o s.val s.get s.n with
 |none=>left;intro R K;simp only[c3U,h]
 | some out =>
   cases h1:a7g Γ o.dst with
   |false=>left;intro R K;simp only[c3U,h,h1]
   | true =>
     cases h2:out.ok with
     |false=>left;intro R K;simp only[c3U,h,h1,h2]
     |true=>right;exact⟨_,_,fun R K=>by simp only[c3U,h,h1,h2];rfl⟩
theorem a8X (o:Oper) (s:St):(∀(R:Type) (K:St->Ent->Option R),a7h Γ o K s=none)∨∃a e,∀(R:Type) (K:St->Ent->Option R),a7h Γ o K s=K a e:=by
 unfold a7h;split
 ·split
  ·rename_i b _;cases b with
   |true=>exact b1W o _
   |false=>exact b1W o _
  ·exact .inl fun _ _=>rfl
 ·exact b1W o s
theorem a8Y (o:Oper) (s:St):(∀(R:Type) (K:St->Ent->Option R),a7W Γ o K s=none)∨∃a e,∀(R:Type) (K:St->Ent->Option R),a7W Γ o K s=K a e:=by
 unfold a7W;cases a7g Γ o.dst with
 |true=>exact .inr ⟨_,_,fun _ _=>rfl⟩
 |false=>exact .inl fun _ _=>rfl
theorem b8G (ops:Array Oper):∀(L:List Oper) (s:St) (d:List Ent),(∀(R:Type) (K:St->List Ent->Option R),b0n Γ ops L s d K=none)∨∃c f,∀(R:Type) (K:St->List Ent->Option R),b0n Γ ops L s d K=K c f
 |[],s,d => .inr ⟨s,d,fun _ _=>rfl⟩
 | o :: L,s,d=>by
   have a:∀(X:∀(R:Type),(St->Ent->Option R)->Option R),((∀R K,X R K=none)∨∃c e,∀R K,X R K=K c e) ->
    (∀(R:Type) (K:St->List Ent->Option R),X R (fun c e=>b0n Γ ops L c (e::d) K)=none)∨∃c f,∀(R:Type) (K:St->List Ent->Option R),X R (fun c e=>b0n Γ ops L c (e::d) K)=K c f:=by
    intro X i;rcases i with h|⟨c,e,h⟩
    ·exact .inl fun R K=>h R _
    ·rcases b8G ops L c (e::d)with h2|⟨s2,t2,h2⟩
     ·exact .inl fun R K=>by rw[h];exact h2 R K
     ·exact .inr ⟨s2,t2,fun R K=>by rw[h];exact h2 R K⟩
   unfold b0n;split
   ·exact a (fun R K=>a7h Γ o K s) (a8X o s)
   ·split
    ·exact .inl fun _ _=>rfl
    ·rename_i g want j _ t k;split
     ·rename_i b _;cases b<;>cases want
      ·exact a (fun R K=>a7h Γ o K (s.put t (a2p false))) (a8X o _)
      ·exact a (fun R K=>a7W Γ o K (s.put t (a2p false))) (a8Y o _)
      ·exact a (fun R K=>a7W Γ o K (s.put t (a2p true))) (a8Y o _)
      ·exact a (fun R K=>a7h Γ o K (s.put t (a2p true))) (a8X o _)
     ·exact a (fun R K=>a7W Γ o K s) (a8Y o s)
     ·exact .inl fun _ _=>rfl
def a7q (X:∀(R:Type),(Ex->St->Option R)->Option R):Prop:=(∀R K,X R K=none)∨∃e a,∀R K,X R K=K e a
theorem a7q.bind {X:∀(R:Type),(Ex->St->Option R)->Option R} (h:a7q X) {T:∀(R:Type),(Ex->St->Option R)->Ex->St->Option R} (c:∀e s,a7q fun R K=>T R K e s):a7q fun R K=>X R (T R K):=by
 rcases h with h|⟨e,s,h⟩
 ·exact .inl fun R K=>h R _
 ·rcases c e s with a|⟨b,d,a⟩
  ·exact .inl fun R K=>(h R _).trans (a R K)
  ·exact .inr ⟨b,d,fun R K=>(h R _).trans (a R K)⟩
theorem a7q.pure (e:Ex) (s:St):a7q fun R K=>K e s := .inr ⟨e,s,fun _ _=>rfl⟩
theorem a7q.none:a7q fun R K=>(Option.none:Option R) := .inl fun _ _=>rfl
theorem a5w (cut:Option (List Nat×List Cv)) (e:Ex) (s:St):a7q fun R K=>a5W cut K e s:=by
 cases e with
 | normal =>
   cases cut with
   |none=>exact a7q.pure .normal s
   | some c =>
     cases h:a8y c.1 c.2 s with
     |none=>exact .inl fun R K=>by simp only[a5W,h]
     |some a=>exact .inr ⟨.normal,a,fun R K=>by simp only[a5W,h]⟩
 |exit i=>exact a7q.pure (.exit i) s
 |ret=>exact a7q.pure .ret s
theorem b6r (id:Nat) (cut:Option (List Nat×List Cv)) (e:Ex) (s:St):a7q fun R K=>a7I id cut K e s:=by
 cases e with
 |normal=>exact a5w cut .normal s
 | exit i =>
   cases h:beq i id with
   | true =>
     have:=a5w cut .normal s;unfold a7q at this ⊢;simp only[a7I,h];exact this
   |false=>exact .inr ⟨.exit i,s,fun R K=>by simp only[a7I,h]⟩
 |ret=>exact a7q.pure .ret s
theorem b8H:∀(c:Code) (s:St),a7q fun R K=>EBk (R:=R) Γ c K s:=by
 intro c
 induction c with
 |skip=>exact fun s=>a7q.pure .normal s
 |label l=>exact fun s=>a7q.pure .normal s
 |exit id=>exact fun s=>a7q.pure (.exit id) s
 | ret =>
   intro s;cases h:a8y (Γ.res.map g6y) Γ.rown s with
   |none=>exact .inl fun R K=>by simp only[EBk,h]
   |some a=>exact .inr ⟨.ret,a,fun R K=>by simp only[EBk,h]⟩
 | seq x y f g =>
   intro s;refine a7q.bind (f s) (T:=fun R K e a=>match e with|.normal=>EBk Γ y K a|e=>K e a) fun e a=>?_
   cases e with
   |normal=>exact g a
   |exit i=>exact a7q.pure (.exit i) a
   |ret=>exact a7q.pure .ret a
 | cond c x y f g =>
   intro s;show a7q fun R K=>(match s.val c with
    | .val (.one (.bool b))=>match b with
      |true=>EBk Γ x (a5W (a1D Γ.cut (b2X c)) K) (s.putC c true)
      |false=>EBk Γ y (a5W (a1D Γ.cut (b2X c)) K) (s.putC c false)
    |_=>Option.none:Option R)
   split
   ·rename_i b _;cases b with
    |true=>exact a7q.bind (f _) (T:=fun R K=>a5W (a1D Γ.cut (b2X c)) K) fun e a=>a5w _ e a
    |false=>exact a7q.bind (g _) (T:=fun R K=>a5W (a1D Γ.cut (b2X c)) K) fun e a=>a5w _ e a
   ·exact a7q.none
 | block id x j =>
   intro s;exact a7q.bind (j s) (T:=fun R K=>a7I id (a1D Γ.past id) K) fun e a=>b6r _ _ e a
 | loop x j =>
   intro s;cases h:a1D Γ.loops (a0O x)with
   |none=>exact .inl fun R K=>by simp only[EBk,h]
   | some L =>
     cases h1:a8y L.live L.own s with
     |none=>exact .inl fun R K=>by simp only[EBk,h,e1K,h1]
     | some k =>
       cases h2:L.run k with
       |none=>exact .inl fun R K=>by simp only[EBk,h,e1K,h1,h2]
       | some p =>
         obtain⟨ok,b,s1,s2⟩:=p;cases ok with
         |false=>exact .inl fun R K=>by simp only[EBk,h,e1K,h1,h2]
         | true=>cases b with
           |true=>exact .inr ⟨.ret,s2,fun R K=>by simp only[EBk,h,e1K,h1,h2]⟩
           |false=>exact .inr ⟨.exit L.ex,s1,fun R K=>by simp only[EBk,h,e1K,h1,h2]⟩
 | region id ops d =>
   intro s;rcases b8G (Γ:=Γ) ops ops.toList s []with h|⟨a,tr,h⟩
   ·exact .inl fun R K=>by simp only[EBk];exact h R _
   ·cases d with
    |false=>exact .inr ⟨.normal,a,fun R K=>by simp only[EBk];exact h R _⟩
    | true =>
      cases hd:b2V ops tr with
      |true=>exact .inr ⟨.normal,a,fun R K=>by simp only[EBk];rw[h R _,hd]⟩
      |false=>exact .inl fun R K=>by simp only[EBk];rw[h R _,hd]
 |_=>exact fun s => .inl fun R K=>by simp only[EBk]
end
inductive ShC where
 |bool
 |int (k:IntKind)
 |flt (k:FloatKind)
 |cpx (k:FloatKind)
 |str
 |sl (t:Ty)
 |pois
 |nil (t:Ty)
 |ref (t:Ty) (k:Nat)
 |ptr (k o:Nat)
 |fn (f:Nat) (caps:List Nat)
@[reducible] def ShC.den:ShC->Type
 |.bool=>Bool
 |.int _=>Int
 |.flt _=>Nat
 |.cpx _=>Nat×Nat
 |.str=>ByteArray
 |.sl t=>List (Den t)
 |_=>Unit
def mkC:(c:ShC)->c.den->C
 |.bool,b => .bool b
 |.int k,n => .int k n
 |.flt k,b => .flt k b
 |.cpx k,p => .cpx k p.1 p.2
 |.str,s => .str s
 |.sl t,l => .sl t l
 |.pois,_ => .pois
 |.nil t,_ => .nil t
 |.ref t k,_ => .ref t k
 |.ptr k o,_ => .ptr k o
 |.fn f caps,_ => .fn f caps
def c4T (t a:Ty):Bool:=match a3l t a with
 |some _=>true
 |none=>false
theorem b1X {t a:Ty} (h:c4T t a=true):t=a:=by
 unfold c4T at h;split at h
 ·rename_i h' _;exact h'.down
 ·cases h
def eqL:List Nat->List Nat->Bool
 |[],[]=>true
 |x::r,y::q=>beq x y&&eqL r q
 |_,_=>false
theorem d6C:∀{l r:List Nat},eqL l r=true->l=r
 |[],[],_=>rfl
 | x::r,y::q,h=>by
   simp only[eqL,and_eq_true]at h;rw[a0g h.1,d6C h.2]
 |[],_::_,h=>by cases h
 |_::_,[],h=>by cases h
def e8q:(c:ShC)->C->Option c.den
 |.bool,.bool b=>some b
 |.int k,.int k' n=>match a2C k k' with|true=>some n|false=>none
 |.flt k,.flt k' b=>match a1d k k' with|true=>some b|false=>none
 |.cpx k,.cpx k' a b=>match a1d k k' with|true=>some (a,b)|false=>none
 |.str,.str s=>some s
 | .sl t,.sl t' l=>match a3l t' t with
   |some ⟨h⟩=>some (h ▸ l)
   |none=>none
 |.pois,.pois=>some ()
 |.nil t,.nil t'=>match c4T t t' with|true=>some ()|false=>none
 |.ref t k,.ref t' k'=>match c4T t t'&&beq k k' with|true=>some ()|false=>none
 |.ptr k o,.ptr k' o'=>match beq k k'&&beq o o' with|true=>some ()|false=>none
 |.fn f caps,.fn f' caps'=>match beq f f'&&eqL caps caps' with|true=>some ()|false=>none
 |_,_=>none
theorem b6s {c:ShC} {x:C} {v:c.den} (h:e8q c x=some v):x=mkC c v:=by
 cases c<;>cases x<;>simp only[e8q]at h<;>first|cases h;done|skip
 ·cases h;rfl
 ·split at h
  ·rename_i a;have:=of_decide_eq_true a;cases h;subst this;rfl
  ·cases h
 ·split at h
  ·rename_i a;have:=of_decide_eq_true a;cases h;subst this;rfl
  ·cases h
 ·split at h
  ·rename_i a;have:=of_decide_eq_true a;cases h;subst this;rfl
  ·cases h
 ·cases h;rfl
 ·split at h
  ·rename_i e _;subst e;cases h;rfl
  ·cases h
 ·rfl
 ·split at h
  ·rename_i a;rw[<- b1X a];rfl
  ·cases h
 ·split at h
  ·rename_i a;simp only[and_eq_true]at a;rw[<- b1X a.1,<- a0g a.2];rfl
  ·cases h
 ·split at h
  ·rename_i a;simp only[and_eq_true]at a;rw[<- a0g a.1,<- a0g a.2];rfl
  ·cases h
 ·split at h
  ·rename_i a;simp only[and_eq_true]at a;rw[<- a0g a.1,<- d6C a.2];rfl
  ·cases h
@[reducible] def c4U:List ShC->Type
 |[]=>Unit
 |c::r=>c.den×c4U r
def mkL:(l:List ShC)->c4U l->List C
 |[],_=>[]
 |c::r,p=>mkC c p.1::mkL r p.2
def b6t:(l:List ShC)->List C->Option (c4U l)
 |[],[]=>some ()
 | c :: r,x::xs=>match e8q c x with
   | some v=>match b6t r xs with
     |some w=>some (v,w)
     |none=>none
   |none=>none
 |_,_=>none
theorem b1Y:∀{l:List ShC} {xs:List C} {v:c4U l},b6t l xs=some v->xs=mkL l v
 |[],[],_,_=>rfl
 | c :: r,x::xs,v,h=>by
   simp only[b6t]at h;split at h
   ·rename_i a d;split at h
    ·rename_i b e;cases h;rw[b6s d,b1Y e];rfl
    ·cases h
   ·cases h
 |[],_::_,_,h=>by simp[b6t]at h
 |_::_,[],_,h=>by simp[b6t]at h
inductive ShV where
 |one (c:ShC)
 |agg (cs:List ShC)
 |tup
@[reducible] def ShV.den:ShV->Type
 |.one c=>c.den
 |.agg cs=>c4U cs
 |.tup=>Unit
def mkV:(s:ShV)->s.den->V
 |.one c,v => .val (.one (mkC c v))
 |.agg cs,v => .val (.agg (mkL cs v))
 |.tup,_ => .tup []
def f9h:(s:ShV)->V->Option s.den
 |.one c,.val (.one x)=>e8q c x
 |.agg cs,.val (.agg xs)=>b6t cs xs
 |.tup,.tup []=>some ()
 |_,_=>none
theorem e2j {s:ShV} {x:V} {v:s.den} (h:f9h s x=some v):x=mkV s v:=by
 unfold f9h at h;split at h
 ·rw[b6s h];rfl
 ·rw[b1Y h];rfl
 ·rfl
 ·cases h
inductive ShB where
 |box (cs:List ShC)
 |arr (t:Ty)
 |gone
@[reducible] def ShB.den:ShB->Type
 |.box cs=>c4U cs
 |.arr t=>List (Den t)
 |.gone=>Unit
def mkB:(s:ShB)->s.den->Option Blk
 |.box cs,v=>some (.box (mkL cs v))
 |.arr t,l=>some (.arr t l)
 |.gone,_=>none
def f9i:(s:ShB)->Option Blk->Option s.den
 |.box cs,some (.box xs)=>b6t cs xs
 | .arr t,some (.arr t' l)=>match a3l t' t with
   |some ⟨h⟩=>some (h ▸ l)
   |none=>none
 |.gone,none=>some ()
 |_,_=>none
theorem e2k {s:ShB} {x:Option Blk} {v:s.den} (h:f9i s x=some v):x=mkB s v:=by
 unfold f9i at h;split at h
 ·rw[b1Y h];rfl
 ·split at h
  ·rename_i e _;subst e;cases h;rfl
  ·cases h
 ·rfl
 ·cases h
@[reducible] def e6M:List (Nat×ShV)->Type
 |[]=>Unit
 |p::r=>p.2.den×e6M r
def mkT:(l:List (Nat×ShV))->e6M l->List (Nat×V)
 |[],_=>[]
 |p::r,v=>(p.1,mkV p.2 v.1)::mkT r v.2
def e6N:(l:List (Nat×ShV))->List (Nat×V)->Option (e6M l)
 |[],[]=>some ()
 | p :: r,x::xs=>match beq p.1 x.1 with
   | true=>match f9h p.2 x.2 with
     | some v=>match e6N r xs with
       |some w=>some (v,w)
       |none=>none
     |none=>none
   |false=>none
 |_,_=>none
theorem c4V:∀{l:List (Nat×ShV)} {xs:List (Nat×V)} {v:e6M l},e6N l xs=some v->xs=mkT l v
 |[],[],_,_=>rfl
 | p :: r,(k,x)::xs,v,h=>by
   simp only[e6N]at h;split at h
   ·rename_i e;split at h
    ·rename_i a c;split at h
     ·rename_i b d;cases h;rw[e2j c,c4V d,<- a0g e];rfl
     ·cases h
    ·cases h
   ·cases h
 |[],_::_,_,h=>by simp[e6N]at h
 |_::_,[],_,h=>by simp[e6N]at h
@[reducible] def e6O:List (Nat×ShB)->Type
 |[]=>Unit
 |p::r=>p.2.den×e6O r
def mkM:(l:List (Nat×ShB))->e6O l->List (Nat×Option Blk)
 |[],_=>[]
 |p::r,v=>(p.1,mkB p.2 v.1)::mkM r v.2
def e6P:(l:List (Nat×ShB))->List (Nat×Option Blk)->Option (e6O l)
 |[],[]=>some ()
 | p :: r,x::xs=>match beq p.1 x.1 with
   | true=>match f9i p.2 x.2 with
     | some v=>match e6P r xs with
       |some w=>some (v,w)
       |none=>none
     |none=>none
   |false=>none
 |_,_=>none
theorem c4W:∀{l:List (Nat×ShB)} {xs:List (Nat×Option Blk)} {v:e6O l},e6P l xs=some v->xs=mkM l v
 |[],[],_,_=>rfl
 | p :: r,(k,x)::xs,v,h=>by
   simp only[e6P]at h;split at h
   ·rename_i e;split at h
    ·rename_i a c;split at h
     ·rename_i b d;cases h;rw[e2k c,c4W d,<- a0g e];rfl
     ·cases h
    ·cases h
   ·cases h
 |[],_::_,_,h=>by simp[e6P]at h
 |_::_,[],_,h=>by simp[e6P]at h
structure ShS where
 tmps:List (Nat×ShV)
 mem:List (Nat×ShB)
 n:Nat
 m:Nat
@[reducible] def ShS.den (s:ShS):Type:=e6M s.tmps×e6O s.mem
def mkS (s:ShS) (v:s.den):St:=⟨mkT s.tmps v.1,mkM s.mem v.2,s.n,s.m⟩
def e8r (sh:ShS) (s:St):Option sh.den:=match beq sh.n s.n&&beq sh.m s.m with
 | true=>match e6N sh.tmps s.tmps with
   | some v=>match e6P sh.mem s.mem with
     |some w=>some (v,w)
     |none=>none
   |none=>none
 |false=>none
theorem a6d {sh:ShS} {s:St} {v:sh.den} (h:e8r sh s=some v):s=mkS sh v:=by
 obtain⟨tmps,mem,n,m⟩:=s;simp only[e8r]at h;split at h
 ·rename_i c;simp only[and_eq_true]at c;split at h
  ·rename_i a d;split at h
   ·rename_i b e;cases h;rw[c4V d,c4W e,<- a0g c.1,<- a0g c.2];rfl
   ·cases h
  ·cases h
 ·cases h
def atS {R:Type} (sh:ShS) (f:sh.den->Option R) (s:St):Option R:=match e8r sh s with
 |some v=>f v
 |none=>none
def f5U (shX shR:ShS) (e:Ex) (s:St):Option (shX.den⊕shR.den):=match e with
 |.normal=>none
 |.exit _=>atS shX (fun v=>some (.inl v)) s
 |.ret=>atS shR (fun v=>some (.inr v)) s
def f5V (shX:ShS) (e:Ex) (s:St):Option shX.den:=match e with
 |.exit _=>atS shX some s
 |_=>none
def a0F {V X:Type} (g:(V->Option X)->V->Option X):Nat->V->Option X
 |0,_=>none
 |n+1,v=>g (a0F g n) v
def d2N (live:List Nat) (own:List Cv) (ex:Nat) (past:List Nat) (pown:List Cv) (sh shX shR:ShS) (k t:sh.den->Bool) (x:sh.den->shX.den) (y:sh.den->shR.den):a4V:=
 ⟨live,own,ex,past,pown,fun s=>match e8r sh s with
  |some v=>some (k v,t v,mkS shX (x v),mkS shR (y v))
  |none=>none⟩
def d2O (live:List Nat) (own:List Cv) (ex:Nat) (past:List Nat) (pown:List Cv) (sh shX:ShS) (k:sh.den->Bool) (x:sh.den->shX.den):a4V:=
 ⟨live,own,ex,past,pown,fun s=>match e8r sh s with
  |some v=>some (k v,false,mkS shX (x v),s)
  |none=>none⟩
def isR {X Y:Type}:Option (X⊕Y)->Bool
 |some (.inr _)=>true
 |_=>false
def xOf {X Y:Type} (d:X):Option (X⊕Y)->X
 |some (.inl x)=>x
 |_=>d
def yOf {X Y:Type} (d:Y):Option (X⊕Y)->Y
 |some (.inr y)=>y
 |_=>d
theorem b6u {Γ:Env} {c:Code} {live:List Nat} {own:List Cv} {ex:Nat} {past:List Nat} {pown:List Cv} {sh shX shR:ShS} {g:(sh.den->Option (shX.den⊕shR.den))->sh.den->Option (shX.den⊕shR.den)}
 (h:∀f v,EBk Γ c (a3M live own ex past pown (atS sh f) (f5U shX shR)) (mkS sh v)=g f v) (k:sh.den->Nat) (z:shX.den) (w:shR.den) :
 a3m Γ c (d2N live own ex past pown sh shX shR (fun v=>(a0F g (k v) v).isSome) (fun v=>isR (a0F g (k v) v)) (fun v=>xOf z (a0F g (k v) v)) (fun v=>yOf w (a0F g (k v) v))):=by
 intro F b s1 s2 d R K;generalize u:d2N live own ex past pown sh shX shR _ _ _ _=L at d;have l:L.live=live /\ L.own=own /\ L.ex=ex /\ L.past=past /\ L.pown=pown:=by subst u;exact⟨rfl,rfl,rfl,rfl,rfl⟩
 have m:∀n v y,a0F g n v=some y->a9W Γ c L K n (mkS sh v)=(match y with|.inl x=>K (.exit ex) (mkS shX x)|.inr x=>K .ret (mkS shR x)):=by
  intro n
  induction n with
  |zero=>intro v y a;cases a
  | succ n E =>
    intro v y a;simp only[a0F]at a;rw[<- h]at a;simp only[a9W,l.1,l.2.1,l.2.2.1,l.2.2.2.1,l.2.2.2.2];rcases b8H (Γ:=Γ) c (mkS sh v)with hn|⟨e,s',hr⟩
    ·dsimp only at hn;rw[hn]at a;cases a
    ·dsimp only at hr;rw[hr]at a ⊢;cases e with
     | normal =>
       simp only[a3M]at a ⊢;split at a
       ·rename_i p B;unfold atS at a;split at a
        ·rename_i q j;rw[a6d j];exact E q y a
        ·cases a
       ·cases a
     | exit i =>
       simp only[a3M,e1J]at a ⊢;split at a
       ·rename_i A;split at a
        ·rename_i p B;simp only[f5U,atS]at a;split at a
         ·rename_i q j;cases a;rw[a6d j,a0g A]
         ·cases a
        ·cases a
       ·cases a
     | ret =>
       simp only[a3M,e1J,f5U,atS]at a ⊢;split at a
       ·rename_i q j;cases a;rw[a6d j]
       ·cases a
 subst u;simp only[d2N]at d;split at d
 ·rename_i v D;simp only[injEq,Prod.mk.injEq]at d;obtain⟨r,o,s,t⟩:=d;cases hi:a0F g (k v) v with
  |none=>rw[hi]at r;cases r
  | some y =>
    have C:=m (k v) v y hi;rw[hi]at o s t;refine⟨k v,?_⟩;rw[a6d D];refine C.trans ?_;cases y with
    |inl x=>subst o;subst s;rfl
    |inr x=>subst o;subst t;rfl
 ·cases d
theorem b6v {Γ:Env} {c:Code} {live:List Nat} {own:List Cv} {ex:Nat} {past:List Nat} {pown:List Cv} {sh shX:ShS} {g:(sh.den->Option shX.den)->sh.den->Option shX.den}
 (h:∀f v,EBk Γ c (a3M live own ex past pown (atS sh f) (f5V shX)) (mkS sh v)=g f v) (k:sh.den->Nat) (t:shX.den) :
 a3m Γ c (d2O live own ex past pown sh shX (fun v=>(a0F g (k v) v).isSome) (fun v=>(a0F g (k v) v).getD t)):=by
 intro D b s1 s2 d R K;generalize r:d2O live own ex past pown sh shX _ _=L at d;have l:L.live=live /\ L.own=own /\ L.ex=ex /\ L.past=past /\ L.pown=pown:=by subst r;exact⟨rfl,rfl,rfl,rfl,rfl⟩
 have m:∀n v y,a0F g n v=some y->a9W Γ c L K n (mkS sh v)=K (.exit ex) (mkS shX y):=by
  intro n
  induction n with
  |zero=>intro v y a;cases a
  | succ n B =>
    intro v y a;simp only[a0F]at a;rw[<- h]at a;simp only[a9W,l.1,l.2.1,l.2.2.1,l.2.2.2.1,l.2.2.2.2];rcases b8H (Γ:=Γ) c (mkS sh v)with hn|⟨e,s',hr⟩
    ·dsimp only at hn;rw[hn]at a;cases a
    ·dsimp only at hr;rw[hr]at a ⊢;cases e with
     | normal =>
       simp only[a3M]at a ⊢;split at a
       ·rename_i o x;unfold atS at a;split at a
        ·rename_i s j;rw[a6d j];exact B s y a
        ·cases a
       ·cases a
     | exit i =>
       simp only[a3M,e1J]at a ⊢;split at a
       ·rename_i w;split at a
        ·rename_i o x;simp only[f5V,atS]at a;split at a
         ·rename_i s j;cases a;rw[a6d j,a0g w]
         ·cases a
        ·cases a
       ·cases a
     |ret=>simp only[a3M,e1J,f5V]at a;cases a
 subst r;simp only[d2O]at d;split at d
 ·rename_i v A;simp only[injEq,Prod.mk.injEq]at d;obtain⟨p,u,q,C⟩:=d;cases hi:a0F g (k v) v with
  |none=>rw[hi]at p;cases p
  | some y =>
    have z:=m (k v) v y hi;rw[hi]at q;refine⟨k v,?_⟩;rw[a6d A];refine z.trans ?_;subst u;subst q;rfl
 ·cases d
theorem a0f {Γ:Env} {c:Code} {l:List Code} (h:a2e c=l) (a:a7e (fun c'=>∀L,a1D Γ.loops (a0O c')=some L->a3m Γ c' L) l):a7i Γ c:=
 fun c' b=>a.mem c' (by rw[<- h];exact b)
theorem b8I {Γ:Env} {c:Code} {L0:a4V} (a:a1D Γ.loops (a0O c)=some L0) (b:a3m Γ c L0):∀L,a1D Γ.loops (a0O c)=some L->a3m Γ c L:=by
 intro L h;rw[a]at h;cases h;exact b
def e2l:(c:ShC)->C->Option c.den
 |.sl t,.nil _=>some []
 |.pois,_=>some ()
 |c,x=>e8q c x
theorem d2P {β:Bt} {K:Ks} {c:ShC} {x:C} {v:c.den} (h:e2l c x=some v) {u:Value} (b:CR β K x u):CR β K (mkC c v) u:=by
 unfold e2l at h;split at h
 ·cases h;obtain⟨a,rfl⟩:=b;exact⟨a,0,0,rfl,rfl,le_refl _,.inl rfl⟩
 ·trivial
 ·rw[<- b6s h];exact b
def b6w:(l:List ShC)->List C->Option (c4U l)
 |[],[]=>some ()
 | c :: r,x::xs=>match e2l c x with
   | some v=>match b6w r xs with
     |some w=>some (v,w)
     |none=>none
   |none=>none
 |_,_=>none
theorem b1Z {β:Bt} {K:Ks}:∀{l:List ShC} {xs:List C} {v:c4U l},b6w l xs=some v->∀{d:List Value},All2 (CR β K) xs d->All2 (CR β K) (mkL l v) d
 |[],[],_,_,d,hu=>hu
 | c :: r,x::xs,v,h,d,hu=>by
   simp only[b6w]at h;split at h
   ·rename_i a e;split at h
    ·rename_i b f;cases h;cases d with
     |nil=>exact hu.elim
     |cons u d=>exact⟨d2P e hu.1,b1Z f hu.2⟩
    ·cases h
   ·cases h
 |[],_::_,_,h,_,_=>by simp[b6w]at h
 |_::_,[],_,h,_,_=>by simp[b6w]at h
inductive Kn where
 |val (t:Ty)
 |own (t:Ty) (k:Nat)
 |ptr (k:Nat)
 |mix (cs:List ShC)
 |fnv (f:Nat) (ks:List Nat)
@[reducible] def Kn.den:Kn->Type
 |.val t=>Den t
 |.mix cs=>c4U cs
 |_=>Unit
def g6B:(k:Kn)->k.den->W
 |.val t,x=>e2g t x
 |.own t k,_ => .one (.ref t k)
 |.ptr k,_ => .one (.ptr k 0)
 |.mix cs,x => .agg (mkL cs x)
 |.fnv f ks,_ => .one (.fn f ks)
def b0z:List Nat->List Nat->Bool
 |[],[]=>true
 |a::r,b::s=>beq a b&&b0z r s
 |_,_=>false
theorem b3A:∀{l m:List Nat},b0z l m=true->l=m
 |[],[],_=>rfl
 | a::r,b::s,h=>by
   simp only[b0z,and_eq_true]at h;rw[a0g h.1,b3A h.2]
 |[],_::_,h=>by simp[b0z]at h
 |_::_,[],h=>by simp[b0z]at h
def f9j:(k:Kn)->W->Option k.den
 |.val t,w=>f5T t w
 | .own t k,.one (.ref t' k')=>match c4T t t'&&beq k k' with
   |true=>some ()
   |false=>none
 | .ptr k,.one (.ptr k' o)=>match beq k k'&&beq o 0 with
   |true=>some ()
   |false=>none
 |.mix cs,.agg xs=>b6w cs xs
 | .fnv f ks,.one (.fn f' ks')=>match beq f f'&&b0z ks ks' with
   |true=>some ()
   |false=>none
 |_,_=>none
theorem e2m {β:Bt} {K:Ks} {k:Kn} {u:W} {x:k.den} (h:f9j k u=some x) {v:Value} (b:WR β K u v):WR β K (g6B k x) v:=by
 unfold f9j at h;split at h
 ·exact c4Q h b
 ·split at h
  ·rename_i a;simp only[and_eq_true]at a;rw[<- b1X a.1,<- a0g a.2]at b;exact b
  ·cases h
 ·split at h
  ·rename_i a;simp only[and_eq_true]at a;rw[<- a0g a.1,a0g a.2]at b;exact b
  ·cases h
 ·obtain⟨arr,rfl,c⟩:=b;exact⟨arr,rfl,b1Z h c⟩
 ·split at h
  ·rename_i a;simp only[and_eq_true]at a;rw[<- a0g a.1,<- b3A a.2]at b;exact b
  ·cases h
 ·cases h
@[reducible] def a5F:List Kn->Type
 |[]=>Unit
 |k::r=>k.den×a5F r
def a3d:(l:List Kn)->a5F l->List W
 |[],_=>[]
 |k::r,x=>g6B k x.1::a3d r x.2
def a8Z:(l:List Kn)->List W->Option (a5F l)
 |[],[]=>some ()
 | k :: r,w::ws=>match f9j k w with
   | some x=>match a8Z r ws with
     |some y=>some (x,y)
     |none=>none
   |none=>none
 |_,_=>none
theorem a5x {β:Bt} {K:Ks}:∀{l:List Kn} {c:List W} {x:a5F l},a8Z l c=some x->∀{vs:List Value},All2 (WR β K) c vs->All2 (WR β K) (a3d l x) vs
 |[],[],_,_,vs,hv=>hv
 | k :: r,u::c,x,h,vs,hv=>by
   simp only[a8Z]at h;split at h
   ·rename_i a d;split at h
    ·rename_i b e;cases h;cases vs with
     |nil=>exact hv.elim
     |cons v vs=>exact⟨e2m d hv.1,a5x e hv.2⟩
    ·cases h
   ·cases h
 |[],_::_,_,h,_,_=>by simp[a8Z]at h
 |_::_,[],_,h,_,_=>by simp[a8Z]at h
theorem b3B:∀{l:List Kn} {a:List W} {x:a5F l},a8Z l a=some x->(a3d l x).length=a.length
 |[],[],_,_=>rfl
 | k :: r,u::a,x,h=>by
   simp only[a8Z]at h;split at h
   ·split at h
    ·rename_i b c;cases h;simp[a3d,b3B c]
    ·cases h
   ·cases h
 |[],_::_,_,h=>by simp[a8Z]at h
 |_::_,[],_,h=>by simp[a8Z]at h
inductive Bn where
 |box (t:Ty)
 |boxC (cs:List ShC)
 |arr (t:Ty)
 |gone
@[reducible] def Bn.den:Bn->Type
 |.box t=>Den t
 |.boxC cs=>c4U cs
 |.arr t=>List (Den t)
 |.gone=>Unit
def f9k:(b:Bn)->b.den->Option Blk
 |.box t,x=>some (.box (AM.enc t x))
 |.boxC cs,x=>some (.box (mkL cs x))
 |.arr t,l=>some (.arr t l)
 |.gone,_=>none
def f9l:(b:Bn)->Option Blk->Option b.den
 |.box t,some (.box cs)=>c3W t cs
 |.boxC cs,some (.box xs)=>b6w cs xs
 | .arr t,some (.arr t' l)=>match a3l t' t with
   |some ⟨h⟩=>some (h ▸ l)
   |none=>none
 |.gone,_=>some ()
 |_,_=>none
def f5W (b b':Blk):Prop:=∀β K h w,BR β K b h w->BR β K b' h w
theorem e2n {b:Bn} {o:Option Blk} {x:b.den} (h:f9l b o=some x) {b':Blk} (c:f9k b x=some b'):∃f,o=some f /\ f5W f b':=by
 unfold f9l at h;split at h
 ·cases c;refine⟨_,rfl,fun β K h' w a=>?_⟩;obtain⟨y,arr,T,e,hh,d⟩:=a;exact⟨y,arr,T,e,hh,DR.enc _ (b1U h d)⟩
 ·cases c;refine⟨_,rfl,fun β K h' w a=>?_⟩;obtain⟨y,arr,T,e,hh,d⟩:=a;exact⟨y,arr,T,e,hh,b1Z h d⟩
 ·split at h
  ·rename_i e _;subst e;cases h;cases c;exact⟨_,rfl,fun _ _ _ _ a=>a⟩
  ·cases h
 ·cases c
 ·cases h
@[reducible] def c2t:List Bn->Type
 |[]=>Unit
 |k::r=>k.den×c2t r
def a3T:(l:List Bn)->c2t l->List (Option Blk)
 |[],_=>[]
 |b::r,x=>f9k b x.1::a3T r x.2
def c2u:(l:List Bn)->List (Option Blk)->Option (c2t l)
 |[],[]=>some ()
 | b :: r,o::os=>match f9l b o with
   | some x=>match c2u r os with
     |some y=>some (x,y)
     |none=>none
   |none=>none
 |_,_=>none
theorem a3e:∀{l:List Bn} {os:List (Option Blk)} {x:c2t l},c2u l os=some x->(a3T l x).length=os.length /\ ∀p b',a2o (a3T l x) p=some b'->∃b,a2o os p=some b /\ f5W b b'
 |[],[],_,_=>⟨rfl,fun p b' e=>by simp[a3T,a2o]at e⟩
 | k :: r,o::os,x,h=>by
   simp only[c2u]at h;split at h
   ·rename_i a m;split at h
    ·rename_i b n;cases h;obtain⟨f,g⟩:=a3e n;refine⟨by simp[a3T,f],fun p b' e=>?_⟩;cases p with
     | zero =>
       have d:f9k k a=some b':=by simpa[a3T,a2o]using e
       obtain⟨c,i,j⟩:=e2n m d;exact⟨c,by simpa[a2o]using i,j⟩
     | succ p =>
       have:=g p b' (by simpa[a3T,a2o]using e);simpa[a2o]using this
    ·cases h
   ·cases h
 |[],_::_,_,h=>by simp[c2u]at h
 |_::_,[],_,h=>by simp[c2u]at h
def b3C:List (Option Blk)->Option (List Blk)
 |[]=>some []
 | some b::r=>match b3C r with
   |some l=>some (b::l)
   |none=>none
 |none::_=>none
theorem a5f:∀{os:List (Option Blk)} {ins:List Blk},b3C os=some ins->ins.length=os.length /\ a2b ins=a2o os
 |[],ins,h=>by simp only[b3C,injEq]at h;subst h;exact⟨rfl,by funext p;simp[a2b,a2o]⟩
 | some b::r,ins,h=>by
   simp only[b3C]at h;split at h
   ·rename_i l d;cases h;obtain⟨a,c⟩:=a5f d;refine⟨by simp[a],?_⟩;funext p;cases p with
    |zero=>simp[a2b,a2o]
    | succ p =>
      have:=congrFun c p;simpa[a2b,a2o]using this
   ·cases h
 |none::_,_,h=>by simp[b3C]at h
theorem a6H (ins:List Blk):a2o (ins.map some)=a2b ins:=by
 funext p;simp only[a2o,a2b,List.getElem?_map];cases ins[p]?<;>rfl
theorem MR.lax {β:Bt} {K:Ks} {get get':Get} {w:World} (h:MR β K get w) (d:∀p b',get' p=some b'->∃b,get p=some b /\ f5W b b'):MR β K get' w:=by
 refine⟨fun k b e=>?_,fun k k' b b' y y' x e l f m g n=>?_,fun k b y x e f g=>?_⟩
 ·obtain⟨a,c,i⟩:=d k b e;obtain⟨y,o,q⟩:=h.blk k a c;exact⟨y,o,i _ _ _ _ q⟩
 ·obtain⟨a,c,_⟩:=d k b e;obtain⟨j,i,_⟩:=d k' b' l;exact h.sep k k' a j y y' x c i f m g n
 ·obtain⟨a,c,_⟩:=d k b e;exact h.ro k a y x c f g
theorem Own.lax {β:Bt} {get get':Get} (d:∀p b',get' p=some b'->∃b,get p=some b /\ f5W b b') {x:Nat} (h:Own β get' x):Own β get x:=by
 obtain⟨k,b,y,e,f,g⟩:=h;obtain⟨a,c,_⟩:=d k b e;exact⟨k,a,y,c,f,g⟩
structure Sg where
 ws:List Kn
 bs:List Bn
@[reducible] def Sg.den (s:Sg):Type:=a5F s.ws×c2t s.bs
def c2v (O:Sg):List W×List (Option Blk)->Option O.den:=fun p=>match a8Z O.ws p.1 with
 | some x=>match c2u O.bs p.2 with
   |some y=>some (x,y)
   |none=>none
 |none=>none
def e8s:(c:ShC)->c.den
 |.bool=>false
 |.int _=>(0:Int)
 |.flt _=>(0:Nat)
 |.cpx _=>((0,0):Nat×Nat)
 |.str=>ByteArray.empty
 |.sl t=>([]:List (Den t))
 |.pois=>()
 |.nil _=>()
 |.ref _ _=>()
 |.ptr _ _=>()
 |.fn _ _=>()
def c4X:(l:List ShC)->c4U l
 |[]=>()
 |c::r=>(e8s c,c4X r)
def b0A:(l:List Kn)->a5F l
 |[]=>()
 |.val t::r=>(zero t,b0A r)
 |.mix cs::r=>(c4X cs,b0A r)
 |.own _ _::r=>((),b0A r)
 |.ptr _::r=>((),b0A r)
 |.fnv _ _::r=>((),b0A r)
def b3D:(l:List Bn)->c2t l
 |[]=>()
 |.box t::r=>(zero t,b3D r)
 |.boxC cs::r=>(c4X cs,b3D r)
 |.arr t::r=>(([]:List (Den t)),b3D r)
 |.gone::r=>((),b3D r)
def a1b (O:Sg):O.den:=(b0A O.ws,b3D O.bs)
def a0H (own:Bool) (I O:Sg) (ok:I.den->Bool) (g:I.den->O.den):a6m:=⟨own,fun ws ins=>match c2v I (ws,ins.map some)with
 | some x=>match b3C (a3T I.bs x.2)with
   |some _=>some (ok x,a3d O.ws (g x).1,a3T O.bs (g x).2)
   |none=>none
 |none=>none⟩
theorem a6I {β:Bt} {K:Ks} {l:List Kn} {rs:List W} {x:a5F l} {v:Value} (h:a8Z l rs=some x) (a:a7j β K rs v):a7j β K (a3d l x) v:=by
 have c:=b3B h;unfold a7j at a ⊢
 match rs,a3d l x,c,(fun vs=>a5x (β:=β) (K:=K) h (vs:=vs))with
 |[],[],_,_=>exact a
 |[u],[u'],_,hk=>exact(hk [v] ⟨a,trivial⟩).1
 | u::u2::us,y::y2::ys,_,hk =>
   obtain⟨arr,e,b⟩:=a;exact⟨arr,e,hk arr.toList b⟩
section
variable {P:Program} {Γ:Env}
def d2Q (Γ:Env) (c:Code) (I O:Sg) (x:I.den):Option O.den:=match b3C (a3T I.bs x.2)with
 |some ins=>b5Z Γ c (c2v O) (a3d I.ws x.1) ins
 |none=>none
theorem f9m (env:a1m P Γ) {f:Nat} {c:Code} (L:a5P P f Γ c) {own:Bool} {I O:Sg} {ok:I.den->Bool} {g:I.den->O.den} (h:∀x,ok x=true->d2Q Γ c I O x=some (g x)):a0d P (f,a0H own I O ok g):=by
 refine⟨?_,L.ok⟩;intro args ins rs outs a β0 K0 w0 vs t U w W;simp only[a0H,c2v]at a;split at a
 case h_2=>cases a
 rename_i x p;split at p
 case h_2=>cases p
 rename_i N E;split at p
 case h_2=>cases p
 rename_i Q F;cases p;split at a
 case h_2=>cases a
 rename_i o i;simp only[injEq,Prod.mk.injEq]at a;obtain⟨D,rfl,rfl⟩:=a;obtain⟨A,m⟩:=a3e F;obtain⟨B,y⟩:=a5f i;rw[a6H]at m;rw[<- y]at m;have M:o.length=ins.length:=by rw[B,A];simp
 have J:=h (N,Q) D;simp only[d2Q,i]at J;refine(b8B env L J t (U.lax m) (fun k t=>w k (by omega)) (a5x E W)).mono ?_;rintro e w' ⟨v,β,K,X,q,rfl,r,d⟩;simp only[c2v]at r;split at r
 case h_2=>cases r
 rename_i R G;split at r
 case h_2=>cases r
 rename_i S H;obtain⟨C,s⟩:=a3e H;have n:(a3T O.bs (R,S).2).length=q.length:=C;have z:g (N,Q)=(R,S):=by simpa using r.symm
 rw[z];have j:∀b,Own β0 (a2b o) b->Own β0 (a2b ins) b:=fun b u=>u.lax m
 refine⟨v,β,K,rfl,⟨d.kle,d.kok,fun b arr e=>?_,d.mr.lax s,fun k t=>d.fresh k (by simp only at t n;omega),a6I G d.out,⟨d.fr.os,d.fr.tape,d.fr.output,d.fr.size,fun b u V=>d.fr.block b u fun T=>V (T.imp (j b) id)⟩,fun x p=>?_,d.ble,?_⟩⟩
 ·rcases d.knew b arr e with l|l|l
  ·exact .inl l
  ·exact .inr (.inl (j b l))
  ·exact .inr (.inr l)
 ·rcases d.own x (p.lax s)with l|l
  ·exact .inl (j x l)
  ·exact .inr l
 ·have:=d.le;simp only at n ⊢;omega
theorem a4P (env:a1m P Γ) {f:Nat} {c:Code} (b:a5P P f Γ c) (own:Bool) {I O:Sg} {p:I.den->Option O.den} (h:∀x,d2Q Γ c I O x=p x):a0d P (f,a0H own I O (fun x=>(p x).isSome) (fun x=>(p x).getD (a1b O))):=
 f9m env b fun x a=>by
  rw[h x];cases hp:p x with
  |none=>rw[hp]at a;cases a
  |some r=>rfl
end
theorem a0J {V X:Type} {q:(V->Option X)->V->Option X} (I:V->Prop) (P:V->Option X->Prop) (b:V->Nat)
 (step:∀v f,I v->(∀a,I a->b a<b v->P a (f a))->P v (q f v)):∀n v,I v->b v<n->P v (a0F q n v)
 |0,v,_,h=>by omega
 |n+1,v,hi,h=>step v _ hi fun a c d=>a0J I P b step n a c (by omega)
def a2J {X:Type} (a:Nat->Option X) (e:X):Nat->Nat->X
 |_,0=>e
 | k,n+1=>match a k with
   |some x=>x
   |none=>a2J a e (k+1) n
theorem a8q {V X:Type} {q:(V->Option X)->V->Option X} (S:Nat->V) (n:Nat) (a:Nat->Option X) (e:X)
 (step:∀k f,k<n->q f (S k)=match a k with|some x=>some x|none=>f (S (k+1))) (fin:∀f,q f (S n)=some e) :
 ∀m j k,k+j=n->j<m->a0F q m (S k)=some (a2J a e k j)
 |0,_,_,_,h=>by omega
 | m+1,0,k,hk,h=>by
   have:k=n:=by omega
   subst this;exact fin _
 | m+1,j+1,k,hk,h=>by
   show q (a0F q m) (S k)=_;rw[step k _ (by omega)];simp only[a2J];cases hs:a k with
   |some x=>rfl
   |none=>exact a8q S n a e step fin m j (k+1) (by omega) (by omega)
theorem a5R {X:Type} {a:Nat->Option X} {e:X}:∀{n k:Nat},(∀j,k<=j->j<k+n->a j=none)->a2J a e k n=e
 |0,_,_=>rfl
 | n+1,k,h=>by
   simp only[a2J,h k (le_refl _) (by omega)];exact a5R fun j b c=>h j (by omega) (by omega)
theorem a0Z {V X:Type} {q:(V->Option X)->V->Option X} (S:Nat->V) (n:Nat) (e:X) (step:∀k f,k<n->q f (S k)=f (S (k+1))) (fin:∀f,q f (S n)=some e) (m:Nat) (h:n<m):a0F q m (S 0)=some e:=by
 have:=a8q S n (fun _=>none) e step fin m n 0 (by omega) h;rw[a5R fun _ _ _=>rfl]at this;exact this
def a0i (g:Nat->Bool):Nat->Nat->Bool
 |_,0=>true
 |k,n+1=>g k&&a0i g (k+1) n
theorem a0u {g:Nat->Bool}:∀{n k:Nat},a0i g k n=true↔∀j,k<=j->j<k+n->g j=true
 |0,k=>by simp[a0i];omega
 | n+1,k=>by
   simp only[a0i,and_eq_true,a0u (n:=n)];constructor
   ·rintro⟨a,b⟩ j h3 h4;rcases Nat.eq_or_lt_of_le h3 with rfl|c
    ·exact a
    ·exact b j c (by omega)
   ·intro h;exact⟨h k (le_refl _) (by omega),fun j a b=>h j (by omega) (by omega)⟩
theorem a6J {X:Type} {a:Nat->Option X} {g:Nat->Bool} {e s:X}:∀{n k:Nat},(∀j,k<=j->j<k+n->a j=bif g j then none else some s)->a2J a e k n=bif a0i g k n then e else s
 |0,_,_=>rfl
 | n+1,k,h=>by
   simp only[a2J,a0i,h k (le_refl _) (by omega)];cases g k with
   |false=>rfl
   |true=>exact a6J fun j b c=>h j (by omega) (by omega)
theorem a0M {V X:Type} {q:(V->Option X)->V->Option X} (S:Nat->V) (n:Nat) (g:Nat->Bool) (e s:X) (step:∀k f,k<n->q f (S k)=bif g k then f (S (k+1))else some s) (fin:∀f,q f (S n)=some e) (m:Nat) (h:n<m) :
 a0F q m (S 0)=some (bif a0i g 0 n then e else s):=by
 rw[a8q S n (fun k=>bif g k then none else some s) e (fun k f a=>by rw[step k f a];cases g k<;>rfl) fin m n 0 (by omega) h];rw[a6J fun _ _ _=>rfl]
def a0r (g:Nat->Bool):Nat->Nat->Option Nat
 |_,0=>none
 |k,n+1=>bif g k then some k else a0r g (k+1) n
theorem a0X {g:Nat->Bool}:∀{n k j:Nat},a0r g k n=some j->k<=j /\ j<k+n /\ g j=true /\ ∀i,k<=i->i<j->g i=false
 |0,k,j,h=>by cases h
 | n + 1,k,j,h=>by
   simp only[a0r]at h;cases hg:g k with
   | true =>
     rw[hg]at h;cases h;exact⟨le_refl _,by omega,hg,fun i a b=>by omega⟩
   | false =>
     rw[hg]at h;obtain⟨a,b,c,d⟩:=a0X (n:=n) h;refine⟨by omega,by omega,c,fun i e f=>?_⟩;rcases Nat.eq_or_lt_of_le e with rfl|l
     ·exact hg
     ·exact d i l f
theorem a1o {g:Nat->Bool}:∀{n k:Nat},a0r g k n=none↔∀i,k<=i->i<k+n->g i=false
 |0,k=>by simp[a0r];omega
 | n + 1,k=>by
   simp only[a0r];cases hg:g k with
   | true =>
     simp only[cond_true];constructor
     ·intro h;cases h
     ·intro h;rw[h k (le_refl _) (by omega)]at hg;cases hg
   | false =>
     simp only[cond_false,a1o (n:=n)];constructor
     ·intro h i a b;rcases Nat.eq_or_lt_of_le a with rfl|c
      ·exact hg
      ·exact h i c (by omega)
     ·intro h i a b;exact h i (by omega) (by omega)
theorem a4g {V X:Type} {q:(V->Option X)->V->Option X} (S:Nat->V) (n:Nat) (g:Nat->Bool) (e:X) (s:Nat->X) (step:∀k f,k<n->q f (S k)=bif g k then some (s k)else f (S (k+1))) (fin:∀f,q f (S n)=some e) (m:Nat) (h:n<m) :
 a0F q m (S 0)=some (match a0r g 0 n with|some j=>s j|none=>e):=by
 rw[a8q S n (fun k=>bif g k then some (s k)else none) e (fun k f a=>by rw[step k f a];cases g k<;>rfl) fin m n 0 (by omega) h];congr 1;clear h step fin;generalize 0=k
 induction n generalizing k with
 |zero=>rfl
 | succ n b =>
   simp only[a2J,a0r];cases g k with
   |true=>rfl
   |false=>exact b (k+1)
theorem w64 {x:Int} (h:-9223372036854775808<=x) (h':x<=9223372036854775807):IntKind.wrap IntKind.i64 x=x:=IntWalk.i64_in x (by omega)
theorem a1Z (k:Nat) (h:k<9223372036854775807):IntKind.wrap IntKind.i64 ((k:Int)+1)=((k+1:Nat):Int):=by rw[w64 (by omega) (by omega)];simp
theorem a0v {n:Nat} (h:n<=1099511627776):a0k n=true:=Nat.ble_eq_true_of_le h
theorem a3t {α:Type} (l:List α) (k:Nat) (z:α) (h:k<l.length):l.getD k z=l[k]:=by
 rw[List.getD_eq_getElem?_getD,List.getElem?_eq_getElem h];rfl
def a1w {A X:Type} (b:Nat->A->A⊕X) (e:A->X):Nat->Nat->A->X
 |_,0,a=>e a
 | k,n+1,a=>match b k a with
   |.inl c=>a1w b e (k+1) n c
   |.inr x=>x
theorem b2a {V X A:Type} {q:(V->Option X)->V->Option X} (S:Nat->A->V) (n:Nat) (b:Nat->A->A⊕X) (e:A->X)
 (step:∀k a f,k<n->q f (S k a)=match b k a with|.inl c=>f (S (k+1) c)|.inr x=>some x) (fin:∀a f,q f (S n a)=some (e a)) :
 ∀m j k a,k+j=n->j<m->a0F q m (S k a)=some (a1w b e k j a)
 |0,_,_,_,_,h=>by omega
 | m+1,0,k,a,hk,h=>by
   have:k=n:=by omega
   subst this;exact fin _ _
 | m+1,j+1,k,a,hk,h=>by
   show q (a0F q m) (S k a)=_;rw[step k a _ (by omega)];simp only[a1w];cases hs:b k a with
   |inl c=>exact b2a S n b e step fin m j (k+1) c (by omega) (by omega)
   |inr x=>rfl
theorem a9a {V X A:Type} {q:(V->Option X)->V->Option X} (S:Nat->A->V) (n:Nat) (b:Nat->A->A⊕X) (e:A->X) (I:Nat->A->Prop)
 (step:∀k a f,k<n->I k a->q f (S k a)=match b k a with|.inl d=>f (S (k+1) d)|.inr x=>some x) (c:∀k a d,k<n->I k a->b k a = .inl d->I (k+1) d) (fin:∀a f,I n a->q f (S n a)=some (e a)) :
 ∀m j k a,k+j=n->j<m->I k a->a0F q m (S k a)=some (a1w b e k j a)
 |0,_,_,_,_,h,_=>by omega
 | m+1,0,k,a,hk,h,hi=>by
   have:k=n:=by omega
   subst this;exact fin _ _ hi
 | m+1,j+1,k,a,hk,h,hi=>by
   show q (a0F q m) (S k a)=_;rw[step k a _ (by omega) hi];simp only[a1w];cases hs:b k a with
   |inl d=>exact a9a S n b e I step c fin m j (k+1) d (by omega) (by omega) (c k a d (by omega) hi hs)
   |inr x=>rfl
open Go Go.Proofs
def b6x (m:a6m):a6m:=⟨true,fun args ins=>match a1x (roW (a2b ins)) args with
 | some a=>match m.run a []with
   | some (ok,rs,outs)=>match a1x (b8i fun i=>some (ins.length+i)) rs,a1x (a5U fun i=>some (ins.length+i)) outs with
     |some rs',some outs'=>some (ok,rs',ins.map (fun _=>none)++outs')
     |_,_=>none
   |none=>none
 |none=>none⟩
theorem e8t {P:Program} {f:Nat} {m:a6m} (h:a0d P (f,m)):a0d P (f,b6x m):=by
 refine⟨?_,h.2⟩;intro args ins rs outs a β0 K0 w0 vs B Y M hv;simp only[b6x]at a;split at a
 case h_2=>cases a
 rename_i r z;split at a
 case h_2=>cases a
 rename_i ok Q o N;split at a
 case h_2=>cases a
 rename_i rs' n O s;simp only[injEq,Prod.mk.injEq]at a;obtain⟨rfl,rfl,rfl⟩:=a;have I:=a4w (β:=β0) (get:=a2b ins) (ks:=args.flatMap a0R) B;have t:All2 (WR (fun _=>none) (a5a β0 K0 (a2b ins) w0 (args.flatMap a0R))) r vs.toList:=
  a1h z hv fun c c' u E L hu=>a5p Y L hu (fun k B=>List.mem_flatMap.2 ⟨c,E,B⟩) _
 have J:MR (fun _=>none) (a5a β0 K0 (a2b ins) w0 (args.flatMap a0R)) (a2b []) w0:=⟨fun k b e=>by simp[a2b]at e,fun k k' b b' _ _ _ e=>by simp[a2b]at e,fun k b _ _ e=>by simp[a2b]at e⟩;refine(h.1 r [] Q o N (fun _=>none) _ w0 vs I J (fun _ _=>rfl) t).mono ?_;rintro e w' ⟨v,β',K',rfl,p⟩;have d:∀x,¬Own (fun _=>none) (a2b []) x:=by rintro x ⟨k,b,y,e,_⟩;simp[a2b]at e
 have R:o.length=n.length:=(a2r s).symm;have F:∀k k' y,(fun i=>some (ins.length+i)) k=some k'->β' k=some y->(fun k=>if k<ins.length then β0 k else β' (k-ins.length)) k'=some y:=by
  intro k k' y e g;cases e;dsimp only;rw[if_neg (by omega),Nat.add_sub_cancel_left];exact g
 have j:∀k b,a2o (ins.map (fun _=>none)++n) k=some b->ins.length<=k /\ ∃A,a2o o (k-ins.length)=some A /\ b2S (fun i=>some (ins.length+i)) A=some b:=by
  intro k b e;unfold a2o at e;rw[List.getElem?_append]at e;split at e
  ·rename_i X;rw[List.getElem?_map]at e;cases hq:ins[k]? with
   |none=>rw[hq]at e;cases e
   |some _=>rw[hq]at e;cases e
  ·rename_i C;rw[List.length_map]at C e;exact⟨by omega,a4d s (show a2o n (k-ins.length)=some b from e)⟩
 have w:∀k y,ins.length<=k->(fun k=>if k<ins.length then β0 k else β' (k-ins.length)) k=some y->β' (k-ins.length)=some y:=by
  intro k y B e;dsimp only at e;rw[if_neg (by omega)]at e;exact e
 refine⟨v,fun k=>if k<ins.length then β0 k else β' (k-ins.length),K',rfl,⟨fun b arr e=>p.kle b arr (a0Q b arr e),p.kok,fun b arr e=>?_,⟨fun k b e=>?_,fun k k' b b' y y' x e T f U g V=>?_,fun k b y x e f g=>?_⟩,fun k B=>?_,b1F F O p.out,⟨p.fr.os,p.fr.tape,p.fr.output,p.fr.size,fun b W Z=>p.fr.block b W fun l=>l.elim (d b) fun H=>Z (.inr (c4p.1 H))⟩,?_,fun k y e=>?_,?_⟩⟩
 ·rcases p.knew b arr e with l|l|l
  ·exact a4x b arr l
  ·exact absurd l (d b)
  ·exact .inr (.inr l)
 ·obtain⟨q,A,l,H⟩:=j k b e;obtain⟨y,hy,K⟩:=p.mr.blk _ _ l;exact⟨y,by rw[if_neg (by omega)];exact hy,a8J F H K⟩
 ·obtain⟨q,A,l,_⟩:=j k b e;obtain⟨D,S,G,_⟩:=j k' b' T;have:=p.mr.sep _ _ _ _ _ _ x l G (w k y q f) (w k' y' D U) g V;omega
 ·obtain⟨q,A,l,_⟩:=j k b e;exact p.mr.ro _ _ _ _ l (w k y q f) g
 ·simp only[List.length_append,List.length_map]at B
  try dsimp only
  rw[if_neg (by omega)];exact p.fresh _ (by omega)
 ·rintro x ⟨k,b,y,e,f,g⟩;obtain⟨q,A,l,_⟩:=j k b e;exact(p.own x ⟨_,_,_,l,w k y q f,g⟩).imp (fun h=>absurd h (d x)) id
 ·try dsimp only
  split
  ·exact e
  ·rename_i C;rw[M k (by omega)]at e;cases e
 ·simp
def c4Y {ι R:Type} (F:(ι->Option R)->Option R):Prop:=(∀f r,F f=some r->∀z,f z=some r) /\ (Nonempty ι->∀f r,(∀z,f z=some r)->F f=some r)
instance {ι R:Type}:Nonempty { F:(ι->Option R)->Option R // c4Y F }:=by
 classical
 refine⟨⟨fun f=>if h:∃r,∀z,f z=some r then some h.choose else none,fun f r h=>?_,fun⟨z⟩ f r h=>?_⟩⟩
 ·dsimp only at h
  split at h
  ·rename_i hx
   cases h
   exact hx.choose_spec
  ·cases h
 ·have hx:∃r,∀z,f z=some r:=⟨r,h⟩
  dsimp only
  rw[dif_pos hx]
  exact(hx.choose_spec z).symm.trans (h z)
@[irreducible] noncomputable def f9n (ι R:Type):{ F:(ι->Option R)->Option R // c4Y F }:=Classical.choice inferInstance
noncomputable def a3u {ι R:Type} (f:ι->Option R):Option R:=(f9n ι R).1 f
theorem a5g {ι R:Type} {f:ι->Option R} {r:R} (h:a3u f=some r):∀z,f z=some r:=(f9n ι R).2.1 f r h
theorem a0n {ι R:Type} [inh:Nonempty ι] {f:ι->Option R} {r:R} (h:∀z,f z=some r):a3u f=some r:=(f9n ι R).2.2 inh f r h
def Env.withSem (Γ:Env) (f:Nat) (sm:a6m):Env:={ Γ with sem:=fun g=>match beq f g with|true=>some sm|false=>Γ.sem g }
def a9b:Type:={ z:Nat // z<4294967296 }
inductive Alt where
 |no
 |call (f:Nat) (fam:Fam)
 |narrow (b:Nat)
 |isNil (e:Bool)
def a9c (c:Option TI) (a:Option TI) (v:V):Alt:=match c,a,v with
 | some _,some a,.val (.one (.flt s b))=>match s with
   | .f64=>match a.sort with
     | .float d=>match d with
       |.f32 => .narrow b
       |_ => .no
     |_ => .no
   |_ => .no
 |_,_,_ => .no
def d6D:Operand->Bool
 | .const v=>match v with
   | .slice a _ _=>match a with
     |none=>true
     |_=>false
   |_=>false
 |_=>false
def e8u:BinOp->Bool
 |.eql=>true
 |_=>false
def b3E (b:BinOp) (a:Option TI) (v:V) (y:Operand):Alt:=match e8u b&&d6D y,a,v with
 | true,some a,.val (.one (.sl _ l))=>match a.sort with
   |.slice => .isNil l.isEmpty
   |_ => .no
 |_,_,_ => .no
theorem a9d (a:BinOp) (b:Option TI) (v:V) (y:Operand):b3E a b v y = .no∨∃e,b3E a b v y = .isNil e:=by
 unfold b3E;split
 ·split
  ·exact .inr ⟨_,rfl⟩
  ·exact .inl rfl
 ·exact .inl rfl
def b0c (Γ:Env) (N:Nat->Option Fam) (o:Oper) (ρ:Operand->V):Alt:=match o.guard with
 |some _ => .no
 | none=>match o.op with
   | .call c=>match c.callee with
     | .value x=>match x with
       | .func f=>match N f with
         |some fam => .call f fam
         |none => .no
       |_ => .no
     |_ => .no
   |.convert a dst x=>a9c (Γ.tab a) (Γ.tab dst) (ρ x)
   |.binOp b t x y _=>b3E b (Γ.tab t) (ρ x) y
   |_ => .no
noncomputable def d1U {R:Type} (Γ:Env) (N:Nat->Option Fam) (ops:Array Oper):List Oper->(St->Option R)->St->Option R
 |[],K,s=>K s
 | o :: rest,K,s=>match b0c Γ N o s.val with
   |.no=>b0n Γ ops [o] s [] (fun a _=>d1U Γ N ops rest K a)
   |.call f fam=>a3u fun z:fam.ι=>c3U (Γ.withSem f (fam.mean z)) o (fun a _=>d1U Γ N ops rest K a) s
   | .narrow b=>match a1T b with
     |true=>b0n Γ ops [o] s [] (fun a _=>d1U Γ N ops rest K a)
     | false=>match a7g Γ o.dst with
       |true=>a3u fun z:a9b=>d1U Γ N ops rest K (s.putO o.dst (.val (.one (.flt .f32 z.1))))
       |false=>none
   | .isNil e=>match a7g Γ o.dst with
     |true=>a3u fun z:Bool=>d1U Γ N ops rest K (s.putO o.dst (.val (.one (.bool (e&&z)))))
     |false=>none
theorem c2w (P:Program) {b b':Nat} (h:FEq .f64 b b') (c:a1T b=false) (w:World) :
 ∃(r:Nat) (w':World),r<4294967296 /\ (Conv.floatToFloat .f64 b' .f32).run P w = .ok (.float .f32 r) w' /\ a0t w w':=by
 unfold a1T at c;rw[Bool.not_eq_false']at c;split at c
 ·rename_i s m e a;have g:b=b':=by
   rcases h with h|⟨d,_⟩
   ·exact h
   ·obtain⟨sg,f,i⟩:=a1K d;unfold FloatKind.decode at a;rw[i]at a;cases a
  subst g;unfold Conv.floatToFloat;rw[if_neg (by decide),a];dsimp only;rw[if_pos c];refine⟨_,_,?_,by simp only[Sem.run_bind,run_choose,Question.forced,Sem.run_pure];rfl,a4u w⟩;exact Nat.mod_lt _ (by decide)
 ·cases c
section
variable {P:Program} {Γ:Env} {z:a5E} {ops:Array Oper} {N:Nat->Option Fam}
theorem c4Z {β:Bt} {K:Ks} {get:Get} {n:Nat} {w:World} {ρ:Operand->V} {a:Act} {o:Oper} (h:Pre P Γ β K get n w ρ a) {b:Nat} (c:b0c Γ N o ρ = .narrow b) (y:a1T b=false) :
 a0m P o a w (fun v w'=>∃z:a9b,a0U β K get n w ⟨true,.val (.one (.flt .f32 z.1)),[],n⟩ v w'):=by
 unfold b0c at c;split at c
 ·cases c
 split at c
 ·split at c
  ·split at c
   ·split at c<;>cases c
   ·cases c
  ·cases c
 ·rename_i g dst x E;unfold a9c at c;split at c
  case h_2=>cases c
  rename_i L m s M H hd J;split at c
  case h_2=>cases c
  split at c
  case h_2=>cases c
  rename_i d C;split at c
  case h_2=>cases c
  cases c;obtain⟨_,O,_,_,k,_⟩:=(h.env.tab g L H).ex;obtain⟨_,R,_,_,l,_,_,_,_,_,i,_⟩:=(h.env.tab dst m hd).ex;have I:=h.one J;obtain⟨b',A,B⟩:=I;simp only[a1M,C]at i;subst i;have exec:∀v w',(convert g dst (a.eval x)).run P w = .ok v w'->(execOp a.eval o).run P w = .ok (.value v) w':=fun v w' G=>
   a1t (s:=convert g dst (a.eval x)) (by simp[execOp,E]) G
  rw[A]at exec;obtain⟨r,w',p,q,t⟩:=c2w P B y w;have F:a0z n true (.one (.flt .f32 r))=some ⟨true,.val (.one (.flt .f32 r)),[],n⟩:=rfl;intro j Q D;refine(h.pure1 F (u := .float .f32 r) ⟨_,rfl,.inl rfl⟩ (exec _ w' ?_) t) j Q fun v w2 f=>D v w2 ⟨⟨r,p⟩,f⟩
  simp[convert,run_underlying k,run_underlying l,q]
 ·rcases a9d _ _ _ _ with e|⟨_,e⟩<;>rw[e]at c<;>cases c
 ·cases c
theorem c5a (P:Program) (w:World) {t:TypeId} {el:TypeId} (hd:P.underlying t=some (.slice el)) (a:Option Addr) (n c:Nat) (b c':Nat) :
 (binOp .eql t (.slice a n c) (.slice none b c')).run P w = .ok (.bool a.isNone) w:=by
 have h:(Op.equal t (.slice a n c) (.slice none b c')).run P w = .ok a.isNone w:=by
  unfold Op.equal Op.maxDepth Op.equalIn;cases a with
  |none=>simp[run_underlying hd]
  |some x=>simp[run_underlying hd]
 simp[binOp,h]
theorem d2R {β:Bt} {K:Ks} {get:Get} {n:Nat} {w:World} {ρ:Operand->V} {a:Act} {o:Oper} (h:Pre P Γ β K get n w ρ a) (q:∀v,a.eval (.const v)=v) {e:Bool} (f:b0c Γ N o ρ = .isNil e) :
 a0m P o a w (fun v w'=>∃z:Bool,a0U β K get n w ⟨true,.val (.one (.bool (e&&z))),[],n⟩ v w'):=by
 unfold b0c at f;split at f
 ·cases f
 split at f
 ·split at f
  ·split at f
   ·split at f<;>cases f
   ·cases f
  ·cases f
 ·unfold a9c at f;split at f
  case h_2=>cases f
  split at f
  case h_2=>cases f
  split at f
  case h_2=>cases f
  split at f<;>cases f
 ·rename_i D t x y T I;unfold b3E at f;split at f
  case h_2=>cases f
  rename_i R ty l g L M;split at f
  case h_2=>cases f
  rename_i G;cases f;simp only[and_eq_true]at g;obtain⟨_,d,_,_,hd,_,_,_,_,_,p,_⟩:=(h.env.tab t R L).ex;simp only[a1M,G]at p;subst p;have k:D = .eql:=by
   have:=g.1;cases D<;>simp_all[e8u]
  subst k;obtain⟨m,c,rfl⟩:∃m c,y = .const (.slice none m c):=by
   have:=g.2;unfold d6D at this;split at this
   ·split at this
    ·split at this
     ·exact⟨_,_,rfl⟩
     ·cases this
    ·cases this
   ·cases this
  obtain⟨ad,C,c',j,B,S,A⟩:=h.one M;have j:a.eval x = .slice ad C c':=by simpa using j
  have exec:∀v w',(binOp .eql t (a.eval x) (.slice none m c)).run P w = .ok v w'->(execOp a.eval o).run P w = .ok (.value v) w':=by
   intro v w' A;refine a1t (s:=do eqGuard .eql t x (.const (.slice none m c)) (a.eval x) (a.eval (.const (.slice none m c)));binOp .eql t (a.eval x) (a.eval (.const (.slice none m c)))) (by simp[execOp,I]) ?_;rw[q,Sem.run_bind,a5X .eql t x _ (by rw[j];rfl) (by rw[j];exact fun e=>by cases e),Result.andThen_ok,A]
  rw[j]at exec;have O:(l.isEmpty&&ad.isNone)=ad.isNone:=by
   rcases A with F|⟨b,o',arr,E,_,_⟩
   ·have:l=[]:=by
     cases l with
     |nil=>rfl
     |cons _ _=>rw[F]at B;simp at B
    rw[this];simp
   ·rw[E];simp
  have J:a0z n true (.one (.bool (l.isEmpty&&ad.isNone)))=some ⟨true,.val (.one (.bool (l.isEmpty&&ad.isNone))),[],n⟩:=rfl;intro r Q H;refine(h.pure1 J (u := .bool ad.isNone) (by rw[O];rfl) (exec _ w (c5a P w hd ad C c' m c)) (a0t.refl w)) r Q fun v w2 i=>H v w2 ⟨ad.isNone,i⟩
 ·cases f
theorem b3F {Γ:Env} {o:Oper} {c:Call} {f:Nat} {T:Nat->V} {G:Get} {n:Nat} (b:o.op = .call c) (a:c.callee = .value (.func f)) :
 act Γ o (a4W T) G n=match a5V (c.args.toList.map (a4W T))with
  |some ws=>b2U Γ o G n f (ws++([]:List Nat).map fun k => .one (.ptr k 0))
  |none=>none:=by
 unfold act;simp only[b,a,a4W];cases a5V (c.args.toList.map (a4W T))<;>rfl
theorem d2S {β:Bt} {K:Ks} {w:World} {F:FS} {a:Act} {o:Oper} (h:Pre P Γ β K F.G F.n w (a4W F.T) a) {f:Nat} {fam:Fam} (i:a2s P f fam) (b:b0c Γ N o (a4W F.T) = .call f fam)
 {out:fam.ι->Out} (r:∀z,act (Γ.withSem f (fam.mean z)) o (a4W F.T) F.G F.n=some (out z)) (l:∀z,(out z).ok=true) :
 a0m P o a w (fun v w'=>∃z,a0U β K F.G F.n w (out z) v w'):=by
 unfold b0c at b;split at b
 ·cases b
 split at b
 ·rename_i c p;split at b
  case h_2=>cases b
  rename_i x n;split at b
  case h_2=>cases b
  rename_i g;split at b
  case h_2=>cases b
  cases b;have m:∀z,(Γ.withSem f (fam.mean z)).sem f=some (fam.mean z):=fun z=>by simp[Env.withSem]
  cases hw:a5V (c.args.toList.map (a4W F.T))with
  | none =>
    obtain⟨s⟩:=fam.inh;have:=r s;rw[b3F p n,hw]at this;cases this
  | some ws =>
    have j:∀z,(match (fam.mean z).own with|true=>a4s (fam.mean z) F.G F.n (ws++([]:List Nat).map fun k => .one (.ptr k 0))|false=>a6p (fam.mean z) (match o.dst with|some d=>b1w Γ.frz d|none=>false) F.G F.n (ws++([]:List Nat).map fun k => .one (.ptr k 0)))=some (out z):=by
     intro z;have:=r z;rw[b3F p n,hw]at this;dsimp only at this;unfold b2U at this;rw[m z]at this;exact this
    have q:a4W F.T (.func f) = .val (.one (.fn f [])):=rfl;cases hown:fam.own with
    |true=>exact a5Z h p n q hw i (fun z=>by have:=j z;rw[i.own z,hown]at this;exact this) l
    |false=>exact a7o h p n q hw i (fun z=>by have:=j z;rw[i.own z,hown]at this;exact this) l
 ·unfold a9c at b;split at b
  case h_2=>cases b
  split at b
  case h_2=>cases b
  split at b
  case h_2=>cases b
  split at b<;>cases b
 ·rcases a9d _ _ _ _ with e|⟨_,e⟩<;>rw[e]at b<;>cases b
 ·cases b
theorem a9e {o:Oper} {ρ:Operand->V} (h:b0c Γ N o ρ ≠ .no):o.guard=none:=by
 unfold b0c at h;split at h
 ·exact absurd rfl h
 ·assumption
theorem c5b {R:Type} (env:a1m P Γ) (Z:∀f fam,N f=some fam->a2s P f fam) {Q:Exit->Act->World->Prop} {r:R} {K:St->Option R} (hQ:∀y a w,SR P Γ z y a w->K y=some r->Q .normal a w) :
 ∀(L:List Oper) (i:Nat),ops.toList.drop i=L->i+L.length=ops.size->∀s,d1U Γ N ops L K s=some r->∀a w,SR P Γ z s a w->wpOps P ops Q (List.range' i L.length) a w
 |[],i,_,_,s,h,a,w,hs=>hQ s a w hs h
 | o :: rest,i,hd,hi,s,h,a,w,hs=>by
   rw[List.length_cons,List.range'_succ,wpOps_cons];simp only[List.length_cons]at hi;have U:ops[i]?=some o:=by
    have:(ops.toList.drop i)[0]?=some o:=by rw[hd];rfl
    rw[List.getElem?_drop,Nat.add_zero,Array.getElem?_toList]at this;exact this
   have C:ops.toList.drop (i+1)=rest:=by rw[<- List.drop_drop,hd];rfl
   have O:=c5b env Z hQ rest (i+1) C (by omega);obtain⟨J,β,Ks,l⟩:=hs;have G:b0n Γ ops [o] s [] (fun y _=>d1U Γ N ops rest K y)=some r->wpOp P ops Q i (wpOps P ops Q (List.range' (i+1) rest.length)) a w:=by
    intro h;obtain⟨y,E,X,d,M,S⟩:=b3o h;have S:d1U Γ N ops rest K y=some r:=S;have hw:=a7p (β:=β) (K:=Ks) (a:=a) (T:=s.fs.T) d fun _ _ t _ _=>l.tmp t
    unfold wpOp;rw[U];dsimp only;rw[hw];cases hr:X.run with
    | true =>
      rw[if_pos rfl];left;obtain⟨_,out,V,B,H,W,h5,_⟩:=d.exec hr;refine c4D (ρ:=a4W s.fs.T) (get:=s.fs.G) (n:=s.fs.n) ⟨env,l.kok,l.mr,l.fresh,fun x=>a8Q l.tmp x⟩ V B _ _ fun v w' k=>?_
      obtain⟨β',K',k⟩:=k;exact O y S _ _ ⟨M.trans J,β',K',l.next (x:=out.v) d.dst k (by rw[d.T,H]) (by rw[d.G,W]) h5⟩
    | false =>
      rw[if_neg (by simp)];obtain⟨_,V,B,H,_⟩:=d.skip hr;exact O y S _ _ ⟨M.trans J,β,Ks,l.skip d.dst (by rw[d.T,V]) (by rw[d.G,B];rfl) H⟩
   have q:Pre P Γ β Ks s.fs.G s.fs.n w (a4W s.fs.T) a:=⟨env,l.kok,l.mr,l.fresh,fun x=>a8Q l.tmp x⟩;unfold d1U at h;rw[b8z]at h;have g:o.guard=none->Region.wanted o (yielded ops a.tmps)=true:=fun u=>by simp[Region.wanted,u]
   split at h
   ·exact G h
   ·rename_i f fam c;have u:=a9e (o:=o) (by rw[c];exact fun e=>by cases e);have I:N f=some fam:=by
     unfold b0c at c;rw[u]at c;dsimp only at c;split at c
     ·split at c
      ·split at c
       ·split at c
        ·cases c;assumption
        ·cases c
       ·cases c
      ·cases c
     ·unfold a9c at c;split at c
      case h_2=>cases c
      split at c
      case h_2=>cases c
      split at c
      case h_2=>cases c
      split at c<;>cases c
     ·rcases a9d _ _ _ _ with e|⟨_,e⟩<;>rw[e]at c<;>cases c
     ·cases c
    have j:=a5g h;have D:=fun z=>a6z (j z)
    obtain⟨out,p⟩:=Classical.axiomOfChoice D;unfold wpOp;rw[U];dsimp only;rw[g u,if_pos rfl];left;refine d2S (F:=s.fs) q (Z f fam I) c (out:=out) (fun z=>(p z).1) (fun z=>(p z).2.1) _ _ fun v w' k=>?_
    obtain⟨A,β',K',k⟩:=k;obtain⟨_,_,H,W⟩:=p A;refine O _ W _ _ ⟨(by rw[(a1v _ _ _).2.2];exact J),β',K',l.next (x:=(out A).v) H k ?_ ?_ ?_⟩
    ·rw[b3l];rfl
    ·rw[(a1v _ _ _).1,c4G]
    ·rw[(a1v _ _ _).2.1];rfl
   ·rename_i b c;have u:=a9e (o:=o) (by rw[c];exact fun e=>by cases e);split at h
    ·exact G h
    ·rename_i Y;split at h
     ·rename_i m;have j:=a5g h;unfold wpOp;rw[U];dsimp only;rw[g u,if_pos rfl];left;refine c4Z q c Y _ _ fun v w' k=>?_
      obtain⟨A,β',K',k⟩:=k;refine O _ (j A) _ _ ⟨(by rw[(a1v _ _ _).2.2];exact J),β',K',l.next (x := .val (.one (.flt .f32 A.1))) m k ?_ ?_ ?_⟩
      ·rw[b3l]
      ·rw[(a1v _ _ _).1];rfl
      ·rw[(a1v _ _ _).2.1]
     ·cases h
   ·rename_i e c;have u:=a9e (o:=o) (by rw[c];exact fun e=>by cases e);split at h
    ·rename_i m;have j:=a5g h;unfold wpOp;rw[U];dsimp only;rw[g u,if_pos rfl];left;refine d2R q (fun v=>rfl) c _ _ fun v w' k=>?_
     obtain⟨A,β',K',k⟩:=k;refine O _ (j A) _ _ ⟨(by rw[(a1v _ _ _).2.2];exact J),β',K',l.next (x := .val (.one (.bool (e&&A)))) m k ?_ ?_ ?_⟩
     ·rw[b3l]
     ·rw[(a1v _ _ _).1];rfl
     ·rw[(a1v _ _ _).2.1]
    ·cases h
end
def a9f (o:Oper):Bool:=(match o.guard with
 |none=>true
 |some _=>false)&&(match o.op with
 |.move _=>true
 |.assign _=>true
 |.load _ _=>true
 |.fieldAddr _ _ _=>true
 |.indexAddr _ _ _=>true
 |_=>false)
def a6e (f:Nat) (o:Oper):Bool:=match o.op with
 | .call c=>match c.callee with
   | .value x=>match x with
     |.func g=>!beq g f
     |_=>false
   |.builtin _=>true
   |_=>false
 |_=>true
def d2T (f p:Nat):Nat->List Nat->List Oper->Bool
 | i,a::as1,o::r=>(match beq i p with
   |true=>true
   |false=>a6e f o&&(Nat.blt i p||Nat.testBit a p||a9f o))&&d2T f p (i+1) as1 r
 |_,[],[]=>true
 |_,_,_=>false
def b2b (N:Nat->Option Fam) (o:Oper):Option (Nat×Fam):=match o.guard with
 |some _=>none
 | none=>match o.op with
   | .call c=>match c.callee with
     | .value x=>match x with
       | .func f=>match N f with
         |some fam=>some (f,fam)
         |none=>none
       |_=>none
     |_=>none
   |_=>none
def a6K (N:Nat->Option Fam):Nat->List Oper->Option (Nat×Nat×Fam)
 |_,[]=>none
 | i,o::r=>match b2b N o with
   |some (f,fam)=>some (i,f,fam)
   |none=>a6K N (i+1) r
noncomputable def f9o {R:Type} (Γ:Env) (N:Nat->Option Fam) (id:Nat) (ops:Array Oper) (K:Ex->St->Option R) (s:St):Option R:=
 match a6K N 0 ops.toList with
 |none=>EBk Γ (.region id ops true) K s
 | some (p,f,fam)=>match d2T f p 0 (c4f ops.toList []) ops.toList with
   |true=>a3u fun z:fam.ι=>EBk (Γ.withSem f (fam.mean z)) (.region id ops true) K s
   |false=>none
theorem b3G {N:Nat->Option Fam} {o:Oper} {f:Nat} {fam:Fam} (h:b2b N o=some (f,fam)):o.guard=none /\ N f=some fam /\ ∃c,o.op = .call c /\ c.callee = .value (.func f):=by
 unfold b2b at h;split at h
 ·cases h
 rename_i d;split at h
 ·rename_i c e;split at h
  ·rename_i x b;split at h
   ·split at h
    ·rename_i a;cases h;exact⟨d,a,c,e,b⟩
    ·cases h
   ·cases h
  ·cases h
 ·cases h
theorem a6L {N:Nat->Option Fam}:∀{L:List Oper} {i p f:Nat} {fam:Fam},a6K N i L=some (p,f,fam)->i<=p /\ ∃o,L[p-i]?=some o /\ b2b N o=some (f,fam)
 |[],_,_,_,_,h=>by simp[a6K]at h
 | o::r,i,p,f,fam,h=>by
   simp only[a6K]at h;split at h
   ·rename_i c;cases h;exact⟨le_refl _,o,by simp,c⟩
   ·obtain⟨d,o',a,b⟩:=a6L h;refine⟨by omega,o',?_,b⟩;rw[show p-i=(p-(i+1))+1 by omega];exact a
theorem a7r {f p:Nat}:∀{L:List Oper} {as1:List Nat} {i:Nat},d2T f p i as1 L=true->∀j o a,L[j]?=some o->as1[j]?=some a->i+j≠p->a6e f o=true /\ (i+j<p∨a.testBit p=true∨a9f o=true)
 |[],_,_,_,j,o,a,ho,_,_=>by simp at ho
 |o0::r,[],_,h,_,_,_,_,ha,_=>by simp at ha
 | o0::r,a0::as1,i,h,j,o,a,ho,ha,hj=>by
   simp only[d2T,and_eq_true]at h;cases j with
   | zero =>
     simp only[List.getElem?_cons_zero,injEq]at ho ha;subst ho ha;have b:=h.1;rw[a1A (by omega)]at b;simp only[and_eq_true,Bool.or_eq_true,Nat.blt_eq]at b;refine⟨b.1,?_⟩;rcases b.2 with(h2|h2)|h2
     ·exact .inl (by omega)
     ·exact .inr (.inl h2)
     ·exact .inr (.inr h2)
   | succ j =>
     have:=a7r h.2 j o a (by simpa using ho) (by simpa using ha) (by omega);rw[show i+(j+1)=i+1+j by omega];exact this
theorem a6f {Γ:Env} {f:Nat} {sm:a6m} {o:Oper} (d:a6e f o=true) (T:Nat->V) (G:Get) (n:Nat):act (Γ.withSem f sm) o (a4W T) G n=act Γ o (a4W T) G n:=by
 obtain⟨dst,m,type,pos,h,guard⟩:=o;cases m with
 | call c =>
   obtain⟨a,args,l⟩:=c;cases a with
   | value x =>
     cases x with
     | func g =>
       have i:beq f g=false:=by
        simp only[a6e,Bool.not_eq_true']at d;refine a1A fun e=>?_
        subst e;rw[show beq f f=true from Nat.beq_refl f]at d;cases d
       simp only[act,a4W];split
       ·rename_i p j ws k q;simp only[V.val.injEq,W.one.injEq,C.fn.injEq]at k;obtain⟨rfl,rfl⟩:=k;unfold b2U;simp only[Env.withSem,i]
       ·rfl
     |_=>simp[a6e]at d
   |builtin b=>rfl
   |_=>simp[a6e]at d
 |_=>rfl
theorem b6y {o:Oper} (b:a9f o=true) {ρ ρ':Operand->V} {G G':Get} (h:∀x∈o.op.operands,ρ x=ρ' x):a8m o ρ G=a8m o ρ' G':=by
 obtain⟨dst,c,type,pos,a,guard⟩:=o;cases c<;>simp[a9f]at b<;>simp only[Op.operands]at h<;>simp only[a8m]
 ·rw[h _ (by simp)]
 ·rw[h _ (by simp)]
theorem c2x (G:Get) (n:Nat) (a:Bool) (size:Nat) (v:V):a1e G n a size v=(a1e G 0 a size v).map fun x=>{ x with n:=n }:=by
 unfold a1e
 repeat' (first|rfl|split)
theorem d2U {G:Get} {a:Bool} {size:Nat} {v:V} {out:Out} (h:a1e G 0 a size v=some out):out.upd=[]:=by
 unfold a1e at h
 repeat' (first|(cases h;done)|(simp only[a0z,injEq]at h;subst h;rfl)|split at h)
theorem c5c (n size m:Nat) (x i:V):a2G n size m x i=(a2G 0 size m x i).map fun x=>{ x with n:=n }:=by
 unfold a2G
 repeat' (first|rfl|split)
theorem e2o {size m:Nat} {x i:V} {out:Out} (h:a2G 0 size m x i=some out):out.upd=[]:=by
 unfold a2G at h
 repeat' (first|(cases h;done)|(simp only[a0z,injEq]at h;subst h;rfl)|split at h)
theorem b3H {Γ:Env} {o:Oper} (b:a9f o=true) (ρ:Operand->V) (G:Get) (n:Nat):act Γ o ρ G n=(act Γ o ρ G 0).map fun x=>{ x with n:=n }:=by
 obtain⟨dst,c,type,pos,a,guard⟩:=o;cases c<;>simp[a9f]at b<;>simp only[act]
 ·rfl
 ·rfl
 ·split
  ·exact c2x _ _ _ _ _
  ·rfl
 ·repeat' (first|rfl|split)
 ·split
  ·split
   ·split
    ·repeat' (first|rfl|split)
    ·rfl
   ·split
    ·exact c5c _ _ _ _ _
    ·rfl
   ·rfl
  ·rfl
theorem e2p {Γ:Env} {o:Oper} (b:a9f o=true) {ρ:Operand->V} {G:Get} {out:Out} (h:act Γ o ρ G 0=some out):out.upd=[]:=by
 obtain⟨dst,c,type,pos,a,guard⟩:=o;cases c<;>simp[a9f]at b<;>simp only[act]at h
 ·cases h;rfl
 ·cases h;rfl
 ·split at h
  ·exact d2U h
  ·cases h
 ·repeat' (first|(cases h;done)|(simp only[a0z,injEq]at h;subst h;rfl)|split at h)
 ·split at h
  ·split at h
   ·split at h
    ·repeat' (first|(cases h;done)|(simp only[a0z,injEq]at h;subst h;rfl)|split at h)
    ·cases h
   ·split at h
    ·exact e2o h
    ·cases h
   ·cases h
  ·cases h
theorem d2V {Γ:Env} {o:Oper} (a:a9f o=true) {ρ:Operand->V} {G:Get} {n:Nat} {out:Out} (h:act Γ o ρ G n=some out):out.upd=[] /\ out.n=n /\ ∀b,act Γ o ρ G b=some { out with n:=b }:=by
 rw[b3H a]at h;cases h0:act Γ o ρ G 0 with
 |none=>rw[h0]at h;cases h
 | some x =>
   rw[h0]at h;cases h;exact⟨show x.upd=[]from e2p a h0,rfl,fun b=>by rw[b3H a,h0];rfl⟩
section
variable {P:Program} {Γ:Env} {z:a5E} {ops:Array Oper} {Q:Exit->Act->World->Prop}
theorem d2W (b:Bool):a2p b≠a2p (!b):=by cases b<;>intro h<;>cases h
theorem c5d (b:Bool):a2p b ≠ .tup []:=by intro h;cases h
theorem c5e {c d:Env} {o:Oper} {F F' k l:FS} {E j:Ent} {X e:Res} (p:a4e c ops o F E X k) (q:a4e d ops o F' j e l) (r:∀g want t,o.guard=some (g,want)->a9U ops g=some t->F.T t=F'.T t):X.run=e.run:=by
 have i:∀{c d:Env} {F F' k l:FS} {E j:Ent} {X e:Res},a4e c ops o F E X k->a4e d ops o F' j e l->(∀g want t,o.guard=some (g,want)->a9U ops g=some t->F.T t=F'.T t)->X.run=false->e.run=true->False:=by
  intro c d F F' k l E j X e p q r m n;obtain⟨⟨g,want,t,a1,a2,f⟩,_⟩:=p.skip m;obtain⟨h,_⟩:=q.exec n;rcases h with h|⟨y,s,z,u,v,x⟩
  ·rw[h]at a1;cases a1
  ·have:=r g want t a1 a2;rw[a1]at u;cases u;rw[a2]at v;cases v;rw[this,x]at f;rcases f with f|f
   ·exact d2W _ f
   ·exact c5d _ f
 cases m:X.run<;>cases n:e.run
 ·rfl
 ·exact(i p q r m n).elim
 ·exact(i q p (fun g w t a b=>(r g w t a b).symm) n m).elim
 ·rfl
theorem a4e.det {k l:Env} {o:Oper} {F e f:FS} {E C:Ent} {X g:Res} (h:a4e k ops o F E X e) (i:a4e l ops o F C g f) (s:∀T G n,act k o (a4W T) G n=act l o (a4W T) G n):X=g /\ e=f:=by
 have d:=c5e h i fun _ _ _ _ _=>rfl
 have m:X=g /\ e.n=f.n:=by
  cases e1:X.run with
  | true =>
    obtain⟨_,out,j,_,p,z,D,_⟩:=h.exec e1;obtain⟨_,y,q1,_,q,B,H,_⟩:=i.exec (d ▸ e1);rw[s,q1]at j;cases j;refine⟨?_,by rw[D,H]⟩;obtain⟨v,u,r⟩:=X;obtain⟨K,J,I⟩:=g;dsimp only at p z q B d;rw[p,z,q,B,d]
  | false =>
    obtain⟨_,j,p2,p,_⟩:=h.skip e1;obtain⟨_,q1,A,q,_⟩:=i.skip (d ▸ e1);refine⟨?_,by rw[p,q]⟩;obtain⟨v,u,r⟩:=X;obtain⟨K,J,I⟩:=g;dsimp only at j p2 q1 A d;rw[j,p2,q1,A,d]
 refine⟨m.1,?_⟩;have w:e.T=f.T:=by rw[h.T,i.T,m.1]
 have t:e.G=f.G:=by rw[h.G,i.G,m.1]
 obtain⟨a,b,c⟩:=e;obtain⟨L,b',c'⟩:=f;have x:=m.2;dsimp only at w t x;rw[w,t,x]
theorem e2q {T0:Nat->V} {dst:Nat->Option Nat} {vs a:Nat->V} {D:Nat->Bool} {t:Nat}:∀(N:Nat),(∀j,j<N->D j=true->vs j=a j)->TD T0 dst vs D N t=TD T0 dst a D N t
 |0,_=>rfl
 | N+1,h=>by
   simp only[TD];rw[e2q N fun j b=>h j (by omega)];by_cases e:D N=true /\ dst N=some t
   ·rw[if_pos e,if_pos e,h N (by omega) e.1]
   ·rw[if_neg e,if_neg e]
theorem c5f {G0:Get} {upd a:Nat->List (Nat×Option Blk)} {D:Nat->Bool}:∀(N:Nat),(∀j,j<N->D j=true->upd j=a j)->GD G0 upd D N=GD G0 a D N
 |0,_=>rfl
 | N+1,h=>by
   simp only[GD];rw[c5f N fun j b=>h j (by omega)];by_cases e:D N=true
   ·rw[if_pos e,if_pos e,h N (by omega) e]
   ·rw[if_neg e,if_neg e]
theorem DS.sem {f:Nat} {sm:a6m} {F:Nat->FS} {X:Nat->Res} {D:Nat->Bool} {β:Bt} {K:Ks} {a:Act} {w:World} (h:DS P Γ z ops F X D β K a w):DS P (Γ.withSem f sm) z ops F X D β K a w:=
 ⟨h.tmp,h.nt,h.defers,h.kok,h.mr,h.dom,h.kle,h.knew,h.fr,h.own,h.ble,h.le⟩
theorem DS.unsem {f:Nat} {sm:a6m} {F:Nat->FS} {X:Nat->Res} {D:Nat->Bool} {β:Bt} {K:Ks} {a:Act} {w:World} (h:DS P (Γ.withSem f sm) z ops F X D β K a w):DS P Γ z ops F X D β K a w:=
 ⟨h.tmp,h.nt,h.defers,h.kok,h.mr,h.dom,h.kle,h.knew,h.fr,h.own,h.ble,h.le⟩
theorem SRf.unsem {f:Nat} {sm:a6m} {F:FS} {β:Bt} {K:Ks} {a:Act} {w:World} (h:SRf P (Γ.withSem f sm) z β K F a w):SRf P Γ z β K F a w:=
 ⟨h.tmp,h.nt,h.defers,h.kok,h.mr,h.fresh,h.kle,h.knew,h.fr,h.own,h.ble,h.le⟩
structure b3I (Γ:Env) (ops:Array Oper) (f:Nat) (fam:Fam) (p:Nat) (F:fam.ι->Nat->FS) (E:fam.ι->Nat->Ent) (X:fam.ι->Nat->Res):Prop where
 rgn:∀y,Rgn (Γ.withSem f (fam.mean y)) ops (F y) (E y) (X y)
 start:∀y y',F y 0=F y' 0
 other:∀i o,i≠p->ops[i]?=some o->a6e f o=true
 late:∀i o,p<i->ops[i]?=some o->∀D,a2I ops D->D i=true->D p=false->a9f o=true
variable {f:Nat} {fam:Fam} {p:Nat} {F:fam.ι->Nat->FS} {E:fam.ι->Nat->Ent} {X:fam.ι->Nat->Res}
theorem b3I.act (R:b3I Γ ops f fam p F E X) {i:Nat} {o:Oper} (a:i≠p) (b:ops[i]?=some o) (y y':fam.ι) (T:Nat->V) (G:Get) (n:Nat):AM.act (Γ.withSem f (fam.mean y)) o (a4W T) G n=AM.act (Γ.withSem f (fam.mean y')) o (a4W T) G n:=by
 rw[a6f (R.other i o a b),a6f (R.other i o a b)]
theorem b3I.pre (R:b3I Γ ops f fam p F E X) (k:p<ops.size) (y y':fam.ι):∀i,i<=p->F y i=F y' i /\ ∀j,j<i->X y j=X y' j
 |0,_=>⟨R.start y y',fun j h=>by omega⟩
 | i+1,h=>by
   obtain⟨d,g⟩:=R.pre k y y' i (by omega);have a:ops[i]?=some ops[i]:=Array.getElem?_eq_getElem (by omega);have s1:=(R.rgn y).step i _ a;have s2:=(R.rgn y').step i _ a;rw[<- d]at s2;obtain⟨b,c⟩:=s1.det s2 (R.act (by omega) a y y');refine⟨c,fun j l=>?_⟩;by_cases e:j=i
   ·subst e;exact b
   ·exact g j (by omega)
theorem b3I.same (R:b3I Γ ops f fam p F E X) (hp:p<ops.size) (y y':fam.ι) {D:Nat->Bool} (hc:a2I ops D) (hD:D p=false):∀i,i<ops.size->D i=true->X y i=X y' i /\ (p<i->(F y (i+1)).n=(F y i).n):=by
 intro i
 induction i using Nat.strongRecOn with
 | _ i ih =>
   intro hi q;have hne:i≠p:=fun e=>by subst e;rw[hD]at q;cases q
   rcases Nat.lt_or_ge i p with hlt|hge
   ·exact⟨(R.pre hp y y' p (le_refl _)).2 i hlt,fun h=>by omega⟩
   have hpi:p<i:=by omega
   have m:ops[i]?=some ops[i]:=Array.getElem?_eq_getElem hi;have a:=R.late i _ hpi m D hc q hD;have hg:ops[i].guard=none:=by
    unfold a9f at a;simp only[and_eq_true]at a;have:=a.1;split at this
    ·assumption
    ·cases this
   obtain⟨D',H⟩:∃D':Nat->Bool,D'=fun k=>D k&&Nat.blt k i:=⟨_,rfl⟩
   have b:D' i=false:=by
    rw[H];dsimp only;rw[show Nat.blt i i=false by
     cases hq:Nat.blt i i with
     |false=>rfl
     |true=>rw[Nat.blt_eq]at hq;omega,Bool.and_false]
   have l:∀k,D' k=true->D k=true /\ k<i:=fun k C=>by
    rw[H]at C;simp only[and_eq_true,Nat.blt_eq]at C;exact C
   have K:∀k,D k=true->k<i->D' k=true:=fun k U h2=>by
    rw[H];simp only[and_eq_true,Nat.blt_eq];exact⟨U,h2⟩
   have z:a2I ops D':=by
    intro k o C V e J I;obtain⟨U,h2⟩:=l k V;have h3:=hc k o C U e J I;have h4:=(R.rgn y).edge k o C e J I;exact K _ h3 (by omega)
   have w:a8c D' ops[i]:=fun e J I=>K _ (hc i _ m q e J I) ((R.rgn y).edge i _ m e J I)
   have hX:∀j,j<ops.size->D' j=true->X y j=X y' j:=fun j L d=>(ih j (l j d).2 L (l j d).1).1
   have Z:∀t,TX ops (F y) (X y) D' t=TX ops (F y') (X y') D' t:=fun t=>by
    show TD (F y 0).T (a9U ops) (fun i=>(X y i).v) D' ops.size t=TD (F y' 0).T (a9U ops) (fun i=>(X y' i).v) D' ops.size t;rw[R.start y y'];exact e2q _ fun j L d=>by rw[hX j L d]
   have W:GX ops (F y) (X y) D'=GX ops (F y') (X y') D':=by
    show GD (F y 0).G (fun i=>(X y i).upd) D' ops.size=GD (F y' 0).G (fun i=>(X y' i).upd) D' ops.size;rw[R.start y y'];exact c5f _ fun j L d=>by rw[hX j L d]
   have hT:∀t,t∈looks ops ops[i]->(F y i).T t=(F y' i).T t:=fun t ht=>by
    rw[<- (R.rgn y).lookT z m w b ht,<- (R.rgn y').lookT z m w b ht,Z]
   have P:∀x∈ops[i].op.operands,a4W (F y i).T x=a4W (F y' i).T x:=fun x hx=>by
    cases x with
    |tmp t=>exact hT t (List.mem_append_left _ (List.mem_filterMap.2 ⟨.tmp t,by simpa using hx,rfl⟩))
    |_=>rfl
   have s1:=(R.rgn y).step i _ m;have s2:=(R.rgn y').step i _ m;have c:∀{S:Env} {F1 F2:FS} {E':Ent} {T:Res},a4e S ops ops[i] F1 E' T F2->T.run=true:=by
    intro S F1 F2 E' T s;cases e:T.run with
    |true=>rfl
    | false =>
      obtain⟨⟨g,want,t,a1,_⟩,_⟩:=s.skip e;rw[hg]at a1;cases a1
   obtain⟨_,out,p1,_,p3,p4,p5,p6⟩:=s1.exec (c s1);obtain⟨_,Q,q1,_,q3,q4,q5,q6⟩:=s2.exec (c s2);have hfp:=b6y a (G:=(F y i).G) (G':=(F y' i).G) P;have Y:∀k∈a8m ops[i] (a4W (F y' i).T) (F y i).G,(F y i).G k=(F y' i).G k:=fun k C=>by
    have hk1:k∈(E y i).fp:=by rw[p6];dsimp only;rw[hfp,b6y a (G':=(F y i).G) (fun _ _=>rfl)];exact C
    have hk2:k∈(E y' i).fp:=by rw[q6];dsimp only;rw[b6y a (G':=(F y i).G) (fun _ _=>rfl)];exact C
    rw[<- (R.rgn y).lookG z m w b hk1,<- (R.rgn y').lookG z m w b hk2,W]
   rw[R.act hne m y y',b6m P,b6n Y]at p1;obtain⟨u1,u2,u3⟩:=d2V a p1;rw[u3 (F y' i).n]at q1;have M:Q={ out with n:=(F y' i).n }:=(Option.some.inj q1).symm;refine⟨?_,fun _=>by rw[p5,u2]⟩;have N:=c s1;have O:=c s2;generalize X y i=A at *;generalize X y' i=B at *;obtain⟨v,u,r⟩:=A;obtain⟨v',u',r'⟩:=B;dsimp only at p3 p4 q3 q4 N O;rw[p3,p4,q3,q4,N,O,M]
theorem b3I.TX (R:b3I Γ ops f fam p F E X) (e:p<ops.size) (y y':fam.ι) {D:Nat->Bool} (c:a2I ops D) (b:D p=false) (t:Nat):AM.TX ops (F y) (X y) D t=AM.TX ops (F y') (X y') D t:=by
 show TD (F y 0).T (a9U ops) (fun i=>(X y i).v) D ops.size t=TD (F y' 0).T (a9U ops) (fun i=>(X y' i).v) D ops.size t;rw[R.start y y'];exact e2q _ fun j d a=>by rw[(R.same e y y' c b j d a).1]
theorem b3I.GX (R:b3I Γ ops f fam p F E X) (e:p<ops.size) (y y':fam.ι) {D:Nat->Bool} (c:a2I ops D) (b:D p=false):AM.GX ops (F y) (X y) D=AM.GX ops (F y') (X y') D:=by
 show GD (F y 0).G (fun i=>(X y i).upd) D ops.size=GD (F y' 0).G (fun i=>(X y' i).upd) D ops.size;rw[R.start y y'];exact c5f _ fun j d a=>by rw[(R.same e y y' c b j d a).1]
theorem b3I.switch (R:b3I Γ ops f fam p F E X) (b:p<ops.size) (y y':fam.ι) {D:Nat->Bool} (j:a2I ops D) (g:D p=false) {β:Bt} {K:Ks} {a:Act} {w:World}
 (h:DS P Γ z ops (F y) (X y) D β K a w):DS P Γ z ops (F y') (X y') D β K a w:=by
 have o:=R.TX b y y' j g;have l:=R.GX b y y' j g;refine⟨fun t=>by rw[<- o t];exact h.tmp t,h.nt,h.defers,h.kok,by rw[<- l];exact h.mr,?_,h.kle,h.knew,h.fr,by rw[<- l];exact h.own,h.ble,by rw[<- R.start y y'];exact h.le⟩;intro k r;rcases h.dom k r with c|⟨i,c,d,m,n⟩
 ·exact .inl (by rw[<- R.start y y'];exact c)
 ·have u:i≠p:=fun e=>by subst e;rw[g]at d;cases d
  rcases Nat.lt_or_ge i p with s|q
  ·refine .inr ⟨i,c,d,?_⟩;rw[<- (R.pre b y y' i (by omega)).1,<- (R.pre b y y' (i+1) (by omega)).1];exact⟨m,n⟩
  ·have:=(R.same b y y' j g i c d).2 (by omega);omega
theorem d2X {β:Bt} {K:Ks} {get:Get} {n:Nat} {w:World} {ρ:Operand->V} {a:Act} {o:Oper} (h:Pre P Γ β K get n w ρ a) (b:a2s P f fam) {c:Call} (p:o.op = .call c) (l:c.callee = .value (.func f))
 (m:ρ (.func f) = .val (.one (.fn f []))) {out:fam.ι->Out} (q:∀y,AM.act (Γ.withSem f (fam.mean y)) o ρ get n=some (out y)) (i:∀y,(out y).ok=true) :
 a0m P o a w (fun v w'=>∃y,a0U β K get n w (out y) v w'):=by
 have j:∀y,(Γ.withSem f (fam.mean y)).sem f=some (fam.mean y):=fun y=>by simp[Env.withSem]
 have e:∀y,AM.act (Γ.withSem f (fam.mean y)) o ρ get n=match a5V (c.args.toList.map ρ)with
  |some ws=>b2U (Γ.withSem f (fam.mean y)) o get n f (ws++([]:List Nat).map fun k => .one (.ptr k 0))
  |none=>none:=by
  intro y;unfold AM.act;simp only[p,l,m];cases a5V (c.args.toList.map ρ)<;>rfl
 cases hw:a5V (c.args.toList.map ρ)with
 | none =>
   obtain⟨r⟩:=fam.inh;have:=q r;rw[e,hw]at this;cases this
 | some ws =>
   have g:∀y,(match (fam.mean y).own with|true=>a4s (fam.mean y) get n (ws++([]:List Nat).map fun k => .one (.ptr k 0))|false=>a6p (fam.mean y) (match o.dst with|some d=>b1w Γ.frz d|none=>false) get n (ws++([]:List Nat).map fun k => .one (.ptr k 0)))=some (out y):=by
    intro y;have:=q y;rw[e,hw]at this;dsimp only at this;unfold b2U at this;rw[j y]at this;exact this
   cases hown:fam.own with
   |true=>exact a5Z h p l m hw b (fun y=>by have:=g y;rw[b.own y,hown]at this;exact this) i
   |false=>exact a7o h p l m hw b (fun y=>by have:=g y;rw[b.own y,hown]at this;exact this) i
theorem b3I.step (R:b3I Γ ops f fam p F E X) (env:a1m P Γ) (L:a2s P f fam) {o:Oper} (r:ops[p]?=some o) (hg:o.guard=none) {c:Call} (M:o.op = .call c) (u:c.callee = .value (.func f))
 {y:fam.ι} {D:Nat->Bool} {β:Bt} {K:Ks} {a:Act} {w:World} (h:DS P Γ z ops (F y) (X y) D β K a w) (B:a2I ops D) (hb:a8c D o) (s:D p=false)
 {A:Act->World->Prop} (hn:∀y' β K a w,DS P Γ z ops (F y') (X y') (b0a D p) β K a w->A a w):wpOp P ops Q p A a w:=by
 have q:p<ops.size:=(Array.getElem?_eq_some_iff.1 r).1;have S:∀y',DS P Γ z ops (F y') (X y') D β K a w:=fun y'=>R.switch q y y' B s h
 have U:∀y',F y' p=F y p:=fun y'=>(R.pre q y' y p (le_refl _)).1
 have O:∀y',(X y' p).run=true:=by
  intro y';cases e:(X y' p).run with
  |true=>rfl
  | false =>
    obtain⟨⟨g,want,t,a1,_⟩,_⟩:=((R.rgn y').step p o r).skip e;rw[hg]at a1;cases a1
 have hex:=fun y'=>(((R.rgn y').step p o r).exec (O y')).2
 obtain⟨out,l⟩:=Classical.axiomOfChoice hex;unfold wpOp;rw[r];dsimp only;rw[show Region.wanted o (yielded ops a.tmps)=true by simp[Region.wanted,hg],if_pos rfl];left;have H:∀t,t∈looks ops o->VR β K ((F y p).T t) (a.tmps.getD t undef):=fun t ht=>by rw[<- (R.rgn y).lookT B r hb s ht];exact h.tmp t
 refine c4F (ι:=fam.ι) fam.inh (β:=β) (K:=K) (ρ:=a4W (F y p).T) (G:=(F y p).G) (Gc:=AM.GX ops (F y) (X y) D) (n:=(F y p).n) (out:=out) env ?_ ?_ ?_ h.kok h.mr ?_ ?_ _ _ fun v w' I=>?_
 ·intro ρr Gr e1 e2 N;refine d2X N L M u ?_ (fun y'=>?_) fun y'=>(l y').2.1
  ·rw[<- e1 (.func f) (by rw[M];simp[Op.operands,Call.operands,u])];rfl
  ·have:=(l y').1;rw[U y']at this;rw[<- this,<- b6m e1];exact(b6n fun k C=>e2 k C).symm
 ·intro y';have T:=(R.rgn y').kb p q;rw[(l y').2.2.2.2.2,U y']at T;exact T
 ·intro k C;refine(R.rgn y).lookG B r hb s ?_;rw[(l y).2.2.2.2.2];exact C
 ·intro y' k T h2;refine(S y').sem.free (R.rgn y') q s k (by rw[U y'];exact T) ?_;rw[(l y').2.2.2.2.1];exact h2
 ·intro x V;cases x with
  | tmp t =>
    refine H t ?_;unfold looks c4g;exact List.mem_append_left _ (List.mem_filterMap.2 ⟨.tmp t,by simpa using V,rfl⟩)
  |const v=>exact a8P v
  |global g=>exact a6a
  |func f=>exact⟨[],rfl,trivial⟩
 ·obtain⟨y',β',K',i⟩:=I;have h':=S y';have J:=R.GX q y y' B s;obtain⟨_,_,h3,h4,h5,_⟩:=l y';have hs:=(R.rgn y').step p o r;have hT':∀t,VR β K (AM.TX ops (F y') (X y') D t) (a.tmps.getD t undef):=h'.tmp;obtain⟨g1,g2,g3⟩:=a8O (Γ:=Γ) (d:=o.dst) (x:=(out y').v) (v:=v) hT' i.ble i.kle h'.nt hs.dst i.vr;refine hn y' β' K' _ _ ⟨?_,g2,g3.trans h'.defers,i.kok,?_,?_,h'.kle.trans i.kle,?_,?_,?_,fun k y C e=>i.ble _ _ (h'.ble k y C e),h'.le⟩
  ·rw[(R.rgn y').addT B r s,h3];exact g1
  ·rw[(R.rgn y').addG B r s,h4,<- J];exact i.mr
  ·intro k C;rcases i.dom k C with m|⟨m,h8⟩
   ·rcases h'.dom k m with Z|⟨j,Z,W,Y⟩
    ·exact .inl Z
    ·exact .inr ⟨j,Z,by simp[b0a,W],Y⟩
   ·exact .inr ⟨p,q,a2g,by rw[U y'];exact m,by rw[h5];exact h8⟩
  ·intro b arr e;rcases i.knew b arr e with m|m|m
   ·exact h.knew b arr m
   ·exact .inr (h.own b m)
   ·exact .inr (.inr (Nat.le_trans h.fr.size m))
  ·exact h.fr.trans i.fr (f9e h.own h.knew)
  ·intro x V;rw[(R.rgn y').addG B r s,h4,<- J]at V;rcases i.own x V with m|m
   ·exact h.own x m
   ·exact .inr (Nat.le_trans h.fr.size m)
theorem b3I.any (R:b3I Γ ops f fam p F E X) (env:a1m P Γ) (H:a2s P f fam) {V:Oper} (hp:ops[p]?=some V) (hg:V.guard=none) {c:Call} (S:V.op = .call c) (C:c.callee = .value (.func f))
 (Y:∀y β K a w,SRf P Γ z β K (F y ops.size) a w->Q .normal a w) :
 ∀(fuel:Nat) (b:Array Bool),b.size=ops.size->cnt (fun k=>b.getD k false) ops.size<=fuel->a2I ops (fun k=>b.getD k false) ->
 ∀y β K a w,DS P Γ z ops (F y) (X y) (fun k=>b.getD k false) β K a w->wpAny P .any ops Q fuel b a w:=by
 have B:∀(b:Array Bool),b.size=ops.size->Region.ready .any ops b=[]->∀i,i<ops.size->b.getD i false=true:=by
  intro b q J i
  induction i using Nat.strongRecOn with
  | _ i U =>
    intro N;cases hq:b.getD i false with
    |true=>rfl
    | false =>
      exfalso;have l:ops[i]?=some ops[i]:=Array.getElem?_eq_getElem N;have:i∈Region.ready .any ops b:=by
       rw[mem_ready];refine⟨?_,_,l,fun e M L=>?_⟩
       ·have d:i<b.size:=by omega
        simp[d]at hq ⊢;exact hq
       ·obtain⟨y0⟩:=fam.inh;have d:=(R.rgn y0).edge i _ l e M L;exact U e.on d (by omega)
      rw[J]at this;cases this
 intro fuel
 induction fuel with
 | zero =>
   intro b q Z m y β K a w h;have W:=b1M (Nat.le_zero.1 Z);refine⟨?_,Y y β K a w (h.sem.all (R.rgn y) W).unsem⟩;cases J:Region.ready .any ops b with
   |nil=>rfl
   | cons i r =>
     exfalso;have hm:i∈Region.ready .any ops b:=by rw[J];exact List.mem_cons_self ..
     obtain⟨x,o,l,_⟩:=mem_ready.1 hm;have d:i<ops.size:=(Array.getElem?_eq_some_iff.1 l).1;have A:=W i d;have g:i<b.size:=by omega
     simp[g]at x A;rw[x]at A;cases A
 | succ fuel U =>
   intro b q Z m y β K a w h;refine⟨fun J=>Y y β K a w (h.sem.all (R.rgn y) (B b q J)).unsem,fun i N=>?_⟩;obtain⟨x,o,l,A⟩:=mem_ready.1 N;have d:i<ops.size:=(Array.getElem?_eq_some_iff.1 l).1;have g:i<b.size:=by omega
   have t:(fun k=>b.getD k false) i=false:=by
    simp[g]at x ⊢;exact x
   have s:(fun k=>(b.setIfInBounds i true).getD k false)=b0a (fun k=>b.getD k false) i:=by
    funext k;by_cases O:k=i
    ·subst O;rw[a2g];simp[g]
    ·rw[a3q O];exact getD_set_ne false (Ne.symm O)
   have u:a8c (fun k=>b.getD k false) o:=fun e M L=>A e M L
   have j:∀y' β' K' v w',DS P Γ z ops (F y') (X y') (b0a (fun k=>b.getD k false) i) β' K' v w'->wpAny P .any ops Q fuel (b.setIfInBounds i true) v w':=by
    intro y' β' K' v w' h';refine U (b.setIfInBounds i true) (by simpa using q) ?_ ?_ y' β' K' v w' (by rw[s];exact h')
    ·rw[s];have:=b6q (D:=fun k=>b.getD k false) t d;omega
    ·rw[s];exact m.add l u
   by_cases I:i=p
   ·subst I;rw[hp]at l;cases l;exact R.step env H hp hg S C h m u t j
   ·exact DS.step env (R.rgn y) h.sem m l (fun T G n=>a6f (R.other i o I l) T G n) u t fun β' K' v w' h'=>j y β' K' v w' h'.unsem
theorem e2r {R:Type} (env:a1m P Γ) {N:Nat->Option Fam} (hN:∀f fam,N f=some fam->a2s P f fam) {id:Nat} {K:Ex->St->Option R} {s:St} {r:R} (h:f9o Γ N id ops K s=some r) {a:Act} {w:World} (T:SR P Γ z s a w) :
 (Code.region id ops true).wp P (a6F P Γ z K r) a w:=by
 unfold f9o at h;split at h
 ·exact b8A env (.region id ops true) (fun c' L=>by cases L) K s r h a w T
 ·rename_i p f fam l;split at h
  case h_2=>cases h
  rename_i g;obtain⟨_,op,C,v⟩:=a6L l;rw[Nat.sub_zero]at C;obtain⟨hg,J,c,j,A⟩:=b3G v;have u:=a5g h;have G:∀y:fam.ι,∃(q:(Nat->FS)×(Nat->Ent)×(Nat->Res)×St),q.1 0=s.fs /\ q.1 ops.size=q.2.2.2.fs /\ q.2.2.2.m=s.m /\ (∀i o,ops[i]?=some o->a4e (Γ.withSem f (fam.mean y)) ops o (q.1 i) (q.2.1 i) (q.2.2.1 i) (q.1 (i+1))) /\
   b2V ops (((List.range ops.size).map q.2.1).reverse++[])=true /\ K .normal q.2.2.2=some r:=by
   intro y;have U:=u y;unfold EBk at U;obtain⟨F,E,X,s',Z,fl,fm,fs,n⟩:=b1K ops.toList U;rw[Array.length_toList]at fl n;dsimp only at n;split at n
   ·rename_i hd;exact⟨(F,E,X,s'),Z,fl,fm,fun i o e=>fs i o (by rw[Array.getElem?_toList];exact e),hd,n⟩
   ·cases n
  obtain⟨q,m⟩:=Classical.axiomOfChoice G;have S:ops[p]?=some op:=by rw[<- Array.getElem?_toList];exact C
  have hlt:p<ops.size:=(Array.getElem?_eq_some_iff.1 S).1;have R:b3I Γ ops f fam p (fun y=>(q y).1) (fun y=>(q y).2.1) (fun y=>(q y).2.2.1):=by
   refine⟨fun y=>?_,fun y y'=>(m y).1.trans (m y').1.symm,fun i o Q B=>?_,fun i o Q B D hc t I=>?_⟩
   ·obtain⟨_,_,_,h4,h5,_⟩:=m y;obtain⟨V,W,Y⟩:=b3r h5;exact⟨h4,V,W,Y⟩
   ·have b:i<(c4f ops.toList []).length:=by rw[a4C];have:=(Array.getElem?_eq_some_iff.1 B).1;simpa using this
    exact(a7r g i o _ (by rw[Array.getElem?_toList];exact B) (List.getElem?_eq_getElem b) (by omega)).1
   ·have b:i<(c4f ops.toList []).length:=by rw[a4C];have:=(Array.getElem?_eq_some_iff.1 B).1;simpa using this
    have O:=List.getElem?_eq_getElem b;rcases (a7r g i o _ (by rw[Array.getElem?_toList];exact B) O (by omega)).2 with h1|h1|h1
    ·omega
    ·have:=b1L (D:=D) ops.toList [] (fun i o e hd=>hc i o (by rw[<- Array.getElem?_toList];exact e) (by simpa using hd)) (fun p x e=>by simp at e) i _ O t p h1;rw[I]at this;cases this
    ·exact h1
  obtain⟨hm,β,Ks,hf⟩:=T;obtain⟨H⟩:=fam.inh;have d:∀k,(Array.replicate ops.size false).getD k false=false:=by
   intro k;simp only[Array.getD_eq_getD_getElem?,Array.getElem?_replicate];split<;>rfl
  have M:SRf P (Γ.withSem f (fam.mean H)) z β Ks ((q H).1 0) a { w with drawn:=w.drawn+1 }:=by
   rw[(m H).1];have:=hf.still (w':={ w with drawn:=w.drawn+1 }) ⟨rfl,rfl,rfl,rfl⟩;exact⟨this.tmp,this.nt,this.defers,this.kok,this.mr,this.fresh,this.kle,this.knew,this.fr,this.own,this.ble,this.le⟩
  refine wp_region_any env.mixed (R.any (z:=z) env (hN f fam J) S hg j A (fun y β K' a w h=>⟨(q y).2.2.2,⟨(m y).2.2.1.trans hm,β,K',by rw[<- (m y).2.1];exact h⟩,(m y).2.2.2.2.2⟩) ops.size _ (by simp) ?_ ?_ H β Ks _ _ ?_)
  ·have:∀N,cnt (fun k=>(Array.replicate ops.size false).getD k false) N=N:=by
    intro N
    induction N with
    |zero=>rfl
    | succ N ih =>
      simp only[cnt];rw[if_neg (by rw[d];simp),ih];omega
   rw[this];exact le_refl _
  ·intro i o Q t;dsimp only at t;rw[d]at t;cases t
  ·exact(DS.start (R.rgn H) M d).unsem
end
structure h0r where
 ι:Type
 inh:Nonempty ι
 out:ι->Bool×St×St
structure c5g where
 m:a4V
 run:St->Option (Bool×h0r)
structure a8e where
 fam:Nat->Option Fam
 loops:Nat->Option c5g
def g6C {R:Type} (L:a4V) (K:Ex->St->Option R) (p:Bool×St×St):Option R:=match p.1 with
 |true=>K .ret p.2.2
 |false=>K (.exit L.ex) p.2.1
noncomputable def g6D {R:Type} (L:c5g) (K:Ex->St->Option R) (s:St):Option R:=
 match a8y L.m.live L.m.own s with
 |none=>none
 | some a=>match L.run a with
   |none=>none
   | some (ok,fam)=>match ok with
     |true=>a3u fun z=>g6C L.m K (fam.out z)
     |false=>none
noncomputable def EBn {R:Type} (Γ:Env) (N:a8e):Code->(Ex->St->Option R)->St->Option R
 | .seq x y,K,s=>EBn Γ N x (fun e a=>match e with
   |.normal=>EBn Γ N y K a
   |e=>K e a) s
 | .cond c x y,K,s=>match s.val c with
   | .val (.one (.bool b))=>match b with
     |true=>EBn Γ N x (a5W (a1D Γ.cut (b2X c)) K) (s.putC c true)
     |false=>EBn Γ N y (a5W (a1D Γ.cut (b2X c)) K) (s.putC c false)
   |_=>none
 |.block id x,K,s=>EBn Γ N x (a7I id (a1D Γ.past id) K) s
 | .loop c,K,s=>match N.loops (a0O c)with
   |some L=>g6D L K s
   |none=>EBk Γ (.loop c) K s
 | .region id ops d,K,s=>match d with
   |false=>d1U Γ N.fam ops ops.toList (fun a=>K .normal a) s
   |true=>f9o Γ N.fam id ops K s
 |.skip,K,s=>K .normal s
 |.label _,K,s=>K .normal s
 |.exit id,K,s=>K (.exit id) s
 |.ret,K,s=>EBk Γ .ret K s
 |_,_,_=>none
noncomputable def c2y {R:Type} (Γ:Env) (N:a8e) (c:Code) (L:a4V) (K:Ex->St->Option R):Nat->St->Option R
 |0,_=>none
 |k+1,s=>EBn Γ N c (a3M L.live L.own L.ex L.past L.pown (c2y Γ N c L K k) K) s
def c2z (Γ:Env) (N:a8e) (c:Code) (L:c5g):Prop:=
 ∀a fam,L.run a=some (true,fam)->∀(R:Type) (K:Ex->St->Option R) (r:R),(∀z,g6C L.m K (fam.out z)=some r)->∃n,c2y Γ N c L.m K n a=some r
def a3f (Γ:Env) (N:a8e) (c:Code):Prop:=∀c'∈a2e c,∀L,N.loops (a0O c')=some L->c2z Γ N c' L
def NOK (P:Program) (N:a8e):Prop:=∀f fam,N.fam f=some fam->a2s P f fam
noncomputable def a5G {R:Type} (Γ:Env) (N:a8e) (c:Code) (f:List W×List (Option Blk)->Option R) (args:List W) (ins:List Blk):Option R:=
 match Nat.ble args.length Γ.nt with
 | true=>EBn Γ N c (fun e s=>match e with
   |.exit _=>none
   | _=>match fin Γ s with
     |some r=>f r
     |none=>none) (a7X args ins)
 |false=>none
section
variable {P:Program} {Γ:Env} {z:a5E}
theorem d2Y {R:Type} {N:a8e} {c:Code} {L:a4V} {K:Ex->St->Option R} {r:R}
 (B:∀(K:Ex->St->Option R) s r,EBn Γ N c K s=some r->∀a w,SR P Γ z s a w->c.wp P (a6F P Γ z K r) a w) (n:Nat) {s:St} (h:c2y Γ N c L K n s=some r) {a:Act} {w:World} (u:SR P Γ z s a w) :
 (Code.loop c).wp P (a6F P Γ z K r) a w:=by
 classical
 let J:Act->World->Nat->Prop:=fun a w k=>∃s,SR P Γ z s a w /\ c2y Γ N c L K k s=some r
 let I:Act->World->Prop:=fun a w=>∃k,J a w k
 have d:∀a w,I a w->∃k,J a w k /\ ∀j,j<k->¬J a w j:=fun a w ⟨k,f⟩=>e8l k f
 let l:Act->World->Nat:=fun a w=>if h:I a w then(d a w h).choose else 0
 have p:∀a w,I a w->J a w (l a w) /\ ∀j,j<l a w->¬J a w j:=by
  intro a w m;have:l a w=(d a w m).choose:=dif_pos m;rw[this];exact(d a w m).choose_spec
 refine wp_loop I l ⟨n,s,u,h⟩ fun a w m=>?_
 obtain⟨⟨s,u,f⟩,_⟩:=p a w m;cases hn:l a w with
 |zero=>rw[hn]at f;simp[c2y]at f
 | succ k =>
   rw[hn]at f;simp only[c2y]at f;refine wp_mono (B _ s r f a w u) fun e g w' q=>?_
   cases e with
   | normal =>
     obtain⟨C,v,b⟩:=q;unfold a3M at b;dsimp only at b;split at b
     ·rename_i x t;have y:J g w' k:=⟨x,a4D v t,b⟩;have o:I g w':=⟨k,y⟩;refine⟨o,?_⟩;have A:=(p g w' o).2 k;rcases Nat.lt_or_ge k (l g w')with h3|h3
      ·exact absurd y (A h3)
      ·omega
     ·cases b
   |exit i=>exact b1P (ex:=L.ex) (past:=L.past) (pown:=L.pown) (.exit i) g w' q
   |ret=>exact b1P (ex:=L.ex) (past:=L.past) (pown:=L.pown) .ret g w' q
   |_=>exact q
theorem e8v {R:Type} (env:a1m P Γ) {N:a8e} (F:NOK P N):∀(c:Code),a7i Γ c->a3f Γ N c->∀(K:Ex->St->Option R) (s:St) (r:R),EBn Γ N c K s=some r->∀a w,SR P Γ z s a w->c.wp P (a6F P Γ z K r) a w:=by
 intro c
 induction c with
 |skip=>exact fun _ _ K s r h a w g=>wp_skip ⟨s,g,h⟩
 |label l=>exact fun _ _ K s r h a w g=>wp_label ⟨s,g,h⟩
 |exit id=>exact fun _ _ K s r h a w g=>wp_exit ⟨s,g,h⟩
 |ret=>exact fun j _ K s r h a w g=>b8A env .ret j K s r h a w g
 | seq x y o p =>
   intro j k K s r h a w g;unfold EBn at h;refine wp_seq (wp_mono (o (fun c' f=>j c' (List.mem_append_left _ f)) (fun c' f=>k c' (List.mem_append_left _ f)) _ s r h a w g) fun e J w' v=>?_);cases e with
   | normal =>
     obtain⟨u,D,S⟩:=v;exact p (fun c' f=>j c' (List.mem_append_right _ f)) (fun c' f=>k c' (List.mem_append_right _ f)) K u r S J w' D
   |exit i=>exact v
   |ret=>exact v
   |_=>exact v
 | cond c x y o p =>
   intro j k K s r h a w g;unfold EBn at h;split at h
   ·rename_i b G;obtain⟨H,β,Ks,C⟩:=g;have I:=a8Q C.tmp c;rw[<- b8z,G]at I;have B:a.eval c = .bool b:=I;have m:∀b',b=b'->SR P Γ z (s.putC c b') a w:=by
     intro b' e;subst e;cases c with
     | tmp t =>
       have:=a5r s t (a2p b) G;exact⟨H,β,Ks,by rw[show(s.putC (.tmp t) b).fs=(s.put t (a2p b)).fs from rfl,this];exact C⟩
     |_=>exact⟨H,β,Ks,C⟩
    refine wp_cond B ?_;cases b with
    |true=>exact wp_mono (o (fun c' f=>j c' (List.mem_append_left _ f)) (fun c' f=>k c' (List.mem_append_left _ f)) _ _ r h a w (m true rfl)) a5u
    |false=>exact wp_mono (p (fun c' f=>j c' (List.mem_append_right _ f)) (fun c' f=>k c' (List.mem_append_right _ f)) _ _ r h a w (m false rfl)) a5u
   ·cases h
 | block id x E =>
   intro j k K s r h a w g;unfold EBn at h;exact wp_block (wp_mono (E j k _ s r h a w g) b3v)
 | loop x E =>
   intro j k K s r h a w g;unfold EBn at h;split at h
   ·rename_i L T;unfold g6D at h;split at h
    ·cases h
    ·rename_i V A;split at h
     ·cases h
     ·rename_i ok fam q;split at h
      case h_2=>cases h
      obtain⟨n,U⟩:=k x (List.mem_cons_self ..) L T V fam q R K r (a5g h);exact d2Y (L:=L.m) (E (fun c' f=>j c' (List.mem_cons_of_mem _ f)) (fun c' f=>k c' (List.mem_cons_of_mem _ f))) n U (a4D g A)
   ·exact b8A env (.loop x) j K s r h a w g
 | region id ops d =>
   intro j k K s r h a w g;cases d with
   | false =>
     unfold EBn at h;refine wp_region ?_;rw[List.range_eq_range'];have:=c5b env F (ops:=ops) (Q:=a6F P Γ z K r) (r:=r) (K:=fun u=>K .normal u) (fun u a w M O=>⟨u,M,O⟩) ops.toList 0 rfl (by simp) s h a w g;rw[Array.length_toList]at this;exact this
   | true =>
     unfold EBn at h;exact e2r env F h g
 |_=>intro _ _ K s r h;simp[EBn]at h
theorem a5y {R:Type} (env:a1m P Γ) {N:a8e} (hN:NOK P N) {f:Nat} {c:Code} (hf:a5P P f Γ c) (Q:a3f Γ N c) {g:List W×List (Option Blk)->Option R} {args:List W} {ins:List Blk} {r:R} (h:a5G Γ N c g args ins=some r)
 {β0:Bt} {K0:Ks} {w0:World} {vs:Array Value} (l:KOK K0 w0) (hm:MR β0 K0 (a2b ins) w0) (C:∀k,ins.length<=k->β0 k=none) (hv:All2 (WR β0 K0) args vs.toList) :
 Calls P f vs w0 fun e w'=>∃v β K rs outs,e = .returned v /\ g (rs,outs)=some r /\ Ret ins outs rs β0 K0 w0 v w' β K:=by
 obtain⟨fn,T,q,J,Y,_⟩:=hf.is;unfold a5G at h;split at h
 case h_2=>cases h
 rename_i F;have F:args.length<=Γ.nt:=by simpa using F
 have hlen:args.length=vs.size:=by simpa using hv.length
 refine calls_of_wp T q ?_;rw[Y]
 let z:a5E:=⟨β0,K0,w0,ins.length,Own β0 (a2b ins)⟩
 have h0:SR P Γ z (a7X args ins) { tmps:=vs++Array.replicate (Γ.nt-vs.size) undef,defers:=[] } w0:=by
  refine⟨rfl,β0,K0,⟨fun t=>?_,by simp;omega,rfl,l,?_,C,KLe.refl _,fun b arr e => .inl e,Fr.refl _ _,?_,fun k y _ e=>e,le_refl _⟩⟩
  ·have L:=(a5v (i:=0) hv t).1;rw[Nat.zero_add]at L;have M:(vs++Array.replicate (Γ.nt-vs.size) undef).getD t undef=vs.toList.getD t undef:=by
    simp only[Array.getD_eq_getD_getElem?,List.getD_eq_getElem?_getD,Array.getElem?_toList];rw[Array.getElem?_append];split
    ·rfl
    ·rename_i n;rw[Array.getElem?_replicate,Array.getElem?_eq_none (xs:=vs) (by omega)];split<;>rfl
   show VR β0 K0 ((a7X args ins).tmpV t) ((vs++Array.replicate (Γ.nt-vs.size) undef).getD t undef);rw[M];exact L
  ·show MR β0 K0 (a7X args ins).get w0;rw[a6G];exact hm
  ·intro x B;left;have:(a7X args ins).fs.G=a2b ins:=a6G args ins;rw[this]at B;exact B
 refine wp_mono (e8v env hN c hf.loops Q _ _ r h _ _ h0) fun e a w O=>?_
 have p:∀s,SR P Γ z s a w->(match fin Γ s with|some r=>g r|none=>none)=some r->a.defers=[] /\ ∃v,(results fn a.tmps).run P w = .ok v w /\ ∃v' β K rs outs,Ending.returned v = .returned v' /\ g (rs,outs)=some r /\ Ret ins outs rs β0 K0 w0 v' w β K:=by
  intro s j m;split at m
  case h_2=>cases m
  rename_i ro d;obtain⟨rs,outs⟩:=ro;obtain⟨G,β,K,j⟩:=j;unfold fin at d;split at d
  ·cases d
  ·rename_i ws hws;obtain⟨v,Z,hr2⟩:=d6z env J j hws;dsimp only at d;generalize E:a2E s.get a1P (a9T s.m++ws.flatMap a0R) (a9T 0)=ks at d;have H:(a3W ks s.m).Nodup:=by
    rw[a4f,<- E];exact List.Pairwise.filter _ (a2t _ _ _ _ (by simp[a9T]))
   have D:∀k∈a3W ks s.m,s.m<=k:=by
    intro k l;rw[a4f,List.mem_filter]at l;simpa using l.2
   generalize a3W ks s.m=rest at d H D;split at d
   ·rename_i ws' outs' L M;cases d;have hlo:outs.length=s.m+rest.length:=by rw[a2r M,List.length_append,a3r]
    have o:∀k' b',a2o outs k'=some b'->∃k b,a2Y rest s.m k=some k' /\ s.get k=some b /\ b2S (a2Y rest s.m) b=some b':=by
     intro k' b' e;unfold a2o at e;cases hq:outs[k']? with
     |none=>rw[hq]at e;cases e
     | some x =>
       rw[hq]at e;have B:x=some b':=e;subst B;obtain⟨k,l,I⟩:=(All2.ofMap M).get?' hq;have X:a2Y rest s.m k=some k':=by
        rw[List.getElem?_append,a3r]at l;unfold a2Y;split at l
        ·rename_i n;rw[b1Q,if_pos n]at l;have U:k'=k:=Option.some.inj l;rw[<- U,show Nat.blt k' s.m=true by simpa[Nat.blt_eq]using n]
        ·rename_i n;have A:=D k (List.mem_of_getElem? l);rw[show Nat.blt k s.m=false from Bool.eq_false_iff.2 fun e=>by rw[Nat.blt_eq]at e;omega];dsimp only;rw[a8V H l];congr 1;omega
       cases hg0:s.get k with
       |none=>rw[hg0]at I;simp[a5U]at I
       | some b0 =>
         rw[hg0]at I;simp only[a5U,Option.map_eq_some_iff,injEq]at I;obtain⟨b1,h4,h5⟩:=I;exact⟨k,b0,X,hg0,by rw[h4,h5]⟩
    refine⟨j.defers,v,Z,v,a8W β rest s.m,K,rs,outs,rfl,m,⟨j.kle,j.kok,j.knew,j.mr.ren a3b o,fun k l=>b1O (by omega),?_,j.fr,fun x B=>j.own x (B.ren j.mr a3b o),?_,?_⟩⟩
    ·have A:VR (a8W β rest s.m) K (d2m rs) v:=a8o L hr2 fun c c' u _ S hu=>a7n a3b S hu
     exact A
    ·intro k y e;have V:k<ins.length:=by
      rcases Nat.lt_or_ge k ins.length with A|A
      ·exact A
      ·rw[C k A]at e;cases e
     have hzm:s.m=ins.length:=G;rw[b1N (by omega)];exact j.ble k y V e
    ·have hzm:s.m=ins.length:=G;omega
   ·cases d
 cases e with
 |normal=>obtain⟨s,j,m⟩:=O;exact p s j m
 |ret=>obtain⟨s,j,m⟩:=O;exact p s j m
 |exit i=>obtain⟨s,j,m⟩:=O;cases m
 |_=>exact O.elim
end
section
variable {Γ:Env} {N:a8e}
instance:Nonempty a9b:=⟨⟨0,by decide⟩⟩
def c5h.{u} {α:Type u}:List (Nat×α)->Nat->Option α
 |[],_=>none
 | (k,x)::r,t=>match beq k t with
   |true=>some x
   |false=>c5h r t
theorem b3J.{u} {α:Type u}:∀{l:List (Nat×α)} {t:Nat} {x:α},c5h l t=some x->(t,x)∈l
 | (k,y)::r,t,x,h=>by
   simp only[c5h]at h;split at h
   ·rename_i e;cases h;rw[a0g e];exact List.mem_cons_self ..
   ·exact List.mem_cons_of_mem _ (b3J h)
def mkN (a:List (Nat×Fam)) (loops:List (Nat×c5g)):a8e:=⟨c5h a,c5h loops⟩
def f5X.{u} {α:Type u} (R:α->Prop):List α->Prop
 |[]=>True
 |x::r=>R x /\ f5X R r
theorem f5X.mem.{u} {α:Type u} {R:α->Prop}:∀{l:List α},f5X R l->∀x∈l,R x
 | y::r,h,x,a=>by
   rcases List.mem_cons.1 a with rfl|a
   ·exact h.1
   ·exact h.2.mem x a
theorem a2K {P:Program} {a:List (Nat×Fam)} {loops:List (Nat×c5g)} (h:f5X (fun x=>a2s P x.1 x.2) a):NOK P (mkN a loops):=fun f fam e=>h.mem (f,fam) (b3J e)
theorem a1p {Γ:Env} {a:List (Nat×Fam)} {c:Code}:a3f Γ (mkN a []) c:=fun c' b L h=>by cases h
def f5Y (O:Sg) {R:Type} (h:O.den->Option R) (p:List W×List (Option Blk)):Option R:=match c2v O p with
 |some y=>h y
 |none=>none
def a5H (R:Ty) {T:Type} (h:Den R->Option T) (p:List W×List (Option Blk)):Option T:=match d2J R p with
 |some y=>h y
 |none=>none
noncomputable def a3v (Γ:Env) (N:a8e) (c:Code) (I O:Sg) (h:O.den->Option Unit) (x:I.den):Option Unit:=match b3C (a3T I.bs x.2)with
 |some ins=>a5G Γ N c (f5Y O h) (a3d I.ws x.1) ins
 |none=>none
abbrev Ch (I O:Sg) (ok:I.den->Bool) (Q:I.den->O.den->Prop):Type:={ g:I.den->O.den // ∀x,ok x=true->Q x (g x) }
def a3w (own:Bool) (I O:Sg) (ok:I.den->Bool) (Q:I.den->O.den->Prop) (a:Nonempty (Ch I O ok Q)):Fam:=⟨Ch I O ok Q,a,fun g=>a0H own I O ok g.1,own⟩
end
section
variable {P:Program} {Γ:Env} {N:a8e}
theorem b3K (env:a1m P Γ) (hN:NOK P N) {f:Nat} {c:Code} (Y:a5P P f Γ c) (D:a3f Γ N c) {own:Bool} {I O:Sg} {ok:I.den->Bool} {Q:I.den->O.den->Prop} {u:Nonempty (Ch I O ok Q)}
 (h:∀x,ok x=true->∀k:O.den->Option Unit,(∀y,Q x y->k y=some ())->a3v Γ N c I O k x=some ()):a2s P f (a3w own I O ok Q u):=by
 classical
 refine⟨fun _=>rfl,?_⟩;intro args ins q β0 K0 w0 vs B hm F hv;obtain⟨C⟩:=u;obtain⟨rs0,S,a⟩:=q C;simp only[a3w,a0H,c2v]at a;split at a
 case h_2=>cases a
 rename_i x m;split at m
 case h_2=>cases m
 rename_i T z;split at m
 case h_2=>cases m
 rename_i U A;cases m;split at a
 case h_2=>cases a
 rename_i p d;simp only[injEq,Prod.mk.injEq]at a;obtain⟨w,_,_⟩:=a;obtain⟨H,l⟩:=a3e A;obtain⟨J,G⟩:=a5f d;rw[a6H]at l;rw[<- G]at l;have Z:p.length=ins.length:=by rw[J,H];simp
 have X:=h (T,U) w (fun y=>if Q (T,U) y then some ()else none) (fun y o=>if_pos o);simp only[a3v,d]at X;refine .inl ⟨Y.ok,(a5y env hN Y D X B (hm.lax l) (fun k B=>F k (by omega)) (a5x z hv)).mono ?_⟩;rintro e w' ⟨v,β,K,rs',r,rfl,s,g⟩;simp only[f5Y]at s;split at s
 case h_2=>cases s
 rename_i y o;split at s
 case isFalse=>cases s
 rename_i hQ;simp only[c2v]at o;split at o
 case h_2=>cases o
 rename_i V M;split at o
 case h_2=>cases o
 rename_i W R;cases o;obtain⟨L,t⟩:=a3e R;have n:(a3T O.bs (V,W).2).length=r.length:=L;have i:∀b,Own β0 (a2b p) b->Own β0 (a2b ins) b:=fun b E=>E.lax l
 refine⟨⟨fun x=>if x=(T,U)then(V,W)else C.1 x,fun x m=>?_⟩,a3d O.ws V,a3T O.bs W,v,β,K,?_,rfl,⟨g.kle,g.kok,fun b arr e=>?_,g.mr.lax t,fun k B=>g.fresh k (by simp only at B n;omega),a6I M g.out,⟨g.fr.os,g.fr.tape,g.fr.output,g.fr.size,fun b E hn=>g.fr.block b E fun hc=>hn (hc.imp (i b) id)⟩,fun x m=>?_,g.ble,?_⟩⟩
 ·dsimp only;split
  ·rename_i e;rw[e];exact hQ
  ·exact C.2 x m
 ·simp only[a3w,a0H,c2v,z,A,d,w,if_pos]
 ·rcases g.knew b arr e with j|j|j
  ·exact .inl j
  ·exact .inr (.inl (i b j))
  ·exact .inr (.inr j)
 ·rcases g.own x (m.lax t)with j|j
  ·exact .inl (i x j)
  ·exact .inr j
 ·have:=g.le;simp only at n ⊢;omega
theorem c5i (env:a1m P Γ) (U:NOK P N) {f:Nat} {c:Code} (Q:a5P P f Γ c) (w:a3f Γ N c) {own:Bool} {I O:Sg} {ok:I.den->Bool} {g:I.den->O.den}
 (h:∀x,ok x=true->∀k:O.den->Option Unit,k (g x)=some ()->a3v Γ N c I O k x=some ()):a0d P (f,a0H own I O ok g):=by
 classical
 refine⟨?_,Q.ok⟩;intro args ins rs outs a β0 K0 w0 vs u X A Z;simp only[a0H,c2v]at a;split at a
 case h_2=>cases a
 rename_i x p;split at p
 case h_2=>cases p
 rename_i S G;split at p
 case h_2=>cases p
 rename_i T H;cases p;split at a
 case h_2=>cases a
 rename_i o i;simp only[injEq,Prod.mk.injEq]at a;obtain⟨F,rfl,rfl⟩:=a;obtain⟨C,m⟩:=a3e H;obtain⟨D,B⟩:=a5f i;rw[a6H]at m;rw[<- B]at m;have R:o.length=ins.length:=by rw[D,C];simp
 have M:=h (S,T) F (fun y=>if y=g (S,T)then some ()else none) (if_pos rfl);simp only[a3v,i]at M;refine(a5y env U Q w M u (X.lax m) (fun k u=>A k (by omega)) (a5x G Z)).mono ?_;rintro e w' ⟨v,β,K,rs',q,rfl,s,d⟩;simp only[f5Y]at s;split at s
 case h_2=>cases s
 rename_i y r;split at s
 case isFalse=>cases s
 rename_i V;simp only[c2v]at r;split at r
 case h_2=>cases r
 rename_i y1 J;split at r
 case h_2=>cases r
 rename_i y2 L;cases r;obtain⟨E,t⟩:=a3e L;have n:(a3T O.bs (y1,y2).2).length=q.length:=E;have j:∀b,Own β0 (a2b o) b->Own β0 (a2b ins) b:=fun b z=>z.lax m
 rw[<- V];refine⟨v,β,K,rfl,⟨d.kle,d.kok,fun b arr e=>?_,d.mr.lax t,fun k u=>d.fresh k (by simp only at u n;omega),a6I J d.out,⟨d.fr.os,d.fr.tape,d.fr.output,d.fr.size,fun b z Y=>d.fr.block b z fun W=>Y (W.imp (j b) id)⟩,fun x p=>?_,d.ble,?_⟩⟩
 ·rcases d.knew b arr e with l|l|l
  ·exact .inl l
  ·exact .inr (.inl (j b l))
  ·exact .inr (.inr l)
 ·rcases d.own x (p.lax t)with l|l
  ·exact .inl (j x l)
  ·exact .inr l
 ·have:=d.le;simp only at n ⊢;omega
theorem e2s (env:a1m P Γ) (q:NOK P N) {f:Nat} {c:Code} (r:a5P P f Γ c) (j:a3f Γ N c) {args:List W} {k:Den (.cons .bool .nil)->Option Unit} (m:∀y,k y=some ()->y=(true,())) (h:a5G Γ N c (a5H (.cons .bool .nil) k) args []=some ()) {w:World} {vs:Array Value} (l:GK (b1T w))
 (t:All2 (WR (fun _=>none) (b1T w)) args vs.toList):Calls P f vs w fun e w'=>e = .returned (.bool true) /\ Below w.heap.size w w':=by
 have s:MR (fun _=>none) (b1T w) (a2b []) w:=⟨fun k b e=>by simp[a2b]at e,fun k k' b b' _ _ _ e=>by simp[a2b]at e,fun k b _ _ e=>by simp[a2b]at e⟩;refine(a5y env q r j h (e2d w l) s (fun _ _=>rfl) t).mono ?_;rintro e w' ⟨v,β,K,rs,o,rfl,i,a⟩;have n:∀x,¬Own (fun _=>none) (a2b []) x:=by rintro x ⟨k,b,y,e,_⟩;simp[a2b]at e
 unfold a5H at i;split at i
 ·rename_i y g;have:=m y i;subst this;unfold d2J at g;dsimp only at g;split at g
  ·have d:v = .bool true:=a8p g a.out;exact⟨by rw[d],a.fr.os,a.fr.tape,a.fr.output,a.fr.size,fun k m=>a.fr.block k m fun p=>p.elim (n k) (e2c w k)⟩
  ·cases g
 ·cases i
end
section
variable {P:Program} {Γ:Env} {N:a8e}
structure b6z (P:Program) (f:Nat) (e:Array Value->Sem Value):Prop where
 is:∃fn,P.funcs[f]?=some fn /\ (fn.name == "runtime.NumGoroutine")=false /\ fn.body.isNone=true /\ Extern.findNext fn=none /\ Extern.find fn=some e
theorem b6z.run {f:Nat} {e:Array Value->Sem Value} (h:b6z P f e) {vs:Array Value} {w w':World} {v:Value} (hr:(e vs).run P w = .ok v w'):(callFunc f vs).run P w = .ok (.value v) w':=by
 obtain⟨fn,h1,h2,h3,h4,h5⟩:=h.is
 have h2':¬fn.name = "runtime.NumGoroutine" := by simpa using h2
 have h3':fn.body=none:=by simpa using h3
 simp[callFunc,h1,h2',h3',h4,h5,hr]
def a5S (A R:Ty) (ι:Type) (inh:Nonempty ι) (g:ι->Den A->Den R):Fam:=⟨ι,inh,fun z=>a0b A R (fun _=>true) (g z),false⟩
theorem d6E {f:Nat} {e:Array Value->Sem Value} (o:b6z P f e) {A R:Ty} {ι:Type} {inh:Nonempty ι} {g:ι->Den A->Den R}
 (h:∀(x:Den A) (vs:Array Value) (β:Bt) (K:Ks) (w:World),All2 (WR β K) (a5Q A x) vs.toList->∃v w' z,(e vs).run P w = .ok v w' /\ a0t w w' /\ a7j β K (a5Q R (g z x)) v):a2s P f (a5S A R ι inh g):=by
 refine⟨fun _=>rfl,?_⟩;intro args ins c β0 K0 w0 vs p t i q;obtain⟨s⟩:=inh;obtain⟨r,j,a⟩:=c s;cases ins with
 |cons _ _=>simp[a5S,a0b]at a
 | nil =>
   simp only[a5S,a0b]at a;split at a
   ·rename_i x d;obtain⟨v,w',z,m,l,n⟩:=h x vs β0 K0 w0 (a6c d q);refine .inr ⟨v,w',o.run m,z,a5Q R (g z x),[],v,β0,K0,?_,rfl,?_⟩
    ·simp only[a5S,a0b,d]
    ·exact⟨KLe.refl _,p.still l,fun _ _ e => .inl e,⟨fun k b e=>by simp[a2o]at e,fun k k' b b' _ _ _ e=>by simp[a2o]at e,fun k b _ _ e=>by simp[a2o]at e⟩,fun k _=>i k (zero_le _),n,Fr.still l,fun x d=>by
      obtain⟨k,b,y,e,_⟩:=d;simp[a2o]at e,BLe.refl _,le_refl _⟩
   ·cases a
abbrev ChT (A R:Ty) (ok:Den A->Bool) (Q:Den A->Den R->Prop):Type:={ g:Den A->Den R // ∀x,ok x=true->Q x (g x) }
def c2A (A R:Ty) (ok:Den A->Bool) (Q:Den A->Den R->Prop) (a:Nonempty (ChT A R ok Q)):Fam:=⟨ChT A R ok Q,a,fun g=>a0b A R ok g.1,false⟩
theorem e8w (env:a1m P Γ) (t:NOK P N) {f:Nat} {c:Code} (r:a5P P f Γ c) (m:a3f Γ N c) {A R:Ty} {ok:Den A->Bool} {Q:Den A->Den R->Prop} {i:Nonempty (ChT A R ok Q)}
 (h:∀x,ok x=true->∀k:Den R->Option Unit,(∀y,Q x y->k y=some ())->a5G Γ N c (a5H R k) (a5Q A x) []=some ()):a2s P f (c2A A R ok Q i):=by
 classical
 refine⟨fun _=>rfl,?_⟩;intro args ins b β0 K0 w0 vs z B n E;obtain⟨l⟩:=i;obtain⟨G,p,a⟩:=b l;cases ins with
 |cons _ _=>simp[c2A,a0b]at a
 | nil =>
   simp only[c2A,a0b]at a;split at a
   ·rename_i x s;simp only[injEq,Prod.mk.injEq]at a;obtain⟨j,_,_⟩:=a;have w:=h x j (fun y=>if Q x y then some ()else none) (fun y d=>if_pos d);refine .inl ⟨r.ok,(a5y env t r m w z B n (a6c s E)).mono ?_⟩;rintro e w' ⟨v,β,K,F,o,rfl,g,q⟩;unfold a5H at g;split at g
    case h_2=>cases g
    rename_i y d;dsimp only at g;split at g
    case isFalse=>cases g
    rename_i C;unfold d2J at d;dsimp only at d;split at d
    ·refine⟨⟨fun u=>if u=x then y else l.1 u,fun u D=>?_⟩,a5Q R y,[],v,β,K,?_,rfl,{ q with out:=a8p d q.out }⟩
     ·dsimp only;split
      ·rename_i e;rw[e];exact C
      ·exact l.2 u D
     ·simp only[c2A,a0b,s,j,if_pos]
    ·cases d
   ·cases a
theorem a6g (env:a1m P Γ) (p:NOK P N) {f:Nat} {c:Code} (o:a5P P f Γ c) (i:a3f Γ N c) {A R:Ty} {ok:Den A->Bool} {g:Den A->Den R} {Q:Den A->Den R->Prop}
 (q:∀x y,Q x y->∀β K v,a7j β K (a5Q R y) v->a7j β K (a5Q R (g x)) v)
 (h:∀x,ok x=true->∀k:Den R->Option Unit,(∀y,Q x y->k y=some ())->a5G Γ N c (a5H R k) (a5Q A x) []=some ()):a0d P (f,a0b A R ok g):=by
 classical
 refine⟨?_,o.ok⟩;intro args ins rs outs a β0 K0 w0 vs s t j w;cases ins with
 |cons _ _=>simp[a0b]at a
 | nil =>
   simp only[a0b]at a;split at a
   ·rename_i x z;simp only[injEq,Prod.mk.injEq]at a;obtain⟨l,rfl,rfl⟩:=a;have r:=h x l (fun y=>if Q x y then some ()else none) (fun y b=>if_pos b);refine(a5y env p o i r s t j (a6c z w)).mono ?_;rintro e w' ⟨v,β,K,B,m,rfl,d,n⟩;unfold a5H at d;split at d
    case h_2=>cases d
    rename_i y b;dsimp only at d;split at d
    case isFalse=>cases d
    rename_i u;unfold d2J at b;dsimp only at b;split at b
    ·exact⟨v,β,K,rfl,{ n with out:=q x y u β K v (a8p b n.out) }⟩
    ·cases b
   ·cases a
end
theorem b8J {P:Program} {f:Nat} (g:b6z P f Extern.MathFloatBits.float64bits) {inh:Nonempty { z:Nat // a1y .f64 z=true }} :
 a2s P f (a5S (.cons (.flt .f64) .nil) (.cons (.int .u64) .nil) { z:Nat // a1y .f64 z=true } inh (fun z x=>((((bif a1y .f64 x.1 then z.1 else x.1:Nat):Int)),()))):=by
 refine d6E g fun x vs β K w d=>?_
 obtain⟨b,_⟩:=x;obtain⟨h⟩:=inh;rcases vs with⟨l⟩
 cases l with
 |nil=>exact d.elim
 | cons v r =>
   cases r with
   |cons _ _=>exact d.2.elim
   | nil =>
     obtain⟨b',rfl,a⟩:=d.1;have a:FEq .f64 b b':=a;by_cases c:a1y .f64 b=true
     ·refine⟨.int .u64 b',w,⟨b',FEq.nan_left a c⟩,rfl,a0t.refl w,?_⟩;show Value.int .u64 b' = .int .u64 _;rw[c];rfl
     ·rcases a with rfl|⟨e,_⟩
      ·refine⟨.int .u64 b,w,h,rfl,a0t.refl w,?_⟩;show Value.int .u64 b = .int .u64 _;rw[Bool.eq_false_iff.2 c];rfl
      ·exact absurd e c
theorem a7M {P:Program} {f:Nat} (c:b6z P f Extern.MathFloatBits.float64frombits) :
 a2s P f (a5S (.cons (.int .u64) .nil) (.cons (.flt .f64) .nil) Unit ⟨()⟩ (fun _ x=>((x.1:Int).toNat,()))):=by
 refine d6E c fun x vs β K w a=>?_
 obtain⟨n,_⟩:=x;rcases vs with⟨l⟩
 cases l with
 |nil=>exact a.elim
 | cons v r =>
   cases r with
   |cons _ _=>exact a.2.elim
   | nil =>
     have b:v = .int .u64 n:=a.1;subst b;exact⟨.float .f64 (n:Int).toNat,w,(),rfl,a0t.refl w,⟨_,rfl,.inl rfl⟩⟩
@[reducible] def unJ:Ty->Ty
 |.jnk => .flt .f32
 |.slice t => .slice (unJ t)
 |.cons a b => .cons (unJ a) (unJ b)
 |.bool => .bool
 |.int k => .int k
 |.flt k => .flt k
 |.cpx k => .cpx k
 |.str => .str
 |.nil => .nil
def shp:(t:Ty)->Den (unJ t)->Den t
 |.jnk,_=>()
 |.slice t,l=>List.map (shp t) l
 |.cons a b,p=>(shp a p.1,shp b p.2)
 |.bool,x=>x
 |.int _,x=>x
 |.flt _,x=>x
 |.cpx _,x=>x
 |.str,x=>x
 |.nil,x=>x
theorem d2Z:∀t,(unJ t).size=t.size:=by
 intro t
 induction t with
 |cons a b c d=>simp[Ty.size,c,d]
 |_=>rfl
theorem e2t (t:Ty):(unJ t).isJ=false:=by cases t<;>rfl
def noJ:Ty->Bool
 |.jnk=>false
 |.slice t=>noJ t
 |.cons a b=>noJ a&&noJ b
 |_=>true
theorem a7s {t:Ty} (h:noJ t=true):t.isJ=false:=by
 cases t with
 |jnk=>simp[noJ]at h
 |_=>rfl
def a6M (K K':Ks):Prop:=∀x arr,K x=some (false,arr)->K' x=some (false,arr)
theorem DR.clean {K K':Ks} (h:a6M K K'):∀(t:Ty) {x:Den t} {vs:List Value},noJ t=true->DR K t x vs->DR K' t x vs:=by
 intro t
 induction t with
 | slice t r =>
   rintro x vs d ⟨a,n,c,e,p,l,q⟩;have d:noJ t=true:=d;refine⟨a,n,c,e,p,l,q.imp id ?_⟩;rintro⟨b,o,arr,ha,hb,hi⟩;rw[a7s d]at hb;exact⟨b,o,arr,ha,by rw[a7s d];exact h _ _ hb,fun i m=>r d (hi i m)⟩
 | cons a b f g =>
   rintro x vs d ⟨s,u,e,j,k⟩;simp only[noJ,and_eq_true]at d;exact⟨s,u,e,f d.1 j,g d.2 k⟩
 |jnk=>intro x vs d;simp[noJ]at d
 |_=>exact fun _ h=>h
theorem e2u {α b:Type} {R:α->b->Nat->Prop} (x:List b) (h:∀i (d:i<x.length),∃y,R y x[i] i):∃l:List α,l.length=x.length /\ ∀i (c:i<l.length) (a:i<x.length),R l[i] x[i] i:=by
 refine⟨List.ofFn fun i:Fin x.length=>(h i.1 i.2).choose,by simp,fun i c a=>?_⟩;rw[List.getElem_ofFn];exact(h i a).choose_spec
theorem DR.told {K g:Ks} {w:World} (P:KOK K w) (h:∀x z,K x=some z->∃cur T fz,g x=some (false,cur) /\ w.heap[x]?=some (.cells cur T fz)) :
 ∀(t:Ty) {x:Den t} {vs:List Value},DR K t x vs->∃C:Den (unJ t),shp t C=x /\ DR g (unJ t) C vs:=by
 intro t
 induction t with
 | slice t W =>
   rintro x vs ⟨a,n,c,rfl,B,A,Q⟩;rcases Q with L|⟨b,o,arr,M,v,O⟩
   ·have V:x=[]:=List.eq_nil_of_length_eq_zero (by omega);subst V;exact⟨([]:List (Den (unJ t))),rfl,a,n,c,rfl,B,A,.inl L⟩
   ·obtain⟨cur,T,fz,hh,U,S⟩:=P.see v;obtain⟨s,Z,J,N,d⟩:=h b _ v;rw[hh]at d;cases d;obtain⟨l,p,u⟩:=e2u (R:=fun(y:Den (unJ t)) (z:Den t) i=>shp t y=z /\ DR g (unJ t) y (sub cur.toList (o+i*t.size) t.size)) x fun i m=>W (S _ _ (O i m))
    refine⟨l,?_,a,n,c,rfl,by rw[p];exact B,A,.inr ⟨b,o,cur,M,by rw[e2t];exact N,fun i f=>?_⟩⟩
    ·show List.map (shp t) l=x;refine List.ext_getElem (by simpa using p) fun i j k=>?_
     rw[List.getElem_map];exact(u i (by simpa using j) k).1
    ·rw[d2Z];exact(u i f (by rw[<- p];exact f)).2
 | cons a b q r =>
   rintro x vs ⟨X,Y,e,j,k⟩;obtain⟨D,H,F⟩:=q j;obtain⟨E,I,G⟩:=r k;exact⟨(D,E),by show(shp a D,shp b E)=x;rw[H,I],X,Y,e,F,G⟩
 | jnk =>
   rintro x vs ⟨n,rfl⟩;exact⟨n,rfl,n,rfl,.inl rfl⟩
 |_=>exact fun{x vs} h=>⟨x,rfl,h⟩
theorem f9p {β:Bt} {K:Ks}:∀(t:Ty) {x:Den t} {vs:List Value},All2 (CR β K) (AM.enc t x) vs->DR K t x vs:=by
 intro t;have one:∀{c:C} {vs:List Value},All2 (CR β K) [c] vs->∃v,vs=[v] /\ CR β K c v:=fun{c vs} h=>by
  cases vs with
  |nil=>exact h.elim
  | cons v vs=>cases vs with
    |nil=>exact⟨v,rfl,h.1⟩
    |cons _ _=>exact h.2.elim
 induction t with
 | cons a b e f =>
   intro x vs h;obtain⟨i,j,rfl,g,d⟩:=All2.split h;exact⟨i,j,rfl,e g,f d⟩
 | nil =>
   intro x vs h;cases vs with
   |nil=>rfl
   |cons _ _=>exact h.elim
 |bool=>intro x vs h;obtain⟨v,rfl,d⟩:=one h;rw[show v=_ from d];rfl
 |int k=>intro x vs h;obtain⟨v,rfl,d⟩:=one h;rw[show v=_ from d];rfl
 |flt k=>intro x vs h;obtain⟨v,rfl,b,rfl,d⟩:=one h;exact⟨b,rfl,d⟩
 |cpx k=>intro x vs h;obtain⟨v,rfl,a,b,rfl,d⟩:=one h;exact⟨a,b,rfl,d⟩
 |str=>intro x vs h;obtain⟨v,rfl,d⟩:=one h;rw[show v=_ from d];rfl
 |slice t l=>intro x vs h;obtain⟨v,rfl,d⟩:=one h;exact d
 |jnk=>intro x vs h;obtain⟨v,rfl,n,rfl⟩:=one h;exact⟨n,rfl⟩
theorem CRs.clean0 {β:Bt} {K K':Ks}:∀{vs:List Value},All2 (CR β K) [] vs->All2 (CR β K') [] vs
 |[],_=>trivial
 |_::_,h=>h.elim
theorem WR.told {K i:Ks} {w:World} {β:Bt} (j:KOK K w) (h:∀x z,K x=some z->∃cur T fz,i x=some (false,cur) /\ w.heap[x]?=some (.cells cur T fz)) {t:Ty} {x:Den t} {v:Value}
 (f:WR β K (e2g t x) v):∃c:Den (unJ t),shp t c=x /\ WR β i (e2g (unJ t) c) v:=by
 cases t with
 | slice t =>
   obtain⟨c,e,d⟩:=DR.told j h (.slice t) (show DR K (.slice t) x [v]from f);exact⟨c,e,d⟩
 | cons a b =>
   obtain⟨arr,rfl,g⟩:=f;obtain⟨c,e,d⟩:=DR.told j h (.cons a b) (f9p (.cons a b) g);exact⟨c,e,arr,rfl,DR.enc (unJ (.cons a b)) d⟩
 | jnk =>
   obtain⟨n,rfl⟩:=f;exact⟨n,rfl,n,rfl,.inl rfl⟩
 | nil =>
   obtain⟨arr,rfl,g⟩:=f;exact⟨x,rfl,arr,rfl,CRs.clean0 g⟩
 |_=>exact⟨x,rfl,f⟩
@[reducible] def unK:Kn->Kn
 |.val t => .val (unJ t)
 |k=>k
def h0t:(k:Kn)->(unK k).den->k.den
 |.val t,x=>shp t x
 |.own _ _,x=>x
 |.ptr _,x=>x
 |.mix _,x=>x
 |.fnv _ _,x=>x
@[reducible] def b8K:List Kn->List Kn
 |[]=>[]
 |k::r=>unK k::b8K r
def c2B:(l:List Kn)->a5F (b8K l)->a5F l
 |[],x=>x
 |k::r,x=>(h0t k x.1,c2B r x.2)
def b3L:Kn->Bool
 |.val _=>true
 |_=>false
@[reducible] def unO (O:Sg):Sg:=⟨b8K O.ws,O.bs⟩
def e8x (O:Sg) (y:(unO O).den):O.den:=(c2B O.ws y.1,y.2)
theorem b3M {K b:Ks} {w:World} {β:Bt} (c:KOK K w) (h:∀x z,K x=some z->∃cur T fz,b x=some (false,cur) /\ w.heap[x]?=some (.cells cur T fz)) :
 ∀{l:List Kn} (a:l.all b3L=true) {x:a5F l} {vs:List Value},All2 (WR β K) (a3d l x) vs->∃d:a5F (b8K l),c2B l d=x /\ All2 (WR β b) (a3d (b8K l) d) vs
 |[],_,x,[],hv=>⟨x,rfl,trivial⟩
 |[],_,x,_::_,hv=>hv.elim
 |.val t::r,a,x,[],hv=>hv.elim
 | .val t::r,a,x,v::vs,hv=>by
   obtain⟨e,j,g⟩:=WR.told c h hv.1;obtain⟨f,k,i⟩:=b3M c h (l:=r) (by simpa[b3L]using a) hv.2;exact⟨(e,f),by show(shp t e,c2B r f)=x;rw[j,k],g,i⟩
 |.own _ _::r,a,_,_,_=>by simp[b3L]at a
 |.ptr _::r,a,_,_,_=>by simp[b3L]at a
 |.mix _::r,a,_,_,_=>by simp[b3L]at a
 |.fnv _ _::r,a,_,_,_=>by simp[b3L]at a
theorem a9g:∀(l:List Kn) (x:a5F l),(a3d l x).length=l.length
 |[],_=>rfl
 |k::r,x=>by simp[a3d,a9g r]
theorem b8L:∀(l:List Kn),(b8K l).length=l.length
 |[]=>rfl
 |k::r=>by simp[b8L r]
theorem a7j.told {K j:Ks} {w:World} {β:Bt} (k:KOK K w) (h:∀x z,K x=some z->∃cur T fz,j x=some (false,cur) /\ w.heap[x]?=some (.cells cur T fz)) {l:List Kn} (m:l.all b3L=true) {x:a5F l} {v:Value}
 (f:a7j β K (a3d l x) v):∃c:a5F (b8K l),c2B l c=x /\ a7j β j (a3d (b8K l) c) v:=by
 have b:=fun(vs:List Value)=>b3M (β:=β) k h m (x:=x) (vs:=vs)
 have a:∀c:a5F (b8K l),(a3d (b8K l) c).length=(a3d l x).length:=fun c=>by rw[a9g,a9g,b8L]
 unfold a7j at f ⊢;generalize a3d l x=us at f b a
 match us,f,b,a with
 | [],f,b,a =>
   obtain⟨arr,e,i⟩:=f;obtain⟨c,g,d⟩:=b arr.toList i;refine⟨c,g,?_⟩;have:=a c;generalize a3d (b8K l) c=us' at d this ⊢
   match us',d,this with
   |[],d,_=>exact⟨arr,e,d⟩
 | [u],f,b,a =>
   obtain⟨c,g,d⟩:=b [v] ⟨f,trivial⟩;refine⟨c,g,?_⟩;have:=a c;generalize a3d (b8K l) c=us' at d this ⊢
   match us',d,this with
   |[u'],d,_=>exact d.1
 | u::u2::us,f,b,a =>
   obtain⟨arr,e,i⟩:=f;obtain⟨c,g,d⟩:=b arr.toList i;refine⟨c,g,?_⟩;have:=a c;generalize a3d (b8K l) c=us' at d this ⊢
   match us',d,this with
   |y::y2::ys,d,_=>exact⟨arr,e,d⟩
def f5Z:C->Bool
 |.sl t _=>noJ t
 |.rptr t _ _ _=>noJ t
 |.arptr t _ _ _ _ _=>noJ t
 |_=>true
def f6a (u:W):Bool:=u.cells.all f5Z
def e8y:Blk->Bool
 |.box cs=>cs.all f5Z
 |.arr t _=>noJ t
def f9q:Option Blk->Bool
 |some b=>e8y b
 |none=>true
theorem CR.clean {β:Bt} {K K':Ks} (h:a6M K K') {c:C} (n:f5Z c=true) {v:Value} (f:CR β K c v):CR β K' c v:=by
 cases c with
 |sl t l=>exact DR.clean h (.slice t) n f
 | rptr t l i o =>
   have a:noJ t=true:=n;obtain⟨p,b,o',arr,e,g,k⟩:=f;rw[a7s a]at e;exact⟨p,b,o',arr,by rw[a7s a];exact h _ _ e,fun j d=>DR.clean h t a (g j d),k⟩
 | arptr t l i o m q =>
   have a:noJ t=true:=n;obtain⟨r,p,b,o',arr,e,g,k⟩:=f;rw[a7s a]at e;exact⟨r,p,b,o',arr,by rw[a7s a];exact h _ _ e,fun j d=>DR.clean h t a (g j d),k⟩
 |_=>exact f
theorem CRs.clean {β:Bt} {K K':Ks} (h:a6M K K'):∀{cs:List C} {vs:List Value},cs.all f5Z=true->All2 (CR β K) cs vs->All2 (CR β K') cs vs
 |[],[],_,hv=>hv
 | c::cs,v::vs,hc,hv=>by
   simp only[List.all_cons,and_eq_true]at hc;exact⟨CR.clean h hc.1 hv.1,CRs.clean h hc.2 hv.2⟩
 |[],_::_,_,hv=>hv.elim
 |_::_,[],_,hv=>hv.elim
theorem WR.clean {β:Bt} {K K':Ks} (h:a6M K K') {u:W} (a:f6a u=true) {v:Value} (b:WR β K u v):WR β K' u v:=by
 cases u with
 |one c=>exact CR.clean h (by simpa[f6a,W.cells]using a) b
 |agg cs=>obtain⟨arr,e,d⟩:=b;exact⟨arr,e,CRs.clean h a d⟩
theorem WRs.clean {β:Bt} {K K':Ks} (h:a6M K K'):∀{a:List W} {vs:List Value},a.all f6a=true->All2 (WR β K) a vs->All2 (WR β K') a vs
 |[],[],_,hv=>hv
 | c::cs,v::vs,hc,hv=>by
   simp only[List.all_cons,and_eq_true]at hc;exact⟨WR.clean h hc.1 hv.1,WRs.clean h hc.2 hv.2⟩
 |[],_::_,_,hv=>hv.elim
 |_::_,[],_,hv=>hv.elim
theorem BR.clean {β:Bt} {K K':Ks} (h:a6M K K') {b:Blk} (d:e8y b=true) {y:Hd} {w:World} (a:BR β K b y w):BR β K' b y w:=by
 cases b with
 |box cs=>obtain⟨x,arr,T,e,hh,m⟩:=a;exact⟨x,arr,T,e,hh,CRs.clean h d m⟩
 | arr t l =>
   rcases a with a|⟨x,c,cur,T,e,hh,f,g,j,k⟩
   ·exact .inl a
   ·exact .inr ⟨x,c,cur,T,e,hh,f,g,j,fun i n=>DR.clean h t d (k i n)⟩
theorem MR.clean {β:Bt} {K K':Ks} {get:Get} {w:World} (c:MR β K get w) (h:a6M K K') (j:∀k b,get k=some b->e8y b=true) (a:∀x,Own β get x->K' x=none):MR β K' get w:=
 ⟨fun k b e=>by
  obtain⟨y,d,i⟩:=c.blk k b e;exact⟨y,d,i.clean h (j k b e)⟩,c.sep,fun k b y x e f g=>a x ⟨k,b,y,e,f,g⟩⟩
theorem b8M {os:List (Option Blk)} (h:os.all f9q=true):∀k b,a2o os k=some b->e8y b=true:=by
 intro k b e;unfold a2o at e;cases hq:os[k]? with
 |none=>rw[hq]at e;cases e
 | some o =>
   rw[hq]at e;have e:o=some b:=e;have:=List.all_eq_true.1 h o (List.mem_of_getElem? hq);rw[e]at this;exact this
section
variable {P:Program} {Γ:Env} {N:a8e}
theorem e8z (env:a1m P Γ) (hN:NOK P N) {f:Nat} {c:Code} (hf:a5P P f Γ c) (hNL:a3f Γ N c) {own:Bool} {I O:Sg} {ok:I.den->Bool} {Q:I.den->O.den->Prop} {hne:Nonempty (Ch I (unO O) ok fun x y=>Q x (e8x O y))}
 (hv0:O.ws.all b3L=true) (nI1:∀x,(a3d I.ws x).all f6a=true) (nI2:∀x,(a3T I.bs x).all f9q=true) (nO:∀y,(a3T O.bs y).all f9q=true)
 (h:∀x,ok x=true->∀k:O.den->Option Unit,(∀y,Q x y->k y=some ())->a3v Γ N c I O k x=some ()):a2s P f (a3w own I (unO O) ok (fun x y=>Q x (e8x O y)) hne):=by
 classical
 refine⟨fun _=>rfl,?_⟩;intro args ins S β0 K0 w0 vs A hm hfr hv;obtain⟨g0⟩:=hne;obtain⟨rs0,outs0,i⟩:=S g0;simp only[a3w,a0H,c2v]at i;split at i
 case h_2=>cases i
 rename_i x r;split at r
 case h_2=>cases r
 rename_i x1 hx1;split at r
 case h_2=>cases r
 rename_i x2 hx2;cases r;split at i
 case h_2=>cases i
 rename_i d o;simp only[injEq,Prod.mk.injEq]at i;obtain⟨hok,_,_⟩:=i;obtain⟨hl1,D⟩:=a3e hx2;obtain⟨hl2,Z⟩:=a5f o;rw[a6H]at D;rw[<- Z]at D;have hlen:d.length=ins.length:=by rw[hl2,hl1];simp
 have he:=h (x1,x2) hok (fun y=>if Q (x1,x2) y then some ()else none) (fun y H=>if_pos H);simp only[a3v,o]at he;obtain⟨l,F⟩:∃l:Ks,l=fun x=>match K0 x with|some (false,arr)=>some (false,arr)|_=>none:=⟨_,rfl⟩
 have C:a6M K0 l:=fun x arr e=>by rw[F];dsimp only;rw[e]
 have s:∀x z,l x=some z->K0 x=some z /\ z.1=false:=fun x z e=>by
  rw[F]at e;dsimp only at e;split at e
  ·rename_i arr ha;cases e;exact⟨ha,rfl⟩
  ·cases e
 have R:MR β0 K0 (a2b d) w0:=hm.lax D;have hb1:∀k b,a2b d k=some b->e8y b=true:=by
  intro k b e;rw[Z]at e;exact b8M (nI2 x2) k b e
 have hk':KOK l w0:=⟨fun x z e=>A.ato x z (s x z e).1,by
  obtain⟨m,hm⟩:=A.gk;exact⟨m,fun x r=>C _ _ (hm x r)⟩⟩
 have hro0:∀x,Own β0 (a2b d) x->l x=none:=by
  rintro x ⟨k,b,y,e,f,g⟩;cases hq:l x with
  |none=>rfl
  | some z =>
    have:=(s x z hq).1;rw[R.ro k b y x e f g]at this;cases this
 have hm':MR β0 l (a2b d) w0:=R.clean C hb1 hro0;have hv':=WRs.clean C (nI1 x1) (a5x hx1 hv);refine .inl ⟨hf.ok,(a5y env hN hf hNL he hk' hm' (fun k A=>hfr k (by omega)) hv').mono ?_⟩;rintro e w' ⟨v,β,K,rs',U,rfl,Y,j⟩;simp only[f5Y]at Y;split at Y
 case h_2=>cases Y
 rename_i y H;split at Y
 case isFalse=>cases Y
 rename_i hQ;simp only[c2v]at H;split at H
 case h_2=>cases H
 rename_i y1 hy1;split at H
 case h_2=>cases H
 rename_i W hy2;cases H;obtain⟨hl3,L⟩:=a3e hy2;have G:(a3T O.bs (y1,W).2).length=U.length:=hl3;have u:∀b,Own β0 (a2b d) b->Own β0 (a2b ins) b:=fun b hb=>hb.lax D
 have p:∀x,Own β0 (a2b d) x->K0 x=none:=by
  rintro x ⟨k,b,y,e,f,g⟩;exact R.ro k b y x e f g
 obtain⟨E,t⟩:∃E:Ks,E=fun x=>match K0 x with
  |some z=>some z
  | none=>match K x with
    | some _=>match w'.heap[x]? with
      |some (.cells cur _ _)=>some (false,cur)
      |_=>none
    |none=>none:=⟨_,rfl⟩
 have n:∀x z,K0 x=some z->E x=some z:=fun x z e=>by rw[t];dsimp only;rw[e]
 have J:∀x z,K x=some z->∃cur T fz,E x=some (false,cur) /\ w'.heap[x]?=some (.cells cur T fz):=by
  intro x z e;obtain⟨cur,T,fz,hh,a,h2⟩:=j.kok.ato x z e;refine⟨cur,T,fz,?_,hh⟩;cases hq:K0 x with
  | none =>
    rw[t];dsimp only;rw[hq];dsimp only;rw[e];dsimp only;rw[hh]
  | some q =>
    rw[n x q hq];rcases j.knew x z e with w|w|w
    ·obtain⟨h4,h5⟩:=s x z w;have h6:q=z:=Option.some.inj (hq.symm.trans h4);rw[h6,a h5];show some z=some (false,z.2);rw[<- h5]
    ·rw[p x w]at hq;cases hq
    ·have:=A.lt hq;omega
 have B:a6M K E:=by
  intro x arr e;obtain⟨cur,T,fz,a,h2⟩:=J x _ e;obtain⟨cur',T',fz',w,h4,_⟩:=j.kok.ato x _ e;rw[h2]at w;cases w;rw[a,h4 rfl]
 have X:Fr (e1L β0 K0 (a2b ins)) w0 w':=⟨j.fr.os,j.fr.tape,j.fr.output,j.fr.size,fun b hb hn=>j.fr.block b hb fun a=>a.elim (fun a=>hn (.inl (u b a))) fun⟨arr,a⟩=>by
  have:=(s b _ a).2;cases this⟩
 have M:KOK E w':=by
  refine⟨?_,A.gk.mono n⟩;intro x z e;cases hq:K0 x with
  | some q =>
    rw[n x q hq]at e;have e':=Option.some.inj e;subst e';obtain⟨fl,arr⟩:=q;cases fl with
    |false=>exact j.kok.ato x _ (j.kle x _ (C x arr hq))
    | true =>
      have hn:¬e1L β0 l (a2b d) x:=by
       rintro(a|⟨arr',a⟩)
       ·rw[p x a]at hq;cases hq
       ·have:=(s x _ a).2;cases this
      rw[j.fr.block x (A.lt hq) hn];exact A.ato x _ hq
  | none =>
    rw[t]at e;dsimp only at e;rw[hq]at e;dsimp only at e;split at e
    ·split at e
     ·rename_i cur T fz hh;cases e;exact⟨cur,T,fz,hh,KOK.self fun e=>by cases e⟩
     ·cases e
    ·cases e
 obtain⟨V,e1,d1⟩:=a7j.told (β:=β) j.kok J hv0 (a6I hy1 j.out);have hmo:MR β E (a2o (a3T O.bs W)) w':=by
  have a:MR β K (a2o (a3T O.bs W)) w':=j.mr.lax L;refine a.clean B (b8M (nO W)) fun x r=>?_
  have h2:K x=none:=by
   obtain⟨k,b,y,e,f,g⟩:=r;exact a.ro k b y x e f g
  cases hq:K0 x with
  |none=>rw[t];dsimp only;rw[hq];dsimp only;rw[h2]
  | some q =>
    rcases j.own x (r.lax L)with w|w
    ·rw[p x w]at hq;cases hq
    ·have:=A.lt hq;omega
 refine⟨⟨fun x=>if x=(x1,x2)then(V,W)else g0.1 x,fun x r=>?_⟩,a3d (b8K O.ws) V,a3T O.bs W,v,β,E,?_,rfl,⟨n,M,fun b arr e=>?_,hmo,fun k A=>j.fresh k (by simp only at A G;omega),d1,X,fun x r=>?_,j.ble,?_⟩⟩
 ·dsimp only;split
  ·rename_i e;rw[e];show Q (x1,x2) (c2B O.ws V,W);rw[e1];exact hQ
  ·exact g0.2 x r
 ·simp only[a3w,a0H,c2v,hx1,hx2,o,hok,if_pos]
 ·cases hq:K0 b with
  |some q=>rw[n b q hq]at e;cases e;exact .inl rfl
  | none =>
    rw[t]at e;dsimp only at e;rw[hq]at e;dsimp only at e;split at e
    ·rename_i z hz;rcases j.knew b z hz with a|a|a
     ·rw[(s b z a).1]at hq;cases hq
     ·exact .inr (.inl (u b a))
     ·exact .inr (.inr a)
    ·cases e
 ·rcases j.own x (r.lax L)with a|a
  ·exact .inl (u x a)
  ·exact .inr a
 ·have:=j.le;simp only at G ⊢;omega
end
end Go.Proofs.YtjomnmoekchfeaaGreatDoor.AM
namespace Go.Proofs.YtjomnmoekchfeaaGreatDoor.Card
open Go Go.Proofs Go.ChangeShapes Go.WideShapes Go.ChangeAt Go.RowKit Go.Proofs.YtjomnmoekchfeaaGreatDoor.AM
set_option maxRecDepth 100000
theorem own:ownKnob Tryz.prog.godebug=none:=by kernel_rfl
theorem e2v:laidOutB Tryz.prog=true:=by kernel_rfl
theorem gP:Tryz.prog.globalNamed "internal/strconv.uint64pow10" = some 2:=by kernel_rfl
noncomputable def c5j:List (String×DataW Unit):=Rows.fnSecondsSailedRow.laid
def h0u:DataW Unit->Value
 |.lit (.int k n) => .int k n
 |_ => .bool false
def d3a:Array Value:=match Go.Pinned.utf8First with
 |.agg l=>(l.map h0u).toArray
 |_=>#[]
noncomputable def b3N (os:Os):World:=
 { World.doorLaid Tryz.prog 34 os with heap:=(World.doorLaid Tryz.prog 34 os).heap.modify 3 fun
  |.cells _ t fz => .cells d3a t fz
  |o=>o }
theorem d3b (os:Os) (args:Array Value):laidMetH Tryz.prog c5j ((b3N os).forCall (fun _ _=>0) ⟨#[],args,[]⟩).memory:=
 laidMetH_of_parts3 (fuel:=8) (laidMet_of_run' 8 (by kernel_rfl) (by kernel_rfl)) (by kernel_rfl) (by kernel_rfl)
theorem f9r {H:Type} {enc:TypeId×Value->H} {a:Assume} {C:Checked} {os:Os} {f:FuncId} {fn:Func} {s:ChangeSpec} {g:List PathCond} {apart fresh c d:Bool} {X:World->Array Value->Prop}
 (B:∀(w w':World) (args:Array Value),w.heap=w'.heap->X w args->X w' args)
 (own:ownKnob C.prog.godebug=none) (h:os.Started) (l:C.prog.inits.idxOf? f=none) (u:C.prog.funcs[f]?=some fn)
 (k:∃(w:World) (tape:Tape) (i:Input),w.os=os /\ (w.forCall tape i).Shaped C.prog /\ i.vars=[] /\ Input.okWide C.prog (w.forCall tape i) .any w.heap.size f i /\
  ((s.pre enc C.prog fn g apart (w.forCall tape i).memory i.args /\ X (w.forCall tape i).memory i.args) /\ sizedMet enc C.prog fn (OpenSpec.ofChange s) apart (w.forCall tape i).memory i.args) /\ a.holds C.prog (lone (Frame.enter C.prog f i.args .normal) [] (w.forCall tape i)))
 (contract:∀(W:World) (base:Nat) (args:Array Value) (ds r:List (DataW H)) (b:List MemPlace),
  (∀(j:Nat) t v,fn.params[j]?=some t->args[j]?=some v->Value.okWide C.prog W .any base t v) ->
  DataW.Whole enc C.prog fn.params.toList s.vars apart W args.toList ds r b ->
  W.ShapedOpen C.prog->X W args ->
  Calls C.prog f args W fun e A=>∃v,e = .returned v /\ s.post enc C.prog fn apart fresh c d W args v A) :
 ReturnsInHanded a C os f .any (fun w args=>(s.pre enc C.prog fn g apart w args /\ X w args) /\ sizedMet enc C.prog fn (OpenSpec.ofChange s) apart w args) (s.post enc C.prog fn apart fresh c d):=by
 refine returnsInHanded_of_calls own h l k ?_;intro w tape i _ y _ x n p;obtain⟨_,_,_,q,m,_,_,_,_,o⟩:=x;have e:q=fn:=Option.some.inj (m.symm.trans u);subst e;obtain⟨⟨⟨ds,r,b,F,I⟩,G⟩,J⟩:=n;have z:=DataW.Whole.of_heap (w':=w.forCall tape i) (by rfl) F;refine(contract (w.forCall tape i) w.heap.size i.args ds r b o z y (B _ _ _ (by rfl) G)).mono fun e A ⟨v,D,E⟩=>?_
 subst D;exact ChangeSpec.post_blind E
theorem f9s {W:World} (hsh:W.ShapedOpen Tryz.prog) (hL:laidMetH Tryz.prog c5j W):GK (b1T W):=by
 rw[MakeChecks.laidMetH_plain _ _ _ (by kernel_rfl)]at hL
 have ht:Lib.TabIs Tryz.prog W "internal/strconv.uint64pow10" .u64 ((List.range 20).map fun i=>((10^i:Nat):Int)):=
  Lib.tabIs_of_head (t:=257) (e:=104) (n:=20) gP (by kernel_rfl) (by kernel_rfl) (by kernel_rfl) (by kernel_rfl) (by kernel_rfl) hL.tail.tail
 obtain⟨cs,hh,hs,_⟩:=hsh.1 1 #[.int .i64 0] 3 (of_decide_eq_true (by kernel_rfl)) (by kernel_rfl)
 obtain⟨m,hm⟩:∃m,W.cell? ⟨1,0,none⟩=some (.int .i64 m):=cell_of_shapedOpen_int (t:=3) (zero:=#[.int .i64 0]) hsh (of_decide_eq_true (by kernel_rfl)) (by kernel_rfl) (by kernel_rfl) (by kernel_rfl) (by kernel_rfl) (by kernel_rfl)
 refine⟨m,?_⟩
 unfold e8d
 intro x hx
 simp only[List.mem_cons,List.not_mem_nil,or_false]at hx
 rcases hx with rfl|rfl
 ·unfold b1T
  rw[hh]
  obtain⟨l⟩:=cs
  match l,hs with
  | [v],_ =>
    have:W.cell? ⟨1,0,none⟩=some v:=by
     unfold World.cell?
     rw[hh]
     rfl
    rw[this]at hm
    cases hm
    rfl
 ·unfold Lib.TabIs World.var? at ht
  rw[gP]at ht
  simp only[Option.bind_some]at ht
  unfold b1T
  split at ht
  ·rename_i c T fz h
   cases ht
   rw[h]
   rfl
  ·cases ht
end Go.Proofs.YtjomnmoekchfeaaGreatDoor.Card
