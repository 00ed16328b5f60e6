/- Texts of one proof, joined: an abstract machine for the program, its functions evaluated, plain lemmas. Conditions: those that each lemma names. -/
import Derived.Test.YtjomnmoekchfeaaGreatDoorM1
import Derived.WideShapes
import Derived.ChangeShapes
import Derived.ChangeArms
import Derived.Below
import Derived.IntWalk
import Derived.Test.YtjomnmoekchfeaaGreatDoorRows
import Derived.WalkKit
import Derived.ProofKit
import Derived.OpenShut
import Derived.LaidMore
import Derived.Stop.Joined
import Derived.Stop.LaidErr
import Derived.MakeChecks
import Derived.Shelf.Vars
import Derived.Lib.LaidTab
set_option linter.unusedVariables false
set_option linter.unusedSimpArgs false
namespace Go.Proofs.YtjomnmoekchfeaaGreatDoor.AM
open Bool (and_eq_true)
open Nat (le_refl beq zero_le)
open Option.some (injEq)
open Go
theorem a5L:∀{l:List Nat} {n:Nat},b9Y n l=true->∀k∈l,k<n
 |[],_,_,_,h=>by cases h
 | x::r,n,h,k,a=>by
   simp only[b9Y,and_eq_true]at h;rcases List.mem_cons.1 a with rfl|a
   ·simpa[Nat.blt_eq]using h.1
   ·exact a5L h.2 k a
def a1U (β:Bt) (n:Nat):Bt:=fun k=>if k<n then β k else none
theorem a4F {β:Bt} {n k:Nat} (h:k<n):a1U β n k=β k:=if_pos h
theorem c9n {β:Bt} {n k:Nat} (h:n<=k):a1U β n k=none:=if_neg (by omega)
theorem a5M {β:Bt} {n:Nat}:BLe (a1U β n) β:=fun k h e=>by
 unfold a1U at e;split at e
 ·exact e
 ·cases e
theorem PR.below {β:Bt} {n k off:Nat} {v:Value} (e:k<n) (h:PR β k off v):PR (a1U β n) k off v:=by
 obtain⟨y,b,a,c,d⟩:=h;exact⟨y,b,by rw[a4F e];exact a,c,d⟩
theorem CR.below {β:Bt} {K:Ks} {n:Nat} {c:C} {v:Value} (g:∀k∈a0P c,k<n) (h:CR β K c v):CR (a1U β n) K c v:=by
 cases c with
 | ref t k =>
   obtain⟨y,a,m,c,d,e⟩:=h;exact⟨y,a,m,c,by rw[a4F (g k (by simp[a0P]))];exact d,e⟩
 |ptr k o=>exact PR.below (g k (by simp[a0P])) h
 | eptr k t i o =>
   obtain⟨y,a,m,c,d,e⟩:=h;exact⟨y,a,m,c,by rw[a4F (g k (by simp[a0P]))];exact d,e⟩
 | fn f l =>
   obtain⟨cs,d,e⟩:=h;exact⟨cs,d,e.mono_mem fun k u r s=>PR.below (g k r) s⟩
 |aptr k o m j=>exact⟨h.1,PR.below (g k (by simp[a0P])) h.2⟩
 | aeptr k t i o m j =>
   obtain⟨p,y,a,q,c,d,e⟩:=h;exact⟨p,y,a,q,c,by rw[a4F (g k (by simp[a0P]))];exact d,e⟩
 | asl t k o m =>
   obtain⟨b,c,d,e⟩:=h;exact⟨b,c,PR.below (g k (by simp[a0P])) d,e⟩
 |_=>exact h
theorem WR.below {β:Bt} {K:Ks} {n:Nat} {c:W} {v:Value} (a:∀k∈a0M c,k<n) (h:WR β K c v):WR (a1U β n) K c v:=by
 cases c with
 |one c=>exact CR.below (fun k hh=>a k (by simpa[a0M,W.cells]using hh)) h
 | agg cs =>
   obtain⟨arr,e,h⟩:=h;exact⟨arr,e,h.mono_mem fun c u b d=>CR.below (fun k hh=>a k (List.mem_flatMap.2 ⟨c,b,hh⟩)) d⟩
theorem VR.below {β:Bt} {K:Ks} {n:Nat} {c:V} {v:Value} (a:∀k∈a1n c,k<n) (h:VR β K c v):VR (a1U β n) K c v:=by
 cases c with
 |val c=>exact WR.below a h
 | tup ws =>
   obtain⟨arr,e,h⟩:=h;exact⟨arr,e,h.mono_mem fun c u b d=>WR.below (fun k hh=>a k (List.mem_flatMap.2 ⟨c,b,hh⟩)) d⟩
theorem BR.below {β:Bt} {K:Ks} {n:Nat} {b:Blk} {y:Hd} {w:World} (a:∀k∈e2G (some b),k<n) (h:BR β K b y w):BR (a1U β n) K b y w:=by
 cases b with
 | box cs =>
   obtain⟨x,arr,T,e,hh,h⟩:=h;exact⟨x,arr,T,e,hh,h.mono_mem fun c u d f=>CR.below (fun k hh=>a k (List.mem_flatMap.2 ⟨c,d,hh⟩)) f⟩
 |arr t l=>exact h
theorem a5k {β:Bt} {K:Ks} {v:Value}:VR β K pois v:=trivial
structure e2M (β:Bt) (K:Ks) (get:Get) (n:Nat) (w:World) (out:Out) (v:Value) (w':World) (β':Bt) (K':Ks):Prop where
 ble:BLe β β'
 kle:KLe K K'
 kok:KOK K' w'
 vr:VR β' K' out.v v
 mr:MR β' K' (a4p out.upd get) w'
 dom:∀k,β' k≠none->β k≠none∨(n<=k /\ k<out.n)
 fr:Fr (d7F β K get) w w'
 own:∀x,Own β' (a4p out.upd get) x->Own β get x∨w.heap.size<=x
 knew:∀b arr,K' b=some arr->K b=some arr∨Own β get b∨w.heap.size<=b
theorem Own.mono {β β':Bt} {get get':Get} (a:BLe β β') (c:∀k b,get k=some b->get' k=some b) {x:Nat} (h:Own β get x):Own β' get' x:=by
 obtain⟨k,b,y,e,f,g⟩:=h;exact⟨k,b,y,c _ _ e,a _ _ f,g⟩
theorem Fr.mono {S c:Nat->Prop} {a b:World} (h:Fr S a b) (g:∀x,S x->c x):Fr c a b:=
 ⟨h.os,h.tape,h.output,h.size,fun k d f=>h.block k d fun e=>f (g k e)⟩
section
variable {P:Program} {Γ:Env} {β:Bt} {K:Ks} {w:World} {a:Act} {o:Oper}
theorem c2e {ι:Type} (inh:Nonempty ι) {ρ:Operand->V} {G Gc:Get} {n:Nat} {out:ι->Out} (env:a1o P Γ)
 (s:∀(l:Operand->V) (t:Get),(∀x∈o.op.operands,ρ x=l x)->(∀k∈a7D o ρ G,G k=t k)->Pre P Γ (a1U β n) K t n w l a->a0l P o a w (fun v w'=>∃z,a0S (a1U β n) K t n w (out z) v w'))
 (N:∀z,c8U o ρ G n (out z).n=true)
 (hg:∀k∈a7D o ρ G,Gc k=G k) (kok:KOK K w) (mr:MR β K Gc w) (fresh:∀z k,n<=k->k<(out z).n->β k=none) (val:∀x∈o.op.operands,VR β K (ρ x) (a.eval x)) :
 a0l P o a w (fun v w'=>∃z β' K',e2M β K Gc n w (out z) v w' β' K'):=by
 classical
 obtain⟨z0⟩:=inh;have E:=N z0;simp only[c8U,and_eq_true]at E;obtain⟨⟨⟨_,k2⟩,k3⟩,k4⟩:=E;have k2:=a5L k2;have k3:=a5L k3;have k4:=a5L k4;obtain⟨l,W⟩:∃l:Operand->V,l=fun x=>if x∈o.op.operands then ρ x else pois:=⟨_,rfl⟩
 obtain⟨t,hG⟩:∃t:Get,t=fun k=>if k∈a7D o ρ G then G k else none:=⟨_,rfl⟩
 have eρ:∀x∈o.op.operands,ρ x=l x:=fun x m=>by rw[W];dsimp only;rw[if_pos m]
 have eG:∀k∈a7D o ρ G,G k=t k:=fun k d=>by rw[hG];dsimp only;rw[if_pos d]
 have p:∀k b,t k=some b->k∈a7D o ρ G /\ G k=some b /\ Gc k=some b /\ k<n:=by
  intro k b e;rw[hG]at e;dsimp only at e;split at e
  ·rename_i d;exact⟨d,e,by rw[hg k d];exact e,k3 k d⟩
  ·cases e
 have T:Pre P Γ (a1U β n) K t n w l a:=by
  refine⟨env,kok,⟨?_,?_,?_⟩,fun k d=>c9n d,?_⟩
  ·intro k b e;obtain⟨c,C,h3,h4⟩:=p k b e;obtain⟨y,L,J⟩:=mr.blk k b h3;refine⟨y,by rw[a4F h4];exact L,J.below fun j hj=>k4 j (List.mem_flatMap.2 ⟨k,c,?_⟩)⟩;rw[C];exact hj
  ·intro k k' b b' y y' x e e' f Z g M;exact mr.sep k k' b b' y y' x (p k b e).2.2.1 (p k' b' e').2.2.1 (a5M _ _ f) (a5M _ _ Z) g M
  ·intro k b y x e f g;exact mr.ro k b y x (p k b e).2.2.1 (a5M _ _ f) g
  ·intro x;rw[W];dsimp only;split
   ·rename_i m;exact(val x m).below fun k d=>k2 k (List.mem_flatMap.2 ⟨x,by simpa using m,d⟩)
   ·exact a5k
 have s:=s l t eρ eG T;intro X Q hn;refine s X Q fun v w' h=>hn v w' ?_
 obtain⟨z,Y,K1,h⟩:=h;have fresh:=fresh z;have k1:n<=(out z).n:=by
  have:=N z;simp only[c8U,and_eq_true]at this;simpa using this.1.1.1
 refine⟨z,?_⟩;generalize out z=out at *;have r:∀x,Own (a1U β n) t x->∃k b y,k∈a7D o ρ G /\ Gc k=some b /\ β k=some y /\ y.b=some x:=by
  rintro x ⟨k,b,y,e,f,g⟩;exact⟨k,b,y,(p k b e).1,(p k b e).2.2.1,a5M _ _ f,g⟩
 have F:∀k b y x,Gc k=some b->β k=some y->y.b=some x->k ∉ a7D o ρ G->¬Own (a1U β n) t x:=by
  intro k b y x e f g d m;obtain⟨k',b',y',c,C,h3,h4⟩:=r x m;have:=mr.sep k k' b b' y y' x e C f h3 g h4;subst this;exact d c
 obtain⟨u,A⟩:∃u:Bt,u=fun k=>match β k with|some y=>some y|none=>if n<=k /\ k<out.n then Y k else none:=⟨_,rfl⟩
 have D:BLe β u:=fun k y e=>by rw[A];dsimp only;rw[e]
 have i:BLe Y u:=by
  intro k y e;have O:k<out.n:=by
   rcases Nat.lt_or_ge k out.n with c|c
   ·exact c
   ·rw[h.fresh k c]at e;cases e
  rcases Nat.lt_or_ge k n with c|c
  ·rw[h.dom k c,a4F c]at e;exact D _ _ e
  ·rw[A];dsimp only;rw[fresh k c O];dsimp only;rw[if_pos ⟨c,O⟩];exact e
 have q:∀k b,a4p out.upd Gc k=some b->a4p out.upd t k=some b∨(k ∉ a7D o ρ G /\ Gc k=some b):=by
  intro k b e;unfold a4p at e ⊢;cases hq:a1w out.upd k with
  |some x=>rw[hq]at e;left;exact e
  | none =>
    rw[hq]at e;dsimp only at e ⊢;by_cases d:k∈a7D o ρ G
    ·left;rw[hG];dsimp only;rw[if_pos d,<- hg k d];exact e
    ·exact .inr ⟨d,e⟩
 have S:∀k b y x,Gc k=some b->β k=some y->y.b=some x->k ∉ a7D o ρ G->w'.heap[x]?=w.heap[x]? /\ K1 x=none:=by
  intro k b y x e f g d;have m:=mr.lt ⟨k,b,y,e,f,g⟩;have R:=F k b y x e f g d;have hnj:¬Jk K x:=mr.nj e f g;refine⟨h.fr.block x m fun c=>c.elim R hnj,?_⟩;cases hq:K1 x with
  |none=>rfl
  | some arr =>
    rcases h.knew x arr hq with c|c|c
    ·rw[mr.ro k b y x e f g]at c;cases c
    ·exact absurd c R
    ·omega
 have U:∀k b y,Gc k=some b->u k=some y->β k=some y:=by
  intro k b y e f;obtain⟨z,H,_⟩:=mr.blk k b e;have:=D _ _ H;rw[f]at this;cases this;exact H
 refine⟨u,K1,D,h.kle,h.kok,h.vr.mono i (KLe.refl _),?_,?_,h.fr.mono fun x m=>m.imp (fun m=>m.mono a5M fun k b e=>(p k b e).2.2.1) id,?_,fun b arr e=>?_⟩
 ·refine mr.step D h.kle ?_;intro k b e;rcases q k b e with c|⟨c,C⟩
  ·right;obtain⟨y,L,J⟩:=h.mr.blk k b c;refine⟨y,i _ _ L,J.mono i (KLe.refl _),fun x m=>⟨h.mr.ro k b y x c L m,fun k' b' y' e' Z M=>?_⟩⟩;rcases q k' b' e' with B|⟨B,I⟩
   ·obtain⟨z,H,_⟩:=h.mr.blk k' b' B;have:=i _ _ H;rw[Z]at this;cases this;exact h.mr.sep k' k b' b y' y x B c H L M m
   ·exfalso;have f2:=U k' b' y' I Z;rcases h.own x ⟨k,b,y,c,L,m⟩with h5|h5
    ·exact F k' b' y' x I f2 M B h5
    ·have:=mr.lt ⟨k',b',y',I,f2,M⟩;omega
  ·exact .inl ⟨C,fun x y f g=>S k b y x C f g c⟩
 ·intro k d;rw[A]at d;dsimp only at d;cases hq:β k with
  |some y=>left;simp
  | none =>
    rw[hq]at d;dsimp only at d;split at d
    ·right;assumption
    ·exact absurd rfl d
 ·rintro x ⟨k,b,y,e,f,g⟩;rcases q k b e with c|⟨c,C⟩
  ·obtain⟨z,H,_⟩:=h.mr.blk k b c;have:=i _ _ H;rw[f]at this;cases this;rcases h.own x ⟨k,b,y,c,H,g⟩with h5|h5
   ·obtain⟨k',b',y',_,h6,h7,h8⟩:=r x h5;exact .inl ⟨k',b',y',h6,h7,h8⟩
   ·exact .inr h5
  ·exact .inl ⟨k,b,y,C,U k b y C f,g⟩
 ·rcases h.knew b arr e with c|c|c
  ·exact .inl c
  ·obtain⟨k',b',y',_,h6,h7,h8⟩:=r b c;exact .inr (.inl ⟨k',b',y',h6,h7,h8⟩)
  ·exact .inr (.inr c)
theorem e2N {ρ:Operand->V} {G Gc:Get} {n:Nat} {out:Out} (env:a1o P Γ) (c:act Γ o ρ G n=some out) (g:out.ok=true) (e:c8U o ρ G n out.n=true)
 (p:∀k∈a7D o ρ G,Gc k=G k) (kok:KOK K w) (mr:MR β K Gc w) (fresh:∀k,n<=k->k<out.n->β k=none) (val:∀x∈o.op.operands,VR β K (ρ x) (a.eval x)) :
 a0l P o a w (fun v w'=>∃β' K',e2M β K Gc n w out v w' β' K'):=by
 have:=c2e (ι:=Unit) ⟨()⟩ (P:=P) (β:=β) (K:=K) (w:=w) (a:=a) (o:=o) (ρ:=ρ) (G:=G) (Gc:=Gc) (n:=n) (out:=fun _=>out) env (fun j r l m d b Q f=>by
  refine c2c d (out:=out) ?_ g b Q fun v w' i=>f v w' ⟨(),i⟩
  rw[<- c,<- b5b (ρ:=ρ) (ρ':=j) l];exact(b5c fun k q=>m k q).symm) (fun _=>e) p kok mr (fun _=>fresh) val
 intro b Q f;exact this b Q fun v w' i=>f v w' (by obtain⟨_,h⟩:=i;exact h)
end
structure FS where
 T:Nat->V
 G:Get
 n:Nat
def St.fs (s:St):FS:=⟨s.tmpV,s.get,s.n⟩
structure Res where
 v:V
 upd:List (Nat×Option Blk)
 run:Bool
def a4m (T:Nat->V):Operand->V
 |.tmp t=>T t
 |.const v=>b6D v
 |.func f => .val (.one (.fn f []))
 |.global _=>pois
theorem b6V (s:St):s.val=a4m s.fs.T:=by
 funext x;cases x<;>rfl
def c0l (T:Nat->V) (d:Option Nat) (v:V):Nat->V:=fun t=>if d=some t then v else T t
def a9k (ops:Array Oper) (g:Nat):Option Nat:=(ops[g]?).bind (·.dst)
structure a3D (Γ:Env) (ops:Array Oper) (o:Oper) (F:FS) (E:Ent) (X:Res) (F':FS):Prop where
 T:F'.T=c0l F.T o.dst X.v
 G:F'.G=a4p X.upd F.G
 dst:a6w Γ o.dst=true
 exec:X.run=true->(o.guard=none∨∃g want t,o.guard=some (g,want) /\ a9k ops g=some t /\ F.T t=a2g want) /\
  ∃ out,act Γ o (a4m F.T) F.G F.n=some out /\ out.ok=true /\ X.v=out.v /\ X.upd=out.upd /\ F'.n=out.n /\
    E=⟨a7D o (a4m F.T) F.G,out.upd.map (·.1),c8U o (a4m F.T) F.G F.n out.n⟩
 skip:X.run=false->(∃g want t,o.guard=some (g,want) /\ a9k ops g=some t /\ (F.T t=a2g (!want)∨F.T t = .tup [])) /\ X.v = .tup [] /\ X.upd=[] /\ F'.n=F.n /\ E=⟨[],[],true⟩
theorem b2q (s:St) (d:Option Nat) (v:V):(s.putO d v).fs.T=c0l s.fs.T d v:=by
 funext t;cases d with
 |none=>rfl
 | some e =>
   unfold c0l;show(s.put e v).tmpV t=_;unfold St.tmpV St.put;simp only[a1w];by_cases h:e=t
   ·subst h;simp
   ·rw[a1u h];simp[h];rfl
theorem a1p (s:St) (d:Option Nat) (v:V):(s.putO d v).fs.G=s.fs.G /\ (s.putO d v).fs.n=s.fs.n /\ (s.putO d v).m=s.m:=by
 cases d<;>exact⟨rfl,rfl,rfl⟩
theorem a4G (s:St) (t:Nat) (v:V) (h:s.tmpV t=v):(s.put t v).fs=s.fs:=by
 unfold St.fs;have:(s.put t v).tmpV=s.tmpV:=by
  funext j;unfold St.tmpV St.put at *;simp only[a1w];by_cases e:t=j
  ·subst e;simp;exact h.symm
  ·rw[a1u e]
 rw[this];rfl
theorem c2f (s:St) (out:Out):(s.apply out).fs.G=a4p out.upd s.fs.G:=by
 funext k;show(s.apply out).get k=a4p out.upd s.get k;unfold St.apply St.get a4p;dsimp only;rw[b6P];cases a1w out.upd k<;>rfl
section
variable {Γ:Env} {ops:Array Oper} {R:Type}
theorem a5N {o:Oper} {K:St->Ent->Option R} {s:St} {r:R} (h:c1t Γ o K s=some r) :
 ∃ out,act Γ o (a4m s.fs.T) s.fs.G s.fs.n=some out /\ out.ok=true /\ a6w Γ o.dst=true /\
   K ((s.apply out).putO o.dst out.v) ⟨a7D o (a4m s.fs.T) s.fs.G,out.upd.map (·.1),c8U o (a4m s.fs.T) s.fs.G s.fs.n out.n⟩=some r:=by
 unfold c1t at h;rw[b6V]at h;split at h
 ·cases h
 ·rename_i out b;split at h
  ·rename_i hd;split at h
   ·rename_i a;exact⟨out,b,a,hd,h⟩
   ·cases h
  ·cases h
theorem c0m {o:Oper} {K:St->Ent->Option R} {s:St} {r:R} (h:a6x Γ o K s=some r) :
 ∃ (s1:St) (out:Out),s1.fs=s.fs /\ s1.m=s.m /\ act Γ o (a4m s.fs.T) s.fs.G s.fs.n=some out /\ out.ok=true /\ a6w Γ o.dst=true /\
   K ((s1.apply out).putO o.dst out.v) ⟨a7D o (a4m s.fs.T) s.fs.G,out.upd.map (·.1),c8U o (a4m s.fs.T) s.fs.G s.fs.n out.n⟩=some r:=by
 unfold a6x at h;split at h
 ·split at h
  ·rename_i b g;cases b with
   | true =>
     obtain⟨out,a,d,e,c⟩:=a5N h;have f:=a4G s _ (a2g true) g;rw[f]at a c;exact⟨_,out,f,rfl,a,d,e,c⟩
   | false =>
     obtain⟨out,a,d,e,c⟩:=a5N h;have f:=a4G s _ (a2g false) g;rw[f]at a c;exact⟨_,out,f,rfl,a,d,e,c⟩
  ·cases h
 ·obtain⟨out,a,d,e,c⟩:=a5N h;exact⟨s,out,rfl,rfl,a,d,e,c⟩
theorem b2r {o:Oper} {K:St->Ent->Option R} {s:St} {r:R} (j:o.guard=none∨∃g want t,o.guard=some (g,want) /\ a9k ops g=some t /\ s.fs.T t=a2g want) (h:a6x Γ o K s=some r) :
 ∃a E X,a3D Γ ops o s.fs E X a.fs /\ a.m=s.m /\ K a E=some r:=by
 obtain⟨s1,out,b,k,c,d,f,i⟩:=c0m h;refine⟨_,_,⟨out.v,out.upd,true⟩,⟨?_,?_,f,fun _=>⟨j,out,c,d,rfl,rfl,?_,rfl⟩,(fun e=>by cases e)⟩,?_,i⟩
 ·rw[b2q];show c0l (s1.apply out).fs.T o.dst out.v=_;rw[show(s1.apply out).fs.T=s1.fs.T from rfl,b]
 ·rw[(a1p _ _ _).1,c2f,b]
 ·rw[(a1p _ _ _).2.1];rfl
 ·rw[(a1p _ _ _).2.2];exact k
theorem b2s {o:Oper} {K:St->Ent->Option R} {s:St} {r:R} (b:∃g want t,o.guard=some (g,want) /\ a9k ops g=some t /\ (s.fs.T t=a2g (!want)∨s.fs.T t = .tup [])) (h:a7l Γ o K s=some r) :
 ∃a E X,a3D Γ ops o s.fs E X a.fs /\ a.m=s.m /\ K a E=some r:=by
 unfold a7l at h;split at h
 ·rename_i hd;refine⟨_,_,⟨.tup [],[],false⟩,⟨b2q s o.dst _,?_,hd,(fun e=>by cases e),fun _=>⟨b,rfl,rfl,(a1p _ _ _).2.1,rfl⟩⟩,(a1p _ _ _).2.2,h⟩;rw[(a1p _ _ _).1];rfl
 ·cases h
theorem b2t {o:Oper} {L:List Oper} {s:St} {w:List Ent} {K:St->List Ent->Option R} {r:R} (h:a9B Γ ops (o::L) s w K=some r) :
 ∃a E X,a3D Γ ops o s.fs E X a.fs /\ a.m=s.m /\ a9B Γ ops L a (E::w) K=some r:=by
 unfold a9B at h;split at h
 ·rename_i f;exact b2r (.inl f) h
 ·rename_i g want f;split at h
  ·cases h
  ·rename_i t p;split at h
   ·rename_i b n;have j:s.fs.T t=a2g b:=n;have d:∀{s1:St} {K':St->Ent->Option R},s1.fs=s.fs->s1.m=s.m->∀c,b=c->(want=c->a6x Γ o K' s1=some r->∃a E X,a3D Γ ops o s.fs E X a.fs /\ a.m=s.m /\ K' a E=some r) /\
     (want=!c->a7l Γ o K' s1=some r->∃a E X,a3D Γ ops o s.fs E X a.fs /\ a.m=s.m /\ K' a E=some r):=by
     intro s1 K' i v c x;subst x;refine⟨fun q u=>?_,fun q u=>?_⟩
     ·obtain⟨a,E,X,k,l,m⟩:=b2r (ops:=ops) (.inr ⟨g,want,t,f,p,by rw[i,q];exact j⟩) u;exact⟨a,E,X,by rw[<- i];exact k,l.trans v,m⟩
     ·obtain⟨a,E,X,k,l,m⟩:=b2s (ops:=ops) ⟨g,want,t,f,p,.inl (by rw[i,q,Bool.not_not];exact j)⟩ u;exact⟨a,E,X,by rw[<- i];exact k,l.trans v,m⟩
    cases b with
    | true =>
      have e:=a4G s t (a2g true) j;cases want with
      |true=>exact(d e rfl true rfl).1 rfl h
      |false=>exact(d e rfl true rfl).2 rfl h
    | false =>
      have e:=a4G s t (a2g false) j;cases want with
      |true=>exact(d e rfl false rfl).2 rfl h
      |false=>exact(d e rfl false rfl).1 rfl h
   ·rename_i n;exact b2s ⟨g,want,t,f,p,.inr n⟩ h
   ·cases h
def d7Q {α:Type} (x:α) (f:Nat->α):Nat->α
 |0=>x
 |i+1=>f i
theorem b0S:∀(L:List Oper) {s:St} {b:List Ent} {K:St->List Ent->Option R} {r:R},a9B Γ ops L s b K=some r ->
 ∃ (F:Nat->FS) (E:Nat->Ent) (X:Nat->Res) (a:St),F 0=s.fs /\ F L.length=a.fs /\ a.m=s.m /\ (∀i o,L[i]?=some o->a3D Γ ops o (F i) (E i) (X i) (F (i+1))) /\
   K a (((List.range L.length).map E).reverse++b)=some r
 |[],s,b,K,r,h=>⟨fun _=>s.fs,fun _=>⟨[],[],true⟩,fun _=>⟨.tup [],[],true⟩,s,rfl,rfl,rfl,fun i o e=>by simp at e,by simpa[a9B]using h⟩
 | o::L,s,b,K,r,h=>by
   obtain⟨s1,c,d,l,m,n⟩:=b2t h;obtain⟨F,E,X,a,f,fl,j,k,g⟩:=b0S L n;refine⟨d7Q s.fs F,d7Q c E,d7Q d X,a,rfl,fl,j.trans m,?_,?_⟩
   ·intro i o' e;cases i with
    | zero =>
      simp only[List.getElem?_cons_zero,injEq]at e;subst e;show a3D Γ ops o s.fs c d (F 0);rw[f];exact l
    |succ i=>exact k i o' (by simpa using e)
   ·rw[<- g];congr 1;rw[List.length_cons,List.range_succ_eq_map,List.map_cons,List.map_map,List.reverse_cons,List.append_assoc];rfl
end
structure a4S where
 β:Bt
 K:Ks
 w:World
 m:Nat
 S:Nat->Prop
def a4S.J (z:a4S) (x:Nat):Prop:=z.S x∨Jk z.K x
theorem f1u {z:a4S} {β:Bt} {K:Ks} {get:Get} (own:∀x,Own β get x->z.S x∨z.w.heap.size<=x) (knew:∀b arr,K b=some arr->z.K b=some arr∨z.S b∨z.w.heap.size<=b) :
 ∀x,x<z.w.heap.size->d7F β K get x->z.J x:=by
 rintro x c (h|⟨arr,e⟩)
 ·exact .inl ((own x h).resolve_right (by omega))
 ·rcases knew x _ e with a|a|a
  ·exact .inr ⟨arr,a⟩
  ·exact .inl a
  ·omega
structure SRf (P:Program) (Γ:Env) (z:a4S) (β:Bt) (K:Ks) (F:FS) (a:Act) (w:World):Prop where
 tmp:∀t,VR β K (F.T t) (a.tmps.getD t undef)
 nt:a.tmps.size=Γ.nt
 defers:a.defers=[]
 kok:KOK K w
 mr:MR β K F.G w
 fresh:∀k,F.n<=k->β k=none
 kle:KLe z.K K
 knew:∀b arr,K b=some arr->z.K b=some arr∨z.S b∨z.w.heap.size<=b
 fr:Fr z.J z.w w
 own:∀x,Own β F.G x->z.S x∨z.w.heap.size<=x
 ble:∀k h,k<z.m->z.β k=some h->β k=some h
 le:z.m<=F.n
theorem a8g {β β':Bt} {K K':Ks} {a:Act} {Γ:Env} {T:Nat->V} {d:Option Nat} {x:V} {v:Value} (h:∀t,VR β K (T t) (a.tmps.getD t undef)) (f:BLe β β') (g:KLe K K') (b:a.tmps.size=Γ.nt) (hd:a6w Γ d=true) (k:VR β' K' x v) :
 (∀t,VR β' K' (c0l T d x t) ((a.put d v).tmps.getD t undef)) /\ (a.put d v).tmps.size=Γ.nt /\ (a.put d v).defers=a.defers:=by
 cases d with
 |none=>exact⟨fun t=>(h t).mono f g,b,rfl⟩
 | some e =>
   have j:e<a.tmps.size:=by rw[b];simpa[a6w,Nat.blt_eq]using hd
   refine⟨fun t=>?_,by simpa[Act.put]using b,rfl⟩;unfold c0l;by_cases c:e=t
   ·subst c;rw[if_pos rfl];have:(a.put (some e) v).tmps.getD e undef=v:=by simp[Act.put,j]
    rw[this];exact k
   ·rw[if_neg (fun i=>c (by cases i;rfl))];have:(a.put (some e) v).tmps.getD t undef=a.tmps.getD t undef:=by simp[Act.put,Array.getElem?_setIfInBounds_ne c]
    rw[this];exact(h t).mono f g
theorem b2u {β:Bt} {K:Ks} (v:Value):CR β K (b6C v) v:=by
 cases v with
 |bool b=>rfl
 |int k n=>rfl
 |float k b=>exact⟨b,rfl,FEq.refl k b⟩
 |complex k x y=>exact⟨x,y,rfl,FEq.refl k x,FEq.refl k y⟩
 |string s=>rfl
 |_=>trivial
theorem a8h {β:Bt} {K:Ks} (v:Value):VR β K (b6D v) v:=by
 have a:∀v,VR β K (.val (.one (b6C v))) v:=fun v=>b2u v
 cases v with
 | agg cs =>
   refine⟨cs,rfl,?_⟩;generalize cs.toList=l
   induction l with
   |nil=>trivial
   |cons x r b=>exact⟨b2u x,b⟩
 |_=>simp only[b6D];exact a _
theorem a8i {β:Bt} {K:Ks} {T:Nat->V} {a:Act} (h:∀t,VR β K (T t) (a.tmps.getD t undef)) (x:Operand):VR β K (a4m T x) (a.eval x):=by
 cases x with
 |tmp t=>exact h t
 |const v=>exact a8h v
 |global g=>exact a5k
 |func f=>exact⟨[],rfl,trivial⟩
section
variable {P:Program} {Γ:Env} {z:a4S} {ops:Array Oper} {Q:Exit->Act->World->Prop}
theorem a9K {a:Act} {g t:Nat} {b:Bool} (c:a9k ops g=some t) (h:a.tmps.getD t undef = .bool b):yielded ops a.tmps g=some b:=by
 have d:a.tmps[t]?=some (.bool b):=by
  cases hq:a.tmps[t]? with
  |none=>simp[hq,undef]at h
  |some v=>simp[hq]at h;rw[h]
 unfold yielded;unfold a9k at c;rw[c];simp[d]
theorem c2g {a:Act} {g t:Nat} {arr:Array Value} (b:a9k ops g=some t) (h:a.tmps.getD t undef = .tuple arr):yielded ops a.tmps g=none:=by
 unfold yielded;unfold a9k at b;rw[b];cases hq:a.tmps[t]? with
 |none=>simp[hq]
 |some v=>simp[hq]at h;simp[hq,h]
theorem a6F {β:Bt} {K:Ks} {a:Act} {o:Oper} {F F':FS} {E:Ent} {X:Res} {T:Nat->V} (h:a3D Γ ops o F E X F')
 (f:∀g want t,o.guard=some (g,want)->a9k ops g=some t->VR β K (F.T t) (a.tmps.getD t undef)):Region.wanted o (yielded ops a.tmps)=X.run:=by
 cases hr:X.run with
 | true =>
   rcases (h.exec hr).1 with b|⟨g,want,t,b,d,c⟩
   ·simp[Region.wanted,b]
   ·have:=f g want t b d;rw[c]at this;simp[Region.wanted,b,a9K d this]
 | false =>
   obtain⟨⟨g,want,t,b,d,c⟩,_⟩:=h.skip hr;have:=f g want t b d;rcases c with c|c
   ·rw[c]at this;simp[Region.wanted,b,a9K d this]
   ·rw[c]at this;obtain⟨arr,e,_⟩:=this;simp[Region.wanted,b,c2g d e]
theorem SRf.next {β β':Bt} {K K':Ks} {F F':FS} {a:Act} {w w':World} {d:Option Nat} {x:V} {v:Value} {out:Out} (h:SRf P Γ z β K F a w) (hd:a6w Γ d=true)
 (c:a7R β K F.G F.n w out v w' β' K') (o:F'.T=c0l F.T d out.v) (g:F'.G=a4p out.upd F.G) (i:F'.n=out.n):SRf P Γ z β' K' F' (a.put d v) w':=by
 obtain⟨l,m,n⟩:=a8g h.tmp c.ble c.kle h.nt hd c.vr;refine⟨by rw[o];exact l,m,n.trans h.defers,c.kok,by rw[g];exact c.mr,by rw[i];exact c.fresh,h.kle.trans c.kle,?_,?_,?_,fun k y p e=>c.ble _ _ (h.ble k y p e),by rw[i];exact Nat.le_trans h.le c.le⟩
 ·intro b arr e;rcases c.knew b arr e with f|f|f
  ·exact h.knew b arr f
  ·exact .inr (h.own b f)
  ·exact .inr (.inr (Nat.le_trans h.fr.size f))
 ·exact h.fr.trans c.fr (f1u h.own h.knew)
 ·intro x j;rw[g]at j;rcases c.own x j with f|f
  ·exact h.own x f
  ·exact .inr (Nat.le_trans h.fr.size f)
theorem SRf.skip {β:Bt} {K:Ks} {F F':FS} {a:Act} {w:World} {d:Option Nat} (h:SRf P Γ z β K F a w) (hd:a6w Γ d=true) (i:F'.T=c0l F.T d (.tup [])) (b:F'.G=F.G) (c:F'.n=F.n) :
 SRf P Γ z β K F' (a.put d undef) w:=by
 obtain⟨e,f,g⟩:=a8g (x := .tup []) (v:=undef) h.tmp (BLe.refl β) (KLe.refl K) h.nt hd ⟨#[],rfl,trivial⟩;exact⟨by rw[i];exact e,f,g.trans h.defers,h.kok,by rw[b];exact h.mr,by rw[c];exact h.fresh,h.kle,h.knew,h.fr,by rw[b];exact h.own,h.ble,by rw[c];exact h.le⟩
theorem b5d (env:a1o P Γ) {F:Nat->FS} {E:Nat->Ent} {X:Nat->Res} (s:∀i o,ops[i]?=some o->a3D Γ ops o (F i) (E i) (X i) (F (i+1)))
 (q:∀β K a w,SRf P Γ z β K (F ops.size) a w->Q .normal a w):∀(k i:Nat),i+k=ops.size->∀β K a w,SRf P Γ z β K (F i) a w->wpOps P ops Q (List.range' i k) a w:=by
 intro k
 induction k with
 | zero =>
   intro i r β K a w h;have:i=ops.size:=by omega
   subst this;exact q β K a w h
 | succ k l =>
   intro i r β K a w h;rw[List.range'_succ,wpOps_cons];have f:i<ops.size:=by omega
   have j:ops[i]?=some ops[i]:=Array.getElem?_eq_getElem f;have b:=s i _ j;have u:=a6F (β:=β) (K:=K) (a:=a) (T:=(F i).T) b fun _ _ t _ _=>h.tmp t
   unfold wpOp;rw[j];dsimp only;rw[u];cases hr:(X i).run with
   | true =>
     rw[if_pos rfl];left;obtain⟨_,out,c,d,e,m,p,_⟩:=b.exec hr;refine c2c (ρ:=a4m (F i).T) (get:=(F i).G) (n:=(F i).n) ⟨env,h.kok,h.mr,h.fresh,fun x=>a8i h.tmp x⟩ c d _ _ fun v w' g=>?_
     obtain⟨β',K',g⟩:=g;exact l (i+1) (by omega) β' K' _ _ (h.next (x:=out.v) b.dst g (by rw[b.T,e]) (by rw[b.G,m]) p)
   | false =>
     rw[if_neg (by simp)];obtain⟨_,c,d,e,_⟩:=b.skip hr;exact l (i+1) (by omega) β K _ _ (h.skip b.dst (by rw[b.T,c]) (by rw[b.G,d];rfl) e)
def TD (T0:Nat->V) (dst:Nat->Option Nat) (v:Nat->V) (D:Nat->Bool):Nat->Nat->V
 |0,t=>T0 t
 |i+1,t=>if D i=true /\ dst i=some t then v i else TD T0 dst v D i t
def GD (G0:Get) (upd:Nat->List (Nat×Option Blk)) (D:Nat->Bool):Nat->Get
 |0=>G0
 |i+1=>if D i=true then a4p (upd i) (GD G0 upd D i)else GD G0 upd D i
def a9s (D:Nat->Bool) (i:Nat):Nat->Bool:=fun k=>D k||beq k i
section
variable {T0:Nat->V} {dst:Nat->Option Nat} {vs:Nat->V} {G0:Get} {upd:Nat->List (Nat×Option Blk)} {D D':Nat->Bool}
theorem a5O {t:Nat}:∀(N:Nat),(∀p,p<N->dst p=some t->D p=D' p)->TD T0 dst vs D N t=TD T0 dst vs D' N t
 |0,_=>rfl
 | N+1,h=>by
   simp only[TD];rw[a5O N fun p a e=>h p (by omega) e];by_cases e:dst N=some t
   ·rw[h N (by omega) e]
   ·rw[if_neg (fun h=>e h.2),if_neg (fun h=>e h.2)]
theorem b2v {α:Type}:∀{l:List (Nat×α)} {k:Nat},k ∉ l.map (·.1)->a1w l k=none
 |[],k,_=>rfl
 | (j,x)::r,k,h=>by
   simp only[List.map_cons,List.mem_cons,not_or]at h;simp only[a1w];rw[a1u (fun e=>h.1 e.symm)];exact b2v h.2
theorem a4H {l:List (Nat×Option Blk)} {g:Get} {k:Nat} (h:k ∉ l.map (·.1)):a4p l g k=g k:=by
 unfold a4p;rw[b2v h]
theorem b5e {l:List (Nat×Option Blk)} {g a:Get} {k:Nat} (h:g k=a k):a4p l g k=a4p l a k:=by
 unfold a4p;rw[h]
theorem a5P {k:Nat}:∀(N:Nat),(∀p,p<N->k∈(upd p).map (·.1)->D p=D' p)->GD G0 upd D N k=GD G0 upd D' N k
 |0,_=>rfl
 | N + 1,h=>by
   have a:=a5P N fun p d e=>h p (by omega) e
   simp only[GD];by_cases e:k∈(upd N).map (·.1)
   ·rw[h N (by omega) e];split
    ·exact b5e a
    ·exact a
   ·have b:∀(g:Get),(if D N=true then a4p (upd N) g else g) k=g k:=by
     intro g;split
     ·exact a4H e
     ·rfl
    have c:∀(g:Get),(if D' N=true then a4p (upd N) g else g) k=g k:=by
     intro g;split
     ·exact a4H e
     ·rfl
    rw[b,c,a]
theorem a2V {i p:Nat} (h:p≠i):a9s D i p=D p:=by simp[a9s,a1u h]
theorem a1V {i:Nat}:a9s D i i=true:=by simp[a9s]
theorem d2G {i:Nat} {t:Nat} (b:D i=false):∀(N:Nat),i<N->(∀p,i<p->p<N->D p=true->∀t,dst i=some t->dst p≠some t) ->
 TD T0 dst vs (a9s D i) N t=c0l (TD T0 dst vs D N) (dst i) (vs i) t
 |0,h,_=>by omega
 | N+1,hlt,h=>by
   by_cases a:i=N
   ·subst a;simp only[TD,a1V,b,true_and,Bool.false_eq_true,false_and,if_false,c0l];rw[a5O (D':=D) i fun p j _=>a2V (by omega)]
   ·have f:=d2G (t:=t) b N (by omega) fun p d g=>h p d (by omega)
    simp only[TD];rw[a2V (fun e=>a e.symm),f];unfold c0l;dsimp only;by_cases e:D N=true /\ dst N=some t
    ·rw[if_pos e,if_neg fun c=>h N (by omega) (by omega) e.1 t c e.2,if_pos e]
    ·rw[if_neg e,if_neg e]
theorem d2H {i:Nat} {k:Nat} (g:D i=false):∀(N:Nat),i<N->(∀p,i<p->p<N->D p=true->k∈(upd i).map (·.1)->k ∉ (upd p).map (·.1)) ->
 GD G0 upd (a9s D i) N k=a4p (upd i) (GD G0 upd D N) k
 |0,h,_=>by omega
 | N + 1,hlt,h=>by
   by_cases f:i=N
   ·subst f;simp only[GD,a1V,g,Bool.false_eq_true,if_false,if_true];exact b5e (a5P (D':=D) i fun p m _=>a2V (by omega))
   ·have c:=d2H (k:=k) g N (by omega) fun p j l=>h p j (by omega)
    simp only[GD];rw[a2V (fun e=>f e.symm)];cases hD:D N with
    |false=>simp only[Bool.false_eq_true,if_false];exact c
    | true =>
      simp only[if_true];by_cases d:k∈(upd i).map (·.1)
      ·have a:=h N (by omega) (by omega) hD d;rw[a4H a,c];unfold a4p;cases hl:a1w (upd i) k with
       |some b=>rfl
       | none =>
         dsimp only;exact(a4H a).symm
      ·rw[a4H d];rw[a4H d]at c;exact b5e c
theorem c2h {i:Nat} {t:Nat}:∀(N:Nat),i<=N->TD T0 dst vs (fun p=>Nat.blt p i) N t=TD T0 dst vs (fun _=>true) i t
 | 0,h=>by
   have:i=0:=by omega
   subst this;rfl
 | N+1,h=>by
   by_cases a:i=N+1
   ·subst a;exact a5O _ fun p b _=>by simpa[Nat.blt_eq]using b
   ·simp only[TD];rw[if_neg (fun e=>by have:=e.1;simp[Nat.blt_eq]at this;omega)];exact c2h N (by omega)
theorem c2i {i:Nat}:∀(N:Nat),i<=N->GD G0 upd (fun p=>Nat.blt p i) N=GD G0 upd (fun _=>true) i
 | 0,h=>by
   have:i=0:=by omega
   subst this;rfl
 | N+1,h=>by
   by_cases a:i=N+1
   ·subst a;funext k;exact a5P _ fun p b _=>by simpa[Nat.blt_eq]using b
   ·simp only[GD];rw[if_neg (fun e=>by simp[Nat.blt_eq]at e;omega)];exact c2i N (by omega)
end
def a7r (D:Nat->Bool) (o:Oper):Prop:=∀e∈o.after,Region.binds .any e=true->D e.on=true
theorem a8j {a:List Nat} {j:Nat}:∀{l:List Edge},(b9Z a l).testBit j=true->∃e∈l,Region.binds .any e=true /\ (j=e.on∨(a.getD e.on 0).testBit j=true)
 |[],h=>by simp[b9Z]at h
 | e :: r,h=>by
   unfold b9Z at h;split at h
   ·rename_i f;simp only[Nat.lor_eq,Nat.shiftLeft_eq',Nat.testBit_or,Bool.or_eq_true]at h;rcases h with(h|h)|h
    ·refine⟨e,List.mem_cons_self ..,f,.inl ?_⟩;rw[Nat.one_shiftLeft,Nat.testBit_two_pow]at h;simpa using(of_decide_eq_true h).symm
    ·exact⟨e,List.mem_cons_self ..,f,.inr h⟩
    ·obtain⟨b,c,d⟩:=a8j h;exact⟨b,List.mem_cons_of_mem _ c,d⟩
   ·obtain⟨b,c,d⟩:=a8j h;exact⟨b,List.mem_cons_of_mem _ c,d⟩
theorem b0T {D:Nat->Bool}:∀(L:List Oper) (a:List Nat),(∀i o,L[i]?=some o->D (a.length+i)=true->a7r D o)->(∀p x,a[p]?=some x->D p=true->∀j,x.testBit j=true->D j=true) ->
 ∀p x,(c1E L a)[p]?=some x->D p=true->∀j,x.testBit j=true->D j=true
 |[],a,_,h=>h
 | o :: L,a,hc,h=>by
   unfold c1E;refine b0T L _ ?_ ?_
   ·intro i o' e c;refine hc (i+1) o' (by simpa using e) ?_;rw[<- c];congr 1;simp;omega
   ·intro p x e c j l;rw[List.getElem?_append]at e;split at e
    ·exact h p x e c j l
    ·rename_i q;have d:p-a.length=0:=by
      have:=(List.getElem?_eq_some_iff.1 e).1;simpa using this
     rw[d]at e;simp only[List.getElem?_cons_zero,injEq]at e;subst e;have f:p=a.length:=by omega
     subst f;obtain⟨g,m,n,b⟩:=a8j l;have k:=hc 0 o rfl (by simpa using c) g (by simpa using m) n;rcases b with rfl|b
     ·exact k
     ·rw[List.getD_eq_getElem?_getD]at b;cases hq:a[g.on]? with
      |none=>rw[hq]at b;simp at b
      | some y =>
        rw[hq]at b;exact h _ y hq k j (by simpa using b)
theorem a3W:∀(L:List Oper) (a:List Nat),(c1E L a).length=a.length+L.length
 |[],a=>by simp[c1E]
 |o::L,a=>by unfold c1E;rw[a3W L];simp;omega
def c2j (ops:Array Oper) (a j:Nat) (o o':Oper) (e b:Ent):Prop:=a.testBit j=true∨(c8V e b=true /\ b6F ops o o'=true)
theorem a5Q {a:Nat} {o:Oper} {e:Ent}:∀{l:List (Nat×Oper×Ent)},a7E ops a o e l=true->∀j o' c,(j,o',c)∈l->c2j ops a j o o' e c
 |[],_,_,_,_,h=>by cases h
 | (i,x,y)::r,h,j,o',c,b=>by
   simp only[a7E,and_eq_true]at h;rcases List.mem_cons.1 b with b|b
   ·have d:=h.1;have g:j=i:=congrArg (fun x:Nat×Oper×Ent=>x.1) b;have k:o'=x:=congrArg (fun x:Nat×Oper×Ent=>x.2.1) b;have f:c=y:=congrArg (fun x:Nat×Oper×Ent=>x.2.2) b;rw[g,k,f];cases hb:Nat.testBit a i with
    |true=>exact .inl hb
    | false =>
      rw[hb]at d;exact .inr (by simpa using d)
   ·exact a5Q h.2 j o' c b
theorem a8k:∀{as1:List Nat} {L:List Oper} {d:List Ent} {i:Nat} {b:List (Nat×Oper×Ent)},b6G ops as1 (b0I i L d) b=true->∀p a o e,as1[p]?=some a->L[p]?=some o->d[p]?=some e ->
 (∀j o' c,(j,o',c)∈b->c2j ops a j o o' e c) /\ ∀q o' c,q<p->L[q]?=some o'->d[q]?=some c->c2j ops a (i+q) o o' e c
 |[],_,_,_,_,_,_,_,_,_,h,_,_=>by simp at h
 |_::_,[],_,_,_,_,_,_,_,_,_,h,_=>by simp at h
 |_::_,_::_,[],_,_,_,_,_,_,_,_,_,h=>by simp at h
 | a0::as1,o0::L,e0::d,i,b,h,p,a,o,e,h1,h2,h3=>by
   simp only[b0I,b6G,and_eq_true]at h;cases p with
   | zero =>
     simp only[List.getElem?_cons_zero,injEq]at h1 h2 h3;subst h1;subst h2;subst h3;exact⟨a5Q h.1,fun q _ _ n=>by omega⟩
   | succ p =>
     obtain⟨k,l⟩:=a8k h.2 p a o e (by simpa using h1) (by simpa using h2) (by simpa using h3);refine⟨fun j o' c m=>k j o' c (List.mem_cons_of_mem _ m),fun q o' c n f g=>?_⟩;cases q with
     | zero =>
       simp only[List.getElem?_cons_zero,injEq]at f g;subst f;subst g;exact k i o0 e0 (List.mem_cons_self ..)
     | succ q =>
       have:=l q o' c (by omega) (by simpa using f) (by simpa using g);rw[show i+(q+1)=i+1+q by omega];exact this
theorem a8l:∀{L:List Oper} {i:Nat},b6H i L=true->∀p o,L[p]?=some o->∀e∈o.after,Region.binds .any e=true->e.on<i+p
 |[],_,_,_,_,h,_,_,_=>by simp at h
 | o0::L,i,h,p,o,ho,e,he,hb=>by
   simp only[b6H,and_eq_true,List.all_eq_true]at h;cases p with
   | zero =>
     simp only[List.getElem?_cons_zero,injEq]at ho;subst ho;have:=h.1 e (by simpa using he);rw[hb]at this;simpa[Nat.blt_eq]using this
   | succ p =>
     have:=a8l h.2 p o (by simpa using ho) e he hb;omega
theorem a5R:∀{l l':List Nat},e1K l l'=true->∀k∈l,k ∉ l'
 |[],_,_,_,h=>by cases h
 | x::r,l',h,k,a=>by
   unfold e1K at h;split at h
   ·cases h
   ·rename_i b;rcases List.mem_cons.1 a with rfl|a
    ·exact a3A b
    ·exact a5R h k a
structure e2O (a b:Ent):Prop where
 fu:∀k∈a.fp,k ∉ b.up
 uf:∀k∈b.fp,k ∉ a.up
 uu:∀k∈a.up,k ∉ b.up
theorem c0n {a b:Ent} (h:c8V a b=true):e2O a b:=by
 simp only[c8V,and_eq_true]at h;exact⟨a5R h.1.1,a5R h.1.2,a5R h.2⟩
structure e2P (ops:Array Oper) (x y:Oper):Prop where
 xy:∀d,x.dst=some d->d ∉ looks ops y
 yx:∀d,y.dst=some d->d ∉ looks ops x
 dd:∀d,x.dst=some d->y.dst≠some d
theorem c0o {x y:Oper} (h:b6F ops x y=true):e2P ops x y:=by
 simp only[b6F,and_eq_true]at h;refine⟨fun d hd=>?_,fun d hd=>?_,fun d hd a=>?_⟩
 ·have:=h.1.1;rw[hd]at this;exact a3A (by simpa using this)
 ·have:=h.1.2;rw[hd]at this;exact a3A (by simpa using this)
 ·have:=h.2;rw[hd,a]at this;simp at this
structure f7Y (ops:Array Oper) (E:Nat->Ent) (i j:Nat):Prop where
 ind:e2O (E i) (E j)
 apart:∀o o',ops[i]?=some o->ops[j]?=some o'->e2P ops o o'
theorem b2w {E:Nat->Ent} (h:b2a ops (((List.range ops.size).map E).reverse++[])=true) :
 (∀(D:Nat->Bool),(∀i o,ops[i]?=some o->D i=true->a7r D o)->∀i j,j<i->i<ops.size->D i=true->D j=false->f7Y ops E i j) /\
 (∀i o,ops[i]?=some o->∀e∈o.after,Region.binds .any e=true->e.on<i) /\ ∀i,i<ops.size->(E i).kb=true:=by
 simp only[b2a,List.append_nil,List.reverse_reverse,and_eq_true]at h;obtain⟨⟨t,u⟩,v⟩:=h;refine⟨?_,?_,?_⟩
 ·intro D w i j z a c d;have b:i<(c1E ops.toList []).length:=by rw[a3W];simpa using a
  have s:=List.getElem?_eq_getElem b;have n:ops.toList[i]?=some ops[i]:=by rw[Array.getElem?_toList];exact Array.getElem?_eq_getElem a
  have q:ops.toList[j]?=some ops[j]:=by rw[Array.getElem?_toList];exact Array.getElem?_eq_getElem (by omega)
  have l:((List.range ops.size).map E)[i]?=some (E i):=by simp[a]
  have m:((List.range ops.size).map E)[j]?=some (E j):=by rw[List.getElem?_map,List.getElem?_range (by omega)];rfl
  have:=(a8k t i _ _ _ s n l).2 j _ _ z q m;rw[Nat.zero_add]at this;rcases this with f|⟨g,k⟩
  ·have:=b0T (D:=D) ops.toList [] (fun i o e hd=>w i o (by rw[<- Array.getElem?_toList];exact e) (by simpa using hd)) (fun p x e=>by simp at e) i _ s c j f;rw[d]at this;cases this
  ·refine⟨c0n g,fun o o' e r=>?_⟩;rw[Array.getElem?_eq_getElem a]at e;rw[Array.getElem?_eq_getElem (by omega)]at r;cases e;cases r;exact c0o k
 ·intro i o A e y f;have:=a8l u i o (by rw[Array.getElem?_toList];exact A) e y f;omega
 ·intro i a;have:=List.all_eq_true.1 v (E i) (by
   rw[List.mem_reverse,List.mem_map];exact⟨i,by simpa using a,rfl⟩)
  exact this
end
def cnt (D:Nat->Bool):Nat->Nat
 |0=>0
 |i+1=>(if D i=true then 0 else 1)+cnt D i
theorem b0U {D:Nat->Bool}:∀{N:Nat},cnt D N=0->∀i,i<N->D i=true
 |0,_,_,h=>by omega
 | N+1,h,i,hi=>by
   simp only[cnt]at h;by_cases e:D N=true
   ·rw[if_pos e]at h;by_cases a:i=N
    ·subst a;exact e
    ·exact b0U (N:=N) (D:=D) (by omega) i (by omega)
   ·rw[if_neg e]at h;omega
theorem b2x {D D':Nat->Bool}:∀{N:Nat},(∀i,i<N->D i=D' i)->cnt D N=cnt D' N
 |0,_=>rfl
 | N+1,h=>by
   simp only[cnt];rw[h N (by omega),b2x fun i a=>h i (by omega)]
theorem b5f {D:Nat->Bool} {i:Nat} (b:D i=false):∀{N:Nat},i<N->cnt (a9s D i) N+1=cnt D N
 |0,h=>by omega
 | N+1,h=>by
   simp only[cnt];by_cases a:i=N
   ·subst a;rw[a1V,b,b2x (D':=D) fun j c=>a2V (by omega)];simp;omega
   ·have:=b5f b (N:=N) (by omega);rw[a2V (fun e=>a e.symm)];omega
section
variable {P:Program} {Γ:Env} {z:a4S} {ops:Array Oper} {Q:Exit->Act->World->Prop} {F:Nat->FS} {E:Nat->Ent} {X:Nat->Res}
structure Rgn (Γ:Env) (ops:Array Oper) (F:Nat->FS) (E:Nat->Ent) (X:Nat->Res):Prop where
 step:∀i o,ops[i]?=some o->a3D Γ ops o (F i) (E i) (X i) (F (i+1))
 both:∀(D:Nat->Bool),(∀i o,ops[i]?=some o->D i=true->a7r D o)->∀i j,j<i->i<ops.size->D i=true->D j=false->f7Y ops E i j
 edge:∀i o,ops[i]?=some o->∀e∈o.after,Region.binds .any e=true->e.on<i
 kb:∀i,i<ops.size->(E i).kb=true
abbrev TX (ops:Array Oper) (F:Nat->FS) (X:Nat->Res) (D:Nat->Bool):Nat->V:=TD (F 0).T (a9k ops) (fun i=>(X i).v) D ops.size
abbrev GX (ops:Array Oper) (F:Nat->FS) (X:Nat->Res) (D:Nat->Bool):Get:=GD (F 0).G (fun i=>(X i).upd) D ops.size
theorem a8m {i:Nat} {o:Oper} (h:ops[i]?=some o):a9k ops i=o.dst:=by unfold a9k;rw[h];rfl
theorem Rgn.up (R:Rgn Γ ops F E X) {i:Nat} {o:Oper} (h:ops[i]?=some o):(E i).up=(X i).upd.map (·.1):=by
 have c:=R.step i o h;cases hr:(X i).run with
 |true=>obtain⟨_,out,_,_,_,a,_,b⟩:=c.exec hr;rw[b,a]
 |false=>obtain⟨_,_,a,_,b⟩:=c.skip hr;rw[b,a];rfl
theorem Rgn.T (R:Rgn Γ ops F E X):∀i,i<=ops.size->(F i).T=TD (F 0).T (a9k ops) (fun i=>(X i).v) (fun _=>true) i
 |0,_=>rfl
 | i+1,h=>by
   have a:ops[i]?=some ops[i]:=Array.getElem?_eq_getElem (by omega);rw[(R.step i _ a).T,R.T i (by omega)];funext t;simp only[TD,c0l,a8m a,true_and]
theorem Rgn.G (R:Rgn Γ ops F E X):∀i,i<=ops.size->(F i).G=GD (F 0).G (fun i=>(X i).upd) (fun _=>true) i
 |0,_=>rfl
 | i+1,h=>by
   have a:ops[i]?=some ops[i]:=Array.getElem?_eq_getElem (by omega);rw[(R.step i _ a).G,R.G i (by omega)];simp only[GD,if_true]
theorem Rgn.n1 (R:Rgn Γ ops F E X) {i:Nat} (h:i<ops.size):(F i).n<=(F (i+1)).n:=by
 have d:ops[i]?=some ops[i]:=Array.getElem?_eq_getElem h;have b:=R.step i _ d;cases hr:(X i).run with
 | true =>
   obtain⟨_,out,_,_,_,_,a,c⟩:=b.exec hr;have:=R.kb i h;rw[c]at this;simp only[c8U,and_eq_true]at this;rw[a];simpa using this.1.1.1
 |false=>obtain⟨_,_,_,a,_⟩:=b.skip hr;omega
theorem Rgn.n (R:Rgn Γ ops F E X) {i:Nat}:∀{j:Nat},i<=j->j<=ops.size->(F i).n<=(F j).n
 | 0,h,_=>by
   have:i=0:=by omega
   subst this;exact le_refl _
 | j+1,h,h'=>by
   by_cases e:i=j+1
   ·subst e;exact le_refl _
   ·exact Nat.le_trans (R.n (j:=j) (by omega) (by omega)) (R.n1 (by omega))
def a2u (ops:Array Oper) (D:Nat->Bool):Prop:=∀i o,ops[i]?=some o->D i=true->a7r D o
theorem a2u.add {D:Nat->Bool} (h:a2u ops D) {i:Nat} {o:Oper} (k:ops[i]?=some o) (g:a7r D o):a2u ops (a9s D i):=by
 intro j o' c d e f a;by_cases b:j=i
 ·subst b;rw[k]at c;cases c;simp[a9s,g e f a]
 ·rw[a2V b]at d;simp[a9s,h j o' c d e f a]
theorem Rgn.lookT (R:Rgn Γ ops F E X) {D:Nat->Bool} {i:Nat} {o:Oper} (f:a2u ops D) (b:ops[i]?=some o) (k:a7r D o) (d:D i=false) {t:Nat} (j:t∈looks ops o):TX ops F X D t=(F i).T t:=by
 have c:i<ops.size:=(Array.getElem?_eq_some_iff.1 b).1;rw[R.T i (by omega),<- c2h (T0:=(F 0).T) (dst:=a9k ops) (vs:=fun i=>(X i).v) (t:=t) ops.size (by omega)];refine a5O _ fun p g e=>?_
 have a:ops[p]?=some ops[p]:=Array.getElem?_eq_getElem g;rw[a8m a]at e;rcases Nat.lt_trichotomy p i with h|h|h
 ·rw[show Nat.blt p i=true by simpa[Nat.blt_eq]using h];cases hq:D p with
  |true=>rfl
  | false =>
    have:=R.both _ (f.add b k) i p h c a1V (by rw[a2V (by omega)];exact hq);exact absurd j ((this.apart _ _ b a).yx t e)
 ·subst h;rw[d];exact(Bool.eq_false_iff.2 fun e=>by rw[Nat.blt_eq]at e;omega).symm
 ·rw[show Nat.blt p i=false by
   cases hq:Nat.blt p i with
   |false=>rfl
   |true=>rw[Nat.blt_eq]at hq;omega]
  cases hq:D p with
  |false=>rfl
  | true =>
    have:=R.both D f p i h g hq d;exact absurd j ((this.apart _ _ a b).xy t e)
theorem Rgn.lookG (R:Rgn Γ ops F E X) {D:Nat->Bool} {i:Nat} {o:Oper} (d:a2u ops D) (f:ops[i]?=some o) (l:a7r D o) (c:D i=false) {k:Nat} (g:k∈(E i).fp):GX ops F X D k=(F i).G k:=by
 have a:i<ops.size:=(Array.getElem?_eq_some_iff.1 f).1;rw[R.G i (by omega),<- c2i (G0:=(F 0).G) (upd:=fun i=>(X i).upd) ops.size (by omega)];refine a5P _ fun p j e=>?_
 have b:ops[p]?=some ops[p]:=Array.getElem?_eq_getElem j;rw[<- R.up b]at e;rcases Nat.lt_trichotomy p i with h|h|h
 ·rw[show Nat.blt p i=true by simpa[Nat.blt_eq]using h];cases hq:D p with
  |true=>rfl
  | false =>
    have:=R.both _ (d.add f l) i p h a a1V (by rw[a2V (by omega)];exact hq);exact absurd e (this.ind.fu k g)
 ·subst h;rw[c];exact(Bool.eq_false_iff.2 fun e=>by rw[Nat.blt_eq]at e;omega).symm
 ·rw[show Nat.blt p i=false by
   cases hq:Nat.blt p i with
   |false=>rfl
   |true=>rw[Nat.blt_eq]at hq;omega]
  cases hq:D p with
  |false=>rfl
  | true =>
    have:=R.both D d p i h j hq c;exact absurd e (this.ind.uf k g)
theorem Rgn.addT (R:Rgn Γ ops F E X) {D:Nat->Bool} {i:Nat} {o:Oper} (k:a2u ops D) (b:ops[i]?=some o) (g:D i=false):TX ops F X (a9s D i)=c0l (TX ops F X D) o.dst (X i).v:=by
 have c:i<ops.size:=(Array.getElem?_eq_some_iff.1 b).1;funext t;rw[<- a8m b];refine d2G g _ c fun p h f j t e d=>?_
 have a:ops[p]?=some ops[p]:=Array.getElem?_eq_getElem f;rw[a8m b]at e;rw[a8m a]at d;exact((R.both D k p i h f j g).apart _ _ a b).dd t d e
theorem Rgn.addG (R:Rgn Γ ops F E X) {D:Nat->Bool} {i:Nat} {o:Oper} (l:a2u ops D) (g:ops[i]?=some o) (f:D i=false):GX ops F X (a9s D i)=a4p (X i).upd (GX ops F X D):=by
 have a:i<ops.size:=(Array.getElem?_eq_some_iff.1 g).1;funext k;refine d2H f _ a fun p h d j e c=>?_
 have b:ops[p]?=some ops[p]:=Array.getElem?_eq_getElem d;rw[<- R.up g]at e;rw[<- R.up b]at c;exact(R.both D l p i h d j f).ind.uu k c e
structure DS (P:Program) (Γ:Env) (z:a4S) (ops:Array Oper) (F:Nat->FS) (X:Nat->Res) (D:Nat->Bool) (β:Bt) (K:Ks) (a:Act) (w:World):Prop where
 tmp:∀t,VR β K (TX ops F X D t) (a.tmps.getD t undef)
 nt:a.tmps.size=Γ.nt
 defers:a.defers=[]
 kok:KOK K w
 mr:MR β K (GX ops F X D) w
 dom:∀k,β k≠none->k<(F 0).n∨∃i,i<ops.size /\ D i=true /\ (F i).n<=k /\ k<(F (i+1)).n
 kle:KLe z.K K
 knew:∀b arr,K b=some arr->z.K b=some arr∨z.S b∨z.w.heap.size<=b
 fr:Fr z.J z.w w
 own:∀x,Own β (GX ops F X D) x->z.S x∨z.w.heap.size<=x
 ble:∀k h,k<z.m->z.β k=some h->β k=some h
 le:z.m<=(F 0).n
theorem DS.free (R:Rgn Γ ops F E X) {D:Nat->Bool} {β:Bt} {K:Ks} {a:Act} {w:World} (h:DS P Γ z ops F X D β K a w) {i:Nat} (f:i<ops.size) (c:D i=false):∀k,(F i).n<=k->k<(F (i+1)).n->β k=none:=by
 intro k d e;cases hq:β k with
 |none=>rfl
 | some y =>
   exfalso;rcases h.dom k (by rw[hq];simp)with h3|⟨j,h3,h4,h5,h6⟩
   ·have:=R.n (i:=0) (j:=i) (by omega) (by omega);omega
   ·rcases Nat.lt_trichotomy j i with b|b|b
    ·have:=R.n (i:=j+1) (j:=i) (by omega) (by omega);omega
    ·subst b;rw[c]at h4;cases h4
    ·have:=R.n (i:=i+1) (j:=j) (by omega) (by omega);omega
theorem DS.step {L:Env} (env:a1o P L) (R:Rgn Γ ops F E X) {D:Nat->Bool} {β:Bt} {K:Ks} {a:Act} {w:World} (h:DS P Γ z ops F X D β K a w) (B:a2u ops D) {i:Nat} {o:Oper} (p:ops[i]?=some o) (Y:∀T G n,act Γ o (a4m T) G n=act L o (a4m T) G n) (hb:a7r D o) (q:D i=false)
 {r:Act->World->Prop} (hn:∀β K a w,DS P Γ z ops F X (a9s D i) β K a w->r a w):wpOp P ops Q i r a w:=by
 have I:i<ops.size:=(Array.getElem?_eq_some_iff.1 p).1;have J:=R.step i o p;have m:∀t,t∈looks ops o->VR β K ((F i).T t) (a.tmps.getD t undef):=fun t N=>by rw[<- R.lookT B p hb q N];exact h.tmp t
 have hw:=a6F (β:=β) (K:=K) (a:=a) (T:=(F i).T) J fun g want t hg N=>m t (by
  unfold looks;rw[hg];dsimp only;unfold a9k at N;rw[N];exact List.mem_append_right _ (List.mem_singleton.2 rfl))
 unfold wpOp;rw[p];dsimp only;rw[hw];cases hr:(X i).run with
 | true =>
   rw[if_pos rfl];left;obtain⟨_,out,M,W,h3,h4,h5,h6⟩:=J.exec hr;have H:=R.kb i I;have Z:(E i).fp=a7D o (a4m (F i).T) (F i).G:=by rw[h6]
   rw[h6]at H;dsimp only at H;rw[Y]at M;refine e2N (Gc:=GX ops F X D) (β:=β) (K:=K) env M W H (fun k C=>R.lookG B p hb q (by rw[Z];exact C)) h.kok h.mr (by rw[<- h5];exact h.free R I q) ?_ _ _ fun v w' l=>?_
   ·intro x O;cases x with
    | tmp t =>
      refine m t ?_;unfold looks c1F;exact List.mem_append_left _ (List.mem_filterMap.2 ⟨.tmp t,by simpa using O,rfl⟩)
    |const v=>exact a8h v
    |global g=>exact a5k
    |func f=>exact⟨[],rfl,trivial⟩
   ·obtain⟨β',K',l⟩:=l;obtain⟨S,U,V⟩:=a8g (Γ:=Γ) (d:=o.dst) (x:=out.v) (v:=v) h.tmp l.ble l.kle h.nt J.dst l.vr;refine hn β' K' _ _ ⟨?_,U,V.trans h.defers,l.kok,?_,?_,h.kle.trans l.kle,?_,?_,?_,fun k y C e=>l.ble _ _ (h.ble k y C e),h.le⟩
    ·rw[R.addT B p q,h3];exact S
    ·rw[R.addG B p q,h4];exact l.mr
    ·intro k C;rcases l.dom k C with c|⟨c,h8⟩
     ·rcases h.dom k c with A|⟨j,A,s,u⟩
      ·exact .inl A
      ·exact .inr ⟨j,A,by simp[a9s,s],u⟩
     ·exact .inr ⟨i,I,a1V,c,by rw[h5];exact h8⟩
    ·intro b arr e;rcases l.knew b arr e with c|c|c
     ·exact h.knew b arr c
     ·exact .inr (h.own b c)
     ·exact .inr (.inr (Nat.le_trans h.fr.size c))
    ·exact h.fr.trans l.fr (f1u h.own h.knew)
    ·intro x O;rw[R.addG B p q,h4]at O;rcases l.own x O with c|c
     ·exact h.own x c
     ·exact .inr (Nat.le_trans h.fr.size c)
 | false =>
   rw[if_neg (by simp)];obtain⟨_,M,W,h3,_⟩:=J.skip hr;obtain⟨S,U,V⟩:=a8g (Γ:=Γ) (d:=o.dst) (x := .tup []) (v:=undef) h.tmp (BLe.refl β) (KLe.refl K) h.nt J.dst ⟨#[],rfl,trivial⟩;have hG:GX ops F X (a9s D i)=GX ops F X D:=by rw[R.addG B p q,W];rfl
   refine hn β K _ _ ⟨?_,U,V.trans h.defers,h.kok,by rw[hG];exact h.mr,?_,h.kle,h.knew,h.fr,by rw[hG];exact h.own,h.ble,h.le⟩
   ·rw[R.addT B p q,M];exact S
   ·intro k C;rcases h.dom k C with A|⟨j,A,s,u⟩
    ·exact .inl A
    ·exact .inr ⟨j,A,by simp[a9s,s],u⟩
theorem DS.all (R:Rgn Γ ops F E X) {D:Nat->Bool} {β:Bt} {K:Ks} {a:Act} {w:World} (h:DS P Γ z ops F X D β K a w) (c:∀i,i<ops.size->D i=true):SRf P Γ z β K (F ops.size) a w:=by
 have e:TX ops F X D=(F ops.size).T:=by
  rw[R.T _ (le_refl _)];funext t;exact a5O _ fun p b _=>c p b
 have d:GX ops F X D=(F ops.size).G:=by
  rw[R.G _ (le_refl _)];funext t;exact a5P _ fun p b _=>c p b
 refine⟨by rw[<- e];exact h.tmp,h.nt,h.defers,h.kok,by rw[<- d];exact h.mr,?_,h.kle,h.knew,h.fr,by rw[<- d];exact h.own,h.ble,Nat.le_trans h.le (R.n (zero_le _) (le_refl _))⟩;intro k f;cases hq:β k with
 |none=>rfl
 | some y =>
   exfalso;rcases h.dom k (by rw[hq];simp)with h3|⟨j,h3,_,_,h6⟩
   ·have:=R.n (i:=0) (j:=ops.size) (by omega) (le_refl _);omega
   ·have:=R.n (i:=j+1) (j:=ops.size) (by omega) (le_refl _);omega
theorem c0p (env:a1o P Γ) (R:Rgn Γ ops F E X) (C:∀β K a w,SRf P Γ z β K (F ops.size) a w->Q .normal a w) :
 ∀(fuel:Nat) (b:Array Bool),b.size=ops.size->cnt (fun k=>b.getD k false) ops.size<=fuel->a2u ops (fun k=>b.getD k false) ->
 ∀β K a w,DS P Γ z ops F X (fun k=>b.getD k false) β K a w->wpAny P .any ops Q fuel b a w:=by
 have q:∀(b:Array Bool),b.size=ops.size->Region.ready .any ops b=[]->∀i,i<ops.size->b.getD i false=true:=by
  intro b f t i
  induction i using Nat.strongRecOn with
  | _ i A =>
    intro x;cases hq:b.getD i false with
    |true=>rfl
    | false =>
      exfalso;have g:ops[i]?=some ops[i]:=Array.getElem?_eq_getElem x;have:i∈Region.ready .any ops b:=by
       rw[mem_ready];refine⟨?_,_,g,fun e v u=>?_⟩
       ·have c:i<b.size:=by omega
        simp[c]at hq ⊢;exact hq
       ·have c:=R.edge i _ g e v u;exact A e.on c (by omega)
      rw[t]at this;cases this
 intro fuel
 induction fuel with
 | zero =>
   intro b f G l β K a w h;have B:=b0U (Nat.le_zero.1 G);refine⟨?_,C β K a w (h.all R B)⟩;cases t:Region.ready .any ops b with
   |nil=>rfl
   | cons i r =>
     exfalso;have I:i∈Region.ready .any ops b:=by rw[t];exact List.mem_cons_self ..
     obtain⟨m,o,g,_⟩:=mem_ready.1 I;have c:i<ops.size:=(Array.getElem?_eq_some_iff.1 g).1;have n:=B i c;have d:i<b.size:=by omega
     simp[d]at m n;rw[m]at n;cases n
 | succ fuel A =>
   intro b f G l β K a w h;refine⟨fun t=>C β K a w (h.all R (q b f t)),fun i x=>?_⟩;obtain⟨m,o,g,n⟩:=mem_ready.1 x;have c:i<ops.size:=(Array.getElem?_eq_some_iff.1 g).1;have d:i<b.size:=by omega
   have p:(fun k=>b.getD k false) i=false:=by
    simp[d]at m ⊢;exact m
   have j:(fun k=>(b.setIfInBounds i true).getD k false)=a9s (fun k=>b.getD k false) i:=by
    funext k;by_cases y:k=i
    ·subst y;rw[a1V];simp[d]
    ·rw[a2V y];exact getD_set_ne false (Ne.symm y)
   have s:a7r (fun k=>b.getD k false) o:=fun e v u=>n e v u
   refine h.step env R l g (fun _ _ _=>rfl) s p fun β' K' H w' h'=>?_
   refine A (b.setIfInBounds i true) (by simpa using f) ?_ ?_ β' K' H w' (by rw[j];exact h')
   ·rw[j];have:=b5f (D:=fun k=>b.getD k false) p c;omega
   ·rw[j];exact l.add g s
theorem DS.start (R:Rgn Γ ops F E X) {β:Bt} {K:Ks} {a:Act} {w:World} (h:SRf P Γ z β K (F 0) a w) {D:Nat->Bool} (d:∀i,D i=false):DS P Γ z ops F X D β K a w:=by
 have f:∀N t,TD (F 0).T (a9k ops) (fun i=>(X i).v) D N t=(F 0).T t:=by
  intro N t
  induction N with
  |zero=>rfl
  |succ N c=>simp only[TD,d N,Bool.false_eq_true,false_and,if_false];exact c
 have e:∀N,GD (F 0).G (fun i=>(X i).upd) D N=(F 0).G:=by
  intro N
  induction N with
  |zero=>rfl
  |succ N c=>simp only[GD,d N,Bool.false_eq_true,if_false];exact c
 refine⟨fun t=>by rw[show TX ops F X D t=(F 0).T t from f _ t];exact h.tmp t,h.nt,h.defers,h.kok,by rw[show GX ops F X D=(F 0).G from e _];exact h.mr,?_,h.kle,h.knew,h.fr,by rw[show GX ops F X D=(F 0).G from e _];exact h.own,h.ble,h.le⟩;intro k g;left;rcases Nat.lt_or_ge k (F 0).n with b|b
 ·exact b
 ·exact absurd (h.fresh k b) g
end
theorem MR.ren {β β':Bt} {K:Ks} {get get':Get} {w:World} {s:Nat->Option Nat} (h:MR β K get w) (a:∀k k' h,s k=some k'->β k=some h->β' k'=some h)
 (r:∀k' b',get' k'=some b'->∃k b,s k=some k' /\ get k=some b /\ b1U s b=some b'):MR β' K get' w:=by
 refine⟨fun k' b' e=>?_,fun k k' b b' y y' x e v f z g A=>?_,fun k' b' y x e f g=>?_⟩
 ·obtain⟨k,b,n,i,B⟩:=r k' b' e;obtain⟨y,l,m⟩:=h.blk k b i;exact⟨y,a _ _ _ n l,a8b a B m⟩
 ·obtain⟨j,c,n,i,_⟩:=r k b e;obtain⟨t,c',d,o,_⟩:=r k' b' v;obtain⟨u,l,_⟩:=h.blk j c i;obtain⟨C,p,_⟩:=h.blk t c' o;have m:=a _ _ _ n l;have q:=a _ _ _ d p;rw[f]at m;rw[z]at q;cases m;cases q;have:=h.sep j t c c' _ _ x i o l p g A;subst this;rw[n]at d;cases d;rfl
 ·obtain⟨j,c,n,i,_⟩:=r k' b' e;obtain⟨u,l,_⟩:=h.blk j c i;have m:=a _ _ _ n l;rw[f]at m;cases m;exact h.ro j c _ x i l g
theorem Own.ren {β β':Bt} {K:Ks} {get get':Get} {w:World} {d:Nat->Option Nat} (h:MR β K get w) (a:∀k k' h,d k=some k'->β k=some h->β' k'=some h)
 (p:∀k' b',get' k'=some b'->∃k b,d k=some k' /\ get k=some b /\ b1U d b=some b') {x:Nat} (o:Own β' get' x):Own β get x:=by
 obtain⟨k',b',y,e,f,g⟩:=o;obtain⟨j,c,n,i,_⟩:=p k' b' e;obtain⟨u,l,_⟩:=h.blk j c i;have m:=a _ _ _ n l;rw[f]at m;cases m;exact⟨j,c,_,i,l,g⟩
theorem a3E:∀(l:List Nat) (m:Nat),a3v l m=l.filter fun k=>Nat.ble m k
 |[],_=>rfl
 | k::r,m=>by
   unfold a3v;cases h:Nat.ble m k with
   |true=>rw[List.filter_cons_of_pos (by exact h),a3E r m]
   |false=>rw[List.filter_cons_of_neg (by rw[h];simp),a3E r m]
theorem a8n:∀{ks:List Nat} {k i p:Nat},ks.Nodup->ks[p]?=some k->a2r ks k i=some (i+p)
 |[],_,_,_,_,h=>by simp at h
 | x::r,k,i,0,hn,h=>by
   simp only[List.getElem?_cons_zero,injEq]at h;subst h;simp[a2r]
 | x::r,k,i,p+1,hn,h=>by
   simp only[List.getElem?_cons_succ]at h;have a:x≠k:=fun e=>by
    subst e;exact(List.nodup_cons.1 hn).1 (List.mem_of_getElem? h)
   simp only[a2r,a1u a];rw[a8n (List.nodup_cons.1 hn).2 h];congr 1;omega
def a8o (β:Bt) (a:List Nat) (m:Nat):Bt:=fun k=>if k<m then β k else(a[k-m]?).bind β
theorem a2K {β:Bt} {a:List Nat} {m:Nat}:∀k k' h,a2G a m k=some k'->β k=some h->a8o β a m k'=some h:=by
 intro k k' h e c;unfold a2G at e;split at e
 ·rename_i b;cases e;unfold a8o;rw[if_pos (by simpa[Nat.blt_eq]using b)];exact c
 ·obtain⟨p,f,d⟩:=a5i e;unfold a8o;rw[if_neg (by omega)];have:k'-m=p:=by omega
  rw[this,d];exact c
theorem b0V {β:Bt} {a:List Nat} {m k:Nat} (h:k<m):a8o β a m k=β k:=if_pos h
theorem b0W {β:Bt} {a:List Nat} {m k:Nat} (h:m+a.length<=k):a8o β a m k=none:=by
 unfold a8o;rw[if_neg (by omega),List.getElem?_eq_none (by omega)];rfl
theorem a9L {get:Get} {c:Nat->Option Nat}:∀{ks:List Nat} {l:List (Nat×Option Blk)},c1G get c ks=some l->∀k' b',a1w l k'=some (some b')->∃k b,c k=some k' /\ get k=some b /\ b1U c b=some b'
 |[],l,h,k',b',e=>by simp only[c1G,injEq]at h;subst h;simp[a1w]at e
 | k :: r,l,h,k',b',e=>by
   simp only[c1G]at h;split at h
   ·rename_i j b l' f a g;cases h;simp only[a1w]at e;split at e
    ·rename_i n;have:=a0g n;subst this;cases e;cases hg:get k with
     |none=>rw[hg]at a;simp[a5d]at a
     | some d =>
       rw[hg]at a;simp only[a5d,Option.map_eq_some_iff,injEq]at a;obtain⟨o,i,m⟩:=a;exact⟨k,d,f,hg,by rw[i,m]⟩
    ·exact a9L g k' b' e
   ·cases h
theorem b2y {s:St} {c:Nat->Option Nat}:∀{live:List Nat} {l:List (Nat×V)},a1q (fun t=>(e1H c (s.tmpV t)).map fun v=>(t,v)) live=some l->∀t v,a1w l t=some v->e1H c (s.tmpV t)=some v
 |[],l,h,t,v,e=>by simp only[a1q,injEq]at h;subst h;simp[a1w]at e
 | j :: r,l,h,t,v,e=>by
   simp only[a1q]at h;split at h
   ·rename_i y b;split at h
    ·rename_i ys a;cases h;simp only[Option.map_eq_some_iff]at b;obtain⟨u,d,f⟩:=b;subst f;simp only[a1w]at e;split at e
     ·rename_i g;have:=a0g g;subst this;cases e;exact d
     ·exact b2y a t v e
    ·cases h
   ·cases h
section
variable {P:Program} {Γ:Env} {z:a4S}
def SR (P:Program) (Γ:Env) (z:a4S) (s:St) (a:Act) (w:World):Prop:=s.m=z.m /\ ∃β K,SRf P Γ z β K s.fs a w
theorem SRf.still {β:Bt} {K:Ks} {F:FS} {a:Act} {w w':World} (h:SRf P Γ z β K F a w) (s:a0s w w'):SRf P Γ z β K F a w':=
 ⟨h.tmp,h.nt,h.defers,h.kok.still s,h.mr.still s,h.fresh,h.kle,h.knew,⟨s.os.trans h.fr.os,s.tape.trans h.fr.tape,s.output.trans h.fr.output,by rw[s.heap];exact h.fr.size,fun b c d=>by rw[s.heap];exact h.fr.block b c d⟩,h.own,h.ble,h.le⟩
theorem SRf.turn {β β':Bt} {K K':Ks} {F F':FS} {a:Act} {w:World} (h:SRf P Γ z β K F a w) (f:∀k h,k<z.m->β k=some h->β' k=some h) (d:KLe K K') (kok:KOK K' w)
 (knew:∀b arr,K' b=some arr->K b=some arr∨Own β F.G b∨w.heap.size<=b) (tmp:∀t,VR β' K' (F'.T t) (a.tmps.getD t undef)) (mr:MR β' K' F'.G w) (fresh:∀k,F'.n<=k->β' k=none)
 (own:∀x,Own β' F'.G x->Own β F.G x) (le:F.n<=F'.n):SRf P Γ z β' K' F' a w:=
 ⟨tmp,h.nt,h.defers,kok,mr,fresh,h.kle.trans d,fun b arr e=>by
  rcases knew b arr e with c|c|c
  ·exact h.knew b arr c
  ·exact .inr (h.own b c)
  ·exact .inr (.inr (Nat.le_trans h.fr.size c)),h.fr,fun x g=>h.own x (own x g),fun k y d e=>f k y d (h.ble k y d e),Nat.le_trans h.le le⟩
theorem a2L {s:St} {tm:List (Nat×V)} {n:Nat} {l:List (Nat×Option Blk)} {k:Nat} {b:Blk} (h:(St.get { s with tmps:=tm,mem:=l++s.mem,n:=n }) k=some b):a4p l s.get k=some b:=by
 induction l with
 |nil=>exact h
 | cons p l d =>
   obtain⟨j,c⟩:=p;simp only[St.get,List.cons_append,a1w,a4p]at h d ⊢;by_cases a:j=k
   ·subst a;simpa using h
   ·rw[a1u a]at h ⊢;exact d h
theorem a4I {s:St} {t:Nat} {v:V} {mm:List (Nat×Option Blk)} {n:Nat} (j:Nat):(St.tmpV { s with tmps:=(t,v)::s.tmps,mem:=mm,n:=n }) j=if t=j then v else s.tmpV j:=by
 unfold St.tmpV;simp only[a1w];by_cases a:t=j
 ·subst a;simp
 ·rw[a1u a,if_neg a]
theorem c2k {β:Bt} {K:Ks} {s:St} {a:Act} {w:World} (h:SRf P Γ z β K s.fs a w) {ty:Ty} {ad:Option Addr} :
 (∀k b,s.get k=some b->k≠s.n) /\ BLe β (a9p β s.n ⟨.slice ad 0 0,none⟩) /\ (∀K',CR (a9p β s.n ⟨.slice ad 0 0,none⟩) K' (.ref ty s.n) (.slice ad 0 0)):=by
 have c:β s.n=none:=h.fresh s.n (le_refl _);refine⟨fun k b e f=>?_,BLe.add _ c,fun K'=>⟨_,ad,0,0,a0z ..,rfl,rfl⟩⟩;subst f;obtain⟨y,d,_⟩:=h.mr.blk _ b e;rw[c]at d;cases d
theorem a5S {α c:Type} {R:α->c->Prop}:∀{as1:List α} {bs:List c} {i:Nat} {x:α},All2 R as1 bs->(∀y,bs[i]?=some y->R x y)->All2 R (as1.set i x) bs
 |[],_,_,_,h,_=>h
 |_::_,[],_,_,h,_=>h.elim
 |a::as1,b::bs,0,x,h,hx=>⟨hx b rfl,h.2⟩
 |a::as1,b::bs,i+1,x,h,hx=>⟨h.1,a5S h.2 fun y d=>hx y d⟩
theorem d7R {a:Act} {w:World} (c:Cv) {s:St} (h0:SR P Γ z s a w):SR P Γ z (c1u c s) a w /\ (c1u c s).m=s.m:=by
 have a2Q:SR P Γ z s a w /\ s.m=s.m:=⟨h0,rfl⟩;obtain⟨hm,β,K,h⟩:=h0;have nilSl:∀{β:Bt} {K:Ks} {ty:Ty} {u:Value},CR β K (.nil ty) u->CR β K (.sl ty []) u:=fun{β K ty u} R=>by
  obtain⟨ad,rfl⟩:=R;exact⟨ad,0,0,rfl,rfl,le_refl _,.inl rfl⟩
 cases c with
 | sl t =>
   unfold c1u;dsimp only;split
   ·rename_i ty V;have I:=h.tmp t;rw[show s.fs.T t = .val (.one (.nil ty))from V]at I;refine⟨⟨hm,β,K,h.turn (fun k y _ e=>e) (KLe.refl K) h.kok (fun _ _ e => .inl e) (fun j=>?_) h.mr h.fresh (fun x C=>C) (le_refl _)⟩,rfl⟩;show VR β K (St.tmpV { s with tmps:=(t,.val (.one (.sl ty [])))::s.tmps,mem:=s.mem,n:=s.n } j) _;rw[a4I];split
    ·rename_i S;subst S;exact nilSl (β:=β) I
    ·exact h.tmp j
   ·exact a2Q
 | boxSl t off =>
   unfold c1u;dsimp only;split
   ·rename_i B o0 V;split
    ·rename_i cs D;split
     ·rename_i ty hc;obtain⟨y0,v,bb,arr,T,rfl,hh,F⟩:=h.mr.blk B _ D;obtain⟨u,R,I⟩:=F.get? hc;have d:∀k b,(St.get { s with mem:=(B,some (.box (cs.set off (.sl ty []))))::s.mem }) k=some b->(k=B /\ b = .box (cs.set off (.sl ty [])))∨(k≠B /\ s.get k=some b):=by
       intro k b e;rcases a0A (a2L (tm:=s.tmps) (n:=s.n) (l:=[(B,some (.box (cs.set off (.sl ty []))))]) e)with⟨rfl,E⟩|⟨A,o⟩
       ·cases E;exact .inl ⟨rfl,rfl⟩
       ·exact .inr ⟨A,o⟩
      refine⟨⟨hm,β,K,h.turn (fun k y _ e=>e) (KLe.refl K) h.kok (fun _ _ e => .inl e) (fun j=>h.tmp j) ?_ h.fresh ?_ (le_refl _)⟩,rfl⟩
      ·refine h.mr.step (BLe.refl β) (KLe.refl K) fun k b e=>?_
       rcases d k b e with⟨rfl,rfl⟩|⟨A,p⟩
       ·refine .inr ⟨_,v,⟨bb,arr,T,rfl,hh,a5S F fun y M=>by rw[R]at M;cases M;exact nilSl I⟩,fun x C=>⟨h.mr.ro k _ _ x D v C,fun k' b' y' H J N=>?_⟩⟩;rcases d k' b' H with⟨rfl,rfl⟩|⟨A,p⟩
        ·rfl
        ·exact h.mr.sep k' k b' _ y' _ x p D J v N C
       ·exact .inl ⟨p,fun x y f g=>⟨rfl,h.mr.ro k b y x p f g⟩⟩
      ·rintro x ⟨k,b,y,e,f,g⟩;rcases d k b e with⟨rfl,rfl⟩|⟨A,p⟩
       ·exact⟨k,_,y,D,f,g⟩
       ·exact⟨k,b,y,p,f,g⟩
     ·exact a2Q
    ·exact a2Q
   ·exact a2Q
 | forget t =>
   refine⟨⟨hm,β,K,h.turn (fun k y _ e=>e) (KLe.refl K) h.kok (fun _ _ e => .inl e) (fun j=>?_) h.mr h.fresh (fun x C=>C) (le_refl _)⟩,rfl⟩;show VR β K (St.tmpV { s with tmps:=(t,pois)::s.tmps,mem:=s.mem,n:=s.n } j) _;rw[a4I];split
   ·exact a5k
   ·exact h.tmp j
 | nil t =>
   unfold c1u;dsimp only;split
   ·rename_i ty V;refine⟨⟨hm,?_⟩,rfl⟩;have I:=h.tmp t;rw[show s.fs.T t = .val (.one (.nil ty))from V]at I;obtain⟨ad,I⟩:=I;obtain⟨Y,r,hcr⟩:=c2k h (ty:=ty) (ad:=ad);refine⟨a9p β s.n ⟨.slice ad 0 0,none⟩,K,h.turn (fun k y _ e=>r _ _ e) (KLe.refl K) h.kok (fun _ _ e => .inl e) (fun j=>?_) ?_ ?_ ?_ (Nat.le_succ _)⟩
    ·show VR _ K (St.tmpV { s with tmps:=(t,.val (.one (.ref ty s.n)))::s.tmps,mem:=(s.n,some (.arr ty []))::s.mem,n:=s.n+1 } j) _;rw[a4I];split
     ·rename_i S;subst S;rw[I];exact hcr K
     ·exact(h.tmp j).mono r (KLe.refl K)
    ·refine h.mr.step r (KLe.refl K) fun k b e=>?_
     rcases a0A (a2L (l:=[(s.n,some (.arr ty []))]) e)with⟨rfl,E⟩|⟨A,o⟩
     ·cases E;exact .inr ⟨_,a0z ..,.inl ⟨rfl,ad,rfl⟩,fun x C=>by cases C⟩
     ·exact .inl ⟨o,fun x y f g=>⟨rfl,h.mr.ro k b y x o f g⟩⟩
    ·intro k Z;have hk':s.n+1<=k:=Z;rw[a1d _ _ (by omega)];exact h.fresh k (by show s.n<=k;omega)
    ·rintro x ⟨k,b,y,e,f,g⟩;rcases a0A (a2L (l:=[(s.n,some (.arr ty []))]) e)with⟨rfl,E⟩|⟨A,o⟩
     ·rw[a0z]at f;cases f;cases g
     ·rw[a1d _ _ A]at f;exact⟨k,b,y,o,f,g⟩
   ·exact a2Q
 | boxNil t off =>
   unfold c1u;dsimp only;split
   ·rename_i B o0 V;split
    ·rename_i cs D;split
     ·rename_i ty hc;refine⟨⟨hm,?_⟩,rfl⟩;obtain⟨y0,v,bb,arr,T,rfl,hh,F⟩:=h.mr.blk B _ D;obtain⟨u,R,ad,I⟩:=F.get? hc;obtain⟨Y,r,hcr⟩:=c2k h (ty:=ty) (ad:=ad);have hk0:B≠s.n:=Y B _ D;have d:∀k b,(St.get { s with mem:=(B,some (.box (cs.set off (.ref ty s.n))))::(s.n,some (.arr ty []))::s.mem,n:=s.n+1 }) k=some b ->
       (k=B /\ b = .box (cs.set off (.ref ty s.n)))∨(k=s.n /\ b = .arr ty [])∨(k≠B /\ k≠s.n /\ s.get k=some b):=by
       intro k b e;rcases a0A (a2L (l:=[(B,some (.box (cs.set off (.ref ty s.n)))),(s.n,some (.arr ty []))]) e)with⟨rfl,E⟩|⟨A,o⟩
       ·cases E;exact .inl ⟨rfl,rfl⟩
       ·rcases a0A o with⟨rfl,E⟩|⟨p,h4⟩
        ·cases E;exact .inr (.inl ⟨rfl,rfl⟩)
        ·exact .inr (.inr ⟨A,p,h4⟩)
      refine⟨a9p β s.n ⟨.slice ad 0 0,none⟩,K,h.turn (fun k y _ e=>r _ _ e) (KLe.refl K) h.kok (fun _ _ e => .inl e) (fun j=>(h.tmp j).mono r (KLe.refl K)) ?_ ?_ ?_ (Nat.le_succ _)⟩
      ·refine h.mr.step r (KLe.refl K) fun k b e=>?_
       rcases d k b e with⟨rfl,rfl⟩|⟨rfl,rfl⟩|⟨A,o,p⟩
       ·refine .inr ⟨_,r _ _ v,⟨bb,arr,T,rfl,hh,a5S (F.mono fun _ _=>CR.mono r (KLe.refl K)) fun y M=>?_⟩,fun x C=>⟨h.mr.ro k _ _ x D v C,fun k' b' y' H J N=>?_⟩⟩
        ·rw[R]at M;cases M;rw[I];exact hcr K
        ·rcases d k' b' H with⟨rfl,rfl⟩|⟨rfl,rfl⟩|⟨A,o,p⟩
         ·rfl
         ·rw[a0z]at J;cases J;cases N
         ·rw[a1d _ _ o]at J;exact h.mr.sep k' k b' _ y' _ x p D J v N C
       ·exact .inr ⟨_,a0z ..,.inl ⟨rfl,ad,rfl⟩,fun x C=>by cases C⟩
       ·exact .inl ⟨p,fun x y f g=>⟨rfl,h.mr.ro k b y x p f g⟩⟩
      ·intro k Z;have hk':s.n+1<=k:=Z;rw[a1d _ _ (by omega)];exact h.fresh k (by show s.n<=k;omega)
      ·rintro x ⟨k,b,y,e,f,g⟩;rcases d k b e with⟨rfl,rfl⟩|⟨rfl,rfl⟩|⟨A,o,p⟩
       ·rw[a1d _ _ hk0]at f;exact⟨k,_,y,D,f,g⟩
       ·rw[a0z]at f;cases f;cases g
       ·rw[a1d _ _ o]at f;exact⟨k,b,y,p,f,g⟩
     ·exact a2Q
    ·exact a2Q
   ·exact a2Q
 | mv t off j =>
   unfold c1u;dsimp only;split
   ·rename_i B o0 V;split
    ·rename_i cs D;split
     ·rename_i ty j' hc;split
      ·rename_i S;have S:j=j':=a0g S;subst S;split
       ·rename_i ty' l L;refine⟨⟨hm,?_⟩,rfl⟩;obtain⟨y0,v,bb,arr,T,rfl,hh,F⟩:=h.mr.blk B _ D;obtain⟨yj,U,hbj⟩:=h.mr.blk j _ L;obtain⟨u,R,I⟩:=F.get? hc;have hn:β s.n=none:=h.fresh s.n (le_refl _);have Y:∀k b,s.get k=some b->k≠s.n:=fun k b e H=>by
         subst H;obtain⟨y,M,_⟩:=h.mr.blk _ b e;rw[hn]at M;cases M
        have r:BLe β (a9p β s.n yj):=BLe.add _ hn;have hk0:B≠s.n:=Y B _ D;have hjn:j≠s.n:=Y j _ L;have hkj:B≠j:=fun e=>by subst e;rw[D]at L;cases L
        have d:∀k b,(St.get { s with mem:=(B,some (.box (cs.set off (.ref ty s.n))))::(s.n,some (.arr ty' l))::(j,none)::s.mem,n:=s.n+1 }) k=some b ->
         (k=B /\ b = .box (cs.set off (.ref ty s.n)))∨(k=s.n /\ b = .arr ty' l)∨(k≠B /\ k≠s.n /\ k≠j /\ s.get k=some b):=by
         intro k b e;rcases a0A (a2L (l:=[(B,some (.box (cs.set off (.ref ty s.n)))),(s.n,some (.arr ty' l)),(j,none)]) e)with⟨rfl,E⟩|⟨A,o⟩
         ·cases E;exact .inl ⟨rfl,rfl⟩
         ·rcases a0A o with⟨rfl,E⟩|⟨p,h4⟩
          ·cases E;exact .inr (.inl ⟨rfl,rfl⟩)
          ·rcases a0A h4 with⟨rfl,E⟩|⟨h5,h6⟩
           ·cases E
           ·exact .inr (.inr ⟨A,p,h5,h6⟩)
        refine⟨a9p β s.n yj,K,h.turn (fun k y _ e=>r _ _ e) (KLe.refl K) h.kok (fun _ _ e => .inl e) (fun j=>(h.tmp j).mono r (KLe.refl K)) ?_ ?_ ?_ (Nat.le_succ _)⟩
        ·refine h.mr.step r (KLe.refl K) fun k b e=>?_
         rcases d k b e with⟨rfl,rfl⟩|⟨rfl,rfl⟩|⟨A,o,h2',p⟩
         ·refine .inr ⟨_,r _ _ v,⟨bb,arr,T,rfl,hh,a5S (F.mono fun _ _=>CR.mono r (KLe.refl K)) fun y M=>?_⟩,fun x C=>⟨h.mr.ro k _ _ x D v C,fun k' b' y' H J N=>?_⟩⟩
          ·rw[R]at M;cases M;obtain⟨hd,a1,n1,c1,E,e2,e3⟩:=I;rw[U]at E;cases E;exact⟨_,a1,n1,c1,a0z ..,e2,e3⟩
          ·rcases d k' b' H with⟨rfl,rfl⟩|⟨rfl,rfl⟩|⟨A,o,h2',p⟩
           ·rfl
           ·rw[a0z]at J;cases J;exact absurd (h.mr.sep k j _ _ _ _ x D L v U C N) hkj
           ·rw[a1d _ _ o]at J;exact h.mr.sep k' k b' _ y' _ x p D J v N C
         ·refine .inr ⟨_,a0z ..,hbj.mono r (KLe.refl K),fun x C=>⟨h.mr.ro j _ _ x L U C,fun k' b' y' H J N=>?_⟩⟩;rcases d k' b' H with⟨rfl,rfl⟩|⟨rfl,rfl⟩|⟨A,o,h2',p⟩
          ·rw[a1d _ _ hk0]at J;exact absurd (h.mr.sep k' j _ _ _ _ x D L J U N C) hkj
          ·rfl
          ·rw[a1d _ _ o]at J;exact absurd (h.mr.sep k' j _ _ _ _ x p L J U N C) h2'
         ·exact .inl ⟨p,fun x y f g=>⟨rfl,h.mr.ro k b y x p f g⟩⟩
        ·intro k Z;have hk':s.n+1<=k:=Z;rw[a1d _ _ (by omega)];exact h.fresh k (by show s.n<=k;omega)
        ·rintro x ⟨k,b,y,e,f,g⟩;rcases d k b e with⟨rfl,rfl⟩|⟨rfl,rfl⟩|⟨A,o,h2',p⟩
         ·rw[a1d _ _ hk0]at f;exact⟨k,_,y,D,f,g⟩
         ·rw[a0z]at f;cases f;exact⟨j,_,_,L,U,g⟩
         ·rw[a1d _ _ o]at f;exact⟨k,b,y,p,f,g⟩
       ·exact a2Q
      ·exact a2Q
     ·exact a2Q
    ·exact a2Q
   ·exact a2Q
 | frz t =>
   unfold c1u;dsimp only;split
   ·rename_i u V;split
    ·rename_i u' R;refine⟨⟨hm,?_⟩,rfl⟩;have I:=h.tmp t;rw[show s.fs.T t = .val u from V]at I;have G:∀k b,(St.get { s with tmps:=(t,.val u')::s.tmps,mem:=gone (a0M u)++s.mem }) k=some b->k ∉ a0M u /\ s.get k=some b:=fun k b e=>a1k (a2L (n:=s.n) e)
     refine⟨β,a4q β K s.get w (a0M u),h.turn (fun k y _ e=>e) a0J (a3Q h.kok) a3R (fun j=>?_) ?_ h.fresh ?_ (le_refl _)⟩
     ·show VR _ _ (St.tmpV { s with tmps:=(t,.val u')::s.tmps,mem:=gone (a0M u)++s.mem } j) _;rw[a4I (n:=s.n)];split
      ·rename_i S;subst S;exact a4E h.mr R I (fun k Z=>Z) β
      ·exact(h.tmp j).mono (BLe.refl β) a0J
     ·refine h.mr.step (BLe.refl β) a0J fun k b e=>?_
      obtain⟨A,o⟩:=G k b e;exact .inl ⟨o,fun x y f g=>⟨rfl,a1E h.mr o A f g⟩⟩
     ·rintro x ⟨k,b,y,e,f,g⟩;obtain⟨A,o⟩:=G k b e;exact⟨k,b,y,o,f,g⟩
    ·exact a2Q
   ·exact a2Q
 | frzBox t =>
   unfold c1u;dsimp only;split
   ·rename_i B o0 V;split
    ·rename_i cs D;split
     ·rename_i X hcs';split
      ·rename_i hno;refine⟨⟨hm,?_⟩,rfl⟩;have hno':B ∉ cs.flatMap a0P:=fun e=>by rw[a5G.2 e]at hno;cases hno
       obtain⟨y0,v,bb,arr,T,rfl,hh,F⟩:=h.mr.blk B _ D;have d:∀k b,(St.get { s with mem:=(B,some (.box X))::(gone (cs.flatMap a0P)++s.mem) }) k=some b->(k=B /\ b = .box X)∨(k≠B /\ k ∉ cs.flatMap a0P /\ s.get k=some b):=by
        intro k b e;rcases a0A (a2L (tm:=s.tmps) (n:=s.n) (l:=(B,some (.box X))::gone (cs.flatMap a0P)) e)with⟨rfl,E⟩|⟨A,o⟩
        ·cases E;exact .inl ⟨rfl,rfl⟩
        ·obtain⟨p,h4⟩:=a1k o;exact .inr ⟨A,p,h4⟩
       refine⟨β,a4q β K s.get w (cs.flatMap a0P),h.turn (fun k y _ e=>e) a0J (a3Q h.kok) a3R (fun j=>(h.tmp j).mono (BLe.refl β) a0J) ?_ h.fresh ?_ (le_refl _)⟩
       ·refine h.mr.step (BLe.refl β) a0J fun k b e=>?_
        rcases d k b e with⟨rfl,rfl⟩|⟨A,o,p⟩
        ·refine .inr ⟨_,v,⟨bb,arr,T,rfl,hh,?_⟩,fun x C=>⟨a1E h.mr D hno' v C,fun k' b' y' H J N=>?_⟩⟩
         ·have:=a4E h.mr (ks:=cs.flatMap a0P) (c := .agg cs) (c' := .agg X) (show(a1q (roC s.get) cs).map W.agg=some (.agg X)by rw[hcs'];rfl) ⟨arr,rfl,F⟩ (fun k Z=>Z) β;obtain⟨arr',E,o⟩:=this;cases E;exact o
         ·rcases d k' b' H with⟨rfl,rfl⟩|⟨A,o,p⟩
          ·rfl
          ·exact h.mr.sep k' k b' _ y' _ x p D J v N C
        ·exact .inl ⟨p,fun x y f g=>⟨rfl,a1E h.mr p o f g⟩⟩
       ·rintro x ⟨k,b,y,e,f,g⟩;rcases d k b e with⟨rfl,rfl⟩|⟨A,o,p⟩
        ·exact⟨k,_,y,D,f,g⟩
        ·exact⟨k,b,y,p,f,g⟩
      ·exact a2Q
     ·exact a2Q
    ·exact a2Q
   ·exact a2Q
 | frzCell t off =>
   unfold c1u;dsimp only;split
   ·rename_i B o0 V;split
    ·rename_i cs D;split
     ·rename_i c hc;split
      ·rename_i c' hcc;split
       ·rename_i hno;refine⟨⟨hm,?_⟩,rfl⟩;have hno':B ∉ a0P c:=fun e=>by rw[a5G.2 e]at hno;cases hno
        obtain⟨y0,v,bb,arr,T,rfl,hh,F⟩:=h.mr.blk B _ D;obtain⟨u,R,I⟩:=F.get? hc;have d:∀k b,(St.get { s with mem:=(B,some (.box (cs.set off c')))::(gone (a0P c)++s.mem) }) k=some b->(k=B /\ b = .box (cs.set off c'))∨(k≠B /\ k ∉ a0P c /\ s.get k=some b):=by
         intro k b e;rcases a0A (a2L (tm:=s.tmps) (n:=s.n) (l:=(B,some (.box (cs.set off c')))::gone (a0P c)) e)with⟨rfl,E⟩|⟨A,o⟩
         ·cases E;exact .inl ⟨rfl,rfl⟩
         ·obtain⟨p,h4⟩:=a1k o;exact .inr ⟨A,p,h4⟩
        refine⟨β,a4q β K s.get w (a0P c),h.turn (fun k y _ e=>e) a0J (a3Q h.kok) a3R (fun j=>(h.tmp j).mono (BLe.refl β) a0J) ?_ h.fresh ?_ (le_refl _)⟩
        ·refine h.mr.step (BLe.refl β) a0J fun k b e=>?_
         rcases d k b e with⟨rfl,rfl⟩|⟨A,o,p⟩
         ·refine .inr ⟨_,v,⟨bb,arr,T,rfl,hh,a5S (F.mono fun _ _=>CR.mono (BLe.refl β) a0J) fun y M=>?_⟩,fun x C=>⟨a1E h.mr D hno' v C,fun k' b' y' H J N=>?_⟩⟩
          ·rw[R]at M;cases M;exact a4E h.mr (ks:=a0P c) (c := .one c) (c' := .one c') (show(roC s.get c).map W.one=some (.one c')by rw[hcc];rfl) I (fun k Z=>by simpa[a0M,W.cells]using Z) β
          ·rcases d k' b' H with⟨rfl,rfl⟩|⟨A,o,p⟩
           ·rfl
           ·exact h.mr.sep k' k b' _ y' _ x p D J v N C
         ·exact .inl ⟨p,fun x y f g=>⟨rfl,a1E h.mr p o f g⟩⟩
        ·rintro x ⟨k,b,y,e,f,g⟩;rcases d k b e with⟨rfl,rfl⟩|⟨A,o,p⟩
         ·exact⟨k,_,y,D,f,g⟩
         ·exact⟨k,b,y,p,f,g⟩
       ·exact a2Q
      ·exact a2Q
     ·exact a2Q
    ·exact a2Q
   ·exact a2Q
 | jnk t =>
   unfold c1u;dsimp only;split
   ·rename_i k V;split
    ·rename_i l D;refine⟨⟨hm,?_⟩,rfl⟩;have I:=h.tmp t;rw[show s.fs.T t = .val (.one (.ref (.flt .f32) k))from V]at I;obtain⟨y,ad,m,c,hb,M,R⟩:=I;obtain⟨y',hb',hbr⟩:=h.mr.blk k _ D;rw[hb]at hb';cases hb';have G:∀j b,(St.get { s with tmps:=(t,.val (.one (.sl .jnk (l.map fun _=>()))))::s.tmps,mem:=(k,none)::s.mem }) j=some b->j≠k /\ s.get j=some b:=fun j b e=>by
      rcases a0A (a2L (n:=s.n) (l:=[(k,none)]) e)with⟨_,E⟩|⟨A,o⟩
      ·cases E
      ·exact⟨A,o⟩
     rcases hbr with⟨hl0,a',H⟩|⟨b,cap,cur,T,H,hh,A,o,p,h4⟩
     ·subst H;cases M;subst hl0;refine⟨β,K,h.turn (fun k y _ e=>e) (KLe.refl K) h.kok (fun _ _ e => .inl e) (fun j=>?_) ?_ h.fresh ?_ (le_refl _)⟩
      ·show VR _ _ (St.tmpV { s with tmps:=(t,.val (.one (.sl .jnk [])))::s.tmps,mem:=(k,none)::s.mem } j) _;rw[a4I (n:=s.n)];split
       ·rename_i S;subst S;rw[R];exact⟨_,0,0,rfl,rfl,le_refl _,.inl rfl⟩
       ·exact h.tmp j
      ·refine h.mr.step (BLe.refl β) (KLe.refl K) fun j b e=>?_
       obtain⟨A,o⟩:=G j b e;exact .inl ⟨o,fun x y f g=>⟨rfl,h.mr.ro j b y x o f g⟩⟩
      ·rintro x ⟨j,b,y,e,f,g⟩;obtain⟨A,o⟩:=G j b e;exact⟨j,b,y,o,f,g⟩
     ·subst H;cases M;have hKb:K b=none:=h.mr.ro k _ _ b D hb rfl;obtain⟨K',hK'⟩:∃K':Ks,K'=fun x=>if x=b then some (true,cur)else K x:=⟨_,rfl⟩
      have Q:K' b=some (true,cur):=by rw[hK'];simp
      have O:∀x,x≠b->K' x=K x:=fun x C=>by rw[hK'];simp[C]
      have r:KLe K K':=fun x z e=>by
       rw[O x (fun H=>by rw[H,hKb]at e;cases e)];exact e
      refine⟨β,K',h.turn (fun k y _ e=>e) r ⟨?_,h.kok.gk.mono r⟩ ?_ (fun j=>?_) ?_ h.fresh ?_ (le_refl _)⟩
      ·intro x z e;by_cases C:x=b
       ·subst C;rw[Q]at e;cases e;exact⟨cur,T,(0,0),hh,KOK.self fun _=>rfl⟩
       ·rw[O x C]at e;exact h.kok.ato x z e
      ·intro x z e;by_cases C:x=b
       ·subst C;exact .inr (.inl ⟨k,_,_,D,hb,rfl⟩)
       ·rw[O x C]at e;exact .inl e
      ·show VR _ _ (St.tmpV { s with tmps:=(t,.val (.one (.sl .jnk (l.map fun _=>()))))::s.tmps,mem:=(k,none)::s.mem } j) _;rw[a4I (n:=s.n)];split
       ·rename_i S;subst S;rw[R];refine⟨_,_,_,rfl,by simp,A,.inr ⟨b,0,cur,rfl,Q,fun i hi=>?_⟩⟩;have hi':i<l.length:=by simpa using hi
        obtain⟨q,hq,_⟩:=h4 i hi';rw[Nat.zero_add];exact⟨q,hq⟩
       ·exact(h.tmp j).mono (BLe.refl β) r
      ·refine h.mr.step (BLe.refl β) r fun j c e=>?_
       obtain⟨E,e2⟩:=G j c e;refine .inl ⟨e2,fun x y f g=>⟨rfl,?_⟩⟩;rw[O x (fun H=>by subst H;exact E (h.mr.sep j k c _ y _ x e2 D f hb g rfl))];exact h.mr.ro j c y x e2 f g
      ·rintro x ⟨j,c,y,e,f,g⟩;obtain⟨E,e2⟩:=G j c e;exact⟨j,c,y,e2,f,g⟩
    ·exact a2Q
   ·exact a2Q
theorem b2z {a:Act} {w:World}:∀(own:List Cv) {s:St},SR P Γ z s a w->SR P Γ z (b2b own s) a w /\ (b2b own s).m=s.m
 |[],s,h=>⟨h,rfl⟩
 | c::r,s,h=>by
   obtain⟨b,d⟩:=d7R c h;obtain⟨e,f⟩:=b2z r b;exact⟨e,f.trans d⟩
theorem a3X {a:Act} {w:World} {live:List Nat} {own:List Cv} {s j:St} (h:SR P Γ z s a w) (c:a7Q live own s=some j):SR P Γ z j a w:=by
 obtain⟨h,_⟩:=b2z own h;simp only[a7Q]at c;generalize b2b own s=s1 at h c;generalize f:a3v (a2q s1.get a1D (a9j s1.m++live.flatMap fun t=>a1n (s1.tmpV t)) (a9j 0)) s1.m=rest at c;split at c
 ·rename_i tmps mem l o;cases c;obtain⟨g,β,K,h⟩:=h;have i:∀k' b',St.get { tmps,mem,n:=s1.m+rest.length,m:=s1.m } k'=some b'->∃k b,a2G rest s1.m k=some k' /\ s1.get k=some b /\ b1U (a2G rest s1.m) b=some b':=by
   intro k' b' e;unfold St.get at e;dsimp only at e;refine a9L o k' b' ?_;cases hq:a1w mem k' with
   |none=>rw[hq]at e;cases e
   |some x=>rw[hq]at e;dsimp only at e;rw[e]
  refine⟨g,a8o β rest s1.m,K,⟨fun t=>?_,h.nt,h.defers,h.kok,h.mr.ren a2K i,fun k d=>b0W d,h.kle,h.knew,h.fr,fun x p=>h.own x (p.ren h.mr a2K i),fun k y d e=>?_,?_⟩⟩
  ·show VR _ K (St.tmpV { tmps,mem,n:=s1.m+rest.length,m:=s1.m } t) _;unfold St.tmpV;dsimp only;cases hq:a1w tmps t with
   |none=>exact a5k
   |some v=>exact d7M a2K (b2y l t v hq) (h.tmp t)
  ·rw[b0V (by rw[g];exact d)];exact h.ble k y d e
  ·show z.m<=s1.m+rest.length;omega
 ·cases c
def a5T {R:Type} (P:Program) (Γ:Env) (z:a4S) (K:Ex->St->Option R) (r:R):Exit->Act->World->Prop
 |.normal,a,w=>∃s,SR P Γ z s a w /\ K .normal s=some r
 |.exit i,a,w=>∃s,SR P Γ z s a w /\ K (.exit i) s=some r
 |.ret,a,w=>∃s,SR P Γ z s a w /\ K .ret s=some r
 |_,_,_=>False
theorem a4J {R:Type} {cut:Option (List Nat×List Cv)} {K:Ex->St->Option R} {r:R}:∀e a w,a5T P Γ z (a5g cut K) r e a w->a5T P Γ z K r e a w:=by
 intro e a w h;cases e with
 | normal =>
   obtain⟨s,c,b⟩:=h;unfold a5g at b;dsimp only at b;split at b
   ·split at b
    ·rename_i f d;exact⟨f,a3X c d,b⟩
    ·cases b
   ·exact⟨s,c,b⟩
 |exit i=>exact h
 |ret=>exact h
 |_=>exact h
theorem b2A {R:Type} {id:Nat} {cut:Option (List Nat×List Cv)} {K:Ex->St->Option R} {r:R}:∀e a w,a5T P Γ z (a6Y id cut K) r e a w->Exit.inBlock id (a5T P Γ z K r) e a w:=by
 intro e a w h;cases e with
 | normal =>
   obtain⟨s,c,b⟩:=h;exact a4J (cut:=cut) .normal a w ⟨s,c,b⟩
 | exit i =>
   obtain⟨s,c,b⟩:=h;simp only[Exit.inBlock];unfold a6Y at b;dsimp only at b;split at b
   ·rename_i d;rw[if_pos (a0g d)];exact a4J (cut:=cut) .normal a w ⟨s,c,b⟩
   ·rename_i d;rw[if_neg (fun e=>by subst e;simp at d)];exact⟨s,c,b⟩
 |ret=>exact h
 |_=>exact h
theorem e2Q {p:Nat->Prop}:∀(n:Nat),p n->∃k,p k /\ ∀j,j<k->¬p j:=by
 intro n
 induction n using Nat.strongRecOn with
 | _ n f =>
   intro h;by_cases a:∃j,j<n /\ p j
   ·obtain⟨j,b,c⟩:=a;exact f j b c
   ·exact⟨n,h,fun j d e=>a ⟨j,d,e⟩⟩
theorem b0X {R:Type} {ex:Nat} {past:List Nat} {pown:List Cv} {K:Ex->St->Option R} {r:R}:∀e a w,a5T P Γ z (d7D ex past pown K) r e a w->a5T P Γ z K r e a w:=by
 intro e a w h;cases e with
 |normal=>obtain⟨s,c,b⟩:=h;cases b
 | exit i =>
   obtain⟨s,c,b⟩:=h;unfold d7D at b;dsimp only at b;split at b
   ·split at b
    ·rename_i f d;exact⟨f,a3X c d,b⟩
    ·cases b
   ·cases b
 |ret=>exact h
 |_=>exact h
theorem d7S {R:Type} {c:Code} {L:a4l} {K:Ex->St->Option R} {r:R}
 (B:∀(K:Ex->St->Option R) s r,EBk Γ c K s=some r->∀a w,SR P Γ z s a w->c.wp P (a5T P Γ z K r) a w) (n:Nat) {s:St} (h:a9o Γ c L K n s=some r) {a:Act} {w:World} (u:SR P Γ z s a w) :
 (Code.loop c).wp P (a5T P Γ z K r) a w:=by
 classical
 let J:Act->World->Nat->Prop:=fun a w k=>∃s,SR P Γ z s a w /\ a9o Γ c L K k s=some r
 let I:Act->World->Prop:=fun a w=>∃k,J a w k
 have d:∀a w,I a w->∃k,J a w k /\ ∀j,j<k->¬J a w j:=fun a w ⟨k,f⟩=>e2Q k f
 let l:Act->World->Nat:=fun a w=>if h:I a w then(d a w h).choose else 0
 have p:∀a w,I a w->J a w (l a w) /\ ∀j,j<l a w->¬J a w j:=by
  intro a w m;have:l a w=(d a w m).choose:=dif_pos m;rw[this];exact(d a w m).choose_spec
 refine wp_loop I l ⟨n,s,u,h⟩ fun a w m=>?_
 obtain⟨⟨s,u,f⟩,_⟩:=p a w m;cases hn:l a w with
 |zero=>rw[hn]at f;simp[a9o]at f
 | succ k =>
   rw[hn]at f;simp only[a9o]at f;refine wp_mono (B _ s r f a w u) fun e g w' q=>?_
   cases e with
   | normal =>
     obtain⟨C,v,b⟩:=q;unfold a3k at b;dsimp only at b;split at b
     ·rename_i x t;have y:J g w' k:=⟨x,a3X v t,b⟩;have o:I g w':=⟨k,y⟩;refine⟨o,?_⟩;have A:=(p g w' o).2 k;rcases Nat.lt_or_ge k (l g w')with h3|h3
      ·exact absurd y (A h3)
      ·omega
     ·cases b
   |exit i=>exact b0X (ex:=L.ex) (past:=L.past) (pown:=L.pown) (.exit i) g w' q
   |ret=>exact b0X (ex:=L.ex) (past:=L.past) (pown:=L.pown) .ret g w' q
   |_=>exact q
theorem b6W {R:Type} (env:a1o P Γ):∀(c:Code),a6y Γ c->∀(K:Ex->St->Option R) (s:St) (r:R),EBk Γ c K s=some r->∀a w,SR P Γ z s a w->c.wp P (a5T P Γ z K r) a w:=by
 intro c
 induction c with
 |skip=>exact fun _ K s r h a w g=>wp_skip ⟨s,g,h⟩
 |label l=>exact fun _ K s r h a w g=>wp_label ⟨s,g,h⟩
 |exit id=>exact fun _ K s r h a w g=>wp_exit ⟨s,g,h⟩
 | ret =>
   intro _ K s r h a w g;unfold EBk at h;split at h
   ·rename_i B hc;exact wp_ret ⟨B,a3X g hc,h⟩
   ·cases h
 | seq x y v A =>
   intro j K s r h a w g;unfold EBk at h;refine wp_seq (wp_mono (v (fun c' f=>j c' (List.mem_append_left _ f)) _ s r h a w g) fun e Y w' I=>?_);cases e with
   | normal =>
     obtain⟨B,T,hk⟩:=I;exact A (fun c' f=>j c' (List.mem_append_right _ f)) K B r hk Y w' T
   |exit i=>exact I
   |ret=>exact I
   |_=>exact I
 | cond c x y v A =>
   intro j K s r h a w g;unfold EBk at h;split at h
   ·rename_i b V;obtain⟨J,β,Ks,C⟩:=g;have W:=a8i C.tmp c;rw[<- b6V,V]at W;have Q:a.eval c = .bool b:=W;have q:∀b',b=b'->SR P Γ z (s.putC c b') a w:=by
     intro b' e;subst e;cases c with
     | tmp t =>
       have:=a4G s t (a2g b) V;exact⟨J,β,Ks,by rw[show(s.putC (.tmp t) b).fs=(s.put t (a2g b)).fs from rfl,this];exact C⟩
     |_=>exact⟨J,β,Ks,C⟩
    refine wp_cond Q ?_;cases b with
    |true=>exact wp_mono (v (fun c' f=>j c' (List.mem_append_left _ f)) _ _ r h a w (q true rfl)) a4J
    |false=>exact wp_mono (A (fun c' f=>j c' (List.mem_append_right _ f)) _ _ r h a w (q false rfl)) a4J
   ·cases h
 | block id x H =>
   intro j K s r h a w g;unfold EBk at h;exact wp_block (wp_mono (H j _ s r h a w g) b2A)
 | loop x H =>
   intro j K s r h a w g;unfold EBk at h;split at h
   ·rename_i L hl;unfold d7E at h;split at h
    ·cases h
    ·rename_i s0 O;split at h
     ·cases h
     ·rename_i ok b s1 s2 G;split at h
      ·cases h
      ·obtain⟨n,hn⟩:=j x (List.mem_cons_self ..) L hl s0 b s1 s2 G R K;refine d7S (L:=L) (H fun c' f=>j c' (List.mem_cons_of_mem _ f)) n (r:=r) (K:=K) ?_ (a3X g O);rw[hn];cases b
       ·exact h
       ·exact h
   ·cases h
 | region id ops d =>
   intro j K s r h a w g;unfold EBk at h;obtain⟨J,β,Ks,C⟩:=g;obtain⟨F,E,X,B,U,fl,fm,fs,u⟩:=b0S ops.toList h;have D:∀i o,ops[i]?=some o->a3D Γ ops o (F i) (E i) (X i) (F (i+1)):=fun i o e=>fs i o (by rw[Array.getElem?_toList];exact e)
   rw[Array.length_toList]at fl u;have p:∀β K' a w,SRf P Γ z β K' (F ops.size) a w->SR P Γ z B a w:=fun β K' a w h=>⟨fm.trans J,β,K',by rw[<- fl];exact h⟩
   cases d with
   | false =>
     dsimp only at u;refine wp_region ?_;rw[List.range_eq_range'];refine b5d env D (fun β K' a w h=>⟨B,p β K' a w h,u⟩) ops.size 0 (by omega) β Ks a w ?_;rw[U];exact C
   | true =>
     dsimp only at u;split at u
     ·rename_i hd;obtain⟨Z,d2,d3⟩:=b2w hd;have R:Rgn Γ ops F E X:=⟨D,Z,d2,d3⟩;have S:SRf P Γ z β Ks (F 0) a { w with drawn:=w.drawn+1 }:=by
       rw[U];exact C.still ⟨rfl,rfl,rfl,rfl⟩
      have m:∀k,(Array.replicate ops.size false).getD k false=false:=by
       intro k;simp only[Array.getD_eq_getD_getElem?,Array.getElem?_replicate];split<;>rfl
      refine wp_region_any env.mixed (c0p env R (fun β K' a w h=>⟨B,p β K' a w h,u⟩) ops.size _ (by simp) ?_ ?_ β Ks _ _ ?_)
      ·have:∀N,cnt (fun k=>(Array.replicate ops.size false).getD k false) N=N:=by
        intro N
        induction N with
        |zero=>rfl
        | succ N H =>
          simp only[cnt];rw[if_neg (by rw[m];simp),H];omega
       rw[this];exact le_refl _
      ·intro i o hi M;dsimp only at M;rw[m]at M;cases M
      ·exact DS.start R S m
     ·cases u
 |_=>intro _ K s r h;simp[EBk]at h
end
section
variable {P:Program} {Γ:Env}
theorem a4K:∀{args:List W} {i:Nat} {β:Bt} {K:Ks} {vs:List Value},All2 (WR β K) args vs->∀t,VR β K (match a1w (b2d i args) (i+t)with|some v=>v|none=>pois) (vs.getD t undef) /\ ∀j,j<i->a1w (b2d i args) j=none
 |[],i,β,K,vs,h,t=>⟨by simp only[b2d,a1w];exact a5k,fun j _=>rfl⟩
 |u::r,i,β,K,[],h,t=>h.elim
 | u::r,i,β,K,v::vs,h,t=>by
   refine⟨?_,fun j a=>?_⟩
   ·cases t with
    | zero =>
      simp only[b2d,a1w,Nat.add_zero,Nat.beq_refl];exact h.1
    | succ t =>
      simp only[b2d,a1w];rw[a1u (by omega)];have:=(a4K (i:=i+1) h.2 t).1;rw[show i+1+t=i+(t+1)by omega]at this;exact this
   ·simp only[b2d,a1w];rw[a1u (by omega)];exact(a4K (i:=i+1) h.2 t).2 j (by omega)
theorem a9M:∀{ins:List Blk} {i:Nat} (k:Nat),a1w (c1H i ins) (i+k)=(ins[k]?).map some
 |[],i,k=>rfl
 |b::r,i,0=>by simp[c1H,a1w]
 | b::r,i,k+1=>by
   simp only[c1H,a1w];rw[a1u (by omega)];have:=a9M (ins:=r) (i:=i+1) k;rw[show i+1+k=i+(k+1)by omega]at this;rw[this];simp
theorem a5U (args:List W) (ins:List Blk):(a7m args ins).get=a2d ins:=by
 funext k;unfold St.get a7m a2d;dsimp only;have:=a9M (ins:=ins) (i:=0) k;rw[Nat.zero_add]at this;rw[this];cases ins[k]?<;>rfl
theorem b0Y:∀(m p:Nat),(a9j m)[p]?=if p<m then some p else none
 |0,p=>by simp[a9j]
 | m + 1,p=>by
   simp only[a9j];have a:(a9j m).length=m:=by
    clear p
    induction m with
    |zero=>rfl
    |succ m b=>simp[a9j,b]
   rw[List.getElem?_append,a];split
   ·rename_i h;rw[b0Y m p,if_pos h,if_pos (by omega)]
   ·rename_i h;by_cases e:p=m
    ·subst e;simp
    ·rw[if_neg (by omega),List.getElem?_eq_none (by simp;omega)]
theorem a2W:∀(m:Nat),(a9j m).length=m
 |0=>rfl
 |m+1=>by simp[a9j,a2W m]
theorem d2I {z:a4S} {fn:Func} (env:a1o P Γ) (i:fn.results.toList=Γ.res) {β:Bt} {K:Ks} {s:St} {a:Act} {w:World} (h:SRf P Γ z β K s.fs a w) {ws:List W} (d:a1q (e2H Γ s) Γ.res=some ws) :
 ∃v,(results fn a.tmps).run P w = .ok v w /\ a6z β K ws v:=by
 have m : ∀(rs:List ResultVar) (ws:List W),a1q (e2H Γ s) rs=some ws->∃vs:List Value,All2 (WR β K) ws vs /\
  (rs.mapM (fun(x:ResultVar)=>match x with
   |.tmp t=>(pure (a.tmps.getD t undef):Go.Sem Value)
   |.cell b t=>do loadVar t (<- asAddr (a.tmps.getD b undef)))).run P w = .ok vs w:=by
  intro rs
  induction rs with
  |nil=>intro ws d;simp only[a1q,injEq]at d;subst d;exact⟨[],trivial,by simp⟩
  | cons x rs D =>
    intro ws d;simp only[a1q]at d;split at d
    ·rename_i y c;split at d
     ·rename_i ys l;cases d;obtain⟨vs,e,f⟩:=D ys l;cases x with
      | tmp t =>
        simp only[e2H]at c;split at c
        ·rename_i u j;cases c;have p:=h.tmp t;rw[show s.fs.T t = .val y from j]at p;refine⟨a.tmps.getD t undef::vs,⟨p,e⟩,?_⟩;rw[List.mapM_cons];simp only[Sem.run_bind,Sem.run_pure,Result.andThen_ok,f]
        ·cases c
      | cell b t =>
        simp only[e2H]at c;split at c
        ·rename_i ti k;split at c
         ·rename_i out g;split at c
          ·rename_i u j;cases c;obtain⟨F,off,G,v,q,A,B,o⟩:=b6M (P:=P) (get:=s.get) (n:=0) (env.tab t ti k) h.kok h.mr (h.tmp b) g;simp only[AM.a0w,injEq]at o;rw[<- o]at j;cases j;refine⟨v::vs,⟨B,e⟩,?_⟩;have C:(do loadVar t (<- asAddr (a.tmps.getD b undef)):Go.Sem Value).run P w = .ok v w:=by
            rw[q,Sem.run_bind];simp only[asAddr,Sem.run_pure,Result.andThen_ok,A]
           rw[List.mapM_cons,Sem.run_bind];dsimp only;rw[C];simp only[Result.andThen_ok,Sem.run_bind,f,Sem.run_pure]
          ·cases c
         ·cases c
        ·cases c
     ·cases d
    ·cases d
 obtain⟨vs,e,f⟩:=m _ _ d;rw[<- i]at f;refine⟨if h:vs.toArray.size=1 then vs.toArray[0]else .tuple vs.toArray,?_,?_⟩
 ·unfold results;rw[Array.mapM_eq_mapM_toList,Sem.run_bind,Sem.run_map]
  erw [f]
  rfl
 ·unfold a6z;cases ws with
  | nil=>cases vs with
    |nil=>exact⟨#[],rfl,trivial⟩
    |cons _ _=>exact e.elim
  | cons x r=>cases vs with
    |nil=>exact e.elim
    | cons v vs=>cases r with
      | nil=>cases vs with
        |nil=>exact e.1
        |cons _ _=>exact e.2.elim
      | cons y r=>cases vs with
        |nil=>exact e.2.elim
        |cons E vs=>exact⟨(v::E::vs).toArray,by simp,by simpa using e⟩
structure a7b (P:Program) (f:Nat) (Γ:Env) (c:Code):Prop where
 loops:a6y Γ c
 is:∃fn,P.funcs[f]?=some fn /\ fn.body=some c /\ fn.results.toList=Γ.res /\ fn.ntmps=Γ.nt /\ (fn.name == "runtime.NumGoroutine")=false
theorem a7b.ok {f:Nat} {c:Code} (h:a7b P f Γ c):d7G P f:=by
 obtain⟨fn,a,b,_,_,d⟩:=h.is;exact⟨fn,a,by rw[b];rfl,d⟩
theorem b6X {R:Type} (env:a1o P Γ) {f:Nat} {c:Code} (hf:a7b P f Γ c) {g:List W×List (Option Blk)->Option R} {args:List W} {ins:List Blk} {r:R} (h:b4O Γ c g args ins=some r)
 {β0:Bt} {K0:Ks} {w0:World} {vs:Array Value} (l:KOK K0 w0) (hm:MR β0 K0 (a2d ins) w0) (C:∀k,ins.length<=k->β0 k=none) (hv:All2 (WR β0 K0) args vs.toList) :
 Calls P f vs w0 fun e w'=>∃v β K rs outs,e = .returned v /\ g (rs,outs)=some r /\ Ret ins outs rs β0 K0 w0 v w' β K:=by
 obtain⟨fn,Q,q,J,V,_⟩:=hf.is;unfold b4O at h;split at h
 case h_2=>cases h
 rename_i F;have F:args.length<=Γ.nt:=by simpa using F
 have hlen:args.length=vs.size:=by simpa using hv.length
 refine calls_of_wp Q q ?_;rw[V]
 let z:a4S:=⟨β0,K0,w0,ins.length,Own β0 (a2d ins)⟩
 have h0:SR P Γ z (a7m args ins) { tmps:=vs++Array.replicate (Γ.nt-vs.size) undef,defers:=[] } w0:=by
  refine⟨rfl,β0,K0,⟨fun t=>?_,by simp;omega,rfl,l,?_,C,KLe.refl _,fun b arr e => .inl e,Fr.refl _ _,?_,fun k y _ e=>e,le_refl _⟩⟩
  ·have L:=(a4K (i:=0) hv t).1;rw[Nat.zero_add]at L;have M:(vs++Array.replicate (Γ.nt-vs.size) undef).getD t undef=vs.toList.getD t undef:=by
    simp only[Array.getD_eq_getD_getElem?,List.getD_eq_getElem?_getD,Array.getElem?_toList];rw[Array.getElem?_append];split
    ·rfl
    ·rename_i n;rw[Array.getElem?_replicate,Array.getElem?_eq_none (xs:=vs) (by omega)];split<;>rfl
   show VR β0 K0 ((a7m args ins).tmpV t) ((vs++Array.replicate (Γ.nt-vs.size) undef).getD t undef);rw[M];exact L
  ·show MR β0 K0 (a7m args ins).get w0;rw[a5U];exact hm
  ·intro x B;left;have:(a7m args ins).fs.G=a2d ins:=a5U args ins;rw[this]at B;exact B
 refine wp_mono (b6W env c hf.loops _ _ r h _ _ h0) fun e a w N=>?_
 have p:∀s,SR P Γ z s a w->(match fin Γ s with|some r=>g r|none=>none)=some r->a.defers=[] /\ ∃v,(results fn a.tmps).run P w = .ok v w /\ ∃v' β K rs outs,Ending.returned v = .returned v' /\ g (rs,outs)=some r /\ Ret ins outs rs β0 K0 w0 v' w β K:=by
  intro s j m;split at m
  case h_2=>cases m
  rename_i ro d;obtain⟨rs,outs⟩:=ro;obtain⟨G,β,K,j⟩:=j;unfold fin at d;split at d
  ·cases d
  ·rename_i ws Z;obtain⟨v,X,Y⟩:=d2I env J j Z;dsimp only at d;generalize E:a2q s.get a1D (a9j s.m++ws.flatMap a0M) (a9j 0)=ks at d;have H:(a3v ks s.m).Nodup:=by
    rw[a3E,<- E];exact List.Pairwise.filter _ (a2j _ _ _ _ (by simp[a9j]))
   have D:∀k∈a3v ks s.m,s.m<=k:=by
    intro k l;rw[a3E,List.mem_filter]at l;simpa using l.2
   generalize a3v ks s.m=rest at d H D;split at d
   ·rename_i ws' outs' L M;cases d;have hlo:outs.length=s.m+rest.length:=by rw[a2i M,List.length_append,a2W]
    have o:∀k' b',a2f outs k'=some b'->∃k b,a2G rest s.m k=some k' /\ s.get k=some b /\ b1U (a2G rest s.m) b=some b':=by
     intro k' b' e;unfold a2f at e;cases hq:outs[k']? with
     |none=>rw[hq]at e;cases e
     | some x =>
       rw[hq]at e;have B:x=some b':=e;subst B;obtain⟨k,l,I⟩:=(All2.ofMap M).get?' hq;have U:a2G rest s.m k=some k':=by
        rw[List.getElem?_append,a2W]at l;unfold a2G;split at l
        ·rename_i n;rw[b0Y,if_pos n]at l;have S:k'=k:=Option.some.inj l;rw[<- S,show Nat.blt k' s.m=true by simpa[Nat.blt_eq]using n]
        ·rename_i n;have A:=D k (List.mem_of_getElem? l);rw[show Nat.blt k s.m=false from Bool.eq_false_iff.2 fun e=>by rw[Nat.blt_eq]at e;omega];dsimp only;rw[a8n H l];congr 1;omega
       cases hg0:s.get k with
       |none=>rw[hg0]at I;simp[a5d]at I
       | some b0 =>
         rw[hg0]at I;simp only[a5d,Option.map_eq_some_iff,injEq]at I;obtain⟨b1,h4,h5⟩:=I;exact⟨k,b0,U,hg0,by rw[h4,h5]⟩
    refine⟨j.defers,v,X,v,a8o β rest s.m,K,rs,outs,rfl,m,⟨j.kle,j.kok,j.knew,j.mr.ren a2K o,fun k l=>b0W (by omega),?_,j.fr,fun x B=>j.own x (B.ren j.mr a2K o),?_,?_⟩⟩
    ·have A:VR (a8o β rest s.m) K (c8T rs) v:=a7F L Y fun c c' u _ O hu=>a6D a2K O hu
     exact A
    ·intro k y e;have T:k<ins.length:=by
      rcases Nat.lt_or_ge k ins.length with A|A
      ·exact A
      ·rw[C k A]at e;cases e
     have hzm:s.m=ins.length:=G;rw[b0V (by omega)];exact j.ble k y T e
    ·have hzm:s.m=ins.length:=G;omega
   ·cases d
 cases e with
 |normal=>obtain⟨s,j,m⟩:=N;exact p s j m
 |ret=>obtain⟨s,j,m⟩:=N;exact p s j m
 |exit i=>obtain⟨s,j,m⟩:=N;cases m
 |_=>exact N.elim
end
open Go Go.ChangeShapes Go.WideShapes
def d7T:C->Value->Bool
 |.pois,_=>true
 |.bool b,.bool b'=>b==b'
 |.int k n,.int k' n'=>a2o k k'&&decide (n=n')
 |.flt k b,.float k' b'=>a1b k k'&&beq b b'
 |.cpx k a b,.complex k' a' b'=>a1b k k'&&beq a a'&&beq b b'
 |.str s,.string s'=>beq s.size 0&&beq s'.size 0
 |.nil _,.slice _ n c=>beq n 0&&beq c 0
 |_,_=>false
theorem a5l {s:ByteArray} (h:s.size=0):s=ByteArray.empty:=by
 apply ByteArray.ext;apply Array.eq_empty_of_size_eq_zero;exact h
theorem c9o {c:C} {v:Value} (h:d7T c v=true):ZR c v:=by
 intro β K;unfold d7T at h;split at h
 ·trivial
 ·rename_i b b';have:b=b':=by simpa using h
  rw[this];rfl
 ·simp only[and_eq_true,a2o,decide_eq_true_eq]at h;obtain⟨rfl,rfl⟩:=h;rfl
 ·simp only[and_eq_true,a1b,decide_eq_true_eq]at h;obtain⟨rfl,h⟩:=h;rw[a0g h];exact⟨_,rfl,FEq.refl _ _⟩
 ·simp only[and_eq_true,a1b,decide_eq_true_eq]at h;obtain⟨⟨rfl,h⟩,h'⟩:=h;rw[a0g h,a0g h'];exact⟨_,_,rfl,FEq.refl _ _,FEq.refl _ _⟩
 ·simp only[and_eq_true]at h;rw[a5l (a0g h.1),a5l (a0g h.2)];rfl
 ·simp only[and_eq_true]at h;rw[a0g h.1,a0g h.2];exact⟨_,rfl⟩
 ·cases h
def c2l {α c:Type} (f:α->c->Bool):List α->List c->Bool
 |[],[]=>true
 |a::as1,b::bs=>f a b&&c2l f as1 bs
 |_,_=>false
theorem b0Z {α c:Type} {f:α->c->Bool} {R:α->c->Prop} (d:∀a b,f a b=true->R a b):∀{as1:List α} {bs:List c},c2l f as1 bs=true->All2 R as1 bs
 |[],[],_=>trivial
 | a::as1,b::bs,h=>by
   simp only[c2l,and_eq_true]at h;exact⟨d _ _ h.1,b0Z d h.2⟩
 |[],_::_,h=>by cases h
 |_::_,[],h=>by cases h
def c2m (P:Program) (f:Field) (x:Nat×Nat×Bool):Bool:=
 beq f.offset x.1&&(match P.info? f.type,P.underlying f.type with
  |some fi,some fd=>beq fi.size x.2.1&&(c8W fd==x.2.2)
  |_,_=>false)
def f1v (P:Program) (d:TypeDesc) (ti:TI):Bool:=match ti.sort,d with
 |.slice,.slice e=>beq e ti.elem
 |.array n,.array m e=>beq m n&&beq e ti.elem
 |.string,.string=>true
 |.struct,.struct fs=>c2l (c2m P) fs.toList ti.fields
 |.bool,.bool=>true
 |.int k,.int k'=>a2o k k'
 |.float k,.float k'=>a1b k k'
 |.complex k,.complex k'=>a1b k k'
 |.other,_=>true
 |_,_=>false
theorem c2n {P:Program} {f:Field} {x:Nat×Nat×Bool} (h:c2m P f x=true):f.offset=x.1 /\ ∃b fd,P.info? f.type=some b /\ b.size=x.2.1 /\ P.underlying f.type=some fd /\ c8W fd=x.2.2:=by
 simp only[c2m,and_eq_true]at h;obtain⟨e,a⟩:=h;split at a
 ·rename_i b fd c d;simp only[and_eq_true]at a;exact⟨a0g e,b,fd,c,a0g a.1,d,by simpa using a.2⟩
 ·cases a
theorem d7U {P:Program} {d:TypeDesc} {ti:TI} (h:f1v P d ti=true):a1C P d ti:=by
 unfold f1v at h;unfold a1C;split at h
 ·rename_i e;rw[e];rw[a0g h]
 ·rename_i e;simp only[and_eq_true]at h;rw[e];dsimp only;rw[a0g h.1,a0g h.2]
 ·rename_i e;rw[e]
 ·rename_i e;rw[e];exact⟨_,rfl,b0Z (fun _ _=>c2n) h⟩
 ·rename_i e;rw[e]
 ·rename_i e;rw[e];dsimp only;rw[show _=_ from of_decide_eq_true h]
 ·rename_i e;rw[e];dsimp only;rw[show _=_ from of_decide_eq_true h]
 ·rename_i e;rw[e];dsimp only;rw[show _=_ from of_decide_eq_true h]
 ·rename_i e;rw[e];trivial
 ·cases h
def a3i:Ty->List Value->Option (List Value)
 |.bool,.bool false::r=>some r
 |.int k,.int k' n::r=>match a2o k k'&&decide (n=0)with|true=>some r|false=>none
 |.flt k,.float k' b::r=>match a1b k k'&&beq b 0 with|true=>some r|false=>none
 |.cpx k,.complex k' a b::r=>match a1b k k'&&beq a 0&&beq b 0 with|true=>some r|false=>none
 |.str,.string s::r=>match beq s.size 0 with|true=>some r|false=>none
 |.slice _,.slice _ n c::r=>match beq n 0&&beq c 0 with|true=>some r|false=>none
 |.nil,r=>some r
 | .cons a b,r=>match a3i a r with
   |some d=>a3i b d
   |none=>none
 |_,_=>none
theorem c9p:∀(t:Ty) {vs r:List Value},a3i t vs=some r->∃d,vs=d++r /\ ∀K,DR K t (zero t) d:=by
 intro t
 induction t with
 | cons a b e f =>
   intro vs r h;simp only[a3i]at h;split at h
   ·rename_i o l;obtain⟨d,rfl,i⟩:=e l;obtain⟨g,rfl,j⟩:=f h;exact⟨d++g,by simp,fun K=>⟨d,g,rfl,i K,j K⟩⟩
   ·cases h
 |nil=>intro vs r h;simp only[a3i,injEq]at h;subst h;exact⟨[],rfl,fun K=>rfl⟩
 | jnk =>
   intro vs r h;cases vs with
   |nil=>simp[a3i]at h
   |cons v vs=>cases v<;>simp[a3i]at h
 | bool =>
   intro vs r h;cases vs with
   |nil=>simp[a3i]at h
   | cons v vs =>
     cases v<;>first|(simp[a3i]at h;done)|skip
     rename_i b;cases b
     ·simp only[a3i,injEq]at h;subst h;exact⟨[_],rfl,fun K=>rfl⟩
     ·simp[a3i]at h
 | int k =>
   intro vs r h;cases vs with
   |nil=>simp[a3i]at h
   | cons v vs =>
     cases v<;>simp only[a3i]at h<;>first|cases h|skip
     split at h
     ·rename_i c;simp only[and_eq_true,a2o,decide_eq_true_eq]at c;obtain⟨rfl,rfl⟩:=c;cases h;exact⟨[_],rfl,fun K=>rfl⟩
     ·cases h
 | flt k =>
   intro vs r h;cases vs with
   |nil=>simp[a3i]at h
   | cons v vs =>
     cases v<;>simp only[a3i]at h<;>first|cases h|skip
     split at h
     ·rename_i c;simp only[and_eq_true,a1b,decide_eq_true_eq]at c;obtain⟨rfl,c⟩:=c;rw[a0g c];cases h;exact⟨[_],rfl,fun K=>⟨_,rfl,FEq.refl _ _⟩⟩
     ·cases h
 | cpx k =>
   intro vs r h;cases vs with
   |nil=>simp[a3i]at h
   | cons v vs =>
     cases v<;>simp only[a3i]at h<;>first|cases h|skip
     split at h
     ·rename_i c;simp only[and_eq_true,a1b,decide_eq_true_eq]at c;obtain⟨⟨rfl,c⟩,m⟩:=c;rw[a0g c,a0g m];cases h;exact⟨[_],rfl,fun K=>⟨_,_,rfl,FEq.refl _ _,FEq.refl _ _⟩⟩
     ·cases h
 | str =>
   intro vs r h;cases vs with
   |nil=>simp[a3i]at h
   | cons v vs =>
     cases v<;>simp only[a3i]at h<;>first|cases h|skip
     split at h
     ·rename_i c;cases h;rw[a5l (a0g c)];exact⟨[_],rfl,fun K=>rfl⟩
     ·cases h
 | slice t n =>
   intro vs r h;cases vs with
   |nil=>simp[a3i]at h
   | cons v vs =>
     cases v<;>simp only[a3i]at h<;>first|cases h|skip
     split at h
     ·rename_i c;simp only[and_eq_true]at c;rw[a0g c.1,a0g c.2];cases h;exact⟨[_],rfl,fun K=>⟨_,0,0,rfl,rfl,le_refl _,.inl rfl⟩⟩
     ·cases h
def tiB (P:Program) (t:Nat) (ti:TI):Bool:=match P.info? t,P.underlying t with
 | some i,some d=>match i.zero with
   |some z=>beq i.size ti.size&&beq i.bytes ti.bytes&&(c8W d==ti.agg)&&c2l d7T ti.zero z.cells.toList&&f1v P d ti &&
    (!beq ti.ty.size ti.size||(match a3i ti.ty z.cells.toList with|some []=>true|_=>false))&&beq z.cells.size i.size
   |none=>false
 |_,_=>false
theorem e2R {P:Program} {t:Nat} {ti:TI} (h:tiB P t ti=true):e1L P t ti:=by
 unfold tiB at h;split at h
 ·rename_i i d l m;split at h
  ·rename_i z n;simp only[and_eq_true]at h;obtain⟨⟨⟨⟨⟨⟨b,c⟩,f⟩,g⟩,j⟩,a⟩,k⟩:=h;refine⟨i,d,z,l,m,n,a0g b,a0g c,by simpa using f,b0Z (fun _ _=>c9o) g,d7U j,fun o=>?_,a0g k⟩;rw[o]at a;simp only[Nat.beq_refl,Bool.not_true,Bool.false_or]at a;split at a
   ·rename_i p;obtain⟨q,e,hd⟩:=c9p _ p;rw[List.append_nil]at e;rw[e];exact hd
   ·cases a
  ·cases h
 ·cases h
def e8L (P:Program) (l:List (Nat×TI)):Bool:=l.all fun x=>tiB P x.1 x.2
theorem b1a {α:Type}:∀{l:List (Nat×α)} {t:Nat} {x:α},a1w l t=some x->(t,x)∈l
 |[],_,_,h=>by cases h
 | (k,y)::r,t,x,h=>by
   simp only[a1w]at h;split at h
   ·rename_i e;cases h;rw[a0g e];exact List.mem_cons_self ..
   ·exact List.mem_cons_of_mem _ (b1a h)
theorem d7V {P:Program} {l:List (Nat×TI)} (h:e8L P l=true):∀t ti,a1w l t=some ti->e1L P t ti:=fun t ti e=>
 e2R (List.all_eq_true.1 h _ (b1a e))
def b1b (w:World):Ks:=fun b=>match w.heap[b]? with
 |some (.cells arr _ _)=>some (false,arr)
 |_=>none
theorem d7W (w:World) (x:Nat):¬Jk (b1b w) x:=by
 rintro⟨arr,e⟩;unfold b1b at e;split at e<;>cases e
theorem d7X (w:World) (c:GK (b1b w)):KOK (b1b w) w:=by
 refine⟨?_,c⟩;intro b arr e;unfold b1b at e;split at e
 ·rename_i a T fz h;cases e;exact⟨a,T,fz,h,KOK.self fun e=>by cases e⟩
 ·cases e
def Wf:(t:Ty)->Den t->Prop
 |.int k,n=>(Lit.int k n).wf=true
 |.flt k,b=>(Lit.float k b).wf=true
 |.str,s=>s.size<=maxLen
 |.slice t,l=>l.length<=maxLen /\ ∀x∈l,Wf t x
 |.cons a b,p=>Wf a p.1 /\ Wf b p.2
 |_,_=>True
mutual
def tyB (P:Program):Ty->Nat->Bool
 |.bool,t=>match P.underlying t with|some .bool=>true|_=>false
 |.int k,t=>match P.underlying t with|some (.int k')=>a2o k k'|_=>false
 |.flt k,t=>match P.underlying t with|some (.float k')=>a1b k k'|_=>false
 |.str,t=>match P.underlying t with|some .string=>true|_=>false
 |.cpx _,_=>false
 |.jnk,_=>false
 |.nil,_=>false
 | .slice e,t=>match P.underlying t with
   |some (.slice te)=>tyB P e te&&beq (P.cellsOf te) e.size&&Nat.blt 0 e.size
   |_=>false
 | .cons a b,t=>match P.underlying t with
   | some (.struct fs)=>match fs.toList with
     |f::r=>beq f.offset 0&&tyB P a f.type&&beq (P.cellsOf f.type) a.size&&fldB P b r a.size&&beq (P.cellsOf t) (a.size+b.size)
     |[]=>false
   |_=>false
def fldB (P:Program):Ty->List Field->Nat->Bool
 |.nil,fs,_=>fs.isEmpty
 | .cons a b,fs,off=>match fs with
   |f::r=>beq f.offset off&&tyB P a f.type&&beq (P.cellsOf f.type) a.size&&fldB P b r (off+a.size)
   |[]=>false
 |_,_,_=>false
end
theorem d7Y {P:Program} {e:Ty} {t:Nat} (h:tyB P e t=true):e.isJ=false:=by
 cases e with
 |jnk=>simp[tyB]at h
 |_=>rfl
theorem a9t {α b:Type} {f:α->Option b} {x:α} {l:List α} {ys:List b} (h:(x::l).mapM f=some ys):∃y a,f x=some y /\ l.mapM f=some a /\ ys=y::a:=by
 rw[List.mapM_cons]at h;cases h1:f x with
 |none=>rw[h1]at h;cases h
 | some y =>
   rw[h1]at h;cases h2:l.mapM f with
   |none=>rw[h2]at h;cases h
   | some a =>
     rw[h2]at h;exact⟨y,a,rfl,rfl,(Option.some.inj h).symm⟩
theorem b6Y {α a:Type} {f:α->Option a}:∀{l:List α} {ys:List a},l.mapM f=some ys->ys.length=l.length /\ ∀(i:Nat) x,l[i]?=some x->∃y,ys[i]?=some y /\ f x=some y
 | [],ys,h=>by
   have:ys=[]:=by simpa using h.symm
   subst this;exact⟨rfl,fun i x e=>by simp at e⟩
 | x::l,ys,h=>by
   obtain⟨y,j,b,c,rfl⟩:=a9t h;obtain⟨d,g⟩:=b6Y c;refine⟨by simp[d],fun i z e=>?_⟩;cases i with
   |zero=>simp only[List.getElem?_cons_zero,injEq]at e;subst e;exact⟨y,rfl,b⟩
   |succ i=>exact g i z (by simpa using e)
theorem b2B {a:Type} {f:Nat->Option a} {n:Nat} {ys:List a} (h:(List.range n).mapM f=some ys):ys.length=n /\ ∀i,i<n->∃y,ys[i]?=some y /\ f i=some y:=by
 obtain⟨b,c⟩:=b6Y h;exact⟨by simpa using b,fun i d=>c i i (by simp[d])⟩
theorem c2o {w:World} {base b off n:Nat} {arr:Array Value} {T:TypeId} {fz:Nat×Nat} (hh:w.heap[b]?=some (.cells arr T fz)) {vs:List Value} (h:w.cells? base ⟨b,off,none⟩ n=some vs):vs=sub arr.toList off n:=by
 unfold World.cells? at h;split at h
 ·obtain⟨f,d⟩:=b2B h;apply List.ext_getElem?;intro j;unfold sub;rw[List.getElem?_take];split
  ·rename_i e;obtain⟨y,c,a⟩:=d j e;rw[c,List.getElem?_drop,Array.getElem?_toList];rw[a2C]at a;unfold World.cell? at a;rw[hh]at a;simpa using a.symm
  ·rw[List.getElem?_eq_none (by omega)]
 ·cases h
section
variable {H:Type} {enc:TypeId×Value->H} {P:Program} {w:World} {base:Nat} {spare:Nat->Bool} {held:Bool}
theorem d7Z:∀(ty:Ty),
 (∀(t fuel:Nat) (cs:List Value) (d:DataW H×List MemPlace),tyB P ty t=true->DataW.trod enc P w base spare held fuel t cs=some d->∃x:Den ty,DR (b1b w) ty x cs /\ Wf ty x) /\
 (∀(j:List Field) (off fuel:Nat) (cs:List Value),fldB P ty j off=true->(∀f∈j,∃y,DataW.trod enc P w base spare held fuel f.type ((cs.drop f.offset).take (P.cellsOf f.type))=some y) ->
  cs.length=off+ty.size->∃x:Den ty,DR (b1b w) ty x (cs.drop off) /\ Wf ty x):=by
 intro ty
 induction ty with
 | bool =>
   refine⟨fun t fuel cs d c h=>?_,fun j off fuel cs h=>by simp[fldB]at h⟩;simp only[tyB]at c;split at c
   ·rename_i A;obtain⟨b,o,_⟩:=DataW.trod_bool A h;exact⟨b,o,trivial⟩
   ·cases c
 | int k =>
   refine⟨fun t fuel cs d c h=>?_,fun j off fuel cs h=>by simp[fldB]at h⟩;simp only[tyB]at c;split at c
   ·rename_i k' A;have W:k=k':=of_decide_eq_true c;subst W;obtain⟨n,o,_,B⟩:=DataW.trod_int A h;exact⟨n,o,B⟩
   ·cases c
 | flt k =>
   refine⟨fun t fuel cs d c h=>?_,fun j off fuel cs h=>by simp[fldB]at h⟩;simp only[tyB]at c;split at c
   ·rename_i k' A;have W:k=k':=of_decide_eq_true c;subst W;have:∃b,cs=[.float k b] /\ (Lit.float k b).wf=true:=by
     cases fuel with
     |zero=>simp[DataW.trod]at h
     | succ fuel =>
       unfold DataW.trod at h;rw[A]at h;split at h<;>simp_all
    obtain⟨b,o,B⟩:=this;exact⟨b,⟨b,o,FEq.refl _ _⟩,B⟩
   ·cases c
 | str =>
   refine⟨fun t fuel cs d c h=>?_,fun j off fuel cs h=>by simp[fldB]at h⟩;simp only[tyB]at c;split at c
   ·rename_i A;obtain⟨s,o,_,B⟩:=DataW.trod_string A h;exact⟨s,o,B⟩
   ·cases c
 |cpx k=>exact⟨fun t fuel cs d h=>by simp[tyB]at h,fun j off fuel cs h=>by simp[fldB]at h⟩
 |jnk=>exact⟨fun t fuel cs d h=>by simp[tyB]at h,fun j off fuel cs h=>by simp[fldB]at h⟩
 | nil =>
   refine⟨fun t fuel cs d h=>by simp[tyB]at h,fun j off fuel cs h hm X=>?_⟩;refine⟨(),?_,trivial⟩;show cs.drop off=[];rw[List.drop_eq_nil_iff];simp only[Ty.size]at X;omega
 | slice e ih =>
   refine⟨fun t fuel cs d c h=>?_,fun j off fuel cs h=>by simp[fldB]at h⟩;simp only[tyB]at c;split at c
   case h_2=>cases c
   rename_i te A;simp only[and_eq_true]at c;obtain⟨⟨t1,t2⟩,t3⟩:=c;have t2:=a0g t2;have t3:0<e.size:=by simpa[Nat.blt_eq]using t3
   rcases DataW.trod_slice A h with⟨o,_⟩|⟨ad,len,cap,elems,rest,n,_,o,_,_,L,J,h6,h7,h8⟩
   ·exact⟨[],⟨none,0,0,o,rfl,le_refl _,.inl rfl⟩,zero_le _,fun x F=>by cases F⟩
   ·rw [t2]at h7;by_cases D:len=0
    ·subst D;exact⟨[],⟨some ad,0,cap,o,rfl,zero_le _,.inl rfl⟩,zero_le _,fun x F=>by cases F⟩
    ·have G:∀i,i<len->∃y vs,w.cells? base (ad.add (i*e.size)) e.size=some vs /\ DataW.trod enc P w base spare held n te vs=some y:=by
      intro i u;have:=h7 i u;rw[List.getElem?_eq_getElem (by omega)]at this;obtain⟨vs,z,E⟩:=Option.bind_eq_some_iff.1 this;exact⟨_,vs,z,E⟩
     obtain⟨y0,vs0,z,_⟩:=G 0 (by omega);have p:∃v,w.cell? ad=some v:=by
      unfold World.cells? at z;split at z
      ·obtain⟨_,K⟩:=b2B z;obtain⟨v,_,I⟩:=K 0 t3;rw[Nat.zero_mul]at I;exact⟨v,I⟩
      ·cases z
     obtain⟨v0,p⟩:=p;obtain⟨b,off,N⟩:=ad;unfold World.cell? at p;split at p
     case h_2=>cases p
     rename_i arr T fz hh;dsimp only at hh p;cases N with
     |some q=>simp at p
     | none =>
       have hK:b1b w b=some (e.isJ,arr):=by unfold b1b;rw[hh,d7Y t1]
       have C:∀i,i<len->∃x:Den e,DR (b1b w) e x (sub arr.toList (off+i*e.size) e.size) /\ Wf e x:=by
        intro i u;obtain⟨y,vs,z,E⟩:=G i u;rw[a2C]at z;rw[<- c2o hh z];exact ih.1 te n vs y t1 E
       have:∃l:List (Den e),l.length=len /\ ∀i (u:i<l.length),DR (b1b w) e l[i] (sub arr.toList (off+i*e.size) e.size) /\ Wf e l[i]:=by
        clear h8 h7 h6 J L o G D
        induction len with
        |zero=>exact⟨[],rfl,fun i u=>by simp at u⟩
        | succ m ihm =>
          obtain⟨l,Q,R⟩:=ihm fun i u=>C i (by omega)
          obtain⟨x,F⟩:=C m (by omega);refine⟨l++[x],by simp[Q],fun i u=>?_⟩;by_cases M:i<l.length
          ·rw[List.getElem_append_left M];exact R i M
          ·have:i=l.length:=by simp at u;omega
           subst this;rw[List.getElem_append_right (le_refl _)];simp only[Nat.sub_self,List.getElem_cons_zero];rw[Q];exact F
       obtain⟨l,Q,R⟩:=this;refine⟨l,⟨some ⟨b,off,none⟩,len,cap,o,Q.symm,L,.inr ⟨b,off,arr,rfl,hK,fun i u=>(R i u).1⟩⟩,?_,fun x F=>?_⟩
       ·omega
       ·obtain⟨i,u,rfl⟩:=List.mem_iff_getElem.1 F;exact(R i u).2
 | cons a b Y Z =>
   have step:∀(f:Field) (r:List Field) (off fuel:Nat) (cs:List Value),f.offset=off->tyB P a f.type=true->P.cellsOf f.type=a.size->fldB P b r (off+a.size)=true ->
    (∀g∈f::r,∃y,DataW.trod enc P w base spare held fuel g.type ((cs.drop g.offset).take (P.cellsOf g.type))=some y)->cs.length=off+(a.size+b.size) ->
    ∃x:Den (.cons a b),DR (b1b w) (.cons a b) x (cs.drop off) /\ Wf (.cons a b) x:=by
    intro f r off fuel cs o h2 B L J h6;obtain⟨y,hy⟩:=J f (List.mem_cons_self ..);rw[o,B]at hy;obtain⟨x1,d1,w1⟩:=Y.1 f.type fuel _ y h2 hy;obtain⟨x2,d2,w2⟩:=Z.2 r (off+a.size) fuel cs L (fun g O=>J g (List.mem_cons_of_mem _ O)) (by omega);refine⟨(x1,x2),⟨_,_,?_,d1,d2⟩,w1,w2⟩;rw[<- List.drop_drop];exact(List.take_append_drop ..).symm
   refine⟨fun t fuel cs d c h=>?_,fun j off fuel cs h hf X=>?_⟩
   ·simp only[tyB]at c;split at c
    case h_2=>cases c
    rename_i j A;obtain⟨xs,n,_,_,B,L,J⟩:=DataW.trod_struct A h;split at c
    case h_2=>cases c
    rename_i f r U;simp only[and_eq_true]at c;obtain⟨⟨⟨⟨z,E⟩,K⟩,I⟩,g5⟩:=c;have:=step f r 0 n cs (a0g z) E (a0g K) (by rw[Nat.zero_add];exact I) (fun g O=>?_) (by rw[B,a0g g5];omega)
    ·rw[List.drop_zero]at this;exact this
    ·rw[<- U]at O;obtain⟨i,u,he⟩:=List.mem_iff_getElem.1 O;have V:i<j.size:=by simpa using u
     have S:j[i]?=some g:=by
      rw[Array.getElem?_eq_getElem V,<- he];simp
     have:=J i g S;rw[List.getElem?_eq_getElem (by omega)]at this;exact⟨_,this⟩
   ·cases j with
    |nil=>simp[fldB]at h
    | cons f r =>
      simp only[fldB,and_eq_true]at h;obtain⟨⟨⟨z,E⟩,K⟩,I⟩:=h;exact step f r off fuel cs (a0g z) E (a0g K) I hf (by simpa[Ty.size]using X)
def d8a:(t:Ty)->Den t->W
 |.bool,b => .one (.bool b)
 |.int k,n => .one (.int k n)
 |.flt k,b => .one (.flt k b)
 |.cpx k,p => .one (.cpx k p.1 p.2)
 |.str,s => .one (.str s)
 |.slice t,l => .one (.sl t l)
 |.nil,_ => .agg []
 |.cons a b,p => .agg (AM.enc (.cons a b) p)
 |.jnk,_ => .one .junk
theorem d8b {β:Bt} {K:Ks} {t:Ty} {x:Den t} {v:Value} (h:DR K t x v.cells.toList) (d:match t with|.nil=>(∃cs,v = .agg cs)|.cons _ _=>(∃cs,v = .agg cs)|_=>v.cells=#[v]):WR β K (d8a t x) v:=by
 have c:=DR.enc (β:=β) t h;cases t with
 |nil=>obtain⟨cs,rfl⟩:=d;exact⟨cs,rfl,c⟩
 |cons a b=>obtain⟨cs,rfl⟩:=d;exact⟨cs,rfl,c⟩
 |bool=>dsimp only at d;rw[d]at c;exact c.1
 |int k=>dsimp only at d;rw[d]at c;exact c.1
 |flt k=>dsimp only at d;rw[d]at c;exact c.1
 |cpx k=>dsimp only at d;rw[d]at c;exact c.1
 |str=>dsimp only at d;rw[d]at c;exact c.1
 |slice t=>dsimp only at d;rw[d]at c;exact c.1
 |jnk=>dsimp only at d;rw[d]at c;exact c.1
theorem e2S {ty:Ty} {t:Nat} {v:Value} {d:DataW H} {ps:List MemPlace} {r:Reach} {j:Nat} (f:tyB P ty t=true) (i:Value.okWide P w r j t v) (h:DataW.Trod enc P w base spare held t v d ps) :
 ∃x:Den ty,Wf ty x /\ ∀β,WR β (b1b w) (d8a ty x) v:=by
 obtain⟨fuel,h⟩:=h;obtain⟨x,hd,l⟩:=(d7Z (H:=H) ty).1 t fuel _ _ f h;refine⟨x,l,fun β=>d8b hd ?_⟩;cases ty with
 |nil=>simp[tyB]at f
 |cpx k=>simp[tyB]at f
 |jnk=>simp[tyB]at f
 | cons a b =>
   simp only[tyB]at f;split at f
   ·rename_i m g;obtain⟨cs,e,_⟩:=okWide_struct g i;exact⟨cs,e⟩
   ·cases f
 | bool =>
   simp only[tyB]at f;split at f
   ·rename_i g;obtain⟨b,rfl⟩:=okWide_bool g i;rfl
   ·cases f
 | int k =>
   simp only[tyB]at f;split at f
   ·rename_i g;obtain⟨b,rfl⟩:=okWide_int g i;rfl
   ·cases f
 | flt k =>
   simp only[tyB]at f;split at f
   ·rename_i g;simp only[Value.okWide,g,Cell.okWide]at i;cases v<;>first|rfl|(simp_all[Cell.ok];done)
   ·cases f
 | str =>
   simp only[tyB]at f;split at f
   ·rename_i g;obtain⟨b,rfl⟩:=okWide_string g i;rfl
   ·cases f
 | slice e =>
   simp only[tyB]at f;split at f
   ·rename_i g;obtain⟨a,n,c,rfl⟩:=okWide_slice g i;rfl
   ·cases f
end
open Go Go.RowKit
def c1v (t:Ty) (cs:List C):Option (Den t):=match dec t cs with
 |some (x,[])=>some x
 |_=>none
def e8M:(t:Ty)->W->Option (Den t)
 |.nil,.agg cs=>c1v .nil cs
 |.cons a b,.agg cs=>c1v (.cons a b) cs
 |.bool,.one c=>c1v .bool [c]
 |.int k,.one c=>c1v (.int k) [c]
 |.flt k,.one c=>c1v (.flt k) [c]
 |.cpx k,.one c=>c1v (.cpx k) [c]
 |.str,.one c=>c1v .str [c]
 |.slice t,.one c=>c1v (.slice t) [c]
 |_,_=>none
def b6Z:(t:Ty)->List W->Option (Den t)
 |.nil,[]=>some ()
 | .cons a b,w::ws=>match e8M a w with
   | some x=>match b6Z b ws with
     |some y=>some (x,y)
     |none=>none
   |none=>none
 |_,_=>none
def a6t:(t:Ty)->Den t->List W
 |.cons a b,p=>d8a a p.1::a6t b p.2
 |_,_=>[]
theorem b1c {β:Bt} {K:Ks} {t:Ty} {cs:List C} {x:Den t} {vs:List Value} (h:c1v t cs=some x) (b:All2 (CR β K) cs vs):DR K t x vs:=by
 unfold c1v at h;split at h
 ·rename_i y e;cases h;obtain⟨d,c,rfl,hd,a⟩:=b2e t e b;cases c with
  |nil=>rw[List.append_nil];exact hd
  |cons _ _=>exact a.elim
 ·cases h
theorem c2p {β:Bt} {K:Ks} {t:Ty} {u:W} {x:Den t} {v:Value} (h:e8M t u=some x) (a:WR β K u v):WR β K (d8a t x) v:=by
 have one:∀c,c1v t [c]=some x->CR β K c v->All2 (CR β K) (AM.enc t x) [v]:=fun c e d=>DR.enc t (b1c e ⟨d,trivial⟩)
 unfold e8M at h;split at h<;>first|cases h;done|skip
 ·obtain⟨arr,rfl,b⟩:=a;exact⟨arr,rfl,DR.enc _ (b1c h b)⟩
 ·obtain⟨arr,rfl,b⟩:=a;exact⟨arr,rfl,DR.enc _ (b1c h b)⟩
 ·exact(one _ h a).1
 ·exact(one _ h a).1
 ·exact(one _ h a).1
 ·exact(one _ h a).1
 ·exact(one _ h a).1
 ·exact(one _ h a).1
theorem a5m {β:Bt} {K:Ks}:∀{t:Ty} {c:List W} {x:Den t} {vs:List Value},b6Z t c=some x->All2 (WR β K) c vs->All2 (WR β K) (a6t t x) vs:=by
 intro t
 induction t with
 | nil =>
   intro c x vs h d;cases c with
   |nil=>exact d
   |cons _ _=>simp[b6Z]at h
 | cons a b _ e =>
   intro c x vs h d;cases c with
   |nil=>simp[b6Z]at h
   | cons u c =>
     simp only[b6Z]at h;split at h
     ·rename_i y f;split at h
      ·rename_i z g;cases h;cases vs with
       |nil=>exact d.elim
       |cons v vs=>exact⟨c2p f d.1,e g d.2⟩
      ·cases h
     ·cases h
 |_=>intro c x vs h;cases c<;>simp[b6Z]at h
def a0c (A R:Ty) (ok:Den A->Bool) (g:Den A->Den R):a5A:=⟨false,fun ws ins=>match ins with
 | []=>match b6Z A ws with
   |some x=>some (ok x,a6t R (g x),[])
   |none=>none
 |_=>none⟩
def c2q (tab:List (Nat×TI)) (eqs:List Nat) (a:List (Nat×a5A)) (nt:Nat) (res:List ResultVar) (frz:List Nat) (cut:List (Nat×(List Nat×List Cv))) (loops:List (Nat×a4l)) (past:List (Nat×(List Nat×List Cv))) (rown:List Cv):Env:=
 { tab:=a1w tab,sem:=a1w a,eqT:=b0E eqs,nt,res,frz,cut,loops,past,rown }
def a6u {α:Type} (R:α->Prop):List α->Prop
 |[]=>True
 |x::r=>R x /\ a6u R r
theorem a6u.mem {α:Type} {R:α->Prop}:∀{l:List α},a6u R l->∀x∈l,R x
 |[],_,x,h=>by cases h
 | y::r,h,x,a=>by
   rcases List.mem_cons.1 a with rfl|a
   ·exact h.1
   ·exact h.2.mem x a
theorem a6u.nil {α:Type} {R:α->Prop}:a6u R []:=trivial
theorem a6u.cons {α:Type} {R:α->Prop} {x:α} {r:List α} (h:R x) (a:a6u R r):a6u R (x::r):=⟨h,a⟩
def a0f (P:Program) (x:Nat×a5A):Prop:=c1I P x.1 x.2 /\ d7G P x.1
theorem b2C {P:Program} {tab:List (Nat×TI)} {eqs:List Nat} {a:List (Nat×a5A)} (c:P.follows .mixedOrders=true) (g:e8L P tab=true) (b:a6u (e2J P) eqs) (d:a6u (a0f P) a) {nt:Nat} {res:List ResultVar} {frz:List Nat} {cut:List (Nat×(List Nat×List Cv))} {loops:List (Nat×a4l)} {past:List (Nat×(List Nat×List Cv))} {rown:List Cv} :
 a1o P (c2q tab eqs a nt res frz cut loops past rown):=
 ⟨d7V g,fun f sm e=>d.mem (f,sm) (b1a e),(fun t e=>b.mem t (a5G.1 e)),c⟩
section
variable {P:Program} {Γ:Env}
def c9q (R:Ty):List W×List (Option Blk)->Option (Den R):=fun p=>match p.2 with
 |[]=>b6Z R p.1
 |_=>none
theorem c9r:∀{t:Ty} {c:List W} {x:Den t},b6Z t c=some x->(a6t t x).length=c.length:=by
 intro t
 induction t with
 | nil=>intro c x h;cases c with
   |nil=>rfl
   |cons _ _=>simp[b6Z]at h
 | cons a b _ d =>
   intro c x h;cases c with
   |nil=>simp[b6Z]at h
   | cons u c =>
     simp only[b6Z]at h;split at h
     ·split at h
      ·rename_i z e;cases h;simp[a6t,d e]
      ·cases h
     ·cases h
 |_=>intro c x h;cases c<;>simp[b6Z]at h
theorem a7G {β:Bt} {K:Ks} {R:Ty} {rs:List W} {r:Den R} {v:Value} (h:b6Z R rs=some r) (a:a6z β K rs v):a6z β K (a6t R r) v:=by
 have c:=c9r h;unfold a6z at a ⊢
 match rs,a6t R r,c,(fun vs=>a5m (β:=β) (K:=K) (vs:=vs) h)with
 |[],[],_,_=>exact a
 |[u],[u'],_,hk=>exact(hk [v] ⟨a,trivial⟩).1
 | u::u2::us,y::y2::ys,_,hk =>
   obtain⟨arr,e,b⟩:=a;exact⟨arr,e,hk arr.toList b⟩
theorem f1w (env:a1o P Γ) {f:Nat} {c:Code} (l:a7b P f Γ c) {A R:Ty} {ok:Den A->Bool} {g:Den A->Den R} (h:∀x,ok x=true->b4O Γ c (c9q R) (a6t A x) []=some (g x)):a0f P (f,a0c A R ok g):=by
 refine⟨?_,l.ok⟩;intro args ins rs outs a β0 K0 w0 vs m n d o;cases ins with
 |cons _ _=>simp[a0c]at a
 | nil =>
   simp only[a0c]at a;split at a
   ·rename_i x p;simp only[injEq,Prod.mk.injEq]at a;obtain⟨i,rfl,rfl⟩:=a;refine(b6X env l (h x i) m n d (a5m p o)).mono ?_;rintro e w' ⟨v,β,K,q,j,rfl,b,k⟩;unfold c9q at b;dsimp only at b;split at b
    ·exact⟨v,β,K,rfl,{ k with out:=a7G b k.out }⟩
    ·cases b
   ·cases a
theorem a0Q (env:a1o P Γ) {f:Nat} {c:Code} (b:a7b P f Γ c) {A R:Ty} {p:Den A->Option (Den R)} (h:∀x,b4O Γ c (c9q R) (a6t A x) []=p x):a0f P (f,a0c A R (fun x=>(p x).isSome) (fun x=>(p x).getD (zero R))):=
 f1w env b fun x a=>by
  rw[h x];cases hp:p x with
  |none=>rw[hp]at a;cases a
  |some r=>rfl
end
inductive c9s:C->C->Bool->Prop
 |int (k:IntKind) (x y:Int):c9s (.int k x) (.int k y) (x==y)
 |bool (x y:Bool):c9s (.bool x) (.bool y) (x==y)
theorem a2X:∀{cs ds:List C} {b:Bool},a2B cs ds=some b->cs.length=ds.length /\ (cs=[]->b=true) /\
 ∀(c d:C) (r f:List C),cs=c::r->ds=d::f->∃e b',a2B r f=some b' /\ b=(e&&b') /\ c9s c d e
 | [],[],b,h=>by
   simp only[a2B,injEq]at h;exact⟨rfl,fun _=>h.symm,fun c d r f e=>by cases e⟩
 |[],_::_,b,h=>by simp[a2B]at h
 |c::r,[],b,h=>by cases c<;>simp[a2B]at h
 | c :: r,d::f,b,h=>by
   have a:∀e,(match r,f with|[],[]=>some e|_,_=>match a2B r f with|some b'=>some (e&&b')|none=>none)=some b->∃b',a2B r f=some b' /\ b=(e&&b'):=by
    intro e i;split at i
    ·cases i;exact⟨true,rfl,by simp⟩
    ·split at i
     ·rename_i b' o;cases i;exact⟨b',o,rfl⟩
     ·cases i
   cases c<;>cases d<;>first|(simp[a2B]at h;done)|skip
   ·rename_i x y;simp only[a2B]at h;obtain⟨b',g,l⟩:=a (x==y) h;have n:=(a2X g).1;refine⟨by simp[n],fun e=>(by cases e),fun c d q p e j=>?_⟩;cases e;cases j;exact⟨_,b',g,l,.bool x y⟩
   ·rename_i k x k' y;simp only[a2B]at h;split at h
    ·rename_i m;have m:k=k':=of_decide_eq_true m;subst m;obtain⟨b',g,l⟩:=a (x==y) h;have n:=(a2X g).1;refine⟨by simp[n],fun e=>(by cases e),fun c d q p e j=>?_⟩;cases e;cases j;exact⟨_,b',g,l,.int k x y⟩
    ·cases h
theorem b2D:∀(n:Nat) {cs ds:List C} {b:Bool},a2B cs ds=some b->∃e j,a2B (cs.take n) (ds.take n)=some e /\ a2B (cs.drop n) (ds.drop n)=some j /\ b=(e&&j)
 |0,cs,ds,b,h=>⟨true,b,rfl,h,by simp⟩
 | n+1,[],[],b,h=>by
   cases h;exact⟨true,true,rfl,rfl,rfl⟩
 |n+1,[],_::_,b,h=>by simp[a2B]at h
 |n+1,c::r,[],b,h=>by cases c<;>simp[a2B]at h
 | n+1,c::r,d::r',b,h=>by
   obtain⟨e,b',s,t,w⟩:=(a2X h).2.2 c d r r' rfl rfl;obtain⟨f,l,m,o,q⟩:=b2D n s;refine⟨e&&f,l,?_,o,by rw[t,q,Bool.and_assoc]⟩;have add:∀(p a:List C) (x:Bool),a2B p a=some x->a2B (c::p) (d::a)=some (e&&x):=by
    intro p a x i;have g:=a2X i;cases w with
    | int k u v =>
      simp only[a2B];rw[show a2o k k=true by simp[a2o]];cases p with
      | nil =>
        cases a with
        |nil=>have:=g.2.1 rfl;subst this;simp
        |cons _ _=>simp at g
      | cons _ _ =>
        cases a with
        |nil=>simp at g
        |cons _ _=>simp only[i]
    | bool u v =>
      simp only[a2B];cases p with
      | nil =>
        cases a with
        |nil=>have:=g.2.1 rfl;subst this;simp
        |cons _ _=>simp at g
      | cons _ _ =>
        cases a with
        |nil=>simp at g
        |cons _ _=>simp only[i]
   exact add _ _ _ m
def c9t (v:Value) (c:C):Prop:=(∃k x y,v = .int k x /\ c = .int k y)∨(∃x y,v = .bool x /\ c = .bool y)
theorem b1d:∀{zs cs:List C} {vs:List Value},a7O zs cs=true->All2 ZR zs vs->All2 c9t vs cs
 |[],[],[],_,_=>trivial
 |[],[],_::_,_,h=>by cases h
 |z::r,[],vs,h,_=>by cases z<;>simp[a7O]at h
 |[],_::_,vs,h,_=>by simp[a7O]at h
 |z::r,c::r',[],_,h=>by cases h
 | z::r,c::r',v::vs,h,hz=>by
   obtain⟨a,b⟩:=hz;have a:=a (fun _=>none) (fun _=>none);cases z<;>cases c<;>first|(simp[a7O]at h;done)|skip
   ·simp only[a7O]at h;exact⟨.inr ⟨_,_,a,rfl⟩,b1d h b⟩
   ·simp only[a7O,and_eq_true]at h;have d:=of_decide_eq_true h.1;subst d;exact⟨.inl ⟨_,_,_,a,rfl⟩,b1d h.2 b⟩
def e2T:Option Value->Bool
 |some (.int _ _)=>true
 |_=>false
def d8c:Option Value->Bool
 |some (.bool _)=>true
 |_=>false
def d2J (P:Program) (zl:List Value) (et:Nat->List Value->Bool):List Field->Nat->Option Nat
 |[],off=>some off
 | f :: fs,off=>match beq f.offset off&&decide (f.name ≠ "_"),P.info? f.type,P.underlying f.type with
   | true,some i,some d=>match (match d with|.int _=>beq i.size 1&&e2T zl[off]?|.bool=>beq i.size 1&&d8c zl[off]?|.struct _=>et f.type ((zl.drop off).take i.size)|_=>false)with
     |true=>d2J P zl et fs (off+i.size)
     |false=>none
   |_,_,_=>none
def d2K (P:Program):Nat->Nat->List Value->Bool
 |0,_,_=>false
 | n+1,t,zl=>(match P.underlying t,P.info? t with
   |some (.struct fs),some i=>(match d2J P zl (d2K P n) fs.toList 0 with|some m=>beq i.size m|none=>false)
   |_,_=>false)&&!P.stoodInHeld t
section
variable {P:Program} {w:World} {β:Bt} {K:Ks}
def EqN (P:Program) (n t:Nat) (a:List Value):Prop:=∀(d:Nat),n<=d->∀(cs ds:List C) (xs ys:Array Value) (b:Bool) (β:Bt) (K:Ks) (w:World),(∀i,P.info? t=some i->cs.length=i.size)->All2 c9t a cs->a2B cs ds=some b->All2 (CR β K) cs xs.toList->All2 (CR β K) ds ys.toList ->
    (Op.equalIn (d+1) t (.agg xs) (.agg ys)).run P w = .ok b w
theorem b7a {α β:Type} {R:α->β->Prop}:∀{l:List α} {m:List β},All2 R l m->l.length=m.length
 |[],[],_=>rfl
 |_::_,_::_,⟨_,h⟩=>by simp[b7a h]
 |[],_::_,h=>by cases h
 |_::_,[],h=>by cases h
theorem b7b {α β:Type} {R:α->β->Prop}:∀{l:List α} {m:List β} {i:Nat} {a:α} {b:β},All2 R l m->l[i]?=some a->m[i]?=some b->R a b
 |_::_,_::_,0,a,b,⟨h,_⟩,h1,h2=>by cases h1;cases h2;exact h
 |_::_,_::_,i+1,a,b,⟨_,h⟩,h1,h2=>b7b h (by simpa using h1) (by simpa using h2)
 |[],_,_,_,_,_,h1,_=>by simp at h1
 |_::_,[],_,_,_,h,_,_=>by cases h
theorem b2E {α β:Type} {R:α->β->Prop}:∀(n:Nat) {l:List α} {m:List β},All2 R l m->All2 R (l.drop n) (m.drop n)
 |0,_,_,h=>h
 |n+1,[],[],_=>trivial
 |n+1,_::_,_::_,⟨_,h⟩=>b2E n h
 |n+1,[],_::_,h=>by cases h
 |n+1,_::_,[],h=>by cases h
theorem b2F {α β:Type} {R:α->β->Prop}:∀(n:Nat) {l:List α} {m:List β},All2 R l m->All2 R (l.take n) (m.take n)
 |0,_,_,_=>trivial
 |n+1,[],[],_=>trivial
 |n+1,_::_,_::_,⟨h1,h⟩=>⟨h1,b2F n h⟩
 |n+1,[],_::_,h=>by cases h
 |n+1,_::_,[],h=>by cases h
theorem a7c (n:Nat) (IH:∀t zl,d2K P n t zl=true->EqN P n t zl) (d:Nat) (hd:n<=d) {xs ys:Array Value} {cs ds:List C} {zl:List Value} (hz:All2 c9t zl cs) (hx:All2 (CR β K) cs xs.toList) (hy:All2 (CR β K) ds ys.toList):∀(fs:List Field) (off m:Nat) (b:Bool),d2J P zl (d2K P n) fs off=some m->m=cs.length->off<=cs.length->cs.length=ds.length->a2B (cs.drop off) (ds.drop off)=some b ->
 (Op.eqFields (d+1) xs ys fs).run P w = .ok b w
 | [],off,m,b,hm,hl,ho,hl2,hq=>by
   simp only[d2J,injEq]at hm
   have h1:=(a2X hq).2.1 (by rw[List.drop_eq_nil_iff];omega)
   subst h1
   simp[Op.eqFields]
 | f :: fs,off,m,b,hm,hl,ho,hl2,hq=>by
   simp only[d2J]at hm
   split at hm
   case h_2=>cases hm
   rename_i i ud f12 hi hu
   split at hm
   case h_2=>cases hm
   rename_i f3
   rw[and_eq_true]at f12
   have f1:=a0g f12.1
   have f2:f.name ≠ "_" := of_decide_eq_true f12.2
   obtain⟨e,e',g1,g2,g3⟩:=b2D i.size hq
   have hmono:∀(l:List Field) (o k:Nat),d2J P zl (d2K P n) l o=some k->o<=k:=by
    intro l
    induction l with
    |nil=>intro o k h;simp only[d2J,injEq]at h;omega
    | cons a l ih =>
      intro o k h
      simp only[d2J]at h
      split at h
      ·split at h
       ·have:=ih _ _ h;omega
       ·cases h
      ·cases h
   have hmo:=hmono _ _ _ hm
   have l1:(a2p cs off i.size).length=i.size:=by unfold a2p;rw[List.length_take,List.length_drop];omega
   have l2:(a2p ds off i.size).length=i.size:=by unfold a2p;rw[List.length_take,List.length_drop];omega
   have ih:=a7c n IH d hd hz hx hy fs (off+i.size) m e' hm hl (by omega) hl2 (by rw[<- List.drop_drop,<- List.drop_drop];exact g2)
   have main:∃v v',(part f.type xs off).run P w = .ok v w /\ (part f.type ys off).run P w = .ok v' w /\ (Op.equalIn (d+1) f.type v v').run P w = .ok e w:=by
    have one:∀(hag:c8W ud=false) (hs:i.size=1),∃c c' v v' z,(part f.type xs off).run P w = .ok v w /\ (part f.type ys off).run P w = .ok v' w /\ CR β K c v /\ CR β K c' v' /\ c9s c c' e /\ zl[off]?=some z /\ c9t z c:=by
     intro hag hs
     rw[hs]at g1 l1 l2
     obtain⟨c,hc⟩:=List.length_eq_one_iff.1 l1
     obtain⟨c',hc'⟩:=List.length_eq_one_iff.1 l2
     obtain⟨v,r1,c1⟩:=a5H (P:=P) (w:=w) (u := .one c) false f.type hi hu hag hx (by rw[hs,hc];rfl)
     obtain⟨v',r2,c2⟩:=a5H (P:=P) (w:=w) (u := .one c') false f.type hi hu hag hy (by rw[hs,hc'];rfl)
     have hc0:=hc
     unfold a2p at hc hc'
     rw[hc,hc']at g1
     obtain⟨q,b',q1,q2,q3⟩:=(a2X g1).2.2 _ _ _ _ rfl rfl
     cases q1
     rw[Bool.and_true]at q2
     subst q2
     have hzl:=b7a hz
     have hoz:off<zl.length:=by omega
     have hcs:cs[off]?=some c:=by
      have:((cs.drop off).take 1)[0]?=some c:=by rw[hc];rfl
      rw[List.getElem?_take_of_lt (by omega),List.getElem?_drop]at this
      simpa using this
     refine⟨c,c',v,v',zl[off],r1,r2,c1,c2,q3,List.getElem?_eq_getElem hoz,b7b hz (List.getElem?_eq_getElem hoz) hcs⟩
    split at f3
    ·rename_i ik
     rw[and_eq_true]at f3
     obtain⟨c,c',v,v',z,r1,r2,c1,c2,q3,hz0,hl0⟩:=one rfl (a0g f3.1)
     refine⟨v,v',r1,r2,?_⟩
     cases q3 with
     |int k x y=>rw[show v=_ from c1,show v'=_ from c2];exact run_equalIn_int w d f.type k _ x y hu
     | bool x y =>
       have f3:=f3.2
       rw[hz0]at f3
       rcases hl0 with⟨_,_,_,_,h⟩|⟨_,_,h,_⟩
       ·cases h
       ·subst h;cases f3
    ·rw[and_eq_true]at f3
     obtain⟨c,c',v,v',z,r1,r2,c1,c2,q3,hz0,hl0⟩:=one rfl (a0g f3.1)
     refine⟨v,v',r1,r2,?_⟩
     cases q3 with
     |bool x y=>rw[show v=_ from c1,show v'=_ from c2];exact run_equalIn_bool' w d f.type x y hu
     | int k x y =>
       have f3:=f3.2
       rw[hz0]at f3
       rcases hl0 with⟨_,_,_,h,_⟩|⟨_,_,_,h⟩
       ·subst h;cases f3
       ·cases h
    ·rename_i fs'
     obtain⟨v,r1,xs',rfl,c1⟩:=a5H (P:=P) (w:=w) (u := .agg (a2p cs off i.size)) true f.type hi hu rfl hx (by unfold a3h;rw[l1];simp)
     obtain⟨v',r2,ys',rfl,c2⟩:=a5H (P:=P) (w:=w) (u := .agg (a2p ds off i.size)) true f.type hi hu rfl hy (by unfold a3h;rw[l2];simp)
     refine⟨_,_,r1,r2,?_⟩
     exact IH _ _ f3 d hd _ _ _ _ e β K w (fun i' hi'=>by rw[hi]at hi';cases hi';exact l1) (b2F _ (b2E _ hz)) g1 c1 c2
    ·cases f3
   obtain⟨v,v',r1,r2,heq⟩:=main
   rw[<- f1]at r1 r2
   simp only[Op.eqFields]
   rw[if_pos f2]
   simp only[Sem.run_bind,r1,r2,heq,Result.andThen_ok]
   cases e with
   |false=>simp[g3]
   | true =>
     simp only[Bool.not_true,Bool.false_eq_true,if_false]
     rw[ih,g3]
     simp
theorem c2r:∀(n t:Nat) (f:List Value),d2K P n t f=true->EqN P n t f
 |0,_,_,h=>by simp[d2K]at h
 | n+1,t,f,h=>by
   simp only[d2K,and_eq_true]at h;obtain⟨a,p⟩:=h;split at a
   case h_2=>cases a
   rename_i j i o q;split at a
   case h_2=>cases a
   rename_i m r;have k:P.fieldsOf t=j:=by unfold Program.fieldsOf;rw[o]
   intro d hd cs ds xs ys b β K w g v l s u;rw[run_equalIn_struct w d t xs ys (by rw[k];exact o) (by simpa using p),k];obtain⟨d,rfl⟩:∃e,d=e+1:=⟨d-1,by omega⟩;have c:=(a2X l).1;exact a7c n (fun t f h=>c2r n t f h) d (by omega) v s u j.toList 0 m b r (by rw[g i q,a0g a]) (by omega) c (by simpa using l)
end
def eqB (P:Program) (t:Nat):Bool:=(match P.info? t with
 |some i=>(match i.zero with|some z=>d2K P 6 t z.cells.toList|none=>false)
 |none=>false)&&!P.eqGuardType P.depth t
theorem e2U {P:Program} {t:Nat} (h:eqB P t=true):e2J P t:=by
 simp only[eqB,and_eq_true]at h;obtain⟨a,k⟩:=h;split at a
 case h_2=>cases a
 rename_i i f;split at a
 case h_2=>cases a
 rename_i z p;refine⟨by simpa using k,fun cs ds xs ys b β K w d m n o=>?_⟩;obtain⟨l,r,zs,e,g,j⟩:=d i f;rw[p]at e;cases e;exact c2r 6 t z.cells.toList a 9999 (by decide) cs ds xs ys b β K w (fun q c=>by rw[f]at c;cases c;exact l) (b1d j g) m n o
def f7Z (P:Program) (l:List Nat):Bool:=l.all (eqB P)
theorem c2s {P:Program}:∀{l:List Nat},f7Z P l=true->a6u (e2J P) l
 |[],_=>trivial
 | t::r,h=>by
   simp only[f7Z,List.all_cons,and_eq_true]at h;exact⟨e2U h.1,c2s h.2⟩
section
variable {Γ:Env}
theorem b1e (o:Oper) (s:St):(∀(R:Type) (K:St->Ent->Option R),c1t Γ o K s=none)∨∃a e,∀(R:Type) (K:St->Ent->Option R),c1t Γ o K s=K a e:=by
 cases h:act Γ o s.val s.get s.n with
 |none=>left;intro R K;simp only[c1t,h]
 | some out =>
   cases h1:a6w Γ o.dst with
   |false=>left;intro R K;simp only[c1t,h,h1]
   | true =>
     cases h2:out.ok with
     |false=>left;intro R K;simp only[c1t,h,h1,h2]
     |true=>right;exact⟨_,_,fun R K=>by simp only[c1t,h,h1,h2];rfl⟩
theorem a8p (o:Oper) (s:St):(∀(R:Type) (K:St->Ent->Option R),a6x Γ o K s=none)∨∃a e,∀(R:Type) (K:St->Ent->Option R),a6x Γ o K s=K a e:=by
 unfold a6x;split
 ·split
  ·rename_i b _;cases b with
   |true=>exact b1e o _
   |false=>exact b1e o _
  ·exact .inl fun _ _=>rfl
 ·exact b1e o s
theorem a8q (o:Oper) (s:St):(∀(R:Type) (K:St->Ent->Option R),a7l Γ o K s=none)∨∃a e,∀(R:Type) (K:St->Ent->Option R),a7l Γ o K s=K a e:=by
 unfold a7l;cases a6w Γ o.dst with
 |true=>exact .inr ⟨_,_,fun _ _=>rfl⟩
 |false=>exact .inl fun _ _=>rfl
theorem b7c (ops:Array Oper):∀(L:List Oper) (s:St) (d:List Ent),(∀(R:Type) (K:St->List Ent->Option R),a9B Γ ops L s d K=none)∨∃c f,∀(R:Type) (K:St->List Ent->Option R),a9B Γ ops L s d K=K c f
 |[],s,d => .inr ⟨s,d,fun _ _=>rfl⟩
 | o :: L,s,d=>by
   have a:∀(X:∀(R:Type),(St->Ent->Option R)->Option R),((∀R K,X R K=none)∨∃c e,∀R K,X R K=K c e) ->
    (∀(R:Type) (K:St->List Ent->Option R),X R (fun c e=>a9B Γ ops L c (e::d) K)=none)∨∃c f,∀(R:Type) (K:St->List Ent->Option R),X R (fun c e=>a9B Γ ops L c (e::d) K)=K c f:=by
    intro X i;rcases i with h|⟨c,e,h⟩
    ·exact .inl fun R K=>h R _
    ·rcases b7c ops L c (e::d)with h2|⟨s2,t2,h2⟩
     ·exact .inl fun R K=>by rw[h];exact h2 R K
     ·exact .inr ⟨s2,t2,fun R K=>by rw[h];exact h2 R K⟩
   unfold a9B;split
   ·exact a (fun R K=>a6x Γ o K s) (a8p o s)
   ·split
    ·exact .inl fun _ _=>rfl
    ·rename_i g want j _ t k;split
     ·rename_i b _;cases b<;>cases want
      ·exact a (fun R K=>a6x Γ o K (s.put t (a2g false))) (a8p o _)
      ·exact a (fun R K=>a7l Γ o K (s.put t (a2g false))) (a8q o _)
      ·exact a (fun R K=>a7l Γ o K (s.put t (a2g true))) (a8q o _)
      ·exact a (fun R K=>a6x Γ o K (s.put t (a2g true))) (a8p o _)
     ·exact a (fun R K=>a7l Γ o K s) (a8q o s)
     ·exact .inl fun _ _=>rfl
def a6G (X:∀(R:Type),(Ex->St->Option R)->Option R):Prop:=(∀R K,X R K=none)∨∃e a,∀R K,X R K=K e a
theorem a6G.bind {X:∀(R:Type),(Ex->St->Option R)->Option R} (h:a6G X) {T:∀(R:Type),(Ex->St->Option R)->Ex->St->Option R} (c:∀e s,a6G fun R K=>T R K e s):a6G fun R K=>X R (T R K):=by
 rcases h with h|⟨e,s,h⟩
 ·exact .inl fun R K=>h R _
 ·rcases c e s with a|⟨b,d,a⟩
  ·exact .inl fun R K=>(h R _).trans (a R K)
  ·exact .inr ⟨b,d,fun R K=>(h R _).trans (a R K)⟩
theorem a6G.pure (e:Ex) (s:St):a6G fun R K=>K e s := .inr ⟨e,s,fun _ _=>rfl⟩
theorem a6G.none:a6G fun R K=>(Option.none:Option R) := .inl fun _ _=>rfl
theorem a4L (cut:Option (List Nat×List Cv)) (e:Ex) (s:St):a6G fun R K=>a5g cut K e s:=by
 cases e with
 | normal =>
   cases cut with
   |none=>exact a6G.pure .normal s
   | some c =>
     cases h:a7Q c.1 c.2 s with
     |none=>exact .inl fun R K=>by simp only[a5g,h]
     |some a=>exact .inr ⟨.normal,a,fun R K=>by simp only[a5g,h]⟩
 |exit i=>exact a6G.pure (.exit i) s
 |ret=>exact a6G.pure .ret s
theorem b5g (id:Nat) (cut:Option (List Nat×List Cv)) (e:Ex) (s:St):a6G fun R K=>a6Y id cut K e s:=by
 cases e with
 |normal=>exact a4L cut .normal s
 | exit i =>
   cases h:beq i id with
   | true =>
     have:=a4L cut .normal s;unfold a6G at this ⊢;simp only[a6Y,h];exact this
   |false=>exact .inr ⟨.exit i,s,fun R K=>by simp only[a6Y,h]⟩
 |ret=>exact a6G.pure .ret s
theorem b7d:∀(c:Code) (s:St),a6G fun R K=>EBk (R:=R) Γ c K s:=by
 intro c
 induction c with
 |skip=>exact fun s=>a6G.pure .normal s
 |label l=>exact fun s=>a6G.pure .normal s
 |exit id=>exact fun s=>a6G.pure (.exit id) s
 | ret =>
   intro s;cases h:a7Q (Γ.res.map f7X) Γ.rown s with
   |none=>exact .inl fun R K=>by simp only[EBk,h]
   |some a=>exact .inr ⟨.ret,a,fun R K=>by simp only[EBk,h]⟩
 | seq x y f g =>
   intro s;refine a6G.bind (f s) (T:=fun R K e a=>match e with|.normal=>EBk Γ y K a|e=>K e a) fun e a=>?_
   cases e with
   |normal=>exact g a
   |exit i=>exact a6G.pure (.exit i) a
   |ret=>exact a6G.pure .ret a
 | cond c x y f g =>
   intro s;show a6G fun R K=>(match s.val c with
    | .val (.one (.bool b))=>match b with
      |true=>EBk Γ x (a5g (a1w Γ.cut (b2c c)) K) (s.putC c true)
      |false=>EBk Γ y (a5g (a1w Γ.cut (b2c c)) K) (s.putC c false)
    |_=>Option.none:Option R)
   split
   ·rename_i b _;cases b with
    |true=>exact a6G.bind (f _) (T:=fun R K=>a5g (a1w Γ.cut (b2c c)) K) fun e a=>a4L _ e a
    |false=>exact a6G.bind (g _) (T:=fun R K=>a5g (a1w Γ.cut (b2c c)) K) fun e a=>a4L _ e a
   ·exact a6G.none
 | block id x j =>
   intro s;exact a6G.bind (j s) (T:=fun R K=>a6Y id (a1w Γ.past id) K) fun e a=>b5g _ _ e a
 | loop x j =>
   intro s;cases h:a1w Γ.loops (a0I x)with
   |none=>exact .inl fun R K=>by simp only[EBk,h]
   | some L =>
     cases h1:a7Q L.live L.own s with
     |none=>exact .inl fun R K=>by simp only[EBk,h,d7E,h1]
     | some k =>
       cases h2:L.run k with
       |none=>exact .inl fun R K=>by simp only[EBk,h,d7E,h1,h2]
       | some p =>
         obtain⟨ok,b,s1,s2⟩:=p;cases ok with
         |false=>exact .inl fun R K=>by simp only[EBk,h,d7E,h1,h2]
         | true=>cases b with
           |true=>exact .inr ⟨.ret,s2,fun R K=>by simp only[EBk,h,d7E,h1,h2]⟩
           |false=>exact .inr ⟨.exit L.ex,s1,fun R K=>by simp only[EBk,h,d7E,h1,h2]⟩
 | region id ops d =>
   intro s;rcases b7c (Γ:=Γ) ops ops.toList s []with h|⟨a,tr,h⟩
   ·exact .inl fun R K=>by simp only[EBk];exact h R _
   ·cases d with
    |false=>exact .inr ⟨.normal,a,fun R K=>by simp only[EBk];exact h R _⟩
    | true =>
      cases hd:b2a ops tr with
      |true=>exact .inr ⟨.normal,a,fun R K=>by simp only[EBk];rw[h R _,hd]⟩
      |false=>exact .inl fun R K=>by simp only[EBk];rw[h R _,hd]
 |_=>exact fun s => .inl fun R K=>by simp only[EBk]
end
inductive ShC where
 |bool
 |int (k:IntKind)
 |flt (k:FloatKind)
 |cpx (k:FloatKind)
 |str
 |sl (t:Ty)
 |pois
 |nil (t:Ty)
 |ref (t:Ty) (k:Nat)
 |ptr (k o:Nat)
 |fn (f:Nat) (caps:List Nat)
@[reducible] def ShC.den:ShC->Type
 |.bool=>Bool
 |.int _=>Int
 |.flt _=>Nat
 |.cpx _=>Nat×Nat
 |.str=>ByteArray
 |.sl t=>List (Den t)
 |_=>Unit
def mkC:(c:ShC)->c.den->C
 |.bool,b => .bool b
 |.int k,n => .int k n
 |.flt k,b => .flt k b
 |.cpx k,p => .cpx k p.1 p.2
 |.str,s => .str s
 |.sl t,l => .sl t l
 |.pois,_ => .pois
 |.nil t,_ => .nil t
 |.ref t k,_ => .ref t k
 |.ptr k o,_ => .ptr k o
 |.fn f caps,_ => .fn f caps
def c2t (t a:Ty):Bool:=match a2Q t a with
 |some _=>true
 |none=>false
theorem b1f {t a:Ty} (h:c2t t a=true):t=a:=by
 unfold c2t at h;split at h
 ·rename_i h' _;exact h'.down
 ·cases h
def eqL:List Nat->List Nat->Bool
 |[],[]=>true
 |x::r,y::q=>beq x y&&eqL r q
 |_,_=>false
theorem d2L:∀{l r:List Nat},eqL l r=true->l=r
 |[],[],_=>rfl
 | x::r,y::q,h=>by
   simp only[eqL,and_eq_true]at h;rw[a0g h.1,d2L h.2]
 |[],_::_,h=>by cases h
 |_::_,[],h=>by cases h
def e2V:(c:ShC)->C->Option c.den
 |.bool,.bool b=>some b
 |.int k,.int k' n=>match a2o k k' with|true=>some n|false=>none
 |.flt k,.flt k' b=>match a1b k k' with|true=>some b|false=>none
 |.cpx k,.cpx k' a b=>match a1b k k' with|true=>some (a,b)|false=>none
 |.str,.str s=>some s
 | .sl t,.sl t' l=>match a2Q t' t with
   |some ⟨h⟩=>some (h ▸ l)
   |none=>none
 |.pois,.pois=>some ()
 |.nil t,.nil t'=>match c2t t t' with|true=>some ()|false=>none
 |.ref t k,.ref t' k'=>match c2t t t'&&beq k k' with|true=>some ()|false=>none
 |.ptr k o,.ptr k' o'=>match beq k k'&&beq o o' with|true=>some ()|false=>none
 |.fn f caps,.fn f' caps'=>match beq f f'&&eqL caps caps' with|true=>some ()|false=>none
 |_,_=>none
theorem b5h {c:ShC} {x:C} {v:c.den} (h:e2V c x=some v):x=mkC c v:=by
 cases c<;>cases x<;>simp only[e2V]at h<;>first|cases h;done|skip
 ·cases h;rfl
 ·split at h
  ·rename_i a;have:=of_decide_eq_true a;cases h;subst this;rfl
  ·cases h
 ·split at h
  ·rename_i a;have:=of_decide_eq_true a;cases h;subst this;rfl
  ·cases h
 ·split at h
  ·rename_i a;have:=of_decide_eq_true a;cases h;subst this;rfl
  ·cases h
 ·cases h;rfl
 ·split at h
  ·rename_i e _;subst e;cases h;rfl
  ·cases h
 ·rfl
 ·split at h
  ·rename_i a;rw[<- b1f a];rfl
  ·cases h
 ·split at h
  ·rename_i a;simp only[and_eq_true]at a;rw[<- b1f a.1,<- a0g a.2];rfl
  ·cases h
 ·split at h
  ·rename_i a;simp only[and_eq_true]at a;rw[<- a0g a.1,<- a0g a.2];rfl
  ·cases h
 ·split at h
  ·rename_i a;simp only[and_eq_true]at a;rw[<- a0g a.1,<- d2L a.2];rfl
  ·cases h
@[reducible] def c2u:List ShC->Type
 |[]=>Unit
 |c::r=>c.den×c2u r
def mkL:(l:List ShC)->c2u l->List C
 |[],_=>[]
 |c::r,p=>mkC c p.1::mkL r p.2
def b5i:(l:List ShC)->List C->Option (c2u l)
 |[],[]=>some ()
 | c :: r,x::xs=>match e2V c x with
   | some v=>match b5i r xs with
     |some w=>some (v,w)
     |none=>none
   |none=>none
 |_,_=>none
theorem b1g:∀{l:List ShC} {xs:List C} {v:c2u l},b5i l xs=some v->xs=mkL l v
 |[],[],_,_=>rfl
 | c :: r,x::xs,v,h=>by
   simp only[b5i]at h;split at h
   ·rename_i a d;split at h
    ·rename_i b e;cases h;rw[b5h d,b1g e];rfl
    ·cases h
   ·cases h
 |[],_::_,_,h=>by simp[b5i]at h
 |_::_,[],_,h=>by simp[b5i]at h
inductive ShV where
 |one (c:ShC)
 |agg (cs:List ShC)
 |tup
@[reducible] def ShV.den:ShV->Type
 |.one c=>c.den
 |.agg cs=>c2u cs
 |.tup=>Unit
def mkV:(s:ShV)->s.den->V
 |.one c,v => .val (.one (mkC c v))
 |.agg cs,v => .val (.agg (mkL cs v))
 |.tup,_ => .tup []
def f1x:(s:ShV)->V->Option s.den
 |.one c,.val (.one x)=>e2V c x
 |.agg cs,.val (.agg xs)=>b5i cs xs
 |.tup,.tup []=>some ()
 |_,_=>none
theorem d8d {s:ShV} {x:V} {v:s.den} (h:f1x s x=some v):x=mkV s v:=by
 unfold f1x at h;split at h
 ·rw[b5h h];rfl
 ·rw[b1g h];rfl
 ·rfl
 ·cases h
inductive ShB where
 |box (cs:List ShC)
 |arr (t:Ty)
 |gone
@[reducible] def ShB.den:ShB->Type
 |.box cs=>c2u cs
 |.arr t=>List (Den t)
 |.gone=>Unit
def mkB:(s:ShB)->s.den->Option Blk
 |.box cs,v=>some (.box (mkL cs v))
 |.arr t,l=>some (.arr t l)
 |.gone,_=>none
def f1y:(s:ShB)->Option Blk->Option s.den
 |.box cs,some (.box xs)=>b5i cs xs
 | .arr t,some (.arr t' l)=>match a2Q t' t with
   |some ⟨h⟩=>some (h ▸ l)
   |none=>none
 |.gone,none=>some ()
 |_,_=>none
theorem d8e {s:ShB} {x:Option Blk} {v:s.den} (h:f1y s x=some v):x=mkB s v:=by
 unfold f1y at h;split at h
 ·rw[b1g h];rfl
 ·split at h
  ·rename_i e _;subst e;cases h;rfl
  ·cases h
 ·rfl
 ·cases h
@[reducible] def e1M:List (Nat×ShV)->Type
 |[]=>Unit
 |p::r=>p.2.den×e1M r
def mkT:(l:List (Nat×ShV))->e1M l->List (Nat×V)
 |[],_=>[]
 |p::r,v=>(p.1,mkV p.2 v.1)::mkT r v.2
def e1N:(l:List (Nat×ShV))->List (Nat×V)->Option (e1M l)
 |[],[]=>some ()
 | p :: r,x::xs=>match beq p.1 x.1 with
   | true=>match f1x p.2 x.2 with
     | some v=>match e1N r xs with
       |some w=>some (v,w)
       |none=>none
     |none=>none
   |false=>none
 |_,_=>none
theorem c2v:∀{l:List (Nat×ShV)} {xs:List (Nat×V)} {v:e1M l},e1N l xs=some v->xs=mkT l v
 |[],[],_,_=>rfl
 | p :: r,(k,x)::xs,v,h=>by
   simp only[e1N]at h;split at h
   ·rename_i e;split at h
    ·rename_i a c;split at h
     ·rename_i b d;cases h;rw[d8d c,c2v d,<- a0g e];rfl
     ·cases h
    ·cases h
   ·cases h
 |[],_::_,_,h=>by simp[e1N]at h
 |_::_,[],_,h=>by simp[e1N]at h
@[reducible] def e1O:List (Nat×ShB)->Type
 |[]=>Unit
 |p::r=>p.2.den×e1O r
def mkM:(l:List (Nat×ShB))->e1O l->List (Nat×Option Blk)
 |[],_=>[]
 |p::r,v=>(p.1,mkB p.2 v.1)::mkM r v.2
def e1P:(l:List (Nat×ShB))->List (Nat×Option Blk)->Option (e1O l)
 |[],[]=>some ()
 | p :: r,x::xs=>match beq p.1 x.1 with
   | true=>match f1y p.2 x.2 with
     | some v=>match e1P r xs with
       |some w=>some (v,w)
       |none=>none
     |none=>none
   |false=>none
 |_,_=>none
theorem c2w:∀{l:List (Nat×ShB)} {xs:List (Nat×Option Blk)} {v:e1O l},e1P l xs=some v->xs=mkM l v
 |[],[],_,_=>rfl
 | p :: r,(k,x)::xs,v,h=>by
   simp only[e1P]at h;split at h
   ·rename_i e;split at h
    ·rename_i a c;split at h
     ·rename_i b d;cases h;rw[d8e c,c2w d,<- a0g e];rfl
     ·cases h
    ·cases h
   ·cases h
 |[],_::_,_,h=>by simp[e1P]at h
 |_::_,[],_,h=>by simp[e1P]at h
structure ShS where
 tmps:List (Nat×ShV)
 mem:List (Nat×ShB)
 n:Nat
 m:Nat
@[reducible] def ShS.den (s:ShS):Type:=e1M s.tmps×e1O s.mem
def mkS (s:ShS) (v:s.den):St:=⟨mkT s.tmps v.1,mkM s.mem v.2,s.n,s.m⟩
def e2W (sh:ShS) (s:St):Option sh.den:=match beq sh.n s.n&&beq sh.m s.m with
 | true=>match e1N sh.tmps s.tmps with
   | some v=>match e1P sh.mem s.mem with
     |some w=>some (v,w)
     |none=>none
   |none=>none
 |false=>none
theorem a5n {sh:ShS} {s:St} {v:sh.den} (h:e2W sh s=some v):s=mkS sh v:=by
 obtain⟨tmps,mem,n,m⟩:=s;simp only[e2W]at h;split at h
 ·rename_i c;simp only[and_eq_true]at c;split at h
  ·rename_i a d;split at h
   ·rename_i b e;cases h;rw[c2v d,c2w e,<- a0g c.1,<- a0g c.2];rfl
   ·cases h
  ·cases h
 ·cases h
def atS {R:Type} (sh:ShS) (f:sh.den->Option R) (s:St):Option R:=match e2W sh s with
 |some v=>f v
 |none=>none
def e8N (shX shR:ShS) (e:Ex) (s:St):Option (shX.den⊕shR.den):=match e with
 |.normal=>none
 |.exit _=>atS shX (fun v=>some (.inl v)) s
 |.ret=>atS shR (fun v=>some (.inr v)) s
def e8O (shX:ShS) (e:Ex) (s:St):Option shX.den:=match e with
 |.exit _=>atS shX some s
 |_=>none
def a0K {V X:Type} (g:(V->Option X)->V->Option X):Nat->V->Option X
 |0,_=>none
 |n+1,v=>g (a0K g n) v
def c9u (live:List Nat) (own:List Cv) (ex:Nat) (past:List Nat) (pown:List Cv) (sh shX shR:ShS) (k t:sh.den->Bool) (x:sh.den->shX.den) (y:sh.den->shR.den):a4l:=
 ⟨live,own,ex,past,pown,fun s=>match e2W sh s with
  |some v=>some (k v,t v,mkS shX (x v),mkS shR (y v))
  |none=>none⟩
def c9v (live:List Nat) (own:List Cv) (ex:Nat) (past:List Nat) (pown:List Cv) (sh shX:ShS) (k:sh.den->Bool) (x:sh.den->shX.den):a4l:=
 ⟨live,own,ex,past,pown,fun s=>match e2W sh s with
  |some v=>some (k v,false,mkS shX (x v),s)
  |none=>none⟩
def isR {X Y:Type}:Option (X⊕Y)->Bool
 |some (.inr _)=>true
 |_=>false
def xOf {X Y:Type} (d:X):Option (X⊕Y)->X
 |some (.inl x)=>x
 |_=>d
def yOf {X Y:Type} (d:Y):Option (X⊕Y)->Y
 |some (.inr y)=>y
 |_=>d
theorem b5j {Γ:Env} {c:Code} {live:List Nat} {own:List Cv} {ex:Nat} {past:List Nat} {pown:List Cv} {sh shX shR:ShS} {g:(sh.den->Option (shX.den⊕shR.den))->sh.den->Option (shX.den⊕shR.den)}
 (h:∀f v,EBk Γ c (a3k live own ex past pown (atS sh f) (e8N shX shR)) (mkS sh v)=g f v) (k:sh.den->Nat) (z:shX.den) (w:shR.den) :
 a2R Γ c (c9u live own ex past pown sh shX shR (fun v=>(a0K g (k v) v).isSome) (fun v=>isR (a0K g (k v) v)) (fun v=>xOf z (a0K g (k v) v)) (fun v=>yOf w (a0K g (k v) v))):=by
 intro F b s1 s2 d R K;generalize u:c9u live own ex past pown sh shX shR _ _ _ _=L at d;have l:L.live=live /\ L.own=own /\ L.ex=ex /\ L.past=past /\ L.pown=pown:=by subst u;exact⟨rfl,rfl,rfl,rfl,rfl⟩
 have m:∀n v y,a0K g n v=some y->a9o Γ c L K n (mkS sh v)=(match y with|.inl x=>K (.exit ex) (mkS shX x)|.inr x=>K .ret (mkS shR x)):=by
  intro n
  induction n with
  |zero=>intro v y a;cases a
  | succ n E =>
    intro v y a;simp only[a0K]at a;rw[<- h]at a;simp only[a9o,l.1,l.2.1,l.2.2.1,l.2.2.2.1,l.2.2.2.2];rcases b7d (Γ:=Γ) c (mkS sh v)with hn|⟨e,s',hr⟩
    ·dsimp only at hn;rw[hn]at a;cases a
    ·dsimp only at hr;rw[hr]at a ⊢;cases e with
     | normal =>
       simp only[a3k]at a ⊢;split at a
       ·rename_i p B;unfold atS at a;split at a
        ·rename_i q j;rw[a5n j];exact E q y a
        ·cases a
       ·cases a
     | exit i =>
       simp only[a3k,d7D]at a ⊢;split at a
       ·rename_i A;split at a
        ·rename_i p B;simp only[e8N,atS]at a;split at a
         ·rename_i q j;cases a;rw[a5n j,a0g A]
         ·cases a
        ·cases a
       ·cases a
     | ret =>
       simp only[a3k,d7D,e8N,atS]at a ⊢;split at a
       ·rename_i q j;cases a;rw[a5n j]
       ·cases a
 subst u;simp only[c9u]at d;split at d
 ·rename_i v D;simp only[injEq,Prod.mk.injEq]at d;obtain⟨r,o,s,t⟩:=d;cases hi:a0K g (k v) v with
  |none=>rw[hi]at r;cases r
  | some y =>
    have C:=m (k v) v y hi;rw[hi]at o s t;refine⟨k v,?_⟩;rw[a5n D];refine C.trans ?_;cases y with
    |inl x=>subst o;subst s;rfl
    |inr x=>subst o;subst t;rfl
 ·cases d
theorem b5k {Γ:Env} {c:Code} {live:List Nat} {own:List Cv} {ex:Nat} {past:List Nat} {pown:List Cv} {sh shX:ShS} {g:(sh.den->Option shX.den)->sh.den->Option shX.den}
 (h:∀f v,EBk Γ c (a3k live own ex past pown (atS sh f) (e8O shX)) (mkS sh v)=g f v) (k:sh.den->Nat) (t:shX.den) :
 a2R Γ c (c9v live own ex past pown sh shX (fun v=>(a0K g (k v) v).isSome) (fun v=>(a0K g (k v) v).getD t)):=by
 intro D b s1 s2 d R K;generalize r:c9v live own ex past pown sh shX _ _=L at d;have l:L.live=live /\ L.own=own /\ L.ex=ex /\ L.past=past /\ L.pown=pown:=by subst r;exact⟨rfl,rfl,rfl,rfl,rfl⟩
 have m:∀n v y,a0K g n v=some y->a9o Γ c L K n (mkS sh v)=K (.exit ex) (mkS shX y):=by
  intro n
  induction n with
  |zero=>intro v y a;cases a
  | succ n B =>
    intro v y a;simp only[a0K]at a;rw[<- h]at a;simp only[a9o,l.1,l.2.1,l.2.2.1,l.2.2.2.1,l.2.2.2.2];rcases b7d (Γ:=Γ) c (mkS sh v)with hn|⟨e,s',hr⟩
    ·dsimp only at hn;rw[hn]at a;cases a
    ·dsimp only at hr;rw[hr]at a ⊢;cases e with
     | normal =>
       simp only[a3k]at a ⊢;split at a
       ·rename_i o x;unfold atS at a;split at a
        ·rename_i s j;rw[a5n j];exact B s y a
        ·cases a
       ·cases a
     | exit i =>
       simp only[a3k,d7D]at a ⊢;split at a
       ·rename_i w;split at a
        ·rename_i o x;simp only[e8O,atS]at a;split at a
         ·rename_i s j;cases a;rw[a5n j,a0g w]
         ·cases a
        ·cases a
       ·cases a
     |ret=>simp only[a3k,d7D,e8O]at a;cases a
 subst r;simp only[c9v]at d;split at d
 ·rename_i v A;simp only[injEq,Prod.mk.injEq]at d;obtain⟨p,u,q,C⟩:=d;cases hi:a0K g (k v) v with
  |none=>rw[hi]at p;cases p
  | some y =>
    have z:=m (k v) v y hi;rw[hi]at q;refine⟨k v,?_⟩;rw[a5n A];refine z.trans ?_;subst u;subst q;rfl
 ·cases d
theorem a0j {Γ:Env} {c:Code} {l:List Code} (h:a1S c=l) (a:a6u (fun c'=>∀L,a1w Γ.loops (a0I c')=some L->a2R Γ c' L) l):a6y Γ c:=
 fun c' b=>a.mem c' (by rw[<- h];exact b)
theorem b7e {Γ:Env} {c:Code} {L0:a4l} (a:a1w Γ.loops (a0I c)=some L0) (b:a2R Γ c L0):∀L,a1w Γ.loops (a0I c)=some L->a2R Γ c L:=by
 intro L h;rw[a]at h;cases h;exact b
def d8f:(c:ShC)->C->Option c.den
 |.sl t,.nil _=>some []
 |.pois,_=>some ()
 |c,x=>e2V c x
theorem c9w {β:Bt} {K:Ks} {c:ShC} {x:C} {v:c.den} (h:d8f c x=some v) {u:Value} (b:CR β K x u):CR β K (mkC c v) u:=by
 unfold d8f at h;split at h
 ·cases h;obtain⟨a,rfl⟩:=b;exact⟨a,0,0,rfl,rfl,le_refl _,.inl rfl⟩
 ·trivial
 ·rw[<- b5h h];exact b
def b5l:(l:List ShC)->List C->Option (c2u l)
 |[],[]=>some ()
 | c :: r,x::xs=>match d8f c x with
   | some v=>match b5l r xs with
     |some w=>some (v,w)
     |none=>none
   |none=>none
 |_,_=>none
theorem b1h {β:Bt} {K:Ks}:∀{l:List ShC} {xs:List C} {v:c2u l},b5l l xs=some v->∀{d:List Value},All2 (CR β K) xs d->All2 (CR β K) (mkL l v) d
 |[],[],_,_,d,hu=>hu
 | c :: r,x::xs,v,h,d,hu=>by
   simp only[b5l]at h;split at h
   ·rename_i a e;split at h
    ·rename_i b f;cases h;cases d with
     |nil=>exact hu.elim
     |cons u d=>exact⟨c9w e hu.1,b1h f hu.2⟩
    ·cases h
   ·cases h
 |[],_::_,_,h,_,_=>by simp[b5l]at h
 |_::_,[],_,h,_,_=>by simp[b5l]at h
inductive Kn where
 |val (t:Ty)
 |own (t:Ty) (k:Nat)
 |ptr (k:Nat)
 |mix (cs:List ShC)
 |fnv (f:Nat) (ks:List Nat)
@[reducible] def Kn.den:Kn->Type
 |.val t=>Den t
 |.mix cs=>c2u cs
 |_=>Unit
def f8a:(k:Kn)->k.den->W
 |.val t,x=>d8a t x
 |.own t k,_ => .one (.ref t k)
 |.ptr k,_ => .one (.ptr k 0)
 |.mix cs,x => .agg (mkL cs x)
 |.fnv f ks,_ => .one (.fn f ks)
def a9N:List Nat->List Nat->Bool
 |[],[]=>true
 |a::r,b::s=>beq a b&&a9N r s
 |_,_=>false
theorem b2G:∀{l m:List Nat},a9N l m=true->l=m
 |[],[],_=>rfl
 | a::r,b::s,h=>by
   simp only[a9N,and_eq_true]at h;rw[a0g h.1,b2G h.2]
 |[],_::_,h=>by simp[a9N]at h
 |_::_,[],h=>by simp[a9N]at h
def f1z:(k:Kn)->W->Option k.den
 |.val t,w=>e8M t w
 | .own t k,.one (.ref t' k')=>match c2t t t'&&beq k k' with
   |true=>some ()
   |false=>none
 | .ptr k,.one (.ptr k' o)=>match beq k k'&&beq o 0 with
   |true=>some ()
   |false=>none
 |.mix cs,.agg xs=>b5l cs xs
 | .fnv f ks,.one (.fn f' ks')=>match beq f f'&&a9N ks ks' with
   |true=>some ()
   |false=>none
 |_,_=>none
theorem d8g {β:Bt} {K:Ks} {k:Kn} {u:W} {x:k.den} (h:f1z k u=some x) {v:Value} (b:WR β K u v):WR β K (f8a k x) v:=by
 unfold f1z at h;split at h
 ·exact c2p h b
 ·split at h
  ·rename_i a;simp only[and_eq_true]at a;rw[<- b1f a.1,<- a0g a.2]at b;exact b
  ·cases h
 ·split at h
  ·rename_i a;simp only[and_eq_true]at a;rw[<- a0g a.1,a0g a.2]at b;exact b
  ·cases h
 ·obtain⟨arr,rfl,c⟩:=b;exact⟨arr,rfl,b1h h c⟩
 ·split at h
  ·rename_i a;simp only[and_eq_true]at a;rw[<- a0g a.1,<- b2G a.2]at b;exact b
  ·cases h
 ·cases h
@[reducible] def a4T:List Kn->Type
 |[]=>Unit
 |k::r=>k.den×a4T r
def a2M:(l:List Kn)->a4T l->List W
 |[],_=>[]
 |k::r,x=>f8a k x.1::a2M r x.2
def a8r:(l:List Kn)->List W->Option (a4T l)
 |[],[]=>some ()
 | k :: r,w::ws=>match f1z k w with
   | some x=>match a8r r ws with
     |some y=>some (x,y)
     |none=>none
   |none=>none
 |_,_=>none
theorem a5V {β:Bt} {K:Ks}:∀{l:List Kn} {c:List W} {x:a4T l},a8r l c=some x->∀{vs:List Value},All2 (WR β K) c vs->All2 (WR β K) (a2M l x) vs
 |[],[],_,_,vs,hv=>hv
 | k :: r,u::c,x,h,vs,hv=>by
   simp only[a8r]at h;split at h
   ·rename_i a d;split at h
    ·rename_i b e;cases h;cases vs with
     |nil=>exact hv.elim
     |cons v vs=>exact⟨d8g d hv.1,a5V e hv.2⟩
    ·cases h
   ·cases h
 |[],_::_,_,h,_,_=>by simp[a8r]at h
 |_::_,[],_,h,_,_=>by simp[a8r]at h
theorem b2H:∀{l:List Kn} {a:List W} {x:a4T l},a8r l a=some x->(a2M l x).length=a.length
 |[],[],_,_=>rfl
 | k :: r,u::a,x,h=>by
   simp only[a8r]at h;split at h
   ·split at h
    ·rename_i b c;cases h;simp[a2M,b2H c]
    ·cases h
   ·cases h
 |[],_::_,_,h=>by simp[a8r]at h
 |_::_,[],_,h=>by simp[a8r]at h
inductive Bn where
 |box (t:Ty)
 |boxC (cs:List ShC)
 |arr (t:Ty)
 |gone
@[reducible] def Bn.den:Bn->Type
 |.box t=>Den t
 |.boxC cs=>c2u cs
 |.arr t=>List (Den t)
 |.gone=>Unit
def f1A:(b:Bn)->b.den->Option Blk
 |.box t,x=>some (.box (AM.enc t x))
 |.boxC cs,x=>some (.box (mkL cs x))
 |.arr t,l=>some (.arr t l)
 |.gone,_=>none
def f1B:(b:Bn)->Option Blk->Option b.den
 |.box t,some (.box cs)=>c1v t cs
 |.boxC cs,some (.box xs)=>b5l cs xs
 | .arr t,some (.arr t' l)=>match a2Q t' t with
   |some ⟨h⟩=>some (h ▸ l)
   |none=>none
 |.gone,_=>some ()
 |_,_=>none
def e8P (b b':Blk):Prop:=∀β K h w,BR β K b h w->BR β K b' h w
theorem d8h {b:Bn} {o:Option Blk} {x:b.den} (h:f1B b o=some x) {b':Blk} (c:f1A b x=some b'):∃f,o=some f /\ e8P f b':=by
 unfold f1B at h;split at h
 ·cases c;refine⟨_,rfl,fun β K h' w a=>?_⟩;obtain⟨y,arr,T,e,hh,d⟩:=a;exact⟨y,arr,T,e,hh,DR.enc _ (b1c h d)⟩
 ·cases c;refine⟨_,rfl,fun β K h' w a=>?_⟩;obtain⟨y,arr,T,e,hh,d⟩:=a;exact⟨y,arr,T,e,hh,b1h h d⟩
 ·split at h
  ·rename_i e _;subst e;cases h;cases c;exact⟨_,rfl,fun _ _ _ _ a=>a⟩
  ·cases h
 ·cases c
 ·cases h
@[reducible] def c0q:List Bn->Type
 |[]=>Unit
 |k::r=>k.den×c0q r
def a3F:(l:List Bn)->c0q l->List (Option Blk)
 |[],_=>[]
 |b::r,x=>f1A b x.1::a3F r x.2
def c0r:(l:List Bn)->List (Option Blk)->Option (c0q l)
 |[],[]=>some ()
 | b :: r,o::os=>match f1B b o with
   | some x=>match c0r r os with
     |some y=>some (x,y)
     |none=>none
   |none=>none
 |_,_=>none
theorem a3Y:∀{l:List Bn} {os:List (Option Blk)} {x:c0q l},c0r l os=some x->(a3F l x).length=os.length /\ ∀p b',a2f (a3F l x) p=some b'->∃b,a2f os p=some b /\ e8P b b'
 |[],[],_,_=>⟨rfl,fun p b' e=>by simp[a3F,a2f]at e⟩
 | k :: r,o::os,x,h=>by
   simp only[c0r]at h;split at h
   ·rename_i a m;split at h
    ·rename_i b n;cases h;obtain⟨f,g⟩:=a3Y n;refine⟨by simp[a3F,f],fun p b' e=>?_⟩;cases p with
     | zero =>
       have d:f1A k a=some b':=by simpa[a3F,a2f]using e
       obtain⟨c,i,j⟩:=d8h m d;exact⟨c,by simpa[a2f]using i,j⟩
     | succ p =>
       have:=g p b' (by simpa[a3F,a2f]using e);simpa[a2f]using this
    ·cases h
   ·cases h
 |[],_::_,_,h=>by simp[c0r]at h
 |_::_,[],_,h=>by simp[c0r]at h
def b2I:List (Option Blk)->Option (List Blk)
 |[]=>some []
 | some b::r=>match b2I r with
   |some l=>some (b::l)
   |none=>none
 |none::_=>none
theorem a5W:∀{os:List (Option Blk)} {ins:List Blk},b2I os=some ins->ins.length=os.length /\ a2d ins=a2f os
 |[],ins,h=>by simp only[b2I,injEq]at h;subst h;exact⟨rfl,by funext p;simp[a2d,a2f]⟩
 | some b::r,ins,h=>by
   simp only[b2I]at h;split at h
   ·rename_i l d;cases h;obtain⟨a,c⟩:=a5W d;refine⟨by simp[a],?_⟩;funext p;cases p with
    |zero=>simp[a2d,a2f]
    | succ p =>
      have:=congrFun c p;simpa[a2d,a2f]using this
   ·cases h
 |none::_,_,h=>by simp[b2I]at h
theorem a8s (ins:List Blk):a2f (ins.map some)=a2d ins:=by
 funext p;simp only[a2f,a2d,List.getElem?_map];cases ins[p]?<;>rfl
theorem MR.lax {β:Bt} {K:Ks} {get get':Get} {w:World} (h:MR β K get w) (d:∀p b',get' p=some b'->∃b,get p=some b /\ e8P b b'):MR β K get' w:=by
 refine⟨fun k b e=>?_,fun k k' b b' y y' x e l f m g n=>?_,fun k b y x e f g=>?_⟩
 ·obtain⟨a,c,i⟩:=d k b e;obtain⟨y,o,q⟩:=h.blk k a c;exact⟨y,o,i _ _ _ _ q⟩
 ·obtain⟨a,c,_⟩:=d k b e;obtain⟨j,i,_⟩:=d k' b' l;exact h.sep k k' a j y y' x c i f m g n
 ·obtain⟨a,c,_⟩:=d k b e;exact h.ro k a y x c f g
theorem Own.lax {β:Bt} {get get':Get} (d:∀p b',get' p=some b'->∃b,get p=some b /\ e8P b b') {x:Nat} (h:Own β get' x):Own β get x:=by
 obtain⟨k,b,y,e,f,g⟩:=h;obtain⟨a,c,_⟩:=d k b e;exact⟨k,a,y,c,f,g⟩
structure Sg where
 ws:List Kn
 bs:List Bn
@[reducible] def Sg.den (s:Sg):Type:=a4T s.ws×c0q s.bs
def c2x (O:Sg):List W×List (Option Blk)->Option O.den:=fun p=>match a8r O.ws p.1 with
 | some x=>match c0r O.bs p.2 with
   |some y=>some (x,y)
   |none=>none
 |none=>none
def e2X:(c:ShC)->c.den
 |.bool=>false
 |.int _=>(0:Int)
 |.flt _=>(0:Nat)
 |.cpx _=>((0,0):Nat×Nat)
 |.str=>ByteArray.empty
 |.sl t=>([]:List (Den t))
 |.pois=>()
 |.nil _=>()
 |.ref _ _=>()
 |.ptr _ _=>()
 |.fn _ _=>()
def c2y:(l:List ShC)->c2u l
 |[]=>()
 |c::r=>(e2X c,c2y r)
def a9O:(l:List Kn)->a4T l
 |[]=>()
 |.val t::r=>(zero t,a9O r)
 |.mix cs::r=>(c2y cs,a9O r)
 |.own _ _::r=>((),a9O r)
 |.ptr _::r=>((),a9O r)
 |.fnv _ _::r=>((),a9O r)
def b2J:(l:List Bn)->c0q l
 |[]=>()
 |.box t::r=>(zero t,b2J r)
 |.boxC cs::r=>(c2y cs,b2J r)
 |.arr t::r=>(([]:List (Den t)),b2J r)
 |.gone::r=>((),b2J r)
def a0Y (O:Sg):O.den:=(a9O O.ws,b2J O.bs)
def a0H (own:Bool) (I O:Sg) (ok:I.den->Bool) (g:I.den->O.den):a5A:=⟨own,fun ws ins=>match c2x I (ws,ins.map some)with
 | some x=>match b2I (a3F I.bs x.2)with
   |some _=>some (ok x,a2M O.ws (g x).1,a3F O.bs (g x).2)
   |none=>none
 |none=>none⟩
theorem a8t {β:Bt} {K:Ks} {l:List Kn} {rs:List W} {x:a4T l} {v:Value} (h:a8r l rs=some x) (a:a6z β K rs v):a6z β K (a2M l x) v:=by
 have c:=b2H h;unfold a6z at a ⊢
 match rs,a2M l x,c,(fun vs=>a5V (β:=β) (K:=K) h (vs:=vs))with
 |[],[],_,_=>exact a
 |[u],[u'],_,hk=>exact(hk [v] ⟨a,trivial⟩).1
 | u::u2::us,y::y2::ys,_,hk =>
   obtain⟨arr,e,b⟩:=a;exact⟨arr,e,hk arr.toList b⟩
section
variable {P:Program} {Γ:Env}
def c9x (Γ:Env) (c:Code) (I O:Sg) (x:I.den):Option O.den:=match b2I (a3F I.bs x.2)with
 |some ins=>b4O Γ c (c2x O) (a2M I.ws x.1) ins
 |none=>none
theorem f1C (env:a1o P Γ) {f:Nat} {c:Code} (L:a7b P f Γ c) {own:Bool} {I O:Sg} {ok:I.den->Bool} {g:I.den->O.den} (h:∀x,ok x=true->c9x Γ c I O x=some (g x)):a0f P (f,a0H own I O ok g):=by
 refine⟨?_,L.ok⟩;intro args ins rs outs a β0 K0 w0 vs t U w W;simp only[a0H,c2x]at a;split at a
 case h_2=>cases a
 rename_i x p;split at p
 case h_2=>cases p
 rename_i N E;split at p
 case h_2=>cases p
 rename_i Q F;cases p;split at a
 case h_2=>cases a
 rename_i o i;simp only[injEq,Prod.mk.injEq]at a;obtain⟨D,rfl,rfl⟩:=a;obtain⟨A,m⟩:=a3Y F;obtain⟨B,y⟩:=a5W i;rw[a8s]at m;rw[<- y]at m;have M:o.length=ins.length:=by rw[B,A];simp
 have J:=h (N,Q) D;simp only[c9x,i]at J;refine(b6X env L J t (U.lax m) (fun k t=>w k (by omega)) (a5V E W)).mono ?_;rintro e w' ⟨v,β,K,X,q,rfl,r,d⟩;simp only[c2x]at r;split at r
 case h_2=>cases r
 rename_i R G;split at r
 case h_2=>cases r
 rename_i S H;obtain⟨C,s⟩:=a3Y H;have n:(a3F O.bs (R,S).2).length=q.length:=C;have z:g (N,Q)=(R,S):=by simpa using r.symm
 rw[z];have j:∀b,Own β0 (a2d o) b->Own β0 (a2d ins) b:=fun b u=>u.lax m
 refine⟨v,β,K,rfl,⟨d.kle,d.kok,fun b arr e=>?_,d.mr.lax s,fun k t=>d.fresh k (by simp only at t n;omega),a8t G d.out,⟨d.fr.os,d.fr.tape,d.fr.output,d.fr.size,fun b u V=>d.fr.block b u fun T=>V (T.imp (j b) id)⟩,fun x p=>?_,d.ble,?_⟩⟩
 ·rcases d.knew b arr e with l|l|l
  ·exact .inl l
  ·exact .inr (.inl (j b l))
  ·exact .inr (.inr l)
 ·rcases d.own x (p.lax s)with l|l
  ·exact .inl (j x l)
  ·exact .inr l
 ·have:=d.le;simp only at n ⊢;omega
theorem a2Y (env:a1o P Γ) {f:Nat} {c:Code} (b:a7b P f Γ c) (own:Bool) {I O:Sg} {p:I.den->Option O.den} (h:∀x,c9x Γ c I O x=p x):a0f P (f,a0H own I O (fun x=>(p x).isSome) (fun x=>(p x).getD (a0Y O))):=
 f1C env b fun x a=>by
  rw[h x];cases hp:p x with
  |none=>rw[hp]at a;cases a
  |some r=>rfl
end
theorem a0C {V X:Type} {q:(V->Option X)->V->Option X} (I:V->Prop) (P:V->Option X->Prop) (b:V->Nat)
 (step:∀v f,I v->(∀a,I a->b a<b v->P a (f a))->P v (q f v)):∀n v,I v->b v<n->P v (a0K q n v)
 |0,v,_,h=>by omega
 |n+1,v,hi,h=>step v _ hi fun a c d=>a0C I P b step n a c (by omega)
def a2v {X:Type} (a:Nat->Option X) (e:X):Nat->Nat->X
 |_,0=>e
 | k,n+1=>match a k with
   |some x=>x
   |none=>a2v a e (k+1) n
theorem a7H {V X:Type} {q:(V->Option X)->V->Option X} (S:Nat->V) (n:Nat) (a:Nat->Option X) (e:X)
 (step:∀k f,k<n->q f (S k)=match a k with|some x=>some x|none=>f (S (k+1))) (fin:∀f,q f (S n)=some e) :
 ∀m j k,k+j=n->j<m->a0K q m (S k)=some (a2v a e k j)
 |0,_,_,_,h=>by omega
 | m+1,0,k,hk,h=>by
   have:k=n:=by omega
   subst this;exact fin _
 | m+1,j+1,k,hk,h=>by
   show q (a0K q m) (S k)=_;rw[step k _ (by omega)];simp only[a2v];cases hs:a k with
   |some x=>rfl
   |none=>exact a7H S n a e step fin m j (k+1) (by omega) (by omega)
theorem a5a {X:Type} {a:Nat->Option X} {e:X}:∀{n k:Nat},(∀j,k<=j->j<k+n->a j=none)->a2v a e k n=e
 |0,_,_=>rfl
 | n+1,k,h=>by
   simp only[a2v,h k (le_refl _) (by omega)];exact a5a fun j b c=>h j (by omega) (by omega)
theorem a1K {V X:Type} {q:(V->Option X)->V->Option X} (S:Nat->V) (n:Nat) (e:X) (step:∀k f,k<n->q f (S k)=f (S (k+1))) (fin:∀f,q f (S n)=some e) (m:Nat) (h:n<m):a0K q m (S 0)=some e:=by
 have:=a7H S n (fun _=>none) e step fin m n 0 (by omega) h;rw[a5a fun _ _ _=>rfl]at this;exact this
def a0i (g:Nat->Bool):Nat->Nat->Bool
 |_,0=>true
 |k,n+1=>g k&&a0i g (k+1) n
theorem a0u {g:Nat->Bool}:∀{n k:Nat},a0i g k n=true↔∀j,k<=j->j<k+n->g j=true
 |0,k=>by simp[a0i];omega
 | n+1,k=>by
   simp only[a0i,and_eq_true,a0u (n:=n)];constructor
   ·rintro⟨a,b⟩ j h3 h4;rcases Nat.eq_or_lt_of_le h3 with rfl|c
    ·exact a
    ·exact b j c (by omega)
   ·intro h;exact⟨h k (le_refl _) (by omega),fun j a b=>h j (by omega) (by omega)⟩
theorem a5X {X:Type} {a:Nat->Option X} {g:Nat->Bool} {e s:X}:∀{n k:Nat},(∀j,k<=j->j<k+n->a j=bif g j then none else some s)->a2v a e k n=bif a0i g k n then e else s
 |0,_,_=>rfl
 | n+1,k,h=>by
   simp only[a2v,a0i,h k (le_refl _) (by omega)];cases g k with
   |false=>rfl
   |true=>exact a5X fun j b c=>h j (by omega) (by omega)
theorem a0F {V X:Type} {q:(V->Option X)->V->Option X} (S:Nat->V) (n:Nat) (g:Nat->Bool) (e s:X) (step:∀k f,k<n->q f (S k)=bif g k then f (S (k+1))else some s) (fin:∀f,q f (S n)=some e) (m:Nat) (h:n<m) :
 a0K q m (S 0)=some (bif a0i g 0 n then e else s):=by
 rw[a7H S n (fun k=>bif g k then none else some s) e (fun k f a=>by rw[step k f a];cases g k<;>rfl) fin m n 0 (by omega) h];rw[a5X fun _ _ _=>rfl]
def a0x (g:Nat->Bool):Nat->Nat->Option Nat
 |_,0=>none
 |k,n+1=>bif g k then some k else a0x g (k+1) n
theorem a1W {g:Nat->Bool}:∀{n k j:Nat},a0x g k n=some j->k<=j /\ j<k+n /\ g j=true /\ ∀i,k<=i->i<j->g i=false
 |0,k,j,h=>by cases h
 | n + 1,k,j,h=>by
   simp only[a0x]at h;cases hg:g k with
   | true =>
     rw[hg]at h;cases h;exact⟨le_refl _,by omega,hg,fun i a b=>by omega⟩
   | false =>
     rw[hg]at h;obtain⟨a,b,c,d⟩:=a1W (n:=n) h;refine⟨by omega,by omega,c,fun i e f=>?_⟩;rcases Nat.eq_or_lt_of_le e with rfl|l
     ·exact hg
     ·exact d i l f
theorem a1X {g:Nat->Bool}:∀{n k:Nat},a0x g k n=none↔∀i,k<=i->i<k+n->g i=false
 |0,k=>by simp[a0x];omega
 | n + 1,k=>by
   simp only[a0x];cases hg:g k with
   | true =>
     simp only[cond_true];constructor
     ·intro h;cases h
     ·intro h;rw[h k (le_refl _) (by omega)]at hg;cases hg
   | false =>
     simp only[cond_false,a1X (n:=n)];constructor
     ·intro h i a b;rcases Nat.eq_or_lt_of_le a with rfl|c
      ·exact hg
      ·exact h i c (by omega)
     ·intro h i a b;exact h i (by omega) (by omega)
theorem a4v {V X:Type} {q:(V->Option X)->V->Option X} (S:Nat->V) (n:Nat) (g:Nat->Bool) (e:X) (s:Nat->X) (step:∀k f,k<n->q f (S k)=bif g k then some (s k)else f (S (k+1))) (fin:∀f,q f (S n)=some e) (m:Nat) (h:n<m) :
 a0K q m (S 0)=some (match a0x g 0 n with|some j=>s j|none=>e):=by
 rw[a7H S n (fun k=>bif g k then some (s k)else none) e (fun k f a=>by rw[step k f a];cases g k<;>rfl) fin m n 0 (by omega) h];congr 1;clear h step fin;generalize 0=k
 induction n generalizing k with
 |zero=>rfl
 | succ n b =>
   simp only[a2v,a0x];cases g k with
   |true=>rfl
   |false=>exact b (k+1)
theorem w64 {x:Int} (h:-9223372036854775808<=x) (h':x<=9223372036854775807):IntKind.wrap IntKind.i64 x=x:=IntWalk.i64_in x (by omega)
theorem a2H (k:Nat) (h:k<9223372036854775807):IntKind.wrap IntKind.i64 ((k:Int)+1)=((k+1:Nat):Int):=by rw[w64 (by omega) (by omega)];simp
theorem a0v {n:Nat} (h:n<=1099511627776):a0n n=true:=Nat.ble_eq_true_of_le h
theorem a3Z {α:Type} (l:List α) (k:Nat) (z:α) (h:k<l.length):l.getD k z=l[k]:=by
 rw[List.getD_eq_getElem?_getD,List.getElem?_eq_getElem h];rfl
def a0U {A X:Type} (b:Nat->A->A⊕X) (e:A->X):Nat->Nat->A->X
 |_,0,a=>e a
 | k,n+1,a=>match b k a with
   |.inl c=>a0U b e (k+1) n c
   |.inr x=>x
theorem b1i {V X A:Type} {q:(V->Option X)->V->Option X} (S:Nat->A->V) (n:Nat) (b:Nat->A->A⊕X) (e:A->X)
 (step:∀k a f,k<n->q f (S k a)=match b k a with|.inl c=>f (S (k+1) c)|.inr x=>some x) (fin:∀a f,q f (S n a)=some (e a)) :
 ∀m j k a,k+j=n->j<m->a0K q m (S k a)=some (a0U b e k j a)
 |0,_,_,_,_,h=>by omega
 | m+1,0,k,a,hk,h=>by
   have:k=n:=by omega
   subst this;exact fin _ _
 | m+1,j+1,k,a,hk,h=>by
   show q (a0K q m) (S k a)=_;rw[step k a _ (by omega)];simp only[a0U];cases hs:b k a with
   |inl c=>exact b1i S n b e step fin m j (k+1) c (by omega) (by omega)
   |inr x=>rfl
theorem a8u {V X A:Type} {q:(V->Option X)->V->Option X} (S:Nat->A->V) (n:Nat) (b:Nat->A->A⊕X) (e:A->X) (I:Nat->A->Prop)
 (step:∀k a f,k<n->I k a->q f (S k a)=match b k a with|.inl d=>f (S (k+1) d)|.inr x=>some x) (c:∀k a d,k<n->I k a->b k a = .inl d->I (k+1) d) (fin:∀a f,I n a->q f (S n a)=some (e a)) :
 ∀m j k a,k+j=n->j<m->I k a->a0K q m (S k a)=some (a0U b e k j a)
 |0,_,_,_,_,h,_=>by omega
 | m+1,0,k,a,hk,h,hi=>by
   have:k=n:=by omega
   subst this;exact fin _ _ hi
 | m+1,j+1,k,a,hk,h,hi=>by
   show q (a0K q m) (S k a)=_;rw[step k a _ (by omega) hi];simp only[a0U];cases hs:b k a with
   |inl d=>exact a8u S n b e I step c fin m j (k+1) d (by omega) (by omega) (c k a d (by omega) hi hs)
   |inr x=>rfl
def f1D {A X Y:Type} (g:X->Y):A⊕X->A⊕Y
 |.inl a => .inl a
 |.inr x => .inr (g x)
theorem a5o {A X Y:Type} (g:X->Y) {b:Nat->A->A⊕X} {e:A->X}:∀{n k:Nat} {a:A},a0U (fun i a=>f1D g (b i a)) (fun a=>g (e a)) k n a=g (a0U b e k n a)
 |0,_,_=>rfl
 | n+1,k,a=>by
   simp only[a0U];cases b k a with
   |inl c=>exact a5o g
   |inr x=>rfl
open Go Go.Proofs
def b5m (m:a5A):a5A:=⟨true,fun args ins=>match a1q (roW (a2d ins)) args with
 | some a=>match m.run a []with
   | some (ok,rs,outs)=>match a1q (b6E fun i=>some (ins.length+i)) rs,a1q (a5d fun i=>some (ins.length+i)) outs with
     |some rs',some outs'=>some (ok,rs',ins.map (fun _=>none)++outs')
     |_,_=>none
   |none=>none
 |none=>none⟩
theorem d2M {P:Program} {f:Nat} {m:a5A} (h:a0f P (f,m)):a0f P (f,b5m m):=by
 refine⟨?_,h.2⟩;intro args ins rs outs a β0 K0 w0 vs B Y M hv;simp only[b5m]at a;split at a
 case h_2=>cases a
 rename_i r z;split at a
 case h_2=>cases a
 rename_i ok Q o N;split at a
 case h_2=>cases a
 rename_i rs' n O s;simp only[injEq,Prod.mk.injEq]at a;obtain⟨rfl,rfl,rfl⟩:=a;have I:=a3Q (β:=β0) (get:=a2d ins) (ks:=args.flatMap a0M) B;have t:All2 (WR (fun _=>none) (a4q β0 K0 (a2d ins) w0 (args.flatMap a0M))) r vs.toList:=
  a1f z hv fun c c' u E L hu=>a4E Y L hu (fun k B=>List.mem_flatMap.2 ⟨c,E,B⟩) _
 have J:MR (fun _=>none) (a4q β0 K0 (a2d ins) w0 (args.flatMap a0M)) (a2d []) w0:=⟨fun k b e=>by simp[a2d]at e,fun k k' b b' _ _ _ e=>by simp[a2d]at e,fun k b _ _ e=>by simp[a2d]at e⟩;refine(h.1 r [] Q o N (fun _=>none) _ w0 vs I J (fun _ _=>rfl) t).mono ?_;rintro e w' ⟨v,β',K',rfl,p⟩;have d:∀x,¬Own (fun _=>none) (a2d []) x:=by rintro x ⟨k,b,y,e,_⟩;simp[a2d]at e
 have R:o.length=n.length:=(a2i s).symm;have F:∀k k' y,(fun i=>some (ins.length+i)) k=some k'->β' k=some y->(fun k=>if k<ins.length then β0 k else β' (k-ins.length)) k'=some y:=by
  intro k k' y e g;cases e;dsimp only;rw[if_neg (by omega),Nat.add_sub_cancel_left];exact g
 have j:∀k b,a2f (ins.map (fun _=>none)++n) k=some b->ins.length<=k /\ ∃A,a2f o (k-ins.length)=some A /\ b1U (fun i=>some (ins.length+i)) A=some b:=by
  intro k b e;unfold a2f at e;rw[List.getElem?_append]at e;split at e
  ·rename_i X;rw[List.getElem?_map]at e;cases hq:ins[k]? with
   |none=>rw[hq]at e;cases e
   |some _=>rw[hq]at e;cases e
  ·rename_i C;rw[List.length_map]at C e;exact⟨by omega,a3C s (show a2f n (k-ins.length)=some b from e)⟩
 have w:∀k y,ins.length<=k->(fun k=>if k<ins.length then β0 k else β' (k-ins.length)) k=some y->β' (k-ins.length)=some y:=by
  intro k y B e;dsimp only at e;rw[if_neg (by omega)]at e;exact e
 refine⟨v,fun k=>if k<ins.length then β0 k else β' (k-ins.length),K',rfl,⟨fun b arr e=>p.kle b arr (a0J b arr e),p.kok,fun b arr e=>?_,⟨fun k b e=>?_,fun k k' b b' y y' x e T f U g V=>?_,fun k b y x e f g=>?_⟩,fun k B=>?_,b0N F O p.out,⟨p.fr.os,p.fr.tape,p.fr.output,p.fr.size,fun b W Z=>p.fr.block b W fun l=>l.elim (d b) fun H=>Z (.inr (c1O.1 H))⟩,?_,fun k y e=>?_,?_⟩⟩
 ·rcases p.knew b arr e with l|l|l
  ·exact a3R b arr l
  ·exact absurd l (d b)
  ·exact .inr (.inr l)
 ·obtain⟨q,A,l,H⟩:=j k b e;obtain⟨y,hy,K⟩:=p.mr.blk _ _ l;exact⟨y,by rw[if_neg (by omega)];exact hy,a8b F H K⟩
 ·obtain⟨q,A,l,_⟩:=j k b e;obtain⟨D,S,G,_⟩:=j k' b' T;have:=p.mr.sep _ _ _ _ _ _ x l G (w k y q f) (w k' y' D U) g V;omega
 ·obtain⟨q,A,l,_⟩:=j k b e;exact p.mr.ro _ _ _ _ l (w k y q f) g
 ·simp only[List.length_append,List.length_map]at B
  try dsimp only
  rw[if_neg (by omega)];exact p.fresh _ (by omega)
 ·rintro x ⟨k,b,y,e,f,g⟩;obtain⟨q,A,l,_⟩:=j k b e;exact(p.own x ⟨_,_,_,l,w k y q f,g⟩).imp (fun h=>absurd h (d x)) id
 ·try dsimp only
  split
  ·exact e
  ·rename_i C;rw[M k (by omega)]at e;cases e
 ·simp
def c2z {ι R:Type} (F:(ι->Option R)->Option R):Prop:=(∀f r,F f=some r->∀z,f z=some r) /\ (Nonempty ι->∀f r,(∀z,f z=some r)->F f=some r)
instance {ι R:Type}:Nonempty { F:(ι->Option R)->Option R // c2z F }:=by
 classical
 refine⟨⟨fun f=>if h:∃r,∀z,f z=some r then some h.choose else none,fun f r h=>?_,fun⟨z⟩ f r h=>?_⟩⟩
 ·dsimp only at h
  split at h
  ·rename_i hx
   cases h
   exact hx.choose_spec
  ·cases h
 ·have hx:∃r,∀z,f z=some r:=⟨r,h⟩
  dsimp only
  rw[dif_pos hx]
  exact(hx.choose_spec z).symm.trans (h z)
@[irreducible] noncomputable def f1E (ι R:Type):{ F:(ι->Option R)->Option R // c2z F }:=Classical.choice inferInstance
noncomputable def a3u {ι R:Type} (f:ι->Option R):Option R:=(f1E ι R).1 f
theorem a4w {ι R:Type} {f:ι->Option R} {r:R} (h:a3u f=some r):∀z,f z=some r:=(f1E ι R).2.1 f r h
theorem a0t {ι R:Type} [inh:Nonempty ι] {f:ι->Option R} {r:R} (h:∀z,f z=some r):a3u f=some r:=(f1E ι R).2.2 inh f r h
def Env.withSem (Γ:Env) (f:Nat) (sm:a5A):Env:={ Γ with sem:=fun g=>match beq f g with|true=>some sm|false=>Γ.sem g }
def a8v:Type:={ z:Nat // z<4294967296 }
inductive Alt where
 |no
 |call (f:Nat) (fam:Fam)
 |narrow (b:Nat)
 |isNil (e:Bool)
def a8w (c:Option TI) (a:Option TI) (v:V):Alt:=match c,a,v with
 | some _,some a,.val (.one (.flt s b))=>match s with
   | .f64=>match a.sort with
     | .float d=>match d with
       |.f32 => .narrow b
       |_ => .no
     |_ => .no
   |_ => .no
 |_,_,_ => .no
def d2N:Operand->Bool
 | .const v=>match v with
   | .slice a _ _=>match a with
     |none=>true
     |_=>false
   |_=>false
 |_=>false
def e2Y:BinOp->Bool
 |.eql=>true
 |_=>false
def b2K (b:BinOp) (a:Option TI) (v:V) (y:Operand):Alt:=match e2Y b&&d2N y,a,v with
 | true,some a,.val (.one (.sl _ l))=>match a.sort with
   |.slice => .isNil l.isEmpty
   |_ => .no
 |_,_,_ => .no
theorem a8x (a:BinOp) (b:Option TI) (v:V) (y:Operand):b2K a b v y = .no∨∃e,b2K a b v y = .isNil e:=by
 unfold b2K;split
 ·split
  ·exact .inr ⟨_,rfl⟩
  ·exact .inl rfl
 ·exact .inl rfl
def a9u (Γ:Env) (N:Nat->Option Fam) (o:Oper) (ρ:Operand->V):Alt:=match o.guard with
 |some _ => .no
 | none=>match o.op with
   | .call c=>match c.callee with
     | .value x=>match x with
       | .func f=>match N f with
         |some fam => .call f fam
         |none => .no
       |_ => .no
     |_ => .no
   |.convert a dst x=>a8w (Γ.tab a) (Γ.tab dst) (ρ x)
   |.binOp b t x y _=>b2K b (Γ.tab t) (ρ x) y
   |_ => .no
noncomputable def c8D {R:Type} (Γ:Env) (N:Nat->Option Fam) (ops:Array Oper):List Oper->(St->Option R)->St->Option R
 |[],K,s=>K s
 | o :: rest,K,s=>match a9u Γ N o s.val with
   |.no=>a9B Γ ops [o] s [] (fun a _=>c8D Γ N ops rest K a)
   |.call f fam=>a3u fun z:fam.ι=>c1t (Γ.withSem f (fam.mean z)) o (fun a _=>c8D Γ N ops rest K a) s
   | .narrow b=>match a1J b with
     |true=>a9B Γ ops [o] s [] (fun a _=>c8D Γ N ops rest K a)
     | false=>match a6w Γ o.dst with
       |true=>a3u fun z:a8v=>c8D Γ N ops rest K (s.putO o.dst (.val (.one (.flt .f32 z.1))))
       |false=>none
   | .isNil e=>match a6w Γ o.dst with
     |true=>a3u fun z:Bool=>c8D Γ N ops rest K (s.putO o.dst (.val (.one (.bool (e&&z)))))
     |false=>none
theorem c0s (P:Program) {b b':Nat} (h:FEq .f64 b b') (c:a1J b=false) (w:World) :
 ∃(r:Nat) (w':World),r<4294967296 /\ (Conv.floatToFloat .f64 b' .f32).run P w = .ok (.float .f32 r) w' /\ a0s w w':=by
 unfold a1J at c;rw[Bool.not_eq_false']at c;split at c
 ·rename_i s m e a;have g:b=b':=by
   rcases h with h|⟨d,_⟩
   ·exact h
   ·obtain⟨sg,f,i⟩:=a1A d;unfold FloatKind.decode at a;rw[i]at a;cases a
  subst g;unfold Conv.floatToFloat;rw[if_neg (by decide),a];dsimp only;rw[if_pos c];refine⟨_,_,?_,by simp only[Sem.run_bind,run_choose,Question.forced,Sem.run_pure];rfl,a3O w⟩;exact Nat.mod_lt _ (by decide)
 ·cases c
section
variable {P:Program} {Γ:Env} {z:a4S} {ops:Array Oper} {N:Nat->Option Fam}
theorem c2A {β:Bt} {K:Ks} {get:Get} {n:Nat} {w:World} {ρ:Operand->V} {a:Act} {o:Oper} (h:Pre P Γ β K get n w ρ a) {b:Nat} (c:a9u Γ N o ρ = .narrow b) (y:a1J b=false) :
 a0l P o a w (fun v w'=>∃z:a8v,a0S β K get n w ⟨true,.val (.one (.flt .f32 z.1)),[],n⟩ v w'):=by
 unfold a9u at c;split at c
 ·cases c
 split at c
 ·split at c
  ·split at c
   ·split at c<;>cases c
   ·cases c
  ·cases c
 ·rename_i g dst x E;unfold a8w at c;split at c
  case h_2=>cases c
  rename_i L m s M H hd J;split at c
  case h_2=>cases c
  split at c
  case h_2=>cases c
  rename_i d C;split at c
  case h_2=>cases c
  cases c;obtain⟨_,O,_,_,k,_⟩:=(h.env.tab g L H).ex;obtain⟨_,R,_,_,l,_,_,_,_,_,i,_⟩:=(h.env.tab dst m hd).ex;have I:=h.one J;obtain⟨b',A,B⟩:=I;simp only[a1C,C]at i;subst i;have exec:∀v w',(convert g dst (a.eval x)).run P w = .ok v w'->(execOp a.eval o).run P w = .ok (.value v) w':=fun v w' G=>
   a1l (s:=convert g dst (a.eval x)) (by simp[execOp,E]) G
  rw[A]at exec;obtain⟨r,w',p,q,t⟩:=c0s P B y w;have F:a0w n true (.one (.flt .f32 r))=some ⟨true,.val (.one (.flt .f32 r)),[],n⟩:=rfl;intro j Q D;refine(h.pure1 F (u := .float .f32 r) ⟨_,rfl,.inl rfl⟩ (exec _ w' ?_) t) j Q fun v w2 f=>D v w2 ⟨⟨r,p⟩,f⟩
  simp[convert,run_underlying k,run_underlying l,q]
 ·rcases a8x _ _ _ _ with e|⟨_,e⟩<;>rw[e]at c<;>cases c
 ·cases c
theorem c2B (P:Program) (w:World) {t:TypeId} {el:TypeId} (hd:P.underlying t=some (.slice el)) (a:Option Addr) (n c:Nat) (b c':Nat) :
 (binOp .eql t (.slice a n c) (.slice none b c')).run P w = .ok (.bool a.isNone) w:=by
 have h:(Op.equal t (.slice a n c) (.slice none b c')).run P w = .ok a.isNone w:=by
  unfold Op.equal Op.maxDepth Op.equalIn;cases a with
  |none=>simp[run_underlying hd]
  |some x=>simp[run_underlying hd]
 simp[binOp,h]
theorem c9y {β:Bt} {K:Ks} {get:Get} {n:Nat} {w:World} {ρ:Operand->V} {a:Act} {o:Oper} (h:Pre P Γ β K get n w ρ a) (q:∀v,a.eval (.const v)=v) {e:Bool} (f:a9u Γ N o ρ = .isNil e) :
 a0l P o a w (fun v w'=>∃z:Bool,a0S β K get n w ⟨true,.val (.one (.bool (e&&z))),[],n⟩ v w'):=by
 unfold a9u at f;split at f
 ·cases f
 split at f
 ·split at f
  ·split at f
   ·split at f<;>cases f
   ·cases f
  ·cases f
 ·unfold a8w at f;split at f
  case h_2=>cases f
  split at f
  case h_2=>cases f
  split at f
  case h_2=>cases f
  split at f<;>cases f
 ·rename_i D t x y T I;unfold b2K at f;split at f
  case h_2=>cases f
  rename_i R ty l g L M;split at f
  case h_2=>cases f
  rename_i G;cases f;simp only[and_eq_true]at g;obtain⟨_,d,_,_,hd,_,_,_,_,_,p,_⟩:=(h.env.tab t R L).ex;simp only[a1C,G]at p;subst p;have k:D = .eql:=by
   have:=g.1;cases D<;>simp_all[e2Y]
  subst k;obtain⟨m,c,rfl⟩:∃m c,y = .const (.slice none m c):=by
   have:=g.2;unfold d2N at this;split at this
   ·split at this
    ·split at this
     ·exact⟨_,_,rfl⟩
     ·cases this
    ·cases this
   ·cases this
  obtain⟨ad,C,c',j,B,S,A⟩:=h.one M;have j:a.eval x = .slice ad C c':=by simpa using j
  have exec:∀v w',(binOp .eql t (a.eval x) (.slice none m c)).run P w = .ok v w'->(execOp a.eval o).run P w = .ok (.value v) w':=by
   intro v w' A;refine a1l (s:=do eqGuard .eql t x (.const (.slice none m c)) (a.eval x) (a.eval (.const (.slice none m c)));binOp .eql t (a.eval x) (a.eval (.const (.slice none m c)))) (by simp[execOp,I]) ?_;rw[q,Sem.run_bind,a5h .eql t x _ (by rw[j];rfl) (by rw[j];exact fun e=>by cases e),Result.andThen_ok,A]
  rw[j]at exec;have O:(l.isEmpty&&ad.isNone)=ad.isNone:=by
   rcases A with F|⟨b,o',arr,E,_,_⟩
   ·have:l=[]:=by
     cases l with
     |nil=>rfl
     |cons _ _=>rw[F]at B;simp at B
    rw[this];simp
   ·rw[E];simp
  have J:a0w n true (.one (.bool (l.isEmpty&&ad.isNone)))=some ⟨true,.val (.one (.bool (l.isEmpty&&ad.isNone))),[],n⟩:=rfl;intro r Q H;refine(h.pure1 J (u := .bool ad.isNone) (by rw[O];rfl) (exec _ w (c2B P w hd ad C c' m c)) (a0s.refl w)) r Q fun v w2 i=>H v w2 ⟨ad.isNone,i⟩
 ·cases f
theorem b2L {Γ:Env} {o:Oper} {c:Call} {f:Nat} {T:Nat->V} {G:Get} {n:Nat} (b:o.op = .call c) (a:c.callee = .value (.func f)) :
 act Γ o (a4m T) G n=match a5f (c.args.toList.map (a4m T))with
  |some ws=>b1Z Γ o G n f (ws++([]:List Nat).map fun k => .one (.ptr k 0))
  |none=>none:=by
 unfold act;simp only[b,a,a4m];cases a5f (c.args.toList.map (a4m T))<;>rfl
theorem c9z {β:Bt} {K:Ks} {w:World} {F:FS} {a:Act} {o:Oper} (h:Pre P Γ β K F.G F.n w (a4m F.T) a) {f:Nat} {fam:Fam} (i:a1T P f fam) (b:a9u Γ N o (a4m F.T) = .call f fam)
 {out:fam.ι->Out} (r:∀z,act (Γ.withSem f (fam.mean z)) o (a4m F.T) F.G F.n=some (out z)) (l:∀z,(out z).ok=true) :
 a0l P o a w (fun v w'=>∃z,a0S β K F.G F.n w (out z) v w'):=by
 unfold a9u at b;split at b
 ·cases b
 split at b
 ·rename_i c p;split at b
  case h_2=>cases b
  rename_i x n;split at b
  case h_2=>cases b
  rename_i g;split at b
  case h_2=>cases b
  cases b;have m:∀z,(Γ.withSem f (fam.mean z)).sem f=some (fam.mean z):=fun z=>by simp[Env.withSem]
  cases hw:a5f (c.args.toList.map (a4m F.T))with
  | none =>
    obtain⟨s⟩:=fam.inh;have:=r s;rw[b2L p n,hw]at this;cases this
  | some ws =>
    have j:∀z,(match (fam.mean z).own with|true=>a3M (fam.mean z) F.G F.n (ws++([]:List Nat).map fun k => .one (.ptr k 0))|false=>a5D (fam.mean z) (match o.dst with|some d=>b0E Γ.frz d|none=>false) F.G F.n (ws++([]:List Nat).map fun k => .one (.ptr k 0)))=some (out z):=by
     intro z;have:=r z;rw[b2L p n,hw]at this;dsimp only at this;unfold b1Z at this;rw[m z]at this;exact this
    have q:a4m F.T (.func f) = .val (.one (.fn f [])):=rfl;cases hown:fam.own with
    |true=>exact a5j h p n q hw i (fun z=>by have:=j z;rw[i.own z,hown]at this;exact this) l
    |false=>exact a6E h p n q hw i (fun z=>by have:=j z;rw[i.own z,hown]at this;exact this) l
 ·unfold a8w at b;split at b
  case h_2=>cases b
  split at b
  case h_2=>cases b
  split at b
  case h_2=>cases b
  split at b<;>cases b
 ·rcases a8x _ _ _ _ with e|⟨_,e⟩<;>rw[e]at b<;>cases b
 ·cases b
theorem a8y {o:Oper} {ρ:Operand->V} (h:a9u Γ N o ρ ≠ .no):o.guard=none:=by
 unfold a9u at h;split at h
 ·exact absurd rfl h
 ·assumption
theorem c2C {R:Type} (env:a1o P Γ) (Z:∀f fam,N f=some fam->a1T P f fam) {Q:Exit->Act->World->Prop} {r:R} {K:St->Option R} (hQ:∀y a w,SR P Γ z y a w->K y=some r->Q .normal a w) :
 ∀(L:List Oper) (i:Nat),ops.toList.drop i=L->i+L.length=ops.size->∀s,c8D Γ N ops L K s=some r->∀a w,SR P Γ z s a w->wpOps P ops Q (List.range' i L.length) a w
 |[],i,_,_,s,h,a,w,hs=>hQ s a w hs h
 | o :: rest,i,hd,hi,s,h,a,w,hs=>by
   rw[List.length_cons,List.range'_succ,wpOps_cons];simp only[List.length_cons]at hi;have U:ops[i]?=some o:=by
    have:(ops.toList.drop i)[0]?=some o:=by rw[hd];rfl
    rw[List.getElem?_drop,Nat.add_zero,Array.getElem?_toList]at this;exact this
   have C:ops.toList.drop (i+1)=rest:=by rw[<- List.drop_drop,hd];rfl
   have O:=c2C env Z hQ rest (i+1) C (by omega);obtain⟨J,β,Ks,l⟩:=hs;have G:a9B Γ ops [o] s [] (fun y _=>c8D Γ N ops rest K y)=some r->wpOp P ops Q i (wpOps P ops Q (List.range' (i+1) rest.length)) a w:=by
    intro h;obtain⟨y,E,X,d,M,S⟩:=b2t h;have S:c8D Γ N ops rest K y=some r:=S;have hw:=a6F (β:=β) (K:=Ks) (a:=a) (T:=s.fs.T) d fun _ _ t _ _=>l.tmp t
    unfold wpOp;rw[U];dsimp only;rw[hw];cases hr:X.run with
    | true =>
      rw[if_pos rfl];left;obtain⟨_,out,V,B,H,W,h5,_⟩:=d.exec hr;refine c2c (ρ:=a4m s.fs.T) (get:=s.fs.G) (n:=s.fs.n) ⟨env,l.kok,l.mr,l.fresh,fun x=>a8i l.tmp x⟩ V B _ _ fun v w' k=>?_
      obtain⟨β',K',k⟩:=k;exact O y S _ _ ⟨M.trans J,β',K',l.next (x:=out.v) d.dst k (by rw[d.T,H]) (by rw[d.G,W]) h5⟩
    | false =>
      rw[if_neg (by simp)];obtain⟨_,V,B,H,_⟩:=d.skip hr;exact O y S _ _ ⟨M.trans J,β,Ks,l.skip d.dst (by rw[d.T,V]) (by rw[d.G,B];rfl) H⟩
   have q:Pre P Γ β Ks s.fs.G s.fs.n w (a4m s.fs.T) a:=⟨env,l.kok,l.mr,l.fresh,fun x=>a8i l.tmp x⟩;unfold c8D at h;rw[b6V]at h;have g:o.guard=none->Region.wanted o (yielded ops a.tmps)=true:=fun u=>by simp[Region.wanted,u]
   split at h
   ·exact G h
   ·rename_i f fam c;have u:=a8y (o:=o) (by rw[c];exact fun e=>by cases e);have I:N f=some fam:=by
     unfold a9u at c;rw[u]at c;dsimp only at c;split at c
     ·split at c
      ·split at c
       ·split at c
        ·cases c;assumption
        ·cases c
       ·cases c
      ·cases c
     ·unfold a8w at c;split at c
      case h_2=>cases c
      split at c
      case h_2=>cases c
      split at c
      case h_2=>cases c
      split at c<;>cases c
     ·rcases a8x _ _ _ _ with e|⟨_,e⟩<;>rw[e]at c<;>cases c
     ·cases c
    have j:=a4w h;have D:=fun z=>a5N (j z)
    obtain⟨out,p⟩:=Classical.axiomOfChoice D;unfold wpOp;rw[U];dsimp only;rw[g u,if_pos rfl];left;refine c9z (F:=s.fs) q (Z f fam I) c (out:=out) (fun z=>(p z).1) (fun z=>(p z).2.1) _ _ fun v w' k=>?_
    obtain⟨A,β',K',k⟩:=k;obtain⟨_,_,H,W⟩:=p A;refine O _ W _ _ ⟨(by rw[(a1p _ _ _).2.2];exact J),β',K',l.next (x:=(out A).v) H k ?_ ?_ ?_⟩
    ·rw[b2q];rfl
    ·rw[(a1p _ _ _).1,c2f]
    ·rw[(a1p _ _ _).2.1];rfl
   ·rename_i b c;have u:=a8y (o:=o) (by rw[c];exact fun e=>by cases e);split at h
    ·exact G h
    ·rename_i Y;split at h
     ·rename_i m;have j:=a4w h;unfold wpOp;rw[U];dsimp only;rw[g u,if_pos rfl];left;refine c2A q c Y _ _ fun v w' k=>?_
      obtain⟨A,β',K',k⟩:=k;refine O _ (j A) _ _ ⟨(by rw[(a1p _ _ _).2.2];exact J),β',K',l.next (x := .val (.one (.flt .f32 A.1))) m k ?_ ?_ ?_⟩
      ·rw[b2q]
      ·rw[(a1p _ _ _).1];rfl
      ·rw[(a1p _ _ _).2.1]
     ·cases h
   ·rename_i e c;have u:=a8y (o:=o) (by rw[c];exact fun e=>by cases e);split at h
    ·rename_i m;have j:=a4w h;unfold wpOp;rw[U];dsimp only;rw[g u,if_pos rfl];left;refine c9y q (fun v=>rfl) c _ _ fun v w' k=>?_
     obtain⟨A,β',K',k⟩:=k;refine O _ (j A) _ _ ⟨(by rw[(a1p _ _ _).2.2];exact J),β',K',l.next (x := .val (.one (.bool (e&&A)))) m k ?_ ?_ ?_⟩
     ·rw[b2q]
     ·rw[(a1p _ _ _).1];rfl
     ·rw[(a1p _ _ _).2.1]
    ·cases h
end
def a8z (o:Oper):Bool:=(match o.guard with
 |none=>true
 |some _=>false)&&(match o.op with
 |.move _=>true
 |.assign _=>true
 |.load _ _=>true
 |.fieldAddr _ _ _=>true
 |.indexAddr _ _ _=>true
 |_=>false)
def a5p (f:Nat) (o:Oper):Bool:=match o.op with
 | .call c=>match c.callee with
   | .value x=>match x with
     |.func g=>!beq g f
     |_=>false
   |.builtin _=>true
   |_=>false
 |_=>true
def c9A (f p:Nat):Nat->List Nat->List Oper->Bool
 | i,a::as1,o::r=>(match beq i p with
   |true=>true
   |false=>a5p f o&&(Nat.blt i p||Nat.testBit a p||a8z o))&&c9A f p (i+1) as1 r
 |_,[],[]=>true
 |_,_,_=>false
def b1j (N:Nat->Option Fam) (o:Oper):Option (Nat×Fam):=match o.guard with
 |some _=>none
 | none=>match o.op with
   | .call c=>match c.callee with
     | .value x=>match x with
       | .func f=>match N f with
         |some fam=>some (f,fam)
         |none=>none
       |_=>none
     |_=>none
   |_=>none
def a5Y (N:Nat->Option Fam):Nat->List Oper->Option (Nat×Nat×Fam)
 |_,[]=>none
 | i,o::r=>match b1j N o with
   |some (f,fam)=>some (i,f,fam)
   |none=>a5Y N (i+1) r
noncomputable def f1F {R:Type} (Γ:Env) (N:Nat->Option Fam) (id:Nat) (ops:Array Oper) (K:Ex->St->Option R) (s:St):Option R:=
 match a5Y N 0 ops.toList with
 |none=>EBk Γ (.region id ops true) K s
 | some (p,f,fam)=>match c9A f p 0 (c1E ops.toList []) ops.toList with
   |true=>a3u fun z:fam.ι=>EBk (Γ.withSem f (fam.mean z)) (.region id ops true) K s
   |false=>none
theorem b2M {N:Nat->Option Fam} {o:Oper} {f:Nat} {fam:Fam} (h:b1j N o=some (f,fam)):o.guard=none /\ N f=some fam /\ ∃c,o.op = .call c /\ c.callee = .value (.func f):=by
 unfold b1j at h;split at h
 ·cases h
 rename_i d;split at h
 ·rename_i c e;split at h
  ·rename_i x b;split at h
   ·split at h
    ·rename_i a;cases h;exact⟨d,a,c,e,b⟩
    ·cases h
   ·cases h
  ·cases h
 ·cases h
theorem a5Z {N:Nat->Option Fam}:∀{L:List Oper} {i p f:Nat} {fam:Fam},a5Y N i L=some (p,f,fam)->i<=p /\ ∃o,L[p-i]?=some o /\ b1j N o=some (f,fam)
 |[],_,_,_,_,h=>by simp[a5Y]at h
 | o::r,i,p,f,fam,h=>by
   simp only[a5Y]at h;split at h
   ·rename_i c;cases h;exact⟨le_refl _,o,by simp,c⟩
   ·obtain⟨d,o',a,b⟩:=a5Z h;refine⟨by omega,o',?_,b⟩;rw[show p-i=(p-(i+1))+1 by omega];exact a
theorem a6H {f p:Nat}:∀{L:List Oper} {as1:List Nat} {i:Nat},c9A f p i as1 L=true->∀j o a,L[j]?=some o->as1[j]?=some a->i+j≠p->a5p f o=true /\ (i+j<p∨a.testBit p=true∨a8z o=true)
 |[],_,_,_,j,o,a,ho,_,_=>by simp at ho
 |o0::r,[],_,h,_,_,_,_,ha,_=>by simp at ha
 | o0::r,a0::as1,i,h,j,o,a,ho,ha,hj=>by
   simp only[c9A,and_eq_true]at h;cases j with
   | zero =>
     simp only[List.getElem?_cons_zero,injEq]at ho ha;subst ho ha;have b:=h.1;rw[a1u (by omega)]at b;simp only[and_eq_true,Bool.or_eq_true,Nat.blt_eq]at b;refine⟨b.1,?_⟩;rcases b.2 with(h2|h2)|h2
     ·exact .inl (by omega)
     ·exact .inr (.inl h2)
     ·exact .inr (.inr h2)
   | succ j =>
     have:=a6H h.2 j o a (by simpa using ho) (by simpa using ha) (by omega);rw[show i+(j+1)=i+1+j by omega];exact this
theorem a5q {Γ:Env} {f:Nat} {sm:a5A} {o:Oper} (d:a5p f o=true) (T:Nat->V) (G:Get) (n:Nat):act (Γ.withSem f sm) o (a4m T) G n=act Γ o (a4m T) G n:=by
 obtain⟨dst,m,type,pos,h,guard⟩:=o;cases m with
 | call c =>
   obtain⟨a,args,l⟩:=c;cases a with
   | value x =>
     cases x with
     | func g =>
       have i:beq f g=false:=by
        simp only[a5p,Bool.not_eq_true']at d;refine a1u fun e=>?_
        subst e;rw[show beq f f=true from Nat.beq_refl f]at d;cases d
       simp only[act,a4m];split
       ·rename_i p j ws k q;simp only[V.val.injEq,W.one.injEq,C.fn.injEq]at k;obtain⟨rfl,rfl⟩:=k;unfold b1Z;simp only[Env.withSem,i]
       ·rfl
     |_=>simp[a5p]at d
   |builtin b=>rfl
   |_=>simp[a5p]at d
 |_=>rfl
theorem b5n {o:Oper} (b:a8z o=true) {ρ ρ':Operand->V} {G G':Get} (h:∀x∈o.op.operands,ρ x=ρ' x):a7D o ρ G=a7D o ρ' G':=by
 obtain⟨dst,c,type,pos,a,guard⟩:=o;cases c<;>simp[a8z]at b<;>simp only[Op.operands]at h<;>simp only[a7D]
 ·rw[h _ (by simp)]
 ·rw[h _ (by simp)]
theorem c0t (G:Get) (n:Nat) (a:Bool) (size:Nat) (v:V):a1c G n a size v=(a1c G 0 a size v).map fun x=>{ x with n:=n }:=by
 unfold a1c
 repeat' (first|rfl|split)
theorem c9B {G:Get} {a:Bool} {size:Nat} {v:V} {out:Out} (h:a1c G 0 a size v=some out):out.upd=[]:=by
 unfold a1c at h
 repeat' (first|(cases h;done)|(simp only[a0w,injEq]at h;subst h;rfl)|split at h)
theorem c2D (n size m:Nat) (x i:V):a2s n size m x i=(a2s 0 size m x i).map fun x=>{ x with n:=n }:=by
 unfold a2s
 repeat' (first|rfl|split)
theorem d8i {size m:Nat} {x i:V} {out:Out} (h:a2s 0 size m x i=some out):out.upd=[]:=by
 unfold a2s at h
 repeat' (first|(cases h;done)|(simp only[a0w,injEq]at h;subst h;rfl)|split at h)
theorem b2N {Γ:Env} {o:Oper} (b:a8z o=true) (ρ:Operand->V) (G:Get) (n:Nat):act Γ o ρ G n=(act Γ o ρ G 0).map fun x=>{ x with n:=n }:=by
 obtain⟨dst,c,type,pos,a,guard⟩:=o;cases c<;>simp[a8z]at b<;>simp only[act]
 ·rfl
 ·rfl
 ·split
  ·exact c0t _ _ _ _ _
  ·rfl
 ·repeat' (first|rfl|split)
 ·split
  ·split
   ·split
    ·repeat' (first|rfl|split)
    ·rfl
   ·split
    ·exact c2D _ _ _ _ _
    ·rfl
   ·rfl
  ·rfl
theorem d8j {Γ:Env} {o:Oper} (b:a8z o=true) {ρ:Operand->V} {G:Get} {out:Out} (h:act Γ o ρ G 0=some out):out.upd=[]:=by
 obtain⟨dst,c,type,pos,a,guard⟩:=o;cases c<;>simp[a8z]at b<;>simp only[act]at h
 ·cases h;rfl
 ·cases h;rfl
 ·split at h
  ·exact c9B h
  ·cases h
 ·repeat' (first|(cases h;done)|(simp only[a0w,injEq]at h;subst h;rfl)|split at h)
 ·split at h
  ·split at h
   ·split at h
    ·repeat' (first|(cases h;done)|(simp only[a0w,injEq]at h;subst h;rfl)|split at h)
    ·cases h
   ·split at h
    ·exact d8i h
    ·cases h
   ·cases h
  ·cases h
theorem c9C {Γ:Env} {o:Oper} (a:a8z o=true) {ρ:Operand->V} {G:Get} {n:Nat} {out:Out} (h:act Γ o ρ G n=some out):out.upd=[] /\ out.n=n /\ ∀b,act Γ o ρ G b=some { out with n:=b }:=by
 rw[b2N a]at h;cases h0:act Γ o ρ G 0 with
 |none=>rw[h0]at h;cases h
 | some x =>
   rw[h0]at h;cases h;exact⟨show x.upd=[]from d8j a h0,rfl,fun b=>by rw[b2N a,h0];rfl⟩
section
variable {P:Program} {Γ:Env} {z:a4S} {ops:Array Oper} {Q:Exit->Act->World->Prop}
theorem c9D (b:Bool):a2g b≠a2g (!b):=by cases b<;>intro h<;>cases h
theorem c2E (b:Bool):a2g b ≠ .tup []:=by intro h;cases h
theorem c2F {c d:Env} {o:Oper} {F F' k l:FS} {E j:Ent} {X e:Res} (p:a3D c ops o F E X k) (q:a3D d ops o F' j e l) (r:∀g want t,o.guard=some (g,want)->a9k ops g=some t->F.T t=F'.T t):X.run=e.run:=by
 have i:∀{c d:Env} {F F' k l:FS} {E j:Ent} {X e:Res},a3D c ops o F E X k->a3D d ops o F' j e l->(∀g want t,o.guard=some (g,want)->a9k ops g=some t->F.T t=F'.T t)->X.run=false->e.run=true->False:=by
  intro c d F F' k l E j X e p q r m n;obtain⟨⟨g,want,t,a1,a2,f⟩,_⟩:=p.skip m;obtain⟨h,_⟩:=q.exec n;rcases h with h|⟨y,s,z,u,v,x⟩
  ·rw[h]at a1;cases a1
  ·have:=r g want t a1 a2;rw[a1]at u;cases u;rw[a2]at v;cases v;rw[this,x]at f;rcases f with f|f
   ·exact c9D _ f
   ·exact c2E _ f
 cases m:X.run<;>cases n:e.run
 ·rfl
 ·exact(i p q r m n).elim
 ·exact(i q p (fun g w t a b=>(r g w t a b).symm) n m).elim
 ·rfl
theorem a3D.det {k l:Env} {o:Oper} {F e f:FS} {E C:Ent} {X g:Res} (h:a3D k ops o F E X e) (i:a3D l ops o F C g f) (s:∀T G n,act k o (a4m T) G n=act l o (a4m T) G n):X=g /\ e=f:=by
 have d:=c2F h i fun _ _ _ _ _=>rfl
 have m:X=g /\ e.n=f.n:=by
  cases e1:X.run with
  | true =>
    obtain⟨_,out,j,_,p,z,D,_⟩:=h.exec e1;obtain⟨_,y,q1,_,q,B,H,_⟩:=i.exec (d ▸ e1);rw[s,q1]at j;cases j;refine⟨?_,by rw[D,H]⟩;obtain⟨v,u,r⟩:=X;obtain⟨K,J,I⟩:=g;dsimp only at p z q B d;rw[p,z,q,B,d]
  | false =>
    obtain⟨_,j,p2,p,_⟩:=h.skip e1;obtain⟨_,q1,A,q,_⟩:=i.skip (d ▸ e1);refine⟨?_,by rw[p,q]⟩;obtain⟨v,u,r⟩:=X;obtain⟨K,J,I⟩:=g;dsimp only at j p2 q1 A d;rw[j,p2,q1,A,d]
 refine⟨m.1,?_⟩;have w:e.T=f.T:=by rw[h.T,i.T,m.1]
 have t:e.G=f.G:=by rw[h.G,i.G,m.1]
 obtain⟨a,b,c⟩:=e;obtain⟨L,b',c'⟩:=f;have x:=m.2;dsimp only at w t x;rw[w,t,x]
theorem d8k {T0:Nat->V} {dst:Nat->Option Nat} {vs a:Nat->V} {D:Nat->Bool} {t:Nat}:∀(N:Nat),(∀j,j<N->D j=true->vs j=a j)->TD T0 dst vs D N t=TD T0 dst a D N t
 |0,_=>rfl
 | N+1,h=>by
   simp only[TD];rw[d8k N fun j b=>h j (by omega)];by_cases e:D N=true /\ dst N=some t
   ·rw[if_pos e,if_pos e,h N (by omega) e.1]
   ·rw[if_neg e,if_neg e]
theorem c2G {G0:Get} {upd a:Nat->List (Nat×Option Blk)} {D:Nat->Bool}:∀(N:Nat),(∀j,j<N->D j=true->upd j=a j)->GD G0 upd D N=GD G0 a D N
 |0,_=>rfl
 | N+1,h=>by
   simp only[GD];rw[c2G N fun j b=>h j (by omega)];by_cases e:D N=true
   ·rw[if_pos e,if_pos e,h N (by omega) e]
   ·rw[if_neg e,if_neg e]
theorem DS.sem {f:Nat} {sm:a5A} {F:Nat->FS} {X:Nat->Res} {D:Nat->Bool} {β:Bt} {K:Ks} {a:Act} {w:World} (h:DS P Γ z ops F X D β K a w):DS P (Γ.withSem f sm) z ops F X D β K a w:=
 ⟨h.tmp,h.nt,h.defers,h.kok,h.mr,h.dom,h.kle,h.knew,h.fr,h.own,h.ble,h.le⟩
theorem DS.unsem {f:Nat} {sm:a5A} {F:Nat->FS} {X:Nat->Res} {D:Nat->Bool} {β:Bt} {K:Ks} {a:Act} {w:World} (h:DS P (Γ.withSem f sm) z ops F X D β K a w):DS P Γ z ops F X D β K a w:=
 ⟨h.tmp,h.nt,h.defers,h.kok,h.mr,h.dom,h.kle,h.knew,h.fr,h.own,h.ble,h.le⟩
theorem SRf.unsem {f:Nat} {sm:a5A} {F:FS} {β:Bt} {K:Ks} {a:Act} {w:World} (h:SRf P (Γ.withSem f sm) z β K F a w):SRf P Γ z β K F a w:=
 ⟨h.tmp,h.nt,h.defers,h.kok,h.mr,h.fresh,h.kle,h.knew,h.fr,h.own,h.ble,h.le⟩
structure b2O (Γ:Env) (ops:Array Oper) (f:Nat) (fam:Fam) (p:Nat) (F:fam.ι->Nat->FS) (E:fam.ι->Nat->Ent) (X:fam.ι->Nat->Res):Prop where
 rgn:∀y,Rgn (Γ.withSem f (fam.mean y)) ops (F y) (E y) (X y)
 start:∀y y',F y 0=F y' 0
 other:∀i o,i≠p->ops[i]?=some o->a5p f o=true
 late:∀i o,p<i->ops[i]?=some o->∀D,a2u ops D->D i=true->D p=false->a8z o=true
variable {f:Nat} {fam:Fam} {p:Nat} {F:fam.ι->Nat->FS} {E:fam.ι->Nat->Ent} {X:fam.ι->Nat->Res}
theorem b2O.act (R:b2O Γ ops f fam p F E X) {i:Nat} {o:Oper} (a:i≠p) (b:ops[i]?=some o) (y y':fam.ι) (T:Nat->V) (G:Get) (n:Nat):AM.act (Γ.withSem f (fam.mean y)) o (a4m T) G n=AM.act (Γ.withSem f (fam.mean y')) o (a4m T) G n:=by
 rw[a5q (R.other i o a b),a5q (R.other i o a b)]
theorem b2O.pre (R:b2O Γ ops f fam p F E X) (k:p<ops.size) (y y':fam.ι):∀i,i<=p->F y i=F y' i /\ ∀j,j<i->X y j=X y' j
 |0,_=>⟨R.start y y',fun j h=>by omega⟩
 | i+1,h=>by
   obtain⟨d,g⟩:=R.pre k y y' i (by omega);have a:ops[i]?=some ops[i]:=Array.getElem?_eq_getElem (by omega);have s1:=(R.rgn y).step i _ a;have s2:=(R.rgn y').step i _ a;rw[<- d]at s2;obtain⟨b,c⟩:=s1.det s2 (R.act (by omega) a y y');refine⟨c,fun j l=>?_⟩;by_cases e:j=i
   ·subst e;exact b
   ·exact g j (by omega)
theorem b2O.same (R:b2O Γ ops f fam p F E X) (hp:p<ops.size) (y y':fam.ι) {D:Nat->Bool} (hc:a2u ops D) (hD:D p=false):∀i,i<ops.size->D i=true->X y i=X y' i /\ (p<i->(F y (i+1)).n=(F y i).n):=by
 intro i
 induction i using Nat.strongRecOn with
 | _ i ih =>
   intro hi q;have hne:i≠p:=fun e=>by subst e;rw[hD]at q;cases q
   rcases Nat.lt_or_ge i p with hlt|hge
   ·exact⟨(R.pre hp y y' p (le_refl _)).2 i hlt,fun h=>by omega⟩
   have hpi:p<i:=by omega
   have m:ops[i]?=some ops[i]:=Array.getElem?_eq_getElem hi;have a:=R.late i _ hpi m D hc q hD;have hg:ops[i].guard=none:=by
    unfold a8z at a;simp only[and_eq_true]at a;have:=a.1;split at this
    ·assumption
    ·cases this
   obtain⟨D',H⟩:∃D':Nat->Bool,D'=fun k=>D k&&Nat.blt k i:=⟨_,rfl⟩
   have b:D' i=false:=by
    rw[H];dsimp only;rw[show Nat.blt i i=false by
     cases hq:Nat.blt i i with
     |false=>rfl
     |true=>rw[Nat.blt_eq]at hq;omega,Bool.and_false]
   have l:∀k,D' k=true->D k=true /\ k<i:=fun k C=>by
    rw[H]at C;simp only[and_eq_true,Nat.blt_eq]at C;exact C
   have K:∀k,D k=true->k<i->D' k=true:=fun k U h2=>by
    rw[H];simp only[and_eq_true,Nat.blt_eq];exact⟨U,h2⟩
   have z:a2u ops D':=by
    intro k o C V e J I;obtain⟨U,h2⟩:=l k V;have h3:=hc k o C U e J I;have h4:=(R.rgn y).edge k o C e J I;exact K _ h3 (by omega)
   have w:a7r D' ops[i]:=fun e J I=>K _ (hc i _ m q e J I) ((R.rgn y).edge i _ m e J I)
   have hX:∀j,j<ops.size->D' j=true->X y j=X y' j:=fun j L d=>(ih j (l j d).2 L (l j d).1).1
   have Z:∀t,TX ops (F y) (X y) D' t=TX ops (F y') (X y') D' t:=fun t=>by
    show TD (F y 0).T (a9k ops) (fun i=>(X y i).v) D' ops.size t=TD (F y' 0).T (a9k ops) (fun i=>(X y' i).v) D' ops.size t;rw[R.start y y'];exact d8k _ fun j L d=>by rw[hX j L d]
   have W:GX ops (F y) (X y) D'=GX ops (F y') (X y') D':=by
    show GD (F y 0).G (fun i=>(X y i).upd) D' ops.size=GD (F y' 0).G (fun i=>(X y' i).upd) D' ops.size;rw[R.start y y'];exact c2G _ fun j L d=>by rw[hX j L d]
   have hT:∀t,t∈looks ops ops[i]->(F y i).T t=(F y' i).T t:=fun t ht=>by
    rw[<- (R.rgn y).lookT z m w b ht,<- (R.rgn y').lookT z m w b ht,Z]
   have P:∀x∈ops[i].op.operands,a4m (F y i).T x=a4m (F y' i).T x:=fun x hx=>by
    cases x with
    |tmp t=>exact hT t (List.mem_append_left _ (List.mem_filterMap.2 ⟨.tmp t,by simpa using hx,rfl⟩))
    |_=>rfl
   have s1:=(R.rgn y).step i _ m;have s2:=(R.rgn y').step i _ m;have c:∀{S:Env} {F1 F2:FS} {E':Ent} {T:Res},a3D S ops ops[i] F1 E' T F2->T.run=true:=by
    intro S F1 F2 E' T s;cases e:T.run with
    |true=>rfl
    | false =>
      obtain⟨⟨g,want,t,a1,_⟩,_⟩:=s.skip e;rw[hg]at a1;cases a1
   obtain⟨_,out,p1,_,p3,p4,p5,p6⟩:=s1.exec (c s1);obtain⟨_,Q,q1,_,q3,q4,q5,q6⟩:=s2.exec (c s2);have hfp:=b5n a (G:=(F y i).G) (G':=(F y' i).G) P;have Y:∀k∈a7D ops[i] (a4m (F y' i).T) (F y i).G,(F y i).G k=(F y' i).G k:=fun k C=>by
    have hk1:k∈(E y i).fp:=by rw[p6];dsimp only;rw[hfp,b5n a (G':=(F y i).G) (fun _ _=>rfl)];exact C
    have hk2:k∈(E y' i).fp:=by rw[q6];dsimp only;rw[b5n a (G':=(F y i).G) (fun _ _=>rfl)];exact C
    rw[<- (R.rgn y).lookG z m w b hk1,<- (R.rgn y').lookG z m w b hk2,W]
   rw[R.act hne m y y',b5b P,b5c Y]at p1;obtain⟨u1,u2,u3⟩:=c9C a p1;rw[u3 (F y' i).n]at q1;have M:Q={ out with n:=(F y' i).n }:=(Option.some.inj q1).symm;refine⟨?_,fun _=>by rw[p5,u2]⟩;have N:=c s1;have O:=c s2;generalize X y i=A at *;generalize X y' i=B at *;obtain⟨v,u,r⟩:=A;obtain⟨v',u',r'⟩:=B;dsimp only at p3 p4 q3 q4 N O;rw[p3,p4,q3,q4,N,O,M]
theorem b2O.TX (R:b2O Γ ops f fam p F E X) (e:p<ops.size) (y y':fam.ι) {D:Nat->Bool} (c:a2u ops D) (b:D p=false) (t:Nat):AM.TX ops (F y) (X y) D t=AM.TX ops (F y') (X y') D t:=by
 show TD (F y 0).T (a9k ops) (fun i=>(X y i).v) D ops.size t=TD (F y' 0).T (a9k ops) (fun i=>(X y' i).v) D ops.size t;rw[R.start y y'];exact d8k _ fun j d a=>by rw[(R.same e y y' c b j d a).1]
theorem b2O.GX (R:b2O Γ ops f fam p F E X) (e:p<ops.size) (y y':fam.ι) {D:Nat->Bool} (c:a2u ops D) (b:D p=false):AM.GX ops (F y) (X y) D=AM.GX ops (F y') (X y') D:=by
 show GD (F y 0).G (fun i=>(X y i).upd) D ops.size=GD (F y' 0).G (fun i=>(X y' i).upd) D ops.size;rw[R.start y y'];exact c2G _ fun j d a=>by rw[(R.same e y y' c b j d a).1]
theorem b2O.switch (R:b2O Γ ops f fam p F E X) (b:p<ops.size) (y y':fam.ι) {D:Nat->Bool} (j:a2u ops D) (g:D p=false) {β:Bt} {K:Ks} {a:Act} {w:World}
 (h:DS P Γ z ops (F y) (X y) D β K a w):DS P Γ z ops (F y') (X y') D β K a w:=by
 have o:=R.TX b y y' j g;have l:=R.GX b y y' j g;refine⟨fun t=>by rw[<- o t];exact h.tmp t,h.nt,h.defers,h.kok,by rw[<- l];exact h.mr,?_,h.kle,h.knew,h.fr,by rw[<- l];exact h.own,h.ble,by rw[<- R.start y y'];exact h.le⟩;intro k r;rcases h.dom k r with c|⟨i,c,d,m,n⟩
 ·exact .inl (by rw[<- R.start y y'];exact c)
 ·have u:i≠p:=fun e=>by subst e;rw[g]at d;cases d
  rcases Nat.lt_or_ge i p with s|q
  ·refine .inr ⟨i,c,d,?_⟩;rw[<- (R.pre b y y' i (by omega)).1,<- (R.pre b y y' (i+1) (by omega)).1];exact⟨m,n⟩
  ·have:=(R.same b y y' j g i c d).2 (by omega);omega
theorem c9E {β:Bt} {K:Ks} {get:Get} {n:Nat} {w:World} {ρ:Operand->V} {a:Act} {o:Oper} (h:Pre P Γ β K get n w ρ a) (b:a1T P f fam) {c:Call} (p:o.op = .call c) (l:c.callee = .value (.func f))
 (m:ρ (.func f) = .val (.one (.fn f []))) {out:fam.ι->Out} (q:∀y,AM.act (Γ.withSem f (fam.mean y)) o ρ get n=some (out y)) (i:∀y,(out y).ok=true) :
 a0l P o a w (fun v w'=>∃y,a0S β K get n w (out y) v w'):=by
 have j:∀y,(Γ.withSem f (fam.mean y)).sem f=some (fam.mean y):=fun y=>by simp[Env.withSem]
 have e:∀y,AM.act (Γ.withSem f (fam.mean y)) o ρ get n=match a5f (c.args.toList.map ρ)with
  |some ws=>b1Z (Γ.withSem f (fam.mean y)) o get n f (ws++([]:List Nat).map fun k => .one (.ptr k 0))
  |none=>none:=by
  intro y;unfold AM.act;simp only[p,l,m];cases a5f (c.args.toList.map ρ)<;>rfl
 cases hw:a5f (c.args.toList.map ρ)with
 | none =>
   obtain⟨r⟩:=fam.inh;have:=q r;rw[e,hw]at this;cases this
 | some ws =>
   have g:∀y,(match (fam.mean y).own with|true=>a3M (fam.mean y) get n (ws++([]:List Nat).map fun k => .one (.ptr k 0))|false=>a5D (fam.mean y) (match o.dst with|some d=>b0E Γ.frz d|none=>false) get n (ws++([]:List Nat).map fun k => .one (.ptr k 0)))=some (out y):=by
    intro y;have:=q y;rw[e,hw]at this;dsimp only at this;unfold b1Z at this;rw[j y]at this;exact this
   cases hown:fam.own with
   |true=>exact a5j h p l m hw b (fun y=>by have:=g y;rw[b.own y,hown]at this;exact this) i
   |false=>exact a6E h p l m hw b (fun y=>by have:=g y;rw[b.own y,hown]at this;exact this) i
theorem b2O.step (R:b2O Γ ops f fam p F E X) (env:a1o P Γ) (L:a1T P f fam) {o:Oper} (r:ops[p]?=some o) (hg:o.guard=none) {c:Call} (M:o.op = .call c) (u:c.callee = .value (.func f))
 {y:fam.ι} {D:Nat->Bool} {β:Bt} {K:Ks} {a:Act} {w:World} (h:DS P Γ z ops (F y) (X y) D β K a w) (B:a2u ops D) (hb:a7r D o) (s:D p=false)
 {A:Act->World->Prop} (hn:∀y' β K a w,DS P Γ z ops (F y') (X y') (a9s D p) β K a w->A a w):wpOp P ops Q p A a w:=by
 have q:p<ops.size:=(Array.getElem?_eq_some_iff.1 r).1;have S:∀y',DS P Γ z ops (F y') (X y') D β K a w:=fun y'=>R.switch q y y' B s h
 have U:∀y',F y' p=F y p:=fun y'=>(R.pre q y' y p (le_refl _)).1
 have O:∀y',(X y' p).run=true:=by
  intro y';cases e:(X y' p).run with
  |true=>rfl
  | false =>
    obtain⟨⟨g,want,t,a1,_⟩,_⟩:=((R.rgn y').step p o r).skip e;rw[hg]at a1;cases a1
 have hex:=fun y'=>(((R.rgn y').step p o r).exec (O y')).2
 obtain⟨out,l⟩:=Classical.axiomOfChoice hex;unfold wpOp;rw[r];dsimp only;rw[show Region.wanted o (yielded ops a.tmps)=true by simp[Region.wanted,hg],if_pos rfl];left;have H:∀t,t∈looks ops o->VR β K ((F y p).T t) (a.tmps.getD t undef):=fun t ht=>by rw[<- (R.rgn y).lookT B r hb s ht];exact h.tmp t
 refine c2e (ι:=fam.ι) fam.inh (β:=β) (K:=K) (ρ:=a4m (F y p).T) (G:=(F y p).G) (Gc:=AM.GX ops (F y) (X y) D) (n:=(F y p).n) (out:=out) env ?_ ?_ ?_ h.kok h.mr ?_ ?_ _ _ fun v w' I=>?_
 ·intro ρr Gr e1 e2 N;refine c9E N L M u ?_ (fun y'=>?_) fun y'=>(l y').2.1
  ·rw[<- e1 (.func f) (by rw[M];simp[Op.operands,Call.operands,u])];rfl
  ·have:=(l y').1;rw[U y']at this;rw[<- this,<- b5b e1];exact(b5c fun k C=>e2 k C).symm
 ·intro y';have T:=(R.rgn y').kb p q;rw[(l y').2.2.2.2.2,U y']at T;exact T
 ·intro k C;refine(R.rgn y).lookG B r hb s ?_;rw[(l y).2.2.2.2.2];exact C
 ·intro y' k T h2;refine(S y').sem.free (R.rgn y') q s k (by rw[U y'];exact T) ?_;rw[(l y').2.2.2.2.1];exact h2
 ·intro x V;cases x with
  | tmp t =>
    refine H t ?_;unfold looks c1F;exact List.mem_append_left _ (List.mem_filterMap.2 ⟨.tmp t,by simpa using V,rfl⟩)
  |const v=>exact a8h v
  |global g=>exact a5k
  |func f=>exact⟨[],rfl,trivial⟩
 ·obtain⟨y',β',K',i⟩:=I;have h':=S y';have J:=R.GX q y y' B s;obtain⟨_,_,h3,h4,h5,_⟩:=l y';have hs:=(R.rgn y').step p o r;have hT':∀t,VR β K (AM.TX ops (F y') (X y') D t) (a.tmps.getD t undef):=h'.tmp;obtain⟨g1,g2,g3⟩:=a8g (Γ:=Γ) (d:=o.dst) (x:=(out y').v) (v:=v) hT' i.ble i.kle h'.nt hs.dst i.vr;refine hn y' β' K' _ _ ⟨?_,g2,g3.trans h'.defers,i.kok,?_,?_,h'.kle.trans i.kle,?_,?_,?_,fun k y C e=>i.ble _ _ (h'.ble k y C e),h'.le⟩
  ·rw[(R.rgn y').addT B r s,h3];exact g1
  ·rw[(R.rgn y').addG B r s,h4,<- J];exact i.mr
  ·intro k C;rcases i.dom k C with m|⟨m,h8⟩
   ·rcases h'.dom k m with Z|⟨j,Z,W,Y⟩
    ·exact .inl Z
    ·exact .inr ⟨j,Z,by simp[a9s,W],Y⟩
   ·exact .inr ⟨p,q,a1V,by rw[U y'];exact m,by rw[h5];exact h8⟩
  ·intro b arr e;rcases i.knew b arr e with m|m|m
   ·exact h.knew b arr m
   ·exact .inr (h.own b m)
   ·exact .inr (.inr (Nat.le_trans h.fr.size m))
  ·exact h.fr.trans i.fr (f1u h.own h.knew)
  ·intro x V;rw[(R.rgn y').addG B r s,h4,<- J]at V;rcases i.own x V with m|m
   ·exact h.own x m
   ·exact .inr (Nat.le_trans h.fr.size m)
theorem b2O.any (R:b2O Γ ops f fam p F E X) (env:a1o P Γ) (H:a1T P f fam) {V:Oper} (hp:ops[p]?=some V) (hg:V.guard=none) {c:Call} (S:V.op = .call c) (C:c.callee = .value (.func f))
 (Y:∀y β K a w,SRf P Γ z β K (F y ops.size) a w->Q .normal a w) :
 ∀(fuel:Nat) (b:Array Bool),b.size=ops.size->cnt (fun k=>b.getD k false) ops.size<=fuel->a2u ops (fun k=>b.getD k false) ->
 ∀y β K a w,DS P Γ z ops (F y) (X y) (fun k=>b.getD k false) β K a w->wpAny P .any ops Q fuel b a w:=by
 have B:∀(b:Array Bool),b.size=ops.size->Region.ready .any ops b=[]->∀i,i<ops.size->b.getD i false=true:=by
  intro b q J i
  induction i using Nat.strongRecOn with
  | _ i U =>
    intro N;cases hq:b.getD i false with
    |true=>rfl
    | false =>
      exfalso;have l:ops[i]?=some ops[i]:=Array.getElem?_eq_getElem N;have:i∈Region.ready .any ops b:=by
       rw[mem_ready];refine⟨?_,_,l,fun e M L=>?_⟩
       ·have d:i<b.size:=by omega
        simp[d]at hq ⊢;exact hq
       ·obtain⟨y0⟩:=fam.inh;have d:=(R.rgn y0).edge i _ l e M L;exact U e.on d (by omega)
      rw[J]at this;cases this
 intro fuel
 induction fuel with
 | zero =>
   intro b q Z m y β K a w h;have W:=b0U (Nat.le_zero.1 Z);refine⟨?_,Y y β K a w (h.sem.all (R.rgn y) W).unsem⟩;cases J:Region.ready .any ops b with
   |nil=>rfl
   | cons i r =>
     exfalso;have hm:i∈Region.ready .any ops b:=by rw[J];exact List.mem_cons_self ..
     obtain⟨x,o,l,_⟩:=mem_ready.1 hm;have d:i<ops.size:=(Array.getElem?_eq_some_iff.1 l).1;have A:=W i d;have g:i<b.size:=by omega
     simp[g]at x A;rw[x]at A;cases A
 | succ fuel U =>
   intro b q Z m y β K a w h;refine⟨fun J=>Y y β K a w (h.sem.all (R.rgn y) (B b q J)).unsem,fun i N=>?_⟩;obtain⟨x,o,l,A⟩:=mem_ready.1 N;have d:i<ops.size:=(Array.getElem?_eq_some_iff.1 l).1;have g:i<b.size:=by omega
   have t:(fun k=>b.getD k false) i=false:=by
    simp[g]at x ⊢;exact x
   have s:(fun k=>(b.setIfInBounds i true).getD k false)=a9s (fun k=>b.getD k false) i:=by
    funext k;by_cases O:k=i
    ·subst O;rw[a1V];simp[g]
    ·rw[a2V O];exact getD_set_ne false (Ne.symm O)
   have u:a7r (fun k=>b.getD k false) o:=fun e M L=>A e M L
   have j:∀y' β' K' v w',DS P Γ z ops (F y') (X y') (a9s (fun k=>b.getD k false) i) β' K' v w'->wpAny P .any ops Q fuel (b.setIfInBounds i true) v w':=by
    intro y' β' K' v w' h';refine U (b.setIfInBounds i true) (by simpa using q) ?_ ?_ y' β' K' v w' (by rw[s];exact h')
    ·rw[s];have:=b5f (D:=fun k=>b.getD k false) t d;omega
    ·rw[s];exact m.add l u
   by_cases I:i=p
   ·subst I;rw[hp]at l;cases l;exact R.step env H hp hg S C h m u t j
   ·exact DS.step env (R.rgn y) h.sem m l (fun T G n=>a5q (R.other i o I l) T G n) u t fun β' K' v w' h'=>j y β' K' v w' h'.unsem
theorem d8l {R:Type} (env:a1o P Γ) {N:Nat->Option Fam} (hN:∀f fam,N f=some fam->a1T P f fam) {id:Nat} {K:Ex->St->Option R} {s:St} {r:R} (h:f1F Γ N id ops K s=some r) {a:Act} {w:World} (T:SR P Γ z s a w) :
 (Code.region id ops true).wp P (a5T P Γ z K r) a w:=by
 unfold f1F at h;split at h
 ·exact b6W env (.region id ops true) (fun c' L=>by cases L) K s r h a w T
 ·rename_i p f fam l;split at h
  case h_2=>cases h
  rename_i g;obtain⟨_,op,C,v⟩:=a5Z l;rw[Nat.sub_zero]at C;obtain⟨hg,J,c,j,A⟩:=b2M v;have u:=a4w h;have G:∀y:fam.ι,∃(q:(Nat->FS)×(Nat->Ent)×(Nat->Res)×St),q.1 0=s.fs /\ q.1 ops.size=q.2.2.2.fs /\ q.2.2.2.m=s.m /\ (∀i o,ops[i]?=some o->a3D (Γ.withSem f (fam.mean y)) ops o (q.1 i) (q.2.1 i) (q.2.2.1 i) (q.1 (i+1))) /\
   b2a ops (((List.range ops.size).map q.2.1).reverse++[])=true /\ K .normal q.2.2.2=some r:=by
   intro y;have U:=u y;unfold EBk at U;obtain⟨F,E,X,s',Z,fl,fm,fs,n⟩:=b0S ops.toList U;rw[Array.length_toList]at fl n;dsimp only at n;split at n
   ·rename_i hd;exact⟨(F,E,X,s'),Z,fl,fm,fun i o e=>fs i o (by rw[Array.getElem?_toList];exact e),hd,n⟩
   ·cases n
  obtain⟨q,m⟩:=Classical.axiomOfChoice G;have S:ops[p]?=some op:=by rw[<- Array.getElem?_toList];exact C
  have hlt:p<ops.size:=(Array.getElem?_eq_some_iff.1 S).1;have R:b2O Γ ops f fam p (fun y=>(q y).1) (fun y=>(q y).2.1) (fun y=>(q y).2.2.1):=by
   refine⟨fun y=>?_,fun y y'=>(m y).1.trans (m y').1.symm,fun i o Q B=>?_,fun i o Q B D hc t I=>?_⟩
   ·obtain⟨_,_,_,h4,h5,_⟩:=m y;obtain⟨V,W,Y⟩:=b2w h5;exact⟨h4,V,W,Y⟩
   ·have b:i<(c1E ops.toList []).length:=by rw[a3W];have:=(Array.getElem?_eq_some_iff.1 B).1;simpa using this
    exact(a6H g i o _ (by rw[Array.getElem?_toList];exact B) (List.getElem?_eq_getElem b) (by omega)).1
   ·have b:i<(c1E ops.toList []).length:=by rw[a3W];have:=(Array.getElem?_eq_some_iff.1 B).1;simpa using this
    have O:=List.getElem?_eq_getElem b;rcases (a6H g i o _ (by rw[Array.getElem?_toList];exact B) O (by omega)).2 with h1|h1|h1
    ·omega
    ·have:=b0T (D:=D) ops.toList [] (fun i o e hd=>hc i o (by rw[<- Array.getElem?_toList];exact e) (by simpa using hd)) (fun p x e=>by simp at e) i _ O t p h1;rw[I]at this;cases this
    ·exact h1
  obtain⟨hm,β,Ks,hf⟩:=T;obtain⟨H⟩:=fam.inh;have d:∀k,(Array.replicate ops.size false).getD k false=false:=by
   intro k;simp only[Array.getD_eq_getD_getElem?,Array.getElem?_replicate];split<;>rfl
  have M:SRf P (Γ.withSem f (fam.mean H)) z β Ks ((q H).1 0) a { w with drawn:=w.drawn+1 }:=by
   rw[(m H).1];have:=hf.still (w':={ w with drawn:=w.drawn+1 }) ⟨rfl,rfl,rfl,rfl⟩;exact⟨this.tmp,this.nt,this.defers,this.kok,this.mr,this.fresh,this.kle,this.knew,this.fr,this.own,this.ble,this.le⟩
  refine wp_region_any env.mixed (R.any (z:=z) env (hN f fam J) S hg j A (fun y β K' a w h=>⟨(q y).2.2.2,⟨(m y).2.2.1.trans hm,β,K',by rw[<- (m y).2.1];exact h⟩,(m y).2.2.2.2.2⟩) ops.size _ (by simp) ?_ ?_ H β Ks _ _ ?_)
  ·have:∀N,cnt (fun k=>(Array.replicate ops.size false).getD k false) N=N:=by
    intro N
    induction N with
    |zero=>rfl
    | succ N ih =>
      simp only[cnt];rw[if_neg (by rw[d];simp),ih];omega
   rw[this];exact le_refl _
  ·intro i o Q t;dsimp only at t;rw[d]at t;cases t
  ·exact(DS.start (R.rgn H) M d).unsem
end
structure g1g where
 ι:Type
 inh:Nonempty ι
 out:ι->Bool×St×St
structure c2H where
 m:a4l
 run:St->Option (Bool×g1g)
structure a6I where
 fam:Nat->Option Fam
 loops:Nat->Option c2H
def f8b {R:Type} (L:a4l) (K:Ex->St->Option R) (p:Bool×St×St):Option R:=match p.1 with
 |true=>K .ret p.2.2
 |false=>K (.exit L.ex) p.2.1
noncomputable def f8c {R:Type} (L:c2H) (K:Ex->St->Option R) (s:St):Option R:=
 match a7Q L.m.live L.m.own s with
 |none=>none
 | some a=>match L.run a with
   |none=>none
   | some (ok,fam)=>match ok with
     |true=>a3u fun z=>f8b L.m K (fam.out z)
     |false=>none
noncomputable def EBn {R:Type} (Γ:Env) (N:a6I):Code->(Ex->St->Option R)->St->Option R
 | .seq x y,K,s=>EBn Γ N x (fun e a=>match e with
   |.normal=>EBn Γ N y K a
   |e=>K e a) s
 | .cond c x y,K,s=>match s.val c with
   | .val (.one (.bool b))=>match b with
     |true=>EBn Γ N x (a5g (a1w Γ.cut (b2c c)) K) (s.putC c true)
     |false=>EBn Γ N y (a5g (a1w Γ.cut (b2c c)) K) (s.putC c false)
   |_=>none
 |.block id x,K,s=>EBn Γ N x (a6Y id (a1w Γ.past id) K) s
 | .loop c,K,s=>match N.loops (a0I c)with
   |some L=>f8c L K s
   |none=>EBk Γ (.loop c) K s
 | .region id ops d,K,s=>match d with
   |false=>c8D Γ N.fam ops ops.toList (fun a=>K .normal a) s
   |true=>f1F Γ N.fam id ops K s
 |.skip,K,s=>K .normal s
 |.label _,K,s=>K .normal s
 |.exit id,K,s=>K (.exit id) s
 |.ret,K,s=>EBk Γ .ret K s
 |_,_,_=>none
noncomputable def c0u {R:Type} (Γ:Env) (N:a6I) (c:Code) (L:a4l) (K:Ex->St->Option R):Nat->St->Option R
 |0,_=>none
 |k+1,s=>EBn Γ N c (a3k L.live L.own L.ex L.past L.pown (c0u Γ N c L K k) K) s
def c0v (Γ:Env) (N:a6I) (c:Code) (L:c2H):Prop:=
 ∀a fam,L.run a=some (true,fam)->∀(R:Type) (K:Ex->St->Option R) (r:R),(∀z,f8b L.m K (fam.out z)=some r)->∃n,c0u Γ N c L.m K n a=some r
def a3l (Γ:Env) (N:a6I) (c:Code):Prop:=∀c'∈a1S c,∀L,N.loops (a0I c')=some L->c0v Γ N c' L
def NOK (P:Program) (N:a6I):Prop:=∀f fam,N.fam f=some fam->a1T P f fam
noncomputable def a7s {R:Type} (Γ:Env) (N:a6I) (c:Code) (f:List W×List (Option Blk)->Option R) (args:List W) (ins:List Blk):Option R:=
 match Nat.ble args.length Γ.nt with
 | true=>EBn Γ N c (fun e s=>match e with
   |.exit _=>none
   | _=>match fin Γ s with
     |some r=>f r
     |none=>none) (a7m args ins)
 |false=>none
section
variable {P:Program} {Γ:Env} {z:a4S}
theorem c9F {R:Type} {N:a6I} {c:Code} {L:a4l} {K:Ex->St->Option R} {r:R}
 (B:∀(K:Ex->St->Option R) s r,EBn Γ N c K s=some r->∀a w,SR P Γ z s a w->c.wp P (a5T P Γ z K r) a w) (n:Nat) {s:St} (h:c0u Γ N c L K n s=some r) {a:Act} {w:World} (u:SR P Γ z s a w) :
 (Code.loop c).wp P (a5T P Γ z K r) a w:=by
 classical
 let J:Act->World->Nat->Prop:=fun a w k=>∃s,SR P Γ z s a w /\ c0u Γ N c L K k s=some r
 let I:Act->World->Prop:=fun a w=>∃k,J a w k
 have d:∀a w,I a w->∃k,J a w k /\ ∀j,j<k->¬J a w j:=fun a w ⟨k,f⟩=>e2Q k f
 let l:Act->World->Nat:=fun a w=>if h:I a w then(d a w h).choose else 0
 have p:∀a w,I a w->J a w (l a w) /\ ∀j,j<l a w->¬J a w j:=by
  intro a w m;have:l a w=(d a w m).choose:=dif_pos m;rw[this];exact(d a w m).choose_spec
 refine wp_loop I l ⟨n,s,u,h⟩ fun a w m=>?_
 obtain⟨⟨s,u,f⟩,_⟩:=p a w m;cases hn:l a w with
 |zero=>rw[hn]at f;simp[c0u]at f
 | succ k =>
   rw[hn]at f;simp only[c0u]at f;refine wp_mono (B _ s r f a w u) fun e g w' q=>?_
   cases e with
   | normal =>
     obtain⟨C,v,b⟩:=q;unfold a3k at b;dsimp only at b;split at b
     ·rename_i x t;have y:J g w' k:=⟨x,a3X v t,b⟩;have o:I g w':=⟨k,y⟩;refine⟨o,?_⟩;have A:=(p g w' o).2 k;rcases Nat.lt_or_ge k (l g w')with h3|h3
      ·exact absurd y (A h3)
      ·omega
     ·cases b
   |exit i=>exact b0X (ex:=L.ex) (past:=L.past) (pown:=L.pown) (.exit i) g w' q
   |ret=>exact b0X (ex:=L.ex) (past:=L.past) (pown:=L.pown) .ret g w' q
   |_=>exact q
theorem e2Z {R:Type} (env:a1o P Γ) {N:a6I} (F:NOK P N):∀(c:Code),a6y Γ c->a3l Γ N c->∀(K:Ex->St->Option R) (s:St) (r:R),EBn Γ N c K s=some r->∀a w,SR P Γ z s a w->c.wp P (a5T P Γ z K r) a w:=by
 intro c
 induction c with
 |skip=>exact fun _ _ K s r h a w g=>wp_skip ⟨s,g,h⟩
 |label l=>exact fun _ _ K s r h a w g=>wp_label ⟨s,g,h⟩
 |exit id=>exact fun _ _ K s r h a w g=>wp_exit ⟨s,g,h⟩
 |ret=>exact fun j _ K s r h a w g=>b6W env .ret j K s r h a w g
 | seq x y o p =>
   intro j k K s r h a w g;unfold EBn at h;refine wp_seq (wp_mono (o (fun c' f=>j c' (List.mem_append_left _ f)) (fun c' f=>k c' (List.mem_append_left _ f)) _ s r h a w g) fun e J w' v=>?_);cases e with
   | normal =>
     obtain⟨u,D,S⟩:=v;exact p (fun c' f=>j c' (List.mem_append_right _ f)) (fun c' f=>k c' (List.mem_append_right _ f)) K u r S J w' D
   |exit i=>exact v
   |ret=>exact v
   |_=>exact v
 | cond c x y o p =>
   intro j k K s r h a w g;unfold EBn at h;split at h
   ·rename_i b G;obtain⟨H,β,Ks,C⟩:=g;have I:=a8i C.tmp c;rw[<- b6V,G]at I;have B:a.eval c = .bool b:=I;have m:∀b',b=b'->SR P Γ z (s.putC c b') a w:=by
     intro b' e;subst e;cases c with
     | tmp t =>
       have:=a4G s t (a2g b) G;exact⟨H,β,Ks,by rw[show(s.putC (.tmp t) b).fs=(s.put t (a2g b)).fs from rfl,this];exact C⟩
     |_=>exact⟨H,β,Ks,C⟩
    refine wp_cond B ?_;cases b with
    |true=>exact wp_mono (o (fun c' f=>j c' (List.mem_append_left _ f)) (fun c' f=>k c' (List.mem_append_left _ f)) _ _ r h a w (m true rfl)) a4J
    |false=>exact wp_mono (p (fun c' f=>j c' (List.mem_append_right _ f)) (fun c' f=>k c' (List.mem_append_right _ f)) _ _ r h a w (m false rfl)) a4J
   ·cases h
 | block id x E =>
   intro j k K s r h a w g;unfold EBn at h;exact wp_block (wp_mono (E j k _ s r h a w g) b2A)
 | loop x E =>
   intro j k K s r h a w g;unfold EBn at h;split at h
   ·rename_i L T;unfold f8c at h;split at h
    ·cases h
    ·rename_i V A;split at h
     ·cases h
     ·rename_i ok fam q;split at h
      case h_2=>cases h
      obtain⟨n,U⟩:=k x (List.mem_cons_self ..) L T V fam q R K r (a4w h);exact c9F (L:=L.m) (E (fun c' f=>j c' (List.mem_cons_of_mem _ f)) (fun c' f=>k c' (List.mem_cons_of_mem _ f))) n U (a3X g A)
   ·exact b6W env (.loop x) j K s r h a w g
 | region id ops d =>
   intro j k K s r h a w g;cases d with
   | false =>
     unfold EBn at h;refine wp_region ?_;rw[List.range_eq_range'];have:=c2C env F (ops:=ops) (Q:=a5T P Γ z K r) (r:=r) (K:=fun u=>K .normal u) (fun u a w M O=>⟨u,M,O⟩) ops.toList 0 rfl (by simp) s h a w g;rw[Array.length_toList]at this;exact this
   | true =>
     unfold EBn at h;exact d8l env F h g
 |_=>intro _ _ K s r h;simp[EBn]at h
theorem a6a {R:Type} (env:a1o P Γ) {N:a6I} (hN:NOK P N) {f:Nat} {c:Code} (hf:a7b P f Γ c) (Q:a3l Γ N c) {g:List W×List (Option Blk)->Option R} {args:List W} {ins:List Blk} {r:R} (h:a7s Γ N c g args ins=some r)
 {β0:Bt} {K0:Ks} {w0:World} {vs:Array Value} (l:KOK K0 w0) (hm:MR β0 K0 (a2d ins) w0) (C:∀k,ins.length<=k->β0 k=none) (hv:All2 (WR β0 K0) args vs.toList) :
 Calls P f vs w0 fun e w'=>∃v β K rs outs,e = .returned v /\ g (rs,outs)=some r /\ Ret ins outs rs β0 K0 w0 v w' β K:=by
 obtain⟨fn,T,q,J,Y,_⟩:=hf.is;unfold a7s at h;split at h
 case h_2=>cases h
 rename_i F;have F:args.length<=Γ.nt:=by simpa using F
 have hlen:args.length=vs.size:=by simpa using hv.length
 refine calls_of_wp T q ?_;rw[Y]
 let z:a4S:=⟨β0,K0,w0,ins.length,Own β0 (a2d ins)⟩
 have h0:SR P Γ z (a7m args ins) { tmps:=vs++Array.replicate (Γ.nt-vs.size) undef,defers:=[] } w0:=by
  refine⟨rfl,β0,K0,⟨fun t=>?_,by simp;omega,rfl,l,?_,C,KLe.refl _,fun b arr e => .inl e,Fr.refl _ _,?_,fun k y _ e=>e,le_refl _⟩⟩
  ·have L:=(a4K (i:=0) hv t).1;rw[Nat.zero_add]at L;have M:(vs++Array.replicate (Γ.nt-vs.size) undef).getD t undef=vs.toList.getD t undef:=by
    simp only[Array.getD_eq_getD_getElem?,List.getD_eq_getElem?_getD,Array.getElem?_toList];rw[Array.getElem?_append];split
    ·rfl
    ·rename_i n;rw[Array.getElem?_replicate,Array.getElem?_eq_none (xs:=vs) (by omega)];split<;>rfl
   show VR β0 K0 ((a7m args ins).tmpV t) ((vs++Array.replicate (Γ.nt-vs.size) undef).getD t undef);rw[M];exact L
  ·show MR β0 K0 (a7m args ins).get w0;rw[a5U];exact hm
  ·intro x B;left;have:(a7m args ins).fs.G=a2d ins:=a5U args ins;rw[this]at B;exact B
 refine wp_mono (e2Z env hN c hf.loops Q _ _ r h _ _ h0) fun e a w O=>?_
 have p:∀s,SR P Γ z s a w->(match fin Γ s with|some r=>g r|none=>none)=some r->a.defers=[] /\ ∃v,(results fn a.tmps).run P w = .ok v w /\ ∃v' β K rs outs,Ending.returned v = .returned v' /\ g (rs,outs)=some r /\ Ret ins outs rs β0 K0 w0 v' w β K:=by
  intro s j m;split at m
  case h_2=>cases m
  rename_i ro d;obtain⟨rs,outs⟩:=ro;obtain⟨G,β,K,j⟩:=j;unfold fin at d;split at d
  ·cases d
  ·rename_i ws hws;obtain⟨v,Z,hr2⟩:=d2I env J j hws;dsimp only at d;generalize E:a2q s.get a1D (a9j s.m++ws.flatMap a0M) (a9j 0)=ks at d;have H:(a3v ks s.m).Nodup:=by
    rw[a3E,<- E];exact List.Pairwise.filter _ (a2j _ _ _ _ (by simp[a9j]))
   have D:∀k∈a3v ks s.m,s.m<=k:=by
    intro k l;rw[a3E,List.mem_filter]at l;simpa using l.2
   generalize a3v ks s.m=rest at d H D;split at d
   ·rename_i ws' outs' L M;cases d;have hlo:outs.length=s.m+rest.length:=by rw[a2i M,List.length_append,a2W]
    have o:∀k' b',a2f outs k'=some b'->∃k b,a2G rest s.m k=some k' /\ s.get k=some b /\ b1U (a2G rest s.m) b=some b':=by
     intro k' b' e;unfold a2f at e;cases hq:outs[k']? with
     |none=>rw[hq]at e;cases e
     | some x =>
       rw[hq]at e;have B:x=some b':=e;subst B;obtain⟨k,l,I⟩:=(All2.ofMap M).get?' hq;have X:a2G rest s.m k=some k':=by
        rw[List.getElem?_append,a2W]at l;unfold a2G;split at l
        ·rename_i n;rw[b0Y,if_pos n]at l;have U:k'=k:=Option.some.inj l;rw[<- U,show Nat.blt k' s.m=true by simpa[Nat.blt_eq]using n]
        ·rename_i n;have A:=D k (List.mem_of_getElem? l);rw[show Nat.blt k s.m=false from Bool.eq_false_iff.2 fun e=>by rw[Nat.blt_eq]at e;omega];dsimp only;rw[a8n H l];congr 1;omega
       cases hg0:s.get k with
       |none=>rw[hg0]at I;simp[a5d]at I
       | some b0 =>
         rw[hg0]at I;simp only[a5d,Option.map_eq_some_iff,injEq]at I;obtain⟨b1,h4,h5⟩:=I;exact⟨k,b0,X,hg0,by rw[h4,h5]⟩
    refine⟨j.defers,v,Z,v,a8o β rest s.m,K,rs,outs,rfl,m,⟨j.kle,j.kok,j.knew,j.mr.ren a2K o,fun k l=>b0W (by omega),?_,j.fr,fun x B=>j.own x (B.ren j.mr a2K o),?_,?_⟩⟩
    ·have A:VR (a8o β rest s.m) K (c8T rs) v:=a7F L hr2 fun c c' u _ S hu=>a6D a2K S hu
     exact A
    ·intro k y e;have V:k<ins.length:=by
      rcases Nat.lt_or_ge k ins.length with A|A
      ·exact A
      ·rw[C k A]at e;cases e
     have hzm:s.m=ins.length:=G;rw[b0V (by omega)];exact j.ble k y V e
    ·have hzm:s.m=ins.length:=G;omega
   ·cases d
 cases e with
 |normal=>obtain⟨s,j,m⟩:=O;exact p s j m
 |ret=>obtain⟨s,j,m⟩:=O;exact p s j m
 |exit i=>obtain⟨s,j,m⟩:=O;cases m
 |_=>exact O.elim
end
section
variable {Γ:Env} {N:a6I}
instance:Nonempty a8v:=⟨⟨0,by decide⟩⟩
def c2I.{u} {α:Type u}:List (Nat×α)->Nat->Option α
 |[],_=>none
 | (k,x)::r,t=>match beq k t with
   |true=>some x
   |false=>c2I r t
theorem b2P.{u} {α:Type u}:∀{l:List (Nat×α)} {t:Nat} {x:α},c2I l t=some x->(t,x)∈l
 | (k,y)::r,t,x,h=>by
   simp only[c2I]at h;split at h
   ·rename_i e;cases h;rw[a0g e];exact List.mem_cons_self ..
   ·exact List.mem_cons_of_mem _ (b2P h)
def mkN (a:List (Nat×Fam)) (loops:List (Nat×c2H)):a6I:=⟨c2I a,c2I loops⟩
def e8Q.{u} {α:Type u} (R:α->Prop):List α->Prop
 |[]=>True
 |x::r=>R x /\ e8Q R r
theorem e8Q.mem.{u} {α:Type u} {R:α->Prop}:∀{l:List α},e8Q R l->∀x∈l,R x
 | y::r,h,x,a=>by
   rcases List.mem_cons.1 a with rfl|a
   ·exact h.1
   ·exact h.2.mem x a
theorem a4h {P:Program} {a:List (Nat×Fam)} {loops:List (Nat×c2H)} (h:e8Q (fun x=>a1T P x.1 x.2) a):NOK P (mkN a loops):=fun f fam e=>h.mem (f,fam) (b2P e)
theorem a1L {Γ:Env} {a:List (Nat×Fam)} {c:Code}:a3l Γ (mkN a []) c:=fun c' b L h=>by cases h
def f1G (O:Sg) {R:Type} (h:O.den->Option R) (p:List W×List (Option Blk)):Option R:=match c2x O p with
 |some y=>h y
 |none=>none
def a7t (R:Ty) {T:Type} (h:Den R->Option T) (p:List W×List (Option Blk)):Option T:=match c9q R p with
 |some y=>h y
 |none=>none
noncomputable def a4i (Γ:Env) (N:a6I) (c:Code) (I O:Sg) (h:O.den->Option Unit) (x:I.den):Option Unit:=match b2I (a3F I.bs x.2)with
 |some ins=>a7s Γ N c (f1G O h) (a2M I.ws x.1) ins
 |none=>none
abbrev Ch (I O:Sg) (ok:I.den->Bool) (Q:I.den->O.den->Prop):Type:={ g:I.den->O.den // ∀x,ok x=true->Q x (g x) }
def a2w (own:Bool) (I O:Sg) (ok:I.den->Bool) (Q:I.den->O.den->Prop) (a:Nonempty (Ch I O ok Q)):Fam:=⟨Ch I O ok Q,a,fun g=>a0H own I O ok g.1,own⟩
end
section
variable {P:Program} {Γ:Env} {N:a6I}
theorem a9P (env:a1o P Γ) (hN:NOK P N) {f:Nat} {c:Code} (Y:a7b P f Γ c) (D:a3l Γ N c) {own:Bool} {I O:Sg} {ok:I.den->Bool} {Q:I.den->O.den->Prop} {u:Nonempty (Ch I O ok Q)}
 (h:∀x,ok x=true->∀k:O.den->Option Unit,(∀y,Q x y->k y=some ())->a4i Γ N c I O k x=some ()):a1T P f (a2w own I O ok Q u):=by
 classical
 refine⟨fun _=>rfl,?_⟩;intro args ins q β0 K0 w0 vs B hm F hv;obtain⟨C⟩:=u;obtain⟨rs0,S,a⟩:=q C;simp only[a2w,a0H,c2x]at a;split at a
 case h_2=>cases a
 rename_i x m;split at m
 case h_2=>cases m
 rename_i T z;split at m
 case h_2=>cases m
 rename_i U A;cases m;split at a
 case h_2=>cases a
 rename_i p d;simp only[injEq,Prod.mk.injEq]at a;obtain⟨w,_,_⟩:=a;obtain⟨H,l⟩:=a3Y A;obtain⟨J,G⟩:=a5W d;rw[a8s]at l;rw[<- G]at l;have Z:p.length=ins.length:=by rw[J,H];simp
 have X:=h (T,U) w (fun y=>if Q (T,U) y then some ()else none) (fun y o=>if_pos o);simp only[a4i,d]at X;refine .inl ⟨Y.ok,(a6a env hN Y D X B (hm.lax l) (fun k B=>F k (by omega)) (a5V z hv)).mono ?_⟩;rintro e w' ⟨v,β,K,rs',r,rfl,s,g⟩;simp only[f1G]at s;split at s
 case h_2=>cases s
 rename_i y o;split at s
 case isFalse=>cases s
 rename_i hQ;simp only[c2x]at o;split at o
 case h_2=>cases o
 rename_i V M;split at o
 case h_2=>cases o
 rename_i W R;cases o;obtain⟨L,t⟩:=a3Y R;have n:(a3F O.bs (V,W).2).length=r.length:=L;have i:∀b,Own β0 (a2d p) b->Own β0 (a2d ins) b:=fun b E=>E.lax l
 refine⟨⟨fun x=>if x=(T,U)then(V,W)else C.1 x,fun x m=>?_⟩,a2M O.ws V,a3F O.bs W,v,β,K,?_,rfl,⟨g.kle,g.kok,fun b arr e=>?_,g.mr.lax t,fun k B=>g.fresh k (by simp only at B n;omega),a8t M g.out,⟨g.fr.os,g.fr.tape,g.fr.output,g.fr.size,fun b E hn=>g.fr.block b E fun hc=>hn (hc.imp (i b) id)⟩,fun x m=>?_,g.ble,?_⟩⟩
 ·dsimp only;split
  ·rename_i e;rw[e];exact hQ
  ·exact C.2 x m
 ·simp only[a2w,a0H,c2x,z,A,d,w,if_pos]
 ·rcases g.knew b arr e with j|j|j
  ·exact .inl j
  ·exact .inr (.inl (i b j))
  ·exact .inr (.inr j)
 ·rcases g.own x (m.lax t)with j|j
  ·exact .inl (i x j)
  ·exact .inr j
 ·have:=g.le;simp only at n ⊢;omega
theorem d8m (env:a1o P Γ) (q:NOK P N) {f:Nat} {c:Code} (r:a7b P f Γ c) (j:a3l Γ N c) {args:List W} {k:Den (.cons .bool .nil)->Option Unit} (m:∀y,k y=some ()->y=(true,())) (h:a7s Γ N c (a7t (.cons .bool .nil) k) args []=some ()) {w:World} {vs:Array Value} (l:GK (b1b w))
 (t:All2 (WR (fun _=>none) (b1b w)) args vs.toList):Calls P f vs w fun e w'=>e = .returned (.bool true) /\ Below w.heap.size w w':=by
 have s:MR (fun _=>none) (b1b w) (a2d []) w:=⟨fun k b e=>by simp[a2d]at e,fun k k' b b' _ _ _ e=>by simp[a2d]at e,fun k b _ _ e=>by simp[a2d]at e⟩;refine(a6a env q r j h (d7X w l) s (fun _ _=>rfl) t).mono ?_;rintro e w' ⟨v,β,K,rs,o,rfl,i,a⟩;have n:∀x,¬Own (fun _=>none) (a2d []) x:=by rintro x ⟨k,b,y,e,_⟩;simp[a2d]at e
 unfold a7t at i;split at i
 ·rename_i y g;have:=m y i;subst this;unfold c9q at g;dsimp only at g;split at g
  ·have d:v = .bool true:=a7G g a.out;exact⟨by rw[d],a.fr.os,a.fr.tape,a.fr.output,a.fr.size,fun k m=>a.fr.block k m fun p=>p.elim (n k) (d7W w k)⟩
  ·cases g
 ·cases i
end
section
variable {P:Program} {Γ:Env} {N:a6I}
structure b5o (P:Program) (f:Nat) (e:Array Value->Sem Value):Prop where
 is:∃fn,P.funcs[f]?=some fn /\ (fn.name == "runtime.NumGoroutine")=false /\ fn.body.isNone=true /\ Extern.findNext fn=none /\ Extern.find fn=some e
theorem b5o.run {f:Nat} {e:Array Value->Sem Value} (h:b5o P f e) {vs:Array Value} {w w':World} {v:Value} (hr:(e vs).run P w = .ok v w'):(callFunc f vs).run P w = .ok (.value v) w':=by
 obtain⟨fn,h1,h2,h3,h4,h5⟩:=h.is
 have h2':¬fn.name = "runtime.NumGoroutine" := by simpa using h2
 have h3':fn.body=none:=by simpa using h3
 simp[callFunc,h1,h2',h3',h4,h5,hr]
def a5b (A R:Ty) (ι:Type) (inh:Nonempty ι) (g:ι->Den A->Den R):Fam:=⟨ι,inh,fun z=>a0c A R (fun _=>true) (g z),false⟩
theorem d2O {f:Nat} {e:Array Value->Sem Value} (o:b5o P f e) {A R:Ty} {ι:Type} {inh:Nonempty ι} {g:ι->Den A->Den R}
 (h:∀(x:Den A) (vs:Array Value) (β:Bt) (K:Ks) (w:World),All2 (WR β K) (a6t A x) vs.toList->∃v w' z,(e vs).run P w = .ok v w' /\ a0s w w' /\ a6z β K (a6t R (g z x)) v):a1T P f (a5b A R ι inh g):=by
 refine⟨fun _=>rfl,?_⟩;intro args ins c β0 K0 w0 vs p t i q;obtain⟨s⟩:=inh;obtain⟨r,j,a⟩:=c s;cases ins with
 |cons _ _=>simp[a5b,a0c]at a
 | nil =>
   simp only[a5b,a0c]at a;split at a
   ·rename_i x d;obtain⟨v,w',z,m,l,n⟩:=h x vs β0 K0 w0 (a5m d q);refine .inr ⟨v,w',o.run m,z,a6t R (g z x),[],v,β0,K0,?_,rfl,?_⟩
    ·simp only[a5b,a0c,d]
    ·exact⟨KLe.refl _,p.still l,fun _ _ e => .inl e,⟨fun k b e=>by simp[a2f]at e,fun k k' b b' _ _ _ e=>by simp[a2f]at e,fun k b _ _ e=>by simp[a2f]at e⟩,fun k _=>i k (zero_le _),n,Fr.still l,fun x d=>by
      obtain⟨k,b,y,e,_⟩:=d;simp[a2f]at e,BLe.refl _,le_refl _⟩
   ·cases a
abbrev ChT (A R:Ty) (ok:Den A->Bool) (Q:Den A->Den R->Prop):Type:={ g:Den A->Den R // ∀x,ok x=true->Q x (g x) }
def b2Q (A R:Ty) (ok:Den A->Bool) (Q:Den A->Den R->Prop) (a:Nonempty (ChT A R ok Q)):Fam:=⟨ChT A R ok Q,a,fun g=>a0c A R ok g.1,false⟩
theorem d2P (env:a1o P Γ) (t:NOK P N) {f:Nat} {c:Code} (r:a7b P f Γ c) (m:a3l Γ N c) {A R:Ty} {ok:Den A->Bool} {Q:Den A->Den R->Prop} {i:Nonempty (ChT A R ok Q)}
 (h:∀x,ok x=true->∀k:Den R->Option Unit,(∀y,Q x y->k y=some ())->a7s Γ N c (a7t R k) (a6t A x) []=some ()):a1T P f (b2Q A R ok Q i):=by
 classical
 refine⟨fun _=>rfl,?_⟩;intro args ins b β0 K0 w0 vs z B n E;obtain⟨l⟩:=i;obtain⟨G,p,a⟩:=b l;cases ins with
 |cons _ _=>simp[b2Q,a0c]at a
 | nil =>
   simp only[b2Q,a0c]at a;split at a
   ·rename_i x s;simp only[injEq,Prod.mk.injEq]at a;obtain⟨j,_,_⟩:=a;have w:=h x j (fun y=>if Q x y then some ()else none) (fun y d=>if_pos d);refine .inl ⟨r.ok,(a6a env t r m w z B n (a5m s E)).mono ?_⟩;rintro e w' ⟨v,β,K,F,o,rfl,g,q⟩;unfold a7t at g;split at g
    case h_2=>cases g
    rename_i y d;dsimp only at g;split at g
    case isFalse=>cases g
    rename_i C;unfold c9q at d;dsimp only at d;split at d
    ·refine⟨⟨fun u=>if u=x then y else l.1 u,fun u D=>?_⟩,a6t R y,[],v,β,K,?_,rfl,{ q with out:=a7G d q.out }⟩
     ·dsimp only;split
      ·rename_i e;rw[e];exact C
      ·exact l.2 u D
     ·simp only[b2Q,a0c,s,j,if_pos]
    ·cases d
   ·cases a
theorem c2J (env:a1o P Γ) (p:NOK P N) {f:Nat} {c:Code} (o:a7b P f Γ c) (i:a3l Γ N c) {A R:Ty} {ok:Den A->Bool} {g:Den A->Den R} {Q:Den A->Den R->Prop}
 (q:∀x y,Q x y->∀β K v,a6z β K (a6t R y) v->a6z β K (a6t R (g x)) v)
 (h:∀x,ok x=true->∀k:Den R->Option Unit,(∀y,Q x y->k y=some ())->a7s Γ N c (a7t R k) (a6t A x) []=some ()):a0f P (f,a0c A R ok g):=by
 classical
 refine⟨?_,o.ok⟩;intro args ins rs outs a β0 K0 w0 vs s t j w;cases ins with
 |cons _ _=>simp[a0c]at a
 | nil =>
   simp only[a0c]at a;split at a
   ·rename_i x z;simp only[injEq,Prod.mk.injEq]at a;obtain⟨l,rfl,rfl⟩:=a;have r:=h x l (fun y=>if Q x y then some ()else none) (fun y b=>if_pos b);refine(a6a env p o i r s t j (a5m z w)).mono ?_;rintro e w' ⟨v,β,K,B,m,rfl,d,n⟩;unfold a7t at d;split at d
    case h_2=>cases d
    rename_i y b;dsimp only at d;split at d
    case isFalse=>cases d
    rename_i u;unfold c9q at b;dsimp only at b;split at b
    ·exact⟨v,β,K,rfl,{ n with out:=q x y u β K v (a7G b n.out) }⟩
    ·cases b
   ·cases a
end
theorem b7f {P:Program} {f:Nat} (g:b5o P f Extern.MathFloatBits.float64bits) {inh:Nonempty { z:Nat // a1r .f64 z=true }} :
 a1T P f (a5b (.cons (.flt .f64) .nil) (.cons (.int .u64) .nil) { z:Nat // a1r .f64 z=true } inh (fun z x=>((((bif a1r .f64 x.1 then z.1 else x.1:Nat):Int)),()))):=by
 refine d2O g fun x vs β K w d=>?_
 obtain⟨b,_⟩:=x;obtain⟨h⟩:=inh;rcases vs with⟨l⟩
 cases l with
 |nil=>exact d.elim
 | cons v r =>
   cases r with
   |cons _ _=>exact d.2.elim
   | nil =>
     obtain⟨b',rfl,a⟩:=d.1;have a:FEq .f64 b b':=a;by_cases c:a1r .f64 b=true
     ·refine⟨.int .u64 b',w,⟨b',FEq.nan_left a c⟩,rfl,a0s.refl w,?_⟩;show Value.int .u64 b' = .int .u64 _;rw[c];rfl
     ·rcases a with rfl|⟨e,_⟩
      ·refine⟨.int .u64 b,w,h,rfl,a0s.refl w,?_⟩;show Value.int .u64 b = .int .u64 _;rw[Bool.eq_false_iff.2 c];rfl
      ·exact absurd e c
theorem a7d {P:Program} {f:Nat} (c:b5o P f Extern.MathFloatBits.float64frombits) :
 a1T P f (a5b (.cons (.int .u64) .nil) (.cons (.flt .f64) .nil) Unit ⟨()⟩ (fun _ x=>((x.1:Int).toNat,()))):=by
 refine d2O c fun x vs β K w a=>?_
 obtain⟨n,_⟩:=x;rcases vs with⟨l⟩
 cases l with
 |nil=>exact a.elim
 | cons v r =>
   cases r with
   |cons _ _=>exact a.2.elim
   | nil =>
     have b:v = .int .u64 n:=a.1;subst b;exact⟨.float .f64 (n:Int).toNat,w,(),rfl,a0s.refl w,⟨_,rfl,.inl rfl⟩⟩
@[reducible] def unJ:Ty->Ty
 |.jnk => .flt .f32
 |.slice t => .slice (unJ t)
 |.cons a b => .cons (unJ a) (unJ b)
 |.bool => .bool
 |.int k => .int k
 |.flt k => .flt k
 |.cpx k => .cpx k
 |.str => .str
 |.nil => .nil
def shp:(t:Ty)->Den (unJ t)->Den t
 |.jnk,_=>()
 |.slice t,l=>List.map (shp t) l
 |.cons a b,p=>(shp a p.1,shp b p.2)
 |.bool,x=>x
 |.int _,x=>x
 |.flt _,x=>x
 |.cpx _,x=>x
 |.str,x=>x
 |.nil,x=>x
theorem c9G:∀t,(unJ t).size=t.size:=by
 intro t
 induction t with
 |cons a b c d=>simp[Ty.size,c,d]
 |_=>rfl
theorem d8n (t:Ty):(unJ t).isJ=false:=by cases t<;>rfl
def noJ:Ty->Bool
 |.jnk=>false
 |.slice t=>noJ t
 |.cons a b=>noJ a&&noJ b
 |_=>true
theorem a6J {t:Ty} (h:noJ t=true):t.isJ=false:=by
 cases t with
 |jnk=>simp[noJ]at h
 |_=>rfl
def a6b (K K':Ks):Prop:=∀x arr,K x=some (false,arr)->K' x=some (false,arr)
theorem DR.clean {K K':Ks} (h:a6b K K'):∀(t:Ty) {x:Den t} {vs:List Value},noJ t=true->DR K t x vs->DR K' t x vs:=by
 intro t
 induction t with
 | slice t r =>
   rintro x vs d ⟨a,n,c,e,p,l,q⟩;have d:noJ t=true:=d;refine⟨a,n,c,e,p,l,q.imp id ?_⟩;rintro⟨b,o,arr,ha,hb,hi⟩;rw[a6J d]at hb;exact⟨b,o,arr,ha,by rw[a6J d];exact h _ _ hb,fun i m=>r d (hi i m)⟩
 | cons a b f g =>
   rintro x vs d ⟨s,u,e,j,k⟩;simp only[noJ,and_eq_true]at d;exact⟨s,u,e,f d.1 j,g d.2 k⟩
 |jnk=>intro x vs d;simp[noJ]at d
 |_=>exact fun _ h=>h
theorem d8o {α b:Type} {R:α->b->Nat->Prop} (x:List b) (h:∀i (d:i<x.length),∃y,R y x[i] i):∃l:List α,l.length=x.length /\ ∀i (c:i<l.length) (a:i<x.length),R l[i] x[i] i:=by
 refine⟨List.ofFn fun i:Fin x.length=>(h i.1 i.2).choose,by simp,fun i c a=>?_⟩;rw[List.getElem_ofFn];exact(h i a).choose_spec
theorem DR.told {K g:Ks} {w:World} (P:KOK K w) (h:∀x z,K x=some z->∃cur T fz,g x=some (false,cur) /\ w.heap[x]?=some (.cells cur T fz)) :
 ∀(t:Ty) {x:Den t} {vs:List Value},DR K t x vs->∃C:Den (unJ t),shp t C=x /\ DR g (unJ t) C vs:=by
 intro t
 induction t with
 | slice t W =>
   rintro x vs ⟨a,n,c,rfl,B,A,Q⟩;rcases Q with L|⟨b,o,arr,M,v,O⟩
   ·have V:x=[]:=List.eq_nil_of_length_eq_zero (by omega);subst V;exact⟨([]:List (Den (unJ t))),rfl,a,n,c,rfl,B,A,.inl L⟩
   ·obtain⟨cur,T,fz,hh,U,S⟩:=P.see v;obtain⟨s,Z,J,N,d⟩:=h b _ v;rw[hh]at d;cases d;obtain⟨l,p,u⟩:=d8o (R:=fun(y:Den (unJ t)) (z:Den t) i=>shp t y=z /\ DR g (unJ t) y (sub cur.toList (o+i*t.size) t.size)) x fun i m=>W (S _ _ (O i m))
    refine⟨l,?_,a,n,c,rfl,by rw[p];exact B,A,.inr ⟨b,o,cur,M,by rw[d8n];exact N,fun i f=>?_⟩⟩
    ·show List.map (shp t) l=x;refine List.ext_getElem (by simpa using p) fun i j k=>?_
     rw[List.getElem_map];exact(u i (by simpa using j) k).1
    ·rw[c9G];exact(u i f (by rw[<- p];exact f)).2
 | cons a b q r =>
   rintro x vs ⟨X,Y,e,j,k⟩;obtain⟨D,H,F⟩:=q j;obtain⟨E,I,G⟩:=r k;exact⟨(D,E),by show(shp a D,shp b E)=x;rw[H,I],X,Y,e,F,G⟩
 | jnk =>
   rintro x vs ⟨n,rfl⟩;exact⟨n,rfl,n,rfl,.inl rfl⟩
 |_=>exact fun{x vs} h=>⟨x,rfl,h⟩
theorem f1H {β:Bt} {K:Ks}:∀(t:Ty) {x:Den t} {vs:List Value},All2 (CR β K) (AM.enc t x) vs->DR K t x vs:=by
 intro t;have one:∀{c:C} {vs:List Value},All2 (CR β K) [c] vs->∃v,vs=[v] /\ CR β K c v:=fun{c vs} h=>by
  cases vs with
  |nil=>exact h.elim
  | cons v vs=>cases vs with
    |nil=>exact⟨v,rfl,h.1⟩
    |cons _ _=>exact h.2.elim
 induction t with
 | cons a b e f =>
   intro x vs h;obtain⟨i,j,rfl,g,d⟩:=All2.split h;exact⟨i,j,rfl,e g,f d⟩
 | nil =>
   intro x vs h;cases vs with
   |nil=>rfl
   |cons _ _=>exact h.elim
 |bool=>intro x vs h;obtain⟨v,rfl,d⟩:=one h;rw[show v=_ from d];rfl
 |int k=>intro x vs h;obtain⟨v,rfl,d⟩:=one h;rw[show v=_ from d];rfl
 |flt k=>intro x vs h;obtain⟨v,rfl,b,rfl,d⟩:=one h;exact⟨b,rfl,d⟩
 |cpx k=>intro x vs h;obtain⟨v,rfl,a,b,rfl,d⟩:=one h;exact⟨a,b,rfl,d⟩
 |str=>intro x vs h;obtain⟨v,rfl,d⟩:=one h;rw[show v=_ from d];rfl
 |slice t l=>intro x vs h;obtain⟨v,rfl,d⟩:=one h;exact d
 |jnk=>intro x vs h;obtain⟨v,rfl,n,rfl⟩:=one h;exact⟨n,rfl⟩
theorem CRs.clean0 {β:Bt} {K K':Ks}:∀{vs:List Value},All2 (CR β K) [] vs->All2 (CR β K') [] vs
 |[],_=>trivial
 |_::_,h=>h.elim
theorem WR.told {K i:Ks} {w:World} {β:Bt} (j:KOK K w) (h:∀x z,K x=some z->∃cur T fz,i x=some (false,cur) /\ w.heap[x]?=some (.cells cur T fz)) {t:Ty} {x:Den t} {v:Value}
 (f:WR β K (d8a t x) v):∃c:Den (unJ t),shp t c=x /\ WR β i (d8a (unJ t) c) v:=by
 cases t with
 | slice t =>
   obtain⟨c,e,d⟩:=DR.told j h (.slice t) (show DR K (.slice t) x [v]from f);exact⟨c,e,d⟩
 | cons a b =>
   obtain⟨arr,rfl,g⟩:=f;obtain⟨c,e,d⟩:=DR.told j h (.cons a b) (f1H (.cons a b) g);exact⟨c,e,arr,rfl,DR.enc (unJ (.cons a b)) d⟩
 | jnk =>
   obtain⟨n,rfl⟩:=f;exact⟨n,rfl,n,rfl,.inl rfl⟩
 | nil =>
   obtain⟨arr,rfl,g⟩:=f;exact⟨x,rfl,arr,rfl,CRs.clean0 g⟩
 |_=>exact⟨x,rfl,f⟩
@[reducible] def unK:Kn->Kn
 |.val t => .val (unJ t)
 |k=>k
def g1h:(k:Kn)->(unK k).den->k.den
 |.val t,x=>shp t x
 |.own _ _,x=>x
 |.ptr _,x=>x
 |.mix _,x=>x
 |.fnv _ _,x=>x
@[reducible] def b7g:List Kn->List Kn
 |[]=>[]
 |k::r=>unK k::b7g r
def c0w:(l:List Kn)->a4T (b7g l)->a4T l
 |[],x=>x
 |k::r,x=>(g1h k x.1,c0w r x.2)
def b2R:Kn->Bool
 |.val _=>true
 |_=>false
@[reducible] def unO (O:Sg):Sg:=⟨b7g O.ws,O.bs⟩
def e3a (O:Sg) (y:(unO O).den):O.den:=(c0w O.ws y.1,y.2)
theorem b2S {K b:Ks} {w:World} {β:Bt} (c:KOK K w) (h:∀x z,K x=some z->∃cur T fz,b x=some (false,cur) /\ w.heap[x]?=some (.cells cur T fz)) :
 ∀{l:List Kn} (a:l.all b2R=true) {x:a4T l} {vs:List Value},All2 (WR β K) (a2M l x) vs->∃d:a4T (b7g l),c0w l d=x /\ All2 (WR β b) (a2M (b7g l) d) vs
 |[],_,x,[],hv=>⟨x,rfl,trivial⟩
 |[],_,x,_::_,hv=>hv.elim
 |.val t::r,a,x,[],hv=>hv.elim
 | .val t::r,a,x,v::vs,hv=>by
   obtain⟨e,j,g⟩:=WR.told c h hv.1;obtain⟨f,k,i⟩:=b2S c h (l:=r) (by simpa[b2R]using a) hv.2;exact⟨(e,f),by show(shp t e,c0w r f)=x;rw[j,k],g,i⟩
 |.own _ _::r,a,_,_,_=>by simp[b2R]at a
 |.ptr _::r,a,_,_,_=>by simp[b2R]at a
 |.mix _::r,a,_,_,_=>by simp[b2R]at a
 |.fnv _ _::r,a,_,_,_=>by simp[b2R]at a
theorem a8A:∀(l:List Kn) (x:a4T l),(a2M l x).length=l.length
 |[],_=>rfl
 |k::r,x=>by simp[a2M,a8A r]
theorem b7h:∀(l:List Kn),(b7g l).length=l.length
 |[]=>rfl
 |k::r=>by simp[b7h r]
theorem a6z.told {K j:Ks} {w:World} {β:Bt} (k:KOK K w) (h:∀x z,K x=some z->∃cur T fz,j x=some (false,cur) /\ w.heap[x]?=some (.cells cur T fz)) {l:List Kn} (m:l.all b2R=true) {x:a4T l} {v:Value}
 (f:a6z β K (a2M l x) v):∃c:a4T (b7g l),c0w l c=x /\ a6z β j (a2M (b7g l) c) v:=by
 have b:=fun(vs:List Value)=>b2S (β:=β) k h m (x:=x) (vs:=vs)
 have a:∀c:a4T (b7g l),(a2M (b7g l) c).length=(a2M l x).length:=fun c=>by rw[a8A,a8A,b7h]
 unfold a6z at f ⊢;generalize a2M l x=us at f b a
 match us,f,b,a with
 | [],f,b,a =>
   obtain⟨arr,e,i⟩:=f;obtain⟨c,g,d⟩:=b arr.toList i;refine⟨c,g,?_⟩;have:=a c;generalize a2M (b7g l) c=us' at d this ⊢
   match us',d,this with
   |[],d,_=>exact⟨arr,e,d⟩
 | [u],f,b,a =>
   obtain⟨c,g,d⟩:=b [v] ⟨f,trivial⟩;refine⟨c,g,?_⟩;have:=a c;generalize a2M (b7g l) c=us' at d this ⊢
   match us',d,this with
   |[u'],d,_=>exact d.1
 | u::u2::us,f,b,a =>
   obtain⟨arr,e,i⟩:=f;obtain⟨c,g,d⟩:=b arr.toList i;refine⟨c,g,?_⟩;have:=a c;generalize a2M (b7g l) c=us' at d this ⊢
   match us',d,this with
   |y::y2::ys,d,_=>exact⟨arr,e,d⟩
def e8R:C->Bool
 |.sl t _=>noJ t
 |.rptr t _ _ _=>noJ t
 |.arptr t _ _ _ _ _=>noJ t
 |_=>true
def e8S (u:W):Bool:=u.cells.all e8R
def e3b:Blk->Bool
 |.box cs=>cs.all e8R
 |.arr t _=>noJ t
def f1I:Option Blk->Bool
 |some b=>e3b b
 |none=>true
theorem CR.clean {β:Bt} {K K':Ks} (h:a6b K K') {c:C} (n:e8R c=true) {v:Value} (f:CR β K c v):CR β K' c v:=by
 cases c with
 |sl t l=>exact DR.clean h (.slice t) n f
 | rptr t l i o =>
   have a:noJ t=true:=n;obtain⟨p,b,o',arr,e,g,k⟩:=f;rw[a6J a]at e;exact⟨p,b,o',arr,by rw[a6J a];exact h _ _ e,fun j d=>DR.clean h t a (g j d),k⟩
 | arptr t l i o m q =>
   have a:noJ t=true:=n;obtain⟨r,p,b,o',arr,e,g,k⟩:=f;rw[a6J a]at e;exact⟨r,p,b,o',arr,by rw[a6J a];exact h _ _ e,fun j d=>DR.clean h t a (g j d),k⟩
 |_=>exact f
theorem CRs.clean {β:Bt} {K K':Ks} (h:a6b K K'):∀{cs:List C} {vs:List Value},cs.all e8R=true->All2 (CR β K) cs vs->All2 (CR β K') cs vs
 |[],[],_,hv=>hv
 | c::cs,v::vs,hc,hv=>by
   simp only[List.all_cons,and_eq_true]at hc;exact⟨CR.clean h hc.1 hv.1,CRs.clean h hc.2 hv.2⟩
 |[],_::_,_,hv=>hv.elim
 |_::_,[],_,hv=>hv.elim
theorem WR.clean {β:Bt} {K K':Ks} (h:a6b K K') {u:W} (a:e8S u=true) {v:Value} (b:WR β K u v):WR β K' u v:=by
 cases u with
 |one c=>exact CR.clean h (by simpa[e8S,W.cells]using a) b
 |agg cs=>obtain⟨arr,e,d⟩:=b;exact⟨arr,e,CRs.clean h a d⟩
theorem WRs.clean {β:Bt} {K K':Ks} (h:a6b K K'):∀{a:List W} {vs:List Value},a.all e8S=true->All2 (WR β K) a vs->All2 (WR β K') a vs
 |[],[],_,hv=>hv
 | c::cs,v::vs,hc,hv=>by
   simp only[List.all_cons,and_eq_true]at hc;exact⟨WR.clean h hc.1 hv.1,WRs.clean h hc.2 hv.2⟩
 |[],_::_,_,hv=>hv.elim
 |_::_,[],_,hv=>hv.elim
theorem BR.clean {β:Bt} {K K':Ks} (h:a6b K K') {b:Blk} (d:e3b b=true) {y:Hd} {w:World} (a:BR β K b y w):BR β K' b y w:=by
 cases b with
 |box cs=>obtain⟨x,arr,T,e,hh,m⟩:=a;exact⟨x,arr,T,e,hh,CRs.clean h d m⟩
 | arr t l =>
   rcases a with a|⟨x,c,cur,T,e,hh,f,g,j,k⟩
   ·exact .inl a
   ·exact .inr ⟨x,c,cur,T,e,hh,f,g,j,fun i n=>DR.clean h t d (k i n)⟩
theorem MR.clean {β:Bt} {K K':Ks} {get:Get} {w:World} (c:MR β K get w) (h:a6b K K') (j:∀k b,get k=some b->e3b b=true) (a:∀x,Own β get x->K' x=none):MR β K' get w:=
 ⟨fun k b e=>by
  obtain⟨y,d,i⟩:=c.blk k b e;exact⟨y,d,i.clean h (j k b e)⟩,c.sep,fun k b y x e f g=>a x ⟨k,b,y,e,f,g⟩⟩
theorem b7i {os:List (Option Blk)} (h:os.all f1I=true):∀k b,a2f os k=some b->e3b b=true:=by
 intro k b e;unfold a2f at e;cases hq:os[k]? with
 |none=>rw[hq]at e;cases e
 | some o =>
   rw[hq]at e;have e:o=some b:=e;have:=List.all_eq_true.1 h o (List.mem_of_getElem? hq);rw[e]at this;exact this
section
variable {P:Program} {Γ:Env} {N:a6I}
theorem e3c (env:a1o P Γ) (hN:NOK P N) {f:Nat} {c:Code} (hf:a7b P f Γ c) (hNL:a3l Γ N c) {own:Bool} {I O:Sg} {ok:I.den->Bool} {Q:I.den->O.den->Prop} {hne:Nonempty (Ch I (unO O) ok fun x y=>Q x (e3a O y))}
 (hv0:O.ws.all b2R=true) (nI1:∀x,(a2M I.ws x).all e8S=true) (nI2:∀x,(a3F I.bs x).all f1I=true) (nO:∀y,(a3F O.bs y).all f1I=true)
 (h:∀x,ok x=true->∀k:O.den->Option Unit,(∀y,Q x y->k y=some ())->a4i Γ N c I O k x=some ()):a1T P f (a2w own I (unO O) ok (fun x y=>Q x (e3a O y)) hne):=by
 classical
 refine⟨fun _=>rfl,?_⟩;intro args ins S β0 K0 w0 vs A hm hfr hv;obtain⟨g0⟩:=hne;obtain⟨rs0,outs0,i⟩:=S g0;simp only[a2w,a0H,c2x]at i;split at i
 case h_2=>cases i
 rename_i x r;split at r
 case h_2=>cases r
 rename_i x1 hx1;split at r
 case h_2=>cases r
 rename_i x2 hx2;cases r;split at i
 case h_2=>cases i
 rename_i d o;simp only[injEq,Prod.mk.injEq]at i;obtain⟨hok,_,_⟩:=i;obtain⟨hl1,D⟩:=a3Y hx2;obtain⟨hl2,Z⟩:=a5W o;rw[a8s]at D;rw[<- Z]at D;have hlen:d.length=ins.length:=by rw[hl2,hl1];simp
 have he:=h (x1,x2) hok (fun y=>if Q (x1,x2) y then some ()else none) (fun y H=>if_pos H);simp only[a4i,o]at he;obtain⟨l,F⟩:∃l:Ks,l=fun x=>match K0 x with|some (false,arr)=>some (false,arr)|_=>none:=⟨_,rfl⟩
 have C:a6b K0 l:=fun x arr e=>by rw[F];dsimp only;rw[e]
 have s:∀x z,l x=some z->K0 x=some z /\ z.1=false:=fun x z e=>by
  rw[F]at e;dsimp only at e;split at e
  ·rename_i arr ha;cases e;exact⟨ha,rfl⟩
  ·cases e
 have R:MR β0 K0 (a2d d) w0:=hm.lax D;have hb1:∀k b,a2d d k=some b->e3b b=true:=by
  intro k b e;rw[Z]at e;exact b7i (nI2 x2) k b e
 have hk':KOK l w0:=⟨fun x z e=>A.ato x z (s x z e).1,by
  obtain⟨m,hm⟩:=A.gk;exact⟨m,fun x r=>C _ _ (hm x r)⟩⟩
 have hro0:∀x,Own β0 (a2d d) x->l x=none:=by
  rintro x ⟨k,b,y,e,f,g⟩;cases hq:l x with
  |none=>rfl
  | some z =>
    have:=(s x z hq).1;rw[R.ro k b y x e f g]at this;cases this
 have hm':MR β0 l (a2d d) w0:=R.clean C hb1 hro0;have hv':=WRs.clean C (nI1 x1) (a5V hx1 hv);refine .inl ⟨hf.ok,(a6a env hN hf hNL he hk' hm' (fun k A=>hfr k (by omega)) hv').mono ?_⟩;rintro e w' ⟨v,β,K,rs',U,rfl,Y,j⟩;simp only[f1G]at Y;split at Y
 case h_2=>cases Y
 rename_i y H;split at Y
 case isFalse=>cases Y
 rename_i hQ;simp only[c2x]at H;split at H
 case h_2=>cases H
 rename_i y1 hy1;split at H
 case h_2=>cases H
 rename_i W hy2;cases H;obtain⟨hl3,L⟩:=a3Y hy2;have G:(a3F O.bs (y1,W).2).length=U.length:=hl3;have u:∀b,Own β0 (a2d d) b->Own β0 (a2d ins) b:=fun b hb=>hb.lax D
 have p:∀x,Own β0 (a2d d) x->K0 x=none:=by
  rintro x ⟨k,b,y,e,f,g⟩;exact R.ro k b y x e f g
 obtain⟨E,t⟩:∃E:Ks,E=fun x=>match K0 x with
  |some z=>some z
  | none=>match K x with
    | some _=>match w'.heap[x]? with
      |some (.cells cur _ _)=>some (false,cur)
      |_=>none
    |none=>none:=⟨_,rfl⟩
 have n:∀x z,K0 x=some z->E x=some z:=fun x z e=>by rw[t];dsimp only;rw[e]
 have J:∀x z,K x=some z->∃cur T fz,E x=some (false,cur) /\ w'.heap[x]?=some (.cells cur T fz):=by
  intro x z e;obtain⟨cur,T,fz,hh,a,h2⟩:=j.kok.ato x z e;refine⟨cur,T,fz,?_,hh⟩;cases hq:K0 x with
  | none =>
    rw[t];dsimp only;rw[hq];dsimp only;rw[e];dsimp only;rw[hh]
  | some q =>
    rw[n x q hq];rcases j.knew x z e with w|w|w
    ·obtain⟨h4,h5⟩:=s x z w;have h6:q=z:=Option.some.inj (hq.symm.trans h4);rw[h6,a h5];show some z=some (false,z.2);rw[<- h5]
    ·rw[p x w]at hq;cases hq
    ·have:=A.lt hq;omega
 have B:a6b K E:=by
  intro x arr e;obtain⟨cur,T,fz,a,h2⟩:=J x _ e;obtain⟨cur',T',fz',w,h4,_⟩:=j.kok.ato x _ e;rw[h2]at w;cases w;rw[a,h4 rfl]
 have X:Fr (d7F β0 K0 (a2d ins)) w0 w':=⟨j.fr.os,j.fr.tape,j.fr.output,j.fr.size,fun b hb hn=>j.fr.block b hb fun a=>a.elim (fun a=>hn (.inl (u b a))) fun⟨arr,a⟩=>by
  have:=(s b _ a).2;cases this⟩
 have M:KOK E w':=by
  refine⟨?_,A.gk.mono n⟩;intro x z e;cases hq:K0 x with
  | some q =>
    rw[n x q hq]at e;have e':=Option.some.inj e;subst e';obtain⟨fl,arr⟩:=q;cases fl with
    |false=>exact j.kok.ato x _ (j.kle x _ (C x arr hq))
    | true =>
      have hn:¬d7F β0 l (a2d d) x:=by
       rintro(a|⟨arr',a⟩)
       ·rw[p x a]at hq;cases hq
       ·have:=(s x _ a).2;cases this
      rw[j.fr.block x (A.lt hq) hn];exact A.ato x _ hq
  | none =>
    rw[t]at e;dsimp only at e;rw[hq]at e;dsimp only at e;split at e
    ·split at e
     ·rename_i cur T fz hh;cases e;exact⟨cur,T,fz,hh,KOK.self fun e=>by cases e⟩
     ·cases e
    ·cases e
 obtain⟨V,e1,d1⟩:=a6z.told (β:=β) j.kok J hv0 (a8t hy1 j.out);have hmo:MR β E (a2f (a3F O.bs W)) w':=by
  have a:MR β K (a2f (a3F O.bs W)) w':=j.mr.lax L;refine a.clean B (b7i (nO W)) fun x r=>?_
  have h2:K x=none:=by
   obtain⟨k,b,y,e,f,g⟩:=r;exact a.ro k b y x e f g
  cases hq:K0 x with
  |none=>rw[t];dsimp only;rw[hq];dsimp only;rw[h2]
  | some q =>
    rcases j.own x (r.lax L)with w|w
    ·rw[p x w]at hq;cases hq
    ·have:=A.lt hq;omega
 refine⟨⟨fun x=>if x=(x1,x2)then(V,W)else g0.1 x,fun x r=>?_⟩,a2M (b7g O.ws) V,a3F O.bs W,v,β,E,?_,rfl,⟨n,M,fun b arr e=>?_,hmo,fun k A=>j.fresh k (by simp only at A G;omega),d1,X,fun x r=>?_,j.ble,?_⟩⟩
 ·dsimp only;split
  ·rename_i e;rw[e];show Q (x1,x2) (c0w O.ws V,W);rw[e1];exact hQ
  ·exact g0.2 x r
 ·simp only[a2w,a0H,c2x,hx1,hx2,o,hok,if_pos]
 ·cases hq:K0 b with
  |some q=>rw[n b q hq]at e;cases e;exact .inl rfl
  | none =>
    rw[t]at e;dsimp only at e;rw[hq]at e;dsimp only at e;split at e
    ·rename_i z hz;rcases j.knew b z hz with a|a|a
     ·rw[(s b z a).1]at hq;cases hq
     ·exact .inr (.inl (u b a))
     ·exact .inr (.inr a)
    ·cases e
 ·rcases j.own x (r.lax L)with a|a
  ·exact .inl (u x a)
  ·exact .inr a
 ·have:=j.le;simp only at G ⊢;omega
end
end Go.Proofs.YtjomnmoekchfeaaGreatDoor.AM
namespace Go.Proofs.YtjomnmoekchfeaaGreatDoor.Card
open Go Go.Proofs Go.ChangeShapes Go.WideShapes Go.ChangeAt Go.RowKit Go.Proofs.YtjomnmoekchfeaaGreatDoor.AM
set_option maxRecDepth 100000
theorem own:ownKnob Tryz.prog.godebug=none:=by kernel_rfl
theorem d8p:laidOutB Tryz.prog=true:=by kernel_rfl
theorem gP:Tryz.prog.globalNamed "internal/strconv.uint64pow10" = some 2:=by kernel_rfl
noncomputable def c2K:List (String×DataW Unit):=Rows.fnSecondsSailedRow.laid
def g1i:DataW Unit->Value
 |.lit (.int k n) => .int k n
 |_ => .bool false
def c9H:Array Value:=match Go.Pinned.utf8First with
 |.agg l=>(l.map g1i).toArray
 |_=>#[]
noncomputable def b2T (os:Os):World:=
 { World.doorLaid Tryz.prog 34 os with heap:=(World.doorLaid Tryz.prog 34 os).heap.modify 3 fun
  |.cells _ t fz => .cells c9H t fz
  |o=>o }
theorem c9I (os:Os) (args:Array Value):laidMetH Tryz.prog c2K ((b2T os).forCall (fun _ _=>0) ⟨#[],args,[]⟩).memory:=
 laidMetH_of_parts3 (fuel:=8) (laidMet_of_run' 8 (by kernel_rfl) (by kernel_rfl)) (by kernel_rfl) (by kernel_rfl)
theorem f1J {H:Type} {enc:TypeId×Value->H} {a:Assume} {C:Checked} {os:Os} {f:FuncId} {fn:Func} {s:ChangeSpec} {g:List PathCond} {apart fresh c d:Bool} {X:World->Array Value->Prop}
 (B:∀(w w':World) (args:Array Value),w.heap=w'.heap->X w args->X w' args)
 (own:ownKnob C.prog.godebug=none) (h:os.Started) (l:C.prog.inits.idxOf? f=none) (u:C.prog.funcs[f]?=some fn)
 (k:∃(w:World) (tape:Tape) (i:Input),w.os=os /\ (w.forCall tape i).Shaped C.prog /\ i.vars=[] /\ Input.okWide C.prog (w.forCall tape i) .any w.heap.size f i /\
  ((s.pre enc C.prog fn g apart (w.forCall tape i).memory i.args /\ X (w.forCall tape i).memory i.args) /\ sizedMet enc C.prog fn (OpenSpec.ofChange s) apart (w.forCall tape i).memory i.args) /\ a.holds C.prog (lone (Frame.enter C.prog f i.args .normal) [] (w.forCall tape i)))
 (contract:∀(W:World) (base:Nat) (args:Array Value) (ds r:List (DataW H)) (b:List MemPlace),
  (∀(j:Nat) t v,fn.params[j]?=some t->args[j]?=some v->Value.okWide C.prog W .any base t v) ->
  DataW.Whole enc C.prog fn.params.toList s.vars apart W args.toList ds r b ->
  W.ShapedOpen C.prog->X W args ->
  Calls C.prog f args W fun e A=>∃v,e = .returned v /\ s.post enc C.prog fn apart fresh c d W args v A) :
 ReturnsInHanded a C os f .any (fun w args=>(s.pre enc C.prog fn g apart w args /\ X w args) /\ sizedMet enc C.prog fn (OpenSpec.ofChange s) apart w args) (s.post enc C.prog fn apart fresh c d):=by
 refine returnsInHanded_of_calls own h l k ?_;intro w tape i _ y _ x n p;obtain⟨_,_,_,q,m,_,_,_,_,o⟩:=x;have e:q=fn:=Option.some.inj (m.symm.trans u);subst e;obtain⟨⟨⟨ds,r,b,F,I⟩,G⟩,J⟩:=n;have z:=DataW.Whole.of_heap (w':=w.forCall tape i) (by rfl) F;refine(contract (w.forCall tape i) w.heap.size i.args ds r b o z y (B _ _ _ (by rfl) G)).mono fun e A ⟨v,D,E⟩=>?_
 subst D;exact ChangeSpec.post_blind E
theorem f1K {W:World} (hsh:W.ShapedOpen Tryz.prog) (hL:laidMetH Tryz.prog c2K W):GK (b1b W):=by
 rw[MakeChecks.laidMetH_plain _ _ _ (by kernel_rfl)]at hL
 have ht:Lib.TabIs Tryz.prog W "internal/strconv.uint64pow10" .u64 ((List.range 20).map fun i=>((10^i:Nat):Int)):=
  Lib.tabIs_of_head (t:=257) (e:=104) (n:=20) gP (by kernel_rfl) (by kernel_rfl) (by kernel_rfl) (by kernel_rfl) (by kernel_rfl) hL.tail.tail
 obtain⟨cs,hh,hs,_⟩:=hsh.1 1 #[.int .i64 0] 3 (of_decide_eq_true (by kernel_rfl)) (by kernel_rfl)
 obtain⟨m,hm⟩:∃m,W.cell? ⟨1,0,none⟩=some (.int .i64 m):=cell_of_shapedOpen_int (t:=3) (zero:=#[.int .i64 0]) hsh (of_decide_eq_true (by kernel_rfl)) (by kernel_rfl) (by kernel_rfl) (by kernel_rfl) (by kernel_rfl) (by kernel_rfl)
 refine⟨m,?_⟩
 unfold e2I
 intro x hx
 simp only[List.mem_cons,List.not_mem_nil,or_false]at hx
 rcases hx with rfl|rfl
 ·unfold b1b
  rw[hh]
  obtain⟨l⟩:=cs
  match l,hs with
  | [v],_ =>
    have:W.cell? ⟨1,0,none⟩=some v:=by
     unfold World.cell?
     rw[hh]
     rfl
    rw[this]at hm
    cases hm
    rfl
 ·unfold Lib.TabIs World.var? at ht
  rw[gP]at ht
  simp only[Option.bind_some]at ht
  unfold b1b
  split at ht
  ·rename_i c T fz h
   cases ht
   rw[h]
   rfl
  ·cases ht
end Go.Proofs.YtjomnmoekchfeaaGreatDoor.Card
