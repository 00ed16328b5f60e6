/- Texts of one proof, joined: an abstract machine for the program, its functions evaluated, plain lemmas. Conditions: those that each lemma names. -/
import Derived.Test.YtjomnmoekchfeaaGreatDoorM3
import Derived.Test.YtjomnmoekchfeaaGreatDoorM2
set_option linter.unusedVariables false
set_option linter.unusedSimpArgs false
namespace Go.Proofs.YtjomnmoekchfeaaGreatDoor.AM
open IntKind (wrap)
open List (length replicate getD set length_append length_replicate length_set)
open Int (toNat toNat_natCast)
open Option (getD_some isSome_some)
open Bool (and_eq_true)
open FloatKind (nearest)
open Nat (zero_le)
open Go Go.Proofs
set_option maxRecDepth 100000
set_option maxHeartbeats 0
abbrev A8:Ty:=.cons (.slice (.int .u8)) (.nil)
abbrev R8:Ty:=.cons (.bool) (.nil)
noncomputable def Γ8:Env:=a0m tab eqs [] 6 [.tmp 2] [] [] [] [] []
def r8 (x:Den A8):OD R8:=some (decide ((length x.1:Int)>1048576),())
theorem ev8 (x) :a0t (Γ8) (a0b Tryz.f8) (a1a R8) (a0M A8 x) []=r8 x:=by kernel_rfl
def F8 (x:Den A8):OD R8:=r8 x
def K8 (x:Den A8):Bool:=(F8 x).isSome
def G8 (x:Den A8):Den R8:=(F8 x).getD (zero R8)
theorem g6c:a0k Tryz.prog (8,a0a A8 R8 K8 G8):=fnO .nil Tryz.func8 ev8
abbrev A44:Ty:=.cons (.int .i64) (.cons (.int .i64) (.cons (.int .i64) (.nil)))
abbrev R44:Ty:=.cons (.bool) (.nil)
noncomputable def g6d:Env:=a0m tab eqs [] 15 [.tmp 6] [] [] [] [] []
def r44 (x:Den A44):OD R44:=bif decide (x.1 ≥ x.2.1) then some (decide (x.1<=x.2.2.1),())else some (false,())
theorem g6e (x) :a0t (g6d) (a0b Tryz.f44) (a1a R44) (a0M A44 x) []=r44 x:=by kernel_rfl
def F44 (x:Den A44):OD R44:=r44 x
def K44 (x:Den A44):Bool:=(F44 x).isSome
def G44 (x:Den A44):Den R44:=(F44 x).getD (zero R44)
theorem a7a:a0k Tryz.prog (44,a0a A44 R44 K44 G44):=fnO .nil Tryz.func44 g6e
abbrev c3a:Ty:=.cons (.flt .f32) (.nil)
abbrev c9D:Ty:=.cons (.bool) (.nil)
noncomputable def g0d:Env:=a0m tab eqs [] 9 [.tmp 2] [] [] [] [] []
def g0e (x:Den c3a):OD c9D:=bif fgt .f32 x.1 0||feq .f32 x.1 0 then some (flt .f32 x.1 1112014848||feq .f32 x.1 1112014848,())else some (false,())
theorem g0f (x) :a0t (g0d) (a0b Tryz.f107) (a1a c9D) (a0M c3a x) []=g0e x:=by kernel_rfl
def f1E (x:Den c3a):OD c9D:=g0e x
def d6P (x:Den c3a):Bool:=(f1E x).isSome
def d6Q (x:Den c3a):Den c9D:=(f1E x).getD (zero c9D)
theorem d2v:a0k Tryz.prog (107,a0a c3a c9D d6P d6Q):=fnO .nil Tryz.func107 g0f
abbrev c5v:Ty:=.cons (.flt .f32) (.nil)
abbrev d2w:Ty:=.cons (.bool) (.nil)
noncomputable def g0g (a b) :=a0m tab eqs [(107,a0a c3a c9D a b)] 6 [.tmp 2] [] [] [] [] []
def g0h (a:KA c3a) (b:GA c3a c9D) (x:Den c5v):OD d2w:=bif a x then some (!(b x).1,())else none
theorem g0i (a b x) :a0t (g0g a b) (a0b Tryz.f158) (a1a d2w) (a0M c5v x) []=g0h a b x:=by kernel_rfl
def f1F (x:Den c5v):OD d2w:=g0h d6P d6Q x
def d9d (x:Den c5v):Bool:=(f1F x).isSome
def d9e (x:Den c5v):Den d2w:=(f1F x).getD (zero d2w)
theorem e2T:a0k Tryz.prog (158,a0a c5v d2w d9d d9e):=fnO (.cons d2v .nil) Tryz.func158 (g0i d6P d6Q)
abbrev d9f:Sg:=⟨[.val (.slice (.flt .f32)),.fnv 158 []],[]⟩
abbrev e2U:Sg:=⟨[.val (.int .i64)],[]⟩
abbrev a5g:Type:=(((List (Den (.flt .f32)))×(Unit×(Int×(Int×Unit))))×Unit)
def b5P:ShS:=⟨[(0,.one (.sl (.flt .f32))),(1,.one (.fn 158 [])),(7,.one (.int .i64)),(8,.one (.int .i64))],[],0,0⟩
abbrev b9Y:Type:=(Unit×Unit)
def b5Q:ShS:=⟨[],[],0,0⟩
abbrev b9Z:Type:=((Int×Unit)×Unit)
def b5R:ShS:=⟨[(4,.one (.int .i64))],[],0,0⟩
noncomputable def f1G (a b c d e g) :=a0m tab eqs [(158,a0a c5v d2w a b)] 19 [.tmp 4] [] [] [(2,a2d [0,1,7,8] [] 0 [] [] b5P b5Q b5R c e d g)] [] []
noncomputable def d2x:Code:=(a0p (a0b Tryz.f210)).getD 0 .skip
def c0a (a:KA c5v) (b:GA c5v d2w) (f:a5g->Option (b9Y⊕b9Z)) (v:a5g):Option (b9Y⊕b9Z):=bif decide (v.1.2.2.2.1<v.1.2.2.1) then bif decide (0<=v.1.2.2.2.1)&&decide (v.1.2.2.2.1<(length v.1.1:Int)) then let c:=getD v.1.1 (toNat v.1.2.2.2.1) (zero (Ty.flt .f32));bif a (c,()) then bif (b (c,())).1 then some (Sum.inr (v.1.2.2.2,()))else f (((v.1.1,(),v.1.2.2.1,wrap .i64 (v.1.2.2.2.1+1),()),()))else none else none else some (Sum.inl ((),()))
theorem d9g (a b c d e g f v) :EBk (f1G a b c d e g) d2x (a0z [0,1,7,8] [] 0 [] [] (atS b5P f) (a6c b5Q b5R)) (mkS b5P v)=c0a a b f v:=by kernel_rfl
def c5w (v:a5g):Nat:=v.1.1.length+v.1.2.2.1.natAbs+v.1.2.2.2.1.natAbs+1000
def c0b (v:a5g):Option (b9Y⊕b9Z):=a1t (c0a d9d d9e) (c5w v) v
def b5S (v:a5g):Bool:=(c0b v).isSome
def b5T (v:a5g):Bool:=isR (c0b v)
def c3b (v:a5g):b9Y:=xOf ((),()) (c0b v)
def b5U (v:a5g):b9Z:=yOf ((0,()),()) (c0b v)
def g0j (e:KA c5v) (g:GA c5v d2w) (a:a5g->Bool) (h:a5g->b9Y) (b:a5g->Bool) (c:a5g->b9Z) (x:d9f.den):Option (e2U.den):=let d:=((x.1.1,(),(length x.1.1:Int),0,()),());bif a d then bif b d then some (c d)else some ((-1,()),())else none
theorem g0k (a b c d e g x) :a1W (f1G a b c d e g) (a0b Tryz.f210) d9f e2U x=g0j a b c d e g x:=by kernel_rfl
def f5C (x:d9f.den):Option (e2U.den):=g0j d9d d9e b5S c3b b5T b5U x
def f5D (x:d9f.den):Bool:=(f5C x).isSome
def f5E (x:d9f.den):e2U.den:=(f5C x).getD (a1l e2U)
theorem f1H:a0k Tryz.prog (210,a0j false d9f e2U f5D f5E):=a1p (a0v mixed a0x a0w (.cons e2T .nil)) (a1H Tryz.func210 rfl rfl rfl (by kernel_rfl) (a0y (l:=[d2x]) (by kernel_rfl) (.cons (a0o rfl (a0u (sh:=b5P) (shX:=b5Q) (shR:=b5R) (fun f v=>d9g d9d d9e b5S c3b b5T b5U f v) c5w ((),()) ((0,()),()))) (.nil)))) false fun x=>g0k d9d d9e b5S c3b b5T b5U x
abbrev c3c:Sg:=⟨[.val (.slice (.flt .f32)),.fnv 158 []],[]⟩
abbrev d2y:Sg:=⟨[.val (.bool)],[]⟩
noncomputable def g0l (a b c d) :=a0m tab eqs [(210,a0j false d9f e2U a b),(158,a0a c5v d2w c d)] 9 [.tmp 4] [] [] [] [] []
def g0m (a:KI d9f) (b:GI d9f e2U) (c:KA c5v) (d:GA c5v d2w) (x:c3c.den):Option (d2y.den):=bif a ((x.1.1,(),()),()) then some ((decide ((b ((x.1.1,(),()),())).1.1 ≥ 0),()),())else none
theorem g0n (a b c d x) :a1W (g0l a b c d) (a0b Tryz.f157) c3c d2y x=g0m a b c d x:=by kernel_rfl
def f1I (x:c3c.den):Option (d2y.den):=g0m f5D f5E d9d d9e x
def c8f (x:c3c.den):Bool:=(f1I x).isSome
def c8g (x:c3c.den):d2y.den:=(f1I x).getD (a1l d2y)
theorem f1J:a0k Tryz.prog (157,a0j false c3c d2y c8f c8g):=a1p (a0v mixed a0x a0w (.cons f1H (.cons e2T .nil))) (a1H Tryz.func157 rfl rfl rfl (by kernel_rfl) (a0O (by kernel_rfl))) false fun x=>g0n f5D f5E d9d d9e x
abbrev A90:Ty:=.cons (S27) (.nil)
abbrev R90:Ty:=.cons (.bool) (.nil)
abbrev a9L:Type:=((Unit×((List (Den (.flt .f32)))×(Int×(Int×Unit))))×(((List (Den (.flt .f32)))×((List (Den (.int .i64)))×((List (Den (.slice (.flt .f32))))×Unit)))×Unit))
def c5x:ShS:=⟨[(1,.one (.ptr 0 0)),(31,.one (.sl (.flt .f32))),(32,.one (.int .i64)),(33,.one (.int .i64))],[(0,.box [.sl (.flt .f32),.sl (.int .i64),.sl (.slice (.flt .f32))])],1,0⟩
abbrev d2z:Type:=((Unit×Unit)×(((List (Den (.flt .f32)))×((List (Den (.int .i64)))×((List (Den (.slice (.flt .f32))))×Unit)))×Unit))
def c3d:ShS:=⟨[(1,.one (.ptr 0 0))],[(0,.box [.sl (.flt .f32),.sl (.int .i64),.sl (.slice (.flt .f32))])],1,0⟩
abbrev d2A:Type:=((Bool×Unit)×Unit)
def c3e:ShS:=⟨[(2,.one (.bool))],[],0,0⟩
abbrev a5h:Type:=((Unit×((List (Den (.int .i64)))×(Int×(Int×Unit))))×(((List (Den (.flt .f32)))×((List (Den (.int .i64)))×((List (Den (.slice (.flt .f32))))×Unit)))×Unit))
def b5V:ShS:=⟨[(1,.one (.ptr 0 0)),(62,.one (.sl (.int .i64))),(63,.one (.int .i64)),(64,.one (.int .i64))],[(0,.box [.sl (.flt .f32),.sl (.int .i64),.sl (.slice (.flt .f32))])],1,0⟩
abbrev c0c:Type:=((Unit×Unit)×(((List (Den (.flt .f32)))×((List (Den (.int .i64)))×((List (Den (.slice (.flt .f32))))×Unit)))×Unit))
def b5W:ShS:=⟨[(1,.one (.ptr 0 0))],[(0,.box [.sl (.flt .f32),.sl (.int .i64),.sl (.slice (.flt .f32))])],1,0⟩
abbrev c0d:Type:=((Bool×Unit)×Unit)
def b5X:ShS:=⟨[(2,.one (.bool))],[],0,0⟩
abbrev a5i:Type:=((Unit×((List (Den (.slice (.flt .f32))))×(Int×(Int×Unit))))×(((List (Den (.flt .f32)))×((List (Den (.int .i64)))×((List (Den (.slice (.flt .f32))))×Unit)))×Unit))
def b5Y:ShS:=⟨[(1,.one (.ptr 0 0)),(99,.one (.sl (.slice (.flt .f32)))),(100,.one (.int .i64)),(101,.one (.int .i64))],[(0,.box [.sl (.flt .f32),.sl (.int .i64),.sl (.slice (.flt .f32))])],1,0⟩
abbrev c0e:Type:=(Unit×Unit)
def b5Z:ShS:=⟨[],[],0,0⟩
abbrev c0f:Type:=((Bool×Unit)×Unit)
def b6a:ShS:=⟨[(2,.one (.bool))],[],0,0⟩
noncomputable def f5F (l m a b n o p q c d e g h i j k) :=a0m tab eqs [(44,a0a A44 R44 l m),(157,a0j false c3c d2y a b)] 116 [.tmp 2] [] [] [(4,a2d [1,31,32,33] [] 0 [1] [] c5x c3d c3e n p o q),(10,a2d [1,62,63,64] [] 2 [1] [] b5V b5W b5X c e d g),(18,a2d [1,99,100,101] [] 4 [] [] b5Y b5Z b6a h j i k)] [] []
noncomputable def e2V:Code:=(a0p (a0b Tryz.f90)).getD 0 .skip
noncomputable def d2B:Code:=(a0p (a0b Tryz.f90)).getD 1 .skip
noncomputable def d2C:Code:=(a0p (a0b Tryz.f90)).getD 2 .skip
def c0g (d:KA A44) (e:GA A44 R44) (a:KI c3c) (b:GI c3c d2y) (f:a5i->Option (c0e⊕c0f)) (v:a5i):Option (c0e⊕c0f):=bif decide (v.1.2.2.2.1<v.1.2.2.1) then bif decide (0<=v.1.2.2.2.1)&&decide (v.1.2.2.2.1<(length v.1.2.1:Int)) then let c:=getD v.1.2.1 (toNat v.1.2.2.2.1) (zero (Ty.slice (Ty.flt .f32)));bif (length c:Int) != (length v.2.1.2.1:Int) then some (Sum.inr ((false,()),()))else bif a ((c,(),()),()) then bif (b ((c,(),()),())).1.1 then some (Sum.inr ((false,()),()))else f ((((),v.1.2.1,v.1.2.2.1,wrap .i64 (v.1.2.2.2.1+1),()),v.2))else none else none else some (Sum.inl ((),()))
theorem d9h (c d a b n o p q e g h i j k l m f v) :EBk (f5F c d a b n o p q e g h i j k l m) d2C (a0z [1,99,100,101] [] 4 [] [] (atS b5Y f) (a6c b5Z b6a)) (mkS b5Y v)=c0g c d a b f v:=by kernel_rfl
def d2D (v:a5i):Nat:=v.1.2.1.length+v.1.2.2.1.natAbs+v.1.2.2.2.1.natAbs+v.2.1.1.length+v.2.1.2.1.length+v.2.1.2.2.1.length+1000
def c0h (v:a5i):Option (c0e⊕c0f):=a1t (c0g K44 G44 c8f c8g) (d2D v) v
def a8B (v:a5i):Bool:=(c0h v).isSome
def a8C (v:a5i):Bool:=isR (c0h v)
def b1v (v:a5i):c0e:=xOf ((),()) (c0h v)
def a8D (v:a5i):c0f:=yOf ((false,()),()) (c0h v)
def c0i (d:KA A44) (e:GA A44 R44) (b:KI c3c) (c:GI c3c d2y) (f:a5h->Option (c0c⊕c0d)) (v:a5h):Option (c0c⊕c0d):=bif decide (v.1.2.2.2.1<v.1.2.2.1) then bif decide (0<=v.1.2.2.2.1)&&decide (v.1.2.2.2.1<(length v.1.2.1:Int)) then bif decide (v.1.2.2.2.1>0) then let a:=wrap .i64 (v.1.2.2.2.1-1);bif decide (0<=a)&&decide (a<(length v.2.1.2.1:Int)) then bif decide ((getD v.1.2.1 (toNat v.1.2.2.2.1) (zero (Ty.int IntKind.i64)))<=(getD v.2.1.2.1 (toNat a) (zero (Ty.int IntKind.i64)))) then some (Sum.inr ((false,()),()))else f ((((),v.1.2.1,v.1.2.2.1,wrap .i64 (v.1.2.2.2.1+1),()),v.2))else none else f ((((),v.1.2.1,v.1.2.2.1,wrap .i64 (v.1.2.2.2.1+1),()),v.2))else none else some (Sum.inl (((),()),v.2))
theorem d9i (c d a b n o p q e g h i j k l m f v) :EBk (f5F c d a b n o p q e g h i j k l m) d2B (a0z [1,62,63,64] [] 2 [1] [] (atS b5V f) (a6c b5W b5X)) (mkS b5V v)=c0i c d a b f v:=by kernel_rfl
def d2E (v:a5h):Nat:=v.1.2.1.length+v.1.2.2.1.natAbs+v.1.2.2.2.1.natAbs+v.2.1.1.length+v.2.1.2.1.length+v.2.1.2.2.1.length+1000
def c0j (v:a5h):Option (c0c⊕c0d):=a1t (c0i K44 G44 c8f c8g) (d2E v) v
def a8E (v:a5h):Bool:=(c0j v).isSome
def a8F (v:a5h):Bool:=isR (c0j v)
def a8G (v:a5h):c0c:=xOf (((),()),(([],([],([],()))),())) (c0j v)
def a8H (v:a5h):c0d:=yOf ((false,()),()) (c0j v)
def d2F (e:KA A44) (g:GA A44 R44) (c:KI c3c) (d:GI c3c d2y) (f:a9L->Option (d2z⊕d2A)) (v:a9L):Option (d2z⊕d2A):=bif decide (v.1.2.2.2.1<v.1.2.2.1) then bif decide (0<=v.1.2.2.2.1)&&decide (v.1.2.2.2.1<(length v.1.2.1:Int)) then let a:=getD v.1.2.1 (toNat v.1.2.2.2.1) (zero (Ty.flt .f32));bif fgt .f32 a 0 then bif !(flt .f32 a 1120403456||feq .f32 a 1120403456) then some (Sum.inr ((false,()),()))else bif decide (v.1.2.2.2.1>0) then let b:=wrap .i64 (v.1.2.2.2.1-1);bif decide (0<=b)&&decide (b<(length v.2.1.1:Int)) then bif !fgt .f32 a (getD v.2.1.1 (toNat b) (zero (Ty.flt .f32))) then some (Sum.inr ((false,()),()))else f ((((),v.1.2.1,v.1.2.2.1,wrap .i64 (v.1.2.2.2.1+1),()),v.2))else none else f ((((),v.1.2.1,v.1.2.2.1,wrap .i64 (v.1.2.2.2.1+1),()),v.2))else some (Sum.inr ((false,()),()))else none else some (Sum.inl (((),()),v.2))
theorem e6b (c d a b n o p q e g h i j k l m f v) :EBk (f5F c d a b n o p q e g h i j k l m) e2V (a0z [1,31,32,33] [] 0 [1] [] (atS c5x f) (a6c c3d c3e)) (mkS c5x v)=d2F c d a b f v:=by kernel_rfl
def e6c (v:a9L):Nat:=v.1.2.1.length+v.1.2.2.1.natAbs+v.1.2.2.2.1.natAbs+v.2.1.1.length+v.2.1.2.1.length+v.2.1.2.2.1.length+1000
def d2G (v:a9L):Option (d2z⊕d2A):=a1t (d2F K44 G44 c8f c8g) (e6c v) v
def b3h (v:a9L):Bool:=(d2G v).isSome
def b3i (v:a9L):Bool:=isR (d2G v)
def b3j (v:a9L):d2z:=xOf (((),()),(([],([],([],()))),())) (d2G v)
def b3k (v:a9L):d2A:=yOf ((false,()),()) (d2G v)
def r90 (d:KA A44) (e:GA A44 R44) (r:KI c3c) (s:GI c3c d2y) (n:a9L->Bool) (o:a9L->d2z) (p:a9L->Bool) (q:a9L->d2A) (g:a5h->Bool) (h:a5h->c0c) (i:a5h->Bool) (j:a5h->c0d) (k:a5i->Bool) (t:a5i->c0e) (l:a5i->Bool) (m:a5i->c0f) (x:Den A90):OD R90:=bif d ((length x.1.1:Int),1,12,()) then bif !(e ((length x.1.1:Int),1,12,())).1 then some (false,())else bif d ((length x.1.2.1:Int),2,24,()) then bif !(e ((length x.1.2.1:Int),2,24,())).1 then some (false,())else bif (length x.1.2.2.1:Int) != (length x.1.1:Int) then some (false,())else bif n (((),x.1.1,(length x.1.1:Int),0,()),x) then bif p (((),x.1.1,(length x.1.1:Int),0,()),x) then some (q (((),x.1.1,(length x.1.1:Int),0,()),x)).1 else let b:=o (((),x.1.1,(length x.1.1:Int),0,()),x);bif g (((),b.2.1.2.1,(length b.2.1.2.1:Int),0,()),b.2) then bif i (((),b.2.1.2.1,(length b.2.1.2.1:Int),0,()),b.2) then some (j (((),b.2.1.2.1,(length b.2.1.2.1:Int),0,()),b.2)).1 else let a:=h (((),b.2.1.2.1,(length b.2.1.2.1:Int),0,()),b.2);bif decide (0<=0)&&decide (0<(length a.2.1.2.1:Int)) then bif (getD a.2.1.2.1 (toNat 0) (zero (Ty.int IntKind.i64))) != 0 then some (false,())else let c:=wrap .i64 ((length a.2.1.2.1:Int)-1);bif decide (0<=c)&&decide (c<(length a.2.1.2.1:Int)) then bif (getD a.2.1.2.1 (toNat c) (zero (Ty.int IntKind.i64))) != 180 then some (false,())else bif k (((),a.2.1.2.2.1,(length a.2.1.2.2.1:Int),0,()),a.2) then bif l (((),a.2.1.2.2.1,(length a.2.1.2.2.1:Int),0,()),a.2) then some (m (((),a.2.1.2.2.1,(length a.2.1.2.2.1:Int),0,()),a.2)).1 else some (true,())else none else none else none else none else none else none else none
theorem g6f (l m a b n o p q c d e g h i j k x) :a0t (f5F l m a b n o p q c d e g h i j k) (a0b Tryz.f90) (a1a R90) (a0M A90 x) []=r90 l m a b n o p q c d e g h i j k x:=by kernel_rfl
def F90 (x:Den A90):OD R90:=r90 K44 G44 c8f c8g b3h b3j b3i b3k a8E a8G a8F a8H a8B b1v a8C a8D x
def K90 (x:Den A90):Bool:=(F90 x).isSome
def G90 (x:Den A90):Den R90:=(F90 x).getD (zero R90)
theorem f1K:a0k Tryz.prog (90,a0a A90 R90 K90 G90):=a1d (a0v mixed a0x a0w (.cons a7a (.cons f1J .nil))) (a1H Tryz.func90 rfl rfl rfl (by kernel_rfl) (a0y (l:=[e2V,d2B,d2C]) (by kernel_rfl) (.cons (a0o rfl (a0u (sh:=c5x) (shX:=c3d) (shR:=c3e) (fun f v=>e6b K44 G44 c8f c8g b3h b3j b3i b3k a8E a8G a8F a8H a8B b1v a8C a8D f v) e6c (((),()),(([],([],([],()))),())) ((false,()),()))) (.cons (a0o rfl (a0u (sh:=b5V) (shX:=b5W) (shR:=b5X) (fun f v=>d9i K44 G44 c8f c8g b3h b3j b3i b3k a8E a8G a8F a8H a8B b1v a8C a8D f v) d2E (((),()),(([],([],([],()))),())) ((false,()),()))) (.cons (a0o rfl (a0u (sh:=b5Y) (shX:=b5Z) (shR:=b6a) (fun f v=>d9h K44 G44 c8f c8g b3h b3j b3i b3k a8E a8G a8F a8H a8B b1v a8C a8D f v) d2D ((),()) ((false,()),()))) (.nil)))))) fun x=>g6f K44 G44 c8f c8g b3h b3j b3i b3k a8E a8G a8F a8H a8B b1v a8C a8D x
abbrev A94:Ty:=.cons (.flt .f32) (.nil)
abbrev R94:Ty:=.cons (.flt .f32) (.nil)
noncomputable def g6g:Env:=a0m tab eqs [] 8 [.tmp 2] [] [] [] [] []
def r94 (x:Den A94):OD R94:=bif flt .f32 x.1 0 then some (a3G .f32 x.1,())else some (x)
theorem g6h (x) :a0t (g6g) (a0b Tryz.f94) (a1a R94) (a0M A94 x) []=r94 x:=by kernel_rfl
def F94 (x:Den A94):OD R94:=r94 x
def K94 (x:Den A94):Bool:=(F94 x).isSome
def G94 (x:Den A94):Den R94:=(F94 x).getD (zero R94)
theorem g0o:a0k Tryz.prog (94,a0a A94 R94 K94 G94):=fnO .nil Tryz.func94 g6h
abbrev A45:Ty:=.cons (.cpx .f32) (.nil)
abbrev R45:Ty:=.cons (.bool) (.nil)
noncomputable def g6i (a b) :=a0m tab eqs [(94,a0a A94 R94 a b)] 13 [.tmp 2] [] [] [] [] []
def r45 (a:KA A94) (b:GA A94 R94) (x:Den A45):OD R45:=bif a (x.1.1,()) then let c:=b (x.1.1,());bif flt .f32 c.1 1120403456||feq .f32 c.1 1120403456 then bif a (x.1.2,()) then let d:=b (x.1.2,());some (flt .f32 d.1 1120403456||feq .f32 d.1 1120403456,())else none else some (false,())else none
theorem g6j (a b x) :a0t (g6i a b) (a0b Tryz.f45) (a1a R45) (a0M A45 x) []=r45 a b x:=by kernel_rfl
def F45 (x:Den A45):OD R45:=r45 K94 G94 x
def K45 (x:Den A45):Bool:=(F45 x).isSome
def G45 (x:Den A45):Den R45:=(F45 x).getD (zero R45)
theorem b6b:a0k Tryz.prog (45,a0a A45 R45 K45 G45):=fnO (.cons g0o .nil) Tryz.func45 (g6j K94 G94)
abbrev c2e:Ty:=.cons (.slice (.cpx .f32)) (.nil)
abbrev c9E:Ty:=.cons (.bool) (.nil)
abbrev a5j:Type:=(((List (Den (.cpx .f32)))×(Int×(Int×Unit)))×Unit)
def b6c:ShS:=⟨[(5,.one (.sl (.cpx .f32))),(6,.one (.int .i64)),(7,.one (.int .i64))],[],0,0⟩
abbrev c0k:Type:=(Unit×Unit)
def b6d:ShS:=⟨[],[],0,0⟩
abbrev c0l:Type:=((Bool×Unit)×Unit)
def b6e:ShS:=⟨[(2,.one (.bool))],[],0,0⟩
noncomputable def f1L (a b c d e g) :=a0m tab eqs [(45,a0a A45 R45 a b)] 15 [.tmp 2] [] [] [(2,a2d [5,6,7] [] 0 [] [] b6c b6d b6e c e d g)] [] []
noncomputable def d2H:Code:=(a0p (a0b Tryz.f159)).getD 0 .skip
def c0m (a:KA A45) (b:GA A45 R45) (f:a5j->Option (c0k⊕c0l)) (v:a5j):Option (c0k⊕c0l):=bif decide (v.1.2.2.1<v.1.2.1) then bif decide (0<=v.1.2.2.1)&&decide (v.1.2.2.1<(length v.1.1:Int)) then let c:=getD v.1.1 (toNat v.1.2.2.1) (zero (Ty.cpx FloatKind.f32));bif a (c,()) then bif !(b (c,())).1 then some (Sum.inr ((false,()),()))else f (((v.1.1,v.1.2.1,wrap .i64 (v.1.2.2.1+1),()),()))else none else none else some (Sum.inl ((),()))
theorem d9j (a b c d e g f v) :EBk (f1L a b c d e g) d2H (a0z [5,6,7] [] 0 [] [] (atS b6c f) (a6c b6d b6e)) (mkS b6c v)=c0m a b f v:=by kernel_rfl
def d2I (v:a5j):Nat:=v.1.1.length+v.1.2.1.natAbs+v.1.2.2.1.natAbs+1000
def c0n (v:a5j):Option (c0k⊕c0l):=a1t (c0m K45 G45) (d2I v) v
def b6f (v:a5j):Bool:=(c0n v).isSome
def b6g (v:a5j):Bool:=isR (c0n v)
def c3f (v:a5j):c0k:=xOf ((),()) (c0n v)
def b6h (v:a5j):c0l:=yOf ((false,()),()) (c0n v)
def g0p (e:KA A45) (g:GA A45 R45) (a:a5j->Bool) (h:a5j->c0k) (b:a5j->Bool) (c:a5j->c0l) (x:Den c2e):OD c9E:=let d:=((x.1,(length x.1:Int),0,()),());bif a d then bif b d then some (c d).1 else some (true,())else none
theorem g0q (a b c d e g x) :a0t (f1L a b c d e g) (a0b Tryz.f159) (a1a c9E) (a0M c2e x) []=g0p a b c d e g x:=by kernel_rfl
def e9a (x:Den c2e):OD c9E:=g0p K45 G45 b6f c3f b6g b6h x
def c8h (x:Den c2e):Bool:=(e9a x).isSome
def c8i (x:Den c2e):Den c9E:=(e9a x).getD (zero c9E)
theorem e2W:a0k Tryz.prog (159,a0a c2e c9E c8h c8i):=a1d (a0v mixed a0x a0w (.cons b6b .nil)) (a1H Tryz.func159 rfl rfl rfl (by kernel_rfl) (a0y (l:=[d2H]) (by kernel_rfl) (.cons (a0o rfl (a0u (sh:=b6c) (shX:=b6d) (shR:=b6e) (fun f v=>d9j K45 G45 b6f c3f b6g b6h f v) d2I ((),()) ((false,()),()))) (.nil)))) fun x=>g0q K45 G45 b6f c3f b6g b6h x
abbrev A61:Ty:=.cons (.cpx .f64) (.nil)
abbrev R61:Ty:=.cons (.bool) (.nil)
noncomputable def g6k (a b) :=a0m tab eqs [(119,a0a e1K e8P a b)] 13 [.tmp 2] [] [] [] [] []
def r61 (a:KA e1K) (b:GA e1K e8P) (x:Den A61):OD R61:=bif a (x.1.1,()) then let c:=b (x.1.1,());bif flt .f64 c.1 4726483295884279808||feq .f64 c.1 4726483295884279808 then bif a (x.1.2,()) then let d:=b (x.1.2,());some (flt .f64 d.1 4726483295884279808||feq .f64 d.1 4726483295884279808,())else none else some (false,())else none
theorem g6l (a b x) :a0t (g6k a b) (a0b Tryz.f61) (a1a R61) (a0M A61 x) []=r61 a b x:=by kernel_rfl
def F61 (x:Den A61):OD R61:=r61 f4C f4D x
def K61 (x:Den A61):Bool:=(F61 x).isSome
def G61 (x:Den A61):Den R61:=(F61 x).getD (zero R61)
theorem c3g:a0k Tryz.prog (61,a0a A61 R61 K61 G61):=fnO (.cons e9R .nil) Tryz.func61 (g6l f4C f4D)
abbrev A63:Ty:=.cons (S33) (.nil)
abbrev R63:Ty:=.cons (.bool) (.nil)
noncomputable def g6m (a b) :=a0m tab eqs [(44,a0a A44 R44 a b)] 11 [.tmp 2] [] [] [] [] []
def r63 (a:KA A44) (b:GA A44 R44) (x:Den A63):OD R63:=bif a (x.1.1,-10000,10000,()) then bif (b (x.1.1,-10000,10000,())).1 then bif a (x.1.2.1,-10000,10000,()) then some (b (x.1.2.1,-10000,10000,()))else none else some (false,())else none
theorem g6n (a b x) :a0t (g6m a b) (a0b Tryz.f63) (a1a R63) (a0M A63 x) []=r63 a b x:=by kernel_rfl
def F63 (x:Den A63):OD R63:=r63 K44 G44 x
def K63 (x:Den A63):Bool:=(F63 x).isSome
def G63 (x:Den A63):Den R63:=(F63 x).getD (zero R63)
theorem d9k:a0k Tryz.prog (63,a0a A63 R63 K63 G63):=fnO (.cons a7a .nil) Tryz.func63 (g6n K44 G44)
abbrev A23:Ty:=.cons (.cpx .f64) (.nil)
abbrev R23:Ty:=.cons (S33) (.cons (.bool) (.nil))
noncomputable def g6o (a b c d e g) :=a0m tab eqs [(61,a0a A61 R61 a b),(62,a0a A62 R62 c d),(63,a0a A63 R63 e g)] 23 [.cell 2 34,.tmp 3] [] [] [] [] []
def r23 (c:KA A61) (d:GA A61 R61) (a:KA A62) (b:GA A62 R62) (e:KA A63) (g:GA A63 R63) (x:Den A23):OD R23:=bif c x then bif !(d x).1 then some ((0,0,()),false,())else bif a (x.1.1,()) then let j:=b (x.1.1,());bif a7f .f64 j.1 IntKind.i64 then bif a (x.1.2,()) then let k:=b (x.1.2,());bif a7f .f64 k.1 IntKind.i64 then let h:=f2i .f64 j.1;let i:=f2i .f64 k.1;bif e ((h,i,()),()) then bif !(g ((h,i,()),())).1 then some ((0,0,()),false,())else some ((h,i,()),true,())else none else none else none else none else none else none
theorem g6p (a b c d e g x) :a0t (g6o a b c d e g) (a0b Tryz.f23) (a1a R23) (a0M A23 x) []=r23 a b c d e g x:=by kernel_rfl
def F23 (x:Den A23):OD R23:=r23 K61 G61 K62 G62 K63 G63 x
def K23 (x:Den A23):Bool:=(F23 x).isSome
def G23 (x:Den A23):Den R23:=(F23 x).getD (zero R23)
theorem f1M:a0k Tryz.prog (23,a0a A23 R23 K23 G23):=fnO (.cons c3g (.cons f7D (.cons d9k .nil))) Tryz.func23 (g6p K61 G61 K62 G62 K63 G63)
abbrev A43:Ty:=.cons (.int .i64) (.nil)
abbrev R43:Ty:=.cons (.bool) (.nil)
noncomputable def g6q (a b) :=a0m tab eqs [(44,a0a A44 R44 a b)] 5 [.tmp 2] [] [] [] [] []
def r43 (a:KA A44) (b:GA A44 R44) (x:Den A43):OD R43:=bif a (x.1,0,10000000,()) then some (b (x.1,0,10000000,()))else none
theorem g6r (a b x) :a0t (g6q a b) (a0b Tryz.f43) (a1a R43) (a0M A43 x) []=r43 a b x:=by kernel_rfl
def F43 (x:Den A43):OD R43:=r43 K44 G44 x
def K43 (x:Den A43):Bool:=(F43 x).isSome
def G43 (x:Den A43):Den R43:=(F43 x).getD (zero R43)
theorem d9l:a0k Tryz.prog (43,a0a A43 R43 K43 G43):=fnO (.cons a7a .nil) Tryz.func43 (g6r K44 G44)
abbrev A91:Ty:=.cons (S30) (.nil)
abbrev R91:Ty:=.cons (.bool) (.nil)
abbrev a9M:Type:=((Unit×((List (Den (a0Y)))×(Int×(Int×Unit))))×(((List (Den (a0Y)))×((List (Den (.int .i64)))×Unit))×Unit))
def c5y:ShS:=⟨[(1,.one (.ptr 0 0)),(20,.one (.sl (a0Y))),(21,.one (.int .i64)),(22,.one (.int .i64))],[(0,.box [.sl (a0Y),.sl (.int .i64)])],1,0⟩
abbrev d2J:Type:=((Unit×Unit)×(((List (Den (a0Y)))×((List (Den (.int .i64)))×Unit))×Unit))
def c3h:ShS:=⟨[(1,.one (.ptr 0 0))],[(0,.box [.sl (a0Y),.sl (.int .i64)])],1,0⟩
abbrev d2K:Type:=((Bool×Unit)×Unit)
def c3i:ShS:=⟨[(2,.one (.bool))],[],0,0⟩
abbrev a5k:Type:=((Unit×((List (Den (.int .i64)))×(Int×(Int×Unit))))×(((List (Den (a0Y)))×((List (Den (.int .i64)))×Unit))×Unit))
def b6i:ShS:=⟨[(1,.one (.ptr 0 0)),(38,.one (.sl (.int .i64))),(39,.one (.int .i64)),(40,.one (.int .i64))],[(0,.box [.sl (a0Y),.sl (.int .i64)])],1,0⟩
abbrev c0o:Type:=(Unit×Unit)
def b6j:ShS:=⟨[],[],0,0⟩
abbrev c0p:Type:=((Bool×Unit)×Unit)
def b6k:ShS:=⟨[(2,.one (.bool))],[],0,0⟩
noncomputable def g0r (h i j k a b l m n o p q c d e g) :=a0m tab eqs [(44,a0a A44 R44 h i),(61,a0a A61 R61 j k),(159,a0a c2e c9E a b),(43,a0a A43 R43 l m)] 64 [.tmp 2] [] [] [(4,a2d [1,20,21,22] [] 0 [1] [] c5y c3h c3i n p o q),(10,a2d [1,38,39,40] [] 2 [] [] b6i b6j b6k c e d g)] [] []
noncomputable def e2X:Code:=(a0p (a0b Tryz.f91)).getD 0 .skip
noncomputable def d2L:Code:=(a0p (a0b Tryz.f91)).getD 1 .skip
def c0q (h:KA A44) (i:GA A44 R44) (j:KA A61) (k:GA A61 R61) (e:KA c2e) (g:GA c2e c9E) (a:KA A43) (b:GA A43 R43) (f:a5k->Option (c0o⊕c0p)) (v:a5k):Option (c0o⊕c0p):=bif decide (v.1.2.2.2.1<v.1.2.2.1) then bif decide (0<=v.1.2.2.2.1)&&decide (v.1.2.2.2.1<(length v.1.2.1:Int)) then let c:=getD v.1.2.1 (toNat v.1.2.2.2.1) (zero (Ty.int IntKind.i64));bif a (c,()) then bif !(b (c,())).1 then some (Sum.inr ((false,()),()))else bif decide (v.1.2.2.2.1>0) then let d:=wrap .i64 (v.1.2.2.2.1-1);bif decide (0<=d)&&decide (d<(length v.2.1.2.1:Int)) then bif decide (c<(wrap .i64 ((getD v.2.1.2.1 (toNat d) (zero (Ty.int IntKind.i64)))+21600))) then some (Sum.inr ((false,()),()))else f ((((),v.1.2.1,v.1.2.2.1,wrap .i64 (v.1.2.2.2.1+1),()),v.2))else none else f ((((),v.1.2.1,v.1.2.2.1,wrap .i64 (v.1.2.2.2.1+1),()),v.2))else none else none else some (Sum.inl ((),()))
theorem d9m (c d e g a b h i n o p q j k l m f v) :EBk (g0r c d e g a b h i n o p q j k l m) d2L (a0z [1,38,39,40] [] 2 [] [] (atS b6i f) (a6c b6j b6k)) (mkS b6i v)=c0q c d e g a b h i f v:=by kernel_rfl
def d2M (v:a5k):Nat:=v.1.2.1.length+v.1.2.2.1.natAbs+v.1.2.2.2.1.natAbs+v.2.1.1.length+v.2.1.2.1.length+1000
def c0r (v:a5k):Option (c0o⊕c0p):=a1t (c0q K44 G44 K61 G61 c8h c8i K43 G43) (d2M v) v
def b1w (v:a5k):Bool:=(c0r v).isSome
def b1x (v:a5k):Bool:=isR (c0r v)
def b6l (v:a5k):c0o:=xOf ((),()) (c0r v)
def b1y (v:a5k):c0p:=yOf ((false,()),()) (c0r v)
def d2N (g:KA A44) (h:GA A44 R44) (d:KA A61) (e:GA A61 R61) (b:KA c2e) (c:GA c2e c9E) (i:KA A43) (j:GA A43 R43) (f:a9M->Option (d2J⊕d2K)) (v:a9M):Option (d2J⊕d2K):=bif decide (v.1.2.2.2.1<v.1.2.2.1) then bif decide (0<=v.1.2.2.2.1)&&decide (v.1.2.2.2.1<(length v.1.2.1:Int)) then let a:=getD v.1.2.1 (toNat v.1.2.2.2.1) (zero a0Y);bif d (a.1,()) then bif !(e (a.1,())).1 then some (Sum.inr ((false,()),()))else bif b ([a.2.1.1,a.2.1.2.1,a.2.1.2.2.1,a.2.1.2.2.2.1,a.2.1.2.2.2.2.1,a.2.1.2.2.2.2.2.1,a.2.1.2.2.2.2.2.2.1,a.2.1.2.2.2.2.2.2.2.1,a.2.1.2.2.2.2.2.2.2.2.1,a.2.1.2.2.2.2.2.2.2.2.2.1,a.2.1.2.2.2.2.2.2.2.2.2.2.1,a.2.1.2.2.2.2.2.2.2.2.2.2.2.1,a.2.1.2.2.2.2.2.2.2.2.2.2.2.2.1],()) then bif !(c ([a.2.1.1,a.2.1.2.1,a.2.1.2.2.1,a.2.1.2.2.2.1,a.2.1.2.2.2.2.1,a.2.1.2.2.2.2.2.1,a.2.1.2.2.2.2.2.2.1,a.2.1.2.2.2.2.2.2.2.1,a.2.1.2.2.2.2.2.2.2.2.1,a.2.1.2.2.2.2.2.2.2.2.2.1,a.2.1.2.2.2.2.2.2.2.2.2.2.1,a.2.1.2.2.2.2.2.2.2.2.2.2.2.1,a.2.1.2.2.2.2.2.2.2.2.2.2.2.2.1],())).1 then some (Sum.inr ((false,()),()))else f ((((),v.1.2.1,v.1.2.2.1,wrap .i64 (v.1.2.2.2.1+1),()),v.2))else none else none else none else some (Sum.inl (((),()),v.2))
theorem e6d (c d e g a b h i n o p q j k l m f v) :EBk (g0r c d e g a b h i n o p q j k l m) e2X (a0z [1,20,21,22] [] 0 [1] [] (atS c5y f) (a6c c3h c3i)) (mkS c5y v)=d2N c d e g a b h i f v:=by kernel_rfl
def e6e (v:a9M):Nat:=v.1.2.1.length+v.1.2.2.1.natAbs+v.1.2.2.2.1.natAbs+v.2.1.1.length+v.2.1.2.1.length+1000
def d2O (v:a9M):Option (d2J⊕d2K):=a1t (d2N K44 G44 K61 G61 c8h c8i K43 G43) (e6e v) v
def c0s (v:a9M):Bool:=(d2O v).isSome
def c0t (v:a9M):Bool:=isR (d2O v)
def c0u (v:a9M):d2J:=xOf (((),()),(([],([],())),())) (d2O v)
def c0v (v:a9M):d2K:=yOf ((false,()),()) (d2O v)
def r91 (a:KA A44) (b:GA A44 R44) (s:KA A61) (t:GA A61 R61) (o:KA c2e) (p:GA c2e c9E) (u:KA A43) (w:GA A43 R43) (h:a9M->Bool) (i:a9M->d2J) (j:a9M->Bool) (k:a9M->d2K) (c:a5k->Bool) (q:a5k->c0o) (d:a5k->Bool) (e:a5k->c0p) (x:Den A91):OD R91:=let l:=(length x.1.1:Int);bif a (l,1,20,()) then bif !(b (l,1,20,())).1 then some (false,())else let r:=((length x.1.2.1:Int),1,60,());bif a r then bif !(b r).1 then some (false,())else let g:=(((),x.1.1,l,0,()),x);bif h g then bif j g then some (k g).1 else let m:=i g;let n:=(((),m.2.1.2.1,(length m.2.1.2.1:Int),0,()),m.2);bif c n then bif d n then some (e n).1 else some (true,())else none else none else none else none
theorem g6s (h i j k a b l m n o p q c d e g x) :a0t (g0r h i j k a b l m n o p q c d e g) (a0b Tryz.f91) (a1a R91) (a0M A91 x) []=r91 h i j k a b l m n o p q c d e g x:=by kernel_rfl
def F91 (x:Den A91):OD R91:=r91 K44 G44 K61 G61 c8h c8i K43 G43 c0s c0u c0t c0v b1w b6l b1x b1y x
def K91 (x:Den A91):Bool:=(F91 x).isSome
def G91 (x:Den A91):Den R91:=(F91 x).getD (zero R91)
theorem e6f:a0k Tryz.prog (91,a0a A91 R91 K91 G91):=a1d (a0v mixed a0x a0w (.cons a7a (.cons c3g (.cons e2W (.cons d9l .nil))))) (a1H Tryz.func91 rfl rfl rfl (by kernel_rfl) (a0y (l:=[e2X,d2L]) (by kernel_rfl) (.cons (a0o rfl (a0u (sh:=c5y) (shX:=c3h) (shR:=c3i) (fun f v=>e6d K44 G44 K61 G61 c8h c8i K43 G43 c0s c0u c0t c0v b1w b6l b1x b1y f v) e6e (((),()),(([],([],())),())) ((false,()),()))) (.cons (a0o rfl (a0u (sh:=b6i) (shX:=b6j) (shR:=b6k) (fun f v=>d9m K44 G44 K61 G61 c8h c8i K43 G43 c0s c0u c0t c0v b1w b6l b1x b1y f v) d2M ((),()) ((false,()),()))) (.nil))))) fun x=>g6s K44 G44 K61 G61 c8h c8i K43 G43 c0s c0u c0t c0v b1w b6l b1x b1y x
abbrev d2P:Ty:=.cons (.str) (.nil)
abbrev d9n:Ty:=.cons (.bool) (.nil)
abbrev a5l:Type:=((ByteArray×(Int×Unit))×Unit)
def b6m:ShS:=⟨[(0,.one (.str)),(3,.one (.int .i64))],[],0,0⟩
abbrev c0w:Type:=((ByteArray×Unit)×Unit)
def b6n:ShS:=⟨[(0,.one (.str))],[],0,0⟩
abbrev c0x:Type:=((Bool×Unit)×Unit)
def b6o:ShS:=⟨[(2,.one (.bool))],[],0,0⟩
noncomputable def f1N (a b c d e g) :=a0m tab eqs [(44,a0a A44 R44 a b)] 27 [.tmp 2] [] [] [(2,a2d [0,3] [] 0 [0] [] b6m b6n b6o c e d g)] [] []
noncomputable def d2Q:Code:=(a0p (a0b Tryz.f160)).getD 0 .skip
def c0y (c:KA A44) (d:GA A44 R44) (f:a5l->Option (c0w⊕c0x)) (v:a5l):Option (c0w⊕c0x):=let a:=v.1.2.1<(ByteArray.size v.1.1:Int);bif decide a then let b:=decide (0<=v.1.2.1)&&decide a;bif b then bif decide (a1z v.1.1 v.1.2.1<97) then some (Sum.inr ((false,()),()))else bif b then bif decide (a1z v.1.1 v.1.2.1>122) then some (Sum.inr ((false,()),()))else f (((v.1.1,wrap .i64 (v.1.2.1+1),()),()))else none else none else some (Sum.inl ((v.1.1,()),()))
theorem d9o (a b c d e g f v) :EBk (f1N a b c d e g) d2Q (a0z [0,3] [] 0 [0] [] (atS b6m f) (a6c b6n b6o)) (mkS b6m v)=c0y a b f v:=by kernel_rfl
def d2R (v:a5l):Nat:=v.1.1.size+v.1.2.1.natAbs+1000
def c0z (v:a5l):Option (c0w⊕c0x):=a1t (c0y K44 G44) (d2R v) v
def b6p (v:a5l):Bool:=(c0z v).isSome
def b6q (v:a5l):Bool:=isR (c0z v)
def b6r (v:a5l):c0w:=xOf ((ByteArray.empty,()),()) (c0z v)
def b6s (v:a5l):c0x:=yOf ((false,()),()) (c0z v)
def g0s (a:KA A44) (b:GA A44 R44) (c:a5l->Bool) (d:a5l->c0w) (e:a5l->Bool) (g:a5l->c0x) (x:Den d2P):OD d9n:=bif c ((x.1,0,()),()) then bif e ((x.1,0,()),()) then some (g ((x.1,0,()),())).1 else let h:=d ((x.1,0,()),());let i:=((ByteArray.size h.1.1:Int),1,16,());bif a i then bif (b i).1 then some (!a2F h.1.1 { data:=#[110,111,110,101] },())else some (false,())else none else none
theorem g0t (a b c d e g x) :a0t (f1N a b c d e g) (a0b Tryz.f160) (a1a d9n) (a0M d2P x) []=g0s a b c d e g x:=by kernel_rfl
def f5G (x:Den d2P):OD d9n:=g0s K44 G44 b6p b6r b6q b6s x
def e6g (x:Den d2P):Bool:=(f5G x).isSome
def e6h (x:Den d2P):Den d9n:=(f5G x).getD (zero d9n)
theorem f1O:a0k Tryz.prog (160,a0a d2P d9n e6g e6h):=a1d (a0v mixed a0x a0w (.cons a7a .nil)) (a1H Tryz.func160 rfl rfl rfl (by kernel_rfl) (a0y (l:=[d2Q]) (by kernel_rfl) (.cons (a0o rfl (a0u (sh:=b6m) (shX:=b6n) (shR:=b6o) (fun f v=>d9o K44 G44 b6p b6r b6q b6s f v) d2R ((ByteArray.empty,()),()) ((false,()),()))) (.nil)))) fun x=>g0t K44 G44 b6p b6r b6q b6s x
abbrev b8k:Ty:=.cons (.slice (S68)) (.cons (.str) (.nil))
abbrev c8j:Ty:=.cons (.int .i64) (.nil)
abbrev a5m:Type:=((ByteArray×((List (Den (S68)))×(Int×(Int×Unit))))×Unit)
def b6t:ShS:=⟨[(1,.one (.str)),(7,.one (.sl (S68))),(8,.one (.int .i64)),(9,.one (.int .i64))],[],0,0⟩
abbrev c0A:Type:=(Unit×Unit)
def b6u:ShS:=⟨[],[],0,0⟩
abbrev c0B:Type:=((Int×Unit)×Unit)
def b6v:ShS:=⟨[(4,.one (.int .i64))],[],0,0⟩
noncomputable def f1P (a b c d) :=a0m tab eqs [] 20 [.tmp 4] [] [] [(2,a2d [1,7,8,9] [] 0 [] [] b6t b6u b6v a c b d)] [] []
noncomputable def d2S:Code:=(a0p (a0b Tryz.f134)).getD 0 .skip
def c0C (f:a5m->Option (c0A⊕c0B)) (v:a5m):Option (c0A⊕c0B):=bif decide (v.1.2.2.2.1<v.1.2.2.1) then bif decide (0<=v.1.2.2.2.1)&&decide (v.1.2.2.2.1<(length v.1.2.1:Int)) then bif a2F (getD v.1.2.1 (toNat v.1.2.2.2.1) (zero S68)).1 v.1.1 then some (Sum.inr (v.1.2.2.2,()))else f (((v.1.1,v.1.2.1,v.1.2.2.1,wrap .i64 (v.1.2.2.2.1+1),()),()))else none else some (Sum.inl ((),()))
theorem d9p (a b c d f v) :EBk (f1P a b c d) d2S (a0z [1,7,8,9] [] 0 [] [] (atS b6t f) (a6c b6u b6v)) (mkS b6t v)=c0C f v:=by kernel_rfl
def d2T (v:a5m):Nat:=v.1.1.size+v.1.2.1.length+v.1.2.2.1.natAbs+v.1.2.2.2.1.natAbs+1000
def c0D (v:a5m):Option (c0A⊕c0B):=a1t (c0C) (d2T v) v
def b6w (v:a5m):Bool:=(c0D v).isSome
def b6x (v:a5m):Bool:=isR (c0D v)
def c3j (v:a5m):c0A:=xOf ((),()) (c0D v)
def b6y (v:a5m):c0B:=yOf ((0,()),()) (c0D v)
def g0u (a:a5m->Bool) (e:a5m->c0A) (b:a5m->Bool) (c:a5m->c0B) (x:Den b8k):OD c8j:=let d:=((x.2.1,x.1,(length x.1:Int),0,()),());bif a d then bif b d then some (c d).1 else some (-1,())else none
theorem g0v (a b c d x) :a0t (f1P a b c d) (a0b Tryz.f134) (a1a c8j) (a0M b8k x) []=g0u a b c d x:=by kernel_rfl
def f1Q (x:Den b8k):OD c8j:=g0u b6w c3j b6x b6y x
def c9F (x:Den b8k):Bool:=(f1Q x).isSome
def c9G (x:Den b8k):Den c8j:=(f1Q x).getD (zero c8j)
theorem e2Y:a0k Tryz.prog (134,a0a b8k c8j c9F c9G):=a1d (a0v mixed a0x a0w .nil) (a1H Tryz.func134 rfl rfl rfl (by kernel_rfl) (a0y (l:=[d2S]) (by kernel_rfl) (.cons (a0o rfl (a0u (sh:=b6t) (shX:=b6u) (shR:=b6v) (fun f v=>d9p b6w c3j b6x b6y f v) d2T ((),()) ((0,()),()))) (.nil)))) fun x=>g0v b6w c3j b6x b6y x
abbrev A92:Ty:=.cons (.slice (S68)) (.nil)
abbrev R92:Ty:=.cons (.bool) (.nil)
abbrev a9N:Type:=(((List (Den (S68)))×((List (Den (S68)))×(Int×(Int×Unit))))×Unit)
def c5z:ShS:=⟨[(0,.one (.sl (S68))),(8,.one (.sl (S68))),(9,.one (.int .i64)),(10,.one (.int .i64))],[],0,0⟩
abbrev d2U:Type:=(Unit×Unit)
def c3k:ShS:=⟨[],[],0,0⟩
abbrev d2V:Type:=((Bool×Unit)×Unit)
def c3l:ShS:=⟨[(2,.one (.bool))],[],0,0⟩
noncomputable def g4x (a b c d e g h i j k) :=a0m tab eqs [(160,a0a d2P d9n a b),(134,a0a b8k c8j c d),(44,a0a A44 R44 e g)] 61 [.tmp 2] [] [] [(4,a2d [0,8,9,10] [] 0 [] [] c5z c3k c3l h j i k)] [] []
noncomputable def e2Z:Code:=(a0p (a0b Tryz.f92)).getD 0 .skip
def d2W (b:KA d2P) (c:GA d2P d9n) (d:KA b8k) (e:GA b8k c8j) (g:KA A44) (h:GA A44 R44) (f:a9N->Option (d2U⊕d2V)) (v:a9N):Option (d2U⊕d2V):=bif decide (v.1.2.2.2.1<v.1.2.2.1) then bif decide (0<=v.1.2.2.2.1)&&decide (v.1.2.2.2.1<(length v.1.2.1:Int)) then let a:=getD v.1.2.1 (toNat v.1.2.2.2.1) (zero S68);bif b (a.1,()) then bif !(c (a.1,())).1 then some (Sum.inr ((false,()),()))else bif d (v.1.1,a.1,()) then bif (e (v.1.1,a.1,())).1 != v.1.2.2.2.1 then some (Sum.inr ((false,()),()))else bif !(fgt .f32 a.2.1 0||feq .f32 a.2.1 0) then some (Sum.inr ((false,()),()))else bif fgt .f32 a.2.2.1 a.2.1 then bif !(flt .f32 a.2.2.1 1128792064||feq .f32 a.2.2.1 1128792064) then some (Sum.inr ((false,()),()))else bif g (a.2.2.2.1,0,180,()) then bif !(h (a.2.2.2.1,0,180,())).1 then some (Sum.inr ((false,()),()))else bif g (a.2.2.2.2.1,a.2.2.2.1,180,()) then bif !(h (a.2.2.2.2.1,a.2.2.2.1,180,())).1 then some (Sum.inr ((false,()),()))else f (((v.1.1,v.1.2.1,v.1.2.2.1,wrap .i64 (v.1.2.2.2.1+1),()),()))else none else none else some (Sum.inr ((false,()),()))else none else none else none else some (Sum.inl ((),()))
theorem e6i (a b c d e g h i j k f v) :EBk (g4x a b c d e g h i j k) e2Z (a0z [0,8,9,10] [] 0 [] [] (atS c5z f) (a6c c3k c3l)) (mkS c5z v)=d2W a b c d e g f v:=by kernel_rfl
def e6j (v:a9N):Nat:=v.1.1.length+v.1.2.1.length+v.1.2.2.1.natAbs+v.1.2.2.2.1.natAbs+1000
def d2X (v:a9N):Option (d2U⊕d2V):=a1t (d2W e6g e6h c9F c9G K44 G44) (e6j v) v
def c5A (v:a9N):Bool:=(d2X v).isSome
def c5B (v:a9N):Bool:=isR (d2X v)
def d2Y (v:a9N):d2U:=xOf ((),()) (d2X v)
def c5C (v:a9N):d2V:=yOf ((false,()),()) (d2X v)
def r92 (e:KA d2P) (g:GA d2P d9n) (h:KA b8k) (i:GA b8k c8j) (j:KA A44) (k:GA A44 R44) (a:a9N->Bool) (l:a9N->d2U) (b:a9N->Bool) (c:a9N->d2V) (x:Den A92):OD R92:=bif decide ((length x.1:Int)>12) then some (false,())else let d:=((x.1,x.1,(length x.1:Int),0,()),());bif a d then bif b d then some (c d).1 else some (true,())else none
theorem g6t (a b c d e g h i j k x) :a0t (g4x a b c d e g h i j k) (a0b Tryz.f92) (a1a R92) (a0M A92 x) []=r92 a b c d e g h i j k x:=by kernel_rfl
def F92 (x:Den A92):OD R92:=r92 e6g e6h c9F c9G K44 G44 c5A d2Y c5B c5C x
def K92 (x:Den A92):Bool:=(F92 x).isSome
def G92 (x:Den A92):Den R92:=(F92 x).getD (zero R92)
theorem e6k:a0k Tryz.prog (92,a0a A92 R92 K92 G92):=a1d (a0v mixed a0x a0w (.cons f1O (.cons e2Y (.cons a7a .nil)))) (a1H Tryz.func92 rfl rfl rfl (by kernel_rfl) (a0y (l:=[e2Z]) (by kernel_rfl) (.cons (a0o rfl (a0u (sh:=c5z) (shX:=c3k) (shR:=c3l) (fun f v=>e6i e6g e6h c9F c9G K44 G44 c5A d2Y c5B c5C f v) e6j ((),()) ((false,()),()))) (.nil)))) fun x=>g6t e6g e6h c9F c9G K44 G44 c5A d2Y c5B c5C x
abbrev c9H:Ty:=.cons (S35) (.nil)
abbrev d9q:Ty:=.cons (.bool) (.nil)
noncomputable def g0w (a b) :=a0m tab eqs [(63,a0a A63 R63 a b)] 18 [.tmp 2] [] [] [] [] []
def g0x (a:KA A63) (b:GA A63 R63) (x:Den c9H):OD d9q:=bif a (x.1.1,()) then bif (b (x.1.1,())).1 then bif a x.1.2 then bif (b x.1.2).1 then some (!(x.1.1.1==x.1.2.1.1&&x.1.1.2.1==x.1.2.1.2.1),())else some (false,())else none else some (false,())else none
theorem g0y (a b x) :a0t (g0w a b) (a0b Tryz.f161) (a1a d9q) (a0M c9H x) []=g0x a b x:=by kernel_rfl
def f5H (x:Den c9H):OD d9q:=g0x K63 G63 x
def e6l (x:Den c9H):Bool:=(f5H x).isSome
def e6m (x:Den c9H):Den d9q:=(f5H x).getD (zero d9q)
theorem f1R:a0k Tryz.prog (161,a0a c9H d9q e6l e6m):=fnO (.cons d9k .nil) Tryz.func161 (g0y K63 G63)
abbrev d2Z:Ty:=.cons (S38) (.cons (.int .i64) (.nil))
abbrev d9r:Ty:=.cons (S33) (.nil)
noncomputable def g0z:Env:=a0m tab eqs [] 17 [.cell 4 34] [] [] [] [] []
def g4y (x:Den d2Z):OD d9r:=bif x.2.1==0 then some (x.1.1.1,())else let a:=wrap .i64 (x.2.1-1);bif decide (0<=a)&&decide (a<(length x.1.2.1:Int)) then some ((getD x.1.2.1 (toNat a) (zero a1U)).1,())else none
theorem g0A (x) :a0t (g0z) (a0b Tryz.f123) (a1a d9r) (a0M d2Z x) []=g4y x:=by kernel_rfl
def f1S (x:Den d2Z):OD d9r:=g4y x
def e6n (x:Den d2Z):Bool:=(f1S x).isSome
def e6o (x:Den d2Z):Den d9r:=(f1S x).getD (zero d9r)
theorem f1T:a0k Tryz.prog (123,a0a d2Z d9r e6n e6o):=fnO .nil Tryz.func123 g0A
abbrev A93:Ty:=.cons (S38) (.nil)
abbrev R93:Ty:=.cons (.bool) (.nil)
abbrev a9O:Type:=((Unit×((List (Den (a1U)))×(Int×(Int×Unit))))×((Int×(Int×(Int×(Int×((List (Den (a1U)))×(Int×(Int×(Int×(Int×Unit)))))))))×Unit))
def c5D:ShS:=⟨[(1,.one (.ptr 0 0)),(23,.one (.sl (a1U))),(24,.one (.int .i64)),(25,.one (.int .i64))],[(0,.box [.int .i64,.int .i64,.int .i64,.int .i64,.sl (a1U),.int .i64,.int .i64,.int .i64,.int .i64])],1,0⟩
abbrev d3a:Type:=(Unit×Unit)
def c3m:ShS:=⟨[],[],0,0⟩
abbrev d3b:Type:=((Bool×Unit)×Unit)
def c3n:ShS:=⟨[(2,.one (.bool))],[],0,0⟩
noncomputable def g4z (a b e g h i c d j k l m) :=a0m tab eqs [(161,a0a c9H d9q a b),(44,a0a A44 R44 e g),(63,a0a A63 R63 h i),(123,a0a d2Z d9r c d)] 43 [.tmp 2] [] [] [(4,a2d [1,23,24,25] [] 0 [] [] c5D c3m c3n j l k m)] [] []
noncomputable def e3a:Code:=(a0p (a0b Tryz.f93)).getD 0 .skip
def d3c (g:KA c9H) (h:GA c9H d9q) (k:KA A44) (l:GA A44 R44) (d:KA A63) (e:GA A63 R63) (a:KA d2Z) (b:GA d2Z d9r) (f:a9O->Option (d3a⊕d3b)) (v:a9O):Option (d3a⊕d3b):=bif decide (v.1.2.2.2.1<v.1.2.2.1) then bif decide (0<=v.1.2.2.2.1)&&decide (v.1.2.2.2.1<(length v.1.2.1:Int)) then let c:=getD v.1.2.1 (toNat v.1.2.2.2.1) (zero a1U);bif d (c.1,()) then bif !(e (c.1,())).1 then some (Sum.inr ((false,()),()))else let i:=((((v.2.1.1,v.2.1.2.1,()),(v.2.1.2.2.1,v.2.1.2.2.2.1,()),()),v.2.1.2.2.2.2.1,((v.2.1.2.2.2.2.2.1,v.2.1.2.2.2.2.2.2.1,()),v.2.1.2.2.2.2.2.2.2,()),()),v.1.2.2.2);bif a i then let j:=b i;bif c.1.1==j.1.1&&c.1.2.1==j.1.2.1 then some (Sum.inr ((false,()),()))else f ((((),v.1.2.1,v.1.2.2.1,wrap .i64 (v.1.2.2.2.1+1),()),v.2))else none else none else none else some (Sum.inl ((),()))
theorem e6p (a b e g h i c d j k l m f v) :EBk (g4z a b e g h i c d j k l m) e3a (a0z [1,23,24,25] [] 0 [] [] (atS c5D f) (a6c c3m c3n)) (mkS c5D v)=d3c a b e g h i c d f v:=by kernel_rfl
def e6q (v:a9O):Nat:=v.1.2.1.length+v.1.2.2.1.natAbs+v.1.2.2.2.1.natAbs+v.2.1.1.natAbs+v.2.1.2.1.natAbs+v.2.1.2.2.1.natAbs+v.2.1.2.2.2.1.natAbs+v.2.1.2.2.2.2.1.length+v.2.1.2.2.2.2.2.1.natAbs+v.2.1.2.2.2.2.2.2.1.natAbs+v.2.1.2.2.2.2.2.2.2.1.natAbs+v.2.1.2.2.2.2.2.2.2.2.1.natAbs+1000
def c8k (v:a9O):Option (d3a⊕d3b):=a1t (d3c e6l e6m K44 G44 K63 G63 e6n e6o) (e6q v) v
def c5E (v:a9O):Bool:=(c8k v).isSome
def c5F (v:a9O):Bool:=isR (c8k v)
def d3d (v:a9O):d3a:=xOf ((),()) (c8k v)
def c5G (v:a9O):d3b:=yOf ((false,()),()) (c8k v)
def r93 (a:KA c9H) (b:GA c9H d9q) (c:KA A44) (d:GA A44 R44) (m:KA A63) (n:GA A63 R63) (k:KA d2Z) (l:GA d2Z d9r) (e:a9O->Bool) (o:a9O->d3a) (g:a9O->Bool) (h:a9O->d3b) (x:Den A93):OD R93:=bif a (x.1.1,()) then bif !(b (x.1.1,())).1 then some (false,())else bif a x.1.2.2 then bif !(b x.1.2.2).1 then some (false,())else let i:=(length x.1.2.1:Int);bif c (i,1,20,()) then bif !(d (i,1,20,())).1 then some (false,())else let j:=(((),x.1.2.1,i,0,()),(x.1.1.1.1,x.1.1.1.2.1,x.1.1.2.1.1,x.1.1.2.1.2.1,x.1.2.1,x.1.2.2.1.1.1,x.1.2.2.1.1.2.1,x.1.2.2.1.2.1),());bif e j then bif g j then some (h j).1 else some (true,())else none else none else none else none
theorem g6u (a b e g h i c d j k l m x) :a0t (g4z a b e g h i c d j k l m) (a0b Tryz.f93) (a1a R93) (a0M A93 x) []=r93 a b e g h i c d j k l m x:=by kernel_rfl
def F93 (x:Den A93):OD R93:=r93 e6l e6m K44 G44 K63 G63 e6n e6o c5E d3d c5F c5G x
def K93 (x:Den A93):Bool:=(F93 x).isSome
def G93 (x:Den A93):Den R93:=(F93 x).getD (zero R93)
theorem g0B:a0k Tryz.prog (93,a0a A93 R93 K93 G93):=a1d (a0v mixed a0x a0w (.cons f1R (.cons a7a (.cons d9k (.cons f1T .nil))))) (a1H Tryz.func93 rfl rfl rfl (by kernel_rfl) (a0y (l:=[e3a]) (by kernel_rfl) (.cons (a0o rfl (a0u (sh:=c5D) (shX:=c3m) (shR:=c3n) (fun f v=>e6p e6l e6m K44 G44 K63 G63 e6n e6o c5E d3d c5F c5G f v) e6q ((),()) ((false,()),()))) (.nil)))) fun x=>g6u e6l e6m K44 G44 K63 G63 e6n e6o c5E d3d c5F c5G x
abbrev A42:Ty:=.cons (S40) (.nil)
abbrev R42:Ty:=.cons (.bool) (.nil)
noncomputable def g6v (a b c d e g h i) :=a0m tab eqs [(90,a0a A90 R90 a b),(91,a0a A91 R91 c d),(92,a0a A92 R92 e g),(93,a0a A93 R93 h i)] 27 [.tmp 2] [] [] [] [] []
def r42 (a:KA A90) (b:GA A90 R90) (c:KA A91) (d:GA A91 R91) (e:KA A92) (g:GA A92 R92) (h:KA A93) (i:GA A93 R93) (x:Den A42):OD R42:=bif a (x.1.1,()) then bif (b (x.1.1,())).1 then bif c (x.1.2.1,()) then bif (d (x.1.2.1,())).1 then bif e (x.1.2.2.1,()) then bif (g (x.1.2.2.1,())).1 then bif decide ((length x.1.2.2.1:Int)>0) then bif h x.1.2.2.2 then some (i x.1.2.2.2)else none else some (false,())else some (false,())else none else some (false,())else none else some (false,())else none
theorem g6w (a b c d e g h i x) :a0t (g6v a b c d e g h i) (a0b Tryz.f42) (a1a R42) (a0M A42 x) []=r42 a b c d e g h i x:=by kernel_rfl
def F42 (x:Den A42):OD R42:=r42 K90 G90 K91 G91 K92 G92 K93 G93 x
def K42 (x:Den A42):Bool:=(F42 x).isSome
def G42 (x:Den A42):Den R42:=(F42 x).getD (zero R42)
theorem g0C:a0k Tryz.prog (42,a0a A42 R42 K42 G42):=fnO (.cons f1K (.cons e6f (.cons e6k (.cons g0B .nil)))) Tryz.func42 (g6w K90 G90 K91 G91 K92 G92 K93 G93)
abbrev A46:Ty:=.cons (.slice (S97)) (.nil)
abbrev R46:Ty:=.cons (.bool) (.nil)
abbrev a9P:Type:=(((List (Den (S97)))×((List (Den (S97)))×(Int×(Int×Unit))))×Unit)
def c5H:ShS:=⟨[(0,.one (.sl (S97))),(8,.one (.sl (S97))),(9,.one (.int .i64)),(10,.one (.int .i64))],[],0,0⟩
abbrev d3e:Type:=(Unit×Unit)
def c3o:ShS:=⟨[],[],0,0⟩
abbrev d3f:Type:=((Bool×Unit)×Unit)
def c3p:ShS:=⟨[(2,.one (.bool))],[],0,0⟩
noncomputable def g4A (a b c d e g h i) :=a0m tab eqs [(63,a0a A63 R63 a b),(43,a0a A43 R43 c d)] 41 [.tmp 2] [] [] [(4,a2d [0,8,9,10] [] 0 [] [] c5H c3o c3p e h g i)] [] []
noncomputable def e3b:Code:=(a0p (a0b Tryz.f46)).getD 0 .skip
def d3g (b:KA A63) (c:GA A63 R63) (d:KA A43) (e:GA A43 R43) (f:a9P->Option (d3e⊕d3f)) (v:a9P):Option (d3e⊕d3f):=bif decide (v.1.2.2.2.1<v.1.2.2.1) then bif decide (0<=v.1.2.2.2.1)&&decide (v.1.2.2.2.1<(length v.1.2.1:Int)) then let a:=getD v.1.2.1 (toNat v.1.2.2.2.1) (zero S97);bif b (a.1,()) then bif !(c (a.1,())).1 then some (Sum.inr ((false,()),()))else bif d a.2 then bif !(e a.2).1 then some (Sum.inr ((false,()),()))else bif decide (v.1.2.2.2.1>0) then let g:=wrap .i64 (v.1.2.2.2.1-1);bif decide (0<=g)&&decide (g<(length v.1.1:Int)) then bif decide (a.2.1<=(getD v.1.1 (toNat g) (zero S97)).2.1) then some (Sum.inr ((false,()),()))else f (((v.1.1,v.1.2.1,v.1.2.2.1,wrap .i64 (v.1.2.2.2.1+1),()),()))else none else f (((v.1.1,v.1.2.1,v.1.2.2.1,wrap .i64 (v.1.2.2.2.1+1),()),()))else none else none else none else some (Sum.inl ((),()))
theorem e6r (a b c d e g h i f v) :EBk (g4A a b c d e g h i) e3b (a0z [0,8,9,10] [] 0 [] [] (atS c5H f) (a6c c3o c3p)) (mkS c5H v)=d3g a b c d f v:=by kernel_rfl
def e6s (v:a9P):Nat:=v.1.1.length+v.1.2.1.length+v.1.2.2.1.natAbs+v.1.2.2.2.1.natAbs+1000
def d3h (v:a9P):Option (d3e⊕d3f):=a1t (d3g K63 G63 K43 G43) (e6s v) v
def c5I (v:a9P):Bool:=(d3h v).isSome
def c5J (v:a9P):Bool:=isR (d3h v)
def d3i (v:a9P):d3e:=xOf ((),()) (d3h v)
def c5K (v:a9P):d3f:=yOf ((false,()),()) (d3h v)
def r46 (e:KA A63) (g:GA A63 R63) (h:KA A43) (i:GA A43 R43) (a:a9P->Bool) (j:a9P->d3e) (b:a9P->Bool) (c:a9P->d3f) (x:Den A46):OD R46:=bif decide ((length x.1:Int)>200) then some (false,())else let d:=((x.1,x.1,(length x.1:Int),0,()),());bif a d then bif b d then some (c d).1 else some (true,())else none
theorem g6x (a b c d e g h i x) :a0t (g4A a b c d e g h i) (a0b Tryz.f46) (a1a R46) (a0M A46 x) []=r46 a b c d e g h i x:=by kernel_rfl
def F46 (x:Den A46):OD R46:=r46 K63 G63 K43 G43 c5I d3i c5J c5K x
def K46 (x:Den A46):Bool:=(F46 x).isSome
def G46 (x:Den A46):Den R46:=(F46 x).getD (zero R46)
theorem g0D:a0k Tryz.prog (46,a0a A46 R46 K46 G46):=a1d (a0v mixed a0x a0w (.cons d9k (.cons d9l .nil))) (a1H Tryz.func46 rfl rfl rfl (by kernel_rfl) (a0y (l:=[e3b]) (by kernel_rfl) (.cons (a0o rfl (a0u (sh:=c5H) (shX:=c3o) (shR:=c3p) (fun f v=>e6r K63 G63 K43 G43 c5I d3i c5J c5K f v) e6s ((),()) ((false,()),()))) (.nil)))) fun x=>g6x K63 G63 K43 G43 c5I d3i c5J c5K x
abbrev c0E:Ty:=.cons (.cpx .f64) (.cons (.cpx .f64) (.nil))
abbrev c8l:Ty:=.cons (.flt .f64) (.nil)
noncomputable def g0E:Env:=a0m tab eqs [] 16 [.tmp 4] [] [] [] [] []
def g4B (x:Den c0E):OD c8l:=some (a0g .add .f64 (a0g .mul .f64 x.1.1 x.2.1.1) (a0g .mul .f64 x.1.2 x.2.1.2),())
theorem g0F (x) :a0t (g0E) (a0b Tryz.f225) (a1a c8l) (a0M c0E x) []=g4B x:=by kernel_rfl
def f1U (x:Den c0E):OD c8l:=g4B x
def c8m (x:Den c0E):Bool:=(f1U x).isSome
def c8n (x:Den c0E):Den c8l:=(f1U x).getD (zero c8l)
theorem d3j:a0k Tryz.prog (225,a0a c0E c8l c8m c8n):=fnO .nil Tryz.func225 g0F
abbrev c5L:Sg:=⟨[.val (.int .i64),.val (.cpx .f64),.ptr 0,.ptr 1,.ptr 2],[.box (.cpx .f64),.box (.flt .f64),.box (.int .i64)]⟩
abbrev d3k:Sg:=⟨[],[.box (.cpx .f64),.box (.flt .f64),.box (.int .i64)]⟩
noncomputable def g0G (a b) :=a0m tab eqs [(225,a0a c0E c8l a b)] 20 [] [] [] [] [] []
def g0H (b:KA c0E) (a:GA c0E c8l) (x:c5L.den):Option (d3k.den):=bif b (x.2.1,x.1.2.1,()) then bif x.1.1==0 then some ((),x.2.1,(a (x.2.1,x.1.2.1,())).1,x.1.1,())else let c:=a (x.2.1,x.1.2.1,());bif fgt .f64 c.1 x.2.2.1 then some ((),x.2.1,c.1,x.1.1,())else some ((),x.2)else none
theorem g0I (a b x) :a1W (g0G a b) (a0b Tryz.f224) c5L d3k x=g0H a b x:=by kernel_rfl
def f5I (x:c5L.den):Option (d3k.den):=g0H c8m c8n x
def d9s (x:c5L.den):Bool:=(f5I x).isSome
def d9t (x:c5L.den):d3k.den:=(f5I x).getD (a1l d3k)
theorem e3c:a0k Tryz.prog (224,a0j true c5L d3k d9s d9t):=a1p (a0v mixed a0x a0w (.cons d3j .nil)) (a1H Tryz.func224 rfl rfl rfl (by kernel_rfl) (a0O (by kernel_rfl))) true fun x=>g0I c8m c8n x
abbrev c2f:Ty:=.cons (.cpx .f64) (.cons (.cpx .f64) (.nil))
abbrev c9I:Ty:=.cons (.cpx .f64) (.nil)
noncomputable def g0J:Env:=a0m tab eqs [] 32 [.tmp 4] [] [] [] [] []
def g4C (x:Den c2f):OD c9I:=some ((a0g .sub .f64 (a0g .mul .f64 x.1.1 x.2.1.1) (a0g .mul .f64 x.1.2 x.2.1.2),a0g .add .f64 (a0g .mul .f64 x.1.1 x.2.1.2) (a0g .mul .f64 x.1.2 x.2.1.1)),())
theorem g0K (x) :a0t (g0J) (a0b Tryz.f177) (a1a c9I) (a0M c2f x) []=g4C x:=by kernel_rfl
def f1V (x:Den c2f):OD c9I:=g4C x
def c8o (x:Den c2f):Bool:=(f1V x).isSome
def c8p (x:Den c2f):Den c9I:=(f1V x).getD (zero c9I)
theorem e3d:a0k Tryz.prog (177,a0a c2f c9I c8o c8p):=fnO .nil Tryz.func177 g0K
abbrev d9u:Sg:=⟨[.fnv 224 [0,1,2]],[.box (.cpx .f64),.box (.flt .f64),.box (.int .i64)]⟩
abbrev e3e:Sg:=⟨[],[.box (.cpx .f64),.box (.flt .f64),.box (.int .i64)]⟩
abbrev a9k:Type:=((Unit×((Nat×Nat)×(Int×Unit)))×(((Nat×Nat)×Unit)×((Nat×Unit)×((Int×Unit)×Unit))))
def b6z:ShS:=⟨[(0,.one (.fn 224 [0,1,2])),(2,.one (.cpx .f64)),(3,.one (.int .i64))],[(0,.box [.cpx .f64]),(1,.box [.flt .f64]),(2,.box [.int .i64])],3,3⟩
abbrev c0F:Type:=(Unit×(((Nat×Nat)×Unit)×((Nat×Unit)×((Int×Unit)×Unit))))
def b6A:ShS:=⟨[],[(0,.box [.cpx .f64]),(1,.box [.flt .f64]),(2,.box [.int .i64])],3,3⟩
noncomputable def f1W (a b c d e g) :=a0m tab eqs [(177,a0a c2f c9I a b),(224,a0j true c5L d3k c d)] 14 [] [] [] [(2,a1Q [0,2,3] [] 0 [] [] b6z b6A e g)] [] []
noncomputable def d3l:Code:=(a0p (a0b Tryz.f223)).getD 0 .skip
def c0G (a:KA c2f) (b:GA c2f c9I) (c:KI c5L) (d:GI c5L d3k) (f:a9k->Option (c0F)) (v:a9k):Option (c0F):=bif decide (v.1.2.2.1<360) then bif c ((v.1.2.2.1,v.1.2.1,(),(),(),()),v.2.1.1,v.2.2.1.1,v.2.2.2.1) then bif a (v.1.2.1,(4607181046959943561,4580687535080594718),()) then let e:=d ((v.1.2.2.1,v.1.2.1,(),(),(),()),v.2.1.1,v.2.2.1.1,v.2.2.2.1);f ((((),(b (v.1.2.1,(4607181046959943561,4580687535080594718),())).1,wrap .i64 (v.1.2.2.1+1),()),(e.2.1,()),(e.2.2.1,()),e.2.2.2,()))else none else none else some ((),v.2)
theorem d9v (a b c d e g f v) :EBk (f1W a b c d e g) d3l (a0z [0,2,3] [] 0 [] [] (atS b6z f) (a4X b6A)) (mkS b6z v)=c0G a b c d f v:=by kernel_rfl
def c5M (v:a9k):Nat:=v.1.2.2.1.natAbs+v.2.2.2.1.1.natAbs+1000
def d3m (v:a9k):Option (c0F):=a1t (c0G c8o c8p d9s d9t) (c5M v) v
def b6B (v:a9k):Bool:=(d3m v).isSome
def b6C (v:a9k):c0F:=(d3m v).getD ((),(((0,0),()),((0,()),((0,()),()))))
def g0L (d:KA c2f) (e:GA c2f c9I) (g:KI c5L) (h:GI c5L d3k) (a:a9k->Bool) (b:a9k->c0F) (x:d9u.den):Option (e3e.den):=let i:=(((),(4607182418800017408,0),0,()),(x.2.1,()),(x.2.2.1,()),x.2.2.2,());bif a i then let c:=b i;some ((),c.2.1.1,c.2.2.1.1,c.2.2.2.1)else none
theorem g0M (a b c d e g x) :a1W (f1W a b c d e g) (a0b Tryz.f223) d9u e3e x=g0L a b c d e g x:=by kernel_rfl
def f5J (x:d9u.den):Option (e3e.den):=g0L c8o c8p d9s d9t b6B b6C x
def f5K (x:d9u.den):Bool:=(f5J x).isSome
def f5L (x:d9u.den):e3e.den:=(f5J x).getD (a1l e3e)
theorem f1X:a0k Tryz.prog (223,a0j true d9u e3e f5K f5L):=a1p (a0v mixed a0x a0w (.cons e3d (.cons e3c .nil))) (a1H Tryz.func223 rfl rfl rfl (by kernel_rfl) (a0y (l:=[d3l]) (by kernel_rfl) (.cons (a0o rfl (a0q (sh:=b6z) (shX:=b6A) (fun f v=>d9v c8o c8p d9s d9t b6B b6C f v) c5M ((),(((0,0),()),((0,()),((0,()),())))))) (.nil)))) true fun x=>g0M c8o c8p d9s d9t b6B b6C x
abbrev d9w:Ty:=.cons (.cpx .f64) (.nil)
abbrev e3f:Ty:=.cons (.int .i64) (.nil)
noncomputable def g0N (e g a b c d) :=a0m tab eqs [(61,a0a A61 R61 e g),(224,a0j true c5L d3k a b),(223,a0j true d9u e3e c d)] 15 [.tmp 2] [] [] [] [] []
def g0O (c:KA A61) (d:GA A61 R61) (e:KI c5L) (g:GI c5L d3k) (a:KI d9u) (b:GI d9u e3e) (x:Den d9w):OD e3f:=bif c x then bif !(d x).1 then some (-1,())else bif feq .f64 x.1.1 0&&feq .f64 x.1.2 0 then some (-1,())else bif a (((),()),x.1,0,0,()) then some (b (((),()),x.1,0,0,())).2.2.2 else none else none
theorem g0P (e g a b c d x) :a0t (g0N e g a b c d) (a0b Tryz.f178) (a1a e3f) (a0M d9w x) []=g0O e g a b c d x:=by kernel_rfl
def f1Y (x:Den d9w):OD e3f:=g0O K61 G61 d9s d9t f5K f5L x
def f5M (x:Den d9w):Bool:=(f1Y x).isSome
def f5N (x:Den d9w):Den e3f:=(f1Y x).getD (zero e3f)
theorem f1Z:a0k Tryz.prog (178,a0a d9w e3f f5M f5N):=fnO (.cons c3g (.cons e3c (.cons f1X .nil))) Tryz.func178 (g0P K61 G61 d9s d9t f5K f5L)
abbrev c9J:Ty:=.cons (.cpx .f32) (.nil)
abbrev d6R:Ty:=.cons (.int .i64) (.nil)
noncomputable def g0Q (c d a b) :=a0m tab eqs [(45,a0a A45 R45 c d),(178,a0a d9w e3f a b)] 20 [.tmp 2] [] [] [] [] []
def g0R (c:KA A45) (d:GA A45 R45) (a:KA d9w) (b:GA d9w e3f) (x:Den c9J):OD d6R:=bif c x then bif !(d x).1 then some (-1,())else bif feq .f32 x.1.1 0&&feq .f32 x.1.2 0 then some (-1,())else let e:=a3G .f32 x.1.1;let g:=a3G .f32 x.1.2;bif a (((a0N .f32 .f64 e).2,(a0N .f32 .f64 g).2),()) then some (b (((a0N .f32 .f64 e).2,(a0N .f32 .f64 g).2),()))else none else none
theorem g0S (c d a b x) :a0t (g0Q c d a b) (a0b Tryz.f110) (a1a d6R) (a0M c9J x) []=g0R c d a b x:=by kernel_rfl
def f2a (x:Den c9J):OD d6R:=g0R K45 G45 f5M f5N x
def e3g (x:Den c9J):Bool:=(f2a x).isSome
def d3n (x:Den c9J):Den d6R:=(f2a x).getD (zero d6R)
theorem e3h:a0k Tryz.prog (110,a0a c9J d6R e3g d3n):=fnO (.cons b6b (.cons f1Z .nil)) Tryz.func110 (g0S K45 G45 f5M f5N)
abbrev d9x:Ty:=.cons (.cpx .f32) (.nil)
abbrev e3i:Ty:=.cons (.cpx .f64) (.nil)
noncomputable def g0T:Env:=a0m tab eqs [] 10 [.tmp 2] [] [] [] [] []
def g4D (x:Den d9x):OD e3i:=some (((a0N .f32 .f64 x.1.1).2,(a0N .f32 .f64 x.1.2).2),())
theorem g0U (x) :a0t (g0T) (a0b Tryz.f181) (a1a e3i) (a0M d9x x) []=g4D x:=by kernel_rfl
def g0V (x:Den d9x):OD e3i:=g4D x
def f5O (x:Den d9x):Bool:=(g0V x).isSome
def f5P (x:Den d9x):Den e3i:=(g0V x).getD (zero e3i)
theorem f2b:a0k Tryz.prog (181,a0a d9x e3i f5O f5P):=fnO .nil Tryz.func181 g0U
abbrev d9y:Ty:=.cons (.flt .f64) (.nil)
abbrev e3j:Ty:=.cons (.flt .f64) (.nil)
abbrev a9l:Type:=((Nat×(Nat×(Int×Unit)))×Unit)
def b6D:ShS:=⟨[(0,.one (.flt .f64)),(3,.one (.flt .f64)),(4,.one (.int .i64))],[],0,0⟩
abbrev c0H:Type:=((Nat×Unit)×Unit)
def b6E:ShS:=⟨[(3,.one (.flt .f64))],[],0,0⟩
noncomputable def f2c (a b) :=a0m tab eqs [] 25 [.tmp 2] [] [] [(5,a1Q [0,3,4] [] 0 [3] [] b6D b6E a b)] [] []
noncomputable def d3o:Code:=(a0p (a0b Tryz.f228)).getD 0 .skip
def c0I (f:a9l->Option (c0H)) (v:a9l):Option (c0H):=bif decide (v.1.2.2.1<60) then f (((v.1.1,a0g .quo .f64 (a0g .add .f64 v.1.2.1 (a0g .quo .f64 v.1.1 v.1.2.1)) 4611686018427387904,wrap .i64 (v.1.2.2.1+1),()),()))else some ((v.1.2.1,()),())
theorem d9z (a b f v) :EBk (f2c a b) d3o (a0z [0,3,4] [] 0 [3] [] (atS b6D f) (a4X b6E)) (mkS b6D v)=c0I f v:=by kernel_rfl
def c5N (v:a9l):Nat:=v.1.2.2.1.natAbs+1000
def d3p (v:a9l):Option (c0H):=a1t (c0I) (c5N v) v
def b6F (v:a9l):Bool:=(d3p v).isSome
def b6G (v:a9l):c0H:=(d3p v).getD ((0,()),())
def g0W (a:a9l->Bool) (b:a9l->c0H) (x:Den d9y):OD e3j:=bif fgt .f64 x.1 4427486594234968593||feq .f64 x.1 4427486594234968593 then bif !(flt .f64 x.1 4861130398305394688||feq .f64 x.1 4861130398305394688) then some (0,())else let c:=b8l .f64 x.1 4607182418800017408;bif a ((x.1,c,0,()),()) then some (b ((x.1,c,0,()),())).1 else none else some (0,())
theorem g0X (a b x) :a0t (f2c a b) (a0b Tryz.f228) (a1a e3j) (a0M d9y x) []=g0W a b x:=by kernel_rfl
def f2d (x:Den d9y):OD e3j:=g0W b6F b6G x
def f5Q (x:Den d9y):Bool:=(f2d x).isSome
def f5R (x:Den d9y):Den e3j:=(f2d x).getD (zero e3j)
theorem f2e:a0k Tryz.prog (228,a0a d9y e3j f5Q f5R):=a1d (a0v mixed a0x a0w .nil) (a1H Tryz.func228 rfl rfl rfl (by kernel_rfl) (a0y (l:=[d3o]) (by kernel_rfl) (.cons (a0o rfl (a0q (sh:=b6D) (shX:=b6E) (fun f v=>d9z b6F b6G f v) c5N ((0,()),()))) (.nil)))) fun x=>g0X b6F b6G x
abbrev d9A:Ty:=.cons (.cpx .f64) (.nil)
abbrev e3k:Ty:=.cons (.flt .f64) (.nil)
noncomputable def g0Y (e g a b c d) :=a0m tab eqs [(61,a0a A61 R61 e g),(225,a0a c0E c8l a b),(228,a0a d9y e3j c d)] 10 [.tmp 2] [] [] [] [] []
def g0Z (e:KA A61) (g:GA A61 R61) (a:KA c0E) (b:GA c0E c8l) (c:KA d9y) (d:GA d9y e3j) (x:Den d9A):OD e3k:=bif e x then bif !(g x).1 then some (0,())else bif a (x.1,x) then let h:=b (x.1,x);bif c h then some (d h)else none else none else none
theorem g1a (e g a b c d x) :a0t (g0Y e g a b c d) (a0b Tryz.f180) (a1a e3k) (a0M d9A x) []=g0Z e g a b c d x:=by kernel_rfl
def f2f (x:Den d9A):OD e3k:=g0Z K61 G61 c8m c8n f5Q f5R x
def f5S (x:Den d9A):Bool:=(f2f x).isSome
def f5T (x:Den d9A):Den e3k:=(f2f x).getD (zero e3k)
theorem f2g:a0k Tryz.prog (180,a0a d9A e3k f5S f5T):=fnO (.cons c3g (.cons d3j (.cons f2e .nil))) Tryz.func180 (g1a K61 G61 c8m c8n f5Q f5R)
abbrev c9K:Ty:=.cons (.cpx .f32) (.nil)
abbrev d6S:Ty:=.cons (.flt .f32) (.nil)
noncomputable def g1b (e g a b c d) :=a0m tab eqs [(45,a0a A45 R45 e g),(181,a0a d9x e3i a b),(180,a0a d9A e3k c d)] 10 [.tmp 2] [] [] [] [] []
def g1c (e:KA A45) (g:GA A45 R45) (a:KA d9x) (b:GA d9x e3i) (c:KA d9A) (d:GA d9A e3k) (x:Den c9K):OD d6S:=bif e x then bif !(g x).1 then some (0,())else bif a x then let h:=b x;bif c h then let i:=d h;bif (a0N .f64 .f32 i.1).1 then some ((a0N .f64 .f32 i.1).2,())else none else none else none else none
theorem g1d (e g a b c d x) :a0t (g1b e g a b c d) (a0b Tryz.f112) (a1a d6S) (a0M c9K x) []=g1c e g a b c d x:=by kernel_rfl
def f2h (x:Den c9K):OD d6S:=g1c K45 G45 f5O f5P f5S f5T x
def e3l (x:Den c9K):Bool:=(f2h x).isSome
def d9B (x:Den c9K):Den d6S:=(f2h x).getD (zero d6S)
theorem e3m:a0k Tryz.prog (112,a0a c9K d6S e3l d9B):=fnO (.cons b6b (.cons f2b (.cons f2g .nil))) Tryz.func112 (g1d K45 G45 f5O f5P f5S f5T)
abbrev c5O:Ty:=.cons (.int .i64) (.nil)
abbrev d3q:Ty:=.cons (.int .i64) (.nil)
noncomputable def g1e:Env:=a0m tab eqs [] 7 [.tmp 2] [] [] [] [] []
def g1f (x:Den c5O):OD d3q:=some (Int.tmod (wrap .i64 (Int.tmod x.1 360+360)) 360,())
theorem g1g (x) :a0t (g1e) (a0b Tryz.f176) (a1a d3q) (a0M c5O x) []=g1f x:=by kernel_rfl
def d9C (x:Den c5O):OD d3q:=g1f x
def d6T (x:Den c5O):Bool:=(d9C x).isSome
def d6U (x:Den c5O):Den d3q:=(d9C x).getD (zero d3q)
theorem e3n:a0k Tryz.prog (176,a0a c5O d3q d6T d6U):=fnO .nil Tryz.func176 g1g
abbrev c9L:Ty:=.cons (.int .i64) (.cons (.int .i64) (.nil))
abbrev d6V:Ty:=.cons (.int .i64) (.nil)
noncomputable def g1h (a b) :=a0m tab eqs [(176,a0a c5O d3q a b)] 17 [.tmp 4] [] [] [] [] []
def g1i (a:KA c5O) (b:GA c5O d3q) (x:Den c9L):OD d6V:=bif a x.2 then bif a (x.1,()) then let c:=wrap .i64 ((b x.2).1-(b (x.1,())).1);bif a (c,()) then let d:=b (c,());let e:=wrap .i64 (0-d.1);bif a (e,()) then some (a4x d.1 (b (e,())).1,())else none else none else none else none
theorem g1j (a b x) :a0t (g1h a b) (a0b Tryz.f113) (a1a d6V) (a0M c9L x) []=g1i a b x:=by kernel_rfl
def f2j (x:Den c9L):OD d6V:=g1i d6T d6U x
def e3o (x:Den c9L):Bool:=(f2j x).isSome
def d9D (x:Den c9L):Den d6V:=(f2j x).getD (zero d6V)
theorem e3p:a0k Tryz.prog (113,a0a c9L d6V e3o d9D):=fnO (.cons e3n .nil) Tryz.func113 (g1j d6T d6U)
abbrev b6H:Ty:=.cons (.flt .f32) (.cons (.flt .f32) (.cons (.flt .f32) (.nil)))
abbrev c5P:Ty:=.cons (.flt .f32) (.nil)
noncomputable def g1k:Env:=a0m tab eqs [] 16 [.tmp 6] [] [] [] [] []
def g4E (x:Den b6H):OD c5P:=some (a0g .add .f32 x.1 (a0g .mul .f32 (a0g .sub .f32 x.2.1 x.1) x.2.2.1),())
theorem g1l (x) :a0t (g1k) (a0b Tryz.f227) (a1a c5P) (a0M b6H x) []=g4E x:=by kernel_rfl
def g1m (x:Den b6H):OD c5P:=g4E x
def c5Q (x:Den b6H):Bool:=(g1m x).isSome
def c5R (x:Den b6H):Den c5P:=(g1m x).getD (zero c5P)
theorem d3r:a0k Tryz.prog (227,a0a b6H c5P c5Q c5R):=fnO .nil Tryz.func227 g1l
abbrev d3s:Ty:=.cons (S27) (.cons (.slice (.flt .f32)) (.cons (.int .i64) (.nil)))
abbrev d9E:Ty:=.cons (.flt .f32) (.nil)
abbrev a5n:Type:=(((List (Den (.flt .f32)))×(Int×(Unit×((List (Den (.int .i64)))×(Int×(Int×Unit))))))×(((List (Den (.flt .f32)))×((List (Den (.int .i64)))×((List (Den (.slice (.flt .f32))))×Unit)))×Unit))
def b6I:ShS:=⟨[(1,.one (.sl (.flt .f32))),(2,.one (.int .i64)),(3,.one (.ptr 0 0)),(11,.one (.sl (.int .i64))),(12,.one (.int .i64)),(13,.one (.int .i64))],[(0,.box [.sl (.flt .f32),.sl (.int .i64),.sl (.slice (.flt .f32))])],1,0⟩
abbrev c0J:Type:=(Unit×Unit)
def b6J:ShS:=⟨[],[],0,0⟩
abbrev c0K:Type:=((Nat×Unit)×Unit)
def b6K:ShS:=⟨[(6,.one (.flt .f32))],[],0,0⟩
noncomputable def f2k (a b c d e g) :=a0m tab eqs [(227,a0a b6H c5P a b)] 54 [.tmp 6] [] [] [(2,a2d [1,2,3,11,12,13] [] 0 [] [] b6I b6J b6K c e d g)] [] []
noncomputable def d3t:Code:=(a0p (a0b Tryz.f226)).getD 0 .skip
def c0L (b:KA b6H) (c:GA b6H c5P) (f:a5n->Option (c0J⊕c0K)) (v:a5n):Option (c0J⊕c0K):=bif decide (v.1.2.2.2.2.2.1<v.1.2.2.2.2.1) then bif decide (0<=v.1.2.2.2.2.2.1)&&decide (v.1.2.2.2.2.2.1<(length v.1.2.2.2.1:Int)) then let d:=getD v.1.2.2.2.1 (toNat v.1.2.2.2.2.2.1) (zero (Ty.int IntKind.i64));bif d==v.1.2.1 then bif decide (0<=v.1.2.2.2.2.2.1)&&decide (v.1.2.2.2.2.2.1<(length v.1.1:Int)) then some (Sum.inr ((getD v.1.1 (toNat v.1.2.2.2.2.2.1) (zero (Ty.flt .f32)),()),()))else none else bif decide (d>v.1.2.1) then let a:=wrap .i64 (v.1.2.2.2.2.2.1-1);bif decide (0<=a)&&decide (a<(length v.2.1.2.1:Int)) then bif decide (0<=a)&&decide (a<(length v.1.1:Int)) then bif decide (0<=v.1.2.2.2.2.2.1)&&decide (v.1.2.2.2.2.2.1<(length v.1.1:Int)) then let e:=getD v.1.1 (toNat a) (zero (Ty.flt .f32));let g:=getD v.1.1 (toNat v.1.2.2.2.2.2.1) (zero (Ty.flt .f32));let h:=getD v.2.1.2.1 (toNat a) (zero (Ty.int IntKind.i64));let i:=a0g .quo .f32 (nearest .f32 (wrap .i64 (v.1.2.1-h))) (nearest .f32 (wrap .i64 (d-h)));bif b (e,g,i,()) then some (Sum.inr (c (e,g,i,()),()))else none else none else none else none else f (((v.1.1,v.1.2.1,(),v.1.2.2.2.1,v.1.2.2.2.2.1,wrap .i64 (v.1.2.2.2.2.2.1+1),()),v.2))else none else some (Sum.inl ((),()))
theorem d9F (a b c d e g f v) :EBk (f2k a b c d e g) d3t (a0z [1,2,3,11,12,13] [] 0 [] [] (atS b6I f) (a6c b6J b6K)) (mkS b6I v)=c0L a b f v:=by kernel_rfl
def c5S (v:a5n):Nat:=v.1.1.length+v.1.2.1.natAbs+v.1.2.2.2.1.length+v.1.2.2.2.2.1.natAbs+v.1.2.2.2.2.2.1.natAbs+v.2.1.1.length+v.2.1.2.1.length+v.2.1.2.2.1.length+1000
def c0M (v:a5n):Option (c0J⊕c0K):=a1t (c0L c5Q c5R) (c5S v) v
def b6L (v:a5n):Bool:=(c0M v).isSome
def b6M (v:a5n):Bool:=isR (c0M v)
def c3q (v:a5n):c0J:=xOf ((),()) (c0M v)
def b6N (v:a5n):c0K:=yOf ((0,()),()) (c0M v)
def g1n (e:KA b6H) (g:GA b6H c5P) (a:a5n->Bool) (h:a5n->c0J) (b:a5n->Bool) (c:a5n->c0K) (x:Den d3s):OD d9E:=let d:=((x.2.1,x.2.2.1,(),x.1.2.1,(length x.1.2.1:Int),0,()),x.1,());bif a d then bif b d then some (c d).1 else some (0,())else none
theorem g1o (a b c d e g x) :a0t (f2k a b c d e g) (a0b Tryz.f226) (a1a d9E) (a0M d3s x) []=g1n a b c d e g x:=by kernel_rfl
def e3q (x:Den d3s):OD d9E:=g1n c5Q c5R b6L c3q b6M b6N x
def e6t (x:Den d3s):Bool:=(e3q x).isSome
def e6u (x:Den d3s):Den d9E:=(e3q x).getD (zero d9E)
theorem f2l:a0k Tryz.prog (226,a0a d3s d9E e6t e6u):=a1d (a0v mixed a0x a0w (.cons d3r .nil)) (a1H Tryz.func226 rfl rfl rfl (by kernel_rfl) (a0y (l:=[d3t]) (by kernel_rfl) (.cons (a0o rfl (a0u (sh:=b6I) (shX:=b6J) (shR:=b6K) (fun f v=>d9F c5Q c5R b6L c3q b6M b6N f v) c5S ((),()) ((0,()),()))) (.nil)))) fun x=>g1o c5Q c5R b6L c3q b6M b6N x
abbrev d9G:Ty:=.cons (S27) (.cons (.flt .f32) (.cons (.int .i64) (.nil)))
abbrev e3r:Ty:=.cons (.flt .f32) (.nil)
abbrev a9m:Type:=((Nat×(Int×(Unit×(Int×Unit))))×(((List (Den (.flt .f32)))×((List (Den (.int .i64)))×((List (Den (.slice (.flt .f32))))×Unit)))×Unit))
def b6O:ShS:=⟨[(1,.one (.flt .f32)),(2,.one (.int .i64)),(3,.one (.ptr 0 0)),(8,.one (.int .i64))],[(0,.box [.sl (.flt .f32),.sl (.int .i64),.sl (.slice (.flt .f32))])],1,0⟩
abbrev c0N:Type:=((Nat×(Int×(Unit×(Int×Unit))))×(((List (Den (.flt .f32)))×((List (Den (.int .i64)))×((List (Den (.slice (.flt .f32))))×Unit)))×Unit))
def b6P:ShS:=⟨[(1,.one (.flt .f32)),(2,.one (.int .i64)),(3,.one (.ptr 0 0)),(8,.one (.int .i64))],[(0,.box [.sl (.flt .f32),.sl (.int .i64),.sl (.slice (.flt .f32))])],1,0⟩
noncomputable def f2m (a b c d e g) :=a0m tab eqs [(226,a0a d3s d9E a b),(227,a0a b6H c5P c d)] 98 [.tmp 6] [] [] [(7,a1Q [1,2,3,8] [] 0 [1,2,3,8] [] b6O b6P e g)] [] []
noncomputable def d3u:Code:=(a0p (a0b Tryz.f179)).getD 0 .skip
def c0O (b:KA d3s) (c:GA d3s d9E) (d:KA b6H) (e:GA b6H c5P) (f:a9m->Option (c0N)) (v:a9m):Option (c0N):=let a:=wrap .i64 (v.1.2.2.2.1+1);bif decide (0<=a)&&decide (a<(length v.2.1.1:Int)) then let g:=getD v.2.1.1 (toNat a) (zero (Ty.flt .f32));bif flt .f32 g v.1.1||feq .f32 g v.1.1 then f (((v.1.1,v.1.2.1,(),a,()),v.2))else some (v)else none
theorem d9H (a b c d e g f v) :EBk (f2m a b c d e g) d3u (a0z [1,2,3,8] [] 0 [1,2,3,8] [] (atS b6O f) (a4X b6P)) (mkS b6O v)=c0O a b c d f v:=by kernel_rfl
def c5T (v:a9m):Nat:=v.1.2.1.natAbs+v.1.2.2.2.1.natAbs+v.2.1.1.length+v.2.1.2.1.length+v.2.1.2.2.1.length+1000
def d3v (v:a9m):Option (c0N):=a1t (c0O e6t e6u c5Q c5R) (c5T v) v
def b6Q (v:a9m):Bool:=(d3v v).isSome
def b6R (v:a9m):c0N:=(d3v v).getD ((0,(0,((),(0,())))),(([],([],([],()))),()))
def g1p (b:KA d3s) (c:GA d3s d9E) (g:KA b6H) (h:GA b6H c5P) (m:a9m->Bool) (n:a9m->c0N) (x:Den d9G):OD e3r:=bif decide (0<=0)&&decide (0<(length x.1.1:Int)) then let o:=getD x.1.1 (toNat 0) (zero (Ty.flt .f32));bif flt .f32 x.2.1 o||feq .f32 x.2.1 o then bif decide (0<=0)&&decide (0<(length x.1.1:Int)) then bif decide (0<=0)&&decide (0<(length x.1.2.2.1:Int)) then let d:=getD x.1.2.2.1 (toNat 0) (zero (Ty.slice (Ty.flt .f32)));bif b (x.1,d,x.2.2) then some (a0g .mul .f32 (a0g .quo .f32 x.2.1 o) (c (x.1,d,x.2.2)).1,())else none else none else none else let d:=wrap .i64 ((length x.1.1:Int)-1);bif decide (0<=d)&&decide (d<(length x.1.1:Int)) then let p:=getD x.1.1 (toNat d) (zero (Ty.flt .f32));bif fgt .f32 x.2.1 p||feq .f32 x.2.1 p then bif decide (0<=d)&&decide (d<(length x.1.2.2.1:Int)) then let q:=getD x.1.2.2.1 (toNat d) (zero (Ty.slice (Ty.flt .f32)));bif b (x.1,q,x.2.2) then some (c (x.1,q,x.2.2))else none else none else bif m ((x.2.1,x.2.2.1,(),0,()),x.1,()) then let a:=n ((x.2.1,x.2.2.1,(),0,()),x.1,());bif decide (0<=a.1.2.2.2.1)&&decide (a.1.2.2.2.1<(length a.2.1.1:Int)) then let e:=wrap .i64 (a.1.2.2.2.1+1);bif decide (0<=e)&&decide (e<(length a.2.1.1:Int)) then bif decide (0<=a.1.2.2.2.1)&&decide (a.1.2.2.2.1<(length a.2.1.2.2.1:Int)) then let r:=getD a.2.1.2.2.1 (toNat a.1.2.2.2.1) (zero (Ty.slice (Ty.flt .f32)));bif b (a.2.1,r,a.1.2.1,()) then bif decide (0<=e)&&decide (e<(length a.2.1.2.2.1:Int)) then let s:=getD a.2.1.2.2.1 (toNat e) (zero (Ty.slice (Ty.flt .f32)));bif b (a.2.1,s,a.1.2.1,()) then let i:=c (a.2.1,r,a.1.2.1,());let j:=c (a.2.1,s,a.1.2.1,());let k:=getD a.2.1.1 (toNat a.1.2.2.2.1) (zero (Ty.flt .f32));let l:=a0g .quo .f32 (a0g .sub .f32 a.1.1 k) (a0g .sub .f32 (getD a.2.1.1 (toNat e) (zero (Ty.flt .f32))) k);bif g (i.1,j.1,l,()) then some (h (i.1,j.1,l,()))else none else none else none else none else none else none else none else none else none else none
theorem g1q (a b c d e g x) :a0t (f2m a b c d e g) (a0b Tryz.f179) (a1a e3r) (a0M d9G x) []=g1p a b c d e g x:=by kernel_rfl
def f2n (x:Den d9G):OD e3r:=g1p e6t e6u c5Q c5R b6Q b6R x
def f5U (x:Den d9G):Bool:=(f2n x).isSome
def f5V (x:Den d9G):Den e3r:=(f2n x).getD (zero e3r)
theorem f2o:a0k Tryz.prog (179,a0a d9G e3r f5U f5V):=a1d (a0v mixed a0x a0w (.cons f2l (.cons d3r .nil))) (a1H Tryz.func179 rfl rfl rfl (by kernel_rfl) (a0y (l:=[d3u]) (by kernel_rfl) (.cons (a0o rfl (a0q (sh:=b6O) (shX:=b6P) (fun f v=>d9H e6t e6u c5Q c5R b6Q b6R f v) c5T ((0,(0,((),(0,())))),(([],([],([],()))),())))) (.nil)))) fun x=>g1q e6t e6u c5Q c5R b6Q b6R x
abbrev d9I:Ty:=.cons (S27) (.cons (.flt .f32) (.cons (.int .i64) (.nil)))
abbrev e3s:Ty:=.cons (.flt .f32) (.cons (.bool) (.nil))
noncomputable def g1r (c d e g a b) :=a0m tab eqs [(90,a0a A90 R90 c d),(44,a0a A44 R44 e g),(179,a0a d9G e3r a b)] 29 [.tmp 6,.tmp 7] [] [] [] [] []
def g1s (c:KA A90) (d:GA A90 R90) (e:KA A44) (g:GA A44 R44) (a:KA d9G) (b:GA d9G e3r) (x:Den d9I):OD e3s:=bif c (x.1,()) then bif !(d (x.1,())).1 then some (0,false,())else bif fgt .f32 x.2.1 0||feq .f32 x.2.1 0 then bif !(flt .f32 x.2.1 1120403456||feq .f32 x.2.1 1120403456) then some (0,false,())else bif e (x.2.2.1,0,180,()) then bif !(g (x.2.2.1,0,180,())).1 then some (0,false,())else bif a x then some ((b x).1,true,())else none else none else some (0,false,())else none
theorem g1t (c d e g a b x) :a0t (g1r c d e g a b) (a0b Tryz.f111) (a1a e3s) (a0M d9I x) []=g1s c d e g a b x:=by kernel_rfl
def f5W (x:Den d9I):OD e3s:=g1s K90 G90 K44 G44 f5U f5V x
def f2p (x:Den d9I):Bool:=(f5W x).isSome
def f2q (x:Den d9I):Den e3s:=(f5W x).getD (zero e3s)
theorem f2r:a0k Tryz.prog (111,a0a d9I e3s f2p f2q):=fnO (.cons f1K (.cons a7a (.cons f2o .nil))) Tryz.func111 (g1t K90 G90 K44 G44 f5U f5V)
abbrev A57:Ty:=.cons (S46) (.nil)
abbrev R57:Ty:=.cons (.flt .f32) (.nil)
noncomputable def g6y (a b c d e g h i) :=a0m tab eqs [(110,a0a c9J d6R a b),(112,a0a c9K d6S c d),(113,a0a c9L d6V e g),(111,a0a d9I e3s h i)] 26 [.tmp 2] [] [] [] [] []
def r57 (a:KA c9J) (b:GA c9J d6R) (c:KA c9K) (d:GA c9K d6S) (e:KA c9L) (g:GA c9L d6V) (h:KA d9I) (i:GA d9I e3s) (x:Den A57):OD R57:=bif a (x.1.2.2.2.2.1,()) then let j:=b (x.1.2.2.2.2.1,());bif decide (j.1<0) then some (0,())else bif c (x.1.2.2.2.2.1,()) then bif e (x.1.2.2.2.1,j) then let k:=d (x.1.2.2.2.2.1,());let l:=g (x.1.2.2.2.1,j);bif h (x.1.1.1,k.1,l) then some ((i (x.1.1.1,k.1,l)).1,())else none else none else none else none
theorem g6z (a b c d e g h i x) :a0t (g6y a b c d e g h i) (a0b Tryz.f57) (a1a R57) (a0M A57 x) []=r57 a b c d e g h i x:=by kernel_rfl
def F57 (x:Den A57):OD R57:=r57 e3g d3n e3l d9B e3o d9D f2p f2q x
def K57 (x:Den A57):Bool:=(F57 x).isSome
def G57 (x:Den A57):Den R57:=(F57 x).getD (zero R57)
theorem f2s:a0k Tryz.prog (57,a0a A57 R57 K57 G57):=fnO (.cons e3h (.cons e3m (.cons e3p (.cons f2r .nil)))) Tryz.func57 (g6z e3g d3n e3l d9B e3o d9D f2p f2q)
abbrev d9J:Ty:=.cons (.int .i64) (.nil)
abbrev e3t:Ty:=.cons (.cpx .f64) (.nil)
abbrev a9n:Type:=(((Nat×Nat)×(Int×Unit))×Unit)
def b6S:ShS:=⟨[(3,.one (.cpx .f64)),(4,.one (.int .i64))],[],0,0⟩
abbrev c0P:Type:=(((Nat×Nat)×Unit)×Unit)
def b6T:ShS:=⟨[(3,.one (.cpx .f64))],[],0,0⟩
noncomputable def f2t (a b c d e g) :=a0m tab eqs [(176,a0a c5O d3q a b),(177,a0a c2f c9I c d)] 14 [.tmp 2] [] [] [(3,a1Q [3,4] [] 0 [3] [] b6S b6T e g)] [] []
noncomputable def d3w:Code:=(a0p (a0b Tryz.f109)).getD 0 .skip
def c0Q (c:KA c5O) (d:GA c5O d3q) (a:KA c2f) (b:GA c2f c9I) (f:a9n->Option (c0P)) (v:a9n):Option (c0P):=bif decide (v.1.2.1>0) then bif a (v.1.1,(4607181046959943561,4580687535080594718),()) then f ((((b (v.1.1,(4607181046959943561,4580687535080594718),())).1,wrap .i64 (v.1.2.1-1),()),()))else none else some ((v.1.1,()),())
theorem d9K (a b c d e g f v) :EBk (f2t a b c d e g) d3w (a0z [3,4] [] 0 [3] [] (atS b6S f) (a4X b6T)) (mkS b6S v)=c0Q a b c d f v:=by kernel_rfl
def c5U (v:a9n):Nat:=v.1.2.1.natAbs+1000
def d3x (v:a9n):Option (c0P):=a1t (c0Q d6T d6U c8o c8p) (c5U v) v
def b6U (v:a9n):Bool:=(d3x v).isSome
def b6V (v:a9n):c0P:=(d3x v).getD (((0,0),()),())
def g1u (a:KA c5O) (b:GA c5O d3q) (e:KA c2f) (g:GA c2f c9I) (c:a9n->Bool) (d:a9n->c0P) (x:Den d9J):OD e3t:=bif a x then let i:=b x;let h:=(((4607182418800017408,0),i),());bif c h then some (d h).1 else none else none
theorem g1v (a b c d e g x) :a0t (f2t a b c d e g) (a0b Tryz.f109) (a1a e3t) (a0M d9J x) []=g1u a b c d e g x:=by kernel_rfl
def f5X (x:Den d9J):OD e3t:=g1u d6T d6U c8o c8p b6U b6V x
def f5Y (x:Den d9J):Bool:=(f5X x).isSome
def f5Z (x:Den d9J):Den e3t:=(f5X x).getD (zero e3t)
theorem f2u:a0k Tryz.prog (109,a0a d9J e3t f5Y f5Z):=a1d (a0v mixed a0x a0w (.cons e3n (.cons e3d .nil))) (a1H Tryz.func109 rfl rfl rfl (by kernel_rfl) (a0y (l:=[d3w]) (by kernel_rfl) (.cons (a0o rfl (a0q (sh:=b6S) (shX:=b6T) (fun f v=>d9K d6T d6U c8o c8p b6U b6V f v) c5U (((0,0),()),()))) (.nil)))) fun x=>g1v d6T d6U c8o c8p b6U b6V x
abbrev d9L:Ty:=.cons (.cpx .f64) (.cons (.flt .f32) (.nil))
abbrev e3u:Ty:=.cons (.cpx .f32) (.nil)
noncomputable def g1w:Env:=a0m tab eqs [] 16 [.tmp 4] [] [] [] [] []
def g1x (x:Den d9L):OD e3u:=let a:=a0N .f64 .f32 x.1.1;bif a.1 then let b:=a0N .f64 .f32 x.1.2;bif b.1 then some ((a0g .mul .f32 a.2 x.2.1,a0g .mul .f32 b.2 x.2.1),())else none else none
theorem g1y (x) :a0t (g1w) (a0b Tryz.f108) (a1a e3u) (a0M d9L x) []=g1x x:=by kernel_rfl
def f6a (x:Den d9L):OD e3u:=g1x x
def f6b (x:Den d9L):Bool:=(f6a x).isSome
def f6c (x:Den d9L):Den e3u:=(f6a x).getD (zero e3u)
theorem f2v:a0k Tryz.prog (108,a0a d9L e3u f6b f6c):=fnO .nil Tryz.func108 g1y
abbrev A56:Ty:=.cons (.int .i64) (.cons (.flt .f32) (.nil))
abbrev R56:Ty:=.cons (.cpx .f32) (.cons (.bool) (.nil))
noncomputable def g6A (a b c d e g) :=a0m tab eqs [(107,a0a c3a c9D a b),(109,a0a d9J e3t c d),(108,a0a d9L e3u e g)] 13 [.tmp 4,.tmp 5] [] [] [] [] []
def r56 (a:KA c3a) (b:GA c3a c9D) (c:KA d9J) (d:GA d9J e3t) (e:KA d9L) (g:GA d9L e3u) (x:Den A56):OD R56:=bif a x.2 then bif !(b x.2).1 then some ((0,0),false,())else bif c (x.1,()) then let h:=d (x.1,());bif e (h.1,x.2) then some ((g (h.1,x.2)).1,true,())else none else none else none
theorem g6B (a b c d e g x) :a0t (g6A a b c d e g) (a0b Tryz.f56) (a1a R56) (a0M A56 x) []=r56 a b c d e g x:=by kernel_rfl
def F56 (x:Den A56):OD R56:=r56 d6P d6Q f5Y f5Z f6b f6c x
def K56 (x:Den A56):Bool:=(F56 x).isSome
def G56 (x:Den A56):Den R56:=(F56 x).getD (zero R56)
theorem f2w:a0k Tryz.prog (56,a0a A56 R56 K56 G56):=fnO (.cons d2v (.cons f2u (.cons f2v .nil))) Tryz.func56 (g6B d6P d6Q f5Y f5Z f6b f6c)
abbrev d9M:Ty:=.cons (.cpx .f32) (.cons (.cpx .f32) (.nil))
abbrev e3v:Ty:=.cons (.cpx .f32) (.cons (.bool) (.nil))
noncomputable def g1z (a b) :=a0m tab eqs [(45,a0a A45 R45 a b)] 25 [.tmp 4,.tmp 5] [] [] [] [] []
def g1A (a:KA A45) (b:GA A45 R45) (x:Den d9M):OD e3v:=bif a (x.1,()) then bif !(b (x.1,())).1 then some ((0,0),false,())else bif a x.2 then bif !(b x.2).1 then some ((0,0),false,())else some ((a0g .sub .f32 x.1.1 x.2.1.1,a0g .sub .f32 x.1.2 x.2.1.2),true,())else none else none
theorem g1B (a b x) :a0t (g1z a b) (a0b Tryz.f114) (a1a e3v) (a0M d9M x) []=g1A a b x:=by kernel_rfl
def f6d (x:Den d9M):OD e3v:=g1A K45 G45 x
def f6e (x:Den d9M):Bool:=(f6d x).isSome
def f6f (x:Den d9M):Den e3v:=(f6d x).getD (zero e3v)
theorem f2x:a0k Tryz.prog (114,a0a d9M e3v f6e f6f):=fnO (.cons b6b .nil) Tryz.func114 (g1B K45 G45)
abbrev A58:Ty:=.cons (.cpx .f32) (.cons (.cpx .f32) (.cons (.int .i64) (.nil)))
abbrev R58:Ty:=.cons (S63) (.cons (.bool) (.nil))
noncomputable def g6C (a b c d e g h i) :=a0m tab eqs [(114,a0a d9M e3v a b),(110,a0a c9J d6R c d),(112,a0a c9K d6S e g),(113,a0a c9L d6V h i)] 32 [.cell 6 64,.tmp 7] [] [] [] [] []
def r58 (a:KA d9M) (b:GA d9M e3v) (c:KA c9J) (d:GA c9J d6R) (e:KA c9K) (g:GA c9K d6S) (h:KA c9L) (i:GA c9L d6V) (x:Den A58):OD R58:=bif a (x.1,x.2.1,()) then let j:=b (x.1,x.2.1,());bif c (j.1,()) then bif !j.2.1 then some ((0,0,()),false,())else let k:=d (j.1,());bif decide (k.1<0) then some ((0,0,()),false,())else bif e (j.1,()) then bif h (x.2.2.1,k) then some (((g (j.1,())).1,i (x.2.2.1,k)),true,())else none else none else none else none
theorem g6D (a b c d e g h i x) :a0t (g6C a b c d e g h i) (a0b Tryz.f58) (a1a R58) (a0M A58 x) []=r58 a b c d e g h i x:=by kernel_rfl
def F58 (x:Den A58):OD R58:=r58 f6e f6f e3g d3n e3l d9B e3o d9D x
def K58 (x:Den A58):Bool:=(F58 x).isSome
def G58 (x:Den A58):Den R58:=(F58 x).getD (zero R58)
theorem g1C:a0k Tryz.prog (58,a0a A58 R58 K58 G58):=fnO (.cons f2x (.cons e3h (.cons e3m (.cons e3p .nil)))) Tryz.func58 (g6D f6e f6f e3g d3n e3l d9B e3o d9D)
abbrev A19:Ty:=.cons (S46) (.nil)
abbrev R19:Ty:=.cons (S63) (.cons (.bool) (.nil))
noncomputable def g6E (a b c d e g) :=a0m tab eqs [(57,a0a A57 R57 a b),(56,a0a A56 R56 c d),(58,a0a A58 R58 e g)] 25 [.cell 2 64,.tmp 3] [] [] [] [] []
def r19 (a:KA A57) (b:GA A57 R57) (c:KA A56) (d:GA A56 R56) (e:KA A58) (g:GA A58 R58) (x:Den A19):OD R19:=bif a x then let h:=b x;bif c (x.1.2.2.2.1,h) then let i:=d (x.1.2.2.2.1,h);bif !i.2.1 then some ((0,0,()),false,())else let j:=(x.1.2.2.2.2.1,i.1,x.1.2.2.2.1,());bif e j then some (g j)else none else none else none
theorem g6F (a b c d e g x) :a0t (g6E a b c d e g) (a0b Tryz.f19) (a1a R19) (a0M A19 x) []=r19 a b c d e g x:=by kernel_rfl
def F19 (x:Den A19):OD R19:=r19 K57 G57 K56 G56 K58 G58 x
def K19 (x:Den A19):Bool:=(F19 x).isSome
def G19 (x:Den A19):Den R19:=(F19 x).getD (zero R19)
theorem e6v:a0k Tryz.prog (19,a0a A19 R19 K19 G19):=fnO (.cons f2s (.cons f2w (.cons g1C .nil))) Tryz.func19 (g6F K57 G57 K56 G56 K58 G58)
abbrev A20:Ty:=.cons (S68) (.cons (S63) (.nil))
abbrev R20:Ty:=.cons (.bool) (.nil)
noncomputable def g6G:Env:=a0m tab eqs [] 57 [.tmp 4] [] [] [] [] []
def r20 (x:Den A20):OD R20:=bif decide (x.2.1.2.1 ≥ x.1.2.2.2.1) then bif decide (x.2.1.2.1<=x.1.2.2.2.2.1) then let a:=a0g .sub .f32 x.1.2.1 1065353216;bif fgt .f32 x.2.1.1 a||feq .f32 x.2.1.1 a then let b:=a0g .add .f32 x.1.2.2.1 1065353216;bif flt .f32 x.2.1.1 b||feq .f32 x.2.1.1 b then some (true,())else some (false,())else some (false,())else let a:=a0g .sub .f32 x.1.2.1 1065353216;bif fgt .f32 x.2.1.1 a||feq .f32 x.2.1.1 a then let b:=a0g .add .f32 x.1.2.2.1 1065353216;bif flt .f32 x.2.1.1 b||feq .f32 x.2.1.1 b then some (decide ((wrap .u64 ((wrap .u64 x.2.1.2.1)-(wrap .u64 x.1.2.2.2.2.1)))<=5),())else some (false,())else some (false,())else bif decide (x.2.1.2.1<=x.1.2.2.2.2.1) then let a:=a0g .sub .f32 x.1.2.1 1065353216;bif fgt .f32 x.2.1.1 a||feq .f32 x.2.1.1 a then let b:=a0g .add .f32 x.1.2.2.1 1065353216;bif flt .f32 x.2.1.1 b||feq .f32 x.2.1.1 b then bif decide ((wrap .u64 ((wrap .u64 x.1.2.2.2.1)-(wrap .u64 x.2.1.2.1)))<=5) then some (true,())else some (false,())else some (false,())else some (false,())else let a:=a0g .sub .f32 x.1.2.1 1065353216;bif fgt .f32 x.2.1.1 a||feq .f32 x.2.1.1 a then let b:=a0g .add .f32 x.1.2.2.1 1065353216;bif flt .f32 x.2.1.1 b||feq .f32 x.2.1.1 b then let c:=wrap .u64 x.2.1.2.1;bif decide ((wrap .u64 ((wrap .u64 x.1.2.2.2.1)-c))<=5) then some (decide ((wrap .u64 (c-(wrap .u64 x.1.2.2.2.2.1)))<=5),())else some (false,())else some (false,())else some (false,())
theorem g6H (x) :a0t (g6G) (a0b Tryz.f20) (a1a R20) (a0M A20 x) []=r20 x:=by kernel_rfl
def F20 (x:Den A20):OD R20:=r20 x
def K20 (x:Den A20):Bool:=(F20 x).isSome
def G20 (x:Den A20):Den R20:=(F20 x).getD (zero R20)
theorem e6w:a0k Tryz.prog (20,a0a A20 R20 K20 G20):=fnO .nil Tryz.func20 g6H
abbrev A14:Ty:=.cons (S46) (.nil)
abbrev R14:Ty:=.cons (.bool) (.nil)
noncomputable def g6I (a b c d e g h i j k l m n o p q) :=a0m tab eqs [(23,a0a A23 R23 a b),(42,a0a A42 R42 c d),(43,a0a A43 R43 e g),(44,a0a A44 R44 h i),(45,a0a A45 R45 j k),(46,a0a A46 R46 l m),(19,a0a A19 R19 n o),(20,a0a A20 R20 p q)] 100 [.tmp 2] [] [] [] [] []
def r14 (m:KA A23) (n:GA A23 R23) (o:KA A42) (p:GA A42 R42) (q:KA A43) (r:GA A43 R43) (d:KA A44) (e:GA A44 R44) (s:KA A45) (t:GA A45 R45) (u:KA A46) (w:GA A46 R46) (g:KA A19) (h:GA A19 R19) (i:KA A20) (j:GA A20 R20) (x:Den A14):OD R14:=bif m (x.1.2.2.1,()) then bif o (x.1.1,()) then bif !(p (x.1.1,())).1 then some (false,())else bif q (x.1.2.1,()) then bif !(r (x.1.2.1,())).1 then some (false,())else bif !(n (x.1.2.2.1,())).2.1 then some (false,())else bif d (x.1.2.2.2.1,0,359,()) then bif !(e (x.1.2.2.2.1,0,359,())).1 then some (false,())else bif s (x.1.2.2.2.2.1,()) then bif !(t (x.1.2.2.2.2.1,())).1 then some (false,())else let y:=(length x.1.1.2.2.1:Int);let z:=wrap .i64 (y-1);let B:=(x.1.2.2.2.2.2.1,-1,z,());bif d B then bif !(e B).1 then some (false,())else bif u (x.1.2.2.2.2.2.2.1,()) then bif !(w (x.1.2.2.2.2.2.2.1,())).1 then some (false,())else bif decide ((length x.1.2.2.2.2.2.2.2.1:Int)>300) then some (false,())else let A:=(length x.1.2.2.2.2.2.2.1:Int);bif decide (A>0) then let a:=wrap .i64 (A-1);bif decide (0<=a)&&decide (a<A) then bif decide ((getD x.1.2.2.2.2.2.2.1 (toNat a) (zero S97)).2.1>x.1.2.1) then some (false,())else bif decide (x.1.2.2.2.2.2.1 ≥ 0) then bif g x then let b:=h x;bif b.2.1 then bif decide (0<=x.1.2.2.2.2.2.1)&&decide (x.1.2.2.2.2.2.1<y) then let k:=getD x.1.1.2.2.1 (toNat x.1.2.2.2.2.2.1) (zero S68);bif i (k,b.1,()) then some (j (k,b.1,()))else none else none else some (false,())else none else some (true,())else none else bif decide (x.1.2.2.2.2.2.1 ≥ 0) then bif g x then let c:=h x;bif c.2.1 then bif decide (0<=x.1.2.2.2.2.2.1)&&decide (x.1.2.2.2.2.2.1<y) then let l:=getD x.1.1.2.2.1 (toNat x.1.2.2.2.2.2.1) (zero S68);bif i (l,c.1,()) then some (j (l,c.1,()))else none else none else some (false,())else none else some (true,())else none else none else none else none else none else none else none
theorem g6J (a b c d e g h i j k l m n o p q x) :a0t (g6I a b c d e g h i j k l m n o p q) (a0b Tryz.f14) (a1a R14) (a0M A14 x) []=r14 a b c d e g h i j k l m n o p q x:=by kernel_rfl
def F14 (x:Den A14):OD R14:=r14 K23 G23 K42 G42 K43 G43 K44 G44 K45 G45 K46 G46 K19 G19 K20 G20 x
def K14 (x:Den A14):Bool:=(F14 x).isSome
def G14 (x:Den A14):Den R14:=(F14 x).getD (zero R14)
theorem g1D:a0k Tryz.prog (14,a0a A14 R14 K14 G14):=a1d (a0v mixed a0x a0w (.cons f1M (.cons g0C (.cons d9l (.cons a7a (.cons b6b (.cons g0D (.cons e6v (.cons e6w .nil))))))))) (a1H Tryz.func14 rfl rfl rfl (by kernel_rfl) (a0O (by kernel_rfl))) fun x=>g6J K23 G23 K42 G42 K43 G43 K44 G44 K45 G45 K46 G46 K19 G19 K20 G20 x
abbrev A25:Ty:=.cons (.int .i64) (.nil)
abbrev R25:Ty:=.cons (.str) (.nil)
noncomputable def g6K (a b) :=a0m tab eqs [(65,a0a A65 R65 a b)] 5 [.tmp 2] [] [] [] [] []
def r25 (a:KA A65) (b:GA A65 R65) (x:Den A25):OD R25:=bif a x then some (b x)else none
theorem g6L (a b x) :a0t (g6K a b) (a0b Tryz.f25) (a1a R25) (a0M A25 x) []=r25 a b x:=by kernel_rfl
def F25 (x:Den A25):OD R25:=r25 K65 G65 x
def K25 (x:Den A25):Bool:=(F25 x).isSome
def G25 (x:Den A25):Den R25:=(F25 x).getD (zero R25)
theorem f2y:a0k Tryz.prog (25,a0a A25 R25 K25 G25):=fnO (.cons f7w .nil) Tryz.func25 (g6L K65 G65)
abbrev A17:Ty:=.cons (.str) (.nil)
abbrev R17:Ty:=.cons (.int .i64) (.cons (.bool) (.nil))
abbrev a9Q:Type:=((ByteArray×(Int×(Int×Unit)))×Unit)
def c5V:ShS:=⟨[(0,.one (.str)),(4,.one (.int .i64)),(5,.one (.int .i64))],[],0,0⟩
abbrev d3y:Type:=((ByteArray×(Int×Unit))×Unit)
def c3r:ShS:=⟨[(0,.one (.str)),(4,.one (.int .i64))],[],0,0⟩
abbrev d3z:Type:=((Int×(Bool×Unit))×Unit)
def c3s:ShS:=⟨[(2,.one (.int .i64)),(3,.one (.bool))],[],0,0⟩
noncomputable def g4F (a b c d e g) :=a0m tab eqs [(25,a0a A25 R25 a b)] 47 [.tmp 2,.tmp 3] [] [] [(5,a2d [0,4,5] [] 0 [0,4] [] c5V c3r c3s c e d g)] [] []
noncomputable def e3w:Code:=(a0p (a0b Tryz.f17)).getD 0 .skip
def c8q (c:KA A25) (d:GA A25 R25) (f:a9Q->Option (d3y⊕d3z)) (v:a9Q):Option (d3y⊕d3z):=let b:=v.1.2.2.1<(ByteArray.size v.1.1:Int);bif decide b then let a:=decide (0<=v.1.2.2.1)&&decide b;bif a then bif decide (a1z v.1.1 v.1.2.2.1<48) then some (Sum.inr ((0,false,()),()))else bif a then bif decide (a1z v.1.1 v.1.2.2.1>57) then some (Sum.inr ((0,false,()),()))else bif a then f (((v.1.1,wrap .i64 ((wrap .i64 (v.1.2.1*10))+(wrap .i64 (wrap .u8 (a1z v.1.1 v.1.2.2.1-48)))),wrap .i64 (v.1.2.2.1+1),()),()))else none else none else none else some (Sum.inl ((v.1.1,v.1.2.1,()),()))
theorem e6x (a b c d e g f v) :EBk (g4F a b c d e g) e3w (a0z [0,4,5] [] 0 [0,4] [] (atS c5V f) (a6c c3r c3s)) (mkS c5V v)=c8q a b f v:=by kernel_rfl
def c8r (v:a9Q):Nat:=v.1.1.size+v.1.2.1.natAbs+v.1.2.2.1.natAbs+1000
def c3t (v:a9Q):Option (d3y⊕d3z):=a1t (c8q K25 G25) (c8r v) v
def a9o (v:a9Q):Bool:=(c3t v).isSome
def a9p (v:a9Q):Bool:=isR (c3t v)
def b3l (v:a9Q):d3y:=xOf ((ByteArray.empty,(0,())),()) (c3t v)
def b3m (v:a9Q):d3z:=yOf ((0,(false,())),()) (c3t v)
def r17 (b:KA A25) (c:GA A25 R25) (d:a9Q->Bool) (e:a9Q->d3y) (g:a9Q->Bool) (h:a9Q->d3z) (x:Den A17):OD R17:=let i:=(ByteArray.size x.1:Int);bif i==0 then some (0,false,())else bif decide (i>10) then some (0,false,())else bif d ((x.1,0,0,()),()) then bif g ((x.1,0,0,()),()) then some (h ((x.1,0,0,()),())).1 else let a:=e ((x.1,0,0,()),());bif decide (a.1.2.1>1000000000) then some (0,false,())else bif b a.1.2 then bif !a2F (c a.1.2).1 a.1.1 then some (0,false,())else some (a.1.2.1,true,())else none else none
theorem g6M (a b c d e g x) :a0t (g4F a b c d e g) (a0b Tryz.f17) (a1a R17) (a0M A17 x) []=r17 a b c d e g x:=by kernel_rfl
def F17 (x:Den A17):OD R17:=r17 K25 G25 a9o b3l a9p b3m x
def K17 (x:Den A17):Bool:=(F17 x).isSome
def G17 (x:Den A17):Den R17:=(F17 x).getD (zero R17)
theorem g1E:a0k Tryz.prog (17,a0a A17 R17 K17 G17):=a1d (a0v mixed a0x a0w (.cons f2y .nil)) (a1H Tryz.func17 rfl rfl rfl (by kernel_rfl) (a0y (l:=[e3w]) (by kernel_rfl) (.cons (a0o rfl (a0u (sh:=c5V) (shX:=c3r) (shR:=c3s) (fun f v=>e6x K25 G25 a9o b3l a9p b3m f v) c8r ((ByteArray.empty,(0,())),()) ((0,(false,())),()))) (.nil)))) fun x=>g6M K25 G25 a9o b3l a9p b3m x
abbrev c5W:Ty:=.cons (.int .i64) (.nil)
abbrev d3A:Ty:=.cons (.bool) (.nil)
noncomputable def g1F (a b) :=a0m tab eqs [(44,a0a A44 R44 a b)] 5 [.tmp 2] [] [] [] [] []
def g1G (a:KA A44) (b:GA A44 R44) (x:Den c5W):OD d3A:=let c:=(x.1,-1000000000,1000000000,());bif a c then some (b c)else none
theorem g1H (a b x) :a0t (g1F a b) (a0b Tryz.f237) (a1a d3A) (a0M c5W x) []=g1G a b x:=by kernel_rfl
def f6g (x:Den c5W):OD d3A:=g1G K44 G44 x
def d6W (x:Den c5W):Bool:=(f6g x).isSome
def d6X (x:Den c5W):Den d3A:=(f6g x).getD (zero d3A)
theorem e3x:a0k Tryz.prog (237,a0a c5W d3A d6W d6X):=fnO (.cons a7a .nil) Tryz.func237 (g1H K44 G44)
abbrev d3B:Ty:=.cons (.int .i64) (.nil)
abbrev d6Y:Ty:=.cons (.str) (.nil)
abbrev a9q:Type:=((Int×(ByteArray×(ByteArray×Unit)))×Unit)
def b6W:ShS:=⟨[(0,.one (.int .i64)),(3,.one (.str)),(4,.one (.str))],[],0,0⟩
abbrev c0R:Type:=((Int×(ByteArray×(ByteArray×Unit)))×Unit)
def b6X:ShS:=⟨[(0,.one (.int .i64)),(3,.one (.str)),(4,.one (.str))],[],0,0⟩
noncomputable def f2z (a b c d e g) :=a0m tab eqs [(237,a0a c5W d3A a b),(25,a0a A25 R25 c d)] 28 [.tmp 2] [] [] [(7,a1Q [0,3,4] [] 0 [0,3,4] [] b6W b6X e g)] [] []
noncomputable def d3C:Code:=(a0p (a0b Tryz.f236)).getD 0 .skip
def c5X (a:KA c5W) (b:GA c5W d3A) (c:KA A25) (d:GA A25 R25) (f:a9q->Option (c0R)) (v:a9q):Option (c0R):=bif decide ((ByteArray.size v.1.2.2.1:Int)<3) then bif decide (ByteArray.size { data:=#[48] }+ByteArray.size v.1.2.2.1<=9223372036854775807) then f (((v.1.1,v.1.2.1,{ data:=#[48] }++v.1.2.2.1,()),()))else none else some (v)
theorem d9N (a b c d e g f v) :EBk (f2z a b c d e g) d3C (a0z [0,3,4] [] 0 [0,3,4] [] (atS b6W f) (a4X b6X)) (mkS b6W v)=c5X a b c d f v:=by kernel_rfl
def d3D (v:a9q):Nat:=v.1.1.natAbs+v.1.2.1.size+v.1.2.2.1.size+1000
def d3E (v:a9q):Option (c0R):=a1t (c5X d6W d6X K25 G25) (d3D v) v
def a8I (v:a9q):Bool:=(d3E v).isSome
def a2f (v:a9q):c0R:=(d3E v).getD ((0,(ByteArray.empty,(ByteArray.empty,()))),())
def g1I (e:KA c5W) (g:GA c5W d3A) (b:KA A25) (c:GA A25 R25) (h:a9q->Bool) (i:a9q->c0R) (x:Den d3B):OD d6Y:=bif e x then bif !(g x).1 then some ({ data:=#[] },())else bif decide (x.1<0) then let m:=wrap .i64 (0-x.1);bif b (Int.tmod m 1000,()) then let r:=c (Int.tmod m 1000,());let n:=((m,{ data:=#[45] },r),());bif h n then let d:=i n;let o:=wrap .i64 (Int.tdiv d.1.1 1000);bif b (o,()) then let j:=c (o,());bif decide (ByteArray.size d.1.2.1+ByteArray.size j.1<=9223372036854775807) then let a:=d.1.2.1++j.1;bif decide (ByteArray.size a+ByteArray.size { data:=#[46] }<=9223372036854775807) then let k:=a++{ data:=#[46] };bif decide (ByteArray.size k+ByteArray.size d.1.2.2.1<=9223372036854775807) then some (k++d.1.2.2.1,())else none else none else none else none else none else none else bif b (Int.tmod x.1 1000,()) then let s:=c (Int.tmod x.1 1000,());let p:=((x.1,{ data:=#[] },s),());bif h p then let l:=i p;let d:=wrap .i64 (Int.tdiv l.1.1 1000);bif b (d,()) then let q:=c (d,());bif decide (ByteArray.size l.1.2.1+ByteArray.size q.1<=9223372036854775807) then let j:=l.1.2.1++q.1;bif decide (ByteArray.size j+ByteArray.size { data:=#[46] }<=9223372036854775807) then let a:=j++{ data:=#[46] };bif decide (ByteArray.size a+ByteArray.size l.1.2.2.1<=9223372036854775807) then some (a++l.1.2.2.1,())else none else none else none else none else none else none else none
theorem g1J (a b c d e g x) :a0t (f2z a b c d e g) (a0b Tryz.f236) (a1a d6Y) (a0M d3B x) []=g1I a b c d e g x:=by kernel_rfl
def f6h (x:Den d3B):OD d6Y:=g1I d6W d6X K25 G25 a8I a2f x
def d9O (x:Den d3B):Bool:=(f6h x).isSome
def e6y (x:Den d3B):Den d6Y:=(f6h x).getD (zero d6Y)
theorem f2A:a0k Tryz.prog (236,a0a d3B d6Y d9O e6y):=a1d (a0v mixed a0x a0w (.cons e3x (.cons f2y .nil))) (a1H Tryz.func236 rfl rfl rfl (by kernel_rfl) (a0y (l:=[d3C]) (by kernel_rfl) (.cons (a0o rfl (a0q (sh:=b6W) (shX:=b6X) (fun f v=>d9N d6W d6X K25 G25 a8I a2f f v) d3D ((0,(ByteArray.empty,(ByteArray.empty,()))),()))) (.nil)))) fun x=>g1J d6W d6X K25 G25 a8I a2f x
abbrev d9P:Ty:=.cons (.str) (.nil)
abbrev d6Z:Ty:=.cons (.int .i64) (.cons (.bool) (.nil))
abbrev a3e:Type:=((ByteArray×(ByteArray×(Int×(Int×(Int×(Int×Unit))))))×Unit)
def b0h:ShS:=⟨[(0,.one (.str)),(4,.one (.str)),(5,.one (.int .i64)),(6,.one (.int .i64)),(7,.one (.int .i64)),(8,.one (.int .i64))],[],0,0⟩
abbrev b1z:Type:=((ByteArray×(Int×(Int×Unit)))×Unit)
def b1A:ShS:=⟨[(0,.one (.str)),(5,.one (.int .i64)),(7,.one (.int .i64))],[],0,0⟩
abbrev b1B:Type:=((Int×(Bool×Unit))×Unit)
def b1C:ShS:=⟨[(2,.one (.int .i64)),(3,.one (.bool))],[],0,0⟩
noncomputable def f2B (a b c d e g h i) :=a0m tab eqs [(235,a0a e1L e9T a b),(236,a0a d3B d6Y c d)] 69 [.tmp 2,.tmp 3] [] [] [(10,a2d [0,4,5,6,7,8] [] 0 [0,5,7] [] b0h b1A b1C e h g i)] [] []
noncomputable def c5Y:Code:=(a0p (a0b Tryz.f191)).getD 0 .skip
def b6Y (b:KA e1L) (c:GA e1L e9T) (d:KA d3B) (e:GA d3B d6Y) (f:a3e->Option (b1z⊕b1B)) (v:a3e):Option (b1z⊕b1B):=let g:=v.1.2.2.2.2.2.1<(ByteArray.size v.1.2.1:Int);bif decide g then bif v.1.2.2.2.2.2.1==v.1.2.2.2.1 then f (((v.1.1,v.1.2.1,v.1.2.2.1,v.1.2.2.2.1,v.1.2.2.2.2.1,wrap .i64 (v.1.2.2.2.2.2.1+1),()),()))else let a:=decide (0<=v.1.2.2.2.2.2.1)&&decide g;bif a then bif decide (a1z v.1.2.1 v.1.2.2.2.2.2.1<48) then some (Sum.inr ((0,false,()),()))else bif a then bif decide (a1z v.1.2.1 v.1.2.2.2.2.2.1>57) then some (Sum.inr ((0,false,()),()))else bif a then f (((v.1.1,v.1.2.1,v.1.2.2.1,v.1.2.2.2.1,wrap .i64 ((wrap .i64 (v.1.2.2.2.2.1*10))+(wrap .i64 (wrap .u8 (a1z v.1.2.1 v.1.2.2.2.2.2.1-48)))),wrap .i64 (v.1.2.2.2.2.2.1+1),()),()))else none else none else none else some (Sum.inl ((v.1.1,v.1.2.2.1,v.1.2.2.2.2.1,()),()))
theorem d3F (a b c d e g h i f v) :EBk (f2B a b c d e g h i) c5Y (a0z [0,4,5,6,7,8] [] 0 [0,5,7] [] (atS b0h f) (a6c b1A b1C)) (mkS b0h v)=b6Y a b c d f v:=by kernel_rfl
def b6Z (v:a3e):Nat:=v.1.1.size+v.1.2.1.size+v.1.2.2.1.natAbs+v.1.2.2.2.1.natAbs+v.1.2.2.2.2.1.natAbs+v.1.2.2.2.2.2.1.natAbs+1000
def b1D (v:a3e):Option (b1z⊕b1B):=a1t (b6Y e5j b2O d9O e6y) (b6Z v) v
def a6f (v:a3e):Bool:=(b1D v).isSome
def a7L (v:a3e):Bool:=isR (b1D v)
def a2N (v:a3e):b1z:=xOf ((ByteArray.empty,(0,(0,()))),()) (b1D v)
def b0i (v:a3e):b1B:=yOf ((0,(false,())),()) (b1D v)
def g1K (b:KA e1L) (c:GA e1L e9T) (d:KA d3B) (e:GA d3B d6Y) (g:a3e->Bool) (h:a3e->b1z) (i:a3e->Bool) (j:a3e->b1B) (x:Den d9P):OD d6Z:=bif !a2F x.1 { data:=#[] } then let m:=(ByteArray.size x.1:Int);bif decide (0<=0)&&decide (0<m) then bif a1z x.1 0==45 then bif decide (0<=1)&&decide (1<=m)&&decide (m<=m) then let q:=(ByteArray.extract x.1 (toNat 1) (toNat m),46,());bif b q then let a:=c q;bif decide (a.1<1) then some (0,false,())else bif (↑(ByteArray.size (ByteArray.extract x.1 (toNat 1) (toNat m))):Int) != (wrap .i64 (a.1+4)) then some (0,false,())else bif decide (a.1>7) then some (0,false,())else let n:=((x.1,ByteArray.extract x.1 (toNat 1) (toNat m),-1,a.1,0,0,()),());bif g n then bif i n then some (j n).1 else let k:=h n;let l:=wrap .i64 (k.1.2.2.1*k.1.2.1);bif d (l,()) then bif !a2F (e (l,())).1 k.1.1 then some (0,false,())else some (l,true,())else none else none else none else none else bif b (x.1,46,()) then let a:=c (x.1,46,());bif decide (a.1<1) then some (0,false,())else bif m != (wrap .i64 (a.1+4)) then some (0,false,())else bif decide (a.1>7) then some (0,false,())else let o:=((x.1,x.1,1,a.1,0,0,()),());bif g o then bif i o then some (j o).1 else let k:=h o;let l:=wrap .i64 (k.1.2.2.1*k.1.2.1);bif d (l,()) then bif !a2F (e (l,())).1 k.1.1 then some (0,false,())else some (l,true,())else none else none else none else none else bif b (x.1,46,()) then let a:=c (x.1,46,());bif decide (a.1<1) then some (0,false,())else bif (ByteArray.size x.1:Int) != (wrap .i64 (a.1+4)) then some (0,false,())else bif decide (a.1>7) then some (0,false,())else let p:=((x.1,x.1,1,a.1,0,0,()),());bif g p then bif i p then some (j p).1 else let k:=h p;let l:=wrap .i64 (k.1.2.2.1*k.1.2.1);bif d (l,()) then bif !a2F (e (l,())).1 k.1.1 then some (0,false,())else some (l,true,())else none else none else none
theorem g1L (a b c d e g h i x) :a0t (f2B a b c d e g h i) (a0b Tryz.f191) (a1a d6Z) (a0M d9P x) []=g1K a b c d e g h i x:=by kernel_rfl
def f2C (x:Den d9P):OD d6Z:=g1K e5j b2O d9O e6y a6f a2N a7L b0i x
def e6z (x:Den d9P):Bool:=(f2C x).isSome
def c2g (x:Den d9P):Den d6Z:=(f2C x).getD (zero d6Z)
theorem f2D:a0k Tryz.prog (191,a0a d9P d6Z e6z c2g):=a1d (a0v mixed a0x a0w (.cons e9U (.cons f2A .nil))) (a1H Tryz.func191 rfl rfl rfl (by kernel_rfl) (a0y (l:=[c5Y]) (by kernel_rfl) (.cons (a0o rfl (a0u (sh:=b0h) (shX:=b1A) (shR:=b1C) (fun f v=>d3F e5j b2O d9O e6y a6f a2N a7L b0i f v) b6Z ((ByteArray.empty,(0,(0,()))),()) ((0,(false,())),()))) (.nil)))) fun x=>g1L e5j b2O d9O e6y a6f a2N a7L b0i x
abbrev d9Q:Ty:=.cons (.int .i64) (.nil)
abbrev e3y:Ty:=.cons (.flt .f64) (.nil)
noncomputable def g1M (a b) :=a0m tab eqs [(237,a0a c5W d3A a b)] 9 [.tmp 2] [] [] [] [] []
def g1N (a:KA c5W) (b:GA c5W d3A) (x:Den d9Q):OD e3y:=bif a x then bif !(b x).1 then some (0,())else some (a0g .quo .f64 (nearest .f64 x.1) 4652007308841189376,())else none
theorem g1O (a b x) :a0t (g1M a b) (a0b Tryz.f192) (a1a e3y) (a0M d9Q x) []=g1N a b x:=by kernel_rfl
def f6i (x:Den d9Q):OD e3y:=g1N d6W d6X x
def e6A (x:Den d9Q):Bool:=(f6i x).isSome
def d9R (x:Den d9Q):Den e3y:=(f6i x).getD (zero e3y)
theorem f2E:a0k Tryz.prog (192,a0a d9Q e3y e6A d9R):=fnO (.cons e3x .nil) Tryz.func192 (g1O d6W d6X)
abbrev c8s:Ty:=.cons (.slice (.str)) (.nil)
abbrev d3G:Ty:=.cons (.flt .f64) (.cons (.flt .f64) (.cons (.bool) (.nil)))
noncomputable def g1P (a b c d) :=a0m tab eqs [(191,a0a d9P d6Z a b),(192,a0a d9Q e3y c d)] 31 [.tmp 2,.tmp 3,.tmp 4] [] [] [] [] []
def g1Q (b:KA d9P) (c:GA d9P d6Z) (d:KA d9Q) (a:GA d9Q e3y) (x:Den c8s):OD d3G:=bif decide (0<=0)&&decide (0<(length x.1:Int)) then let h:=getD x.1 (toNat 0) (zero Ty.str);bif b (h,()) then bif decide (0<=1)&&decide (1<(length x.1:Int)) then let i:=getD x.1 (toNat 1) (zero Ty.str);bif b (i,()) then let e:=c (h,());bif d (e.1,()) then let g:=c (i,());bif d (g.1,()) then bif e.2.1 then some ((a (e.1,())).1,(a (g.1,())).1,g.2)else some ((a (e.1,())).1,(a (g.1,())).1,false,())else none else none else none else none else none else none
theorem g1R (a b c d x) :a0t (g1P a b c d) (a0b Tryz.f132) (a1a d3G) (a0M c8s x) []=g1Q a b c d x:=by kernel_rfl
def e9b (x:Den c8s):OD d3G:=g1Q e6z c2g e6A d9R x
def e6B (x:Den c8s):Bool:=(e9b x).isSome
def e6C (x:Den c8s):Den d3G:=(e9b x).getD (zero d3G)
theorem f2F:a0k Tryz.prog (132,a0a c8s d3G e6B e6C):=fnO (.cons f2D (.cons f2E .nil)) Tryz.func132 (g1R e6z c2g e6A d9R)
abbrev d9S:Ty:=.cons (.flt .f32) (.nil)
abbrev e3z:Ty:=.cons (.bool) (.nil)
noncomputable def g1S:Env:=a0m tab eqs [] 9 [.tmp 2] [] [] [] [] []
def g4G (x:Den d9S):OD e3z:=bif fgt .f32 x.1 0||feq .f32 x.1 0 then some (flt .f32 x.1 1065353216||feq .f32 x.1 1065353216,())else some (false,())
theorem g1T (x) :a0t (g1S) (a0b Tryz.f193) (a1a e3z) (a0M d9S x) []=g4G x:=by kernel_rfl
def g1U (x:Den d9S):OD e3z:=g4G x
def f6j (x:Den d9S):Bool:=(g1U x).isSome
def f6k (x:Den d9S):Den e3z:=(g1U x).getD (zero e3z)
theorem f2G:a0k Tryz.prog (193,a0a d9S e3z f6j f6k):=fnO .nil Tryz.func193 g1T
abbrev d9T:Ty:=.cons (.flt .f32) (.cons (.flt .f32) (.cons (.flt .f32) (.nil)))
abbrev e3A:Ty:=.cons (.flt .f32) (.nil)
noncomputable def g1V:Env:=a0m tab eqs [] 16 [.tmp 6] [] [] [] [] []
def g4H (x:Den d9T):OD e3A:=some (a0g .add .f32 x.1 (a0g .mul .f32 (a0g .sub .f32 x.2.1 x.1) x.2.2.1),())
theorem g1W (x) :a0t (g1V) (a0b Tryz.f194) (a1a e3A) (a0M d9T x) []=g4H x:=by kernel_rfl
def g1X (x:Den d9T):OD e3A:=g4H x
def f6l (x:Den d9T):Bool:=(g1X x).isSome
def f6m (x:Den d9T):Den e3A:=(g1X x).getD (zero e3A)
theorem f2H:a0k Tryz.prog (194,a0a d9T e3A f6l f6m):=fnO .nil Tryz.func194 g1W
abbrev c8t:Ty:=.cons (.cpx .f32) (.cons (.cpx .f32) (.cons (.flt .f32) (.nil)))
abbrev d7a:Ty:=.cons (.cpx .f32) (.cons (.bool) (.nil))
noncomputable def g1Y (e g a b c d) :=a0m tab eqs [(45,a0a A45 R45 e g),(193,a0a d9S e3z a b),(194,a0a d9T e3A c d)] 34 [.tmp 6,.tmp 7] [] [] [] [] []
def g1Z (c:KA A45) (d:GA A45 R45) (e:KA d9S) (g:GA d9S e3z) (a:KA d9T) (b:GA d9T e3A) (x:Den c8t):OD d7a:=bif c (x.1,()) then bif !(d (x.1,())).1 then some ((0,0),false,())else bif c (x.2.1,()) then bif !(d (x.2.1,())).1 then some ((0,0),false,())else bif e x.2.2 then bif !(g x.2.2).1 then some ((0,0),false,())else bif a (x.1.1,x.2.1.1,x.2.2) then bif a (x.1.2,x.2.1.2,x.2.2) then some (((b (x.1.1,x.2.1.1,x.2.2)).1,(b (x.1.2,x.2.1.2,x.2.2)).1),true,())else none else none else none else none else none
theorem g2a (e g a b c d x) :a0t (g1Y e g a b c d) (a0b Tryz.f133) (a1a d7a) (a0M c8t x) []=g1Z e g a b c d x:=by kernel_rfl
def f6n (x:Den c8t):OD d7a:=g1Z K45 G45 f6j f6k f6l f6m x
def e9c (x:Den c8t):Bool:=(f6n x).isSome
def e9d (x:Den c8t):Den d7a:=(f6n x).getD (zero d7a)
theorem f2I:a0k Tryz.prog (133,a0a c8t d7a e9c e9d):=fnO (.cons b6b (.cons f2G (.cons f2H .nil))) Tryz.func133 (g2a K45 G45 f6j f6k f6l f6m)
abbrev b7a:Ty:=.cons (S68) (.cons (S63) (.nil))
abbrev c8u:Ty:=.cons (.bool) (.nil)
noncomputable def g2b (a b) :=a0m tab eqs [(44,a0a A44 R44 a b)] 26 [.tmp 4] [] [] [] [] []
def g2c (a:KA A44) (b:GA A44 R44) (x:Den b7a):OD c8u:=bif fgt .f32 x.2.1.1 x.1.2.1||feq .f32 x.2.1.1 x.1.2.1 then bif flt .f32 x.2.1.1 x.1.2.2.1||feq .f32 x.2.1.1 x.1.2.2.1 then bif a (x.2.1.2.1,x.1.2.2.2) then some (b (x.2.1.2.1,x.1.2.2.2))else none else some (false,())else some (false,())
theorem g2d (a b x) :a0t (g2b a b) (a0b Tryz.f135) (a1a c8u) (a0M b7a x) []=g2c a b x:=by kernel_rfl
def f6o (x:Den b7a):OD c8u:=g2c K44 G44 x
def c8v (x:Den b7a):Bool:=(f6o x).isSome
def c8w (x:Den b7a):Den c8u:=(f6o x).getD (zero c8u)
theorem e3B:a0k Tryz.prog (135,a0a b7a c8u c8v c8w):=fnO (.cons a7a .nil) Tryz.func135 (g2d K44 G44)
abbrev d3H:Ty:=.cons (a3Y) (.nil)
abbrev d9U:Ty:=.cons (.bool) (.nil)
noncomputable def g2e (a b c d) :=a0m tab eqs [(107,a0a c3a c9D a b),(44,a0a A44 R44 c d)] 11 [.tmp 2] [] [] [] [] []
def g2f (a:KA c3a) (b:GA c3a c9D) (c:KA A44) (d:GA A44 R44) (x:Den d3H):OD d9U:=bif a (x.1.2.1,()) then bif (b (x.1.2.1,())).1 then bif c (x.1.2.2.1,0,100000,()) then some (d (x.1.2.2.1,0,100000,()))else none else some (false,())else none
theorem g2g (a b c d x) :a0t (g2e a b c d) (a0b Tryz.f238) (a1a d9U) (a0M d3H x) []=g2f a b c d x:=by kernel_rfl
def f6p (x:Den d3H):OD d9U:=g2f d6P d6Q K44 G44 x
def d9V (x:Den d3H):Bool:=(f6p x).isSome
def d9W (x:Den d3H):Den d9U:=(f6p x).getD (zero d9U)
theorem f2J:a0k Tryz.prog (238,a0a d3H d9U d9V d9W):=fnO (.cons d2v (.cons a7a .nil)) Tryz.func238 (g2g d6P d6Q K44 G44)
abbrev c8x:Ty:=.cons (.slice (a3Y)) (.nil)
abbrev d7b:Ty:=.cons (.bool) (.nil)
abbrev a5o:Type:=(((List (Den (a3Y)))×((List (Den (a3Y)))×(Int×(Int×Unit))))×Unit)
def b7b:ShS:=⟨[(0,.one (.sl (a3Y))),(5,.one (.sl (a3Y))),(6,.one (.int .i64)),(7,.one (.int .i64))],[],0,0⟩
abbrev c0S:Type:=(((List (Den (a3Y)))×Unit)×Unit)
def b7c:ShS:=⟨[(0,.one (.sl (a3Y)))],[],0,0⟩
abbrev c0T:Type:=((Bool×Unit)×Unit)
def b7d:ShS:=⟨[(2,.one (.bool))],[],0,0⟩
noncomputable def f2K (a b c d e g) :=a0m tab eqs [(238,a0a d3H d9U a b)] 18 [.tmp 2] [] [] [(2,a2d [0,5,6,7] [] 0 [0] [] b7b b7c b7d c e d g)] [] []
noncomputable def d3I:Code:=(a0p (a0b Tryz.f195)).getD 0 .skip
def c0U (a:KA d3H) (b:GA d3H d9U) (f:a5o->Option (c0S⊕c0T)) (v:a5o):Option (c0S⊕c0T):=bif decide (v.1.2.2.2.1<v.1.2.2.1) then bif decide (0<=v.1.2.2.2.1)&&decide (v.1.2.2.2.1<(length v.1.2.1:Int)) then let c:=getD v.1.2.1 (toNat v.1.2.2.2.1) (zero a3Y);bif a (c,()) then bif !(b (c,())).1 then some (Sum.inr ((false,()),()))else f (((v.1.1,v.1.2.1,v.1.2.2.1,wrap .i64 (v.1.2.2.2.1+1),()),()))else none else none else some (Sum.inl ((v.1.1,()),()))
theorem d9X (a b c d e g f v) :EBk (f2K a b c d e g) d3I (a0z [0,5,6,7] [] 0 [0] [] (atS b7b f) (a6c b7c b7d)) (mkS b7b v)=c0U a b f v:=by kernel_rfl
def d3J (v:a5o):Nat:=v.1.1.length+v.1.2.1.length+v.1.2.2.1.natAbs+v.1.2.2.2.1.natAbs+1000
def b3n (v:a5o):Option (c0S⊕c0T):=a1t (c0U d9V d9W) (d3J v) v
def b1E (v:a5o):Bool:=(b3n v).isSome
def b1F (v:a5o):Bool:=isR (b3n v)
def b1G (v:a5o):c0S:=xOf (([],()),()) (b3n v)
def b1H (v:a5o):c0T:=yOf ((false,()),()) (b3n v)
def g2h (g:KA d3H) (h:GA d3H d9U) (b:a5o->Bool) (c:a5o->c0S) (d:a5o->Bool) (e:a5o->c0T) (x:Den c8x):OD d7b:=let a:=((x.1,x.1,(length x.1:Int),0,()),());bif b a then bif d a then some (e a).1 else some (decide ((↑(length (c a).1.1):Int)<=50),())else none
theorem g2i (a b c d e g x) :a0t (f2K a b c d e g) (a0b Tryz.f195) (a1a d7b) (a0M c8x x) []=g2h a b c d e g x:=by kernel_rfl
def f6q (x:Den c8x):OD d7b:=g2h d9V d9W b1E b1G b1F b1H x
def c8y (x:Den c8x):Bool:=(f6q x).isSome
def c8z (x:Den c8x):Den d7b:=(f6q x).getD (zero d7b)
theorem f2L:a0k Tryz.prog (195,a0a c8x d7b c8y c8z):=a1d (a0v mixed a0x a0w (.cons f2J .nil)) (a1H Tryz.func195 rfl rfl rfl (by kernel_rfl) (a0y (l:=[d3I]) (by kernel_rfl) (.cons (a0o rfl (a0u (sh:=b7b) (shX:=b7c) (shR:=b7d) (fun f v=>d9X d9V d9W b1E b1G b1F b1H f v) d3J (([],()),()) ((false,()),()))) (.nil)))) fun x=>g2i d9V d9W b1E b1G b1F b1H x
abbrev d3K:Ty:=.cons (.cpx .f64) (.cons (.cpx .f64) (.nil))
abbrev d9Y:Ty:=.cons (.cpx .f64) (.nil)
noncomputable def g2j:Env:=a0m tab eqs [] 16 [.tmp 4] [] [] [] [] []
def g4I (x:Den d3K):OD d9Y:=some ((a0g .sub .f64 x.1.1 x.2.1.1,a0g .sub .f64 x.1.2 x.2.1.2),())
theorem g2k (x) :a0t (g2j) (a0b Tryz.f263) (a1a d9Y) (a0M d3K x) []=g4I x:=by kernel_rfl
def g2l (x:Den d3K):OD d9Y:=g4I x
def e6D (x:Den d3K):Bool:=(g2l x).isSome
def e6E (x:Den d3K):Den d9Y:=(g2l x).getD (zero d9Y)
theorem f2M:a0k Tryz.prog (263,a0a d3K d9Y e6D e6E):=fnO .nil Tryz.func263 g2k
abbrev d9Z:Ty:=.cons (S30) (.cons (.cpx .f64) (.nil))
abbrev e3C:Ty:=.cons (.int .i64) (.nil)
abbrev a9r:Type:=(((Nat×Nat)×(Int×(Nat×((List (Den (a0Y)))×(Int×(Int×Unit))))))×Unit)
def b7e:ShS:=⟨[(1,.one (.cpx .f64)),(5,.one (.int .i64)),(6,.one (.flt .f64)),(20,.one (.sl (a0Y))),(21,.one (.int .i64)),(22,.one (.int .i64))],[],0,0⟩
abbrev c0V:Type:=((Int×Unit)×Unit)
def b7f:ShS:=⟨[(5,.one (.int .i64))],[],0,0⟩
noncomputable def f2N (e g h i a b c d j k) :=a0m tab eqs [(91,a0a A91 R91 e g),(61,a0a A61 R61 h i),(263,a0a d3K d9Y a b),(225,a0a c0E c8l c d)] 45 [.tmp 4] [] [] [(5,a1Q [1,5,6,20,21,22] [] 0 [5] [] b7e b7f j k)] [] []
noncomputable def d3L:Code:=(a0p (a0b Tryz.f239)).getD 0 .skip
def c0W (i:KA A91) (j:GA A91 R91) (k:KA A61) (l:GA A61 R61) (c:KA d3K) (d:GA d3K d9Y) (e:KA c0E) (a:GA c0E c8l) (f:a9r->Option (c0V)) (v:a9r):Option (c0V):=bif decide (v.1.2.2.2.2.2.1<v.1.2.2.2.2.1) then bif decide (0<=v.1.2.2.2.2.2.1)&&decide (v.1.2.2.2.2.2.1<(length v.1.2.2.2.1:Int)) then let g:=getD v.1.2.2.2.1 (toNat v.1.2.2.2.2.2.1) (zero a0Y);bif c (g.1,v.1.1,()) then let b:=d (g.1,v.1.1,());bif e (b.1,b) then bif decide (v.1.2.1<0) then f (((v.1.1,v.1.2.2.2.2.2.1,(a (b.1,b)).1,v.1.2.2.2.1,v.1.2.2.2.2.1,wrap .i64 (v.1.2.2.2.2.2.1+1),()),()))else let h:=a (b.1,b);bif flt .f64 h.1 v.1.2.2.1 then f (((v.1.1,v.1.2.2.2.2.2.1,h.1,v.1.2.2.2.1,v.1.2.2.2.2.1,wrap .i64 (v.1.2.2.2.2.2.1+1),()),()))else f (((v.1.1,v.1.2.1,v.1.2.2.1,v.1.2.2.2.1,v.1.2.2.2.2.1,wrap .i64 (v.1.2.2.2.2.2.1+1),()),()))else none else none else none else some ((v.1.2.1,()),())
theorem e0a (e g h i a b c d j k f v) :EBk (f2N e g h i a b c d j k) d3L (a0z [1,5,6,20,21,22] [] 0 [5] [] (atS b7e f) (a4X b7f)) (mkS b7e v)=c0W e g h i a b c d f v:=by kernel_rfl
def d3M (v:a9r):Nat:=v.1.2.1.natAbs+v.1.2.2.2.1.length+v.1.2.2.2.2.1.natAbs+v.1.2.2.2.2.2.1.natAbs+1000
def d3N (v:a9r):Option (c0V):=a1t (c0W K91 G91 K61 G61 e6D e6E c8m c8n) (d3M v) v
def b7g (v:a9r):Bool:=(d3N v).isSome
def b7h (v:a9r):c0V:=(d3N v).getD ((0,()),())
def g2m (a:KA A91) (b:GA A91 R91) (c:KA A61) (d:GA A61 R61) (h:KA d3K) (i:GA d3K d9Y) (j:KA c0E) (k:GA c0E c8l) (e:a9r->Bool) (g:a9r->c0V) (x:Den d9Z):OD e3C:=bif a (x.1,()) then bif !(b (x.1,())).1 then some (-1,())else bif c x.2 then bif !(d x.2).1 then some (-1,())else let l:=((x.2.1,-1,0,x.1.1,(length x.1.1:Int),0,()),());bif e l then some (g l).1 else none else none else none
theorem g2n (e g h i a b c d j k x) :a0t (f2N e g h i a b c d j k) (a0b Tryz.f239) (a1a e3C) (a0M d9Z x) []=g2m e g h i a b c d j k x:=by kernel_rfl
def f2O (x:Den d9Z):OD e3C:=g2m K91 G91 K61 G61 e6D e6E c8m c8n b7g b7h x
def f6r (x:Den d9Z):Bool:=(f2O x).isSome
def f6s (x:Den d9Z):Den e3C:=(f2O x).getD (zero e3C)
theorem f2P:a0k Tryz.prog (239,a0a d9Z e3C f6r f6s):=a1d (a0v mixed a0x a0w (.cons e6f (.cons c3g (.cons f2M (.cons d3j .nil))))) (a1H Tryz.func239 rfl rfl rfl (by kernel_rfl) (a0y (l:=[d3L]) (by kernel_rfl) (.cons (a0o rfl (a0q (sh:=b7e) (shX:=b7f) (fun f v=>e0a K91 G91 K61 G61 e6D e6E c8m c8n b7g b7h f v) d3M ((0,()),()))) (.nil)))) fun x=>g2n K91 G91 K61 G61 e6D e6E c8m c8n b7g b7h x
abbrev d3O:Sg:=⟨[.val (.int .i64),.ptr 0,.ptr 1],[.box (.int .i64),.box (S30)]⟩
abbrev e0b:Sg:=⟨[.val (.int .i64)],[.box (.int .i64),.box (S30)]⟩
noncomputable def g2o:Env:=a0m tab eqs [] 20 [.tmp 4] [] [] [] [] []
def g2p (x:d3O.den):Option (e0b.den):=let a:=decide (0<=x.1.1)&&decide (x.1.1<(length x.2.2.1.2.1:Int));bif a then bif a then let b:=getD x.2.2.1.2.1 (toNat x.1.1) (zero (Ty.int IntKind.i64));some ((e4w (wrap .i64 (x.2.1-b)) (wrap .i64 (b-x.2.1)),()),x.2)else none else none
theorem g2q (x) :a1W (g2o) (a0b Tryz.f264) d3O e0b x=g2p x:=by kernel_rfl
def e9e (x:d3O.den):Option (e0b.den):=g2p x
def e6F (x:d3O.den):Bool:=(e9e x).isSome
def e6G (x:d3O.den):e0b.den:=(e9e x).getD (a1l e0b)
theorem f2Q:a0k Tryz.prog (264,a0j true d3O e0b e6F e6G):=a1p (a0v mixed a0x a0w .nil) (a1H Tryz.func264 rfl rfl rfl (by kernel_rfl) (a0O (by kernel_rfl))) true fun x=>g2q x
abbrev e0c:Ty:=.cons (S30) (.cons (.int .i64) (.nil))
abbrev e3D:Ty:=.cons (.int .i64) (.nil)
abbrev a9s:Type:=((Unit×(Int×(Int×(Int×Unit))))×((Int×Unit)×(((List (Den (a0Y)))×((List (Den (.int .i64)))×Unit))×Unit)))
def b7i:ShS:=⟨[(5,.one (.fn 264 [0,1])),(6,.one (.int .i64)),(19,.one (.int .i64)),(20,.one (.int .i64))],[(0,.box [.int .i64]),(1,.box [.sl (a0Y),.sl (.int .i64)])],2,0⟩
abbrev c0X:Type:=((Int×Unit)×Unit)
def b7j:ShS:=⟨[(6,.one (.int .i64))],[],0,0⟩
noncomputable def f2R (c d e g a b h i) :=a0m tab eqs [(91,a0a A91 R91 c d),(43,a0a A43 R43 e g),(264,a0j true d3O e0b a b)] 33 [.tmp 4] [] [] [(6,a1Q [5,6,19,20] [] 0 [6] [] b7i b7j h i)] [] []
noncomputable def d3P:Code:=(a0p (a0b Tryz.f240)).getD 0 .skip
def c0Y (e:KA A91) (g:GA A91 R91) (h:KA A43) (i:GA A43 R43) (a:KI d3O) (b:GI d3O e0b) (f:a9s->Option (c0X)) (v:a9s):Option (c0X):=bif decide (v.1.2.2.2.1<v.1.2.2.1) then bif a ((v.1.2.2.2.1,(),(),()),v.2.1.1,v.2.2) then let d:=b ((v.1.2.2.2.1,(),(),()),v.2.1.1,v.2.2);bif a ((v.1.2.1,(),(),()),d.2) then let c:=b ((v.1.2.1,(),(),()),d.2);bif decide (d.1.1<c.1.1) then f ((((),v.1.2.2.2.1,v.1.2.2.1,wrap .i64 (v.1.2.2.2.1+1),()),(c.2.1,()),c.2.2))else f ((((),v.1.2.1,v.1.2.2.1,wrap .i64 (v.1.2.2.2.1+1),()),(c.2.1,()),c.2.2))else none else none else some ((v.1.2.1,()),())
theorem e0d (c d e g a b h i f v) :EBk (f2R c d e g a b h i) d3P (a0z [5,6,19,20] [] 0 [6] [] (atS b7i f) (a4X b7j)) (mkS b7i v)=c0Y c d e g a b f v:=by kernel_rfl
def d3Q (v:a9s):Nat:=v.1.2.1.natAbs+v.1.2.2.1.natAbs+v.1.2.2.2.1.natAbs+v.2.1.1.natAbs+v.2.2.1.1.length+v.2.2.1.2.1.length+1000
def d3R (v:a9s):Option (c0X):=a1t (c0Y K91 G91 K43 G43 e6F e6G) (d3Q v) v
def b7k (v:a9s):Bool:=(d3R v).isSome
def b7l (v:a9s):c0X:=(d3R v).getD ((0,()),())
def g2r (a:KA A91) (b:GA A91 R91) (c:KA A43) (d:GA A43 R43) (h:KI d3O) (i:GI d3O e0b) (e:a9s->Bool) (g:a9s->c0X) (x:Den e0c):OD e3D:=bif a (x.1,()) then bif !(b (x.1,())).1 then some (-1,())else bif c x.2 then bif !(d x.2).1 then some (-1,())else let j:=(((),0,(length x.1.2.1:Int),0,()),x.2,x.1,());bif e j then some (g j).1 else none else none else none
theorem g2s (c d e g a b h i x) :a0t (f2R c d e g a b h i) (a0b Tryz.f240) (a1a e3D) (a0M e0c x) []=g2r c d e g a b h i x:=by kernel_rfl
def f2S (x:Den e0c):OD e3D:=g2r K91 G91 K43 G43 e6F e6G b7k b7l x
def f6t (x:Den e0c):Bool:=(f2S x).isSome
def f6u (x:Den e0c):Den e3D:=(f2S x).getD (zero e3D)
theorem f2T:a0k Tryz.prog (240,a0a e0c e3D f6t f6u):=a1d (a0v mixed a0x a0w (.cons e6f (.cons d9l (.cons f2Q .nil)))) (a1H Tryz.func240 rfl rfl rfl (by kernel_rfl) (a0y (l:=[d3P]) (by kernel_rfl) (.cons (a0o rfl (a0q (sh:=b7i) (shX:=b7j) (fun f v=>e0d K91 G91 K43 G43 e6F e6G b7k b7l f v) d3Q ((0,()),()))) (.nil)))) fun x=>g2s K91 G91 K43 G43 e6F e6G b7k b7l x
abbrev e0e:Ty:=.cons (.int .i64) (.cons (.int .i64) (.cons (.int .i64) (.nil)))
abbrev e3E:Ty:=.cons (.int .i64) (.nil)
noncomputable def g2t:Env:=a0m tab eqs [] 19 [.tmp 6] [] [] [] [] []
def g2u (x:Den e0e):OD e3E:=bif decide (x.2.2.1<x.2.1) then some (x.2.1,())else bif decide (x.1<x.2.1) then some (x.2.1,())else some (a4x x.1 x.2.2.1,())
theorem g2v (x) :a0t (g2t) (a0b Tryz.f265) (a1a e3E) (a0M e0e x) []=g2u x:=by kernel_rfl
def f2U (x:Den e0e):OD e3E:=g2u x
def f6v (x:Den e0e):Bool:=(f2U x).isSome
def f6w (x:Den e0e):Den e3E:=(f2U x).getD (zero e3E)
theorem f2V:a0k Tryz.prog (265,a0a e0e e3E f6v f6w):=fnO .nil Tryz.func265 g2v
abbrev e0f:Ty:=.cons (a0Y) (.cons (.int .i64) (.nil))
abbrev e3F:Ty:=.cons (.cpx .f32) (.cons (.bool) (.nil))
noncomputable def g2w (a b c d e g) :=a0m tab eqs [(159,a0a c2e c9E a b),(265,a0a e0e e3E c d),(227,a0a b6H c5P e g)] 54 [.tmp 4,.tmp 5] [] [] [] [] []
def g2x (d:KA c2e) (e:GA c2e c9E) (g:KA e0e) (h:GA e0e e3E) (a:KA b6H) (b:GA b6H c5P) (x:Den e0f):OD e3F:=let n:=([x.1.2.1.1,x.1.2.1.2.1,x.1.2.1.2.2.1,x.1.2.1.2.2.2.1,x.1.2.1.2.2.2.2.1,x.1.2.1.2.2.2.2.2.1,x.1.2.1.2.2.2.2.2.2.1,x.1.2.1.2.2.2.2.2.2.2.1,x.1.2.1.2.2.2.2.2.2.2.2.1,x.1.2.1.2.2.2.2.2.2.2.2.2.1,x.1.2.1.2.2.2.2.2.2.2.2.2.2.1,x.1.2.1.2.2.2.2.2.2.2.2.2.2.2.1,x.1.2.1.2.2.2.2.2.2.2.2.2.2.2.2.1],());bif d n then bif !(e n).1 then some ((0,0),false,())else bif g (x.2.1,-21600,21600,()) then let i:=wrap .i64 ((h (x.2.1,-21600,21600,())).1+21600);bif Int.tmod i 3600==0 then let c:=wrap .i64 (Int.tdiv i 3600);bif decide (0<=c)&&decide (c<(↑13:Int)) then some (getD [x.1.2.1.1,x.1.2.1.2.1,x.1.2.1.2.2.1,x.1.2.1.2.2.2.1,x.1.2.1.2.2.2.2.1,x.1.2.1.2.2.2.2.2.1,x.1.2.1.2.2.2.2.2.2.1,x.1.2.1.2.2.2.2.2.2.2.1,x.1.2.1.2.2.2.2.2.2.2.2.1,x.1.2.1.2.2.2.2.2.2.2.2.2.1,x.1.2.1.2.2.2.2.2.2.2.2.2.2.1,x.1.2.1.2.2.2.2.2.2.2.2.2.2.2.1,x.1.2.1.2.2.2.2.2.2.2.2.2.2.2.2.1] (toNat c) (0,0),true,())else none else let c:=wrap .i64 (Int.tdiv i 3600);bif decide (0<=c)&&decide (c<(↑13:Int)) then let m:=wrap .i64 (c+1);bif decide (0<=m)&&decide (m<(↑13:Int)) then let j:=getD [x.1.2.1.1,x.1.2.1.2.1,x.1.2.1.2.2.1,x.1.2.1.2.2.2.1,x.1.2.1.2.2.2.2.1,x.1.2.1.2.2.2.2.2.1,x.1.2.1.2.2.2.2.2.2.1,x.1.2.1.2.2.2.2.2.2.2.1,x.1.2.1.2.2.2.2.2.2.2.2.1,x.1.2.1.2.2.2.2.2.2.2.2.2.1,x.1.2.1.2.2.2.2.2.2.2.2.2.2.1,x.1.2.1.2.2.2.2.2.2.2.2.2.2.2.1,x.1.2.1.2.2.2.2.2.2.2.2.2.2.2.2.1] (toNat c) (0,0);let k:=getD [x.1.2.1.1,x.1.2.1.2.1,x.1.2.1.2.2.1,x.1.2.1.2.2.2.1,x.1.2.1.2.2.2.2.1,x.1.2.1.2.2.2.2.2.1,x.1.2.1.2.2.2.2.2.2.1,x.1.2.1.2.2.2.2.2.2.2.1,x.1.2.1.2.2.2.2.2.2.2.2.1,x.1.2.1.2.2.2.2.2.2.2.2.2.1,x.1.2.1.2.2.2.2.2.2.2.2.2.2.1,x.1.2.1.2.2.2.2.2.2.2.2.2.2.2.1,x.1.2.1.2.2.2.2.2.2.2.2.2.2.2.2.1] (toNat m) (0,0);let l:=a0g .quo .f32 (nearest .f32 (Int.tmod i 3600)) 1163984896;bif a (j.1,k.1,l,()) then bif a (j.2,k.2,l,()) then some (((b (j.1,k.1,l,())).1,(b (j.2,k.2,l,())).1),true,())else none else none else none else none else none else none
theorem g2y (a b c d e g x) :a0t (g2w a b c d e g) (a0b Tryz.f241) (a1a e3F) (a0M e0f x) []=g2x a b c d e g x:=by kernel_rfl
def f6x (x:Den e0f):OD e3F:=g2x c8h c8i f6v f6w c5Q c5R x
def f6y (x:Den e0f):Bool:=(f6x x).isSome
def f6z (x:Den e0f):Den e3F:=(f6x x).getD (zero e3F)
theorem f2W:a0k Tryz.prog (241,a0a e0f e3F f6y f6z):=fnO (.cons e2W (.cons f2V (.cons d3r .nil))) Tryz.func241 (g2y c8h c8i f6v f6w c5Q c5R)
abbrev c8A:Ty:=.cons (S30) (.cons (.cpx .f64) (.cons (.int .i64) (.nil)))
abbrev d7c:Ty:=.cons (.cpx .f32) (.cons (.bool) (.nil))
noncomputable def g2z (a b c d e g) :=a0m tab eqs [(239,a0a d9Z e3C a b),(240,a0a e0c e3D c d),(241,a0a e0f e3F e g)] 37 [.tmp 6,.tmp 7] [] [] [] [] []
def g2A (a:KA d9Z) (b:GA d9Z e3C) (c:KA e0c) (d:GA e0c e3D) (e:KA e0f) (g:GA e0f e3F) (x:Den c8A):OD d7c:=bif a (x.1,x.2.1,()) then bif c (x.1,x.2.2) then let h:=b (x.1,x.2.1,());bif decide (h.1<0) then some ((0,0),false,())else let i:=d (x.1,x.2.2);bif decide (i.1<0) then some ((0,0),false,())else bif decide (0<=h.1)&&decide (h.1<(length x.1.1:Int)) then bif decide (0<=i.1)&&decide (i.1<(length x.1.2.1:Int)) then let j:=getD x.1.1 (toNat h.1) (zero a0Y);let k:=wrap .i64 (x.2.2.1-(getD x.1.2.1 (toNat i.1) (zero (Ty.int IntKind.i64))));bif e (j,k,()) then some (g (j,k,()))else none else none else none else none else none
theorem g2B (a b c d e g x) :a0t (g2z a b c d e g) (a0b Tryz.f196) (a1a d7c) (a0M c8A x) []=g2A a b c d e g x:=by kernel_rfl
def f6A (x:Den c8A):OD d7c:=g2A f6r f6s f6t f6u f6y f6z x
def c8B (x:Den c8A):Bool:=(f6A x).isSome
def c2h (x:Den c8A):Den d7c:=(f6A x).getD (zero d7c)
theorem f2X:a0k Tryz.prog (196,a0a c8A d7c c8B c2h):=fnO (.cons f2P (.cons f2T (.cons f2W .nil))) Tryz.func196 (g2B f6r f6s f6t f6u f6y f6z)
abbrev e0g:Ty:=.cons (.cpx .f32) (.cons (.cpx .f32) (.nil))
abbrev e3G:Ty:=.cons (.cpx .f32) (.nil)
noncomputable def g2C:Env:=a0m tab eqs [] 16 [.tmp 4] [] [] [] [] []
def g4J (x:Den e0g):OD e3G:=some ((a0g .add .f32 x.1.1 x.2.1.1,a0g .add .f32 x.1.2 x.2.1.2),())
theorem g2D (x) :a0t (g2C) (a0b Tryz.f266) (a1a e3G) (a0M e0g x) []=g4J x:=by kernel_rfl
def g2E (x:Den e0g):OD e3G:=g4J x
def f6B (x:Den e0g):Bool:=(g2E x).isSome
def f6C (x:Den e0g):Den e3G:=(g2E x).getD (zero e3G)
theorem f2Y:a0k Tryz.prog (266,a0a e0g e3G f6B f6C):=fnO .nil Tryz.func266 g2D
abbrev e0h:Ty:=.cons (.int .i64) (.cons (.flt .f32) (.cons (.cpx .f32) (.nil)))
abbrev e3H:Ty:=.cons (.cpx .f32) (.cons (.bool) (.nil))
noncomputable def g2F (c d e g a b) :=a0m tab eqs [(56,a0a A56 R56 c d),(45,a0a A45 R45 e g),(266,a0a e0g e3G a b)] 26 [.tmp 6,.tmp 7] [] [] [] [] []
def g2G (c:KA A56) (d:GA A56 R56) (e:KA A45) (g:GA A45 R45) (a:KA e0g) (b:GA e0g e3G) (x:Den e0h):OD e3H:=bif c (x.1,x.2.1,()) then let h:=d (x.1,x.2.1,());bif !h.2.1 then some ((0,0),false,())else bif e x.2.2 then bif !(g x.2.2).1 then some ((0,0),false,())else bif a (h.1,x.2.2) then some ((b (h.1,x.2.2)).1,true,())else none else none else none
theorem g2H (c d e g a b x) :a0t (g2F c d e g a b) (a0b Tryz.f242) (a1a e3H) (a0M e0h x) []=g2G c d e g a b x:=by kernel_rfl
def f6D (x:Den e0h):OD e3H:=g2G K56 G56 K45 G45 f6B f6C x
def f6E (x:Den e0h):Bool:=(f6D x).isSome
def f6F (x:Den e0h):Den e3H:=(f6D x).getD (zero e3H)
theorem f2Z:a0k Tryz.prog (242,a0a e0h e3H f6E f6F):=fnO (.cons f2w (.cons b6b (.cons f2Y .nil))) Tryz.func242 (g2H K56 G56 K45 G45 f6B f6C)
abbrev e0i:Ty:=.cons (.cpx .f64) (.cons (.cpx .f32) (.cons (.int .i64) (.nil)))
abbrev e3I:Ty:=.cons (.cpx .f64) (.cons (.bool) (.nil))
noncomputable def g2I (a b c d e g) :=a0m tab eqs [(61,a0a A61 R61 a b),(45,a0a A45 R45 c d),(44,a0a A44 R44 e g)] 46 [.tmp 6,.tmp 7] [] [] [] [] []
def g2J (a:KA A61) (b:GA A61 R61) (c:KA A45) (d:GA A45 R45) (e:KA A44) (g:GA A44 R44) (x:Den e0i):OD e3I:=bif a (x.1,()) then bif !(b (x.1,())).1 then some ((0,0),false,())else bif c (x.2.1,()) then bif !(d (x.2.1,())).1 then some ((0,0),false,())else bif e (x.2.2.1,0,100000,()) then bif !(g (x.2.2.1,0,100000,())).1 then some ((0,0),false,())else let j:=nearest .f64 x.2.2.1;let h:=a0g .add .f64 x.1.1 (a0g .mul .f64 (a0N .f32 .f64 x.2.1.1).2 j);let i:=a0g .add .f64 x.1.2 (a0g .mul .f64 (a0N .f32 .f64 x.2.1.2).2 j);bif a ((h,i),()) then bif !(b ((h,i),())).1 then some ((0,0),false,())else some ((h,i),true,())else none else none else none else none
theorem g2K (a b c d e g x) :a0t (g2I a b c d e g) (a0b Tryz.f243) (a1a e3I) (a0M e0i x) []=g2J a b c d e g x:=by kernel_rfl
def f6G (x:Den e0i):OD e3I:=g2J K61 G61 K45 G45 K44 G44 x
def f6H (x:Den e0i):Bool:=(f6G x).isSome
def f6I (x:Den e0i):Den e3I:=(f6G x).getD (zero e3I)
theorem f3a:a0k Tryz.prog (243,a0a e0i e3I f6H f6I):=fnO (.cons c3g (.cons b6b (.cons a7a .nil))) Tryz.func243 (g2K K61 G61 K45 G45 K44 G44)
abbrev c8C:Ty:=.cons (.cpx .f64) (.cons (a3Y) (.cons (.int .i64) (.cons (.cpx .f32) (.nil))))
abbrev d7d:Ty:=.cons (.cpx .f64) (.cons (.bool) (.nil))
noncomputable def g2L (a b c d) :=a0m tab eqs [(242,a0a e0h e3H a b),(243,a0a e0i e3I c d)] 29 [.tmp 8,.tmp 9] [] [] [] [] []
def g2M (a:KA e0h) (b:GA e0h e3H) (c:KA e0i) (d:GA e0i e3I) (x:Den c8C):OD d7d:=let g:=(x.2.1.1,x.2.1.2.1,x.2.2.2);bif a g then let e:=b g;bif !e.2.1 then some ((0,0),false,())else bif c (x.1,e.1,x.2.2.1,()) then some (d (x.1,e.1,x.2.2.1,()))else none else none
theorem g2N (a b c d x) :a0t (g2L a b c d) (a0b Tryz.f197) (a1a d7d) (a0M c8C x) []=g2M a b c d x:=by kernel_rfl
def f6J (x:Den c8C):OD d7d:=g2M f6E f6F f6H f6I x
def c8D (x:Den c8C):Bool:=(f6J x).isSome
def c5Z (x:Den c8C):Den d7d:=(f6J x).getD (zero d7d)
theorem f3b:a0k Tryz.prog (197,a0a c8C d7d c8D c5Z):=fnO (.cons f2Z (.cons f3a .nil)) Tryz.func197 (g2N f6E f6F f6H f6I)
abbrev c8E:Ty:=.cons (.cpx .f64) (.cons (.int .i64) (.cons (.slice (a3Y)) (.cons (S30) (.nil))))
abbrev d7e:Ty:=.cons (.cpx .f64) (.cons (.bool) (.nil))
abbrev a5p:Type:=(((Nat×Nat)×(Int×(Unit×((List (Den (a3Y)))×(Int×(Int×Unit))))))×(((List (Den (a0Y)))×((List (Den (.int .i64)))×Unit))×Unit))
def b7m:ShS:=⟨[(0,.one (.cpx .f64)),(1,.one (.int .i64)),(7,.one (.ptr 0 0)),(25,.one (.sl (a3Y))),(26,.one (.int .i64)),(27,.one (.int .i64))],[(0,.box [.sl (a0Y),.sl (.int .i64)])],1,0⟩
abbrev b3o:Type:=(((Nat×Nat)×Unit)×Unit)
def b7n:ShS:=⟨[(0,.one (.cpx .f64))],[],0,0⟩
abbrev b3p:Type:=(((Nat×Nat)×(Bool×Unit))×Unit)
def b7o:ShS:=⟨[(8,.one (.cpx .f64)),(9,.one (.bool))],[],0,0⟩
abbrev a3j:Type:=(((Nat×Nat)×(Int×(Unit×(Unit×(Int×((List (Den (a3Y)))×(Int×(Int×Unit))))))))×(((List (Den (a0Y)))×((List (Den (.int .i64)))×Unit))×((Int×(Nat×(Int×Unit)))×Unit)))
def b7p:ShS:=⟨[(0,.one (.cpx .f64)),(1,.one (.int .i64)),(7,.one (.ptr 0 0)),(11,.one (.ptr 1 0)),(12,.one (.int .i64)),(25,.one (.sl (a3Y))),(26,.one (.int .i64)),(27,.one (.int .i64))],[(0,.box [.sl (a0Y),.sl (.int .i64)]),(1,.box [.int .i64,.flt .f32,.int .i64])],2,0⟩
abbrev b3q:Type:=(((Nat×Nat)×(Int×(Unit×((List (Den (a3Y)))×(Int×(Int×Unit))))))×(((List (Den (a0Y)))×((List (Den (.int .i64)))×Unit))×Unit))
def b7q:ShS:=⟨[(0,.one (.cpx .f64)),(1,.one (.int .i64)),(7,.one (.ptr 0 0)),(25,.one (.sl (a3Y))),(26,.one (.int .i64)),(27,.one (.int .i64))],[(0,.box [.sl (a0Y),.sl (.int .i64)])],1,0⟩
abbrev b3r:Type:=(((Nat×Nat)×(Bool×Unit))×Unit)
def b7r:ShS:=⟨[(8,.one (.cpx .f64)),(9,.one (.bool))],[],0,0⟩
noncomputable def e6H (h i a b c d e g j k l m n o p q) :=a0m tab eqs [(61,a0a A61 R61 h i),(195,a0a c8x d7b a b),(196,a0a c8A d7c c d),(197,a0a c8C d7d e g)] 65 [.tmp 8,.tmp 9] [] [] [(4,a2d [0,1,7,25,26,27] [] 0 [0] [] b7m b7n b7o j l k m),(7,a2d [0,1,7,11,12,25,26,27] [] 2 [0,1,7,25,26,27] [] b7p b7q b7r n p o q)] [] []
noncomputable def d3S:Code:=(a0p (a0b Tryz.f136)).getD 0 .skip
noncomputable def d3T:Code:=(a0p (a0b Tryz.f136)).getD 1 .skip
def c0Z (k:KA A61) (l:GA A61 R61) (e:KA c8x) (g:GA c8x d7b) (a:KA c8A) (b:GA c8A d7c) (c:KA c8C) (d:GA c8C d7d) (f:a3j->Option (b3q⊕b3r)) (v:a3j):Option (b3q⊕b3r):=bif decide (v.1.2.2.2.2.1>0) then bif a (v.2.1,v.1.1,v.1.2.1,()) then let h:=b (v.2.1,v.1.1,v.1.2.1,());bif !h.2.1 then some (Sum.inr (((0,0),false,()),()))else let i:=(v.1.1,v.2.2.1,a4x v.1.2.2.2.2.1 600,h.1,());bif c i then let j:=d i;bif !j.2.1 then some (Sum.inr (((0,0),false,()),()))else f (((j.1,wrap .i64 (v.1.2.1+a4x v.1.2.2.2.2.1 600),(),(),wrap .i64 (v.1.2.2.2.2.1-a4x v.1.2.2.2.2.1 600),v.1.2.2.2.2.2),v.2))else none else none else some (Sum.inl ((v.1.1,v.1.2.1,(),v.1.2.2.2.2.2),v.2.1,()))
theorem e0j (h i a b c d e g j k l m n o p q f v) :EBk (e6H h i a b c d e g j k l m n o p q) d3T (a0z [0,1,7,11,12,25,26,27] [] 2 [0,1,7,25,26,27] [] (atS b7p f) (a6c b7q b7r)) (mkS b7p v)=c0Z h i a b c d e g f v:=by kernel_rfl
def c6a (v:a3j):Nat:=v.1.2.1.natAbs+v.1.2.2.2.2.1.natAbs+v.1.2.2.2.2.2.1.length+v.1.2.2.2.2.2.2.1.natAbs+v.1.2.2.2.2.2.2.2.1.natAbs+v.2.1.1.length+v.2.1.2.1.length+v.2.2.1.1.natAbs+v.2.2.1.2.2.1.natAbs+1000
def c1a (v:a3j):Option (b3q⊕b3r):=a1t (c0Z K61 G61 c8y c8z c8B c2h c8D c5Z) (c6a v) v
def a5L (v:a3j):Bool:=(c1a v).isSome
def a5M (v:a3j):Bool:=isR (c1a v)
def a2C (v:a3j):b3q:=xOf (((0,0),(0,((),([],(0,(0,())))))),(([],([],())),())) (c1a v)
def a5N (v:a3j):b3r:=yOf (((0,0),(false,())),()) (c1a v)
def d3U (o:KA A61) (p:GA A61 R61) (h:KA c8x) (i:GA c8x d7b) (j:KA c8A) (k:GA c8A d7c) (l:KA c8C) (m:GA c8C d7d) (c:a3j->Bool) (d:a3j->b3q) (e:a3j->Bool) (g:a3j->b3r) (f:a5p->Option (b3o⊕b3p)) (v:a5p):Option (b3o⊕b3p):=bif decide (v.1.2.2.2.2.2.1<v.1.2.2.2.2.1) then bif decide (0<=v.1.2.2.2.2.2.1)&&decide (v.1.2.2.2.2.2.1<(length v.1.2.2.2.1:Int)) then let n:=getD v.1.2.2.2.1 (toNat v.1.2.2.2.2.2.1) (zero a3Y);let b:=((v.1.1,v.1.2.1,(),(),n.2.2.1,v.1.2.2.2),v.2.1,n,());bif c b then bif e b then some (Sum.inr (g b))else let a:=d b;f (((a.1.1,a.1.2.1,(),a.1.2.2.2.1,a.1.2.2.2.2.1,wrap .i64 (a.1.2.2.2.2.2.1+1),()),a.2))else none else none else some (Sum.inl ((v.1.1,()),()))
theorem e0k (h i a b c d e g n o p q j k l m f v) :EBk (e6H h i a b c d e g n o p q j k l m) d3S (a0z [0,1,7,25,26,27] [] 0 [0] [] (atS b7m f) (a6c b7n b7o)) (mkS b7m v)=d3U h i a b c d e g j k l m f v:=by kernel_rfl
def c1b (v:a5p):Nat:=v.1.2.1.natAbs+v.1.2.2.2.1.length+v.1.2.2.2.2.1.natAbs+v.1.2.2.2.2.2.1.natAbs+v.2.1.1.length+v.2.1.2.1.length+1000
def b3s (v:a5p):Option (b3o⊕b3p):=a1t (d3U K61 G61 c8y c8z c8B c2h c8D c5Z a5L a2C a5M a5N) (c1b v) v
def a8J (v:a5p):Bool:=(b3s v).isSome
def a8K (v:a5p):Bool:=isR (b3s v)
def a8L (v:a5p):b3o:=xOf (((0,0),()),()) (b3s v)
def a8M (v:a5p):b3p:=yOf (((0,0),(false,())),()) (b3s v)
def g2O (d:KA A61) (e:GA A61 R61) (a:KA c8x) (b:GA c8x d7b) (k:KA c8A) (l:GA c8A d7c) (m:KA c8C) (n:GA c8C d7d) (g:a5p->Bool) (h:a5p->b3o) (i:a5p->Bool) (j:a5p->b3p) (o:a3j->Bool) (p:a3j->b3q) (q:a3j->Bool) (r:a3j->b3r) (x:Den c8E):OD d7e:=bif d (x.1,()) then bif !(e (x.1,())).1 then some ((0,0),false,())else bif a (x.2.2.1,()) then bif !(b (x.2.2.1,())).1 then some ((0,0),false,())else let c:=((x.1,x.2.1,(),x.2.2.1,(length x.2.2.1:Int),0,()),x.2.2.2);bif g c then bif i c then some (j c).1 else some ((h c).1.1,true,())else none else none else none
theorem g2P (h i a b c d e g j k l m n o p q x) :a0t (e6H h i a b c d e g j k l m n o p q) (a0b Tryz.f136) (a1a d7e) (a0M c8E x) []=g2O h i a b c d e g j k l m n o p q x:=by kernel_rfl
def e6I (x:Den c8E):OD d7e:=g2O K61 G61 c8y c8z c8B c2h c8D c5Z a8J a8L a8K a8M a5L a2C a5M a5N x
def e6J (x:Den c8E):Bool:=(e6I x).isSome
def e6K (x:Den c8E):Den d7e:=(e6I x).getD (zero d7e)
theorem f3c:a0k Tryz.prog (136,a0a c8E d7e e6J e6K):=a1d (a0v mixed a0x a0w (.cons c3g (.cons f2L (.cons f2X (.cons f3b .nil))))) (a1H Tryz.func136 rfl rfl rfl (by kernel_rfl) (a0y (l:=[d3S,d3T]) (by kernel_rfl) (.cons (a0o rfl (a0u (sh:=b7m) (shX:=b7n) (shR:=b7o) (fun f v=>e0k K61 G61 c8y c8z c8B c2h c8D c5Z a8J a8L a8K a8M a5L a2C a5M a5N f v) c1b (((0,0),()),()) (((0,0),(false,())),()))) (.cons (a0o rfl (a0u (sh:=b7p) (shX:=b7q) (shR:=b7r) (fun f v=>e0j K61 G61 c8y c8z c8B c2h c8D c5Z a8J a8L a8K a8M a5L a2C a5M a5N f v) c6a (((0,0),(0,((),([],(0,(0,())))))),(([],([],())),())) (((0,0),(false,())),()))) (.nil))))) fun x=>g2P K61 G61 c8y c8z c8B c2h c8D c5Z a8J a8L a8K a8M a5L a2C a5M a5N x
abbrev e0l:Ty:=.cons (.slice (S68)) (.cons (S63) (.nil))
abbrev e3J:Ty:=.cons (.int .i64) (.nil)
abbrev a5q:Type:=((Unit×((List (Den (S68)))×(Int×(Int×Unit))))×((Nat×(Int×Unit))×Unit))
def b7s:ShS:=⟨[(3,.one (.ptr 0 0)),(10,.one (.sl (S68))),(11,.one (.int .i64)),(12,.one (.int .i64))],[(0,.box [.flt .f32,.int .i64])],1,0⟩
abbrev c1c:Type:=(Unit×Unit)
def b7t:ShS:=⟨[],[],0,0⟩
abbrev c1d:Type:=((Int×Unit)×Unit)
def b7u:ShS:=⟨[(4,.one (.int .i64))],[],0,0⟩
noncomputable def f3d (c d a b e g h i) :=a0m tab eqs [(92,a0a A92 R92 c d),(135,a0a b7a c8u a b)] 22 [.tmp 4] [] [] [(4,a2d [3,10,11,12] [] 0 [] [] b7s b7t b7u e h g i)] [] []
noncomputable def d3V:Code:=(a0p (a0b Tryz.f198)).getD 0 .skip
def c1e (d:KA A92) (e:GA A92 R92) (a:KA b7a) (b:GA b7a c8u) (f:a5q->Option (c1c⊕c1d)) (v:a5q):Option (c1c⊕c1d):=bif decide (v.1.2.2.2.1<v.1.2.2.1) then bif decide (0<=v.1.2.2.2.1)&&decide (v.1.2.2.2.1<(length v.1.2.1:Int)) then let c:=getD v.1.2.1 (toNat v.1.2.2.2.1) (zero S68);bif a (c,v.2) then bif (b (c,v.2)).1 then some (Sum.inr (v.1.2.2.2,()))else f ((((),v.1.2.1,v.1.2.2.1,wrap .i64 (v.1.2.2.2.1+1),()),v.2))else none else none else some (Sum.inl ((),()))
theorem e0m (c d a b e g h i f v) :EBk (f3d c d a b e g h i) d3V (a0z [3,10,11,12] [] 0 [] [] (atS b7s f) (a6c b7t b7u)) (mkS b7s v)=c1e c d a b f v:=by kernel_rfl
def d3W (v:a5q):Nat:=v.1.2.1.length+v.1.2.2.1.natAbs+v.1.2.2.2.1.natAbs+v.2.1.2.1.natAbs+1000
def c1f (v:a5q):Option (c1c⊕c1d):=a1t (c1e K92 G92 c8v c8w) (d3W v) v
def b7v (v:a5q):Bool:=(c1f v).isSome
def b7w (v:a5q):Bool:=isR (c1f v)
def c3u (v:a5q):c1c:=xOf ((),()) (c1f v)
def b7x (v:a5q):c1d:=yOf ((0,()),()) (c1f v)
def g2Q (a:KA A92) (b:GA A92 R92) (h:KA b7a) (i:GA b7a c8u) (c:a5q->Bool) (j:a5q->c1c) (d:a5q->Bool) (e:a5q->c1d) (x:Den e0l):OD e3J:=bif a (x.1,()) then bif !(b (x.1,())).1 then some (-1,())else let g:=(((),x.1,(length x.1:Int),0,()),x.2);bif c g then bif d g then some (e g).1 else some (-1,())else none else none
theorem g2R (c d a b e g h i x) :a0t (f3d c d a b e g h i) (a0b Tryz.f198) (a1a e3J) (a0M e0l x) []=g2Q c d a b e g h i x:=by kernel_rfl
def f6K (x:Den e0l):OD e3J:=g2Q K92 G92 c8v c8w b7v c3u b7w b7x x
def e9f (x:Den e0l):Bool:=(f6K x).isSome
def e9g (x:Den e0l):Den e3J:=(f6K x).getD (zero e3J)
theorem f3e:a0k Tryz.prog (198,a0a e0l e3J e9f e9g):=a1d (a0v mixed a0x a0w (.cons e6k (.cons e3B .nil))) (a1H Tryz.func198 rfl rfl rfl (by kernel_rfl) (a0y (l:=[d3V]) (by kernel_rfl) (.cons (a0o rfl (a0u (sh:=b7s) (shX:=b7t) (shR:=b7u) (fun f v=>e0m K92 G92 c8v c8w b7v c3u b7w b7x f v) d3W ((),()) ((0,()),()))) (.nil)))) fun x=>g2R K92 G92 c8v c8w b7v c3u b7w b7x x
abbrev c8F:Ty:=.cons (.slice (S68)) (.cons (.int .i64) (.cons (S63) (.nil)))
abbrev d3X:Ty:=.cons (.int .i64) (.nil)
noncomputable def g2S (c d e g h i a b) :=a0m tab eqs [(92,a0a A92 R92 c d),(44,a0a A44 R44 e g),(20,a0a A20 R20 h i),(198,a0a e0l e3J a b)] 27 [.tmp 6] [] [] [] [] []
def g2T (c:KA A92) (d:GA A92 R92) (e:KA A44) (g:GA A44 R44) (h:KA A20) (i:GA A20 R20) (a:KA e0l) (b:GA e0l e3J) (x:Den c8F):OD d3X:=bif c (x.1,()) then bif !(d (x.1,())).1 then some (-1,())else let j:=wrap .i64 ((length x.1:Int)-1);bif e (x.2.1,0,j,()) then bif (g (x.2.1,0,j,())).1 then bif decide (0<=x.2.1)&&decide (x.2.1<(length x.1:Int)) then let k:=getD x.1 (toNat x.2.1) (zero S68);bif h (k,x.2.2) then bif (i (k,x.2.2)).1 then some (x.2.1,())else bif a (x.1,x.2.2) then some (b (x.1,x.2.2))else none else none else none else bif a (x.1,x.2.2) then some (b (x.1,x.2.2))else none else none else none
theorem g2U (c d e g h i a b x) :a0t (g2S c d e g h i a b) (a0b Tryz.f137) (a1a d3X) (a0M c8F x) []=g2T c d e g h i a b x:=by kernel_rfl
def f6L (x:Den c8F):OD d3X:=g2T K92 G92 K44 G44 K20 G20 e9f e9g x
def c6b (x:Den c8F):Bool:=(f6L x).isSome
def c6c (x:Den c8F):Den d3X:=(f6L x).getD (zero d3X)
theorem f3f:a0k Tryz.prog (137,a0a c8F d3X c6b c6c):=fnO (.cons e6k (.cons a7a (.cons e6w (.cons f3e .nil)))) Tryz.func137 (g2U K92 G92 K44 G44 K20 G20 e9f e9g)
abbrev e0n:Ty:=.cons (S27) (.nil)
abbrev e3K:Ty:=.cons (S27) (.nil)
abbrev a9t:Type:=((Unit×(Unit×((List (Den (.slice (.flt .f32))))×(Int×(Int×Unit)))))×((Unit×(Unit×(Unit×Unit)))×(((List (Den (.flt .f32)))×((List (Den (.int .i64)))×(Unit×Unit)))×((List (Den (.slice (.flt .f32))))×Unit))))
def b7y:ShS:=⟨[(2,.one (.ptr 0 0)),(3,.one (.ptr 1 0)),(14,.one (.sl (.slice (.flt .f32)))),(15,.one (.int .i64)),(16,.one (.int .i64))],[(0,.box [.nil (.flt .f32),.nil (.int .i64),.nil (.slice (.flt .f32))]),(1,.box [.sl (.flt .f32),.sl (.int .i64),.ref (.slice (.flt .f32)) 2]),(2,.arr (.slice (.flt .f32)))],3,0⟩
abbrev c1g:Type:=((Unit×(Unit×Unit))×((Unit×(Unit×(Unit×Unit)))×(((List (Den (.flt .f32)))×((List (Den (.int .i64)))×(Unit×Unit)))×((List (Den (.slice (.flt .f32))))×Unit))))
def b7z:ShS:=⟨[(2,.one (.ptr 0 0)),(3,.one (.ptr 1 0))],[(0,.box [.nil (.flt .f32),.nil (.int .i64),.nil (.slice (.flt .f32))]),(1,.box [.sl (.flt .f32),.sl (.int .i64),.ref (.slice (.flt .f32)) 2]),(2,.arr (.slice (.flt .f32)))],3,0⟩
noncomputable def f3g (a b c d e g) :=a0m tab eqs [(199,a0a d6r e5k a b),(200,a0a c7O d8a c d)] 29 [.cell 2 28] [] [] [(3,a1Q [2,3,14,15,16] [.boxNil 3 2] 0 [2,3] [] b7y b7z e g)] [] [.frzBox 2]
noncomputable def d3Y:Code:=(a0p (a0b Tryz.f147)).getD 0 .skip
def c6d (a:KA d6r) (b:GA d6r e5k) (c:KA c7O) (d:GA c7O d8a) (f:a9t->Option (c1g)) (v:a9t):Option (c1g):=bif decide (v.1.2.2.2.2.1<v.1.2.2.2.1) then bif decide (0<=v.1.2.2.2.2.1)&&decide (v.1.2.2.2.2.1<(length v.1.2.2.1:Int)) then let e:=zero (Ty.slice (Ty.flt .f32));let g:=getD v.1.2.2.1 (toNat v.1.2.2.2.2.1) e;bif a (g,()) then let h:=set (replicate 1 e) 0 (b (g,())).1;bif a0D (length v.2.2.2.1+length h) then f ((((),(),v.1.2.2.1,v.1.2.2.2.1,wrap .i64 (v.1.2.2.2.2.1+1),()),((),(),(),()),(v.2.2.1.1,v.2.2.1.2.1,(),()),v.2.2.2.1++h,()))else none else none else none else some (((),(),()),((),(),(),()),(v.2.2.1.1,v.2.2.1.2.1,(),()),v.2.2.2)
theorem e0o (a b c d e g f v) :EBk (f3g a b c d e g) d3Y (a0z [2,3,14,15,16] [.boxNil 3 2] 0 [2,3] [] (atS b7y f) (a4X b7z)) (mkS b7y v)=c6d a b c d f v:=by kernel_rfl
def c6e (v:a9t):Nat:=v.1.2.2.1.length+v.1.2.2.2.1.natAbs+v.1.2.2.2.2.1.natAbs+v.2.2.1.1.length+v.2.2.1.2.1.length+v.2.2.2.1.length+1000
def d3Z (v:a9t):Option (c1g):=a1t (c6d e1M e1N d6s d6t) (c6e v) v
def b7A (v:a9t):Bool:=(d3Z v).isSome
def b7B (v:a9t):c1g:=(d3Z v).getD (((),((),())),(((),((),((),()))),(([],([],((),()))),([],()))))
def g2V (a:KA d6r) (b:GA d6r e5k) (c:KA c7O) (d:GA c7O d8a) (e:a9t->Bool) (g:a9t->c1g) (x:Den e0n):OD e3K:=bif a (x.1.1,()) then bif c (x.1.2.1,()) then let j:=b (x.1.1,());let k:=d (x.1.2.1,());let i:=(((),(),x.1.2.2.1,(length x.1.2.2.1:Int),0,()),((),(),(),()),(j.1,k.1,(),()),[],());bif e i then let h:=g i;some ((h.2.2.1.1,h.2.2.1.2.1,h.2.2.2),())else none else none else none
theorem g2W (a b c d e g x) :a0t (f3g a b c d e g) (a0b Tryz.f147) (a1a e3K) (a0M e0n x) []=g2V a b c d e g x:=by kernel_rfl
def f6M (x:Den e0n):OD e3K:=g2V e1M e1N d6s d6t b7A b7B x
def f6N (x:Den e0n):Bool:=(f6M x).isSome
def f6O (x:Den e0n):Den e3K:=(f6M x).getD (zero e3K)
theorem f3h:a0k Tryz.prog (147,a0a e0n e3K f6N f6O):=a1d (a0v mixed a0x a0w (.cons e9Y (.cons e1O .nil))) (a1H Tryz.func147 rfl rfl rfl (by kernel_rfl) (a0y (l:=[d3Y]) (by kernel_rfl) (.cons (a0o rfl (a0q (sh:=b7y) (shX:=b7z) (fun f v=>e0o e1M e1N d6s d6t b7A b7B f v) c6e (((),((),())),(((),((),((),()))),(([],([],((),()))),([],())))))) (.nil)))) fun x=>g2W e1M e1N d6s d6t b7A b7B x
abbrev e0p:Ty:=.cons (S30) (.nil)
abbrev e3L:Ty:=.cons (S30) (.nil)
noncomputable def g2X (a b c d) :=a0m tab eqs [(201,a0a e1P e8Q a b),(200,a0a c7O d8a c d)] 10 [.cell 2 31] [] [] [] [] []
def g2Y (a:KA e1P) (b:GA e1P e8Q) (c:KA c7O) (d:GA c7O d8a) (x:Den e0p):OD e3L:=bif a (x.1.1,()) then bif c x.1.2 then some (((b (x.1.1,())).1,d x.1.2),())else none else none
theorem g2Z (a b c d x) :a0t (g2X a b c d) (a0b Tryz.f148) (a1a e3L) (a0M e0p x) []=g2Y a b c d x:=by kernel_rfl
def f6P (x:Den e0p):OD e3L:=g2Y f4E f4F d6s d6t x
def f6Q (x:Den e0p):Bool:=(f6P x).isSome
def f6R (x:Den e0p):Den e3L:=(f6P x).getD (zero e3L)
theorem f3i:a0k Tryz.prog (148,a0a e0p e3L f6Q f6R):=fnO (.cons f0d (.cons e1O .nil)) Tryz.func148 (g2Z f4E f4F d6s d6t)
abbrev e0q:Ty:=.cons (S38) (.nil)
abbrev e3M:Ty:=.cons (S38) (.nil)
noncomputable def g3a (a b) :=a0m tab eqs [(202,a0a e1R e8S a b)] 8 [.cell 2 39] [] [] [] [] []
def g3b (a:KA e1R) (b:GA e1R e8S) (x:Den e0q):OD e3M:=bif a (x.1.2.1,()) then some ((x.1.1,(b (x.1.2.1,())).1,x.1.2.2),())else none
theorem g3c (a b x) :a0t (g3a a b) (a0b Tryz.f150) (a1a e3M) (a0M e0q x) []=g3b a b x:=by kernel_rfl
def f6S (x:Den e0q):OD e3M:=g3b f4I f4J x
def f6T (x:Den e0q):Bool:=(f6S x).isSome
def f6U (x:Den e0q):Den e3M:=(f6S x).getD (zero e3M)
theorem f3j:a0k Tryz.prog (150,a0a e0q e3M f6T f6U):=fnO (.cons f0j .nil) Tryz.func150 (g3c f4I f4J)
abbrev A84:Ty:=.cons (S40) (.nil)
abbrev R84:Ty:=.cons (S40) (.nil)
noncomputable def g6N (a b c d e g h i) :=a0m tab eqs [(147,a0a e0n e3K a b),(148,a0a e0p e3L c d),(149,a0a e1Q e8R e g),(150,a0a e0q e3M h i)] 16 [.cell 2 41] [] [] [] [] []
def r84 (a:KA e0n) (b:GA e0n e3K) (c:KA e0p) (d:GA e0p e3L) (e:KA e1Q) (g:GA e1Q e8R) (h:KA e0q) (i:GA e0q e3M) (x:Den A84):OD R84:=bif a (x.1.1,()) then bif c (x.1.2.1,()) then bif e (x.1.2.2.1,()) then bif h x.1.2.2.2 then some (((b (x.1.1,())).1,(d (x.1.2.1,())).1,(g (x.1.2.2.1,())).1,i x.1.2.2.2),())else none else none else none else none
theorem g6O (a b c d e g h i x) :a0t (g6N a b c d e g h i) (a0b Tryz.f84) (a1a R84) (a0M A84 x) []=r84 a b c d e g h i x:=by kernel_rfl
def F84 (x:Den A84):OD R84:=r84 f6N f6O f6Q f6R f4G f4H f6T f6U x
def K84 (x:Den A84):Bool:=(F84 x).isSome
def G84 (x:Den A84):Den R84:=(F84 x).getD (zero R84)
theorem g3d:a0k Tryz.prog (84,a0a A84 R84 K84 G84):=fnO (.cons f3h (.cons f3i (.cons f0g (.cons f3j .nil)))) Tryz.func84 (g6O f6N f6O f6Q f6R f4G f4H f6T f6U)
abbrev A16:Ty:=.cons (.str) (.nil)
abbrev R16:Ty:=.cons (.slice (.str)) (.cons (.bool) (.nil))
abbrev a9R:Type:=((ByteArray×(Int×Unit))×Unit)
def c6f:ShS:=⟨[(0,.one (.str)),(4,.one (.int .i64))],[],0,0⟩
abbrev d4a:Type:=((ByteArray×Unit)×Unit)
def c3v:ShS:=⟨[(0,.one (.str))],[],0,0⟩
abbrev d4b:Type:=((Unit×(Bool×Unit))×Unit)
def c3w:ShS:=⟨[(2,.one (.nil (.str))),(3,.one (.bool))],[],0,0⟩
abbrev a9u:Type:=((Unit×((List (Den (.str)))×(Int×(Int×Unit))))×((List (Den (.str)))×Unit))
def b7C:ShS:=⟨[(5,.one (.ref (.str) 0)),(28,.one (.sl (.str))),(29,.one (.int .i64)),(30,.one (.int .i64))],[(0,.arr (.str))],1,0⟩
abbrev c1h:Type:=((Unit×Unit)×((List (Den (.str)))×Unit))
def b7D:ShS:=⟨[(5,.one (.ref (.str) 0))],[(0,.arr (.str))],1,0⟩
noncomputable def g3e (c d e g h i a b) :=a0m tab eqs [(48,a0a A48 R48 c d)] 45 [.tmp 2,.tmp 3] [] [] [(4,a2d [0,4] [] 0 [0] [] c6f c3v c3w e h g i),(10,a1Q [5,28,29,30] [.nil 5] 2 [5] [] b7C b7D a b)] [] [.frz 2]
noncomputable def e3N:Code:=(a0p (a0b Tryz.f16)).getD 0 .skip
noncomputable def d4c:Code:=(a0p (a0b Tryz.f16)).getD 1 .skip
def c6g (c:KA A48) (d:GA A48 R48) (f:a9u->Option (c1h)) (v:a9u):Option (c1h):=bif decide (v.1.2.2.2.1<v.1.2.2.1) then bif decide (0<=v.1.2.2.2.1)&&decide (v.1.2.2.2.1<(length v.1.2.1:Int)) then let a:=getD v.1.2.1 (toNat v.1.2.2.2.1) (zero Ty.str);bif !a2F a { data:=#[] } then let b:=set (replicate 1 (zero Ty.str)) 0 a;bif a0D (length v.2.1+length b) then f ((((),v.1.2.1,v.1.2.2.1,wrap .i64 (v.1.2.2.2.1+1),()),v.2.1++b,()))else none else f ((((),v.1.2.1,v.1.2.2.1,wrap .i64 (v.1.2.2.2.1+1),()),v.2))else none else some (((),()),v.2)
theorem e0r (a b e g h i c d f v) :EBk (g3e a b e g h i c d) d4c (a0z [5,28,29,30] [.nil 5] 2 [5] [] (atS b7C f) (a4X b7D)) (mkS b7C v)=c6g a b f v:=by kernel_rfl
def c6h (v:a9u):Nat:=v.1.2.1.length+v.1.2.2.1.natAbs+v.1.2.2.2.1.natAbs+v.2.1.length+1000
def d4d (v:a9u):Option (c1h):=a1t (c6g K48 G48) (c6h v) v
def b1I (v:a9u):Bool:=(d4d v).isSome
def b1J (v:a9u):c1h:=(d4d v).getD (((),()),([],()))
def d4e (c:KA A48) (d:GA A48 R48) (f:a9R->Option (d4a⊕d4b)) (v:a9R):Option (d4a⊕d4b):=let a:=v.1.2.1<(ByteArray.size v.1.1:Int);bif decide a then let b:=decide (0<=v.1.2.1)&&decide a;bif b then bif decide (a1z v.1.1 v.1.2.1<32) then some (Sum.inr (((),false,()),()))else bif b then bif decide (a1z v.1.1 v.1.2.1>126) then some (Sum.inr (((),false,()),()))else f (((v.1.1,wrap .i64 (v.1.2.1+1),()),()))else none else none else some (Sum.inl ((v.1.1,()),()))
theorem e6L (a b e g h i c d f v) :EBk (g3e a b e g h i c d) e3N (a0z [0,4] [] 0 [0] [] (atS c6f f) (a6c c3v c3w)) (mkS c6f v)=d4e a b f v:=by kernel_rfl
def e6M (v:a9R):Nat:=v.1.1.size+v.1.2.1.natAbs+1000
def d4f (v:a9R):Option (d4a⊕d4b):=a1t (d4e K48 G48) (e6M v) v
def c1i (v:a9R):Bool:=(d4f v).isSome
def c1j (v:a9R):Bool:=isR (d4f v)
def c1k (v:a9R):d4a:=xOf ((ByteArray.empty,()),()) (d4f v)
def c1l (v:a9R):d4b:=yOf (((),(false,())),()) (d4f v)
def r16 (c:KA A48) (d:GA A48 R48) (e:a9R->Bool) (g:a9R->d4a) (h:a9R->Bool) (i:a9R->d4b) (a:a9u->Bool) (b:a9u->c1h) (x:Den A16):OD R16:=bif decide ((ByteArray.size x.1:Int)>600) then some ([],false,())else bif e ((x.1,0,()),()) then bif h ((x.1,0,()),()) then some ([],(i ((x.1,0,()),())).1.2)else let n:=g ((x.1,0,()),());let j:=(n.1.1,{ data:=#[32] },());bif c j then let k:=d j;let l:=(((),k.1,(length k.1:Int),0,()),[],());bif a l then let m:=b l;bif decide ((length m.2.1:Int)>24) then some ([],false,())else some (m.2.1,true,())else none else none else none
theorem g6P (c d e g h i a b x) :a0t (g3e c d e g h i a b) (a0b Tryz.f16) (a1a R16) (a0M A16 x) []=r16 c d e g h i a b x:=by kernel_rfl
def F16 (x:Den A16):OD R16:=r16 K48 G48 c1i c1k c1j c1l b1I b1J x
def K16 (x:Den A16):Bool:=(F16 x).isSome
def G16 (x:Den A16):Den R16:=(F16 x).getD (zero R16)
theorem g3f:a0k Tryz.prog (16,a0a A16 R16 K16 G16):=a1d (a0v mixed a0x a0w (.cons f7y .nil)) (a1H Tryz.func16 rfl rfl rfl (by kernel_rfl) (a0y (l:=[e3N,d4c]) (by kernel_rfl) (.cons (a0o rfl (a0u (sh:=c6f) (shX:=c3v) (shR:=c3w) (fun f v=>e6L K48 G48 c1i c1k c1j c1l b1I b1J f v) e6M ((ByteArray.empty,()),()) (((),(false,())),()))) (.cons (a0o rfl (a0q (sh:=b7C) (shX:=b7D) (fun f v=>e0r K48 G48 c1i c1k c1j c1l b1I b1J f v) c6h (((),()),([],())))) (.nil))))) fun x=>g6P K48 G48 c1i c1k c1j c1l b1I b1J x
abbrev I36:Sg:=⟨[.val (S46)],[]⟩
abbrev O36:Sg:=⟨[.mix [.sl (.flt .f32),.sl (.int .i64),.sl (.slice (.flt .f32)),.sl (a0Y),.sl (.int .i64),.sl (S68),.int .i64,.int .i64,.int .i64,.int .i64,.sl (a1U),.int .i64,.int .i64,.int .i64,.int .i64,.int .i64,.cpx .f64,.int .i64,.cpx .f32,.int .i64,.ref (S97) 0,.ref (.str) 1]],[.arr (S97),.arr (.str)]⟩
noncomputable def g6Q (a b c d e g) :=a0m tab eqs [(84,a0a A84 R84 a b),(85,a0j false I85 O85 c d),(86,a0j false I86 O86 e g)] 16 [.cell 2 47] [] [] [] [] []
def r36 (b:KA A84) (c:GA A84 R84) (d:KI I85) (e:GI I85 O85) (g:KI I86) (h:GI I86 O86) (x:I36.den):Option (O36.den):=bif b (x.1.1.1,()) then let i:=((x.1.1.2.2.2.2.2.2.1,()),());bif d i then bif g (x.1.1.2.2.2.2.2.2.2,()) then let a:=c (x.1.1.1,());some (((a.1.1.1,a.1.1.2.1,a.1.1.2.2.1,a.1.2.1.1,a.1.2.1.2.1,a.1.2.2.1,a.1.2.2.2.1.1.1.1,a.1.2.2.2.1.1.1.2.1,a.1.2.2.2.1.1.2.1.1,a.1.2.2.2.1.1.2.1.2.1,a.1.2.2.2.1.2.1,a.1.2.2.2.1.2.2.1.1.1,a.1.2.2.2.1.2.2.1.1.2.1,a.1.2.2.2.1.2.2.1.2.1.1,a.1.2.2.2.1.2.2.1.2.1.2.1,x.1.1.2.1,x.1.1.2.2.1,x.1.1.2.2.2.1,x.1.1.2.2.2.2.1,x.1.1.2.2.2.2.2.1,(),(),()),()),(e i).2.1,(h (x.1.1.2.2.2.2.2.2.2,())).2)else none else none else none
theorem g6R (a b c d e g x) :a1W (g6Q a b c d e g) (a0b Tryz.f36) I36 O36 x=r36 a b c d e g x:=by kernel_rfl
def F36 (x:I36.den):Option (O36.den):=r36 K84 G84 K85 G85 K86 G86 x
def K36 (x:I36.den):Bool:=(F36 x).isSome
def G36 (x:I36.den):O36.den:=(F36 x).getD (a1l O36)
theorem f3k:a0k Tryz.prog (36,a0j false I36 O36 K36 G36):=a1p (a0v mixed a0x a0w (.cons g3d (.cons f7M (.cons f7Q .nil)))) (a1H Tryz.func36 rfl rfl rfl (by kernel_rfl) (a0O (by kernel_rfl))) false fun x=>g6R K84 G84 K85 G85 K86 G86 x
theorem c1m (x:Den A44):F44 x=some (decide (x.2.1<=x.1)&&decide (x.1<=x.2.2.1),()):=by
 unfold F44 r44;by_cases h:x.2.1<=x.1<;>simp[h]
theorem c1n (x:Den A51):F51 x=some (decide (x.2.1<=x.1)&&decide (x.1<=x.2.2.1),()):=c1m x
def a5O (s:Den S68) (m:Den S63):Bool:=(fgt .f32 m.1 s.2.1||feq .f32 m.1 s.2.1)&&(flt .f32 m.1 s.2.2.1||feq .f32 m.1 s.2.2.1)&&(decide (s.2.2.2.1<=m.2.1)&&decide (m.2.1<=s.2.2.2.2.1))
theorem c3x (x:Den b7a):f6o x=some (a5O x.1 x.2.1,()):=by
 unfold f6o g2c a5O;simp only[K44,G44,c1m,isSome_some,getD_some];cases (fgt .f32 x.2.1.1 x.1.2.1||feq .f32 x.2.1.1 x.1.2.1)<;>cases (flt .f32 x.2.1.1 x.1.2.2.1||feq .f32 x.2.1.1 x.1.2.2.1)<;>simp
def I64 (n:Int):Prop := -9223372036854775808<=n /\ n<=9223372036854775807
def a0U (s:Den S68) (m:Den S63):Bool:=
 (fgt .f32 m.1 (a0g .sub .f32 s.2.1 1065353216)||feq .f32 m.1 (a0g .sub .f32 s.2.1 1065353216))&&(flt .f32 m.1 (a0g .add .f32 s.2.2.1 1065353216)||feq .f32 m.1 (a0g .add .f32 s.2.2.1 1065353216)) &&
  (decide (s.2.2.2.1<=m.2.1)||decide (s.2.2.2.1-m.2.1<=5))&&(decide (m.2.1<=s.2.2.2.2.1)||decide (m.2.1-s.2.2.2.2.1<=5))
theorem c6i {a b:Int} (ha:I64 a) (hb:I64 b) (h:¬b<=a):(decide (0<=IntKind.i64.wrap (b-a))&&decide (IntKind.i64.wrap (b-a)<=5))=decide (b-a<=5):=by
 unfold I64 at ha hb;rw[IntKind.wrap_i64,Bool.eq_iff_iff];simp only[and_eq_true,decide_eq_true_eq];omega
theorem c6j {a b:Int} (ha:I64 a) (hb:I64 b) (h:¬b<=a):decide (IntKind.u64.wrap (IntKind.u64.wrap b-IntKind.u64.wrap a)<=5)=decide (b-a<=5):=by
 unfold I64 at ha hb;rw[IntKind.wrap_u64,IntKind.wrap_u64,IntKind.wrap_u64,Bool.eq_iff_iff];simp only[decide_eq_true_eq];omega
theorem dlt (a b:Int):decide (a<b)=!decide (b<=a):=by by_cases h:b<=a<;>simp[h]<;>omega
theorem f3l (x:Den A55) (h1:I64 x.1.2.2.2.1) (h2:I64 x.1.2.2.2.2.1) (h3:I64 x.2.1.2.1):F55 x=some (a0U x.1 x.2.1,()):=by
 unfold F55 r55 a0U;simp only[K51,G51,c1n,isSome_some,getD_some,cond_true,dlt];generalize (fgt .f32 x.2.1.1 (a0g .sub .f32 x.1.2.1 1065353216)||feq .f32 x.2.1.1 (a0g .sub .f32 x.1.2.1 1065353216))=p;generalize (flt .f32 x.2.1.1 (a0g .add .f32 x.1.2.2.1 1065353216)||feq .f32 x.2.1.1 (a0g .add .f32 x.1.2.2.1 1065353216))=q;by_cases ha:x.1.2.2.2.1<=x.2.1.2.1<;>by_cases hb:x.2.1.2.1<=x.1.2.2.2.2.1
 ·simp only[ha,hb,decide_true];cases p<;>cases q<;>rfl
 ·simp only[ha,hb,decide_true,decide_false,c6i h2 h3 hb];cases p<;>cases q<;>rfl
 ·simp only[ha,hb,decide_true,decide_false,c6i h3 h1 ha];cases p<;>cases q<;>cases decide (x.1.2.2.2.1-x.2.1.2.1<=5)<;>rfl
 ·simp only[ha,hb,decide_false,c6i h3 h1 ha,c6i h2 h3 hb];cases p<;>cases q<;>cases decide (x.1.2.2.2.1-x.2.1.2.1<=5)<;>rfl
theorem d4g (x:Den A20) (h1:I64 x.1.2.2.2.1) (h2:I64 x.1.2.2.2.2.1) (h3:I64 x.2.1.2.1):F20 x=some (a0U x.1 x.2.1,()):=by
 unfold F20 r20 a0U;simp only[ge_iff_le];generalize (fgt .f32 x.2.1.1 (a0g .sub .f32 x.1.2.1 1065353216)||feq .f32 x.2.1.1 (a0g .sub .f32 x.1.2.1 1065353216))=p;generalize (flt .f32 x.2.1.1 (a0g .add .f32 x.1.2.2.1 1065353216)||feq .f32 x.2.1.1 (a0g .add .f32 x.1.2.2.1 1065353216))=q;by_cases ha:x.1.2.2.2.1<=x.2.1.2.1<;>by_cases hb:x.2.1.2.1<=x.1.2.2.2.2.1
 ·simp only[ha,hb,decide_true];cases p<;>cases q<;>rfl
 ·simp only[ha,hb,decide_true,decide_false,c6j h2 h3 hb];cases p<;>cases q<;>rfl
 ·simp only[ha,hb,decide_true,decide_false,c6j h3 h1 ha];cases p<;>cases q<;>cases decide (x.1.2.2.2.1-x.2.1.2.1<=5)<;>rfl
 ·simp only[ha,hb,decide_false,c6j h3 h1 ha,c6j h2 h3 hb];cases p<;>cases q<;>cases decide (x.1.2.2.2.1-x.2.1.2.1<=5)<;>rfl
theorem a7M (c x:Bool):(bif c then some (x,())else some (false,()))=some (c&&x,()):=by cases c<;>rfl
theorem d4h (a:ByteArray):a2F a a=true:=by simp[a2F]
def a7N (s:ByteArray):Bool:=a0r (fun i=>decide (97<=a1z s i)&&decide (a1z s i<=122)) 0 s.size
def g3g:ByteArray:={ data:=#[110,111,110,101] }
def c3y (s:ByteArray):Bool:=a7N s&&((decide (1<=(s.size:Int))&&decide ((s.size:Int)<=16))&&!a2F s g3g)
theorem dgt (a b:Int):decide (a>b)=!decide (a<=b):=by by_cases h:a<=b<;>simp[h]<;>omega
theorem e6N (s:ByteArray) (h:s.size<=9223372036854775807):f4S (s,())=some (c3y s,()):=by
 have hl:b9z ((s,(0:Int),()),())=some (bif a7N s then .inl ((s,()),())else .inr ((false,()),())):=by
  refine(a0Z (q:=b9y K51 G51) (fun k=>((s,(k:Int),()),())) s.size (fun i=>decide (97<=a1z s i)&&decide (a1z s i<=122)) _ _ ?_ ?_ _ ?_:_)
  ·intro k f hk;unfold b9y;simp only[a3I k (by omega),dlt (a1z s k),dgt (a1z s k)];have e1:decide ((k:Int)<(s.size:Int))=true:=by simpa using hk
   have e2:decide (0<=(k:Int))=true:=by simp
   simp only[e1,e2,Bool.and_self,cond_true];cases decide (97<=a1z s k)<;>cases decide (a1z s k<=122)<;>rfl
  ·intro f;simp[b9y]
  ·simp only[d1n];omega
 unfold f4S f8c c3y;simp only[b4M,b4N,b4O,b4P,hl,isSome_some,cond_true,K51,G51,c1n,getD_some];cases a7N s
 ·rfl
 ·simp only[cond_true,isR,xOf,cond_false,Bool.true_and];exact a7M _ _
theorem e6O (s:ByteArray) (h:s.size<=9223372036854775807):f5G (s,())=some (c3y s,()):=by
 have hl:c0z ((s,(0:Int),()),())=some (bif a7N s then .inl ((s,()),())else .inr ((false,()),())):=by
  refine(a0Z (q:=c0y K44 G44) (fun k=>((s,(k:Int),()),())) s.size (fun i=>decide (97<=a1z s i)&&decide (a1z s i<=122)) _ _ ?_ ?_ _ ?_:_)
  ·intro k f hk;unfold c0y;simp only[a3I k (by omega),dlt (a1z s k),dgt (a1z s k)];have e1:decide ((k:Int)<(s.size:Int))=true:=by simpa using hk
   have e2:decide (0<=(k:Int))=true:=by simp
   simp only[e1,e2,Bool.and_self,cond_true];cases decide (97<=a1z s k)<;>cases decide (a1z s k<=122)<;>rfl
  ·intro f;simp[c0y]
  ·simp only[d2R];omega
 unfold f5G g0s c3y;simp only[b6p,b6q,b6r,b6s,hl,isSome_some,cond_true,K44,G44,c1m,getD_some];cases a7N s
 ·rfl
 ·simp only[cond_true,isR,xOf,cond_false,Bool.true_and];exact a7M _ _
def at' (l:List (Den S68)) (i:Nat):Den S68:=l.getD i (zero S68)
theorem d4i (l:List (Den S68)) (s:ByteArray) (h:l.length<=9223372036854775807):f1Q (l,s,())=some (match a0L (fun i=>a2F (at' l i).1 s) 0 l.length with|some j=>(j:Int)|none=>-1,()):=by
 have hl:c0D ((s,l,(l.length:Int),(0:Int),()),())=some (match a0L (fun i=>a2F (at' l i).1 s) 0 l.length with|some j => .inr (((j:Int),()),())|none => .inl ((),())):=by
  refine(a7C (q:=c0C) (fun k=>((s,l,(l.length:Int),(k:Int),()),())) l.length (fun i=>a2F (at' l i).1 s) _ (fun j => .inr (((j:Int),()),())) ?_ ?_ _ ?_:_)
  ·intro k f hk;unfold c0C;have e1:decide ((k:Int)<(l.length:Int))=true:=by simpa using hk
   have e2:decide (0<=(k:Int))=true:=by simp
   simp only[a3I k (by omega),e1,e2,Bool.and_self,cond_true,toNat_natCast];rfl
  ·intro f;simp[c0C]
  ·simp only[d2T];omega
 unfold f1Q g0u;simp only[b6w,b6x,b6y,hl,isSome_some,cond_true];cases a0L (fun i=>a2F (at' l i).1 s) 0 l.length<;>rfl
def a2l (s:Den S68):Bool:=c3y s.1&&((fgt .f32 s.2.1 0||feq .f32 s.2.1 0)&&(fgt .f32 s.2.2.1 s.2.1&&((flt .f32 s.2.2.1 1128792064||feq .f32 s.2.2.1 1128792064) &&
 ((decide (0<=s.2.2.2.1)&&decide (s.2.2.2.1<=180))&&(decide (s.2.2.2.1<=s.2.2.2.2.1)&&decide (s.2.2.2.2.1<=180))))))
def a3Q (l:List (Den S68)) (i:Nat):Bool:=a0r (fun j=>!a2F (at' l j).1 (at' l i).1) 0 i
def a3k (l:List (Den S68)):Bool:=a0r (fun i=>a2l (at' l i)&&a3Q l i) 0 l.length&&decide ((l.length:Int)<=12)
structure d4j (l:List (Den S68)):Prop where
 len:l.length<=9223372036854775807
 name:∀i,(at' l i).1.size<=9223372036854775807
 rng:∀i,I64 (at' l i).2.2.2.1 /\ I64 (at' l i).2.2.2.2.1
theorem f3m {l:List (Den S68)} {i:Nat}:at' l i∈l∨at' l i=zero S68:=by
 unfold at';rw[List.getD_eq_getElem?_getD];cases h:l[i]? with
 |none=>exact .inr rfl
 |some x=>exact .inl (List.mem_of_getElem? h)
theorem c8G {l:List (Den S68)} {i:Nat} (hi:i<l.length):((match a0L (fun j=>a2F (at' l j).1 (at' l i).1) 0 l.length with|some j=>(j:Int)|none=>-1) != (i:Int))=!a3Q l i:=by
 have hs:a2F (at' l i).1 (at' l i).1=true:=d4h _;cases h:a0L (fun j=>a2F (at' l j).1 (at' l i).1) 0 l.length with
 |none=>have:=a2A.1 h i (zero_le _) (by omega);rw[hs]at this;cases this
 | some j =>
   obtain⟨h1,h2,h3,h4⟩:=a1B h;by_cases hji:j=i
   ·subst hji;have:a3Q l j=true:=a0H.2 fun k hk1 hk2=>by rw[h4 k (zero_le _) (by omega)];rfl
    rw[this];simp
   ·have hlt:j<i:=by
     rcases Nat.lt_or_ge j i with h5|h5
     ·exact h5
     ·have:=h4 i (zero_le _) (by omega);rw[hs]at this;cases this
    have:a3Q l i=false:=by
     cases hf:a3Q l i with
     |false=>rfl
     |true=>have:=a0H.1 hf j (zero_le _) (by omega);rw[h3]at this;cases this
    rw[this];simp;omega
theorem d4k (l:List (Den S68)) (h:d4j l):F92 (l,())=some (a3k l,()):=by
 have hl:d2X ((l,l,(l.length:Int),(0:Int),()),())=some (bif a0r (fun i=>a2l (at' l i)&&a3Q l i) 0 l.length then .inl ((),())else .inr ((false,()),())):=by
  refine(a0Z (q:=d2W e6g e6h c9F c9G K44 G44) (fun k=>((l,l,(l.length:Int),(k:Int),()),())) l.length (fun i=>a2l (at' l i)&&a3Q l i) _ _ ?_ ?_ _ ?_:_)
  ·intro k f hk;unfold d2W a2l;have e1:decide ((k:Int)<(l.length:Int))=true:=by simpa using hk
   have e2:decide (0<=(k:Int))=true:=by simp
   have hlen:=h.len;have ha:getD l k (zero S68)=at' l k:=rfl;have hf:=c8G hk;simp only[a3I k (by omega),e1,e2,Bool.and_self,cond_true,toNat_natCast,ha,e6g,e6h,e6O _ (h.name k),c9F,c9G,d4i l _ h.len,K44,G44,c1m,isSome_some,getD_some,hf];generalize at' l k=s;cases c3y s.1<;>cases a3Q l k<;>cases (fgt .f32 s.2.1 0||feq .f32 s.2.1 0)<;>cases fgt .f32 s.2.2.1 s.2.1<;>cases (flt .f32 s.2.2.1 1128792064||feq .f32 s.2.2.1 1128792064) <;>
    cases (decide (0<=s.2.2.2.1)&&decide (s.2.2.2.1<=180))<;>cases (decide (s.2.2.2.1<=s.2.2.2.2.1)&&decide (s.2.2.2.2.1<=180))<;>rfl
  ·intro f;simp[d2W]
  ·simp only[e6j];omega
 unfold F92 r92 a3k;simp only[c5A,c5B,c5C,hl,isSome_some,cond_true,dgt (l.length:Int)];cases decide ((l.length:Int)<=12)<;>cases a0r (fun i=>a2l (at' l i)&&a3Q l i) 0 l.length<;>rfl
theorem e6P (l:List (Den S68)) (h:d4j l):f4T (l,())=some (a3k l,()):=by
 have hlen:=h.len;have hin:∀k,k<l.length->b2V ((l,(k:Int),(),(0:Int),()),at' l k,())=some (bif a3Q l k then .inl ((l,(k:Int),()),())else .inr ((false,()),())):=by
  intro k hk;refine(a0Z (q:=b9C d6y d6z K51 G51) (fun j=>((l,(k:Int),(),(j:Int),()),at' l k,())) k (fun j=>!a2F (at' l j).1 (at' l k).1) _ _ ?_ ?_ _ ?_:_)
  ·intro j f hj;unfold b9C;have e1:decide ((j:Int)<(k:Int))=true:=by simpa using hj
   have e2:decide (0<=(j:Int))=true:=by simp
   have e3:decide ((j:Int)<(l.length:Int))=true:=by simp;omega
   have ha:getD l j (zero S68)=at' l j:=rfl;simp only[a3I j (by omega),e1,e2,e3,Bool.and_self,cond_true,toNat_natCast,ha];cases a2F (at' l j).1 (at' l k).1<;>rfl
  ·intro f;simp[b9C]
  ·simp only[d1q];omega
 have hl:b9E ((l,(0:Int),()),())=some (bif a0r (fun i=>a2l (at' l i)&&a3Q l i) 0 l.length then .inl ((l,()),())else .inr ((false,()),())):=by
  refine(a0Z (q:=b9D d6y d6z K51 G51 a6Q a6S a6R a6T) (fun k=>((l,(k:Int),()),())) l.length (fun i=>a2l (at' l i)&&a3Q l i) _ _ ?_ ?_ _ ?_:_)
  ·intro k f hk;have hi:=hin k hk;unfold b9D a2l;have e1:decide ((k:Int)<(l.length:Int))=true:=by simpa using hk
   have e2:decide (0<=(k:Int))=true:=by simp
   have ha:getD l k (zero S68)=at' l k:=rfl;simp only[e1,e2,Bool.and_self,cond_true,toNat_natCast,ha,d6y,d6z,e6N _ (h.name k),K51,G51,c1n,isSome_some,getD_some];have hi':b2V ((l,(k:Int),(),(0:Int),()),((at' l k).1,(at' l k).2.1,(at' l k).2.2.1,(at' l k).2.2.2.1,(at' l k).2.2.2.2.1,()),())=_:=hi;simp only[a6Q,a6R,a6S,a6T,hi',isSome_some];generalize at' l k=s;cases c3y s.1<;>cases a3Q l k<;>cases (fgt .f32 s.2.1 0||feq .f32 s.2.1 0)<;>cases fgt .f32 s.2.2.1 s.2.1<;>cases (flt .f32 s.2.2.1 1128792064||feq .f32 s.2.2.1 1128792064) <;>
    cases (decide (0<=s.2.2.2.1)&&decide (s.2.2.2.1<=180))<;>cases (decide (s.2.2.2.1<=s.2.2.2.2.1)&&decide (s.2.2.2.2.1<=180))<;>first|rfl|(simp only[cond_true,cond_false,isR,xOf,yOf,Bool.and_true,Bool.not_true,a3I k (by omega)];done)|(simp[isR,xOf,yOf,a3I k (by omega)])
  ·intro f;simp[b9D]
  ·simp only[d1r];omega
 unfold f4T f8e a3k;simp only[b1h,b1i,b1j,b1k,hl,isSome_some,cond_true];cases a0r (fun i=>a2l (at' l i)&&a3Q l i) 0 l.length
 ·rfl
 ·simp only[cond_true,isR,xOf,cond_false,Bool.true_and];rfl
def inB (n lo hi:Int):Bool:=decide (lo<=n)&&decide (n<=hi)
theorem a2Y (x:Den A51):F51 x=some (inB x.1 x.2.1 x.2.2.1,()):=by
 unfold F51 r51 inB;exact a7M _ _
theorem a3D (x:Den A44):F44 x=some (inB x.1 x.2.1 x.2.2.1,()):=a2Y x
def a1V (p:Den S33):Bool:=inB p.1 (-10000) 10000&&inB p.2.1 (-10000) 10000
theorem c1o (x:Den A98):F98 x=some (a1V x.1,()):=by
 unfold F98 r98 a1V;simp only[K51,G51,a2Y,isSome_some,getD_some,cond_true];exact a7M _ _
theorem c1p (x:Den A63):F63 x=some (a1V x.1,()):=by
 unfold F63 r63 a1V;simp only[K44,G44,a3D,isSome_some,getD_some,cond_true];exact a7M _ _
def eqP (p q:Den S33):Bool:=p.1==q.1&&p.2.1==q.2.1
def b2p (l:Den S35):Bool:=a1V l.1&&(a1V l.2.1&&!eqP l.1 l.2.1)
theorem e6Q (x:Den c9t):f4W x=some (b2p x.1,()):=by
 unfold f4W f8h b2p;simp only[K98,G98,c1o,isSome_some,getD_some,cond_true];cases a1V x.1.1<;>cases a1V x.1.2.1<;>rfl
theorem e6R (x:Den c9H):f5H x=some (b2p x.1,()):=by
 unfold f5H g0x b2p;simp only[K63,G63,c1p,isSome_some,getD_some,cond_true];cases a1V x.1.1<;>cases a1V x.1.2.1<;>rfl
def mk (c:Den S38) (k:Nat):Den a1U:=c.2.1.getD k (zero a1U)
def a2G (c:Den S38) (k:Nat):Den S33:=if k=0 then c.1.1 else(mk c (k-1)).1
def b7E (c:Den S38) (k:Nat):Bool:=a1V (mk c k).1&&!eqP (mk c k).1 (a2G c k)
def b1K (c:Den S38):Bool:=b2p c.1&&(b2p c.2.2.1&&(inB c.2.1.length 1 20&&a0r (b7E c) 0 c.2.1.length))
theorem d4l (c:Den S38) (k:Nat) (h:k<=c.2.1.length) (hl:c.2.1.length<=9223372036854775807):e8V (c,(k:Int),())=some (a2G c k,()):=by
 unfold e8V f8k a2G;by_cases hk:k=0
 ·subst hk;rfl
 ·have e1:((k:Int)==0)=false:=by simpa using hk
  have e2:IntKind.i64.wrap ((k:Int)-1)=((k-1:Nat):Int):=by rw[w64 (by omega) (by omega)];omega
  have e3:decide (0<=((k-1:Nat):Int))=true:=by simp
  have e4:decide (((k-1:Nat):Int)<(c.2.1.length:Int))=true:=by simp;omega
  simp only[e1,e2,e3,e4,cond_false,Bool.and_self,cond_true,toNat_natCast,if_neg hk];rfl
theorem e6S (c:Den S38) (k:Nat) (h:k<=c.2.1.length) (hl:c.2.1.length<=9223372036854775807):f1S (c,(k:Int),())=some (a2G c k,()):=d4l c k h hl
theorem e6T (c:Den S38) (hl:c.2.1.length<=9223372036854775807):f4X (c,())=some (b1K c,()):=by
 have hlp:b2W (((),(0:Int),()),(c.1.1.1,c.1.1.2.1,c.1.2.1.1,c.1.2.1.2.1,c.2.1,c.2.2.1.1.1,c.2.2.1.1.2.1,c.2.2.1.2.1.1,c.2.2.1.2.1.2),())=some (bif a0r (b7E c) 0 c.2.1.length then .inl ((),())else .inr ((false,()),())):=by
  refine(a0Z (q:=b9H e5w e5x K51 G51 K98 G98 e5y e5z) (fun k=>(((),(k:Int),()),(c.1.1.1,c.1.1.2.1,c.1.2.1.1,c.1.2.1.2.1,c.2.1,c.2.2.1.1.1,c.2.2.1.1.2.1,c.2.2.1.2.1.1,c.2.2.1.2.1.2),())) c.2.1.length (b7E c) _ _ ?_ ?_ _ ?_:_)
  ·intro k f hk;have e1:decide ((k:Int)<(c.2.1.length:Int))=true:=by simpa using hk
   have e2:decide (0<=(k:Int))=true:=by simp
   have ha:c.2.1.getD k (zero a1U)=mk c k:=rfl;have h58:e8V (c,(k:Int),())=some (a2G c k,()):=d4l c k (by omega) hl;unfold b9H b7E;simp only[a3I k (by omega),e1,e2,Bool.and_self,cond_true,toNat_natCast,ha,K98,G98,c1o,e5y,e5z,isSome_some,getD_some];have h58':e8V ((((c.1.1.1,c.1.1.2.1,()),(c.1.2.1.1,c.1.2.1.2.1,()),()),c.2.1,((c.2.2.1.1.1,c.2.2.1.1.2.1,()),c.2.2.1.2.1,()),()),(k:Int),())=some (a2G c k,()):=h58;simp only[h58',isSome_some,getD_some,cond_true];cases a1V (mk c k).1
   ·rfl
   ·cases hq:eqP (mk c k).1 (a2G c k)<;>simp only[Bool.not_true,cond_false,Bool.true_and]
    ·have:((mk c k).1.1==(a2G c k).1&&(mk c k).1.2.1==(a2G c k).2.1)=false:=hq;simp only[this,cond_false,Bool.not_false,cond_true]
    ·have:((mk c k).1.1==(a2G c k).1&&(mk c k).1.2.1==(a2G c k).2.1)=true:=hq;simp only[this,cond_true]
  ·intro f;simp[b9H]
  ·simp only[d1u];omega
 unfold f4X f8m b1K;simp only[e5w,e5x,e6Q,K51,G51,a2Y,isSome_some,getD_some,cond_true,b4Z,b5a,b5b];have hlp':b2W (((),0,()),(c.1.1.1,c.1.1.2.1,c.1.2.1.1,c.1.2.1.2.1,c.2.1,c.2.2.1.1.1,c.2.2.1.1.2.1,c.2.2.1.2.1),())=_:=hlp;cases b2p c.1
 ·rfl
 ·cases b2p c.2.2.1
  ·rfl
  ·cases inB c.2.1.length 1 20
   ·rfl
   ·simp only[Bool.not_true,cond_false,Bool.true_and,hlp',isSome_some,cond_true];cases a0r (b7E c) 0 c.2.1.length<;>rfl
theorem f3n (c:Den S38) (hl:c.2.1.length<=9223372036854775807):F93 (c,())=some (b1K c,()):=by
 have hlp:c8k (((),c.2.1,(c.2.1.length:Int),(0:Int),()),(c.1.1.1,c.1.1.2.1,c.1.2.1.1,c.1.2.1.2.1,c.2.1,c.2.2.1.1.1,c.2.2.1.1.2.1,c.2.2.1.2.1.1,c.2.2.1.2.1.2),())=some (bif a0r (b7E c) 0 c.2.1.length then .inl ((),())else .inr ((false,()),())):=by
  refine(a0Z (q:=d3c e6l e6m K44 G44 K63 G63 e6n e6o) (fun k=>(((),c.2.1,(c.2.1.length:Int),(k:Int),()),(c.1.1.1,c.1.1.2.1,c.1.2.1.1,c.1.2.1.2.1,c.2.1,c.2.2.1.1.1,c.2.2.1.1.2.1,c.2.2.1.2.1.1,c.2.2.1.2.1.2),())) c.2.1.length (b7E c) _ _ ?_ ?_ _ ?_:_)
  ·intro k f hk;have e1:decide ((k:Int)<(c.2.1.length:Int))=true:=by simpa using hk
   have e2:decide (0<=(k:Int))=true:=by simp
   have ha:c.2.1.getD k (zero a1U)=mk c k:=rfl;have h63:f1S (c,(k:Int),())=some (a2G c k,()):=e6S c k (by omega) hl;unfold d3c b7E;simp only[a3I k (by omega),e1,e2,Bool.and_self,cond_true,toNat_natCast,ha,K63,G63,c1p,e6n,e6o,isSome_some,getD_some];have h63':f1S ((((c.1.1.1,c.1.1.2.1,()),(c.1.2.1.1,c.1.2.1.2.1,()),()),c.2.1,((c.2.2.1.1.1,c.2.2.1.1.2.1,()),c.2.2.1.2.1,()),()),(k:Int),())=some (a2G c k,()):=h63;simp only[h63',isSome_some,getD_some,cond_true];cases a1V (mk c k).1
   ·rfl
   ·cases hq:eqP (mk c k).1 (a2G c k)<;>simp only[Bool.not_true,cond_false,Bool.true_and]
    ·have:((mk c k).1.1==(a2G c k).1&&(mk c k).1.2.1==(a2G c k).2.1)=false:=hq;simp only[this,cond_false,Bool.not_false,cond_true]
    ·have:((mk c k).1.1==(a2G c k).1&&(mk c k).1.2.1==(a2G c k).2.1)=true:=hq;simp only[this,cond_true]
  ·intro f;simp[d3c]
  ·simp only[e6q];omega
 unfold F93 r93 b1K;simp only[e6l,e6m,e6R,K44,G44,a3D,isSome_some,getD_some,cond_true,c5E,c5F,c5G];have hlp':c8k (((),c.2.1,(c.2.1.length:Int),0,()),(c.1.1.1,c.1.1.2.1,c.1.2.1.1,c.1.2.1.2.1,c.2.1,c.2.2.1.1.1,c.2.2.1.1.2.1,c.2.2.1.2.1),())=_:=hlp;cases b2p c.1
 ·rfl
 ·cases b2p c.2.2.1
  ·rfl
  ·cases inB c.2.1.length 1 20
   ·rfl
   ·simp only[Bool.not_true,cond_false,Bool.true_and,hlp',isSome_some,cond_true];cases a0r (b7E c) 0 c.2.1.length<;>rfl
theorem g3h (x:Den A98):K98 x=true:=by unfold K98;rw[c1o];rfl
theorem g3i (x:Den A63):K63 x=true:=by unfold K63;rw[c1p];rfl
theorem f3o (x:Den A98):G98 x=(a1V x.1,()):=by unfold G98;rw[c1o];rfl
theorem f3p (x:Den A63):G63 x=(a1V x.1,()):=by unfold G63;rw[c1p];rfl
def sg (t:List (Den S97)) (k:Nat):Den S97:=t.getD k (zero S97)
def a5P (t:List (Den S97)) (k:Nat):Bool:=a1V (sg t k).1&&(inB (sg t k).2.1 0 10000000&&!(decide (0<k)&&decide ((sg t k).2.1<=(sg t (k-1)).2.1)))
def a2q (t:List (Den S97)):Bool:=a0r (a5P t) 0 t.length&&decide ((t.length:Int)<=200)
theorem c6k (x:Den A43):F43 x=some (inB x.1 0 10000000,()):=by
 unfold F43 r43;simp only[K44,G44,a3D,isSome_some,getD_some,cond_true]
theorem f3q (t:List (Den S97)) (h:t.length<=9223372036854775807):F53 (t,())=some (a2q t,()):=by
 have hl:d1D ((t,(0:Int),()),())=some (bif a0r (a5P t) 0 t.length then .inl ((t,()),())else .inr ((false,()),())):=by
  refine(a0Z (q:=d1C K98 G98 K51 G51) (fun k=>((t,(k:Int),()),())) t.length (a5P t) _ _ ?_ ?_ _ ?_:_)
  ·intro k f hk;have e1:decide ((k:Int)<(t.length:Int))=true:=by simpa using hk
   have e2:decide (0<=(k:Int))=true:=by simp
   have ha:∀k,t.getD k (zero S97)=sg t k:=fun _=>rfl
   unfold d1C a5P;simp only[a3I k (by omega),e1,e2,Bool.and_self,cond_true,toNat_natCast,ha,K98,G98,c1o,K51,G51,a2Y,isSome_some,getD_some];cases a1V (sg t k).1
   ·rfl
   ·cases inB (sg t k).2.1 0 10000000
    ·rfl
    ·by_cases hk0:0<k
     ·have e3:IntKind.i64.wrap ((k:Int)-1)=((k-1:Nat):Int):=by rw[w64 (by omega) (by omega)];omega
      have e4:decide (((k-1:Nat):Int)<(t.length:Int))=true:=by simp;omega
      have e5:decide (0<=((k-1:Nat):Int))=true:=by simp
      have e6:decide ((k:Int)>0)=true:=by simpa using hk0
      simp only[e3,e4,e5,e6,toNat_natCast,hk0,decide_true,Bool.and_self,cond_true,Bool.not_true,cond_false,Bool.true_and];cases decide ((sg t k).2.1<=(sg t (k-1)).2.1)<;>rfl
     ·have e6:decide ((k:Int)>0)=false:=by simpa using hk0
      simp only[e6,hk0,decide_false,Bool.not_true,cond_false,Bool.true_and,Bool.false_and,Bool.not_false,cond_true]
  ·intro f;simp[d1C]
  ·simp only[e5C];omega
 unfold F53 r53 a2q;simp only[c4Q,c4R,c4S,c4T,hl,isSome_some,cond_true];cases a0r (a5P t) 0 t.length
 ·rfl
 ·simp only[cond_true,isR,xOf,cond_false,Bool.true_and];rfl
theorem f3r (t:List (Den S97)) (h:t.length<=9223372036854775807):F46 (t,())=some (a2q t,()):=by
 have hl:d3h ((t,t,(t.length:Int),(0:Int),()),())=some (bif a0r (a5P t) 0 t.length then .inl ((),())else .inr ((false,()),())):=by
  refine(a0Z (q:=d3g K63 G63 K43 G43) (fun k=>((t,t,(t.length:Int),(k:Int),()),())) t.length (a5P t) _ _ ?_ ?_ _ ?_:_)
  ·intro k f hk;have e1:decide ((k:Int)<(t.length:Int))=true:=by simpa using hk
   have e2:decide (0<=(k:Int))=true:=by simp
   have ha:∀k,t.getD k (zero S97)=sg t k:=fun _=>rfl
   unfold d3g a5P;simp only[a3I k (by omega),e1,e2,Bool.and_self,cond_true,toNat_natCast,ha,K63,G63,c1p,K43,G43,c6k,isSome_some,getD_some];cases a1V (sg t k).1
   ·rfl
   ·cases inB (sg t k).2.1 0 10000000
    ·rfl
    ·by_cases hk0:0<k
     ·have e3:IntKind.i64.wrap ((k:Int)-1)=((k-1:Nat):Int):=by rw[w64 (by omega) (by omega)];omega
      have e4:decide (((k-1:Nat):Int)<(t.length:Int))=true:=by simp;omega
      have e5:decide (0<=((k-1:Nat):Int))=true:=by simp
      have e6:decide ((k:Int)>0)=true:=by simpa using hk0
      simp only[e3,e4,e5,e6,toNat_natCast,hk0,decide_true,Bool.and_self,cond_true,Bool.not_true,cond_false,Bool.true_and];cases decide ((sg t k).2.1<=(sg t (k-1)).2.1)<;>rfl
     ·have e6:decide ((k:Int)>0)=false:=by simpa using hk0
      simp only[e6,hk0,decide_false,Bool.not_true,cond_false,Bool.true_and,Bool.false_and,Bool.not_false,cond_true]
  ·intro f;simp[d3g]
  ·simp only[e6s];omega
 unfold F46 r46 a2q;simp only[c5I,c5J,c5K,hl,isSome_some,cond_true,dgt (t.length:Int)];cases decide ((t.length:Int)<=200)<;>cases a0r (a5P t) 0 t.length<;>rfl
def Pst {α:Type} (o:Option α) (P:α->Prop):Prop:=∃y,o=some y /\ P y
theorem a0s {α:Type} {y:α} {P:α->Prop} (h:P y):Pst (some y) P:=⟨y,rfl,h⟩
theorem a0n {α:Type} {c:Bool} {a b:Option α} {P:α->Prop} (hc:c=true) (h:Pst a P):Pst (bif c then a else b) P:=by rw[hc];exact h
theorem a1x {α:Type} {c:Bool} {a b:Option α} {P:α->Prop} (h1:c=true->Pst a P) (h2:c=false->Pst b P):Pst (bif c then a else b) P:=by
 cases c
 ·exact h2 rfl
 ·exact h1 rfl
theorem a2K {α:Type} {o:Option α} {P:α->Prop} (h:Pst o P):o.isSome=true:=by obtain⟨y,e,_⟩:=h;rw[e];rfl
theorem a3f {α:Type} {o:Option α} {P:α->Prop} (z:α) (h:Pst o P):P (o.getD z):=by obtain⟨y,e,h⟩:=h;rw[e];exact h
theorem a0G {c:Bool} {a b:Option Unit} (hc:c=true) (h:a=some ()):(bif c then a else b)=some ():=by rw[hc];exact h
theorem a2g {c:Bool} {a b:Option Unit} (h1:c=true->a=some ()) (h2:c=false->b=some ()):(bif c then a else b)=some ():=by
 cases c
 ·exact h2 rfl
 ·exact h1 rfl
theorem e3O (x:b3b.den) (h:a0h x.2.1):Pst (f5x x) fun y=>a0h y.2.1:=by
 unfold f5x f9y;dsimp only
 (repeat' (with_reducible first|refine a0s ?_|refine a0n (a0C _ (by(repeat ((try dsimp only);first|assumption|(with_reducible first|apply a0d|apply a0f))))) ?_|refine a0n (a2i _ (by(repeat ((try dsimp only);first|assumption|(with_reducible first|apply a0d|apply a0f))))) ?_|refine a1x (fun _=>?_) (fun _=>?_)))<;>(repeat ((try dsimp only);first|assumption|(with_reducible first|apply a0d|apply a0f)))
theorem a8N (x:b3b.den) (h:a0h x.2.1):d6H x=true:=a2K (e3O x h)
theorem a0e (x:b3b.den) (h:a0h x.2.1):a0h (d6I x).2.1:=a3f _ (e3O x h)
theorem d4m (x:I81.den) (h:a0h x.2.1):Pst (F81 x) fun y=>a0h y.2.1:=by
 unfold F81 r81;dsimp only;refine a0n (a2i _ (by(repeat ((try dsimp only);first|assumption|(with_reducible first|apply a0e|apply a0d|apply a0f))))) ?_;refine a1x (fun _=>?_) (fun _=>?_)
 ·refine a0n (a8N _ (by(repeat ((try dsimp only);first|assumption|(with_reducible first|apply a0e|apply a0d|apply a0f))))) ?_;exact a0s (by(repeat ((try dsimp only);first|assumption|(with_reducible first|apply a0e|apply a0d|apply a0f))))
 ·(repeat' (with_reducible first|refine a0s ?_|refine a0n (a0C _ (by(repeat ((try dsimp only);first|assumption|(with_reducible first|apply a0e|apply a0d|apply a0f))))) ?_|refine a0n (a2i _ (by(repeat ((try dsimp only);first|assumption|(with_reducible first|apply a0e|apply a0d|apply a0f))))) ?_|refine a1x (fun _=>?_) (fun _=>?_)))<;>(repeat ((try dsimp only);first|assumption|(with_reducible first|apply a0e|apply a0d|apply a0f)))
theorem d4n (x:I81.den) (h:a0h x.2.1):K81 x=true:=a2K (d4m x h)
theorem a0i (x:I81.den) (h:a0h x.2.1):a0h (G81 x).2.1:=a3f _ (d4m x h)
theorem c1q (x:a6D.den) (h:a0h x.2.1):Pst (f5y x) fun y=>a0h y.2.1:=by
 unfold f5y f9F;dsimp only;refine a0n (a0C _ (by(repeat ((try dsimp only);first|assumption|(with_reducible first|apply a0i|apply a0e|apply a0d|apply a0f))))) ?_;refine a1x (fun _=>?_) (fun _=>?_)
 ·refine a0n (b1u _ (by(repeat ((try dsimp only);first|assumption|(with_reducible first|apply a0i|apply a0e|apply a0d|apply a0f)))) (by simp)) ?_;exact a0s (a7K _ (by(repeat ((try dsimp only);first|assumption|(with_reducible first|apply a0i|apply a0e|apply a0d|apply a0f)))) (by simp))
 ·(repeat' (with_reducible first|refine a0s ?_|refine a0n (a0C _ (by(repeat ((try dsimp only);first|assumption|(with_reducible first|apply a0i|apply a0e|apply a0d|apply a0f))))) ?_|refine a0n (a2i _ (by(repeat ((try dsimp only);first|assumption|(with_reducible first|apply a0i|apply a0e|apply a0d|apply a0f))))) ?_|refine a1x (fun _=>?_) (fun _=>?_)))<;>(repeat ((try dsimp only);first|assumption|(with_reducible first|apply a0i|apply a0e|apply a0d|apply a0f)))
theorem b7F (x:a6D.den) (h:a0h x.2.1):a8i x=true:=a2K (c1q x h)
theorem a0c (x:a6D.den) (h:a0h x.2.1):a0h (a8j x).2.1:=a3f _ (c1q x h)
theorem c6l (x:b2o.den) (h:a0h x.2.1) (hl:0<x.2.2.1.length):Pst (f5u x) fun y=>a0h y.2.1 /\ y.1.1∈x.2.2.1:=by
 obtain⟨m,c1,he,h1,h2,h3⟩:=b0g (x.2.2.1.length:Int) x.2.1 h;unfold f5u f9u;have he':F34 (((),(↑(length x.snd.snd.fst):Int),()),x.snd.fst,())=some ((m,()),(c1,())):=he;have e1:decide (0<=m)=true:=decide_eq_true h2;have h4:m<(x.2.2.1.length:Int):=h3 (by omega);have e2:decide (m<(x.2.2.1.length:Int))=true:=decide_eq_true h4;simp only[K34,G34,he',isSome_some,getD_some,cond_true,e1,e2,Bool.and_self];refine a0s ⟨h1,?_⟩;show x.2.2.1.getD m.toNat _∈x.2.2.1;rw[a5E _ _ _ (by omega)];exact List.getElem_mem _
theorem d4o (x:b2o.den) (h:a0h x.2.1) (hl:0<x.2.2.1.length):c2S x=true:=a2K (c6l x h hl)
theorem d4p (x:b2o.den) (h:a0h x.2.1) (hl:0<x.2.2.1.length):a0h (b9S x).2.1 /\ (b9S x).1.1∈x.2.2.1:=a3f _ (c6l x h hl)
theorem d4q (n:Int):I64 (IntKind.i64.wrap n):=by
 unfold I64;rw[IntKind.wrap_i64];omega
def e0s (c:List Int×Int×Int×Unit):Bool:=decide (0<=c.2.1)&&decide (c.1.length<=1048576)
theorem a1y {c:List Int×Int×Int×Unit}:e0s c=true↔a0h c:=by unfold e0s a0h;simp
def e3P:List Int×Int×Int×Unit:=([],0,0,())
theorem a7b:a0h e3P:=⟨Int.le_refl 0,zero_le _⟩
def p141 (x:a2s.den):Bool:=e0s x.2.1
def Q141 (x:a2s.den) (y:a3J.den):Prop:=a0h y.2.1
theorem e141:Nonempty (Ch a2s a3J p141 Q141):=⟨⟨fun _=>((0,()),(e3P,())),fun _ _=>a7b⟩⟩
theorem d4r:a2V Tryz.prog 141 (a3B true a2s a3J p141 Q141 e141):=b9c e2F (N:=g4t) (a2W trivial) f1l a1C fun x hx k hk=>by
 have h:a0h x.2.1:=a1y.1 hx;refine Eq.trans (f1B _ _ k x) ?_;unfold f1A;dsimp only;refine a0G (d4n _ (by(repeat ((try dsimp only);first|assumption|(with_reducible first|apply a0c|apply a0i|apply a0e|apply a0d|apply a0f))))) ?_;refine a2g (fun hb=>?_) (fun _=>?_)
 ·refine a0G hb ?_;exact hk _ (by show a0h _;(repeat ((try dsimp only);first|assumption|(with_reducible first|apply a0c|apply a0i|apply a0e|apply a0d|apply a0f))))
 ·exact a0B fun z=>hk _ (by show a0h _;(repeat ((try dsimp only);first|assumption|(with_reducible first|apply a0c|apply a0i|apply a0e|apply a0d|apply a0f))))
theorem b0j:I64 0:=by unfold I64;decide
theorem e6U:I64 180:=by unfold I64;decide
theorem a1m (n:Int) (c:List Int×Int×Int×Unit) (h:a0h c) (hn:0<n):0<=((G34 (((),n,()),c,())).1.1:Int) /\ ((G34 (((),n,()),c,())).1.1:Int)<n:=by
 obtain⟨_,h1,h2⟩:=e2Q (((),n,()),c,()) h;exact⟨h1,h2 hn⟩
def c3z (s:Den S68):Prop:=s.1.size<=1000 /\ I64 s.2.2.2.1 /\ I64 s.2.2.2.2.1
def a0W (l:List (Den S68)):Prop:=∀s∈l,c3z s
theorem c8H:c3z (zero S68):=⟨zero_le _,b0j,b0j⟩
theorem a0W.at {l:List (Den S68)} (h:a0W l) (i:Nat):c3z (at' l i):=by
 rcases f3m (l:=l) (i:=i)with h1|h1
 ·exact h _ h1
 ·rw[h1];exact c8H
theorem a0W.app {l:List (Den S68)} {s:Den S68} (h:a0W l) (hs:c3z s):a0W (l++[s]):=by
 intro t ht;rcases List.mem_append.1 ht with h1|h1
 ·exact h t h1
 ·rw[List.mem_singleton.1 h1];exact hs
theorem a0W.set {l:List (Den S68)} {i:Nat} {s:Den S68} (h:a0W l) (hs:c3z s):a0W (l.set i s):=by
 intro t ht;rcases List.mem_or_eq_of_mem_set ht with h1|h1
 ·exact h t h1
 ·rw[h1];exact hs
theorem a0W.good {l:List (Den S68)} (h:a0W l) (hl:l.length<=13):d4j l:=
 ⟨by omega,fun i=>by have:=(h.at i).1;omega,fun i=>⟨(h.at i).2.1,(h.at i).2.2⟩⟩
theorem g4K {α:Type} (z x:α):(replicate 1 z).set 0 x=[x]:=rfl
theorem c6m (v:a9J) (h:a0h v.2.1) (hn:∀s∈v.2.2.1,s.size<=1000) (hn6:v.2.2.1.length=6) (h0:0<=v.1.2.2.2.1) (h1:(v.2.2.2.1.length:Int)+v.1.2.2.2.1<=5) (h2:1<=(v.2.2.2.1.length:Int)+v.1.2.2.2.1) (hg:a0W v.2.2.2.1) :
 Pst (e5U v) fun y=>a0h y.2.1 /\ a0W y.2.2.1 /\ y.2.2.1.length<=5 /\ 1<=y.2.2.1.length:=by
 refine a0V (q:=d8W K34 G34 K77 G77 c2S b9S b0e b0f a8i a8j) (fun v=>a0h v.2.1 /\ (∀s∈v.2.2.1,s.size<=1000) /\ v.2.2.1.length=6 /\ 0<=v.1.2.2.2.1 /\ (v.2.2.2.1.length:Int)+v.1.2.2.2.1<=5 /\ 1<=(v.2.2.2.1.length:Int)+v.1.2.2.2.1 /\ a0W v.2.2.2.1)
  (fun _ r=>Pst r fun y=>a0h y.2.1 /\ a0W y.2.2.1 /\ y.2.2.1.length<=5 /\ 1<=y.2.2.1.length) (fun v=>v.1.2.2.2.1.toNat) ?_ _ _ ⟨h,hn,hn6,h0,h1,h2,hg⟩ (Nat.lt_of_lt_of_le (m:=1000) (by omega) (Nat.le_add_left _ _))
 clear h hn hn6 h0 h1 h2 hg v;rintro⟨⟨_,_,_,k,_⟩,c,ns,l,_⟩ f ⟨g0,g1,g2,g3,g4,g5,g6⟩ ih;simp only at g0 g1 g2 g3 g4 g5 g6 ih;unfold d8W;dsimp only;by_cases hk:k>0
 ·refine a0n (by simpa using hk) ?_;refine a0n (a0C _ (by(repeat ((try dsimp only);first|assumption|(with_reducible first|apply a0c|apply a0i|apply a0e|apply a0d|apply a0f))))) ?_;refine a0n (a0C _ (by(repeat ((try dsimp only);first|assumption|(with_reducible first|apply a0c|apply a0i|apply a0e|apply a0d|apply a0f))))) ?_;have c1:a0h (G34 (((),16,()),c,())).snd.fst:=by(repeat ((try dsimp only);first|assumption|(with_reducible first|apply a0c|apply a0i|apply a0e|apply a0d|apply a0f)))
  have b1:0<=((G34 (((),100,()),(G34 (((),16,()),c,())).snd)).fst.fst:Int) /\ ((G34 (((),100,()),(G34 (((),16,()),c,())).snd)).fst.fst:Int)<100:=a1m 100 _ c1 (by decide);have c2:a0h (G34 (((),100,()),(G34 (((),16,()),c,())).snd)).snd.fst:=by(repeat ((try dsimp only);first|assumption|(with_reducible first|apply a0c|apply a0i|apply a0e|apply a0d|apply a0f)))
  generalize G34 (((),100,()),(G34 (((),16,()),c,())).snd)=A at *;generalize G34 (((),16,()),c,())=B at *;have i1:∀z:Int,z=A.fst.fst->I64 z:=fun z e=>by have h1:0<=z:=e ▸ b1.1;have h2:z<100:=e ▸ b1.2;unfold I64;omega
  refine a0n ?_ ?_
  ·simp;omega
  refine a0n (a0C _ (by(repeat ((try dsimp only);first|assumption|(with_reducible first|apply a0c|apply a0i|apply a0e|apply a0d|apply a0f))))) ?_;refine a0n (a0C _ (by(repeat ((try dsimp only);first|assumption|(with_reducible first|apply a0c|apply a0i|apply a0e|apply a0d|apply a0f))))) ?_;refine a0n (a2i _ (by(repeat ((try dsimp only);first|assumption|(with_reducible first|apply a0c|apply a0i|apply a0e|apply a0d|apply a0f))))) ?_;have e:IntKind.i64.wrap (k-1)=k-1:=w64 (by omega) (by omega);have hname:(ns.getD (toNat (l.length:Int)) (zero Ty.str)).size<=1000:=by
   rw[toNat_natCast,a5E _ _ _ (by omega)];exact g1 _ (List.getElem_mem _)
  simp only[g4K,List.length_singleton];refine a1x (fun _=>?_) (fun _=>?_)
  ·refine a0n (a0K (by omega)) ?_;refine ih _ ⟨by(repeat ((try dsimp only);first|assumption|(with_reducible first|apply a0c|apply a0i|apply a0e|apply a0d|apply a0f))),g1,g2,?_,?_,?_,g6.app ⟨hname,b0j,e6U⟩⟩ ?_<;>simp only[e,length_append,List.length_singleton]<;>omega
  ·refine a0n (a0K (by omega)) ?_;refine ih _ ⟨by(repeat ((try dsimp only);first|assumption|(with_reducible first|apply a0c|apply a0i|apply a0e|apply a0d|apply a0f))),g1,g2,?_,?_,?_,g6.app ⟨hname,i1 _ rfl,d4q _⟩⟩ ?_<;>simp only[e,length_append,List.length_singleton]<;>omega
 ·have:decide (k>0)=false:=by simpa using hk
  rw[this];exact a0s ⟨g0,g6,by show l.length<=5;omega,by show 1<=l.length;omega⟩
theorem c1r (v:a5f) (h:a0h v.2.1) (h1:v.2.2.1.length<=13) (h2:1<=v.2.2.1.length) (hg:a0W v.2.2.1):Pst (d2l v) fun y=>a0h y.2.1 /\ a0W y.2.2.1 /\ y.2.2.1.length<=13:=by
 refine a0V (q:=c5n K34 G34 K77 G77 c2S b9S b0e b0f a8i a8j) (fun v=>a0h v.2.1 /\ v.2.2.1.length<=13 /\ 1<=v.2.2.1.length /\ a0W v.2.2.1)
  (fun _ r=>Pst r fun y=>a0h y.2.1 /\ a0W y.2.2.1 /\ y.2.2.1.length<=13) (fun v=>13-v.2.2.1.length) ?_ _ _ ⟨h,h1,h2,hg⟩ (Nat.lt_of_lt_of_le (m:=1000) (by omega) (Nat.le_add_left _ _))
 clear h h1 h2 hg v;rintro⟨⟨_,_,_⟩,c,l,_⟩ f ⟨g0,g1,g2,g3⟩ ih;simp only at g0 g1 g2 g3 ih;unfold c5n;dsimp only;refine a0n (a0C _ (by(repeat ((try dsimp only);first|assumption|(with_reducible first|apply a0c|apply a0i|apply a0e|apply a0d|apply a0f))))) ?_;have b2:0<=((G34 (((),2,()),c,())).fst.fst:Int) /\ ((G34 (((),2,()),c,())).fst.fst:Int)<2:=a1m 2 c g0 (by decide);have c2:a0h (G34 (((),2,()),c,())).snd.fst:=by(repeat ((try dsimp only);first|assumption|(with_reducible first|apply a0c|apply a0i|apply a0e|apply a0d|apply a0f)))
 generalize G34 (((),2,()),c,())=D at *;have bd:∀z:Int,z=D.fst.fst->IntKind.i64.wrap (12+z)<=13:=fun z e=>by
  have h1:0<=z:=e ▸ b2.1;have h2:z<2:=e ▸ b2.2;rw[w64 (by omega) (by omega)];omega
 have bd':=bd _ rfl;by_cases hl:(l.length:Int)<IntKind.i64.wrap (12+D.fst.fst)
 ·refine a0n (by simpa using hl) ?_;have hl':(l.length:Int)<13:=Int.lt_of_lt_of_le hl bd';refine a0n ?_ ?_
  ·have:decide (0<(l.length:Int))=true:=by simp;omega
   rw[this];rfl
  simp only[g4K,List.length_singleton];refine a0n (a0K (by omega)) ?_;refine ih _ ⟨c2,?_,?_,g3.app ⟨?_,(g3.at 0).2.1,(g3.at 0).2.2⟩⟩ ?_
  ·simp only[length_append,List.length_singleton];omega
  ·simp only[length_append,List.length_singleton];omega
  ·have hb:∀z:Int,(a9a [z]).size=1:=fun _=>rfl
   simp only[ByteArray.size_append,hb];show 1+1<=1000
   decide
  ·simp only[length_append,List.length_singleton];omega
 ·have:decide ((l.length:Int)<IntKind.i64.wrap (12+D.fst.fst))=false:=by simpa using hl
  rw[this];exact a0s ⟨c2,g3,g1⟩
theorem g3j (v:a9J) (h:a0h v.2.1) (hn:∀s∈v.2.2.1,s.size<=1000) (hn6:v.2.2.1.length=6) (h0:0<=v.1.2.2.2.1) (h1:(v.2.2.2.1.length:Int)+v.1.2.2.2.1<=5) (h2:1<=(v.2.2.2.1.length:Int)+v.1.2.2.2.1) (hg:a0W v.2.2.2.1) :
 b1r v=true /\ a0h (a5I v).2.1 /\ a0W (a5I v).2.2.1 /\ (a5I v).2.2.1.length<=5 /\ 1<=(a5I v).2.2.1.length:=⟨a2K (c6m v h hn hn6 h0 h1 h2 hg),a3f _ (c6m v h hn hn6 h0 h1 h2 hg)⟩
theorem f3s (v:a5f) (h:a0h v.2.1) (h1:v.2.2.1.length<=13) (h2:1<=v.2.2.1.length) (hg:a0W v.2.2.1):a6X v=true /\ a0h (a4N v).2.1 /\ a0W (a4N v).2.2.1 /\ (a4N v).2.2.1.length<=13:=⟨a2K (c1r v h h1 h2 hg),a3f _ (c1r v h h1 h2 hg)⟩
def p75 (x:I75.den):Bool:=e0s x.2.1
def Q75 (x:I75.den) (y:O75.den):Prop:=a0h y.2.1 /\ a0W y.2.2.1 /\ y.2.2.1.length<=13
theorem e75:Nonempty (Ch I75 O75 p75 Q75):=⟨⟨fun _=>(((),()),(e3P,([],()))),fun _ _=>⟨a7b,(fun _ h=>by cases h),zero_le _⟩⟩⟩
def c1s:List ByteArray:=(((((replicate 6 (zero Ty.str)).set 0 { data:=#[109,97,105,110] }).set 1 { data:=#[106,105,98] }).set 2 { data:=#[103,101,110,111,97] }).set 3 { data:=#[115,116,111,114,109] }).set 4 { data:=#[99,111,100,101] } |>.set 5 { data:=#[107,105,116,101] }
theorem c1t:(∀s∈c1s,s.size<=1000) /\ c1s.length=6:=by
 have h:(c1s.all fun s=>Nat.ble s.size 1000)=true:=rfl;exact⟨fun s hs=>Nat.le_of_ble_eq_true (List.all_eq_true.1 h s hs),rfl⟩
def c6n (s:ByteArray):List ByteArray:=((((replicate 5 (zero Ty.str)).set 0 { data:=#[] }).set 1 { data:=#[74,105,98] }).set 2 { data:=#[97,98,99,100,101,102,103,104,105,106,107,108,109,110,111,112,113] }).set 3 { data:=#[97,98,99,100,101,102,103,104,105,106,107,108,109,110,111,112] } |>.set 4 s
theorem d4s {s:ByteArray} (h:s.size<=1000):∀t∈c6n s,t.size<=1000:=by
 intro t ht;have h0:((((replicate 5 (zero Ty.str)).set 0 { data:=#[] }).set 1 { data:=#[74,105,98] }).set 2 { data:=#[97,98,99,100,101,102,103,104,105,106,107,108,109,110,111,112,113] } |>.set 3 { data:=#[97,98,99,100,101,102,103,104,105,106,107,108,109,110,111,112] }).all (fun s:ByteArray=>Nat.ble s.size 1000)=true:=rfl;rcases List.mem_or_eq_of_mem_set ht with h1|h1
 ·exact Nat.le_of_ble_eq_true (List.all_eq_true.1 h0 t h1)
 ·rw[h1];exact h
theorem g3k:a2V Tryz.prog 75 (a3B true I75 O75 p75 Q75 e75):=b9c f1o (N:=N75 p141 Q141 e141) (a2W ⟨d4r,trivial⟩) g4o a1C fun x hx k hk=>by
 have h:a0h x.2.1:=a1y.1 hx;refine Eq.trans (g0b _ _ _ _ _ _ _ _ _ _ _ _ _ _ _ _ _ k x) ?_;unfold g4v;dsimp only;refine a0G (a0C _ (by(repeat ((try dsimp only);first|assumption|(with_reducible first|apply a0c|apply a0i|apply a0e|apply a0d|apply a0f))))) ?_;have b5:0<=((G34 (((),5,()),x.snd)).fst.fst:Int) /\ ((G34 (((),5,()),x.snd)).fst.fst:Int)<5:=a1m 5 x.2.1 h (by decide);have c5:a0h (G34 (((),5,()),x.snd)).snd.fst:=by(repeat ((try dsimp only);first|assumption|(with_reducible first|apply a0c|apply a0i|apply a0e|apply a0d|apply a0f)))
 generalize G34 (((),5,()),x.snd)=D at *;have bd:∀z:Int,z=D.fst.fst->1<=IntKind.i64.wrap (1+z) /\ IntKind.i64.wrap (1+z)<=5:=fun z e=>by
  have h1:0<=z:=e ▸ b5.1;have h2:z<5:=e ▸ b5.2;rw[w64 (by omega) (by omega)];omega
 obtain⟨w1,w2⟩:=bd _ rfl;obtain⟨k1,cy,gy,ly,ly1⟩:=g3j (((),(),(),IntKind.i64.wrap (1+D.fst.fst),()),D.snd.fst,c1s,[],()) c5 c1t.1 c1t.2 (by show 0<=IntKind.i64.wrap (1+D.fst.fst);omega) (by simpa using w2) (by simpa using w1) (fun _ h=>by cases h);refine a0G k1 ?_;have hz:replicate 0 (zero S68)=[]:=rfl;unfold c1s at cy gy ly ly1;rw[hz];generalize a5I _=y at *;refine a0G (a0C _ (by(repeat ((try dsimp only);first|assumption|(with_reducible first|apply a0c|apply a0i|apply a0e|apply a0d|apply a0f))))) ?_;have b12:0<=((G34 (((),(y.2.2.1.length:Int),()),y.snd.fst,())).fst.fst:Int) /\ ((G34 (((),(y.2.2.1.length:Int),()),y.snd.fst,())).fst.fst:Int)<(y.2.2.1.length:Int):=a1m _ y.2.1 cy (by omega);have c12:a0h (G34 (((),(y.2.2.1.length:Int),()),y.snd.fst,())).snd.fst:=by(repeat ((try dsimp only);first|assumption|(with_reducible first|apply a0c|apply a0i|apply a0e|apply a0d|apply a0f)))
 generalize G34 (((),(y.2.2.1.length:Int),()),y.snd.fst,())=I at *;refine a0G (a0C _ (by(repeat ((try dsimp only);first|assumption|(with_reducible first|apply a0c|apply a0i|apply a0e|apply a0d|apply a0f))))) ?_;have c14:a0h (G34 (((),24,()),I.snd)).snd.fst:=by(repeat ((try dsimp only);first|assumption|(with_reducible first|apply a0c|apply a0i|apply a0e|apply a0d|apply a0f)))
 generalize G34 (((),24,()),I.snd)=M at *;have hidx:(decide (0<=I.fst.fst)&&decide (I.fst.fst<((y.snd.snd.fst.length:Nat):Int)))=true:=by
  rw[decide_eq_true b12.1,decide_eq_true b12.2];rfl
 have hat:∀i,c3z (getD y.snd.snd.fst i (zero S68)):=fun i=>gy.at i
 refine a2g (fun _=>?_) (fun _=>?_)
 ·refine a0G ?_ ?_
  ·have:decide (0<((y.snd.snd.fst.length:Nat):Int))=true:=by simp;omega
   rw[this];rfl
  obtain⟨nm,hnm⟩:∃nm,nm=c6n (getD y.snd.snd.fst (toNat 0) (zero S68)).fst:=⟨_,rfl⟩;have h5:∀t∈nm,t.size<=1000:=by rw[hnm];exact d4s (hat _).1
  have h5l:0<nm.length:=by rw[hnm];simp[c6n]
  unfold c6n at hnm;rw[<- hnm];refine a0G (d4o (((),(),()),M.snd.fst,nm,()) c14 h5l) ?_;obtain⟨c22,m22⟩:=d4p (((),(),()),M.snd.fst,nm,()) c14 h5l;refine a0G hidx ?_;exact hk _ ⟨c22,gy.set ⟨h5 _ m22,(hat _).2⟩,by simp only[length_set];omega⟩
 refine a2g (fun _=>?_) (fun _=>?_)
 ·haveI:=e141
  refine a0B fun g=>?_
  have hp:p141 (((),300,()),M.snd)=true:=a1y.2 c14;refine a0G hp ?_;refine a0G hidx ?_;exact hk _ ⟨g.2 _ hp,gy.set (hat _),by simp only[length_set];omega⟩
 refine a2g (fun _=>?_) (fun _=>?_)
 ·haveI:=e141
  refine a0B fun g=>?_
  have hp:p141 (((),300,()),M.snd)=true:=a1y.2 c14;refine a0G hp ?_;refine a0G hidx ?_;exact hk _ ⟨g.2 _ hp,gy.set (hat _),by simp only[length_set];omega⟩
 refine a2g (fun _=>?_) (fun _=>?_)
 ·refine a0G (b7F _ (by(repeat ((try dsimp only);first|assumption|(with_reducible first|apply a0c|apply a0i|apply a0e|apply a0d|apply a0f))))) ?_;refine a0G hidx ?_;exact hk _ ⟨by(repeat ((try dsimp only);first|assumption|(with_reducible first|apply a0c|apply a0i|apply a0e|apply a0d|apply a0f))),gy.set ⟨(hat _).1,(hat _).2.1,d4q _⟩,by simp only[length_set];omega⟩
 refine a2g (fun _=>?_) (fun _=>?_)
 ·refine a0G (b7F _ (by(repeat ((try dsimp only);first|assumption|(with_reducible first|apply a0c|apply a0i|apply a0e|apply a0d|apply a0f))))) ?_;refine a0G hidx ?_;exact hk _ ⟨by(repeat ((try dsimp only);first|assumption|(with_reducible first|apply a0c|apply a0i|apply a0e|apply a0d|apply a0f))),gy.set ⟨(hat _).1,d4q _,(hat _).2.2⟩,by simp only[length_set];omega⟩
 refine a2g (fun _=>?_) (fun _=>?_)
 ·exact hk _ ⟨c14,(fun _ h=>by cases h),zero_le _⟩
 refine a2g (fun _=>?_) (fun _=>?_)
 ·obtain⟨k2,c16,g16,l16⟩:=f3s (((),(),()),M.snd.fst,y.snd.snd) c14 (by show y.2.2.1.length<=13;omega) ly1 gy;refine a0G k2 ?_;exact hk _ ⟨c16,g16,l16⟩
 ·exact hk _ ⟨c14,gy,by show y.2.2.1.length<=13;omega⟩
def p128 (x:a8A.den):Bool:=e0s x.2.1
def Q128 (x:a8A.den) (y:b2d.den):Prop:=a0h y.2.1
theorem e128:Nonempty (Ch a8A b2d p128 Q128):=⟨⟨fun _=>(((0,0),()),(e3P,())),fun _ _=>a7b⟩⟩
theorem f3t:a2V Tryz.prog 128 (a3B true a8A b2d p128 Q128 e128):=b9c e2O (N:=g4u p141 Q141 e141) (a2W ⟨d4r,trivial⟩) f1v a1C fun x hx k hk=>by
 have hk:∀y:b2d.den,a0h y.2.1->k y=some ():=hk;have h:a0h x.2.1:=a1y.1 hx;refine Eq.trans (f1D _ _ _ _ _ _ _ _ _ _ _ k x) ?_;unfold f1C;dsimp only
 haveI:=e141
 refine a0G (a2i _ (by(repeat ((try dsimp only);first|assumption|(with_reducible first|apply a0c|apply a0i|apply a0e|apply a0d|apply a0f))))) ?_;refine a2g (fun _=>?_) (fun _=>?_)
 ·refine a0G (a8N _ (by(repeat ((try dsimp only);first|assumption|(with_reducible first|apply a0c|apply a0i|apply a0e|apply a0d|apply a0f))))) ?_;refine a2g (fun h1=>?_) (fun _=>?_)
  ·refine a0G h1 ?_;refine a0G (a8N _ (by(repeat ((try dsimp only);first|assumption|(with_reducible first|apply a0c|apply a0i|apply a0e|apply a0d|apply a0f))))) ?_;refine a2g (fun h2=>?_) (fun _=>?_)
   ·refine a0G h2 ?_;exact hk _ (by(repeat ((try dsimp only);first|assumption|(with_reducible first|apply a0c|apply a0i|apply a0e|apply a0d|apply a0f))))
   ·exact a0B fun z=>hk _ (by(repeat ((try dsimp only);first|assumption|(with_reducible first|apply a0c|apply a0i|apply a0e|apply a0d|apply a0f))))
  ·refine a0B fun z=>?_
   refine a0G (a8N _ (by(repeat ((try dsimp only);first|assumption|(with_reducible first|apply a0c|apply a0i|apply a0e|apply a0d|apply a0f))))) ?_;refine a2g (fun h2=>?_) (fun _=>?_)
   ·refine a0G h2 ?_;exact hk _ (by(repeat ((try dsimp only);first|assumption|(with_reducible first|apply a0c|apply a0i|apply a0e|apply a0d|apply a0f))))
   ·exact a0B fun z=>hk _ (by(repeat ((try dsimp only);first|assumption|(with_reducible first|apply a0c|apply a0i|apply a0e|apply a0d|apply a0f))))
 ·refine a0G (a2i _ (by(repeat ((try dsimp only);first|assumption|(with_reducible first|apply a0c|apply a0i|apply a0e|apply a0d|apply a0f))))) ?_;have c3:a0h (G77 (((),20,()),(G77 (((),30,()),x.snd)).snd)).snd.fst:=by(repeat ((try dsimp only);first|assumption|(with_reducible first|apply a0c|apply a0i|apply a0e|apply a0d|apply a0f)))
  generalize G77 (((),20,()),(G77 (((),30,()),x.snd)).snd)=A at *;refine a2g (fun _=>?_) (fun _=>?_)
  ·refine a0G (b1u _ c3 (by simp)) ?_;have c9:=a7K (((),(),()),A.snd.fst,((((replicate 4 (zero (Ty.int IntKind.i64))).set 0 100).set 1 (-100)).set 2 101).set 3 0,()) c3 (by simp);refine a0B fun g=>?_
   have hp:p141 (((),100,()),(c2b (((),(),()),A.snd.fst,((((replicate 4 (zero (Ty.int IntKind.i64))).set 0 100).set 1 (-100)).set 2 101).set 3 0,())).snd.fst,())=true:=a1y.2 c9;refine a0G hp ?_;exact hk _ (g.2 _ hp)
  ·refine a0B fun g=>?_
   have hp:p141 (((),15,()),A.snd)=true:=a1y.2 c3;refine a0G hp ?_;refine a0B fun g2=>?_
   have hp2:p141 (((),15,()),(g.val (((),15,()),A.snd)).snd)=true:=a1y.2 (g.2 _ hp);refine a0G hp2 ?_;exact hk _ (g2.2 _ hp2)
theorem c6o (x:c9C.den) (h:a0h x.2.1):e8Y x=true /\ a0h (e8Z x).2.1:=by
 unfold e8Y e8Z f9O f9M;have k1:=a2i (((),40,()),x.2) h;have c1:=a0f (((),40,()),x.2) h;simp only[k1,cond_true];generalize G77 (((),40,()),x.2)=g1 at *;cases g1.1.1
 ·simp only[cond_false];have k2:=b1u (((),(),()),g1.2.1,(((replicate 3 (zero (Ty.int IntKind.i64))).set 0 4).set 1 20).set 2 400,()) c1 (by simp);have c2:=a7K (((),(),()),g1.2.1,(((replicate 3 (zero (Ty.int IntKind.i64))).set 0 4).set 1 20).set 2 400,()) c1 (by simp);simp only[k2,cond_true];generalize c2b (((),(),()),g1.2.1,(((replicate 3 (zero (Ty.int IntKind.i64))).set 0 4).set 1 20).set 2 400,())=g2 at *;generalize IntKind.i64.wrap (IntKind.i64.wrap (2*g2.1.1)+1)=n;have k3:=a0C (((),n,()),g2.2.1,()) c2;have c3:=a0d (((),n,()),g2.2.1,()) c2;simp only[k3,cond_true];have k4:=a0C (((),n,()),(G34 (((),n,()),g2.2.1,())).2) c3;have c4:=a0d (((),n,()),(G34 (((),n,()),g2.2.1,())).2) c3;simp only[k4,cond_true,isSome_some,getD_some];exact⟨trivial,c4⟩
 ·simp only[cond_true];have k2:=b1u (((),(),()),g1.2.1,((((replicate 4 (zero (Ty.int IntKind.i64))).set 0 10000).set 1 (-10000)).set 2 10001).set 3 9223372036854775807,()) c1 (by simp);have c2:=a7K (((),(),()),g1.2.1,((((replicate 4 (zero (Ty.int IntKind.i64))).set 0 10000).set 1 (-10000)).set 2 10001).set 3 9223372036854775807,()) c1 (by simp);simp only[k2,cond_true];generalize c2b (((),(),()),g1.2.1,((((replicate 4 (zero (Ty.int IntKind.i64))).set 0 10000).set 1 (-10000)).set 2 10001).set 3 9223372036854775807,())=g2 at *;have k3:=b1u (((),(),()),g2.2.1,(((replicate 3 (zero (Ty.int IntKind.i64))).set 0 10000).set 1 0).set 2 (-10001),()) c2 (by simp);have c3:=a7K (((),(),()),g2.2.1,(((replicate 3 (zero (Ty.int IntKind.i64))).set 0 10000).set 1 0).set 2 (-10001),()) c2 (by simp);simp only[k3,cond_true,isSome_some,getD_some];exact⟨trivial,c3⟩
theorem d4t (x:c9C.den) (h:a0h x.2.1):e8Y x=true:=(c6o x h).1
theorem a1e (x:c9C.den) (h:a0h x.2.1):a0h (e8Z x).2.1:=(c6o x h).2
theorem d4u (x:c2d.den) (h:a0h x.2.1):Pst (f5A x) fun y=>a0h y.2.1:=by
 unfold f5A f9Q;dsimp only
 (repeat' (with_reducible first|refine a0s ?_|refine a0n (a0C _ (by(repeat ((try dsimp only);first|assumption|(with_reducible first|apply a0c|apply a0d|apply a0f|apply a1e))))) ?_|refine a0n (a2i _ (by(repeat ((try dsimp only);first|assumption|(with_reducible first|apply a0c|apply a0d|apply a0f|apply a1e))))) ?_|refine a0n (d4t _ (by(repeat ((try dsimp only);first|assumption|(with_reducible first|apply a0c|apply a0d|apply a0f|apply a1e))))) ?_|refine a1x (fun _=>?_) (fun _=>?_)))<;>(repeat ((try dsimp only);first|assumption|(with_reducible first|apply a0c|apply a0d|apply a0f|apply a1e)))
theorem e6V (x:c2d.den) (h:a0h x.2.1):d6M x=true:=a2K (d4u x h)
theorem a1r (x:c2d.den) (h:a0h x.2.1):a0h (d6N x).2.1:=a3f _ (d4u x h)
theorem d4v (x:c2c.den) (h:a0h x.2.1):Pst (f5z x) fun y=>a0h y.2.1:=by
 unfold f5z f9J;dsimp only
 (repeat' (with_reducible first|refine a0s ?_|refine a0n (a0C _ (by(repeat ((try dsimp only);first|assumption|(with_reducible first|apply a1r|apply a0c|apply a0d|apply a0f|apply a1e))))) ?_|refine a0n (a2i _ (by(repeat ((try dsimp only);first|assumption|(with_reducible first|apply a1r|apply a0c|apply a0d|apply a0f|apply a1e))))) ?_|refine a0n (d4t _ (by(repeat ((try dsimp only);first|assumption|(with_reducible first|apply a1r|apply a0c|apply a0d|apply a0f|apply a1e))))) ?_|refine a1x (fun _=>?_) (fun _=>?_)))<;>(repeat ((try dsimp only);first|assumption|(with_reducible first|apply a1r|apply a0c|apply a0d|apply a0f|apply a1e)))
theorem c3A (x:c2c.den) (h:a0h x.2.1):d6K x=true:=a2K (d4v x h)
theorem a1N (x:c2c.den) (h:a0h x.2.1):a0h (c5o x).2.1:=a3f _ (d4v x h)
theorem e0t (v:b5J) (h:a0h v.2.1) (h0:0<=v.1.2.2.2.1) (h1:(v.2.2.2.2.1.length:Int)+v.1.2.2.2.1<=3) (h2:1<=(v.2.2.2.2.1.length:Int)+v.1.2.2.2.1):Pst (e5W v) fun y=>a0h y.2.1 /\ y.2.2.2.2.1.length<=3 /\ 1<=y.2.2.2.2.1.length:=by
 refine a0V (q:=d8Y K34 G34 d6K c5o K77 G77 d6M d6N) (fun v=>a0h v.2.1 /\ 0<=v.1.2.2.2.1 /\ (v.2.2.2.2.1.length:Int)+v.1.2.2.2.1<=3 /\ 1<=(v.2.2.2.2.1.length:Int)+v.1.2.2.2.1) (fun _ r=>Pst r fun y=>a0h y.2.1 /\ y.2.2.2.2.1.length<=3 /\ 1<=y.2.2.2.2.1.length)
  (fun v=>v.1.2.2.2.1.toNat) ?_ _ _ ⟨h,h0,h1,h2⟩ (Nat.lt_of_lt_of_le (m:=1000) (by omega) (Nat.le_add_left _ _))
 clear h h0 h1 h2 v;rintro⟨⟨_,_,_,k,_⟩,c,b1,b2,l,_⟩ f ⟨g0,g1,g2,g3⟩ ih;simp only at g0 g1 g2 g3 ih;unfold d8Y;dsimp only;by_cases hk:k>0
 ·refine a0n (by simpa using hk) ?_;refine a0n (c3A _ (by(repeat ((try dsimp only);first|assumption|(with_reducible first|apply a1N|apply a1r|apply a0c|apply a0d|apply a0f|apply a1e))))) ?_;refine a0n (a2i _ (by(repeat ((try dsimp only);first|assumption|(with_reducible first|apply a1N|apply a1r|apply a0c|apply a0d|apply a0f|apply a1e))))) ?_;refine a0n ?_ ?_
  ·refine a0K ?_;simp only[length_set,length_replicate];omega
  have e:IntKind.i64.wrap (k-1)=k-1:=w64 (by omega) (by omega);refine ih _ ⟨by(repeat ((try dsimp only);first|assumption|(with_reducible first|apply a1N|apply a1r|apply a0c|apply a0d|apply a0f|apply a1e))),?_,?_,?_⟩ ?_<;>simp only[e,length_append,length_set,length_replicate]<;>omega
 ·have:decide (k>0)=false:=by simpa using hk
  rw[this];exact a0s ⟨g0,by show l.length<=3;omega,by show 1<=l.length;omega⟩
theorem c6p (v:a5J) (h:a0h v.2.1) (h1:v.2.2.2.2.1.length<=22):Pst (d2o v) fun y=>a0h y.2.1 /\ y.2.2.2.2.1.length<=22:=by
 refine a0V (q:=c5q K34 G34 d6K c5o K77 G77 d6M d6N) (fun v=>a0h v.2.1 /\ v.2.2.2.2.1.length<=22) (fun _ r=>Pst r fun y=>a0h y.2.1 /\ y.2.2.2.2.1.length<=22)
  (fun v=>22-v.2.2.2.2.1.length) ?_ _ _ ⟨h,h1⟩ (Nat.lt_of_lt_of_le (m:=1000) (by omega) (Nat.le_add_left _ _))
 clear h h1 v;rintro⟨⟨_,_,_,_⟩,c,b1,b2,l,_⟩ f ⟨g0,g2⟩ ih;simp only at g0 g2 ih;unfold c5q;dsimp only;refine a0n (a0C _ (by(repeat ((try dsimp only);first|assumption|(with_reducible first|apply a1N|apply a1r|apply a0c|apply a0d|apply a0f|apply a1e))))) ?_;have b2':0<=((G34 (((),2,()),c,())).fst.fst:Int) /\ ((G34 (((),2,()),c,())).fst.fst:Int)<2:=a1m 2 c g0 (by decide);have c2:a0h (G34 (((),2,()),c,())).snd.fst:=by(repeat ((try dsimp only);first|assumption|(with_reducible first|apply a1N|apply a1r|apply a0c|apply a0d|apply a0f|apply a1e)))
 generalize G34 (((),2,()),c,())=D at *;have bd:∀z:Int,z=D.fst.fst->IntKind.i64.wrap (20+z)<=21:=fun z e=>by
  have h1:0<=z:=e ▸ b2'.1;have h2:z<2:=e ▸ b2'.2;rw[w64 (by omega) (by omega)];omega
 have bd':=bd _ rfl;by_cases hl:(l.length:Int)<IntKind.i64.wrap (20+D.fst.fst)
 ·refine a0n (by simpa using hl) ?_;refine a0n ?_ ?_
  ·refine a0K ?_;simp only[length_set,length_replicate];omega
  have hl':(l.length:Int)<21:=Int.lt_of_lt_of_le hl bd';refine ih _ ⟨c2,?_⟩ ?_<;>simp only[length_append,length_set,length_replicate]<;>omega
 ·have:decide ((l.length:Int)<IntKind.i64.wrap (20+D.fst.fst))=false:=by simpa using hl
  rw[this];exact a0s ⟨c2,g2⟩
theorem g3l (v:a5J) (h:a0h v.2.1) (h1:v.2.2.2.2.1.length<=22):b1s v=true:=a2K (c6p v h h1)
theorem g3m (v:a5J) (h:a0h v.2.1) (h1:v.2.2.2.2.1.length<=22):a0h (a8z v).2.1 /\ (a8z v).2.2.2.2.1.length<=22:=a3f _ (c6p v h h1)
theorem c1u (x:I76.den) (h:a0h x.2.1):Pst (F76 x) fun y=>a0h y.2.1 /\ y.1.1.2.1.length<=22:=by
 unfold F76 r76;dsimp only;refine a0n (a0C _ (by(repeat ((try dsimp only);first|assumption|(with_reducible first|apply a1N|apply a1r|apply a0c|apply a0d|apply a0f|apply a1e))))) ?_;refine a0n (a0C _ (by(repeat ((try dsimp only);first|assumption|(with_reducible first|apply a1N|apply a1r|apply a0c|apply a0d|apply a0f|apply a1e))))) ?_;have c9:a0h (G34 (((),9,()),x.snd)).snd.fst:=by(repeat ((try dsimp only);first|assumption|(with_reducible first|apply a1N|apply a1r|apply a0c|apply a0d|apply a0f|apply a1e)))
 have b3:0<=((G34 (((),3,()),(G34 (((),9,()),x.snd)).snd)).fst.fst:Int) /\ ((G34 (((),3,()),(G34 (((),9,()),x.snd)).snd)).fst.fst:Int)<3:=a1m 3 (G34 (((),9,()),x.snd)).2.1 c9 (by decide);have c3:a0h (G34 (((),3,()),(G34 (((),9,()),x.snd)).snd)).snd.fst:=by(repeat ((try dsimp only);first|assumption|(with_reducible first|apply a1N|apply a1r|apply a0c|apply a0d|apply a0f|apply a1e)))
 generalize G34 (((),3,()),(G34 (((),9,()),x.snd)).snd)=D at *;generalize G34 (((),9,()),x.snd)=B at *;have bd:∀z:Int,z=D.fst.fst->1<=IntKind.i64.wrap (1+z) /\ IntKind.i64.wrap (1+z)<=3:=fun z e=>by
  have h1:0<=z:=e ▸ b3.1;have h2:z<3:=e ▸ b3.2;rw[w64 (by omega) (by omega)];omega
 have p:=e0t (((),(),(),IntKind.i64.wrap (1+D.fst.fst),()),D.snd.fst,(0,0,0,0,(),0,0,0,0,()),(0,-20,IntKind.i64.wrap (B.fst.fst-4),20,(),0,0,0,0,()),[],()) c3 (Int.le_trans (by decide) (bd _ rfl).1) (by simpa using(bd _ rfl).2) (by simpa using(bd _ rfl).1);refine a0n (a2K p) ?_;obtain⟨y,ey,hy⟩:=p;have ex:b3e (((),(),(),IntKind.i64.wrap (1+D.fst.fst),()),D.snd.fst,(0,0,0,0,(),0,0,0,0,()),(0,-20,IntKind.i64.wrap (B.fst.fst-4),20,(),0,0,0,0,()),[],())=y:=by unfold b3e;rw[ey];rfl
 rw[ex];obtain⟨cy,ly,ly1⟩:=hy;refine a0n (c3A _ (by(repeat ((try dsimp only);first|assumption|(with_reducible first|apply a1N|apply a1r|apply a0c|apply a0d|apply a0f|apply a1e))))) ?_;refine a0n (c3A _ (by(repeat ((try dsimp only);first|assumption|(with_reducible first|apply a1N|apply a1r|apply a0c|apply a0d|apply a0f|apply a1e))))) ?_;refine a0n (a0C _ (by(repeat ((try dsimp only);first|assumption|(with_reducible first|apply a1N|apply a1r|apply a0c|apply a0d|apply a0f|apply a1e))))) ?_;have cA:a0h (G34 (((),20,()),(c5o (((),(50,20,()),20,()),(c5o (((),(50,-20,()),20,()),y.snd.fst,())).snd)).snd)).snd.fst:=by(repeat ((try dsimp only);first|assumption|(with_reducible first|apply a1N|apply a1r|apply a0c|apply a0d|apply a0f|apply a1e)))
 generalize G34 (((),20,()),(c5o (((),(50,20,()),20,()),(c5o (((),(50,-20,()),20,()),y.snd.fst,())).snd)).snd)=A at *;have l3:y.2.2.2.2.1.length<=22:=by omega
 refine a1x (fun _=>?_) (fun _=>?_)
 ·exact a0s ⟨cA,by simp⟩
 refine a1x (fun _=>?_) (fun _=>?_)
 ·refine a0n ?_ ?_
  ·have:decide (0<((y.snd.snd.snd.snd.fst.length:Nat):Int))=true:=by simp;omega
   rw[this];rfl
  exact a0s ⟨cA,by simp only[length_set];exact l3⟩
 refine a1x (fun _=>?_) (fun _=>?_)
 ·refine a0n (e6V _ (by(repeat ((try dsimp only);first|assumption|(with_reducible first|apply a1N|apply a1r|apply a0c|apply a0d|apply a0f|apply a1e))))) ?_;exact a0s ⟨by(repeat ((try dsimp only);first|assumption|(with_reducible first|apply a1N|apply a1r|apply a0c|apply a0d|apply a0f|apply a1e))),l3⟩
 refine a1x (fun _=>?_) (fun _=>?_)
 ·exact a0s ⟨cA,l3⟩
 refine a1x (fun _=>?_) (fun _=>?_)
 ·refine a0n (g3l _ cA l3) ?_;exact a0s (g3m _ cA l3)
 ·exact a0s ⟨cA,l3⟩
theorem f3u (x:I76.den) (h:a0h x.2.1):K76 x=true:=a2K (c1u x h)
theorem c1v (x:I33.den) (h:a0h x.2.1):Pst (F33 x) fun y=>a0h y.2.1:=by
 unfold F33 r33;dsimp only;refine a0n (d4n _ (by(repeat ((try dsimp only);first|assumption|(with_reducible first|apply a0c|apply a0i|apply a0e|apply a0d|apply a0f))))) ?_;refine a0n (d4n _ (by(repeat ((try dsimp only);first|assumption|(with_reducible first|apply a0c|apply a0i|apply a0e|apply a0d|apply a0f))))) ?_;exact a0s (by(repeat ((try dsimp only);first|assumption|(with_reducible first|apply a0c|apply a0i|apply a0e|apply a0d|apply a0f))))
theorem e3Q (x:I33.den) (h:a0h x.2.1):K33 x=true:=a2K (c1v x h)
theorem a0Q (x:I33.den) (h:a0h x.2.1):a0h (G33 x).2.1:=a3f _ (c1v x h)
theorem e0u (x:Den c2Y) (h:x.1.length<=1048576):Pst (f5B x) fun _=>True:=by
 have c0:=d2u (x,()) h;unfold f5B f9V;dsimp only;refine a0n (e2S (x,()) h) ?_;generalize G30 (x,())=A at *;refine a0n (e3Q _ (by(repeat ((try dsimp only);first|assumption|(with_reducible first|apply a0Q|apply a0c|apply a0i|apply a0e|apply a0d|apply a0f))))) ?_;refine a0n (a0C _ (by(repeat ((try dsimp only);first|assumption|(with_reducible first|apply a0Q|apply a0c|apply a0i|apply a0e|apply a0d|apply a0f))))) ?_;refine a1x (fun _=>a0s trivial) (fun _=>?_);refine a1x (fun _=>a0s trivial) (fun _=>?_);refine a1x (fun _=>?_) (fun _=>a0s trivial);refine a0n (a8N _ (by(repeat ((try dsimp only);first|assumption|(with_reducible first|apply a0Q|apply a0c|apply a0i|apply a0e|apply a0d|apply a0f))))) ?_;refine a0n (a8N _ (by(repeat ((try dsimp only);first|assumption|(with_reducible first|apply a0Q|apply a0c|apply a0i|apply a0e|apply a0d|apply a0f))))) ?_;exact a0s trivial
theorem e6W (x:Den c2Y) (h:x.1.length<=1048576):d8Z x=true:=a2K (e0u x h)
theorem d4w (v:b1o) (h:a0h v.2.1) (h0:0<=v.1.2.2.2.2.2.1):Pst (e5P v) fun y=>a0h y.2.1 /\ y.1.2.2.2.1=v.1.2.2.2.1 /\ y.2.2.2.2.1=v.2.2.2.2.1:=by
 refine a0V (q:=d8S K34 G34 K77 G77) (fun u=>a0h u.2.1 /\ u.1.2.2.2.1=v.1.2.2.2.1 /\ u.2.2.2.2.1=v.2.2.2.2.1 /\ 0<=u.1.2.2.2.2.2.1)
  (fun _ r=>Pst r fun y=>a0h y.2.1 /\ y.1.2.2.2.1=v.1.2.2.2.1 /\ y.2.2.2.2.1=v.2.2.2.2.1) (fun u=>(13-u.1.2.2.2.2.2.1).toNat) ?_ _ _ ⟨h,rfl,rfl,h0⟩ ?_
 ·rintro⟨⟨_,_,_,n,_,i,_⟩,⟨c0,c1,c2,_⟩,_,_,l,st,_⟩ f ⟨g0,g1,g2,g3⟩ ih;dsimp only at g0 g1 g2 g3 ih;unfold d8S;dsimp only;by_cases hk:i<13
  ·refine a0n (by simpa using hk) ?_;refine a0n (a0C _ (by(repeat ((try dsimp only);first|assumption|(with_reducible first|apply a0Q|apply a0c|apply a0i|apply a0e|apply a0d|apply a0f))))) ?_;refine a0n (a0C _ (by(repeat ((try dsimp only);first|assumption|(with_reducible first|apply a0Q|apply a0c|apply a0i|apply a0e|apply a0d|apply a0f))))) ?_;refine a0n (by simp;omega) ?_;have e:IntKind.i64.wrap (i+1)=i+1:=w64 (by omega) (by omega);refine ih _ ⟨by(repeat ((try dsimp only);first|assumption|(with_reducible first|apply a0Q|apply a0c|apply a0i|apply a0e|apply a0d|apply a0f))),g1,g2,?_⟩ ?_
   ·show 0<=IntKind.i64.wrap (i+1);omega
   ·show(13-IntKind.i64.wrap (i+1)).toNat<(13-i).toNat;omega
  ·have hd:decide (i<13)=false:=by simpa using hk
   rw[hd];exact a0s ⟨g0,g1,g2⟩
 ·exact Nat.lt_of_lt_of_le (m:=1000) (by omega) (Nat.le_add_left _ _)
theorem b7G (v:b5D) (h:a0h v.2.1) (h0:0<=v.1.2.2.2.1) (h1:(v.2.2.2.2.1.length:Int)+v.1.2.2.2.1<=3) (h2:1<=(v.2.2.2.2.1.length:Int)+v.1.2.2.2.1):Pst (e5S v) fun y=>a0h y.2.1 /\ 1<=y.2.2.2.2.1.length /\ y.2.2.2.2.1.length<=3:=by
 refine a0V (q:=d8T K34 G34 K77 G77 a7I a7J) (fun u=>a0h u.2.1 /\ 0<=u.1.2.2.2.1 /\ (u.2.2.2.2.1.length:Int)+u.1.2.2.2.1<=3 /\ 1<=(u.2.2.2.2.1.length:Int)+u.1.2.2.2.1)
  (fun _ r=>Pst r fun y=>a0h y.2.1 /\ 1<=y.2.2.2.2.1.length /\ y.2.2.2.2.1.length<=3) (fun u=>u.1.2.2.2.1.toNat) ?_ _ _ ⟨h,h0,h1,h2⟩ ?_
 ·rintro⟨⟨_,_,_,n,_⟩,⟨c0,c1,c2,_⟩,_,_,l,_⟩ f ⟨g0,g1,g2,g3⟩ ih;dsimp only at g0 g1 g2 g3 ih;unfold d8T;dsimp only;by_cases hk:n>0
  ·refine a0n (by simpa using hk) ?_;refine a0n (a0C _ (by(repeat ((try dsimp only);first|assumption|(with_reducible first|apply a0Q|apply a0c|apply a0i|apply a0e|apply a0d|apply a0f))))) ?_;refine a0n (a0C _ (by(repeat ((try dsimp only);first|assumption|(with_reducible first|apply a0Q|apply a0c|apply a0i|apply a0e|apply a0d|apply a0f))))) ?_;have c5:a0h (G34 (((),8001,()),(G34 (((),8001,()),(c0,c1,c2,()),())).snd)).snd.fst:=by(repeat ((try dsimp only);first|assumption|(with_reducible first|apply a0Q|apply a0c|apply a0i|apply a0e|apply a0d|apply a0f)))
   generalize hA:G34 (((),8001,()),(c0,c1,c2,()),())=A at *;generalize hB:G34 (((),8001,()),A.snd)=B at *;generalize (nearest FloatKind.f64 (wrap IntKind.i64 (A.fst.fst-4000)),nearest FloatKind.f64 (wrap IntKind.i64 (B.fst.fst-4000)))=at0;have hl:=d4w (((),(),(),n,(),0,()),B.snd.fst,((),(),()),((),(),()),l,(at0,(0,0),(0,0),(0,0),(0,0),(0,0),(0,0),(0,0),(0,0),(0,0),(0,0),(0,0),(0,0),(0,0),()),()) c5 (Int.le_refl 0);obtain⟨y,hy,q1,q2,q3⟩:=hl;have e1:a7I (((),(),(),n,(),0,()),B.snd.fst,((),(),()),((),(),()),l,(at0,(0,0),(0,0),(0,0),(0,0),(0,0),(0,0),(0,0),(0,0),(0,0),(0,0),(0,0),(0,0),(0,0),()),())=true:=by unfold a7I;rw[hy];rfl
   have e2:a7J (((),(),(),n,(),0,()),B.snd.fst,((),(),()),((),(),()),l,(at0,(0,0),(0,0),(0,0),(0,0),(0,0),(0,0),(0,0),(0,0),(0,0),(0,0),(0,0),(0,0),(0,0),()),())=y:=by unfold a7J;rw[hy];rfl
   refine a0n e1 ?_;rw[e2];obtain⟨⟨_,_,_,n',_,_⟩,c,_,_,l',st,_⟩:=y;dsimp only at q1 q2 q3;subst q2 q3;dsimp only;have e:IntKind.i64.wrap (n'-1)=n'-1:=w64 (by omega) (by omega);refine a0n (a2i _ (by(repeat ((try dsimp only);first|assumption|(with_reducible first|apply a0Q|apply a0c|apply a0i|apply a0e|apply a0d|apply a0f))))) ?_;refine a1x (fun _=>?_) (fun _=>?_)
   all_goals
    refine a0n (a0K (by simp only[length_set,length_replicate];omega)) ?_;refine ih _ ⟨by(repeat ((try dsimp only);first|assumption|(with_reducible first|apply a0Q|apply a0c|apply a0i|apply a0e|apply a0d|apply a0f))),?_,?_,?_⟩ ?_
    ·show 0<=IntKind.i64.wrap (n'-1);omega
    ·simp only[e,length_append,length_set,length_replicate];omega
    ·simp only[e,length_append,length_set,length_replicate];omega
    ·show(IntKind.i64.wrap (n'-1)).toNat<n'.toNat;omega
  ·have hd:decide (n>0)=false:=by simpa using hk
   rw[hd];exact a0s ⟨g0,by show 1<=l.length;omega,by show l.length<=3;omega⟩
 ·unfold e5R;have:=h0;omega
theorem c8I (v:a7H) (h:a0h v.2.1) (h0:0<=v.1.2.2.2.2.1) (h1:(v.2.2.2.2.2.1.length:Int)+v.1.2.2.2.2.1<=5) (h2:1<=(v.2.2.2.2.2.1.length:Int)+v.1.2.2.2.2.1):Pst (d2e v) fun y=>a0h y.2.1 /\ y.2.2.2.2.1=v.2.2.2.2.1 /\ 1<=y.2.2.2.2.2.1.length /\ y.2.2.2.2.2.1.length<=5:=by
 refine a0V (q:=c5l K34 G34 K77 G77) (fun u=>a0h u.2.1 /\ u.2.2.2.2.1=v.2.2.2.2.1 /\ 0<=u.1.2.2.2.2.1 /\ (u.2.2.2.2.2.1.length:Int)+u.1.2.2.2.2.1<=5 /\ 1<=(u.2.2.2.2.2.1.length:Int)+u.1.2.2.2.2.1)
  (fun _ r=>Pst r fun y=>a0h y.2.1 /\ y.2.2.2.2.1=v.2.2.2.2.1 /\ 1<=y.2.2.2.2.2.1.length /\ y.2.2.2.2.2.1.length<=5) (fun u=>u.1.2.2.2.2.1.toNat) ?_ _ _ ⟨h,rfl,h0,h1,h2⟩ ?_
 ·rintro⟨⟨_,_,_,t,n,_⟩,⟨c0,c1,c2,_⟩,_,_,l,hs,_⟩ f ⟨g0,g1,g2,g3,g4⟩ ih;dsimp only at g0 g1 g2 g3 g4 ih;unfold c5l;dsimp only;by_cases hk:n>0
  ·refine a0n (by simpa using hk) ?_;refine a0n (a0K (by simp only[length_set,length_replicate];omega)) ?_;refine a0n (a0C _ (by(repeat ((try dsimp only);first|assumption|(with_reducible first|apply a0Q|apply a0c|apply a0i|apply a0e|apply a0d|apply a0f))))) ?_;refine a0n (a0C _ (by(repeat ((try dsimp only);first|assumption|(with_reducible first|apply a0Q|apply a0c|apply a0i|apply a0e|apply a0d|apply a0f))))) ?_;have e:IntKind.i64.wrap (n-1)=n-1:=w64 (by omega) (by omega);refine ih _ ⟨by(repeat ((try dsimp only);first|assumption|(with_reducible first|apply a0Q|apply a0c|apply a0i|apply a0e|apply a0d|apply a0f))),g1,?_,?_,?_⟩ ?_
   ·show 0<=IntKind.i64.wrap (n-1);omega
   ·simp only[e,length_append,length_set,length_replicate];omega
   ·simp only[e,length_append,length_set,length_replicate];omega
   ·show(IntKind.i64.wrap (n-1)).toNat<n.toNat;omega
  ·have hd:decide (n>0)=false:=by simpa using hk
   rw[hd];exact a0s ⟨g0,g1,by show 1<=hs.length;omega,by show hs.length<=5;omega⟩
 ·unfold d2d;have:=h0;omega
theorem c6q (d n:Int) (hd:0<=d /\ d<n) (hn:n<=100):1<=IntKind.i64.wrap (1+d) /\ IntKind.i64.wrap (1+d)<=n:=by
 rw[w64 (by omega) (by omega)];omega
theorem d4x (x:I74.den) (h:a0h x.2.1):Pst (F74 x) fun y=>a0h y.2.1 /\ (1<=y.2.2.1.length /\ y.2.2.1.length<=3) /\ 1<=y.2.2.2.1.length /\ y.2.2.2.1.length<=5:=by
 unfold F74 r74;dsimp only;refine a0n (a0C _ (by(repeat ((try dsimp only);first|assumption|(with_reducible first|apply a0Q|apply a0c|apply a0i|apply a0e|apply a0d|apply a0f))))) ?_;have b1:=c6q _ 3 (a1m 3 x.2.1 h (by decide)) (by decide);have c1:a0h (G34 (((),3,()),x.snd)).snd.fst:=by(repeat ((try dsimp only);first|assumption|(with_reducible first|apply a0Q|apply a0c|apply a0i|apply a0e|apply a0d|apply a0f)))
 have b1:1<=IntKind.i64.wrap (1+(G34 (((),3,()),x.snd)).fst.fst) /\ IntKind.i64.wrap (1+(G34 (((),3,()),x.snd)).fst.fst)<=3:=b1;generalize G34 (((),3,()),x.snd)=A at *;generalize IntKind.i64.wrap (1+A.fst.fst)=n at *;obtain⟨y,hy,q1,q2,q3⟩:=b7G (((),(),(),n,()),A.snd.fst,((),(),()),((),(),()),[],()) c1 (by show 0<=n;omega) (by show(0:Int)+n<=3;omega) (by show 1<=(0:Int)+n;omega);have e1:b1p (((),(),(),n,()),A.snd.fst,((),(),()),((),(),()),[],())=true:=by unfold b1p;rw[hy];rfl
 have e2:b1q (((),(),(),n,()),A.snd.fst,((),(),()),((),(),()),[],())=y:=by unfold b1q;rw[hy];rfl
 refine a0n e1 ?_;rw[e2];obtain⟨_,c,_,_,l,_⟩:=y;dsimp only at q1 q2 q3 ⊢;refine a0n (a0C _ (by(repeat ((try dsimp only);first|assumption|(with_reducible first|apply a0Q|apply a0c|apply a0i|apply a0e|apply a0d|apply a0f))))) ?_;have c2:a0h (G34 (((),30000,()),c,())).snd.fst:=by(repeat ((try dsimp only);first|assumption|(with_reducible first|apply a0Q|apply a0c|apply a0i|apply a0e|apply a0d|apply a0f)))
 generalize G34 (((),30000,()),c,())=B at *;refine a0n (a0C _ (by(repeat ((try dsimp only);first|assumption|(with_reducible first|apply a0Q|apply a0c|apply a0i|apply a0e|apply a0d|apply a0f))))) ?_;have b2:=c6q _ 5 (a1m 5 B.2.1 c2 (by decide)) (by decide);have c3:a0h (G34 (((),5,()),B.snd)).snd.fst:=by(repeat ((try dsimp only);first|assumption|(with_reducible first|apply a0Q|apply a0c|apply a0i|apply a0e|apply a0d|apply a0f)))
 have b2:1<=IntKind.i64.wrap (1+(G34 (((),5,()),B.snd)).fst.fst) /\ IntKind.i64.wrap (1+(G34 (((),5,()),B.snd)).fst.fst)<=5:=b2;generalize G34 (((),5,()),B.snd)=C at *;generalize IntKind.i64.wrap (1+C.fst.fst)=m at *;obtain⟨y,hy,r1,r2,r3,r4⟩:=c8I (((),(),(),B.fst.fst,m,()),C.snd.fst,((),(),()),((),(),()),l,[],()) c3 (by show 0<=m;omega) (by show(0:Int)+m<=5;omega) (by show 1<=(0:Int)+m;omega);have e3:a6V (((),(),(),B.fst.fst,m,()),C.snd.fst,((),(),()),((),(),()),l,[],())=true:=by unfold a6V;rw[hy];rfl
 have e4:a6W (((),(),(),B.fst.fst,m,()),C.snd.fst,((),(),()),((),(),()),l,[],())=y:=by unfold a6W;rw[hy];rfl
 refine a0n e3 ?_;rw[e4];obtain⟨_,c',_,_,l',hs,_⟩:=y;dsimp only at r1 r2 r3 r4 ⊢;subst r2;exact a0s ⟨r1,⟨q2,q3⟩,r3,r4⟩
theorem e3R (x:I74.den) (h:a0h x.2.1):K74 x=true:=a2K (d4x x h)
theorem e3S (x:I74.den) (h:a0h x.2.1):a0h (G74 x).2.1 /\ (1<=(G74 x).2.2.1.length /\ (G74 x).2.2.1.length<=3) /\ 1<=(G74 x).2.2.2.1.length /\ (G74 x).2.2.2.1.length<=5:=a3f _ (d4x x h)
theorem f3v (d:Int) (h:0<=d /\ d<2):IntKind.i64.wrap (20+d)<=21:=by
 rw[w64 (by omega) (by omega)];omega
theorem c3B (v:a5K) (h:a0h v.2.1) (h1:1<=v.2.2.2.2.1.length) (h2:v.2.2.2.2.1.length<=21):Pst (d2r v) fun y=>a0h y.2.1 /\ y.2.2.2.2.1.length<=21 /\ y.2.2.2.2.2.1=v.2.2.2.2.2.1:=by
 refine a0V (q:=c5s K74 G74 K34 G34 K82 G82 d8Z e2L e2M e2N a8i a8j) (fun u=>a0h u.2.1 /\ 1<=u.2.2.2.2.1.length /\ u.2.2.2.2.1.length<=21 /\ u.2.2.2.2.2.1=v.2.2.2.2.2.1)
  (fun _ r=>Pst r fun y=>a0h y.2.1 /\ y.2.2.2.2.1.length<=21 /\ y.2.2.2.2.2.1=v.2.2.2.2.2.1) (fun u=>21-u.2.2.2.2.1.length) ?_ _ _ ⟨h,h1,h2,rfl⟩ ?_
 ·rintro⟨_,⟨c0,c1,c2,_⟩,_,_,l,hs,_⟩ f ⟨g0,g1,g2,g3⟩ ih;dsimp only at g0 g1 g2 g3 ih;unfold c5s;dsimp only;refine a0n (a0C _ (by(repeat ((try dsimp only);first|assumption|(with_reducible first|apply a0Q|apply a0c|apply a0i|apply a0e|apply a0d|apply a0f))))) ?_;have b2:=a1m 2 (c0,c1,c2,()) g0 (by decide);have e:IntKind.i64.wrap (20+(G34 (((),2,()),(c0,c1,c2,()),())).fst.fst)<=21:=f3v _ b2;refine a1x (fun hb=>?_) (fun _=>a0s ⟨by(repeat ((try dsimp only);first|assumption|(with_reducible first|apply a0Q|apply a0c|apply a0i|apply a0e|apply a0d|apply a0f))),g2,g3⟩);have hb:(l.length:Int)<IntKind.i64.wrap (20+(G34 (((),2,()),(c0,c1,c2,()),())).fst.fst):=by simpa using hb
  refine a0n (by simp;omega) ?_;refine a0n (a0K (by simp only[length_set,length_replicate];omega)) ?_;refine ih _ ⟨by(repeat ((try dsimp only);first|assumption|(with_reducible first|apply a0Q|apply a0c|apply a0i|apply a0e|apply a0d|apply a0f))),?_,?_,g3⟩ ?_<;>simp only[length_append,length_set,length_replicate]<;>omega
 ·unfold d2q;omega
def p79 (x:I79.den):Bool:=e0s x.2.1
def a7O (t:Den S30):Prop:=t.1.length<=21 /\ t.2.1.length<=6
def Q79 (x:I79.den) (y:O79.den):Prop:=a0h y.2.1 /\ a7O y.1.1
theorem e79:Nonempty (Ch I79 O79 p79 Q79):=⟨⟨fun _=>((([],[],()),()),(e3P,())),fun _ _=>⟨a7b,by show 0<=21;decide,by show 0<=6;decide⟩⟩⟩
theorem g3n:a2V Tryz.prog 79 (a3B true I79 O79 p79 Q79 e79):=b9c f1y (N:=N79 p128 Q128 e128) (a2W ⟨f3t,trivial⟩) g4r a1C fun x hx k hk=>by
 have hk:∀y:O79.den,a0h y.2.1->y.1.1.1.length<=21->y.1.1.2.1.length<=6->k y=some ():=fun y h1 h2 h3=>hk y ⟨h1,h2,h3⟩
 have h:a0h x.2.1:=a1y.1 hx;refine Eq.trans (g0c _ _ _ _ _ _ _ _ _ _ _ _ _ _ _ _ _ k x) ?_;unfold g4w;dsimp only
 haveI:=e128
 have t0:=e3S (((),()),x.snd) h;refine a0G (e3R _ h) ?_;generalize G74 (((),()),x.snd)=T at *;obtain⟨_,c,l,hs,_⟩:=T;dsimp only at t0 ⊢;obtain⟨t1,⟨t2,t3⟩,t4,t5⟩:=t0;refine a0G (a0C _ (by(repeat ((try dsimp only);first|assumption|(with_reducible first|apply a0Q|apply a0c|apply a0i|apply a0e|apply a0d|apply a0f))))) ?_;have b1:=a1m (l.length:Int) c t1 (by omega);have c1:a0h (G34 (((),(l.length:Int),()),c,())).snd.fst:=by(repeat ((try dsimp only);first|assumption|(with_reducible first|apply a0Q|apply a0c|apply a0i|apply a0e|apply a0d|apply a0f)))
 generalize G34 (((),(l.length:Int),()),c,())=A at *;obtain⟨⟨i,_⟩,cA,_⟩:=A;dsimp only at b1 c1 ⊢;refine a0G (a0C _ (by(repeat ((try dsimp only);first|assumption|(with_reducible first|apply a0Q|apply a0c|apply a0i|apply a0e|apply a0d|apply a0f))))) ?_;have c2:a0h (G34 (((),24,()),cA,())).snd.fst:=by(repeat ((try dsimp only);first|assumption|(with_reducible first|apply a0Q|apply a0c|apply a0i|apply a0e|apply a0d|apply a0f)))
 generalize G34 (((),24,()),cA,())=B at *;have din:(decide (0<=i)&&decide (i<(l.length:Int)))=true:=by simp only[and_eq_true,decide_eq_true_eq];exact b1
 refine a2g (fun _=>?_) (fun _=>?_)
 ·refine a0G (b9W _ c2) ?_;have c3:=e5Z (((),()),B.snd) c2;generalize G82 (((),()),B.snd)=C at *;refine a0G (e6W _ (by simp)) ?_;refine a0G din ?_;exact hk _ c3 (by simp only[length_set];omega) (by show hs.length<=6;omega)
 refine a2g (fun _=>?_) (fun _=>?_)
 ·refine a0B fun g=>?_
  refine a0G (a0C _ (by(repeat ((try dsimp only);first|assumption|(with_reducible first|apply a0Q|apply a0c|apply a0i|apply a0e|apply a0d|apply a0f))))) ?_;have b4:=a1m 13 B.2.1 c2 (by decide);have b4:0<=(G34 (((),13,()),B.snd)).fst.fst /\ (G34 (((),13,()),B.snd)).fst.fst<13:=b4;have c4:a0h (G34 (((),13,()),B.snd)).snd.fst:=by(repeat ((try dsimp only);first|assumption|(with_reducible first|apply a0Q|apply a0c|apply a0i|apply a0e|apply a0d|apply a0f)))
  generalize G34 (((),13,()),B.snd)=D at *;have hp:p128 (((),()),D.snd)=true:=a1y.2 c4;have q1:a0h (g.val (((),()),D.snd)).2.1:=g.2 _ hp;refine a0G hp ?_;generalize g.val (((),()),D.snd)=C at *;refine a0G din ?_;refine a0G (by simp only[and_eq_true,decide_eq_true_eq];exact b4) ?_;exact hk _ q1 (by simp only[length_set];omega) (by show hs.length<=6;omega)
 refine a2g (fun _=>?_) (fun _=>?_)
 ·refine a0G (a0C _ (by(repeat ((try dsimp only);first|assumption|(with_reducible first|apply a0Q|apply a0c|apply a0i|apply a0e|apply a0d|apply a0f))))) ?_;have b5:=a1m (hs.length:Int) B.2.1 c2 (by omega);have b5:0<=(G34 (((),(hs.length:Int),()),B.snd)).fst.fst /\ (G34 (((),(hs.length:Int),()),B.snd)).fst.fst<(hs.length:Int):=b5;have c5:a0h (G34 (((),(hs.length:Int),()),B.snd)).snd.fst:=by(repeat ((try dsimp only);first|assumption|(with_reducible first|apply a0Q|apply a0c|apply a0i|apply a0e|apply a0d|apply a0f)))
  generalize G34 (((),(hs.length:Int),()),B.snd)=D at *;refine a0G (b7F _ (by(repeat ((try dsimp only);first|assumption|(with_reducible first|apply a0Q|apply a0c|apply a0i|apply a0e|apply a0d|apply a0f))))) ?_;refine a0G (by simp only[and_eq_true,decide_eq_true_eq];exact b5) ?_;exact hk _ (by(repeat ((try dsimp only);first|assumption|(with_reducible first|apply a0Q|apply a0c|apply a0i|apply a0e|apply a0d|apply a0f)))) (by show l.length<=21;omega) (by simp only[length_set];omega)
 refine a2g (fun _=>hk _ c2 (by show l.length<=21;omega) (by show 0<=6;decide)) (fun _=>?_);refine a2g (fun _=>hk _ c2 (by show 0<=21;decide) (by show hs.length<=6;omega)) (fun _=>?_);refine a2g (fun _=>?_) (fun _=>?_)
 ·obtain⟨y,hy,r1,r2,r3⟩:=c3B (((),(),(),()),B.snd.fst,((),(),()),((),(),()),l,hs,()) c2 t2 (by show l.length<=21;omega);have e3:a6Y (((),(),(),()),B.snd.fst,((),(),()),((),(),()),l,hs,())=true:=by unfold a6Y;rw[hy];rfl
  have e4:a6Z (((),(),(),()),B.snd.fst,((),(),()),((),(),()),l,hs,())=y:=by unfold a6Z;rw[hy];rfl
  refine a0G e3 ?_;rw[e4];obtain⟨_,c',_,_,l',hs',_⟩:=y;dsimp only at r1 r2 r3 ⊢;subst r3;exact hk _ r1 r2 (by show hs'.length<=6;omega)
 refine a2g (fun _=>?_) (fun _=>hk _ c2 (by show l.length<=21;omega) (by show hs.length<=6;omega));have e5:IntKind.i64.wrap ((hs.length:Int)-1)=(hs.length:Int)-1:=w64 (by omega) (by omega);rw[e5];refine a0G (by simp only[and_eq_true,decide_eq_true_eq];omega) ?_;refine a0G (a0K (by simp only[length_set,length_replicate];omega)) ?_;exact hk _ c2 (by show l.length<=21;omega) (by simp only[length_append,length_set,length_replicate];omega)
def g3o:List (Nat×TI):=[
 (1,⟨1,8,false,.nil,[.pois],[],0,.other⟩),
 (2,⟨1,8,false,.int .i64,[.int .i64 0],[],0,.int .i64⟩),
 (3,⟨1,8,false,.int .i64,[.int .i64 0],[],0,.int .i64⟩),
 (4,⟨1,1,false,.bool,[.bool false],[],0,.bool⟩),
 (5,⟨1,1,false,.int .u8,[.int .u8 0],[],0,.int .u8⟩),
 (9,⟨1,16,false,.str,[.str ByteArray.empty],[],0,.string⟩),
 (10,⟨1,16,false,.str,[.str ByteArray.empty],[],0,.string⟩),
 (22,⟨1,24,false,.slice (.int .u8),[.nil (.int .u8)],[],5,.slice⟩),
 (24,⟨1,24,false,.slice .jnk,[.nil (.flt .f32)],[],62,.slice⟩),
 (25,⟨1,24,false,.slice (.int .i64),[.nil (.int .i64)],[],3,.slice⟩),
 (26,⟨1,24,false,.slice (.slice .jnk),[.nil (.slice .jnk)],[],24,.slice⟩),
 (28,⟨3,72,true,S27,[.nil (.flt .f32),.nil (.int .i64),.nil (.slice .jnk)],[(0,1,false),(1,1,false),(2,1,false)],0,.struct⟩),
 (50,⟨1,24,false,.slice (.bool),[.nil (.bool)],[],4,.slice⟩),
 (62,⟨1,4,false,.flt .f32,[.flt .f32 0],[],0,.float .f32⟩),
 (104,⟨1,8,false,.int .u64,[.int .u64 0],[],0,.int .u64⟩),
 (109,⟨1,8,false,.flt .f64,[.flt .f64 0],[],0,.float .f64⟩),
 (122,⟨3,40,true,a2X,[.nil (.int .u8),.int .i64 0,.int .i64 0],[(0,1,false),(1,1,false),(2,1,false)],0,.struct⟩),
 (142,⟨1,8,false,.nil,[.pois],[],0,.other⟩),
 (208,⟨1,8,false,.nil,[.pois],[],0,.other⟩),
 (240,⟨1,8,false,.nil,[.pois],[],0,.other⟩)]
theorem d4y:f4u Tryz.prog g3o=true:=by kernel_rfl
abbrev a6s:Sg:=⟨[.ptr 0],[.box (a2X)]⟩
abbrev b1L:Sg:=⟨[.mix [.ref (.flt .f32) 1,.ref (.int .i64) 2,.ref (.slice (.jnk)) 3]],[.box (a2X),.arr (.flt .f32),.arr (.int .i64),.arr (.slice (.jnk))]⟩
abbrev a4O:Type:=((Unit×(Unit×(Unit×(Int×Unit))))×(((List (Den (.int .u8)))×(Int×(Int×Unit)))×((Unit×(Unit×(Unit×Unit)))×((Unit×(Unit×(Unit×Unit)))×((List (Den (.int .i64)))×Unit)))))
def b0k:ShS:=⟨[(0,.one (.ptr 0 0)),(2,.one (.ptr 1 0)),(3,.one (.ptr 2 0)),(5,.one (.int .i64))],[(0,.box [.sl (.int .u8),.int .i64,.int .i64]),(1,.box [.nil (.flt .f32),.nil (.int .i64),.nil (.slice (.jnk))]),(2,.box [.nil (.flt .f32),.ref (.int .i64) 3,.nil (.slice (.jnk))]),(3,.arr (.int .i64))],4,1⟩
abbrev b1M:Type:=((Unit×(Unit×(Unit×Unit)))×(((List (Den (.int .u8)))×(Int×(Int×Unit)))×((Unit×(Unit×(Unit×Unit)))×((Unit×(Unit×(Unit×Unit)))×((List (Den (.int .i64)))×Unit)))))
def b1N:ShS:=⟨[(0,.one (.ptr 0 0)),(2,.one (.ptr 1 0)),(3,.one (.ptr 2 0))],[(0,.box [.sl (.int .u8),.int .i64,.int .i64]),(1,.box [.nil (.flt .f32),.nil (.int .i64),.nil (.slice (.jnk))]),(2,.box [.nil (.flt .f32),.ref (.int .i64) 3,.nil (.slice (.jnk))]),(3,.arr (.int .i64))],4,1⟩
abbrev a3q:Type:=((Unit×(Unit×(Unit×(Nat×(Int×Unit)))))×(((List (Den (.int .u8)))×(Int×(Int×Unit)))×((Unit×(Unit×(Unit×Unit)))×((Unit×(Unit×(Unit×Unit)))×((List (Den (.flt .f32)))×((List (Den (.int .i64)))×((List (Den (.slice (.jnk))))×Unit)))))))
def a7P:ShS:=⟨[(0,.one (.ptr 0 0)),(2,.one (.ptr 1 0)),(3,.one (.ptr 2 0)),(6,.one (.flt .f32)),(7,.one (.int .i64))],[(0,.box [.sl (.int .u8),.int .i64,.int .i64]),(1,.box [.nil (.flt .f32),.nil (.int .i64),.nil (.slice (.jnk))]),(2,.box [.ref (.flt .f32) 3,.ref (.int .i64) 4,.ref (.slice (.jnk)) 5]),(3,.arr (.flt .f32)),(4,.arr (.int .i64)),(5,.arr (.slice (.jnk)))],6,1⟩
abbrev a7Q:Type:=((Unit×(Unit×Unit))×(((List (Den (.int .u8)))×(Int×(Int×Unit)))×((Unit×(Unit×(Unit×Unit)))×((Unit×(Unit×(Unit×Unit)))×((List (Den (.flt .f32)))×((List (Den (.int .i64)))×((List (Den (.slice (.jnk))))×Unit)))))))
def a8O:ShS:=⟨[(2,.one (.ptr 1 0)),(3,.one (.ptr 2 0))],[(0,.box [.sl (.int .u8),.int .i64,.int .i64]),(1,.box [.nil (.flt .f32),.nil (.int .i64),.nil (.slice (.jnk))]),(2,.box [.ref (.flt .f32) 3,.ref (.int .i64) 4,.ref (.slice (.jnk)) 5]),(3,.arr (.flt .f32)),(4,.arr (.int .i64)),(5,.arr (.slice (.jnk)))],6,1⟩
abbrev a2D:Type:=((Unit×(Unit×(Unit×(Nat×(Int×(Unit×(Int×Unit)))))))×(((List (Den (.int .u8)))×(Int×(Int×Unit)))×((Unit×(Unit×(Unit×Unit)))×((Unit×(Unit×(Unit×Unit)))×((List (Den (.flt .f32)))×((List (Den (.int .i64)))×((List (Den (.slice (.jnk))))×((List (Den (.flt .f32)))×Unit))))))))
def a7R:ShS:=⟨[(0,.one (.ptr 0 0)),(2,.one (.ptr 1 0)),(3,.one (.ptr 2 0)),(6,.one (.flt .f32)),(7,.one (.int .i64)),(8,.one (.ref (.flt .f32) 6)),(9,.one (.int .i64))],[(0,.box [.sl (.int .u8),.int .i64,.int .i64]),(1,.box [.nil (.flt .f32),.nil (.int .i64),.nil (.slice (.jnk))]),(2,.box [.ref (.flt .f32) 3,.ref (.int .i64) 4,.ref (.slice (.jnk)) 5]),(3,.arr (.flt .f32)),(4,.arr (.int .i64)),(5,.arr (.slice (.jnk))),(6,.arr (.flt .f32))],7,1⟩
abbrev a6g:Type:=((Unit×(Unit×(Unit×(Nat×(Int×((List (Den (.jnk)))×Unit))))))×(((List (Den (.int .u8)))×(Int×(Int×Unit)))×((Unit×(Unit×(Unit×Unit)))×((Unit×(Unit×(Unit×Unit)))×((List (Den (.flt .f32)))×((List (Den (.int .i64)))×((List (Den (.slice (.jnk))))×Unit)))))))
def a8P:ShS:=⟨[(0,.one (.ptr 0 0)),(2,.one (.ptr 1 0)),(3,.one (.ptr 2 0)),(6,.one (.flt .f32)),(7,.one (.int .i64)),(8,.one (.sl (.jnk)))],[(0,.box [.sl (.int .u8),.int .i64,.int .i64]),(1,.box [.nil (.flt .f32),.nil (.int .i64),.nil (.slice (.jnk))]),(2,.box [.ref (.flt .f32) 3,.ref (.int .i64) 4,.ref (.slice (.jnk)) 5]),(3,.arr (.flt .f32)),(4,.arr (.int .i64)),(5,.arr (.slice (.jnk)))],6,1⟩
noncomputable def c6r (e g h i j k a b c d) :=a0m g3o eqs [(34,a0j true I34 O34 e g),(77,a0j true I77 O77 h i)] 110 [.cell 2 28] [] [] [(6,a1Q [0,2,3,5] [] 0 [0,2,3] [] b0k b1N j k),(12,a1Q [0,2,3,6,7] [.boxNil 3 0,.boxNil 3 2] 2 [2,3] [] a7P a8O a b),(17,a1Q [0,2,3,6,7,8,9] [] 4 [0,2,3,6,7,8] [.jnk 8] a7R a8P c d)] [] []
noncomputable def c6s:Code:=(a0p (a0b Tryz.f73)).getD 0 .skip
noncomputable def c1w:Code:=(a0p (a0b Tryz.f73)).getD 1 .skip
noncomputable def c1x:Code:=(a0p (a0b Tryz.f73)).getD 2 .skip
def b0l (c:KI I34) (a:GI I34 O34) (j:KI I77) (k:GI I77 O77) (f:a2D->Option (a6g)) (v:a2D):Option (a6g):=bif decide (v.1.2.2.2.2.2.2.1<(length v.2.2.2.2.2.1:Int)) then bif c (((),57,()),v.2.1,()) then bif v.1.2.2.2.2.2.2.1==0 then let b:=a (((),57,()),v.2.1,());bif j (((),8,()),b.2) then let d:=k (((),8,()),b.2);bif !d.1.1 then bif fgt .f32 v.1.2.2.2.1 1084227584 then bif c (((),40,()),d.2) then let e:=a (((),40,()),d.2);let g:=set (replicate 1 (zero (Ty.flt .f32))) 0 (a0g .add .f32 0 (a0g .quo .f32 (nearest .f32 e.1.1) 1098907648));bif a0D (length v.2.2.2.2.2.2.2.1+length g) then f ((((),(),(),v.1.2.2.2.1,v.1.2.2.2.2.1,(),wrap .i64 (v.1.2.2.2.2.2.2.1+1),()),e.2.1,((),(),(),()),((),(),(),()),v.2.2.2.2.1,v.2.2.2.2.2.1,v.2.2.2.2.2.2.1,v.2.2.2.2.2.2.2.1++g,()))else none else none else let h:=set (replicate 1 (zero (Ty.flt .f32))) 0 0;bif a0D (length v.2.2.2.2.2.2.2.1+length h) then f ((((),(),(),v.1.2.2.2.1,v.1.2.2.2.2.1,(),wrap .i64 (v.1.2.2.2.2.2.2.1+1),()),d.2.1,((),(),(),()),((),(),(),()),v.2.2.2.2.1,v.2.2.2.2.2.1,v.2.2.2.2.2.2.1,v.2.2.2.2.2.2.2.1++h,()))else none else bif fgt .f32 v.1.2.2.2.1 1084227584 then bif c (((),40,()),d.2) then let l:=a (((),40,()),d.2);let i:=set (replicate 1 (zero (Ty.flt .f32))) 0 (a0g .add .f32 (a0g .quo .f32 (nearest .f32 (wrap .i64 (8+b.1.1))) 1098907648) (a0g .quo .f32 (nearest .f32 l.1.1) 1098907648));bif a0D (length v.2.2.2.2.2.2.2.1+length i) then f ((((),(),(),v.1.2.2.2.1,v.1.2.2.2.2.1,(),wrap .i64 (v.1.2.2.2.2.2.2.1+1),()),l.2.1,((),(),(),()),((),(),(),()),v.2.2.2.2.1,v.2.2.2.2.2.1,v.2.2.2.2.2.2.1,v.2.2.2.2.2.2.2.1++i,()))else none else none else let m:=set (replicate 1 (zero (Ty.flt .f32))) 0 (a0g .quo .f32 (nearest .f32 (wrap .i64 (8+b.1.1))) 1098907648);bif a0D (length v.2.2.2.2.2.2.2.1+length m) then f ((((),(),(),v.1.2.2.2.1,v.1.2.2.2.2.1,(),wrap .i64 (v.1.2.2.2.2.2.2.1+1),()),d.2.1,((),(),(),()),((),(),(),()),v.2.2.2.2.1,v.2.2.2.2.2.1,v.2.2.2.2.2.2.1,v.2.2.2.2.2.2.2.1++m,()))else none else none else bif fgt .f32 v.1.2.2.2.1 1084227584 then let b:=a (((),57,()),v.2.1,());bif c (((),40,()),b.2) then let e:=a (((),40,()),b.2);let g:=set (replicate 1 (zero (Ty.flt .f32))) 0 (a0g .add .f32 (a0g .quo .f32 (nearest .f32 (wrap .i64 (8+b.1.1))) 1098907648) (a0g .quo .f32 (nearest .f32 e.1.1) 1098907648));bif a0D (length v.2.2.2.2.2.2.2.1+length g) then f ((((),(),(),v.1.2.2.2.1,v.1.2.2.2.2.1,(),wrap .i64 (v.1.2.2.2.2.2.2.1+1),()),e.2.1,((),(),(),()),((),(),(),()),v.2.2.2.2.1,v.2.2.2.2.2.1,v.2.2.2.2.2.2.1,v.2.2.2.2.2.2.2.1++g,()))else none else none else let b:=a (((),57,()),v.2.1,());let h:=set (replicate 1 (zero (Ty.flt .f32))) 0 (a0g .quo .f32 (nearest .f32 (wrap .i64 (8+b.1.1))) 1098907648);bif a0D (length v.2.2.2.2.2.2.2.1+length h) then f ((((),(),(),v.1.2.2.2.1,v.1.2.2.2.2.1,(),wrap .i64 (v.1.2.2.2.2.2.2.1+1),()),b.2.1,((),(),(),()),((),(),(),()),v.2.2.2.2.1,v.2.2.2.2.2.1,v.2.2.2.2.2.2.1,v.2.2.2.2.2.2.2.1++h,()))else none else none else some (((),(),(),v.1.2.2.2.1,v.1.2.2.2.2.1,List.map (fun x=>()) v.2.2.2.2.2.2.2.1,()),v.2.1,((),(),(),()),((),(),(),()),v.2.2.2.2.1,v.2.2.2.2.2.1,v.2.2.2.2.2.2.1,())
theorem c8J (a b c d j k e g h i f v) :EBk (c6r a b c d j k e g h i) c1x (a0z [0,2,3,6,7,8,9] [] 4 [0,2,3,6,7,8] [.jnk 8] (atS a7R f) (a4X a8P)) (mkS a7R v)=b0l a b c d f v:=by kernel_rfl
def b7H (v:a2D):Nat:=v.1.2.2.2.2.1.natAbs+v.1.2.2.2.2.2.2.1.natAbs+v.2.1.1.length+v.2.1.2.1.natAbs+v.2.1.2.2.1.natAbs+v.2.2.2.2.1.length+v.2.2.2.2.2.1.length+v.2.2.2.2.2.2.1.length+v.2.2.2.2.2.2.2.1.length+1000
def b0m (v:a2D):Option (a6g):=a1t (b0l K34 G34 K77 G77) (b7H v) v
def a3E (v:a2D):Bool:=(b0m v).isSome
def a1D (v:a2D):a6g:=(b0m v).getD (((),((),((),(0,(0,([],())))))),(([],(0,(0,()))),(((),((),((),()))),(((),((),((),()))),([],([],([],())))))))
def b0n (d:KI I34) (e:GI I34 O34) (l:KI I77) (m:GI I77 O77) (b:a2D->Bool) (c:a2D->a6g) (f:a3q->Option (a7Q)) (v:a3q):Option (a7Q):=bif decide (v.1.2.2.2.2.1>0) then let g:=zero (Ty.flt .f32);let h:=set (replicate 1 g) 0 v.1.2.2.2.1;bif a0D (length v.2.2.2.2.1+length h) then let n:=v.2.2.2.2.1++h;let i:=(((),(),(),v.1.2.2.2.1,v.1.2.2.2.2.1,(),0,()),v.2.1,((),(),(),()),((),(),(),()),n,v.2.2.2.2.2.1,v.2.2.2.2.2.2.1,replicate 0 g,());bif b i then let a:=c i;let j:=set (replicate 1 (zero (Ty.slice Ty.jnk))) 0 a.1.2.2.2.2.2.1;bif a0D (length a.2.2.2.2.2.2.1+length j) then bif d (((),40,()),a.2.1,()) then let k:=e (((),40,()),a.2.1,());f ((((),(),(),a0g .add .f32 a.1.2.2.2.1 (a0g .quo .f32 (nearest .f32 (wrap .i64 (1+k.1.1))) 1090519040),wrap .i64 (a.1.2.2.2.2.1-1),()),k.2.1,((),(),(),()),((),(),(),()),a.2.2.2.2.1,a.2.2.2.2.2.1,a.2.2.2.2.2.2.1++j,()))else none else none else none else none else some (((),(),()),v.2.1,((),(),(),()),((),(),(),()),v.2.2.2.2)
theorem c8K (c d e g j k h i a b f v) :EBk (c6r c d e g j k h i a b) c1w (a0z [0,2,3,6,7] [.boxNil 3 0,.boxNil 3 2] 2 [2,3] [] (atS a7P f) (a4X a8O)) (mkS a7P v)=b0n c d e g a b f v:=by kernel_rfl
def b7I (v:a3q):Nat:=v.1.2.2.2.2.1.natAbs+v.2.1.1.length+v.2.1.2.1.natAbs+v.2.1.2.2.1.natAbs+v.2.2.2.2.1.length+v.2.2.2.2.2.1.length+v.2.2.2.2.2.2.1.length+1000
def b0o (v:a3q):Option (a7Q):=a1t (b0n K34 G34 K77 G77 a3E a1D) (b7I v) v
def a4q (v:a3q):Bool:=(b0o v).isSome
def a1Z (v:a3q):a7Q:=(b0o v).getD (((),((),())),(([],(0,(0,()))),(((),((),((),()))),(((),((),((),()))),([],([],([],())))))))
def b7J (a:KI I34) (b:GI I34 O34) (e:KI I77) (g:GI I77 O77) (f:a4O->Option (b1M)) (v:a4O):Option (b1M):=bif decide (v.1.2.2.2.1>0) then bif decide (v.1.2.2.2.1<180) then bif decide ((length v.2.2.2.2.1:Int)<20) then let c:=set (replicate 1 (zero (Ty.int IntKind.i64))) 0 v.1.2.2.2.1;bif a0D (length v.2.2.2.2.1+length c) then bif a (((),50,()),v.2.1,()) then let d:=b (((),50,()),v.2.1,());f ((((),(),(),wrap .i64 ((wrap .i64 (v.1.2.2.2.1+5))+d.1.1),()),d.2.1,((),(),(),()),((),(),(),()),v.2.2.2.2.1++c,()))else none else none else some (((),(),(),()),v.2.1,((),(),(),()),((),(),(),()),v.2.2.2.2)else some (((),(),(),()),v.2.1,((),(),(),()),((),(),(),()),v.2.2.2.2)else some (((),(),(),()),v.2.1,((),(),(),()),((),(),(),()),v.2.2.2.2)
theorem d4z (a b c d j k e g h i f v) :EBk (c6r a b c d j k e g h i) c6s (a0z [0,2,3,5] [] 0 [0,2,3] [] (atS b0k f) (a4X b1N)) (mkS b0k v)=b7J a b c d f v:=by kernel_rfl
def c3C (v:a4O):Nat:=v.1.2.2.2.1.natAbs+v.2.1.1.length+v.2.1.2.1.natAbs+v.2.1.2.2.1.natAbs+v.2.2.2.2.1.length+1000
def b7K (v:a4O):Option (b1M):=a1t (b7J K34 G34 K77 G77) (c3C v) v
def a6h (v:a4O):Bool:=(b7K v).isSome
def a2O (v:a4O):b1M:=(b7K v).getD (((),((),((),()))),(([],(0,(0,()))),(((),((),((),()))),(((),((),((),()))),([],())))))
def e6X (a:KI I34) (b:GI I34 O34) (p:KI I77) (q:GI I77 O77) (k:a4O->Bool) (l:a4O->b1M) (e:a3q->Bool) (g:a3q->a7Q) (z:a2D->Bool) (A:a2D->a6g) (x:a6s.den):Option (b1L.den):=bif a (((),25,()),x.2) then let r:=b (((),25,()),x.2);bif p (((),6,()),r.2) then let s:=q (((),6,()),r.2);bif s.1.1 then let B:=replicate 1 (zero (Ty.int IntKind.i64));let t:=set B 0 0;let D:=(((),(),(),0,()),s.2.1,((),(),(),()),((),(),(),()),t,());bif k D then let o:=l D;let h:=set B 0 180;bif a0D (length o.2.2.2.2.1+length h) then bif a (((),4,()),o.2.1,()) then let u:=b (((),4,()),o.2.1,());bif a (((),4,()),u.2) then let w:=wrap .i64 (1+u.1.1);let c:=b (((),4,()),u.2);let d:=wrap .i64 (1+c.1.1);let i:=o.2.2.2.2.1++h;let E:=(((),(),(),nearest .f32 w,d,()),c.2.1,((),(),(),()),((),(),(),()),[],i,[],());bif e E then let m:=g E;some ((((),(),(),()),()),m.2.1,m.2.2.2.2)else none else none else none else none else none else let t:=wrap .i64 (20+r.1.1);let F:=replicate 1 (zero (Ty.int IntKind.i64));let J:=set F 0 0;let G:=(((),(),(),t,()),s.2.1,((),(),(),()),((),(),(),()),J,());bif k G then let h:=l G;let H:=set F 0 180;bif a0D (length h.2.2.2.2.1+length H) then bif a (((),4,()),h.2.1,()) then let j:=b (((),4,()),h.2.1,());bif a (((),4,()),j.2) then let c:=wrap .i64 (1+j.1.1);let d:=b (((),4,()),j.2);let i:=wrap .i64 (1+d.1.1);let y:=h.2.2.2.2.1++H;let I:=(((),(),(),nearest .f32 c,i,()),d.2.1,((),(),(),()),((),(),(),()),[],y,[],());bif e I then let n:=g I;some ((((),(),(),()),()),n.2.1,n.2.2.2.2)else none else none else none else none else none else none else none
theorem f3w (e g h i j k a b c d x) :a1W (c6r e g h i j k a b c d) (a0b Tryz.f73) a6s b1L x=e6X e g h i j k a b c d x:=by kernel_rfl
def e0v (x:a6s.den):Option (b1L.den):=e6X K34 G34 K77 G77 a6h a2O a4q a1Z a3E a1D x
def b1O (x:a6s.den):Bool:=(e0v x).isSome
def a7c (x:a6s.den):b1L.den:=(e0v x).getD (a1l b1L)
theorem e6Y:a0k Tryz.prog (73,a0j true a6s b1L b1O a7c):=a1p (a0v mixed d4y a0w (.cons a4M (.cons b2n .nil))) (a1H Tryz.func73 rfl rfl rfl (by kernel_rfl) (a0y (l:=[c6s,c1w,c1x]) (by kernel_rfl) (.cons (a0o rfl (a0q (sh:=b0k) (shX:=b1N) (fun f v=>d4z K34 G34 K77 G77 a6h a2O a4q a1Z a3E a1D f v) c3C (((),((),((),()))),(([],(0,(0,()))),(((),((),((),()))),(((),((),((),()))),([],()))))))) (.cons (a0o rfl (a0q (sh:=a7P) (shX:=a8O) (fun f v=>c8K K34 G34 K77 G77 a6h a2O a4q a1Z a3E a1D f v) b7I (((),((),())),(([],(0,(0,()))),(((),((),((),()))),(((),((),((),()))),([],([],([],()))))))))) (.cons (a0o rfl (a0q (sh:=a7R) (shX:=a8P) (fun f v=>c8J K34 G34 K77 G77 a6h a2O a4q a1Z a3E a1D f v) b7H (((),((),((),(0,(0,([],())))))),(([],(0,(0,()))),(((),((),((),()))),(((),((),((),()))),([],([],([],()))))))))) (.nil)))))) true fun x=>f3w K34 G34 K77 G77 a6h a2O a4q a1Z a3E a1D x
abbrev I78:Sg:=⟨[.ptr 0],[.box (a2X)]⟩
abbrev O78:Sg:=⟨[.val (.cons (.slice (.flt .f32)) (.cons (.slice (.int .i64)) (.cons (.slice (.slice .jnk)) (.nil))))],[.box (a2X)]⟩
abbrev a7S:Type:=((Unit×(Unit×(Unit×Unit)))×(((List (Den (.int .u8)))×(Int×(Int×Unit)))×((Unit×(Unit×(Unit×Unit)))×((Unit×(Unit×(Unit×Unit)))×((List (Den (.flt .f32)))×((List (Den (.int .i64)))×((List (Den (.slice (.jnk))))×Unit)))))))
def b7L:ShS:=⟨[(0,.one (.ptr 0 0)),(2,.one (.ptr 1 0)),(3,.one (.ptr 2 0))],[(0,.box [.sl (.int .u8),.int .i64,.int .i64]),(1,.box [.nil (.flt .f32),.nil (.int .i64),.nil (.slice (.jnk))]),(2,.box [.ref (.flt .f32) 3,.ref (.int .i64) 4,.ref (.slice (.jnk)) 5]),(3,.arr (.flt .f32)),(4,.arr (.int .i64)),(5,.arr (.slice (.jnk)))],6,1⟩
abbrev c1y:Type:=((Unit×(Unit×Unit))×(((List (Den (.int .u8)))×(Int×(Int×Unit)))×((Unit×(Unit×(Unit×Unit)))×((Unit×(Unit×(Unit×Unit)))×((List (Den (.flt .f32)))×((List (Den (.int .i64)))×((List (Den (.slice (.jnk))))×Unit)))))))
def b7M:ShS:=⟨[(2,.one (.ptr 1 0)),(3,.one (.ptr 2 0))],[(0,.box [.sl (.int .u8),.int .i64,.int .i64]),(1,.box [.nil (.flt .f32),.nil (.int .i64),.nil (.slice (.jnk))]),(2,.box [.ref (.flt .f32) 3,.ref (.int .i64) 4,.ref (.slice (.jnk)) 5]),(3,.arr (.flt .f32)),(4,.arr (.int .i64)),(5,.arr (.slice (.jnk)))],6,1⟩
abbrev a7T:Type:=((Unit×(Unit×(Int×(Int×(Int×Unit)))))×(((List (Den (.int .u8)))×(Int×(Int×Unit)))×((Unit×(Unit×(Unit×Unit)))×((Unit×(Unit×(Unit×Unit)))×((List (Den (.flt .f32)))×((List (Den (.int .i64)))×((List (Den (.slice (.jnk))))×Unit)))))))
def b7N:ShS:=⟨[(2,.one (.ptr 1 0)),(3,.one (.ptr 2 0)),(4,.one (.int .i64)),(117,.one (.int .i64)),(118,.one (.int .i64))],[(0,.box [.sl (.int .u8),.int .i64,.int .i64]),(1,.box [.nil (.flt .f32),.nil (.int .i64),.nil (.slice (.jnk))]),(2,.box [.ref (.flt .f32) 3,.ref (.int .i64) 4,.ref (.slice (.jnk)) 5]),(3,.arr (.flt .f32)),(4,.arr (.int .i64)),(5,.arr (.slice (.jnk)))],6,1⟩
abbrev c1z:Type:=((Unit×(Unit×Unit))×(((List (Den (.int .u8)))×(Int×(Int×Unit)))×((Unit×(Unit×(Unit×Unit)))×((Unit×(Unit×(Unit×Unit)))×((List (Den (.flt .f32)))×((List (Den (.int .i64)))×((List (Den (.slice (.jnk))))×Unit)))))))
def b7O:ShS:=⟨[(2,.one (.ptr 1 0)),(3,.one (.ptr 2 0))],[(0,.box [.sl (.int .u8),.int .i64,.int .i64]),(1,.box [.nil (.flt .f32),.nil (.int .i64),.nil (.slice (.jnk))]),(2,.box [.ref (.flt .f32) 3,.ref (.int .i64) 4,.ref (.slice (.jnk)) 5]),(3,.arr (.flt .f32)),(4,.arr (.int .i64)),(5,.arr (.slice (.jnk)))],6,1⟩
noncomputable def e9h (a b l m c d e g h i j k) :=a0m g3o eqs [(73,a0j true a6s b1L a b),(34,a0j true I34 O34 l m),(141,a0j true a2s a3J c d),(142,a0j true a6D b5G e g)] 130 [.cell 2 28] [] [] [(18,a1Q [0,2,3] [] 1 [2,3] [] b7L b7M h i),(25,a1Q [2,3,4,117,118] [] 3 [2,3] [] b7N b7O j k)] [] [.frzBox 2]
noncomputable def d4A:Code:=(a0p (a0b Tryz.f78)).getD 0 .skip
noncomputable def d4B:Code:=(a0p (a0b Tryz.f78)).getD 1 .skip
def c6t (a:KI a6s) (b:GI a6s b1L) (h:KI I34) (i:GI I34 O34) (c:KI a2s) (d:GI a2s a3J) (e:KI a6D) (g:GI a6D b5G) (f:a7T->Option (c1z)) (v:a7T):Option (c1z):=bif decide (v.1.2.2.2.2.1<v.1.2.2.2.1) then bif decide (0<=v.1.2.2.1)&&decide (v.1.2.2.1<(length v.2.2.2.2.2.2.1:Int)) then bif decide (0<=v.1.2.2.2.2.1)&&decide (v.1.2.2.2.2.1<(↑(length (getD v.2.2.2.2.2.2.1 (toNat v.1.2.2.1) (zero (Ty.slice Ty.jnk)))):Int)) then f ((((),(),v.1.2.2.1,v.1.2.2.2.1,wrap .i64 (v.1.2.2.2.2.1+1),()),v.2.1,((),(),(),()),((),(),(),()),v.2.2.2.2))else none else none else some (((),(),()),v.2.1,((),(),(),()),((),(),(),()),v.2.2.2.2)
theorem e0w (a b h i c d e g j k l m f v) :EBk (e9h a b h i c d e g j k l m) d4B (a0z [2,3,4,117,118] [] 3 [2,3] [] (atS b7N f) (a4X b7O)) (mkS b7N v)=c6t a b h i c d e g f v:=by kernel_rfl
def d4C (v:a7T):Nat:=v.1.2.2.1.natAbs+v.1.2.2.2.1.natAbs+v.1.2.2.2.2.1.natAbs+v.2.1.1.length+v.2.1.2.1.natAbs+v.2.1.2.2.1.natAbs+v.2.2.2.2.1.length+v.2.2.2.2.2.1.length+v.2.2.2.2.2.2.1.length+1000
def c6u (v:a7T):Option (c1z):=a1t (c6t b1O a7c K34 G34 b0e b0f a8i a8j) (d4C v) v
def b1P (v:a7T):Bool:=(c6u v).isSome
def a7d (v:a7T):c1z:=(c6u v).getD (((),((),())),(([],(0,(0,()))),(((),((),((),()))),(((),((),((),()))),([],([],([],())))))))
def c6v (a:KI a6s) (b:GI a6s b1L) (c:KI I34) (d:GI I34 O34) (i:KI a2s) (j:GI a2s a3J) (k:KI a6D) (l:GI a6D b5G) (f:a7S->Option (c1y)) (v:a7S):Option (c1y):=bif c (((),2,()),v.2.1,()) then let e:=d (((),2,()),v.2.1,());let g:=(length v.2.2.2.2.1:Int);bif decide (g<(wrap .i64 (12+e.1.1))) then let h:=wrap .i64 (g-1);bif decide (0<=h)&&decide (h<g) then let m:=zero (Ty.flt .f32);let n:=set (replicate 1 m) 0 (a0g .add .f32 (getD v.2.2.2.2.1 (toNat h) m) 1065353216);bif a0D (length v.2.2.2.2.1+length n) then bif decide (0<=0)&&decide (0<(length v.2.2.2.2.2.2.1:Int)) then let o:=set (replicate 1 (zero (Ty.slice Ty.jnk))) 0 (getD v.2.2.2.2.2.2.1 (toNat 0) (zero (Ty.slice Ty.jnk)));bif a0D (length v.2.2.2.2.2.2.1+length o) then f ((((),(),(),()),e.2.1,((),(),(),()),((),(),(),()),v.2.2.2.2.1++n,v.2.2.2.2.2.1,v.2.2.2.2.2.2.1++o,()))else none else none else none else none else some (((),(),()),e.2.1,((),(),(),()),((),(),(),()),v.2.2.2.2)else none
theorem e0x (a b h i c d e g j k l m f v) :EBk (e9h a b h i c d e g j k l m) d4A (a0z [0,2,3] [] 1 [2,3] [] (atS b7L f) (a4X b7M)) (mkS b7L v)=c6v a b h i c d e g f v:=by kernel_rfl
def d4D (v:a7S):Nat:=v.2.1.1.length+v.2.1.2.1.natAbs+v.2.1.2.2.1.natAbs+v.2.2.2.2.1.length+v.2.2.2.2.2.1.length+v.2.2.2.2.2.2.1.length+1000
def c6w (v:a7S):Option (c1y):=a1t (c6v b1O a7c K34 G34 b0e b0f a8i a8j) (d4D v) v
def b1Q (v:a7S):Bool:=(c6w v).isSome
def a4P (v:a7S):c1y:=(c6w v).getD (((),((),())),(([],(0,(0,()))),(((),((),((),()))),(((),((),((),()))),([],([],([],())))))))
theorem f3x:a1F Tryz.prog (e9h b1O a7c K34 G34 b0e b0f a8i a8j b1Q a4P b1P a7d):=a0v mixed d4y a0w (.cons e6Y (.cons a4M (.cons d2g (.cons d2j .nil))))
theorem g4L:a6z Tryz.prog 78 (e9h b1O a7c K34 G34 b0e b0f a8i a8j b1Q a4P b1P a7d) (a0b Tryz.f78):=a1H Tryz.func78 rfl rfl rfl (by kernel_rfl) (a0y (l:=[d4A,d4B]) (by kernel_rfl) (.cons (a0o rfl (a0q (sh:=b7L) (shX:=b7M) (fun f v=>e0x b1O a7c K34 G34 b0e b0f a8i a8j b1Q a4P b1P a7d f v) d4D (((),((),())),(([],(0,(0,()))),(((),((),((),()))),(((),((),((),()))),([],([],([],()))))))))) (.cons (a0o rfl (a0q (sh:=b7N) (shX:=b7O) (fun f v=>e0w b1O a7c K34 G34 b0e b0f a8i a8j b1Q a4P b1P a7d f v) d4C (((),((),())),(([],(0,(0,()))),(((),((),((),()))),(((),((),((),()))),([],([],([],()))))))))) (.nil))))
noncomputable def N78 (p141:KI a2s) (Q141:QI a2s a3J) (e141:Nonempty (Ch a2s a3J p141 Q141)):a9F:=mkN [(141,a3B true a2s a3J p141 Q141 e141)] []
noncomputable def g4M (g:KI a6s) (i:GI a6s b1L) (j:KI I34) (k:GI I34 O34) (z:KI a2s) (A:GI a2s a3J) (l:KI a6D) (m:GI a6D b5G) (n:a7S->Bool) (o:a7S->c1y) (p:a7T->Bool) (q:a7T->c1z) (p141:KI a2s) (Q141:QI a2s a3J) (e141:Nonempty (Ch a2s a3J p141 Q141)) (h:O78.den->Option Unit) (x:I78.den):Option Unit:=bif g (((),()),x.2) then let a:=i (((),()),x.2);let w:=(length a.2.2.1:Int);bif j (((),w,()),a.2.1,()) then let c:=k (((),w,()),a.2.1,());let y:=(length a.2.2.2.1:Int);bif j (((),y,()),c.2) then let d:=k (((),y,()),c.2);bif j (((),24,()),d.2) then let b:=k (((),24,()),d.2);bif b.1.1==0 then a3z fun(c141_12:Ch a2s a3J p141 Q141)=>bif p141 (((),120,()),b.2) then bif decide (0<=c.1.1)&&decide (c.1.1<w) then let e:=c141_12.val (((),120,()),b.2);h ((((set a.2.2.1 (toNat c.1.1) e.1.1,a.2.2.2),()),e.2))else none else none else bif b.1.1==1 then bif l (((),()),b.2) then bif decide (0<=d.1.1)&&decide (d.1.1<y) then let e:=m (((),()),b.2);h ((((a.2.2.1,set a.2.2.2.1 (toNat d.1.1) e.1.1,a.2.2.2.2),()),e.2))else none else none else bif b.1.1==2 then a3z fun(c141_16:Ch a2s a3J p141 Q141)=>bif decide (0<=c.1.1)&&decide (c.1.1<(length a.2.2.2.2.1:Int)) then bif p141 (((),60,()),b.2) then bif decide (0<=d.1.1)&&decide (d.1.1<(↑(length (getD a.2.2.2.2.1 (toNat c.1.1) (zero (Ty.slice Ty.jnk)))):Int)) then h (((a.2.2,()),(c141_16.val (((),60,()),b.2)).2))else none else none else none else bif b.1.1==3 then let B:=decide (0<=c.1.1)&&decide (c.1.1<(length a.2.2.2.2.1:Int));bif B then let s:=getD a.2.2.2.2.1 (toNat c.1.1) (zero (Ty.slice Ty.jnk));let t:=(length s:Int);bif decide (0<=1)&&decide (1<=t)&&decide (t<=t) then bif B then h ((((a.2.2.1,a.2.2.2.1,set a.2.2.2.2.1 (toNat c.1.1) (List.drop (toNat 1) (List.take (toNat t) s)),()),()),b.2))else none else none else none else bif b.1.1==4 then let u:=(length a.2.2.2.2.1:Int);bif decide (0<=1)&&decide (1<=u)&&decide (u<=u) then h ((((a.2.2.1,a.2.2.2.1,List.drop (toNat 1) (List.take (toNat u) a.2.2.2.2.1),()),()),b.2))else none else bif b.1.1==5 then h (((([],[],[],()),()),b.2))else bif b.1.1==6 then let D:=(((),(),(),()),b.2.1,((),(),(),()),((),(),(),()),a.2.2);bif n D then let e:=o D;h (((e.2.2.2.2,()),e.2.1,()))else none else bif b.1.1==7 then bif decide (0<=c.1.1)&&decide (c.1.1<(length a.2.2.2.2.1:Int)) then bif decide (0<=d.1.1)&&decide (d.1.1<(↑(length (getD a.2.2.2.2.1 (toNat c.1.1) (zero (Ty.slice Ty.jnk)))):Int)) then h (((a.2.2,()),b.2))else none else none else bif b.1.1==8 then bif decide (0<=c.1.1)&&decide (c.1.1<(length a.2.2.2.2.1:Int)) then let s:=getD a.2.2.2.2.1 (toNat c.1.1) (zero (Ty.slice Ty.jnk));let E:=(((),(),c.1.1,(length s:Int),0,()),b.2.1,((),(),(),()),((),(),(),()),a.2.2);bif p E then let r:=q E;h (((r.2.2.2.2,()),r.2.1,()))else none else none else h (((a.2.2,()),b.2))else none else none else none else none
theorem g3p (a b m n c d e g i j k l p141 Q141 e141 h x) :a3A (e9h a b m n c d e g i j k l) (N78 p141 Q141 e141) (a0b Tryz.f78) I78 O78 h x=g4M a b m n c d e g i j k l p141 Q141 e141 h x:=by kernel_rfl
theorem e0y (v:a2D) (hc:a0h v.2.1) (hk:v.1.2.2.2.2.2.2.1=0) (hr:v.2.2.2.2.2.2.2.1=[]) (ha:v.2.2.2.2.2.1.length<=30) :
 Pst (b0m v) fun y=>a0h y.2.1 /\ y.1.2.2.2.2.1=v.1.2.2.2.2.1 /\ y.2.2.2.2.1=v.2.2.2.2.1 /\ y.2.2.2.2.2.1=v.2.2.2.2.2.1 /\ y.2.2.2.2.2.2.1=v.2.2.2.2.2.2.1 /\ y.1.2.2.2.2.2.1.length=v.2.2.2.2.2.1.length:=by
 unfold b0m;refine a0V (q:=b0l K34 G34 K77 G77)
  (fun u=>a0h u.2.1 /\ u.1.2.2.2.2.1=v.1.2.2.2.2.1 /\ u.2.2.2.2.1=v.2.2.2.2.1 /\ u.2.2.2.2.2.1=v.2.2.2.2.2.1 /\ u.2.2.2.2.2.2.1=v.2.2.2.2.2.2.1 /\ 0<=(u.1.2.2.2.2.2.2.1:Int) /\ (u.1.2.2.2.2.2.2.1:Int)<=(v.2.2.2.2.2.1.length:Int) /\ (u.2.2.2.2.2.2.2.1.length:Int)=u.1.2.2.2.2.2.2.1)
  (fun _ r=>Pst r fun y=>a0h y.2.1 /\ y.1.2.2.2.2.1=v.1.2.2.2.2.1 /\ y.2.2.2.2.1=v.2.2.2.2.1 /\ y.2.2.2.2.2.1=v.2.2.2.2.2.1 /\ y.2.2.2.2.2.2.1=v.2.2.2.2.2.2.1 /\ y.1.2.2.2.2.2.1.length=v.2.2.2.2.2.1.length)
  (fun u=>(30-(u.1.2.2.2.2.2.2.1:Int)).toNat) ?_ _ _ ⟨hc,rfl,rfl,rfl,rfl,by rw[hk];exact Int.le_refl 0,by rw[hk];exact Int.natCast_nonneg _,by rw[hr,hk];rfl⟩ (by unfold b7H;omega)
 clear hk hr hc;rintro⟨⟨_,_,_,w,n,_,i,_⟩,⟨c0,c1,c2,_⟩,_,_,ws,as_,sp,row,_⟩ f ⟨g0,g1,g2,g3,g4,g5,g6,g7⟩ ih;dsimp only at g0 g1 g2 g3 g4 g5 g6 g7 ih;subst g1 g2 g4;have ea:as_.length=v.2.2.2.2.2.1.length:=by rw[g3]
 unfold b0l;dsimp only;by_cases hk:i<(as_.length:Int)
 ·refine a0n (by simpa using hk) ?_;have e:IntKind.i64.wrap (i+1)=i+1:=w64 (by omega) (by omega);rw[e];have fin:∀(x:Nat) (c:List Int×Int×Int×Unit),a0h c->Pst (bif (a0D (length row+length (set (replicate 1 (zero (Ty.flt FloatKind.f32))) 0 x)))then f (((),((),((),((w),((v.1.2.2.2.2.1),((),((i+1),()))))))),(((c.1),((c.2.1),((c.2.2.1),()))),(((),((),((),()))),(((),((),((),()))),((v.2.2.2.2.1),((as_),((v.2.2.2.2.2.2.1),((row++set (replicate 1 (zero (Ty.flt FloatKind.f32))) 0 x),()))))))))else none)
   fun y=>a0h y.2.1 /\ y.1.2.2.2.2.1=v.1.2.2.2.2.1 /\ y.2.2.2.2.1=v.2.2.2.2.1 /\ y.2.2.2.2.2.1=v.2.2.2.2.2.1 /\ y.2.2.2.2.2.2.1=v.2.2.2.2.2.2.1 /\ y.1.2.2.2.2.2.1.length=v.2.2.2.2.2.1.length:=by
   intro x c h;refine a0n (a0K (by simp only[length_set,length_replicate];omega)) ?_;refine ih _ ⟨h,rfl,rfl,g3,rfl,?_,?_,?_⟩ ?_<;>simp only[length_append,length_set,length_replicate]<;>omega
  refine a0n (a0C _ (by(repeat ((try dsimp only);first|assumption|(with_reducible first|apply a0c|apply a0i|apply a0e|apply a0d|apply a0f))))) ?_;refine a1x (fun _=>?_) (fun _=>?_)
  ·refine a0n (a2i _ (by(repeat ((try dsimp only);first|assumption|(with_reducible first|apply a0c|apply a0i|apply a0e|apply a0d|apply a0f))))) ?_;refine a1x (fun _=>?_) (fun _=>?_)
   ·refine a1x (fun _=>?_) (fun _=>?_)
    ·refine a0n (a0C _ (by(repeat ((try dsimp only);first|assumption|(with_reducible first|apply a0c|apply a0i|apply a0e|apply a0d|apply a0f))))) ?_;exact fin _ _ (by(repeat ((try dsimp only);first|assumption|(with_reducible first|apply a0c|apply a0i|apply a0e|apply a0d|apply a0f))))
    ·exact fin _ _ (by(repeat ((try dsimp only);first|assumption|(with_reducible first|apply a0c|apply a0i|apply a0e|apply a0d|apply a0f))))
   ·refine a1x (fun _=>?_) (fun _=>?_)
    ·refine a0n (a0C _ (by(repeat ((try dsimp only);first|assumption|(with_reducible first|apply a0c|apply a0i|apply a0e|apply a0d|apply a0f))))) ?_;exact fin _ _ (by(repeat ((try dsimp only);first|assumption|(with_reducible first|apply a0c|apply a0i|apply a0e|apply a0d|apply a0f))))
    ·exact fin _ _ (by(repeat ((try dsimp only);first|assumption|(with_reducible first|apply a0c|apply a0i|apply a0e|apply a0d|apply a0f))))
  ·refine a1x (fun _=>?_) (fun _=>?_)
   ·refine a0n (a0C _ (by(repeat ((try dsimp only);first|assumption|(with_reducible first|apply a0c|apply a0i|apply a0e|apply a0d|apply a0f))))) ?_;exact fin _ _ (by(repeat ((try dsimp only);first|assumption|(with_reducible first|apply a0c|apply a0i|apply a0e|apply a0d|apply a0f))))
   ·exact fin _ _ (by(repeat ((try dsimp only);first|assumption|(with_reducible first|apply a0c|apply a0i|apply a0e|apply a0d|apply a0f))))
 ·have hd:decide (i<(as_.length:Int))=false:=by simpa using hk
  rw[hd];exact a0s ⟨g0,rfl,rfl,g3,rfl,by show(row.map fun _=>()).length=_;rw[List.length_map];omega⟩
def Rows (n:Nat) (a:Nat) (ws:List Nat) (sp:List (List Unit)):Prop:=ws.length=n /\ sp.length=n /\ ∀r∈sp,r.length=a
theorem d4E (v:a3q) (hc:a0h v.2.1) (hn:0<=(v.1.2.2.2.2.1:Int) /\ (v.1.2.2.2.2.1:Int)<=8) (hw:v.2.2.2.2.1=[]) (hs:v.2.2.2.2.2.2.1=[]) (ha:v.2.2.2.2.2.1.length<=30) :
 Pst (b0o v) fun y=>a0h y.2.1 /\ y.2.2.2.2.2.1=v.2.2.2.2.2.1 /\ Rows (v.1.2.2.2.2.1:Int).toNat v.2.2.2.2.2.1.length y.2.2.2.2.1 y.2.2.2.2.2.2.1:=by
 unfold b0o;refine a0V (q:=b0n K34 G34 K77 G77 a3E a1D)
  (fun u=>a0h u.2.1 /\ u.2.2.2.2.2.1=v.2.2.2.2.2.1 /\ 0<=(u.1.2.2.2.2.1:Int) /\ (u.2.2.2.2.1.length:Int)+u.1.2.2.2.2.1=v.1.2.2.2.2.1 /\ Rows u.2.2.2.2.1.length v.2.2.2.2.2.1.length u.2.2.2.2.1 u.2.2.2.2.2.2.1)
  (fun _ r=>Pst r fun y=>a0h y.2.1 /\ y.2.2.2.2.2.1=v.2.2.2.2.2.1 /\ Rows (v.1.2.2.2.2.1:Int).toNat v.2.2.2.2.2.1.length y.2.2.2.2.1 y.2.2.2.2.2.2.1)
  (fun u=>(u.1.2.2.2.2.1:Int).toNat) ?_ _ _ ⟨hc,rfl,hn.1,by rw[hw];exact Int.zero_add _,by rw[hw,hs];exact⟨rfl,rfl,fun _ h=>by cases h⟩⟩ (by unfold b7I;omega)
 clear hc hw hs;rintro⟨⟨_,_,_,w,n,_⟩,⟨c0,c1,c2,_⟩,_,_,ws,as_,sp,_⟩ f ⟨g0,g1,g2,g3,g4⟩ ih;dsimp only at g0 g1 g2 g3 g4 ih;obtain⟨g4,g5,g6⟩:=g4;have ea:as_.length=v.2.2.2.2.2.1.length:=by rw[g1]
 unfold b0n;dsimp only;by_cases hk:n>0
 ·refine a0n (by simpa using hk) ?_;refine a0n (a0K (by simp only[length_set,length_replicate];omega)) ?_;have hr:=e0y (((),(),(),w,n,(),0,()),(c0,c1,c2,()),((),(),(),()),((),(),(),()),ws++(replicate 1 (zero (Ty.flt FloatKind.f32))).set 0 w,as_,sp,replicate 0 (zero (Ty.flt FloatKind.f32)),()) g0 rfl rfl (by show as_.length<=30;omega);refine a0n (a2K hr) ?_;have hx:=a3f (((),((),((),(0,(0,([],())))))),(([],(0,(0,()))),(((),((),((),()))),(((),((),((),()))),([],([],([],()))))))) hr;change a0h (a1D _).2.1 /\ (a1D _).1.2.2.2.2.1=n /\ (a1D _).2.2.2.2.1=_ /\ (a1D _).2.2.2.2.2.1=as_ /\ (a1D _).2.2.2.2.2.2.1=sp /\ (a1D _).1.2.2.2.2.2.1.length=as_.length at hx;generalize a1D (((),(),(),w,n,(),0,()),(c0,c1,c2,()),((),(),(),()),((),(),(),()),ws++(replicate 1 (zero (Ty.flt FloatKind.f32))).set 0 w,as_,sp,replicate 0 (zero (Ty.flt FloatKind.f32)),())=y at *;obtain⟨⟨_,_,_,w',n',row,_⟩,c',_,_,ws',as',sp',_⟩:=y;dsimp only at hx;obtain⟨h1,h2,h3,h4,h5,h6⟩:=hx;subst h2 h3 h4 h5;refine a0n (a0K (by simp only[length_set,length_replicate];omega)) ?_;refine a0n (a0C _ (by(repeat ((try dsimp only);first|assumption|(with_reducible first|apply a0c|apply a0i|apply a0e|apply a0d|apply a0f))))) ?_;have e:IntKind.i64.wrap (n'-1)=n'-1:=w64 (by omega) (by omega);dsimp only;rw[e];refine ih _ ⟨by(repeat ((try dsimp only);first|assumption|(with_reducible first|apply a0c|apply a0i|apply a0e|apply a0d|apply a0f))),g1,?_,?_,?_,?_,?_⟩ ?_
  ·show 0<=n'-1;omega
  ·simp only[length_append,length_set,length_replicate];omega
  ·rfl
  ·simp only[length_append,length_set,length_replicate];omega
  ·intro r hr;rcases List.mem_append.1 hr with hr|hr
   ·exact g6 r hr
   ·rw[show r=row from List.mem_singleton.1 hr,h6,ea]
  ·show(n'-1).toNat<n'.toNat;omega
 ·have hd:decide (n>0)=false:=by simpa using hk
  rw[hd];refine a0s ⟨g0,g1,?_,?_,g6⟩
  ·show ws.length=_;omega
  ·show sp.length=_;omega
theorem g3q (a b:Int) (h1:a>0) (h2:a<180) (h:0<=b /\ b<50):IntKind.i64.wrap (IntKind.i64.wrap (a+5)+b)<=1000:=by
 rw[w64 (x:=a+5) (by omega) (by omega),w64 (by omega) (by omega)];omega
theorem g3r (b:Int) (h:0<=b /\ b<4):0<=IntKind.i64.wrap (1+b) /\ IntKind.i64.wrap (1+b)<=8 /\ 1<=(IntKind.i64.wrap (1+b)).toNat /\ (IntKind.i64.wrap (1+b)).toNat<=4:=by
 rw[w64 (by omega) (by omega)];omega
theorem g3s (b:Int) (h:0<=b /\ b<25):IntKind.i64.wrap (20+b)<=1000:=by
 rw[w64 (by omega) (by omega)];omega
theorem c3D (v:a4O) (hc:a0h v.2.1) (hn:(v.1.2.2.2.1:Int)<=1000) (hw:v.2.2.2.2.1.length=1) :
 Pst (b7K v) fun y=>a0h y.2.1 /\ 1<=y.2.2.2.2.1.length /\ y.2.2.2.2.1.length<=21:=by
 unfold b7K;refine a0V (q:=b7J K34 G34 K77 G77)
  (fun u=>a0h u.2.1 /\ (u.1.2.2.2.1:Int)<=1000 /\ 1<=u.2.2.2.2.1.length /\ u.2.2.2.2.1.length<=21)
  (fun _ r=>Pst r fun y=>a0h y.2.1 /\ 1<=y.2.2.2.2.1.length /\ y.2.2.2.2.1.length<=21)
  (fun u=>21-u.2.2.2.2.1.length) ?_ _ _ ⟨hc,hn,by omega,by omega⟩ (by unfold c3C;omega)
 rintro⟨⟨_,_,_,a,_⟩,⟨c0,c1,c2,_⟩,_,_,as_,_⟩ f ⟨g0,g1,g2,g3⟩ ih;dsimp only at g0 g1 g2 g3 ih;unfold b7J;dsimp only;refine a1x (fun h1=>?_) (fun _=>a0s ⟨g0,g2,g3⟩);refine a1x (fun h2=>?_) (fun _=>a0s ⟨g0,g2,g3⟩);refine a1x (fun h3=>?_) (fun _=>a0s ⟨g0,g2,g3⟩);have h1:a>0:=by simpa using h1
 have h2:a<180:=by simpa using h2
 have h3 : as_.length < 20 := by have:(as_.length:Int)<20:=by simpa using h3
                                 omega
 refine a0n (a0K (by simp only[length_set,length_replicate];omega)) ?_;refine a0n (a0C _ (by(repeat ((try dsimp only);first|assumption|(with_reducible first|apply a0c|apply a0i|apply a0e|apply a0d|apply a0f))))) ?_;have hb:=a1m 50 (c0,c1,c2,()) g0 (by decide);refine ih _ ⟨by(repeat ((try dsimp only);first|assumption|(with_reducible first|apply a0c|apply a0i|apply a0e|apply a0d|apply a0f))),g3q _ _ h1 h2 hb,?_,?_⟩ ?_
 all_goals simp only[length_append,length_set,length_replicate];omega
def f3y (ws:List Nat) (as_:List Int) (sp:List (List Unit)):Prop:=2<=as_.length /\ as_.length<=22 /\ 1<=ws.length /\ ws.length<=4 /\ Rows ws.length as_.length ws sp
theorem c6x (x:a6s.den) (h:a0h x.2.1):Pst (e0v x) fun y=>a0h y.2.1 /\ f3y y.2.2.1 y.2.2.2.1 y.2.2.2.2.1:=by
 unfold e0v e6X;dsimp only;have a2x:∀(n:Int) (c:List Int×Int×Int×Unit),a0h c->0<n->0<=((G34 (((),n,()),c,())).1.1:Int) /\ ((G34 (((),n,()),c,())).1.1:Int)<n:=fun n c h hn=>a1m n c h hn
 refine a0n (a0C _ (by(repeat ((try dsimp only);first|assumption|(with_reducible first|apply a0c|apply a0i|apply a0e|apply a0d|apply a0f))))) ?_;have b1:0<=((G34 (((),25,()),x.snd)).1.1:Int) /\ ((G34 (((),25,()),x.snd)).1.1:Int)<25:=a2x 25 x.2.1 h (by decide);have c1:a0h (G34 (((),25,()),x.snd)).2.1:=by(repeat ((try dsimp only);first|assumption|(with_reducible first|apply a0c|apply a0i|apply a0e|apply a0d|apply a0f)))
 generalize G34 (((),25,()),x.snd)=A at *;refine a0n (a2i _ (by(repeat ((try dsimp only);first|assumption|(with_reducible first|apply a0c|apply a0i|apply a0e|apply a0d|apply a0f))))) ?_;have c2:a0h (G77 (((),6,()),A.snd)).2.1:=by(repeat ((try dsimp only);first|assumption|(with_reducible first|apply a0c|apply a0i|apply a0e|apply a0d|apply a0f)))
 generalize G77 (((),6,()),A.snd)=B at *;have main:∀a:Int,a<=1000->Pst (
  let v5:=set (replicate 1 (zero (Ty.int IntKind.i64))) 0 0
  let v6:=(a6h (((),(),(),a,()),B.snd.fst,((),(),(),()),((),(),(),()),v5,()))
  bif (v6)then
   let v7:=(a2O (((),(),(),a,()),B.snd.fst,((),(),(),()),((),(),(),()),v5,()))
   let v8:=(set (replicate 1 (zero (Ty.int IntKind.i64))) 0 180)
   bif (a0D (length v7.snd.snd.snd.snd.fst+length v8))then
    let v9:=(K34 (((),4,()),v7.snd.fst,()))
    bif (v9)then
     let v10:=(G34 (((),4,()),v7.snd.fst,()))
     let v11:=(K34 (((),4,()),v10.snd))
     bif (v11)then
      let v12:=(wrap IntKind.i64 (1+v10.fst.fst))
      let v13:=(G34 (((),4,()),v10.snd))
      let v14:=(wrap IntKind.i64 (1+v13.fst.fst))
      let v15:=(v7.snd.snd.snd.snd.fst++v8)
      let v16:=(a4q (((),(),(),nearest FloatKind.f32 v12,v14,()),v13.snd.fst,((),(),(),()),((),(),(),()),[],v15,[],()))
      bif (v16)then
       let v17:=(a1Z (((),(),(),nearest FloatKind.f32 v12,v14,()),v13.snd.fst,((),(),(),()),((),(),(),()),[],v15,[],()))
       (some ((((),((),((),()))),()),(((v17.snd.fst.1),((v17.snd.fst.snd.1),((v17.snd.fst.snd.snd.1),()))),((v17.snd.snd.snd.snd.1),((v17.snd.snd.snd.snd.snd.1),((v17.snd.snd.snd.snd.snd.snd.1),()))))):Option b1L.den)
      else none
     else none
    else none
   else none
  else none) fun y=>a0h y.2.1 /\ f3y y.2.2.1 y.2.2.2.1 y.2.2.2.2.1:=by
  intro a ha;dsimp only;have hr:=c3D (((),(),(),a,()),B.snd.fst,((),(),(),()),((),(),(),()),set (replicate 1 (zero (Ty.int IntKind.i64))) 0 0,()) c2 ha rfl;refine a0n (a2K hr) ?_;have hx:=a3f (((),((),((),()))),(([],(0,(0,()))),(((),((),((),()))),(((),((),((),()))),([],()))))) hr;change a0h (a2O _).2.1 /\ 1<=(a2O _).2.2.2.2.1.length /\ (a2O _).2.2.2.2.1.length<=21 at hx;generalize a2O (((),(),(),a,()),B.snd.fst,((),(),(),()),((),(),(),()),set (replicate 1 (zero (Ty.int IntKind.i64))) 0 0,())=y at *;obtain⟨_,c,_,_,as_,_⟩:=y;dsimp only at hx ⊢;obtain⟨h1,h2,h3⟩:=hx;refine a0n (a0K (by simp only[length_set,length_replicate];omega)) ?_;refine a0n (a0C _ (by(repeat ((try dsimp only);first|assumption|(with_reducible first|apply a0c|apply a0i|apply a0e|apply a0d|apply a0f))))) ?_;have c3:a0h (G34 (((),4,()),c,())).2.1:=by(repeat ((try dsimp only);first|assumption|(with_reducible first|apply a0c|apply a0i|apply a0e|apply a0d|apply a0f)))
  generalize G34 (((),4,()),c,())=D at *;refine a0n (a0C _ (by(repeat ((try dsimp only);first|assumption|(with_reducible first|apply a0c|apply a0i|apply a0e|apply a0d|apply a0f))))) ?_;have b4:0<=((G34 (((),4,()),D.snd)).1.1:Int) /\ ((G34 (((),4,()),D.snd)).1.1:Int)<4:=a2x 4 D.2.1 c3 (by decide);have c4:a0h (G34 (((),4,()),D.snd)).2.1:=by(repeat ((try dsimp only);first|assumption|(with_reducible first|apply a0c|apply a0i|apply a0e|apply a0d|apply a0f)))
  generalize G34 (((),4,()),D.snd)=E at *;have hn:0<=IntKind.i64.wrap (1+E.fst.fst) /\ IntKind.i64.wrap (1+E.fst.fst)<=8 /\ 1<=(IntKind.i64.wrap (1+E.fst.fst)).toNat /\ (IntKind.i64.wrap (1+E.fst.fst)).toNat<=4:=g3r _ b4;generalize IntKind.i64.wrap (1+E.fst.fst)=nn at *;generalize nearest FloatKind.f32 (wrap IntKind.i64 (1+D.fst.fst))=w;have hq:=d4E (((),(),(),w,nn,()),E.snd.fst,((),(),(),()),((),(),(),()),[],as_++set (replicate 1 (zero (Ty.int IntKind.i64))) 0 180,[],()) c4 ⟨hn.1,hn.2.1⟩ rfl rfl (by simp only[length_append,length_set,length_replicate];omega);refine a0n (a2K hq) ?_;have hx:=a3f (((),((),())),(([],(0,(0,()))),(((),((),((),()))),(((),((),((),()))),([],([],([],()))))))) hq;change a0h (a1Z _).2.1 /\ (a1Z _).2.2.2.2.2.1=_ /\ Rows nn.toNat _ (a1Z _).2.2.2.2.1 (a1Z _).2.2.2.2.2.2.1 at hx;generalize a1Z (((),(),(),w,nn,()),E.snd.fst,((),(),(),()),((),(),(),()),[],as_++set (replicate 1 (zero (Ty.int IntKind.i64))) 0 180,[],())=y at *;obtain⟨_,c',_,_,ws',as',sp',_⟩:=y;dsimp only at hx;obtain⟨k1,k2,k3,k4,k5⟩:=hx;subst k2;refine a0s ⟨k1,?_⟩;dsimp only;have el:(as_++set (replicate 1 (zero (Ty.int IntKind.i64))) 0 180).length=as_.length+1:=by simp only[length_append,length_set,length_replicate]
  refine⟨by rw[el];omega,by rw[el];omega,by rw[k3];exact hn.2.2.1,by rw[k3];exact hn.2.2.2,rfl,by rw[k3,k4],k5⟩
 refine a1x (fun _=>?_) (fun _=>?_)
 ·exact main 0 (by decide)
 ·exact main _ (g3s _ b1)
theorem e0z (x:a6s.den) (h:a0h x.2.1):b1O x=true:=a2K (c6x x h)
theorem e0A (x:a6s.den) (h:a0h x.2.1):a0h (a7c x).2.1 /\ f3y (a7c x).2.2.1 (a7c x).2.2.2.1 (a7c x).2.2.2.2.1:=a3f _ (c6x x h)
def d7f (ws:List Nat) (as_:List Int) (sp:List (List Unit)):Prop:=ws.length<=14 /\ as_.length<=22 /\ sp.length<=14 /\ ∀r∈sp,r.length<=22
theorem f3y.some {ws:List Nat} {as_:List Int} {sp:List (List Unit)} (h:f3y ws as_ sp):d7f ws as_ sp:=by
 obtain⟨h1,h2,h3,h4,h5,h6,h7⟩:=h;exact⟨by omega,h2,by omega,fun r hr=>by rw[h7 r hr];exact h2⟩
theorem d7f.nil:d7f [] [] []:=⟨zero_le _,zero_le _,zero_le _,fun _ h=>by cases h⟩
theorem w12 (a:Int) (h:0<=a /\ a<2):12<=IntKind.i64.wrap (12+a) /\ IntKind.i64.wrap (12+a)<=13:=by
 rw[w64 (by omega) (by omega)];omega
theorem g3t (a:Int) (n:Nat) (h:0<=a /\ a<(n:Int)):a.toNat<n:=by omega
theorem d4F (v:a7S) (hc:a0h v.2.1) (hw:1<=v.2.2.2.2.1.length /\ v.2.2.2.2.1.length<=4) (hs:v.2.2.2.2.2.2.1.length=v.2.2.2.2.1.length) (hr:∀r∈v.2.2.2.2.2.2.1,length r<=22) :
 Pst (c6w v) fun y=>a0h y.2.1 /\ y.2.2.2.2.2.1=v.2.2.2.2.2.1 /\ y.2.2.2.2.1.length<=14 /\ y.2.2.2.2.2.2.1.length<=14 /\ ∀r∈y.2.2.2.2.2.2.1,length r<=22:=by
 unfold c6w;refine a0V (q:=c6v b1O a7c K34 G34 b0e b0f a8i a8j)
  (fun u=>a0h u.2.1 /\ u.2.2.2.2.2.1=v.2.2.2.2.2.1 /\ 1<=u.2.2.2.2.1.length /\ u.2.2.2.2.1.length<=13 /\ u.2.2.2.2.2.2.1.length=u.2.2.2.2.1.length /\ ∀r∈u.2.2.2.2.2.2.1,length r<=22)
  (fun _ r=>Pst r fun y=>a0h y.2.1 /\ y.2.2.2.2.2.1=v.2.2.2.2.2.1 /\ y.2.2.2.2.1.length<=14 /\ y.2.2.2.2.2.2.1.length<=14 /\ ∀r∈y.2.2.2.2.2.2.1,length r<=22)
  (fun u=>14-u.2.2.2.2.1.length) ?_ _ _ ⟨hc,rfl,hw.1,by omega,hs,hr⟩ (by unfold d4D;omega)
 clear hc hw hs hr;rintro⟨_,⟨c0,c1,c2,_⟩,_,_,ws,as_,sp,_⟩ f ⟨g0,g1,g2,g3,g4,g5⟩ ih;dsimp only at g0 g1 g2 g3 g4 g5 ih;unfold c6v;dsimp only;refine a0n (a0C _ (by(repeat ((try dsimp only);first|assumption|(with_reducible first|apply a0c|apply a0i|apply a0e|apply a0d|apply a0f))))) ?_;have b1:=w12 _ (a1m 2 (c0,c1,c2,()) g0 (by decide));have c5:a0h (G34 (((),2,()),(c0,c1,c2,()),())).2.1:=by(repeat ((try dsimp only);first|assumption|(with_reducible first|apply a0c|apply a0i|apply a0e|apply a0d|apply a0f)))
 generalize G34 (((),2,()),(c0,c1,c2,()),())=A at *;generalize IntKind.i64.wrap (12+A.fst.fst)=n at *;have e:IntKind.i64.wrap ((ws.length:Int)-1)=((ws.length-1:Nat):Int):=by rw[w64 (by omega) (by omega)];omega
 rw[e];by_cases hk:(ws.length:Int)<n
 ·refine a0n (by simpa using hk) ?_;refine a0n (by simp;omega) ?_;refine a0n (a0K (by simp only[length_set,length_replicate];omega)) ?_;refine a0n (by simp;omega) ?_;refine a0n (a0K (by simp only[length_set,length_replicate];omega)) ?_;have hm:getD sp (toNat 0) (zero (Ty.slice Ty.jnk))∈sp:=by
   have h0:0<sp.length:=by omega
   show sp.getD 0 _∈sp;rw[List.getD_eq_getElem?_getD,List.getElem?_eq_getElem h0];exact List.getElem_mem h0
  refine ih _ ⟨c5,g1,?_,?_,?_,?_⟩ ?_
  ·simp only[length_append,length_set,length_replicate];omega
  ·simp only[length_append,length_set,length_replicate];omega
  ·simp only[length_append,length_set,length_replicate];omega
  ·intro r hr;rcases List.mem_append.1 hr with hr|hr
   ·exact g5 r hr
   ·rw[show r=_ from List.mem_singleton.1 hr];exact g5 _ hm
  ·simp only[length_append,length_set,length_replicate];omega
 ·have hd:decide ((ws.length:Int)<n)=false:=by simpa using hk
  rw[hd];exact a0s ⟨c5,g1,by show ws.length<=14;omega,by show sp.length<=14;omega,g5⟩
theorem d4G (v:a7T) (hc:a0h v.2.1) (hi:0<=(v.1.2.2.1:Int) /\ (v.1.2.2.1:Int)<(v.2.2.2.2.2.2.1.length:Int)) (hn:(v.1.2.2.2.1:Int)=((getD v.2.2.2.2.2.2.1 (v.1.2.2.1:Int).toNat (zero (Ty.slice Ty.jnk))).length:Int)) (hs:(v.1.2.2.2.1:Int)<=22) (hk:v.1.2.2.2.2.1=0) :
 Pst (c6u v) fun y=>a0h y.2.1 /\ y.2.2.2.2=v.2.2.2.2:=by
 unfold c6u;refine a0V (q:=c6t b1O a7c K34 G34 b0e b0f a8i a8j)
  (fun u=>a0h u.2.1 /\ u.2.2.2.2=v.2.2.2.2 /\ u.1.2.2.1=v.1.2.2.1 /\ u.1.2.2.2.1=v.1.2.2.2.1 /\ 0<=(u.1.2.2.2.2.1:Int) /\ (u.1.2.2.2.2.1:Int)<=v.1.2.2.2.1)
  (fun _ r=>Pst r fun y=>a0h y.2.1 /\ y.2.2.2.2=v.2.2.2.2)
  (fun u=>(v.1.2.2.2.1-u.1.2.2.2.2.1:Int).toNat) ?_ _ _ ⟨hc,rfl,rfl,rfl,by rw[hk];exact Int.le_refl 0,by rw[hk,hn];exact Int.natCast_nonneg _⟩ (by rw[hk];unfold d4C;omega)
 clear hc hk;rintro⟨⟨_,_,i,n,k,_⟩,⟨c0,c1,c2,_⟩,_,_,ws,as_,sp,_⟩ f ⟨g0,g1,g2,g3,g4,g5⟩ ih;dsimp only at g0 g1 g2 g3 g4 g5 ih;have es:sp=v.2.2.2.2.2.2.1:=congrArg (·.2.2.1) g1;rw[<- g2,<- es]at hi;rw[<- g2,<- g3,<- es]at hn;rw[<- g3]at hs g5;unfold c6t;dsimp only;by_cases hk:k<n
 ·refine a0n (by simpa using hk) ?_;refine a0n (by simp;omega) ?_;rw[<- hn];refine a0n (by simp;omega) ?_;have e:IntKind.i64.wrap (k+1)=k+1:=w64 (by omega) (by omega);rw[e];refine ih _ ⟨g0,g1,g2,g3,?_,?_⟩ ?_
  ·show 0<=k+1;omega
  ·show k+1<=v.1.2.2.2.1;rw[<- g3];omega
  ·show(v.1.2.2.2.1-(k+1):Int).toNat<(v.1.2.2.2.1-k:Int).toNat;rw[<- g3];omega
 ·have hd:decide (k<n)=false:=by simpa using hk
  rw[hd];exact a0s ⟨g0,g1⟩
def p78 (x:I78.den):Bool:=e0s x.2.1
def Q78 (x:I78.den) (y:O78.den):Prop:=a0h y.2.1 /\ d7f y.1.1.1 y.1.1.2.1 y.1.1.2.2.1
theorem f3z (x:I78.den) (hx:p78 x=true) (k:O78.den->Option Unit) (hk:∀y,Q78 x y->k y=some ()) :
 a3A (e9h b1O a7c K34 G34 b0e b0f a8i a8j b1Q a4P b1P a7d) (N78 p141 Q141 e141) (a0b Tryz.f78) I78 O78 k x=some ():=by
 have hk:∀y:O78.den,a0h y.2.1 /\ d7f y.1.1.1 y.1.1.2.1 y.1.1.2.2.1->k y=some ():=hk;have h:a0h x.2.1:=a1y.1 hx;refine Eq.trans (g3p _ _ _ _ _ _ _ _ _ _ _ _ _ _ _ k x) ?_;unfold g4M;dsimp only
 haveI:=e141
 have a2x:∀(n:Int) (c:List Int×Int×Int×Unit),a0h c->0<n->0<=((G34 (((),n,()),c,())).1.1:Int) /\ ((G34 (((),n,()),c,())).1.1:Int)<n:=fun n c h hn=>a1m n c h hn
 refine a0G (e0z (((),()),x.snd) h) ?_;obtain⟨c1,hP⟩:=e0A (((),()),x.snd) h;generalize a7c (((),()),x.snd)=A at *;obtain⟨_,c,ws,as_,sp,_⟩:=A;dsimp only at c1 hP ⊢;have hL:=hP.some;obtain⟨p1,p2,p3,p4,-,p5,p6⟩:=hP;refine a0G (a0C _ (by(repeat ((try dsimp only);first|assumption|(with_reducible first|apply a0c|apply a0i|apply a0e|apply a0d|apply a0f))))) ?_;have b2:0<=((G34 (((),(ws.length:Int),()),c,())).1.1:Int) /\ ((G34 (((),(ws.length:Int),()),c,())).1.1:Int)<(ws.length:Int):=a2x _ c c1 (by omega);have c2:a0h (G34 (((),(ws.length:Int),()),c,())).2.1:=by(repeat ((try dsimp only);first|assumption|(with_reducible first|apply a0c|apply a0i|apply a0e|apply a0d|apply a0f)))
 generalize G34 (((),(ws.length:Int),()),c,())=B at *;refine a0G (a0C _ (by(repeat ((try dsimp only);first|assumption|(with_reducible first|apply a0c|apply a0i|apply a0e|apply a0d|apply a0f))))) ?_;have b3:0<=((G34 (((),(as_.length:Int),()),B.snd)).1.1:Int) /\ ((G34 (((),(as_.length:Int),()),B.snd)).1.1:Int)<(as_.length:Int):=a2x _ B.2.1 c2 (by omega);have c3:a0h (G34 (((),(as_.length:Int),()),B.snd)).2.1:=by(repeat ((try dsimp only);first|assumption|(with_reducible first|apply a0c|apply a0i|apply a0e|apply a0d|apply a0f)))
 generalize G34 (((),(as_.length:Int),()),B.snd)=C at *;refine a0G (a0C _ (by(repeat ((try dsimp only);first|assumption|(with_reducible first|apply a0c|apply a0i|apply a0e|apply a0d|apply a0f))))) ?_;have c4:a0h (G34 (((),24,()),C.snd)).2.1:=by(repeat ((try dsimp only);first|assumption|(with_reducible first|apply a0c|apply a0i|apply a0e|apply a0d|apply a0f)))
 generalize G34 (((),24,()),C.snd)=D at *;have i1:(decide (0<=(B.fst.fst:Int))&&decide ((B.fst.fst:Int)<(ws.length:Int)))=true:=by simp[b2]
 have i2:(decide (0<=(B.fst.fst:Int))&&decide ((B.fst.fst:Int)<(sp.length:Int)))=true:=by rw[p5];exact i1
 have i3:(decide (0<=(C.fst.fst:Int))&&decide ((C.fst.fst:Int)<(as_.length:Int)))=true:=by simp[b3]
 have hlt:(B.fst.fst:Int).toNat<sp.length:=by
  rw[p5];exact g3t _ _ b2
 have hm:getD sp (toNat B.fst.fst) (zero (Ty.slice Ty.jnk))∈sp:=by
  rw[List.getD_eq_getElem?_getD,List.getElem?_eq_getElem hlt];exact List.getElem_mem hlt
 have hml:(getD sp (toNat B.fst.fst) (zero (Ty.slice Ty.jnk))).length=as_.length:=p6 _ hm;have i4:(decide (0<=(C.fst.fst:Int))&&decide ((C.fst.fst:Int)<((getD sp (toNat B.fst.fst) (zero (Ty.slice Ty.jnk))).length:Int)))=true:=by rw[hml];exact i3
 have hset:∀(i:Nat) (r:List Unit),r.length<=22->d7f ws as_ (sp.set i r):=fun i r hr=>⟨hL.1,hL.2.1,by rw[length_set];exact hL.2.2.1,fun u hu=>by
  rcases List.mem_or_eq_of_mem_set hu with h1|h1
  ·exact hL.2.2.2 u h1
  ·rw[h1];exact hr⟩
 refine a2g (fun _=>?_) (fun _=>?_)
 ·refine a0B fun g=>?_
  have hp:p141 (((),120,()),D.snd)=true:=a1y.2 c4;refine a0G hp ?_;refine a0G i1 ?_;exact hk _ ⟨g.2 _ hp,by show(set ws _ _).length<=14;rw[length_set];exact hL.1,hL.2⟩
 refine a2g (fun _=>?_) (fun _=>?_)
 ·refine a0G (b7F _ (by(repeat ((try dsimp only);first|assumption|(with_reducible first|apply a0c|apply a0i|apply a0e|apply a0d|apply a0f))))) ?_;refine a0G i3 ?_;exact hk _ ⟨by(repeat ((try dsimp only);first|assumption|(with_reducible first|apply a0c|apply a0i|apply a0e|apply a0d|apply a0f))),hL.1,by show(set as_ _ _).length<=22;rw[length_set];exact hL.2.1,hL.2.2⟩
 refine a2g (fun _=>?_) (fun _=>?_)
 ·refine a0B fun g=>?_
  refine a0G i2 ?_;have hp:p141 (((),60,()),D.snd)=true:=a1y.2 c4;refine a0G hp ?_;refine a0G i4 ?_;exact hk _ ⟨g.2 _ hp,hL⟩
 refine a2g (fun _=>?_) (fun _=>?_)
 ·refine a0G i2 ?_;refine a0G (by rw[hml];simp;omega) ?_;refine a0G i2 ?_;refine hk _ ⟨c4,hset _ _ ?_⟩;simp only[List.length_drop,List.length_take];rw[hml];omega
 refine a2g (fun _=>?_) (fun _=>?_)
 ·refine a0G (by simp;omega) ?_;refine hk _ ⟨c4,hL.1,hL.2.1,?_,fun r hr=>?_⟩
  ·simp only[List.length_drop,List.length_take];have:=hL.2.2.1;omega
  ·exact hL.2.2.2 r (List.mem_of_mem_take (List.mem_of_mem_drop hr))
 refine a2g (fun _=>hk _ ⟨c4,d7f.nil⟩) (fun _=>?_);refine a2g (fun _=>?_) (fun _=>?_)
 ·have hr:=d4F (((),(),(),()),D.snd.fst,((),(),(),()),((),(),(),()),ws,as_,sp,()) c4 ⟨p3,p4⟩ p5 hL.2.2.2;refine a0G (a2K hr) ?_;have hx:=a3f (((),((),())),(([],(0,(0,()))),(((),((),((),()))),(((),((),((),()))),([],([],([],()))))))) hr;change a0h (a4P _).2.1 /\ (a4P _).2.2.2.2.2.1=as_ /\ (a4P _).2.2.2.2.1.length<=14 /\ (a4P _).2.2.2.2.2.2.1.length<=14 /\ _ at hx;refine hk _ ⟨hx.1,hx.2.2.1,?_,hx.2.2.2.1,hx.2.2.2.2⟩;refine Nat.le_trans (Nat.le_of_eq ?_) hL.2.1;exact congrArg length hx.2.1
 refine a2g (fun _=>?_) (fun _=>?_)
 ·refine a0G i2 ?_;refine a0G i4 ?_;exact hk _ ⟨c4,hL⟩
 refine a2g (fun _=>?_) (fun _=>hk _ ⟨c4,hL⟩);refine a0G i2 ?_;have hr:=d4G (((),(),B.fst.fst,((getD sp (toNat B.fst.fst) (zero (Ty.slice Ty.jnk))).length:Int),0,()),D.snd.fst,((),(),(),()),((),(),(),()),ws,as_,sp,()) c4
  (by show 0<=(B.fst.fst:Int) /\ (B.fst.fst:Int)<(sp.length:Int);rw[p5];exact b2) rfl (by show((getD sp (toNat B.fst.fst) (zero (Ty.slice Ty.jnk))).length:Int)<=22;rw[hml];omega) rfl
 refine a0G (a2K hr) ?_;have hx:=a3f (((),((),())),(([],(0,(0,()))),(((),((),((),()))),(((),((),((),()))),([],([],([],()))))))) hr;change a0h (a7d _).2.1 /\ (a7d _).2.2.2.2=(ws,as_,sp,())at hx;have e1:=congrArg (·.1) hx.2;have e2:=congrArg (·.2.1) hx.2;have e3:=congrArg (·.2.2.1) hx.2;dsimp only at e1 e2 e3;refine hk _ ⟨hx.1,?_⟩;dsimp only;rw[e1,e2,e3];exact hL
theorem f3A:Nonempty (Ch I78 (unO O78) p78 fun x y=>Q78 x (e9M O78 y)):=⟨⟨fun _=>((([],[],[],()),()),(e3P,())),fun _ _=>⟨a7b,d7f.nil⟩⟩⟩
theorem g3u:a2V Tryz.prog 78 (a3B true I78 (unO O78) p78 (fun x y=>Q78 x (e9M O78 y)) f3A):=
 e9O f3x (N:=N78 p141 Q141 e141) (a2W ⟨d4r,trivial⟩) g4L a1C rfl (fun _=>rfl) (fun _=>rfl) (fun _=>rfl) f3z
abbrev a3F:Sg:=⟨[.ptr 0],[.box (a2X)]⟩
abbrev a4r:Sg:=⟨[.val (S27)],[.box (a2X)]⟩
def d4H (x:a3F.den):Bool:=false
def d4I (x:a3F.den):a4r.den:=a1l a4r
theorem e6Z:a0k Tryz.prog (78,a0j true a3F a4r d4H d4I):=e9I f3x g4L fun x h=>by cases h
def a4s (x:a3F.den):Bool:=e0s x.2.1
def e3T (p:List Nat×List Int×List (List Nat)×Unit):Prop:=p.1.length<=14 /\ p.2.1.length<=22 /\ p.2.2.1.length<=14 /\ ∀r∈p.2.2.1,r.length<=22
def a6t (x:a3F.den) (y:a4r.den):Prop:=a0h y.2.1 /\ e3T y.1.1
theorem b7P:Nonempty (Ch a3F a4r a4s a6t):=⟨⟨fun _=>((([],[],[],()),()),(e3P,())),fun _ _=>⟨a7b,zero_le _,zero_le _,zero_le _,fun _ h=>by cases h⟩⟩⟩
theorem e7a (x:I78.den) (y:a4r.den):Q78 x (e9M O78 y)↔a6t x y:=by
 obtain⟨⟨⟨ws,as_,sp,_⟩,_⟩,c,_⟩:=y;have e2:∀r:List Nat,length (shp (.slice .jnk) r)=r.length:=fun r=>List.length_map _
 show a0h c /\ d7f (List.map (shp (.flt .f32)) ws) (List.map (shp (.int .i64)) as_) (List.map (shp (.slice .jnk)) sp)↔a0h c /\ (ws.length<=14 /\ as_.length<=22 /\ sp.length<=14 /\ ∀r∈sp,r.length<=22);unfold d7f;simp only[List.length_map,List.mem_map,forall_exists_index,and_imp,forall_apply_eq_imp_iff₂,e2]
theorem d4J {P:Program} {f:Nat} {own:Bool} {I O:Sg} {ok:I.den->Bool} {Q Q':I.den->O.den->Prop} (e:∀x y,Q x y↔Q' x y) {hne:Nonempty (Ch I O ok Q)} {hne':Nonempty (Ch I O ok Q')} (h:a2V P f (a3B own I O ok Q hne)):a2V P f (a3B own I O ok Q' hne'):=by
 have e:Q=Q':=funext fun x=>funext fun y=>propext (e x y)
 subst e;exact h
theorem e7b:a2V Tryz.prog 78 (a3B true a3F a4r a4s a6t b7P):=d4J (O:=a4r) e7a g3u
def amt (s:Nat):Nat:=bif flt .f32 s 0 then a3G .f32 s else s
theorem e3U (s:Nat):F94 (s,())=some (amt s,()):=by
 unfold F94 r94 amt;cases flt .f32 s 0<;>rfl
theorem d4K (s:Nat):e8U (s,())=some (amt s,()):=by
 unfold e8U f7W amt;cases flt .f32 s 0<;>rfl
def b7Q (s:Nat):Bool:=flt .f32 (amt s) 1120403456||feq .f32 (amt s) 1120403456
def a2o (c:Nat×Nat):Bool:=b7Q c.1&&b7Q c.2
theorem a5r (c:Nat×Nat):F45 (c,())=some (a2o c,()):=by
 unfold F45 r45 a2o;have e1:F94 (c.1,())=some (amt c.1,()):=e3U c.1;have e2:F94 (c.2,())=some (amt c.2,()):=e3U c.2;simp only[K94,G94,e1,e2,isSome_some,getD_some,cond_true];show(bif b7Q c.1 then some (b7Q c.2,())else some (false,()))=_;cases b7Q c.1<;>rfl
theorem b3t (c:Nat×Nat):F52 (c,())=some (a2o c,()):=by
 unfold F52 r52 a2o;have e1:e8U (c.1,())=some (amt c.1,()):=d4K c.1;have e2:e8U (c.2,())=some (amt c.2,()):=d4K c.2;simp only[f4N,f4O,e1,e2,isSome_some,getD_some,cond_true];show(bif b7Q c.1 then some (b7Q c.2,())else some (false,()))=_;cases b7Q c.1<;>rfl
def atV (l:List (Nat×Nat)) (i:Nat):Nat×Nat:=l.getD i (0,0)
def a7U (l:List (Nat×Nat)):Bool:=a0r (fun i=>a2o (atV l i)) 0 l.length
def a0I (x a b:Int):Bool:=decide (a<=x)&&decide (x<=b)
theorem a2Z (x a b:Int):F44 (x,a,b,())=some (a0I x a b,()):=by
 unfold F44 r44 a0I;show(bif decide (x ≥ a)then some (decide (x<=b),())else some (false,()))=_;show(bif decide (a<=x)then some (decide (x<=b),())else some (false,()))=_;cases decide (a<=x)<;>rfl
theorem a4t (x a b:Int):F51 (x,a,b,())=some (a0I x a b,()):=a2Z x a b
theorem e9i:Ieee.double.signWeight=2^63:=by decide
theorem c3E:Ieee.double.infRung=2047*2^52:=by decide
theorem c3F:Ieee.double.binade=2^52:=by decide
theorem e7c:Ieee.double.leastPlace=-1074:=by decide
theorem g3v:Ieee.double.fractionBits=52:=by decide
theorem a6i (neg:Bool) (K e:Nat) (h1:e*2^52+K<2047*2^52) (h2:(e=0 /\ K<=2^53)∨(2^52<=K /\ K<=2^53)) :
 ∃(m:Nat) (c:Nat),Ieee.double.read (Ieee.double.word neg (e*2^52+K)) = .number neg m ((c:Int)-1074) /\ m*2^c=K*2^e:=by
 have hr:Ieee.double.word neg (e*2^52+K)%Ieee.double.signWeight=e*2^52+K:=by
  unfold Ieee.Format.word;rw[e9i];split<;>omega
 have hn:(Ieee.double.word neg (e*2^52+K)/Ieee.double.signWeight%2==1)=neg:=by
  unfold Ieee.Format.word;rw[e9i];cases neg
  ·rw[if_neg (by decide)];have:(e*2^52+K)/2^63=0:=Nat.div_eq_of_lt (by omega);rw[this];rfl
  ·rw[if_pos rfl];have:(2^63+(e*2^52+K))/2^63=1:=by omega
   rw[this];rfl
 unfold Ieee.Format.read;dsimp only;rw[hr,hn,c3F,c3E,e7c];by_cases c1:e*2^52+K<2^52
 ·rw[if_pos c1];have:e=0:=by omega
  subst this;exact⟨K,0,by simp,by simp⟩
 ·rw[if_neg c1,if_pos h1];by_cases c2:K<2^52
  ·exfalso;omega
  by_cases c3:K=2^53
  ·have e1:(e*2^52+K)/2^52=e+2:=by omega
   have e2:(e*2^52+K)%2^52=0:=by omega
   rw[e1,e2];refine⟨2^52,e+1,?_,?_⟩
   ·rw[show((-1074:Int)+((e+2-1:Nat):Int))=((e+1:Nat):Int)-1074 by omega,Nat.add_zero]
   ·rw[c3,<- Nat.pow_add,<- Nat.pow_add];congr 1;omega
  ·have e1:(e*2^52+K)/2^52=e+1:=by omega
   have e2:(e*2^52+K)%2^52=K-2^52:=by omega
   rw[e1,e2];refine⟨K,e,?_,rfl⟩;rw[show((-1074:Int)+((e+1-1:Nat):Int))=((e:Nat):Int)-1074 by omega,show 2^52+(K-2^52)=K by omega]
def VU (s:Bool) (m c:Nat):Int:=if s then -((m*2^c:Nat):Int)else((m*2^c:Nat):Int)
def isD (b:Nat) (v:Int):Prop:=∃(s:Bool) (m c:Nat),Ieee.double.read b = .number s m ((c:Int)-1074) /\ v=VU s m c
theorem c6y (s:Bool) (m c d:Nat) (h:d<=c):Ieee.signed s m (c-d)*((2^d:Nat):Int)=VU s m c:=by
 have e:m*2^(c-d)*2^d=m*2^c:=by rw[Nat.mul_assoc,<- Nat.pow_add];congr 2;omega
 unfold Ieee.signed VU;rw[Nat.shiftLeft_eq];split
 ·rw[Int.neg_mul,<- Int.natCast_mul,e]
 ·rw[<- Int.natCast_mul,e]
theorem e7d (a b k:Int) (hk:0<k):compare (a*k) (b*k)=compare a b:=by
 have h1:a*k<b*k↔a<b:=Int.mul_lt_mul_right hk;have h2:b*k<a*k↔b<a:=Int.mul_lt_mul_right hk;rw[Int.compare_eq_ite_lt,Int.compare_eq_ite_lt];simp only[h1,h2]
theorem e7e (s t:Bool) (m n c d:Nat):Ieee.Datum.order (.number s m ((c:Int)-1074)) (.number t n ((d:Int)-1074))=some (compare (VU s m c) (VU t n d)):=by
 unfold Ieee.Datum.order;dsimp only;have e1:(((c:Int)-1074)-min ((c:Int)-1074) ((d:Int)-1074)).toNat=c-min c d:=by omega
 have e2:(((d:Int)-1074)-min ((c:Int)-1074) ((d:Int)-1074)).toNat=d-min c d:=by omega
 rw[e1,e2,<- c6y s m c (min c d) (Nat.min_le_left _ _),<- c6y t n d (min c d) (Nat.min_le_right _ _),e7d];exact Int.natCast_pos.2 (Nat.two_pow_pos _)
theorem g6S {a b:Nat} {x y:Int} (ha:isD a x) (hb:isD b y):FloatKind.f64.format.order a b=some (compare x y):=by
 obtain⟨s,m,c,h1,rfl⟩:=ha;obtain⟨t,n,d,h2,rfl⟩:=hb;show(Ieee.double.read a).order (Ieee.double.read b)=_;rw[h1,h2];exact e7e s t m n c d
end Go.Proofs.YtjomnmoekchfeaaGreatDoor.AM
