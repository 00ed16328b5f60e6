/- Texts of one proof, joined: an abstract machine for the program, its functions evaluated, plain lemmas. Conditions: those that each lemma names. -/
import Derived.Test.YtjomnmoekchfeaaGreatDoorM3
import Derived.Test.YtjomnmoekchfeaaGreatDoorM2
set_option linter.unusedVariables false
set_option linter.unusedSimpArgs false
namespace Go.Proofs.YtjomnmoekchfeaaGreatDoor.AM
open Go Go.Proofs
set_option maxRecDepth 100000
set_option maxHeartbeats 0
abbrev A8:Ty:=.cons (.slice (.int .u8)) (.nil)
abbrev R8:Ty:=.cons (.bool) (.nil)
noncomputable def Γ8:Env:=a0t tab eqs [] 6 [.tmp 2] [] [] [] [] []
def r8 (x:Den A8):Option (Den R8):=
 some ((decide ((↑(List.length x.1):Int)>1048576),()))
theorem ev8 (x) :a0E (Γ8) (a0e Tryz.f8) (a1f R8) (a0V A8 x) []=r8 x:=by kernel_rfl
def F8 (x:Den A8):Option (Den R8):=r8 x
def K8 (x:Den A8):Bool:=(F8 x).isSome
def G8 (x:Den A8):Den R8:=(F8 x).getD (zero R8)
theorem g0j:a0q Tryz.prog (8,a0a A8 R8 K8 G8):=a0s (a0j mixed a0l a0k .nil) (a0O Tryz.func8 rfl rfl rfl (by kernel_rfl) (a0m (by kernel_rfl))) fun x=>ev8 x
abbrev A44:Ty:=.cons (.int .i64) (.cons (.int .i64) (.cons (.int .i64) (.nil)))
abbrev R44:Ty:=.cons (.bool) (.nil)
noncomputable def g0k:Env:=a0t tab eqs [] 15 [.tmp 6] [] [] [] [] []
def r44 (x:Den A44):Option (Den R44):=
 bif (decide (x.1 ≥ x.2.1))then
 some ((decide (x.1<=x.2.2.1),()))
 else
 some ((false,()))
theorem g0l (x) :a0E (g0k) (a0e Tryz.f44) (a1f R44) (a0V A44 x) []=r44 x:=by kernel_rfl
def F44 (x:Den A44):Option (Den R44):=r44 x
def K44 (x:Den A44):Bool:=(F44 x).isSome
def G44 (x:Den A44):Den R44:=(F44 x).getD (zero R44)
theorem a6J:a0q Tryz.prog (44,a0a A44 R44 K44 G44):=a0s (a0j mixed a0l a0k .nil) (a0O Tryz.func44 rfl rfl rfl (by kernel_rfl) (a0m (by kernel_rfl))) fun x=>g0l x
abbrev c1I:Ty:=.cons (.flt .f32) (.nil)
abbrev c7F:Ty:=.cons (.bool) (.nil)
noncomputable def f4D:Env:=a0t tab eqs [] 9 [.tmp 2] [] [] [] [] []
def f4E (x:Den c1I):Option (Den c7F):=
 bif (fgt .f32 x.1 0||feq .f32 x.1 0)then
 some ((flt .f32 x.1 1112014848||feq .f32 x.1 1112014848,()))
 else
 some ((false,()))
theorem f4F (x) :a0E (f4D) (a0e Tryz.f107) (a1f c7F) (a0V c1I x) []=f4E x:=by kernel_rfl
def e7l (x:Den c1I):Option (Den c7F):=f4E x
def d4c (x:Den c1I):Bool:=(e7l x).isSome
def d4d (x:Den c1I):Den c7F:=(e7l x).getD (zero c7F)
theorem d0b:a0q Tryz.prog (107,a0a c1I c7F d4c d4d):=a0s (a0j mixed a0l a0k .nil) (a0O Tryz.func107 rfl rfl rfl (by kernel_rfl) (a0m (by kernel_rfl))) fun x=>f4F x
abbrev c3V:Ty:=.cons (.flt .f32) (.nil)
abbrev d0c:Ty:=.cons (.bool) (.nil)
noncomputable def f4G (k107 g107) :=a0t tab eqs [(107,a0a c1I c7F k107 g107)] 6 [.tmp 2] [] [] [] [] []
def f4H (k107:KA c1I) (g107:GA c1I c7F) (x:Den c3V):Option (Den d0c):=
 bif (k107 x)then
 some ((!(g107 x).1,()))
 else
 none
theorem f4I (k107 g107 x) :a0E (f4G k107 g107) (a0e Tryz.f158) (a1f d0c) (a0V c3V x) []=f4H k107 g107 x:=by kernel_rfl
def e7m (x:Den c3V):Option (Den d0c):=f4H d4c d4d x
def d6a (x:Den c3V):Bool:=(e7m x).isSome
def d6b (x:Den c3V):Den d0c:=(e7m x).getD (zero d0c)
theorem d9w:a0q Tryz.prog (158,a0a c3V d0c d6a d6b):=a0s (a0j mixed a0l a0k (.cons d0b .nil)) (a0O Tryz.func158 rfl rfl rfl (by kernel_rfl) (a0m (by kernel_rfl))) fun x=>f4I d4c d4d x
abbrev d6c:Sg:=⟨[.val (.slice (.flt .f32)),.fnv 158 []],[]⟩
abbrev d9x:Sg:=⟨[.val (.int .i64)],[]⟩
abbrev a4O:Type:=(((List (Den (.flt .f32)))×(Unit×(Int×(Int×Unit))))×Unit)
def b4N:ShS:=⟨[(0,.one (.sl (.flt .f32))),(1,.one (.fn 158 [])),(7,.one (.int .i64)),(8,.one (.int .i64))],[],0,0⟩
abbrev b8J:Type:=(Unit×Unit)
def b4O:ShS:=⟨[],[],0,0⟩
abbrev b8K:Type:=((Int×Unit)×Unit)
def b4P:ShS:=⟨[(4,.one (.int .i64))],[],0,0⟩
noncomputable def e7n (k158 g158 kl2 xl2 tl2 yl2) :=a0t tab eqs [(158,a0a c3V d0c k158 g158)] 19 [.tmp 4] [] [] [(2,a1U [0,1,7,8] [] 0 [] [] b4N b4O b4P kl2 tl2 xl2 yl2)] [] []
noncomputable def d0d:Code:=(a0u (a0e Tryz.f210)).getD 0 .skip
def b8L (k158:KA c3V) (g158:GA c3V d0c) (f:a4O->Option (b8J⊕b8K)) (v:a4O):Option (b8J⊕b8K):=
 bif (decide (v.1.2.2.2.1<v.1.2.2.1))then
 bif (decide (0<=v.1.2.2.2.1)&&decide (v.1.2.2.2.1<(↑(List.length v.1.1):Int)))then
 let v0:=(List.getD v.1.1 (Int.toNat v.1.2.2.2.1) (zero (Ty.flt .f32)))
 bif (k158 (v0,()))then
 bif (g158 (v0,())).1 then
 some (Sum.inr ((v.1.2.2.2,())))
 else
 f (((v.1.1,(),v.1.2.2.1,(IntKind.wrap .i64 (v.1.2.2.2.1+1)),()),()))
 else
 none
 else
 none
 else
 some (Sum.inl (((),())))
theorem d6d (k158 g158 kl2 xl2 tl2 yl2 f v) :EBk (e7n k158 g158 kl2 xl2 tl2 yl2) d0d (a0B [0,1,7,8] [] 0 [] [] (atS b4N f) (a5J b4O b4P)) (mkS b4N v)=b8L k158 g158 f v:=by kernel_rfl
def c3W (v:a4O):Nat:=v.1.1.length+v.1.2.2.1.natAbs+v.1.2.2.2.1.natAbs+1000
def b8M (v:a4O):Option (b8J⊕b8K):=a1u (b8L d6a d6b) (c3W v) v
def b4Q (v:a4O):Bool:=(b8M v).isSome
def b4R (v:a4O):Bool:=isR (b8M v)
def c1J (v:a4O):b8J:=xOf ((),()) (b8M v)
def b4S (v:a4O):b8K:=yOf ((0,()),()) (b8M v)
def f4J (k158:KA c3V) (g158:GA c3V d0c) (kl2:a4O->Bool) (xl2:a4O->b8J) (tl2:a4O->Bool) (yl2:a4O->b8K) (x:d6c.den):Option (d9x.den):=
 let w0:=((x.1.1,(),(↑(List.length x.1.1):Int),0,()),())
 bif (kl2 w0)then
 bif (tl2 w0)then
 some (yl2 w0)
 else
 some (((-1,()),()))
 else
 none
theorem f4K (k158 g158 kl2 xl2 tl2 yl2 x) :a1N (e7n k158 g158 kl2 xl2 tl2 yl2) (a0e Tryz.f210) d6c d9x x=f4J k158 g158 kl2 xl2 tl2 yl2 x:=by kernel_rfl
def f0U (x:d6c.den):Option (d9x.den):=f4J d6a d6b b4Q c1J b4R b4S x
def f0V (x:d6c.den):Bool:=(f0U x).isSome
def f0W (x:d6c.den):d9x.den:=(f0U x).getD (a1d d9x)
theorem e7o:a0q Tryz.prog (210,a0n false d6c d9x f0V f0W):=a1k (a0j mixed a0l a0k (.cons d9w .nil)) (a0O Tryz.func210 rfl rfl rfl (by kernel_rfl) (a0D (l:=[d0d]) (by kernel_rfl) (.cons (a0r rfl (a0x (sh:=b4N) (shX:=b4O) (shR:=b4P) (fun f v=>d6d d6a d6b b4Q c1J b4R b4S f v) c3W ((),()) ((0,()),()))) (.nil)))) false fun x=>f4K d6a d6b b4Q c1J b4R b4S x
abbrev c1K:Sg:=⟨[.val (.slice (.flt .f32)),.fnv 158 []],[]⟩
abbrev d0e:Sg:=⟨[.val (.bool)],[]⟩
noncomputable def f4L (k210 g210 k158 g158) :=a0t tab eqs [(210,a0n false d6c d9x k210 g210),(158,a0a c3V d0c k158 g158)] 9 [.tmp 4] [] [] [] [] []
def f4M (k210:KI d6c) (g210:GI d6c d9x) (k158:KA c3V) (g158:GA c3V d0c) (x:c1K.den):Option (d0e.den):=
 bif (k210 ((x.1.1,(),()),()))then
 some (((decide ((g210 ((x.1.1,(),()),())).1.1 ≥ 0),()),()))
 else
 none
theorem f4N (k210 g210 k158 g158 x) :a1N (f4L k210 g210 k158 g158) (a0e Tryz.f157) c1K d0e x=f4M k210 g210 k158 g158 x:=by kernel_rfl
def e7p (x:c1K.den):Option (d0e.den):=f4M f0V f0W d6a d6b x
def c6x (x:c1K.den):Bool:=(e7p x).isSome
def c6y (x:c1K.den):d0e.den:=(e7p x).getD (a1d d0e)
theorem e7q:a0q Tryz.prog (157,a0n false c1K d0e c6x c6y):=a1k (a0j mixed a0l a0k (.cons e7o (.cons d9w .nil))) (a0O Tryz.func157 rfl rfl rfl (by kernel_rfl) (a0m (by kernel_rfl))) false fun x=>f4N f0V f0W d6a d6b x
abbrev A90:Ty:=.cons (S27) (.nil)
abbrev R90:Ty:=.cons (.bool) (.nil)
abbrev a9n:Type:=((Unit×((List (Den (.flt .f32)))×(Int×(Int×Unit))))×(((List (Den (.flt .f32)))×((List (Den (.int .i64)))×((List (Den (.slice (.flt .f32))))×Unit)))×Unit))
def c3X:ShS:=⟨[(1,.one (.ptr 0 0)),(31,.one (.sl (.flt .f32))),(32,.one (.int .i64)),(33,.one (.int .i64))],[(0,.box [.sl (.flt .f32),.sl (.int .i64),.sl (.slice (.flt .f32))])],1,0⟩
abbrev d0f:Type:=((Unit×Unit)×(((List (Den (.flt .f32)))×((List (Den (.int .i64)))×((List (Den (.slice (.flt .f32))))×Unit)))×Unit))
def c1L:ShS:=⟨[(1,.one (.ptr 0 0))],[(0,.box [.sl (.flt .f32),.sl (.int .i64),.sl (.slice (.flt .f32))])],1,0⟩
abbrev d0g:Type:=((Bool×Unit)×Unit)
def c1M:ShS:=⟨[(2,.one (.bool))],[],0,0⟩
abbrev a4P:Type:=((Unit×((List (Den (.int .i64)))×(Int×(Int×Unit))))×(((List (Den (.flt .f32)))×((List (Den (.int .i64)))×((List (Den (.slice (.flt .f32))))×Unit)))×Unit))
def b4T:ShS:=⟨[(1,.one (.ptr 0 0)),(62,.one (.sl (.int .i64))),(63,.one (.int .i64)),(64,.one (.int .i64))],[(0,.box [.sl (.flt .f32),.sl (.int .i64),.sl (.slice (.flt .f32))])],1,0⟩
abbrev b8N:Type:=((Unit×Unit)×(((List (Den (.flt .f32)))×((List (Den (.int .i64)))×((List (Den (.slice (.flt .f32))))×Unit)))×Unit))
def b4U:ShS:=⟨[(1,.one (.ptr 0 0))],[(0,.box [.sl (.flt .f32),.sl (.int .i64),.sl (.slice (.flt .f32))])],1,0⟩
abbrev b8O:Type:=((Bool×Unit)×Unit)
def b4V:ShS:=⟨[(2,.one (.bool))],[],0,0⟩
abbrev a4Q:Type:=((Unit×((List (Den (.slice (.flt .f32))))×(Int×(Int×Unit))))×(((List (Den (.flt .f32)))×((List (Den (.int .i64)))×((List (Den (.slice (.flt .f32))))×Unit)))×Unit))
def b4W:ShS:=⟨[(1,.one (.ptr 0 0)),(99,.one (.sl (.slice (.flt .f32)))),(100,.one (.int .i64)),(101,.one (.int .i64))],[(0,.box [.sl (.flt .f32),.sl (.int .i64),.sl (.slice (.flt .f32))])],1,0⟩
abbrev b8P:Type:=(Unit×Unit)
def b4X:ShS:=⟨[],[],0,0⟩
abbrev b8Q:Type:=((Bool×Unit)×Unit)
def b4Y:ShS:=⟨[(2,.one (.bool))],[],0,0⟩
noncomputable def f0X (k44 g44 k157 g157 kl4 xl4 tl4 yl4 kl10 xl10 tl10 yl10 kl18 xl18 tl18 yl18) :=a0t tab eqs [(44,a0a A44 R44 k44 g44),(157,a0n false c1K d0e k157 g157)] 116 [.tmp 2] [] [] [(4,a1U [1,31,32,33] [] 0 [1] [] c3X c1L c1M kl4 tl4 xl4 yl4),(10,a1U [1,62,63,64] [] 2 [1] [] b4T b4U b4V kl10 tl10 xl10 yl10),(18,a1U [1,99,100,101] [] 4 [] [] b4W b4X b4Y kl18 tl18 xl18 yl18)] [] []
noncomputable def d9y:Code:=(a0u (a0e Tryz.f90)).getD 0 .skip
noncomputable def d0h:Code:=(a0u (a0e Tryz.f90)).getD 1 .skip
noncomputable def d0i:Code:=(a0u (a0e Tryz.f90)).getD 2 .skip
def b8R (k44:KA A44) (g44:GA A44 R44) (k157:KI c1K) (g157:GI c1K d0e) (f:a4Q->Option (b8P⊕b8Q)) (v:a4Q):Option (b8P⊕b8Q):=
 bif (decide (v.1.2.2.2.1<v.1.2.2.1))then
 bif (decide (0<=v.1.2.2.2.1)&&decide (v.1.2.2.2.1<(↑(List.length v.1.2.1):Int)))then
 let v0:=(List.getD v.1.2.1 (Int.toNat v.1.2.2.2.1) (zero (Ty.slice (Ty.flt .f32))))
 bif ((↑(List.length v0):Int) != (↑(List.length v.2.1.2.1):Int))then
 some (Sum.inr (((false,()),())))
 else
 bif (k157 ((v0,(),()),()))then
 bif (g157 ((v0,(),()),())).1.1 then
 some (Sum.inr (((false,()),())))
 else
 f ((((),v.1.2.1,v.1.2.2.1,(IntKind.wrap .i64 (v.1.2.2.2.1+1)),()),v.2))
 else
 none
 else
 none
 else
 some (Sum.inl (((),())))
theorem d6e (k44 g44 k157 g157 kl4 xl4 tl4 yl4 kl10 xl10 tl10 yl10 kl18 xl18 tl18 yl18 f v) :EBk (f0X k44 g44 k157 g157 kl4 xl4 tl4 yl4 kl10 xl10 tl10 yl10 kl18 xl18 tl18 yl18) d0i (a0B [1,99,100,101] [] 4 [] [] (atS b4W f) (a5J b4X b4Y)) (mkS b4W v)=b8R k44 g44 k157 g157 f v:=by kernel_rfl
def d0j (v:a4Q):Nat:=v.1.2.1.length+v.1.2.2.1.natAbs+v.1.2.2.2.1.natAbs+v.2.1.1.length+v.2.1.2.1.length+v.2.1.2.2.1.length+1000
def b8S (v:a4Q):Option (b8P⊕b8Q):=a1u (b8R K44 G44 c6x c6y) (d0j v) v
def a8n (v:a4Q):Bool:=(b8S v).isSome
def a8o (v:a4Q):Bool:=isR (b8S v)
def b0R (v:a4Q):b8P:=xOf ((),()) (b8S v)
def a8p (v:a4Q):b8Q:=yOf ((false,()),()) (b8S v)
def b8T (k44:KA A44) (g44:GA A44 R44) (k157:KI c1K) (g157:GI c1K d0e) (f:a4P->Option (b8N⊕b8O)) (v:a4P):Option (b8N⊕b8O):=
 bif (decide (v.1.2.2.2.1<v.1.2.2.1))then
 bif (decide (0<=v.1.2.2.2.1)&&decide (v.1.2.2.2.1<(↑(List.length v.1.2.1):Int)))then
 bif (decide (v.1.2.2.2.1>0))then
 let v0:=(IntKind.wrap .i64 (v.1.2.2.2.1-1))
 bif (decide (0<=v0)&&decide (v0<(↑(List.length v.2.1.2.1):Int)))then
 bif (decide ((List.getD v.1.2.1 (Int.toNat v.1.2.2.2.1) (zero (Ty.int IntKind.i64)))<=(List.getD v.2.1.2.1 (Int.toNat v0) (zero (Ty.int IntKind.i64)))))then
 some (Sum.inr (((false,()),())))
 else
 f ((((),v.1.2.1,v.1.2.2.1,(IntKind.wrap .i64 (v.1.2.2.2.1+1)),()),v.2))
 else
 none
 else
 f ((((),v.1.2.1,v.1.2.2.1,(IntKind.wrap .i64 (v.1.2.2.2.1+1)),()),v.2))
 else
 none
 else
 some (Sum.inl ((((),()),v.2)))
theorem d6f (k44 g44 k157 g157 kl4 xl4 tl4 yl4 kl10 xl10 tl10 yl10 kl18 xl18 tl18 yl18 f v) :EBk (f0X k44 g44 k157 g157 kl4 xl4 tl4 yl4 kl10 xl10 tl10 yl10 kl18 xl18 tl18 yl18) d0h (a0B [1,62,63,64] [] 2 [1] [] (atS b4T f) (a5J b4U b4V)) (mkS b4T v)=b8T k44 g44 k157 g157 f v:=by kernel_rfl
def d0k (v:a4P):Nat:=v.1.2.1.length+v.1.2.2.1.natAbs+v.1.2.2.2.1.natAbs+v.2.1.1.length+v.2.1.2.1.length+v.2.1.2.2.1.length+1000
def b8U (v:a4P):Option (b8N⊕b8O):=a1u (b8T K44 G44 c6x c6y) (d0k v) v
def a8q (v:a4P):Bool:=(b8U v).isSome
def a8r (v:a4P):Bool:=isR (b8U v)
def a8s (v:a4P):b8N:=xOf (((),()),(([],([],([],()))),())) (b8U v)
def a8t (v:a4P):b8O:=yOf ((false,()),()) (b8U v)
def d0l (k44:KA A44) (g44:GA A44 R44) (k157:KI c1K) (g157:GI c1K d0e) (f:a9n->Option (d0f⊕d0g)) (v:a9n):Option (d0f⊕d0g):=
 bif (decide (v.1.2.2.2.1<v.1.2.2.1))then
 bif (decide (0<=v.1.2.2.2.1)&&decide (v.1.2.2.2.1<(↑(List.length v.1.2.1):Int)))then
 let v0:=(List.getD v.1.2.1 (Int.toNat v.1.2.2.2.1) (zero (Ty.flt .f32)))
 bif (fgt .f32 v0 0)then
 bif (!(flt .f32 v0 1120403456||feq .f32 v0 1120403456))then
 some (Sum.inr (((false,()),())))
 else
 bif (decide (v.1.2.2.2.1>0))then
 let v1:=(IntKind.wrap .i64 (v.1.2.2.2.1-1))
 bif (decide (0<=v1)&&decide (v1<(↑(List.length v.2.1.1):Int)))then
 bif (!fgt .f32 v0 (List.getD v.2.1.1 (Int.toNat v1) (zero (Ty.flt .f32))))then
 some (Sum.inr (((false,()),())))
 else
 f ((((),v.1.2.1,v.1.2.2.1,(IntKind.wrap .i64 (v.1.2.2.2.1+1)),()),v.2))
 else
 none
 else
 f ((((),v.1.2.1,v.1.2.2.1,(IntKind.wrap .i64 (v.1.2.2.2.1+1)),()),v.2))
 else
 some (Sum.inr (((false,()),())))
 else
 none
 else
 some (Sum.inl ((((),()),v.2)))
theorem e2u (k44 g44 k157 g157 kl4 xl4 tl4 yl4 kl10 xl10 tl10 yl10 kl18 xl18 tl18 yl18 f v) :EBk (f0X k44 g44 k157 g157 kl4 xl4 tl4 yl4 kl10 xl10 tl10 yl10 kl18 xl18 tl18 yl18) d9y (a0B [1,31,32,33] [] 0 [1] [] (atS c3X f) (a5J c1L c1M)) (mkS c3X v)=d0l k44 g44 k157 g157 f v:=by kernel_rfl
def e2v (v:a9n):Nat:=v.1.2.1.length+v.1.2.2.1.natAbs+v.1.2.2.2.1.natAbs+v.2.1.1.length+v.2.1.2.1.length+v.2.1.2.2.1.length+1000
def d0m (v:a9n):Option (d0f⊕d0g):=a1u (d0l K44 G44 c6x c6y) (e2v v) v
def b2C (v:a9n):Bool:=(d0m v).isSome
def b2D (v:a9n):Bool:=isR (d0m v)
def b2E (v:a9n):d0f:=xOf (((),()),(([],([],([],()))),())) (d0m v)
def b2F (v:a9n):d0g:=yOf ((false,()),()) (d0m v)
def r90 (k44:KA A44) (g44:GA A44 R44) (k157:KI c1K) (g157:GI c1K d0e) (kl4:a9n->Bool) (xl4:a9n->d0f) (tl4:a9n->Bool) (yl4:a9n->d0g) (kl10:a4P->Bool) (xl10:a4P->b8N) (tl10:a4P->Bool) (yl10:a4P->b8O) (kl18:a4Q->Bool) (xl18:a4Q->b8P) (tl18:a4Q->Bool) (yl18:a4Q->b8Q) (x:Den A90):Option (Den R90):=
 bif (k44 ((↑(List.length x.1.1):Int),1,12,()))then
 bif (!(g44 ((↑(List.length x.1.1):Int),1,12,())).1)then
 some ((false,()))
 else
 bif (k44 ((↑(List.length x.1.2.1):Int),2,24,()))then
 bif (!(g44 ((↑(List.length x.1.2.1):Int),2,24,())).1)then
 some ((false,()))
 else
 bif ((↑(List.length x.1.2.2.1):Int) != (↑(List.length x.1.1):Int))then
 some ((false,()))
 else
 bif (kl4 (((),x.1.1,(↑(List.length x.1.1):Int),0,()),x))then
 bif (tl4 (((),x.1.1,(↑(List.length x.1.1):Int),0,()),x))then
 some (yl4 (((),x.1.1,(↑(List.length x.1.1):Int),0,()),x)).1
 else
 let v6:=(xl4 (((),x.1.1,(↑(List.length x.1.1):Int),0,()),x))
 bif (kl10 (((),v6.2.1.2.1,(↑(List.length v6.2.1.2.1):Int),0,()),v6.2))then
 bif (tl10 (((),v6.2.1.2.1,(↑(List.length v6.2.1.2.1):Int),0,()),v6.2))then
 some (yl10 (((),v6.2.1.2.1,(↑(List.length v6.2.1.2.1):Int),0,()),v6.2)).1
 else
 let v9:=(xl10 (((),v6.2.1.2.1,(↑(List.length v6.2.1.2.1):Int),0,()),v6.2))
 bif (decide (0<=0)&&decide (0<(↑(List.length v9.2.1.2.1):Int)))then
 bif ((List.getD v9.2.1.2.1 (Int.toNat 0) (zero (Ty.int IntKind.i64))) != 0)then
 some ((false,()))
 else
 let v11:=(IntKind.wrap .i64 ((↑(List.length v9.2.1.2.1):Int)-1))
 bif (decide (0<=v11)&&decide (v11<(↑(List.length v9.2.1.2.1):Int)))then
 bif ((List.getD v9.2.1.2.1 (Int.toNat v11) (zero (Ty.int IntKind.i64))) != 180)then
 some ((false,()))
 else
 bif (kl18 (((),v9.2.1.2.2.1,(↑(List.length v9.2.1.2.2.1):Int),0,()),v9.2))then
 bif (tl18 (((),v9.2.1.2.2.1,(↑(List.length v9.2.1.2.2.1):Int),0,()),v9.2))then
 some (yl18 (((),v9.2.1.2.2.1,(↑(List.length v9.2.1.2.2.1):Int),0,()),v9.2)).1
 else
 some ((true,()))
 else
 none
 else
 none
 else
 none
 else
 none
 else
 none
 else
 none
 else
 none
theorem g0m (k44 g44 k157 g157 kl4 xl4 tl4 yl4 kl10 xl10 tl10 yl10 kl18 xl18 tl18 yl18 x) :a0E (f0X k44 g44 k157 g157 kl4 xl4 tl4 yl4 kl10 xl10 tl10 yl10 kl18 xl18 tl18 yl18) (a0e Tryz.f90) (a1f R90) (a0V A90 x) []=r90 k44 g44 k157 g157 kl4 xl4 tl4 yl4 kl10 xl10 tl10 yl10 kl18 xl18 tl18 yl18 x:=by kernel_rfl
def F90 (x:Den A90):Option (Den R90):=r90 K44 G44 c6x c6y b2C b2E b2D b2F a8q a8s a8r a8t a8n b0R a8o a8p x
def K90 (x:Den A90):Bool:=(F90 x).isSome
def G90 (x:Den A90):Den R90:=(F90 x).getD (zero R90)
theorem e7r:a0q Tryz.prog (90,a0a A90 R90 K90 G90):=a0s (a0j mixed a0l a0k (.cons a6J (.cons e7q .nil))) (a0O Tryz.func90 rfl rfl rfl (by kernel_rfl) (a0D (l:=[d9y,d0h,d0i]) (by kernel_rfl) (.cons (a0r rfl (a0x (sh:=c3X) (shX:=c1L) (shR:=c1M) (fun f v=>e2u K44 G44 c6x c6y b2C b2E b2D b2F a8q a8s a8r a8t a8n b0R a8o a8p f v) e2v (((),()),(([],([],([],()))),())) ((false,()),()))) (.cons (a0r rfl (a0x (sh:=b4T) (shX:=b4U) (shR:=b4V) (fun f v=>d6f K44 G44 c6x c6y b2C b2E b2D b2F a8q a8s a8r a8t a8n b0R a8o a8p f v) d0k (((),()),(([],([],([],()))),())) ((false,()),()))) (.cons (a0r rfl (a0x (sh:=b4W) (shX:=b4X) (shR:=b4Y) (fun f v=>d6e K44 G44 c6x c6y b2C b2E b2D b2F a8q a8s a8r a8t a8n b0R a8o a8p f v) d0j ((),()) ((false,()),()))) (.nil)))))) fun x=>g0m K44 G44 c6x c6y b2C b2E b2D b2F a8q a8s a8r a8t a8n b0R a8o a8p x
abbrev A94:Ty:=.cons (.flt .f32) (.nil)
abbrev R94:Ty:=.cons (.flt .f32) (.nil)
noncomputable def g0n:Env:=a0t tab eqs [] 8 [.tmp 2] [] [] [] [] []
def r94 (x:Den A94):Option (Den R94):=
 bif (flt .f32 x.1 0)then
 some (((a5T .f32 x.1),()))
 else
 some (x)
theorem g0o (x) :a0E (g0n) (a0e Tryz.f94) (a1f R94) (a0V A94 x) []=r94 x:=by kernel_rfl
def F94 (x:Den A94):Option (Den R94):=r94 x
def K94 (x:Den A94):Bool:=(F94 x).isSome
def G94 (x:Den A94):Den R94:=(F94 x).getD (zero R94)
theorem f4O:a0q Tryz.prog (94,a0a A94 R94 K94 G94):=a0s (a0j mixed a0l a0k .nil) (a0O Tryz.func94 rfl rfl rfl (by kernel_rfl) (a0m (by kernel_rfl))) fun x=>g0o x
abbrev A45:Ty:=.cons (.cpx .f32) (.nil)
abbrev R45:Ty:=.cons (.bool) (.nil)
noncomputable def g0p (k94 g94) :=a0t tab eqs [(94,a0a A94 R94 k94 g94)] 13 [.tmp 2] [] [] [] [] []
def r45 (k94:KA A94) (g94:GA A94 R94) (x:Den A45):Option (Den R45):=
 bif (k94 (x.1.1,()))then
 let v1:=(g94 (x.1.1,()))
 bif (flt .f32 v1.1 1120403456||feq .f32 v1.1 1120403456)then
 bif (k94 (x.1.2,()))then
 let v3:=(g94 (x.1.2,()))
 some ((flt .f32 v3.1 1120403456||feq .f32 v3.1 1120403456,()))
 else
 none
 else
 some ((false,()))
 else
 none
theorem g0q (k94 g94 x) :a0E (g0p k94 g94) (a0e Tryz.f45) (a1f R45) (a0V A45 x) []=r45 k94 g94 x:=by kernel_rfl
def F45 (x:Den A45):Option (Den R45):=r45 K94 G94 x
def K45 (x:Den A45):Bool:=(F45 x).isSome
def G45 (x:Den A45):Den R45:=(F45 x).getD (zero R45)
theorem b4Z:a0q Tryz.prog (45,a0a A45 R45 K45 G45):=a0s (a0j mixed a0l a0k (.cons f4O .nil)) (a0O Tryz.func45 rfl rfl rfl (by kernel_rfl) (a0m (by kernel_rfl))) fun x=>g0q K94 G94 x
abbrev c0P:Ty:=.cons (.slice (.cpx .f32)) (.nil)
abbrev c7G:Ty:=.cons (.bool) (.nil)
abbrev a4R:Type:=(((List (Den (.cpx .f32)))×(Int×(Int×Unit)))×Unit)
def b5a:ShS:=⟨[(5,.one (.sl (.cpx .f32))),(6,.one (.int .i64)),(7,.one (.int .i64))],[],0,0⟩
abbrev b8V:Type:=(Unit×Unit)
def b5b:ShS:=⟨[],[],0,0⟩
abbrev b8W:Type:=((Bool×Unit)×Unit)
def b5c:ShS:=⟨[(2,.one (.bool))],[],0,0⟩
noncomputable def e7s (k45 g45 kl2 xl2 tl2 yl2) :=a0t tab eqs [(45,a0a A45 R45 k45 g45)] 15 [.tmp 2] [] [] [(2,a1U [5,6,7] [] 0 [] [] b5a b5b b5c kl2 tl2 xl2 yl2)] [] []
noncomputable def d0n:Code:=(a0u (a0e Tryz.f159)).getD 0 .skip
def b8X (k45:KA A45) (g45:GA A45 R45) (f:a4R->Option (b8V⊕b8W)) (v:a4R):Option (b8V⊕b8W):=
 bif (decide (v.1.2.2.1<v.1.2.1))then
 bif (decide (0<=v.1.2.2.1)&&decide (v.1.2.2.1<(↑(List.length v.1.1):Int)))then
 let v0:=(List.getD v.1.1 (Int.toNat v.1.2.2.1) (zero (Ty.cpx FloatKind.f32)))
 bif (k45 (v0,()))then
 bif (!(g45 (v0,())).1)then
 some (Sum.inr (((false,()),())))
 else
 f (((v.1.1,v.1.2.1,(IntKind.wrap .i64 (v.1.2.2.1+1)),()),()))
 else
 none
 else
 none
 else
 some (Sum.inl (((),())))
theorem d6g (k45 g45 kl2 xl2 tl2 yl2 f v) :EBk (e7s k45 g45 kl2 xl2 tl2 yl2) d0n (a0B [5,6,7] [] 0 [] [] (atS b5a f) (a5J b5b b5c)) (mkS b5a v)=b8X k45 g45 f v:=by kernel_rfl
def d0o (v:a4R):Nat:=v.1.1.length+v.1.2.1.natAbs+v.1.2.2.1.natAbs+1000
def b8Y (v:a4R):Option (b8V⊕b8W):=a1u (b8X K45 G45) (d0o v) v
def b5d (v:a4R):Bool:=(b8Y v).isSome
def b5e (v:a4R):Bool:=isR (b8Y v)
def c1N (v:a4R):b8V:=xOf ((),()) (b8Y v)
def b5f (v:a4R):b8W:=yOf ((false,()),()) (b8Y v)
def f4P (k45:KA A45) (g45:GA A45 R45) (kl2:a4R->Bool) (xl2:a4R->b8V) (tl2:a4R->Bool) (yl2:a4R->b8W) (x:Den c0P):Option (Den c7G):=
 let w0:=((x.1,(↑(List.length x.1):Int),0,()),())
 bif (kl2 w0)then
 bif (tl2 w0)then
 some (yl2 w0).1
 else
 some ((true,()))
 else
 none
theorem f4Q (k45 g45 kl2 xl2 tl2 yl2 x) :a0E (e7s k45 g45 kl2 xl2 tl2 yl2) (a0e Tryz.f159) (a1f c7G) (a0V c0P x) []=f4P k45 g45 kl2 xl2 tl2 yl2 x:=by kernel_rfl
def e5n (x:Den c0P):Option (Den c7G):=f4P K45 G45 b5d c1N b5e b5f x
def c6z (x:Den c0P):Bool:=(e5n x).isSome
def c6A (x:Den c0P):Den c7G:=(e5n x).getD (zero c7G)
theorem d9z:a0q Tryz.prog (159,a0a c0P c7G c6z c6A):=a0s (a0j mixed a0l a0k (.cons b4Z .nil)) (a0O Tryz.func159 rfl rfl rfl (by kernel_rfl) (a0D (l:=[d0n]) (by kernel_rfl) (.cons (a0r rfl (a0x (sh:=b5a) (shX:=b5b) (shR:=b5c) (fun f v=>d6g K45 G45 b5d c1N b5e b5f f v) d0o ((),()) ((false,()),()))) (.nil)))) fun x=>f4Q K45 G45 b5d c1N b5e b5f x
abbrev A61:Ty:=.cons (.cpx .f64) (.nil)
abbrev R61:Ty:=.cons (.bool) (.nil)
noncomputable def g0r (k119 g119) :=a0t tab eqs [(119,a0a d8K e5d k119 g119)] 13 [.tmp 2] [] [] [] [] []
def r61 (k119:KA d8K) (g119:GA d8K e5d) (x:Den A61):Option (Den R61):=
 bif (k119 (x.1.1,()))then
 let v1:=(g119 (x.1.1,()))
 bif (flt .f64 v1.1 4726483295884279808||feq .f64 v1.1 4726483295884279808)then
 bif (k119 (x.1.2,()))then
 let v3:=(g119 (x.1.2,()))
 some ((flt .f64 v3.1 4726483295884279808||feq .f64 v3.1 4726483295884279808,()))
 else
 none
 else
 some ((false,()))
 else
 none
theorem g0s (k119 g119 x) :a0E (g0r k119 g119) (a0e Tryz.f61) (a1f R61) (a0V A61 x) []=r61 k119 g119 x:=by kernel_rfl
def F61 (x:Den A61):Option (Den R61):=r61 f0m f0n x
def K61 (x:Den A61):Bool:=(F61 x).isSome
def G61 (x:Den A61):Den R61:=(F61 x).getD (zero R61)
theorem c1O:a0q Tryz.prog (61,a0a A61 R61 K61 G61):=a0s (a0j mixed a0l a0k (.cons e6d .nil)) (a0O Tryz.func61 rfl rfl rfl (by kernel_rfl) (a0m (by kernel_rfl))) fun x=>g0s f0m f0n x
abbrev A63:Ty:=.cons (S33) (.nil)
abbrev R63:Ty:=.cons (.bool) (.nil)
noncomputable def g0t (k44 g44) :=a0t tab eqs [(44,a0a A44 R44 k44 g44)] 11 [.tmp 2] [] [] [] [] []
def r63 (k44:KA A44) (g44:GA A44 R44) (x:Den A63):Option (Den R63):=
 bif (k44 (x.1.1,-10000,10000,()))then
 bif (g44 (x.1.1,-10000,10000,())).1 then
 bif (k44 (x.1.2.1,-10000,10000,()))then
 some (g44 (x.1.2.1,-10000,10000,()))
 else
 none
 else
 some ((false,()))
 else
 none
theorem g0u (k44 g44 x) :a0E (g0t k44 g44) (a0e Tryz.f63) (a1f R63) (a0V A63 x) []=r63 k44 g44 x:=by kernel_rfl
def F63 (x:Den A63):Option (Den R63):=r63 K44 G44 x
def K63 (x:Den A63):Bool:=(F63 x).isSome
def G63 (x:Den A63):Den R63:=(F63 x).getD (zero R63)
theorem d6h:a0q Tryz.prog (63,a0a A63 R63 K63 G63):=a0s (a0j mixed a0l a0k (.cons a6J .nil)) (a0O Tryz.func63 rfl rfl rfl (by kernel_rfl) (a0m (by kernel_rfl))) fun x=>g0u K44 G44 x
abbrev A23:Ty:=.cons (.cpx .f64) (.nil)
abbrev R23:Ty:=.cons (S33) (.cons (.bool) (.nil))
noncomputable def g0v (k61 g61 k62 g62 k63 g63) :=a0t tab eqs [(61,a0a A61 R61 k61 g61),(62,a0a A62 R62 k62 g62),(63,a0a A63 R63 k63 g63)] 23 [.cell 2 34,.tmp 3] [] [] [] [] []
def r23 (k61:KA A61) (g61:GA A61 R61) (k62:KA A62) (g62:GA A62 R62) (k63:KA A63) (g63:GA A63 R63) (x:Den A23):Option (Den R23):=
 bif (k61 x)then
 bif (!(g61 x).1)then
 some (((0,0,()),false,()))
 else
 bif (k62 (x.1.1,()))then
 let v3:=(g62 (x.1.1,()))
 bif (a6R .f64 v3.1 IntKind.i64)then
 bif (k62 (x.1.2,()))then
 let v5:=(g62 (x.1.2,()))
 bif (a6R .f64 v5.1 IntKind.i64)then
 let v6:=(f2i .f64 v3.1)
 let v7:=(f2i .f64 v5.1)
 bif (k63 ((v6,v7,()),()))then
 bif (!(g63 ((v6,v7,()),())).1)then
 some (((0,0,()),false,()))
 else
 some (((v6,v7,()),true,()))
 else
 none
 else
 none
 else
 none
 else
 none
 else
 none
 else
 none
theorem g0w (k61 g61 k62 g62 k63 g63 x) :a0E (g0v k61 g61 k62 g62 k63 g63) (a0e Tryz.f23) (a1f R23) (a0V A23 x) []=r23 k61 g61 k62 g62 k63 g63 x:=by kernel_rfl
def F23 (x:Den A23):Option (Den R23):=r23 K61 G61 K62 G62 K63 G63 x
def K23 (x:Den A23):Bool:=(F23 x).isSome
def G23 (x:Den A23):Den R23:=(F23 x).getD (zero R23)
theorem e7t:a0q Tryz.prog (23,a0a A23 R23 K23 G23):=a0s (a0j mixed a0l a0k (.cons c1O (.cons f2X (.cons d6h .nil)))) (a0O Tryz.func23 rfl rfl rfl (by kernel_rfl) (a0m (by kernel_rfl))) fun x=>g0w K61 G61 K62 G62 K63 G63 x
abbrev A43:Ty:=.cons (.int .i64) (.nil)
abbrev R43:Ty:=.cons (.bool) (.nil)
noncomputable def g0x (k44 g44) :=a0t tab eqs [(44,a0a A44 R44 k44 g44)] 5 [.tmp 2] [] [] [] [] []
def r43 (k44:KA A44) (g44:GA A44 R44) (x:Den A43):Option (Den R43):=
 bif (k44 (x.1,0,10000000,()))then
 some (g44 (x.1,0,10000000,()))
 else
 none
theorem g0y (k44 g44 x) :a0E (g0x k44 g44) (a0e Tryz.f43) (a1f R43) (a0V A43 x) []=r43 k44 g44 x:=by kernel_rfl
def F43 (x:Den A43):Option (Den R43):=r43 K44 G44 x
def K43 (x:Den A43):Bool:=(F43 x).isSome
def G43 (x:Den A43):Den R43:=(F43 x).getD (zero R43)
theorem d6i:a0q Tryz.prog (43,a0a A43 R43 K43 G43):=a0s (a0j mixed a0l a0k (.cons a6J .nil)) (a0O Tryz.func43 rfl rfl rfl (by kernel_rfl) (a0m (by kernel_rfl))) fun x=>g0y K44 G44 x
abbrev A91:Ty:=.cons (S30) (.nil)
abbrev R91:Ty:=.cons (.bool) (.nil)
abbrev a9o:Type:=((Unit×((List (Den (a0S)))×(Int×(Int×Unit))))×(((List (Den (a0S)))×((List (Den (.int .i64)))×Unit))×Unit))
def c3Y:ShS:=⟨[(1,.one (.ptr 0 0)),(20,.one (.sl (a0S))),(21,.one (.int .i64)),(22,.one (.int .i64))],[(0,.box [.sl (a0S),.sl (.int .i64)])],1,0⟩
abbrev d0p:Type:=((Unit×Unit)×(((List (Den (a0S)))×((List (Den (.int .i64)))×Unit))×Unit))
def c1P:ShS:=⟨[(1,.one (.ptr 0 0))],[(0,.box [.sl (a0S),.sl (.int .i64)])],1,0⟩
abbrev d0q:Type:=((Bool×Unit)×Unit)
def c1Q:ShS:=⟨[(2,.one (.bool))],[],0,0⟩
abbrev a4S:Type:=((Unit×((List (Den (.int .i64)))×(Int×(Int×Unit))))×(((List (Den (a0S)))×((List (Den (.int .i64)))×Unit))×Unit))
def b5g:ShS:=⟨[(1,.one (.ptr 0 0)),(38,.one (.sl (.int .i64))),(39,.one (.int .i64)),(40,.one (.int .i64))],[(0,.box [.sl (a0S),.sl (.int .i64)])],1,0⟩
abbrev b8Z:Type:=(Unit×Unit)
def b5h:ShS:=⟨[],[],0,0⟩
abbrev b9a:Type:=((Bool×Unit)×Unit)
def b5i:ShS:=⟨[(2,.one (.bool))],[],0,0⟩
noncomputable def f4R (k44 g44 k61 g61 k159 g159 k43 g43 kl4 xl4 tl4 yl4 kl10 xl10 tl10 yl10) :=a0t tab eqs [(44,a0a A44 R44 k44 g44),(61,a0a A61 R61 k61 g61),(159,a0a c0P c7G k159 g159),(43,a0a A43 R43 k43 g43)] 64 [.tmp 2] [] [] [(4,a1U [1,20,21,22] [] 0 [1] [] c3Y c1P c1Q kl4 tl4 xl4 yl4),(10,a1U [1,38,39,40] [] 2 [] [] b5g b5h b5i kl10 tl10 xl10 yl10)] [] []
noncomputable def d9A:Code:=(a0u (a0e Tryz.f91)).getD 0 .skip
noncomputable def d0r:Code:=(a0u (a0e Tryz.f91)).getD 1 .skip
def b9b (k44:KA A44) (g44:GA A44 R44) (k61:KA A61) (g61:GA A61 R61) (k159:KA c0P) (g159:GA c0P c7G) (k43:KA A43) (g43:GA A43 R43) (f:a4S->Option (b8Z⊕b9a)) (v:a4S):Option (b8Z⊕b9a):=
 bif (decide (v.1.2.2.2.1<v.1.2.2.1))then
 bif (decide (0<=v.1.2.2.2.1)&&decide (v.1.2.2.2.1<(↑(List.length v.1.2.1):Int)))then
 let v0:=(List.getD v.1.2.1 (Int.toNat v.1.2.2.2.1) (zero (Ty.int IntKind.i64)))
 bif (k43 (v0,()))then
 bif (!(g43 (v0,())).1)then
 some (Sum.inr (((false,()),())))
 else
 bif (decide (v.1.2.2.2.1>0))then
 let v3:=(IntKind.wrap .i64 (v.1.2.2.2.1-1))
 bif (decide (0<=v3)&&decide (v3<(↑(List.length v.2.1.2.1):Int)))then
 bif (decide (v0<(IntKind.wrap .i64 ((List.getD v.2.1.2.1 (Int.toNat v3) (zero (Ty.int IntKind.i64)))+21600))))then
 some (Sum.inr (((false,()),())))
 else
 f ((((),v.1.2.1,v.1.2.2.1,(IntKind.wrap .i64 (v.1.2.2.2.1+1)),()),v.2))
 else
 none
 else
 f ((((),v.1.2.1,v.1.2.2.1,(IntKind.wrap .i64 (v.1.2.2.2.1+1)),()),v.2))
 else
 none
 else
 none
 else
 some (Sum.inl (((),())))
theorem d6j (k44 g44 k61 g61 k159 g159 k43 g43 kl4 xl4 tl4 yl4 kl10 xl10 tl10 yl10 f v) :EBk (f4R k44 g44 k61 g61 k159 g159 k43 g43 kl4 xl4 tl4 yl4 kl10 xl10 tl10 yl10) d0r (a0B [1,38,39,40] [] 2 [] [] (atS b5g f) (a5J b5h b5i)) (mkS b5g v)=b9b k44 g44 k61 g61 k159 g159 k43 g43 f v:=by kernel_rfl
def d0s (v:a4S):Nat:=v.1.2.1.length+v.1.2.2.1.natAbs+v.1.2.2.2.1.natAbs+v.2.1.1.length+v.2.1.2.1.length+1000
def b9c (v:a4S):Option (b8Z⊕b9a):=a1u (b9b K44 G44 K61 G61 c6z c6A K43 G43) (d0s v) v
def b0S (v:a4S):Bool:=(b9c v).isSome
def b0T (v:a4S):Bool:=isR (b9c v)
def b5j (v:a4S):b8Z:=xOf ((),()) (b9c v)
def b0U (v:a4S):b9a:=yOf ((false,()),()) (b9c v)
def d0t (k44:KA A44) (g44:GA A44 R44) (k61:KA A61) (g61:GA A61 R61) (k159:KA c0P) (g159:GA c0P c7G) (k43:KA A43) (g43:GA A43 R43) (f:a9o->Option (d0p⊕d0q)) (v:a9o):Option (d0p⊕d0q):=
 bif (decide (v.1.2.2.2.1<v.1.2.2.1))then
 bif (decide (0<=v.1.2.2.2.1)&&decide (v.1.2.2.2.1<(↑(List.length v.1.2.1):Int)))then
 let v0:=(List.getD v.1.2.1 (Int.toNat v.1.2.2.2.1) (zero a0S))
 bif (k61 (v0.1,()))then
 bif (!(g61 (v0.1,())).1)then
 some (Sum.inr (((false,()),())))
 else
 bif (k159 ([v0.2.1.1,v0.2.1.2.1,v0.2.1.2.2.1,v0.2.1.2.2.2.1,v0.2.1.2.2.2.2.1,v0.2.1.2.2.2.2.2.1,v0.2.1.2.2.2.2.2.2.1,v0.2.1.2.2.2.2.2.2.2.1,v0.2.1.2.2.2.2.2.2.2.2.1,v0.2.1.2.2.2.2.2.2.2.2.2.1,v0.2.1.2.2.2.2.2.2.2.2.2.2.1,v0.2.1.2.2.2.2.2.2.2.2.2.2.2.1,v0.2.1.2.2.2.2.2.2.2.2.2.2.2.2.1],()))then
 bif (!(g159 ([v0.2.1.1,v0.2.1.2.1,v0.2.1.2.2.1,v0.2.1.2.2.2.1,v0.2.1.2.2.2.2.1,v0.2.1.2.2.2.2.2.1,v0.2.1.2.2.2.2.2.2.1,v0.2.1.2.2.2.2.2.2.2.1,v0.2.1.2.2.2.2.2.2.2.2.1,v0.2.1.2.2.2.2.2.2.2.2.2.1,v0.2.1.2.2.2.2.2.2.2.2.2.2.1,v0.2.1.2.2.2.2.2.2.2.2.2.2.2.1,v0.2.1.2.2.2.2.2.2.2.2.2.2.2.2.1],())).1)then
 some (Sum.inr (((false,()),())))
 else
 f ((((),v.1.2.1,v.1.2.2.1,(IntKind.wrap .i64 (v.1.2.2.2.1+1)),()),v.2))
 else
 none
 else
 none
 else
 none
 else
 some (Sum.inl ((((),()),v.2)))
theorem e2w (k44 g44 k61 g61 k159 g159 k43 g43 kl4 xl4 tl4 yl4 kl10 xl10 tl10 yl10 f v) :EBk (f4R k44 g44 k61 g61 k159 g159 k43 g43 kl4 xl4 tl4 yl4 kl10 xl10 tl10 yl10) d9A (a0B [1,20,21,22] [] 0 [1] [] (atS c3Y f) (a5J c1P c1Q)) (mkS c3Y v)=d0t k44 g44 k61 g61 k159 g159 k43 g43 f v:=by kernel_rfl
def e2x (v:a9o):Nat:=v.1.2.1.length+v.1.2.2.1.natAbs+v.1.2.2.2.1.natAbs+v.2.1.1.length+v.2.1.2.1.length+1000
def d0u (v:a9o):Option (d0p⊕d0q):=a1u (d0t K44 G44 K61 G61 c6z c6A K43 G43) (e2x v) v
def b9d (v:a9o):Bool:=(d0u v).isSome
def b9e (v:a9o):Bool:=isR (d0u v)
def b9f (v:a9o):d0p:=xOf (((),()),(([],([],())),())) (d0u v)
def b9g (v:a9o):d0q:=yOf ((false,()),()) (d0u v)
def r91 (k44:KA A44) (g44:GA A44 R44) (k61:KA A61) (g61:GA A61 R61) (k159:KA c0P) (g159:GA c0P c7G) (k43:KA A43) (g43:GA A43 R43) (kl4:a9o->Bool) (xl4:a9o->d0p) (tl4:a9o->Bool) (yl4:a9o->d0q) (kl10:a4S->Bool) (xl10:a4S->b8Z) (tl10:a4S->Bool) (yl10:a4S->b9a) (x:Den A91):Option (Den R91):=
 let w2:=(↑(List.length x.1.1):Int)
 bif (k44 (w2,1,20,()))then
 bif (!(g44 (w2,1,20,())).1)then
 some ((false,()))
 else
 let w3:=((↑(List.length x.1.2.1):Int),1,60,())
 bif (k44 w3)then
 bif (!(g44 w3).1)then
 some ((false,()))
 else
 let w0:=(((),x.1.1,w2,0,()),x)
 bif (kl4 w0)then
 bif (tl4 w0)then
 some (yl4 w0).1
 else
 let v6:=(xl4 w0)
 let w1:=(((),v6.2.1.2.1,(↑(List.length v6.2.1.2.1):Int),0,()),v6.2)
 bif (kl10 w1)then
 bif (tl10 w1)then
 some (yl10 w1).1
 else
 some ((true,()))
 else
 none
 else
 none
 else
 none
 else
 none
theorem g0z (k44 g44 k61 g61 k159 g159 k43 g43 kl4 xl4 tl4 yl4 kl10 xl10 tl10 yl10 x) :a0E (f4R k44 g44 k61 g61 k159 g159 k43 g43 kl4 xl4 tl4 yl4 kl10 xl10 tl10 yl10) (a0e Tryz.f91) (a1f R91) (a0V A91 x) []=r91 k44 g44 k61 g61 k159 g159 k43 g43 kl4 xl4 tl4 yl4 kl10 xl10 tl10 yl10 x:=by kernel_rfl
def F91 (x:Den A91):Option (Den R91):=r91 K44 G44 K61 G61 c6z c6A K43 G43 b9d b9f b9e b9g b0S b5j b0T b0U x
def K91 (x:Den A91):Bool:=(F91 x).isSome
def G91 (x:Den A91):Den R91:=(F91 x).getD (zero R91)
theorem e2y:a0q Tryz.prog (91,a0a A91 R91 K91 G91):=a0s (a0j mixed a0l a0k (.cons a6J (.cons c1O (.cons d9z (.cons d6i .nil))))) (a0O Tryz.func91 rfl rfl rfl (by kernel_rfl) (a0D (l:=[d9A,d0r]) (by kernel_rfl) (.cons (a0r rfl (a0x (sh:=c3Y) (shX:=c1P) (shR:=c1Q) (fun f v=>e2w K44 G44 K61 G61 c6z c6A K43 G43 b9d b9f b9e b9g b0S b5j b0T b0U f v) e2x (((),()),(([],([],())),())) ((false,()),()))) (.cons (a0r rfl (a0x (sh:=b5g) (shX:=b5h) (shR:=b5i) (fun f v=>d6j K44 G44 K61 G61 c6z c6A K43 G43 b9d b9f b9e b9g b0S b5j b0T b0U f v) d0s ((),()) ((false,()),()))) (.nil))))) fun x=>g0z K44 G44 K61 G61 c6z c6A K43 G43 b9d b9f b9e b9g b0S b5j b0T b0U x
abbrev d0v:Ty:=.cons (.str) (.nil)
abbrev d6k:Ty:=.cons (.bool) (.nil)
abbrev a4T:Type:=((ByteArray×(Int×Unit))×Unit)
def b5k:ShS:=⟨[(0,.one (.str)),(3,.one (.int .i64))],[],0,0⟩
abbrev b9h:Type:=((ByteArray×Unit)×Unit)
def b5l:ShS:=⟨[(0,.one (.str))],[],0,0⟩
abbrev b9i:Type:=((Bool×Unit)×Unit)
def b5m:ShS:=⟨[(2,.one (.bool))],[],0,0⟩
noncomputable def e7u (k44 g44 kl2 xl2 tl2 yl2) :=a0t tab eqs [(44,a0a A44 R44 k44 g44)] 27 [.tmp 2] [] [] [(2,a1U [0,3] [] 0 [0] [] b5k b5l b5m kl2 tl2 xl2 yl2)] [] []
noncomputable def d0w:Code:=(a0u (a0e Tryz.f160)).getD 0 .skip
def b9j (k44:KA A44) (g44:GA A44 R44) (f:a4T->Option (b9h⊕b9i)) (v:a4T):Option (b9h⊕b9i):=
 let w0:=(v.1.2.1<(↑(ByteArray.size v.1.1):Int))
 bif (decide w0)then
 let w1:=(decide (0<=v.1.2.1)&&decide w0)
 bif w1 then
 bif (decide (a1z v.1.1 v.1.2.1<97))then
 some (Sum.inr (((false,()),())))
 else
 bif w1 then
 bif (decide (a1z v.1.1 v.1.2.1>122))then
 some (Sum.inr (((false,()),())))
 else
 f (((v.1.1,(IntKind.wrap .i64 (v.1.2.1+1)),()),()))
 else
 none
 else
 none
 else
 some (Sum.inl (((v.1.1,()),())))
theorem d6l (k44 g44 kl2 xl2 tl2 yl2 f v) :EBk (e7u k44 g44 kl2 xl2 tl2 yl2) d0w (a0B [0,3] [] 0 [0] [] (atS b5k f) (a5J b5l b5m)) (mkS b5k v)=b9j k44 g44 f v:=by kernel_rfl
def d0x (v:a4T):Nat:=v.1.1.size+v.1.2.1.natAbs+1000
def b9k (v:a4T):Option (b9h⊕b9i):=a1u (b9j K44 G44) (d0x v) v
def b5n (v:a4T):Bool:=(b9k v).isSome
def b5o (v:a4T):Bool:=isR (b9k v)
def b5p (v:a4T):b9h:=xOf ((ByteArray.empty,()),()) (b9k v)
def b5q (v:a4T):b9i:=yOf ((false,()),()) (b9k v)
def f4S (k44:KA A44) (g44:GA A44 R44) (kl2:a4T->Bool) (xl2:a4T->b9h) (tl2:a4T->Bool) (yl2:a4T->b9i) (x:Den d0v):Option (Den d6k):=
 bif (kl2 ((x.1,0,()),()))then
 bif (tl2 ((x.1,0,()),()))then
 some (yl2 ((x.1,0,()),())).1
 else
 let v2:=(xl2 ((x.1,0,()),()))
 let w0:=((↑(ByteArray.size v2.1.1):Int),1,16,())
 bif (k44 w0)then
 bif (g44 w0).1 then
 some ((!a2w v2.1.1 { data:=#[110,111,110,101] },()))
 else
 some ((false,()))
 else
 none
 else
 none
theorem f4T (k44 g44 kl2 xl2 tl2 yl2 x) :a0E (e7u k44 g44 kl2 xl2 tl2 yl2) (a0e Tryz.f160) (a1f d6k) (a0V d0v x) []=f4S k44 g44 kl2 xl2 tl2 yl2 x:=by kernel_rfl
def f0Y (x:Den d0v):Option (Den d6k):=f4S K44 G44 b5n b5p b5o b5q x
def e2z (x:Den d0v):Bool:=(f0Y x).isSome
def e2A (x:Den d0v):Den d6k:=(f0Y x).getD (zero d6k)
theorem e7v:a0q Tryz.prog (160,a0a d0v d6k e2z e2A):=a0s (a0j mixed a0l a0k (.cons a6J .nil)) (a0O Tryz.func160 rfl rfl rfl (by kernel_rfl) (a0D (l:=[d0w]) (by kernel_rfl) (.cons (a0r rfl (a0x (sh:=b5k) (shX:=b5l) (shR:=b5m) (fun f v=>d6l K44 G44 b5n b5p b5o b5q f v) d0x ((ByteArray.empty,()),()) ((false,()),()))) (.nil)))) fun x=>f4T K44 G44 b5n b5p b5o b5q x
abbrev b7c:Ty:=.cons (.slice (S68)) (.cons (.str) (.nil))
abbrev c6B:Ty:=.cons (.int .i64) (.nil)
abbrev a4U:Type:=((ByteArray×((List (Den (S68)))×(Int×(Int×Unit))))×Unit)
def b5r:ShS:=⟨[(1,.one (.str)),(7,.one (.sl (S68))),(8,.one (.int .i64)),(9,.one (.int .i64))],[],0,0⟩
abbrev b9l:Type:=(Unit×Unit)
def b5s:ShS:=⟨[],[],0,0⟩
abbrev b9m:Type:=((Int×Unit)×Unit)
def b5t:ShS:=⟨[(4,.one (.int .i64))],[],0,0⟩
noncomputable def e7w (kl2 xl2 tl2 yl2) :=a0t tab eqs [] 20 [.tmp 4] [] [] [(2,a1U [1,7,8,9] [] 0 [] [] b5r b5s b5t kl2 tl2 xl2 yl2)] [] []
noncomputable def d0y:Code:=(a0u (a0e Tryz.f134)).getD 0 .skip
def b9n (f:a4U->Option (b9l⊕b9m)) (v:a4U):Option (b9l⊕b9m):=
 bif (decide (v.1.2.2.2.1<v.1.2.2.1))then
 bif (decide (0<=v.1.2.2.2.1)&&decide (v.1.2.2.2.1<(↑(List.length v.1.2.1):Int)))then
 bif (a2w (List.getD v.1.2.1 (Int.toNat v.1.2.2.2.1) (zero S68)).1 v.1.1)then
 some (Sum.inr ((v.1.2.2.2,())))
 else
 f (((v.1.1,v.1.2.1,v.1.2.2.1,(IntKind.wrap .i64 (v.1.2.2.2.1+1)),()),()))
 else
 none
 else
 some (Sum.inl (((),())))
theorem d6m (kl2 xl2 tl2 yl2 f v) :EBk (e7w kl2 xl2 tl2 yl2) d0y (a0B [1,7,8,9] [] 0 [] [] (atS b5r f) (a5J b5s b5t)) (mkS b5r v)=b9n f v:=by kernel_rfl
def d0z (v:a4U):Nat:=v.1.1.size+v.1.2.1.length+v.1.2.2.1.natAbs+v.1.2.2.2.1.natAbs+1000
def b9o (v:a4U):Option (b9l⊕b9m):=a1u (b9n) (d0z v) v
def b5u (v:a4U):Bool:=(b9o v).isSome
def b5v (v:a4U):Bool:=isR (b9o v)
def c1R (v:a4U):b9l:=xOf ((),()) (b9o v)
def b5w (v:a4U):b9m:=yOf ((0,()),()) (b9o v)
def f4U (kl2:a4U->Bool) (xl2:a4U->b9l) (tl2:a4U->Bool) (yl2:a4U->b9m) (x:Den b7c):Option (Den c6B):=
 let w0:=((x.2.1,x.1,(↑(List.length x.1):Int),0,()),())
 bif (kl2 w0)then
 bif (tl2 w0)then
 some (yl2 w0).1
 else
 some ((-1,()))
 else
 none
theorem f4V (kl2 xl2 tl2 yl2 x) :a0E (e7w kl2 xl2 tl2 yl2) (a0e Tryz.f134) (a1f c6B) (a0V b7c x) []=f4U kl2 xl2 tl2 yl2 x:=by kernel_rfl
def e7x (x:Den b7c):Option (Den c6B):=f4U b5u c1R b5v b5w x
def c6C (x:Den b7c):Bool:=(e7x x).isSome
def c6D (x:Den b7c):Den c6B:=(e7x x).getD (zero c6B)
theorem d9B:a0q Tryz.prog (134,a0a b7c c6B c6C c6D):=a0s (a0j mixed a0l a0k .nil) (a0O Tryz.func134 rfl rfl rfl (by kernel_rfl) (a0D (l:=[d0y]) (by kernel_rfl) (.cons (a0r rfl (a0x (sh:=b5r) (shX:=b5s) (shR:=b5t) (fun f v=>d6m b5u c1R b5v b5w f v) d0z ((),()) ((0,()),()))) (.nil)))) fun x=>f4V b5u c1R b5v b5w x
abbrev A92:Ty:=.cons (.slice (S68)) (.nil)
abbrev R92:Ty:=.cons (.bool) (.nil)
abbrev a9p:Type:=(((List (Den (S68)))×((List (Den (S68)))×(Int×(Int×Unit))))×Unit)
def c3Z:ShS:=⟨[(0,.one (.sl (S68))),(8,.one (.sl (S68))),(9,.one (.int .i64)),(10,.one (.int .i64))],[],0,0⟩
abbrev d0A:Type:=(Unit×Unit)
def c1S:ShS:=⟨[],[],0,0⟩
abbrev d0B:Type:=((Bool×Unit)×Unit)
def c1T:ShS:=⟨[(2,.one (.bool))],[],0,0⟩
noncomputable def f8M (k160 g160 k134 g134 k44 g44 kl4 xl4 tl4 yl4) :=a0t tab eqs [(160,a0a d0v d6k k160 g160),(134,a0a b7c c6B k134 g134),(44,a0a A44 R44 k44 g44)] 61 [.tmp 2] [] [] [(4,a1U [0,8,9,10] [] 0 [] [] c3Z c1S c1T kl4 tl4 xl4 yl4)] [] []
noncomputable def d9C:Code:=(a0u (a0e Tryz.f92)).getD 0 .skip
def d0C (k160:KA d0v) (g160:GA d0v d6k) (k134:KA b7c) (g134:GA b7c c6B) (k44:KA A44) (g44:GA A44 R44) (f:a9p->Option (d0A⊕d0B)) (v:a9p):Option (d0A⊕d0B):=
 bif (decide (v.1.2.2.2.1<v.1.2.2.1))then
 bif (decide (0<=v.1.2.2.2.1)&&decide (v.1.2.2.2.1<(↑(List.length v.1.2.1):Int)))then
 let v0:=(List.getD v.1.2.1 (Int.toNat v.1.2.2.2.1) (zero S68))
 bif (k160 (v0.1,()))then
 bif (!(g160 (v0.1,())).1)then
 some (Sum.inr (((false,()),())))
 else
 bif (k134 (v.1.1,v0.1,()))then
 bif ((g134 (v.1.1,v0.1,())).1 != v.1.2.2.2.1)then
 some (Sum.inr (((false,()),())))
 else
 bif (!(fgt .f32 v0.2.1 0||feq .f32 v0.2.1 0))then
 some (Sum.inr (((false,()),())))
 else
 bif (fgt .f32 v0.2.2.1 v0.2.1)then
 bif (!(flt .f32 v0.2.2.1 1128792064||feq .f32 v0.2.2.1 1128792064))then
 some (Sum.inr (((false,()),())))
 else
 bif (k44 (v0.2.2.2.1,0,180,()))then
 bif (!(g44 (v0.2.2.2.1,0,180,())).1)then
 some (Sum.inr (((false,()),())))
 else
 bif (k44 (v0.2.2.2.2.1,v0.2.2.2.1,180,()))then
 bif (!(g44 (v0.2.2.2.2.1,v0.2.2.2.1,180,())).1)then
 some (Sum.inr (((false,()),())))
 else
 f (((v.1.1,v.1.2.1,v.1.2.2.1,(IntKind.wrap .i64 (v.1.2.2.2.1+1)),()),()))
 else
 none
 else
 none
 else
 some (Sum.inr (((false,()),())))
 else
 none
 else
 none
 else
 none
 else
 some (Sum.inl (((),())))
theorem e2B (k160 g160 k134 g134 k44 g44 kl4 xl4 tl4 yl4 f v) :EBk (f8M k160 g160 k134 g134 k44 g44 kl4 xl4 tl4 yl4) d9C (a0B [0,8,9,10] [] 0 [] [] (atS c3Z f) (a5J c1S c1T)) (mkS c3Z v)=d0C k160 g160 k134 g134 k44 g44 f v:=by kernel_rfl
def e2C (v:a9p):Nat:=v.1.1.length+v.1.2.1.length+v.1.2.2.1.natAbs+v.1.2.2.2.1.natAbs+1000
def d0D (v:a9p):Option (d0A⊕d0B):=a1u (d0C e2z e2A c6C c6D K44 G44) (e2C v) v
def c4a (v:a9p):Bool:=(d0D v).isSome
def c4b (v:a9p):Bool:=isR (d0D v)
def d0E (v:a9p):d0A:=xOf ((),()) (d0D v)
def c4c (v:a9p):d0B:=yOf ((false,()),()) (d0D v)
def r92 (k160:KA d0v) (g160:GA d0v d6k) (k134:KA b7c) (g134:GA b7c c6B) (k44:KA A44) (g44:GA A44 R44) (kl4:a9p->Bool) (xl4:a9p->d0A) (tl4:a9p->Bool) (yl4:a9p->d0B) (x:Den A92):Option (Den R92):=
 bif (decide ((↑(List.length x.1):Int)>12))then
 some ((false,()))
 else
 let w0:=((x.1,x.1,(↑(List.length x.1):Int),0,()),())
 bif (kl4 w0)then
 bif (tl4 w0)then
 some (yl4 w0).1
 else
 some ((true,()))
 else
 none
theorem g0A (k160 g160 k134 g134 k44 g44 kl4 xl4 tl4 yl4 x) :a0E (f8M k160 g160 k134 g134 k44 g44 kl4 xl4 tl4 yl4) (a0e Tryz.f92) (a1f R92) (a0V A92 x) []=r92 k160 g160 k134 g134 k44 g44 kl4 xl4 tl4 yl4 x:=by kernel_rfl
def F92 (x:Den A92):Option (Den R92):=r92 e2z e2A c6C c6D K44 G44 c4a d0E c4b c4c x
def K92 (x:Den A92):Bool:=(F92 x).isSome
def G92 (x:Den A92):Den R92:=(F92 x).getD (zero R92)
theorem e2D:a0q Tryz.prog (92,a0a A92 R92 K92 G92):=a0s (a0j mixed a0l a0k (.cons e7v (.cons d9B (.cons a6J .nil)))) (a0O Tryz.func92 rfl rfl rfl (by kernel_rfl) (a0D (l:=[d9C]) (by kernel_rfl) (.cons (a0r rfl (a0x (sh:=c3Z) (shX:=c1S) (shR:=c1T) (fun f v=>e2B e2z e2A c6C c6D K44 G44 c4a d0E c4b c4c f v) e2C ((),()) ((false,()),()))) (.nil)))) fun x=>g0A e2z e2A c6C c6D K44 G44 c4a d0E c4b c4c x
abbrev c7H:Ty:=.cons (S35) (.nil)
abbrev d6n:Ty:=.cons (.bool) (.nil)
noncomputable def f4W (k63 g63) :=a0t tab eqs [(63,a0a A63 R63 k63 g63)] 18 [.tmp 2] [] [] [] [] []
def f4X (k63:KA A63) (g63:GA A63 R63) (x:Den c7H):Option (Den d6n):=
 bif (k63 (x.1.1,()))then
 bif (g63 (x.1.1,())).1 then
 bif (k63 x.1.2)then
 bif (g63 x.1.2).1 then
 some ((!(x.1.1.1==x.1.2.1.1&&x.1.1.2.1==x.1.2.1.2.1),()))
 else
 some ((false,()))
 else
 none
 else
 some ((false,()))
 else
 none
theorem f4Y (k63 g63 x) :a0E (f4W k63 g63) (a0e Tryz.f161) (a1f d6n) (a0V c7H x) []=f4X k63 g63 x:=by kernel_rfl
def f0Z (x:Den c7H):Option (Den d6n):=f4X K63 G63 x
def e2E (x:Den c7H):Bool:=(f0Z x).isSome
def e2F (x:Den c7H):Den d6n:=(f0Z x).getD (zero d6n)
theorem e7y:a0q Tryz.prog (161,a0a c7H d6n e2E e2F):=a0s (a0j mixed a0l a0k (.cons d6h .nil)) (a0O Tryz.func161 rfl rfl rfl (by kernel_rfl) (a0m (by kernel_rfl))) fun x=>f4Y K63 G63 x
abbrev d0F:Ty:=.cons (S38) (.cons (.int .i64) (.nil))
abbrev d6o:Ty:=.cons (S33) (.nil)
noncomputable def f4Z:Env:=a0t tab eqs [] 17 [.cell 4 34] [] [] [] [] []
def f8N (x:Den d0F):Option (Den d6o):=
 bif (x.2.1==0)then
 some ((x.1.1.1,()))
 else
 let v0:=(IntKind.wrap .i64 (x.2.1-1))
 bif (decide (0<=v0)&&decide (v0<(↑(List.length x.1.2.1):Int)))then
 some (((List.getD x.1.2.1 (Int.toNat v0) (zero a1E)).1,()))
 else
 none
theorem f5a (x) :a0E (f4Z) (a0e Tryz.f123) (a1f d6o) (a0V d0F x) []=f8N x:=by kernel_rfl
def e7z (x:Den d0F):Option (Den d6o):=f8N x
def e2G (x:Den d0F):Bool:=(e7z x).isSome
def e2H (x:Den d0F):Den d6o:=(e7z x).getD (zero d6o)
theorem e7A:a0q Tryz.prog (123,a0a d0F d6o e2G e2H):=a0s (a0j mixed a0l a0k .nil) (a0O Tryz.func123 rfl rfl rfl (by kernel_rfl) (a0m (by kernel_rfl))) fun x=>f5a x
abbrev A93:Ty:=.cons (S38) (.nil)
abbrev R93:Ty:=.cons (.bool) (.nil)
abbrev a9q:Type:=((Unit×((List (Den (a1E)))×(Int×(Int×Unit))))×((Int×(Int×(Int×(Int×((List (Den (a1E)))×(Int×(Int×(Int×(Int×Unit)))))))))×Unit))
def c4d:ShS:=⟨[(1,.one (.ptr 0 0)),(23,.one (.sl (a1E))),(24,.one (.int .i64)),(25,.one (.int .i64))],[(0,.box [.int .i64,.int .i64,.int .i64,.int .i64,.sl (a1E),.int .i64,.int .i64,.int .i64,.int .i64])],1,0⟩
abbrev d0G:Type:=(Unit×Unit)
def c1U:ShS:=⟨[],[],0,0⟩
abbrev d0H:Type:=((Bool×Unit)×Unit)
def c1V:ShS:=⟨[(2,.one (.bool))],[],0,0⟩
noncomputable def f8O (k161 g161 k44 g44 k63 g63 k123 g123 kl4 xl4 tl4 yl4) :=a0t tab eqs [(161,a0a c7H d6n k161 g161),(44,a0a A44 R44 k44 g44),(63,a0a A63 R63 k63 g63),(123,a0a d0F d6o k123 g123)] 43 [.tmp 2] [] [] [(4,a1U [1,23,24,25] [] 0 [] [] c4d c1U c1V kl4 tl4 xl4 yl4)] [] []
noncomputable def d9D:Code:=(a0u (a0e Tryz.f93)).getD 0 .skip
def d0I (k161:KA c7H) (g161:GA c7H d6n) (k44:KA A44) (g44:GA A44 R44) (k63:KA A63) (g63:GA A63 R63) (k123:KA d0F) (g123:GA d0F d6o) (f:a9q->Option (d0G⊕d0H)) (v:a9q):Option (d0G⊕d0H):=
 bif (decide (v.1.2.2.2.1<v.1.2.2.1))then
 bif (decide (0<=v.1.2.2.2.1)&&decide (v.1.2.2.2.1<(↑(List.length v.1.2.1):Int)))then
 let v0:=(List.getD v.1.2.1 (Int.toNat v.1.2.2.2.1) (zero a1E))
 bif (k63 (v0.1,()))then
 bif (!(g63 (v0.1,())).1)then
 some (Sum.inr (((false,()),())))
 else
 let w0:=((((v.2.1.1,v.2.1.2.1,()),(v.2.1.2.2.1,v.2.1.2.2.2.1,()),()),v.2.1.2.2.2.2.1,((v.2.1.2.2.2.2.2.1,v.2.1.2.2.2.2.2.2.1,()),v.2.1.2.2.2.2.2.2.2,()),()),v.1.2.2.2)
 bif (k123 w0)then
 let v4:=(g123 w0)
 bif (v0.1.1==v4.1.1&&v0.1.2.1==v4.1.2.1)then
 some (Sum.inr (((false,()),())))
 else
 f ((((),v.1.2.1,v.1.2.2.1,(IntKind.wrap .i64 (v.1.2.2.2.1+1)),()),v.2))
 else
 none
 else
 none
 else
 none
 else
 some (Sum.inl (((),())))
theorem e2I (k161 g161 k44 g44 k63 g63 k123 g123 kl4 xl4 tl4 yl4 f v) :EBk (f8O k161 g161 k44 g44 k63 g63 k123 g123 kl4 xl4 tl4 yl4) d9D (a0B [1,23,24,25] [] 0 [] [] (atS c4d f) (a5J c1U c1V)) (mkS c4d v)=d0I k161 g161 k44 g44 k63 g63 k123 g123 f v:=by kernel_rfl
def e2J (v:a9q):Nat:=v.1.2.1.length+v.1.2.2.1.natAbs+v.1.2.2.2.1.natAbs+v.2.1.1.natAbs+v.2.1.2.1.natAbs+v.2.1.2.2.1.natAbs+v.2.1.2.2.2.1.natAbs+v.2.1.2.2.2.2.1.length+v.2.1.2.2.2.2.2.1.natAbs+v.2.1.2.2.2.2.2.2.1.natAbs+v.2.1.2.2.2.2.2.2.2.1.natAbs+v.2.1.2.2.2.2.2.2.2.2.1.natAbs+1000
def c6E (v:a9q):Option (d0G⊕d0H):=a1u (d0I e2E e2F K44 G44 K63 G63 e2G e2H) (e2J v) v
def c4e (v:a9q):Bool:=(c6E v).isSome
def c4f (v:a9q):Bool:=isR (c6E v)
def d0J (v:a9q):d0G:=xOf ((),()) (c6E v)
def c4g (v:a9q):d0H:=yOf ((false,()),()) (c6E v)
def r93 (k161:KA c7H) (g161:GA c7H d6n) (k44:KA A44) (g44:GA A44 R44) (k63:KA A63) (g63:GA A63 R63) (k123:KA d0F) (g123:GA d0F d6o) (kl4:a9q->Bool) (xl4:a9q->d0G) (tl4:a9q->Bool) (yl4:a9q->d0H) (x:Den A93):Option (Den R93):=
 bif (k161 (x.1.1,()))then
 bif (!(g161 (x.1.1,())).1)then
 some ((false,()))
 else
 bif (k161 x.1.2.2)then
 bif (!(g161 x.1.2.2).1)then
 some ((false,()))
 else
 let w1:=(↑(List.length x.1.2.1):Int)
 bif (k44 (w1,1,20,()))then
 bif (!(g44 (w1,1,20,())).1)then
 some ((false,()))
 else
 let w0:=(((),x.1.2.1,w1,0,()),(x.1.1.1.1,x.1.1.1.2.1,x.1.1.2.1.1,x.1.1.2.1.2.1,x.1.2.1,x.1.2.2.1.1.1,x.1.2.2.1.1.2.1,x.1.2.2.1.2.1),())
 bif (kl4 w0)then
 bif (tl4 w0)then
 some (yl4 w0).1
 else
 some ((true,()))
 else
 none
 else
 none
 else
 none
 else
 none
theorem g0B (k161 g161 k44 g44 k63 g63 k123 g123 kl4 xl4 tl4 yl4 x) :a0E (f8O k161 g161 k44 g44 k63 g63 k123 g123 kl4 xl4 tl4 yl4) (a0e Tryz.f93) (a1f R93) (a0V A93 x) []=r93 k161 g161 k44 g44 k63 g63 k123 g123 kl4 xl4 tl4 yl4 x:=by kernel_rfl
def F93 (x:Den A93):Option (Den R93):=r93 e2E e2F K44 G44 K63 G63 e2G e2H c4e d0J c4f c4g x
def K93 (x:Den A93):Bool:=(F93 x).isSome
def G93 (x:Den A93):Den R93:=(F93 x).getD (zero R93)
theorem f5b:a0q Tryz.prog (93,a0a A93 R93 K93 G93):=a0s (a0j mixed a0l a0k (.cons e7y (.cons a6J (.cons d6h (.cons e7A .nil))))) (a0O Tryz.func93 rfl rfl rfl (by kernel_rfl) (a0D (l:=[d9D]) (by kernel_rfl) (.cons (a0r rfl (a0x (sh:=c4d) (shX:=c1U) (shR:=c1V) (fun f v=>e2I e2E e2F K44 G44 K63 G63 e2G e2H c4e d0J c4f c4g f v) e2J ((),()) ((false,()),()))) (.nil)))) fun x=>g0B e2E e2F K44 G44 K63 G63 e2G e2H c4e d0J c4f c4g x
abbrev A42:Ty:=.cons (S40) (.nil)
abbrev R42:Ty:=.cons (.bool) (.nil)
noncomputable def g0C (k90 g90 k91 g91 k92 g92 k93 g93) :=a0t tab eqs [(90,a0a A90 R90 k90 g90),(91,a0a A91 R91 k91 g91),(92,a0a A92 R92 k92 g92),(93,a0a A93 R93 k93 g93)] 27 [.tmp 2] [] [] [] [] []
def r42 (k90:KA A90) (g90:GA A90 R90) (k91:KA A91) (g91:GA A91 R91) (k92:KA A92) (g92:GA A92 R92) (k93:KA A93) (g93:GA A93 R93) (x:Den A42):Option (Den R42):=
 bif (k90 (x.1.1,()))then
 bif (g90 (x.1.1,())).1 then
 bif (k91 (x.1.2.1,()))then
 bif (g91 (x.1.2.1,())).1 then
 bif (k92 (x.1.2.2.1,()))then
 bif (g92 (x.1.2.2.1,())).1 then
 bif (decide ((↑(List.length x.1.2.2.1):Int)>0))then
 bif (k93 x.1.2.2.2)then
 some (g93 x.1.2.2.2)
 else
 none
 else
 some ((false,()))
 else
 some ((false,()))
 else
 none
 else
 some ((false,()))
 else
 none
 else
 some ((false,()))
 else
 none
theorem g0D (k90 g90 k91 g91 k92 g92 k93 g93 x) :a0E (g0C k90 g90 k91 g91 k92 g92 k93 g93) (a0e Tryz.f42) (a1f R42) (a0V A42 x) []=r42 k90 g90 k91 g91 k92 g92 k93 g93 x:=by kernel_rfl
def F42 (x:Den A42):Option (Den R42):=r42 K90 G90 K91 G91 K92 G92 K93 G93 x
def K42 (x:Den A42):Bool:=(F42 x).isSome
def G42 (x:Den A42):Den R42:=(F42 x).getD (zero R42)
theorem f5c:a0q Tryz.prog (42,a0a A42 R42 K42 G42):=a0s (a0j mixed a0l a0k (.cons e7r (.cons e2y (.cons e2D (.cons f5b .nil))))) (a0O Tryz.func42 rfl rfl rfl (by kernel_rfl) (a0m (by kernel_rfl))) fun x=>g0D K90 G90 K91 G91 K92 G92 K93 G93 x
abbrev A46:Ty:=.cons (.slice (S97)) (.nil)
abbrev R46:Ty:=.cons (.bool) (.nil)
abbrev a9r:Type:=(((List (Den (S97)))×((List (Den (S97)))×(Int×(Int×Unit))))×Unit)
def c4h:ShS:=⟨[(0,.one (.sl (S97))),(8,.one (.sl (S97))),(9,.one (.int .i64)),(10,.one (.int .i64))],[],0,0⟩
abbrev d0K:Type:=(Unit×Unit)
def c1W:ShS:=⟨[],[],0,0⟩
abbrev d0L:Type:=((Bool×Unit)×Unit)
def c1X:ShS:=⟨[(2,.one (.bool))],[],0,0⟩
noncomputable def f8P (k63 g63 k43 g43 kl4 xl4 tl4 yl4) :=a0t tab eqs [(63,a0a A63 R63 k63 g63),(43,a0a A43 R43 k43 g43)] 41 [.tmp 2] [] [] [(4,a1U [0,8,9,10] [] 0 [] [] c4h c1W c1X kl4 tl4 xl4 yl4)] [] []
noncomputable def d9E:Code:=(a0u (a0e Tryz.f46)).getD 0 .skip
def d0M (k63:KA A63) (g63:GA A63 R63) (k43:KA A43) (g43:GA A43 R43) (f:a9r->Option (d0K⊕d0L)) (v:a9r):Option (d0K⊕d0L):=
 bif (decide (v.1.2.2.2.1<v.1.2.2.1))then
 bif (decide (0<=v.1.2.2.2.1)&&decide (v.1.2.2.2.1<(↑(List.length v.1.2.1):Int)))then
 let v0:=(List.getD v.1.2.1 (Int.toNat v.1.2.2.2.1) (zero S97))
 bif (k63 (v0.1,()))then
 bif (!(g63 (v0.1,())).1)then
 some (Sum.inr (((false,()),())))
 else
 bif (k43 v0.2)then
 bif (!(g43 v0.2).1)then
 some (Sum.inr (((false,()),())))
 else
 bif (decide (v.1.2.2.2.1>0))then
 let v5:=(IntKind.wrap .i64 (v.1.2.2.2.1-1))
 bif (decide (0<=v5)&&decide (v5<(↑(List.length v.1.1):Int)))then
 bif (decide (v0.2.1<=(List.getD v.1.1 (Int.toNat v5) (zero S97)).2.1))then
 some (Sum.inr (((false,()),())))
 else
 f (((v.1.1,v.1.2.1,v.1.2.2.1,(IntKind.wrap .i64 (v.1.2.2.2.1+1)),()),()))
 else
 none
 else
 f (((v.1.1,v.1.2.1,v.1.2.2.1,(IntKind.wrap .i64 (v.1.2.2.2.1+1)),()),()))
 else
 none
 else
 none
 else
 none
 else
 some (Sum.inl (((),())))
theorem e2K (k63 g63 k43 g43 kl4 xl4 tl4 yl4 f v) :EBk (f8P k63 g63 k43 g43 kl4 xl4 tl4 yl4) d9E (a0B [0,8,9,10] [] 0 [] [] (atS c4h f) (a5J c1W c1X)) (mkS c4h v)=d0M k63 g63 k43 g43 f v:=by kernel_rfl
def e2L (v:a9r):Nat:=v.1.1.length+v.1.2.1.length+v.1.2.2.1.natAbs+v.1.2.2.2.1.natAbs+1000
def d0N (v:a9r):Option (d0K⊕d0L):=a1u (d0M K63 G63 K43 G43) (e2L v) v
def c4i (v:a9r):Bool:=(d0N v).isSome
def c4j (v:a9r):Bool:=isR (d0N v)
def d0O (v:a9r):d0K:=xOf ((),()) (d0N v)
def c4k (v:a9r):d0L:=yOf ((false,()),()) (d0N v)
def r46 (k63:KA A63) (g63:GA A63 R63) (k43:KA A43) (g43:GA A43 R43) (kl4:a9r->Bool) (xl4:a9r->d0K) (tl4:a9r->Bool) (yl4:a9r->d0L) (x:Den A46):Option (Den R46):=
 bif (decide ((↑(List.length x.1):Int)>200))then
 some ((false,()))
 else
 let w0:=((x.1,x.1,(↑(List.length x.1):Int),0,()),())
 bif (kl4 w0)then
 bif (tl4 w0)then
 some (yl4 w0).1
 else
 some ((true,()))
 else
 none
theorem g0E (k63 g63 k43 g43 kl4 xl4 tl4 yl4 x) :a0E (f8P k63 g63 k43 g43 kl4 xl4 tl4 yl4) (a0e Tryz.f46) (a1f R46) (a0V A46 x) []=r46 k63 g63 k43 g43 kl4 xl4 tl4 yl4 x:=by kernel_rfl
def F46 (x:Den A46):Option (Den R46):=r46 K63 G63 K43 G43 c4i d0O c4j c4k x
def K46 (x:Den A46):Bool:=(F46 x).isSome
def G46 (x:Den A46):Den R46:=(F46 x).getD (zero R46)
theorem f5d:a0q Tryz.prog (46,a0a A46 R46 K46 G46):=a0s (a0j mixed a0l a0k (.cons d6h (.cons d6i .nil))) (a0O Tryz.func46 rfl rfl rfl (by kernel_rfl) (a0D (l:=[d9E]) (by kernel_rfl) (.cons (a0r rfl (a0x (sh:=c4h) (shX:=c1W) (shR:=c1X) (fun f v=>e2K K63 G63 K43 G43 c4i d0O c4j c4k f v) e2L ((),()) ((false,()),()))) (.nil)))) fun x=>g0E K63 G63 K43 G43 c4i d0O c4j c4k x
abbrev b9p:Ty:=.cons (.cpx .f64) (.cons (.cpx .f64) (.nil))
abbrev c6F:Ty:=.cons (.flt .f64) (.nil)
noncomputable def f5e:Env:=a0t tab eqs [] 16 [.tmp 4] [] [] [] [] []
def f8Q (x:Den b9p):Option (Den c6F):=
 some (((a0i .add .f64 (a0i .mul .f64 x.1.1 x.2.1.1) (a0i .mul .f64 x.1.2 x.2.1.2)),()))
theorem f5f (x) :a0E (f5e) (a0e Tryz.f225) (a1f c6F) (a0V b9p x) []=f8Q x:=by kernel_rfl
def e7B (x:Den b9p):Option (Den c6F):=f8Q x
def c6G (x:Den b9p):Bool:=(e7B x).isSome
def c6H (x:Den b9p):Den c6F:=(e7B x).getD (zero c6F)
theorem d0P:a0q Tryz.prog (225,a0a b9p c6F c6G c6H):=a0s (a0j mixed a0l a0k .nil) (a0O Tryz.func225 rfl rfl rfl (by kernel_rfl) (a0m (by kernel_rfl))) fun x=>f5f x
abbrev c4l:Sg:=⟨[.val (.int .i64),.val (.cpx .f64),.ptr 0,.ptr 1,.ptr 2],[.box (.cpx .f64),.box (.flt .f64),.box (.int .i64)]⟩
abbrev d0Q:Sg:=⟨[],[.box (.cpx .f64),.box (.flt .f64),.box (.int .i64)]⟩
noncomputable def f5g (k225 g225) :=a0t tab eqs [(225,a0a b9p c6F k225 g225)] 20 [] [] [] [] [] []
def f5h (k225:KA b9p) (g225:GA b9p c6F) (x:c4l.den):Option (d0Q.den):=
 bif (k225 (x.2.1,x.1.2.1,()))then
 bif (x.1.1==0)then
 some (((),x.2.1,(g225 (x.2.1,x.1.2.1,())).1,x.1.1,()))
 else
 let v1:=(g225 (x.2.1,x.1.2.1,()))
 bif (fgt .f64 v1.1 x.2.2.1)then
 some (((),x.2.1,v1.1,x.1.1,()))
 else
 some (((),x.2))
 else
 none
theorem f5i (k225 g225 x) :a1N (f5g k225 g225) (a0e Tryz.f224) c4l d0Q x=f5h k225 g225 x:=by kernel_rfl
def f1a (x:c4l.den):Option (d0Q.den):=f5h c6G c6H x
def d6p (x:c4l.den):Bool:=(f1a x).isSome
def d6q (x:c4l.den):d0Q.den:=(f1a x).getD (a1d d0Q)
theorem d9F:a0q Tryz.prog (224,a0n true c4l d0Q d6p d6q):=a1k (a0j mixed a0l a0k (.cons d0P .nil)) (a0O Tryz.func224 rfl rfl rfl (by kernel_rfl) (a0m (by kernel_rfl))) true fun x=>f5i c6G c6H x
abbrev c0Q:Ty:=.cons (.cpx .f64) (.cons (.cpx .f64) (.nil))
abbrev c7I:Ty:=.cons (.cpx .f64) (.nil)
noncomputable def f5j:Env:=a0t tab eqs [] 32 [.tmp 4] [] [] [] [] []
def f8R (x:Den c0Q):Option (Den c7I):=
 some ((((a0i .sub .f64 (a0i .mul .f64 x.1.1 x.2.1.1) (a0i .mul .f64 x.1.2 x.2.1.2)),(a0i .add .f64 (a0i .mul .f64 x.1.1 x.2.1.2) (a0i .mul .f64 x.1.2 x.2.1.1))),()))
theorem f5k (x) :a0E (f5j) (a0e Tryz.f177) (a1f c7I) (a0V c0Q x) []=f8R x:=by kernel_rfl
def e7C (x:Den c0Q):Option (Den c7I):=f8R x
def c6I (x:Den c0Q):Bool:=(e7C x).isSome
def c6J (x:Den c0Q):Den c7I:=(e7C x).getD (zero c7I)
theorem d9G:a0q Tryz.prog (177,a0a c0Q c7I c6I c6J):=a0s (a0j mixed a0l a0k .nil) (a0O Tryz.func177 rfl rfl rfl (by kernel_rfl) (a0m (by kernel_rfl))) fun x=>f5k x
abbrev d6r:Sg:=⟨[.fnv 224 [0,1,2]],[.box (.cpx .f64),.box (.flt .f64),.box (.int .i64)]⟩
abbrev d9H:Sg:=⟨[],[.box (.cpx .f64),.box (.flt .f64),.box (.int .i64)]⟩
abbrev a8R:Type:=((Unit×((Nat×Nat)×(Int×Unit)))×(((Nat×Nat)×Unit)×((Nat×Unit)×((Int×Unit)×Unit))))
def b5x:ShS:=⟨[(0,.one (.fn 224 [0,1,2])),(2,.one (.cpx .f64)),(3,.one (.int .i64))],[(0,.box [.cpx .f64]),(1,.box [.flt .f64]),(2,.box [.int .i64])],3,3⟩
abbrev b9q:Type:=(Unit×(((Nat×Nat)×Unit)×((Nat×Unit)×((Int×Unit)×Unit))))
def b5y:ShS:=⟨[],[(0,.box [.cpx .f64]),(1,.box [.flt .f64]),(2,.box [.int .i64])],3,3⟩
noncomputable def e7D (k177 g177 k224 g224 kl2 xl2) :=a0t tab eqs [(177,a0a c0Q c7I k177 g177),(224,a0n true c4l d0Q k224 g224)] 14 [] [] [] [(2,a1X [0,2,3] [] 0 [] [] b5x b5y kl2 xl2)] [] []
noncomputable def d0R:Code:=(a0u (a0e Tryz.f223)).getD 0 .skip
def b9r (k177:KA c0Q) (g177:GA c0Q c7I) (k224:KI c4l) (g224:GI c4l d0Q) (f:a8R->Option (b9q)) (v:a8R):Option (b9q):=
 bif (decide (v.1.2.2.1<360))then
 bif (k224 ((v.1.2.2.1,v.1.2.1,(),(),(),()),v.2.1.1,v.2.2.1.1,v.2.2.2.1))then
 bif (k177 (v.1.2.1,(4607181046959943561,4580687535080594718),()))then
 let v4:=(g224 ((v.1.2.2.1,v.1.2.1,(),(),(),()),v.2.1.1,v.2.2.1.1,v.2.2.2.1))
 f ((((),(g177 (v.1.2.1,(4607181046959943561,4580687535080594718),())).1,(IntKind.wrap .i64 (v.1.2.2.1+1)),()),(v4.2.1,()),(v4.2.2.1,()),v4.2.2.2,()))
 else
 none
 else
 none
 else
 some (((),v.2))
theorem d6s (k177 g177 k224 g224 kl2 xl2 f v) :EBk (e7D k177 g177 k224 g224 kl2 xl2) d0R (a0B [0,2,3] [] 0 [] [] (atS b5x f) (a5W b5y)) (mkS b5x v)=b9r k177 g177 k224 g224 f v:=by kernel_rfl
def c4m (v:a8R):Nat:=v.1.2.2.1.natAbs+v.2.2.2.1.1.natAbs+1000
def d0S (v:a8R):Option (b9q):=a1u (b9r c6I c6J d6p d6q) (c4m v) v
def b5z (v:a8R):Bool:=(d0S v).isSome
def b5A (v:a8R):b9q:=(d0S v).getD ((),(((0,0),()),((0,()),((0,()),()))))
def f5l (k177:KA c0Q) (g177:GA c0Q c7I) (k224:KI c4l) (g224:GI c4l d0Q) (kl2:a8R->Bool) (xl2:a8R->b9q) (x:d6r.den):Option (d9H.den):=
 let w0:=(((),(4607182418800017408,0),0,()),(x.2.1,()),(x.2.2.1,()),x.2.2.2,())
 bif (kl2 w0)then
 let v1:=(xl2 w0)
 some (((),v1.2.1.1,v1.2.2.1.1,v1.2.2.2.1))
 else
 none
theorem f5m (k177 g177 k224 g224 kl2 xl2 x) :a1N (e7D k177 g177 k224 g224 kl2 xl2) (a0e Tryz.f223) d6r d9H x=f5l k177 g177 k224 g224 kl2 xl2 x:=by kernel_rfl
def f1b (x:d6r.den):Option (d9H.den):=f5l c6I c6J d6p d6q b5z b5A x
def f1c (x:d6r.den):Bool:=(f1b x).isSome
def f1d (x:d6r.den):d9H.den:=(f1b x).getD (a1d d9H)
theorem e7E:a0q Tryz.prog (223,a0n true d6r d9H f1c f1d):=a1k (a0j mixed a0l a0k (.cons d9G (.cons d9F .nil))) (a0O Tryz.func223 rfl rfl rfl (by kernel_rfl) (a0D (l:=[d0R]) (by kernel_rfl) (.cons (a0r rfl (a0y (sh:=b5x) (shX:=b5y) (fun f v=>d6s c6I c6J d6p d6q b5z b5A f v) c4m ((),(((0,0),()),((0,()),((0,()),())))))) (.nil)))) true fun x=>f5m c6I c6J d6p d6q b5z b5A x
abbrev d6t:Ty:=.cons (.cpx .f64) (.nil)
abbrev d9I:Ty:=.cons (.int .i64) (.nil)
noncomputable def f5n (k61 g61 k224 g224 k223 g223) :=a0t tab eqs [(61,a0a A61 R61 k61 g61),(224,a0n true c4l d0Q k224 g224),(223,a0n true d6r d9H k223 g223)] 15 [.tmp 2] [] [] [] [] []
def f5o (k61:KA A61) (g61:GA A61 R61) (k224:KI c4l) (g224:GI c4l d0Q) (k223:KI d6r) (g223:GI d6r d9H) (x:Den d6t):Option (Den d9I):=
 bif (k61 x)then
 bif (!(g61 x).1)then
 some ((-1,()))
 else
 bif (feq .f64 x.1.1 0&&feq .f64 x.1.2 0)then
 some ((-1,()))
 else
 bif (k223 (((),()),x.1,0,0,()))then
 some (g223 (((),()),x.1,0,0,())).2.2.2
 else
 none
 else
 none
theorem f5p (k61 g61 k224 g224 k223 g223 x) :a0E (f5n k61 g61 k224 g224 k223 g223) (a0e Tryz.f178) (a1f d9I) (a0V d6t x) []=f5o k61 g61 k224 g224 k223 g223 x:=by kernel_rfl
def e7F (x:Den d6t):Option (Den d9I):=f5o K61 G61 d6p d6q f1c f1d x
def f1e (x:Den d6t):Bool:=(e7F x).isSome
def f1f (x:Den d6t):Den d9I:=(e7F x).getD (zero d9I)
theorem e7G:a0q Tryz.prog (178,a0a d6t d9I f1e f1f):=a0s (a0j mixed a0l a0k (.cons c1O (.cons d9F (.cons e7E .nil)))) (a0O Tryz.func178 rfl rfl rfl (by kernel_rfl) (a0m (by kernel_rfl))) fun x=>f5p K61 G61 d6p d6q f1c f1d x
abbrev c7J:Ty:=.cons (.cpx .f32) (.nil)
abbrev d4e:Ty:=.cons (.int .i64) (.nil)
noncomputable def f5q (k45 g45 k178 g178) :=a0t tab eqs [(45,a0a A45 R45 k45 g45),(178,a0a d6t d9I k178 g178)] 20 [.tmp 2] [] [] [] [] []
def f5r (k45:KA A45) (g45:GA A45 R45) (k178:KA d6t) (g178:GA d6t d9I) (x:Den c7J):Option (Den d4e):=
 bif (k45 x)then
 bif (!(g45 x).1)then
 some ((-1,()))
 else
 bif (feq .f32 x.1.1 0&&feq .f32 x.1.2 0)then
 some ((-1,()))
 else
 let v2:=(a5T .f32 x.1.1)
 let v3:=(a5T .f32 x.1.2)
 bif (k178 (((a0Z .f32 .f64 v2).2,(a0Z .f32 .f64 v3).2),()))then
 some (g178 (((a0Z .f32 .f64 v2).2,(a0Z .f32 .f64 v3).2),()))
 else
 none
 else
 none
theorem f5s (k45 g45 k178 g178 x) :a0E (f5q k45 g45 k178 g178) (a0e Tryz.f110) (a1f d4e) (a0V c7J x) []=f5r k45 g45 k178 g178 x:=by kernel_rfl
def e7H (x:Den c7J):Option (Den d4e):=f5r K45 G45 f1e f1f x
def d6u (x:Den c7J):Bool:=(e7H x).isSome
def c7K (x:Den c7J):Den d4e:=(e7H x).getD (zero d4e)
theorem d9J:a0q Tryz.prog (110,a0a c7J d4e d6u c7K):=a0s (a0j mixed a0l a0k (.cons b4Z (.cons e7G .nil))) (a0O Tryz.func110 rfl rfl rfl (by kernel_rfl) (a0m (by kernel_rfl))) fun x=>f5s K45 G45 f1e f1f x
abbrev d6v:Ty:=.cons (.cpx .f32) (.nil)
abbrev d9K:Ty:=.cons (.cpx .f64) (.nil)
noncomputable def f5t:Env:=a0t tab eqs [] 10 [.tmp 2] [] [] [] [] []
def f8S (x:Den d6v):Option (Den d9K):=
 some ((((a0Z .f32 .f64 x.1.1).2,(a0Z .f32 .f64 x.1.2).2),()))
theorem f5u (x) :a0E (f5t) (a0e Tryz.f181) (a1f d9K) (a0V d6v x) []=f8S x:=by kernel_rfl
def f5v (x:Den d6v):Option (Den d9K):=f8S x
def f1g (x:Den d6v):Bool:=(f5v x).isSome
def f1h (x:Den d6v):Den d9K:=(f5v x).getD (zero d9K)
theorem e7I:a0q Tryz.prog (181,a0a d6v d9K f1g f1h):=a0s (a0j mixed a0l a0k .nil) (a0O Tryz.func181 rfl rfl rfl (by kernel_rfl) (a0m (by kernel_rfl))) fun x=>f5u x
abbrev d6w:Ty:=.cons (.flt .f64) (.nil)
abbrev d9L:Ty:=.cons (.flt .f64) (.nil)
abbrev a8S:Type:=((Nat×(Nat×(Int×Unit)))×Unit)
def b5B:ShS:=⟨[(0,.one (.flt .f64)),(3,.one (.flt .f64)),(4,.one (.int .i64))],[],0,0⟩
abbrev b9s:Type:=((Nat×Unit)×Unit)
def b5C:ShS:=⟨[(3,.one (.flt .f64))],[],0,0⟩
noncomputable def e7J (kl5 xl5) :=a0t tab eqs [] 25 [.tmp 2] [] [] [(5,a1X [0,3,4] [] 0 [3] [] b5B b5C kl5 xl5)] [] []
noncomputable def d0T:Code:=(a0u (a0e Tryz.f228)).getD 0 .skip
def b9t (f:a8S->Option (b9s)) (v:a8S):Option (b9s):=
 bif (decide (v.1.2.2.1<60))then
 f (((v.1.1,(a0i .quo .f64 (a0i .add .f64 v.1.2.1 (a0i .quo .f64 v.1.1 v.1.2.1)) 4611686018427387904),(IntKind.wrap .i64 (v.1.2.2.1+1)),()),()))
 else
 some (((v.1.2.1,()),()))
theorem d6x (kl5 xl5 f v) :EBk (e7J kl5 xl5) d0T (a0B [0,3,4] [] 0 [3] [] (atS b5B f) (a5W b5C)) (mkS b5B v)=b9t f v:=by kernel_rfl
def c4n (v:a8S):Nat:=v.1.2.2.1.natAbs+1000
def d0U (v:a8S):Option (b9s):=a1u (b9t) (c4n v) v
def b5D (v:a8S):Bool:=(d0U v).isSome
def b5E (v:a8S):b9s:=(d0U v).getD ((0,()),())
def f5w (kl5:a8S->Bool) (xl5:a8S->b9s) (x:Den d6w):Option (Den d9L):=
 bif (fgt .f64 x.1 4427486594234968593||feq .f64 x.1 4427486594234968593)then
 bif (!(flt .f64 x.1 4861130398305394688||feq .f64 x.1 4861130398305394688))then
 some ((0,()))
 else
 let v0:=(c0T .f64 x.1 4607182418800017408)
 bif (kl5 ((x.1,v0,0,()),()))then
 some (xl5 ((x.1,v0,0,()),())).1
 else
 none
 else
 some ((0,()))
theorem f5x (kl5 xl5 x) :a0E (e7J kl5 xl5) (a0e Tryz.f228) (a1f d9L) (a0V d6w x) []=f5w kl5 xl5 x:=by kernel_rfl
def e7K (x:Den d6w):Option (Den d9L):=f5w b5D b5E x
def f1i (x:Den d6w):Bool:=(e7K x).isSome
def f1j (x:Den d6w):Den d9L:=(e7K x).getD (zero d9L)
theorem e7L:a0q Tryz.prog (228,a0a d6w d9L f1i f1j):=a0s (a0j mixed a0l a0k .nil) (a0O Tryz.func228 rfl rfl rfl (by kernel_rfl) (a0D (l:=[d0T]) (by kernel_rfl) (.cons (a0r rfl (a0y (sh:=b5B) (shX:=b5C) (fun f v=>d6x b5D b5E f v) c4n ((0,()),()))) (.nil)))) fun x=>f5x b5D b5E x
abbrev d6y:Ty:=.cons (.cpx .f64) (.nil)
abbrev d9M:Ty:=.cons (.flt .f64) (.nil)
noncomputable def f5y (k61 g61 k225 g225 k228 g228) :=a0t tab eqs [(61,a0a A61 R61 k61 g61),(225,a0a b9p c6F k225 g225),(228,a0a d6w d9L k228 g228)] 10 [.tmp 2] [] [] [] [] []
def f5z (k61:KA A61) (g61:GA A61 R61) (k225:KA b9p) (g225:GA b9p c6F) (k228:KA d6w) (g228:GA d6w d9L) (x:Den d6y):Option (Den d9M):=
 bif (k61 x)then
 bif (!(g61 x).1)then
 some ((0,()))
 else
 bif (k225 (x.1,x))then
 let v3:=(g225 (x.1,x))
 bif (k228 v3)then
 some (g228 v3)
 else
 none
 else
 none
 else
 none
theorem f5A (k61 g61 k225 g225 k228 g228 x) :a0E (f5y k61 g61 k225 g225 k228 g228) (a0e Tryz.f180) (a1f d9M) (a0V d6y x) []=f5z k61 g61 k225 g225 k228 g228 x:=by kernel_rfl
def e7M (x:Den d6y):Option (Den d9M):=f5z K61 G61 c6G c6H f1i f1j x
def f1k (x:Den d6y):Bool:=(e7M x).isSome
def f1l (x:Den d6y):Den d9M:=(e7M x).getD (zero d9M)
theorem e7N:a0q Tryz.prog (180,a0a d6y d9M f1k f1l):=a0s (a0j mixed a0l a0k (.cons c1O (.cons d0P (.cons e7L .nil)))) (a0O Tryz.func180 rfl rfl rfl (by kernel_rfl) (a0m (by kernel_rfl))) fun x=>f5A K61 G61 c6G c6H f1i f1j x
abbrev c7L:Ty:=.cons (.cpx .f32) (.nil)
abbrev d4f:Ty:=.cons (.flt .f32) (.nil)
noncomputable def f5B (k45 g45 k181 g181 k180 g180) :=a0t tab eqs [(45,a0a A45 R45 k45 g45),(181,a0a d6v d9K k181 g181),(180,a0a d6y d9M k180 g180)] 10 [.tmp 2] [] [] [] [] []
def f5C (k45:KA A45) (g45:GA A45 R45) (k181:KA d6v) (g181:GA d6v d9K) (k180:KA d6y) (g180:GA d6y d9M) (x:Den c7L):Option (Den d4f):=
 bif (k45 x)then
 bif (!(g45 x).1)then
 some ((0,()))
 else
 bif (k181 x)then
 let v3:=(g181 x)
 bif (k180 v3)then
 let v5:=(g180 v3)
 bif ((a0Z .f64 .f32 v5.1).1)then
 some (((a0Z .f64 .f32 v5.1).2,()))
 else
 none
 else
 none
 else
 none
 else
 none
theorem f5D (k45 g45 k181 g181 k180 g180 x) :a0E (f5B k45 g45 k181 g181 k180 g180) (a0e Tryz.f112) (a1f d4f) (a0V c7L x) []=f5C k45 g45 k181 g181 k180 g180 x:=by kernel_rfl
def e7O (x:Den c7L):Option (Den d4f):=f5C K45 G45 f1g f1h f1k f1l x
def d6z (x:Den c7L):Bool:=(e7O x).isSome
def d4g (x:Den c7L):Den d4f:=(e7O x).getD (zero d4f)
theorem d9N:a0q Tryz.prog (112,a0a c7L d4f d6z d4g):=a0s (a0j mixed a0l a0k (.cons b4Z (.cons e7I (.cons e7N .nil)))) (a0O Tryz.func112 rfl rfl rfl (by kernel_rfl) (a0m (by kernel_rfl))) fun x=>f5D K45 G45 f1g f1h f1k f1l x
abbrev c4o:Ty:=.cons (.int .i64) (.nil)
abbrev d0V:Ty:=.cons (.int .i64) (.nil)
noncomputable def f5E:Env:=a0t tab eqs [] 7 [.tmp 2] [] [] [] [] []
def f5F (x:Den c4o):Option (Den d0V):=
 some ((Int.tmod (IntKind.wrap .i64 (Int.tmod x.1 360+360)) 360,()))
theorem f5G (x) :a0E (f5E) (a0e Tryz.f176) (a1f d0V) (a0V c4o x) []=f5F x:=by kernel_rfl
def d6A (x:Den c4o):Option (Den d0V):=f5F x
def d4h (x:Den c4o):Bool:=(d6A x).isSome
def d4i (x:Den c4o):Den d0V:=(d6A x).getD (zero d0V)
theorem d9O:a0q Tryz.prog (176,a0a c4o d0V d4h d4i):=a0s (a0j mixed a0l a0k .nil) (a0O Tryz.func176 rfl rfl rfl (by kernel_rfl) (a0m (by kernel_rfl))) fun x=>f5G x
abbrev c7M:Ty:=.cons (.int .i64) (.cons (.int .i64) (.nil))
abbrev d4j:Ty:=.cons (.int .i64) (.nil)
noncomputable def f5H (k176 g176) :=a0t tab eqs [(176,a0a c4o d0V k176 g176)] 17 [.tmp 4] [] [] [] [] []
def f5I (k176:KA c4o) (g176:GA c4o d0V) (x:Den c7M):Option (Den d4j):=
 bif (k176 x.2)then
 bif (k176 (x.1,()))then
 let v4:=(IntKind.wrap .i64 ((g176 x.2).1-(g176 (x.1,())).1))
 bif (k176 (v4,()))then
 let v6:=(g176 (v4,()))
 let v7:=(IntKind.wrap .i64 (0-v6.1))
 bif (k176 (v7,()))then
 some ((a4j v6.1 (g176 (v7,())).1,()))
 else
 none
 else
 none
 else
 none
 else
 none
theorem f5J (k176 g176 x) :a0E (f5H k176 g176) (a0e Tryz.f113) (a1f d4j) (a0V c7M x) []=f5I k176 g176 x:=by kernel_rfl
def e7P (x:Den c7M):Option (Den d4j):=f5I d4h d4i x
def d6B (x:Den c7M):Bool:=(e7P x).isSome
def d4k (x:Den c7M):Den d4j:=(e7P x).getD (zero d4j)
theorem d9P:a0q Tryz.prog (113,a0a c7M d4j d6B d4k):=a0s (a0j mixed a0l a0k (.cons d9O .nil)) (a0O Tryz.func113 rfl rfl rfl (by kernel_rfl) (a0m (by kernel_rfl))) fun x=>f5J d4h d4i x
abbrev b5F:Ty:=.cons (.flt .f32) (.cons (.flt .f32) (.cons (.flt .f32) (.nil)))
abbrev c4p:Ty:=.cons (.flt .f32) (.nil)
noncomputable def f5K:Env:=a0t tab eqs [] 16 [.tmp 6] [] [] [] [] []
def f8T (x:Den b5F):Option (Den c4p):=
 some (((a0i .add .f32 x.1 (a0i .mul .f32 (a0i .sub .f32 x.2.1 x.1) x.2.2.1)),()))
theorem f5L (x) :a0E (f5K) (a0e Tryz.f227) (a1f c4p) (a0V b5F x) []=f8T x:=by kernel_rfl
def f5M (x:Den b5F):Option (Den c4p):=f8T x
def c4q (x:Den b5F):Bool:=(f5M x).isSome
def c4r (x:Den b5F):Den c4p:=(f5M x).getD (zero c4p)
theorem d0W:a0q Tryz.prog (227,a0a b5F c4p c4q c4r):=a0s (a0j mixed a0l a0k .nil) (a0O Tryz.func227 rfl rfl rfl (by kernel_rfl) (a0m (by kernel_rfl))) fun x=>f5L x
abbrev d0X:Ty:=.cons (S27) (.cons (.slice (.flt .f32)) (.cons (.int .i64) (.nil)))
abbrev d6C:Ty:=.cons (.flt .f32) (.nil)
abbrev a4V:Type:=(((List (Den (.flt .f32)))×(Int×(Unit×((List (Den (.int .i64)))×(Int×(Int×Unit))))))×(((List (Den (.flt .f32)))×((List (Den (.int .i64)))×((List (Den (.slice (.flt .f32))))×Unit)))×Unit))
def b5G:ShS:=⟨[(1,.one (.sl (.flt .f32))),(2,.one (.int .i64)),(3,.one (.ptr 0 0)),(11,.one (.sl (.int .i64))),(12,.one (.int .i64)),(13,.one (.int .i64))],[(0,.box [.sl (.flt .f32),.sl (.int .i64),.sl (.slice (.flt .f32))])],1,0⟩
abbrev b9u:Type:=(Unit×Unit)
def b5H:ShS:=⟨[],[],0,0⟩
abbrev b9v:Type:=((Nat×Unit)×Unit)
def b5I:ShS:=⟨[(6,.one (.flt .f32))],[],0,0⟩
noncomputable def e7Q (k227 g227 kl2 xl2 tl2 yl2) :=a0t tab eqs [(227,a0a b5F c4p k227 g227)] 54 [.tmp 6] [] [] [(2,a1U [1,2,3,11,12,13] [] 0 [] [] b5G b5H b5I kl2 tl2 xl2 yl2)] [] []
noncomputable def d0Y:Code:=(a0u (a0e Tryz.f226)).getD 0 .skip
def b9w (k227:KA b5F) (g227:GA b5F c4p) (f:a4V->Option (b9u⊕b9v)) (v:a4V):Option (b9u⊕b9v):=
 bif (decide (v.1.2.2.2.2.2.1<v.1.2.2.2.2.1))then
 bif (decide (0<=v.1.2.2.2.2.2.1)&&decide (v.1.2.2.2.2.2.1<(↑(List.length v.1.2.2.2.1):Int)))then
 let v0:=(List.getD v.1.2.2.2.1 (Int.toNat v.1.2.2.2.2.2.1) (zero (Ty.int IntKind.i64)))
 bif (v0==v.1.2.1)then
 bif (decide (0<=v.1.2.2.2.2.2.1)&&decide (v.1.2.2.2.2.2.1<(↑(List.length v.1.1):Int)))then
 some (Sum.inr ((((List.getD v.1.1 (Int.toNat v.1.2.2.2.2.2.1) (zero (Ty.flt .f32))),()),())))
 else
 none
 else
 bif (decide (v0>v.1.2.1))then
 let v1:=(IntKind.wrap .i64 (v.1.2.2.2.2.2.1-1))
 bif (decide (0<=v1)&&decide (v1<(↑(List.length v.2.1.2.1):Int)))then
 bif (decide (0<=v1)&&decide (v1<(↑(List.length v.1.1):Int)))then
 bif (decide (0<=v.1.2.2.2.2.2.1)&&decide (v.1.2.2.2.2.2.1<(↑(List.length v.1.1):Int)))then
 let v2:=(List.getD v.1.1 (Int.toNat v1) (zero (Ty.flt .f32)))
 let v3:=(List.getD v.1.1 (Int.toNat v.1.2.2.2.2.2.1) (zero (Ty.flt .f32)))
 let v4:=(List.getD v.2.1.2.1 (Int.toNat v1) (zero (Ty.int IntKind.i64)))
 let v7:=(a0i .quo .f32 (FloatKind.nearest .f32 (IntKind.wrap .i64 (v.1.2.1-v4))) (FloatKind.nearest .f32 (IntKind.wrap .i64 (v0-v4))))
 bif (k227 (v2,v3,v7,()))then
 some (Sum.inr (((g227 (v2,v3,v7,())),())))
 else
 none
 else
 none
 else
 none
 else
 none
 else
 f (((v.1.1,v.1.2.1,(),v.1.2.2.2.1,v.1.2.2.2.2.1,(IntKind.wrap .i64 (v.1.2.2.2.2.2.1+1)),()),v.2))
 else
 none
 else
 some (Sum.inl (((),())))
theorem d6D (k227 g227 kl2 xl2 tl2 yl2 f v) :EBk (e7Q k227 g227 kl2 xl2 tl2 yl2) d0Y (a0B [1,2,3,11,12,13] [] 0 [] [] (atS b5G f) (a5J b5H b5I)) (mkS b5G v)=b9w k227 g227 f v:=by kernel_rfl
def c4s (v:a4V):Nat:=v.1.1.length+v.1.2.1.natAbs+v.1.2.2.2.1.length+v.1.2.2.2.2.1.natAbs+v.1.2.2.2.2.2.1.natAbs+v.2.1.1.length+v.2.1.2.1.length+v.2.1.2.2.1.length+1000
def b9x (v:a4V):Option (b9u⊕b9v):=a1u (b9w c4q c4r) (c4s v) v
def b5J (v:a4V):Bool:=(b9x v).isSome
def b5K (v:a4V):Bool:=isR (b9x v)
def c1Y (v:a4V):b9u:=xOf ((),()) (b9x v)
def b5L (v:a4V):b9v:=yOf ((0,()),()) (b9x v)
def f5N (k227:KA b5F) (g227:GA b5F c4p) (kl2:a4V->Bool) (xl2:a4V->b9u) (tl2:a4V->Bool) (yl2:a4V->b9v) (x:Den d0X):Option (Den d6C):=
 let w0:=((x.2.1,x.2.2.1,(),x.1.2.1,(↑(List.length x.1.2.1):Int),0,()),x.1,())
 bif (kl2 w0)then
 bif (tl2 w0)then
 some (yl2 w0).1
 else
 some ((0,()))
 else
 none
theorem f5O (k227 g227 kl2 xl2 tl2 yl2 x) :a0E (e7Q k227 g227 kl2 xl2 tl2 yl2) (a0e Tryz.f226) (a1f d6C) (a0V d0X x) []=f5N k227 g227 kl2 xl2 tl2 yl2 x:=by kernel_rfl
def d9Q (x:Den d0X):Option (Den d6C):=f5N c4q c4r b5J c1Y b5K b5L x
def e2M (x:Den d0X):Bool:=(d9Q x).isSome
def e2N (x:Den d0X):Den d6C:=(d9Q x).getD (zero d6C)
theorem e7R:a0q Tryz.prog (226,a0a d0X d6C e2M e2N):=a0s (a0j mixed a0l a0k (.cons d0W .nil)) (a0O Tryz.func226 rfl rfl rfl (by kernel_rfl) (a0D (l:=[d0Y]) (by kernel_rfl) (.cons (a0r rfl (a0x (sh:=b5G) (shX:=b5H) (shR:=b5I) (fun f v=>d6D c4q c4r b5J c1Y b5K b5L f v) c4s ((),()) ((0,()),()))) (.nil)))) fun x=>f5O c4q c4r b5J c1Y b5K b5L x
abbrev d6E:Ty:=.cons (S27) (.cons (.flt .f32) (.cons (.int .i64) (.nil)))
abbrev d9R:Ty:=.cons (.flt .f32) (.nil)
abbrev a8T:Type:=((Nat×(Int×(Unit×(Int×Unit))))×(((List (Den (.flt .f32)))×((List (Den (.int .i64)))×((List (Den (.slice (.flt .f32))))×Unit)))×Unit))
def b5M:ShS:=⟨[(1,.one (.flt .f32)),(2,.one (.int .i64)),(3,.one (.ptr 0 0)),(8,.one (.int .i64))],[(0,.box [.sl (.flt .f32),.sl (.int .i64),.sl (.slice (.flt .f32))])],1,0⟩
abbrev b9y:Type:=((Nat×(Int×(Unit×(Int×Unit))))×(((List (Den (.flt .f32)))×((List (Den (.int .i64)))×((List (Den (.slice (.flt .f32))))×Unit)))×Unit))
def b5N:ShS:=⟨[(1,.one (.flt .f32)),(2,.one (.int .i64)),(3,.one (.ptr 0 0)),(8,.one (.int .i64))],[(0,.box [.sl (.flt .f32),.sl (.int .i64),.sl (.slice (.flt .f32))])],1,0⟩
noncomputable def e7S (k226 g226 k227 g227 kl7 xl7) :=a0t tab eqs [(226,a0a d0X d6C k226 g226),(227,a0a b5F c4p k227 g227)] 98 [.tmp 6] [] [] [(7,a1X [1,2,3,8] [] 0 [1,2,3,8] [] b5M b5N kl7 xl7)] [] []
noncomputable def d0Z:Code:=(a0u (a0e Tryz.f179)).getD 0 .skip
def b9z (k226:KA d0X) (g226:GA d0X d6C) (k227:KA b5F) (g227:GA b5F c4p) (f:a8T->Option (b9y)) (v:a8T):Option (b9y):=
 let v0:=(IntKind.wrap .i64 (v.1.2.2.2.1+1))
 bif (decide (0<=v0)&&decide (v0<(↑(List.length v.2.1.1):Int)))then
 let v1:=(List.getD v.2.1.1 (Int.toNat v0) (zero (Ty.flt .f32)))
 bif (flt .f32 v1 v.1.1||feq .f32 v1 v.1.1)then
 f (((v.1.1,v.1.2.1,(),v0,()),v.2))
 else
 some (v)
 else
 none
theorem d6F (k226 g226 k227 g227 kl7 xl7 f v) :EBk (e7S k226 g226 k227 g227 kl7 xl7) d0Z (a0B [1,2,3,8] [] 0 [1,2,3,8] [] (atS b5M f) (a5W b5N)) (mkS b5M v)=b9z k226 g226 k227 g227 f v:=by kernel_rfl
def c4t (v:a8T):Nat:=v.1.2.1.natAbs+v.1.2.2.2.1.natAbs+v.2.1.1.length+v.2.1.2.1.length+v.2.1.2.2.1.length+1000
def d1a (v:a8T):Option (b9y):=a1u (b9z e2M e2N c4q c4r) (c4t v) v
def b5O (v:a8T):Bool:=(d1a v).isSome
def b5P (v:a8T):b9y:=(d1a v).getD ((0,(0,((),(0,())))),(([],([],([],()))),()))
def f5P (k226:KA d0X) (g226:GA d0X d6C) (k227:KA b5F) (g227:GA b5F c4p) (kl7:a8T->Bool) (xl7:a8T->b9y) (x:Den d6E):Option (Den d9R):=
 bif (decide (0<=0)&&decide (0<(↑(List.length x.1.1):Int)))then
 let v0:=(List.getD x.1.1 (Int.toNat 0) (zero (Ty.flt .f32)))
 bif (flt .f32 x.2.1 v0||feq .f32 x.2.1 v0)then
 bif (decide (0<=0)&&decide (0<(↑(List.length x.1.1):Int)))then
 bif (decide (0<=0)&&decide (0<(↑(List.length x.1.2.2.1):Int)))then
 let v1:=(List.getD x.1.2.2.1 (Int.toNat 0) (zero (Ty.slice (Ty.flt .f32))))
 bif (k226 (x.1,v1,x.2.2))then
 some (((a0i .mul .f32 (a0i .quo .f32 x.2.1 v0) (g226 (x.1,v1,x.2.2)).1),()))
 else
 none
 else
 none
 else
 none
 else
 let v1:=(IntKind.wrap .i64 ((↑(List.length x.1.1):Int)-1))
 bif (decide (0<=v1)&&decide (v1<(↑(List.length x.1.1):Int)))then
 let v2:=(List.getD x.1.1 (Int.toNat v1) (zero (Ty.flt .f32)))
 bif (fgt .f32 x.2.1 v2||feq .f32 x.2.1 v2)then
 bif (decide (0<=v1)&&decide (v1<(↑(List.length x.1.2.2.1):Int)))then
 let v3:=(List.getD x.1.2.2.1 (Int.toNat v1) (zero (Ty.slice (Ty.flt .f32))))
 bif (k226 (x.1,v3,x.2.2))then
 some (g226 (x.1,v3,x.2.2))
 else
 none
 else
 none
 else
 bif (kl7 ((x.2.1,x.2.2.1,(),0,()),x.1,()))then
 let v4:=(xl7 ((x.2.1,x.2.2.1,(),0,()),x.1,()))
 bif (decide (0<=v4.1.2.2.2.1)&&decide (v4.1.2.2.2.1<(↑(List.length v4.2.1.1):Int)))then
 let v5:=(IntKind.wrap .i64 (v4.1.2.2.2.1+1))
 bif (decide (0<=v5)&&decide (v5<(↑(List.length v4.2.1.1):Int)))then
 bif (decide (0<=v4.1.2.2.2.1)&&decide (v4.1.2.2.2.1<(↑(List.length v4.2.1.2.2.1):Int)))then
 let v6:=(List.getD v4.2.1.2.2.1 (Int.toNat v4.1.2.2.2.1) (zero (Ty.slice (Ty.flt .f32))))
 bif (k226 (v4.2.1,v6,v4.1.2.1,()))then
 bif (decide (0<=v5)&&decide (v5<(↑(List.length v4.2.1.2.2.1):Int)))then
 let v8:=(List.getD v4.2.1.2.2.1 (Int.toNat v5) (zero (Ty.slice (Ty.flt .f32))))
 bif (k226 (v4.2.1,v8,v4.1.2.1,()))then
 let v10:=(g226 (v4.2.1,v6,v4.1.2.1,()))
 let v11:=(g226 (v4.2.1,v8,v4.1.2.1,()))
 let v12:=(List.getD v4.2.1.1 (Int.toNat v4.1.2.2.2.1) (zero (Ty.flt .f32)))
 let v16:=(a0i .quo .f32 (a0i .sub .f32 v4.1.1 v12) (a0i .sub .f32 (List.getD v4.2.1.1 (Int.toNat v5) (zero (Ty.flt .f32))) v12))
 bif (k227 (v10.1,v11.1,v16,()))then
 some (g227 (v10.1,v11.1,v16,()))
 else
 none
 else
 none
 else
 none
 else
 none
 else
 none
 else
 none
 else
 none
 else
 none
 else
 none
 else
 none
theorem f5Q (k226 g226 k227 g227 kl7 xl7 x) :a0E (e7S k226 g226 k227 g227 kl7 xl7) (a0e Tryz.f179) (a1f d9R) (a0V d6E x) []=f5P k226 g226 k227 g227 kl7 xl7 x:=by kernel_rfl
def e7T (x:Den d6E):Option (Den d9R):=f5P e2M e2N c4q c4r b5O b5P x
def f1m (x:Den d6E):Bool:=(e7T x).isSome
def f1n (x:Den d6E):Den d9R:=(e7T x).getD (zero d9R)
theorem e7U:a0q Tryz.prog (179,a0a d6E d9R f1m f1n):=a0s (a0j mixed a0l a0k (.cons e7R (.cons d0W .nil))) (a0O Tryz.func179 rfl rfl rfl (by kernel_rfl) (a0D (l:=[d0Z]) (by kernel_rfl) (.cons (a0r rfl (a0y (sh:=b5M) (shX:=b5N) (fun f v=>d6F e2M e2N c4q c4r b5O b5P f v) c4t ((0,(0,((),(0,())))),(([],([],([],()))),())))) (.nil)))) fun x=>f5Q e2M e2N c4q c4r b5O b5P x
abbrev d6G:Ty:=.cons (S27) (.cons (.flt .f32) (.cons (.int .i64) (.nil)))
abbrev d9S:Ty:=.cons (.flt .f32) (.cons (.bool) (.nil))
noncomputable def f5R (k90 g90 k44 g44 k179 g179) :=a0t tab eqs [(90,a0a A90 R90 k90 g90),(44,a0a A44 R44 k44 g44),(179,a0a d6E d9R k179 g179)] 29 [.tmp 6,.tmp 7] [] [] [] [] []
def f5S (k90:KA A90) (g90:GA A90 R90) (k44:KA A44) (g44:GA A44 R44) (k179:KA d6E) (g179:GA d6E d9R) (x:Den d6G):Option (Den d9S):=
 bif (k90 (x.1,()))then
 bif (!(g90 (x.1,())).1)then
 some ((0,false,()))
 else
 bif (fgt .f32 x.2.1 0||feq .f32 x.2.1 0)then
 bif (!(flt .f32 x.2.1 1120403456||feq .f32 x.2.1 1120403456))then
 some ((0,false,()))
 else
 bif (k44 (x.2.2.1,0,180,()))then
 bif (!(g44 (x.2.2.1,0,180,())).1)then
 some ((0,false,()))
 else
 bif (k179 x)then
 some (((g179 x).1,true,()))
 else
 none
 else
 none
 else
 some ((0,false,()))
 else
 none
theorem f5T (k90 g90 k44 g44 k179 g179 x) :a0E (f5R k90 g90 k44 g44 k179 g179) (a0e Tryz.f111) (a1f d9S) (a0V d6G x) []=f5S k90 g90 k44 g44 k179 g179 x:=by kernel_rfl
def f1o (x:Den d6G):Option (Den d9S):=f5S K90 G90 K44 G44 f1m f1n x
def e5o (x:Den d6G):Bool:=(f1o x).isSome
def e5p (x:Den d6G):Den d9S:=(f1o x).getD (zero d9S)
theorem e7V:a0q Tryz.prog (111,a0a d6G d9S e5o e5p):=a0s (a0j mixed a0l a0k (.cons e7r (.cons a6J (.cons e7U .nil)))) (a0O Tryz.func111 rfl rfl rfl (by kernel_rfl) (a0m (by kernel_rfl))) fun x=>f5T K90 G90 K44 G44 f1m f1n x
abbrev A57:Ty:=.cons (S46) (.nil)
abbrev R57:Ty:=.cons (.flt .f32) (.nil)
noncomputable def g0F (k110 g110 k112 g112 k113 g113 k111 g111) :=a0t tab eqs [(110,a0a c7J d4e k110 g110),(112,a0a c7L d4f k112 g112),(113,a0a c7M d4j k113 g113),(111,a0a d6G d9S k111 g111)] 26 [.tmp 2] [] [] [] [] []
def r57 (k110:KA c7J) (g110:GA c7J d4e) (k112:KA c7L) (g112:GA c7L d4f) (k113:KA c7M) (g113:GA c7M d4j) (k111:KA d6G) (g111:GA d6G d9S) (x:Den A57):Option (Den R57):=
 bif (k110 (x.1.2.2.2.2.1,()))then
 let v1:=(g110 (x.1.2.2.2.2.1,()))
 bif (decide (v1.1<0))then
 some ((0,()))
 else
 bif (k112 (x.1.2.2.2.2.1,()))then
 bif (k113 (x.1.2.2.2.1,v1))then
 let v4:=(g112 (x.1.2.2.2.2.1,()))
 let v5:=(g113 (x.1.2.2.2.1,v1))
 bif (k111 (x.1.1.1,v4.1,v5))then
 some (((g111 (x.1.1.1,v4.1,v5)).1,()))
 else
 none
 else
 none
 else
 none
 else
 none
theorem g0G (k110 g110 k112 g112 k113 g113 k111 g111 x) :a0E (g0F k110 g110 k112 g112 k113 g113 k111 g111) (a0e Tryz.f57) (a1f R57) (a0V A57 x) []=r57 k110 g110 k112 g112 k113 g113 k111 g111 x:=by kernel_rfl
def F57 (x:Den A57):Option (Den R57):=r57 d6u c7K d6z d4g d6B d4k e5o e5p x
def K57 (x:Den A57):Bool:=(F57 x).isSome
def G57 (x:Den A57):Den R57:=(F57 x).getD (zero R57)
theorem e7W:a0q Tryz.prog (57,a0a A57 R57 K57 G57):=a0s (a0j mixed a0l a0k (.cons d9J (.cons d9N (.cons d9P (.cons e7V .nil))))) (a0O Tryz.func57 rfl rfl rfl (by kernel_rfl) (a0m (by kernel_rfl))) fun x=>g0G d6u c7K d6z d4g d6B d4k e5o e5p x
abbrev d6H:Ty:=.cons (.int .i64) (.nil)
abbrev d9T:Ty:=.cons (.cpx .f64) (.nil)
abbrev a8U:Type:=(((Nat×Nat)×(Int×Unit))×Unit)
def b5Q:ShS:=⟨[(3,.one (.cpx .f64)),(4,.one (.int .i64))],[],0,0⟩
abbrev b9A:Type:=(((Nat×Nat)×Unit)×Unit)
def b5R:ShS:=⟨[(3,.one (.cpx .f64))],[],0,0⟩
noncomputable def e7X (k176 g176 k177 g177 kl3 xl3) :=a0t tab eqs [(176,a0a c4o d0V k176 g176),(177,a0a c0Q c7I k177 g177)] 14 [.tmp 2] [] [] [(3,a1X [3,4] [] 0 [3] [] b5Q b5R kl3 xl3)] [] []
noncomputable def d1b:Code:=(a0u (a0e Tryz.f109)).getD 0 .skip
def b9B (k176:KA c4o) (g176:GA c4o d0V) (k177:KA c0Q) (g177:GA c0Q c7I) (f:a8U->Option (b9A)) (v:a8U):Option (b9A):=
 bif (decide (v.1.2.1>0))then
 bif (k177 (v.1.1,(4607181046959943561,4580687535080594718),()))then
 f ((((g177 (v.1.1,(4607181046959943561,4580687535080594718),())).1,(IntKind.wrap .i64 (v.1.2.1-1)),()),()))
 else
 none
 else
 some (((v.1.1,()),()))
theorem d6I (k176 g176 k177 g177 kl3 xl3 f v) :EBk (e7X k176 g176 k177 g177 kl3 xl3) d1b (a0B [3,4] [] 0 [3] [] (atS b5Q f) (a5W b5R)) (mkS b5Q v)=b9B k176 g176 k177 g177 f v:=by kernel_rfl
def c4u (v:a8U):Nat:=v.1.2.1.natAbs+1000
def d1c (v:a8U):Option (b9A):=a1u (b9B d4h d4i c6I c6J) (c4u v) v
def b5S (v:a8U):Bool:=(d1c v).isSome
def b5T (v:a8U):b9A:=(d1c v).getD (((0,0),()),())
def f5U (k176:KA c4o) (g176:GA c4o d0V) (k177:KA c0Q) (g177:GA c0Q c7I) (kl3:a8U->Bool) (xl3:a8U->b9A) (x:Den d6H):Option (Den d9T):=
 bif (k176 x)then
 let v1:=(g176 x)
 let w0:=(((4607182418800017408,0),v1),())
 bif (kl3 w0)then
 some (xl3 w0).1
 else
 none
 else
 none
theorem f5V (k176 g176 k177 g177 kl3 xl3 x) :a0E (e7X k176 g176 k177 g177 kl3 xl3) (a0e Tryz.f109) (a1f d9T) (a0V d6H x) []=f5U k176 g176 k177 g177 kl3 xl3 x:=by kernel_rfl
def f1p (x:Den d6H):Option (Den d9T):=f5U d4h d4i c6I c6J b5S b5T x
def f1q (x:Den d6H):Bool:=(f1p x).isSome
def f1r (x:Den d6H):Den d9T:=(f1p x).getD (zero d9T)
theorem e7Y:a0q Tryz.prog (109,a0a d6H d9T f1q f1r):=a0s (a0j mixed a0l a0k (.cons d9O (.cons d9G .nil))) (a0O Tryz.func109 rfl rfl rfl (by kernel_rfl) (a0D (l:=[d1b]) (by kernel_rfl) (.cons (a0r rfl (a0y (sh:=b5Q) (shX:=b5R) (fun f v=>d6I d4h d4i c6I c6J b5S b5T f v) c4u (((0,0),()),()))) (.nil)))) fun x=>f5V d4h d4i c6I c6J b5S b5T x
abbrev d6J:Ty:=.cons (.cpx .f64) (.cons (.flt .f32) (.nil))
abbrev d9U:Ty:=.cons (.cpx .f32) (.nil)
noncomputable def f5W:Env:=a0t tab eqs [] 16 [.tmp 4] [] [] [] [] []
def f5X (x:Den d6J):Option (Den d9U):=
 let w0:=(a0Z .f64 .f32 x.1.1)
 bif (w0.1)then
 let w1:=(a0Z .f64 .f32 x.1.2)
 bif (w1.1)then
 some ((((a0i .mul .f32 w0.2 x.2.1),(a0i .mul .f32 w1.2 x.2.1)),()))
 else
 none
 else
 none
theorem f5Y (x) :a0E (f5W) (a0e Tryz.f108) (a1f d9U) (a0V d6J x) []=f5X x:=by kernel_rfl
def f1s (x:Den d6J):Option (Den d9U):=f5X x
def f1t (x:Den d6J):Bool:=(f1s x).isSome
def f1u (x:Den d6J):Den d9U:=(f1s x).getD (zero d9U)
theorem e7Z:a0q Tryz.prog (108,a0a d6J d9U f1t f1u):=a0s (a0j mixed a0l a0k .nil) (a0O Tryz.func108 rfl rfl rfl (by kernel_rfl) (a0m (by kernel_rfl))) fun x=>f5Y x
abbrev A56:Ty:=.cons (.int .i64) (.cons (.flt .f32) (.nil))
abbrev R56:Ty:=.cons (.cpx .f32) (.cons (.bool) (.nil))
noncomputable def g0H (k107 g107 k109 g109 k108 g108) :=a0t tab eqs [(107,a0a c1I c7F k107 g107),(109,a0a d6H d9T k109 g109),(108,a0a d6J d9U k108 g108)] 13 [.tmp 4,.tmp 5] [] [] [] [] []
def r56 (k107:KA c1I) (g107:GA c1I c7F) (k109:KA d6H) (g109:GA d6H d9T) (k108:KA d6J) (g108:GA d6J d9U) (x:Den A56):Option (Den R56):=
 bif (k107 x.2)then
 bif (!(g107 x.2).1)then
 some (((0,0),false,()))
 else
 bif (k109 (x.1,()))then
 let v3:=(g109 (x.1,()))
 bif (k108 (v3.1,x.2))then
 some (((g108 (v3.1,x.2)).1,true,()))
 else
 none
 else
 none
 else
 none
theorem g0I (k107 g107 k109 g109 k108 g108 x) :a0E (g0H k107 g107 k109 g109 k108 g108) (a0e Tryz.f56) (a1f R56) (a0V A56 x) []=r56 k107 g107 k109 g109 k108 g108 x:=by kernel_rfl
def F56 (x:Den A56):Option (Den R56):=r56 d4c d4d f1q f1r f1t f1u x
def K56 (x:Den A56):Bool:=(F56 x).isSome
def G56 (x:Den A56):Den R56:=(F56 x).getD (zero R56)
theorem e8a:a0q Tryz.prog (56,a0a A56 R56 K56 G56):=a0s (a0j mixed a0l a0k (.cons d0b (.cons e7Y (.cons e7Z .nil)))) (a0O Tryz.func56 rfl rfl rfl (by kernel_rfl) (a0m (by kernel_rfl))) fun x=>g0I d4c d4d f1q f1r f1t f1u x
abbrev d6K:Ty:=.cons (.cpx .f32) (.cons (.cpx .f32) (.nil))
abbrev d9V:Ty:=.cons (.cpx .f32) (.cons (.bool) (.nil))
noncomputable def f5Z (k45 g45) :=a0t tab eqs [(45,a0a A45 R45 k45 g45)] 25 [.tmp 4,.tmp 5] [] [] [] [] []
def f6a (k45:KA A45) (g45:GA A45 R45) (x:Den d6K):Option (Den d9V):=
 bif (k45 (x.1,()))then
 bif (!(g45 (x.1,())).1)then
 some (((0,0),false,()))
 else
 bif (k45 x.2)then
 bif (!(g45 x.2).1)then
 some (((0,0),false,()))
 else
 some ((((a0i .sub .f32 x.1.1 x.2.1.1),(a0i .sub .f32 x.1.2 x.2.1.2)),true,()))
 else
 none
 else
 none
theorem f6b (k45 g45 x) :a0E (f5Z k45 g45) (a0e Tryz.f114) (a1f d9V) (a0V d6K x) []=f6a k45 g45 x:=by kernel_rfl
def f1v (x:Den d6K):Option (Den d9V):=f6a K45 G45 x
def f1w (x:Den d6K):Bool:=(f1v x).isSome
def f1x (x:Den d6K):Den d9V:=(f1v x).getD (zero d9V)
theorem e8b:a0q Tryz.prog (114,a0a d6K d9V f1w f1x):=a0s (a0j mixed a0l a0k (.cons b4Z .nil)) (a0O Tryz.func114 rfl rfl rfl (by kernel_rfl) (a0m (by kernel_rfl))) fun x=>f6b K45 G45 x
abbrev A58:Ty:=.cons (.cpx .f32) (.cons (.cpx .f32) (.cons (.int .i64) (.nil)))
abbrev R58:Ty:=.cons (S63) (.cons (.bool) (.nil))
noncomputable def g0J (k114 g114 k110 g110 k112 g112 k113 g113) :=a0t tab eqs [(114,a0a d6K d9V k114 g114),(110,a0a c7J d4e k110 g110),(112,a0a c7L d4f k112 g112),(113,a0a c7M d4j k113 g113)] 32 [.cell 6 64,.tmp 7] [] [] [] [] []
def r58 (k114:KA d6K) (g114:GA d6K d9V) (k110:KA c7J) (g110:GA c7J d4e) (k112:KA c7L) (g112:GA c7L d4f) (k113:KA c7M) (g113:GA c7M d4j) (x:Den A58):Option (Den R58):=
 bif (k114 (x.1,x.2.1,()))then
 let v1:=(g114 (x.1,x.2.1,()))
 bif (k110 (v1.1,()))then
 bif (!v1.2.1)then
 some (((0,0,()),false,()))
 else
 let v3:=(g110 (v1.1,()))
 bif (decide (v3.1<0))then
 some (((0,0,()),false,()))
 else
 bif (k112 (v1.1,()))then
 bif (k113 (x.2.2.1,v3))then
 some ((((g112 (v1.1,())).1,(g113 (x.2.2.1,v3))),true,()))
 else
 none
 else
 none
 else
 none
 else
 none
theorem g0K (k114 g114 k110 g110 k112 g112 k113 g113 x) :a0E (g0J k114 g114 k110 g110 k112 g112 k113 g113) (a0e Tryz.f58) (a1f R58) (a0V A58 x) []=r58 k114 g114 k110 g110 k112 g112 k113 g113 x:=by kernel_rfl
def F58 (x:Den A58):Option (Den R58):=r58 f1w f1x d6u c7K d6z d4g d6B d4k x
def K58 (x:Den A58):Bool:=(F58 x).isSome
def G58 (x:Den A58):Den R58:=(F58 x).getD (zero R58)
theorem f6c:a0q Tryz.prog (58,a0a A58 R58 K58 G58):=a0s (a0j mixed a0l a0k (.cons e8b (.cons d9J (.cons d9N (.cons d9P .nil))))) (a0O Tryz.func58 rfl rfl rfl (by kernel_rfl) (a0m (by kernel_rfl))) fun x=>g0K f1w f1x d6u c7K d6z d4g d6B d4k x
abbrev A19:Ty:=.cons (S46) (.nil)
abbrev R19:Ty:=.cons (S63) (.cons (.bool) (.nil))
noncomputable def g0L (k57 g57 k56 g56 k58 g58) :=a0t tab eqs [(57,a0a A57 R57 k57 g57),(56,a0a A56 R56 k56 g56),(58,a0a A58 R58 k58 g58)] 25 [.cell 2 64,.tmp 3] [] [] [] [] []
def r19 (k57:KA A57) (g57:GA A57 R57) (k56:KA A56) (g56:GA A56 R56) (k58:KA A58) (g58:GA A58 R58) (x:Den A19):Option (Den R19):=
 bif (k57 x)then
 let v1:=(g57 x)
 bif (k56 (x.1.2.2.2.1,v1))then
 let v3:=(g56 (x.1.2.2.2.1,v1))
 bif (!v3.2.1)then
 some (((0,0,()),false,()))
 else
 let w0:=(x.1.2.2.2.2.1,v3.1,x.1.2.2.2.1,())
 bif (k58 w0)then
 some (g58 w0)
 else
 none
 else
 none
 else
 none
theorem g0M (k57 g57 k56 g56 k58 g58 x) :a0E (g0L k57 g57 k56 g56 k58 g58) (a0e Tryz.f19) (a1f R19) (a0V A19 x) []=r19 k57 g57 k56 g56 k58 g58 x:=by kernel_rfl
def F19 (x:Den A19):Option (Den R19):=r19 K57 G57 K56 G56 K58 G58 x
def K19 (x:Den A19):Bool:=(F19 x).isSome
def G19 (x:Den A19):Den R19:=(F19 x).getD (zero R19)
theorem e8c:a0q Tryz.prog (19,a0a A19 R19 K19 G19):=a0s (a0j mixed a0l a0k (.cons e7W (.cons e8a (.cons f6c .nil)))) (a0O Tryz.func19 rfl rfl rfl (by kernel_rfl) (a0m (by kernel_rfl))) fun x=>g0M K57 G57 K56 G56 K58 G58 x
abbrev A20:Ty:=.cons (S68) (.cons (S63) (.nil))
abbrev R20:Ty:=.cons (.bool) (.nil)
noncomputable def g0N:Env:=a0t tab eqs [] 57 [.tmp 4] [] [] [] [] []
def r20 (x:Den A20):Option (Den R20):=
 bif (decide (x.2.1.2.1 ≥ x.1.2.2.2.1))then
 bif (decide (x.2.1.2.1<=x.1.2.2.2.2.1))then
 let v0:=(a0i .sub .f32 x.1.2.1 1065353216)
 bif (fgt .f32 x.2.1.1 v0||feq .f32 x.2.1.1 v0)then
 let v1:=(a0i .add .f32 x.1.2.2.1 1065353216)
 bif (flt .f32 x.2.1.1 v1||feq .f32 x.2.1.1 v1)then
 some ((true,()))
 else
 some ((false,()))
 else
 some ((false,()))
 else
 let v0:=(a0i .sub .f32 x.1.2.1 1065353216)
 bif (fgt .f32 x.2.1.1 v0||feq .f32 x.2.1.1 v0)then
 let v1:=(a0i .add .f32 x.1.2.2.1 1065353216)
 bif (flt .f32 x.2.1.1 v1||feq .f32 x.2.1.1 v1)then
 some ((decide ((IntKind.wrap .u64 ((IntKind.wrap .u64 x.2.1.2.1)-(IntKind.wrap .u64 x.1.2.2.2.2.1)))<=5),()))
 else
 some ((false,()))
 else
 some ((false,()))
 else
 bif (decide (x.2.1.2.1<=x.1.2.2.2.2.1))then
 let v0:=(a0i .sub .f32 x.1.2.1 1065353216)
 bif (fgt .f32 x.2.1.1 v0||feq .f32 x.2.1.1 v0)then
 let v1:=(a0i .add .f32 x.1.2.2.1 1065353216)
 bif (flt .f32 x.2.1.1 v1||feq .f32 x.2.1.1 v1)then
 bif (decide ((IntKind.wrap .u64 ((IntKind.wrap .u64 x.1.2.2.2.1)-(IntKind.wrap .u64 x.2.1.2.1)))<=5))then
 some ((true,()))
 else
 some ((false,()))
 else
 some ((false,()))
 else
 some ((false,()))
 else
 let v0:=(a0i .sub .f32 x.1.2.1 1065353216)
 bif (fgt .f32 x.2.1.1 v0||feq .f32 x.2.1.1 v0)then
 let v1:=(a0i .add .f32 x.1.2.2.1 1065353216)
 bif (flt .f32 x.2.1.1 v1||feq .f32 x.2.1.1 v1)then
 let v3:=(IntKind.wrap .u64 x.2.1.2.1)
 bif (decide ((IntKind.wrap .u64 ((IntKind.wrap .u64 x.1.2.2.2.1)-v3))<=5))then
 some ((decide ((IntKind.wrap .u64 (v3-(IntKind.wrap .u64 x.1.2.2.2.2.1)))<=5),()))
 else
 some ((false,()))
 else
 some ((false,()))
 else
 some ((false,()))
theorem g0O (x) :a0E (g0N) (a0e Tryz.f20) (a1f R20) (a0V A20 x) []=r20 x:=by kernel_rfl
def F20 (x:Den A20):Option (Den R20):=r20 x
def K20 (x:Den A20):Bool:=(F20 x).isSome
def G20 (x:Den A20):Den R20:=(F20 x).getD (zero R20)
theorem e8d:a0q Tryz.prog (20,a0a A20 R20 K20 G20):=a0s (a0j mixed a0l a0k .nil) (a0O Tryz.func20 rfl rfl rfl (by kernel_rfl) (a0m (by kernel_rfl))) fun x=>g0O x
abbrev A14:Ty:=.cons (S46) (.nil)
abbrev R14:Ty:=.cons (.bool) (.nil)
noncomputable def g0P (k23 g23 k42 g42 k43 g43 k44 g44 k45 g45 k46 g46 k19 g19 k20 g20) :=a0t tab eqs [(23,a0a A23 R23 k23 g23),(42,a0a A42 R42 k42 g42),(43,a0a A43 R43 k43 g43),(44,a0a A44 R44 k44 g44),(45,a0a A45 R45 k45 g45),(46,a0a A46 R46 k46 g46),(19,a0a A19 R19 k19 g19),(20,a0a A20 R20 k20 g20)] 100 [.tmp 2] [] [] [] [] []
def r14 (k23:KA A23) (g23:GA A23 R23) (k42:KA A42) (g42:GA A42 R42) (k43:KA A43) (g43:GA A43 R43) (k44:KA A44) (g44:GA A44 R44) (k45:KA A45) (g45:GA A45 R45) (k46:KA A46) (g46:GA A46 R46) (k19:KA A19) (g19:GA A19 R19) (k20:KA A20) (g20:GA A20 R20) (x:Den A14):Option (Den R14):=
 bif (k23 (x.1.2.2.1,()))then
 bif (k42 (x.1.1,()))then
 bif (!(g42 (x.1.1,())).1)then
 some ((false,()))
 else
 bif (k43 (x.1.2.1,()))then
 bif (!(g43 (x.1.2.1,())).1)then
 some ((false,()))
 else
 bif (!(g23 (x.1.2.2.1,())).2.1)then
 some ((false,()))
 else
 bif (k44 (x.1.2.2.2.1,0,359,()))then
 bif (!(g44 (x.1.2.2.2.1,0,359,())).1)then
 some ((false,()))
 else
 bif (k45 (x.1.2.2.2.2.1,()))then
 bif (!(g45 (x.1.2.2.2.2.1,())).1)then
 some ((false,()))
 else
 let w1:=(↑(List.length x.1.1.2.2.1):Int)
 let v10:=(IntKind.wrap .i64 (w1-1))
 let w2:=(x.1.2.2.2.2.2.1,-1,v10,())
 bif (k44 w2)then
 bif (!(g44 w2).1)then
 some ((false,()))
 else
 bif (k46 (x.1.2.2.2.2.2.2.1,()))then
 bif (!(g46 (x.1.2.2.2.2.2.2.1,())).1)then
 some ((false,()))
 else
 bif (decide ((↑(List.length x.1.2.2.2.2.2.2.2.1):Int)>300))then
 some ((false,()))
 else
 let w0:=(↑(List.length x.1.2.2.2.2.2.2.1):Int)
 bif (decide (w0>0))then
 let v15:=(IntKind.wrap .i64 (w0-1))
 bif (decide (0<=v15)&&decide (v15<w0))then
 bif (decide ((List.getD x.1.2.2.2.2.2.2.1 (Int.toNat v15) (zero S97)).2.1>x.1.2.1))then
 some ((false,()))
 else
 bif (decide (x.1.2.2.2.2.2.1 ≥ 0))then
 bif (k19 x)then
 let v18:=(g19 x)
 bif v18.2.1 then
 bif (decide (0<=x.1.2.2.2.2.2.1)&&decide (x.1.2.2.2.2.2.1<w1))then
 let v19:=(List.getD x.1.1.2.2.1 (Int.toNat x.1.2.2.2.2.2.1) (zero S68))
 bif (k20 (v19,v18.1,()))then
 some (g20 (v19,v18.1,()))
 else
 none
 else
 none
 else
 some ((false,()))
 else
 none
 else
 some ((true,()))
 else
 none
 else
 bif (decide (x.1.2.2.2.2.2.1 ≥ 0))then
 bif (k19 x)then
 let v16:=(g19 x)
 bif v16.2.1 then
 bif (decide (0<=x.1.2.2.2.2.2.1)&&decide (x.1.2.2.2.2.2.1<w1))then
 let v17:=(List.getD x.1.1.2.2.1 (Int.toNat x.1.2.2.2.2.2.1) (zero S68))
 bif (k20 (v17,v16.1,()))then
 some (g20 (v17,v16.1,()))
 else
 none
 else
 none
 else
 some ((false,()))
 else
 none
 else
 some ((true,()))
 else
 none
 else
 none
 else
 none
 else
 none
 else
 none
 else
 none
 else
 none
theorem g0Q (k23 g23 k42 g42 k43 g43 k44 g44 k45 g45 k46 g46 k19 g19 k20 g20 x) :a0E (g0P k23 g23 k42 g42 k43 g43 k44 g44 k45 g45 k46 g46 k19 g19 k20 g20) (a0e Tryz.f14) (a1f R14) (a0V A14 x) []=r14 k23 g23 k42 g42 k43 g43 k44 g44 k45 g45 k46 g46 k19 g19 k20 g20 x:=by kernel_rfl
def F14 (x:Den A14):Option (Den R14):=r14 K23 G23 K42 G42 K43 G43 K44 G44 K45 G45 K46 G46 K19 G19 K20 G20 x
def K14 (x:Den A14):Bool:=(F14 x).isSome
def G14 (x:Den A14):Den R14:=(F14 x).getD (zero R14)
theorem f6d:a0q Tryz.prog (14,a0a A14 R14 K14 G14):=a0s (a0j mixed a0l a0k (.cons e7t (.cons f5c (.cons d6i (.cons a6J (.cons b4Z (.cons f5d (.cons e8c (.cons e8d .nil))))))))) (a0O Tryz.func14 rfl rfl rfl (by kernel_rfl) (a0m (by kernel_rfl))) fun x=>g0Q K23 G23 K42 G42 K43 G43 K44 G44 K45 G45 K46 G46 K19 G19 K20 G20 x
abbrev A25:Ty:=.cons (.int .i64) (.nil)
abbrev R25:Ty:=.cons (.str) (.nil)
noncomputable def g0R (k65 g65) :=a0t tab eqs [(65,a0a A65 R65 k65 g65)] 5 [.tmp 2] [] [] [] [] []
def r25 (k65:KA A65) (g65:GA A65 R65) (x:Den A25):Option (Den R25):=
 bif (k65 x)then
 some (g65 x)
 else
 none
theorem g0S (k65 g65 x) :a0E (g0R k65 g65) (a0e Tryz.f25) (a1f R25) (a0V A25 x) []=r25 k65 g65 x:=by kernel_rfl
def F25 (x:Den A25):Option (Den R25):=r25 K65 G65 x
def K25 (x:Den A25):Bool:=(F25 x).isSome
def G25 (x:Den A25):Den R25:=(F25 x).getD (zero R25)
theorem e8e:a0q Tryz.prog (25,a0a A25 R25 K25 G25):=a0s (a0j mixed a0l a0k (.cons f2Q .nil)) (a0O Tryz.func25 rfl rfl rfl (by kernel_rfl) (a0m (by kernel_rfl))) fun x=>g0S K65 G65 x
abbrev A17:Ty:=.cons (.str) (.nil)
abbrev R17:Ty:=.cons (.int .i64) (.cons (.bool) (.nil))
abbrev a9s:Type:=((ByteArray×(Int×(Int×Unit)))×Unit)
def c4v:ShS:=⟨[(0,.one (.str)),(4,.one (.int .i64)),(5,.one (.int .i64))],[],0,0⟩
abbrev d1d:Type:=((ByteArray×(Int×Unit))×Unit)
def c1Z:ShS:=⟨[(0,.one (.str)),(4,.one (.int .i64))],[],0,0⟩
abbrev d1e:Type:=((Int×(Bool×Unit))×Unit)
def c2a:ShS:=⟨[(2,.one (.int .i64)),(3,.one (.bool))],[],0,0⟩
noncomputable def f8U (k25 g25 kl5 xl5 tl5 yl5) :=a0t tab eqs [(25,a0a A25 R25 k25 g25)] 47 [.tmp 2,.tmp 3] [] [] [(5,a1U [0,4,5] [] 0 [0,4] [] c4v c1Z c2a kl5 tl5 xl5 yl5)] [] []
noncomputable def d9W:Code:=(a0u (a0e Tryz.f17)).getD 0 .skip
def d6L (k25:KA A25) (g25:GA A25 R25) (f:a9s->Option (d1d⊕d1e)) (v:a9s):Option (d1d⊕d1e):=
 let w1:=(v.1.2.2.1<(↑(ByteArray.size v.1.1):Int))
 bif (decide w1)then
 let w0:=(decide (0<=v.1.2.2.1)&&decide w1)
 bif w0 then
 bif (decide (a1z v.1.1 v.1.2.2.1<48))then
 some (Sum.inr (((0,false,()),())))
 else
 bif w0 then
 bif (decide (a1z v.1.1 v.1.2.2.1>57))then
 some (Sum.inr (((0,false,()),())))
 else
 bif w0 then
 f (((v.1.1,(IntKind.wrap .i64 ((IntKind.wrap .i64 (v.1.2.1*10))+(IntKind.wrap .i64 (IntKind.wrap .u8 (a1z v.1.1 v.1.2.2.1-48))))),(IntKind.wrap .i64 (v.1.2.2.1+1)),()),()))
 else
 none
 else
 none
 else
 none
 else
 some (Sum.inl (((v.1.1,v.1.2.1,()),())))
theorem e2O (k25 g25 kl5 xl5 tl5 yl5 f v) :EBk (f8U k25 g25 kl5 xl5 tl5 yl5) d9W (a0B [0,4,5] [] 0 [0,4] [] (atS c4v f) (a5J c1Z c2a)) (mkS c4v v)=d6L k25 g25 f v:=by kernel_rfl
def d6M (v:a9s):Nat:=v.1.1.size+v.1.2.1.natAbs+v.1.2.2.1.natAbs+1000
def d1f (v:a9s):Option (d1d⊕d1e):=a1u (d6L K25 G25) (d6M v) v
def c4w (v:a9s):Bool:=(d1f v).isSome
def c4x (v:a9s):Bool:=isR (d1f v)
def c4y (v:a9s):d1d:=xOf ((ByteArray.empty,(0,())),()) (d1f v)
def c4z (v:a9s):d1e:=yOf ((0,(false,())),()) (d1f v)
def r17 (k25:KA A25) (g25:GA A25 R25) (kl5:a9s->Bool) (xl5:a9s->d1d) (tl5:a9s->Bool) (yl5:a9s->d1e) (x:Den A17):Option (Den R17):=
 let w0:=(↑(ByteArray.size x.1):Int)
 bif (w0==0)then
 some ((0,false,()))
 else
 bif (decide (w0>10))then
 some ((0,false,()))
 else
 bif (kl5 ((x.1,0,0,()),()))then
 bif (tl5 ((x.1,0,0,()),()))then
 some (yl5 ((x.1,0,0,()),())).1
 else
 let v2:=(xl5 ((x.1,0,0,()),()))
 bif (decide (v2.1.2.1>1000000000))then
 some ((0,false,()))
 else
 bif (k25 v2.1.2)then
 bif (!a2w (g25 v2.1.2).1 v2.1.1)then
 some ((0,false,()))
 else
 some ((v2.1.2.1,true,()))
 else
 none
 else
 none
theorem g0T (k25 g25 kl5 xl5 tl5 yl5 x) :a0E (f8U k25 g25 kl5 xl5 tl5 yl5) (a0e Tryz.f17) (a1f R17) (a0V A17 x) []=r17 k25 g25 kl5 xl5 tl5 yl5 x:=by kernel_rfl
def F17 (x:Den A17):Option (Den R17):=r17 K25 G25 c4w c4y c4x c4z x
def K17 (x:Den A17):Bool:=(F17 x).isSome
def G17 (x:Den A17):Den R17:=(F17 x).getD (zero R17)
theorem e8f:a0q Tryz.prog (17,a0a A17 R17 K17 G17):=a0s (a0j mixed a0l a0k (.cons e8e .nil)) (a0O Tryz.func17 rfl rfl rfl (by kernel_rfl) (a0D (l:=[d9W]) (by kernel_rfl) (.cons (a0r rfl (a0x (sh:=c4v) (shX:=c1Z) (shR:=c2a) (fun f v=>e2O K25 G25 c4w c4y c4x c4z f v) d6M ((ByteArray.empty,(0,())),()) ((0,(false,())),()))) (.nil)))) fun x=>g0T K25 G25 c4w c4y c4x c4z x
abbrev c4A:Ty:=.cons (.int .i64) (.nil)
abbrev d1g:Ty:=.cons (.bool) (.nil)
noncomputable def f6e (k44 g44) :=a0t tab eqs [(44,a0a A44 R44 k44 g44)] 5 [.tmp 2] [] [] [] [] []
def f6f (k44:KA A44) (g44:GA A44 R44) (x:Den c4A):Option (Den d1g):=
 let w0:=(x.1,-1000000000,1000000000,())
 bif (k44 w0)then
 some (g44 w0)
 else
 none
theorem f6g (k44 g44 x) :a0E (f6e k44 g44) (a0e Tryz.f237) (a1f d1g) (a0V c4A x) []=f6f k44 g44 x:=by kernel_rfl
def f1y (x:Den c4A):Option (Den d1g):=f6f K44 G44 x
def d4l (x:Den c4A):Bool:=(f1y x).isSome
def d4m (x:Den c4A):Den d1g:=(f1y x).getD (zero d1g)
theorem d9X:a0q Tryz.prog (237,a0a c4A d1g d4l d4m):=a0s (a0j mixed a0l a0k (.cons a6J .nil)) (a0O Tryz.func237 rfl rfl rfl (by kernel_rfl) (a0m (by kernel_rfl))) fun x=>f6g K44 G44 x
abbrev d1h:Ty:=.cons (.int .i64) (.nil)
abbrev d4n:Ty:=.cons (.str) (.nil)
abbrev a8V:Type:=((Int×(ByteArray×(ByteArray×Unit)))×Unit)
def b5U:ShS:=⟨[(0,.one (.int .i64)),(3,.one (.str)),(4,.one (.str))],[],0,0⟩
abbrev b9C:Type:=((Int×(ByteArray×(ByteArray×Unit)))×Unit)
def b5V:ShS:=⟨[(0,.one (.int .i64)),(3,.one (.str)),(4,.one (.str))],[],0,0⟩
noncomputable def e8g (k237 g237 k25 g25 kl7 xl7) :=a0t tab eqs [(237,a0a c4A d1g k237 g237),(25,a0a A25 R25 k25 g25)] 28 [.tmp 2] [] [] [(7,a1X [0,3,4] [] 0 [0,3,4] [] b5U b5V kl7 xl7)] [] []
noncomputable def d1i:Code:=(a0u (a0e Tryz.f236)).getD 0 .skip
def c4B (k237:KA c4A) (g237:GA c4A d1g) (k25:KA A25) (g25:GA A25 R25) (f:a8V->Option (b9C)) (v:a8V):Option (b9C):=
 bif (decide ((↑(ByteArray.size v.1.2.2.1):Int)<3))then
 bif (decide (ByteArray.size { data:=#[48] }+ByteArray.size v.1.2.2.1<=9223372036854775807))then
 f (((v.1.1,v.1.2.1,({ data:=#[48] }++v.1.2.2.1),()),()))
 else
 none
 else
 some (v)
theorem d6N (k237 g237 k25 g25 kl7 xl7 f v) :EBk (e8g k237 g237 k25 g25 kl7 xl7) d1i (a0B [0,3,4] [] 0 [0,3,4] [] (atS b5U f) (a5W b5V)) (mkS b5U v)=c4B k237 g237 k25 g25 f v:=by kernel_rfl
def d1j (v:a8V):Nat:=v.1.1.natAbs+v.1.2.1.size+v.1.2.2.1.size+1000
def d1k (v:a8V):Option (b9C):=a1u (c4B d4l d4m K25 G25) (d1j v) v
def a8u (v:a8V):Bool:=(d1k v).isSome
def a1Y (v:a8V):b9C:=(d1k v).getD ((0,(ByteArray.empty,(ByteArray.empty,()))),())
def f6h (k237:KA c4A) (g237:GA c4A d1g) (k25:KA A25) (g25:GA A25 R25) (kl7:a8V->Bool) (xl7:a8V->b9C) (x:Den d1h):Option (Den d4n):=
 bif (k237 x)then
 bif (!(g237 x).1)then
 some (({ data:=#[] },()))
 else
 bif (decide (x.1<0))then
 let v2:=(IntKind.wrap .i64 (0-x.1))
 bif (k25 (Int.tmod v2 1000,()))then
 let v4:=(g25 (Int.tmod v2 1000,()))
 let w0:=((v2,{ data:=#[45] },v4),())
 bif (kl7 w0)then
 let v6:=(xl7 w0)
 let v7:=(IntKind.wrap .i64 (Int.tdiv v6.1.1 1000))
 bif (k25 (v7,()))then
 let v9:=(g25 (v7,()))
 bif (decide (ByteArray.size v6.1.2.1+ByteArray.size v9.1<=9223372036854775807))then
 let v10:=(v6.1.2.1++v9.1)
 bif (decide (ByteArray.size v10+ByteArray.size { data:=#[46] }<=9223372036854775807))then
 let v11:=(v10++{ data:=#[46] })
 bif (decide (ByteArray.size v11+ByteArray.size v6.1.2.2.1<=9223372036854775807))then
 some (((v11++v6.1.2.2.1),()))
 else
 none
 else
 none
 else
 none
 else
 none
 else
 none
 else
 none
 else
 bif (k25 (Int.tmod x.1 1000,()))then
 let v3:=(g25 (Int.tmod x.1 1000,()))
 let w1:=((x.1,{ data:=#[] },v3),())
 bif (kl7 w1)then
 let v5:=(xl7 w1)
 let v6:=(IntKind.wrap .i64 (Int.tdiv v5.1.1 1000))
 bif (k25 (v6,()))then
 let v8:=(g25 (v6,()))
 bif (decide (ByteArray.size v5.1.2.1+ByteArray.size v8.1<=9223372036854775807))then
 let v9:=(v5.1.2.1++v8.1)
 bif (decide (ByteArray.size v9+ByteArray.size { data:=#[46] }<=9223372036854775807))then
 let v10:=(v9++{ data:=#[46] })
 bif (decide (ByteArray.size v10+ByteArray.size v5.1.2.2.1<=9223372036854775807))then
 some (((v10++v5.1.2.2.1),()))
 else
 none
 else
 none
 else
 none
 else
 none
 else
 none
 else
 none
 else
 none
theorem f6i (k237 g237 k25 g25 kl7 xl7 x) :a0E (e8g k237 g237 k25 g25 kl7 xl7) (a0e Tryz.f236) (a1f d4n) (a0V d1h x) []=f6h k237 g237 k25 g25 kl7 xl7 x:=by kernel_rfl
def f1z (x:Den d1h):Option (Den d4n):=f6h d4l d4m K25 G25 a8u a1Y x
def d6O (x:Den d1h):Bool:=(f1z x).isSome
def e2P (x:Den d1h):Den d4n:=(f1z x).getD (zero d4n)
theorem e8h:a0q Tryz.prog (236,a0a d1h d4n d6O e2P):=a0s (a0j mixed a0l a0k (.cons d9X (.cons e8e .nil))) (a0O Tryz.func236 rfl rfl rfl (by kernel_rfl) (a0D (l:=[d1i]) (by kernel_rfl) (.cons (a0r rfl (a0y (sh:=b5U) (shX:=b5V) (fun f v=>d6N d4l d4m K25 G25 a8u a1Y f v) d1j ((0,(ByteArray.empty,(ByteArray.empty,()))),()))) (.nil)))) fun x=>f6i d4l d4m K25 G25 a8u a1Y x
abbrev d6P:Ty:=.cons (.str) (.nil)
abbrev d4o:Ty:=.cons (.int .i64) (.cons (.bool) (.nil))
abbrev a2S:Type:=((ByteArray×(ByteArray×(Int×(Int×(Int×(Int×Unit))))))×Unit)
def a9F:ShS:=⟨[(0,.one (.str)),(4,.one (.str)),(5,.one (.int .i64)),(6,.one (.int .i64)),(7,.one (.int .i64)),(8,.one (.int .i64))],[],0,0⟩
abbrev b0V:Type:=((ByteArray×(Int×(Int×Unit)))×Unit)
def b0W:ShS:=⟨[(0,.one (.str)),(5,.one (.int .i64)),(7,.one (.int .i64))],[],0,0⟩
abbrev b0X:Type:=((Int×(Bool×Unit))×Unit)
def b0Y:ShS:=⟨[(2,.one (.int .i64)),(3,.one (.bool))],[],0,0⟩
noncomputable def e8i (k235 g235 k236 g236 kl10 xl10 tl10 yl10) :=a0t tab eqs [(235,a0a d8L e6f k235 g235),(236,a0a d1h d4n k236 g236)] 69 [.tmp 2,.tmp 3] [] [] [(10,a1U [0,4,5,6,7,8] [] 0 [0,5,7] [] a9F b0W b0Y kl10 tl10 xl10 yl10)] [] []
noncomputable def c4C:Code:=(a0u (a0e Tryz.f191)).getD 0 .skip
def b5W (k235:KA d8L) (g235:GA d8L e6f) (k236:KA d1h) (g236:GA d1h d4n) (f:a2S->Option (b0V⊕b0X)) (v:a2S):Option (b0V⊕b0X):=
 let w1:=(v.1.2.2.2.2.2.1<(↑(ByteArray.size v.1.2.1):Int))
 bif (decide w1)then
 bif (v.1.2.2.2.2.2.1==v.1.2.2.2.1)then
 f (((v.1.1,v.1.2.1,v.1.2.2.1,v.1.2.2.2.1,v.1.2.2.2.2.1,(IntKind.wrap .i64 (v.1.2.2.2.2.2.1+1)),()),()))
 else
 let w0:=(decide (0<=v.1.2.2.2.2.2.1)&&decide w1)
 bif w0 then
 bif (decide (a1z v.1.2.1 v.1.2.2.2.2.2.1<48))then
 some (Sum.inr (((0,false,()),())))
 else
 bif w0 then
 bif (decide (a1z v.1.2.1 v.1.2.2.2.2.2.1>57))then
 some (Sum.inr (((0,false,()),())))
 else
 bif w0 then
 f (((v.1.1,v.1.2.1,v.1.2.2.1,v.1.2.2.2.1,(IntKind.wrap .i64 ((IntKind.wrap .i64 (v.1.2.2.2.2.1*10))+(IntKind.wrap .i64 (IntKind.wrap .u8 (a1z v.1.2.1 v.1.2.2.2.2.2.1-48))))),(IntKind.wrap .i64 (v.1.2.2.2.2.2.1+1)),()),()))
 else
 none
 else
 none
 else
 none
 else
 some (Sum.inl (((v.1.1,v.1.2.2.1,v.1.2.2.2.2.1,()),())))
theorem d1l (k235 g235 k236 g236 kl10 xl10 tl10 yl10 f v) :EBk (e8i k235 g235 k236 g236 kl10 xl10 tl10 yl10) c4C (a0B [0,4,5,6,7,8] [] 0 [0,5,7] [] (atS a9F f) (a5J b0W b0Y)) (mkS a9F v)=b5W k235 g235 k236 g236 f v:=by kernel_rfl
def b5X (v:a2S):Nat:=v.1.1.size+v.1.2.1.size+v.1.2.2.1.natAbs+v.1.2.2.2.1.natAbs+v.1.2.2.2.2.1.natAbs+v.1.2.2.2.2.2.1.natAbs+1000
def b0Z (v:a2S):Option (b0V⊕b0X):=a1u (b5W e1J b2j d6O e2P) (b5X v) v
def a5M (v:a2S):Bool:=(b0Z v).isSome
def a7x (v:a2S):Bool:=isR (b0Z v)
def a2E (v:a2S):b0V:=xOf ((ByteArray.empty,(0,(0,()))),()) (b0Z v)
def a9G (v:a2S):b0X:=yOf ((0,(false,())),()) (b0Z v)
def f6j (k235:KA d8L) (g235:GA d8L e6f) (k236:KA d1h) (g236:GA d1h d4n) (kl10:a2S->Bool) (xl10:a2S->b0V) (tl10:a2S->Bool) (yl10:a2S->b0X) (x:Den d6P):Option (Den d4o):=
 bif (!a2w x.1 { data:=#[] })then
 let w1:=(↑(ByteArray.size x.1):Int)
 bif (decide (0<=0)&&decide (0<w1))then
 bif (a1z x.1 0==45)then
 bif (decide (0<=1)&&decide (1<=w1)&&decide (w1<=w1))then
 let w4:=(ByteArray.extract x.1 (Int.toNat 1) (Int.toNat w1),46,())
 bif (k235 w4)then
 let v1:=(g235 w4)
 bif (decide (v1.1<1))then
 some ((0,false,()))
 else
 bif ((↑(ByteArray.size (ByteArray.extract x.1 (Int.toNat 1) (Int.toNat w1))):Int) != (IntKind.wrap .i64 (v1.1+4)))then
 some ((0,false,()))
 else
 bif (decide (v1.1>7))then
 some ((0,false,()))
 else
 let w0:=((x.1,ByteArray.extract x.1 (Int.toNat 1) (Int.toNat w1),-1,v1.1,0,0,()),())
 bif (kl10 w0)then
 bif (tl10 w0)then
 some (yl10 w0).1
 else
 let v5:=(xl10 w0)
 let v6:=(IntKind.wrap .i64 (v5.1.2.2.1*v5.1.2.1))
 bif (k236 (v6,()))then
 bif (!a2w (g236 (v6,())).1 v5.1.1)then
 some ((0,false,()))
 else
 some ((v6,true,()))
 else
 none
 else
 none
 else
 none
 else
 none
 else
 bif (k235 (x.1,46,()))then
 let v1:=(g235 (x.1,46,()))
 bif (decide (v1.1<1))then
 some ((0,false,()))
 else
 bif (w1 != (IntKind.wrap .i64 (v1.1+4)))then
 some ((0,false,()))
 else
 bif (decide (v1.1>7))then
 some ((0,false,()))
 else
 let w2:=((x.1,x.1,1,v1.1,0,0,()),())
 bif (kl10 w2)then
 bif (tl10 w2)then
 some (yl10 w2).1
 else
 let v5:=(xl10 w2)
 let v6:=(IntKind.wrap .i64 (v5.1.2.2.1*v5.1.2.1))
 bif (k236 (v6,()))then
 bif (!a2w (g236 (v6,())).1 v5.1.1)then
 some ((0,false,()))
 else
 some ((v6,true,()))
 else
 none
 else
 none
 else
 none
 else
 none
 else
 bif (k235 (x.1,46,()))then
 let v1:=(g235 (x.1,46,()))
 bif (decide (v1.1<1))then
 some ((0,false,()))
 else
 bif ((↑(ByteArray.size x.1):Int) != (IntKind.wrap .i64 (v1.1+4)))then
 some ((0,false,()))
 else
 bif (decide (v1.1>7))then
 some ((0,false,()))
 else
 let w3:=((x.1,x.1,1,v1.1,0,0,()),())
 bif (kl10 w3)then
 bif (tl10 w3)then
 some (yl10 w3).1
 else
 let v5:=(xl10 w3)
 let v6:=(IntKind.wrap .i64 (v5.1.2.2.1*v5.1.2.1))
 bif (k236 (v6,()))then
 bif (!a2w (g236 (v6,())).1 v5.1.1)then
 some ((0,false,()))
 else
 some ((v6,true,()))
 else
 none
 else
 none
 else
 none
theorem f6k (k235 g235 k236 g236 kl10 xl10 tl10 yl10 x) :a0E (e8i k235 g235 k236 g236 kl10 xl10 tl10 yl10) (a0e Tryz.f191) (a1f d4o) (a0V d6P x) []=f6j k235 g235 k236 g236 kl10 xl10 tl10 yl10 x:=by kernel_rfl
def e8j (x:Den d6P):Option (Den d4o):=f6j e1J b2j d6O e2P a5M a2E a7x a9G x
def d6Q (x:Den d6P):Bool:=(e8j x).isSome
def b7d (x:Den d6P):Den d4o:=(e8j x).getD (zero d4o)
theorem e8k:a0q Tryz.prog (191,a0a d6P d4o d6Q b7d):=a0s (a0j mixed a0l a0k (.cons e6g (.cons e8h .nil))) (a0O Tryz.func191 rfl rfl rfl (by kernel_rfl) (a0D (l:=[c4C]) (by kernel_rfl) (.cons (a0r rfl (a0x (sh:=a9F) (shX:=b0W) (shR:=b0Y) (fun f v=>d1l e1J b2j d6O e2P a5M a2E a7x a9G f v) b5X ((ByteArray.empty,(0,(0,()))),()) ((0,(false,())),()))) (.nil)))) fun x=>f6k e1J b2j d6O e2P a5M a2E a7x a9G x
abbrev d6R:Ty:=.cons (.int .i64) (.nil)
abbrev d9Y:Ty:=.cons (.flt .f64) (.nil)
noncomputable def f6l (k237 g237) :=a0t tab eqs [(237,a0a c4A d1g k237 g237)] 9 [.tmp 2] [] [] [] [] []
def f6m (k237:KA c4A) (g237:GA c4A d1g) (x:Den d6R):Option (Den d9Y):=
 bif (k237 x)then
 bif (!(g237 x).1)then
 some ((0,()))
 else
 some (((a0i .quo .f64 (FloatKind.nearest .f64 x.1) 4652007308841189376),()))
 else
 none
theorem f6n (k237 g237 x) :a0E (f6l k237 g237) (a0e Tryz.f192) (a1f d9Y) (a0V d6R x) []=f6m k237 g237 x:=by kernel_rfl
def f1A (x:Den d6R):Option (Den d9Y):=f6m d4l d4m x
def d6S (x:Den d6R):Bool:=(f1A x).isSome
def d1m (x:Den d6R):Den d9Y:=(f1A x).getD (zero d9Y)
theorem e8l:a0q Tryz.prog (192,a0a d6R d9Y d6S d1m):=a0s (a0j mixed a0l a0k (.cons d9X .nil)) (a0O Tryz.func192 rfl rfl rfl (by kernel_rfl) (a0m (by kernel_rfl))) fun x=>f6n d4l d4m x
abbrev c6K:Ty:=.cons (.slice (.str)) (.nil)
abbrev d1n:Ty:=.cons (.flt .f64) (.cons (.flt .f64) (.cons (.bool) (.nil)))
noncomputable def f6o (k191 g191 k192 g192) :=a0t tab eqs [(191,a0a d6P d4o k191 g191),(192,a0a d6R d9Y k192 g192)] 31 [.tmp 2,.tmp 3,.tmp 4] [] [] [] [] []
def f6p (k191:KA d6P) (g191:GA d6P d4o) (k192:KA d6R) (g192:GA d6R d9Y) (x:Den c6K):Option (Den d1n):=
 bif (decide (0<=0)&&decide (0<(↑(List.length x.1):Int)))then
 let v0:=(List.getD x.1 (Int.toNat 0) (zero Ty.str))
 bif (k191 (v0,()))then
 bif (decide (0<=1)&&decide (1<(↑(List.length x.1):Int)))then
 let v2:=(List.getD x.1 (Int.toNat 1) (zero Ty.str))
 bif (k191 (v2,()))then
 let v4:=(g191 (v0,()))
 bif (k192 (v4.1,()))then
 let v6:=(g191 (v2,()))
 bif (k192 (v6.1,()))then
 bif v4.2.1 then
 some (((g192 (v4.1,())).1,(g192 (v6.1,())).1,v6.2))
 else
 some (((g192 (v4.1,())).1,(g192 (v6.1,())).1,false,()))
 else
 none
 else
 none
 else
 none
 else
 none
 else
 none
 else
 none
theorem f6q (k191 g191 k192 g192 x) :a0E (f6o k191 g191 k192 g192) (a0e Tryz.f132) (a1f d1n) (a0V c6K x) []=f6p k191 g191 k192 g192 x:=by kernel_rfl
def e5q (x:Den c6K):Option (Den d1n):=f6p d6Q b7d d6S d1m x
def e2Q (x:Den c6K):Bool:=(e5q x).isSome
def e2R (x:Den c6K):Den d1n:=(e5q x).getD (zero d1n)
theorem e8m:a0q Tryz.prog (132,a0a c6K d1n e2Q e2R):=a0s (a0j mixed a0l a0k (.cons e8k (.cons e8l .nil))) (a0O Tryz.func132 rfl rfl rfl (by kernel_rfl) (a0m (by kernel_rfl))) fun x=>f6q d6Q b7d d6S d1m x
abbrev d6T:Ty:=.cons (.flt .f32) (.nil)
abbrev d9Z:Ty:=.cons (.bool) (.nil)
noncomputable def f6r:Env:=a0t tab eqs [] 9 [.tmp 2] [] [] [] [] []
def f8V (x:Den d6T):Option (Den d9Z):=
 bif (fgt .f32 x.1 0||feq .f32 x.1 0)then
 some ((flt .f32 x.1 1065353216||feq .f32 x.1 1065353216,()))
 else
 some ((false,()))
theorem f6s (x) :a0E (f6r) (a0e Tryz.f193) (a1f d9Z) (a0V d6T x) []=f8V x:=by kernel_rfl
def f6t (x:Den d6T):Option (Den d9Z):=f8V x
def f1B (x:Den d6T):Bool:=(f6t x).isSome
def f1C (x:Den d6T):Den d9Z:=(f6t x).getD (zero d9Z)
theorem e8n:a0q Tryz.prog (193,a0a d6T d9Z f1B f1C):=a0s (a0j mixed a0l a0k .nil) (a0O Tryz.func193 rfl rfl rfl (by kernel_rfl) (a0m (by kernel_rfl))) fun x=>f6s x
abbrev d6U:Ty:=.cons (.flt .f32) (.cons (.flt .f32) (.cons (.flt .f32) (.nil)))
abbrev e0a:Ty:=.cons (.flt .f32) (.nil)
noncomputable def f6u:Env:=a0t tab eqs [] 16 [.tmp 6] [] [] [] [] []
def f8W (x:Den d6U):Option (Den e0a):=
 some (((a0i .add .f32 x.1 (a0i .mul .f32 (a0i .sub .f32 x.2.1 x.1) x.2.2.1)),()))
theorem f6v (x) :a0E (f6u) (a0e Tryz.f194) (a1f e0a) (a0V d6U x) []=f8W x:=by kernel_rfl
def f6w (x:Den d6U):Option (Den e0a):=f8W x
def f1D (x:Den d6U):Bool:=(f6w x).isSome
def f1E (x:Den d6U):Den e0a:=(f6w x).getD (zero e0a)
theorem e8o:a0q Tryz.prog (194,a0a d6U e0a f1D f1E):=a0s (a0j mixed a0l a0k .nil) (a0O Tryz.func194 rfl rfl rfl (by kernel_rfl) (a0m (by kernel_rfl))) fun x=>f6v x
abbrev c6L:Ty:=.cons (.cpx .f32) (.cons (.cpx .f32) (.cons (.flt .f32) (.nil)))
abbrev d4p:Ty:=.cons (.cpx .f32) (.cons (.bool) (.nil))
noncomputable def f6x (k45 g45 k193 g193 k194 g194) :=a0t tab eqs [(45,a0a A45 R45 k45 g45),(193,a0a d6T d9Z k193 g193),(194,a0a d6U e0a k194 g194)] 34 [.tmp 6,.tmp 7] [] [] [] [] []
def f6y (k45:KA A45) (g45:GA A45 R45) (k193:KA d6T) (g193:GA d6T d9Z) (k194:KA d6U) (g194:GA d6U e0a) (x:Den c6L):Option (Den d4p):=
 bif (k45 (x.1,()))then
 bif (!(g45 (x.1,())).1)then
 some (((0,0),false,()))
 else
 bif (k45 (x.2.1,()))then
 bif (!(g45 (x.2.1,())).1)then
 some (((0,0),false,()))
 else
 bif (k193 x.2.2)then
 bif (!(g193 x.2.2).1)then
 some (((0,0),false,()))
 else
 bif (k194 (x.1.1,x.2.1.1,x.2.2))then
 bif (k194 (x.1.2,x.2.1.2,x.2.2))then
 some ((((g194 (x.1.1,x.2.1.1,x.2.2)).1,(g194 (x.1.2,x.2.1.2,x.2.2)).1),true,()))
 else
 none
 else
 none
 else
 none
 else
 none
 else
 none
theorem f6z (k45 g45 k193 g193 k194 g194 x) :a0E (f6x k45 g45 k193 g193 k194 g194) (a0e Tryz.f133) (a1f d4p) (a0V c6L x) []=f6y k45 g45 k193 g193 k194 g194 x:=by kernel_rfl
def f1F (x:Den c6L):Option (Den d4p):=f6y K45 G45 f1B f1C f1D f1E x
def e2S (x:Den c6L):Bool:=(f1F x).isSome
def e2T (x:Den c6L):Den d4p:=(f1F x).getD (zero d4p)
theorem e8p:a0q Tryz.prog (133,a0a c6L d4p e2S e2T):=a0s (a0j mixed a0l a0k (.cons b4Z (.cons e8n (.cons e8o .nil)))) (a0O Tryz.func133 rfl rfl rfl (by kernel_rfl) (a0m (by kernel_rfl))) fun x=>f6z K45 G45 f1B f1C f1D f1E x
abbrev b5Y:Ty:=.cons (S68) (.cons (S63) (.nil))
abbrev c6M:Ty:=.cons (.bool) (.nil)
noncomputable def f6A (k44 g44) :=a0t tab eqs [(44,a0a A44 R44 k44 g44)] 26 [.tmp 4] [] [] [] [] []
def f6B (k44:KA A44) (g44:GA A44 R44) (x:Den b5Y):Option (Den c6M):=
 bif (fgt .f32 x.2.1.1 x.1.2.1||feq .f32 x.2.1.1 x.1.2.1)then
 bif (flt .f32 x.2.1.1 x.1.2.2.1||feq .f32 x.2.1.1 x.1.2.2.1)then
 bif (k44 (x.2.1.2.1,x.1.2.2.2))then
 some (g44 (x.2.1.2.1,x.1.2.2.2))
 else
 none
 else
 some ((false,()))
 else
 some ((false,()))
theorem f6C (k44 g44 x) :a0E (f6A k44 g44) (a0e Tryz.f135) (a1f c6M) (a0V b5Y x) []=f6B k44 g44 x:=by kernel_rfl
def f1G (x:Den b5Y):Option (Den c6M):=f6B K44 G44 x
def c6N (x:Den b5Y):Bool:=(f1G x).isSome
def c6O (x:Den b5Y):Den c6M:=(f1G x).getD (zero c6M)
theorem e0b:a0q Tryz.prog (135,a0a b5Y c6M c6N c6O):=a0s (a0j mixed a0l a0k (.cons a6J .nil)) (a0O Tryz.func135 rfl rfl rfl (by kernel_rfl) (a0m (by kernel_rfl))) fun x=>f6C K44 G44 x
abbrev d1o:Ty:=.cons (a3L) (.nil)
abbrev d6V:Ty:=.cons (.bool) (.nil)
noncomputable def f6D (k107 g107 k44 g44) :=a0t tab eqs [(107,a0a c1I c7F k107 g107),(44,a0a A44 R44 k44 g44)] 11 [.tmp 2] [] [] [] [] []
def f6E (k107:KA c1I) (g107:GA c1I c7F) (k44:KA A44) (g44:GA A44 R44) (x:Den d1o):Option (Den d6V):=
 bif (k107 (x.1.2.1,()))then
 bif (g107 (x.1.2.1,())).1 then
 bif (k44 (x.1.2.2.1,0,100000,()))then
 some (g44 (x.1.2.2.1,0,100000,()))
 else
 none
 else
 some ((false,()))
 else
 none
theorem f6F (k107 g107 k44 g44 x) :a0E (f6D k107 g107 k44 g44) (a0e Tryz.f238) (a1f d6V) (a0V d1o x) []=f6E k107 g107 k44 g44 x:=by kernel_rfl
def f1H (x:Den d1o):Option (Den d6V):=f6E d4c d4d K44 G44 x
def d4q (x:Den d1o):Bool:=(f1H x).isSome
def d4r (x:Den d1o):Den d6V:=(f1H x).getD (zero d6V)
theorem e8q:a0q Tryz.prog (238,a0a d1o d6V d4q d4r):=a0s (a0j mixed a0l a0k (.cons d0b (.cons a6J .nil))) (a0O Tryz.func238 rfl rfl rfl (by kernel_rfl) (a0m (by kernel_rfl))) fun x=>f6F d4c d4d K44 G44 x
abbrev c6P:Ty:=.cons (.slice (a3L)) (.nil)
abbrev d4s:Ty:=.cons (.bool) (.nil)
abbrev a4W:Type:=(((List (Den (a3L)))×((List (Den (a3L)))×(Int×(Int×Unit))))×Unit)
def b5Z:ShS:=⟨[(0,.one (.sl (a3L))),(5,.one (.sl (a3L))),(6,.one (.int .i64)),(7,.one (.int .i64))],[],0,0⟩
abbrev b9D:Type:=(((List (Den (a3L)))×Unit)×Unit)
def b6a:ShS:=⟨[(0,.one (.sl (a3L)))],[],0,0⟩
abbrev b9E:Type:=((Bool×Unit)×Unit)
def b6b:ShS:=⟨[(2,.one (.bool))],[],0,0⟩
noncomputable def e8r (k238 g238 kl2 xl2 tl2 yl2) :=a0t tab eqs [(238,a0a d1o d6V k238 g238)] 18 [.tmp 2] [] [] [(2,a1U [0,5,6,7] [] 0 [0] [] b5Z b6a b6b kl2 tl2 xl2 yl2)] [] []
noncomputable def d1p:Code:=(a0u (a0e Tryz.f195)).getD 0 .skip
def b9F (k238:KA d1o) (g238:GA d1o d6V) (f:a4W->Option (b9D⊕b9E)) (v:a4W):Option (b9D⊕b9E):=
 bif (decide (v.1.2.2.2.1<v.1.2.2.1))then
 bif (decide (0<=v.1.2.2.2.1)&&decide (v.1.2.2.2.1<(↑(List.length v.1.2.1):Int)))then
 let v0:=(List.getD v.1.2.1 (Int.toNat v.1.2.2.2.1) (zero a3L))
 bif (k238 (v0,()))then
 bif (!(g238 (v0,())).1)then
 some (Sum.inr (((false,()),())))
 else
 f (((v.1.1,v.1.2.1,v.1.2.2.1,(IntKind.wrap .i64 (v.1.2.2.2.1+1)),()),()))
 else
 none
 else
 none
 else
 some (Sum.inl (((v.1.1,()),())))
theorem d6W (k238 g238 kl2 xl2 tl2 yl2 f v) :EBk (e8r k238 g238 kl2 xl2 tl2 yl2) d1p (a0B [0,5,6,7] [] 0 [0] [] (atS b5Z f) (a5J b6a b6b)) (mkS b5Z v)=b9F k238 g238 f v:=by kernel_rfl
def d1q (v:a4W):Nat:=v.1.1.length+v.1.2.1.length+v.1.2.2.1.natAbs+v.1.2.2.2.1.natAbs+1000
def b2G (v:a4W):Option (b9D⊕b9E):=a1u (b9F d4q d4r) (d1q v) v
def b1a (v:a4W):Bool:=(b2G v).isSome
def b1b (v:a4W):Bool:=isR (b2G v)
def b1c (v:a4W):b9D:=xOf (([],()),()) (b2G v)
def b1d (v:a4W):b9E:=yOf ((false,()),()) (b2G v)
def f6G (k238:KA d1o) (g238:GA d1o d6V) (kl2:a4W->Bool) (xl2:a4W->b9D) (tl2:a4W->Bool) (yl2:a4W->b9E) (x:Den c6P):Option (Den d4s):=
 let w0:=((x.1,x.1,(↑(List.length x.1):Int),0,()),())
 bif (kl2 w0)then
 bif (tl2 w0)then
 some (yl2 w0).1
 else
 some ((decide ((↑(List.length (xl2 w0).1.1):Int)<=50),()))
 else
 none
theorem f6H (k238 g238 kl2 xl2 tl2 yl2 x) :a0E (e8r k238 g238 kl2 xl2 tl2 yl2) (a0e Tryz.f195) (a1f d4s) (a0V c6P x) []=f6G k238 g238 kl2 xl2 tl2 yl2 x:=by kernel_rfl
def f1I (x:Den c6P):Option (Den d4s):=f6G d4q d4r b1a b1c b1b b1d x
def c4D (x:Den c6P):Bool:=(f1I x).isSome
def c4E (x:Den c6P):Den d4s:=(f1I x).getD (zero d4s)
theorem e8s:a0q Tryz.prog (195,a0a c6P d4s c4D c4E):=a0s (a0j mixed a0l a0k (.cons e8q .nil)) (a0O Tryz.func195 rfl rfl rfl (by kernel_rfl) (a0D (l:=[d1p]) (by kernel_rfl) (.cons (a0r rfl (a0x (sh:=b5Z) (shX:=b6a) (shR:=b6b) (fun f v=>d6W d4q d4r b1a b1c b1b b1d f v) d1q (([],()),()) ((false,()),()))) (.nil)))) fun x=>f6H d4q d4r b1a b1c b1b b1d x
abbrev d1r:Ty:=.cons (.cpx .f64) (.cons (.cpx .f64) (.nil))
abbrev d6X:Ty:=.cons (.cpx .f64) (.nil)
noncomputable def f6I:Env:=a0t tab eqs [] 16 [.tmp 4] [] [] [] [] []
def f8X (x:Den d1r):Option (Den d6X):=
 some ((((a0i .sub .f64 x.1.1 x.2.1.1),(a0i .sub .f64 x.1.2 x.2.1.2)),()))
theorem f6J (x) :a0E (f6I) (a0e Tryz.f263) (a1f d6X) (a0V d1r x) []=f8X x:=by kernel_rfl
def f6K (x:Den d1r):Option (Den d6X):=f8X x
def e2U (x:Den d1r):Bool:=(f6K x).isSome
def e2V (x:Den d1r):Den d6X:=(f6K x).getD (zero d6X)
theorem e8t:a0q Tryz.prog (263,a0a d1r d6X e2U e2V):=a0s (a0j mixed a0l a0k .nil) (a0O Tryz.func263 rfl rfl rfl (by kernel_rfl) (a0m (by kernel_rfl))) fun x=>f6J x
abbrev d6Y:Ty:=.cons (S30) (.cons (.cpx .f64) (.nil))
abbrev e0c:Ty:=.cons (.int .i64) (.nil)
abbrev a8W:Type:=(((Nat×Nat)×(Int×(Nat×((List (Den (a0S)))×(Int×(Int×Unit))))))×Unit)
def b6c:ShS:=⟨[(1,.one (.cpx .f64)),(5,.one (.int .i64)),(6,.one (.flt .f64)),(20,.one (.sl (a0S))),(21,.one (.int .i64)),(22,.one (.int .i64))],[],0,0⟩
abbrev b9G:Type:=((Int×Unit)×Unit)
def b6d:ShS:=⟨[(5,.one (.int .i64))],[],0,0⟩
noncomputable def e8u (k91 g91 k61 g61 k263 g263 k225 g225 kl5 xl5) :=a0t tab eqs [(91,a0a A91 R91 k91 g91),(61,a0a A61 R61 k61 g61),(263,a0a d1r d6X k263 g263),(225,a0a b9p c6F k225 g225)] 45 [.tmp 4] [] [] [(5,a1X [1,5,6,20,21,22] [] 0 [5] [] b6c b6d kl5 xl5)] [] []
noncomputable def d1s:Code:=(a0u (a0e Tryz.f239)).getD 0 .skip
def b9H (k91:KA A91) (g91:GA A91 R91) (k61:KA A61) (g61:GA A61 R61) (k263:KA d1r) (g263:GA d1r d6X) (k225:KA b9p) (g225:GA b9p c6F) (f:a8W->Option (b9G)) (v:a8W):Option (b9G):=
 bif (decide (v.1.2.2.2.2.2.1<v.1.2.2.2.2.1))then
 bif (decide (0<=v.1.2.2.2.2.2.1)&&decide (v.1.2.2.2.2.2.1<(↑(List.length v.1.2.2.2.1):Int)))then
 let v0:=(List.getD v.1.2.2.2.1 (Int.toNat v.1.2.2.2.2.2.1) (zero a0S))
 bif (k263 (v0.1,v.1.1,()))then
 let v2:=(g263 (v0.1,v.1.1,()))
 bif (k225 (v2.1,v2))then
 bif (decide (v.1.2.1<0))then
 f (((v.1.1,v.1.2.2.2.2.2.1,(g225 (v2.1,v2)).1,v.1.2.2.2.1,v.1.2.2.2.2.1,(IntKind.wrap .i64 (v.1.2.2.2.2.2.1+1)),()),()))
 else
 let v4:=(g225 (v2.1,v2))
 bif (flt .f64 v4.1 v.1.2.2.1)then
 f (((v.1.1,v.1.2.2.2.2.2.1,v4.1,v.1.2.2.2.1,v.1.2.2.2.2.1,(IntKind.wrap .i64 (v.1.2.2.2.2.2.1+1)),()),()))
 else
 f (((v.1.1,v.1.2.1,v.1.2.2.1,v.1.2.2.2.1,v.1.2.2.2.2.1,(IntKind.wrap .i64 (v.1.2.2.2.2.2.1+1)),()),()))
 else
 none
 else
 none
 else
 none
 else
 some (((v.1.2.1,()),()))
theorem d6Z (k91 g91 k61 g61 k263 g263 k225 g225 kl5 xl5 f v) :EBk (e8u k91 g91 k61 g61 k263 g263 k225 g225 kl5 xl5) d1s (a0B [1,5,6,20,21,22] [] 0 [5] [] (atS b6c f) (a5W b6d)) (mkS b6c v)=b9H k91 g91 k61 g61 k263 g263 k225 g225 f v:=by kernel_rfl
def d1t (v:a8W):Nat:=v.1.2.1.natAbs+v.1.2.2.2.1.length+v.1.2.2.2.2.1.natAbs+v.1.2.2.2.2.2.1.natAbs+1000
def d1u (v:a8W):Option (b9G):=a1u (b9H K91 G91 K61 G61 e2U e2V c6G c6H) (d1t v) v
def b6e (v:a8W):Bool:=(d1u v).isSome
def b6f (v:a8W):b9G:=(d1u v).getD ((0,()),())
def f6L (k91:KA A91) (g91:GA A91 R91) (k61:KA A61) (g61:GA A61 R61) (k263:KA d1r) (g263:GA d1r d6X) (k225:KA b9p) (g225:GA b9p c6F) (kl5:a8W->Bool) (xl5:a8W->b9G) (x:Den d6Y):Option (Den e0c):=
 bif (k91 (x.1,()))then
 bif (!(g91 (x.1,())).1)then
 some ((-1,()))
 else
 bif (k61 x.2)then
 bif (!(g61 x.2).1)then
 some ((-1,()))
 else
 let w0:=((x.2.1,-1,0,x.1.1,(↑(List.length x.1.1):Int),0,()),())
 bif (kl5 w0)then
 some (xl5 w0).1
 else
 none
 else
 none
 else
 none
theorem f6M (k91 g91 k61 g61 k263 g263 k225 g225 kl5 xl5 x) :a0E (e8u k91 g91 k61 g61 k263 g263 k225 g225 kl5 xl5) (a0e Tryz.f239) (a1f e0c) (a0V d6Y x) []=f6L k91 g91 k61 g61 k263 g263 k225 g225 kl5 xl5 x:=by kernel_rfl
def e8v (x:Den d6Y):Option (Den e0c):=f6L K91 G91 K61 G61 e2U e2V c6G c6H b6e b6f x
def f1J (x:Den d6Y):Bool:=(e8v x).isSome
def f1K (x:Den d6Y):Den e0c:=(e8v x).getD (zero e0c)
theorem e8w:a0q Tryz.prog (239,a0a d6Y e0c f1J f1K):=a0s (a0j mixed a0l a0k (.cons e2y (.cons c1O (.cons e8t (.cons d0P .nil))))) (a0O Tryz.func239 rfl rfl rfl (by kernel_rfl) (a0D (l:=[d1s]) (by kernel_rfl) (.cons (a0r rfl (a0y (sh:=b6c) (shX:=b6d) (fun f v=>d6Z K91 G91 K61 G61 e2U e2V c6G c6H b6e b6f f v) d1t ((0,()),()))) (.nil)))) fun x=>f6M K91 G91 K61 G61 e2U e2V c6G c6H b6e b6f x
abbrev d1v:Sg:=⟨[.val (.int .i64),.ptr 0,.ptr 1],[.box (.int .i64),.box (S30)]⟩
abbrev d7a:Sg:=⟨[.val (.int .i64)],[.box (.int .i64),.box (S30)]⟩
noncomputable def f6N:Env:=a0t tab eqs [] 20 [.tmp 4] [] [] [] [] []
def f6O (x:d1v.den):Option (d7a.den):=
 let w0:=(decide (0<=x.1.1)&&decide (x.1.1<(↑(List.length x.2.2.1.2.1):Int)))
 bif w0 then
 bif w0 then
 let v0:=(List.getD x.2.2.1.2.1 (Int.toNat x.1.1) (zero (Ty.int IntKind.i64)))
 some (((e0W (IntKind.wrap .i64 (x.2.1-v0)) (IntKind.wrap .i64 (v0-x.2.1)),()),x.2))
 else
 none
 else
 none
theorem f6P (x) :a1N (f6N) (a0e Tryz.f264) d1v d7a x=f6O x:=by kernel_rfl
def e5r (x:d1v.den):Option (d7a.den):=f6O x
def e2W (x:d1v.den):Bool:=(e5r x).isSome
def e2X (x:d1v.den):d7a.den:=(e5r x).getD (a1d d7a)
theorem e8x:a0q Tryz.prog (264,a0n true d1v d7a e2W e2X):=a1k (a0j mixed a0l a0k .nil) (a0O Tryz.func264 rfl rfl rfl (by kernel_rfl) (a0m (by kernel_rfl))) true fun x=>f6P x
abbrev d7b:Ty:=.cons (S30) (.cons (.int .i64) (.nil))
abbrev e0d:Ty:=.cons (.int .i64) (.nil)
abbrev a8X:Type:=((Unit×(Int×(Int×(Int×Unit))))×((Int×Unit)×(((List (Den (a0S)))×((List (Den (.int .i64)))×Unit))×Unit)))
def b6g:ShS:=⟨[(5,.one (.fn 264 [0,1])),(6,.one (.int .i64)),(19,.one (.int .i64)),(20,.one (.int .i64))],[(0,.box [.int .i64]),(1,.box [.sl (a0S),.sl (.int .i64)])],2,0⟩
abbrev b9I:Type:=((Int×Unit)×Unit)
def b6h:ShS:=⟨[(6,.one (.int .i64))],[],0,0⟩
noncomputable def e8y (k91 g91 k43 g43 k264 g264 kl6 xl6) :=a0t tab eqs [(91,a0a A91 R91 k91 g91),(43,a0a A43 R43 k43 g43),(264,a0n true d1v d7a k264 g264)] 33 [.tmp 4] [] [] [(6,a1X [5,6,19,20] [] 0 [6] [] b6g b6h kl6 xl6)] [] []
noncomputable def d1w:Code:=(a0u (a0e Tryz.f240)).getD 0 .skip
def b9J (k91:KA A91) (g91:GA A91 R91) (k43:KA A43) (g43:GA A43 R43) (k264:KI d1v) (g264:GI d1v d7a) (f:a8X->Option (b9I)) (v:a8X):Option (b9I):=
 bif (decide (v.1.2.2.2.1<v.1.2.2.1))then
 bif (k264 ((v.1.2.2.2.1,(),(),()),v.2.1.1,v.2.2))then
 let v1:=(g264 ((v.1.2.2.2.1,(),(),()),v.2.1.1,v.2.2))
 bif (k264 ((v.1.2.1,(),(),()),v1.2))then
 let v3:=(g264 ((v.1.2.1,(),(),()),v1.2))
 bif (decide (v1.1.1<v3.1.1))then
 f ((((),v.1.2.2.2.1,v.1.2.2.1,(IntKind.wrap .i64 (v.1.2.2.2.1+1)),()),(v3.2.1,()),v3.2.2))
 else
 f ((((),v.1.2.1,v.1.2.2.1,(IntKind.wrap .i64 (v.1.2.2.2.1+1)),()),(v3.2.1,()),v3.2.2))
 else
 none
 else
 none
 else
 some (((v.1.2.1,()),()))
theorem d7c (k91 g91 k43 g43 k264 g264 kl6 xl6 f v) :EBk (e8y k91 g91 k43 g43 k264 g264 kl6 xl6) d1w (a0B [5,6,19,20] [] 0 [6] [] (atS b6g f) (a5W b6h)) (mkS b6g v)=b9J k91 g91 k43 g43 k264 g264 f v:=by kernel_rfl
def d1x (v:a8X):Nat:=v.1.2.1.natAbs+v.1.2.2.1.natAbs+v.1.2.2.2.1.natAbs+v.2.1.1.natAbs+v.2.2.1.1.length+v.2.2.1.2.1.length+1000
def d1y (v:a8X):Option (b9I):=a1u (b9J K91 G91 K43 G43 e2W e2X) (d1x v) v
def b6i (v:a8X):Bool:=(d1y v).isSome
def b6j (v:a8X):b9I:=(d1y v).getD ((0,()),())
def f6Q (k91:KA A91) (g91:GA A91 R91) (k43:KA A43) (g43:GA A43 R43) (k264:KI d1v) (g264:GI d1v d7a) (kl6:a8X->Bool) (xl6:a8X->b9I) (x:Den d7b):Option (Den e0d):=
 bif (k91 (x.1,()))then
 bif (!(g91 (x.1,())).1)then
 some ((-1,()))
 else
 bif (k43 x.2)then
 bif (!(g43 x.2).1)then
 some ((-1,()))
 else
 let w0:=(((),0,(↑(List.length x.1.2.1):Int),0,()),x.2,x.1,())
 bif (kl6 w0)then
 some (xl6 w0).1
 else
 none
 else
 none
 else
 none
theorem f6R (k91 g91 k43 g43 k264 g264 kl6 xl6 x) :a0E (e8y k91 g91 k43 g43 k264 g264 kl6 xl6) (a0e Tryz.f240) (a1f e0d) (a0V d7b x) []=f6Q k91 g91 k43 g43 k264 g264 kl6 xl6 x:=by kernel_rfl
def e8z (x:Den d7b):Option (Den e0d):=f6Q K91 G91 K43 G43 e2W e2X b6i b6j x
def f1L (x:Den d7b):Bool:=(e8z x).isSome
def f1M (x:Den d7b):Den e0d:=(e8z x).getD (zero e0d)
theorem e8A:a0q Tryz.prog (240,a0a d7b e0d f1L f1M):=a0s (a0j mixed a0l a0k (.cons e2y (.cons d6i (.cons e8x .nil)))) (a0O Tryz.func240 rfl rfl rfl (by kernel_rfl) (a0D (l:=[d1w]) (by kernel_rfl) (.cons (a0r rfl (a0y (sh:=b6g) (shX:=b6h) (fun f v=>d7c K91 G91 K43 G43 e2W e2X b6i b6j f v) d1x ((0,()),()))) (.nil)))) fun x=>f6R K91 G91 K43 G43 e2W e2X b6i b6j x
abbrev d7d:Ty:=.cons (.int .i64) (.cons (.int .i64) (.cons (.int .i64) (.nil)))
abbrev e0e:Ty:=.cons (.int .i64) (.nil)
noncomputable def f6S:Env:=a0t tab eqs [] 19 [.tmp 6] [] [] [] [] []
def f6T (x:Den d7d):Option (Den e0e):=
 bif (decide (x.2.2.1<x.2.1))then
 some ((x.2.1,()))
 else
 bif (decide (x.1<x.2.1))then
 some ((x.2.1,()))
 else
 some ((a4j x.1 x.2.2.1,()))
theorem f6U (x) :a0E (f6S) (a0e Tryz.f265) (a1f e0e) (a0V d7d x) []=f6T x:=by kernel_rfl
def e8B (x:Den d7d):Option (Den e0e):=f6T x
def f1N (x:Den d7d):Bool:=(e8B x).isSome
def f1O (x:Den d7d):Den e0e:=(e8B x).getD (zero e0e)
theorem e8C:a0q Tryz.prog (265,a0a d7d e0e f1N f1O):=a0s (a0j mixed a0l a0k .nil) (a0O Tryz.func265 rfl rfl rfl (by kernel_rfl) (a0m (by kernel_rfl))) fun x=>f6U x
abbrev d7e:Ty:=.cons (a0S) (.cons (.int .i64) (.nil))
abbrev e0f:Ty:=.cons (.cpx .f32) (.cons (.bool) (.nil))
noncomputable def f6V (k159 g159 k265 g265 k227 g227) :=a0t tab eqs [(159,a0a c0P c7G k159 g159),(265,a0a d7d e0e k265 g265),(227,a0a b5F c4p k227 g227)] 54 [.tmp 4,.tmp 5] [] [] [] [] []
def f6W (k159:KA c0P) (g159:GA c0P c7G) (k265:KA d7d) (g265:GA d7d e0e) (k227:KA b5F) (g227:GA b5F c4p) (x:Den d7e):Option (Den e0f):=
 let w0:=([x.1.2.1.1,x.1.2.1.2.1,x.1.2.1.2.2.1,x.1.2.1.2.2.2.1,x.1.2.1.2.2.2.2.1,x.1.2.1.2.2.2.2.2.1,x.1.2.1.2.2.2.2.2.2.1,x.1.2.1.2.2.2.2.2.2.2.1,x.1.2.1.2.2.2.2.2.2.2.2.1,x.1.2.1.2.2.2.2.2.2.2.2.2.1,x.1.2.1.2.2.2.2.2.2.2.2.2.2.1,x.1.2.1.2.2.2.2.2.2.2.2.2.2.2.1,x.1.2.1.2.2.2.2.2.2.2.2.2.2.2.2.1],())
 bif (k159 w0)then
 bif (!(g159 w0).1)then
 some (((0,0),false,()))
 else
 bif (k265 (x.2.1,-21600,21600,()))then
 let v4:=(IntKind.wrap .i64 ((g265 (x.2.1,-21600,21600,())).1+21600))
 bif (Int.tmod v4 3600==0)then
 let v5:=(IntKind.wrap .i64 (Int.tdiv v4 3600))
 bif (decide (0<=v5)&&decide (v5<(↑13:Int)))then
 some (((List.getD [x.1.2.1.1,x.1.2.1.2.1,x.1.2.1.2.2.1,x.1.2.1.2.2.2.1,x.1.2.1.2.2.2.2.1,x.1.2.1.2.2.2.2.2.1,x.1.2.1.2.2.2.2.2.2.1,x.1.2.1.2.2.2.2.2.2.2.1,x.1.2.1.2.2.2.2.2.2.2.2.1,x.1.2.1.2.2.2.2.2.2.2.2.2.1,x.1.2.1.2.2.2.2.2.2.2.2.2.2.1,x.1.2.1.2.2.2.2.2.2.2.2.2.2.2.1,x.1.2.1.2.2.2.2.2.2.2.2.2.2.2.2.1] (Int.toNat v5) (0,0)),true,()))
 else
 none
 else
 let v5:=(IntKind.wrap .i64 (Int.tdiv v4 3600))
 bif (decide (0<=v5)&&decide (v5<(↑13:Int)))then
 let v6:=(IntKind.wrap .i64 (v5+1))
 bif (decide (0<=v6)&&decide (v6<(↑13:Int)))then
 let v7:=(List.getD [x.1.2.1.1,x.1.2.1.2.1,x.1.2.1.2.2.1,x.1.2.1.2.2.2.1,x.1.2.1.2.2.2.2.1,x.1.2.1.2.2.2.2.2.1,x.1.2.1.2.2.2.2.2.2.1,x.1.2.1.2.2.2.2.2.2.2.1,x.1.2.1.2.2.2.2.2.2.2.2.1,x.1.2.1.2.2.2.2.2.2.2.2.2.1,x.1.2.1.2.2.2.2.2.2.2.2.2.2.1,x.1.2.1.2.2.2.2.2.2.2.2.2.2.2.1,x.1.2.1.2.2.2.2.2.2.2.2.2.2.2.2.1] (Int.toNat v5) (0,0))
 let v8:=(List.getD [x.1.2.1.1,x.1.2.1.2.1,x.1.2.1.2.2.1,x.1.2.1.2.2.2.1,x.1.2.1.2.2.2.2.1,x.1.2.1.2.2.2.2.2.1,x.1.2.1.2.2.2.2.2.2.1,x.1.2.1.2.2.2.2.2.2.2.1,x.1.2.1.2.2.2.2.2.2.2.2.1,x.1.2.1.2.2.2.2.2.2.2.2.2.1,x.1.2.1.2.2.2.2.2.2.2.2.2.2.1,x.1.2.1.2.2.2.2.2.2.2.2.2.2.2.1,x.1.2.1.2.2.2.2.2.2.2.2.2.2.2.2.1] (Int.toNat v6) (0,0))
 let v9:=(a0i .quo .f32 (FloatKind.nearest .f32 (Int.tmod v4 3600)) 1163984896)
 bif (k227 (v7.1,v8.1,v9,()))then
 bif (k227 (v7.2,v8.2,v9,()))then
 some ((((g227 (v7.1,v8.1,v9,())).1,(g227 (v7.2,v8.2,v9,())).1),true,()))
 else
 none
 else
 none
 else
 none
 else
 none
 else
 none
 else
 none
theorem f6X (k159 g159 k265 g265 k227 g227 x) :a0E (f6V k159 g159 k265 g265 k227 g227) (a0e Tryz.f241) (a1f e0f) (a0V d7e x) []=f6W k159 g159 k265 g265 k227 g227 x:=by kernel_rfl
def f1P (x:Den d7e):Option (Den e0f):=f6W c6z c6A f1N f1O c4q c4r x
def f1Q (x:Den d7e):Bool:=(f1P x).isSome
def f1R (x:Den d7e):Den e0f:=(f1P x).getD (zero e0f)
theorem e8D:a0q Tryz.prog (241,a0a d7e e0f f1Q f1R):=a0s (a0j mixed a0l a0k (.cons d9z (.cons e8C (.cons d0W .nil)))) (a0O Tryz.func241 rfl rfl rfl (by kernel_rfl) (a0m (by kernel_rfl))) fun x=>f6X c6z c6A f1N f1O c4q c4r x
abbrev c6Q:Ty:=.cons (S30) (.cons (.cpx .f64) (.cons (.int .i64) (.nil)))
abbrev d4t:Ty:=.cons (.cpx .f32) (.cons (.bool) (.nil))
noncomputable def f6Y (k239 g239 k240 g240 k241 g241) :=a0t tab eqs [(239,a0a d6Y e0c k239 g239),(240,a0a d7b e0d k240 g240),(241,a0a d7e e0f k241 g241)] 37 [.tmp 6,.tmp 7] [] [] [] [] []
def f6Z (k239:KA d6Y) (g239:GA d6Y e0c) (k240:KA d7b) (g240:GA d7b e0d) (k241:KA d7e) (g241:GA d7e e0f) (x:Den c6Q):Option (Den d4t):=
 bif (k239 (x.1,x.2.1,()))then
 bif (k240 (x.1,x.2.2))then
 let v2:=(g239 (x.1,x.2.1,()))
 bif (decide (v2.1<0))then
 some (((0,0),false,()))
 else
 let v3:=(g240 (x.1,x.2.2))
 bif (decide (v3.1<0))then
 some (((0,0),false,()))
 else
 bif (decide (0<=v2.1)&&decide (v2.1<(↑(List.length x.1.1):Int)))then
 bif (decide (0<=v3.1)&&decide (v3.1<(↑(List.length x.1.2.1):Int)))then
 let v4:=(List.getD x.1.1 (Int.toNat v2.1) (zero a0S))
 let v6:=(IntKind.wrap .i64 (x.2.2.1-(List.getD x.1.2.1 (Int.toNat v3.1) (zero (Ty.int IntKind.i64)))))
 bif (k241 (v4,v6,()))then
 some (g241 (v4,v6,()))
 else
 none
 else
 none
 else
 none
 else
 none
 else
 none
theorem f7a (k239 g239 k240 g240 k241 g241 x) :a0E (f6Y k239 g239 k240 g240 k241 g241) (a0e Tryz.f196) (a1f d4t) (a0V c6Q x) []=f6Z k239 g239 k240 g240 k241 g241 x:=by kernel_rfl
def f1S (x:Den c6Q):Option (Den d4t):=f6Z f1J f1K f1L f1M f1Q f1R x
def c4F (x:Den c6Q):Bool:=(f1S x).isSome
def b9K (x:Den c6Q):Den d4t:=(f1S x).getD (zero d4t)
theorem e8E:a0q Tryz.prog (196,a0a c6Q d4t c4F b9K):=a0s (a0j mixed a0l a0k (.cons e8w (.cons e8A (.cons e8D .nil)))) (a0O Tryz.func196 rfl rfl rfl (by kernel_rfl) (a0m (by kernel_rfl))) fun x=>f7a f1J f1K f1L f1M f1Q f1R x
abbrev d7f:Ty:=.cons (.cpx .f32) (.cons (.cpx .f32) (.nil))
abbrev e0g:Ty:=.cons (.cpx .f32) (.nil)
noncomputable def f7b:Env:=a0t tab eqs [] 16 [.tmp 4] [] [] [] [] []
def f8Y (x:Den d7f):Option (Den e0g):=
 some ((((a0i .add .f32 x.1.1 x.2.1.1),(a0i .add .f32 x.1.2 x.2.1.2)),()))
theorem f7c (x) :a0E (f7b) (a0e Tryz.f266) (a1f e0g) (a0V d7f x) []=f8Y x:=by kernel_rfl
def f7d (x:Den d7f):Option (Den e0g):=f8Y x
def f1T (x:Den d7f):Bool:=(f7d x).isSome
def f1U (x:Den d7f):Den e0g:=(f7d x).getD (zero e0g)
theorem e8F:a0q Tryz.prog (266,a0a d7f e0g f1T f1U):=a0s (a0j mixed a0l a0k .nil) (a0O Tryz.func266 rfl rfl rfl (by kernel_rfl) (a0m (by kernel_rfl))) fun x=>f7c x
abbrev d7g:Ty:=.cons (.int .i64) (.cons (.flt .f32) (.cons (.cpx .f32) (.nil)))
abbrev e0h:Ty:=.cons (.cpx .f32) (.cons (.bool) (.nil))
noncomputable def f7e (k56 g56 k45 g45 k266 g266) :=a0t tab eqs [(56,a0a A56 R56 k56 g56),(45,a0a A45 R45 k45 g45),(266,a0a d7f e0g k266 g266)] 26 [.tmp 6,.tmp 7] [] [] [] [] []
def f7f (k56:KA A56) (g56:GA A56 R56) (k45:KA A45) (g45:GA A45 R45) (k266:KA d7f) (g266:GA d7f e0g) (x:Den d7g):Option (Den e0h):=
 bif (k56 (x.1,x.2.1,()))then
 let v1:=(g56 (x.1,x.2.1,()))
 bif (!v1.2.1)then
 some (((0,0),false,()))
 else
 bif (k45 x.2.2)then
 bif (!(g45 x.2.2).1)then
 some (((0,0),false,()))
 else
 bif (k266 (v1.1,x.2.2))then
 some (((g266 (v1.1,x.2.2)).1,true,()))
 else
 none
 else
 none
 else
 none
theorem f7g (k56 g56 k45 g45 k266 g266 x) :a0E (f7e k56 g56 k45 g45 k266 g266) (a0e Tryz.f242) (a1f e0h) (a0V d7g x) []=f7f k56 g56 k45 g45 k266 g266 x:=by kernel_rfl
def f1V (x:Den d7g):Option (Den e0h):=f7f K56 G56 K45 G45 f1T f1U x
def f1W (x:Den d7g):Bool:=(f1V x).isSome
def f1X (x:Den d7g):Den e0h:=(f1V x).getD (zero e0h)
theorem e8G:a0q Tryz.prog (242,a0a d7g e0h f1W f1X):=a0s (a0j mixed a0l a0k (.cons e8a (.cons b4Z (.cons e8F .nil)))) (a0O Tryz.func242 rfl rfl rfl (by kernel_rfl) (a0m (by kernel_rfl))) fun x=>f7g K56 G56 K45 G45 f1T f1U x
abbrev d7h:Ty:=.cons (.cpx .f64) (.cons (.cpx .f32) (.cons (.int .i64) (.nil)))
abbrev e0i:Ty:=.cons (.cpx .f64) (.cons (.bool) (.nil))
noncomputable def f7h (k61 g61 k45 g45 k44 g44) :=a0t tab eqs [(61,a0a A61 R61 k61 g61),(45,a0a A45 R45 k45 g45),(44,a0a A44 R44 k44 g44)] 46 [.tmp 6,.tmp 7] [] [] [] [] []
def f7i (k61:KA A61) (g61:GA A61 R61) (k45:KA A45) (g45:GA A45 R45) (k44:KA A44) (g44:GA A44 R44) (x:Den d7h):Option (Den e0i):=
 bif (k61 (x.1,()))then
 bif (!(g61 (x.1,())).1)then
 some (((0,0),false,()))
 else
 bif (k45 (x.2.1,()))then
 bif (!(g45 (x.2.1,())).1)then
 some (((0,0),false,()))
 else
 bif (k44 (x.2.2.1,0,100000,()))then
 bif (!(g44 (x.2.2.1,0,100000,())).1)then
 some (((0,0),false,()))
 else
 let w0:=(FloatKind.nearest .f64 x.2.2.1)
 let v7:=(a0i .add .f64 x.1.1 (a0i .mul .f64 (a0Z .f32 .f64 x.2.1.1).2 w0))
 let v9:=(a0i .add .f64 x.1.2 (a0i .mul .f64 (a0Z .f32 .f64 x.2.1.2).2 w0))
 bif (k61 ((v7,v9),()))then
 bif (!(g61 ((v7,v9),())).1)then
 some (((0,0),false,()))
 else
 some (((v7,v9),true,()))
 else
 none
 else
 none
 else
 none
 else
 none
theorem f7j (k61 g61 k45 g45 k44 g44 x) :a0E (f7h k61 g61 k45 g45 k44 g44) (a0e Tryz.f243) (a1f e0i) (a0V d7h x) []=f7i k61 g61 k45 g45 k44 g44 x:=by kernel_rfl
def f1Y (x:Den d7h):Option (Den e0i):=f7i K61 G61 K45 G45 K44 G44 x
def f1Z (x:Den d7h):Bool:=(f1Y x).isSome
def f2a (x:Den d7h):Den e0i:=(f1Y x).getD (zero e0i)
theorem e8H:a0q Tryz.prog (243,a0a d7h e0i f1Z f2a):=a0s (a0j mixed a0l a0k (.cons c1O (.cons b4Z (.cons a6J .nil)))) (a0O Tryz.func243 rfl rfl rfl (by kernel_rfl) (a0m (by kernel_rfl))) fun x=>f7j K61 G61 K45 G45 K44 G44 x
abbrev c6R:Ty:=.cons (.cpx .f64) (.cons (a3L) (.cons (.int .i64) (.cons (.cpx .f32) (.nil))))
abbrev d4u:Ty:=.cons (.cpx .f64) (.cons (.bool) (.nil))
noncomputable def f7k (k242 g242 k243 g243) :=a0t tab eqs [(242,a0a d7g e0h k242 g242),(243,a0a d7h e0i k243 g243)] 29 [.tmp 8,.tmp 9] [] [] [] [] []
def f7l (k242:KA d7g) (g242:GA d7g e0h) (k243:KA d7h) (g243:GA d7h e0i) (x:Den c6R):Option (Den d4u):=
 let w0:=(x.2.1.1,x.2.1.2.1,x.2.2.2)
 bif (k242 w0)then
 let v1:=(g242 w0)
 bif (!v1.2.1)then
 some (((0,0),false,()))
 else
 bif (k243 (x.1,v1.1,x.2.2.1,()))then
 some (g243 (x.1,v1.1,x.2.2.1,()))
 else
 none
 else
 none
theorem f7m (k242 g242 k243 g243 x) :a0E (f7k k242 g242 k243 g243) (a0e Tryz.f197) (a1f d4u) (a0V c6R x) []=f7l k242 g242 k243 g243 x:=by kernel_rfl
def f2b (x:Den c6R):Option (Den d4u):=f7l f1W f1X f1Z f2a x
def c4G (x:Den c6R):Bool:=(f2b x).isSome
def c2b (x:Den c6R):Den d4u:=(f2b x).getD (zero d4u)
theorem e8I:a0q Tryz.prog (197,a0a c6R d4u c4G c2b):=a0s (a0j mixed a0l a0k (.cons e8G (.cons e8H .nil))) (a0O Tryz.func197 rfl rfl rfl (by kernel_rfl) (a0m (by kernel_rfl))) fun x=>f7m f1W f1X f1Z f2a x
abbrev c6S:Ty:=.cons (.cpx .f64) (.cons (.int .i64) (.cons (.slice (a3L)) (.cons (S30) (.nil))))
abbrev d4v:Ty:=.cons (.cpx .f64) (.cons (.bool) (.nil))
abbrev a4X:Type:=(((Nat×Nat)×(Int×(Unit×((List (Den (a3L)))×(Int×(Int×Unit))))))×(((List (Den (a0S)))×((List (Den (.int .i64)))×Unit))×Unit))
def b6k:ShS:=⟨[(0,.one (.cpx .f64)),(1,.one (.int .i64)),(7,.one (.ptr 0 0)),(25,.one (.sl (a3L))),(26,.one (.int .i64)),(27,.one (.int .i64))],[(0,.box [.sl (a0S),.sl (.int .i64)])],1,0⟩
abbrev b2H:Type:=(((Nat×Nat)×Unit)×Unit)
def b6l:ShS:=⟨[(0,.one (.cpx .f64))],[],0,0⟩
abbrev b2I:Type:=(((Nat×Nat)×(Bool×Unit))×Unit)
def b6m:ShS:=⟨[(8,.one (.cpx .f64)),(9,.one (.bool))],[],0,0⟩
abbrev a2W:Type:=(((Nat×Nat)×(Int×(Unit×(Unit×(Int×((List (Den (a3L)))×(Int×(Int×Unit))))))))×(((List (Den (a0S)))×((List (Den (.int .i64)))×Unit))×((Int×(Nat×(Int×Unit)))×Unit)))
def b6n:ShS:=⟨[(0,.one (.cpx .f64)),(1,.one (.int .i64)),(7,.one (.ptr 0 0)),(11,.one (.ptr 1 0)),(12,.one (.int .i64)),(25,.one (.sl (a3L))),(26,.one (.int .i64)),(27,.one (.int .i64))],[(0,.box [.sl (a0S),.sl (.int .i64)]),(1,.box [.int .i64,.flt .f32,.int .i64])],2,0⟩
abbrev b2J:Type:=(((Nat×Nat)×(Int×(Unit×((List (Den (a3L)))×(Int×(Int×Unit))))))×(((List (Den (a0S)))×((List (Den (.int .i64)))×Unit))×Unit))
def b6o:ShS:=⟨[(0,.one (.cpx .f64)),(1,.one (.int .i64)),(7,.one (.ptr 0 0)),(25,.one (.sl (a3L))),(26,.one (.int .i64)),(27,.one (.int .i64))],[(0,.box [.sl (a0S),.sl (.int .i64)])],1,0⟩
abbrev b2K:Type:=(((Nat×Nat)×(Bool×Unit))×Unit)
def b6p:ShS:=⟨[(8,.one (.cpx .f64)),(9,.one (.bool))],[],0,0⟩
noncomputable def e2Y (k61 g61 k195 g195 k196 g196 k197 g197 kl4 xl4 tl4 yl4 kl7 xl7 tl7 yl7) :=a0t tab eqs [(61,a0a A61 R61 k61 g61),(195,a0a c6P d4s k195 g195),(196,a0a c6Q d4t k196 g196),(197,a0a c6R d4u k197 g197)] 65 [.tmp 8,.tmp 9] [] [] [(4,a1U [0,1,7,25,26,27] [] 0 [0] [] b6k b6l b6m kl4 tl4 xl4 yl4),(7,a1U [0,1,7,11,12,25,26,27] [] 2 [0,1,7,25,26,27] [] b6n b6o b6p kl7 tl7 xl7 yl7)] [] []
noncomputable def d1z:Code:=(a0u (a0e Tryz.f136)).getD 0 .skip
noncomputable def d1A:Code:=(a0u (a0e Tryz.f136)).getD 1 .skip
def b9L (k61:KA A61) (g61:GA A61 R61) (k195:KA c6P) (g195:GA c6P d4s) (k196:KA c6Q) (g196:GA c6Q d4t) (k197:KA c6R) (g197:GA c6R d4u) (f:a2W->Option (b2J⊕b2K)) (v:a2W):Option (b2J⊕b2K):=
 bif (decide (v.1.2.2.2.2.1>0))then
 bif (k196 (v.2.1,v.1.1,v.1.2.1,()))then
 let v1:=(g196 (v.2.1,v.1.1,v.1.2.1,()))
 bif (!v1.2.1)then
 some (Sum.inr ((((0,0),false,()),())))
 else
 let w0:=(v.1.1,v.2.2.1,a4j v.1.2.2.2.2.1 600,v1.1,())
 bif (k197 w0)then
 let v3:=(g197 w0)
 bif (!v3.2.1)then
 some (Sum.inr ((((0,0),false,()),())))
 else
 f (((v3.1,(IntKind.wrap .i64 (v.1.2.1+a4j v.1.2.2.2.2.1 600)),(),(),(IntKind.wrap .i64 (v.1.2.2.2.2.1-a4j v.1.2.2.2.2.1 600)),v.1.2.2.2.2.2),v.2))
 else
 none
 else
 none
 else
 some (Sum.inl (((v.1.1,v.1.2.1,(),v.1.2.2.2.2.2),v.2.1,())))
theorem d7i (k61 g61 k195 g195 k196 g196 k197 g197 kl4 xl4 tl4 yl4 kl7 xl7 tl7 yl7 f v) :EBk (e2Y k61 g61 k195 g195 k196 g196 k197 g197 kl4 xl4 tl4 yl4 kl7 xl7 tl7 yl7) d1A (a0B [0,1,7,11,12,25,26,27] [] 2 [0,1,7,25,26,27] [] (atS b6n f) (a5J b6o b6p)) (mkS b6n v)=b9L k61 g61 k195 g195 k196 g196 k197 g197 f v:=by kernel_rfl
def c4H (v:a2W):Nat:=v.1.2.1.natAbs+v.1.2.2.2.2.1.natAbs+v.1.2.2.2.2.2.1.length+v.1.2.2.2.2.2.2.1.natAbs+v.1.2.2.2.2.2.2.2.1.natAbs+v.2.1.1.length+v.2.1.2.1.length+v.2.2.1.1.natAbs+v.2.2.1.2.2.1.natAbs+1000
def b9M (v:a2W):Option (b2J⊕b2K):=a1u (b9L K61 G61 c4D c4E c4F b9K c4G c2b) (c4H v) v
def a5u (v:a2W):Bool:=(b9M v).isSome
def a5v (v:a2W):Bool:=isR (b9M v)
def a2s (v:a2W):b2J:=xOf (((0,0),(0,((),([],(0,(0,())))))),(([],([],())),())) (b9M v)
def a5w (v:a2W):b2K:=yOf (((0,0),(false,())),()) (b9M v)
def d1B (k61:KA A61) (g61:GA A61 R61) (k195:KA c6P) (g195:GA c6P d4s) (k196:KA c6Q) (g196:GA c6Q d4t) (k197:KA c6R) (g197:GA c6R d4u) (kl7:a2W->Bool) (xl7:a2W->b2J) (tl7:a2W->Bool) (yl7:a2W->b2K) (f:a4X->Option (b2H⊕b2I)) (v:a4X):Option (b2H⊕b2I):=
 bif (decide (v.1.2.2.2.2.2.1<v.1.2.2.2.2.1))then
 bif (decide (0<=v.1.2.2.2.2.2.1)&&decide (v.1.2.2.2.2.2.1<(↑(List.length v.1.2.2.2.1):Int)))then
 let v0:=(List.getD v.1.2.2.2.1 (Int.toNat v.1.2.2.2.2.2.1) (zero a3L))
 let w0:=((v.1.1,v.1.2.1,(),(),v0.2.2.1,v.1.2.2.2),v.2.1,v0,())
 bif (kl7 w0)then
 bif (tl7 w0)then
 some (Sum.inr (yl7 w0))
 else
 let v3:=(xl7 w0)
 f (((v3.1.1,v3.1.2.1,(),v3.1.2.2.2.1,v3.1.2.2.2.2.1,(IntKind.wrap .i64 (v3.1.2.2.2.2.2.1+1)),()),v3.2))
 else
 none
 else
 none
 else
 some (Sum.inl (((v.1.1,()),())))
theorem d7j (k61 g61 k195 g195 k196 g196 k197 g197 kl4 xl4 tl4 yl4 kl7 xl7 tl7 yl7 f v) :EBk (e2Y k61 g61 k195 g195 k196 g196 k197 g197 kl4 xl4 tl4 yl4 kl7 xl7 tl7 yl7) d1z (a0B [0,1,7,25,26,27] [] 0 [0] [] (atS b6k f) (a5J b6l b6m)) (mkS b6k v)=d1B k61 g61 k195 g195 k196 g196 k197 g197 kl7 xl7 tl7 yl7 f v:=by kernel_rfl
def b9N (v:a4X):Nat:=v.1.2.1.natAbs+v.1.2.2.2.1.length+v.1.2.2.2.2.1.natAbs+v.1.2.2.2.2.2.1.natAbs+v.2.1.1.length+v.2.1.2.1.length+1000
def b2L (v:a4X):Option (b2H⊕b2I):=a1u (d1B K61 G61 c4D c4E c4F b9K c4G c2b a5u a2s a5v a5w) (b9N v) v
def a8v (v:a4X):Bool:=(b2L v).isSome
def a8w (v:a4X):Bool:=isR (b2L v)
def a8x (v:a4X):b2H:=xOf (((0,0),()),()) (b2L v)
def a8y (v:a4X):b2I:=yOf (((0,0),(false,())),()) (b2L v)
def f7n (k61:KA A61) (g61:GA A61 R61) (k195:KA c6P) (g195:GA c6P d4s) (k196:KA c6Q) (g196:GA c6Q d4t) (k197:KA c6R) (g197:GA c6R d4u) (kl4:a4X->Bool) (xl4:a4X->b2H) (tl4:a4X->Bool) (yl4:a4X->b2I) (kl7:a2W->Bool) (xl7:a2W->b2J) (tl7:a2W->Bool) (yl7:a2W->b2K) (x:Den c6S):Option (Den d4v):=
 bif (k61 (x.1,()))then
 bif (!(g61 (x.1,())).1)then
 some (((0,0),false,()))
 else
 bif (k195 (x.2.2.1,()))then
 bif (!(g195 (x.2.2.1,())).1)then
 some (((0,0),false,()))
 else
 let w0:=((x.1,x.2.1,(),x.2.2.1,(↑(List.length x.2.2.1):Int),0,()),x.2.2.2)
 bif (kl4 w0)then
 bif (tl4 w0)then
 some (yl4 w0).1
 else
 some (((xl4 w0).1.1,true,()))
 else
 none
 else
 none
 else
 none
theorem f7o (k61 g61 k195 g195 k196 g196 k197 g197 kl4 xl4 tl4 yl4 kl7 xl7 tl7 yl7 x) :a0E (e2Y k61 g61 k195 g195 k196 g196 k197 g197 kl4 xl4 tl4 yl4 kl7 xl7 tl7 yl7) (a0e Tryz.f136) (a1f d4v) (a0V c6S x) []=f7n k61 g61 k195 g195 k196 g196 k197 g197 kl4 xl4 tl4 yl4 kl7 xl7 tl7 yl7 x:=by kernel_rfl
def e2Z (x:Den c6S):Option (Den d4v):=f7n K61 G61 c4D c4E c4F b9K c4G c2b a8v a8x a8w a8y a5u a2s a5v a5w x
def e3a (x:Den c6S):Bool:=(e2Z x).isSome
def e3b (x:Den c6S):Den d4v:=(e2Z x).getD (zero d4v)
theorem e8J:a0q Tryz.prog (136,a0a c6S d4v e3a e3b):=a0s (a0j mixed a0l a0k (.cons c1O (.cons e8s (.cons e8E (.cons e8I .nil))))) (a0O Tryz.func136 rfl rfl rfl (by kernel_rfl) (a0D (l:=[d1z,d1A]) (by kernel_rfl) (.cons (a0r rfl (a0x (sh:=b6k) (shX:=b6l) (shR:=b6m) (fun f v=>d7j K61 G61 c4D c4E c4F b9K c4G c2b a8v a8x a8w a8y a5u a2s a5v a5w f v) b9N (((0,0),()),()) (((0,0),(false,())),()))) (.cons (a0r rfl (a0x (sh:=b6n) (shX:=b6o) (shR:=b6p) (fun f v=>d7i K61 G61 c4D c4E c4F b9K c4G c2b a8v a8x a8w a8y a5u a2s a5v a5w f v) c4H (((0,0),(0,((),([],(0,(0,())))))),(([],([],())),())) (((0,0),(false,())),()))) (.nil))))) fun x=>f7o K61 G61 c4D c4E c4F b9K c4G c2b a8v a8x a8w a8y a5u a2s a5v a5w x
abbrev d7k:Ty:=.cons (.slice (S68)) (.cons (S63) (.nil))
abbrev e0j:Ty:=.cons (.int .i64) (.nil)
abbrev a4Y:Type:=((Unit×((List (Den (S68)))×(Int×(Int×Unit))))×((Nat×(Int×Unit))×Unit))
def b6q:ShS:=⟨[(3,.one (.ptr 0 0)),(10,.one (.sl (S68))),(11,.one (.int .i64)),(12,.one (.int .i64))],[(0,.box [.flt .f32,.int .i64])],1,0⟩
abbrev b9O:Type:=(Unit×Unit)
def b6r:ShS:=⟨[],[],0,0⟩
abbrev b9P:Type:=((Int×Unit)×Unit)
def b6s:ShS:=⟨[(4,.one (.int .i64))],[],0,0⟩
noncomputable def e8K (k92 g92 k135 g135 kl4 xl4 tl4 yl4) :=a0t tab eqs [(92,a0a A92 R92 k92 g92),(135,a0a b5Y c6M k135 g135)] 22 [.tmp 4] [] [] [(4,a1U [3,10,11,12] [] 0 [] [] b6q b6r b6s kl4 tl4 xl4 yl4)] [] []
noncomputable def d1C:Code:=(a0u (a0e Tryz.f198)).getD 0 .skip
def b9Q (k92:KA A92) (g92:GA A92 R92) (k135:KA b5Y) (g135:GA b5Y c6M) (f:a4Y->Option (b9O⊕b9P)) (v:a4Y):Option (b9O⊕b9P):=
 bif (decide (v.1.2.2.2.1<v.1.2.2.1))then
 bif (decide (0<=v.1.2.2.2.1)&&decide (v.1.2.2.2.1<(↑(List.length v.1.2.1):Int)))then
 let v0:=(List.getD v.1.2.1 (Int.toNat v.1.2.2.2.1) (zero S68))
 bif (k135 (v0,v.2))then
 bif (g135 (v0,v.2)).1 then
 some (Sum.inr ((v.1.2.2.2,())))
 else
 f ((((),v.1.2.1,v.1.2.2.1,(IntKind.wrap .i64 (v.1.2.2.2.1+1)),()),v.2))
 else
 none
 else
 none
 else
 some (Sum.inl (((),())))
theorem d7l (k92 g92 k135 g135 kl4 xl4 tl4 yl4 f v) :EBk (e8K k92 g92 k135 g135 kl4 xl4 tl4 yl4) d1C (a0B [3,10,11,12] [] 0 [] [] (atS b6q f) (a5J b6r b6s)) (mkS b6q v)=b9Q k92 g92 k135 g135 f v:=by kernel_rfl
def d1D (v:a4Y):Nat:=v.1.2.1.length+v.1.2.2.1.natAbs+v.1.2.2.2.1.natAbs+v.2.1.2.1.natAbs+1000
def b9R (v:a4Y):Option (b9O⊕b9P):=a1u (b9Q K92 G92 c6N c6O) (d1D v) v
def b6t (v:a4Y):Bool:=(b9R v).isSome
def b6u (v:a4Y):Bool:=isR (b9R v)
def c2c (v:a4Y):b9O:=xOf ((),()) (b9R v)
def b6v (v:a4Y):b9P:=yOf ((0,()),()) (b9R v)
def f7p (k92:KA A92) (g92:GA A92 R92) (k135:KA b5Y) (g135:GA b5Y c6M) (kl4:a4Y->Bool) (xl4:a4Y->b9O) (tl4:a4Y->Bool) (yl4:a4Y->b9P) (x:Den d7k):Option (Den e0j):=
 bif (k92 (x.1,()))then
 bif (!(g92 (x.1,())).1)then
 some ((-1,()))
 else
 let w0:=(((),x.1,(↑(List.length x.1):Int),0,()),x.2)
 bif (kl4 w0)then
 bif (tl4 w0)then
 some (yl4 w0).1
 else
 some ((-1,()))
 else
 none
 else
 none
theorem f7q (k92 g92 k135 g135 kl4 xl4 tl4 yl4 x) :a0E (e8K k92 g92 k135 g135 kl4 xl4 tl4 yl4) (a0e Tryz.f198) (a1f e0j) (a0V d7k x) []=f7p k92 g92 k135 g135 kl4 xl4 tl4 yl4 x:=by kernel_rfl
def f2c (x:Den d7k):Option (Den e0j):=f7p K92 G92 c6N c6O b6t c2c b6u b6v x
def e3c (x:Den d7k):Bool:=(f2c x).isSome
def e3d (x:Den d7k):Den e0j:=(f2c x).getD (zero e0j)
theorem e8L:a0q Tryz.prog (198,a0a d7k e0j e3c e3d):=a0s (a0j mixed a0l a0k (.cons e2D (.cons e0b .nil))) (a0O Tryz.func198 rfl rfl rfl (by kernel_rfl) (a0D (l:=[d1C]) (by kernel_rfl) (.cons (a0r rfl (a0x (sh:=b6q) (shX:=b6r) (shR:=b6s) (fun f v=>d7l K92 G92 c6N c6O b6t c2c b6u b6v f v) d1D ((),()) ((0,()),()))) (.nil)))) fun x=>f7q K92 G92 c6N c6O b6t c2c b6u b6v x
abbrev c6T:Ty:=.cons (.slice (S68)) (.cons (.int .i64) (.cons (S63) (.nil)))
abbrev d1E:Ty:=.cons (.int .i64) (.nil)
noncomputable def f7r (k92 g92 k44 g44 k20 g20 k198 g198) :=a0t tab eqs [(92,a0a A92 R92 k92 g92),(44,a0a A44 R44 k44 g44),(20,a0a A20 R20 k20 g20),(198,a0a d7k e0j k198 g198)] 27 [.tmp 6] [] [] [] [] []
def f7s (k92:KA A92) (g92:GA A92 R92) (k44:KA A44) (g44:GA A44 R44) (k20:KA A20) (g20:GA A20 R20) (k198:KA d7k) (g198:GA d7k e0j) (x:Den c6T):Option (Den d1E):=
 bif (k92 (x.1,()))then
 bif (!(g92 (x.1,())).1)then
 some ((-1,()))
 else
 let v2:=(IntKind.wrap .i64 ((↑(List.length x.1):Int)-1))
 bif (k44 (x.2.1,0,v2,()))then
 bif (g44 (x.2.1,0,v2,())).1 then
 bif (decide (0<=x.2.1)&&decide (x.2.1<(↑(List.length x.1):Int)))then
 let v5:=(List.getD x.1 (Int.toNat x.2.1) (zero S68))
 bif (k20 (v5,x.2.2))then
 bif (g20 (v5,x.2.2)).1 then
 some ((x.2.1,()))
 else
 bif (k198 (x.1,x.2.2))then
 some (g198 (x.1,x.2.2))
 else
 none
 else
 none
 else
 none
 else
 bif (k198 (x.1,x.2.2))then
 some (g198 (x.1,x.2.2))
 else
 none
 else
 none
 else
 none
theorem f7t (k92 g92 k44 g44 k20 g20 k198 g198 x) :a0E (f7r k92 g92 k44 g44 k20 g20 k198 g198) (a0e Tryz.f137) (a1f d1E) (a0V c6T x) []=f7s k92 g92 k44 g44 k20 g20 k198 g198 x:=by kernel_rfl
def f2d (x:Den c6T):Option (Den d1E):=f7s K92 G92 K44 G44 K20 G20 e3c e3d x
def c2d (x:Den c6T):Bool:=(f2d x).isSome
def c2e (x:Den c6T):Den d1E:=(f2d x).getD (zero d1E)
theorem e8M:a0q Tryz.prog (137,a0a c6T d1E c2d c2e):=a0s (a0j mixed a0l a0k (.cons e2D (.cons a6J (.cons e8d (.cons e8L .nil))))) (a0O Tryz.func137 rfl rfl rfl (by kernel_rfl) (a0m (by kernel_rfl))) fun x=>f7t K92 G92 K44 G44 K20 G20 e3c e3d x
abbrev d7m:Ty:=.cons (S27) (.nil)
abbrev e0k:Ty:=.cons (S27) (.nil)
abbrev a8Y:Type:=((Unit×(Unit×((List (Den (.slice (.flt .f32))))×(Int×(Int×Unit)))))×((Unit×(Unit×(Unit×Unit)))×(((List (Den (.flt .f32)))×((List (Den (.int .i64)))×(Unit×Unit)))×((List (Den (.slice (.flt .f32))))×Unit))))
def b6w:ShS:=⟨[(2,.one (.ptr 0 0)),(3,.one (.ptr 1 0)),(14,.one (.sl (.slice (.flt .f32)))),(15,.one (.int .i64)),(16,.one (.int .i64))],[(0,.box [.nil (.flt .f32),.nil (.int .i64),.nil (.slice (.flt .f32))]),(1,.box [.sl (.flt .f32),.sl (.int .i64),.ref (.slice (.flt .f32)) 2]),(2,.arr (.slice (.flt .f32)))],3,0⟩
abbrev b9S:Type:=((Unit×(Unit×Unit))×((Unit×(Unit×(Unit×Unit)))×(((List (Den (.flt .f32)))×((List (Den (.int .i64)))×(Unit×Unit)))×((List (Den (.slice (.flt .f32))))×Unit))))
def b6x:ShS:=⟨[(2,.one (.ptr 0 0)),(3,.one (.ptr 1 0))],[(0,.box [.nil (.flt .f32),.nil (.int .i64),.nil (.slice (.flt .f32))]),(1,.box [.sl (.flt .f32),.sl (.int .i64),.ref (.slice (.flt .f32)) 2]),(2,.arr (.slice (.flt .f32)))],3,0⟩
noncomputable def e8N (k199 g199 k200 g200 kl3 xl3) :=a0t tab eqs [(199,a0a d3K e1K k199 g199),(200,a0a c6k d5p k200 g200)] 29 [.cell 2 28] [] [] [(3,a1X [2,3,14,15,16] [.boxNil 3 2] 0 [2,3] [] b6w b6x kl3 xl3)] [] [.frzBox 2]
noncomputable def d1F:Code:=(a0u (a0e Tryz.f147)).getD 0 .skip
def c4I (k199:KA d3K) (g199:GA d3K e1K) (k200:KA c6k) (g200:GA c6k d5p) (f:a8Y->Option (b9S)) (v:a8Y):Option (b9S):=
 bif (decide (v.1.2.2.2.2.1<v.1.2.2.2.1))then
 bif (decide (0<=v.1.2.2.2.2.1)&&decide (v.1.2.2.2.2.1<(↑(List.length v.1.2.2.1):Int)))then
 let w0:=(zero (Ty.slice (Ty.flt .f32)))
 let v0:=(List.getD v.1.2.2.1 (Int.toNat v.1.2.2.2.2.1) w0)
 bif (k199 (v0,()))then
 let v3:=(List.set (List.replicate 1 w0) 0 (g199 (v0,())).1)
 bif (a0F (List.length v.2.2.2.1+List.length v3))then
 f ((((),(),v.1.2.2.1,v.1.2.2.2.1,(IntKind.wrap .i64 (v.1.2.2.2.2.1+1)),()),((),(),(),()),(v.2.2.1.1,v.2.2.1.2.1,(),()),(v.2.2.2.1++v3),()))
 else
 none
 else
 none
 else
 none
 else
 some ((((),(),()),((),(),(),()),(v.2.2.1.1,v.2.2.1.2.1,(),()),v.2.2.2))
theorem d7n (k199 g199 k200 g200 kl3 xl3 f v) :EBk (e8N k199 g199 k200 g200 kl3 xl3) d1F (a0B [2,3,14,15,16] [.boxNil 3 2] 0 [2,3] [] (atS b6w f) (a5W b6x)) (mkS b6w v)=c4I k199 g199 k200 g200 f v:=by kernel_rfl
def c4J (v:a8Y):Nat:=v.1.2.2.1.length+v.1.2.2.2.1.natAbs+v.1.2.2.2.2.1.natAbs+v.2.2.1.1.length+v.2.2.1.2.1.length+v.2.2.2.1.length+1000
def d1G (v:a8Y):Option (b9S):=a1u (c4I d8M d8N d3L d3M) (c4J v) v
def b6y (v:a8Y):Bool:=(d1G v).isSome
def b6z (v:a8Y):b9S:=(d1G v).getD (((),((),())),(((),((),((),()))),(([],([],((),()))),([],()))))
def f7u (k199:KA d3K) (g199:GA d3K e1K) (k200:KA c6k) (g200:GA c6k d5p) (kl3:a8Y->Bool) (xl3:a8Y->b9S) (x:Den d7m):Option (Den e0k):=
 bif (k199 (x.1.1,()))then
 bif (k200 (x.1.2.1,()))then
 let v2:=(g199 (x.1.1,()))
 let v3:=(g200 (x.1.2.1,()))
 let w0:=(((),(),x.1.2.2.1,(↑(List.length x.1.2.2.1):Int),0,()),((),(),(),()),(v2.1,v3.1,(),()),[],())
 bif (kl3 w0)then
 let v5:=(xl3 w0)
 some (((v5.2.2.1.1,v5.2.2.1.2.1,v5.2.2.2),()))
 else
 none
 else
 none
 else
 none
theorem f7v (k199 g199 k200 g200 kl3 xl3 x) :a0E (e8N k199 g199 k200 g200 kl3 xl3) (a0e Tryz.f147) (a1f e0k) (a0V d7m x) []=f7u k199 g199 k200 g200 kl3 xl3 x:=by kernel_rfl
def f2e (x:Den d7m):Option (Den e0k):=f7u d8M d8N d3L d3M b6y b6z x
def f2f (x:Den d7m):Bool:=(f2e x).isSome
def f2g (x:Den d7m):Den e0k:=(f2e x).getD (zero e0k)
theorem e8O:a0q Tryz.prog (147,a0a d7m e0k f2f f2g):=a0s (a0j mixed a0l a0k (.cons e6k (.cons d8O .nil))) (a0O Tryz.func147 rfl rfl rfl (by kernel_rfl) (a0D (l:=[d1F]) (by kernel_rfl) (.cons (a0r rfl (a0y (sh:=b6w) (shX:=b6x) (fun f v=>d7n d8M d8N d3L d3M b6y b6z f v) c4J (((),((),())),(((),((),((),()))),(([],([],((),()))),([],())))))) (.nil)))) fun x=>f7v d8M d8N d3L d3M b6y b6z x
abbrev d7o:Ty:=.cons (S30) (.nil)
abbrev e0l:Ty:=.cons (S30) (.nil)
noncomputable def f7w (k201 g201 k200 g200) :=a0t tab eqs [(201,a0a d8P e5e k201 g201),(200,a0a c6k d5p k200 g200)] 10 [.cell 2 31] [] [] [] [] []
def f7x (k201:KA d8P) (g201:GA d8P e5e) (k200:KA c6k) (g200:GA c6k d5p) (x:Den d7o):Option (Den e0l):=
 bif (k201 (x.1.1,()))then
 bif (k200 x.1.2)then
 some ((((g201 (x.1.1,())).1,(g200 x.1.2)),()))
 else
 none
 else
 none
theorem f7y (k201 g201 k200 g200 x) :a0E (f7w k201 g201 k200 g200) (a0e Tryz.f148) (a1f e0l) (a0V d7o x) []=f7x k201 g201 k200 g200 x:=by kernel_rfl
def f2h (x:Den d7o):Option (Den e0l):=f7x f0o f0p d3L d3M x
def f2j (x:Den d7o):Bool:=(f2h x).isSome
def f2k (x:Den d7o):Den e0l:=(f2h x).getD (zero e0l)
theorem e8P:a0q Tryz.prog (148,a0a d7o e0l f2j f2k):=a0s (a0j mixed a0l a0k (.cons e6p (.cons d8O .nil))) (a0O Tryz.func148 rfl rfl rfl (by kernel_rfl) (a0m (by kernel_rfl))) fun x=>f7y f0o f0p d3L d3M x
abbrev d7p:Ty:=.cons (S38) (.nil)
abbrev e0m:Ty:=.cons (S38) (.nil)
noncomputable def f7z (k202 g202) :=a0t tab eqs [(202,a0a d8R e5g k202 g202)] 8 [.cell 2 39] [] [] [] [] []
def f7A (k202:KA d8R) (g202:GA d8R e5g) (x:Den d7p):Option (Den e0m):=
 bif (k202 (x.1.2.1,()))then
 some (((x.1.1,(g202 (x.1.2.1,())).1,x.1.2.2),()))
 else
 none
theorem f7B (k202 g202 x) :a0E (f7z k202 g202) (a0e Tryz.f150) (a1f e0m) (a0V d7p x) []=f7A k202 g202 x:=by kernel_rfl
def f2l (x:Den d7p):Option (Den e0m):=f7A f0s f0t x
def f2m (x:Den d7p):Bool:=(f2l x).isSome
def f2n (x:Den d7p):Den e0m:=(f2l x).getD (zero e0m)
theorem e8Q:a0q Tryz.prog (150,a0a d7p e0m f2m f2n):=a0s (a0j mixed a0l a0k (.cons e6v .nil)) (a0O Tryz.func150 rfl rfl rfl (by kernel_rfl) (a0m (by kernel_rfl))) fun x=>f7B f0s f0t x
abbrev A84:Ty:=.cons (S40) (.nil)
abbrev R84:Ty:=.cons (S40) (.nil)
noncomputable def g0U (k147 g147 k148 g148 k149 g149 k150 g150) :=a0t tab eqs [(147,a0a d7m e0k k147 g147),(148,a0a d7o e0l k148 g148),(149,a0a d8Q e5f k149 g149),(150,a0a d7p e0m k150 g150)] 16 [.cell 2 41] [] [] [] [] []
def r84 (k147:KA d7m) (g147:GA d7m e0k) (k148:KA d7o) (g148:GA d7o e0l) (k149:KA d8Q) (g149:GA d8Q e5f) (k150:KA d7p) (g150:GA d7p e0m) (x:Den A84):Option (Den R84):=
 bif (k147 (x.1.1,()))then
 bif (k148 (x.1.2.1,()))then
 bif (k149 (x.1.2.2.1,()))then
 bif (k150 x.1.2.2.2)then
 some ((((g147 (x.1.1,())).1,(g148 (x.1.2.1,())).1,(g149 (x.1.2.2.1,())).1,(g150 x.1.2.2.2)),()))
 else
 none
 else
 none
 else
 none
 else
 none
theorem g0V (k147 g147 k148 g148 k149 g149 k150 g150 x) :a0E (g0U k147 g147 k148 g148 k149 g149 k150 g150) (a0e Tryz.f84) (a1f R84) (a0V A84 x) []=r84 k147 g147 k148 g148 k149 g149 k150 g150 x:=by kernel_rfl
def F84 (x:Den A84):Option (Den R84):=r84 f2f f2g f2j f2k f0q f0r f2m f2n x
def K84 (x:Den A84):Bool:=(F84 x).isSome
def G84 (x:Den A84):Den R84:=(F84 x).getD (zero R84)
theorem f7C:a0q Tryz.prog (84,a0a A84 R84 K84 G84):=a0s (a0j mixed a0l a0k (.cons e8O (.cons e8P (.cons e6s (.cons e8Q .nil))))) (a0O Tryz.func84 rfl rfl rfl (by kernel_rfl) (a0m (by kernel_rfl))) fun x=>g0V f2f f2g f2j f2k f0q f0r f2m f2n x
abbrev A16:Ty:=.cons (.str) (.nil)
abbrev R16:Ty:=.cons (.slice (.str)) (.cons (.bool) (.nil))
abbrev a9t:Type:=((ByteArray×(Int×Unit))×Unit)
def c4K:ShS:=⟨[(0,.one (.str)),(4,.one (.int .i64))],[],0,0⟩
abbrev d1H:Type:=((ByteArray×Unit)×Unit)
def c2f:ShS:=⟨[(0,.one (.str))],[],0,0⟩
abbrev d1I:Type:=((Unit×(Bool×Unit))×Unit)
def c2g:ShS:=⟨[(2,.one (.nil (.str))),(3,.one (.bool))],[],0,0⟩
abbrev a8Z:Type:=((Unit×((List (Den (.str)))×(Int×(Int×Unit))))×((List (Den (.str)))×Unit))
def b6A:ShS:=⟨[(5,.one (.ref (.str) 0)),(28,.one (.sl (.str))),(29,.one (.int .i64)),(30,.one (.int .i64))],[(0,.arr (.str))],1,0⟩
abbrev b9T:Type:=((Unit×Unit)×((List (Den (.str)))×Unit))
def b6B:ShS:=⟨[(5,.one (.ref (.str) 0))],[(0,.arr (.str))],1,0⟩
noncomputable def f7D (k48 g48 kl4 xl4 tl4 yl4 kl10 xl10) :=a0t tab eqs [(48,a0a A48 R48 k48 g48)] 45 [.tmp 2,.tmp 3] [] [] [(4,a1U [0,4] [] 0 [0] [] c4K c2f c2g kl4 tl4 xl4 yl4),(10,a1X [5,28,29,30] [.nil 5] 2 [5] [] b6A b6B kl10 xl10)] [] [.frz 2]
noncomputable def e0n:Code:=(a0u (a0e Tryz.f16)).getD 0 .skip
noncomputable def d1J:Code:=(a0u (a0e Tryz.f16)).getD 1 .skip
def c4L (k48:KA A48) (g48:GA A48 R48) (f:a8Z->Option (b9T)) (v:a8Z):Option (b9T):=
 bif (decide (v.1.2.2.2.1<v.1.2.2.1))then
 bif (decide (0<=v.1.2.2.2.1)&&decide (v.1.2.2.2.1<(↑(List.length v.1.2.1):Int)))then
 let v0:=(List.getD v.1.2.1 (Int.toNat v.1.2.2.2.1) (zero Ty.str))
 bif (!a2w v0 { data:=#[] })then
 let v1:=(List.set (List.replicate 1 (zero Ty.str)) 0 v0)
 bif (a0F (List.length v.2.1+List.length v1))then
 f ((((),v.1.2.1,v.1.2.2.1,(IntKind.wrap .i64 (v.1.2.2.2.1+1)),()),(v.2.1++v1),()))
 else
 none
 else
 f ((((),v.1.2.1,v.1.2.2.1,(IntKind.wrap .i64 (v.1.2.2.2.1+1)),()),v.2))
 else
 none
 else
 some ((((),()),v.2))
theorem d7q (k48 g48 kl4 xl4 tl4 yl4 kl10 xl10 f v) :EBk (f7D k48 g48 kl4 xl4 tl4 yl4 kl10 xl10) d1J (a0B [5,28,29,30] [.nil 5] 2 [5] [] (atS b6A f) (a5W b6B)) (mkS b6A v)=c4L k48 g48 f v:=by kernel_rfl
def c4M (v:a8Z):Nat:=v.1.2.1.length+v.1.2.2.1.natAbs+v.1.2.2.2.1.natAbs+v.2.1.length+1000
def d1K (v:a8Z):Option (b9T):=a1u (c4L K48 G48) (c4M v) v
def b1e (v:a8Z):Bool:=(d1K v).isSome
def b1f (v:a8Z):b9T:=(d1K v).getD (((),()),([],()))
def d1L (k48:KA A48) (g48:GA A48 R48) (f:a9t->Option (d1H⊕d1I)) (v:a9t):Option (d1H⊕d1I):=
 let w0:=(v.1.2.1<(↑(ByteArray.size v.1.1):Int))
 bif (decide w0)then
 let w1:=(decide (0<=v.1.2.1)&&decide w0)
 bif w1 then
 bif (decide (a1z v.1.1 v.1.2.1<32))then
 some (Sum.inr ((((),false,()),())))
 else
 bif w1 then
 bif (decide (a1z v.1.1 v.1.2.1>126))then
 some (Sum.inr ((((),false,()),())))
 else
 f (((v.1.1,(IntKind.wrap .i64 (v.1.2.1+1)),()),()))
 else
 none
 else
 none
 else
 some (Sum.inl (((v.1.1,()),())))
theorem e3e (k48 g48 kl4 xl4 tl4 yl4 kl10 xl10 f v) :EBk (f7D k48 g48 kl4 xl4 tl4 yl4 kl10 xl10) e0n (a0B [0,4] [] 0 [0] [] (atS c4K f) (a5J c2f c2g)) (mkS c4K v)=d1L k48 g48 f v:=by kernel_rfl
def e3f (v:a9t):Nat:=v.1.1.size+v.1.2.1.natAbs+1000
def d1M (v:a9t):Option (d1H⊕d1I):=a1u (d1L K48 G48) (e3f v) v
def b9U (v:a9t):Bool:=(d1M v).isSome
def b9V (v:a9t):Bool:=isR (d1M v)
def b9W (v:a9t):d1H:=xOf ((ByteArray.empty,()),()) (d1M v)
def b9X (v:a9t):d1I:=yOf (((),(false,())),()) (d1M v)
def r16 (k48:KA A48) (g48:GA A48 R48) (kl4:a9t->Bool) (xl4:a9t->d1H) (tl4:a9t->Bool) (yl4:a9t->d1I) (kl10:a8Z->Bool) (xl10:a8Z->b9T) (x:Den A16):Option (Den R16):=
 bif (decide ((↑(ByteArray.size x.1):Int)>600))then
 some (([],false,()))
 else
 bif (kl4 ((x.1,0,()),()))then
 bif (tl4 ((x.1,0,()),()))then
 some (([],(yl4 ((x.1,0,()),())).1.2))
 else
 let v2:=(xl4 ((x.1,0,()),()))
 let w1:=(v2.1.1,{ data:=#[32] },())
 bif (k48 w1)then
 let v4:=(g48 w1)
 let w0:=(((),v4.1,(↑(List.length v4.1):Int),0,()),[],())
 bif (kl10 w0)then
 let v6:=(xl10 w0)
 bif (decide ((↑(List.length v6.2.1):Int)>24))then
 some (([],false,()))
 else
 some ((v6.2.1,true,()))
 else
 none
 else
 none
 else
 none
theorem g0W (k48 g48 kl4 xl4 tl4 yl4 kl10 xl10 x) :a0E (f7D k48 g48 kl4 xl4 tl4 yl4 kl10 xl10) (a0e Tryz.f16) (a1f R16) (a0V A16 x) []=r16 k48 g48 kl4 xl4 tl4 yl4 kl10 xl10 x:=by kernel_rfl
def F16 (x:Den A16):Option (Den R16):=r16 K48 G48 b9U b9W b9V b9X b1e b1f x
def K16 (x:Den A16):Bool:=(F16 x).isSome
def G16 (x:Den A16):Den R16:=(F16 x).getD (zero R16)
theorem e8R:a0q Tryz.prog (16,a0a A16 R16 K16 G16):=a0s (a0j mixed a0l a0k (.cons f2S .nil)) (a0O Tryz.func16 rfl rfl rfl (by kernel_rfl) (a0D (l:=[e0n,d1J]) (by kernel_rfl) (.cons (a0r rfl (a0x (sh:=c4K) (shX:=c2f) (shR:=c2g) (fun f v=>e3e K48 G48 b9U b9W b9V b9X b1e b1f f v) e3f ((ByteArray.empty,()),()) (((),(false,())),()))) (.cons (a0r rfl (a0y (sh:=b6A) (shX:=b6B) (fun f v=>d7q K48 G48 b9U b9W b9V b9X b1e b1f f v) c4M (((),()),([],())))) (.nil))))) fun x=>g0W K48 G48 b9U b9W b9V b9X b1e b1f x
abbrev I36:Sg:=⟨[.val (S46)],[]⟩
abbrev O36:Sg:=⟨[.mix [.sl (.flt .f32),.sl (.int .i64),.sl (.slice (.flt .f32)),.sl (a0S),.sl (.int .i64),.sl (S68),.int .i64,.int .i64,.int .i64,.int .i64,.sl (a1E),.int .i64,.int .i64,.int .i64,.int .i64,.int .i64,.cpx .f64,.int .i64,.cpx .f32,.int .i64,.ref (S97) 0,.ref (.str) 1]],[.arr (S97),.arr (.str)]⟩
noncomputable def g0X (k84 g84 k85 g85 k86 g86) :=a0t tab eqs [(84,a0a A84 R84 k84 g84),(85,a0n false I85 O85 k85 g85),(86,a0n false I86 O86 k86 g86)] 16 [.cell 2 47] [] [] [] [] []
def r36 (k84:KA A84) (g84:GA A84 R84) (k85:KI I85) (g85:GI I85 O85) (k86:KI I86) (g86:GI I86 O86) (x:I36.den):Option (O36.den):=
 bif (k84 (x.1.1.1,()))then
 let w0:=((x.1.1.2.2.2.2.2.2.1,()),())
 bif (k85 w0)then
 bif (k86 (x.1.1.2.2.2.2.2.2.2,()))then
 let v3:=(g84 (x.1.1.1,()))
 some ((((v3.1.1.1,v3.1.1.2.1,v3.1.1.2.2.1,v3.1.2.1.1,v3.1.2.1.2.1,v3.1.2.2.1,v3.1.2.2.2.1.1.1.1,v3.1.2.2.2.1.1.1.2.1,v3.1.2.2.2.1.1.2.1.1,v3.1.2.2.2.1.1.2.1.2.1,v3.1.2.2.2.1.2.1,v3.1.2.2.2.1.2.2.1.1.1,v3.1.2.2.2.1.2.2.1.1.2.1,v3.1.2.2.2.1.2.2.1.2.1.1,v3.1.2.2.2.1.2.2.1.2.1.2.1,x.1.1.2.1,x.1.1.2.2.1,x.1.1.2.2.2.1,x.1.1.2.2.2.2.1,x.1.1.2.2.2.2.2.1,(),(),()),()),(g85 w0).2.1,(g86 (x.1.1.2.2.2.2.2.2.2,())).2))
 else
 none
 else
 none
 else
 none
theorem g0Y (k84 g84 k85 g85 k86 g86 x) :a1N (g0X k84 g84 k85 g85 k86 g86) (a0e Tryz.f36) I36 O36 x=r36 k84 g84 k85 g85 k86 g86 x:=by kernel_rfl
def F36 (x:I36.den):Option (O36.den):=r36 K84 G84 K85 G85 K86 G86 x
def K36 (x:I36.den):Bool:=(F36 x).isSome
def G36 (x:I36.den):O36.den:=(F36 x).getD (a1d O36)
theorem e8S:a0q Tryz.prog (36,a0n false I36 O36 K36 G36):=a1k (a0j mixed a0l a0k (.cons f7C (.cons f3g (.cons f3k .nil)))) (a0O Tryz.func36 rfl rfl rfl (by kernel_rfl) (a0m (by kernel_rfl))) false fun x=>g0Y K84 G84 K85 G85 K86 G86 x
theorem b9Y (x:Den A44):F44 x=some (decide (x.2.1<=x.1)&&decide (x.1<=x.2.2.1),()):=by
 unfold F44 r44
 by_cases h:x.2.1<=x.1<;>simp[h]
theorem c4N (x:Den A51):F51 x=some (decide (x.2.1<=x.1)&&decide (x.1<=x.2.2.1),()):=b9Y x
def b1g (s:Den S68) (m:Den S63):Bool:=(fgt .f32 m.1 s.2.1||feq .f32 m.1 s.2.1)&&(flt .f32 m.1 s.2.2.1||feq .f32 m.1 s.2.2.1)&&(decide (s.2.2.2.1<=m.2.1)&&decide (m.2.1<=s.2.2.2.2.1))
theorem c2h (x:Den b5Y):f1G x=some (b1g x.1 x.2.1,()):=by
 unfold f1G f6B b1g
 simp only[K44,G44,b9Y,Option.isSome_some,Option.getD_some]
 cases (fgt .f32 x.2.1.1 x.1.2.1||feq .f32 x.2.1.1 x.1.2.1)<;>cases (flt .f32 x.2.1.1 x.1.2.2.1||feq .f32 x.2.1.1 x.1.2.2.1)<;>simp
def I64 (n:Int):Prop := -9223372036854775808<=n /\ n<=9223372036854775807
def a3r (s:Den S68) (m:Den S63):Bool:=
 (fgt .f32 m.1 (a0i .sub .f32 s.2.1 1065353216)||feq .f32 m.1 (a0i .sub .f32 s.2.1 1065353216))&&(flt .f32 m.1 (a0i .add .f32 s.2.2.1 1065353216)||feq .f32 m.1 (a0i .add .f32 s.2.2.1 1065353216)) &&
  (decide (s.2.2.2.1<=m.2.1)||decide (s.2.2.2.1-m.2.1<=5))&&(decide (m.2.1<=s.2.2.2.2.1)||decide (m.2.1-s.2.2.2.2.1<=5))
theorem c4O {a b:Int} (ha:I64 a) (hb:I64 b) (h:¬b<=a):decide (IntKind.u64.wrap (IntKind.u64.wrap b-IntKind.u64.wrap a)<=5)=decide (b-a<=5):=by
 unfold I64 at ha hb
 rw[IntKind.wrap_u64,IntKind.wrap_u64,IntKind.wrap_u64,Bool.eq_iff_iff]
 simp only[decide_eq_true_eq]
 omega
theorem dlt (a b:Int):decide (a<b)=!decide (b<=a):=by by_cases h:b<=a<;>simp[h]<;>omega
theorem e0o (x:Den A20) (h1:I64 x.1.2.2.2.1) (h2:I64 x.1.2.2.2.2.1) (h3:I64 x.2.1.2.1):F20 x=some (a3r x.1 x.2.1,()):=by
 unfold F20 r20 a3r
 simp only[ge_iff_le]
 generalize (fgt .f32 x.2.1.1 (a0i .sub .f32 x.1.2.1 1065353216)||feq .f32 x.2.1.1 (a0i .sub .f32 x.1.2.1 1065353216))=p
 generalize (flt .f32 x.2.1.1 (a0i .add .f32 x.1.2.2.1 1065353216)||feq .f32 x.2.1.1 (a0i .add .f32 x.1.2.2.1 1065353216))=q
 by_cases ha:x.1.2.2.2.1<=x.2.1.2.1<;>by_cases hb:x.2.1.2.1<=x.1.2.2.2.2.1
 ·simp only[ha,hb,decide_true];cases p<;>cases q<;>rfl
 ·simp only[ha,hb,decide_true,decide_false,c4O h2 h3 hb];cases p<;>cases q<;>rfl
 ·simp only[ha,hb,decide_true,decide_false,c4O h3 h1 ha];cases p<;>cases q<;>cases decide (x.1.2.2.2.1-x.2.1.2.1<=5)<;>rfl
 ·simp only[ha,hb,decide_false,c4O h3 h1 ha,c4O h2 h3 hb];cases p<;>cases q<;>cases decide (x.1.2.2.2.1-x.2.1.2.1<=5)<;>rfl
theorem a7y (c x:Bool):(bif c then some (x,())else some (false,()))=some (c&&x,()):=by cases c<;>rfl
theorem d1N (a:ByteArray):a2w a a=true:=by simp[a2w]
def a7z (s:ByteArray):Bool:=a0w (fun i=>decide (97<=a1z s i)&&decide (a1z s i<=122)) 0 s.size
def f7E:ByteArray:={ data:=#[110,111,110,101] }
def c2i (s:ByteArray):Bool:=a7z s&&((decide (1<=(s.size:Int))&&decide ((s.size:Int)<=16))&&!a2w s f7E)
theorem dgt (a b:Int):decide (a>b)=!decide (a<=b):=by by_cases h:a<=b<;>simp[h]<;>omega
theorem e3g (s:ByteArray) (h:s.size<=9223372036854775807):f0C (s,())=some (c2i s,()):=by
 have hl:b8s ((s,(0:Int),()),())=some (bif a7z s then .inl ((s,()),())else .inr ((false,()),())):=by
  refine(a0X (q:=b8r K51 G51) (fun k=>((s,(k:Int),()),())) s.size (fun i=>decide (97<=a1z s i)&&decide (a1z s i<=122)) _ _ ?_ ?_ _ ?_:_)
  ·intro k f hk
   unfold b8r
   simp only[a4y k (by omega),dlt (a1z s k),dgt (a1z s k)]
   have e1:decide ((k:Int)<(s.size:Int))=true:=by simpa using hk
   have e2:decide (0<=(k:Int))=true:=by simp
   simp only[e1,e2,Bool.and_self,cond_true]
   cases decide (97<=a1z s k)<;>cases decide (a1z s k<=122)<;>rfl
  ·intro f
   simp[b8r]
  ·simp only[c9o];omega
 unfold f0C f3z c2i
 simp only[b4b,b4c,b4d,b4e,hl,Option.isSome_some,cond_true,K51,G51,c4N,Option.getD_some]
 cases a7z s
 ·rfl
 ·simp only[cond_true,isR,xOf,cond_false,Bool.true_and]
  exact a7y _ _
theorem e3h (s:ByteArray) (h:s.size<=9223372036854775807):f0Y (s,())=some (c2i s,()):=by
 have hl:b9k ((s,(0:Int),()),())=some (bif a7z s then .inl ((s,()),())else .inr ((false,()),())):=by
  refine(a0X (q:=b9j K44 G44) (fun k=>((s,(k:Int),()),())) s.size (fun i=>decide (97<=a1z s i)&&decide (a1z s i<=122)) _ _ ?_ ?_ _ ?_:_)
  ·intro k f hk
   unfold b9j
   simp only[a4y k (by omega),dlt (a1z s k),dgt (a1z s k)]
   have e1:decide ((k:Int)<(s.size:Int))=true:=by simpa using hk
   have e2:decide (0<=(k:Int))=true:=by simp
   simp only[e1,e2,Bool.and_self,cond_true]
   cases decide (97<=a1z s k)<;>cases decide (a1z s k<=122)<;>rfl
  ·intro f
   simp[b9j]
  ·simp only[d0x];omega
 unfold f0Y f4S c2i
 simp only[b5n,b5o,b5p,b5q,hl,Option.isSome_some,cond_true,K44,G44,b9Y,Option.getD_some]
 cases a7z s
 ·rfl
 ·simp only[cond_true,isR,xOf,cond_false,Bool.true_and]
  exact a7y _ _
def at' (l:List (Den S68)) (i:Nat):Den S68:=l.getD i (zero S68)
theorem d1O (l:List (Den S68)) (s:ByteArray) (h:l.length<=9223372036854775807):e7x (l,s,())=some (match a0M (fun i=>a2w (at' l i).1 s) 0 l.length with|some j=>(j:Int)|none=>-1,()):=by
 have hl:b9o ((s,l,(l.length:Int),(0:Int),()),())=some (match a0M (fun i=>a2w (at' l i).1 s) 0 l.length with|some j => .inr (((j:Int),()),())|none => .inl ((),())):=by
  refine(a7o (q:=b9n) (fun k=>((s,l,(l.length:Int),(k:Int),()),())) l.length (fun i=>a2w (at' l i).1 s) _ (fun j => .inr (((j:Int),()),())) ?_ ?_ _ ?_:_)
  ·intro k f hk
   unfold b9n
   have e1:decide ((k:Int)<(l.length:Int))=true:=by simpa using hk
   have e2:decide (0<=(k:Int))=true:=by simp
   simp only[a4y k (by omega),e1,e2,Bool.and_self,cond_true,Int.toNat_natCast]
   rfl
  ·intro f
   simp[b9n]
  ·simp only[d0z];omega
 unfold e7x f4U
 simp only[b5u,b5v,b5w,hl,Option.isSome_some,cond_true]
 cases a0M (fun i=>a2w (at' l i).1 s) 0 l.length<;>rfl
def a3c (s:Den S68):Bool:=c2i s.1&&((fgt .f32 s.2.1 0||feq .f32 s.2.1 0)&&(fgt .f32 s.2.2.1 s.2.1&&((flt .f32 s.2.2.1 1128792064||feq .f32 s.2.2.1 1128792064) &&
 ((decide (0<=s.2.2.2.1)&&decide (s.2.2.2.1<=180))&&(decide (s.2.2.2.1<=s.2.2.2.2.1)&&decide (s.2.2.2.2.1<=180))))))
def a3E (l:List (Den S68)) (i:Nat):Bool:=a0w (fun j=>!a2w (at' l j).1 (at' l i).1) 0 i
def a4Z (l:List (Den S68)):Bool:=a0w (fun i=>a3c (at' l i)&&a3E l i) 0 l.length&&decide ((l.length:Int)<=12)
structure d1P (l:List (Den S68)):Prop where
 len:l.length<=9223372036854775807
 name:∀i,(at' l i).1.size<=9223372036854775807
 rng:∀i,I64 (at' l i).2.2.2.1 /\ I64 (at' l i).2.2.2.2.1
theorem e8T {l:List (Den S68)} {i:Nat}:at' l i∈l∨at' l i=zero S68:=by
 unfold at'
 rw[List.getD_eq_getElem?_getD]
 cases h:l[i]? with
 |none=>exact .inr rfl
 |some x=>exact .inl (List.mem_of_getElem? h)
theorem c6U {l:List (Den S68)} {i:Nat} (hi:i<l.length):((match a0M (fun j=>a2w (at' l j).1 (at' l i).1) 0 l.length with|some j=>(j:Int)|none=>-1) != (i:Int))=!a3E l i:=by
 have hs:a2w (at' l i).1 (at' l i).1=true:=d1N _
 cases h:a0M (fun j=>a2w (at' l j).1 (at' l i).1) 0 l.length with
 |none=>have:=a2q.1 h i (Nat.zero_le _) (by omega);rw[hs]at this;cases this
 | some j =>
   obtain⟨h1,h2,h3,h4⟩:=a1V h
   by_cases hji:j=i
   ·subst hji
    have:a3E l j=true:=a0I.2 fun k hk1 hk2=>by rw[h4 k (Nat.zero_le _) (by omega)];rfl
    rw[this];simp
   ·have hlt:j<i:=by
     rcases Nat.lt_or_ge j i with h5|h5
     ·exact h5
     ·have:=h4 i (Nat.zero_le _) (by omega);rw[hs]at this;cases this
    have:a3E l i=false:=by
     cases hf:a3E l i with
     |false=>rfl
     |true=>have:=a0I.1 hf j (Nat.zero_le _) (by omega);rw[h3]at this;cases this
    rw[this]
    simp
    omega
theorem d1Q (l:List (Den S68)) (h:d1P l):F92 (l,())=some (a4Z l,()):=by
 have hl:d0D ((l,l,(l.length:Int),(0:Int),()),())=some (bif a0w (fun i=>a3c (at' l i)&&a3E l i) 0 l.length then .inl ((),())else .inr ((false,()),())):=by
  refine(a0X (q:=d0C e2z e2A c6C c6D K44 G44) (fun k=>((l,l,(l.length:Int),(k:Int),()),())) l.length (fun i=>a3c (at' l i)&&a3E l i) _ _ ?_ ?_ _ ?_:_)
  ·intro k f hk
   unfold d0C a3c
   have e1:decide ((k:Int)<(l.length:Int))=true:=by simpa using hk
   have e2:decide (0<=(k:Int))=true:=by simp
   have hlen:=h.len
   have ha:List.getD l k (zero S68)=at' l k:=rfl
   have hf:=c6U hk
   simp only[a4y k (by omega),e1,e2,Bool.and_self,cond_true,Int.toNat_natCast,ha,e2z,e2A,e3h _ (h.name k),c6C,c6D,d1O l _ h.len,K44,G44,b9Y,Option.isSome_some,Option.getD_some,hf]
   generalize at' l k=s
   cases c2i s.1<;>cases a3E l k<;>cases (fgt .f32 s.2.1 0||feq .f32 s.2.1 0)<;>cases fgt .f32 s.2.2.1 s.2.1<;>cases (flt .f32 s.2.2.1 1128792064||feq .f32 s.2.2.1 1128792064) <;>
    cases (decide (0<=s.2.2.2.1)&&decide (s.2.2.2.1<=180))<;>cases (decide (s.2.2.2.1<=s.2.2.2.2.1)&&decide (s.2.2.2.2.1<=180))<;>rfl
  ·intro f
   simp[d0C]
  ·simp only[e2C];omega
 unfold F92 r92 a4Z
 simp only[c4a,c4b,c4c,hl,Option.isSome_some,cond_true,dgt (l.length:Int)]
 cases decide ((l.length:Int)<=12)<;>cases a0w (fun i=>a3c (at' l i)&&a3E l i) 0 l.length<;>rfl
theorem e3i (l:List (Den S68)) (h:d1P l):f0D (l,())=some (a4Z l,()):=by
 have hlen:=h.len
 have hin:∀k,k<l.length->b2q ((l,(k:Int),(),(0:Int),()),at' l k,())=some (bif a3E l k then .inl ((l,(k:Int),()),())else .inr ((false,()),())):=by
  intro k hk
  refine(a0X (q:=b8v d3R d3S K51 G51) (fun j=>((l,(k:Int),(),(j:Int),()),at' l k,())) k (fun j=>!a2w (at' l j).1 (at' l k).1) _ _ ?_ ?_ _ ?_:_)
  ·intro j f hj
   unfold b8v
   have e1:decide ((j:Int)<(k:Int))=true:=by simpa using hj
   have e2:decide (0<=(j:Int))=true:=by simp
   have e3:decide ((j:Int)<(l.length:Int))=true:=by simp;omega
   have ha:List.getD l j (zero S68)=at' l j:=rfl
   simp only[a4y j (by omega),e1,e2,e3,Bool.and_self,cond_true,Int.toNat_natCast,ha]
   cases a2w (at' l j).1 (at' l k).1<;>rfl
  ·intro f
   simp[b8v]
  ·simp only[c9r];omega
 have hl:b8x ((l,(0:Int),()),())=some (bif a0w (fun i=>a3c (at' l i)&&a3E l i) 0 l.length then .inl ((l,()),())else .inr ((false,()),())):=by
  refine(a0X (q:=b8w d3R d3S K51 G51 a6z a6B a6A a6C) (fun k=>((l,(k:Int),()),())) l.length (fun i=>a3c (at' l i)&&a3E l i) _ _ ?_ ?_ _ ?_:_)
  ·intro k f hk
   have hi:=hin k hk
   unfold b8w a3c
   have e1:decide ((k:Int)<(l.length:Int))=true:=by simpa using hk
   have e2:decide (0<=(k:Int))=true:=by simp
   have ha:List.getD l k (zero S68)=at' l k:=rfl
   simp only[e1,e2,Bool.and_self,cond_true,Int.toNat_natCast,ha,d3R,d3S,e3g _ (h.name k),K51,G51,c4N,Option.isSome_some,Option.getD_some]
   have hi':b2q ((l,(k:Int),(),(0:Int),()),((at' l k).1,(at' l k).2.1,(at' l k).2.2.1,(at' l k).2.2.2.1,(at' l k).2.2.2.2.1,()),())=_:=hi
   simp only[a6z,a6A,a6B,a6C,hi',Option.isSome_some]
   generalize at' l k=s
   cases c2i s.1<;>cases a3E l k<;>cases (fgt .f32 s.2.1 0||feq .f32 s.2.1 0)<;>cases fgt .f32 s.2.2.1 s.2.1<;>cases (flt .f32 s.2.2.1 1128792064||feq .f32 s.2.2.1 1128792064) <;>
    cases (decide (0<=s.2.2.2.1)&&decide (s.2.2.2.1<=180))<;>cases (decide (s.2.2.2.1<=s.2.2.2.2.1)&&decide (s.2.2.2.2.1<=180))<;>first|rfl|(simp only[cond_true,cond_false,isR,xOf,yOf,Bool.and_true,Bool.not_true,a4y k (by omega)];done)|(simp[isR,xOf,yOf,a4y k (by omega)])
  ·intro f
   simp[b8w]
  ·simp only[c9s];omega
 unfold f0D f3B a4Z
 simp only[b0G,b0H,b0I,b0J,hl,Option.isSome_some,cond_true]
 cases a0w (fun i=>a3c (at' l i)&&a3E l i) 0 l.length
 ·rfl
 ·simp only[cond_true,isR,xOf,cond_false,Bool.true_and]
  rfl
def inB (n lo hi:Int):Bool:=decide (lo<=n)&&decide (n<=hi)
theorem a7A (x:Den A51):F51 x=some (inB x.1 x.2.1 x.2.2.1,()):=by
 unfold F51 r51 inB
 exact a7y _ _
theorem a3s (x:Den A44):F44 x=some (inB x.1 x.2.1 x.2.2.1,()):=a7A x
def a2h (p:Den S33):Bool:=inB p.1 (-10000) 10000&&inB p.2.1 (-10000) 10000
theorem c4P (x:Den A98):F98 x=some (a2h x.1,()):=by
 unfold F98 r98 a2h
 simp only[K51,G51,a7A,Option.isSome_some,Option.getD_some,cond_true]
 exact a7y _ _
theorem b9Z (x:Den A63):F63 x=some (a2h x.1,()):=by
 unfold F63 r63 a2h
 simp only[K44,G44,a3s,Option.isSome_some,Option.getD_some,cond_true]
 exact a7y _ _
def eqP (p q:Den S33):Bool:=p.1==q.1&&p.2.1==q.2.1
def b1O (l:Den S35):Bool:=a2h l.1&&(a2h l.2.1&&!eqP l.1 l.2.1)
theorem e3j (x:Den c7C):f0G x=some (b1O x.1,()):=by
 unfold f0G f3E b1O
 simp only[K98,G98,c4P,Option.isSome_some,Option.getD_some,cond_true]
 cases a2h x.1.1<;>cases a2h x.1.2.1<;>rfl
theorem e3k (x:Den c7H):f0Z x=some (b1O x.1,()):=by
 unfold f0Z f4X b1O
 simp only[K63,G63,b9Z,Option.isSome_some,Option.getD_some,cond_true]
 cases a2h x.1.1<;>cases a2h x.1.2.1<;>rfl
def mk (c:Den S38) (k:Nat):Den a1E:=c.2.1.getD k (zero a1E)
def a2x (c:Den S38) (k:Nat):Den S33:=if k=0 then c.1.1 else(mk c (k-1)).1
def b6C (c:Den S38) (k:Nat):Bool:=a2h (mk c k).1&&!eqP (mk c k).1 (a2x c k)
def b1h (c:Den S38):Bool:=b1O c.1&&(b1O c.2.2.1&&(inB c.2.1.length 1 20&&a0w (b6C c) 0 c.2.1.length))
theorem d1R (c:Den S38) (k:Nat) (h:k<=c.2.1.length) (hl:c.2.1.length<=9223372036854775807):e5j (c,(k:Int),())=some (a2x c k,()):=by
 unfold e5j f3H a2x
 by_cases hk:k=0
 ·subst hk;rfl
 ·have e1:((k:Int)==0)=false:=by simpa using hk
  have e2:IntKind.i64.wrap ((k:Int)-1)=((k-1:Nat):Int):=by rw[w64 (by omega) (by omega)];omega
  have e3:decide (0<=((k-1:Nat):Int))=true:=by simp
  have e4:decide (((k-1:Nat):Int)<(c.2.1.length:Int))=true:=by simp;omega
  simp only[e1,e2,e3,e4,cond_false,Bool.and_self,cond_true,Int.toNat_natCast,if_neg hk]
  rfl
theorem e3l (c:Den S38) (k:Nat) (h:k<=c.2.1.length) (hl:c.2.1.length<=9223372036854775807):e7z (c,(k:Int),())=some (a2x c k,()):=d1R c k h hl
theorem e3m (c:Den S38) (hl:c.2.1.length<=9223372036854775807):f0H (c,())=some (b1h c,()):=by
 have hlp:b2r (((),(0:Int),()),(c.1.1.1,c.1.1.2.1,c.1.2.1.1,c.1.2.1.2.1,c.2.1,c.2.2.1.1.1,c.2.2.1.1.2.1,c.2.2.1.2.1.1,c.2.2.1.2.1.2),())=some (bif a0w (b6C c) 0 c.2.1.length then .inl ((),())else .inr ((false,()),())):=by
  refine(a0X (q:=b8A e1X e1Y K51 G51 K98 G98 e1Z e2a) (fun k=>(((),(k:Int),()),(c.1.1.1,c.1.1.2.1,c.1.2.1.1,c.1.2.1.2.1,c.2.1,c.2.2.1.1.1,c.2.2.1.1.2.1,c.2.2.1.2.1.1,c.2.2.1.2.1.2),())) c.2.1.length (b6C c) _ _ ?_ ?_ _ ?_:_)
  ·intro k f hk
   have e1:decide ((k:Int)<(c.2.1.length:Int))=true:=by simpa using hk
   have e2:decide (0<=(k:Int))=true:=by simp
   have ha:c.2.1.getD k (zero a1E)=mk c k:=rfl
   have h58:e5j (c,(k:Int),())=some (a2x c k,()):=d1R c k (by omega) hl
   unfold b8A b6C
   simp only[a4y k (by omega),e1,e2,Bool.and_self,cond_true,Int.toNat_natCast,ha,K98,G98,c4P,e1Z,e2a,Option.isSome_some,Option.getD_some]
   have h58':e5j ((((c.1.1.1,c.1.1.2.1,()),(c.1.2.1.1,c.1.2.1.2.1,()),()),c.2.1,((c.2.2.1.1.1,c.2.2.1.1.2.1,()),c.2.2.1.2.1,()),()),(k:Int),())=some (a2x c k,()):=h58
   simp only[h58',Option.isSome_some,Option.getD_some,cond_true]
   cases a2h (mk c k).1
   ·rfl
   ·cases hq:eqP (mk c k).1 (a2x c k)<;>simp only[Bool.not_true,cond_false,Bool.true_and]
    ·have:((mk c k).1.1==(a2x c k).1&&(mk c k).1.2.1==(a2x c k).2.1)=false:=hq
     simp only[this,cond_false,Bool.not_false,cond_true]
    ·have:((mk c k).1.1==(a2x c k).1&&(mk c k).1.2.1==(a2x c k).2.1)=true:=hq
     simp only[this,cond_true]
  ·intro f
   simp[b8A]
  ·simp only[c9v];omega
 unfold f0H f3J b1h
 simp only[e1X,e1Y,e3j,K51,G51,a7A,Option.isSome_some,Option.getD_some,cond_true,b4o,b4p,b4q]
 have hlp':b2r (((),0,()),(c.1.1.1,c.1.1.2.1,c.1.2.1.1,c.1.2.1.2.1,c.2.1,c.2.2.1.1.1,c.2.2.1.1.2.1,c.2.2.1.2.1),())=_:=hlp
 cases b1O c.1
 ·rfl
 ·cases b1O c.2.2.1
  ·rfl
  ·cases inB c.2.1.length 1 20
   ·rfl
   ·simp only[Bool.not_true,cond_false,Bool.true_and,hlp',Option.isSome_some,cond_true]
    cases a0w (b6C c) 0 c.2.1.length<;>rfl
theorem e8U (c:Den S38) (hl:c.2.1.length<=9223372036854775807):F93 (c,())=some (b1h c,()):=by
 have hlp:c6E (((),c.2.1,(c.2.1.length:Int),(0:Int),()),(c.1.1.1,c.1.1.2.1,c.1.2.1.1,c.1.2.1.2.1,c.2.1,c.2.2.1.1.1,c.2.2.1.1.2.1,c.2.2.1.2.1.1,c.2.2.1.2.1.2),())=some (bif a0w (b6C c) 0 c.2.1.length then .inl ((),())else .inr ((false,()),())):=by
  refine(a0X (q:=d0I e2E e2F K44 G44 K63 G63 e2G e2H) (fun k=>(((),c.2.1,(c.2.1.length:Int),(k:Int),()),(c.1.1.1,c.1.1.2.1,c.1.2.1.1,c.1.2.1.2.1,c.2.1,c.2.2.1.1.1,c.2.2.1.1.2.1,c.2.2.1.2.1.1,c.2.2.1.2.1.2),())) c.2.1.length (b6C c) _ _ ?_ ?_ _ ?_:_)
  ·intro k f hk
   have e1:decide ((k:Int)<(c.2.1.length:Int))=true:=by simpa using hk
   have e2:decide (0<=(k:Int))=true:=by simp
   have ha:c.2.1.getD k (zero a1E)=mk c k:=rfl
   have h63:e7z (c,(k:Int),())=some (a2x c k,()):=e3l c k (by omega) hl
   unfold d0I b6C
   simp only[a4y k (by omega),e1,e2,Bool.and_self,cond_true,Int.toNat_natCast,ha,K63,G63,b9Z,e2G,e2H,Option.isSome_some,Option.getD_some]
   have h63':e7z ((((c.1.1.1,c.1.1.2.1,()),(c.1.2.1.1,c.1.2.1.2.1,()),()),c.2.1,((c.2.2.1.1.1,c.2.2.1.1.2.1,()),c.2.2.1.2.1,()),()),(k:Int),())=some (a2x c k,()):=h63
   simp only[h63',Option.isSome_some,Option.getD_some,cond_true]
   cases a2h (mk c k).1
   ·rfl
   ·cases hq:eqP (mk c k).1 (a2x c k)<;>simp only[Bool.not_true,cond_false,Bool.true_and]
    ·have:((mk c k).1.1==(a2x c k).1&&(mk c k).1.2.1==(a2x c k).2.1)=false:=hq
     simp only[this,cond_false,Bool.not_false,cond_true]
    ·have:((mk c k).1.1==(a2x c k).1&&(mk c k).1.2.1==(a2x c k).2.1)=true:=hq
     simp only[this,cond_true]
  ·intro f
   simp[d0I]
  ·simp only[e2J];omega
 unfold F93 r93 b1h
 simp only[e2E,e2F,e3k,K44,G44,a3s,Option.isSome_some,Option.getD_some,cond_true,c4e,c4f,c4g]
 have hlp':c6E (((),c.2.1,(c.2.1.length:Int),0,()),(c.1.1.1,c.1.1.2.1,c.1.2.1.1,c.1.2.1.2.1,c.2.1,c.2.2.1.1.1,c.2.2.1.1.2.1,c.2.2.1.2.1),())=_:=hlp
 cases b1O c.1
 ·rfl
 ·cases b1O c.2.2.1
  ·rfl
  ·cases inB c.2.1.length 1 20
   ·rfl
   ·simp only[Bool.not_true,cond_false,Bool.true_and,hlp',Option.isSome_some,cond_true]
    cases a0w (b6C c) 0 c.2.1.length<;>rfl
theorem f7F (x:Den A98):K98 x=true:=by unfold K98;rw[c4P];rfl
theorem f7G (x:Den A63):K63 x=true:=by unfold K63;rw[b9Z];rfl
theorem e8V (x:Den A98):G98 x=(a2h x.1,()):=by unfold G98;rw[c4P];rfl
theorem e8W (x:Den A63):G63 x=(a2h x.1,()):=by unfold G63;rw[b9Z];rfl
def sg (t:List (Den S97)) (k:Nat):Den S97:=t.getD k (zero S97)
def c0a (t:List (Den S97)) (k:Nat):Bool:=a2h (sg t k).1&&(inB (sg t k).2.1 0 10000000&&!(decide (0<k)&&decide ((sg t k).2.1<=(sg t (k-1)).2.1)))
def a7B (t:List (Den S97)):Bool:=a0w (c0a t) 0 t.length&&decide ((t.length:Int)<=200)
theorem c4Q (x:Den A43):F43 x=some (inB x.1 0 10000000,()):=by
 unfold F43 r43
 simp only[K44,G44,a3s,Option.isSome_some,Option.getD_some,cond_true]
theorem e8X (t:List (Den S97)) (h:t.length<=9223372036854775807):F46 (t,())=some (a7B t,()):=by
 have hl:d0N ((t,t,(t.length:Int),(0:Int),()),())=some (bif a0w (c0a t) 0 t.length then .inl ((),())else .inr ((false,()),())):=by
  refine(a0X (q:=d0M K63 G63 K43 G43) (fun k=>((t,t,(t.length:Int),(k:Int),()),())) t.length (c0a t) _ _ ?_ ?_ _ ?_:_)
  ·intro k f hk
   have e1:decide ((k:Int)<(t.length:Int))=true:=by simpa using hk
   have e2:decide (0<=(k:Int))=true:=by simp
   have ha:∀k,t.getD k (zero S97)=sg t k:=fun _=>rfl
   unfold d0M c0a
   simp only[a4y k (by omega),e1,e2,Bool.and_self,cond_true,Int.toNat_natCast,ha,K63,G63,b9Z,K43,G43,c4Q,Option.isSome_some,Option.getD_some]
   cases a2h (sg t k).1
   ·rfl
   ·cases inB (sg t k).2.1 0 10000000
    ·rfl
    ·by_cases hk0:0<k
     ·have e3:IntKind.i64.wrap ((k:Int)-1)=((k-1:Nat):Int):=by rw[w64 (by omega) (by omega)];omega
      have e4:decide (((k-1:Nat):Int)<(t.length:Int))=true:=by simp;omega
      have e5:decide (0<=((k-1:Nat):Int))=true:=by simp
      have e6:decide ((k:Int)>0)=true:=by simpa using hk0
      simp only[e3,e4,e5,e6,Int.toNat_natCast,hk0,decide_true,Bool.and_self,cond_true,Bool.not_true,cond_false,Bool.true_and]
      cases decide ((sg t k).2.1<=(sg t (k-1)).2.1)<;>rfl
     ·have e6:decide ((k:Int)>0)=false:=by simpa using hk0
      simp only[e6,hk0,decide_false,Bool.not_true,cond_false,Bool.true_and,Bool.false_and,Bool.not_false,cond_true]
  ·intro f
   simp[d0M]
  ·simp only[e2L];omega
 unfold F46 r46 a7B
 simp only[c4i,c4j,c4k,hl,Option.isSome_some,cond_true,dgt (t.length:Int)]
 cases decide ((t.length:Int)<=200)<;>cases a0w (c0a t) 0 t.length<;>rfl
def Pst {α:Type} (o:Option α) (P:α->Prop):Prop:=∃y,o=some y /\ P y
theorem a0v {α:Type} {y:α} {P:α->Prop} (h:P y):Pst (some y) P:=⟨y,rfl,h⟩
theorem a0p {α:Type} {c:Bool} {a b:Option α} {P:α->Prop} (hc:c=true) (h:Pst a P):Pst (bif c then a else b) P:=by rw[hc];exact h
theorem a1q {α:Type} {c:Bool} {a b:Option α} {P:α->Prop} (h1:c=true->Pst a P) (h2:c=false->Pst b P):Pst (bif c then a else b) P:=by
 cases c
 ·exact h2 rfl
 ·exact h1 rfl
theorem a2C {α:Type} {o:Option α} {P:α->Prop} (h:Pst o P):o.isSome=true:=by obtain⟨y,e,_⟩:=h;rw[e];rfl
theorem a2T {α:Type} {o:Option α} {P:α->Prop} (z:α) (h:Pst o P):P (o.getD z):=by obtain⟨y,e,h⟩:=h;rw[e];exact h
theorem a0H {c:Bool} {a b:Option Unit} (hc:c=true) (h:a=some ()):(bif c then a else b)=some ():=by rw[hc];exact h
theorem a1Z {c:Bool} {a b:Option Unit} (h1:c=true->a=some ()) (h2:c=false->b=some ()):(bif c then a else b)=some ():=by
 cases c
 ·exact h2 rfl
 ·exact h1 rfl
theorem e0p (x:b2w.den) (h:a0g x.2.1):Pst (f0P x) fun y=>a0g y.2.1:=by
 unfold f0P f3Y
 dsimp only
 (repeat' (with_reducible first|refine a0v ?_|refine a0p (a0C _ (by(repeat ((try dsimp only);first|assumption|(with_reducible first|apply a0c|apply a0f))))) ?_|refine a0p (a2b _ (by(repeat ((try dsimp only);first|assumption|(with_reducible first|apply a0c|apply a0f))))) ?_|refine a1q (fun _=>?_) (fun _=>?_)))<;>(repeat ((try dsimp only);first|assumption|(with_reducible first|apply a0c|apply a0f)))
theorem a8z (x:b2w.den) (h:a0g x.2.1):d3U x=true:=a2C (e0p x h)
theorem a0d (x:b2w.den) (h:a0g x.2.1):a0g (d3V x).2.1:=a2T _ (e0p x h)
theorem d1S (x:I81.den) (h:a0g x.2.1):Pst (F81 x) fun y=>a0g y.2.1:=by
 unfold F81 r81
 dsimp only
 refine a0p (a2b _ (by(repeat ((try dsimp only);first|assumption|(with_reducible first|apply a0d|apply a0c|apply a0f))))) ?_
 refine a1q (fun _=>?_) (fun _=>?_)
 ·refine a0p (a8z _ (by(repeat ((try dsimp only);first|assumption|(with_reducible first|apply a0d|apply a0c|apply a0f))))) ?_
  exact a0v (by(repeat ((try dsimp only);first|assumption|(with_reducible first|apply a0d|apply a0c|apply a0f))))
 ·(repeat' (with_reducible first|refine a0v ?_|refine a0p (a0C _ (by(repeat ((try dsimp only);first|assumption|(with_reducible first|apply a0d|apply a0c|apply a0f))))) ?_|refine a0p (a2b _ (by(repeat ((try dsimp only);first|assumption|(with_reducible first|apply a0d|apply a0c|apply a0f))))) ?_|refine a1q (fun _=>?_) (fun _=>?_)))<;>(repeat ((try dsimp only);first|assumption|(with_reducible first|apply a0d|apply a0c|apply a0f)))
theorem d1T (x:I81.den) (h:a0g x.2.1):K81 x=true:=a2C (d1S x h)
theorem a0h (x:I81.den) (h:a0g x.2.1):a0g (G81 x).2.1:=a2T _ (d1S x h)
theorem c0b (x:a6m.den) (h:a0g x.2.1):Pst (f0Q x) fun y=>a0g y.2.1:=by
 unfold f0Q f4f
 dsimp only
 refine a0p (a0C _ (by(repeat ((try dsimp only);first|assumption|(with_reducible first|apply a0h|apply a0d|apply a0c|apply a0f))))) ?_
 refine a1q (fun _=>?_) (fun _=>?_)
 ·refine a0p (b0Q _ (by(repeat ((try dsimp only);first|assumption|(with_reducible first|apply a0h|apply a0d|apply a0c|apply a0f)))) (by simp)) ?_
  exact a0v (a7w _ (by(repeat ((try dsimp only);first|assumption|(with_reducible first|apply a0h|apply a0d|apply a0c|apply a0f)))) (by simp))
 ·(repeat' (with_reducible first|refine a0v ?_|refine a0p (a0C _ (by(repeat ((try dsimp only);first|assumption|(with_reducible first|apply a0h|apply a0d|apply a0c|apply a0f))))) ?_|refine a0p (a2b _ (by(repeat ((try dsimp only);first|assumption|(with_reducible first|apply a0h|apply a0d|apply a0c|apply a0f))))) ?_|refine a1q (fun _=>?_) (fun _=>?_)))<;>(repeat ((try dsimp only);first|assumption|(with_reducible first|apply a0h|apply a0d|apply a0c|apply a0f)))
theorem b6D (x:a6m.den) (h:a0g x.2.1):a7T x=true:=a2C (c0b x h)
theorem a0b (x:a6m.den) (h:a0g x.2.1):a0g (a7U x).2.1:=a2T _ (c0b x h)
theorem c4R (x:b1N.den) (h:a0g x.2.1) (hl:0<x.2.2.1.length):Pst (f0M x) fun y=>a0g y.2.1 /\ y.1.1∈x.2.2.1:=by
 obtain⟨m,c1,he,h1,h2,h3⟩:=a9E (x.2.2.1.length:Int) x.2.1 h
 unfold f0M f3U
 have he':F34 (((),(↑(List.length x.snd.snd.fst):Int),()),x.snd.fst,())=some ((m,()),(c1,())):=he
 have e1:decide (0<=m)=true:=decide_eq_true h2
 have h4:m<(x.2.2.1.length:Int):=h3 (by omega)
 have e2:decide (m<(x.2.2.1.length:Int))=true:=decide_eq_true h4
 simp only[K34,G34,he',Option.isSome_some,Option.getD_some,cond_true,e1,e2,Bool.and_self]
 refine a0v ⟨h1,?_⟩
 show x.2.2.1.getD m.toNat _∈x.2.2.1
 rw[a5o _ _ _ (by omega)]
 exact List.getElem_mem _
theorem d1U (x:b1N.den) (h:a0g x.2.1) (hl:0<x.2.2.1.length):c1A x=true:=a2C (c4R x h hl)
theorem d1V (x:b1N.den) (h:a0g x.2.1) (hl:0<x.2.2.1.length):a0g (b8D x).2.1 /\ (b8D x).1.1∈x.2.2.1:=a2T _ (c4R x h hl)
theorem d1W (n:Int):I64 (IntKind.i64.wrap n):=by
 unfold I64
 rw[IntKind.wrap_i64]
 omega
def d7r (c:List Int×Int×Int×Unit):Bool:=decide (0<=c.2.1)&&decide (c.1.length<=1048576)
theorem a1s {c:List Int×Int×Int×Unit}:d7r c=true↔a0g c:=by unfold d7r a0g;simp
def e0q:List Int×Int×Int×Unit:=([],0,0,())
theorem a6K:a0g e0q:=⟨Int.le_refl 0,Nat.zero_le _⟩
def p141 (x:a2j.den):Bool:=d7r x.2.1
def Q141 (x:a2j.den) (y:a3y.den):Prop:=a0g y.2.1
theorem e141:Nonempty (Ch a2j a3y p141 Q141):=⟨⟨fun _=>((0,()),(e0q,())),fun _ _=>a6K⟩⟩
theorem d1X:a2M Tryz.prog 141 (a3p true a2j a3y p141 Q141 e141):=b7U d9i (N:=f8I) (a2N trivial) e6S a1w fun x hx k hk=>by
 have h:a0g x.2.1:=a1s.1 hx
 refine Eq.trans (e7i _ _ k x) ?_
 unfold e7h
 dsimp only
 refine a0H (d1T _ (by(repeat ((try dsimp only);first|assumption|(with_reducible first|apply a0b|apply a0h|apply a0d|apply a0c|apply a0f))))) ?_
 refine a1Z (fun hb=>?_) (fun _=>?_)
 ·refine a0H hb ?_
  exact hk _ (by show a0g _;(repeat ((try dsimp only);first|assumption|(with_reducible first|apply a0b|apply a0h|apply a0d|apply a0c|apply a0f))))
 ·exact a0A fun z=>hk _ (by show a0g _;(repeat ((try dsimp only);first|assumption|(with_reducible first|apply a0b|apply a0h|apply a0d|apply a0c|apply a0f))))
theorem a9H:I64 0:=by unfold I64;decide
theorem e3n:I64 180:=by unfold I64;decide
theorem a1g (n:Int) (c:List Int×Int×Int×Unit) (h:a0g c) (hn:0<n):0<=((G34 (((),n,()),c,())).1.1:Int) /\ ((G34 (((),n,()),c,())).1.1:Int)<n:=by
 obtain⟨_,h1,h2⟩:=d9t (((),n,()),c,()) h
 exact⟨h1,h2 hn⟩
def c2j (s:Den S68):Prop:=s.1.size<=1000 /\ I64 s.2.2.2.1 /\ I64 s.2.2.2.2.1
def a0T (l:List (Den S68)):Prop:=∀s∈l,c2j s
theorem c6V:c2j (zero S68):=⟨Nat.zero_le _,a9H,a9H⟩
theorem a0T.at {l:List (Den S68)} (h:a0T l) (i:Nat):c2j (at' l i):=by
 rcases e8T (l:=l) (i:=i)with h1|h1
 ·exact h _ h1
 ·rw[h1];exact c6V
theorem a0T.app {l:List (Den S68)} {s:Den S68} (h:a0T l) (hs:c2j s):a0T (l++[s]):=by
 intro t ht
 rcases List.mem_append.1 ht with h1|h1
 ·exact h t h1
 ·rw[List.mem_singleton.1 h1];exact hs
theorem a0T.set {l:List (Den S68)} {i:Nat} {s:Den S68} (h:a0T l) (hs:c2j s):a0T (l.set i s):=by
 intro t ht
 rcases List.mem_or_eq_of_mem_set ht with h1|h1
 ·exact h t h1
 ·rw[h1];exact hs
theorem a0T.good {l:List (Den S68)} (h:a0T l) (hl:l.length<=13):d1P l:=
 ⟨by omega,fun i=>by have:=(h.at i).1;omega,fun i=>⟨(h.at i).2.1,(h.at i).2.2⟩⟩
theorem f8Z {α:Type} (z x:α):(List.replicate 1 z).set 0 x=[x]:=rfl
theorem c4S (v:a9l) (h:a0g v.2.1) (hn:∀s∈v.2.2.1,s.size<=1000) (hn6:v.2.2.1.length=6) (h0:0<=v.1.2.2.2.1) (h1:(v.2.2.2.1.length:Int)+v.1.2.2.2.1<=5) (h2:1<=(v.2.2.2.1.length:Int)+v.1.2.2.2.1) (hg:a0T v.2.2.2.1) :
 Pst (e2n v) fun y=>a0g y.2.1 /\ a0T y.2.2.1 /\ y.2.2.1.length<=5 /\ 1<=y.2.2.1.length:=by
 refine a0W (q:=d5T K34 G34 K77 G77 c1A b8D a9C a9D a7T a7U) (fun v=>a0g v.2.1 /\ (∀s∈v.2.2.1,s.size<=1000) /\ v.2.2.1.length=6 /\ 0<=v.1.2.2.2.1 /\ (v.2.2.2.1.length:Int)+v.1.2.2.2.1<=5 /\ 1<=(v.2.2.2.1.length:Int)+v.1.2.2.2.1 /\ a0T v.2.2.2.1)
  (fun _ r=>Pst r fun y=>a0g y.2.1 /\ a0T y.2.2.1 /\ y.2.2.1.length<=5 /\ 1<=y.2.2.1.length) (fun v=>v.1.2.2.2.1.toNat) ?_ _ _ ⟨h,hn,hn6,h0,h1,h2,hg⟩ (Nat.lt_of_lt_of_le (m:=1000) (by omega) (Nat.le_add_left _ _))
 clear h hn hn6 h0 h1 h2 hg v
 rintro⟨⟨_,_,_,k,_⟩,c,ns,l,_⟩ f ⟨g0,g1,g2,g3,g4,g5,g6⟩ ih
 simp only at g0 g1 g2 g3 g4 g5 g6 ih
 unfold d5T
 dsimp only
 by_cases hk:k>0
 ·refine a0p (by simpa using hk) ?_
  refine a0p (a0C _ (by(repeat ((try dsimp only);first|assumption|(with_reducible first|apply a0b|apply a0h|apply a0d|apply a0c|apply a0f))))) ?_
  refine a0p (a0C _ (by(repeat ((try dsimp only);first|assumption|(with_reducible first|apply a0b|apply a0h|apply a0d|apply a0c|apply a0f))))) ?_
  have c1:a0g (G34 (((),16,()),c,())).snd.fst:=by(repeat ((try dsimp only);first|assumption|(with_reducible first|apply a0b|apply a0h|apply a0d|apply a0c|apply a0f)))
  have b1:0<=((G34 (((),100,()),(G34 (((),16,()),c,())).snd)).fst.fst:Int) /\ ((G34 (((),100,()),(G34 (((),16,()),c,())).snd)).fst.fst:Int)<100:=a1g 100 _ c1 (by decide)
  have c2:a0g (G34 (((),100,()),(G34 (((),16,()),c,())).snd)).snd.fst:=by(repeat ((try dsimp only);first|assumption|(with_reducible first|apply a0b|apply a0h|apply a0d|apply a0c|apply a0f)))
  generalize G34 (((),100,()),(G34 (((),16,()),c,())).snd)=A at *
  generalize G34 (((),16,()),c,())=B at *
  have i1:∀z:Int,z=A.fst.fst->I64 z:=fun z e=>by have h1:0<=z:=e ▸ b1.1;have h2:z<100:=e ▸ b1.2;unfold I64;omega
  refine a0p ?_ ?_
  ·simp;omega
  refine a0p (a0C _ (by(repeat ((try dsimp only);first|assumption|(with_reducible first|apply a0b|apply a0h|apply a0d|apply a0c|apply a0f))))) ?_
  refine a0p (a0C _ (by(repeat ((try dsimp only);first|assumption|(with_reducible first|apply a0b|apply a0h|apply a0d|apply a0c|apply a0f))))) ?_
  refine a0p (a2b _ (by(repeat ((try dsimp only);first|assumption|(with_reducible first|apply a0b|apply a0h|apply a0d|apply a0c|apply a0f))))) ?_
  have e:IntKind.i64.wrap (k-1)=k-1:=w64 (by omega) (by omega)
  have hname:(ns.getD (Int.toNat (l.length:Int)) (zero Ty.str)).size<=1000:=by
   rw[Int.toNat_natCast,a5o _ _ _ (by omega)]
   exact g1 _ (List.getElem_mem _)
  simp only[f8Z,List.length_singleton]
  refine a1q (fun _=>?_) (fun _=>?_)
  ·refine a0p (a0K (by omega)) ?_
   refine ih _ ⟨by(repeat ((try dsimp only);first|assumption|(with_reducible first|apply a0b|apply a0h|apply a0d|apply a0c|apply a0f))),g1,g2,?_,?_,?_,g6.app ⟨hname,a9H,e3n⟩⟩ ?_<;>simp only[e,List.length_append,List.length_singleton]<;>omega
  ·refine a0p (a0K (by omega)) ?_
   refine ih _ ⟨by(repeat ((try dsimp only);first|assumption|(with_reducible first|apply a0b|apply a0h|apply a0d|apply a0c|apply a0f))),g1,g2,?_,?_,?_,g6.app ⟨hname,i1 _ rfl,d1W _⟩⟩ ?_<;>simp only[e,List.length_append,List.length_singleton]<;>omega
 ·have:decide (k>0)=false:=by simpa using hk
  rw[this]
  exact a0v ⟨g0,g6,by show l.length<=5;omega,by show 1<=l.length;omega⟩
theorem c0c (v:a4N) (h:a0g v.2.1) (h1:v.2.2.1.length<=13) (h2:1<=v.2.2.1.length) (hg:a0T v.2.2.1):Pst (c9R v) fun y=>a0g y.2.1 /\ a0T y.2.2.1 /\ y.2.2.1.length<=13:=by
 refine a0W (q:=c3N K34 G34 K77 G77 c1A b8D a9C a9D a7T a7U) (fun v=>a0g v.2.1 /\ v.2.2.1.length<=13 /\ 1<=v.2.2.1.length /\ a0T v.2.2.1)
  (fun _ r=>Pst r fun y=>a0g y.2.1 /\ a0T y.2.2.1 /\ y.2.2.1.length<=13) (fun v=>13-v.2.2.1.length) ?_ _ _ ⟨h,h1,h2,hg⟩ (Nat.lt_of_lt_of_le (m:=1000) (by omega) (Nat.le_add_left _ _))
 clear h h1 h2 hg v
 rintro⟨⟨_,_,_⟩,c,l,_⟩ f ⟨g0,g1,g2,g3⟩ ih
 simp only at g0 g1 g2 g3 ih
 unfold c3N
 dsimp only
 refine a0p (a0C _ (by(repeat ((try dsimp only);first|assumption|(with_reducible first|apply a0b|apply a0h|apply a0d|apply a0c|apply a0f))))) ?_
 have b2:0<=((G34 (((),2,()),c,())).fst.fst:Int) /\ ((G34 (((),2,()),c,())).fst.fst:Int)<2:=a1g 2 c g0 (by decide)
 have c2:a0g (G34 (((),2,()),c,())).snd.fst:=by(repeat ((try dsimp only);first|assumption|(with_reducible first|apply a0b|apply a0h|apply a0d|apply a0c|apply a0f)))
 generalize G34 (((),2,()),c,())=D at *
 have bd:∀z:Int,z=D.fst.fst->IntKind.i64.wrap (12+z)<=13:=fun z e=>by
  have h1:0<=z:=e ▸ b2.1
  have h2:z<2:=e ▸ b2.2
  rw[w64 (by omega) (by omega)]
  omega
 have bd':=bd _ rfl
 by_cases hl:(l.length:Int)<IntKind.i64.wrap (12+D.fst.fst)
 ·refine a0p (by simpa using hl) ?_
  have hl':(l.length:Int)<13:=Int.lt_of_lt_of_le hl bd'
  refine a0p ?_ ?_
  ·have:decide (0<(l.length:Int))=true:=by simp;omega
   rw[this];rfl
  simp only[f8Z,List.length_singleton]
  refine a0p (a0K (by omega)) ?_
  refine ih _ ⟨c2,?_,?_,g3.app ⟨?_,(g3.at 0).2.1,(g3.at 0).2.2⟩⟩ ?_
  ·simp only[List.length_append,List.length_singleton];omega
  ·simp only[List.length_append,List.length_singleton];omega
  ·have hb:∀z:Int,(a8L [z]).size=1:=fun _=>rfl
   simp only[ByteArray.size_append,hb]
   show 1+1<=1000
   decide
  ·simp only[List.length_append,List.length_singleton];omega
 ·have:decide ((l.length:Int)<IntKind.i64.wrap (12+D.fst.fst))=false:=by simpa using hl
  rw[this]
  exact a0v ⟨c2,g3,g1⟩
theorem f7H (v:a9l) (h:a0g v.2.1) (hn:∀s∈v.2.2.1,s.size<=1000) (hn6:v.2.2.1.length=6) (h0:0<=v.1.2.2.2.1) (h1:(v.2.2.2.1.length:Int)+v.1.2.2.2.1<=5) (h2:1<=(v.2.2.2.1.length:Int)+v.1.2.2.2.1) (hg:a0T v.2.2.2.1) :
 b0N v=true /\ a0g (a5r v).2.1 /\ a0T (a5r v).2.2.1 /\ (a5r v).2.2.1.length<=5 /\ 1<=(a5r v).2.2.1.length:=⟨a2C (c4S v h hn hn6 h0 h1 h2 hg),a2T _ (c4S v h hn hn6 h0 h1 h2 hg)⟩
theorem e8Y (v:a4N) (h:a0g v.2.1) (h1:v.2.2.1.length<=13) (h2:1<=v.2.2.1.length) (hg:a0T v.2.2.1):a6G v=true /\ a0g (a4A v).2.1 /\ a0T (a4A v).2.2.1 /\ (a4A v).2.2.1.length<=13:=⟨a2C (c0c v h h1 h2 hg),a2T _ (c0c v h h1 h2 hg)⟩
def p75 (x:I75.den):Bool:=d7r x.2.1
def Q75 (x:I75.den) (y:O75.den):Prop:=a0g y.2.1 /\ a0T y.2.2.1 /\ y.2.2.1.length<=13
theorem e75:Nonempty (Ch I75 O75 p75 Q75):=⟨⟨fun _=>(((),()),(e0q,([],()))),fun _ _=>⟨a6K,(fun _ h=>by cases h),Nat.zero_le _⟩⟩⟩
def c0d:List ByteArray:=(((((List.replicate 6 (zero Ty.str)).set 0 { data:=#[109,97,105,110] }).set 1 { data:=#[106,105,98] }).set 2 { data:=#[103,101,110,111,97] }).set 3 { data:=#[115,116,111,114,109] }).set 4 { data:=#[99,111,100,101] } |>.set 5 { data:=#[107,105,116,101] }
theorem c0e:(∀s∈c0d,s.size<=1000) /\ c0d.length=6:=by
 have h:(c0d.all fun s=>Nat.ble s.size 1000)=true:=rfl
 exact⟨fun s hs=>Nat.le_of_ble_eq_true (List.all_eq_true.1 h s hs),rfl⟩
def c4T (s:ByteArray):List ByteArray:=((((List.replicate 5 (zero Ty.str)).set 0 { data:=#[] }).set 1 { data:=#[74,105,98] }).set 2 { data:=#[97,98,99,100,101,102,103,104,105,106,107,108,109,110,111,112,113] }).set 3 { data:=#[97,98,99,100,101,102,103,104,105,106,107,108,109,110,111,112] } |>.set 4 s
theorem d1Y {s:ByteArray} (h:s.size<=1000):∀t∈c4T s,t.size<=1000:=by
 intro t ht
 have h0:((((List.replicate 5 (zero Ty.str)).set 0 { data:=#[] }).set 1 { data:=#[74,105,98] }).set 2 { data:=#[97,98,99,100,101,102,103,104,105,106,107,108,109,110,111,112,113] } |>.set 3 { data:=#[97,98,99,100,101,102,103,104,105,106,107,108,109,110,111,112] }).all (fun s:ByteArray=>Nat.ble s.size 1000)=true:=rfl
 rcases List.mem_or_eq_of_mem_set ht with h1|h1
 ·exact Nat.le_of_ble_eq_true (List.all_eq_true.1 h0 t h1)
 ·rw[h1];exact h
theorem f7I:a2M Tryz.prog 75 (a3p true I75 O75 p75 Q75 e75):=b7U e6V (N:=N75 p141 Q141 e141) (a2N ⟨d1X,trivial⟩) f8D a1w fun x hx k hk=>by
 have h:a0g x.2.1:=a1s.1 hx
 refine Eq.trans (f4B _ _ _ _ _ _ _ _ _ _ _ _ _ _ _ _ _ k x) ?_
 unfold f8K
 dsimp only
 refine a0H (a0C _ (by(repeat ((try dsimp only);first|assumption|(with_reducible first|apply a0b|apply a0h|apply a0d|apply a0c|apply a0f))))) ?_
 have b5:0<=((G34 (((),5,()),x.snd)).fst.fst:Int) /\ ((G34 (((),5,()),x.snd)).fst.fst:Int)<5:=a1g 5 x.2.1 h (by decide)
 have c5:a0g (G34 (((),5,()),x.snd)).snd.fst:=by(repeat ((try dsimp only);first|assumption|(with_reducible first|apply a0b|apply a0h|apply a0d|apply a0c|apply a0f)))
 generalize G34 (((),5,()),x.snd)=D at *
 have bd:∀z:Int,z=D.fst.fst->1<=IntKind.i64.wrap (1+z) /\ IntKind.i64.wrap (1+z)<=5:=fun z e=>by
  have h1:0<=z:=e ▸ b5.1
  have h2:z<5:=e ▸ b5.2
  rw[w64 (by omega) (by omega)]
  omega
 obtain⟨w1,w2⟩:=bd _ rfl
 obtain⟨k1,cy,gy,ly,ly1⟩:=f7H (((),(),(),IntKind.i64.wrap (1+D.fst.fst),()),D.snd.fst,c0d,[],()) c5 c0e.1 c0e.2 (by show 0<=IntKind.i64.wrap (1+D.fst.fst);omega) (by simpa using w2) (by simpa using w1) (fun _ h=>by cases h)
 refine a0H k1 ?_
 have hz:List.replicate 0 (zero S68)=[]:=rfl
 unfold c0d at cy gy ly ly1
 rw[hz]
 generalize a5r _=y at *
 refine a0H (a0C _ (by(repeat ((try dsimp only);first|assumption|(with_reducible first|apply a0b|apply a0h|apply a0d|apply a0c|apply a0f))))) ?_
 have b12:0<=((G34 (((),(y.2.2.1.length:Int),()),y.snd.fst,())).fst.fst:Int) /\ ((G34 (((),(y.2.2.1.length:Int),()),y.snd.fst,())).fst.fst:Int)<(y.2.2.1.length:Int):=a1g _ y.2.1 cy (by omega)
 have c12:a0g (G34 (((),(y.2.2.1.length:Int),()),y.snd.fst,())).snd.fst:=by(repeat ((try dsimp only);first|assumption|(with_reducible first|apply a0b|apply a0h|apply a0d|apply a0c|apply a0f)))
 generalize G34 (((),(y.2.2.1.length:Int),()),y.snd.fst,())=I at *
 refine a0H (a0C _ (by(repeat ((try dsimp only);first|assumption|(with_reducible first|apply a0b|apply a0h|apply a0d|apply a0c|apply a0f))))) ?_
 have c14:a0g (G34 (((),24,()),I.snd)).snd.fst:=by(repeat ((try dsimp only);first|assumption|(with_reducible first|apply a0b|apply a0h|apply a0d|apply a0c|apply a0f)))
 generalize G34 (((),24,()),I.snd)=M at *
 have hidx:(decide (0<=I.fst.fst)&&decide (I.fst.fst<((y.snd.snd.fst.length:Nat):Int)))=true:=by
  rw[decide_eq_true b12.1,decide_eq_true b12.2];rfl
 have hat:∀i,c2j (List.getD y.snd.snd.fst i (zero S68)):=fun i=>gy.at i
 refine a1Z (fun _=>?_) (fun _=>?_)
 ·refine a0H ?_ ?_
  ·have:decide (0<((y.snd.snd.fst.length:Nat):Int))=true:=by simp;omega
   rw[this];rfl
  obtain⟨nm,hnm⟩:∃nm,nm=c4T (List.getD y.snd.snd.fst (Int.toNat 0) (zero S68)).fst:=⟨_,rfl⟩
  have h5:∀t∈nm,t.size<=1000:=by rw[hnm];exact d1Y (hat _).1
  have h5l:0<nm.length:=by rw[hnm];simp[c4T]
  unfold c4T at hnm
  rw[<- hnm]
  refine a0H (d1U (((),(),()),M.snd.fst,nm,()) c14 h5l) ?_
  obtain⟨c22,m22⟩:=d1V (((),(),()),M.snd.fst,nm,()) c14 h5l
  refine a0H hidx ?_
  exact hk _ ⟨c22,gy.set ⟨h5 _ m22,(hat _).2⟩,by simp only[List.length_set];omega⟩
 refine a1Z (fun _=>?_) (fun _=>?_)
 ·haveI:=e141
  refine a0A fun g=>?_
  have hp:p141 (((),300,()),M.snd)=true:=a1s.2 c14
  refine a0H hp ?_
  refine a0H hidx ?_
  exact hk _ ⟨g.2 _ hp,gy.set (hat _),by simp only[List.length_set];omega⟩
 refine a1Z (fun _=>?_) (fun _=>?_)
 ·haveI:=e141
  refine a0A fun g=>?_
  have hp:p141 (((),300,()),M.snd)=true:=a1s.2 c14
  refine a0H hp ?_
  refine a0H hidx ?_
  exact hk _ ⟨g.2 _ hp,gy.set (hat _),by simp only[List.length_set];omega⟩
 refine a1Z (fun _=>?_) (fun _=>?_)
 ·refine a0H (b6D _ (by(repeat ((try dsimp only);first|assumption|(with_reducible first|apply a0b|apply a0h|apply a0d|apply a0c|apply a0f))))) ?_
  refine a0H hidx ?_
  exact hk _ ⟨by(repeat ((try dsimp only);first|assumption|(with_reducible first|apply a0b|apply a0h|apply a0d|apply a0c|apply a0f))),gy.set ⟨(hat _).1,(hat _).2.1,d1W _⟩,by simp only[List.length_set];omega⟩
 refine a1Z (fun _=>?_) (fun _=>?_)
 ·refine a0H (b6D _ (by(repeat ((try dsimp only);first|assumption|(with_reducible first|apply a0b|apply a0h|apply a0d|apply a0c|apply a0f))))) ?_
  refine a0H hidx ?_
  exact hk _ ⟨by(repeat ((try dsimp only);first|assumption|(with_reducible first|apply a0b|apply a0h|apply a0d|apply a0c|apply a0f))),gy.set ⟨(hat _).1,d1W _,(hat _).2.2⟩,by simp only[List.length_set];omega⟩
 refine a1Z (fun _=>?_) (fun _=>?_)
 ·exact hk _ ⟨c14,(fun _ h=>by cases h),Nat.zero_le _⟩
 refine a1Z (fun _=>?_) (fun _=>?_)
 ·obtain⟨k2,c16,g16,l16⟩:=e8Y (((),(),()),M.snd.fst,y.snd.snd) c14 (by show y.2.2.1.length<=13;omega) ly1 gy
  refine a0H k2 ?_
  exact hk _ ⟨c16,g16,l16⟩
 ·exact hk _ ⟨c14,gy,by show y.2.2.1.length<=13;omega⟩
def p128 (x:a8m.den):Bool:=d7r x.2.1
def Q128 (x:a8m.den) (y:b1C.den):Prop:=a0g y.2.1
theorem e128:Nonempty (Ch a8m b1C p128 Q128):=⟨⟨fun _=>(((0,0),()),(e0q,())),fun _ _=>a6K⟩⟩
theorem e8Z:a2M Tryz.prog 128 (a3p true a8m b1C p128 Q128 e128):=b7U d9r (N:=f8J p141 Q141 e141) (a2N ⟨d1X,trivial⟩) e7c a1w fun x hx k hk=>by
 have hk:∀y:b1C.den,a0g y.2.1->k y=some ():=hk
 have h:a0g x.2.1:=a1s.1 hx
 refine Eq.trans (e7k _ _ _ _ _ _ _ _ _ _ _ k x) ?_
 unfold e7j
 dsimp only
 haveI:=e141
 refine a0H (a2b _ (by(repeat ((try dsimp only);first|assumption|(with_reducible first|apply a0b|apply a0h|apply a0d|apply a0c|apply a0f))))) ?_
 refine a1Z (fun _=>?_) (fun _=>?_)
 ·refine a0H (a8z _ (by(repeat ((try dsimp only);first|assumption|(with_reducible first|apply a0b|apply a0h|apply a0d|apply a0c|apply a0f))))) ?_
  refine a1Z (fun h1=>?_) (fun _=>?_)
  ·refine a0H h1 ?_
   refine a0H (a8z _ (by(repeat ((try dsimp only);first|assumption|(with_reducible first|apply a0b|apply a0h|apply a0d|apply a0c|apply a0f))))) ?_
   refine a1Z (fun h2=>?_) (fun _=>?_)
   ·refine a0H h2 ?_
    exact hk _ (by(repeat ((try dsimp only);first|assumption|(with_reducible first|apply a0b|apply a0h|apply a0d|apply a0c|apply a0f))))
   ·exact a0A fun z=>hk _ (by(repeat ((try dsimp only);first|assumption|(with_reducible first|apply a0b|apply a0h|apply a0d|apply a0c|apply a0f))))
  ·refine a0A fun z=>?_
   refine a0H (a8z _ (by(repeat ((try dsimp only);first|assumption|(with_reducible first|apply a0b|apply a0h|apply a0d|apply a0c|apply a0f))))) ?_
   refine a1Z (fun h2=>?_) (fun _=>?_)
   ·refine a0H h2 ?_
    exact hk _ (by(repeat ((try dsimp only);first|assumption|(with_reducible first|apply a0b|apply a0h|apply a0d|apply a0c|apply a0f))))
   ·exact a0A fun z=>hk _ (by(repeat ((try dsimp only);first|assumption|(with_reducible first|apply a0b|apply a0h|apply a0d|apply a0c|apply a0f))))
 ·refine a0H (a2b _ (by(repeat ((try dsimp only);first|assumption|(with_reducible first|apply a0b|apply a0h|apply a0d|apply a0c|apply a0f))))) ?_
  have c3:a0g (G77 (((),20,()),(G77 (((),30,()),x.snd)).snd)).snd.fst:=by(repeat ((try dsimp only);first|assumption|(with_reducible first|apply a0b|apply a0h|apply a0d|apply a0c|apply a0f)))
  generalize G77 (((),20,()),(G77 (((),30,()),x.snd)).snd)=A at *
  refine a1Z (fun _=>?_) (fun _=>?_)
  ·refine a0H (b0Q _ c3 (by simp)) ?_
   have c9:=a7w (((),(),()),A.snd.fst,((((List.replicate 4 (zero (Ty.int IntKind.i64))).set 0 100).set 1 (-100)).set 2 101).set 3 0,()) c3 (by simp)
   refine a0A fun g=>?_
   have hp:p141 (((),100,()),(c0M (((),(),()),A.snd.fst,((((List.replicate 4 (zero (Ty.int IntKind.i64))).set 0 100).set 1 (-100)).set 2 101).set 3 0,())).snd.fst,())=true:=a1s.2 c9
   refine a0H hp ?_
   exact hk _ (g.2 _ hp)
  ·refine a0A fun g=>?_
   have hp:p141 (((),15,()),A.snd)=true:=a1s.2 c3
   refine a0H hp ?_
   refine a0A fun g2=>?_
   have hp2:p141 (((),15,()),(g.val (((),15,()),A.snd)).snd)=true:=a1s.2 (g.2 _ hp)
   refine a0H hp2 ?_
   exact hk _ (g2.2 _ hp2)
theorem c4U (x:c7E.den) (h:a0g x.2.1):e5l x=true /\ a0g (e5m x).2.1:=by
 unfold e5l e5m f4o f4m
 have k1:=a2b (((),40,()),x.2) h
 have c1:=a0f (((),40,()),x.2) h
 simp only[k1,cond_true]
 generalize G77 (((),40,()),x.2)=g1 at *
 cases g1.1.1
 ·simp only[cond_false]
  have k2:=b0Q (((),(),()),g1.2.1,(((List.replicate 3 (zero (Ty.int IntKind.i64))).set 0 4).set 1 20).set 2 400,()) c1 (by simp)
  have c2:=a7w (((),(),()),g1.2.1,(((List.replicate 3 (zero (Ty.int IntKind.i64))).set 0 4).set 1 20).set 2 400,()) c1 (by simp)
  simp only[k2,cond_true]
  generalize c0M (((),(),()),g1.2.1,(((List.replicate 3 (zero (Ty.int IntKind.i64))).set 0 4).set 1 20).set 2 400,())=g2 at *
  generalize IntKind.i64.wrap (IntKind.i64.wrap (2*g2.1.1)+1)=n
  have k3:=a0C (((),n,()),g2.2.1,()) c2
  have c3:=a0c (((),n,()),g2.2.1,()) c2
  simp only[k3,cond_true]
  have k4:=a0C (((),n,()),(G34 (((),n,()),g2.2.1,())).2) c3
  have c4:=a0c (((),n,()),(G34 (((),n,()),g2.2.1,())).2) c3
  simp only[k4,cond_true,Option.isSome_some,Option.getD_some]
  exact⟨trivial,c4⟩
 ·simp only[cond_true]
  have k2:=b0Q (((),(),()),g1.2.1,((((List.replicate 4 (zero (Ty.int IntKind.i64))).set 0 10000).set 1 (-10000)).set 2 10001).set 3 9223372036854775807,()) c1 (by simp)
  have c2:=a7w (((),(),()),g1.2.1,((((List.replicate 4 (zero (Ty.int IntKind.i64))).set 0 10000).set 1 (-10000)).set 2 10001).set 3 9223372036854775807,()) c1 (by simp)
  simp only[k2,cond_true]
  generalize c0M (((),(),()),g1.2.1,((((List.replicate 4 (zero (Ty.int IntKind.i64))).set 0 10000).set 1 (-10000)).set 2 10001).set 3 9223372036854775807,())=g2 at *
  have k3:=b0Q (((),(),()),g2.2.1,(((List.replicate 3 (zero (Ty.int IntKind.i64))).set 0 10000).set 1 0).set 2 (-10001),()) c2 (by simp)
  have c3:=a7w (((),(),()),g2.2.1,(((List.replicate 3 (zero (Ty.int IntKind.i64))).set 0 10000).set 1 0).set 2 (-10001),()) c2 (by simp)
  simp only[k3,cond_true,Option.isSome_some,Option.getD_some]
  exact⟨trivial,c3⟩
theorem d1Z (x:c7E.den) (h:a0g x.2.1):e5l x=true:=(c4U x h).1
theorem a0Y (x:c7E.den) (h:a0g x.2.1):a0g (e5m x).2.1:=(c4U x h).2
theorem d2a (x:c0O.den) (h:a0g x.2.1):Pst (f0S x) fun y=>a0g y.2.1:=by
 unfold f0S f4q
 dsimp only
 (repeat' (with_reducible first|refine a0v ?_|refine a0p (a0C _ (by(repeat ((try dsimp only);first|assumption|(with_reducible first|apply a0b|apply a0c|apply a0f|apply a0Y))))) ?_|refine a0p (a2b _ (by(repeat ((try dsimp only);first|assumption|(with_reducible first|apply a0b|apply a0c|apply a0f|apply a0Y))))) ?_|refine a0p (d1Z _ (by(repeat ((try dsimp only);first|assumption|(with_reducible first|apply a0b|apply a0c|apply a0f|apply a0Y))))) ?_|refine a1q (fun _=>?_) (fun _=>?_)))<;>(repeat ((try dsimp only);first|assumption|(with_reducible first|apply a0b|apply a0c|apply a0f|apply a0Y)))
theorem e3o (x:c0O.den) (h:a0g x.2.1):d3Z x=true:=a2C (d2a x h)
theorem a1m (x:c0O.den) (h:a0g x.2.1):a0g (d4a x).2.1:=a2T _ (d2a x h)
theorem d2b (x:c0N.den) (h:a0g x.2.1):Pst (f0R x) fun y=>a0g y.2.1:=by
 unfold f0R f4j
 dsimp only
 (repeat' (with_reducible first|refine a0v ?_|refine a0p (a0C _ (by(repeat ((try dsimp only);first|assumption|(with_reducible first|apply a1m|apply a0b|apply a0c|apply a0f|apply a0Y))))) ?_|refine a0p (a2b _ (by(repeat ((try dsimp only);first|assumption|(with_reducible first|apply a1m|apply a0b|apply a0c|apply a0f|apply a0Y))))) ?_|refine a0p (d1Z _ (by(repeat ((try dsimp only);first|assumption|(with_reducible first|apply a1m|apply a0b|apply a0c|apply a0f|apply a0Y))))) ?_|refine a1q (fun _=>?_) (fun _=>?_)))<;>(repeat ((try dsimp only);first|assumption|(with_reducible first|apply a1m|apply a0b|apply a0c|apply a0f|apply a0Y)))
theorem c2k (x:c0N.den) (h:a0g x.2.1):d3X x=true:=a2C (d2b x h)
theorem a1D (x:c0N.den) (h:a0g x.2.1):a0g (c3O x).2.1:=a2T _ (d2b x h)
theorem d7s (v:b4H) (h:a0g v.2.1) (h0:0<=v.1.2.2.2.1) (h1:(v.2.2.2.2.1.length:Int)+v.1.2.2.2.1<=3) (h2:1<=(v.2.2.2.2.1.length:Int)+v.1.2.2.2.1):Pst (e2p v) fun y=>a0g y.2.1 /\ y.2.2.2.2.1.length<=3 /\ 1<=y.2.2.2.2.1.length:=by
 refine a0W (q:=d5V K34 G34 d3X c3O K77 G77 d3Z d4a) (fun v=>a0g v.2.1 /\ 0<=v.1.2.2.2.1 /\ (v.2.2.2.2.1.length:Int)+v.1.2.2.2.1<=3 /\ 1<=(v.2.2.2.2.1.length:Int)+v.1.2.2.2.1) (fun _ r=>Pst r fun y=>a0g y.2.1 /\ y.2.2.2.2.1.length<=3 /\ 1<=y.2.2.2.2.1.length)
  (fun v=>v.1.2.2.2.1.toNat) ?_ _ _ ⟨h,h0,h1,h2⟩ (Nat.lt_of_lt_of_le (m:=1000) (by omega) (Nat.le_add_left _ _))
 clear h h0 h1 h2 v
 rintro⟨⟨_,_,_,k,_⟩,c,b1,b2,l,_⟩ f ⟨g0,g1,g2,g3⟩ ih
 simp only at g0 g1 g2 g3 ih
 unfold d5V
 dsimp only
 by_cases hk:k>0
 ·refine a0p (by simpa using hk) ?_
  refine a0p (c2k _ (by(repeat ((try dsimp only);first|assumption|(with_reducible first|apply a1D|apply a1m|apply a0b|apply a0c|apply a0f|apply a0Y))))) ?_
  refine a0p (a2b _ (by(repeat ((try dsimp only);first|assumption|(with_reducible first|apply a1D|apply a1m|apply a0b|apply a0c|apply a0f|apply a0Y))))) ?_
  refine a0p ?_ ?_
  ·refine a0K ?_
   simp only[List.length_set,List.length_replicate]
   omega
  have e:IntKind.i64.wrap (k-1)=k-1:=w64 (by omega) (by omega)
  refine ih _ ⟨by(repeat ((try dsimp only);first|assumption|(with_reducible first|apply a1D|apply a1m|apply a0b|apply a0c|apply a0f|apply a0Y))),?_,?_,?_⟩ ?_<;>simp only[e,List.length_append,List.length_set,List.length_replicate]<;>omega
 ·have:decide (k>0)=false:=by simpa using hk
  rw[this]
  exact a0v ⟨g0,by show l.length<=3;omega,by show 1<=l.length;omega⟩
theorem c4V (v:a5s) (h:a0g v.2.1) (h1:v.2.2.2.2.1.length<=22):Pst (c9U v) fun y=>a0g y.2.1 /\ y.2.2.2.2.1.length<=22:=by
 refine a0W (q:=c3Q K34 G34 d3X c3O K77 G77 d3Z d4a) (fun v=>a0g v.2.1 /\ v.2.2.2.2.1.length<=22) (fun _ r=>Pst r fun y=>a0g y.2.1 /\ y.2.2.2.2.1.length<=22)
  (fun v=>22-v.2.2.2.2.1.length) ?_ _ _ ⟨h,h1⟩ (Nat.lt_of_lt_of_le (m:=1000) (by omega) (Nat.le_add_left _ _))
 clear h h1 v
 rintro⟨⟨_,_,_,_⟩,c,b1,b2,l,_⟩ f ⟨g0,g2⟩ ih
 simp only at g0 g2 ih
 unfold c3Q
 dsimp only
 refine a0p (a0C _ (by(repeat ((try dsimp only);first|assumption|(with_reducible first|apply a1D|apply a1m|apply a0b|apply a0c|apply a0f|apply a0Y))))) ?_
 have b2':0<=((G34 (((),2,()),c,())).fst.fst:Int) /\ ((G34 (((),2,()),c,())).fst.fst:Int)<2:=a1g 2 c g0 (by decide)
 have c2:a0g (G34 (((),2,()),c,())).snd.fst:=by(repeat ((try dsimp only);first|assumption|(with_reducible first|apply a1D|apply a1m|apply a0b|apply a0c|apply a0f|apply a0Y)))
 generalize G34 (((),2,()),c,())=D at *
 have bd:∀z:Int,z=D.fst.fst->IntKind.i64.wrap (20+z)<=21:=fun z e=>by
  have h1:0<=z:=e ▸ b2'.1
  have h2:z<2:=e ▸ b2'.2
  rw[w64 (by omega) (by omega)]
  omega
 have bd':=bd _ rfl
 by_cases hl:(l.length:Int)<IntKind.i64.wrap (20+D.fst.fst)
 ·refine a0p (by simpa using hl) ?_
  refine a0p ?_ ?_
  ·refine a0K ?_
   simp only[List.length_set,List.length_replicate]
   omega
  have hl':(l.length:Int)<21:=Int.lt_of_lt_of_le hl bd'
  refine ih _ ⟨c2,?_⟩ ?_<;>simp only[List.length_append,List.length_set,List.length_replicate]<;>omega
 ·have:decide ((l.length:Int)<IntKind.i64.wrap (20+D.fst.fst))=false:=by simpa using hl
  rw[this]
  exact a0v ⟨c2,g2⟩
theorem f7J (v:a5s) (h:a0g v.2.1) (h1:v.2.2.2.2.1.length<=22):b0O v=true:=a2C (c4V v h h1)
theorem f7K (v:a5s) (h:a0g v.2.1) (h1:v.2.2.2.2.1.length<=22):a0g (a8l v).2.1 /\ (a8l v).2.2.2.2.1.length<=22:=a2T _ (c4V v h h1)
theorem c0f (x:I76.den) (h:a0g x.2.1):Pst (F76 x) fun y=>a0g y.2.1 /\ y.1.1.2.1.length<=22:=by
 unfold F76 r76
 dsimp only
 refine a0p (a0C _ (by(repeat ((try dsimp only);first|assumption|(with_reducible first|apply a1D|apply a1m|apply a0b|apply a0c|apply a0f|apply a0Y))))) ?_
 refine a0p (a0C _ (by(repeat ((try dsimp only);first|assumption|(with_reducible first|apply a1D|apply a1m|apply a0b|apply a0c|apply a0f|apply a0Y))))) ?_
 have c9:a0g (G34 (((),9,()),x.snd)).snd.fst:=by(repeat ((try dsimp only);first|assumption|(with_reducible first|apply a1D|apply a1m|apply a0b|apply a0c|apply a0f|apply a0Y)))
 have b3:0<=((G34 (((),3,()),(G34 (((),9,()),x.snd)).snd)).fst.fst:Int) /\ ((G34 (((),3,()),(G34 (((),9,()),x.snd)).snd)).fst.fst:Int)<3:=a1g 3 (G34 (((),9,()),x.snd)).2.1 c9 (by decide)
 have c3:a0g (G34 (((),3,()),(G34 (((),9,()),x.snd)).snd)).snd.fst:=by(repeat ((try dsimp only);first|assumption|(with_reducible first|apply a1D|apply a1m|apply a0b|apply a0c|apply a0f|apply a0Y)))
 generalize G34 (((),3,()),(G34 (((),9,()),x.snd)).snd)=D at *
 generalize G34 (((),9,()),x.snd)=B at *
 have bd:∀z:Int,z=D.fst.fst->1<=IntKind.i64.wrap (1+z) /\ IntKind.i64.wrap (1+z)<=3:=fun z e=>by
  have h1:0<=z:=e ▸ b3.1
  have h2:z<3:=e ▸ b3.2
  rw[w64 (by omega) (by omega)]
  omega
 have p:=d7s (((),(),(),IntKind.i64.wrap (1+D.fst.fst),()),D.snd.fst,(0,0,0,0,(),0,0,0,0,()),(0,-20,IntKind.i64.wrap (B.fst.fst-4),20,(),0,0,0,0,()),[],()) c3 (Int.le_trans (by decide) (bd _ rfl).1) (by simpa using(bd _ rfl).2) (by simpa using(bd _ rfl).1)
 refine a0p (a2C p) ?_
 obtain⟨y,ey,hy⟩:=p
 have ex:b2z (((),(),(),IntKind.i64.wrap (1+D.fst.fst),()),D.snd.fst,(0,0,0,0,(),0,0,0,0,()),(0,-20,IntKind.i64.wrap (B.fst.fst-4),20,(),0,0,0,0,()),[],())=y:=by unfold b2z;rw[ey];rfl
 rw[ex]
 obtain⟨cy,ly,ly1⟩:=hy
 refine a0p (c2k _ (by(repeat ((try dsimp only);first|assumption|(with_reducible first|apply a1D|apply a1m|apply a0b|apply a0c|apply a0f|apply a0Y))))) ?_
 refine a0p (c2k _ (by(repeat ((try dsimp only);first|assumption|(with_reducible first|apply a1D|apply a1m|apply a0b|apply a0c|apply a0f|apply a0Y))))) ?_
 refine a0p (a0C _ (by(repeat ((try dsimp only);first|assumption|(with_reducible first|apply a1D|apply a1m|apply a0b|apply a0c|apply a0f|apply a0Y))))) ?_
 have cA:a0g (G34 (((),20,()),(c3O (((),(50,20,()),20,()),(c3O (((),(50,-20,()),20,()),y.snd.fst,())).snd)).snd)).snd.fst:=by(repeat ((try dsimp only);first|assumption|(with_reducible first|apply a1D|apply a1m|apply a0b|apply a0c|apply a0f|apply a0Y)))
 generalize G34 (((),20,()),(c3O (((),(50,20,()),20,()),(c3O (((),(50,-20,()),20,()),y.snd.fst,())).snd)).snd)=A at *
 have l3:y.2.2.2.2.1.length<=22:=by omega
 refine a1q (fun _=>?_) (fun _=>?_)
 ·exact a0v ⟨cA,by simp⟩
 refine a1q (fun _=>?_) (fun _=>?_)
 ·refine a0p ?_ ?_
  ·have:decide (0<((y.snd.snd.snd.snd.fst.length:Nat):Int))=true:=by simp;omega
   rw[this];rfl
  exact a0v ⟨cA,by simp only[List.length_set];exact l3⟩
 refine a1q (fun _=>?_) (fun _=>?_)
 ·refine a0p (e3o _ (by(repeat ((try dsimp only);first|assumption|(with_reducible first|apply a1D|apply a1m|apply a0b|apply a0c|apply a0f|apply a0Y))))) ?_
  exact a0v ⟨by(repeat ((try dsimp only);first|assumption|(with_reducible first|apply a1D|apply a1m|apply a0b|apply a0c|apply a0f|apply a0Y))),l3⟩
 refine a1q (fun _=>?_) (fun _=>?_)
 ·exact a0v ⟨cA,l3⟩
 refine a1q (fun _=>?_) (fun _=>?_)
 ·refine a0p (f7J _ cA l3) ?_
  exact a0v (f7K _ cA l3)
 ·exact a0v ⟨cA,l3⟩
theorem e9a (x:I76.den) (h:a0g x.2.1):K76 x=true:=a2C (c0f x h)
theorem c0g (x:I33.den) (h:a0g x.2.1):Pst (F33 x) fun y=>a0g y.2.1:=by
 unfold F33 r33
 dsimp only
 refine a0p (d1T _ (by(repeat ((try dsimp only);first|assumption|(with_reducible first|apply a0b|apply a0h|apply a0d|apply a0c|apply a0f))))) ?_
 refine a0p (d1T _ (by(repeat ((try dsimp only);first|assumption|(with_reducible first|apply a0b|apply a0h|apply a0d|apply a0c|apply a0f))))) ?_
 exact a0v (by(repeat ((try dsimp only);first|assumption|(with_reducible first|apply a0b|apply a0h|apply a0d|apply a0c|apply a0f))))
theorem e0r (x:I33.den) (h:a0g x.2.1):K33 x=true:=a2C (c0g x h)
theorem a0P (x:I33.den) (h:a0g x.2.1):a0g (G33 x).2.1:=a2T _ (c0g x h)
theorem d7t (x:Den c1G) (h:x.1.length<=1048576):Pst (f0T x) fun _=>True:=by
 have c0:=d0a (x,()) h
 unfold f0T f4v
 dsimp only
 refine a0p (d9v (x,()) h) ?_
 generalize G30 (x,())=A at *
 refine a0p (e0r _ (by(repeat ((try dsimp only);first|assumption|(with_reducible first|apply a0P|apply a0b|apply a0h|apply a0d|apply a0c|apply a0f))))) ?_
 refine a0p (a0C _ (by(repeat ((try dsimp only);first|assumption|(with_reducible first|apply a0P|apply a0b|apply a0h|apply a0d|apply a0c|apply a0f))))) ?_
 refine a1q (fun _=>a0v trivial) (fun _=>?_)
 refine a1q (fun _=>a0v trivial) (fun _=>?_)
 refine a1q (fun _=>?_) (fun _=>a0v trivial)
 refine a0p (a8z _ (by(repeat ((try dsimp only);first|assumption|(with_reducible first|apply a0P|apply a0b|apply a0h|apply a0d|apply a0c|apply a0f))))) ?_
 refine a0p (a8z _ (by(repeat ((try dsimp only);first|assumption|(with_reducible first|apply a0P|apply a0b|apply a0h|apply a0d|apply a0c|apply a0f))))) ?_
 exact a0v trivial
theorem e3p (x:Den c1G) (h:x.1.length<=1048576):d5W x=true:=a2C (d7t x h)
theorem d2c (v:b0K) (h:a0g v.2.1) (h0:0<=v.1.2.2.2.2.2.1):Pst (e2i v) fun y=>a0g y.2.1 /\ y.1.2.2.2.1=v.1.2.2.2.1 /\ y.2.2.2.2.1=v.2.2.2.2.1:=by
 refine a0W (q:=d5P K34 G34 K77 G77) (fun u=>a0g u.2.1 /\ u.1.2.2.2.1=v.1.2.2.2.1 /\ u.2.2.2.2.1=v.2.2.2.2.1 /\ 0<=u.1.2.2.2.2.2.1)
  (fun _ r=>Pst r fun y=>a0g y.2.1 /\ y.1.2.2.2.1=v.1.2.2.2.1 /\ y.2.2.2.2.1=v.2.2.2.2.1) (fun u=>(13-u.1.2.2.2.2.2.1).toNat) ?_ _ _ ⟨h,rfl,rfl,h0⟩ ?_
 ·rintro⟨⟨_,_,_,n,_,i,_⟩,⟨c0,c1,c2,_⟩,_,_,l,st,_⟩ f ⟨g0,g1,g2,g3⟩ ih
  dsimp only at g0 g1 g2 g3 ih
  unfold d5P
  dsimp only
  by_cases hk:i<13
  ·refine a0p (by simpa using hk) ?_
   refine a0p (a0C _ (by(repeat ((try dsimp only);first|assumption|(with_reducible first|apply a0P|apply a0b|apply a0h|apply a0d|apply a0c|apply a0f))))) ?_
   refine a0p (a0C _ (by(repeat ((try dsimp only);first|assumption|(with_reducible first|apply a0P|apply a0b|apply a0h|apply a0d|apply a0c|apply a0f))))) ?_
   refine a0p (by simp;omega) ?_
   have e:IntKind.i64.wrap (i+1)=i+1:=w64 (by omega) (by omega)
   refine ih _ ⟨by(repeat ((try dsimp only);first|assumption|(with_reducible first|apply a0P|apply a0b|apply a0h|apply a0d|apply a0c|apply a0f))),g1,g2,?_⟩ ?_
   ·show 0<=IntKind.i64.wrap (i+1);omega
   ·show(13-IntKind.i64.wrap (i+1)).toNat<(13-i).toNat;omega
  ·have hd:decide (i<13)=false:=by simpa using hk
   rw[hd]
   exact a0v ⟨g0,g1,g2⟩
 ·exact Nat.lt_of_lt_of_le (m:=1000) (by omega) (Nat.le_add_left _ _)
theorem b6E (v:b4B) (h:a0g v.2.1) (h0:0<=v.1.2.2.2.1) (h1:(v.2.2.2.2.1.length:Int)+v.1.2.2.2.1<=3) (h2:1<=(v.2.2.2.2.1.length:Int)+v.1.2.2.2.1):Pst (e2l v) fun y=>a0g y.2.1 /\ 1<=y.2.2.2.2.1.length /\ y.2.2.2.2.1.length<=3:=by
 refine a0W (q:=d5Q K34 G34 K77 G77 a7u a7v) (fun u=>a0g u.2.1 /\ 0<=u.1.2.2.2.1 /\ (u.2.2.2.2.1.length:Int)+u.1.2.2.2.1<=3 /\ 1<=(u.2.2.2.2.1.length:Int)+u.1.2.2.2.1)
  (fun _ r=>Pst r fun y=>a0g y.2.1 /\ 1<=y.2.2.2.2.1.length /\ y.2.2.2.2.1.length<=3) (fun u=>u.1.2.2.2.1.toNat) ?_ _ _ ⟨h,h0,h1,h2⟩ ?_
 ·rintro⟨⟨_,_,_,n,_⟩,⟨c0,c1,c2,_⟩,_,_,l,_⟩ f ⟨g0,g1,g2,g3⟩ ih
  dsimp only at g0 g1 g2 g3 ih
  unfold d5Q
  dsimp only
  by_cases hk:n>0
  ·refine a0p (by simpa using hk) ?_
   refine a0p (a0C _ (by(repeat ((try dsimp only);first|assumption|(with_reducible first|apply a0P|apply a0b|apply a0h|apply a0d|apply a0c|apply a0f))))) ?_
   refine a0p (a0C _ (by(repeat ((try dsimp only);first|assumption|(with_reducible first|apply a0P|apply a0b|apply a0h|apply a0d|apply a0c|apply a0f))))) ?_
   have c5:a0g (G34 (((),8001,()),(G34 (((),8001,()),(c0,c1,c2,()),())).snd)).snd.fst:=by(repeat ((try dsimp only);first|assumption|(with_reducible first|apply a0P|apply a0b|apply a0h|apply a0d|apply a0c|apply a0f)))
   generalize hA:G34 (((),8001,()),(c0,c1,c2,()),())=A at *
   generalize hB:G34 (((),8001,()),A.snd)=B at *
   generalize (FloatKind.nearest FloatKind.f64 (IntKind.wrap IntKind.i64 (A.fst.fst-4000)),FloatKind.nearest FloatKind.f64 (IntKind.wrap IntKind.i64 (B.fst.fst-4000)))=at0
   have hl:=d2c (((),(),(),n,(),0,()),B.snd.fst,((),(),()),((),(),()),l,(at0,(0,0),(0,0),(0,0),(0,0),(0,0),(0,0),(0,0),(0,0),(0,0),(0,0),(0,0),(0,0),(0,0),()),()) c5 (Int.le_refl 0)
   obtain⟨y,hy,q1,q2,q3⟩:=hl
   have e1:a7u (((),(),(),n,(),0,()),B.snd.fst,((),(),()),((),(),()),l,(at0,(0,0),(0,0),(0,0),(0,0),(0,0),(0,0),(0,0),(0,0),(0,0),(0,0),(0,0),(0,0),(0,0),()),())=true:=by unfold a7u;rw[hy];rfl
   have e2:a7v (((),(),(),n,(),0,()),B.snd.fst,((),(),()),((),(),()),l,(at0,(0,0),(0,0),(0,0),(0,0),(0,0),(0,0),(0,0),(0,0),(0,0),(0,0),(0,0),(0,0),(0,0),()),())=y:=by unfold a7v;rw[hy];rfl
   refine a0p e1 ?_
   rw[e2]
   obtain⟨⟨_,_,_,n',_,_⟩,c,_,_,l',st,_⟩:=y
   dsimp only at q1 q2 q3
   subst q2 q3
   dsimp only
   have e:IntKind.i64.wrap (n'-1)=n'-1:=w64 (by omega) (by omega)
   refine a0p (a2b _ (by(repeat ((try dsimp only);first|assumption|(with_reducible first|apply a0P|apply a0b|apply a0h|apply a0d|apply a0c|apply a0f))))) ?_
   refine a1q (fun _=>?_) (fun _=>?_)
   all_goals
    refine a0p (a0K (by simp only[List.length_set,List.length_replicate];omega)) ?_
    refine ih _ ⟨by(repeat ((try dsimp only);first|assumption|(with_reducible first|apply a0P|apply a0b|apply a0h|apply a0d|apply a0c|apply a0f))),?_,?_,?_⟩ ?_
    ·show 0<=IntKind.i64.wrap (n'-1);omega
    ·simp only[e,List.length_append,List.length_set,List.length_replicate];omega
    ·simp only[e,List.length_append,List.length_set,List.length_replicate];omega
    ·show(IntKind.i64.wrap (n'-1)).toNat<n'.toNat;omega
  ·have hd:decide (n>0)=false:=by simpa using hk
   rw[hd]
   exact a0v ⟨g0,by show 1<=l.length;omega,by show l.length<=3;omega⟩
 ·unfold e2k
  have:=h0
  omega
theorem c6W (v:a7t) (h:a0g v.2.1) (h0:0<=v.1.2.2.2.2.1) (h1:(v.2.2.2.2.2.1.length:Int)+v.1.2.2.2.2.1<=5) (h2:1<=(v.2.2.2.2.2.1.length:Int)+v.1.2.2.2.2.1):Pst (c9K v) fun y=>a0g y.2.1 /\ y.2.2.2.2.1=v.2.2.2.2.1 /\ 1<=y.2.2.2.2.2.1.length /\ y.2.2.2.2.2.1.length<=5:=by
 refine a0W (q:=c3L K34 G34 K77 G77) (fun u=>a0g u.2.1 /\ u.2.2.2.2.1=v.2.2.2.2.1 /\ 0<=u.1.2.2.2.2.1 /\ (u.2.2.2.2.2.1.length:Int)+u.1.2.2.2.2.1<=5 /\ 1<=(u.2.2.2.2.2.1.length:Int)+u.1.2.2.2.2.1)
  (fun _ r=>Pst r fun y=>a0g y.2.1 /\ y.2.2.2.2.1=v.2.2.2.2.1 /\ 1<=y.2.2.2.2.2.1.length /\ y.2.2.2.2.2.1.length<=5) (fun u=>u.1.2.2.2.2.1.toNat) ?_ _ _ ⟨h,rfl,h0,h1,h2⟩ ?_
 ·rintro⟨⟨_,_,_,t,n,_⟩,⟨c0,c1,c2,_⟩,_,_,l,hs,_⟩ f ⟨g0,g1,g2,g3,g4⟩ ih
  dsimp only at g0 g1 g2 g3 g4 ih
  unfold c3L
  dsimp only
  by_cases hk:n>0
  ·refine a0p (by simpa using hk) ?_
   refine a0p (a0K (by simp only[List.length_set,List.length_replicate];omega)) ?_
   refine a0p (a0C _ (by(repeat ((try dsimp only);first|assumption|(with_reducible first|apply a0P|apply a0b|apply a0h|apply a0d|apply a0c|apply a0f))))) ?_
   refine a0p (a0C _ (by(repeat ((try dsimp only);first|assumption|(with_reducible first|apply a0P|apply a0b|apply a0h|apply a0d|apply a0c|apply a0f))))) ?_
   have e:IntKind.i64.wrap (n-1)=n-1:=w64 (by omega) (by omega)
   refine ih _ ⟨by(repeat ((try dsimp only);first|assumption|(with_reducible first|apply a0P|apply a0b|apply a0h|apply a0d|apply a0c|apply a0f))),g1,?_,?_,?_⟩ ?_
   ·show 0<=IntKind.i64.wrap (n-1);omega
   ·simp only[e,List.length_append,List.length_set,List.length_replicate];omega
   ·simp only[e,List.length_append,List.length_set,List.length_replicate];omega
   ·show(IntKind.i64.wrap (n-1)).toNat<n.toNat;omega
  ·have hd:decide (n>0)=false:=by simpa using hk
   rw[hd]
   exact a0v ⟨g0,g1,by show 1<=hs.length;omega,by show hs.length<=5;omega⟩
 ·unfold c9J
  have:=h0
  omega
theorem c4W (d n:Int) (hd:0<=d /\ d<n) (hn:n<=100):1<=IntKind.i64.wrap (1+d) /\ IntKind.i64.wrap (1+d)<=n:=by
 rw[w64 (by omega) (by omega)]
 omega
theorem d2d (x:I74.den) (h:a0g x.2.1):Pst (F74 x) fun y=>a0g y.2.1 /\ (1<=y.2.2.1.length /\ y.2.2.1.length<=3) /\ 1<=y.2.2.2.1.length /\ y.2.2.2.1.length<=5:=by
 unfold F74 r74
 dsimp only
 refine a0p (a0C _ (by(repeat ((try dsimp only);first|assumption|(with_reducible first|apply a0P|apply a0b|apply a0h|apply a0d|apply a0c|apply a0f))))) ?_
 have b1:=c4W _ 3 (a1g 3 x.2.1 h (by decide)) (by decide)
 have c1:a0g (G34 (((),3,()),x.snd)).snd.fst:=by(repeat ((try dsimp only);first|assumption|(with_reducible first|apply a0P|apply a0b|apply a0h|apply a0d|apply a0c|apply a0f)))
 have b1:1<=IntKind.i64.wrap (1+(G34 (((),3,()),x.snd)).fst.fst) /\ IntKind.i64.wrap (1+(G34 (((),3,()),x.snd)).fst.fst)<=3:=b1
 generalize G34 (((),3,()),x.snd)=A at *
 generalize IntKind.i64.wrap (1+A.fst.fst)=n at *
 obtain⟨y,hy,q1,q2,q3⟩:=b6E (((),(),(),n,()),A.snd.fst,((),(),()),((),(),()),[],()) c1 (by show 0<=n;omega) (by show(0:Int)+n<=3;omega) (by show 1<=(0:Int)+n;omega)
 have e1:b0L (((),(),(),n,()),A.snd.fst,((),(),()),((),(),()),[],())=true:=by unfold b0L;rw[hy];rfl
 have e2:b0M (((),(),(),n,()),A.snd.fst,((),(),()),((),(),()),[],())=y:=by unfold b0M;rw[hy];rfl
 refine a0p e1 ?_
 rw[e2]
 obtain⟨_,c,_,_,l,_⟩:=y
 dsimp only at q1 q2 q3 ⊢
 refine a0p (a0C _ (by(repeat ((try dsimp only);first|assumption|(with_reducible first|apply a0P|apply a0b|apply a0h|apply a0d|apply a0c|apply a0f))))) ?_
 have c2:a0g (G34 (((),30000,()),c,())).snd.fst:=by(repeat ((try dsimp only);first|assumption|(with_reducible first|apply a0P|apply a0b|apply a0h|apply a0d|apply a0c|apply a0f)))
 generalize G34 (((),30000,()),c,())=B at *
 refine a0p (a0C _ (by(repeat ((try dsimp only);first|assumption|(with_reducible first|apply a0P|apply a0b|apply a0h|apply a0d|apply a0c|apply a0f))))) ?_
 have b2:=c4W _ 5 (a1g 5 B.2.1 c2 (by decide)) (by decide)
 have c3:a0g (G34 (((),5,()),B.snd)).snd.fst:=by(repeat ((try dsimp only);first|assumption|(with_reducible first|apply a0P|apply a0b|apply a0h|apply a0d|apply a0c|apply a0f)))
 have b2:1<=IntKind.i64.wrap (1+(G34 (((),5,()),B.snd)).fst.fst) /\ IntKind.i64.wrap (1+(G34 (((),5,()),B.snd)).fst.fst)<=5:=b2
 generalize G34 (((),5,()),B.snd)=C at *
 generalize IntKind.i64.wrap (1+C.fst.fst)=m at *
 obtain⟨y,hy,r1,r2,r3,r4⟩:=c6W (((),(),(),B.fst.fst,m,()),C.snd.fst,((),(),()),((),(),()),l,[],()) c3 (by show 0<=m;omega) (by show(0:Int)+m<=5;omega) (by show 1<=(0:Int)+m;omega)
 have e3:a6E (((),(),(),B.fst.fst,m,()),C.snd.fst,((),(),()),((),(),()),l,[],())=true:=by unfold a6E;rw[hy];rfl
 have e4:a6F (((),(),(),B.fst.fst,m,()),C.snd.fst,((),(),()),((),(),()),l,[],())=y:=by unfold a6F;rw[hy];rfl
 refine a0p e3 ?_
 rw[e4]
 obtain⟨_,c',_,_,l',hs,_⟩:=y
 dsimp only at r1 r2 r3 r4 ⊢
 subst r2
 exact a0v ⟨r1,⟨q2,q3⟩,r3,r4⟩
theorem e0s (x:I74.den) (h:a0g x.2.1):K74 x=true:=a2C (d2d x h)
theorem e0t (x:I74.den) (h:a0g x.2.1):a0g (G74 x).2.1 /\ (1<=(G74 x).2.2.1.length /\ (G74 x).2.2.1.length<=3) /\ 1<=(G74 x).2.2.2.1.length /\ (G74 x).2.2.2.1.length<=5:=a2T _ (d2d x h)
theorem e9b (d:Int) (h:0<=d /\ d<2):IntKind.i64.wrap (20+d)<=21:=by
 rw[w64 (by omega) (by omega)]
 omega
theorem c2l (v:a5t) (h:a0g v.2.1) (h1:1<=v.2.2.2.2.1.length) (h2:v.2.2.2.2.1.length<=21):Pst (c9X v) fun y=>a0g y.2.1 /\ y.2.2.2.2.1.length<=21 /\ y.2.2.2.2.2.1=v.2.2.2.2.2.1:=by
 refine a0W (q:=c3S K74 G74 K34 G34 K82 G82 d5W d9o d9p d9q a7T a7U) (fun u=>a0g u.2.1 /\ 1<=u.2.2.2.2.1.length /\ u.2.2.2.2.1.length<=21 /\ u.2.2.2.2.2.1=v.2.2.2.2.2.1)
  (fun _ r=>Pst r fun y=>a0g y.2.1 /\ y.2.2.2.2.1.length<=21 /\ y.2.2.2.2.2.1=v.2.2.2.2.2.1) (fun u=>21-u.2.2.2.2.1.length) ?_ _ _ ⟨h,h1,h2,rfl⟩ ?_
 ·rintro⟨_,⟨c0,c1,c2,_⟩,_,_,l,hs,_⟩ f ⟨g0,g1,g2,g3⟩ ih
  dsimp only at g0 g1 g2 g3 ih
  unfold c3S
  dsimp only
  refine a0p (a0C _ (by(repeat ((try dsimp only);first|assumption|(with_reducible first|apply a0P|apply a0b|apply a0h|apply a0d|apply a0c|apply a0f))))) ?_
  have b2:=a1g 2 (c0,c1,c2,()) g0 (by decide)
  have e:IntKind.i64.wrap (20+(G34 (((),2,()),(c0,c1,c2,()),())).fst.fst)<=21:=e9b _ b2
  refine a1q (fun hb=>?_) (fun _=>a0v ⟨by(repeat ((try dsimp only);first|assumption|(with_reducible first|apply a0P|apply a0b|apply a0h|apply a0d|apply a0c|apply a0f))),g2,g3⟩)
  have hb:(l.length:Int)<IntKind.i64.wrap (20+(G34 (((),2,()),(c0,c1,c2,()),())).fst.fst):=by simpa using hb
  refine a0p (by simp;omega) ?_
  refine a0p (a0K (by simp only[List.length_set,List.length_replicate];omega)) ?_
  refine ih _ ⟨by(repeat ((try dsimp only);first|assumption|(with_reducible first|apply a0P|apply a0b|apply a0h|apply a0d|apply a0c|apply a0f))),?_,?_,g3⟩ ?_<;>simp only[List.length_append,List.length_set,List.length_replicate]<;>omega
 ·unfold c9W
  omega
def p79 (x:I79.den):Bool:=d7r x.2.1
def a7C (t:Den S30):Prop:=t.1.length<=21 /\ t.2.1.length<=6
def Q79 (x:I79.den) (y:O79.den):Prop:=a0g y.2.1 /\ a7C y.1.1
theorem e79:Nonempty (Ch I79 O79 p79 Q79):=⟨⟨fun _=>((([],[],()),()),(e0q,())),fun _ _=>⟨a6K,by show 0<=21;decide,by show 0<=6;decide⟩⟩⟩
theorem f7L:a2M Tryz.prog 79 (a3p true I79 O79 p79 Q79 e79):=b7U e7f (N:=N79 p128 Q128 e128) (a2N ⟨e8Z,trivial⟩) f8G a1w fun x hx k hk=>by
 have hk:∀y:O79.den,a0g y.2.1->y.1.1.1.length<=21->y.1.1.2.1.length<=6->k y=some ():=fun y h1 h2 h3=>hk y ⟨h1,h2,h3⟩
 have h:a0g x.2.1:=a1s.1 hx
 refine Eq.trans (f4C _ _ _ _ _ _ _ _ _ _ _ _ _ _ _ _ _ k x) ?_
 unfold f8L
 dsimp only
 haveI:=e128
 have t0:=e0t (((),()),x.snd) h
 refine a0H (e0s _ h) ?_
 generalize G74 (((),()),x.snd)=T at *
 obtain⟨_,c,l,hs,_⟩:=T
 dsimp only at t0 ⊢
 obtain⟨t1,⟨t2,t3⟩,t4,t5⟩:=t0
 refine a0H (a0C _ (by(repeat ((try dsimp only);first|assumption|(with_reducible first|apply a0P|apply a0b|apply a0h|apply a0d|apply a0c|apply a0f))))) ?_
 have b1:=a1g (l.length:Int) c t1 (by omega)
 have c1:a0g (G34 (((),(l.length:Int),()),c,())).snd.fst:=by(repeat ((try dsimp only);first|assumption|(with_reducible first|apply a0P|apply a0b|apply a0h|apply a0d|apply a0c|apply a0f)))
 generalize G34 (((),(l.length:Int),()),c,())=A at *
 obtain⟨⟨i,_⟩,cA,_⟩:=A
 dsimp only at b1 c1 ⊢
 refine a0H (a0C _ (by(repeat ((try dsimp only);first|assumption|(with_reducible first|apply a0P|apply a0b|apply a0h|apply a0d|apply a0c|apply a0f))))) ?_
 have c2:a0g (G34 (((),24,()),cA,())).snd.fst:=by(repeat ((try dsimp only);first|assumption|(with_reducible first|apply a0P|apply a0b|apply a0h|apply a0d|apply a0c|apply a0f)))
 generalize G34 (((),24,()),cA,())=B at *
 have din:(decide (0<=i)&&decide (i<(l.length:Int)))=true:=by simp only[Bool.and_eq_true,decide_eq_true_eq];exact b1
 refine a1Z (fun _=>?_) (fun _=>?_)
 ·refine a0H (b8H _ c2) ?_
  have c3:=e2s (((),()),B.snd) c2
  generalize G82 (((),()),B.snd)=C at *
  refine a0H (e3p _ (by simp)) ?_
  refine a0H din ?_
  exact hk _ c3 (by simp only[List.length_set];omega) (by show hs.length<=6;omega)
 refine a1Z (fun _=>?_) (fun _=>?_)
 ·refine a0A fun g=>?_
  refine a0H (a0C _ (by(repeat ((try dsimp only);first|assumption|(with_reducible first|apply a0P|apply a0b|apply a0h|apply a0d|apply a0c|apply a0f))))) ?_
  have b4:=a1g 13 B.2.1 c2 (by decide)
  have b4:0<=(G34 (((),13,()),B.snd)).fst.fst /\ (G34 (((),13,()),B.snd)).fst.fst<13:=b4
  have c4:a0g (G34 (((),13,()),B.snd)).snd.fst:=by(repeat ((try dsimp only);first|assumption|(with_reducible first|apply a0P|apply a0b|apply a0h|apply a0d|apply a0c|apply a0f)))
  generalize G34 (((),13,()),B.snd)=D at *
  have hp:p128 (((),()),D.snd)=true:=a1s.2 c4
  have q1:a0g (g.val (((),()),D.snd)).2.1:=g.2 _ hp
  refine a0H hp ?_
  generalize g.val (((),()),D.snd)=C at *
  refine a0H din ?_
  refine a0H (by simp only[Bool.and_eq_true,decide_eq_true_eq];exact b4) ?_
  exact hk _ q1 (by simp only[List.length_set];omega) (by show hs.length<=6;omega)
 refine a1Z (fun _=>?_) (fun _=>?_)
 ·refine a0H (a0C _ (by(repeat ((try dsimp only);first|assumption|(with_reducible first|apply a0P|apply a0b|apply a0h|apply a0d|apply a0c|apply a0f))))) ?_
  have b5:=a1g (hs.length:Int) B.2.1 c2 (by omega)
  have b5:0<=(G34 (((),(hs.length:Int),()),B.snd)).fst.fst /\ (G34 (((),(hs.length:Int),()),B.snd)).fst.fst<(hs.length:Int):=b5
  have c5:a0g (G34 (((),(hs.length:Int),()),B.snd)).snd.fst:=by(repeat ((try dsimp only);first|assumption|(with_reducible first|apply a0P|apply a0b|apply a0h|apply a0d|apply a0c|apply a0f)))
  generalize G34 (((),(hs.length:Int),()),B.snd)=D at *
  refine a0H (b6D _ (by(repeat ((try dsimp only);first|assumption|(with_reducible first|apply a0P|apply a0b|apply a0h|apply a0d|apply a0c|apply a0f))))) ?_
  refine a0H (by simp only[Bool.and_eq_true,decide_eq_true_eq];exact b5) ?_
  exact hk _ (by(repeat ((try dsimp only);first|assumption|(with_reducible first|apply a0P|apply a0b|apply a0h|apply a0d|apply a0c|apply a0f)))) (by show l.length<=21;omega) (by simp only[List.length_set];omega)
 refine a1Z (fun _=>hk _ c2 (by show l.length<=21;omega) (by show 0<=6;decide)) (fun _=>?_)
 refine a1Z (fun _=>hk _ c2 (by show 0<=21;decide) (by show hs.length<=6;omega)) (fun _=>?_)
 refine a1Z (fun _=>?_) (fun _=>?_)
 ·obtain⟨y,hy,r1,r2,r3⟩:=c2l (((),(),(),()),B.snd.fst,((),(),()),((),(),()),l,hs,()) c2 t2 (by show l.length<=21;omega)
  have e3:a6H (((),(),(),()),B.snd.fst,((),(),()),((),(),()),l,hs,())=true:=by unfold a6H;rw[hy];rfl
  have e4:a6I (((),(),(),()),B.snd.fst,((),(),()),((),(),()),l,hs,())=y:=by unfold a6I;rw[hy];rfl
  refine a0H e3 ?_
  rw[e4]
  obtain⟨_,c',_,_,l',hs',_⟩:=y
  dsimp only at r1 r2 r3 ⊢
  subst r3
  exact hk _ r1 r2 (by show hs'.length<=6;omega)
 refine a1Z (fun _=>?_) (fun _=>hk _ c2 (by show l.length<=21;omega) (by show hs.length<=6;omega))
 have e5:IntKind.i64.wrap ((hs.length:Int)-1)=(hs.length:Int)-1:=w64 (by omega) (by omega)
 rw[e5]
 refine a0H (by simp only[Bool.and_eq_true,decide_eq_true_eq];omega) ?_
 refine a0H (a0K (by simp only[List.length_set,List.length_replicate];omega)) ?_
 exact hk _ c2 (by show l.length<=21;omega) (by simp only[List.length_append,List.length_set,List.length_replicate];omega)
def f7M:List (Nat×TI):=[
 (1,⟨1,8,false,.nil,[.pois],[],0,.other⟩),
 (2,⟨1,8,false,.int .i64,[.int .i64 0],[],0,.int .i64⟩),
 (3,⟨1,8,false,.int .i64,[.int .i64 0],[],0,.int .i64⟩),
 (4,⟨1,1,false,.bool,[.bool false],[],0,.bool⟩),
 (5,⟨1,1,false,.int .u8,[.int .u8 0],[],0,.int .u8⟩),
 (9,⟨1,16,false,.str,[.str ByteArray.empty],[],0,.string⟩),
 (10,⟨1,16,false,.str,[.str ByteArray.empty],[],0,.string⟩),
 (22,⟨1,24,false,.slice (.int .u8),[.nil (.int .u8)],[],5,.slice⟩),
 (24,⟨1,24,false,.slice .jnk,[.nil (.flt .f32)],[],62,.slice⟩),
 (25,⟨1,24,false,.slice (.int .i64),[.nil (.int .i64)],[],3,.slice⟩),
 (26,⟨1,24,false,.slice (.slice .jnk),[.nil (.slice .jnk)],[],24,.slice⟩),
 (28,⟨3,72,true,S27,[.nil (.flt .f32),.nil (.int .i64),.nil (.slice .jnk)],[(0,1,false),(1,1,false),(2,1,false)],0,.struct⟩),
 (50,⟨1,24,false,.slice (.bool),[.nil (.bool)],[],4,.slice⟩),
 (62,⟨1,4,false,.flt .f32,[.flt .f32 0],[],0,.float .f32⟩),
 (104,⟨1,8,false,.int .u64,[.int .u64 0],[],0,.int .u64⟩),
 (109,⟨1,8,false,.flt .f64,[.flt .f64 0],[],0,.float .f64⟩),
 (122,⟨3,40,true,a2O,[.nil (.int .u8),.int .i64 0,.int .i64 0],[(0,1,false),(1,1,false),(2,1,false)],0,.struct⟩),
 (142,⟨1,8,false,.nil,[.pois],[],0,.other⟩),
 (208,⟨1,8,false,.nil,[.pois],[],0,.other⟩),
 (240,⟨1,8,false,.nil,[.pois],[],0,.other⟩)]
theorem d2e:f0e Tryz.prog f7M=true:=by kernel_rfl
abbrev a6b:Sg:=⟨[.ptr 0],[.box (a2O)]⟩
abbrev b1i:Sg:=⟨[.mix [.ref (.flt .f32) 1,.ref (.int .i64) 2,.ref (.slice (.jnk)) 3]],[.box (a2O),.arr (.flt .f32),.arr (.int .i64),.arr (.slice (.jnk))]⟩
abbrev a4B:Type:=((Unit×(Unit×(Unit×(Int×Unit))))×(((List (Den (.int .u8)))×(Int×(Int×Unit)))×((Unit×(Unit×(Unit×Unit)))×((Unit×(Unit×(Unit×Unit)))×((List (Den (.int .i64)))×Unit)))))
def a9I:ShS:=⟨[(0,.one (.ptr 0 0)),(2,.one (.ptr 1 0)),(3,.one (.ptr 2 0)),(5,.one (.int .i64))],[(0,.box [.sl (.int .u8),.int .i64,.int .i64]),(1,.box [.nil (.flt .f32),.nil (.int .i64),.nil (.slice (.jnk))]),(2,.box [.nil (.flt .f32),.ref (.int .i64) 3,.nil (.slice (.jnk))]),(3,.arr (.int .i64))],4,1⟩
abbrev b1j:Type:=((Unit×(Unit×(Unit×Unit)))×(((List (Den (.int .u8)))×(Int×(Int×Unit)))×((Unit×(Unit×(Unit×Unit)))×((Unit×(Unit×(Unit×Unit)))×((List (Den (.int .i64)))×Unit)))))
def b1k:ShS:=⟨[(0,.one (.ptr 0 0)),(2,.one (.ptr 1 0)),(3,.one (.ptr 2 0))],[(0,.box [.sl (.int .u8),.int .i64,.int .i64]),(1,.box [.nil (.flt .f32),.nil (.int .i64),.nil (.slice (.jnk))]),(2,.box [.nil (.flt .f32),.ref (.int .i64) 3,.nil (.slice (.jnk))]),(3,.arr (.int .i64))],4,1⟩
abbrev a3d:Type:=((Unit×(Unit×(Unit×(Nat×(Int×Unit)))))×(((List (Den (.int .u8)))×(Int×(Int×Unit)))×((Unit×(Unit×(Unit×Unit)))×((Unit×(Unit×(Unit×Unit)))×((List (Den (.flt .f32)))×((List (Den (.int .i64)))×((List (Den (.slice (.jnk))))×Unit)))))))
def a7D:ShS:=⟨[(0,.one (.ptr 0 0)),(2,.one (.ptr 1 0)),(3,.one (.ptr 2 0)),(6,.one (.flt .f32)),(7,.one (.int .i64))],[(0,.box [.sl (.int .u8),.int .i64,.int .i64]),(1,.box [.nil (.flt .f32),.nil (.int .i64),.nil (.slice (.jnk))]),(2,.box [.ref (.flt .f32) 3,.ref (.int .i64) 4,.ref (.slice (.jnk)) 5]),(3,.arr (.flt .f32)),(4,.arr (.int .i64)),(5,.arr (.slice (.jnk)))],6,1⟩
abbrev a7E:Type:=((Unit×(Unit×Unit))×(((List (Den (.int .u8)))×(Int×(Int×Unit)))×((Unit×(Unit×(Unit×Unit)))×((Unit×(Unit×(Unit×Unit)))×((List (Den (.flt .f32)))×((List (Den (.int .i64)))×((List (Den (.slice (.jnk))))×Unit)))))))
def a8A:ShS:=⟨[(2,.one (.ptr 1 0)),(3,.one (.ptr 2 0))],[(0,.box [.sl (.int .u8),.int .i64,.int .i64]),(1,.box [.nil (.flt .f32),.nil (.int .i64),.nil (.slice (.jnk))]),(2,.box [.ref (.flt .f32) 3,.ref (.int .i64) 4,.ref (.slice (.jnk)) 5]),(3,.arr (.flt .f32)),(4,.arr (.int .i64)),(5,.arr (.slice (.jnk)))],6,1⟩
abbrev a2t:Type:=((Unit×(Unit×(Unit×(Nat×(Int×(Unit×(Int×Unit)))))))×(((List (Den (.int .u8)))×(Int×(Int×Unit)))×((Unit×(Unit×(Unit×Unit)))×((Unit×(Unit×(Unit×Unit)))×((List (Den (.flt .f32)))×((List (Den (.int .i64)))×((List (Den (.slice (.jnk))))×((List (Den (.flt .f32)))×Unit))))))))
def a7F:ShS:=⟨[(0,.one (.ptr 0 0)),(2,.one (.ptr 1 0)),(3,.one (.ptr 2 0)),(6,.one (.flt .f32)),(7,.one (.int .i64)),(8,.one (.ref (.flt .f32) 6)),(9,.one (.int .i64))],[(0,.box [.sl (.int .u8),.int .i64,.int .i64]),(1,.box [.nil (.flt .f32),.nil (.int .i64),.nil (.slice (.jnk))]),(2,.box [.ref (.flt .f32) 3,.ref (.int .i64) 4,.ref (.slice (.jnk)) 5]),(3,.arr (.flt .f32)),(4,.arr (.int .i64)),(5,.arr (.slice (.jnk))),(6,.arr (.flt .f32))],7,1⟩
abbrev a5N:Type:=((Unit×(Unit×(Unit×(Nat×(Int×((List (Den (.jnk)))×Unit))))))×(((List (Den (.int .u8)))×(Int×(Int×Unit)))×((Unit×(Unit×(Unit×Unit)))×((Unit×(Unit×(Unit×Unit)))×((List (Den (.flt .f32)))×((List (Den (.int .i64)))×((List (Den (.slice (.jnk))))×Unit)))))))
def a8B:ShS:=⟨[(0,.one (.ptr 0 0)),(2,.one (.ptr 1 0)),(3,.one (.ptr 2 0)),(6,.one (.flt .f32)),(7,.one (.int .i64)),(8,.one (.sl (.jnk)))],[(0,.box [.sl (.int .u8),.int .i64,.int .i64]),(1,.box [.nil (.flt .f32),.nil (.int .i64),.nil (.slice (.jnk))]),(2,.box [.ref (.flt .f32) 3,.ref (.int .i64) 4,.ref (.slice (.jnk)) 5]),(3,.arr (.flt .f32)),(4,.arr (.int .i64)),(5,.arr (.slice (.jnk)))],6,1⟩
noncomputable def c4X (k34 g34 k77 g77 kl6 xl6 kl12 xl12 kl17 xl17) :=a0t f7M eqs [(34,a0n true I34 O34 k34 g34),(77,a0n true I77 O77 k77 g77)] 110 [.cell 2 28] [] [] [(6,a1X [0,2,3,5] [] 0 [0,2,3] [] a9I b1k kl6 xl6),(12,a1X [0,2,3,6,7] [.boxNil 3 0,.boxNil 3 2] 2 [2,3] [] a7D a8A kl12 xl12),(17,a1X [0,2,3,6,7,8,9] [] 4 [0,2,3,6,7,8] [.jnk 8] a7F a8B kl17 xl17)] [] []
noncomputable def c4Y:Code:=(a0u (a0e Tryz.f73)).getD 0 .skip
noncomputable def c0h:Code:=(a0u (a0e Tryz.f73)).getD 1 .skip
noncomputable def c0i:Code:=(a0u (a0e Tryz.f73)).getD 2 .skip
def a9J (k34:KI I34) (g34:GI I34 O34) (k77:KI I77) (g77:GI I77 O77) (f:a2t->Option (a5N)) (v:a2t):Option (a5N):=
 bif (decide (v.1.2.2.2.2.2.2.1<(↑(List.length v.2.2.2.2.2.1):Int)))then
 bif (k34 (((),57,()),v.2.1,()))then
 bif (v.1.2.2.2.2.2.2.1==0)then
 let v1:=(g34 (((),57,()),v.2.1,()))
 bif (k77 (((),8,()),v1.2))then
 let v3:=(g77 (((),8,()),v1.2))
 bif (!v3.1.1)then
 bif (fgt .f32 v.1.2.2.2.1 1084227584)then
 bif (k34 (((),40,()),v3.2))then
 let v5:=(g34 (((),40,()),v3.2))
 let v8:=(List.set (List.replicate 1 (zero (Ty.flt .f32))) 0 (a0i .add .f32 0 (a0i .quo .f32 (FloatKind.nearest .f32 v5.1.1) 1098907648)))
 bif (a0F (List.length v.2.2.2.2.2.2.2.1+List.length v8))then
 f ((((),(),(),v.1.2.2.2.1,v.1.2.2.2.2.1,(),(IntKind.wrap .i64 (v.1.2.2.2.2.2.2.1+1)),()),v5.2.1,((),(),(),()),((),(),(),()),v.2.2.2.2.1,v.2.2.2.2.2.1,v.2.2.2.2.2.2.1,(v.2.2.2.2.2.2.2.1++v8),()))
 else
 none
 else
 none
 else
 let v4:=(List.set (List.replicate 1 (zero (Ty.flt .f32))) 0 0)
 bif (a0F (List.length v.2.2.2.2.2.2.2.1+List.length v4))then
 f ((((),(),(),v.1.2.2.2.1,v.1.2.2.2.2.1,(),(IntKind.wrap .i64 (v.1.2.2.2.2.2.2.1+1)),()),v3.2.1,((),(),(),()),((),(),(),()),v.2.2.2.2.1,v.2.2.2.2.2.1,v.2.2.2.2.2.2.1,(v.2.2.2.2.2.2.2.1++v4),()))
 else
 none
 else
 bif (fgt .f32 v.1.2.2.2.1 1084227584)then
 bif (k34 (((),40,()),v3.2))then
 let v7:=(g34 (((),40,()),v3.2))
 let v10:=(List.set (List.replicate 1 (zero (Ty.flt .f32))) 0 (a0i .add .f32 (a0i .quo .f32 (FloatKind.nearest .f32 (IntKind.wrap .i64 (8+v1.1.1))) 1098907648) (a0i .quo .f32 (FloatKind.nearest .f32 v7.1.1) 1098907648)))
 bif (a0F (List.length v.2.2.2.2.2.2.2.1+List.length v10))then
 f ((((),(),(),v.1.2.2.2.1,v.1.2.2.2.2.1,(),(IntKind.wrap .i64 (v.1.2.2.2.2.2.2.1+1)),()),v7.2.1,((),(),(),()),((),(),(),()),v.2.2.2.2.1,v.2.2.2.2.2.1,v.2.2.2.2.2.2.1,(v.2.2.2.2.2.2.2.1++v10),()))
 else
 none
 else
 none
 else
 let v6:=(List.set (List.replicate 1 (zero (Ty.flt .f32))) 0 (a0i .quo .f32 (FloatKind.nearest .f32 (IntKind.wrap .i64 (8+v1.1.1))) 1098907648))
 bif (a0F (List.length v.2.2.2.2.2.2.2.1+List.length v6))then
 f ((((),(),(),v.1.2.2.2.1,v.1.2.2.2.2.1,(),(IntKind.wrap .i64 (v.1.2.2.2.2.2.2.1+1)),()),v3.2.1,((),(),(),()),((),(),(),()),v.2.2.2.2.1,v.2.2.2.2.2.1,v.2.2.2.2.2.2.1,(v.2.2.2.2.2.2.2.1++v6),()))
 else
 none
 else
 none
 else
 bif (fgt .f32 v.1.2.2.2.1 1084227584)then
 let v1:=(g34 (((),57,()),v.2.1,()))
 bif (k34 (((),40,()),v1.2))then
 let v5:=(g34 (((),40,()),v1.2))
 let v8:=(List.set (List.replicate 1 (zero (Ty.flt .f32))) 0 (a0i .add .f32 (a0i .quo .f32 (FloatKind.nearest .f32 (IntKind.wrap .i64 (8+v1.1.1))) 1098907648) (a0i .quo .f32 (FloatKind.nearest .f32 v5.1.1) 1098907648)))
 bif (a0F (List.length v.2.2.2.2.2.2.2.1+List.length v8))then
 f ((((),(),(),v.1.2.2.2.1,v.1.2.2.2.2.1,(),(IntKind.wrap .i64 (v.1.2.2.2.2.2.2.1+1)),()),v5.2.1,((),(),(),()),((),(),(),()),v.2.2.2.2.1,v.2.2.2.2.2.1,v.2.2.2.2.2.2.1,(v.2.2.2.2.2.2.2.1++v8),()))
 else
 none
 else
 none
 else
 let v1:=(g34 (((),57,()),v.2.1,()))
 let v4:=(List.set (List.replicate 1 (zero (Ty.flt .f32))) 0 (a0i .quo .f32 (FloatKind.nearest .f32 (IntKind.wrap .i64 (8+v1.1.1))) 1098907648))
 bif (a0F (List.length v.2.2.2.2.2.2.2.1+List.length v4))then
 f ((((),(),(),v.1.2.2.2.1,v.1.2.2.2.2.1,(),(IntKind.wrap .i64 (v.1.2.2.2.2.2.2.1+1)),()),v1.2.1,((),(),(),()),((),(),(),()),v.2.2.2.2.1,v.2.2.2.2.2.1,v.2.2.2.2.2.2.1,(v.2.2.2.2.2.2.2.1++v4),()))
 else
 none
 else
 none
 else
 some ((((),(),(),v.1.2.2.2.1,v.1.2.2.2.2.1,List.map (fun x=>()) v.2.2.2.2.2.2.2.1,()),v.2.1,((),(),(),()),((),(),(),()),v.2.2.2.2.1,v.2.2.2.2.2.1,v.2.2.2.2.2.2.1,()))
theorem c6X (k34 g34 k77 g77 kl6 xl6 kl12 xl12 kl17 xl17 f v) :EBk (c4X k34 g34 k77 g77 kl6 xl6 kl12 xl12 kl17 xl17) c0i (a0B [0,2,3,6,7,8,9] [] 4 [0,2,3,6,7,8] [.jnk 8] (atS a7F f) (a5W a8B)) (mkS a7F v)=a9J k34 g34 k77 g77 f v:=by kernel_rfl
def b6F (v:a2t):Nat:=v.1.2.2.2.2.1.natAbs+v.1.2.2.2.2.2.2.1.natAbs+v.2.1.1.length+v.2.1.2.1.natAbs+v.2.1.2.2.1.natAbs+v.2.2.2.2.1.length+v.2.2.2.2.2.1.length+v.2.2.2.2.2.2.1.length+v.2.2.2.2.2.2.2.1.length+1000
def a9K (v:a2t):Option (a5N):=a1u (a9J K34 G34 K77 G77) (b6F v) v
def a3t (v:a2t):Bool:=(a9K v).isSome
def a1x (v:a2t):a5N:=(a9K v).getD (((),((),((),(0,(0,([],())))))),(([],(0,(0,()))),(((),((),((),()))),(((),((),((),()))),([],([],([],())))))))
def a9L (k34:KI I34) (g34:GI I34 O34) (k77:KI I77) (g77:GI I77 O77) (kl17:a2t->Bool) (xl17:a2t->a5N) (f:a3d->Option (a7E)) (v:a3d):Option (a7E):=
 bif (decide (v.1.2.2.2.2.1>0))then
 let w1:=(zero (Ty.flt .f32))
 let v0:=(List.set (List.replicate 1 w1) 0 v.1.2.2.2.1)
 bif (a0F (List.length v.2.2.2.2.1+List.length v0))then
 let v1:=(v.2.2.2.2.1++v0)
 let w0:=(((),(),(),v.1.2.2.2.1,v.1.2.2.2.2.1,(),0,()),v.2.1,((),(),(),()),((),(),(),()),v1,v.2.2.2.2.2.1,v.2.2.2.2.2.2.1,List.replicate 0 w1,())
 bif (kl17 w0)then
 let v3:=(xl17 w0)
 let v4:=(List.set (List.replicate 1 (zero (Ty.slice Ty.jnk))) 0 v3.1.2.2.2.2.2.1)
 bif (a0F (List.length v3.2.2.2.2.2.2.1+List.length v4))then
 bif (k34 (((),40,()),v3.2.1,()))then
 let v6:=(g34 (((),40,()),v3.2.1,()))
 f ((((),(),(),(a0i .add .f32 v3.1.2.2.2.1 (a0i .quo .f32 (FloatKind.nearest .f32 (IntKind.wrap .i64 (1+v6.1.1))) 1090519040)),(IntKind.wrap .i64 (v3.1.2.2.2.2.1-1)),()),v6.2.1,((),(),(),()),((),(),(),()),v3.2.2.2.2.1,v3.2.2.2.2.2.1,(v3.2.2.2.2.2.2.1++v4),()))
 else
 none
 else
 none
 else
 none
 else
 none
 else
 some ((((),(),()),v.2.1,((),(),(),()),((),(),(),()),v.2.2.2.2))
theorem c6Y (k34 g34 k77 g77 kl6 xl6 kl12 xl12 kl17 xl17 f v) :EBk (c4X k34 g34 k77 g77 kl6 xl6 kl12 xl12 kl17 xl17) c0h (a0B [0,2,3,6,7] [.boxNil 3 0,.boxNil 3 2] 2 [2,3] [] (atS a7D f) (a5W a8A)) (mkS a7D v)=a9L k34 g34 k77 g77 kl17 xl17 f v:=by kernel_rfl
def b6G (v:a3d):Nat:=v.1.2.2.2.2.1.natAbs+v.2.1.1.length+v.2.1.2.1.natAbs+v.2.1.2.2.1.natAbs+v.2.2.2.2.1.length+v.2.2.2.2.2.1.length+v.2.2.2.2.2.2.1.length+1000
def a9M (v:a3d):Option (a7E):=a1u (a9L K34 G34 K77 G77 a3t a1x) (b6G v) v
def a4d (v:a3d):Bool:=(a9M v).isSome
def a1Q (v:a3d):a7E:=(a9M v).getD (((),((),())),(([],(0,(0,()))),(((),((),((),()))),(((),((),((),()))),([],([],([],())))))))
def b6H (k34:KI I34) (g34:GI I34 O34) (k77:KI I77) (g77:GI I77 O77) (f:a4B->Option (b1j)) (v:a4B):Option (b1j):=
 bif (decide (v.1.2.2.2.1>0))then
 bif (decide (v.1.2.2.2.1<180))then
 bif (decide ((↑(List.length v.2.2.2.2.1):Int)<20))then
 let v0:=(List.set (List.replicate 1 (zero (Ty.int IntKind.i64))) 0 v.1.2.2.2.1)
 bif (a0F (List.length v.2.2.2.2.1+List.length v0))then
 bif (k34 (((),50,()),v.2.1,()))then
 let v3:=(g34 (((),50,()),v.2.1,()))
 f ((((),(),(),(IntKind.wrap .i64 ((IntKind.wrap .i64 (v.1.2.2.2.1+5))+v3.1.1)),()),v3.2.1,((),(),(),()),((),(),(),()),(v.2.2.2.2.1++v0),()))
 else
 none
 else
 none
 else
 some ((((),(),(),()),v.2.1,((),(),(),()),((),(),(),()),v.2.2.2.2))
 else
 some ((((),(),(),()),v.2.1,((),(),(),()),((),(),(),()),v.2.2.2.2))
 else
 some ((((),(),(),()),v.2.1,((),(),(),()),((),(),(),()),v.2.2.2.2))
theorem d2f (k34 g34 k77 g77 kl6 xl6 kl12 xl12 kl17 xl17 f v) :EBk (c4X k34 g34 k77 g77 kl6 xl6 kl12 xl12 kl17 xl17) c4Y (a0B [0,2,3,5] [] 0 [0,2,3] [] (atS a9I f) (a5W b1k)) (mkS a9I v)=b6H k34 g34 k77 g77 f v:=by kernel_rfl
def c2m (v:a4B):Nat:=v.1.2.2.2.1.natAbs+v.2.1.1.length+v.2.1.2.1.natAbs+v.2.1.2.2.1.natAbs+v.2.2.2.2.1.length+1000
def b6I (v:a4B):Option (b1j):=a1u (b6H K34 G34 K77 G77) (c2m v) v
def a5O (v:a4B):Bool:=(b6I v).isSome
def a2F (v:a4B):b1j:=(b6I v).getD (((),((),((),()))),(([],(0,(0,()))),(((),((),((),()))),(((),((),((),()))),([],())))))
def e3q (k34:KI I34) (g34:GI I34 O34) (k77:KI I77) (g77:GI I77 O77) (kl6:a4B->Bool) (xl6:a4B->b1j) (kl12:a3d->Bool) (xl12:a3d->a7E) (kl17:a2t->Bool) (xl17:a2t->a5N) (x:a6b.den):Option (b1i.den):=
 bif (k34 (((),25,()),x.2))then
 let v1:=(g34 (((),25,()),x.2))
 bif (k77 (((),6,()),v1.2))then
 let v3:=(g77 (((),6,()),v1.2))
 bif v3.1.1 then
 let w4:=(List.replicate 1 (zero (Ty.int IntKind.i64)))
 let v4:=(List.set w4 0 0)
 let w3:=(((),(),(),0,()),v3.2.1,((),(),(),()),((),(),(),()),v4,())
 bif (kl6 w3)then
 let v6:=(xl6 w3)
 let v7:=(List.set w4 0 180)
 bif (a0F (List.length v6.2.2.2.2.1+List.length v7))then
 bif (k34 (((),4,()),v6.2.1,()))then
 let v9:=(g34 (((),4,()),v6.2.1,()))
 bif (k34 (((),4,()),v9.2))then
 let v11:=(IntKind.wrap .i64 (1+v9.1.1))
 let v12:=(g34 (((),4,()),v9.2))
 let v13:=(IntKind.wrap .i64 (1+v12.1.1))
 let v14:=(v6.2.2.2.2.1++v7)
 let w0:=(((),(),(),FloatKind.nearest .f32 v11,v13,()),v12.2.1,((),(),(),()),((),(),(),()),[],v14,[],())
 bif (kl12 w0)then
 let v16:=(xl12 w0)
 some (((((),(),(),()),()),v16.2.1,v16.2.2.2.2))
 else
 none
 else
 none
 else
 none
 else
 none
 else
 none
 else
 let v4:=(IntKind.wrap .i64 (20+v1.1.1))
 let w5:=(List.replicate 1 (zero (Ty.int IntKind.i64)))
 let v5:=(List.set w5 0 0)
 let w2:=(((),(),(),v4,()),v3.2.1,((),(),(),()),((),(),(),()),v5,())
 bif (kl6 w2)then
 let v7:=(xl6 w2)
 let v8:=(List.set w5 0 180)
 bif (a0F (List.length v7.2.2.2.2.1+List.length v8))then
 bif (k34 (((),4,()),v7.2.1,()))then
 let v10:=(g34 (((),4,()),v7.2.1,()))
 bif (k34 (((),4,()),v10.2))then
 let v12:=(IntKind.wrap .i64 (1+v10.1.1))
 let v13:=(g34 (((),4,()),v10.2))
 let v14:=(IntKind.wrap .i64 (1+v13.1.1))
 let v15:=(v7.2.2.2.2.1++v8)
 let w1:=(((),(),(),FloatKind.nearest .f32 v12,v14,()),v13.2.1,((),(),(),()),((),(),(),()),[],v15,[],())
 bif (kl12 w1)then
 let v17:=(xl12 w1)
 some (((((),(),(),()),()),v17.2.1,v17.2.2.2.2))
 else
 none
 else
 none
 else
 none
 else
 none
 else
 none
 else
 none
 else
 none
theorem e9c (k34 g34 k77 g77 kl6 xl6 kl12 xl12 kl17 xl17 x) :a1N (c4X k34 g34 k77 g77 kl6 xl6 kl12 xl12 kl17 xl17) (a0e Tryz.f73) a6b b1i x=e3q k34 g34 k77 g77 kl6 xl6 kl12 xl12 kl17 xl17 x:=by kernel_rfl
def d7u (x:a6b.den):Option (b1i.den):=e3q K34 G34 K77 G77 a5O a2F a4d a1Q a3t a1x x
def b1l (x:a6b.den):Bool:=(d7u x).isSome
def a6L (x:a6b.den):b1i.den:=(d7u x).getD (a1d b1i)
theorem e3r:a0q Tryz.prog (73,a0n true a6b b1i b1l a6L):=a1k (a0j mixed d2e a0k (.cons a4z (.cons b1M .nil))) (a0O Tryz.func73 rfl rfl rfl (by kernel_rfl) (a0D (l:=[c4Y,c0h,c0i]) (by kernel_rfl) (.cons (a0r rfl (a0y (sh:=a9I) (shX:=b1k) (fun f v=>d2f K34 G34 K77 G77 a5O a2F a4d a1Q a3t a1x f v) c2m (((),((),((),()))),(([],(0,(0,()))),(((),((),((),()))),(((),((),((),()))),([],()))))))) (.cons (a0r rfl (a0y (sh:=a7D) (shX:=a8A) (fun f v=>c6Y K34 G34 K77 G77 a5O a2F a4d a1Q a3t a1x f v) b6G (((),((),())),(([],(0,(0,()))),(((),((),((),()))),(((),((),((),()))),([],([],([],()))))))))) (.cons (a0r rfl (a0y (sh:=a7F) (shX:=a8B) (fun f v=>c6X K34 G34 K77 G77 a5O a2F a4d a1Q a3t a1x f v) b6F (((),((),((),(0,(0,([],())))))),(([],(0,(0,()))),(((),((),((),()))),(((),((),((),()))),([],([],([],()))))))))) (.nil)))))) true fun x=>e9c K34 G34 K77 G77 a5O a2F a4d a1Q a3t a1x x
abbrev I78:Sg:=⟨[.ptr 0],[.box (a2O)]⟩
abbrev O78:Sg:=⟨[.val (.cons (.slice (.flt .f32)) (.cons (.slice (.int .i64)) (.cons (.slice (.slice .jnk)) (.nil))))],[.box (a2O)]⟩
abbrev a7G:Type:=((Unit×(Unit×(Unit×Unit)))×(((List (Den (.int .u8)))×(Int×(Int×Unit)))×((Unit×(Unit×(Unit×Unit)))×((Unit×(Unit×(Unit×Unit)))×((List (Den (.flt .f32)))×((List (Den (.int .i64)))×((List (Den (.slice (.jnk))))×Unit)))))))
def b6J:ShS:=⟨[(0,.one (.ptr 0 0)),(2,.one (.ptr 1 0)),(3,.one (.ptr 2 0))],[(0,.box [.sl (.int .u8),.int .i64,.int .i64]),(1,.box [.nil (.flt .f32),.nil (.int .i64),.nil (.slice (.jnk))]),(2,.box [.ref (.flt .f32) 3,.ref (.int .i64) 4,.ref (.slice (.jnk)) 5]),(3,.arr (.flt .f32)),(4,.arr (.int .i64)),(5,.arr (.slice (.jnk)))],6,1⟩
abbrev c0j:Type:=((Unit×(Unit×Unit))×(((List (Den (.int .u8)))×(Int×(Int×Unit)))×((Unit×(Unit×(Unit×Unit)))×((Unit×(Unit×(Unit×Unit)))×((List (Den (.flt .f32)))×((List (Den (.int .i64)))×((List (Den (.slice (.jnk))))×Unit)))))))
def b6K:ShS:=⟨[(2,.one (.ptr 1 0)),(3,.one (.ptr 2 0))],[(0,.box [.sl (.int .u8),.int .i64,.int .i64]),(1,.box [.nil (.flt .f32),.nil (.int .i64),.nil (.slice (.jnk))]),(2,.box [.ref (.flt .f32) 3,.ref (.int .i64) 4,.ref (.slice (.jnk)) 5]),(3,.arr (.flt .f32)),(4,.arr (.int .i64)),(5,.arr (.slice (.jnk)))],6,1⟩
abbrev a7H:Type:=((Unit×(Unit×(Int×(Int×(Int×Unit)))))×(((List (Den (.int .u8)))×(Int×(Int×Unit)))×((Unit×(Unit×(Unit×Unit)))×((Unit×(Unit×(Unit×Unit)))×((List (Den (.flt .f32)))×((List (Den (.int .i64)))×((List (Den (.slice (.jnk))))×Unit)))))))
def b6L:ShS:=⟨[(2,.one (.ptr 1 0)),(3,.one (.ptr 2 0)),(4,.one (.int .i64)),(117,.one (.int .i64)),(118,.one (.int .i64))],[(0,.box [.sl (.int .u8),.int .i64,.int .i64]),(1,.box [.nil (.flt .f32),.nil (.int .i64),.nil (.slice (.jnk))]),(2,.box [.ref (.flt .f32) 3,.ref (.int .i64) 4,.ref (.slice (.jnk)) 5]),(3,.arr (.flt .f32)),(4,.arr (.int .i64)),(5,.arr (.slice (.jnk)))],6,1⟩
abbrev c0k:Type:=((Unit×(Unit×Unit))×(((List (Den (.int .u8)))×(Int×(Int×Unit)))×((Unit×(Unit×(Unit×Unit)))×((Unit×(Unit×(Unit×Unit)))×((List (Den (.flt .f32)))×((List (Den (.int .i64)))×((List (Den (.slice (.jnk))))×Unit)))))))
def b6M:ShS:=⟨[(2,.one (.ptr 1 0)),(3,.one (.ptr 2 0))],[(0,.box [.sl (.int .u8),.int .i64,.int .i64]),(1,.box [.nil (.flt .f32),.nil (.int .i64),.nil (.slice (.jnk))]),(2,.box [.ref (.flt .f32) 3,.ref (.int .i64) 4,.ref (.slice (.jnk)) 5]),(3,.arr (.flt .f32)),(4,.arr (.int .i64)),(5,.arr (.slice (.jnk)))],6,1⟩
noncomputable def e5s (k1073 g1073 k34 g34 k141 g141 k142 g142 kl18 xl18 kl25 xl25) :=a0t f7M eqs [(73,a0n true a6b b1i k1073 g1073),(34,a0n true I34 O34 k34 g34),(141,a0n true a2j a3y k141 g141),(142,a0n true a6m b4E k142 g142)] 130 [.cell 2 28] [] [] [(18,a1X [0,2,3] [] 1 [2,3] [] b6J b6K kl18 xl18),(25,a1X [2,3,4,117,118] [] 3 [2,3] [] b6L b6M kl25 xl25)] [] [.frzBox 2]
noncomputable def d2g:Code:=(a0u (a0e Tryz.f78)).getD 0 .skip
noncomputable def d2h:Code:=(a0u (a0e Tryz.f78)).getD 1 .skip
def c4Z (k1073:KI a6b) (g1073:GI a6b b1i) (k34:KI I34) (g34:GI I34 O34) (k141:KI a2j) (g141:GI a2j a3y) (k142:KI a6m) (g142:GI a6m b4E) (f:a7H->Option (c0k)) (v:a7H):Option (c0k):=
 bif (decide (v.1.2.2.2.2.1<v.1.2.2.2.1))then
 bif (decide (0<=v.1.2.2.1)&&decide (v.1.2.2.1<(↑(List.length v.2.2.2.2.2.2.1):Int)))then
 bif (decide (0<=v.1.2.2.2.2.1)&&decide (v.1.2.2.2.2.1<(↑(List.length (List.getD v.2.2.2.2.2.2.1 (Int.toNat v.1.2.2.1) (zero (Ty.slice Ty.jnk)))):Int)))then
 f ((((),(),v.1.2.2.1,v.1.2.2.2.1,(IntKind.wrap .i64 (v.1.2.2.2.2.1+1)),()),v.2.1,((),(),(),()),((),(),(),()),v.2.2.2.2))
 else
 none
 else
 none
 else
 some ((((),(),()),v.2.1,((),(),(),()),((),(),(),()),v.2.2.2.2))
theorem d7v (k1073 g1073 k34 g34 k141 g141 k142 g142 kl18 xl18 kl25 xl25 f v) :EBk (e5s k1073 g1073 k34 g34 k141 g141 k142 g142 kl18 xl18 kl25 xl25) d2h (a0B [2,3,4,117,118] [] 3 [2,3] [] (atS b6L f) (a5W b6M)) (mkS b6L v)=c4Z k1073 g1073 k34 g34 k141 g141 k142 g142 f v:=by kernel_rfl
def d2i (v:a7H):Nat:=v.1.2.2.1.natAbs+v.1.2.2.2.1.natAbs+v.1.2.2.2.2.1.natAbs+v.2.1.1.length+v.2.1.2.1.natAbs+v.2.1.2.2.1.natAbs+v.2.2.2.2.1.length+v.2.2.2.2.2.1.length+v.2.2.2.2.2.2.1.length+1000
def c5a (v:a7H):Option (c0k):=a1u (c4Z b1l a6L K34 G34 a9C a9D a7T a7U) (d2i v) v
def b1m (v:a7H):Bool:=(c5a v).isSome
def a6M (v:a7H):c0k:=(c5a v).getD (((),((),())),(([],(0,(0,()))),(((),((),((),()))),(((),((),((),()))),([],([],([],())))))))
def c5b (k1073:KI a6b) (g1073:GI a6b b1i) (k34:KI I34) (g34:GI I34 O34) (k141:KI a2j) (g141:GI a2j a3y) (k142:KI a6m) (g142:GI a6m b4E) (f:a7G->Option (c0j)) (v:a7G):Option (c0j):=
 bif (k34 (((),2,()),v.2.1,()))then
 let v1:=(g34 (((),2,()),v.2.1,()))
 let w0:=(↑(List.length v.2.2.2.2.1):Int)
 bif (decide (w0<(IntKind.wrap .i64 (12+v1.1.1))))then
 let v3:=(IntKind.wrap .i64 (w0-1))
 bif (decide (0<=v3)&&decide (v3<w0))then
 let w1:=(zero (Ty.flt .f32))
 let v6:=(List.set (List.replicate 1 w1) 0 (a0i .add .f32 (List.getD v.2.2.2.2.1 (Int.toNat v3) w1) 1065353216))
 bif (a0F (List.length v.2.2.2.2.1+List.length v6))then
 bif (decide (0<=0)&&decide (0<(↑(List.length v.2.2.2.2.2.2.1):Int)))then
 let v8:=(List.set (List.replicate 1 (zero (Ty.slice Ty.jnk))) 0 (List.getD v.2.2.2.2.2.2.1 (Int.toNat 0) (zero (Ty.slice Ty.jnk))))
 bif (a0F (List.length v.2.2.2.2.2.2.1+List.length v8))then
 f ((((),(),(),()),v1.2.1,((),(),(),()),((),(),(),()),(v.2.2.2.2.1++v6),v.2.2.2.2.2.1,(v.2.2.2.2.2.2.1++v8),()))
 else
 none
 else
 none
 else
 none
 else
 none
 else
 some ((((),(),()),v1.2.1,((),(),(),()),((),(),(),()),v.2.2.2.2))
 else
 none
theorem d7w (k1073 g1073 k34 g34 k141 g141 k142 g142 kl18 xl18 kl25 xl25 f v) :EBk (e5s k1073 g1073 k34 g34 k141 g141 k142 g142 kl18 xl18 kl25 xl25) d2g (a0B [0,2,3] [] 1 [2,3] [] (atS b6J f) (a5W b6K)) (mkS b6J v)=c5b k1073 g1073 k34 g34 k141 g141 k142 g142 f v:=by kernel_rfl
def d2j (v:a7G):Nat:=v.2.1.1.length+v.2.1.2.1.natAbs+v.2.1.2.2.1.natAbs+v.2.2.2.2.1.length+v.2.2.2.2.2.1.length+v.2.2.2.2.2.2.1.length+1000
def c5c (v:a7G):Option (c0j):=a1u (c5b b1l a6L K34 G34 a9C a9D a7T a7U) (d2j v) v
def b1n (v:a7G):Bool:=(c5c v).isSome
def a4C (v:a7G):c0j:=(c5c v).getD (((),((),())),(([],(0,(0,()))),(((),((),((),()))),(((),((),((),()))),([],([],([],())))))))
theorem e9d:a1y Tryz.prog (e5s b1l a6L K34 G34 a9C a9D a7T a7U b1n a4C b1m a6M):=a0j mixed d2e a0k (.cons e3r (.cons a4z (.cons c9M (.cons c9P .nil))))
theorem f9a:a6i Tryz.prog 78 (e5s b1l a6L K34 G34 a9C a9D a7T a7U b1n a4C b1m a6M) (a0e Tryz.f78):=a0O Tryz.func78 rfl rfl rfl (by kernel_rfl) (a0D (l:=[d2g,d2h]) (by kernel_rfl) (.cons (a0r rfl (a0y (sh:=b6J) (shX:=b6K) (fun f v=>d7w b1l a6L K34 G34 a9C a9D a7T a7U b1n a4C b1m a6M f v) d2j (((),((),())),(([],(0,(0,()))),(((),((),((),()))),(((),((),((),()))),([],([],([],()))))))))) (.cons (a0r rfl (a0y (sh:=b6L) (shX:=b6M) (fun f v=>d7v b1l a6L K34 G34 a9C a9D a7T a7U b1n a4C b1m a6M f v) d2i (((),((),())),(([],(0,(0,()))),(((),((),((),()))),(((),((),((),()))),([],([],([],()))))))))) (.nil))))
noncomputable def N78 (p141:KI a2j) (Q141:QI a2j a3y) (e141:Nonempty (Ch a2j a3y p141 Q141)):a9j:=mkN [(141,a3p true a2j a3y p141 Q141 e141)] []
noncomputable def f9b (k1073:KI a6b) (g1073:GI a6b b1i) (k34:KI I34) (g34:GI I34 O34) (k141:KI a2j) (g141:GI a2j a3y) (k142:KI a6m) (g142:GI a6m b4E) (kl18:a7G->Bool) (xl18:a7G->c0j) (kl25:a7H->Bool) (xl25:a7H->c0k) (p141:KI a2j) (Q141:QI a2j a3y) (e141:Nonempty (Ch a2j a3y p141 Q141)) (h:O78.den->Option Unit) (x:I78.den):Option Unit:=
 bif (k1073 (((),()),x.2))then
 let v1:=(g1073 (((),()),x.2))
 let w6:=(↑(List.length v1.2.2.1):Int)
 bif (k34 (((),w6,()),v1.2.1,()))then
 let v3:=(g34 (((),w6,()),v1.2.1,()))
 let w4:=(↑(List.length v1.2.2.2.1):Int)
 bif (k34 (((),w4,()),v3.2))then
 let v5:=(g34 (((),w4,()),v3.2))
 bif (k34 (((),24,()),v5.2))then
 let v7:=(g34 (((),24,()),v5.2))
 bif (v7.1.1==0)then
 a3n fun(c141_12:Ch a2j a3y p141 Q141)=>
 bif (p141 (((),120,()),v7.2))then
 bif (decide (0<=v3.1.1)&&decide (v3.1.1<w6))then
 let v9:=(c141_12.val (((),120,()),v7.2))
 h (((((List.set v1.2.2.1 (Int.toNat v3.1.1) v9.1.1),v1.2.2.2),()),v9.2))
 else
 none
 else
 none
 else
 bif (v7.1.1==1)then
 bif (k142 (((),()),v7.2))then
 bif (decide (0<=v5.1.1)&&decide (v5.1.1<w4))then
 let v9:=(g142 (((),()),v7.2))
 h ((((v1.2.2.1,(List.set v1.2.2.2.1 (Int.toNat v5.1.1) v9.1.1),v1.2.2.2.2),()),v9.2))
 else
 none
 else
 none
 else
 bif (v7.1.1==2)then
 a3n fun(c141_16:Ch a2j a3y p141 Q141)=>
 bif (decide (0<=v3.1.1)&&decide (v3.1.1<(↑(List.length v1.2.2.2.2.1):Int)))then
 bif (p141 (((),60,()),v7.2))then
 bif (decide (0<=v5.1.1)&&decide (v5.1.1<(↑(List.length (List.getD v1.2.2.2.2.1 (Int.toNat v3.1.1) (zero (Ty.slice Ty.jnk)))):Int)))then
 h (((v1.2.2,()),(c141_16.val (((),60,()),v7.2)).2))
 else
 none
 else
 none
 else
 none
 else
 bif (v7.1.1==3)then
 let w2:=(decide (0<=v3.1.1)&&decide (v3.1.1<(↑(List.length v1.2.2.2.2.1):Int)))
 bif w2 then
 let v8:=(List.getD v1.2.2.2.2.1 (Int.toNat v3.1.1) (zero (Ty.slice Ty.jnk)))
 let w3:=(↑(List.length v8):Int)
 bif (decide (0<=1)&&decide (1<=w3)&&decide (w3<=w3))then
 bif w2 then
 h ((((v1.2.2.1,v1.2.2.2.1,(List.set v1.2.2.2.2.1 (Int.toNat v3.1.1) (List.drop (Int.toNat 1) (List.take (Int.toNat w3) v8))),()),()),v7.2))
 else
 none
 else
 none
 else
 none
 else
 bif (v7.1.1==4)then
 let w0:=(↑(List.length v1.2.2.2.2.1):Int)
 bif (decide (0<=1)&&decide (1<=w0)&&decide (w0<=w0))then
 h ((((v1.2.2.1,v1.2.2.2.1,List.drop (Int.toNat 1) (List.take (Int.toNat w0) v1.2.2.2.2.1),()),()),v7.2))
 else
 none
 else
 bif (v7.1.1==5)then
 h (((([],[],[],()),()),v7.2))
 else
 bif (v7.1.1==6)then
 let w5:=(((),(),(),()),v7.2.1,((),(),(),()),((),(),(),()),v1.2.2)
 bif (kl18 w5)then
 let v9:=(xl18 w5)
 h (((v9.2.2.2.2,()),v9.2.1,()))
 else
 none
 else
 bif (v7.1.1==7)then
 bif (decide (0<=v3.1.1)&&decide (v3.1.1<(↑(List.length v1.2.2.2.2.1):Int)))then
 bif (decide (0<=v5.1.1)&&decide (v5.1.1<(↑(List.length (List.getD v1.2.2.2.2.1 (Int.toNat v3.1.1) (zero (Ty.slice Ty.jnk)))):Int)))then
 h (((v1.2.2,()),v7.2))
 else
 none
 else
 none
 else
 bif (v7.1.1==8)then
 bif (decide (0<=v3.1.1)&&decide (v3.1.1<(↑(List.length v1.2.2.2.2.1):Int)))then
 let v8:=(List.getD v1.2.2.2.2.1 (Int.toNat v3.1.1) (zero (Ty.slice Ty.jnk)))
 let w1:=(((),(),v3.1.1,(↑(List.length v8):Int),0,()),v7.2.1,((),(),(),()),((),(),(),()),v1.2.2)
 bif (kl25 w1)then
 let v10:=(xl25 w1)
 h (((v10.2.2.2.2,()),v10.2.1,()))
 else
 none
 else
 none
 else
 h (((v1.2.2,()),v7.2))
 else
 none
 else
 none
 else
 none
 else
 none
theorem f7N (k1073 g1073 k34 g34 k141 g141 k142 g142 kl18 xl18 kl25 xl25 p141 Q141 e141 h x) :a3o (e5s k1073 g1073 k34 g34 k141 g141 k142 g142 kl18 xl18 kl25 xl25) (N78 p141 Q141 e141) (a0e Tryz.f78) I78 O78 h x=f9b k1073 g1073 k34 g34 k141 g141 k142 g142 kl18 xl18 kl25 xl25 p141 Q141 e141 h x:=by kernel_rfl
theorem d7x (v:a2t) (hc:a0g v.2.1) (hk:v.1.2.2.2.2.2.2.1=0) (hr:v.2.2.2.2.2.2.2.1=[]) (ha:v.2.2.2.2.2.1.length<=30) :
 Pst (a9K v) fun y=>a0g y.2.1 /\ y.1.2.2.2.2.1=v.1.2.2.2.2.1 /\ y.2.2.2.2.1=v.2.2.2.2.1 /\ y.2.2.2.2.2.1=v.2.2.2.2.2.1 /\ y.2.2.2.2.2.2.1=v.2.2.2.2.2.2.1 /\ y.1.2.2.2.2.2.1.length=v.2.2.2.2.2.1.length:=by
 unfold a9K
 refine a0W (q:=a9J K34 G34 K77 G77)
  (fun u=>a0g u.2.1 /\ u.1.2.2.2.2.1=v.1.2.2.2.2.1 /\ u.2.2.2.2.1=v.2.2.2.2.1 /\ u.2.2.2.2.2.1=v.2.2.2.2.2.1 /\ u.2.2.2.2.2.2.1=v.2.2.2.2.2.2.1 /\ 0<=(u.1.2.2.2.2.2.2.1:Int) /\ (u.1.2.2.2.2.2.2.1:Int)<=(v.2.2.2.2.2.1.length:Int) /\ (u.2.2.2.2.2.2.2.1.length:Int)=u.1.2.2.2.2.2.2.1)
  (fun _ r=>Pst r fun y=>a0g y.2.1 /\ y.1.2.2.2.2.1=v.1.2.2.2.2.1 /\ y.2.2.2.2.1=v.2.2.2.2.1 /\ y.2.2.2.2.2.1=v.2.2.2.2.2.1 /\ y.2.2.2.2.2.2.1=v.2.2.2.2.2.2.1 /\ y.1.2.2.2.2.2.1.length=v.2.2.2.2.2.1.length)
  (fun u=>(30-(u.1.2.2.2.2.2.2.1:Int)).toNat) ?_ _ _ ⟨hc,rfl,rfl,rfl,rfl,by rw[hk];exact Int.le_refl 0,by rw[hk];exact Int.natCast_nonneg _,by rw[hr,hk];rfl⟩ (by unfold b6F;omega)
 clear hk hr hc
 rintro⟨⟨_,_,_,w,n,_,i,_⟩,⟨c0,c1,c2,_⟩,_,_,ws,as_,sp,row,_⟩ f ⟨g0,g1,g2,g3,g4,g5,g6,g7⟩ ih
 dsimp only at g0 g1 g2 g3 g4 g5 g6 g7 ih
 subst g1 g2 g4
 have ea:as_.length=v.2.2.2.2.2.1.length:=by rw[g3]
 unfold a9J
 dsimp only
 by_cases hk:i<(as_.length:Int)
 ·refine a0p (by simpa using hk) ?_
  have e:IntKind.i64.wrap (i+1)=i+1:=w64 (by omega) (by omega)
  rw[e]
  have fin:∀(x:Nat) (c:List Int×Int×Int×Unit),a0g c->Pst (bif (a0F (List.length row+List.length (List.set (List.replicate 1 (zero (Ty.flt FloatKind.f32))) 0 x)))then f (((),((),((),((w),((v.1.2.2.2.2.1),((),((i+1),()))))))),(((c.1),((c.2.1),((c.2.2.1),()))),(((),((),((),()))),(((),((),((),()))),((v.2.2.2.2.1),((as_),((v.2.2.2.2.2.2.1),((row++List.set (List.replicate 1 (zero (Ty.flt FloatKind.f32))) 0 x),()))))))))else none)
   fun y=>a0g y.2.1 /\ y.1.2.2.2.2.1=v.1.2.2.2.2.1 /\ y.2.2.2.2.1=v.2.2.2.2.1 /\ y.2.2.2.2.2.1=v.2.2.2.2.2.1 /\ y.2.2.2.2.2.2.1=v.2.2.2.2.2.2.1 /\ y.1.2.2.2.2.2.1.length=v.2.2.2.2.2.1.length:=by
   intro x c h
   refine a0p (a0K (by simp only[List.length_set,List.length_replicate];omega)) ?_
   refine ih _ ⟨h,rfl,rfl,g3,rfl,?_,?_,?_⟩ ?_<;>simp only[List.length_append,List.length_set,List.length_replicate]<;>omega
  refine a0p (a0C _ (by(repeat ((try dsimp only);first|assumption|(with_reducible first|apply a0b|apply a0h|apply a0d|apply a0c|apply a0f))))) ?_
  refine a1q (fun _=>?_) (fun _=>?_)
  ·refine a0p (a2b _ (by(repeat ((try dsimp only);first|assumption|(with_reducible first|apply a0b|apply a0h|apply a0d|apply a0c|apply a0f))))) ?_
   refine a1q (fun _=>?_) (fun _=>?_)
   ·refine a1q (fun _=>?_) (fun _=>?_)
    ·refine a0p (a0C _ (by(repeat ((try dsimp only);first|assumption|(with_reducible first|apply a0b|apply a0h|apply a0d|apply a0c|apply a0f))))) ?_
     exact fin _ _ (by(repeat ((try dsimp only);first|assumption|(with_reducible first|apply a0b|apply a0h|apply a0d|apply a0c|apply a0f))))
    ·exact fin _ _ (by(repeat ((try dsimp only);first|assumption|(with_reducible first|apply a0b|apply a0h|apply a0d|apply a0c|apply a0f))))
   ·refine a1q (fun _=>?_) (fun _=>?_)
    ·refine a0p (a0C _ (by(repeat ((try dsimp only);first|assumption|(with_reducible first|apply a0b|apply a0h|apply a0d|apply a0c|apply a0f))))) ?_
     exact fin _ _ (by(repeat ((try dsimp only);first|assumption|(with_reducible first|apply a0b|apply a0h|apply a0d|apply a0c|apply a0f))))
    ·exact fin _ _ (by(repeat ((try dsimp only);first|assumption|(with_reducible first|apply a0b|apply a0h|apply a0d|apply a0c|apply a0f))))
  ·refine a1q (fun _=>?_) (fun _=>?_)
   ·refine a0p (a0C _ (by(repeat ((try dsimp only);first|assumption|(with_reducible first|apply a0b|apply a0h|apply a0d|apply a0c|apply a0f))))) ?_
    exact fin _ _ (by(repeat ((try dsimp only);first|assumption|(with_reducible first|apply a0b|apply a0h|apply a0d|apply a0c|apply a0f))))
   ·exact fin _ _ (by(repeat ((try dsimp only);first|assumption|(with_reducible first|apply a0b|apply a0h|apply a0d|apply a0c|apply a0f))))
 ·have hd:decide (i<(as_.length:Int))=false:=by simpa using hk
  rw[hd]
  exact a0v ⟨g0,rfl,rfl,g3,rfl,by show(row.map fun _=>()).length=_;rw[List.length_map];omega⟩
def Rows (n:Nat) (a:Nat) (ws:List Nat) (sp:List (List Unit)):Prop:=ws.length=n /\ sp.length=n /\ ∀r∈sp,r.length=a
theorem d2k (v:a3d) (hc:a0g v.2.1) (hn:0<=(v.1.2.2.2.2.1:Int) /\ (v.1.2.2.2.2.1:Int)<=8) (hw:v.2.2.2.2.1=[]) (hs:v.2.2.2.2.2.2.1=[]) (ha:v.2.2.2.2.2.1.length<=30) :
 Pst (a9M v) fun y=>a0g y.2.1 /\ y.2.2.2.2.2.1=v.2.2.2.2.2.1 /\ Rows (v.1.2.2.2.2.1:Int).toNat v.2.2.2.2.2.1.length y.2.2.2.2.1 y.2.2.2.2.2.2.1:=by
 unfold a9M
 refine a0W (q:=a9L K34 G34 K77 G77 a3t a1x)
  (fun u=>a0g u.2.1 /\ u.2.2.2.2.2.1=v.2.2.2.2.2.1 /\ 0<=(u.1.2.2.2.2.1:Int) /\ (u.2.2.2.2.1.length:Int)+u.1.2.2.2.2.1=v.1.2.2.2.2.1 /\ Rows u.2.2.2.2.1.length v.2.2.2.2.2.1.length u.2.2.2.2.1 u.2.2.2.2.2.2.1)
  (fun _ r=>Pst r fun y=>a0g y.2.1 /\ y.2.2.2.2.2.1=v.2.2.2.2.2.1 /\ Rows (v.1.2.2.2.2.1:Int).toNat v.2.2.2.2.2.1.length y.2.2.2.2.1 y.2.2.2.2.2.2.1)
  (fun u=>(u.1.2.2.2.2.1:Int).toNat) ?_ _ _ ⟨hc,rfl,hn.1,by rw[hw];exact Int.zero_add _,by rw[hw,hs];exact⟨rfl,rfl,fun _ h=>by cases h⟩⟩ (by unfold b6G;omega)
 clear hc hw hs
 rintro⟨⟨_,_,_,w,n,_⟩,⟨c0,c1,c2,_⟩,_,_,ws,as_,sp,_⟩ f ⟨g0,g1,g2,g3,g4⟩ ih
 dsimp only at g0 g1 g2 g3 g4 ih
 obtain⟨g4,g5,g6⟩:=g4
 have ea:as_.length=v.2.2.2.2.2.1.length:=by rw[g1]
 unfold a9L
 dsimp only
 by_cases hk:n>0
 ·refine a0p (by simpa using hk) ?_
  refine a0p (a0K (by simp only[List.length_set,List.length_replicate];omega)) ?_
  have hr:=d7x (((),(),(),w,n,(),0,()),(c0,c1,c2,()),((),(),(),()),((),(),(),()),ws++(List.replicate 1 (zero (Ty.flt FloatKind.f32))).set 0 w,as_,sp,List.replicate 0 (zero (Ty.flt FloatKind.f32)),()) g0 rfl rfl (by show as_.length<=30;omega)
  refine a0p (a2C hr) ?_
  have hx:=a2T (((),((),((),(0,(0,([],())))))),(([],(0,(0,()))),(((),((),((),()))),(((),((),((),()))),([],([],([],()))))))) hr
  change a0g (a1x _).2.1 /\ (a1x _).1.2.2.2.2.1=n /\ (a1x _).2.2.2.2.1=_ /\ (a1x _).2.2.2.2.2.1=as_ /\ (a1x _).2.2.2.2.2.2.1=sp /\ (a1x _).1.2.2.2.2.2.1.length=as_.length at hx
  generalize a1x (((),(),(),w,n,(),0,()),(c0,c1,c2,()),((),(),(),()),((),(),(),()),ws++(List.replicate 1 (zero (Ty.flt FloatKind.f32))).set 0 w,as_,sp,List.replicate 0 (zero (Ty.flt FloatKind.f32)),())=y at *
  obtain⟨⟨_,_,_,w',n',row,_⟩,c',_,_,ws',as',sp',_⟩:=y
  dsimp only at hx
  obtain⟨h1,h2,h3,h4,h5,h6⟩:=hx
  subst h2 h3 h4 h5
  refine a0p (a0K (by simp only[List.length_set,List.length_replicate];omega)) ?_
  refine a0p (a0C _ (by(repeat ((try dsimp only);first|assumption|(with_reducible first|apply a0b|apply a0h|apply a0d|apply a0c|apply a0f))))) ?_
  have e:IntKind.i64.wrap (n'-1)=n'-1:=w64 (by omega) (by omega)
  dsimp only
  rw[e]
  refine ih _ ⟨by(repeat ((try dsimp only);first|assumption|(with_reducible first|apply a0b|apply a0h|apply a0d|apply a0c|apply a0f))),g1,?_,?_,?_,?_,?_⟩ ?_
  ·show 0<=n'-1;omega
  ·simp only[List.length_append,List.length_set,List.length_replicate];omega
  ·rfl
  ·simp only[List.length_append,List.length_set,List.length_replicate];omega
  ·intro r hr
   rcases List.mem_append.1 hr with hr|hr
   ·exact g6 r hr
   ·rw[show r=row from List.mem_singleton.1 hr,h6,ea]
  ·show(n'-1).toNat<n'.toNat;omega
 ·have hd:decide (n>0)=false:=by simpa using hk
  rw[hd]
  refine a0v ⟨g0,g1,?_,?_,g6⟩
  ·show ws.length=_;omega
  ·show sp.length=_;omega
theorem f7O (a b:Int) (h1:a>0) (h2:a<180) (h:0<=b /\ b<50):IntKind.i64.wrap (IntKind.i64.wrap (a+5)+b)<=1000:=by
 rw[w64 (x:=a+5) (by omega) (by omega),w64 (by omega) (by omega)]
 omega
theorem f7P (b:Int) (h:0<=b /\ b<4):0<=IntKind.i64.wrap (1+b) /\ IntKind.i64.wrap (1+b)<=8 /\ 1<=(IntKind.i64.wrap (1+b)).toNat /\ (IntKind.i64.wrap (1+b)).toNat<=4:=by
 rw[w64 (by omega) (by omega)]
 omega
theorem f7Q (b:Int) (h:0<=b /\ b<25):IntKind.i64.wrap (20+b)<=1000:=by
 rw[w64 (by omega) (by omega)]
 omega
theorem c2n (v:a4B) (hc:a0g v.2.1) (hn:(v.1.2.2.2.1:Int)<=1000) (hw:v.2.2.2.2.1.length=1) :
 Pst (b6I v) fun y=>a0g y.2.1 /\ 1<=y.2.2.2.2.1.length /\ y.2.2.2.2.1.length<=21:=by
 unfold b6I
 refine a0W (q:=b6H K34 G34 K77 G77)
  (fun u=>a0g u.2.1 /\ (u.1.2.2.2.1:Int)<=1000 /\ 1<=u.2.2.2.2.1.length /\ u.2.2.2.2.1.length<=21)
  (fun _ r=>Pst r fun y=>a0g y.2.1 /\ 1<=y.2.2.2.2.1.length /\ y.2.2.2.2.1.length<=21)
  (fun u=>21-u.2.2.2.2.1.length) ?_ _ _ ⟨hc,hn,by omega,by omega⟩ (by unfold c2m;omega)
 rintro⟨⟨_,_,_,a,_⟩,⟨c0,c1,c2,_⟩,_,_,as_,_⟩ f ⟨g0,g1,g2,g3⟩ ih
 dsimp only at g0 g1 g2 g3 ih
 unfold b6H
 dsimp only
 refine a1q (fun h1=>?_) (fun _=>a0v ⟨g0,g2,g3⟩)
 refine a1q (fun h2=>?_) (fun _=>a0v ⟨g0,g2,g3⟩)
 refine a1q (fun h3=>?_) (fun _=>a0v ⟨g0,g2,g3⟩)
 have h1:a>0:=by simpa using h1
 have h2:a<180:=by simpa using h2
 have h3 : as_.length < 20 := by have:(as_.length:Int)<20:=by simpa using h3
                                 omega
 refine a0p (a0K (by simp only[List.length_set,List.length_replicate];omega)) ?_
 refine a0p (a0C _ (by(repeat ((try dsimp only);first|assumption|(with_reducible first|apply a0b|apply a0h|apply a0d|apply a0c|apply a0f))))) ?_
 have hb:=a1g 50 (c0,c1,c2,()) g0 (by decide)
 refine ih _ ⟨by(repeat ((try dsimp only);first|assumption|(with_reducible first|apply a0b|apply a0h|apply a0d|apply a0c|apply a0f))),f7O _ _ h1 h2 hb,?_,?_⟩ ?_
 all_goals simp only[List.length_append,List.length_set,List.length_replicate];omega
def e9e (ws:List Nat) (as_:List Int) (sp:List (List Unit)):Prop:=2<=as_.length /\ as_.length<=22 /\ 1<=ws.length /\ ws.length<=4 /\ Rows ws.length as_.length ws sp
theorem c5d (x:a6b.den) (h:a0g x.2.1):Pst (d7u x) fun y=>a0g y.2.1 /\ e9e y.2.2.1 y.2.2.2.1 y.2.2.2.2.1:=by
 unfold d7u e3q
 dsimp only
 have a2o:∀(n:Int) (c:List Int×Int×Int×Unit),a0g c->0<n->0<=((G34 (((),n,()),c,())).1.1:Int) /\ ((G34 (((),n,()),c,())).1.1:Int)<n:=fun n c h hn=>a1g n c h hn
 refine a0p (a0C _ (by(repeat ((try dsimp only);first|assumption|(with_reducible first|apply a0b|apply a0h|apply a0d|apply a0c|apply a0f))))) ?_
 have b1:0<=((G34 (((),25,()),x.snd)).1.1:Int) /\ ((G34 (((),25,()),x.snd)).1.1:Int)<25:=a2o 25 x.2.1 h (by decide)
 have c1:a0g (G34 (((),25,()),x.snd)).2.1:=by(repeat ((try dsimp only);first|assumption|(with_reducible first|apply a0b|apply a0h|apply a0d|apply a0c|apply a0f)))
 generalize G34 (((),25,()),x.snd)=A at *
 refine a0p (a2b _ (by(repeat ((try dsimp only);first|assumption|(with_reducible first|apply a0b|apply a0h|apply a0d|apply a0c|apply a0f))))) ?_
 have c2:a0g (G77 (((),6,()),A.snd)).2.1:=by(repeat ((try dsimp only);first|assumption|(with_reducible first|apply a0b|apply a0h|apply a0d|apply a0c|apply a0f)))
 generalize G77 (((),6,()),A.snd)=B at *
 have main:∀a:Int,a<=1000->Pst (
  let v5:=List.set (List.replicate 1 (zero (Ty.int IntKind.i64))) 0 0
  let v6:=(a5O (((),(),(),a,()),B.snd.fst,((),(),(),()),((),(),(),()),v5,()))
  bif (v6)then
   let v7:=(a2F (((),(),(),a,()),B.snd.fst,((),(),(),()),((),(),(),()),v5,()))
   let v8:=(List.set (List.replicate 1 (zero (Ty.int IntKind.i64))) 0 180)
   bif (a0F (List.length v7.snd.snd.snd.snd.fst+List.length v8))then
    let v9:=(K34 (((),4,()),v7.snd.fst,()))
    bif (v9)then
     let v10:=(G34 (((),4,()),v7.snd.fst,()))
     let v11:=(K34 (((),4,()),v10.snd))
     bif (v11)then
      let v12:=(IntKind.wrap IntKind.i64 (1+v10.fst.fst))
      let v13:=(G34 (((),4,()),v10.snd))
      let v14:=(IntKind.wrap IntKind.i64 (1+v13.fst.fst))
      let v15:=(v7.snd.snd.snd.snd.fst++v8)
      let v16:=(a4d (((),(),(),FloatKind.nearest FloatKind.f32 v12,v14,()),v13.snd.fst,((),(),(),()),((),(),(),()),[],v15,[],()))
      bif (v16)then
       let v17:=(a1Q (((),(),(),FloatKind.nearest FloatKind.f32 v12,v14,()),v13.snd.fst,((),(),(),()),((),(),(),()),[],v15,[],()))
       (some ((((),((),((),()))),()),(((v17.snd.fst.1),((v17.snd.fst.snd.1),((v17.snd.fst.snd.snd.1),()))),((v17.snd.snd.snd.snd.1),((v17.snd.snd.snd.snd.snd.1),((v17.snd.snd.snd.snd.snd.snd.1),()))))):Option b1i.den)
      else none
     else none
    else none
   else none
  else none) fun y=>a0g y.2.1 /\ e9e y.2.2.1 y.2.2.2.1 y.2.2.2.2.1:=by
  intro a ha
  dsimp only
  have hr:=c2n (((),(),(),a,()),B.snd.fst,((),(),(),()),((),(),(),()),List.set (List.replicate 1 (zero (Ty.int IntKind.i64))) 0 0,()) c2 ha rfl
  refine a0p (a2C hr) ?_
  have hx:=a2T (((),((),((),()))),(([],(0,(0,()))),(((),((),((),()))),(((),((),((),()))),([],()))))) hr
  change a0g (a2F _).2.1 /\ 1<=(a2F _).2.2.2.2.1.length /\ (a2F _).2.2.2.2.1.length<=21 at hx
  generalize a2F (((),(),(),a,()),B.snd.fst,((),(),(),()),((),(),(),()),List.set (List.replicate 1 (zero (Ty.int IntKind.i64))) 0 0,())=y at *
  obtain⟨_,c,_,_,as_,_⟩:=y
  dsimp only at hx ⊢
  obtain⟨h1,h2,h3⟩:=hx
  refine a0p (a0K (by simp only[List.length_set,List.length_replicate];omega)) ?_
  refine a0p (a0C _ (by(repeat ((try dsimp only);first|assumption|(with_reducible first|apply a0b|apply a0h|apply a0d|apply a0c|apply a0f))))) ?_
  have c3:a0g (G34 (((),4,()),c,())).2.1:=by(repeat ((try dsimp only);first|assumption|(with_reducible first|apply a0b|apply a0h|apply a0d|apply a0c|apply a0f)))
  generalize G34 (((),4,()),c,())=D at *
  refine a0p (a0C _ (by(repeat ((try dsimp only);first|assumption|(with_reducible first|apply a0b|apply a0h|apply a0d|apply a0c|apply a0f))))) ?_
  have b4:0<=((G34 (((),4,()),D.snd)).1.1:Int) /\ ((G34 (((),4,()),D.snd)).1.1:Int)<4:=a2o 4 D.2.1 c3 (by decide)
  have c4:a0g (G34 (((),4,()),D.snd)).2.1:=by(repeat ((try dsimp only);first|assumption|(with_reducible first|apply a0b|apply a0h|apply a0d|apply a0c|apply a0f)))
  generalize G34 (((),4,()),D.snd)=E at *
  have hn:0<=IntKind.i64.wrap (1+E.fst.fst) /\ IntKind.i64.wrap (1+E.fst.fst)<=8 /\ 1<=(IntKind.i64.wrap (1+E.fst.fst)).toNat /\ (IntKind.i64.wrap (1+E.fst.fst)).toNat<=4:=f7P _ b4
  generalize IntKind.i64.wrap (1+E.fst.fst)=nn at *
  generalize FloatKind.nearest FloatKind.f32 (IntKind.wrap IntKind.i64 (1+D.fst.fst))=w
  have hq:=d2k (((),(),(),w,nn,()),E.snd.fst,((),(),(),()),((),(),(),()),[],as_++List.set (List.replicate 1 (zero (Ty.int IntKind.i64))) 0 180,[],()) c4 ⟨hn.1,hn.2.1⟩ rfl rfl (by simp only[List.length_append,List.length_set,List.length_replicate];omega)
  refine a0p (a2C hq) ?_
  have hx:=a2T (((),((),())),(([],(0,(0,()))),(((),((),((),()))),(((),((),((),()))),([],([],([],()))))))) hq
  change a0g (a1Q _).2.1 /\ (a1Q _).2.2.2.2.2.1=_ /\ Rows nn.toNat _ (a1Q _).2.2.2.2.1 (a1Q _).2.2.2.2.2.2.1 at hx
  generalize a1Q (((),(),(),w,nn,()),E.snd.fst,((),(),(),()),((),(),(),()),[],as_++List.set (List.replicate 1 (zero (Ty.int IntKind.i64))) 0 180,[],())=y at *
  obtain⟨_,c',_,_,ws',as',sp',_⟩:=y
  dsimp only at hx
  obtain⟨k1,k2,k3,k4,k5⟩:=hx
  subst k2
  refine a0v ⟨k1,?_⟩
  dsimp only
  have el:(as_++List.set (List.replicate 1 (zero (Ty.int IntKind.i64))) 0 180).length=as_.length+1:=by simp only[List.length_append,List.length_set,List.length_replicate]
  refine⟨by rw[el];omega,by rw[el];omega,by rw[k3];exact hn.2.2.1,by rw[k3];exact hn.2.2.2,rfl,by rw[k3,k4],k5⟩
 refine a1q (fun _=>?_) (fun _=>?_)
 ·exact main 0 (by decide)
 ·exact main _ (f7Q _ b1)
theorem d7y (x:a6b.den) (h:a0g x.2.1):b1l x=true:=a2C (c5d x h)
theorem d7z (x:a6b.den) (h:a0g x.2.1):a0g (a6L x).2.1 /\ e9e (a6L x).2.2.1 (a6L x).2.2.2.1 (a6L x).2.2.2.2.1:=a2T _ (c5d x h)
def d4w (ws:List Nat) (as_:List Int) (sp:List (List Unit)):Prop:=ws.length<=14 /\ as_.length<=22 /\ sp.length<=14 /\ ∀r∈sp,r.length<=22
theorem e9e.some {ws:List Nat} {as_:List Int} {sp:List (List Unit)} (h:e9e ws as_ sp):d4w ws as_ sp:=by
 obtain⟨h1,h2,h3,h4,h5,h6,h7⟩:=h
 exact⟨by omega,h2,by omega,fun r hr=>by rw[h7 r hr];exact h2⟩
theorem d4w.nil:d4w [] [] []:=⟨Nat.zero_le _,Nat.zero_le _,Nat.zero_le _,fun _ h=>by cases h⟩
theorem w12 (a:Int) (h:0<=a /\ a<2):12<=IntKind.i64.wrap (12+a) /\ IntKind.i64.wrap (12+a)<=13:=by
 rw[w64 (by omega) (by omega)]
 omega
theorem f7R (a:Int) (n:Nat) (h:0<=a /\ a<(n:Int)):a.toNat<n:=by omega
theorem d2l (v:a7G) (hc:a0g v.2.1) (hw:1<=v.2.2.2.2.1.length /\ v.2.2.2.2.1.length<=4) (hs:v.2.2.2.2.2.2.1.length=v.2.2.2.2.1.length) (hr:∀r∈v.2.2.2.2.2.2.1,List.length r<=22) :
 Pst (c5c v) fun y=>a0g y.2.1 /\ y.2.2.2.2.2.1=v.2.2.2.2.2.1 /\ y.2.2.2.2.1.length<=14 /\ y.2.2.2.2.2.2.1.length<=14 /\ ∀r∈y.2.2.2.2.2.2.1,List.length r<=22:=by
 unfold c5c
 refine a0W (q:=c5b b1l a6L K34 G34 a9C a9D a7T a7U)
  (fun u=>a0g u.2.1 /\ u.2.2.2.2.2.1=v.2.2.2.2.2.1 /\ 1<=u.2.2.2.2.1.length /\ u.2.2.2.2.1.length<=13 /\ u.2.2.2.2.2.2.1.length=u.2.2.2.2.1.length /\ ∀r∈u.2.2.2.2.2.2.1,List.length r<=22)
  (fun _ r=>Pst r fun y=>a0g y.2.1 /\ y.2.2.2.2.2.1=v.2.2.2.2.2.1 /\ y.2.2.2.2.1.length<=14 /\ y.2.2.2.2.2.2.1.length<=14 /\ ∀r∈y.2.2.2.2.2.2.1,List.length r<=22)
  (fun u=>14-u.2.2.2.2.1.length) ?_ _ _ ⟨hc,rfl,hw.1,by omega,hs,hr⟩ (by unfold d2j;omega)
 clear hc hw hs hr
 rintro⟨_,⟨c0,c1,c2,_⟩,_,_,ws,as_,sp,_⟩ f ⟨g0,g1,g2,g3,g4,g5⟩ ih
 dsimp only at g0 g1 g2 g3 g4 g5 ih
 unfold c5b
 dsimp only
 refine a0p (a0C _ (by(repeat ((try dsimp only);first|assumption|(with_reducible first|apply a0b|apply a0h|apply a0d|apply a0c|apply a0f))))) ?_
 have b1:=w12 _ (a1g 2 (c0,c1,c2,()) g0 (by decide))
 have c5:a0g (G34 (((),2,()),(c0,c1,c2,()),())).2.1:=by(repeat ((try dsimp only);first|assumption|(with_reducible first|apply a0b|apply a0h|apply a0d|apply a0c|apply a0f)))
 generalize G34 (((),2,()),(c0,c1,c2,()),())=A at *
 generalize IntKind.i64.wrap (12+A.fst.fst)=n at *
 have e:IntKind.i64.wrap ((ws.length:Int)-1)=((ws.length-1:Nat):Int):=by rw[w64 (by omega) (by omega)];omega
 rw[e]
 by_cases hk:(ws.length:Int)<n
 ·refine a0p (by simpa using hk) ?_
  refine a0p (by simp;omega) ?_
  refine a0p (a0K (by simp only[List.length_set,List.length_replicate];omega)) ?_
  refine a0p (by simp;omega) ?_
  refine a0p (a0K (by simp only[List.length_set,List.length_replicate];omega)) ?_
  have hm:List.getD sp (Int.toNat 0) (zero (Ty.slice Ty.jnk))∈sp:=by
   have h0:0<sp.length:=by omega
   show sp.getD 0 _∈sp
   rw[List.getD_eq_getElem?_getD,List.getElem?_eq_getElem h0]
   exact List.getElem_mem h0
  refine ih _ ⟨c5,g1,?_,?_,?_,?_⟩ ?_
  ·simp only[List.length_append,List.length_set,List.length_replicate];omega
  ·simp only[List.length_append,List.length_set,List.length_replicate];omega
  ·simp only[List.length_append,List.length_set,List.length_replicate];omega
  ·intro r hr
   rcases List.mem_append.1 hr with hr|hr
   ·exact g5 r hr
   ·rw[show r=_ from List.mem_singleton.1 hr];exact g5 _ hm
  ·simp only[List.length_append,List.length_set,List.length_replicate];omega
 ·have hd:decide ((ws.length:Int)<n)=false:=by simpa using hk
  rw[hd]
  exact a0v ⟨c5,g1,by show ws.length<=14;omega,by show sp.length<=14;omega,g5⟩
theorem d2m (v:a7H) (hc:a0g v.2.1) (hi:0<=(v.1.2.2.1:Int) /\ (v.1.2.2.1:Int)<(v.2.2.2.2.2.2.1.length:Int)) (hn:(v.1.2.2.2.1:Int)=((List.getD v.2.2.2.2.2.2.1 (v.1.2.2.1:Int).toNat (zero (Ty.slice Ty.jnk))).length:Int)) (hs:(v.1.2.2.2.1:Int)<=22) (hk:v.1.2.2.2.2.1=0) :
 Pst (c5a v) fun y=>a0g y.2.1 /\ y.2.2.2.2=v.2.2.2.2:=by
 unfold c5a
 refine a0W (q:=c4Z b1l a6L K34 G34 a9C a9D a7T a7U)
  (fun u=>a0g u.2.1 /\ u.2.2.2.2=v.2.2.2.2 /\ u.1.2.2.1=v.1.2.2.1 /\ u.1.2.2.2.1=v.1.2.2.2.1 /\ 0<=(u.1.2.2.2.2.1:Int) /\ (u.1.2.2.2.2.1:Int)<=v.1.2.2.2.1)
  (fun _ r=>Pst r fun y=>a0g y.2.1 /\ y.2.2.2.2=v.2.2.2.2)
  (fun u=>(v.1.2.2.2.1-u.1.2.2.2.2.1:Int).toNat) ?_ _ _ ⟨hc,rfl,rfl,rfl,by rw[hk];exact Int.le_refl 0,by rw[hk,hn];exact Int.natCast_nonneg _⟩ (by rw[hk];unfold d2i;omega)
 clear hc hk
 rintro⟨⟨_,_,i,n,k,_⟩,⟨c0,c1,c2,_⟩,_,_,ws,as_,sp,_⟩ f ⟨g0,g1,g2,g3,g4,g5⟩ ih
 dsimp only at g0 g1 g2 g3 g4 g5 ih
 have es:sp=v.2.2.2.2.2.2.1:=congrArg (·.2.2.1) g1
 rw[<- g2,<- es]at hi
 rw[<- g2,<- g3,<- es]at hn
 rw[<- g3]at hs g5
 unfold c4Z
 dsimp only
 by_cases hk:k<n
 ·refine a0p (by simpa using hk) ?_
  refine a0p (by simp;omega) ?_
  rw[<- hn]
  refine a0p (by simp;omega) ?_
  have e:IntKind.i64.wrap (k+1)=k+1:=w64 (by omega) (by omega)
  rw[e]
  refine ih _ ⟨g0,g1,g2,g3,?_,?_⟩ ?_
  ·show 0<=k+1;omega
  ·show k+1<=v.1.2.2.2.1;rw[<- g3];omega
  ·show(v.1.2.2.2.1-(k+1):Int).toNat<(v.1.2.2.2.1-k:Int).toNat;rw[<- g3];omega
 ·have hd:decide (k<n)=false:=by simpa using hk
  rw[hd]
  exact a0v ⟨g0,g1⟩
def p78 (x:I78.den):Bool:=d7r x.2.1
def Q78 (x:I78.den) (y:O78.den):Prop:=a0g y.2.1 /\ d4w y.1.1.1 y.1.1.2.1 y.1.1.2.2.1
theorem e9f (x:I78.den) (hx:p78 x=true) (k:O78.den->Option Unit) (hk:∀y,Q78 x y->k y=some ()) :
 a3o (e5s b1l a6L K34 G34 a9C a9D a7T a7U b1n a4C b1m a6M) (N78 p141 Q141 e141) (a0e Tryz.f78) I78 O78 k x=some ():=by
 have hk:∀y:O78.den,a0g y.2.1 /\ d4w y.1.1.1 y.1.1.2.1 y.1.1.2.2.1->k y=some ():=hk
 have h:a0g x.2.1:=a1s.1 hx
 refine Eq.trans (f7N _ _ _ _ _ _ _ _ _ _ _ _ _ _ _ k x) ?_
 unfold f9b
 dsimp only
 haveI:=e141
 have a2o:∀(n:Int) (c:List Int×Int×Int×Unit),a0g c->0<n->0<=((G34 (((),n,()),c,())).1.1:Int) /\ ((G34 (((),n,()),c,())).1.1:Int)<n:=fun n c h hn=>a1g n c h hn
 refine a0H (d7y (((),()),x.snd) h) ?_
 obtain⟨c1,hP⟩:=d7z (((),()),x.snd) h
 generalize a6L (((),()),x.snd)=A at *
 obtain⟨_,c,ws,as_,sp,_⟩:=A
 dsimp only at c1 hP ⊢
 have hL:=hP.some
 obtain⟨p1,p2,p3,p4,-,p5,p6⟩:=hP
 refine a0H (a0C _ (by(repeat ((try dsimp only);first|assumption|(with_reducible first|apply a0b|apply a0h|apply a0d|apply a0c|apply a0f))))) ?_
 have b2:0<=((G34 (((),(ws.length:Int),()),c,())).1.1:Int) /\ ((G34 (((),(ws.length:Int),()),c,())).1.1:Int)<(ws.length:Int):=a2o _ c c1 (by omega)
 have c2:a0g (G34 (((),(ws.length:Int),()),c,())).2.1:=by(repeat ((try dsimp only);first|assumption|(with_reducible first|apply a0b|apply a0h|apply a0d|apply a0c|apply a0f)))
 generalize G34 (((),(ws.length:Int),()),c,())=B at *
 refine a0H (a0C _ (by(repeat ((try dsimp only);first|assumption|(with_reducible first|apply a0b|apply a0h|apply a0d|apply a0c|apply a0f))))) ?_
 have b3:0<=((G34 (((),(as_.length:Int),()),B.snd)).1.1:Int) /\ ((G34 (((),(as_.length:Int),()),B.snd)).1.1:Int)<(as_.length:Int):=a2o _ B.2.1 c2 (by omega)
 have c3:a0g (G34 (((),(as_.length:Int),()),B.snd)).2.1:=by(repeat ((try dsimp only);first|assumption|(with_reducible first|apply a0b|apply a0h|apply a0d|apply a0c|apply a0f)))
 generalize G34 (((),(as_.length:Int),()),B.snd)=C at *
 refine a0H (a0C _ (by(repeat ((try dsimp only);first|assumption|(with_reducible first|apply a0b|apply a0h|apply a0d|apply a0c|apply a0f))))) ?_
 have c4:a0g (G34 (((),24,()),C.snd)).2.1:=by(repeat ((try dsimp only);first|assumption|(with_reducible first|apply a0b|apply a0h|apply a0d|apply a0c|apply a0f)))
 generalize G34 (((),24,()),C.snd)=D at *
 have i1:(decide (0<=(B.fst.fst:Int))&&decide ((B.fst.fst:Int)<(ws.length:Int)))=true:=by simp[b2]
 have i2:(decide (0<=(B.fst.fst:Int))&&decide ((B.fst.fst:Int)<(sp.length:Int)))=true:=by rw[p5];exact i1
 have i3:(decide (0<=(C.fst.fst:Int))&&decide ((C.fst.fst:Int)<(as_.length:Int)))=true:=by simp[b3]
 have hlt:(B.fst.fst:Int).toNat<sp.length:=by
  rw[p5]
  exact f7R _ _ b2
 have hm:List.getD sp (Int.toNat B.fst.fst) (zero (Ty.slice Ty.jnk))∈sp:=by
  rw[List.getD_eq_getElem?_getD,List.getElem?_eq_getElem hlt]
  exact List.getElem_mem hlt
 have hml:(List.getD sp (Int.toNat B.fst.fst) (zero (Ty.slice Ty.jnk))).length=as_.length:=p6 _ hm
 have i4:(decide (0<=(C.fst.fst:Int))&&decide ((C.fst.fst:Int)<((List.getD sp (Int.toNat B.fst.fst) (zero (Ty.slice Ty.jnk))).length:Int)))=true:=by rw[hml];exact i3
 have hset:∀(i:Nat) (r:List Unit),r.length<=22->d4w ws as_ (sp.set i r):=fun i r hr=>⟨hL.1,hL.2.1,by rw[List.length_set];exact hL.2.2.1,fun u hu=>by
  rcases List.mem_or_eq_of_mem_set hu with h1|h1
  ·exact hL.2.2.2 u h1
  ·rw[h1];exact hr⟩
 refine a1Z (fun _=>?_) (fun _=>?_)
 ·refine a0A fun g=>?_
  have hp:p141 (((),120,()),D.snd)=true:=a1s.2 c4
  refine a0H hp ?_
  refine a0H i1 ?_
  exact hk _ ⟨g.2 _ hp,by show(List.set ws _ _).length<=14;rw[List.length_set];exact hL.1,hL.2⟩
 refine a1Z (fun _=>?_) (fun _=>?_)
 ·refine a0H (b6D _ (by(repeat ((try dsimp only);first|assumption|(with_reducible first|apply a0b|apply a0h|apply a0d|apply a0c|apply a0f))))) ?_
  refine a0H i3 ?_
  exact hk _ ⟨by(repeat ((try dsimp only);first|assumption|(with_reducible first|apply a0b|apply a0h|apply a0d|apply a0c|apply a0f))),hL.1,by show(List.set as_ _ _).length<=22;rw[List.length_set];exact hL.2.1,hL.2.2⟩
 refine a1Z (fun _=>?_) (fun _=>?_)
 ·refine a0A fun g=>?_
  refine a0H i2 ?_
  have hp:p141 (((),60,()),D.snd)=true:=a1s.2 c4
  refine a0H hp ?_
  refine a0H i4 ?_
  exact hk _ ⟨g.2 _ hp,hL⟩
 refine a1Z (fun _=>?_) (fun _=>?_)
 ·refine a0H i2 ?_
  refine a0H (by rw[hml];simp;omega) ?_
  refine a0H i2 ?_
  refine hk _ ⟨c4,hset _ _ ?_⟩
  simp only[List.length_drop,List.length_take]
  rw[hml]
  omega
 refine a1Z (fun _=>?_) (fun _=>?_)
 ·refine a0H (by simp;omega) ?_
  refine hk _ ⟨c4,hL.1,hL.2.1,?_,fun r hr=>?_⟩
  ·simp only[List.length_drop,List.length_take];have:=hL.2.2.1;omega
  ·exact hL.2.2.2 r (List.mem_of_mem_take (List.mem_of_mem_drop hr))
 refine a1Z (fun _=>hk _ ⟨c4,d4w.nil⟩) (fun _=>?_)
 refine a1Z (fun _=>?_) (fun _=>?_)
 ·have hr:=d2l (((),(),(),()),D.snd.fst,((),(),(),()),((),(),(),()),ws,as_,sp,()) c4 ⟨p3,p4⟩ p5 hL.2.2.2
  refine a0H (a2C hr) ?_
  have hx:=a2T (((),((),())),(([],(0,(0,()))),(((),((),((),()))),(((),((),((),()))),([],([],([],()))))))) hr
  change a0g (a4C _).2.1 /\ (a4C _).2.2.2.2.2.1=as_ /\ (a4C _).2.2.2.2.1.length<=14 /\ (a4C _).2.2.2.2.2.2.1.length<=14 /\ _ at hx
  refine hk _ ⟨hx.1,hx.2.2.1,?_,hx.2.2.2.1,hx.2.2.2.2⟩
  refine Nat.le_trans (Nat.le_of_eq ?_) hL.2.1
  exact congrArg List.length hx.2.1
 refine a1Z (fun _=>?_) (fun _=>?_)
 ·refine a0H i2 ?_
  refine a0H i4 ?_
  exact hk _ ⟨c4,hL⟩
 refine a1Z (fun _=>?_) (fun _=>hk _ ⟨c4,hL⟩)
 refine a0H i2 ?_
 have hr:=d2m (((),(),B.fst.fst,((List.getD sp (Int.toNat B.fst.fst) (zero (Ty.slice Ty.jnk))).length:Int),0,()),D.snd.fst,((),(),(),()),((),(),(),()),ws,as_,sp,()) c4
  (by show 0<=(B.fst.fst:Int) /\ (B.fst.fst:Int)<(sp.length:Int);rw[p5];exact b2) rfl (by show((List.getD sp (Int.toNat B.fst.fst) (zero (Ty.slice Ty.jnk))).length:Int)<=22;rw[hml];omega) rfl
 refine a0H (a2C hr) ?_
 have hx:=a2T (((),((),())),(([],(0,(0,()))),(((),((),((),()))),(((),((),((),()))),([],([],([],()))))))) hr
 change a0g (a6M _).2.1 /\ (a6M _).2.2.2.2=(ws,as_,sp,())at hx
 have e1:=congrArg (·.1) hx.2
 have e2:=congrArg (·.2.1) hx.2
 have e3:=congrArg (·.2.2.1) hx.2
 dsimp only at e1 e2 e3
 refine hk _ ⟨hx.1,?_⟩
 dsimp only
 rw[e1,e2,e3]
 exact hL
theorem e9g:Nonempty (Ch I78 (unO O78) p78 fun x y=>Q78 x (e5Y O78 y)):=⟨⟨fun _=>((([],[],[],()),()),(e0q,())),fun _ _=>⟨a6K,d4w.nil⟩⟩⟩
theorem f7S:a2M Tryz.prog 78 (a3p true I78 (unO O78) p78 (fun x y=>Q78 x (e5Y O78 y)) e9g):=
 e6a e9d (N:=N78 p141 Q141 e141) (a2N ⟨d1X,trivial⟩) f9a a1w rfl (fun _=>rfl) (fun _=>rfl) (fun _=>rfl) e9f
abbrev a3u:Sg:=⟨[.ptr 0],[.box (a2O)]⟩
abbrev a4e:Sg:=⟨[.val (S27)],[.box (a2O)]⟩
def d2n (x:a3u.den):Bool:=false
def d2o (x:a3u.den):a4e.den:=a1d a4e
theorem e3s:a0q Tryz.prog (78,a0n true a3u a4e d2n d2o):=e5U e9d f9a fun x h=>by cases h
def a4f (x:a3u.den):Bool:=d7r x.2.1
def e0u (p:List Nat×List Int×List (List Nat)×Unit):Prop:=p.1.length<=14 /\ p.2.1.length<=22 /\ p.2.2.1.length<=14 /\ ∀r∈p.2.2.1,r.length<=22
def a6c (x:a3u.den) (y:a4e.den):Prop:=a0g y.2.1 /\ e0u y.1.1
theorem b6N:Nonempty (Ch a3u a4e a4f a6c):=⟨⟨fun _=>((([],[],[],()),()),(e0q,())),fun _ _=>⟨a6K,Nat.zero_le _,Nat.zero_le _,Nat.zero_le _,fun _ h=>by cases h⟩⟩⟩
theorem e3t (x:I78.den) (y:a4e.den):Q78 x (e5Y O78 y)↔a6c x y:=by
 obtain⟨⟨⟨ws,as_,sp,_⟩,_⟩,c,_⟩:=y
 have e2:∀r:List Nat,List.length (shp (.slice .jnk) r)=r.length:=fun r=>List.length_map _
 show a0g c /\ d4w (List.map (shp (.flt .f32)) ws) (List.map (shp (.int .i64)) as_) (List.map (shp (.slice .jnk)) sp)↔a0g c /\ (ws.length<=14 /\ as_.length<=22 /\ sp.length<=14 /\ ∀r∈sp,r.length<=22)
 unfold d4w
 simp only[List.length_map,List.mem_map,forall_exists_index,and_imp,forall_apply_eq_imp_iff₂,e2]
theorem d2p {P:Program} {f:Nat} {own:Bool} {I O:Sg} {ok:I.den->Bool} {Q Q':I.den->O.den->Prop} (e:∀x y,Q x y↔Q' x y) {hne:Nonempty (Ch I O ok Q)} {hne':Nonempty (Ch I O ok Q')} (h:a2M P f (a3p own I O ok Q hne)):a2M P f (a3p own I O ok Q' hne'):=by
 have e:Q=Q':=funext fun x=>funext fun y=>propext (e x y)
 subst e
 exact h
theorem e3u:a2M Tryz.prog 78 (a3p true a3u a4e a4f a6c b6N):=d2p (O:=a4e) e3t f7S
def amt (s:Nat):Nat:=bif flt .f32 s 0 then a5T .f32 s else s
theorem e0v (s:Nat):F94 (s,())=some (amt s,()):=by
 unfold F94 r94 amt
 cases flt .f32 s 0<;>rfl
theorem d2q (s:Nat):e5i (s,())=some (amt s,()):=by
 unfold e5i f3s amt
 cases flt .f32 s 0<;>rfl
def c0l (s:Nat):Bool:=flt .f32 (amt s) 1120403456||feq .f32 (amt s) 1120403456
def a3M (c:Nat×Nat):Bool:=c0l c.1&&c0l c.2
theorem a5a (c:Nat×Nat):F45 (c,())=some (a3M c,()):=by
 unfold F45 r45 a3M
 have e1:F94 (c.1,())=some (amt c.1,()):=e0v c.1
 have e2:F94 (c.2,())=some (amt c.2,()):=e0v c.2
 simp only[K94,G94,e1,e2,Option.isSome_some,Option.getD_some,cond_true]
 show(bif c0l c.1 then some (c0l c.2,())else some (false,()))=_
 cases c0l c.1<;>rfl
theorem e9h (c:Nat×Nat):F52 (c,())=some (a3M c,()):=by
 unfold F52 r52 a3M
 have e1:e5i (c.1,())=some (amt c.1,()):=d2q c.1
 have e2:e5i (c.2,())=some (amt c.2,()):=d2q c.2
 simp only[f0x,f0y,e1,e2,Option.isSome_some,Option.getD_some,cond_true]
 show(bif c0l c.1 then some (c0l c.2,())else some (false,()))=_
 cases c0l c.1<;>rfl
def atV (l:List (Nat×Nat)) (i:Nat):Nat×Nat:=l.getD i (0,0)
def a7I (l:List (Nat×Nat)):Bool:=a0w (fun i=>a3M (atV l i)) 0 l.length
def a0L (x a b:Int):Bool:=decide (a<=x)&&decide (x<=b)
theorem a2P (x a b:Int):F44 (x,a,b,())=some (a0L x a b,()):=by
 unfold F44 r44 a0L
 show(bif decide (x ≥ a)then some (decide (x<=b),())else some (false,()))=_
 show(bif decide (a<=x)then some (decide (x<=b),())else some (false,()))=_
 cases decide (a<=x)<;>rfl
theorem a5x (x a b:Int):F51 (x,a,b,())=some (a0L x a b,()):=a2P x a b
theorem e5t:Ieee.double.signWeight=2^63:=by decide
theorem c2o:Ieee.double.infRung=2047*2^52:=by decide
theorem c2p:Ieee.double.binade=2^52:=by decide
theorem e3v:Ieee.double.leastPlace=-1074:=by decide
theorem f7T:Ieee.double.fractionBits=52:=by decide
theorem a5P (neg:Bool) (K e:Nat) (h1:e*2^52+K<2047*2^52) (h2:(e=0 /\ K<=2^53)∨(2^52<=K /\ K<=2^53)) :
 ∃(m:Nat) (c:Nat),Ieee.double.read (Ieee.double.word neg (e*2^52+K)) = .number neg m ((c:Int)-1074) /\ m*2^c=K*2^e:=by
 have hr:Ieee.double.word neg (e*2^52+K)%Ieee.double.signWeight=e*2^52+K:=by
  unfold Ieee.Format.word
  rw[e5t]
  split<;>omega
 have hn:(Ieee.double.word neg (e*2^52+K)/Ieee.double.signWeight%2==1)=neg:=by
  unfold Ieee.Format.word
  rw[e5t]
  cases neg
  ·rw[if_neg (by decide)]
   have:(e*2^52+K)/2^63=0:=Nat.div_eq_of_lt (by omega)
   rw[this];rfl
  ·rw[if_pos rfl]
   have:(2^63+(e*2^52+K))/2^63=1:=by omega
   rw[this];rfl
 unfold Ieee.Format.read
 dsimp only
 rw[hr,hn,c2p,c2o,e3v]
 by_cases c1:e*2^52+K<2^52
 ·rw[if_pos c1]
  have:e=0:=by omega
  subst this
  exact⟨K,0,by simp,by simp⟩
 ·rw[if_neg c1,if_pos h1]
  by_cases c2:K<2^52
  ·exfalso;omega
  by_cases c3:K=2^53
  ·have e1:(e*2^52+K)/2^52=e+2:=by omega
   have e2:(e*2^52+K)%2^52=0:=by omega
   rw[e1,e2]
   refine⟨2^52,e+1,?_,?_⟩
   ·rw[show((-1074:Int)+((e+2-1:Nat):Int))=((e+1:Nat):Int)-1074 by omega,Nat.add_zero]
   ·rw[c3,<- Nat.pow_add,<- Nat.pow_add]
    congr 1
    omega
  ·have e1:(e*2^52+K)/2^52=e+1:=by omega
   have e2:(e*2^52+K)%2^52=K-2^52:=by omega
   rw[e1,e2]
   refine⟨K,e,?_,rfl⟩
   rw[show((-1074:Int)+((e+1-1:Nat):Int))=((e:Nat):Int)-1074 by omega,show 2^52+(K-2^52)=K by omega]
def VU (s:Bool) (m c:Nat):Int:=if s then -((m*2^c:Nat):Int)else((m*2^c:Nat):Int)
def isD (b:Nat) (v:Int):Prop:=∃(s:Bool) (m c:Nat),Ieee.double.read b = .number s m ((c:Int)-1074) /\ v=VU s m c
theorem c5e (s:Bool) (m c d:Nat) (h:d<=c):Ieee.signed s m (c-d)*((2^d:Nat):Int)=VU s m c:=by
 have e:m*2^(c-d)*2^d=m*2^c:=by rw[Nat.mul_assoc,<- Nat.pow_add];congr 2;omega
 unfold Ieee.signed VU
 rw[Nat.shiftLeft_eq]
 split
 ·rw[Int.neg_mul,<- Int.natCast_mul,e]
 ·rw[<- Int.natCast_mul,e]
theorem e3w (a b k:Int) (hk:0<k):compare (a*k) (b*k)=compare a b:=by
 have h1:a*k<b*k↔a<b:=Int.mul_lt_mul_right hk
 have h2:b*k<a*k↔b<a:=Int.mul_lt_mul_right hk
 rw[Int.compare_eq_ite_lt,Int.compare_eq_ite_lt]
 simp only[h1,h2]
theorem e3x (s t:Bool) (m n c d:Nat):Ieee.Datum.order (.number s m ((c:Int)-1074)) (.number t n ((d:Int)-1074))=some (compare (VU s m c) (VU t n d)):=by
 unfold Ieee.Datum.order
 dsimp only
 have e1:(((c:Int)-1074)-min ((c:Int)-1074) ((d:Int)-1074)).toNat=c-min c d:=by omega
 have e2:(((d:Int)-1074)-min ((c:Int)-1074) ((d:Int)-1074)).toNat=d-min c d:=by omega
 rw[e1,e2,<- c5e s m c (min c d) (Nat.min_le_left _ _),<- c5e t n d (min c d) (Nat.min_le_right _ _),e3w]
 exact Int.natCast_pos.2 (Nat.two_pow_pos _)
theorem g0Z {a b:Nat} {x y:Int} (ha:isD a x) (hb:isD b y):FloatKind.f64.format.order a b=some (compare x y):=by
 obtain⟨s,m,c,h1,rfl⟩:=ha
 obtain⟨t,n,d,h2,rfl⟩:=hb
 show(Ieee.double.read a).order (Ieee.double.read b)=_
 rw[h1,h2]
 exact e3x s t m n c d
set_option exponentiation.threshold 2000
theorem d7A (neg:Bool) (M c v:Nat) (h0:0<M) (h:M*2^c=v*2^1074) (hv53:v<2^53) :
 ∃K e:Nat,Ieee.double.nearest neg M ((c:Int)-1074)=Ieee.double.word neg (e*2^52+K) /\ e*2^52+K<2047*2^52 /\ ((e=0 /\ K<=2^53)∨(2^52<=K /\ K<=2^53)) /\ K*2^e=M*2^c:=by
 have l1:2^M.log2<=M:=Nat.log2_self_le (by omega)
 have l2:M<2^(M.log2+1):=Nat.lt_log2_self
 have hlc:M.log2+c<1127:=by
  have h1:2^(M.log2+c)<=M*2^c:=by rw[Nat.pow_add];exact Nat.mul_le_mul_right _ l1
  have h2:v*2^1074<2^(53+1074):=by
   rw[Nat.pow_add 2 53 1074];exact Nat.mul_lt_mul_of_pos_right hv53 (Nat.two_pow_pos _)
  rw[<- h]at h2
  exact(Nat.pow_lt_pow_iff_right (a:=2) (by decide)).1 (Nat.lt_of_le_of_lt h1 h2)
 unfold Ieee.Format.nearest
 rw[if_neg (by omega),f7T,e3v,c2p,c2o]
 dsimp only
 generalize hL:M.log2=L at *
 by_cases hs:L<=52
 ·
  by_cases hd:L+c<52
  ·have hlast:max ((c:Int)-1074+(L:Int)-(52:Nat)) (-1074)=-1074:=by omega
   rw[hlast]
   have e1:((c:Int)-1074 - -1074).toNat=c:=by omega
   have e2:(-1074-((c:Int)-1074)).toNat=0:=by omega
   have e3:((-1074:Int) - -1074).toNat=0:=by decide
   rw[e1,e2,e3,a5A,Nat.shiftLeft_eq]
   have hk:M*2^c<2^53:=by
    calc M*2^c<2^(L+1)*2^c:=Nat.mul_lt_mul_of_pos_right l2 (Nat.two_pow_pos _)
     _=2^(L+1+c):=by rw[<- Nat.pow_add]
     _<=2^53:=Nat.pow_le_pow_right (by decide) (by omega)
   have hx:0*2^52+M*2^c<2047*2^52:=by rw[Nat.zero_mul,Nat.zero_add];exact Nat.lt_trans hk (by decide)
   refine⟨M*2^c,0,?_,hx,.inl ⟨Eq.refl 0,Nat.le_of_lt hk⟩,?_⟩
   ·rw[Nat.min_eq_left (Nat.le_of_lt hx)]
   ·rw[Nat.pow_zero,Nat.mul_one]
  ·have hlast:max ((c:Int)-1074+(L:Int)-(52:Nat)) (-1074)=(c:Int)-1074+(L:Int)-52:=by omega
   rw[hlast]
   have e1:((c:Int)-1074-((c:Int)-1074+(L:Int)-52)).toNat=52-L:=by omega
   have e2:(((c:Int)-1074+(L:Int)-52)-((c:Int)-1074)).toNat=0:=by omega
   have e3:(((c:Int)-1074+(L:Int)-52) - -1074).toNat=c+L-52:=by omega
   rw[e1,e2,e3,a5A,Nat.shiftLeft_eq]
   have hk1:M*2^(52-L)<2^53:=by
    calc M*2^(52-L)<2^(L+1)*2^(52-L):=Nat.mul_lt_mul_of_pos_right l2 (Nat.two_pow_pos _)
     _=2^(L+1+(52-L)):=by rw[<- Nat.pow_add]
     _=2^53:=by congr 1;omega
   have hk2:2^52<=M*2^(52-L):=by
    calc 2^52=2^(L+(52-L)):=by congr 1;omega
     _=2^L*2^(52-L):=by rw[<- Nat.pow_add]
     _<=M*2^(52-L):=Nat.mul_le_mul_right _ l1
   have hv:M*2^(52-L)*2^(c+L-52)=M*2^c:=by
    rw[Nat.mul_assoc,<- Nat.pow_add]
    congr 2
    omega
   refine⟨M*2^(52-L),c+L-52,?_,by generalize M*2^(52-L)=q at *;clear l1 l2;omega,.inr ⟨hk2,Nat.le_of_lt hk1⟩,hv⟩
   rw[Nat.min_eq_left (by omega)]
 ·
  have hlast:max ((c:Int)-1074+(L:Int)-(52:Nat)) (-1074)=(c:Int)-1074+(L:Int)-52:=by omega
  rw[hlast]
  have e1:((c:Int)-1074-((c:Int)-1074+(L:Int)-52)).toNat=0:=by omega
  have e2:(((c:Int)-1074+(L:Int)-52)-((c:Int)-1074)).toNat=L-52:=by omega
  have e3:(((c:Int)-1074+(L:Int)-52) - -1074).toNat=c+L-52:=by omega
  rw[e1,e2,e3,Nat.shiftLeft_zero]
  have hdvd:2^(L-52) ∣ M:=by
   have h1:2^(L-52)*2^c ∣ M*2^c:=by
    rw[h,<- Nat.pow_add]
    exact Nat.dvd_trans (Nat.pow_dvd_pow 2 (by omega)) (Nat.dvd_mul_left _ _)
   exact Nat.dvd_of_mul_dvd_mul_right (Nat.two_pow_pos c) h1
  have hm0:M%2^(L-52)=0:=Nat.mod_eq_zero_of_dvd hdvd
  have hg:0<2^(L-52):=Nat.two_pow_pos _
  have hcut:Ieee.Toward.even.cut neg M (L-52)=M/2^(L-52):=by
   unfold Ieee.Toward.cut
   dsimp only
   rw[hL,Nat.min_eq_left (by omega),Nat.one_shiftLeft,hm0]
   simp
  rw[hcut]
  have hq1:M/2^(L-52)<2^53:=by
   rw[Nat.div_lt_iff_lt_mul hg,<- Nat.pow_add]
   have:53+(L-52)=L+1:=by omega
   rw[this];exact l2
  have hq2:2^52<=M/2^(L-52):=by
   rw[Nat.le_div_iff_mul_le hg,<- Nat.pow_add]
   have:52+(L-52)=L:=by omega
   rw[this];exact l1
  have hdm:=Nat.div_add_mod M (2^(L-52))
  rw[hm0,Nat.add_zero]at hdm
  generalize M/2^(L-52)=q at *
  have hp:2^(c+L-52)=2^(L-52)*2^c:=by
   rw[<- Nat.pow_add]
   congr 1
   omega
  refine⟨q,c+L-52,?_,by omega,.inr ⟨by omega,by omega⟩,?_⟩
  ·rw[Nat.min_eq_left (by omega)]
  ·rw[hp,<- Nat.mul_assoc,Nat.mul_comm q,hdm]
end Go.Proofs.YtjomnmoekchfeaaGreatDoor.AM
