/- Texts of one proof, joined: an abstract machine for the program, its functions evaluated, plain lemmas. Conditions: those that each lemma names. -/
import Derived.Test.YtjomnmoekchfeaaGreatDoorM3
import Derived.Test.YtjomnmoekchfeaaGreatDoorM2
set_option linter.unusedVariables false
set_option linter.unusedSimpArgs false
namespace Go.Proofs.YtjomnmoekchfeaaGreatDoor.AM
open Go Go.Proofs
set_option maxRecDepth 100000
set_option maxHeartbeats 0
abbrev A8:Ty:=.cons (.slice (.int .u8)) (.nil)
abbrev R8:Ty:=.cons (.bool) (.nil)
noncomputable def Γ8:Env:=a0t tab eqs [] 6 [.tmp 2] [] [] [] [] []
def r8 (x:Den A8):Option (Den R8):=
 some ((decide ((↑(List.length x.1):Int)>1048576),()))
theorem ev8 (x) :a0E (Γ8) (a0e Tryz.f8) (a1f R8) (a0V A8 x) []=r8 x:=by kernel_rfl
def F8 (x:Den A8):Option (Den R8):=r8 x
def K8 (x:Den A8):Bool:=(F8 x).isSome
def G8 (x:Den A8):Den R8:=(F8 x).getD (zero R8)
theorem g0j:a0q Tryz.prog (8,a0a A8 R8 K8 G8):=a0s (a0j mixed a0l a0k .nil) (a0O Tryz.func8 rfl rfl rfl (by kernel_rfl) (a0m (by kernel_rfl))) fun x=>ev8 x
abbrev A44:Ty:=.cons (.int .i64) (.cons (.int .i64) (.cons (.int .i64) (.nil)))
abbrev R44:Ty:=.cons (.bool) (.nil)
noncomputable def g0k:Env:=a0t tab eqs [] 15 [.tmp 6] [] [] [] [] []
def r44 (x:Den A44):Option (Den R44):=
 bif (decide (x.1 ≥ x.2.1))then
 some ((decide (x.1<=x.2.2.1),()))
 else
 some ((false,()))
theorem g0l (x) :a0E (g0k) (a0e Tryz.f44) (a1f R44) (a0V A44 x) []=r44 x:=by kernel_rfl
def F44 (x:Den A44):Option (Den R44):=r44 x
def K44 (x:Den A44):Bool:=(F44 x).isSome
def G44 (x:Den A44):Den R44:=(F44 x).getD (zero R44)
theorem a6H:a0q Tryz.prog (44,a0a A44 R44 K44 G44):=a0s (a0j mixed a0l a0k .nil) (a0O Tryz.func44 rfl rfl rfl (by kernel_rfl) (a0m (by kernel_rfl))) fun x=>g0l x
abbrev c1H:Ty:=.cons (.flt .f32) (.nil)
abbrev c7E:Ty:=.cons (.bool) (.nil)
noncomputable def f4D:Env:=a0t tab eqs [] 9 [.tmp 2] [] [] [] [] []
def f4E (x:Den c1H):Option (Den c7E):=
 bif (fgt .f32 x.1 0||feq .f32 x.1 0)then
 some ((flt .f32 x.1 1112014848||feq .f32 x.1 1112014848,()))
 else
 some ((false,()))
theorem f4F (x) :a0E (f4D) (a0e Tryz.f107) (a1f c7E) (a0V c1H x) []=f4E x:=by kernel_rfl
def e7k (x:Den c1H):Option (Den c7E):=f4E x
def d4a (x:Den c1H):Bool:=(e7k x).isSome
def d4b (x:Den c1H):Den c7E:=(e7k x).getD (zero c7E)
theorem c9Z:a0q Tryz.prog (107,a0a c1H c7E d4a d4b):=a0s (a0j mixed a0l a0k .nil) (a0O Tryz.func107 rfl rfl rfl (by kernel_rfl) (a0m (by kernel_rfl))) fun x=>f4F x
abbrev c3U:Ty:=.cons (.flt .f32) (.nil)
abbrev d0a:Ty:=.cons (.bool) (.nil)
noncomputable def f4G (k107 g107) :Env:=a0t tab eqs [(107,a0a c1H c7E k107 g107)] 6 [.tmp 2] [] [] [] [] []
def f4H (k107:KA c1H) (g107:GA c1H c7E) (x:Den c3U):Option (Den d0a):=
 bif (k107 x)then
 some ((!(g107 x).1,()))
 else
 none
theorem f4I (k107 g107 x) :a0E (f4G k107 g107) (a0e Tryz.f158) (a1f d0a) (a0V c3U x) []=f4H k107 g107 x:=by kernel_rfl
def e7l (x:Den c3U):Option (Den d0a):=f4H d4a d4b x
def d6a (x:Den c3U):Bool:=(e7l x).isSome
def d6b (x:Den c3U):Den d0a:=(e7l x).getD (zero d0a)
theorem d9w:a0q Tryz.prog (158,a0a c3U d0a d6a d6b):=a0s (a0j mixed a0l a0k (.cons c9Z .nil)) (a0O Tryz.func158 rfl rfl rfl (by kernel_rfl) (a0m (by kernel_rfl))) fun x=>f4I d4a d4b x
abbrev d6c:Sg:=⟨[.val (.slice (.flt .f32)),.fnv 158 []],[]⟩
abbrev d9x:Sg:=⟨[.val (.int .i64)],[]⟩
abbrev a4M:Type:=(((List (Den (.flt .f32)))×(Unit×(Int×(Int×Unit))))×Unit)
def b4M:ShS:=⟨[(0,.one (.sl (.flt .f32))),(1,.one (.fn 158 [])),(7,.one (.int .i64)),(8,.one (.int .i64))],[],0,0⟩
abbrev b8H:Type:=(Unit×Unit)
def b4N:ShS:=⟨[],[],0,0⟩
abbrev b8I:Type:=((Int×Unit)×Unit)
def b4O:ShS:=⟨[(4,.one (.int .i64))],[],0,0⟩
noncomputable def e7m (k158 g158 kl2 xl2 tl2 yl2) :Env:=a0t tab eqs [(158,a0a c3U d0a k158 g158)] 19 [.tmp 4] [] [] [(2,a1U [0,1,7,8] [] 0 [] [] b4M b4N b4O kl2 tl2 xl2 yl2)] [] []
noncomputable def d0b:Code:=(a0u (a0e Tryz.f210)).getD 0 .skip
def b8J (k158:KA c3U) (g158:GA c3U d0a) (f:a4M->Option (b8H⊕b8I)) (v:a4M):Option (b8H⊕b8I):=
 bif (decide (v.1.2.2.2.1<v.1.2.2.1))then
 bif (decide (0<=v.1.2.2.2.1)&&decide (v.1.2.2.2.1<(↑(List.length v.1.1):Int)))then
 let v0:=(List.getD v.1.1 (Int.toNat v.1.2.2.2.1) (zero (Ty.flt .f32)))
 bif (k158 (v0,()))then
 bif (g158 (v0,())).1 then
 some (Sum.inr ((v.1.2.2.2,())))
 else
 f (((v.1.1,(),v.1.2.2.1,(IntKind.wrap .i64 (v.1.2.2.2.1+1)),()),()))
 else
 none
 else
 none
 else
 some (Sum.inl (((),())))
theorem d6d (k158 g158 kl2 xl2 tl2 yl2 f v) :EBk (e7m k158 g158 kl2 xl2 tl2 yl2) d0b (a0B [0,1,7,8] [] 0 [] [] (atS b4M f) (a5H b4N b4O)) (mkS b4M v)=b8J k158 g158 f v:=by kernel_rfl
def c3V (v:a4M):Nat:=v.1.1.length+v.1.2.2.1.natAbs+v.1.2.2.2.1.natAbs+1000
def b8K (v:a4M):Option (b8H⊕b8I):=a1u (b8J d6a d6b) (c3V v) v
def b4P (v:a4M):Bool:=(b8K v).isSome
def b4Q (v:a4M):Bool:=isR (b8K v)
def c1I (v:a4M):b8H:=xOf ((),()) (b8K v)
def b4R (v:a4M):b8I:=yOf ((0,()),()) (b8K v)
def f4J (k158:KA c3U) (g158:GA c3U d0a) (kl2:a4M->Bool) (xl2:a4M->b8H) (tl2:a4M->Bool) (yl2:a4M->b8I) (x:d6c.den):Option (d9x.den):=
 let w0:=((x.1.1,(),(↑(List.length x.1.1):Int),0,()),())
 bif (kl2 w0)then
 bif (tl2 w0)then
 some (yl2 w0)
 else
 some (((-1,()),()))
 else
 none
theorem f4K (k158 g158 kl2 xl2 tl2 yl2 x) :a1N (e7m k158 g158 kl2 xl2 tl2 yl2) (a0e Tryz.f210) d6c d9x x=f4J k158 g158 kl2 xl2 tl2 yl2 x:=by kernel_rfl
def f0U (x:d6c.den):Option (d9x.den):=f4J d6a d6b b4P c1I b4Q b4R x
def f0V (x:d6c.den):Bool:=(f0U x).isSome
def f0W (x:d6c.den):d9x.den:=(f0U x).getD (a1d d9x)
theorem e7n:a0q Tryz.prog (210,a0n false d6c d9x f0V f0W):=a1k (a0j mixed a0l a0k (.cons d9w .nil)) (a0O Tryz.func210 rfl rfl rfl (by kernel_rfl) (a0D (l:=[d0b]) (by kernel_rfl) (.cons (a0r rfl (a0x (sh:=b4M) (shX:=b4N) (shR:=b4O) (fun f v=>d6d d6a d6b b4P c1I b4Q b4R f v) c3V ((),()) ((0,()),()))) (.nil)))) false fun x=>f4K d6a d6b b4P c1I b4Q b4R x
abbrev c1J:Sg:=⟨[.val (.slice (.flt .f32)),.fnv 158 []],[]⟩
abbrev d0c:Sg:=⟨[.val (.bool)],[]⟩
noncomputable def f4L (k210 g210 k158 g158) :Env:=a0t tab eqs [(210,a0n false d6c d9x k210 g210),(158,a0a c3U d0a k158 g158)] 9 [.tmp 4] [] [] [] [] []
def f4M (k210:KI d6c) (g210:GI d6c d9x) (k158:KA c3U) (g158:GA c3U d0a) (x:c1J.den):Option (d0c.den):=
 bif (k210 ((x.1.1,(),()),()))then
 some (((decide ((g210 ((x.1.1,(),()),())).1.1 ≥ 0),()),()))
 else
 none
theorem f4N (k210 g210 k158 g158 x) :a1N (f4L k210 g210 k158 g158) (a0e Tryz.f157) c1J d0c x=f4M k210 g210 k158 g158 x:=by kernel_rfl
def e7o (x:c1J.den):Option (d0c.den):=f4M f0V f0W d6a d6b x
def c6w (x:c1J.den):Bool:=(e7o x).isSome
def c6x (x:c1J.den):d0c.den:=(e7o x).getD (a1d d0c)
theorem e7p:a0q Tryz.prog (157,a0n false c1J d0c c6w c6x):=a1k (a0j mixed a0l a0k (.cons e7n (.cons d9w .nil))) (a0O Tryz.func157 rfl rfl rfl (by kernel_rfl) (a0m (by kernel_rfl))) false fun x=>f4N f0V f0W d6a d6b x
abbrev A90:Ty:=.cons (S27) (.nil)
abbrev R90:Ty:=.cons (.bool) (.nil)
abbrev a9l:Type:=((Unit×((List (Den (.flt .f32)))×(Int×(Int×Unit))))×(((List (Den (.flt .f32)))×((List (Den (.int .i64)))×((List (Den (.slice (.flt .f32))))×Unit)))×Unit))
def c3W:ShS:=⟨[(1,.one (.ptr 0 0)),(31,.one (.sl (.flt .f32))),(32,.one (.int .i64)),(33,.one (.int .i64))],[(0,.box [.sl (.flt .f32),.sl (.int .i64),.sl (.slice (.flt .f32))])],1,0⟩
abbrev d0d:Type:=((Unit×Unit)×(((List (Den (.flt .f32)))×((List (Den (.int .i64)))×((List (Den (.slice (.flt .f32))))×Unit)))×Unit))
def c1K:ShS:=⟨[(1,.one (.ptr 0 0))],[(0,.box [.sl (.flt .f32),.sl (.int .i64),.sl (.slice (.flt .f32))])],1,0⟩
abbrev d0e:Type:=((Bool×Unit)×Unit)
def c1L:ShS:=⟨[(2,.one (.bool))],[],0,0⟩
abbrev a4N:Type:=((Unit×((List (Den (.int .i64)))×(Int×(Int×Unit))))×(((List (Den (.flt .f32)))×((List (Den (.int .i64)))×((List (Den (.slice (.flt .f32))))×Unit)))×Unit))
def b4S:ShS:=⟨[(1,.one (.ptr 0 0)),(62,.one (.sl (.int .i64))),(63,.one (.int .i64)),(64,.one (.int .i64))],[(0,.box [.sl (.flt .f32),.sl (.int .i64),.sl (.slice (.flt .f32))])],1,0⟩
abbrev b8L:Type:=((Unit×Unit)×(((List (Den (.flt .f32)))×((List (Den (.int .i64)))×((List (Den (.slice (.flt .f32))))×Unit)))×Unit))
def b4T:ShS:=⟨[(1,.one (.ptr 0 0))],[(0,.box [.sl (.flt .f32),.sl (.int .i64),.sl (.slice (.flt .f32))])],1,0⟩
abbrev b8M:Type:=((Bool×Unit)×Unit)
def b4U:ShS:=⟨[(2,.one (.bool))],[],0,0⟩
abbrev a4O:Type:=((Unit×((List (Den (.slice (.flt .f32))))×(Int×(Int×Unit))))×(((List (Den (.flt .f32)))×((List (Den (.int .i64)))×((List (Den (.slice (.flt .f32))))×Unit)))×Unit))
def b4V:ShS:=⟨[(1,.one (.ptr 0 0)),(99,.one (.sl (.slice (.flt .f32)))),(100,.one (.int .i64)),(101,.one (.int .i64))],[(0,.box [.sl (.flt .f32),.sl (.int .i64),.sl (.slice (.flt .f32))])],1,0⟩
abbrev b8N:Type:=(Unit×Unit)
def b4W:ShS:=⟨[],[],0,0⟩
abbrev b8O:Type:=((Bool×Unit)×Unit)
def b4X:ShS:=⟨[(2,.one (.bool))],[],0,0⟩
noncomputable def f0X (k44 g44 k157 g157 kl4 xl4 tl4 yl4 kl10 xl10 tl10 yl10 kl18 xl18 tl18 yl18) :Env:=a0t tab eqs [(44,a0a A44 R44 k44 g44),(157,a0n false c1J d0c k157 g157)] 116 [.tmp 2] [] [] [(4,a1U [1,31,32,33] [] 0 [1] [] c3W c1K c1L kl4 tl4 xl4 yl4),(10,a1U [1,62,63,64] [] 2 [1] [] b4S b4T b4U kl10 tl10 xl10 yl10),(18,a1U [1,99,100,101] [] 4 [] [] b4V b4W b4X kl18 tl18 xl18 yl18)] [] []
noncomputable def d9y:Code:=(a0u (a0e Tryz.f90)).getD 0 .skip
noncomputable def d0f:Code:=(a0u (a0e Tryz.f90)).getD 1 .skip
noncomputable def d0g:Code:=(a0u (a0e Tryz.f90)).getD 2 .skip
def b8P (k44:KA A44) (g44:GA A44 R44) (k157:KI c1J) (g157:GI c1J d0c) (f:a4O->Option (b8N⊕b8O)) (v:a4O):Option (b8N⊕b8O):=
 bif (decide (v.1.2.2.2.1<v.1.2.2.1))then
 bif (decide (0<=v.1.2.2.2.1)&&decide (v.1.2.2.2.1<(↑(List.length v.1.2.1):Int)))then
 let v0:=(List.getD v.1.2.1 (Int.toNat v.1.2.2.2.1) (zero (Ty.slice (Ty.flt .f32))))
 bif ((↑(List.length v0):Int) != (↑(List.length v.2.1.2.1):Int))then
 some (Sum.inr (((false,()),())))
 else
 bif (k157 ((v0,(),()),()))then
 bif (g157 ((v0,(),()),())).1.1 then
 some (Sum.inr (((false,()),())))
 else
 f ((((),v.1.2.1,v.1.2.2.1,(IntKind.wrap .i64 (v.1.2.2.2.1+1)),()),v.2))
 else
 none
 else
 none
 else
 some (Sum.inl (((),())))
theorem d6e (k44 g44 k157 g157 kl4 xl4 tl4 yl4 kl10 xl10 tl10 yl10 kl18 xl18 tl18 yl18 f v) :EBk (f0X k44 g44 k157 g157 kl4 xl4 tl4 yl4 kl10 xl10 tl10 yl10 kl18 xl18 tl18 yl18) d0g (a0B [1,99,100,101] [] 4 [] [] (atS b4V f) (a5H b4W b4X)) (mkS b4V v)=b8P k44 g44 k157 g157 f v:=by kernel_rfl
def d0h (v:a4O):Nat:=v.1.2.1.length+v.1.2.2.1.natAbs+v.1.2.2.2.1.natAbs+v.2.1.1.length+v.2.1.2.1.length+v.2.1.2.2.1.length+1000
def b8Q (v:a4O):Option (b8N⊕b8O):=a1u (b8P K44 G44 c6w c6x) (d0h v) v
def a8l (v:a4O):Bool:=(b8Q v).isSome
def a8m (v:a4O):Bool:=isR (b8Q v)
def b0P (v:a4O):b8N:=xOf ((),()) (b8Q v)
def a8n (v:a4O):b8O:=yOf ((false,()),()) (b8Q v)
def b8R (k44:KA A44) (g44:GA A44 R44) (k157:KI c1J) (g157:GI c1J d0c) (f:a4N->Option (b8L⊕b8M)) (v:a4N):Option (b8L⊕b8M):=
 bif (decide (v.1.2.2.2.1<v.1.2.2.1))then
 bif (decide (0<=v.1.2.2.2.1)&&decide (v.1.2.2.2.1<(↑(List.length v.1.2.1):Int)))then
 bif (decide (v.1.2.2.2.1>0))then
 let v0:=(IntKind.wrap .i64 (v.1.2.2.2.1-1))
 bif (decide (0<=v0)&&decide (v0<(↑(List.length v.2.1.2.1):Int)))then
 let w0:=(zero (Ty.int IntKind.i64))
 bif (decide ((List.getD v.1.2.1 (Int.toNat v.1.2.2.2.1) w0)<=(List.getD v.2.1.2.1 (Int.toNat v0) w0)))then
 some (Sum.inr (((false,()),())))
 else
 f ((((),v.1.2.1,v.1.2.2.1,(IntKind.wrap .i64 (v.1.2.2.2.1+1)),()),v.2))
 else
 none
 else
 f ((((),v.1.2.1,v.1.2.2.1,(IntKind.wrap .i64 (v.1.2.2.2.1+1)),()),v.2))
 else
 none
 else
 some (Sum.inl ((((),()),v.2)))
theorem d6f (k44 g44 k157 g157 kl4 xl4 tl4 yl4 kl10 xl10 tl10 yl10 kl18 xl18 tl18 yl18 f v) :EBk (f0X k44 g44 k157 g157 kl4 xl4 tl4 yl4 kl10 xl10 tl10 yl10 kl18 xl18 tl18 yl18) d0f (a0B [1,62,63,64] [] 2 [1] [] (atS b4S f) (a5H b4T b4U)) (mkS b4S v)=b8R k44 g44 k157 g157 f v:=by kernel_rfl
def d0i (v:a4N):Nat:=v.1.2.1.length+v.1.2.2.1.natAbs+v.1.2.2.2.1.natAbs+v.2.1.1.length+v.2.1.2.1.length+v.2.1.2.2.1.length+1000
def b8S (v:a4N):Option (b8L⊕b8M):=a1u (b8R K44 G44 c6w c6x) (d0i v) v
def a8o (v:a4N):Bool:=(b8S v).isSome
def a8p (v:a4N):Bool:=isR (b8S v)
def a8q (v:a4N):b8L:=xOf (((),()),(([],([],([],()))),())) (b8S v)
def a8r (v:a4N):b8M:=yOf ((false,()),()) (b8S v)
def d0j (k44:KA A44) (g44:GA A44 R44) (k157:KI c1J) (g157:GI c1J d0c) (f:a9l->Option (d0d⊕d0e)) (v:a9l):Option (d0d⊕d0e):=
 bif (decide (v.1.2.2.2.1<v.1.2.2.1))then
 bif (decide (0<=v.1.2.2.2.1)&&decide (v.1.2.2.2.1<(↑(List.length v.1.2.1):Int)))then
 let w0:=(zero (Ty.flt .f32))
 let v0:=(List.getD v.1.2.1 (Int.toNat v.1.2.2.2.1) w0)
 bif (fgt .f32 v0 0)then
 bif (!(flt .f32 v0 1120403456||feq .f32 v0 1120403456))then
 some (Sum.inr (((false,()),())))
 else
 bif (decide (v.1.2.2.2.1>0))then
 let v1:=(IntKind.wrap .i64 (v.1.2.2.2.1-1))
 bif (decide (0<=v1)&&decide (v1<(↑(List.length v.2.1.1):Int)))then
 bif (!fgt .f32 v0 (List.getD v.2.1.1 (Int.toNat v1) w0))then
 some (Sum.inr (((false,()),())))
 else
 f ((((),v.1.2.1,v.1.2.2.1,(IntKind.wrap .i64 (v.1.2.2.2.1+1)),()),v.2))
 else
 none
 else
 f ((((),v.1.2.1,v.1.2.2.1,(IntKind.wrap .i64 (v.1.2.2.2.1+1)),()),v.2))
 else
 some (Sum.inr (((false,()),())))
 else
 none
 else
 some (Sum.inl ((((),()),v.2)))
theorem e2u (k44 g44 k157 g157 kl4 xl4 tl4 yl4 kl10 xl10 tl10 yl10 kl18 xl18 tl18 yl18 f v) :EBk (f0X k44 g44 k157 g157 kl4 xl4 tl4 yl4 kl10 xl10 tl10 yl10 kl18 xl18 tl18 yl18) d9y (a0B [1,31,32,33] [] 0 [1] [] (atS c3W f) (a5H c1K c1L)) (mkS c3W v)=d0j k44 g44 k157 g157 f v:=by kernel_rfl
def e2v (v:a9l):Nat:=v.1.2.1.length+v.1.2.2.1.natAbs+v.1.2.2.2.1.natAbs+v.2.1.1.length+v.2.1.2.1.length+v.2.1.2.2.1.length+1000
def d0k (v:a9l):Option (d0d⊕d0e):=a1u (d0j K44 G44 c6w c6x) (e2v v) v
def b2B (v:a9l):Bool:=(d0k v).isSome
def b2C (v:a9l):Bool:=isR (d0k v)
def b2D (v:a9l):d0d:=xOf (((),()),(([],([],([],()))),())) (d0k v)
def b2E (v:a9l):d0e:=yOf ((false,()),()) (d0k v)
def r90 (k44:KA A44) (g44:GA A44 R44) (k157:KI c1J) (g157:GI c1J d0c) (kl4:a9l->Bool) (xl4:a9l->d0d) (tl4:a9l->Bool) (yl4:a9l->d0e) (kl10:a4N->Bool) (xl10:a4N->b8L) (tl10:a4N->Bool) (yl10:a4N->b8M) (kl18:a4O->Bool) (xl18:a4O->b8N) (tl18:a4O->Bool) (yl18:a4O->b8O) (x:Den A90):Option (Den R90):=
 let w1:=(↑(List.length x.1.1):Int)
 bif (k44 (w1,1,12,()))then
 bif (!(g44 (w1,1,12,())).1)then
 some ((false,()))
 else
 let w4:=((↑(List.length x.1.2.1):Int),2,24,())
 bif (k44 w4)then
 bif (!(g44 w4).1)then
 some ((false,()))
 else
 bif ((↑(List.length x.1.2.2.1):Int) != w1)then
 some ((false,()))
 else
 bif (kl4 (((),x.1.1,w1,0,()),x))then
 bif (tl4 (((),x.1.1,w1,0,()),x))then
 some (yl4 (((),x.1.1,w1,0,()),x)).1
 else
 let v6:=(xl4 (((),x.1.1,w1,0,()),x))
 let w0:=(((),v6.2.1.2.1,(↑(List.length v6.2.1.2.1):Int),0,()),v6.2)
 bif (kl10 w0)then
 bif (tl10 w0)then
 some (yl10 w0).1
 else
 let v9:=(xl10 w0)
 let w3:=(↑(List.length v9.2.1.2.1):Int)
 bif (decide (0<=0)&&decide (0<w3))then
 let w5:=(zero (Ty.int IntKind.i64))
 bif ((List.getD v9.2.1.2.1 (Int.toNat 0) w5) != 0)then
 some ((false,()))
 else
 let v11:=(IntKind.wrap .i64 (w3-1))
 bif (decide (0<=v11)&&decide (v11<w3))then
 bif ((List.getD v9.2.1.2.1 (Int.toNat v11) w5) != 180)then
 some ((false,()))
 else
 let w2:=(((),v9.2.1.2.2.1,(↑(List.length v9.2.1.2.2.1):Int),0,()),v9.2)
 bif (kl18 w2)then
 bif (tl18 w2)then
 some (yl18 w2).1
 else
 some ((true,()))
 else
 none
 else
 none
 else
 none
 else
 none
 else
 none
 else
 none
 else
 none
theorem g0m (k44 g44 k157 g157 kl4 xl4 tl4 yl4 kl10 xl10 tl10 yl10 kl18 xl18 tl18 yl18 x) :a0E (f0X k44 g44 k157 g157 kl4 xl4 tl4 yl4 kl10 xl10 tl10 yl10 kl18 xl18 tl18 yl18) (a0e Tryz.f90) (a1f R90) (a0V A90 x) []=r90 k44 g44 k157 g157 kl4 xl4 tl4 yl4 kl10 xl10 tl10 yl10 kl18 xl18 tl18 yl18 x:=by kernel_rfl
def F90 (x:Den A90):Option (Den R90):=r90 K44 G44 c6w c6x b2B b2D b2C b2E a8o a8q a8p a8r a8l b0P a8m a8n x
def K90 (x:Den A90):Bool:=(F90 x).isSome
def G90 (x:Den A90):Den R90:=(F90 x).getD (zero R90)
theorem e7q:a0q Tryz.prog (90,a0a A90 R90 K90 G90):=a0s (a0j mixed a0l a0k (.cons a6H (.cons e7p .nil))) (a0O Tryz.func90 rfl rfl rfl (by kernel_rfl) (a0D (l:=[d9y,d0f,d0g]) (by kernel_rfl) (.cons (a0r rfl (a0x (sh:=c3W) (shX:=c1K) (shR:=c1L) (fun f v=>e2u K44 G44 c6w c6x b2B b2D b2C b2E a8o a8q a8p a8r a8l b0P a8m a8n f v) e2v (((),()),(([],([],([],()))),())) ((false,()),()))) (.cons (a0r rfl (a0x (sh:=b4S) (shX:=b4T) (shR:=b4U) (fun f v=>d6f K44 G44 c6w c6x b2B b2D b2C b2E a8o a8q a8p a8r a8l b0P a8m a8n f v) d0i (((),()),(([],([],([],()))),())) ((false,()),()))) (.cons (a0r rfl (a0x (sh:=b4V) (shX:=b4W) (shR:=b4X) (fun f v=>d6e K44 G44 c6w c6x b2B b2D b2C b2E a8o a8q a8p a8r a8l b0P a8m a8n f v) d0h ((),()) ((false,()),()))) (.nil)))))) fun x=>g0m K44 G44 c6w c6x b2B b2D b2C b2E a8o a8q a8p a8r a8l b0P a8m a8n x
abbrev A94:Ty:=.cons (.flt .f32) (.nil)
abbrev R94:Ty:=.cons (.flt .f32) (.nil)
noncomputable def g0n:Env:=a0t tab eqs [] 8 [.tmp 2] [] [] [] [] []
def r94 (x:Den A94):Option (Den R94):=
 bif (flt .f32 x.1 0)then
 some (((a5R .f32 x.1),()))
 else
 some (x)
theorem g0o (x) :a0E (g0n) (a0e Tryz.f94) (a1f R94) (a0V A94 x) []=r94 x:=by kernel_rfl
def F94 (x:Den A94):Option (Den R94):=r94 x
def K94 (x:Den A94):Bool:=(F94 x).isSome
def G94 (x:Den A94):Den R94:=(F94 x).getD (zero R94)
theorem f4O:a0q Tryz.prog (94,a0a A94 R94 K94 G94):=a0s (a0j mixed a0l a0k .nil) (a0O Tryz.func94 rfl rfl rfl (by kernel_rfl) (a0m (by kernel_rfl))) fun x=>g0o x
abbrev A45:Ty:=.cons (.cpx .f32) (.nil)
abbrev R45:Ty:=.cons (.bool) (.nil)
noncomputable def g0p (k94 g94) :Env:=a0t tab eqs [(94,a0a A94 R94 k94 g94)] 13 [.tmp 2] [] [] [] [] []
def r45 (k94:KA A94) (g94:GA A94 R94) (x:Den A45):Option (Den R45):=
 bif (k94 (x.1.1,()))then
 let v1:=(g94 (x.1.1,()))
 bif (flt .f32 v1.1 1120403456||feq .f32 v1.1 1120403456)then
 bif (k94 (x.1.2,()))then
 let v3:=(g94 (x.1.2,()))
 some ((flt .f32 v3.1 1120403456||feq .f32 v3.1 1120403456,()))
 else
 none
 else
 some ((false,()))
 else
 none
theorem g0q (k94 g94 x) :a0E (g0p k94 g94) (a0e Tryz.f45) (a1f R45) (a0V A45 x) []=r45 k94 g94 x:=by kernel_rfl
def F45 (x:Den A45):Option (Den R45):=r45 K94 G94 x
def K45 (x:Den A45):Bool:=(F45 x).isSome
def G45 (x:Den A45):Den R45:=(F45 x).getD (zero R45)
theorem b4Y:a0q Tryz.prog (45,a0a A45 R45 K45 G45):=a0s (a0j mixed a0l a0k (.cons f4O .nil)) (a0O Tryz.func45 rfl rfl rfl (by kernel_rfl) (a0m (by kernel_rfl))) fun x=>g0q K94 G94 x
abbrev c0N:Ty:=.cons (.slice (.cpx .f32)) (.nil)
abbrev c7F:Ty:=.cons (.bool) (.nil)
abbrev a4P:Type:=(((List (Den (.cpx .f32)))×(Int×(Int×Unit)))×Unit)
def b4Z:ShS:=⟨[(5,.one (.sl (.cpx .f32))),(6,.one (.int .i64)),(7,.one (.int .i64))],[],0,0⟩
abbrev b8T:Type:=(Unit×Unit)
def b5a:ShS:=⟨[],[],0,0⟩
abbrev b8U:Type:=((Bool×Unit)×Unit)
def b5b:ShS:=⟨[(2,.one (.bool))],[],0,0⟩
noncomputable def e7r (k45 g45 kl2 xl2 tl2 yl2) :Env:=a0t tab eqs [(45,a0a A45 R45 k45 g45)] 15 [.tmp 2] [] [] [(2,a1U [5,6,7] [] 0 [] [] b4Z b5a b5b kl2 tl2 xl2 yl2)] [] []
noncomputable def d0l:Code:=(a0u (a0e Tryz.f159)).getD 0 .skip
def b8V (k45:KA A45) (g45:GA A45 R45) (f:a4P->Option (b8T⊕b8U)) (v:a4P):Option (b8T⊕b8U):=
 bif (decide (v.1.2.2.1<v.1.2.1))then
 bif (decide (0<=v.1.2.2.1)&&decide (v.1.2.2.1<(↑(List.length v.1.1):Int)))then
 let v0:=(List.getD v.1.1 (Int.toNat v.1.2.2.1) (zero (Ty.cpx FloatKind.f32)))
 bif (k45 (v0,()))then
 bif (!(g45 (v0,())).1)then
 some (Sum.inr (((false,()),())))
 else
 f (((v.1.1,v.1.2.1,(IntKind.wrap .i64 (v.1.2.2.1+1)),()),()))
 else
 none
 else
 none
 else
 some (Sum.inl (((),())))
theorem d6g (k45 g45 kl2 xl2 tl2 yl2 f v) :EBk (e7r k45 g45 kl2 xl2 tl2 yl2) d0l (a0B [5,6,7] [] 0 [] [] (atS b4Z f) (a5H b5a b5b)) (mkS b4Z v)=b8V k45 g45 f v:=by kernel_rfl
def d0m (v:a4P):Nat:=v.1.1.length+v.1.2.1.natAbs+v.1.2.2.1.natAbs+1000
def b8W (v:a4P):Option (b8T⊕b8U):=a1u (b8V K45 G45) (d0m v) v
def b5c (v:a4P):Bool:=(b8W v).isSome
def b5d (v:a4P):Bool:=isR (b8W v)
def c1M (v:a4P):b8T:=xOf ((),()) (b8W v)
def b5e (v:a4P):b8U:=yOf ((false,()),()) (b8W v)
def f4P (k45:KA A45) (g45:GA A45 R45) (kl2:a4P->Bool) (xl2:a4P->b8T) (tl2:a4P->Bool) (yl2:a4P->b8U) (x:Den c0N):Option (Den c7F):=
 let w0:=((x.1,(↑(List.length x.1):Int),0,()),())
 bif (kl2 w0)then
 bif (tl2 w0)then
 some (yl2 w0).1
 else
 some ((true,()))
 else
 none
theorem f4Q (k45 g45 kl2 xl2 tl2 yl2 x) :a0E (e7r k45 g45 kl2 xl2 tl2 yl2) (a0e Tryz.f159) (a1f c7F) (a0V c0N x) []=f4P k45 g45 kl2 xl2 tl2 yl2 x:=by kernel_rfl
def e5m (x:Den c0N):Option (Den c7F):=f4P K45 G45 b5c c1M b5d b5e x
def c6y (x:Den c0N):Bool:=(e5m x).isSome
def c6z (x:Den c0N):Den c7F:=(e5m x).getD (zero c7F)
theorem d9z:a0q Tryz.prog (159,a0a c0N c7F c6y c6z):=a0s (a0j mixed a0l a0k (.cons b4Y .nil)) (a0O Tryz.func159 rfl rfl rfl (by kernel_rfl) (a0D (l:=[d0l]) (by kernel_rfl) (.cons (a0r rfl (a0x (sh:=b4Z) (shX:=b5a) (shR:=b5b) (fun f v=>d6g K45 G45 b5c c1M b5d b5e f v) d0m ((),()) ((false,()),()))) (.nil)))) fun x=>f4Q K45 G45 b5c c1M b5d b5e x
abbrev A61:Ty:=.cons (.cpx .f64) (.nil)
abbrev R61:Ty:=.cons (.bool) (.nil)
noncomputable def g0r (k119 g119) :Env:=a0t tab eqs [(119,a0a d8K e5c k119 g119)] 13 [.tmp 2] [] [] [] [] []
def r61 (k119:KA d8K) (g119:GA d8K e5c) (x:Den A61):Option (Den R61):=
 bif (k119 (x.1.1,()))then
 let v1:=(g119 (x.1.1,()))
 bif (flt .f64 v1.1 4726483295884279808||feq .f64 v1.1 4726483295884279808)then
 bif (k119 (x.1.2,()))then
 let v3:=(g119 (x.1.2,()))
 some ((flt .f64 v3.1 4726483295884279808||feq .f64 v3.1 4726483295884279808,()))
 else
 none
 else
 some ((false,()))
 else
 none
theorem g0s (k119 g119 x) :a0E (g0r k119 g119) (a0e Tryz.f61) (a1f R61) (a0V A61 x) []=r61 k119 g119 x:=by kernel_rfl
def F61 (x:Den A61):Option (Den R61):=r61 f0m f0n x
def K61 (x:Den A61):Bool:=(F61 x).isSome
def G61 (x:Den A61):Den R61:=(F61 x).getD (zero R61)
theorem c1N:a0q Tryz.prog (61,a0a A61 R61 K61 G61):=a0s (a0j mixed a0l a0k (.cons e6c .nil)) (a0O Tryz.func61 rfl rfl rfl (by kernel_rfl) (a0m (by kernel_rfl))) fun x=>g0s f0m f0n x
abbrev A63:Ty:=.cons (S33) (.nil)
abbrev R63:Ty:=.cons (.bool) (.nil)
noncomputable def g0t (k44 g44) :Env:=a0t tab eqs [(44,a0a A44 R44 k44 g44)] 11 [.tmp 2] [] [] [] [] []
def r63 (k44:KA A44) (g44:GA A44 R44) (x:Den A63):Option (Den R63):=
 bif (k44 (x.1.1,-10000,10000,()))then
 bif (g44 (x.1.1,-10000,10000,())).1 then
 bif (k44 (x.1.2.1,-10000,10000,()))then
 some (g44 (x.1.2.1,-10000,10000,()))
 else
 none
 else
 some ((false,()))
 else
 none
theorem g0u (k44 g44 x) :a0E (g0t k44 g44) (a0e Tryz.f63) (a1f R63) (a0V A63 x) []=r63 k44 g44 x:=by kernel_rfl
def F63 (x:Den A63):Option (Den R63):=r63 K44 G44 x
def K63 (x:Den A63):Bool:=(F63 x).isSome
def G63 (x:Den A63):Den R63:=(F63 x).getD (zero R63)
theorem d6h:a0q Tryz.prog (63,a0a A63 R63 K63 G63):=a0s (a0j mixed a0l a0k (.cons a6H .nil)) (a0O Tryz.func63 rfl rfl rfl (by kernel_rfl) (a0m (by kernel_rfl))) fun x=>g0u K44 G44 x
abbrev A23:Ty:=.cons (.cpx .f64) (.nil)
abbrev R23:Ty:=.cons (S33) (.cons (.bool) (.nil))
noncomputable def g0v (k61 g61 k62 g62 k63 g63) :Env:=a0t tab eqs [(61,a0a A61 R61 k61 g61),(62,a0a A62 R62 k62 g62),(63,a0a A63 R63 k63 g63)] 23 [.cell 2 34,.tmp 3] [] [] [] [] []
def r23 (k61:KA A61) (g61:GA A61 R61) (k62:KA A62) (g62:GA A62 R62) (k63:KA A63) (g63:GA A63 R63) (x:Den A23):Option (Den R23):=
 bif (k61 x)then
 bif (!(g61 x).1)then
 some (((0,0,()),false,()))
 else
 bif (k62 (x.1.1,()))then
 let v3:=(g62 (x.1.1,()))
 bif (a6P .f64 v3.1 IntKind.i64)then
 bif (k62 (x.1.2,()))then
 let v5:=(g62 (x.1.2,()))
 bif (a6P .f64 v5.1 IntKind.i64)then
 let v6:=(f2i .f64 v3.1)
 let v7:=(f2i .f64 v5.1)
 bif (k63 ((v6,v7,()),()))then
 bif (!(g63 ((v6,v7,()),())).1)then
 some (((0,0,()),false,()))
 else
 some (((v6,v7,()),true,()))
 else
 none
 else
 none
 else
 none
 else
 none
 else
 none
 else
 none
theorem g0w (k61 g61 k62 g62 k63 g63 x) :a0E (g0v k61 g61 k62 g62 k63 g63) (a0e Tryz.f23) (a1f R23) (a0V A23 x) []=r23 k61 g61 k62 g62 k63 g63 x:=by kernel_rfl
def F23 (x:Den A23):Option (Den R23):=r23 K61 G61 K62 G62 K63 G63 x
def K23 (x:Den A23):Bool:=(F23 x).isSome
def G23 (x:Den A23):Den R23:=(F23 x).getD (zero R23)
theorem e7s:a0q Tryz.prog (23,a0a A23 R23 K23 G23):=a0s (a0j mixed a0l a0k (.cons c1N (.cons f2X (.cons d6h .nil)))) (a0O Tryz.func23 rfl rfl rfl (by kernel_rfl) (a0m (by kernel_rfl))) fun x=>g0w K61 G61 K62 G62 K63 G63 x
abbrev A43:Ty:=.cons (.int .i64) (.nil)
abbrev R43:Ty:=.cons (.bool) (.nil)
noncomputable def g0x (k44 g44) :Env:=a0t tab eqs [(44,a0a A44 R44 k44 g44)] 5 [.tmp 2] [] [] [] [] []
def r43 (k44:KA A44) (g44:GA A44 R44) (x:Den A43):Option (Den R43):=
 bif (k44 (x.1,0,10000000,()))then
 some (g44 (x.1,0,10000000,()))
 else
 none
theorem g0y (k44 g44 x) :a0E (g0x k44 g44) (a0e Tryz.f43) (a1f R43) (a0V A43 x) []=r43 k44 g44 x:=by kernel_rfl
def F43 (x:Den A43):Option (Den R43):=r43 K44 G44 x
def K43 (x:Den A43):Bool:=(F43 x).isSome
def G43 (x:Den A43):Den R43:=(F43 x).getD (zero R43)
theorem d6i:a0q Tryz.prog (43,a0a A43 R43 K43 G43):=a0s (a0j mixed a0l a0k (.cons a6H .nil)) (a0O Tryz.func43 rfl rfl rfl (by kernel_rfl) (a0m (by kernel_rfl))) fun x=>g0y K44 G44 x
abbrev A91:Ty:=.cons (S30) (.nil)
abbrev R91:Ty:=.cons (.bool) (.nil)
abbrev a9m:Type:=((Unit×((List (Den (a0S)))×(Int×(Int×Unit))))×(((List (Den (a0S)))×((List (Den (.int .i64)))×Unit))×Unit))
def c3X:ShS:=⟨[(1,.one (.ptr 0 0)),(20,.one (.sl (a0S))),(21,.one (.int .i64)),(22,.one (.int .i64))],[(0,.box [.sl (a0S),.sl (.int .i64)])],1,0⟩
abbrev d0n:Type:=((Unit×Unit)×(((List (Den (a0S)))×((List (Den (.int .i64)))×Unit))×Unit))
def c1O:ShS:=⟨[(1,.one (.ptr 0 0))],[(0,.box [.sl (a0S),.sl (.int .i64)])],1,0⟩
abbrev d0o:Type:=((Bool×Unit)×Unit)
def c1P:ShS:=⟨[(2,.one (.bool))],[],0,0⟩
abbrev a4Q:Type:=((Unit×((List (Den (.int .i64)))×(Int×(Int×Unit))))×(((List (Den (a0S)))×((List (Den (.int .i64)))×Unit))×Unit))
def b5f:ShS:=⟨[(1,.one (.ptr 0 0)),(38,.one (.sl (.int .i64))),(39,.one (.int .i64)),(40,.one (.int .i64))],[(0,.box [.sl (a0S),.sl (.int .i64)])],1,0⟩
abbrev b8X:Type:=(Unit×Unit)
def b5g:ShS:=⟨[],[],0,0⟩
abbrev b8Y:Type:=((Bool×Unit)×Unit)
def b5h:ShS:=⟨[(2,.one (.bool))],[],0,0⟩
noncomputable def f4R (k44 g44 k61 g61 k159 g159 k43 g43 kl4 xl4 tl4 yl4 kl10 xl10 tl10 yl10) :Env:=a0t tab eqs [(44,a0a A44 R44 k44 g44),(61,a0a A61 R61 k61 g61),(159,a0a c0N c7F k159 g159),(43,a0a A43 R43 k43 g43)] 64 [.tmp 2] [] [] [(4,a1U [1,20,21,22] [] 0 [1] [] c3X c1O c1P kl4 tl4 xl4 yl4),(10,a1U [1,38,39,40] [] 2 [] [] b5f b5g b5h kl10 tl10 xl10 yl10)] [] []
noncomputable def d9A:Code:=(a0u (a0e Tryz.f91)).getD 0 .skip
noncomputable def d0p:Code:=(a0u (a0e Tryz.f91)).getD 1 .skip
def b8Z (k44:KA A44) (g44:GA A44 R44) (k61:KA A61) (g61:GA A61 R61) (k159:KA c0N) (g159:GA c0N c7F) (k43:KA A43) (g43:GA A43 R43) (f:a4Q->Option (b8X⊕b8Y)) (v:a4Q):Option (b8X⊕b8Y):=
 bif (decide (v.1.2.2.2.1<v.1.2.2.1))then
 bif (decide (0<=v.1.2.2.2.1)&&decide (v.1.2.2.2.1<(↑(List.length v.1.2.1):Int)))then
 let w0:=(zero (Ty.int IntKind.i64))
 let v0:=(List.getD v.1.2.1 (Int.toNat v.1.2.2.2.1) w0)
 bif (k43 (v0,()))then
 bif (!(g43 (v0,())).1)then
 some (Sum.inr (((false,()),())))
 else
 bif (decide (v.1.2.2.2.1>0))then
 let v3:=(IntKind.wrap .i64 (v.1.2.2.2.1-1))
 bif (decide (0<=v3)&&decide (v3<(↑(List.length v.2.1.2.1):Int)))then
 bif (decide (v0<(IntKind.wrap .i64 ((List.getD v.2.1.2.1 (Int.toNat v3) w0)+21600))))then
 some (Sum.inr (((false,()),())))
 else
 f ((((),v.1.2.1,v.1.2.2.1,(IntKind.wrap .i64 (v.1.2.2.2.1+1)),()),v.2))
 else
 none
 else
 f ((((),v.1.2.1,v.1.2.2.1,(IntKind.wrap .i64 (v.1.2.2.2.1+1)),()),v.2))
 else
 none
 else
 none
 else
 some (Sum.inl (((),())))
theorem d6j (k44 g44 k61 g61 k159 g159 k43 g43 kl4 xl4 tl4 yl4 kl10 xl10 tl10 yl10 f v) :EBk (f4R k44 g44 k61 g61 k159 g159 k43 g43 kl4 xl4 tl4 yl4 kl10 xl10 tl10 yl10) d0p (a0B [1,38,39,40] [] 2 [] [] (atS b5f f) (a5H b5g b5h)) (mkS b5f v)=b8Z k44 g44 k61 g61 k159 g159 k43 g43 f v:=by kernel_rfl
def d0q (v:a4Q):Nat:=v.1.2.1.length+v.1.2.2.1.natAbs+v.1.2.2.2.1.natAbs+v.2.1.1.length+v.2.1.2.1.length+1000
def b9a (v:a4Q):Option (b8X⊕b8Y):=a1u (b8Z K44 G44 K61 G61 c6y c6z K43 G43) (d0q v) v
def b0Q (v:a4Q):Bool:=(b9a v).isSome
def b0R (v:a4Q):Bool:=isR (b9a v)
def b5i (v:a4Q):b8X:=xOf ((),()) (b9a v)
def b0S (v:a4Q):b8Y:=yOf ((false,()),()) (b9a v)
def d0r (k44:KA A44) (g44:GA A44 R44) (k61:KA A61) (g61:GA A61 R61) (k159:KA c0N) (g159:GA c0N c7F) (k43:KA A43) (g43:GA A43 R43) (f:a9m->Option (d0n⊕d0o)) (v:a9m):Option (d0n⊕d0o):=
 bif (decide (v.1.2.2.2.1<v.1.2.2.1))then
 bif (decide (0<=v.1.2.2.2.1)&&decide (v.1.2.2.2.1<(↑(List.length v.1.2.1):Int)))then
 let v0:=(List.getD v.1.2.1 (Int.toNat v.1.2.2.2.1) (zero a0S))
 bif (k61 (v0.1,()))then
 bif (!(g61 (v0.1,())).1)then
 some (Sum.inr (((false,()),())))
 else
 let w0:=([v0.2.1.1,v0.2.1.2.1,v0.2.1.2.2.1,v0.2.1.2.2.2.1,v0.2.1.2.2.2.2.1,v0.2.1.2.2.2.2.2.1,v0.2.1.2.2.2.2.2.2.1,v0.2.1.2.2.2.2.2.2.2.1,v0.2.1.2.2.2.2.2.2.2.2.1,v0.2.1.2.2.2.2.2.2.2.2.2.1,v0.2.1.2.2.2.2.2.2.2.2.2.2.1,v0.2.1.2.2.2.2.2.2.2.2.2.2.2.1,v0.2.1.2.2.2.2.2.2.2.2.2.2.2.2.1],())
 bif (k159 w0)then
 bif (!(g159 w0).1)then
 some (Sum.inr (((false,()),())))
 else
 f ((((),v.1.2.1,v.1.2.2.1,(IntKind.wrap .i64 (v.1.2.2.2.1+1)),()),v.2))
 else
 none
 else
 none
 else
 none
 else
 some (Sum.inl ((((),()),v.2)))
theorem e2w (k44 g44 k61 g61 k159 g159 k43 g43 kl4 xl4 tl4 yl4 kl10 xl10 tl10 yl10 f v) :EBk (f4R k44 g44 k61 g61 k159 g159 k43 g43 kl4 xl4 tl4 yl4 kl10 xl10 tl10 yl10) d9A (a0B [1,20,21,22] [] 0 [1] [] (atS c3X f) (a5H c1O c1P)) (mkS c3X v)=d0r k44 g44 k61 g61 k159 g159 k43 g43 f v:=by kernel_rfl
def e2x (v:a9m):Nat:=v.1.2.1.length+v.1.2.2.1.natAbs+v.1.2.2.2.1.natAbs+v.2.1.1.length+v.2.1.2.1.length+1000
def d0s (v:a9m):Option (d0n⊕d0o):=a1u (d0r K44 G44 K61 G61 c6y c6z K43 G43) (e2x v) v
def b9b (v:a9m):Bool:=(d0s v).isSome
def b9c (v:a9m):Bool:=isR (d0s v)
def b9d (v:a9m):d0n:=xOf (((),()),(([],([],())),())) (d0s v)
def b9e (v:a9m):d0o:=yOf ((false,()),()) (d0s v)
def r91 (k44:KA A44) (g44:GA A44 R44) (k61:KA A61) (g61:GA A61 R61) (k159:KA c0N) (g159:GA c0N c7F) (k43:KA A43) (g43:GA A43 R43) (kl4:a9m->Bool) (xl4:a9m->d0n) (tl4:a9m->Bool) (yl4:a9m->d0o) (kl10:a4Q->Bool) (xl10:a4Q->b8X) (tl10:a4Q->Bool) (yl10:a4Q->b8Y) (x:Den A91):Option (Den R91):=
 let w2:=(↑(List.length x.1.1):Int)
 bif (k44 (w2,1,20,()))then
 bif (!(g44 (w2,1,20,())).1)then
 some ((false,()))
 else
 let w3:=((↑(List.length x.1.2.1):Int),1,60,())
 bif (k44 w3)then
 bif (!(g44 w3).1)then
 some ((false,()))
 else
 let w0:=(((),x.1.1,w2,0,()),x)
 bif (kl4 w0)then
 bif (tl4 w0)then
 some (yl4 w0).1
 else
 let v6:=(xl4 w0)
 let w1:=(((),v6.2.1.2.1,(↑(List.length v6.2.1.2.1):Int),0,()),v6.2)
 bif (kl10 w1)then
 bif (tl10 w1)then
 some (yl10 w1).1
 else
 some ((true,()))
 else
 none
 else
 none
 else
 none
 else
 none
theorem g0z (k44 g44 k61 g61 k159 g159 k43 g43 kl4 xl4 tl4 yl4 kl10 xl10 tl10 yl10 x) :a0E (f4R k44 g44 k61 g61 k159 g159 k43 g43 kl4 xl4 tl4 yl4 kl10 xl10 tl10 yl10) (a0e Tryz.f91) (a1f R91) (a0V A91 x) []=r91 k44 g44 k61 g61 k159 g159 k43 g43 kl4 xl4 tl4 yl4 kl10 xl10 tl10 yl10 x:=by kernel_rfl
def F91 (x:Den A91):Option (Den R91):=r91 K44 G44 K61 G61 c6y c6z K43 G43 b9b b9d b9c b9e b0Q b5i b0R b0S x
def K91 (x:Den A91):Bool:=(F91 x).isSome
def G91 (x:Den A91):Den R91:=(F91 x).getD (zero R91)
theorem e2y:a0q Tryz.prog (91,a0a A91 R91 K91 G91):=a0s (a0j mixed a0l a0k (.cons a6H (.cons c1N (.cons d9z (.cons d6i .nil))))) (a0O Tryz.func91 rfl rfl rfl (by kernel_rfl) (a0D (l:=[d9A,d0p]) (by kernel_rfl) (.cons (a0r rfl (a0x (sh:=c3X) (shX:=c1O) (shR:=c1P) (fun f v=>e2w K44 G44 K61 G61 c6y c6z K43 G43 b9b b9d b9c b9e b0Q b5i b0R b0S f v) e2x (((),()),(([],([],())),())) ((false,()),()))) (.cons (a0r rfl (a0x (sh:=b5f) (shX:=b5g) (shR:=b5h) (fun f v=>d6j K44 G44 K61 G61 c6y c6z K43 G43 b9b b9d b9c b9e b0Q b5i b0R b0S f v) d0q ((),()) ((false,()),()))) (.nil))))) fun x=>g0z K44 G44 K61 G61 c6y c6z K43 G43 b9b b9d b9c b9e b0Q b5i b0R b0S x
abbrev d0t:Ty:=.cons (.str) (.nil)
abbrev d6k:Ty:=.cons (.bool) (.nil)
abbrev a4R:Type:=((ByteArray×(Int×Unit))×Unit)
def b5j:ShS:=⟨[(0,.one (.str)),(3,.one (.int .i64))],[],0,0⟩
abbrev b9f:Type:=((ByteArray×Unit)×Unit)
def b5k:ShS:=⟨[(0,.one (.str))],[],0,0⟩
abbrev b9g:Type:=((Bool×Unit)×Unit)
def b5l:ShS:=⟨[(2,.one (.bool))],[],0,0⟩
noncomputable def e7t (k44 g44 kl2 xl2 tl2 yl2) :Env:=a0t tab eqs [(44,a0a A44 R44 k44 g44)] 27 [.tmp 2] [] [] [(2,a1U [0,3] [] 0 [0] [] b5j b5k b5l kl2 tl2 xl2 yl2)] [] []
noncomputable def d0u:Code:=(a0u (a0e Tryz.f160)).getD 0 .skip
def b9h (k44:KA A44) (g44:GA A44 R44) (f:a4R->Option (b9f⊕b9g)) (v:a4R):Option (b9f⊕b9g):=
 let w0:=(v.1.2.1<(↑(ByteArray.size v.1.1):Int))
 bif (decide w0)then
 let w1:=(decide (0<=v.1.2.1)&&decide w0)
 bif w1 then
 bif (decide (a1z v.1.1 v.1.2.1<97))then
 some (Sum.inr (((false,()),())))
 else
 bif w1 then
 bif (decide (a1z v.1.1 v.1.2.1>122))then
 some (Sum.inr (((false,()),())))
 else
 f (((v.1.1,(IntKind.wrap .i64 (v.1.2.1+1)),()),()))
 else
 none
 else
 none
 else
 some (Sum.inl (((v.1.1,()),())))
theorem d6l (k44 g44 kl2 xl2 tl2 yl2 f v) :EBk (e7t k44 g44 kl2 xl2 tl2 yl2) d0u (a0B [0,3] [] 0 [0] [] (atS b5j f) (a5H b5k b5l)) (mkS b5j v)=b9h k44 g44 f v:=by kernel_rfl
def d0v (v:a4R):Nat:=v.1.1.size+v.1.2.1.natAbs+1000
def b9i (v:a4R):Option (b9f⊕b9g):=a1u (b9h K44 G44) (d0v v) v
def b5m (v:a4R):Bool:=(b9i v).isSome
def b5n (v:a4R):Bool:=isR (b9i v)
def b5o (v:a4R):b9f:=xOf ((ByteArray.empty,()),()) (b9i v)
def b5p (v:a4R):b9g:=yOf ((false,()),()) (b9i v)
def f4S (k44:KA A44) (g44:GA A44 R44) (kl2:a4R->Bool) (xl2:a4R->b9f) (tl2:a4R->Bool) (yl2:a4R->b9g) (x:Den d0t):Option (Den d6k):=
 bif (kl2 ((x.1,0,()),()))then
 bif (tl2 ((x.1,0,()),()))then
 some (yl2 ((x.1,0,()),())).1
 else
 let v2:=(xl2 ((x.1,0,()),()))
 let w0:=((↑(ByteArray.size v2.1.1):Int),1,16,())
 bif (k44 w0)then
 bif (g44 w0).1 then
 some ((!bstr v2.1.1 { data:=#[110,111,110,101] },()))
 else
 some ((false,()))
 else
 none
 else
 none
theorem f4T (k44 g44 kl2 xl2 tl2 yl2 x) :a0E (e7t k44 g44 kl2 xl2 tl2 yl2) (a0e Tryz.f160) (a1f d6k) (a0V d0t x) []=f4S k44 g44 kl2 xl2 tl2 yl2 x:=by kernel_rfl
def f0Y (x:Den d0t):Option (Den d6k):=f4S K44 G44 b5m b5o b5n b5p x
def e2z (x:Den d0t):Bool:=(f0Y x).isSome
def e2A (x:Den d0t):Den d6k:=(f0Y x).getD (zero d6k)
theorem e7u:a0q Tryz.prog (160,a0a d0t d6k e2z e2A):=a0s (a0j mixed a0l a0k (.cons a6H .nil)) (a0O Tryz.func160 rfl rfl rfl (by kernel_rfl) (a0D (l:=[d0u]) (by kernel_rfl) (.cons (a0r rfl (a0x (sh:=b5j) (shX:=b5k) (shR:=b5l) (fun f v=>d6l K44 G44 b5m b5o b5n b5p f v) d0v ((ByteArray.empty,()),()) ((false,()),()))) (.nil)))) fun x=>f4T K44 G44 b5m b5o b5n b5p x
abbrev b7a:Ty:=.cons (.slice (S68)) (.cons (.str) (.nil))
abbrev c6A:Ty:=.cons (.int .i64) (.nil)
abbrev a4S:Type:=((ByteArray×((List (Den (S68)))×(Int×(Int×Unit))))×Unit)
def b5q:ShS:=⟨[(1,.one (.str)),(7,.one (.sl (S68))),(8,.one (.int .i64)),(9,.one (.int .i64))],[],0,0⟩
abbrev b9j:Type:=(Unit×Unit)
def b5r:ShS:=⟨[],[],0,0⟩
abbrev b9k:Type:=((Int×Unit)×Unit)
def b5s:ShS:=⟨[(4,.one (.int .i64))],[],0,0⟩
noncomputable def e7v (kl2 xl2 tl2 yl2) :Env:=a0t tab eqs [] 20 [.tmp 4] [] [] [(2,a1U [1,7,8,9] [] 0 [] [] b5q b5r b5s kl2 tl2 xl2 yl2)] [] []
noncomputable def d0w:Code:=(a0u (a0e Tryz.f134)).getD 0 .skip
def b9l (f:a4S->Option (b9j⊕b9k)) (v:a4S):Option (b9j⊕b9k):=
 bif (decide (v.1.2.2.2.1<v.1.2.2.1))then
 bif (decide (0<=v.1.2.2.2.1)&&decide (v.1.2.2.2.1<(↑(List.length v.1.2.1):Int)))then
 bif (a3K (List.getD v.1.2.1 (Int.toNat v.1.2.2.2.1) (zero S68)).1 v.1.1)then
 some (Sum.inr ((v.1.2.2.2,())))
 else
 f (((v.1.1,v.1.2.1,v.1.2.2.1,(IntKind.wrap .i64 (v.1.2.2.2.1+1)),()),()))
 else
 none
 else
 some (Sum.inl (((),())))
theorem d6m (kl2 xl2 tl2 yl2 f v) :EBk (e7v kl2 xl2 tl2 yl2) d0w (a0B [1,7,8,9] [] 0 [] [] (atS b5q f) (a5H b5r b5s)) (mkS b5q v)=b9l f v:=by kernel_rfl
def d0x (v:a4S):Nat:=v.1.1.size+v.1.2.1.length+v.1.2.2.1.natAbs+v.1.2.2.2.1.natAbs+1000
def b9m (v:a4S):Option (b9j⊕b9k):=a1u (b9l) (d0x v) v
def b5t (v:a4S):Bool:=(b9m v).isSome
def b5u (v:a4S):Bool:=isR (b9m v)
def c1Q (v:a4S):b9j:=xOf ((),()) (b9m v)
def b5v (v:a4S):b9k:=yOf ((0,()),()) (b9m v)
def f4U (kl2:a4S->Bool) (xl2:a4S->b9j) (tl2:a4S->Bool) (yl2:a4S->b9k) (x:Den b7a):Option (Den c6A):=
 let w0:=((x.2.1,x.1,(↑(List.length x.1):Int),0,()),())
 bif (kl2 w0)then
 bif (tl2 w0)then
 some (yl2 w0).1
 else
 some ((-1,()))
 else
 none
theorem f4V (kl2 xl2 tl2 yl2 x) :a0E (e7v kl2 xl2 tl2 yl2) (a0e Tryz.f134) (a1f c6A) (a0V b7a x) []=f4U kl2 xl2 tl2 yl2 x:=by kernel_rfl
def e7w (x:Den b7a):Option (Den c6A):=f4U b5t c1Q b5u b5v x
def c6B (x:Den b7a):Bool:=(e7w x).isSome
def c6C (x:Den b7a):Den c6A:=(e7w x).getD (zero c6A)
theorem d9B:a0q Tryz.prog (134,a0a b7a c6A c6B c6C):=a0s (a0j mixed a0l a0k .nil) (a0O Tryz.func134 rfl rfl rfl (by kernel_rfl) (a0D (l:=[d0w]) (by kernel_rfl) (.cons (a0r rfl (a0x (sh:=b5q) (shX:=b5r) (shR:=b5s) (fun f v=>d6m b5t c1Q b5u b5v f v) d0x ((),()) ((0,()),()))) (.nil)))) fun x=>f4V b5t c1Q b5u b5v x
abbrev A92:Ty:=.cons (.slice (S68)) (.nil)
abbrev R92:Ty:=.cons (.bool) (.nil)
abbrev a9n:Type:=(((List (Den (S68)))×((List (Den (S68)))×(Int×(Int×Unit))))×Unit)
def c3Y:ShS:=⟨[(0,.one (.sl (S68))),(8,.one (.sl (S68))),(9,.one (.int .i64)),(10,.one (.int .i64))],[],0,0⟩
abbrev d0y:Type:=(Unit×Unit)
def c1R:ShS:=⟨[],[],0,0⟩
abbrev d0z:Type:=((Bool×Unit)×Unit)
def c1S:ShS:=⟨[(2,.one (.bool))],[],0,0⟩
noncomputable def f8M (k160 g160 k134 g134 k44 g44 kl4 xl4 tl4 yl4) :Env:=a0t tab eqs [(160,a0a d0t d6k k160 g160),(134,a0a b7a c6A k134 g134),(44,a0a A44 R44 k44 g44)] 61 [.tmp 2] [] [] [(4,a1U [0,8,9,10] [] 0 [] [] c3Y c1R c1S kl4 tl4 xl4 yl4)] [] []
noncomputable def d9C:Code:=(a0u (a0e Tryz.f92)).getD 0 .skip
def d0A (k160:KA d0t) (g160:GA d0t d6k) (k134:KA b7a) (g134:GA b7a c6A) (k44:KA A44) (g44:GA A44 R44) (f:a9n->Option (d0y⊕d0z)) (v:a9n):Option (d0y⊕d0z):=
 bif (decide (v.1.2.2.2.1<v.1.2.2.1))then
 bif (decide (0<=v.1.2.2.2.1)&&decide (v.1.2.2.2.1<(↑(List.length v.1.2.1):Int)))then
 let v0:=(List.getD v.1.2.1 (Int.toNat v.1.2.2.2.1) (zero S68))
 bif (k160 (v0.1,()))then
 bif (!(g160 (v0.1,())).1)then
 some (Sum.inr (((false,()),())))
 else
 bif (k134 (v.1.1,v0.1,()))then
 bif ((g134 (v.1.1,v0.1,())).1 != v.1.2.2.2.1)then
 some (Sum.inr (((false,()),())))
 else
 bif (!(fgt .f32 v0.2.1 0||feq .f32 v0.2.1 0))then
 some (Sum.inr (((false,()),())))
 else
 bif (fgt .f32 v0.2.2.1 v0.2.1)then
 bif (!(flt .f32 v0.2.2.1 1128792064||feq .f32 v0.2.2.1 1128792064))then
 some (Sum.inr (((false,()),())))
 else
 bif (k44 (v0.2.2.2.1,0,180,()))then
 bif (!(g44 (v0.2.2.2.1,0,180,())).1)then
 some (Sum.inr (((false,()),())))
 else
 let w0:=(v0.2.2.2.2.1,v0.2.2.2.1,180,())
 bif (k44 w0)then
 bif (!(g44 w0).1)then
 some (Sum.inr (((false,()),())))
 else
 f (((v.1.1,v.1.2.1,v.1.2.2.1,(IntKind.wrap .i64 (v.1.2.2.2.1+1)),()),()))
 else
 none
 else
 none
 else
 some (Sum.inr (((false,()),())))
 else
 none
 else
 none
 else
 none
 else
 some (Sum.inl (((),())))
theorem e2B (k160 g160 k134 g134 k44 g44 kl4 xl4 tl4 yl4 f v) :EBk (f8M k160 g160 k134 g134 k44 g44 kl4 xl4 tl4 yl4) d9C (a0B [0,8,9,10] [] 0 [] [] (atS c3Y f) (a5H c1R c1S)) (mkS c3Y v)=d0A k160 g160 k134 g134 k44 g44 f v:=by kernel_rfl
def e2C (v:a9n):Nat:=v.1.1.length+v.1.2.1.length+v.1.2.2.1.natAbs+v.1.2.2.2.1.natAbs+1000
def d0B (v:a9n):Option (d0y⊕d0z):=a1u (d0A e2z e2A c6B c6C K44 G44) (e2C v) v
def c3Z (v:a9n):Bool:=(d0B v).isSome
def c4a (v:a9n):Bool:=isR (d0B v)
def d0C (v:a9n):d0y:=xOf ((),()) (d0B v)
def c4b (v:a9n):d0z:=yOf ((false,()),()) (d0B v)
def r92 (k160:KA d0t) (g160:GA d0t d6k) (k134:KA b7a) (g134:GA b7a c6A) (k44:KA A44) (g44:GA A44 R44) (kl4:a9n->Bool) (xl4:a9n->d0y) (tl4:a9n->Bool) (yl4:a9n->d0z) (x:Den A92):Option (Den R92):=
 bif (decide ((↑(List.length x.1):Int)>12))then
 some ((false,()))
 else
 let w0:=((x.1,x.1,(↑(List.length x.1):Int),0,()),())
 bif (kl4 w0)then
 bif (tl4 w0)then
 some (yl4 w0).1
 else
 some ((true,()))
 else
 none
theorem g0A (k160 g160 k134 g134 k44 g44 kl4 xl4 tl4 yl4 x) :a0E (f8M k160 g160 k134 g134 k44 g44 kl4 xl4 tl4 yl4) (a0e Tryz.f92) (a1f R92) (a0V A92 x) []=r92 k160 g160 k134 g134 k44 g44 kl4 xl4 tl4 yl4 x:=by kernel_rfl
def F92 (x:Den A92):Option (Den R92):=r92 e2z e2A c6B c6C K44 G44 c3Z d0C c4a c4b x
def K92 (x:Den A92):Bool:=(F92 x).isSome
def G92 (x:Den A92):Den R92:=(F92 x).getD (zero R92)
theorem e2D:a0q Tryz.prog (92,a0a A92 R92 K92 G92):=a0s (a0j mixed a0l a0k (.cons e7u (.cons d9B (.cons a6H .nil)))) (a0O Tryz.func92 rfl rfl rfl (by kernel_rfl) (a0D (l:=[d9C]) (by kernel_rfl) (.cons (a0r rfl (a0x (sh:=c3Y) (shX:=c1R) (shR:=c1S) (fun f v=>e2B e2z e2A c6B c6C K44 G44 c3Z d0C c4a c4b f v) e2C ((),()) ((false,()),()))) (.nil)))) fun x=>g0A e2z e2A c6B c6C K44 G44 c3Z d0C c4a c4b x
abbrev c7G:Ty:=.cons (S35) (.nil)
abbrev d6n:Ty:=.cons (.bool) (.nil)
noncomputable def f4W (k63 g63) :Env:=a0t tab eqs [(63,a0a A63 R63 k63 g63)] 18 [.tmp 2] [] [] [] [] []
def f4X (k63:KA A63) (g63:GA A63 R63) (x:Den c7G):Option (Den d6n):=
 bif (k63 (x.1.1,()))then
 bif (g63 (x.1.1,())).1 then
 bif (k63 x.1.2)then
 bif (g63 x.1.2).1 then
 some ((!(x.1.1.1==x.1.2.1.1&&x.1.1.2.1==x.1.2.1.2.1),()))
 else
 some ((false,()))
 else
 none
 else
 some ((false,()))
 else
 none
theorem f4Y (k63 g63 x) :a0E (f4W k63 g63) (a0e Tryz.f161) (a1f d6n) (a0V c7G x) []=f4X k63 g63 x:=by kernel_rfl
def f0Z (x:Den c7G):Option (Den d6n):=f4X K63 G63 x
def e2E (x:Den c7G):Bool:=(f0Z x).isSome
def e2F (x:Den c7G):Den d6n:=(f0Z x).getD (zero d6n)
theorem e7x:a0q Tryz.prog (161,a0a c7G d6n e2E e2F):=a0s (a0j mixed a0l a0k (.cons d6h .nil)) (a0O Tryz.func161 rfl rfl rfl (by kernel_rfl) (a0m (by kernel_rfl))) fun x=>f4Y K63 G63 x
abbrev d0D:Ty:=.cons (S38) (.cons (.int .i64) (.nil))
abbrev d6o:Ty:=.cons (S33) (.nil)
noncomputable def f4Z:Env:=a0t tab eqs [] 17 [.cell 4 34] [] [] [] [] []
def f8N (x:Den d0D):Option (Den d6o):=
 bif (x.2.1==0)then
 some ((x.1.1.1,()))
 else
 let v0:=(IntKind.wrap .i64 (x.2.1-1))
 bif (decide (0<=v0)&&decide (v0<(↑(List.length x.1.2.1):Int)))then
 some (((List.getD x.1.2.1 (Int.toNat v0) (zero a1E)).1,()))
 else
 none
theorem f5a (x) :a0E (f4Z) (a0e Tryz.f123) (a1f d6o) (a0V d0D x) []=f8N x:=by kernel_rfl
def e7y (x:Den d0D):Option (Den d6o):=f8N x
def e2G (x:Den d0D):Bool:=(e7y x).isSome
def e2H (x:Den d0D):Den d6o:=(e7y x).getD (zero d6o)
theorem e7z:a0q Tryz.prog (123,a0a d0D d6o e2G e2H):=a0s (a0j mixed a0l a0k .nil) (a0O Tryz.func123 rfl rfl rfl (by kernel_rfl) (a0m (by kernel_rfl))) fun x=>f5a x
abbrev A93:Ty:=.cons (S38) (.nil)
abbrev R93:Ty:=.cons (.bool) (.nil)
abbrev a9o:Type:=((Unit×((List (Den (a1E)))×(Int×(Int×Unit))))×((Int×(Int×(Int×(Int×((List (Den (a1E)))×(Int×(Int×(Int×(Int×Unit)))))))))×Unit))
def c4c:ShS:=⟨[(1,.one (.ptr 0 0)),(23,.one (.sl (a1E))),(24,.one (.int .i64)),(25,.one (.int .i64))],[(0,.box [.int .i64,.int .i64,.int .i64,.int .i64,.sl (a1E),.int .i64,.int .i64,.int .i64,.int .i64])],1,0⟩
abbrev d0E:Type:=(Unit×Unit)
def c1T:ShS:=⟨[],[],0,0⟩
abbrev d0F:Type:=((Bool×Unit)×Unit)
def c1U:ShS:=⟨[(2,.one (.bool))],[],0,0⟩
noncomputable def f8O (k161 g161 k44 g44 k63 g63 k123 g123 kl4 xl4 tl4 yl4) :Env:=a0t tab eqs [(161,a0a c7G d6n k161 g161),(44,a0a A44 R44 k44 g44),(63,a0a A63 R63 k63 g63),(123,a0a d0D d6o k123 g123)] 43 [.tmp 2] [] [] [(4,a1U [1,23,24,25] [] 0 [] [] c4c c1T c1U kl4 tl4 xl4 yl4)] [] []
noncomputable def d9D:Code:=(a0u (a0e Tryz.f93)).getD 0 .skip
def d0G (k161:KA c7G) (g161:GA c7G d6n) (k44:KA A44) (g44:GA A44 R44) (k63:KA A63) (g63:GA A63 R63) (k123:KA d0D) (g123:GA d0D d6o) (f:a9o->Option (d0E⊕d0F)) (v:a9o):Option (d0E⊕d0F):=
 bif (decide (v.1.2.2.2.1<v.1.2.2.1))then
 bif (decide (0<=v.1.2.2.2.1)&&decide (v.1.2.2.2.1<(↑(List.length v.1.2.1):Int)))then
 let v0:=(List.getD v.1.2.1 (Int.toNat v.1.2.2.2.1) (zero a1E))
 bif (k63 (v0.1,()))then
 bif (!(g63 (v0.1,())).1)then
 some (Sum.inr (((false,()),())))
 else
 let w0:=((((v.2.1.1,v.2.1.2.1,()),(v.2.1.2.2.1,v.2.1.2.2.2.1,()),()),v.2.1.2.2.2.2.1,((v.2.1.2.2.2.2.2.1,v.2.1.2.2.2.2.2.2.1,()),v.2.1.2.2.2.2.2.2.2,()),()),v.1.2.2.2)
 bif (k123 w0)then
 let v4:=(g123 w0)
 bif (v0.1.1==v4.1.1&&v0.1.2.1==v4.1.2.1)then
 some (Sum.inr (((false,()),())))
 else
 f ((((),v.1.2.1,v.1.2.2.1,(IntKind.wrap .i64 (v.1.2.2.2.1+1)),()),v.2))
 else
 none
 else
 none
 else
 none
 else
 some (Sum.inl (((),())))
theorem e2I (k161 g161 k44 g44 k63 g63 k123 g123 kl4 xl4 tl4 yl4 f v) :EBk (f8O k161 g161 k44 g44 k63 g63 k123 g123 kl4 xl4 tl4 yl4) d9D (a0B [1,23,24,25] [] 0 [] [] (atS c4c f) (a5H c1T c1U)) (mkS c4c v)=d0G k161 g161 k44 g44 k63 g63 k123 g123 f v:=by kernel_rfl
def e2J (v:a9o):Nat:=v.1.2.1.length+v.1.2.2.1.natAbs+v.1.2.2.2.1.natAbs+v.2.1.1.natAbs+v.2.1.2.1.natAbs+v.2.1.2.2.1.natAbs+v.2.1.2.2.2.1.natAbs+v.2.1.2.2.2.2.1.length+v.2.1.2.2.2.2.2.1.natAbs+v.2.1.2.2.2.2.2.2.1.natAbs+v.2.1.2.2.2.2.2.2.2.1.natAbs+v.2.1.2.2.2.2.2.2.2.2.1.natAbs+1000
def c6D (v:a9o):Option (d0E⊕d0F):=a1u (d0G e2E e2F K44 G44 K63 G63 e2G e2H) (e2J v) v
def c4d (v:a9o):Bool:=(c6D v).isSome
def c4e (v:a9o):Bool:=isR (c6D v)
def d0H (v:a9o):d0E:=xOf ((),()) (c6D v)
def c4f (v:a9o):d0F:=yOf ((false,()),()) (c6D v)
def r93 (k161:KA c7G) (g161:GA c7G d6n) (k44:KA A44) (g44:GA A44 R44) (k63:KA A63) (g63:GA A63 R63) (k123:KA d0D) (g123:GA d0D d6o) (kl4:a9o->Bool) (xl4:a9o->d0E) (tl4:a9o->Bool) (yl4:a9o->d0F) (x:Den A93):Option (Den R93):=
 bif (k161 (x.1.1,()))then
 bif (!(g161 (x.1.1,())).1)then
 some ((false,()))
 else
 bif (k161 x.1.2.2)then
 bif (!(g161 x.1.2.2).1)then
 some ((false,()))
 else
 let w1:=(↑(List.length x.1.2.1):Int)
 bif (k44 (w1,1,20,()))then
 bif (!(g44 (w1,1,20,())).1)then
 some ((false,()))
 else
 let w0:=(((),x.1.2.1,w1,0,()),(x.1.1.1.1,x.1.1.1.2.1,x.1.1.2.1.1,x.1.1.2.1.2.1,x.1.2.1,x.1.2.2.1.1.1,x.1.2.2.1.1.2.1,x.1.2.2.1.2.1),())
 bif (kl4 w0)then
 bif (tl4 w0)then
 some (yl4 w0).1
 else
 some ((true,()))
 else
 none
 else
 none
 else
 none
 else
 none
theorem g0B (k161 g161 k44 g44 k63 g63 k123 g123 kl4 xl4 tl4 yl4 x) :a0E (f8O k161 g161 k44 g44 k63 g63 k123 g123 kl4 xl4 tl4 yl4) (a0e Tryz.f93) (a1f R93) (a0V A93 x) []=r93 k161 g161 k44 g44 k63 g63 k123 g123 kl4 xl4 tl4 yl4 x:=by kernel_rfl
def F93 (x:Den A93):Option (Den R93):=r93 e2E e2F K44 G44 K63 G63 e2G e2H c4d d0H c4e c4f x
def K93 (x:Den A93):Bool:=(F93 x).isSome
def G93 (x:Den A93):Den R93:=(F93 x).getD (zero R93)
theorem f5b:a0q Tryz.prog (93,a0a A93 R93 K93 G93):=a0s (a0j mixed a0l a0k (.cons e7x (.cons a6H (.cons d6h (.cons e7z .nil))))) (a0O Tryz.func93 rfl rfl rfl (by kernel_rfl) (a0D (l:=[d9D]) (by kernel_rfl) (.cons (a0r rfl (a0x (sh:=c4c) (shX:=c1T) (shR:=c1U) (fun f v=>e2I e2E e2F K44 G44 K63 G63 e2G e2H c4d d0H c4e c4f f v) e2J ((),()) ((false,()),()))) (.nil)))) fun x=>g0B e2E e2F K44 G44 K63 G63 e2G e2H c4d d0H c4e c4f x
abbrev A42:Ty:=.cons (S40) (.nil)
abbrev R42:Ty:=.cons (.bool) (.nil)
noncomputable def g0C (k90 g90 k91 g91 k92 g92 k93 g93) :Env:=a0t tab eqs [(90,a0a A90 R90 k90 g90),(91,a0a A91 R91 k91 g91),(92,a0a A92 R92 k92 g92),(93,a0a A93 R93 k93 g93)] 27 [.tmp 2] [] [] [] [] []
def r42 (k90:KA A90) (g90:GA A90 R90) (k91:KA A91) (g91:GA A91 R91) (k92:KA A92) (g92:GA A92 R92) (k93:KA A93) (g93:GA A93 R93) (x:Den A42):Option (Den R42):=
 bif (k90 (x.1.1,()))then
 bif (g90 (x.1.1,())).1 then
 bif (k91 (x.1.2.1,()))then
 bif (g91 (x.1.2.1,())).1 then
 bif (k92 (x.1.2.2.1,()))then
 bif (g92 (x.1.2.2.1,())).1 then
 bif (decide ((↑(List.length x.1.2.2.1):Int)>0))then
 bif (k93 x.1.2.2.2)then
 some (g93 x.1.2.2.2)
 else
 none
 else
 some ((false,()))
 else
 some ((false,()))
 else
 none
 else
 some ((false,()))
 else
 none
 else
 some ((false,()))
 else
 none
theorem g0D (k90 g90 k91 g91 k92 g92 k93 g93 x) :a0E (g0C k90 g90 k91 g91 k92 g92 k93 g93) (a0e Tryz.f42) (a1f R42) (a0V A42 x) []=r42 k90 g90 k91 g91 k92 g92 k93 g93 x:=by kernel_rfl
def F42 (x:Den A42):Option (Den R42):=r42 K90 G90 K91 G91 K92 G92 K93 G93 x
def K42 (x:Den A42):Bool:=(F42 x).isSome
def G42 (x:Den A42):Den R42:=(F42 x).getD (zero R42)
theorem f5c:a0q Tryz.prog (42,a0a A42 R42 K42 G42):=a0s (a0j mixed a0l a0k (.cons e7q (.cons e2y (.cons e2D (.cons f5b .nil))))) (a0O Tryz.func42 rfl rfl rfl (by kernel_rfl) (a0m (by kernel_rfl))) fun x=>g0D K90 G90 K91 G91 K92 G92 K93 G93 x
abbrev A46:Ty:=.cons (.slice (S97)) (.nil)
abbrev R46:Ty:=.cons (.bool) (.nil)
abbrev a9p:Type:=(((List (Den (S97)))×((List (Den (S97)))×(Int×(Int×Unit))))×Unit)
def c4g:ShS:=⟨[(0,.one (.sl (S97))),(8,.one (.sl (S97))),(9,.one (.int .i64)),(10,.one (.int .i64))],[],0,0⟩
abbrev d0I:Type:=(Unit×Unit)
def c1V:ShS:=⟨[],[],0,0⟩
abbrev d0J:Type:=((Bool×Unit)×Unit)
def c1W:ShS:=⟨[(2,.one (.bool))],[],0,0⟩
noncomputable def f8P (k63 g63 k43 g43 kl4 xl4 tl4 yl4) :Env:=a0t tab eqs [(63,a0a A63 R63 k63 g63),(43,a0a A43 R43 k43 g43)] 41 [.tmp 2] [] [] [(4,a1U [0,8,9,10] [] 0 [] [] c4g c1V c1W kl4 tl4 xl4 yl4)] [] []
noncomputable def d9E:Code:=(a0u (a0e Tryz.f46)).getD 0 .skip
def d0K (k63:KA A63) (g63:GA A63 R63) (k43:KA A43) (g43:GA A43 R43) (f:a9p->Option (d0I⊕d0J)) (v:a9p):Option (d0I⊕d0J):=
 bif (decide (v.1.2.2.2.1<v.1.2.2.1))then
 bif (decide (0<=v.1.2.2.2.1)&&decide (v.1.2.2.2.1<(↑(List.length v.1.2.1):Int)))then
 let v0:=(List.getD v.1.2.1 (Int.toNat v.1.2.2.2.1) (zero S97))
 bif (k63 (v0.1,()))then
 bif (!(g63 (v0.1,())).1)then
 some (Sum.inr (((false,()),())))
 else
 bif (k43 v0.2)then
 bif (!(g43 v0.2).1)then
 some (Sum.inr (((false,()),())))
 else
 bif (decide (v.1.2.2.2.1>0))then
 let v5:=(IntKind.wrap .i64 (v.1.2.2.2.1-1))
 bif (decide (0<=v5)&&decide (v5<(↑(List.length v.1.1):Int)))then
 bif (decide (v0.2.1<=(List.getD v.1.1 (Int.toNat v5) (zero S97)).2.1))then
 some (Sum.inr (((false,()),())))
 else
 f (((v.1.1,v.1.2.1,v.1.2.2.1,(IntKind.wrap .i64 (v.1.2.2.2.1+1)),()),()))
 else
 none
 else
 f (((v.1.1,v.1.2.1,v.1.2.2.1,(IntKind.wrap .i64 (v.1.2.2.2.1+1)),()),()))
 else
 none
 else
 none
 else
 none
 else
 some (Sum.inl (((),())))
theorem e2K (k63 g63 k43 g43 kl4 xl4 tl4 yl4 f v) :EBk (f8P k63 g63 k43 g43 kl4 xl4 tl4 yl4) d9E (a0B [0,8,9,10] [] 0 [] [] (atS c4g f) (a5H c1V c1W)) (mkS c4g v)=d0K k63 g63 k43 g43 f v:=by kernel_rfl
def e2L (v:a9p):Nat:=v.1.1.length+v.1.2.1.length+v.1.2.2.1.natAbs+v.1.2.2.2.1.natAbs+1000
def d0L (v:a9p):Option (d0I⊕d0J):=a1u (d0K K63 G63 K43 G43) (e2L v) v
def c4h (v:a9p):Bool:=(d0L v).isSome
def c4i (v:a9p):Bool:=isR (d0L v)
def d0M (v:a9p):d0I:=xOf ((),()) (d0L v)
def c4j (v:a9p):d0J:=yOf ((false,()),()) (d0L v)
def r46 (k63:KA A63) (g63:GA A63 R63) (k43:KA A43) (g43:GA A43 R43) (kl4:a9p->Bool) (xl4:a9p->d0I) (tl4:a9p->Bool) (yl4:a9p->d0J) (x:Den A46):Option (Den R46):=
 bif (decide ((↑(List.length x.1):Int)>200))then
 some ((false,()))
 else
 let w0:=((x.1,x.1,(↑(List.length x.1):Int),0,()),())
 bif (kl4 w0)then
 bif (tl4 w0)then
 some (yl4 w0).1
 else
 some ((true,()))
 else
 none
theorem g0E (k63 g63 k43 g43 kl4 xl4 tl4 yl4 x) :a0E (f8P k63 g63 k43 g43 kl4 xl4 tl4 yl4) (a0e Tryz.f46) (a1f R46) (a0V A46 x) []=r46 k63 g63 k43 g43 kl4 xl4 tl4 yl4 x:=by kernel_rfl
def F46 (x:Den A46):Option (Den R46):=r46 K63 G63 K43 G43 c4h d0M c4i c4j x
def K46 (x:Den A46):Bool:=(F46 x).isSome
def G46 (x:Den A46):Den R46:=(F46 x).getD (zero R46)
theorem f5d:a0q Tryz.prog (46,a0a A46 R46 K46 G46):=a0s (a0j mixed a0l a0k (.cons d6h (.cons d6i .nil))) (a0O Tryz.func46 rfl rfl rfl (by kernel_rfl) (a0D (l:=[d9E]) (by kernel_rfl) (.cons (a0r rfl (a0x (sh:=c4g) (shX:=c1V) (shR:=c1W) (fun f v=>e2K K63 G63 K43 G43 c4h d0M c4i c4j f v) e2L ((),()) ((false,()),()))) (.nil)))) fun x=>g0E K63 G63 K43 G43 c4h d0M c4i c4j x
abbrev b9n:Ty:=.cons (.cpx .f64) (.cons (.cpx .f64) (.nil))
abbrev c6E:Ty:=.cons (.flt .f64) (.nil)
noncomputable def f5e:Env:=a0t tab eqs [] 16 [.tmp 4] [] [] [] [] []
def f8Q (x:Den b9n):Option (Den c6E):=
 some (((a0i .add .f64 (a0i .mul .f64 x.1.1 x.2.1.1) (a0i .mul .f64 x.1.2 x.2.1.2)),()))
theorem f5f (x) :a0E (f5e) (a0e Tryz.f225) (a1f c6E) (a0V b9n x) []=f8Q x:=by kernel_rfl
def e7A (x:Den b9n):Option (Den c6E):=f8Q x
def c6F (x:Den b9n):Bool:=(e7A x).isSome
def c6G (x:Den b9n):Den c6E:=(e7A x).getD (zero c6E)
theorem d0N:a0q Tryz.prog (225,a0a b9n c6E c6F c6G):=a0s (a0j mixed a0l a0k .nil) (a0O Tryz.func225 rfl rfl rfl (by kernel_rfl) (a0m (by kernel_rfl))) fun x=>f5f x
abbrev c4k:Sg:=⟨[.val (.int .i64),.val (.cpx .f64),.ptr 0,.ptr 1,.ptr 2],[.box (.cpx .f64),.box (.flt .f64),.box (.int .i64)]⟩
abbrev d0O:Sg:=⟨[],[.box (.cpx .f64),.box (.flt .f64),.box (.int .i64)]⟩
noncomputable def f5g (k225 g225) :Env:=a0t tab eqs [(225,a0a b9n c6E k225 g225)] 20 [] [] [] [] [] []
def f5h (k225:KA b9n) (g225:GA b9n c6E) (x:c4k.den):Option (d0O.den):=
 bif (k225 (x.2.1,x.1.2.1,()))then
 bif (x.1.1==0)then
 some (((),x.2.1,(g225 (x.2.1,x.1.2.1,())).1,x.1.1,()))
 else
 let v1:=(g225 (x.2.1,x.1.2.1,()))
 bif (fgt .f64 v1.1 x.2.2.1)then
 some (((),x.2.1,v1.1,x.1.1,()))
 else
 some (((),x.2))
 else
 none
theorem f5i (k225 g225 x) :a1N (f5g k225 g225) (a0e Tryz.f224) c4k d0O x=f5h k225 g225 x:=by kernel_rfl
def f1a (x:c4k.den):Option (d0O.den):=f5h c6F c6G x
def d6p (x:c4k.den):Bool:=(f1a x).isSome
def d6q (x:c4k.den):d0O.den:=(f1a x).getD (a1d d0O)
theorem d9F:a0q Tryz.prog (224,a0n true c4k d0O d6p d6q):=a1k (a0j mixed a0l a0k (.cons d0N .nil)) (a0O Tryz.func224 rfl rfl rfl (by kernel_rfl) (a0m (by kernel_rfl))) true fun x=>f5i c6F c6G x
abbrev c0O:Ty:=.cons (.cpx .f64) (.cons (.cpx .f64) (.nil))
abbrev c7H:Ty:=.cons (.cpx .f64) (.nil)
noncomputable def f5j:Env:=a0t tab eqs [] 32 [.tmp 4] [] [] [] [] []
def f8R (x:Den c0O):Option (Den c7H):=
 some ((((a0i .sub .f64 (a0i .mul .f64 x.1.1 x.2.1.1) (a0i .mul .f64 x.1.2 x.2.1.2)),(a0i .add .f64 (a0i .mul .f64 x.1.1 x.2.1.2) (a0i .mul .f64 x.1.2 x.2.1.1))),()))
theorem f5k (x) :a0E (f5j) (a0e Tryz.f177) (a1f c7H) (a0V c0O x) []=f8R x:=by kernel_rfl
def e7B (x:Den c0O):Option (Den c7H):=f8R x
def c6H (x:Den c0O):Bool:=(e7B x).isSome
def c6I (x:Den c0O):Den c7H:=(e7B x).getD (zero c7H)
theorem d9G:a0q Tryz.prog (177,a0a c0O c7H c6H c6I):=a0s (a0j mixed a0l a0k .nil) (a0O Tryz.func177 rfl rfl rfl (by kernel_rfl) (a0m (by kernel_rfl))) fun x=>f5k x
abbrev d6r:Sg:=⟨[.fnv 224 [0,1,2]],[.box (.cpx .f64),.box (.flt .f64),.box (.int .i64)]⟩
abbrev d9H:Sg:=⟨[],[.box (.cpx .f64),.box (.flt .f64),.box (.int .i64)]⟩
abbrev a8Q:Type:=((Unit×((Nat×Nat)×(Int×Unit)))×(((Nat×Nat)×Unit)×((Nat×Unit)×((Int×Unit)×Unit))))
def b5w:ShS:=⟨[(0,.one (.fn 224 [0,1,2])),(2,.one (.cpx .f64)),(3,.one (.int .i64))],[(0,.box [.cpx .f64]),(1,.box [.flt .f64]),(2,.box [.int .i64])],3,3⟩
abbrev b9o:Type:=(Unit×(((Nat×Nat)×Unit)×((Nat×Unit)×((Int×Unit)×Unit))))
def b5x:ShS:=⟨[],[(0,.box [.cpx .f64]),(1,.box [.flt .f64]),(2,.box [.int .i64])],3,3⟩
noncomputable def e7C (k177 g177 k224 g224 kl2 xl2) :Env:=a0t tab eqs [(177,a0a c0O c7H k177 g177),(224,a0n true c4k d0O k224 g224)] 14 [] [] [] [(2,a1X [0,2,3] [] 0 [] [] b5w b5x kl2 xl2)] [] []
noncomputable def d0P:Code:=(a0u (a0e Tryz.f223)).getD 0 .skip
def b9p (k177:KA c0O) (g177:GA c0O c7H) (k224:KI c4k) (g224:GI c4k d0O) (f:a8Q->Option (b9o)) (v:a8Q):Option (b9o):=
 bif (decide (v.1.2.2.1<360))then
 let w0:=((v.1.2.2.1,v.1.2.1,(),(),(),()),v.2.1.1,v.2.2.1.1,v.2.2.2.1)
 bif (k224 w0)then
 let w1:=(v.1.2.1,(4607181046959943561,4580687535080594718),())
 bif (k177 w1)then
 let v4:=(g224 w0)
 f ((((),(g177 w1).1,(IntKind.wrap .i64 (v.1.2.2.1+1)),()),(v4.2.1,()),(v4.2.2.1,()),v4.2.2.2,()))
 else
 none
 else
 none
 else
 some (((),v.2))
theorem d6s (k177 g177 k224 g224 kl2 xl2 f v) :EBk (e7C k177 g177 k224 g224 kl2 xl2) d0P (a0B [0,2,3] [] 0 [] [] (atS b5w f) (a5U b5x)) (mkS b5w v)=b9p k177 g177 k224 g224 f v:=by kernel_rfl
def c4l (v:a8Q):Nat:=v.1.2.2.1.natAbs+v.2.2.2.1.1.natAbs+1000
def d0Q (v:a8Q):Option (b9o):=a1u (b9p c6H c6I d6p d6q) (c4l v) v
def b5y (v:a8Q):Bool:=(d0Q v).isSome
def b5z (v:a8Q):b9o:=(d0Q v).getD ((),(((0,0),()),((0,()),((0,()),()))))
def f5l (k177:KA c0O) (g177:GA c0O c7H) (k224:KI c4k) (g224:GI c4k d0O) (kl2:a8Q->Bool) (xl2:a8Q->b9o) (x:d6r.den):Option (d9H.den):=
 let w0:=(((),(4607182418800017408,0),0,()),(x.2.1,()),(x.2.2.1,()),x.2.2.2,())
 bif (kl2 w0)then
 let v1:=(xl2 w0)
 some (((),v1.2.1.1,v1.2.2.1.1,v1.2.2.2.1))
 else
 none
theorem f5m (k177 g177 k224 g224 kl2 xl2 x) :a1N (e7C k177 g177 k224 g224 kl2 xl2) (a0e Tryz.f223) d6r d9H x=f5l k177 g177 k224 g224 kl2 xl2 x:=by kernel_rfl
def f1b (x:d6r.den):Option (d9H.den):=f5l c6H c6I d6p d6q b5y b5z x
def f1c (x:d6r.den):Bool:=(f1b x).isSome
def f1d (x:d6r.den):d9H.den:=(f1b x).getD (a1d d9H)
theorem e7D:a0q Tryz.prog (223,a0n true d6r d9H f1c f1d):=a1k (a0j mixed a0l a0k (.cons d9G (.cons d9F .nil))) (a0O Tryz.func223 rfl rfl rfl (by kernel_rfl) (a0D (l:=[d0P]) (by kernel_rfl) (.cons (a0r rfl (a0y (sh:=b5w) (shX:=b5x) (fun f v=>d6s c6H c6I d6p d6q b5y b5z f v) c4l ((),(((0,0),()),((0,()),((0,()),())))))) (.nil)))) true fun x=>f5m c6H c6I d6p d6q b5y b5z x
abbrev d6t:Ty:=.cons (.cpx .f64) (.nil)
abbrev d9I:Ty:=.cons (.int .i64) (.nil)
noncomputable def f5n (k61 g61 k224 g224 k223 g223) :Env:=a0t tab eqs [(61,a0a A61 R61 k61 g61),(224,a0n true c4k d0O k224 g224),(223,a0n true d6r d9H k223 g223)] 15 [.tmp 2] [] [] [] [] []
def f5o (k61:KA A61) (g61:GA A61 R61) (k224:KI c4k) (g224:GI c4k d0O) (k223:KI d6r) (g223:GI d6r d9H) (x:Den d6t):Option (Den d9I):=
 bif (k61 x)then
 bif (!(g61 x).1)then
 some ((-1,()))
 else
 bif (feq .f64 x.1.1 0&&feq .f64 x.1.2 0)then
 some ((-1,()))
 else
 bif (k223 (((),()),x.1,0,0,()))then
 some (g223 (((),()),x.1,0,0,())).2.2.2
 else
 none
 else
 none
theorem f5p (k61 g61 k224 g224 k223 g223 x) :a0E (f5n k61 g61 k224 g224 k223 g223) (a0e Tryz.f178) (a1f d9I) (a0V d6t x) []=f5o k61 g61 k224 g224 k223 g223 x:=by kernel_rfl
def e7E (x:Den d6t):Option (Den d9I):=f5o K61 G61 d6p d6q f1c f1d x
def f1e (x:Den d6t):Bool:=(e7E x).isSome
def f1f (x:Den d6t):Den d9I:=(e7E x).getD (zero d9I)
theorem e7F:a0q Tryz.prog (178,a0a d6t d9I f1e f1f):=a0s (a0j mixed a0l a0k (.cons c1N (.cons d9F (.cons e7D .nil)))) (a0O Tryz.func178 rfl rfl rfl (by kernel_rfl) (a0m (by kernel_rfl))) fun x=>f5p K61 G61 d6p d6q f1c f1d x
abbrev c7I:Ty:=.cons (.cpx .f32) (.nil)
abbrev d4c:Ty:=.cons (.int .i64) (.nil)
noncomputable def f5q (k45 g45 k178 g178) :Env:=a0t tab eqs [(45,a0a A45 R45 k45 g45),(178,a0a d6t d9I k178 g178)] 20 [.tmp 2] [] [] [] [] []
def f5r (k45:KA A45) (g45:GA A45 R45) (k178:KA d6t) (g178:GA d6t d9I) (x:Den c7I):Option (Den d4c):=
 bif (k45 x)then
 bif (!(g45 x).1)then
 some ((-1,()))
 else
 bif (feq .f32 x.1.1 0&&feq .f32 x.1.2 0)then
 some ((-1,()))
 else
 let v2:=(a5R .f32 x.1.1)
 let v3:=(a5R .f32 x.1.2)
 let w0:=(((a1a .f32 .f64 v2).2,(a1a .f32 .f64 v3).2),())
 bif (k178 w0)then
 some (g178 w0)
 else
 none
 else
 none
theorem f5s (k45 g45 k178 g178 x) :a0E (f5q k45 g45 k178 g178) (a0e Tryz.f110) (a1f d4c) (a0V c7I x) []=f5r k45 g45 k178 g178 x:=by kernel_rfl
def e7G (x:Den c7I):Option (Den d4c):=f5r K45 G45 f1e f1f x
def d6u (x:Den c7I):Bool:=(e7G x).isSome
def c7J (x:Den c7I):Den d4c:=(e7G x).getD (zero d4c)
theorem d9J:a0q Tryz.prog (110,a0a c7I d4c d6u c7J):=a0s (a0j mixed a0l a0k (.cons b4Y (.cons e7F .nil))) (a0O Tryz.func110 rfl rfl rfl (by kernel_rfl) (a0m (by kernel_rfl))) fun x=>f5s K45 G45 f1e f1f x
abbrev d6v:Ty:=.cons (.cpx .f32) (.nil)
abbrev d9K:Ty:=.cons (.cpx .f64) (.nil)
noncomputable def f5t:Env:=a0t tab eqs [] 10 [.tmp 2] [] [] [] [] []
def f8S (x:Den d6v):Option (Den d9K):=
 some ((((a1a .f32 .f64 x.1.1).2,(a1a .f32 .f64 x.1.2).2),()))
theorem f5u (x) :a0E (f5t) (a0e Tryz.f181) (a1f d9K) (a0V d6v x) []=f8S x:=by kernel_rfl
def f5v (x:Den d6v):Option (Den d9K):=f8S x
def f1g (x:Den d6v):Bool:=(f5v x).isSome
def f1h (x:Den d6v):Den d9K:=(f5v x).getD (zero d9K)
theorem e7H:a0q Tryz.prog (181,a0a d6v d9K f1g f1h):=a0s (a0j mixed a0l a0k .nil) (a0O Tryz.func181 rfl rfl rfl (by kernel_rfl) (a0m (by kernel_rfl))) fun x=>f5u x
abbrev d6w:Ty:=.cons (.flt .f64) (.nil)
abbrev d9L:Ty:=.cons (.flt .f64) (.nil)
abbrev a8R:Type:=((Nat×(Nat×(Int×Unit)))×Unit)
def b5A:ShS:=⟨[(0,.one (.flt .f64)),(3,.one (.flt .f64)),(4,.one (.int .i64))],[],0,0⟩
abbrev b9q:Type:=((Nat×Unit)×Unit)
def b5B:ShS:=⟨[(3,.one (.flt .f64))],[],0,0⟩
noncomputable def e7I (kl5 xl5) :Env:=a0t tab eqs [] 25 [.tmp 2] [] [] [(5,a1X [0,3,4] [] 0 [3] [] b5A b5B kl5 xl5)] [] []
noncomputable def d0R:Code:=(a0u (a0e Tryz.f228)).getD 0 .skip
def b9r (f:a8R->Option (b9q)) (v:a8R):Option (b9q):=
 bif (decide (v.1.2.2.1<60))then
 f (((v.1.1,(a0i .quo .f64 (a0i .add .f64 v.1.2.1 (a0i .quo .f64 v.1.1 v.1.2.1)) 4611686018427387904),(IntKind.wrap .i64 (v.1.2.2.1+1)),()),()))
 else
 some (((v.1.2.1,()),()))
theorem d6x (kl5 xl5 f v) :EBk (e7I kl5 xl5) d0R (a0B [0,3,4] [] 0 [3] [] (atS b5A f) (a5U b5B)) (mkS b5A v)=b9r f v:=by kernel_rfl
def c4m (v:a8R):Nat:=v.1.2.2.1.natAbs+1000
def d0S (v:a8R):Option (b9q):=a1u (b9r) (c4m v) v
def b5C (v:a8R):Bool:=(d0S v).isSome
def b5D (v:a8R):b9q:=(d0S v).getD ((0,()),())
def f5w (kl5:a8R->Bool) (xl5:a8R->b9q) (x:Den d6w):Option (Den d9L):=
 bif (fgt .f64 x.1 4427486594234968593||feq .f64 x.1 4427486594234968593)then
 bif (!(flt .f64 x.1 4861130398305394688||feq .f64 x.1 4861130398305394688))then
 some ((0,()))
 else
 let v0:=(c0S .f64 x.1 4607182418800017408)
 bif (kl5 ((x.1,v0,0,()),()))then
 some (xl5 ((x.1,v0,0,()),())).1
 else
 none
 else
 some ((0,()))
theorem f5x (kl5 xl5 x) :a0E (e7I kl5 xl5) (a0e Tryz.f228) (a1f d9L) (a0V d6w x) []=f5w kl5 xl5 x:=by kernel_rfl
def e7J (x:Den d6w):Option (Den d9L):=f5w b5C b5D x
def f1i (x:Den d6w):Bool:=(e7J x).isSome
def f1j (x:Den d6w):Den d9L:=(e7J x).getD (zero d9L)
theorem e7K:a0q Tryz.prog (228,a0a d6w d9L f1i f1j):=a0s (a0j mixed a0l a0k .nil) (a0O Tryz.func228 rfl rfl rfl (by kernel_rfl) (a0D (l:=[d0R]) (by kernel_rfl) (.cons (a0r rfl (a0y (sh:=b5A) (shX:=b5B) (fun f v=>d6x b5C b5D f v) c4m ((0,()),()))) (.nil)))) fun x=>f5x b5C b5D x
abbrev d6y:Ty:=.cons (.cpx .f64) (.nil)
abbrev d9M:Ty:=.cons (.flt .f64) (.nil)
noncomputable def f5y (k61 g61 k225 g225 k228 g228) :Env:=a0t tab eqs [(61,a0a A61 R61 k61 g61),(225,a0a b9n c6E k225 g225),(228,a0a d6w d9L k228 g228)] 10 [.tmp 2] [] [] [] [] []
def f5z (k61:KA A61) (g61:GA A61 R61) (k225:KA b9n) (g225:GA b9n c6E) (k228:KA d6w) (g228:GA d6w d9L) (x:Den d6y):Option (Den d9M):=
 bif (k61 x)then
 bif (!(g61 x).1)then
 some ((0,()))
 else
 bif (k225 (x.1,x))then
 let v3:=(g225 (x.1,x))
 bif (k228 v3)then
 some (g228 v3)
 else
 none
 else
 none
 else
 none
theorem f5A (k61 g61 k225 g225 k228 g228 x) :a0E (f5y k61 g61 k225 g225 k228 g228) (a0e Tryz.f180) (a1f d9M) (a0V d6y x) []=f5z k61 g61 k225 g225 k228 g228 x:=by kernel_rfl
def e7L (x:Den d6y):Option (Den d9M):=f5z K61 G61 c6F c6G f1i f1j x
def f1k (x:Den d6y):Bool:=(e7L x).isSome
def f1l (x:Den d6y):Den d9M:=(e7L x).getD (zero d9M)
theorem e7M:a0q Tryz.prog (180,a0a d6y d9M f1k f1l):=a0s (a0j mixed a0l a0k (.cons c1N (.cons d0N (.cons e7K .nil)))) (a0O Tryz.func180 rfl rfl rfl (by kernel_rfl) (a0m (by kernel_rfl))) fun x=>f5A K61 G61 c6F c6G f1i f1j x
abbrev c7K:Ty:=.cons (.cpx .f32) (.nil)
abbrev d4d:Ty:=.cons (.flt .f32) (.nil)
noncomputable def f5B (k45 g45 k181 g181 k180 g180) :Env:=a0t tab eqs [(45,a0a A45 R45 k45 g45),(181,a0a d6v d9K k181 g181),(180,a0a d6y d9M k180 g180)] 10 [.tmp 2] [] [] [] [] []
def f5C (k45:KA A45) (g45:GA A45 R45) (k181:KA d6v) (g181:GA d6v d9K) (k180:KA d6y) (g180:GA d6y d9M) (x:Den c7K):Option (Den d4d):=
 bif (k45 x)then
 bif (!(g45 x).1)then
 some ((0,()))
 else
 bif (k181 x)then
 let v3:=(g181 x)
 bif (k180 v3)then
 let v5:=(g180 v3)
 let w0:=(a1a .f64 .f32 v5.1)
 bif (w0.1)then
 some ((w0.2,()))
 else
 none
 else
 none
 else
 none
 else
 none
theorem f5D (k45 g45 k181 g181 k180 g180 x) :a0E (f5B k45 g45 k181 g181 k180 g180) (a0e Tryz.f112) (a1f d4d) (a0V c7K x) []=f5C k45 g45 k181 g181 k180 g180 x:=by kernel_rfl
def e7N (x:Den c7K):Option (Den d4d):=f5C K45 G45 f1g f1h f1k f1l x
def d6z (x:Den c7K):Bool:=(e7N x).isSome
def d4e (x:Den c7K):Den d4d:=(e7N x).getD (zero d4d)
theorem d9N:a0q Tryz.prog (112,a0a c7K d4d d6z d4e):=a0s (a0j mixed a0l a0k (.cons b4Y (.cons e7H (.cons e7M .nil)))) (a0O Tryz.func112 rfl rfl rfl (by kernel_rfl) (a0m (by kernel_rfl))) fun x=>f5D K45 G45 f1g f1h f1k f1l x
abbrev c4n:Ty:=.cons (.int .i64) (.nil)
abbrev d0T:Ty:=.cons (.int .i64) (.nil)
noncomputable def f5E:Env:=a0t tab eqs [] 7 [.tmp 2] [] [] [] [] []
def f5F (x:Den c4n):Option (Den d0T):=
 some ((Int.tmod (IntKind.wrap .i64 (Int.tmod x.1 360+360)) 360,()))
theorem f5G (x) :a0E (f5E) (a0e Tryz.f176) (a1f d0T) (a0V c4n x) []=f5F x:=by kernel_rfl
def d6A (x:Den c4n):Option (Den d0T):=f5F x
def d4f (x:Den c4n):Bool:=(d6A x).isSome
def d4g (x:Den c4n):Den d0T:=(d6A x).getD (zero d0T)
theorem d9O:a0q Tryz.prog (176,a0a c4n d0T d4f d4g):=a0s (a0j mixed a0l a0k .nil) (a0O Tryz.func176 rfl rfl rfl (by kernel_rfl) (a0m (by kernel_rfl))) fun x=>f5G x
abbrev c7L:Ty:=.cons (.int .i64) (.cons (.int .i64) (.nil))
abbrev d4h:Ty:=.cons (.int .i64) (.nil)
noncomputable def f5H (k176 g176) :Env:=a0t tab eqs [(176,a0a c4n d0T k176 g176)] 17 [.tmp 4] [] [] [] [] []
def f5I (k176:KA c4n) (g176:GA c4n d0T) (x:Den c7L):Option (Den d4h):=
 bif (k176 x.2)then
 bif (k176 (x.1,()))then
 let v4:=(IntKind.wrap .i64 ((g176 x.2).1-(g176 (x.1,())).1))
 bif (k176 (v4,()))then
 let v6:=(g176 (v4,()))
 let v7:=(IntKind.wrap .i64 (0-v6.1))
 bif (k176 (v7,()))then
 some ((a4h v6.1 (g176 (v7,())).1,()))
 else
 none
 else
 none
 else
 none
 else
 none
theorem f5J (k176 g176 x) :a0E (f5H k176 g176) (a0e Tryz.f113) (a1f d4h) (a0V c7L x) []=f5I k176 g176 x:=by kernel_rfl
def e7O (x:Den c7L):Option (Den d4h):=f5I d4f d4g x
def d6B (x:Den c7L):Bool:=(e7O x).isSome
def d4i (x:Den c7L):Den d4h:=(e7O x).getD (zero d4h)
theorem d9P:a0q Tryz.prog (113,a0a c7L d4h d6B d4i):=a0s (a0j mixed a0l a0k (.cons d9O .nil)) (a0O Tryz.func113 rfl rfl rfl (by kernel_rfl) (a0m (by kernel_rfl))) fun x=>f5J d4f d4g x
abbrev b5E:Ty:=.cons (.flt .f32) (.cons (.flt .f32) (.cons (.flt .f32) (.nil)))
abbrev c4o:Ty:=.cons (.flt .f32) (.nil)
noncomputable def f5K:Env:=a0t tab eqs [] 16 [.tmp 6] [] [] [] [] []
def f8T (x:Den b5E):Option (Den c4o):=
 some (((a0i .add .f32 x.1 (a0i .mul .f32 (a0i .sub .f32 x.2.1 x.1) x.2.2.1)),()))
theorem f5L (x) :a0E (f5K) (a0e Tryz.f227) (a1f c4o) (a0V b5E x) []=f8T x:=by kernel_rfl
def f5M (x:Den b5E):Option (Den c4o):=f8T x
def c4p (x:Den b5E):Bool:=(f5M x).isSome
def c4q (x:Den b5E):Den c4o:=(f5M x).getD (zero c4o)
theorem d0U:a0q Tryz.prog (227,a0a b5E c4o c4p c4q):=a0s (a0j mixed a0l a0k .nil) (a0O Tryz.func227 rfl rfl rfl (by kernel_rfl) (a0m (by kernel_rfl))) fun x=>f5L x
abbrev d0V:Ty:=.cons (S27) (.cons (.slice (.flt .f32)) (.cons (.int .i64) (.nil)))
abbrev d6C:Ty:=.cons (.flt .f32) (.nil)
abbrev a4T:Type:=(((List (Den (.flt .f32)))×(Int×(Unit×((List (Den (.int .i64)))×(Int×(Int×Unit))))))×(((List (Den (.flt .f32)))×((List (Den (.int .i64)))×((List (Den (.slice (.flt .f32))))×Unit)))×Unit))
def b5F:ShS:=⟨[(1,.one (.sl (.flt .f32))),(2,.one (.int .i64)),(3,.one (.ptr 0 0)),(11,.one (.sl (.int .i64))),(12,.one (.int .i64)),(13,.one (.int .i64))],[(0,.box [.sl (.flt .f32),.sl (.int .i64),.sl (.slice (.flt .f32))])],1,0⟩
abbrev b9s:Type:=(Unit×Unit)
def b5G:ShS:=⟨[],[],0,0⟩
abbrev b9t:Type:=((Nat×Unit)×Unit)
def b5H:ShS:=⟨[(6,.one (.flt .f32))],[],0,0⟩
noncomputable def e7P (k227 g227 kl2 xl2 tl2 yl2) :Env:=a0t tab eqs [(227,a0a b5E c4o k227 g227)] 54 [.tmp 6] [] [] [(2,a1U [1,2,3,11,12,13] [] 0 [] [] b5F b5G b5H kl2 tl2 xl2 yl2)] [] []
noncomputable def d0W:Code:=(a0u (a0e Tryz.f226)).getD 0 .skip
def b9u (k227:KA b5E) (g227:GA b5E c4o) (f:a4T->Option (b9s⊕b9t)) (v:a4T):Option (b9s⊕b9t):=
 bif (decide (v.1.2.2.2.2.2.1<v.1.2.2.2.2.1))then
 bif (decide (0<=v.1.2.2.2.2.2.1)&&decide (v.1.2.2.2.2.2.1<(↑(List.length v.1.2.2.2.1):Int)))then
 let w0:=(Int.toNat v.1.2.2.2.2.2.1)
 let w2:=(zero (Ty.int IntKind.i64))
 let v0:=(List.getD v.1.2.2.2.1 w0 w2)
 bif (v0==v.1.2.1)then
 bif (decide (0<=v.1.2.2.2.2.2.1)&&decide (v.1.2.2.2.2.2.1<(↑(List.length v.1.1):Int)))then
 some (Sum.inr ((((List.getD v.1.1 w0 (zero (Ty.flt .f32))),()),())))
 else
 none
 else
 bif (decide (v0>v.1.2.1))then
 let v1:=(IntKind.wrap .i64 (v.1.2.2.2.2.2.1-1))
 bif (decide (0<=v1)&&decide (v1<(↑(List.length v.2.1.2.1):Int)))then
 let w3:=(↑(List.length v.1.1):Int)
 bif (decide (0<=v1)&&decide (v1<w3))then
 bif (decide (0<=v.1.2.2.2.2.2.1)&&decide (v.1.2.2.2.2.2.1<w3))then
 let w1:=(zero (Ty.flt .f32))
 let v2:=(List.getD v.1.1 (Int.toNat v1) w1)
 let v3:=(List.getD v.1.1 w0 w1)
 let v4:=(List.getD v.2.1.2.1 (Int.toNat v1) w2)
 let v7:=(a0i .quo .f32 (FloatKind.nearest .f32 (IntKind.wrap .i64 (v.1.2.1-v4))) (FloatKind.nearest .f32 (IntKind.wrap .i64 (v0-v4))))
 bif (k227 (v2,v3,v7,()))then
 some (Sum.inr (((g227 (v2,v3,v7,())),())))
 else
 none
 else
 none
 else
 none
 else
 none
 else
 f (((v.1.1,v.1.2.1,(),v.1.2.2.2.1,v.1.2.2.2.2.1,(IntKind.wrap .i64 (v.1.2.2.2.2.2.1+1)),()),v.2))
 else
 none
 else
 some (Sum.inl (((),())))
theorem d6D (k227 g227 kl2 xl2 tl2 yl2 f v) :EBk (e7P k227 g227 kl2 xl2 tl2 yl2) d0W (a0B [1,2,3,11,12,13] [] 0 [] [] (atS b5F f) (a5H b5G b5H)) (mkS b5F v)=b9u k227 g227 f v:=by kernel_rfl
def c4r (v:a4T):Nat:=v.1.1.length+v.1.2.1.natAbs+v.1.2.2.2.1.length+v.1.2.2.2.2.1.natAbs+v.1.2.2.2.2.2.1.natAbs+v.2.1.1.length+v.2.1.2.1.length+v.2.1.2.2.1.length+1000
def b9v (v:a4T):Option (b9s⊕b9t):=a1u (b9u c4p c4q) (c4r v) v
def b5I (v:a4T):Bool:=(b9v v).isSome
def b5J (v:a4T):Bool:=isR (b9v v)
def c1X (v:a4T):b9s:=xOf ((),()) (b9v v)
def b5K (v:a4T):b9t:=yOf ((0,()),()) (b9v v)
def f5N (k227:KA b5E) (g227:GA b5E c4o) (kl2:a4T->Bool) (xl2:a4T->b9s) (tl2:a4T->Bool) (yl2:a4T->b9t) (x:Den d0V):Option (Den d6C):=
 let w0:=((x.2.1,x.2.2.1,(),x.1.2.1,(↑(List.length x.1.2.1):Int),0,()),x.1,())
 bif (kl2 w0)then
 bif (tl2 w0)then
 some (yl2 w0).1
 else
 some ((0,()))
 else
 none
theorem f5O (k227 g227 kl2 xl2 tl2 yl2 x) :a0E (e7P k227 g227 kl2 xl2 tl2 yl2) (a0e Tryz.f226) (a1f d6C) (a0V d0V x) []=f5N k227 g227 kl2 xl2 tl2 yl2 x:=by kernel_rfl
def d9Q (x:Den d0V):Option (Den d6C):=f5N c4p c4q b5I c1X b5J b5K x
def e2M (x:Den d0V):Bool:=(d9Q x).isSome
def e2N (x:Den d0V):Den d6C:=(d9Q x).getD (zero d6C)
theorem e7Q:a0q Tryz.prog (226,a0a d0V d6C e2M e2N):=a0s (a0j mixed a0l a0k (.cons d0U .nil)) (a0O Tryz.func226 rfl rfl rfl (by kernel_rfl) (a0D (l:=[d0W]) (by kernel_rfl) (.cons (a0r rfl (a0x (sh:=b5F) (shX:=b5G) (shR:=b5H) (fun f v=>d6D c4p c4q b5I c1X b5J b5K f v) c4r ((),()) ((0,()),()))) (.nil)))) fun x=>f5O c4p c4q b5I c1X b5J b5K x
abbrev d6E:Ty:=.cons (S27) (.cons (.flt .f32) (.cons (.int .i64) (.nil)))
abbrev d9R:Ty:=.cons (.flt .f32) (.nil)
abbrev a8S:Type:=((Nat×(Int×(Unit×(Int×Unit))))×(((List (Den (.flt .f32)))×((List (Den (.int .i64)))×((List (Den (.slice (.flt .f32))))×Unit)))×Unit))
def b5L:ShS:=⟨[(1,.one (.flt .f32)),(2,.one (.int .i64)),(3,.one (.ptr 0 0)),(8,.one (.int .i64))],[(0,.box [.sl (.flt .f32),.sl (.int .i64),.sl (.slice (.flt .f32))])],1,0⟩
abbrev b9w:Type:=((Nat×(Int×(Unit×(Int×Unit))))×(((List (Den (.flt .f32)))×((List (Den (.int .i64)))×((List (Den (.slice (.flt .f32))))×Unit)))×Unit))
def b5M:ShS:=⟨[(1,.one (.flt .f32)),(2,.one (.int .i64)),(3,.one (.ptr 0 0)),(8,.one (.int .i64))],[(0,.box [.sl (.flt .f32),.sl (.int .i64),.sl (.slice (.flt .f32))])],1,0⟩
noncomputable def e7R (k226 g226 k227 g227 kl7 xl7) :Env:=a0t tab eqs [(226,a0a d0V d6C k226 g226),(227,a0a b5E c4o k227 g227)] 98 [.tmp 6] [] [] [(7,a1X [1,2,3,8] [] 0 [1,2,3,8] [] b5L b5M kl7 xl7)] [] []
noncomputable def d0X:Code:=(a0u (a0e Tryz.f179)).getD 0 .skip
def b9x (k226:KA d0V) (g226:GA d0V d6C) (k227:KA b5E) (g227:GA b5E c4o) (f:a8S->Option (b9w)) (v:a8S):Option (b9w):=
 let v0:=(IntKind.wrap .i64 (v.1.2.2.2.1+1))
 bif (decide (0<=v0)&&decide (v0<(↑(List.length v.2.1.1):Int)))then
 let v1:=(List.getD v.2.1.1 (Int.toNat v0) (zero (Ty.flt .f32)))
 bif (flt .f32 v1 v.1.1||feq .f32 v1 v.1.1)then
 f (((v.1.1,v.1.2.1,(),v0,()),v.2))
 else
 some (v)
 else
 none
theorem d6F (k226 g226 k227 g227 kl7 xl7 f v) :EBk (e7R k226 g226 k227 g227 kl7 xl7) d0X (a0B [1,2,3,8] [] 0 [1,2,3,8] [] (atS b5L f) (a5U b5M)) (mkS b5L v)=b9x k226 g226 k227 g227 f v:=by kernel_rfl
def c4s (v:a8S):Nat:=v.1.2.1.natAbs+v.1.2.2.2.1.natAbs+v.2.1.1.length+v.2.1.2.1.length+v.2.1.2.2.1.length+1000
def d0Y (v:a8S):Option (b9w):=a1u (b9x e2M e2N c4p c4q) (c4s v) v
def b5N (v:a8S):Bool:=(d0Y v).isSome
def b5O (v:a8S):b9w:=(d0Y v).getD ((0,(0,((),(0,())))),(([],([],([],()))),()))
def f5P (k226:KA d0V) (g226:GA d0V d6C) (k227:KA b5E) (g227:GA b5E c4o) (kl7:a8S->Bool) (xl7:a8S->b9w) (x:Den d6E):Option (Den d9R):=
 let w1:=(↑(List.length x.1.1):Int)
 let w3:=(decide (0<=0)&&decide (0<w1))
 bif w3 then
 let w0:=(zero (Ty.flt .f32))
 let v0:=(List.getD x.1.1 (Int.toNat 0) w0)
 bif (flt .f32 x.2.1 v0||feq .f32 x.2.1 v0)then
 bif w3 then
 bif (decide (0<=0)&&decide (0<(↑(List.length x.1.2.2.1):Int)))then
 let v1:=(List.getD x.1.2.2.1 (Int.toNat 0) (zero (Ty.slice (Ty.flt .f32))))
 bif (k226 (x.1,v1,x.2.2))then
 some (((a0i .mul .f32 (a0i .quo .f32 x.2.1 v0) (g226 (x.1,v1,x.2.2)).1),()))
 else
 none
 else
 none
 else
 none
 else
 let v1:=(IntKind.wrap .i64 (w1-1))
 bif (decide (0<=v1)&&decide (v1<w1))then
 let v2:=(List.getD x.1.1 (Int.toNat v1) w0)
 bif (fgt .f32 x.2.1 v2||feq .f32 x.2.1 v2)then
 bif (decide (0<=v1)&&decide (v1<(↑(List.length x.1.2.2.1):Int)))then
 let v3:=(List.getD x.1.2.2.1 (Int.toNat v1) (zero (Ty.slice (Ty.flt .f32))))
 bif (k226 (x.1,v3,x.2.2))then
 some (g226 (x.1,v3,x.2.2))
 else
 none
 else
 none
 else
 let w5:=((x.2.1,x.2.2.1,(),0,()),x.1,())
 bif (kl7 w5)then
 let v4:=(xl7 w5)
 let w6:=(↑(List.length v4.2.1.1):Int)
 bif (decide (0<=v4.1.2.2.2.1)&&decide (v4.1.2.2.2.1<w6))then
 let v5:=(IntKind.wrap .i64 (v4.1.2.2.2.1+1))
 bif (decide (0<=v5)&&decide (v5<w6))then
 let w4:=(↑(List.length v4.2.1.2.2.1):Int)
 bif (decide (0<=v4.1.2.2.2.1)&&decide (v4.1.2.2.2.1<w4))then
 let w2:=(zero (Ty.slice (Ty.flt .f32)))
 let v6:=(List.getD v4.2.1.2.2.1 (Int.toNat v4.1.2.2.2.1) w2)
 bif (k226 (v4.2.1,v6,v4.1.2.1,()))then
 bif (decide (0<=v5)&&decide (v5<w4))then
 let v8:=(List.getD v4.2.1.2.2.1 (Int.toNat v5) w2)
 bif (k226 (v4.2.1,v8,v4.1.2.1,()))then
 let v10:=(g226 (v4.2.1,v6,v4.1.2.1,()))
 let v11:=(g226 (v4.2.1,v8,v4.1.2.1,()))
 let v12:=(List.getD v4.2.1.1 (Int.toNat v4.1.2.2.2.1) w0)
 let v16:=(a0i .quo .f32 (a0i .sub .f32 v4.1.1 v12) (a0i .sub .f32 (List.getD v4.2.1.1 (Int.toNat v5) w0) v12))
 bif (k227 (v10.1,v11.1,v16,()))then
 some (g227 (v10.1,v11.1,v16,()))
 else
 none
 else
 none
 else
 none
 else
 none
 else
 none
 else
 none
 else
 none
 else
 none
 else
 none
 else
 none
theorem f5Q (k226 g226 k227 g227 kl7 xl7 x) :a0E (e7R k226 g226 k227 g227 kl7 xl7) (a0e Tryz.f179) (a1f d9R) (a0V d6E x) []=f5P k226 g226 k227 g227 kl7 xl7 x:=by kernel_rfl
def e7S (x:Den d6E):Option (Den d9R):=f5P e2M e2N c4p c4q b5N b5O x
def f1m (x:Den d6E):Bool:=(e7S x).isSome
def f1n (x:Den d6E):Den d9R:=(e7S x).getD (zero d9R)
theorem e7T:a0q Tryz.prog (179,a0a d6E d9R f1m f1n):=a0s (a0j mixed a0l a0k (.cons e7Q (.cons d0U .nil))) (a0O Tryz.func179 rfl rfl rfl (by kernel_rfl) (a0D (l:=[d0X]) (by kernel_rfl) (.cons (a0r rfl (a0y (sh:=b5L) (shX:=b5M) (fun f v=>d6F e2M e2N c4p c4q b5N b5O f v) c4s ((0,(0,((),(0,())))),(([],([],([],()))),())))) (.nil)))) fun x=>f5Q e2M e2N c4p c4q b5N b5O x
abbrev d6G:Ty:=.cons (S27) (.cons (.flt .f32) (.cons (.int .i64) (.nil)))
abbrev d9S:Ty:=.cons (.flt .f32) (.cons (.bool) (.nil))
noncomputable def f5R (k90 g90 k44 g44 k179 g179) :Env:=a0t tab eqs [(90,a0a A90 R90 k90 g90),(44,a0a A44 R44 k44 g44),(179,a0a d6E d9R k179 g179)] 29 [.tmp 6,.tmp 7] [] [] [] [] []
def f5S (k90:KA A90) (g90:GA A90 R90) (k44:KA A44) (g44:GA A44 R44) (k179:KA d6E) (g179:GA d6E d9R) (x:Den d6G):Option (Den d9S):=
 bif (k90 (x.1,()))then
 bif (!(g90 (x.1,())).1)then
 some ((0,false,()))
 else
 bif (fgt .f32 x.2.1 0||feq .f32 x.2.1 0)then
 bif (!(flt .f32 x.2.1 1120403456||feq .f32 x.2.1 1120403456))then
 some ((0,false,()))
 else
 bif (k44 (x.2.2.1,0,180,()))then
 bif (!(g44 (x.2.2.1,0,180,())).1)then
 some ((0,false,()))
 else
 bif (k179 x)then
 some (((g179 x).1,true,()))
 else
 none
 else
 none
 else
 some ((0,false,()))
 else
 none
theorem f5T (k90 g90 k44 g44 k179 g179 x) :a0E (f5R k90 g90 k44 g44 k179 g179) (a0e Tryz.f111) (a1f d9S) (a0V d6G x) []=f5S k90 g90 k44 g44 k179 g179 x:=by kernel_rfl
def f1o (x:Den d6G):Option (Den d9S):=f5S K90 G90 K44 G44 f1m f1n x
def e5n (x:Den d6G):Bool:=(f1o x).isSome
def e5o (x:Den d6G):Den d9S:=(f1o x).getD (zero d9S)
theorem e7U:a0q Tryz.prog (111,a0a d6G d9S e5n e5o):=a0s (a0j mixed a0l a0k (.cons e7q (.cons a6H (.cons e7T .nil)))) (a0O Tryz.func111 rfl rfl rfl (by kernel_rfl) (a0m (by kernel_rfl))) fun x=>f5T K90 G90 K44 G44 f1m f1n x
abbrev A57:Ty:=.cons (S46) (.nil)
abbrev R57:Ty:=.cons (.flt .f32) (.nil)
noncomputable def g0F (k110 g110 k112 g112 k113 g113 k111 g111) :Env:=a0t tab eqs [(110,a0a c7I d4c k110 g110),(112,a0a c7K d4d k112 g112),(113,a0a c7L d4h k113 g113),(111,a0a d6G d9S k111 g111)] 26 [.tmp 2] [] [] [] [] []
def r57 (k110:KA c7I) (g110:GA c7I d4c) (k112:KA c7K) (g112:GA c7K d4d) (k113:KA c7L) (g113:GA c7L d4h) (k111:KA d6G) (g111:GA d6G d9S) (x:Den A57):Option (Den R57):=
 bif (k110 (x.1.2.2.2.2.1,()))then
 let v1:=(g110 (x.1.2.2.2.2.1,()))
 bif (decide (v1.1<0))then
 some ((0,()))
 else
 bif (k112 (x.1.2.2.2.2.1,()))then
 bif (k113 (x.1.2.2.2.1,v1))then
 let v4:=(g112 (x.1.2.2.2.2.1,()))
 let v5:=(g113 (x.1.2.2.2.1,v1))
 bif (k111 (x.1.1.1,v4.1,v5))then
 some (((g111 (x.1.1.1,v4.1,v5)).1,()))
 else
 none
 else
 none
 else
 none
 else
 none
theorem g0G (k110 g110 k112 g112 k113 g113 k111 g111 x) :a0E (g0F k110 g110 k112 g112 k113 g113 k111 g111) (a0e Tryz.f57) (a1f R57) (a0V A57 x) []=r57 k110 g110 k112 g112 k113 g113 k111 g111 x:=by kernel_rfl
def F57 (x:Den A57):Option (Den R57):=r57 d6u c7J d6z d4e d6B d4i e5n e5o x
def K57 (x:Den A57):Bool:=(F57 x).isSome
def G57 (x:Den A57):Den R57:=(F57 x).getD (zero R57)
theorem e7V:a0q Tryz.prog (57,a0a A57 R57 K57 G57):=a0s (a0j mixed a0l a0k (.cons d9J (.cons d9N (.cons d9P (.cons e7U .nil))))) (a0O Tryz.func57 rfl rfl rfl (by kernel_rfl) (a0m (by kernel_rfl))) fun x=>g0G d6u c7J d6z d4e d6B d4i e5n e5o x
abbrev d6H:Ty:=.cons (.int .i64) (.nil)
abbrev d9T:Ty:=.cons (.cpx .f64) (.nil)
abbrev a8T:Type:=(((Nat×Nat)×(Int×Unit))×Unit)
def b5P:ShS:=⟨[(3,.one (.cpx .f64)),(4,.one (.int .i64))],[],0,0⟩
abbrev b9y:Type:=(((Nat×Nat)×Unit)×Unit)
def b5Q:ShS:=⟨[(3,.one (.cpx .f64))],[],0,0⟩
noncomputable def e7W (k176 g176 k177 g177 kl3 xl3) :Env:=a0t tab eqs [(176,a0a c4n d0T k176 g176),(177,a0a c0O c7H k177 g177)] 14 [.tmp 2] [] [] [(3,a1X [3,4] [] 0 [3] [] b5P b5Q kl3 xl3)] [] []
noncomputable def d0Z:Code:=(a0u (a0e Tryz.f109)).getD 0 .skip
def b9z (k176:KA c4n) (g176:GA c4n d0T) (k177:KA c0O) (g177:GA c0O c7H) (f:a8T->Option (b9y)) (v:a8T):Option (b9y):=
 bif (decide (v.1.2.1>0))then
 let w0:=(v.1.1,(4607181046959943561,4580687535080594718),())
 bif (k177 w0)then
 f ((((g177 w0).1,(IntKind.wrap .i64 (v.1.2.1-1)),()),()))
 else
 none
 else
 some (((v.1.1,()),()))
theorem d6I (k176 g176 k177 g177 kl3 xl3 f v) :EBk (e7W k176 g176 k177 g177 kl3 xl3) d0Z (a0B [3,4] [] 0 [3] [] (atS b5P f) (a5U b5Q)) (mkS b5P v)=b9z k176 g176 k177 g177 f v:=by kernel_rfl
def c4t (v:a8T):Nat:=v.1.2.1.natAbs+1000
def d1a (v:a8T):Option (b9y):=a1u (b9z d4f d4g c6H c6I) (c4t v) v
def b5R (v:a8T):Bool:=(d1a v).isSome
def b5S (v:a8T):b9y:=(d1a v).getD (((0,0),()),())
def f5U (k176:KA c4n) (g176:GA c4n d0T) (k177:KA c0O) (g177:GA c0O c7H) (kl3:a8T->Bool) (xl3:a8T->b9y) (x:Den d6H):Option (Den d9T):=
 bif (k176 x)then
 let v1:=(g176 x)
 let w0:=(((4607182418800017408,0),v1),())
 bif (kl3 w0)then
 some (xl3 w0).1
 else
 none
 else
 none
theorem f5V (k176 g176 k177 g177 kl3 xl3 x) :a0E (e7W k176 g176 k177 g177 kl3 xl3) (a0e Tryz.f109) (a1f d9T) (a0V d6H x) []=f5U k176 g176 k177 g177 kl3 xl3 x:=by kernel_rfl
def f1p (x:Den d6H):Option (Den d9T):=f5U d4f d4g c6H c6I b5R b5S x
def f1q (x:Den d6H):Bool:=(f1p x).isSome
def f1r (x:Den d6H):Den d9T:=(f1p x).getD (zero d9T)
theorem e7X:a0q Tryz.prog (109,a0a d6H d9T f1q f1r):=a0s (a0j mixed a0l a0k (.cons d9O (.cons d9G .nil))) (a0O Tryz.func109 rfl rfl rfl (by kernel_rfl) (a0D (l:=[d0Z]) (by kernel_rfl) (.cons (a0r rfl (a0y (sh:=b5P) (shX:=b5Q) (fun f v=>d6I d4f d4g c6H c6I b5R b5S f v) c4t (((0,0),()),()))) (.nil)))) fun x=>f5V d4f d4g c6H c6I b5R b5S x
abbrev d6J:Ty:=.cons (.cpx .f64) (.cons (.flt .f32) (.nil))
abbrev d9U:Ty:=.cons (.cpx .f32) (.nil)
noncomputable def f5W:Env:=a0t tab eqs [] 16 [.tmp 4] [] [] [] [] []
def f5X (x:Den d6J):Option (Den d9U):=
 let w0:=(a1a .f64 .f32 x.1.1)
 bif (w0.1)then
 let w1:=(a1a .f64 .f32 x.1.2)
 bif (w1.1)then
 some ((((a0i .mul .f32 w0.2 x.2.1),(a0i .mul .f32 w1.2 x.2.1)),()))
 else
 none
 else
 none
theorem f5Y (x) :a0E (f5W) (a0e Tryz.f108) (a1f d9U) (a0V d6J x) []=f5X x:=by kernel_rfl
def f1s (x:Den d6J):Option (Den d9U):=f5X x
def f1t (x:Den d6J):Bool:=(f1s x).isSome
def f1u (x:Den d6J):Den d9U:=(f1s x).getD (zero d9U)
theorem e7Y:a0q Tryz.prog (108,a0a d6J d9U f1t f1u):=a0s (a0j mixed a0l a0k .nil) (a0O Tryz.func108 rfl rfl rfl (by kernel_rfl) (a0m (by kernel_rfl))) fun x=>f5Y x
abbrev A56:Ty:=.cons (.int .i64) (.cons (.flt .f32) (.nil))
abbrev R56:Ty:=.cons (.cpx .f32) (.cons (.bool) (.nil))
noncomputable def g0H (k107 g107 k109 g109 k108 g108) :Env:=a0t tab eqs [(107,a0a c1H c7E k107 g107),(109,a0a d6H d9T k109 g109),(108,a0a d6J d9U k108 g108)] 13 [.tmp 4,.tmp 5] [] [] [] [] []
def r56 (k107:KA c1H) (g107:GA c1H c7E) (k109:KA d6H) (g109:GA d6H d9T) (k108:KA d6J) (g108:GA d6J d9U) (x:Den A56):Option (Den R56):=
 bif (k107 x.2)then
 bif (!(g107 x.2).1)then
 some (((0,0),false,()))
 else
 bif (k109 (x.1,()))then
 let v3:=(g109 (x.1,()))
 bif (k108 (v3.1,x.2))then
 some (((g108 (v3.1,x.2)).1,true,()))
 else
 none
 else
 none
 else
 none
theorem g0I (k107 g107 k109 g109 k108 g108 x) :a0E (g0H k107 g107 k109 g109 k108 g108) (a0e Tryz.f56) (a1f R56) (a0V A56 x) []=r56 k107 g107 k109 g109 k108 g108 x:=by kernel_rfl
def F56 (x:Den A56):Option (Den R56):=r56 d4a d4b f1q f1r f1t f1u x
def K56 (x:Den A56):Bool:=(F56 x).isSome
def G56 (x:Den A56):Den R56:=(F56 x).getD (zero R56)
theorem e7Z:a0q Tryz.prog (56,a0a A56 R56 K56 G56):=a0s (a0j mixed a0l a0k (.cons c9Z (.cons e7X (.cons e7Y .nil)))) (a0O Tryz.func56 rfl rfl rfl (by kernel_rfl) (a0m (by kernel_rfl))) fun x=>g0I d4a d4b f1q f1r f1t f1u x
abbrev d6K:Ty:=.cons (.cpx .f32) (.cons (.cpx .f32) (.nil))
abbrev d9V:Ty:=.cons (.cpx .f32) (.cons (.bool) (.nil))
noncomputable def f5Z (k45 g45) :Env:=a0t tab eqs [(45,a0a A45 R45 k45 g45)] 25 [.tmp 4,.tmp 5] [] [] [] [] []
def f6a (k45:KA A45) (g45:GA A45 R45) (x:Den d6K):Option (Den d9V):=
 bif (k45 (x.1,()))then
 bif (!(g45 (x.1,())).1)then
 some (((0,0),false,()))
 else
 bif (k45 x.2)then
 bif (!(g45 x.2).1)then
 some (((0,0),false,()))
 else
 some ((((a0i .sub .f32 x.1.1 x.2.1.1),(a0i .sub .f32 x.1.2 x.2.1.2)),true,()))
 else
 none
 else
 none
theorem f6b (k45 g45 x) :a0E (f5Z k45 g45) (a0e Tryz.f114) (a1f d9V) (a0V d6K x) []=f6a k45 g45 x:=by kernel_rfl
def f1v (x:Den d6K):Option (Den d9V):=f6a K45 G45 x
def f1w (x:Den d6K):Bool:=(f1v x).isSome
def f1x (x:Den d6K):Den d9V:=(f1v x).getD (zero d9V)
theorem e8a:a0q Tryz.prog (114,a0a d6K d9V f1w f1x):=a0s (a0j mixed a0l a0k (.cons b4Y .nil)) (a0O Tryz.func114 rfl rfl rfl (by kernel_rfl) (a0m (by kernel_rfl))) fun x=>f6b K45 G45 x
abbrev A58:Ty:=.cons (.cpx .f32) (.cons (.cpx .f32) (.cons (.int .i64) (.nil)))
abbrev R58:Ty:=.cons (S63) (.cons (.bool) (.nil))
noncomputable def g0J (k114 g114 k110 g110 k112 g112 k113 g113) :Env:=a0t tab eqs [(114,a0a d6K d9V k114 g114),(110,a0a c7I d4c k110 g110),(112,a0a c7K d4d k112 g112),(113,a0a c7L d4h k113 g113)] 32 [.cell 6 64,.tmp 7] [] [] [] [] []
def r58 (k114:KA d6K) (g114:GA d6K d9V) (k110:KA c7I) (g110:GA c7I d4c) (k112:KA c7K) (g112:GA c7K d4d) (k113:KA c7L) (g113:GA c7L d4h) (x:Den A58):Option (Den R58):=
 bif (k114 (x.1,x.2.1,()))then
 let v1:=(g114 (x.1,x.2.1,()))
 bif (k110 (v1.1,()))then
 bif (!v1.2.1)then
 some (((0,0,()),false,()))
 else
 let v3:=(g110 (v1.1,()))
 bif (decide (v3.1<0))then
 some (((0,0,()),false,()))
 else
 bif (k112 (v1.1,()))then
 bif (k113 (x.2.2.1,v3))then
 some ((((g112 (v1.1,())).1,(g113 (x.2.2.1,v3))),true,()))
 else
 none
 else
 none
 else
 none
 else
 none
theorem g0K (k114 g114 k110 g110 k112 g112 k113 g113 x) :a0E (g0J k114 g114 k110 g110 k112 g112 k113 g113) (a0e Tryz.f58) (a1f R58) (a0V A58 x) []=r58 k114 g114 k110 g110 k112 g112 k113 g113 x:=by kernel_rfl
def F58 (x:Den A58):Option (Den R58):=r58 f1w f1x d6u c7J d6z d4e d6B d4i x
def K58 (x:Den A58):Bool:=(F58 x).isSome
def G58 (x:Den A58):Den R58:=(F58 x).getD (zero R58)
theorem f6c:a0q Tryz.prog (58,a0a A58 R58 K58 G58):=a0s (a0j mixed a0l a0k (.cons e8a (.cons d9J (.cons d9N (.cons d9P .nil))))) (a0O Tryz.func58 rfl rfl rfl (by kernel_rfl) (a0m (by kernel_rfl))) fun x=>g0K f1w f1x d6u c7J d6z d4e d6B d4i x
abbrev A19:Ty:=.cons (S46) (.nil)
abbrev R19:Ty:=.cons (S63) (.cons (.bool) (.nil))
noncomputable def g0L (k57 g57 k56 g56 k58 g58) :Env:=a0t tab eqs [(57,a0a A57 R57 k57 g57),(56,a0a A56 R56 k56 g56),(58,a0a A58 R58 k58 g58)] 25 [.cell 2 64,.tmp 3] [] [] [] [] []
def r19 (k57:KA A57) (g57:GA A57 R57) (k56:KA A56) (g56:GA A56 R56) (k58:KA A58) (g58:GA A58 R58) (x:Den A19):Option (Den R19):=
 bif (k57 x)then
 let v1:=(g57 x)
 bif (k56 (x.1.2.2.2.1,v1))then
 let v3:=(g56 (x.1.2.2.2.1,v1))
 bif (!v3.2.1)then
 some (((0,0,()),false,()))
 else
 let w0:=(x.1.2.2.2.2.1,v3.1,x.1.2.2.2.1,())
 bif (k58 w0)then
 some (g58 w0)
 else
 none
 else
 none
 else
 none
theorem g0M (k57 g57 k56 g56 k58 g58 x) :a0E (g0L k57 g57 k56 g56 k58 g58) (a0e Tryz.f19) (a1f R19) (a0V A19 x) []=r19 k57 g57 k56 g56 k58 g58 x:=by kernel_rfl
def F19 (x:Den A19):Option (Den R19):=r19 K57 G57 K56 G56 K58 G58 x
def K19 (x:Den A19):Bool:=(F19 x).isSome
def G19 (x:Den A19):Den R19:=(F19 x).getD (zero R19)
theorem e8b:a0q Tryz.prog (19,a0a A19 R19 K19 G19):=a0s (a0j mixed a0l a0k (.cons e7V (.cons e7Z (.cons f6c .nil)))) (a0O Tryz.func19 rfl rfl rfl (by kernel_rfl) (a0m (by kernel_rfl))) fun x=>g0M K57 G57 K56 G56 K58 G58 x
abbrev A20:Ty:=.cons (S68) (.cons (S63) (.nil))
abbrev R20:Ty:=.cons (.bool) (.nil)
noncomputable def g0N:Env:=a0t tab eqs [] 57 [.tmp 4] [] [] [] [] []
def r20 (x:Den A20):Option (Den R20):=
 bif (decide (x.2.1.2.1 ≥ x.1.2.2.2.1))then
 bif (decide (x.2.1.2.1<=x.1.2.2.2.2.1))then
 let v0:=(a0i .sub .f32 x.1.2.1 1065353216)
 bif (fgt .f32 x.2.1.1 v0||feq .f32 x.2.1.1 v0)then
 let v1:=(a0i .add .f32 x.1.2.2.1 1065353216)
 bif (flt .f32 x.2.1.1 v1||feq .f32 x.2.1.1 v1)then
 some ((true,()))
 else
 some ((false,()))
 else
 some ((false,()))
 else
 let v0:=(a0i .sub .f32 x.1.2.1 1065353216)
 bif (fgt .f32 x.2.1.1 v0||feq .f32 x.2.1.1 v0)then
 let v1:=(a0i .add .f32 x.1.2.2.1 1065353216)
 bif (flt .f32 x.2.1.1 v1||feq .f32 x.2.1.1 v1)then
 some ((decide ((IntKind.wrap .u64 ((IntKind.wrap .u64 x.2.1.2.1)-(IntKind.wrap .u64 x.1.2.2.2.2.1)))<=5),()))
 else
 some ((false,()))
 else
 some ((false,()))
 else
 bif (decide (x.2.1.2.1<=x.1.2.2.2.2.1))then
 let v0:=(a0i .sub .f32 x.1.2.1 1065353216)
 bif (fgt .f32 x.2.1.1 v0||feq .f32 x.2.1.1 v0)then
 let v1:=(a0i .add .f32 x.1.2.2.1 1065353216)
 bif (flt .f32 x.2.1.1 v1||feq .f32 x.2.1.1 v1)then
 bif (decide ((IntKind.wrap .u64 ((IntKind.wrap .u64 x.1.2.2.2.1)-(IntKind.wrap .u64 x.2.1.2.1)))<=5))then
 some ((true,()))
 else
 some ((false,()))
 else
 some ((false,()))
 else
 some ((false,()))
 else
 let v0:=(a0i .sub .f32 x.1.2.1 1065353216)
 bif (fgt .f32 x.2.1.1 v0||feq .f32 x.2.1.1 v0)then
 let v1:=(a0i .add .f32 x.1.2.2.1 1065353216)
 bif (flt .f32 x.2.1.1 v1||feq .f32 x.2.1.1 v1)then
 let v3:=(IntKind.wrap .u64 x.2.1.2.1)
 bif (decide ((IntKind.wrap .u64 ((IntKind.wrap .u64 x.1.2.2.2.1)-v3))<=5))then
 some ((decide ((IntKind.wrap .u64 (v3-(IntKind.wrap .u64 x.1.2.2.2.2.1)))<=5),()))
 else
 some ((false,()))
 else
 some ((false,()))
 else
 some ((false,()))
theorem g0O (x) :a0E (g0N) (a0e Tryz.f20) (a1f R20) (a0V A20 x) []=r20 x:=by kernel_rfl
def F20 (x:Den A20):Option (Den R20):=r20 x
def K20 (x:Den A20):Bool:=(F20 x).isSome
def G20 (x:Den A20):Den R20:=(F20 x).getD (zero R20)
theorem e8c:a0q Tryz.prog (20,a0a A20 R20 K20 G20):=a0s (a0j mixed a0l a0k .nil) (a0O Tryz.func20 rfl rfl rfl (by kernel_rfl) (a0m (by kernel_rfl))) fun x=>g0O x
abbrev A14:Ty:=.cons (S46) (.nil)
abbrev R14:Ty:=.cons (.bool) (.nil)
noncomputable def g0P (k23 g23 k42 g42 k43 g43 k44 g44 k45 g45 k46 g46 k19 g19 k20 g20) :Env:=a0t tab eqs [(23,a0a A23 R23 k23 g23),(42,a0a A42 R42 k42 g42),(43,a0a A43 R43 k43 g43),(44,a0a A44 R44 k44 g44),(45,a0a A45 R45 k45 g45),(46,a0a A46 R46 k46 g46),(19,a0a A19 R19 k19 g19),(20,a0a A20 R20 k20 g20)] 100 [.tmp 2] [] [] [] [] []
def r14 (k23:KA A23) (g23:GA A23 R23) (k42:KA A42) (g42:GA A42 R42) (k43:KA A43) (g43:GA A43 R43) (k44:KA A44) (g44:GA A44 R44) (k45:KA A45) (g45:GA A45 R45) (k46:KA A46) (g46:GA A46 R46) (k19:KA A19) (g19:GA A19 R19) (k20:KA A20) (g20:GA A20 R20) (x:Den A14):Option (Den R14):=
 bif (k23 (x.1.2.2.1,()))then
 bif (k42 (x.1.1,()))then
 bif (!(g42 (x.1.1,())).1)then
 some ((false,()))
 else
 bif (k43 (x.1.2.1,()))then
 bif (!(g43 (x.1.2.1,())).1)then
 some ((false,()))
 else
 bif (!(g23 (x.1.2.2.1,())).2.1)then
 some ((false,()))
 else
 bif (k44 (x.1.2.2.2.1,0,359,()))then
 bif (!(g44 (x.1.2.2.2.1,0,359,())).1)then
 some ((false,()))
 else
 bif (k45 (x.1.2.2.2.2.1,()))then
 bif (!(g45 (x.1.2.2.2.2.1,())).1)then
 some ((false,()))
 else
 let w1:=(↑(List.length x.1.1.2.2.1):Int)
 let v10:=(IntKind.wrap .i64 (w1-1))
 let w2:=(x.1.2.2.2.2.2.1,-1,v10,())
 bif (k44 w2)then
 bif (!(g44 w2).1)then
 some ((false,()))
 else
 bif (k46 (x.1.2.2.2.2.2.2.1,()))then
 bif (!(g46 (x.1.2.2.2.2.2.2.1,())).1)then
 some ((false,()))
 else
 bif (decide ((↑(List.length x.1.2.2.2.2.2.2.2.1):Int)>300))then
 some ((false,()))
 else
 let w0:=(↑(List.length x.1.2.2.2.2.2.2.1):Int)
 bif (decide (w0>0))then
 let v15:=(IntKind.wrap .i64 (w0-1))
 bif (decide (0<=v15)&&decide (v15<w0))then
 bif (decide ((List.getD x.1.2.2.2.2.2.2.1 (Int.toNat v15) (zero S97)).2.1>x.1.2.1))then
 some ((false,()))
 else
 bif (decide (x.1.2.2.2.2.2.1 ≥ 0))then
 bif (k19 x)then
 let v18:=(g19 x)
 bif v18.2.1 then
 bif (decide (0<=x.1.2.2.2.2.2.1)&&decide (x.1.2.2.2.2.2.1<w1))then
 let v19:=(List.getD x.1.1.2.2.1 (Int.toNat x.1.2.2.2.2.2.1) (zero S68))
 bif (k20 (v19,v18.1,()))then
 some (g20 (v19,v18.1,()))
 else
 none
 else
 none
 else
 some ((false,()))
 else
 none
 else
 some ((true,()))
 else
 none
 else
 bif (decide (x.1.2.2.2.2.2.1 ≥ 0))then
 bif (k19 x)then
 let v16:=(g19 x)
 bif v16.2.1 then
 bif (decide (0<=x.1.2.2.2.2.2.1)&&decide (x.1.2.2.2.2.2.1<w1))then
 let v17:=(List.getD x.1.1.2.2.1 (Int.toNat x.1.2.2.2.2.2.1) (zero S68))
 bif (k20 (v17,v16.1,()))then
 some (g20 (v17,v16.1,()))
 else
 none
 else
 none
 else
 some ((false,()))
 else
 none
 else
 some ((true,()))
 else
 none
 else
 none
 else
 none
 else
 none
 else
 none
 else
 none
 else
 none
theorem g0Q (k23 g23 k42 g42 k43 g43 k44 g44 k45 g45 k46 g46 k19 g19 k20 g20 x) :a0E (g0P k23 g23 k42 g42 k43 g43 k44 g44 k45 g45 k46 g46 k19 g19 k20 g20) (a0e Tryz.f14) (a1f R14) (a0V A14 x) []=r14 k23 g23 k42 g42 k43 g43 k44 g44 k45 g45 k46 g46 k19 g19 k20 g20 x:=by kernel_rfl
def F14 (x:Den A14):Option (Den R14):=r14 K23 G23 K42 G42 K43 G43 K44 G44 K45 G45 K46 G46 K19 G19 K20 G20 x
def K14 (x:Den A14):Bool:=(F14 x).isSome
def G14 (x:Den A14):Den R14:=(F14 x).getD (zero R14)
theorem f6d:a0q Tryz.prog (14,a0a A14 R14 K14 G14):=a0s (a0j mixed a0l a0k (.cons e7s (.cons f5c (.cons d6i (.cons a6H (.cons b4Y (.cons f5d (.cons e8b (.cons e8c .nil))))))))) (a0O Tryz.func14 rfl rfl rfl (by kernel_rfl) (a0m (by kernel_rfl))) fun x=>g0Q K23 G23 K42 G42 K43 G43 K44 G44 K45 G45 K46 G46 K19 G19 K20 G20 x
abbrev A25:Ty:=.cons (.int .i64) (.nil)
abbrev R25:Ty:=.cons (.str) (.nil)
noncomputable def g0R (k65 g65) :Env:=a0t tab eqs [(65,a0a A65 R65 k65 g65)] 5 [.tmp 2] [] [] [] [] []
def r25 (k65:KA A65) (g65:GA A65 R65) (x:Den A25):Option (Den R25):=
 bif (k65 x)then
 some (g65 x)
 else
 none
theorem g0S (k65 g65 x) :a0E (g0R k65 g65) (a0e Tryz.f25) (a1f R25) (a0V A25 x) []=r25 k65 g65 x:=by kernel_rfl
def F25 (x:Den A25):Option (Den R25):=r25 K65 G65 x
def K25 (x:Den A25):Bool:=(F25 x).isSome
def G25 (x:Den A25):Den R25:=(F25 x).getD (zero R25)
theorem e8d:a0q Tryz.prog (25,a0a A25 R25 K25 G25):=a0s (a0j mixed a0l a0k (.cons f2Q .nil)) (a0O Tryz.func25 rfl rfl rfl (by kernel_rfl) (a0m (by kernel_rfl))) fun x=>g0S K65 G65 x
abbrev A17:Ty:=.cons (.str) (.nil)
abbrev R17:Ty:=.cons (.int .i64) (.cons (.bool) (.nil))
abbrev a9q:Type:=((ByteArray×(Int×(Int×Unit)))×Unit)
def c4u:ShS:=⟨[(0,.one (.str)),(4,.one (.int .i64)),(5,.one (.int .i64))],[],0,0⟩
abbrev d1b:Type:=((ByteArray×(Int×Unit))×Unit)
def c1Y:ShS:=⟨[(0,.one (.str)),(4,.one (.int .i64))],[],0,0⟩
abbrev d1c:Type:=((Int×(Bool×Unit))×Unit)
def c1Z:ShS:=⟨[(2,.one (.int .i64)),(3,.one (.bool))],[],0,0⟩
noncomputable def f8U (k25 g25 kl5 xl5 tl5 yl5) :Env:=a0t tab eqs [(25,a0a A25 R25 k25 g25)] 47 [.tmp 2,.tmp 3] [] [] [(5,a1U [0,4,5] [] 0 [0,4] [] c4u c1Y c1Z kl5 tl5 xl5 yl5)] [] []
noncomputable def d9W:Code:=(a0u (a0e Tryz.f17)).getD 0 .skip
def d6L (k25:KA A25) (g25:GA A25 R25) (f:a9q->Option (d1b⊕d1c)) (v:a9q):Option (d1b⊕d1c):=
 let w1:=(v.1.2.2.1<(↑(ByteArray.size v.1.1):Int))
 bif (decide w1)then
 let w0:=(decide (0<=v.1.2.2.1)&&decide w1)
 bif w0 then
 bif (decide (a1z v.1.1 v.1.2.2.1<48))then
 some (Sum.inr (((0,false,()),())))
 else
 bif w0 then
 bif (decide (a1z v.1.1 v.1.2.2.1>57))then
 some (Sum.inr (((0,false,()),())))
 else
 bif w0 then
 f (((v.1.1,(IntKind.wrap .i64 ((IntKind.wrap .i64 (v.1.2.1*10))+(IntKind.wrap .i64 (IntKind.wrap .u8 (a1z v.1.1 v.1.2.2.1-48))))),(IntKind.wrap .i64 (v.1.2.2.1+1)),()),()))
 else
 none
 else
 none
 else
 none
 else
 some (Sum.inl (((v.1.1,v.1.2.1,()),())))
theorem e2O (k25 g25 kl5 xl5 tl5 yl5 f v) :EBk (f8U k25 g25 kl5 xl5 tl5 yl5) d9W (a0B [0,4,5] [] 0 [0,4] [] (atS c4u f) (a5H c1Y c1Z)) (mkS c4u v)=d6L k25 g25 f v:=by kernel_rfl
def d6M (v:a9q):Nat:=v.1.1.size+v.1.2.1.natAbs+v.1.2.2.1.natAbs+1000
def d1d (v:a9q):Option (d1b⊕d1c):=a1u (d6L K25 G25) (d6M v) v
def c4v (v:a9q):Bool:=(d1d v).isSome
def c4w (v:a9q):Bool:=isR (d1d v)
def c4x (v:a9q):d1b:=xOf ((ByteArray.empty,(0,())),()) (d1d v)
def c4y (v:a9q):d1c:=yOf ((0,(false,())),()) (d1d v)
def r17 (k25:KA A25) (g25:GA A25 R25) (kl5:a9q->Bool) (xl5:a9q->d1b) (tl5:a9q->Bool) (yl5:a9q->d1c) (x:Den A17):Option (Den R17):=
 let w0:=(↑(ByteArray.size x.1):Int)
 bif (w0==0)then
 some ((0,false,()))
 else
 bif (decide (w0>10))then
 some ((0,false,()))
 else
 bif (kl5 ((x.1,0,0,()),()))then
 bif (tl5 ((x.1,0,0,()),()))then
 some (yl5 ((x.1,0,0,()),())).1
 else
 let v2:=(xl5 ((x.1,0,0,()),()))
 bif (decide (v2.1.2.1>1000000000))then
 some ((0,false,()))
 else
 bif (k25 v2.1.2)then
 bif (!bstr (g25 v2.1.2).1 v2.1.1)then
 some ((0,false,()))
 else
 some ((v2.1.2.1,true,()))
 else
 none
 else
 none
theorem g0T (k25 g25 kl5 xl5 tl5 yl5 x) :a0E (f8U k25 g25 kl5 xl5 tl5 yl5) (a0e Tryz.f17) (a1f R17) (a0V A17 x) []=r17 k25 g25 kl5 xl5 tl5 yl5 x:=by kernel_rfl
def F17 (x:Den A17):Option (Den R17):=r17 K25 G25 c4v c4x c4w c4y x
def K17 (x:Den A17):Bool:=(F17 x).isSome
def G17 (x:Den A17):Den R17:=(F17 x).getD (zero R17)
theorem e8e:a0q Tryz.prog (17,a0a A17 R17 K17 G17):=a0s (a0j mixed a0l a0k (.cons e8d .nil)) (a0O Tryz.func17 rfl rfl rfl (by kernel_rfl) (a0D (l:=[d9W]) (by kernel_rfl) (.cons (a0r rfl (a0x (sh:=c4u) (shX:=c1Y) (shR:=c1Z) (fun f v=>e2O K25 G25 c4v c4x c4w c4y f v) d6M ((ByteArray.empty,(0,())),()) ((0,(false,())),()))) (.nil)))) fun x=>g0T K25 G25 c4v c4x c4w c4y x
abbrev c4z:Ty:=.cons (.int .i64) (.nil)
abbrev d1e:Ty:=.cons (.bool) (.nil)
noncomputable def f6e (k44 g44) :Env:=a0t tab eqs [(44,a0a A44 R44 k44 g44)] 5 [.tmp 2] [] [] [] [] []
def f6f (k44:KA A44) (g44:GA A44 R44) (x:Den c4z):Option (Den d1e):=
 let w0:=(x.1,-1000000000,1000000000,())
 bif (k44 w0)then
 some (g44 w0)
 else
 none
theorem f6g (k44 g44 x) :a0E (f6e k44 g44) (a0e Tryz.f237) (a1f d1e) (a0V c4z x) []=f6f k44 g44 x:=by kernel_rfl
def f1y (x:Den c4z):Option (Den d1e):=f6f K44 G44 x
def d4j (x:Den c4z):Bool:=(f1y x).isSome
def d4k (x:Den c4z):Den d1e:=(f1y x).getD (zero d1e)
theorem d9X:a0q Tryz.prog (237,a0a c4z d1e d4j d4k):=a0s (a0j mixed a0l a0k (.cons a6H .nil)) (a0O Tryz.func237 rfl rfl rfl (by kernel_rfl) (a0m (by kernel_rfl))) fun x=>f6g K44 G44 x
abbrev d1f:Ty:=.cons (.int .i64) (.nil)
abbrev d4l:Ty:=.cons (.str) (.nil)
abbrev a8U:Type:=((Int×(ByteArray×(ByteArray×Unit)))×Unit)
def b5T:ShS:=⟨[(0,.one (.int .i64)),(3,.one (.str)),(4,.one (.str))],[],0,0⟩
abbrev b9A:Type:=((Int×(ByteArray×(ByteArray×Unit)))×Unit)
def b5U:ShS:=⟨[(0,.one (.int .i64)),(3,.one (.str)),(4,.one (.str))],[],0,0⟩
noncomputable def e8f (k237 g237 k25 g25 kl7 xl7) :Env:=a0t tab eqs [(237,a0a c4z d1e k237 g237),(25,a0a A25 R25 k25 g25)] 28 [.tmp 2] [] [] [(7,a1X [0,3,4] [] 0 [0,3,4] [] b5T b5U kl7 xl7)] [] []
noncomputable def d1g:Code:=(a0u (a0e Tryz.f236)).getD 0 .skip
def c4A (k237:KA c4z) (g237:GA c4z d1e) (k25:KA A25) (g25:GA A25 R25) (f:a8U->Option (b9A)) (v:a8U):Option (b9A):=
 bif (decide ((↑(ByteArray.size v.1.2.2.1):Int)<3))then
 bif (decide (ByteArray.size { data:=#[48] }+ByteArray.size v.1.2.2.1<=9223372036854775807))then
 f (((v.1.1,v.1.2.1,({ data:=#[48] }++v.1.2.2.1),()),()))
 else
 none
 else
 some (v)
theorem d6N (k237 g237 k25 g25 kl7 xl7 f v) :EBk (e8f k237 g237 k25 g25 kl7 xl7) d1g (a0B [0,3,4] [] 0 [0,3,4] [] (atS b5T f) (a5U b5U)) (mkS b5T v)=c4A k237 g237 k25 g25 f v:=by kernel_rfl
def d1h (v:a8U):Nat:=v.1.1.natAbs+v.1.2.1.size+v.1.2.2.1.size+1000
def d1i (v:a8U):Option (b9A):=a1u (c4A d4j d4k K25 G25) (d1h v) v
def a8s (v:a8U):Bool:=(d1i v).isSome
def a1Y (v:a8U):b9A:=(d1i v).getD ((0,(ByteArray.empty,(ByteArray.empty,()))),())
def f6h (k237:KA c4z) (g237:GA c4z d1e) (k25:KA A25) (g25:GA A25 R25) (kl7:a8U->Bool) (xl7:a8U->b9A) (x:Den d1f):Option (Den d4l):=
 bif (k237 x)then
 bif (!(g237 x).1)then
 some (({ data:=#[] },()))
 else
 bif (decide (x.1<0))then
 let v2:=(IntKind.wrap .i64 (0-x.1))
 bif (k25 (Int.tmod v2 1000,()))then
 let v4:=(g25 (Int.tmod v2 1000,()))
 let w0:=((v2,{ data:=#[45] },v4),())
 bif (kl7 w0)then
 let v6:=(xl7 w0)
 let v7:=(IntKind.wrap .i64 (Int.tdiv v6.1.1 1000))
 bif (k25 (v7,()))then
 let v9:=(g25 (v7,()))
 bif (decide (ByteArray.size v6.1.2.1+ByteArray.size v9.1<=9223372036854775807))then
 let v10:=(v6.1.2.1++v9.1)
 bif (decide (ByteArray.size v10+ByteArray.size { data:=#[46] }<=9223372036854775807))then
 let v11:=(v10++{ data:=#[46] })
 bif (decide (ByteArray.size v11+ByteArray.size v6.1.2.2.1<=9223372036854775807))then
 some (((v11++v6.1.2.2.1),()))
 else
 none
 else
 none
 else
 none
 else
 none
 else
 none
 else
 none
 else
 bif (k25 (Int.tmod x.1 1000,()))then
 let v3:=(g25 (Int.tmod x.1 1000,()))
 let w1:=((x.1,{ data:=#[] },v3),())
 bif (kl7 w1)then
 let v5:=(xl7 w1)
 let v6:=(IntKind.wrap .i64 (Int.tdiv v5.1.1 1000))
 bif (k25 (v6,()))then
 let v8:=(g25 (v6,()))
 bif (decide (ByteArray.size v5.1.2.1+ByteArray.size v8.1<=9223372036854775807))then
 let v9:=(v5.1.2.1++v8.1)
 bif (decide (ByteArray.size v9+ByteArray.size { data:=#[46] }<=9223372036854775807))then
 let v10:=(v9++{ data:=#[46] })
 bif (decide (ByteArray.size v10+ByteArray.size v5.1.2.2.1<=9223372036854775807))then
 some (((v10++v5.1.2.2.1),()))
 else
 none
 else
 none
 else
 none
 else
 none
 else
 none
 else
 none
 else
 none
theorem f6i (k237 g237 k25 g25 kl7 xl7 x) :a0E (e8f k237 g237 k25 g25 kl7 xl7) (a0e Tryz.f236) (a1f d4l) (a0V d1f x) []=f6h k237 g237 k25 g25 kl7 xl7 x:=by kernel_rfl
def f1z (x:Den d1f):Option (Den d4l):=f6h d4j d4k K25 G25 a8s a1Y x
def d6O (x:Den d1f):Bool:=(f1z x).isSome
def e2P (x:Den d1f):Den d4l:=(f1z x).getD (zero d4l)
theorem e8g:a0q Tryz.prog (236,a0a d1f d4l d6O e2P):=a0s (a0j mixed a0l a0k (.cons d9X (.cons e8d .nil))) (a0O Tryz.func236 rfl rfl rfl (by kernel_rfl) (a0D (l:=[d1g]) (by kernel_rfl) (.cons (a0r rfl (a0y (sh:=b5T) (shX:=b5U) (fun f v=>d6N d4j d4k K25 G25 a8s a1Y f v) d1h ((0,(ByteArray.empty,(ByteArray.empty,()))),()))) (.nil)))) fun x=>f6i d4j d4k K25 G25 a8s a1Y x
abbrev d6P:Ty:=.cons (.str) (.nil)
abbrev d4m:Ty:=.cons (.int .i64) (.cons (.bool) (.nil))
abbrev a2R:Type:=((ByteArray×(ByteArray×(Int×(Int×(Int×(Int×Unit))))))×Unit)
def a9D:ShS:=⟨[(0,.one (.str)),(4,.one (.str)),(5,.one (.int .i64)),(6,.one (.int .i64)),(7,.one (.int .i64)),(8,.one (.int .i64))],[],0,0⟩
abbrev b0T:Type:=((ByteArray×(Int×(Int×Unit)))×Unit)
def b0U:ShS:=⟨[(0,.one (.str)),(5,.one (.int .i64)),(7,.one (.int .i64))],[],0,0⟩
abbrev b0V:Type:=((Int×(Bool×Unit))×Unit)
def b0W:ShS:=⟨[(2,.one (.int .i64)),(3,.one (.bool))],[],0,0⟩
noncomputable def e8h (k235 g235 k236 g236 kl10 xl10 tl10 yl10) :Env:=a0t tab eqs [(235,a0a d8L e6e k235 g235),(236,a0a d1f d4l k236 g236)] 69 [.tmp 2,.tmp 3] [] [] [(10,a1U [0,4,5,6,7,8] [] 0 [0,5,7] [] a9D b0U b0W kl10 tl10 xl10 yl10)] [] []
noncomputable def c4B:Code:=(a0u (a0e Tryz.f191)).getD 0 .skip
def b5V (k235:KA d8L) (g235:GA d8L e6e) (k236:KA d1f) (g236:GA d1f d4l) (f:a2R->Option (b0T⊕b0V)) (v:a2R):Option (b0T⊕b0V):=
 let w1:=(v.1.2.2.2.2.2.1<(↑(ByteArray.size v.1.2.1):Int))
 bif (decide w1)then
 bif (v.1.2.2.2.2.2.1==v.1.2.2.2.1)then
 f (((v.1.1,v.1.2.1,v.1.2.2.1,v.1.2.2.2.1,v.1.2.2.2.2.1,(IntKind.wrap .i64 (v.1.2.2.2.2.2.1+1)),()),()))
 else
 let w0:=(decide (0<=v.1.2.2.2.2.2.1)&&decide w1)
 bif w0 then
 bif (decide (a1z v.1.2.1 v.1.2.2.2.2.2.1<48))then
 some (Sum.inr (((0,false,()),())))
 else
 bif w0 then
 bif (decide (a1z v.1.2.1 v.1.2.2.2.2.2.1>57))then
 some (Sum.inr (((0,false,()),())))
 else
 bif w0 then
 f (((v.1.1,v.1.2.1,v.1.2.2.1,v.1.2.2.2.1,(IntKind.wrap .i64 ((IntKind.wrap .i64 (v.1.2.2.2.2.1*10))+(IntKind.wrap .i64 (IntKind.wrap .u8 (a1z v.1.2.1 v.1.2.2.2.2.2.1-48))))),(IntKind.wrap .i64 (v.1.2.2.2.2.2.1+1)),()),()))
 else
 none
 else
 none
 else
 none
 else
 some (Sum.inl (((v.1.1,v.1.2.2.1,v.1.2.2.2.2.1,()),())))
theorem d1j (k235 g235 k236 g236 kl10 xl10 tl10 yl10 f v) :EBk (e8h k235 g235 k236 g236 kl10 xl10 tl10 yl10) c4B (a0B [0,4,5,6,7,8] [] 0 [0,5,7] [] (atS a9D f) (a5H b0U b0W)) (mkS a9D v)=b5V k235 g235 k236 g236 f v:=by kernel_rfl
def b5W (v:a2R):Nat:=v.1.1.size+v.1.2.1.size+v.1.2.2.1.natAbs+v.1.2.2.2.1.natAbs+v.1.2.2.2.2.1.natAbs+v.1.2.2.2.2.2.1.natAbs+1000
def b0X (v:a2R):Option (b0T⊕b0V):=a1u (b5V e1J b2i d6O e2P) (b5W v) v
def a5K (v:a2R):Bool:=(b0X v).isSome
def a7v (v:a2R):Bool:=isR (b0X v)
def a2D (v:a2R):b0T:=xOf ((ByteArray.empty,(0,(0,()))),()) (b0X v)
def a9E (v:a2R):b0V:=yOf ((0,(false,())),()) (b0X v)
def f6j (k235:KA d8L) (g235:GA d8L e6e) (k236:KA d1f) (g236:GA d1f d4l) (kl10:a2R->Bool) (xl10:a2R->b0T) (tl10:a2R->Bool) (yl10:a2R->b0V) (x:Den d6P):Option (Den d4m):=
 bif (!bstr x.1 { data:=#[] })then
 let w1:=(↑(ByteArray.size x.1):Int)
 bif (decide (0<=0)&&decide (0<w1))then
 bif (a1z x.1 0==45)then
 bif (decide (0<=1)&&decide (1<=w1)&&decide (w1<=w1))then
 let w4:=(ByteArray.extract x.1 (Int.toNat 1) (Int.toNat w1),46,())
 bif (k235 w4)then
 let v1:=(g235 w4)
 bif (decide (v1.1<1))then
 some ((0,false,()))
 else
 bif ((↑(ByteArray.size (ByteArray.extract x.1 (Int.toNat 1) (Int.toNat w1))):Int) != (IntKind.wrap .i64 (v1.1+4)))then
 some ((0,false,()))
 else
 bif (decide (v1.1>7))then
 some ((0,false,()))
 else
 let w0:=((x.1,ByteArray.extract x.1 (Int.toNat 1) (Int.toNat w1),-1,v1.1,0,0,()),())
 bif (kl10 w0)then
 bif (tl10 w0)then
 some (yl10 w0).1
 else
 let v5:=(xl10 w0)
 let v6:=(IntKind.wrap .i64 (v5.1.2.2.1*v5.1.2.1))
 bif (k236 (v6,()))then
 bif (!bstr (g236 (v6,())).1 v5.1.1)then
 some ((0,false,()))
 else
 some ((v6,true,()))
 else
 none
 else
 none
 else
 none
 else
 none
 else
 bif (k235 (x.1,46,()))then
 let v1:=(g235 (x.1,46,()))
 bif (decide (v1.1<1))then
 some ((0,false,()))
 else
 bif (w1 != (IntKind.wrap .i64 (v1.1+4)))then
 some ((0,false,()))
 else
 bif (decide (v1.1>7))then
 some ((0,false,()))
 else
 let w2:=((x.1,x.1,1,v1.1,0,0,()),())
 bif (kl10 w2)then
 bif (tl10 w2)then
 some (yl10 w2).1
 else
 let v5:=(xl10 w2)
 let v6:=(IntKind.wrap .i64 (v5.1.2.2.1*v5.1.2.1))
 bif (k236 (v6,()))then
 bif (!bstr (g236 (v6,())).1 v5.1.1)then
 some ((0,false,()))
 else
 some ((v6,true,()))
 else
 none
 else
 none
 else
 none
 else
 none
 else
 bif (k235 (x.1,46,()))then
 let v1:=(g235 (x.1,46,()))
 bif (decide (v1.1<1))then
 some ((0,false,()))
 else
 bif ((↑(ByteArray.size x.1):Int) != (IntKind.wrap .i64 (v1.1+4)))then
 some ((0,false,()))
 else
 bif (decide (v1.1>7))then
 some ((0,false,()))
 else
 let w3:=((x.1,x.1,1,v1.1,0,0,()),())
 bif (kl10 w3)then
 bif (tl10 w3)then
 some (yl10 w3).1
 else
 let v5:=(xl10 w3)
 let v6:=(IntKind.wrap .i64 (v5.1.2.2.1*v5.1.2.1))
 bif (k236 (v6,()))then
 bif (!bstr (g236 (v6,())).1 v5.1.1)then
 some ((0,false,()))
 else
 some ((v6,true,()))
 else
 none
 else
 none
 else
 none
theorem f6k (k235 g235 k236 g236 kl10 xl10 tl10 yl10 x) :a0E (e8h k235 g235 k236 g236 kl10 xl10 tl10 yl10) (a0e Tryz.f191) (a1f d4m) (a0V d6P x) []=f6j k235 g235 k236 g236 kl10 xl10 tl10 yl10 x:=by kernel_rfl
def e8i (x:Den d6P):Option (Den d4m):=f6j e1J b2i d6O e2P a5K a2D a7v a9E x
def d6Q (x:Den d6P):Bool:=(e8i x).isSome
def b7b (x:Den d6P):Den d4m:=(e8i x).getD (zero d4m)
theorem e8j:a0q Tryz.prog (191,a0a d6P d4m d6Q b7b):=a0s (a0j mixed a0l a0k (.cons e6f (.cons e8g .nil))) (a0O Tryz.func191 rfl rfl rfl (by kernel_rfl) (a0D (l:=[c4B]) (by kernel_rfl) (.cons (a0r rfl (a0x (sh:=a9D) (shX:=b0U) (shR:=b0W) (fun f v=>d1j e1J b2i d6O e2P a5K a2D a7v a9E f v) b5W ((ByteArray.empty,(0,(0,()))),()) ((0,(false,())),()))) (.nil)))) fun x=>f6k e1J b2i d6O e2P a5K a2D a7v a9E x
abbrev d6R:Ty:=.cons (.int .i64) (.nil)
abbrev d9Y:Ty:=.cons (.flt .f64) (.nil)
noncomputable def f6l (k237 g237) :Env:=a0t tab eqs [(237,a0a c4z d1e k237 g237)] 9 [.tmp 2] [] [] [] [] []
def f6m (k237:KA c4z) (g237:GA c4z d1e) (x:Den d6R):Option (Den d9Y):=
 bif (k237 x)then
 bif (!(g237 x).1)then
 some ((0,()))
 else
 some (((a0i .quo .f64 (FloatKind.nearest .f64 x.1) 4652007308841189376),()))
 else
 none
theorem f6n (k237 g237 x) :a0E (f6l k237 g237) (a0e Tryz.f192) (a1f d9Y) (a0V d6R x) []=f6m k237 g237 x:=by kernel_rfl
def f1A (x:Den d6R):Option (Den d9Y):=f6m d4j d4k x
def d6S (x:Den d6R):Bool:=(f1A x).isSome
def d1k (x:Den d6R):Den d9Y:=(f1A x).getD (zero d9Y)
theorem e8k:a0q Tryz.prog (192,a0a d6R d9Y d6S d1k):=a0s (a0j mixed a0l a0k (.cons d9X .nil)) (a0O Tryz.func192 rfl rfl rfl (by kernel_rfl) (a0m (by kernel_rfl))) fun x=>f6n d4j d4k x
abbrev c6J:Ty:=.cons (.slice (.str)) (.nil)
abbrev d1l:Ty:=.cons (.flt .f64) (.cons (.flt .f64) (.cons (.bool) (.nil)))
noncomputable def f6o (k191 g191 k192 g192) :Env:=a0t tab eqs [(191,a0a d6P d4m k191 g191),(192,a0a d6R d9Y k192 g192)] 31 [.tmp 2,.tmp 3,.tmp 4] [] [] [] [] []
def f6p (k191:KA d6P) (g191:GA d6P d4m) (k192:KA d6R) (g192:GA d6R d9Y) (x:Den c6J):Option (Den d1l):=
 bif (decide (0<=0)&&decide (0<(↑(List.length x.1):Int)))then
 let v0:=(List.getD x.1 (Int.toNat 0) (zero Ty.str))
 bif (k191 (v0,()))then
 bif (decide (0<=1)&&decide (1<(↑(List.length x.1):Int)))then
 let v2:=(List.getD x.1 (Int.toNat 1) (zero Ty.str))
 bif (k191 (v2,()))then
 let v4:=(g191 (v0,()))
 bif (k192 (v4.1,()))then
 let v6:=(g191 (v2,()))
 bif (k192 (v6.1,()))then
 bif v4.2.1 then
 some (((g192 (v4.1,())).1,(g192 (v6.1,())).1,v6.2))
 else
 some (((g192 (v4.1,())).1,(g192 (v6.1,())).1,false,()))
 else
 none
 else
 none
 else
 none
 else
 none
 else
 none
 else
 none
theorem f6q (k191 g191 k192 g192 x) :a0E (f6o k191 g191 k192 g192) (a0e Tryz.f132) (a1f d1l) (a0V c6J x) []=f6p k191 g191 k192 g192 x:=by kernel_rfl
def e5p (x:Den c6J):Option (Den d1l):=f6p d6Q b7b d6S d1k x
def e2Q (x:Den c6J):Bool:=(e5p x).isSome
def e2R (x:Den c6J):Den d1l:=(e5p x).getD (zero d1l)
theorem e8l:a0q Tryz.prog (132,a0a c6J d1l e2Q e2R):=a0s (a0j mixed a0l a0k (.cons e8j (.cons e8k .nil))) (a0O Tryz.func132 rfl rfl rfl (by kernel_rfl) (a0m (by kernel_rfl))) fun x=>f6q d6Q b7b d6S d1k x
abbrev d6T:Ty:=.cons (.flt .f32) (.nil)
abbrev d9Z:Ty:=.cons (.bool) (.nil)
noncomputable def f6r:Env:=a0t tab eqs [] 9 [.tmp 2] [] [] [] [] []
def f8V (x:Den d6T):Option (Den d9Z):=
 bif (fgt .f32 x.1 0||feq .f32 x.1 0)then
 some ((flt .f32 x.1 1065353216||feq .f32 x.1 1065353216,()))
 else
 some ((false,()))
theorem f6s (x) :a0E (f6r) (a0e Tryz.f193) (a1f d9Z) (a0V d6T x) []=f8V x:=by kernel_rfl
def f6t (x:Den d6T):Option (Den d9Z):=f8V x
def f1B (x:Den d6T):Bool:=(f6t x).isSome
def f1C (x:Den d6T):Den d9Z:=(f6t x).getD (zero d9Z)
theorem e8m:a0q Tryz.prog (193,a0a d6T d9Z f1B f1C):=a0s (a0j mixed a0l a0k .nil) (a0O Tryz.func193 rfl rfl rfl (by kernel_rfl) (a0m (by kernel_rfl))) fun x=>f6s x
abbrev d6U:Ty:=.cons (.flt .f32) (.cons (.flt .f32) (.cons (.flt .f32) (.nil)))
abbrev e0a:Ty:=.cons (.flt .f32) (.nil)
noncomputable def f6u:Env:=a0t tab eqs [] 16 [.tmp 6] [] [] [] [] []
def f8W (x:Den d6U):Option (Den e0a):=
 some (((a0i .add .f32 x.1 (a0i .mul .f32 (a0i .sub .f32 x.2.1 x.1) x.2.2.1)),()))
theorem f6v (x) :a0E (f6u) (a0e Tryz.f194) (a1f e0a) (a0V d6U x) []=f8W x:=by kernel_rfl
def f6w (x:Den d6U):Option (Den e0a):=f8W x
def f1D (x:Den d6U):Bool:=(f6w x).isSome
def f1E (x:Den d6U):Den e0a:=(f6w x).getD (zero e0a)
theorem e8n:a0q Tryz.prog (194,a0a d6U e0a f1D f1E):=a0s (a0j mixed a0l a0k .nil) (a0O Tryz.func194 rfl rfl rfl (by kernel_rfl) (a0m (by kernel_rfl))) fun x=>f6v x
abbrev c6K:Ty:=.cons (.cpx .f32) (.cons (.cpx .f32) (.cons (.flt .f32) (.nil)))
abbrev d4n:Ty:=.cons (.cpx .f32) (.cons (.bool) (.nil))
noncomputable def f6x (k45 g45 k193 g193 k194 g194) :Env:=a0t tab eqs [(45,a0a A45 R45 k45 g45),(193,a0a d6T d9Z k193 g193),(194,a0a d6U e0a k194 g194)] 34 [.tmp 6,.tmp 7] [] [] [] [] []
def f6y (k45:KA A45) (g45:GA A45 R45) (k193:KA d6T) (g193:GA d6T d9Z) (k194:KA d6U) (g194:GA d6U e0a) (x:Den c6K):Option (Den d4n):=
 bif (k45 (x.1,()))then
 bif (!(g45 (x.1,())).1)then
 some (((0,0),false,()))
 else
 bif (k45 (x.2.1,()))then
 bif (!(g45 (x.2.1,())).1)then
 some (((0,0),false,()))
 else
 bif (k193 x.2.2)then
 bif (!(g193 x.2.2).1)then
 some (((0,0),false,()))
 else
 bif (k194 (x.1.1,x.2.1.1,x.2.2))then
 bif (k194 (x.1.2,x.2.1.2,x.2.2))then
 some ((((g194 (x.1.1,x.2.1.1,x.2.2)).1,(g194 (x.1.2,x.2.1.2,x.2.2)).1),true,()))
 else
 none
 else
 none
 else
 none
 else
 none
 else
 none
theorem f6z (k45 g45 k193 g193 k194 g194 x) :a0E (f6x k45 g45 k193 g193 k194 g194) (a0e Tryz.f133) (a1f d4n) (a0V c6K x) []=f6y k45 g45 k193 g193 k194 g194 x:=by kernel_rfl
def f1F (x:Den c6K):Option (Den d4n):=f6y K45 G45 f1B f1C f1D f1E x
def e2S (x:Den c6K):Bool:=(f1F x).isSome
def e2T (x:Den c6K):Den d4n:=(f1F x).getD (zero d4n)
theorem e8o:a0q Tryz.prog (133,a0a c6K d4n e2S e2T):=a0s (a0j mixed a0l a0k (.cons b4Y (.cons e8m (.cons e8n .nil)))) (a0O Tryz.func133 rfl rfl rfl (by kernel_rfl) (a0m (by kernel_rfl))) fun x=>f6z K45 G45 f1B f1C f1D f1E x
abbrev b5X:Ty:=.cons (S68) (.cons (S63) (.nil))
abbrev c6L:Ty:=.cons (.bool) (.nil)
noncomputable def f6A (k44 g44) :Env:=a0t tab eqs [(44,a0a A44 R44 k44 g44)] 26 [.tmp 4] [] [] [] [] []
def f6B (k44:KA A44) (g44:GA A44 R44) (x:Den b5X):Option (Den c6L):=
 bif (fgt .f32 x.2.1.1 x.1.2.1||feq .f32 x.2.1.1 x.1.2.1)then
 bif (flt .f32 x.2.1.1 x.1.2.2.1||feq .f32 x.2.1.1 x.1.2.2.1)then
 bif (k44 (x.2.1.2.1,x.1.2.2.2))then
 some (g44 (x.2.1.2.1,x.1.2.2.2))
 else
 none
 else
 some ((false,()))
 else
 some ((false,()))
theorem f6C (k44 g44 x) :a0E (f6A k44 g44) (a0e Tryz.f135) (a1f c6L) (a0V b5X x) []=f6B k44 g44 x:=by kernel_rfl
def f1G (x:Den b5X):Option (Den c6L):=f6B K44 G44 x
def c6M (x:Den b5X):Bool:=(f1G x).isSome
def c6N (x:Den b5X):Den c6L:=(f1G x).getD (zero c6L)
theorem e0b:a0q Tryz.prog (135,a0a b5X c6L c6M c6N):=a0s (a0j mixed a0l a0k (.cons a6H .nil)) (a0O Tryz.func135 rfl rfl rfl (by kernel_rfl) (a0m (by kernel_rfl))) fun x=>f6C K44 G44 x
abbrev d1m:Ty:=.cons (a3I) (.nil)
abbrev d6V:Ty:=.cons (.bool) (.nil)
noncomputable def f6D (k107 g107 k44 g44) :Env:=a0t tab eqs [(107,a0a c1H c7E k107 g107),(44,a0a A44 R44 k44 g44)] 11 [.tmp 2] [] [] [] [] []
def f6E (k107:KA c1H) (g107:GA c1H c7E) (k44:KA A44) (g44:GA A44 R44) (x:Den d1m):Option (Den d6V):=
 bif (k107 (x.1.2.1,()))then
 bif (g107 (x.1.2.1,())).1 then
 bif (k44 (x.1.2.2.1,0,100000,()))then
 some (g44 (x.1.2.2.1,0,100000,()))
 else
 none
 else
 some ((false,()))
 else
 none
theorem f6F (k107 g107 k44 g44 x) :a0E (f6D k107 g107 k44 g44) (a0e Tryz.f238) (a1f d6V) (a0V d1m x) []=f6E k107 g107 k44 g44 x:=by kernel_rfl
def f1H (x:Den d1m):Option (Den d6V):=f6E d4a d4b K44 G44 x
def d4o (x:Den d1m):Bool:=(f1H x).isSome
def d4p (x:Den d1m):Den d6V:=(f1H x).getD (zero d6V)
theorem e8p:a0q Tryz.prog (238,a0a d1m d6V d4o d4p):=a0s (a0j mixed a0l a0k (.cons c9Z (.cons a6H .nil))) (a0O Tryz.func238 rfl rfl rfl (by kernel_rfl) (a0m (by kernel_rfl))) fun x=>f6F d4a d4b K44 G44 x
abbrev c6O:Ty:=.cons (.slice (a3I)) (.nil)
abbrev d4q:Ty:=.cons (.bool) (.nil)
abbrev a4U:Type:=(((List (Den (a3I)))×((List (Den (a3I)))×(Int×(Int×Unit))))×Unit)
def b5Y:ShS:=⟨[(0,.one (.sl (a3I))),(5,.one (.sl (a3I))),(6,.one (.int .i64)),(7,.one (.int .i64))],[],0,0⟩
abbrev b9B:Type:=(((List (Den (a3I)))×Unit)×Unit)
def b5Z:ShS:=⟨[(0,.one (.sl (a3I)))],[],0,0⟩
abbrev b9C:Type:=((Bool×Unit)×Unit)
def b6a:ShS:=⟨[(2,.one (.bool))],[],0,0⟩
noncomputable def e8q (k238 g238 kl2 xl2 tl2 yl2) :Env:=a0t tab eqs [(238,a0a d1m d6V k238 g238)] 18 [.tmp 2] [] [] [(2,a1U [0,5,6,7] [] 0 [0] [] b5Y b5Z b6a kl2 tl2 xl2 yl2)] [] []
noncomputable def d1n:Code:=(a0u (a0e Tryz.f195)).getD 0 .skip
def b9D (k238:KA d1m) (g238:GA d1m d6V) (f:a4U->Option (b9B⊕b9C)) (v:a4U):Option (b9B⊕b9C):=
 bif (decide (v.1.2.2.2.1<v.1.2.2.1))then
 bif (decide (0<=v.1.2.2.2.1)&&decide (v.1.2.2.2.1<(↑(List.length v.1.2.1):Int)))then
 let v0:=(List.getD v.1.2.1 (Int.toNat v.1.2.2.2.1) (zero a3I))
 bif (k238 (v0,()))then
 bif (!(g238 (v0,())).1)then
 some (Sum.inr (((false,()),())))
 else
 f (((v.1.1,v.1.2.1,v.1.2.2.1,(IntKind.wrap .i64 (v.1.2.2.2.1+1)),()),()))
 else
 none
 else
 none
 else
 some (Sum.inl (((v.1.1,()),())))
theorem d6W (k238 g238 kl2 xl2 tl2 yl2 f v) :EBk (e8q k238 g238 kl2 xl2 tl2 yl2) d1n (a0B [0,5,6,7] [] 0 [0] [] (atS b5Y f) (a5H b5Z b6a)) (mkS b5Y v)=b9D k238 g238 f v:=by kernel_rfl
def d1o (v:a4U):Nat:=v.1.1.length+v.1.2.1.length+v.1.2.2.1.natAbs+v.1.2.2.2.1.natAbs+1000
def b2F (v:a4U):Option (b9B⊕b9C):=a1u (b9D d4o d4p) (d1o v) v
def b0Y (v:a4U):Bool:=(b2F v).isSome
def b0Z (v:a4U):Bool:=isR (b2F v)
def b1a (v:a4U):b9B:=xOf (([],()),()) (b2F v)
def b1b (v:a4U):b9C:=yOf ((false,()),()) (b2F v)
def f6G (k238:KA d1m) (g238:GA d1m d6V) (kl2:a4U->Bool) (xl2:a4U->b9B) (tl2:a4U->Bool) (yl2:a4U->b9C) (x:Den c6O):Option (Den d4q):=
 let w0:=((x.1,x.1,(↑(List.length x.1):Int),0,()),())
 bif (kl2 w0)then
 bif (tl2 w0)then
 some (yl2 w0).1
 else
 some ((decide ((↑(List.length (xl2 w0).1.1):Int)<=50),()))
 else
 none
theorem f6H (k238 g238 kl2 xl2 tl2 yl2 x) :a0E (e8q k238 g238 kl2 xl2 tl2 yl2) (a0e Tryz.f195) (a1f d4q) (a0V c6O x) []=f6G k238 g238 kl2 xl2 tl2 yl2 x:=by kernel_rfl
def f1I (x:Den c6O):Option (Den d4q):=f6G d4o d4p b0Y b1a b0Z b1b x
def c4C (x:Den c6O):Bool:=(f1I x).isSome
def c4D (x:Den c6O):Den d4q:=(f1I x).getD (zero d4q)
theorem e8r:a0q Tryz.prog (195,a0a c6O d4q c4C c4D):=a0s (a0j mixed a0l a0k (.cons e8p .nil)) (a0O Tryz.func195 rfl rfl rfl (by kernel_rfl) (a0D (l:=[d1n]) (by kernel_rfl) (.cons (a0r rfl (a0x (sh:=b5Y) (shX:=b5Z) (shR:=b6a) (fun f v=>d6W d4o d4p b0Y b1a b0Z b1b f v) d1o (([],()),()) ((false,()),()))) (.nil)))) fun x=>f6H d4o d4p b0Y b1a b0Z b1b x
abbrev d1p:Ty:=.cons (.cpx .f64) (.cons (.cpx .f64) (.nil))
abbrev d6X:Ty:=.cons (.cpx .f64) (.nil)
noncomputable def f6I:Env:=a0t tab eqs [] 16 [.tmp 4] [] [] [] [] []
def f8X (x:Den d1p):Option (Den d6X):=
 some ((((a0i .sub .f64 x.1.1 x.2.1.1),(a0i .sub .f64 x.1.2 x.2.1.2)),()))
theorem f6J (x) :a0E (f6I) (a0e Tryz.f263) (a1f d6X) (a0V d1p x) []=f8X x:=by kernel_rfl
def f6K (x:Den d1p):Option (Den d6X):=f8X x
def e2U (x:Den d1p):Bool:=(f6K x).isSome
def e2V (x:Den d1p):Den d6X:=(f6K x).getD (zero d6X)
theorem e8s:a0q Tryz.prog (263,a0a d1p d6X e2U e2V):=a0s (a0j mixed a0l a0k .nil) (a0O Tryz.func263 rfl rfl rfl (by kernel_rfl) (a0m (by kernel_rfl))) fun x=>f6J x
abbrev d6Y:Ty:=.cons (S30) (.cons (.cpx .f64) (.nil))
abbrev e0c:Ty:=.cons (.int .i64) (.nil)
abbrev a8V:Type:=(((Nat×Nat)×(Int×(Nat×((List (Den (a0S)))×(Int×(Int×Unit))))))×Unit)
def b6b:ShS:=⟨[(1,.one (.cpx .f64)),(5,.one (.int .i64)),(6,.one (.flt .f64)),(20,.one (.sl (a0S))),(21,.one (.int .i64)),(22,.one (.int .i64))],[],0,0⟩
abbrev b9E:Type:=((Int×Unit)×Unit)
def b6c:ShS:=⟨[(5,.one (.int .i64))],[],0,0⟩
noncomputable def e8t (k91 g91 k61 g61 k263 g263 k225 g225 kl5 xl5) :Env:=a0t tab eqs [(91,a0a A91 R91 k91 g91),(61,a0a A61 R61 k61 g61),(263,a0a d1p d6X k263 g263),(225,a0a b9n c6E k225 g225)] 45 [.tmp 4] [] [] [(5,a1X [1,5,6,20,21,22] [] 0 [5] [] b6b b6c kl5 xl5)] [] []
noncomputable def d1q:Code:=(a0u (a0e Tryz.f239)).getD 0 .skip
def b9F (k91:KA A91) (g91:GA A91 R91) (k61:KA A61) (g61:GA A61 R61) (k263:KA d1p) (g263:GA d1p d6X) (k225:KA b9n) (g225:GA b9n c6E) (f:a8V->Option (b9E)) (v:a8V):Option (b9E):=
 bif (decide (v.1.2.2.2.2.2.1<v.1.2.2.2.2.1))then
 bif (decide (0<=v.1.2.2.2.2.2.1)&&decide (v.1.2.2.2.2.2.1<(↑(List.length v.1.2.2.2.1):Int)))then
 let v0:=(List.getD v.1.2.2.2.1 (Int.toNat v.1.2.2.2.2.2.1) (zero a0S))
 bif (k263 (v0.1,v.1.1,()))then
 let v2:=(g263 (v0.1,v.1.1,()))
 bif (k225 (v2.1,v2))then
 bif (decide (v.1.2.1<0))then
 f (((v.1.1,v.1.2.2.2.2.2.1,(g225 (v2.1,v2)).1,v.1.2.2.2.1,v.1.2.2.2.2.1,(IntKind.wrap .i64 (v.1.2.2.2.2.2.1+1)),()),()))
 else
 let v4:=(g225 (v2.1,v2))
 bif (flt .f64 v4.1 v.1.2.2.1)then
 f (((v.1.1,v.1.2.2.2.2.2.1,v4.1,v.1.2.2.2.1,v.1.2.2.2.2.1,(IntKind.wrap .i64 (v.1.2.2.2.2.2.1+1)),()),()))
 else
 f (((v.1.1,v.1.2.1,v.1.2.2.1,v.1.2.2.2.1,v.1.2.2.2.2.1,(IntKind.wrap .i64 (v.1.2.2.2.2.2.1+1)),()),()))
 else
 none
 else
 none
 else
 none
 else
 some (((v.1.2.1,()),()))
theorem d6Z (k91 g91 k61 g61 k263 g263 k225 g225 kl5 xl5 f v) :EBk (e8t k91 g91 k61 g61 k263 g263 k225 g225 kl5 xl5) d1q (a0B [1,5,6,20,21,22] [] 0 [5] [] (atS b6b f) (a5U b6c)) (mkS b6b v)=b9F k91 g91 k61 g61 k263 g263 k225 g225 f v:=by kernel_rfl
def d1r (v:a8V):Nat:=v.1.2.1.natAbs+v.1.2.2.2.1.length+v.1.2.2.2.2.1.natAbs+v.1.2.2.2.2.2.1.natAbs+1000
def d1s (v:a8V):Option (b9E):=a1u (b9F K91 G91 K61 G61 e2U e2V c6F c6G) (d1r v) v
def b6d (v:a8V):Bool:=(d1s v).isSome
def b6e (v:a8V):b9E:=(d1s v).getD ((0,()),())
def f6L (k91:KA A91) (g91:GA A91 R91) (k61:KA A61) (g61:GA A61 R61) (k263:KA d1p) (g263:GA d1p d6X) (k225:KA b9n) (g225:GA b9n c6E) (kl5:a8V->Bool) (xl5:a8V->b9E) (x:Den d6Y):Option (Den e0c):=
 bif (k91 (x.1,()))then
 bif (!(g91 (x.1,())).1)then
 some ((-1,()))
 else
 bif (k61 x.2)then
 bif (!(g61 x.2).1)then
 some ((-1,()))
 else
 let w0:=((x.2.1,-1,0,x.1.1,(↑(List.length x.1.1):Int),0,()),())
 bif (kl5 w0)then
 some (xl5 w0).1
 else
 none
 else
 none
 else
 none
theorem f6M (k91 g91 k61 g61 k263 g263 k225 g225 kl5 xl5 x) :a0E (e8t k91 g91 k61 g61 k263 g263 k225 g225 kl5 xl5) (a0e Tryz.f239) (a1f e0c) (a0V d6Y x) []=f6L k91 g91 k61 g61 k263 g263 k225 g225 kl5 xl5 x:=by kernel_rfl
def e8u (x:Den d6Y):Option (Den e0c):=f6L K91 G91 K61 G61 e2U e2V c6F c6G b6d b6e x
def f1J (x:Den d6Y):Bool:=(e8u x).isSome
def f1K (x:Den d6Y):Den e0c:=(e8u x).getD (zero e0c)
theorem e8v:a0q Tryz.prog (239,a0a d6Y e0c f1J f1K):=a0s (a0j mixed a0l a0k (.cons e2y (.cons c1N (.cons e8s (.cons d0N .nil))))) (a0O Tryz.func239 rfl rfl rfl (by kernel_rfl) (a0D (l:=[d1q]) (by kernel_rfl) (.cons (a0r rfl (a0y (sh:=b6b) (shX:=b6c) (fun f v=>d6Z K91 G91 K61 G61 e2U e2V c6F c6G b6d b6e f v) d1r ((0,()),()))) (.nil)))) fun x=>f6M K91 G91 K61 G61 e2U e2V c6F c6G b6d b6e x
abbrev d1t:Sg:=⟨[.val (.int .i64),.ptr 0,.ptr 1],[.box (.int .i64),.box (S30)]⟩
abbrev d7a:Sg:=⟨[.val (.int .i64)],[.box (.int .i64),.box (S30)]⟩
noncomputable def f6N:Env:=a0t tab eqs [] 20 [.tmp 4] [] [] [] [] []
def f6O (x:d1t.den):Option (d7a.den):=
 let w0:=(decide (0<=x.1.1)&&decide (x.1.1<(↑(List.length x.2.2.1.2.1):Int)))
 bif w0 then
 bif w0 then
 let v0:=(List.getD x.2.2.1.2.1 (Int.toNat x.1.1) (zero (Ty.int IntKind.i64)))
 some (((e0W (IntKind.wrap .i64 (x.2.1-v0)) (IntKind.wrap .i64 (v0-x.2.1)),()),x.2))
 else
 none
 else
 none
theorem f6P (x) :a1N (f6N) (a0e Tryz.f264) d1t d7a x=f6O x:=by kernel_rfl
def e5q (x:d1t.den):Option (d7a.den):=f6O x
def e2W (x:d1t.den):Bool:=(e5q x).isSome
def e2X (x:d1t.den):d7a.den:=(e5q x).getD (a1d d7a)
theorem e8w:a0q Tryz.prog (264,a0n true d1t d7a e2W e2X):=a1k (a0j mixed a0l a0k .nil) (a0O Tryz.func264 rfl rfl rfl (by kernel_rfl) (a0m (by kernel_rfl))) true fun x=>f6P x
abbrev d7b:Ty:=.cons (S30) (.cons (.int .i64) (.nil))
abbrev e0d:Ty:=.cons (.int .i64) (.nil)
abbrev a8W:Type:=((Unit×(Int×(Int×(Int×Unit))))×((Int×Unit)×(((List (Den (a0S)))×((List (Den (.int .i64)))×Unit))×Unit)))
def b6f:ShS:=⟨[(5,.one (.fn 264 [0,1])),(6,.one (.int .i64)),(19,.one (.int .i64)),(20,.one (.int .i64))],[(0,.box [.int .i64]),(1,.box [.sl (a0S),.sl (.int .i64)])],2,0⟩
abbrev b9G:Type:=((Int×Unit)×Unit)
def b6g:ShS:=⟨[(6,.one (.int .i64))],[],0,0⟩
noncomputable def e8x (k91 g91 k43 g43 k264 g264 kl6 xl6) :Env:=a0t tab eqs [(91,a0a A91 R91 k91 g91),(43,a0a A43 R43 k43 g43),(264,a0n true d1t d7a k264 g264)] 33 [.tmp 4] [] [] [(6,a1X [5,6,19,20] [] 0 [6] [] b6f b6g kl6 xl6)] [] []
noncomputable def d1u:Code:=(a0u (a0e Tryz.f240)).getD 0 .skip
def b9H (k91:KA A91) (g91:GA A91 R91) (k43:KA A43) (g43:GA A43 R43) (k264:KI d1t) (g264:GI d1t d7a) (f:a8W->Option (b9G)) (v:a8W):Option (b9G):=
 bif (decide (v.1.2.2.2.1<v.1.2.2.1))then
 let w0:=((v.1.2.2.2.1,(),(),()),v.2.1.1,v.2.2)
 bif (k264 w0)then
 let v1:=(g264 w0)
 bif (k264 ((v.1.2.1,(),(),()),v1.2))then
 let v3:=(g264 ((v.1.2.1,(),(),()),v1.2))
 bif (decide (v1.1.1<v3.1.1))then
 f ((((),v.1.2.2.2.1,v.1.2.2.1,(IntKind.wrap .i64 (v.1.2.2.2.1+1)),()),(v3.2.1,()),v3.2.2))
 else
 f ((((),v.1.2.1,v.1.2.2.1,(IntKind.wrap .i64 (v.1.2.2.2.1+1)),()),(v3.2.1,()),v3.2.2))
 else
 none
 else
 none
 else
 some (((v.1.2.1,()),()))
theorem d7c (k91 g91 k43 g43 k264 g264 kl6 xl6 f v) :EBk (e8x k91 g91 k43 g43 k264 g264 kl6 xl6) d1u (a0B [5,6,19,20] [] 0 [6] [] (atS b6f f) (a5U b6g)) (mkS b6f v)=b9H k91 g91 k43 g43 k264 g264 f v:=by kernel_rfl
def d1v (v:a8W):Nat:=v.1.2.1.natAbs+v.1.2.2.1.natAbs+v.1.2.2.2.1.natAbs+v.2.1.1.natAbs+v.2.2.1.1.length+v.2.2.1.2.1.length+1000
def d1w (v:a8W):Option (b9G):=a1u (b9H K91 G91 K43 G43 e2W e2X) (d1v v) v
def b6h (v:a8W):Bool:=(d1w v).isSome
def b6i (v:a8W):b9G:=(d1w v).getD ((0,()),())
def f6Q (k91:KA A91) (g91:GA A91 R91) (k43:KA A43) (g43:GA A43 R43) (k264:KI d1t) (g264:GI d1t d7a) (kl6:a8W->Bool) (xl6:a8W->b9G) (x:Den d7b):Option (Den e0d):=
 bif (k91 (x.1,()))then
 bif (!(g91 (x.1,())).1)then
 some ((-1,()))
 else
 bif (k43 x.2)then
 bif (!(g43 x.2).1)then
 some ((-1,()))
 else
 let w0:=(((),0,(↑(List.length x.1.2.1):Int),0,()),x.2,x.1,())
 bif (kl6 w0)then
 some (xl6 w0).1
 else
 none
 else
 none
 else
 none
theorem f6R (k91 g91 k43 g43 k264 g264 kl6 xl6 x) :a0E (e8x k91 g91 k43 g43 k264 g264 kl6 xl6) (a0e Tryz.f240) (a1f e0d) (a0V d7b x) []=f6Q k91 g91 k43 g43 k264 g264 kl6 xl6 x:=by kernel_rfl
def e8y (x:Den d7b):Option (Den e0d):=f6Q K91 G91 K43 G43 e2W e2X b6h b6i x
def f1L (x:Den d7b):Bool:=(e8y x).isSome
def f1M (x:Den d7b):Den e0d:=(e8y x).getD (zero e0d)
theorem e8z:a0q Tryz.prog (240,a0a d7b e0d f1L f1M):=a0s (a0j mixed a0l a0k (.cons e2y (.cons d6i (.cons e8w .nil)))) (a0O Tryz.func240 rfl rfl rfl (by kernel_rfl) (a0D (l:=[d1u]) (by kernel_rfl) (.cons (a0r rfl (a0y (sh:=b6f) (shX:=b6g) (fun f v=>d7c K91 G91 K43 G43 e2W e2X b6h b6i f v) d1v ((0,()),()))) (.nil)))) fun x=>f6R K91 G91 K43 G43 e2W e2X b6h b6i x
abbrev d7d:Ty:=.cons (.int .i64) (.cons (.int .i64) (.cons (.int .i64) (.nil)))
abbrev e0e:Ty:=.cons (.int .i64) (.nil)
noncomputable def f6S:Env:=a0t tab eqs [] 19 [.tmp 6] [] [] [] [] []
def f6T (x:Den d7d):Option (Den e0e):=
 bif (decide (x.2.2.1<x.2.1))then
 some ((x.2.1,()))
 else
 bif (decide (x.1<x.2.1))then
 some ((x.2.1,()))
 else
 some ((a4h x.1 x.2.2.1,()))
theorem f6U (x) :a0E (f6S) (a0e Tryz.f265) (a1f e0e) (a0V d7d x) []=f6T x:=by kernel_rfl
def e8A (x:Den d7d):Option (Den e0e):=f6T x
def f1N (x:Den d7d):Bool:=(e8A x).isSome
def f1O (x:Den d7d):Den e0e:=(e8A x).getD (zero e0e)
theorem e8B:a0q Tryz.prog (265,a0a d7d e0e f1N f1O):=a0s (a0j mixed a0l a0k .nil) (a0O Tryz.func265 rfl rfl rfl (by kernel_rfl) (a0m (by kernel_rfl))) fun x=>f6U x
abbrev d7e:Ty:=.cons (a0S) (.cons (.int .i64) (.nil))
abbrev e0f:Ty:=.cons (.cpx .f32) (.cons (.bool) (.nil))
noncomputable def f6V (k159 g159 k265 g265 k227 g227) :Env:=a0t tab eqs [(159,a0a c0N c7F k159 g159),(265,a0a d7d e0e k265 g265),(227,a0a b5E c4o k227 g227)] 54 [.tmp 4,.tmp 5] [] [] [] [] []
def f6W (k159:KA c0N) (g159:GA c0N c7F) (k265:KA d7d) (g265:GA d7d e0e) (k227:KA b5E) (g227:GA b5E c4o) (x:Den d7e):Option (Den e0f):=
 let w0:=([x.1.2.1.1,x.1.2.1.2.1,x.1.2.1.2.2.1,x.1.2.1.2.2.2.1,x.1.2.1.2.2.2.2.1,x.1.2.1.2.2.2.2.2.1,x.1.2.1.2.2.2.2.2.2.1,x.1.2.1.2.2.2.2.2.2.2.1,x.1.2.1.2.2.2.2.2.2.2.2.1,x.1.2.1.2.2.2.2.2.2.2.2.2.1,x.1.2.1.2.2.2.2.2.2.2.2.2.2.1,x.1.2.1.2.2.2.2.2.2.2.2.2.2.2.1,x.1.2.1.2.2.2.2.2.2.2.2.2.2.2.2.1],())
 bif (k159 w0)then
 bif (!(g159 w0).1)then
 some (((0,0),false,()))
 else
 bif (k265 (x.2.1,-21600,21600,()))then
 let v4:=(IntKind.wrap .i64 ((g265 (x.2.1,-21600,21600,())).1+21600))
 bif (Int.tmod v4 3600==0)then
 let v5:=(IntKind.wrap .i64 (Int.tdiv v4 3600))
 bif (decide (0<=v5)&&decide (v5<(↑13:Int)))then
 some (((List.getD [x.1.2.1.1,x.1.2.1.2.1,x.1.2.1.2.2.1,x.1.2.1.2.2.2.1,x.1.2.1.2.2.2.2.1,x.1.2.1.2.2.2.2.2.1,x.1.2.1.2.2.2.2.2.2.1,x.1.2.1.2.2.2.2.2.2.2.1,x.1.2.1.2.2.2.2.2.2.2.2.1,x.1.2.1.2.2.2.2.2.2.2.2.2.1,x.1.2.1.2.2.2.2.2.2.2.2.2.2.1,x.1.2.1.2.2.2.2.2.2.2.2.2.2.2.1,x.1.2.1.2.2.2.2.2.2.2.2.2.2.2.2.1] (Int.toNat v5) (0,0)),true,()))
 else
 none
 else
 let v5:=(IntKind.wrap .i64 (Int.tdiv v4 3600))
 bif (decide (0<=v5)&&decide (v5<(↑13:Int)))then
 let v6:=(IntKind.wrap .i64 (v5+1))
 bif (decide (0<=v6)&&decide (v6<(↑13:Int)))then
 let v7:=(List.getD [x.1.2.1.1,x.1.2.1.2.1,x.1.2.1.2.2.1,x.1.2.1.2.2.2.1,x.1.2.1.2.2.2.2.1,x.1.2.1.2.2.2.2.2.1,x.1.2.1.2.2.2.2.2.2.1,x.1.2.1.2.2.2.2.2.2.2.1,x.1.2.1.2.2.2.2.2.2.2.2.1,x.1.2.1.2.2.2.2.2.2.2.2.2.1,x.1.2.1.2.2.2.2.2.2.2.2.2.2.1,x.1.2.1.2.2.2.2.2.2.2.2.2.2.2.1,x.1.2.1.2.2.2.2.2.2.2.2.2.2.2.2.1] (Int.toNat v5) (0,0))
 let v8:=(List.getD [x.1.2.1.1,x.1.2.1.2.1,x.1.2.1.2.2.1,x.1.2.1.2.2.2.1,x.1.2.1.2.2.2.2.1,x.1.2.1.2.2.2.2.2.1,x.1.2.1.2.2.2.2.2.2.1,x.1.2.1.2.2.2.2.2.2.2.1,x.1.2.1.2.2.2.2.2.2.2.2.1,x.1.2.1.2.2.2.2.2.2.2.2.2.1,x.1.2.1.2.2.2.2.2.2.2.2.2.2.1,x.1.2.1.2.2.2.2.2.2.2.2.2.2.2.1,x.1.2.1.2.2.2.2.2.2.2.2.2.2.2.2.1] (Int.toNat v6) (0,0))
 let v9:=(a0i .quo .f32 (FloatKind.nearest .f32 (Int.tmod v4 3600)) 1163984896)
 bif (k227 (v7.1,v8.1,v9,()))then
 bif (k227 (v7.2,v8.2,v9,()))then
 some ((((g227 (v7.1,v8.1,v9,())).1,(g227 (v7.2,v8.2,v9,())).1),true,()))
 else
 none
 else
 none
 else
 none
 else
 none
 else
 none
 else
 none
theorem f6X (k159 g159 k265 g265 k227 g227 x) :a0E (f6V k159 g159 k265 g265 k227 g227) (a0e Tryz.f241) (a1f e0f) (a0V d7e x) []=f6W k159 g159 k265 g265 k227 g227 x:=by kernel_rfl
def f1P (x:Den d7e):Option (Den e0f):=f6W c6y c6z f1N f1O c4p c4q x
def f1Q (x:Den d7e):Bool:=(f1P x).isSome
def f1R (x:Den d7e):Den e0f:=(f1P x).getD (zero e0f)
theorem e8C:a0q Tryz.prog (241,a0a d7e e0f f1Q f1R):=a0s (a0j mixed a0l a0k (.cons d9z (.cons e8B (.cons d0U .nil)))) (a0O Tryz.func241 rfl rfl rfl (by kernel_rfl) (a0m (by kernel_rfl))) fun x=>f6X c6y c6z f1N f1O c4p c4q x
abbrev c6P:Ty:=.cons (S30) (.cons (.cpx .f64) (.cons (.int .i64) (.nil)))
abbrev d4r:Ty:=.cons (.cpx .f32) (.cons (.bool) (.nil))
noncomputable def f6Y (k239 g239 k240 g240 k241 g241) :Env:=a0t tab eqs [(239,a0a d6Y e0c k239 g239),(240,a0a d7b e0d k240 g240),(241,a0a d7e e0f k241 g241)] 37 [.tmp 6,.tmp 7] [] [] [] [] []
def f6Z (k239:KA d6Y) (g239:GA d6Y e0c) (k240:KA d7b) (g240:GA d7b e0d) (k241:KA d7e) (g241:GA d7e e0f) (x:Den c6P):Option (Den d4r):=
 bif (k239 (x.1,x.2.1,()))then
 bif (k240 (x.1,x.2.2))then
 let v2:=(g239 (x.1,x.2.1,()))
 bif (decide (v2.1<0))then
 some (((0,0),false,()))
 else
 let v3:=(g240 (x.1,x.2.2))
 bif (decide (v3.1<0))then
 some (((0,0),false,()))
 else
 bif (decide (0<=v2.1)&&decide (v2.1<(↑(List.length x.1.1):Int)))then
 bif (decide (0<=v3.1)&&decide (v3.1<(↑(List.length x.1.2.1):Int)))then
 let v4:=(List.getD x.1.1 (Int.toNat v2.1) (zero a0S))
 let v6:=(IntKind.wrap .i64 (x.2.2.1-(List.getD x.1.2.1 (Int.toNat v3.1) (zero (Ty.int IntKind.i64)))))
 bif (k241 (v4,v6,()))then
 some (g241 (v4,v6,()))
 else
 none
 else
 none
 else
 none
 else
 none
 else
 none
theorem f7a (k239 g239 k240 g240 k241 g241 x) :a0E (f6Y k239 g239 k240 g240 k241 g241) (a0e Tryz.f196) (a1f d4r) (a0V c6P x) []=f6Z k239 g239 k240 g240 k241 g241 x:=by kernel_rfl
def f1S (x:Den c6P):Option (Den d4r):=f6Z f1J f1K f1L f1M f1Q f1R x
def c4E (x:Den c6P):Bool:=(f1S x).isSome
def b9I (x:Den c6P):Den d4r:=(f1S x).getD (zero d4r)
theorem e8D:a0q Tryz.prog (196,a0a c6P d4r c4E b9I):=a0s (a0j mixed a0l a0k (.cons e8v (.cons e8z (.cons e8C .nil)))) (a0O Tryz.func196 rfl rfl rfl (by kernel_rfl) (a0m (by kernel_rfl))) fun x=>f7a f1J f1K f1L f1M f1Q f1R x
abbrev d7f:Ty:=.cons (.cpx .f32) (.cons (.cpx .f32) (.nil))
abbrev e0g:Ty:=.cons (.cpx .f32) (.nil)
noncomputable def f7b:Env:=a0t tab eqs [] 16 [.tmp 4] [] [] [] [] []
def f8Y (x:Den d7f):Option (Den e0g):=
 some ((((a0i .add .f32 x.1.1 x.2.1.1),(a0i .add .f32 x.1.2 x.2.1.2)),()))
theorem f7c (x) :a0E (f7b) (a0e Tryz.f266) (a1f e0g) (a0V d7f x) []=f8Y x:=by kernel_rfl
def f7d (x:Den d7f):Option (Den e0g):=f8Y x
def f1T (x:Den d7f):Bool:=(f7d x).isSome
def f1U (x:Den d7f):Den e0g:=(f7d x).getD (zero e0g)
theorem e8E:a0q Tryz.prog (266,a0a d7f e0g f1T f1U):=a0s (a0j mixed a0l a0k .nil) (a0O Tryz.func266 rfl rfl rfl (by kernel_rfl) (a0m (by kernel_rfl))) fun x=>f7c x
abbrev d7g:Ty:=.cons (.int .i64) (.cons (.flt .f32) (.cons (.cpx .f32) (.nil)))
abbrev e0h:Ty:=.cons (.cpx .f32) (.cons (.bool) (.nil))
noncomputable def f7e (k56 g56 k45 g45 k266 g266) :Env:=a0t tab eqs [(56,a0a A56 R56 k56 g56),(45,a0a A45 R45 k45 g45),(266,a0a d7f e0g k266 g266)] 26 [.tmp 6,.tmp 7] [] [] [] [] []
def f7f (k56:KA A56) (g56:GA A56 R56) (k45:KA A45) (g45:GA A45 R45) (k266:KA d7f) (g266:GA d7f e0g) (x:Den d7g):Option (Den e0h):=
 bif (k56 (x.1,x.2.1,()))then
 let v1:=(g56 (x.1,x.2.1,()))
 bif (!v1.2.1)then
 some (((0,0),false,()))
 else
 bif (k45 x.2.2)then
 bif (!(g45 x.2.2).1)then
 some (((0,0),false,()))
 else
 bif (k266 (v1.1,x.2.2))then
 some (((g266 (v1.1,x.2.2)).1,true,()))
 else
 none
 else
 none
 else
 none
theorem f7g (k56 g56 k45 g45 k266 g266 x) :a0E (f7e k56 g56 k45 g45 k266 g266) (a0e Tryz.f242) (a1f e0h) (a0V d7g x) []=f7f k56 g56 k45 g45 k266 g266 x:=by kernel_rfl
def f1V (x:Den d7g):Option (Den e0h):=f7f K56 G56 K45 G45 f1T f1U x
def f1W (x:Den d7g):Bool:=(f1V x).isSome
def f1X (x:Den d7g):Den e0h:=(f1V x).getD (zero e0h)
theorem e8F:a0q Tryz.prog (242,a0a d7g e0h f1W f1X):=a0s (a0j mixed a0l a0k (.cons e7Z (.cons b4Y (.cons e8E .nil)))) (a0O Tryz.func242 rfl rfl rfl (by kernel_rfl) (a0m (by kernel_rfl))) fun x=>f7g K56 G56 K45 G45 f1T f1U x
abbrev d7h:Ty:=.cons (.cpx .f64) (.cons (.cpx .f32) (.cons (.int .i64) (.nil)))
abbrev e0i:Ty:=.cons (.cpx .f64) (.cons (.bool) (.nil))
noncomputable def f7h (k61 g61 k45 g45 k44 g44) :Env:=a0t tab eqs [(61,a0a A61 R61 k61 g61),(45,a0a A45 R45 k45 g45),(44,a0a A44 R44 k44 g44)] 46 [.tmp 6,.tmp 7] [] [] [] [] []
def f7i (k61:KA A61) (g61:GA A61 R61) (k45:KA A45) (g45:GA A45 R45) (k44:KA A44) (g44:GA A44 R44) (x:Den d7h):Option (Den e0i):=
 bif (k61 (x.1,()))then
 bif (!(g61 (x.1,())).1)then
 some (((0,0),false,()))
 else
 bif (k45 (x.2.1,()))then
 bif (!(g45 (x.2.1,())).1)then
 some (((0,0),false,()))
 else
 bif (k44 (x.2.2.1,0,100000,()))then
 bif (!(g44 (x.2.2.1,0,100000,())).1)then
 some (((0,0),false,()))
 else
 let w0:=(FloatKind.nearest .f64 x.2.2.1)
 let v7:=(a0i .add .f64 x.1.1 (a0i .mul .f64 (a1a .f32 .f64 x.2.1.1).2 w0))
 let v9:=(a0i .add .f64 x.1.2 (a0i .mul .f64 (a1a .f32 .f64 x.2.1.2).2 w0))
 bif (k61 ((v7,v9),()))then
 bif (!(g61 ((v7,v9),())).1)then
 some (((0,0),false,()))
 else
 some (((v7,v9),true,()))
 else
 none
 else
 none
 else
 none
 else
 none
theorem f7j (k61 g61 k45 g45 k44 g44 x) :a0E (f7h k61 g61 k45 g45 k44 g44) (a0e Tryz.f243) (a1f e0i) (a0V d7h x) []=f7i k61 g61 k45 g45 k44 g44 x:=by kernel_rfl
def f1Y (x:Den d7h):Option (Den e0i):=f7i K61 G61 K45 G45 K44 G44 x
def f1Z (x:Den d7h):Bool:=(f1Y x).isSome
def f2a (x:Den d7h):Den e0i:=(f1Y x).getD (zero e0i)
theorem e8G:a0q Tryz.prog (243,a0a d7h e0i f1Z f2a):=a0s (a0j mixed a0l a0k (.cons c1N (.cons b4Y (.cons a6H .nil)))) (a0O Tryz.func243 rfl rfl rfl (by kernel_rfl) (a0m (by kernel_rfl))) fun x=>f7j K61 G61 K45 G45 K44 G44 x
abbrev c6Q:Ty:=.cons (.cpx .f64) (.cons (a3I) (.cons (.int .i64) (.cons (.cpx .f32) (.nil))))
abbrev d4s:Ty:=.cons (.cpx .f64) (.cons (.bool) (.nil))
noncomputable def f7k (k242 g242 k243 g243) :Env:=a0t tab eqs [(242,a0a d7g e0h k242 g242),(243,a0a d7h e0i k243 g243)] 29 [.tmp 8,.tmp 9] [] [] [] [] []
def f7l (k242:KA d7g) (g242:GA d7g e0h) (k243:KA d7h) (g243:GA d7h e0i) (x:Den c6Q):Option (Den d4s):=
 let w0:=(x.2.1.1,x.2.1.2.1,x.2.2.2)
 bif (k242 w0)then
 let v1:=(g242 w0)
 bif (!v1.2.1)then
 some (((0,0),false,()))
 else
 bif (k243 (x.1,v1.1,x.2.2.1,()))then
 some (g243 (x.1,v1.1,x.2.2.1,()))
 else
 none
 else
 none
theorem f7m (k242 g242 k243 g243 x) :a0E (f7k k242 g242 k243 g243) (a0e Tryz.f197) (a1f d4s) (a0V c6Q x) []=f7l k242 g242 k243 g243 x:=by kernel_rfl
def f2b (x:Den c6Q):Option (Den d4s):=f7l f1W f1X f1Z f2a x
def c4F (x:Den c6Q):Bool:=(f2b x).isSome
def c2a (x:Den c6Q):Den d4s:=(f2b x).getD (zero d4s)
theorem e8H:a0q Tryz.prog (197,a0a c6Q d4s c4F c2a):=a0s (a0j mixed a0l a0k (.cons e8F (.cons e8G .nil))) (a0O Tryz.func197 rfl rfl rfl (by kernel_rfl) (a0m (by kernel_rfl))) fun x=>f7m f1W f1X f1Z f2a x
abbrev c6R:Ty:=.cons (.cpx .f64) (.cons (.int .i64) (.cons (.slice (a3I)) (.cons (S30) (.nil))))
abbrev d4t:Ty:=.cons (.cpx .f64) (.cons (.bool) (.nil))
abbrev a4V:Type:=(((Nat×Nat)×(Int×(Unit×((List (Den (a3I)))×(Int×(Int×Unit))))))×(((List (Den (a0S)))×((List (Den (.int .i64)))×Unit))×Unit))
def b6j:ShS:=⟨[(0,.one (.cpx .f64)),(1,.one (.int .i64)),(7,.one (.ptr 0 0)),(25,.one (.sl (a3I))),(26,.one (.int .i64)),(27,.one (.int .i64))],[(0,.box [.sl (a0S),.sl (.int .i64)])],1,0⟩
abbrev b2G:Type:=(((Nat×Nat)×Unit)×Unit)
def b6k:ShS:=⟨[(0,.one (.cpx .f64))],[],0,0⟩
abbrev b2H:Type:=(((Nat×Nat)×(Bool×Unit))×Unit)
def b6l:ShS:=⟨[(8,.one (.cpx .f64)),(9,.one (.bool))],[],0,0⟩
abbrev a2V:Type:=(((Nat×Nat)×(Int×(Unit×(Unit×(Int×((List (Den (a3I)))×(Int×(Int×Unit))))))))×(((List (Den (a0S)))×((List (Den (.int .i64)))×Unit))×((Int×(Nat×(Int×Unit)))×Unit)))
def b6m:ShS:=⟨[(0,.one (.cpx .f64)),(1,.one (.int .i64)),(7,.one (.ptr 0 0)),(11,.one (.ptr 1 0)),(12,.one (.int .i64)),(25,.one (.sl (a3I))),(26,.one (.int .i64)),(27,.one (.int .i64))],[(0,.box [.sl (a0S),.sl (.int .i64)]),(1,.box [.int .i64,.flt .f32,.int .i64])],2,0⟩
abbrev b2I:Type:=(((Nat×Nat)×(Int×(Unit×((List (Den (a3I)))×(Int×(Int×Unit))))))×(((List (Den (a0S)))×((List (Den (.int .i64)))×Unit))×Unit))
def b6n:ShS:=⟨[(0,.one (.cpx .f64)),(1,.one (.int .i64)),(7,.one (.ptr 0 0)),(25,.one (.sl (a3I))),(26,.one (.int .i64)),(27,.one (.int .i64))],[(0,.box [.sl (a0S),.sl (.int .i64)])],1,0⟩
abbrev b2J:Type:=(((Nat×Nat)×(Bool×Unit))×Unit)
def b6o:ShS:=⟨[(8,.one (.cpx .f64)),(9,.one (.bool))],[],0,0⟩
noncomputable def e2Y (k61 g61 k195 g195 k196 g196 k197 g197 kl4 xl4 tl4 yl4 kl7 xl7 tl7 yl7) :Env:=a0t tab eqs [(61,a0a A61 R61 k61 g61),(195,a0a c6O d4q k195 g195),(196,a0a c6P d4r k196 g196),(197,a0a c6Q d4s k197 g197)] 65 [.tmp 8,.tmp 9] [] [] [(4,a1U [0,1,7,25,26,27] [] 0 [0] [] b6j b6k b6l kl4 tl4 xl4 yl4),(7,a1U [0,1,7,11,12,25,26,27] [] 2 [0,1,7,25,26,27] [] b6m b6n b6o kl7 tl7 xl7 yl7)] [] []
noncomputable def d1x:Code:=(a0u (a0e Tryz.f136)).getD 0 .skip
noncomputable def d1y:Code:=(a0u (a0e Tryz.f136)).getD 1 .skip
def b9J (k61:KA A61) (g61:GA A61 R61) (k195:KA c6O) (g195:GA c6O d4q) (k196:KA c6P) (g196:GA c6P d4r) (k197:KA c6Q) (g197:GA c6Q d4s) (f:a2V->Option (b2I⊕b2J)) (v:a2V):Option (b2I⊕b2J):=
 bif (decide (v.1.2.2.2.2.1>0))then
 bif (k196 (v.2.1,v.1.1,v.1.2.1,()))then
 let v1:=(g196 (v.2.1,v.1.1,v.1.2.1,()))
 bif (!v1.2.1)then
 some (Sum.inr ((((0,0),false,()),())))
 else
 let w0:=(v.1.1,v.2.2.1,a4h v.1.2.2.2.2.1 600,v1.1,())
 bif (k197 w0)then
 let v3:=(g197 w0)
 bif (!v3.2.1)then
 some (Sum.inr ((((0,0),false,()),())))
 else
 f (((v3.1,(IntKind.wrap .i64 (v.1.2.1+a4h v.1.2.2.2.2.1 600)),(),(),(IntKind.wrap .i64 (v.1.2.2.2.2.1-a4h v.1.2.2.2.2.1 600)),v.1.2.2.2.2.2),v.2))
 else
 none
 else
 none
 else
 some (Sum.inl (((v.1.1,v.1.2.1,(),v.1.2.2.2.2.2),v.2.1,())))
theorem d7i (k61 g61 k195 g195 k196 g196 k197 g197 kl4 xl4 tl4 yl4 kl7 xl7 tl7 yl7 f v) :EBk (e2Y k61 g61 k195 g195 k196 g196 k197 g197 kl4 xl4 tl4 yl4 kl7 xl7 tl7 yl7) d1y (a0B [0,1,7,11,12,25,26,27] [] 2 [0,1,7,25,26,27] [] (atS b6m f) (a5H b6n b6o)) (mkS b6m v)=b9J k61 g61 k195 g195 k196 g196 k197 g197 f v:=by kernel_rfl
def c4G (v:a2V):Nat:=v.1.2.1.natAbs+v.1.2.2.2.2.1.natAbs+v.1.2.2.2.2.2.1.length+v.1.2.2.2.2.2.2.1.natAbs+v.1.2.2.2.2.2.2.2.1.natAbs+v.2.1.1.length+v.2.1.2.1.length+v.2.2.1.1.natAbs+v.2.2.1.2.2.1.natAbs+1000
def b9K (v:a2V):Option (b2I⊕b2J):=a1u (b9J K61 G61 c4C c4D c4E b9I c4F c2a) (c4G v) v
def a5r (v:a2V):Bool:=(b9K v).isSome
def a5s (v:a2V):Bool:=isR (b9K v)
def a2r (v:a2V):b2I:=xOf (((0,0),(0,((),([],(0,(0,())))))),(([],([],())),())) (b9K v)
def a5t (v:a2V):b2J:=yOf (((0,0),(false,())),()) (b9K v)
def d1z (k61:KA A61) (g61:GA A61 R61) (k195:KA c6O) (g195:GA c6O d4q) (k196:KA c6P) (g196:GA c6P d4r) (k197:KA c6Q) (g197:GA c6Q d4s) (kl7:a2V->Bool) (xl7:a2V->b2I) (tl7:a2V->Bool) (yl7:a2V->b2J) (f:a4V->Option (b2G⊕b2H)) (v:a4V):Option (b2G⊕b2H):=
 bif (decide (v.1.2.2.2.2.2.1<v.1.2.2.2.2.1))then
 bif (decide (0<=v.1.2.2.2.2.2.1)&&decide (v.1.2.2.2.2.2.1<(↑(List.length v.1.2.2.2.1):Int)))then
 let v0:=(List.getD v.1.2.2.2.1 (Int.toNat v.1.2.2.2.2.2.1) (zero a3I))
 let w0:=((v.1.1,v.1.2.1,(),(),v0.2.2.1,v.1.2.2.2),v.2.1,v0,())
 bif (kl7 w0)then
 bif (tl7 w0)then
 some (Sum.inr (yl7 w0))
 else
 let v3:=(xl7 w0)
 f (((v3.1.1,v3.1.2.1,(),v3.1.2.2.2.1,v3.1.2.2.2.2.1,(IntKind.wrap .i64 (v3.1.2.2.2.2.2.1+1)),()),v3.2))
 else
 none
 else
 none
 else
 some (Sum.inl (((v.1.1,()),())))
theorem d7j (k61 g61 k195 g195 k196 g196 k197 g197 kl4 xl4 tl4 yl4 kl7 xl7 tl7 yl7 f v) :EBk (e2Y k61 g61 k195 g195 k196 g196 k197 g197 kl4 xl4 tl4 yl4 kl7 xl7 tl7 yl7) d1x (a0B [0,1,7,25,26,27] [] 0 [0] [] (atS b6j f) (a5H b6k b6l)) (mkS b6j v)=d1z k61 g61 k195 g195 k196 g196 k197 g197 kl7 xl7 tl7 yl7 f v:=by kernel_rfl
def b9L (v:a4V):Nat:=v.1.2.1.natAbs+v.1.2.2.2.1.length+v.1.2.2.2.2.1.natAbs+v.1.2.2.2.2.2.1.natAbs+v.2.1.1.length+v.2.1.2.1.length+1000
def b2K (v:a4V):Option (b2G⊕b2H):=a1u (d1z K61 G61 c4C c4D c4E b9I c4F c2a a5r a2r a5s a5t) (b9L v) v
def a8t (v:a4V):Bool:=(b2K v).isSome
def a8u (v:a4V):Bool:=isR (b2K v)
def a8v (v:a4V):b2G:=xOf (((0,0),()),()) (b2K v)
def a8w (v:a4V):b2H:=yOf (((0,0),(false,())),()) (b2K v)
def f7n (k61:KA A61) (g61:GA A61 R61) (k195:KA c6O) (g195:GA c6O d4q) (k196:KA c6P) (g196:GA c6P d4r) (k197:KA c6Q) (g197:GA c6Q d4s) (kl4:a4V->Bool) (xl4:a4V->b2G) (tl4:a4V->Bool) (yl4:a4V->b2H) (kl7:a2V->Bool) (xl7:a2V->b2I) (tl7:a2V->Bool) (yl7:a2V->b2J) (x:Den c6R):Option (Den d4t):=
 bif (k61 (x.1,()))then
 bif (!(g61 (x.1,())).1)then
 some (((0,0),false,()))
 else
 bif (k195 (x.2.2.1,()))then
 bif (!(g195 (x.2.2.1,())).1)then
 some (((0,0),false,()))
 else
 let w0:=((x.1,x.2.1,(),x.2.2.1,(↑(List.length x.2.2.1):Int),0,()),x.2.2.2)
 bif (kl4 w0)then
 bif (tl4 w0)then
 some (yl4 w0).1
 else
 some (((xl4 w0).1.1,true,()))
 else
 none
 else
 none
 else
 none
theorem f7o (k61 g61 k195 g195 k196 g196 k197 g197 kl4 xl4 tl4 yl4 kl7 xl7 tl7 yl7 x) :a0E (e2Y k61 g61 k195 g195 k196 g196 k197 g197 kl4 xl4 tl4 yl4 kl7 xl7 tl7 yl7) (a0e Tryz.f136) (a1f d4t) (a0V c6R x) []=f7n k61 g61 k195 g195 k196 g196 k197 g197 kl4 xl4 tl4 yl4 kl7 xl7 tl7 yl7 x:=by kernel_rfl
def e2Z (x:Den c6R):Option (Den d4t):=f7n K61 G61 c4C c4D c4E b9I c4F c2a a8t a8v a8u a8w a5r a2r a5s a5t x
def e3a (x:Den c6R):Bool:=(e2Z x).isSome
def e3b (x:Den c6R):Den d4t:=(e2Z x).getD (zero d4t)
theorem e8I:a0q Tryz.prog (136,a0a c6R d4t e3a e3b):=a0s (a0j mixed a0l a0k (.cons c1N (.cons e8r (.cons e8D (.cons e8H .nil))))) (a0O Tryz.func136 rfl rfl rfl (by kernel_rfl) (a0D (l:=[d1x,d1y]) (by kernel_rfl) (.cons (a0r rfl (a0x (sh:=b6j) (shX:=b6k) (shR:=b6l) (fun f v=>d7j K61 G61 c4C c4D c4E b9I c4F c2a a8t a8v a8u a8w a5r a2r a5s a5t f v) b9L (((0,0),()),()) (((0,0),(false,())),()))) (.cons (a0r rfl (a0x (sh:=b6m) (shX:=b6n) (shR:=b6o) (fun f v=>d7i K61 G61 c4C c4D c4E b9I c4F c2a a8t a8v a8u a8w a5r a2r a5s a5t f v) c4G (((0,0),(0,((),([],(0,(0,())))))),(([],([],())),())) (((0,0),(false,())),()))) (.nil))))) fun x=>f7o K61 G61 c4C c4D c4E b9I c4F c2a a8t a8v a8u a8w a5r a2r a5s a5t x
abbrev d7k:Ty:=.cons (.slice (S68)) (.cons (S63) (.nil))
abbrev e0j:Ty:=.cons (.int .i64) (.nil)
abbrev a4W:Type:=((Unit×((List (Den (S68)))×(Int×(Int×Unit))))×((Nat×(Int×Unit))×Unit))
def b6p:ShS:=⟨[(3,.one (.ptr 0 0)),(10,.one (.sl (S68))),(11,.one (.int .i64)),(12,.one (.int .i64))],[(0,.box [.flt .f32,.int .i64])],1,0⟩
abbrev b9M:Type:=(Unit×Unit)
def b6q:ShS:=⟨[],[],0,0⟩
abbrev b9N:Type:=((Int×Unit)×Unit)
def b6r:ShS:=⟨[(4,.one (.int .i64))],[],0,0⟩
noncomputable def e8J (k92 g92 k135 g135 kl4 xl4 tl4 yl4) :Env:=a0t tab eqs [(92,a0a A92 R92 k92 g92),(135,a0a b5X c6L k135 g135)] 22 [.tmp 4] [] [] [(4,a1U [3,10,11,12] [] 0 [] [] b6p b6q b6r kl4 tl4 xl4 yl4)] [] []
noncomputable def d1A:Code:=(a0u (a0e Tryz.f198)).getD 0 .skip
def b9O (k92:KA A92) (g92:GA A92 R92) (k135:KA b5X) (g135:GA b5X c6L) (f:a4W->Option (b9M⊕b9N)) (v:a4W):Option (b9M⊕b9N):=
 bif (decide (v.1.2.2.2.1<v.1.2.2.1))then
 bif (decide (0<=v.1.2.2.2.1)&&decide (v.1.2.2.2.1<(↑(List.length v.1.2.1):Int)))then
 let v0:=(List.getD v.1.2.1 (Int.toNat v.1.2.2.2.1) (zero S68))
 bif (k135 (v0,v.2))then
 bif (g135 (v0,v.2)).1 then
 some (Sum.inr ((v.1.2.2.2,())))
 else
 f ((((),v.1.2.1,v.1.2.2.1,(IntKind.wrap .i64 (v.1.2.2.2.1+1)),()),v.2))
 else
 none
 else
 none
 else
 some (Sum.inl (((),())))
theorem d7l (k92 g92 k135 g135 kl4 xl4 tl4 yl4 f v) :EBk (e8J k92 g92 k135 g135 kl4 xl4 tl4 yl4) d1A (a0B [3,10,11,12] [] 0 [] [] (atS b6p f) (a5H b6q b6r)) (mkS b6p v)=b9O k92 g92 k135 g135 f v:=by kernel_rfl
def d1B (v:a4W):Nat:=v.1.2.1.length+v.1.2.2.1.natAbs+v.1.2.2.2.1.natAbs+v.2.1.2.1.natAbs+1000
def b9P (v:a4W):Option (b9M⊕b9N):=a1u (b9O K92 G92 c6M c6N) (d1B v) v
def b6s (v:a4W):Bool:=(b9P v).isSome
def b6t (v:a4W):Bool:=isR (b9P v)
def c2b (v:a4W):b9M:=xOf ((),()) (b9P v)
def b6u (v:a4W):b9N:=yOf ((0,()),()) (b9P v)
def f7p (k92:KA A92) (g92:GA A92 R92) (k135:KA b5X) (g135:GA b5X c6L) (kl4:a4W->Bool) (xl4:a4W->b9M) (tl4:a4W->Bool) (yl4:a4W->b9N) (x:Den d7k):Option (Den e0j):=
 bif (k92 (x.1,()))then
 bif (!(g92 (x.1,())).1)then
 some ((-1,()))
 else
 let w0:=(((),x.1,(↑(List.length x.1):Int),0,()),x.2)
 bif (kl4 w0)then
 bif (tl4 w0)then
 some (yl4 w0).1
 else
 some ((-1,()))
 else
 none
 else
 none
theorem f7q (k92 g92 k135 g135 kl4 xl4 tl4 yl4 x) :a0E (e8J k92 g92 k135 g135 kl4 xl4 tl4 yl4) (a0e Tryz.f198) (a1f e0j) (a0V d7k x) []=f7p k92 g92 k135 g135 kl4 xl4 tl4 yl4 x:=by kernel_rfl
def f2c (x:Den d7k):Option (Den e0j):=f7p K92 G92 c6M c6N b6s c2b b6t b6u x
def e3c (x:Den d7k):Bool:=(f2c x).isSome
def e3d (x:Den d7k):Den e0j:=(f2c x).getD (zero e0j)
theorem e8K:a0q Tryz.prog (198,a0a d7k e0j e3c e3d):=a0s (a0j mixed a0l a0k (.cons e2D (.cons e0b .nil))) (a0O Tryz.func198 rfl rfl rfl (by kernel_rfl) (a0D (l:=[d1A]) (by kernel_rfl) (.cons (a0r rfl (a0x (sh:=b6p) (shX:=b6q) (shR:=b6r) (fun f v=>d7l K92 G92 c6M c6N b6s c2b b6t b6u f v) d1B ((),()) ((0,()),()))) (.nil)))) fun x=>f7q K92 G92 c6M c6N b6s c2b b6t b6u x
abbrev c6S:Ty:=.cons (.slice (S68)) (.cons (.int .i64) (.cons (S63) (.nil)))
abbrev d1C:Ty:=.cons (.int .i64) (.nil)
noncomputable def f7r (k92 g92 k44 g44 k20 g20 k198 g198) :Env:=a0t tab eqs [(92,a0a A92 R92 k92 g92),(44,a0a A44 R44 k44 g44),(20,a0a A20 R20 k20 g20),(198,a0a d7k e0j k198 g198)] 27 [.tmp 6] [] [] [] [] []
def f7s (k92:KA A92) (g92:GA A92 R92) (k44:KA A44) (g44:GA A44 R44) (k20:KA A20) (g20:GA A20 R20) (k198:KA d7k) (g198:GA d7k e0j) (x:Den c6S):Option (Den d1C):=
 bif (k92 (x.1,()))then
 bif (!(g92 (x.1,())).1)then
 some ((-1,()))
 else
 let v2:=(IntKind.wrap .i64 ((↑(List.length x.1):Int)-1))
 bif (k44 (x.2.1,0,v2,()))then
 bif (g44 (x.2.1,0,v2,())).1 then
 bif (decide (0<=x.2.1)&&decide (x.2.1<(↑(List.length x.1):Int)))then
 let v5:=(List.getD x.1 (Int.toNat x.2.1) (zero S68))
 bif (k20 (v5,x.2.2))then
 bif (g20 (v5,x.2.2)).1 then
 some ((x.2.1,()))
 else
 bif (k198 (x.1,x.2.2))then
 some (g198 (x.1,x.2.2))
 else
 none
 else
 none
 else
 none
 else
 bif (k198 (x.1,x.2.2))then
 some (g198 (x.1,x.2.2))
 else
 none
 else
 none
 else
 none
theorem f7t (k92 g92 k44 g44 k20 g20 k198 g198 x) :a0E (f7r k92 g92 k44 g44 k20 g20 k198 g198) (a0e Tryz.f137) (a1f d1C) (a0V c6S x) []=f7s k92 g92 k44 g44 k20 g20 k198 g198 x:=by kernel_rfl
def f2d (x:Den c6S):Option (Den d1C):=f7s K92 G92 K44 G44 K20 G20 e3c e3d x
def c2c (x:Den c6S):Bool:=(f2d x).isSome
def c2d (x:Den c6S):Den d1C:=(f2d x).getD (zero d1C)
theorem e8L:a0q Tryz.prog (137,a0a c6S d1C c2c c2d):=a0s (a0j mixed a0l a0k (.cons e2D (.cons a6H (.cons e8c (.cons e8K .nil))))) (a0O Tryz.func137 rfl rfl rfl (by kernel_rfl) (a0m (by kernel_rfl))) fun x=>f7t K92 G92 K44 G44 K20 G20 e3c e3d x
abbrev d7m:Ty:=.cons (S27) (.nil)
abbrev e0k:Ty:=.cons (S27) (.nil)
abbrev a8X:Type:=((Unit×(Unit×((List (Den (.slice (.flt .f32))))×(Int×(Int×Unit)))))×((Unit×(Unit×(Unit×Unit)))×(((List (Den (.flt .f32)))×((List (Den (.int .i64)))×(Unit×Unit)))×((List (Den (.slice (.flt .f32))))×Unit))))
def b6v:ShS:=⟨[(2,.one (.ptr 0 0)),(3,.one (.ptr 1 0)),(14,.one (.sl (.slice (.flt .f32)))),(15,.one (.int .i64)),(16,.one (.int .i64))],[(0,.box [.nil (.flt .f32),.nil (.int .i64),.nil (.slice (.flt .f32))]),(1,.box [.sl (.flt .f32),.sl (.int .i64),.ref (.slice (.flt .f32)) 2]),(2,.arr (.slice (.flt .f32)))],3,0⟩
abbrev b9Q:Type:=((Unit×(Unit×Unit))×((Unit×(Unit×(Unit×Unit)))×(((List (Den (.flt .f32)))×((List (Den (.int .i64)))×(Unit×Unit)))×((List (Den (.slice (.flt .f32))))×Unit))))
def b6w:ShS:=⟨[(2,.one (.ptr 0 0)),(3,.one (.ptr 1 0))],[(0,.box [.nil (.flt .f32),.nil (.int .i64),.nil (.slice (.flt .f32))]),(1,.box [.sl (.flt .f32),.sl (.int .i64),.ref (.slice (.flt .f32)) 2]),(2,.arr (.slice (.flt .f32)))],3,0⟩
noncomputable def e8M (k199 g199 k200 g200 kl3 xl3) :Env:=a0t tab eqs [(199,a0a d3I e1K k199 g199),(200,a0a c6j d5p k200 g200)] 29 [.cell 2 28] [] [] [(3,a1X [2,3,14,15,16] [.boxNil 3 2] 0 [2,3] [] b6v b6w kl3 xl3)] [] [.frzBox 2]
noncomputable def d1D:Code:=(a0u (a0e Tryz.f147)).getD 0 .skip
def c4H (k199:KA d3I) (g199:GA d3I e1K) (k200:KA c6j) (g200:GA c6j d5p) (f:a8X->Option (b9Q)) (v:a8X):Option (b9Q):=
 bif (decide (v.1.2.2.2.2.1<v.1.2.2.2.1))then
 bif (decide (0<=v.1.2.2.2.2.1)&&decide (v.1.2.2.2.2.1<(↑(List.length v.1.2.2.1):Int)))then
 let w0:=(zero (Ty.slice (Ty.flt .f32)))
 let v0:=(List.getD v.1.2.2.1 (Int.toNat v.1.2.2.2.2.1) w0)
 bif (k199 (v0,()))then
 let v3:=(List.set (List.replicate 1 w0) 0 (g199 (v0,())).1)
 bif (a0F (List.length v.2.2.2.1+List.length v3))then
 f ((((),(),v.1.2.2.1,v.1.2.2.2.1,(IntKind.wrap .i64 (v.1.2.2.2.2.1+1)),()),((),(),(),()),(v.2.2.1.1,v.2.2.1.2.1,(),()),(v.2.2.2.1++v3),()))
 else
 none
 else
 none
 else
 none
 else
 some ((((),(),()),((),(),(),()),(v.2.2.1.1,v.2.2.1.2.1,(),()),v.2.2.2))
theorem d7n (k199 g199 k200 g200 kl3 xl3 f v) :EBk (e8M k199 g199 k200 g200 kl3 xl3) d1D (a0B [2,3,14,15,16] [.boxNil 3 2] 0 [2,3] [] (atS b6v f) (a5U b6w)) (mkS b6v v)=c4H k199 g199 k200 g200 f v:=by kernel_rfl
def c4I (v:a8X):Nat:=v.1.2.2.1.length+v.1.2.2.2.1.natAbs+v.1.2.2.2.2.1.natAbs+v.2.2.1.1.length+v.2.2.1.2.1.length+v.2.2.2.1.length+1000
def d1E (v:a8X):Option (b9Q):=a1u (c4H d8M d8N d3J d3K) (c4I v) v
def b6x (v:a8X):Bool:=(d1E v).isSome
def b6y (v:a8X):b9Q:=(d1E v).getD (((),((),())),(((),((),((),()))),(([],([],((),()))),([],()))))
def f7u (k199:KA d3I) (g199:GA d3I e1K) (k200:KA c6j) (g200:GA c6j d5p) (kl3:a8X->Bool) (xl3:a8X->b9Q) (x:Den d7m):Option (Den e0k):=
 bif (k199 (x.1.1,()))then
 bif (k200 (x.1.2.1,()))then
 let v2:=(g199 (x.1.1,()))
 let v3:=(g200 (x.1.2.1,()))
 let w0:=(((),(),x.1.2.2.1,(↑(List.length x.1.2.2.1):Int),0,()),((),(),(),()),(v2.1,v3.1,(),()),[],())
 bif (kl3 w0)then
 let v5:=(xl3 w0)
 some (((v5.2.2.1.1,v5.2.2.1.2.1,v5.2.2.2),()))
 else
 none
 else
 none
 else
 none
theorem f7v (k199 g199 k200 g200 kl3 xl3 x) :a0E (e8M k199 g199 k200 g200 kl3 xl3) (a0e Tryz.f147) (a1f e0k) (a0V d7m x) []=f7u k199 g199 k200 g200 kl3 xl3 x:=by kernel_rfl
def f2e (x:Den d7m):Option (Den e0k):=f7u d8M d8N d3J d3K b6x b6y x
def f2f (x:Den d7m):Bool:=(f2e x).isSome
def f2g (x:Den d7m):Den e0k:=(f2e x).getD (zero e0k)
theorem e8N:a0q Tryz.prog (147,a0a d7m e0k f2f f2g):=a0s (a0j mixed a0l a0k (.cons e6j (.cons d8O .nil))) (a0O Tryz.func147 rfl rfl rfl (by kernel_rfl) (a0D (l:=[d1D]) (by kernel_rfl) (.cons (a0r rfl (a0y (sh:=b6v) (shX:=b6w) (fun f v=>d7n d8M d8N d3J d3K b6x b6y f v) c4I (((),((),())),(((),((),((),()))),(([],([],((),()))),([],())))))) (.nil)))) fun x=>f7v d8M d8N d3J d3K b6x b6y x
abbrev d7o:Ty:=.cons (S30) (.nil)
abbrev e0l:Ty:=.cons (S30) (.nil)
noncomputable def f7w (k201 g201 k200 g200) :Env:=a0t tab eqs [(201,a0a d8P e5d k201 g201),(200,a0a c6j d5p k200 g200)] 10 [.cell 2 31] [] [] [] [] []
def f7x (k201:KA d8P) (g201:GA d8P e5d) (k200:KA c6j) (g200:GA c6j d5p) (x:Den d7o):Option (Den e0l):=
 bif (k201 (x.1.1,()))then
 bif (k200 x.1.2)then
 some ((((g201 (x.1.1,())).1,(g200 x.1.2)),()))
 else
 none
 else
 none
theorem f7y (k201 g201 k200 g200 x) :a0E (f7w k201 g201 k200 g200) (a0e Tryz.f148) (a1f e0l) (a0V d7o x) []=f7x k201 g201 k200 g200 x:=by kernel_rfl
def f2h (x:Den d7o):Option (Den e0l):=f7x f0o f0p d3J d3K x
def f2j (x:Den d7o):Bool:=(f2h x).isSome
def f2k (x:Den d7o):Den e0l:=(f2h x).getD (zero e0l)
theorem e8O:a0q Tryz.prog (148,a0a d7o e0l f2j f2k):=a0s (a0j mixed a0l a0k (.cons e6o (.cons d8O .nil))) (a0O Tryz.func148 rfl rfl rfl (by kernel_rfl) (a0m (by kernel_rfl))) fun x=>f7y f0o f0p d3J d3K x
abbrev d7p:Ty:=.cons (S38) (.nil)
abbrev e0m:Ty:=.cons (S38) (.nil)
noncomputable def f7z (k202 g202) :Env:=a0t tab eqs [(202,a0a d8R e5f k202 g202)] 8 [.cell 2 39] [] [] [] [] []
def f7A (k202:KA d8R) (g202:GA d8R e5f) (x:Den d7p):Option (Den e0m):=
 bif (k202 (x.1.2.1,()))then
 some (((x.1.1,(g202 (x.1.2.1,())).1,x.1.2.2),()))
 else
 none
theorem f7B (k202 g202 x) :a0E (f7z k202 g202) (a0e Tryz.f150) (a1f e0m) (a0V d7p x) []=f7A k202 g202 x:=by kernel_rfl
def f2l (x:Den d7p):Option (Den e0m):=f7A f0s f0t x
def f2m (x:Den d7p):Bool:=(f2l x).isSome
def f2n (x:Den d7p):Den e0m:=(f2l x).getD (zero e0m)
theorem e8P:a0q Tryz.prog (150,a0a d7p e0m f2m f2n):=a0s (a0j mixed a0l a0k (.cons e6u .nil)) (a0O Tryz.func150 rfl rfl rfl (by kernel_rfl) (a0m (by kernel_rfl))) fun x=>f7B f0s f0t x
abbrev A84:Ty:=.cons (S40) (.nil)
abbrev R84:Ty:=.cons (S40) (.nil)
noncomputable def g0U (k147 g147 k148 g148 k149 g149 k150 g150) :Env:=a0t tab eqs [(147,a0a d7m e0k k147 g147),(148,a0a d7o e0l k148 g148),(149,a0a d8Q e5e k149 g149),(150,a0a d7p e0m k150 g150)] 16 [.cell 2 41] [] [] [] [] []
def r84 (k147:KA d7m) (g147:GA d7m e0k) (k148:KA d7o) (g148:GA d7o e0l) (k149:KA d8Q) (g149:GA d8Q e5e) (k150:KA d7p) (g150:GA d7p e0m) (x:Den A84):Option (Den R84):=
 bif (k147 (x.1.1,()))then
 bif (k148 (x.1.2.1,()))then
 bif (k149 (x.1.2.2.1,()))then
 bif (k150 x.1.2.2.2)then
 some ((((g147 (x.1.1,())).1,(g148 (x.1.2.1,())).1,(g149 (x.1.2.2.1,())).1,(g150 x.1.2.2.2)),()))
 else
 none
 else
 none
 else
 none
 else
 none
theorem g0V (k147 g147 k148 g148 k149 g149 k150 g150 x) :a0E (g0U k147 g147 k148 g148 k149 g149 k150 g150) (a0e Tryz.f84) (a1f R84) (a0V A84 x) []=r84 k147 g147 k148 g148 k149 g149 k150 g150 x:=by kernel_rfl
def F84 (x:Den A84):Option (Den R84):=r84 f2f f2g f2j f2k f0q f0r f2m f2n x
def K84 (x:Den A84):Bool:=(F84 x).isSome
def G84 (x:Den A84):Den R84:=(F84 x).getD (zero R84)
theorem f7C:a0q Tryz.prog (84,a0a A84 R84 K84 G84):=a0s (a0j mixed a0l a0k (.cons e8N (.cons e8O (.cons e6r (.cons e8P .nil))))) (a0O Tryz.func84 rfl rfl rfl (by kernel_rfl) (a0m (by kernel_rfl))) fun x=>g0V f2f f2g f2j f2k f0q f0r f2m f2n x
abbrev A16:Ty:=.cons (.str) (.nil)
abbrev R16:Ty:=.cons (.slice (.str)) (.cons (.bool) (.nil))
abbrev a9r:Type:=((ByteArray×(Int×Unit))×Unit)
def c4J:ShS:=⟨[(0,.one (.str)),(4,.one (.int .i64))],[],0,0⟩
abbrev d1F:Type:=((ByteArray×Unit)×Unit)
def c2e:ShS:=⟨[(0,.one (.str))],[],0,0⟩
abbrev d1G:Type:=((Unit×(Bool×Unit))×Unit)
def c2f:ShS:=⟨[(2,.one (.nil (.str))),(3,.one (.bool))],[],0,0⟩
abbrev a8Y:Type:=((Unit×((List (Den (.str)))×(Int×(Int×Unit))))×((List (Den (.str)))×Unit))
def b6z:ShS:=⟨[(5,.one (.ref (.str) 0)),(28,.one (.sl (.str))),(29,.one (.int .i64)),(30,.one (.int .i64))],[(0,.arr (.str))],1,0⟩
abbrev b9R:Type:=((Unit×Unit)×((List (Den (.str)))×Unit))
def b6A:ShS:=⟨[(5,.one (.ref (.str) 0))],[(0,.arr (.str))],1,0⟩
noncomputable def f7D (k48 g48 kl4 xl4 tl4 yl4 kl10 xl10) :Env:=a0t tab eqs [(48,a0a A48 R48 k48 g48)] 45 [.tmp 2,.tmp 3] [] [] [(4,a1U [0,4] [] 0 [0] [] c4J c2e c2f kl4 tl4 xl4 yl4),(10,a1X [5,28,29,30] [.nil 5] 2 [5] [] b6z b6A kl10 xl10)] [] [.frz 2]
noncomputable def e0n:Code:=(a0u (a0e Tryz.f16)).getD 0 .skip
noncomputable def d1H:Code:=(a0u (a0e Tryz.f16)).getD 1 .skip
def c4K (k48:KA A48) (g48:GA A48 R48) (f:a8Y->Option (b9R)) (v:a8Y):Option (b9R):=
 bif (decide (v.1.2.2.2.1<v.1.2.2.1))then
 bif (decide (0<=v.1.2.2.2.1)&&decide (v.1.2.2.2.1<(↑(List.length v.1.2.1):Int)))then
 let v0:=(List.getD v.1.2.1 (Int.toNat v.1.2.2.2.1) (zero Ty.str))
 bif (!bstr v0 { data:=#[] })then
 let v1:=(List.set (List.replicate 1 (zero Ty.str)) 0 v0)
 bif (a0F (List.length v.2.1+List.length v1))then
 f ((((),v.1.2.1,v.1.2.2.1,(IntKind.wrap .i64 (v.1.2.2.2.1+1)),()),(v.2.1++v1),()))
 else
 none
 else
 f ((((),v.1.2.1,v.1.2.2.1,(IntKind.wrap .i64 (v.1.2.2.2.1+1)),()),v.2))
 else
 none
 else
 some ((((),()),v.2))
theorem d7q (k48 g48 kl4 xl4 tl4 yl4 kl10 xl10 f v) :EBk (f7D k48 g48 kl4 xl4 tl4 yl4 kl10 xl10) d1H (a0B [5,28,29,30] [.nil 5] 2 [5] [] (atS b6z f) (a5U b6A)) (mkS b6z v)=c4K k48 g48 f v:=by kernel_rfl
def c4L (v:a8Y):Nat:=v.1.2.1.length+v.1.2.2.1.natAbs+v.1.2.2.2.1.natAbs+v.2.1.length+1000
def d1I (v:a8Y):Option (b9R):=a1u (c4K K48 G48) (c4L v) v
def b1c (v:a8Y):Bool:=(d1I v).isSome
def b1d (v:a8Y):b9R:=(d1I v).getD (((),()),([],()))
def d1J (k48:KA A48) (g48:GA A48 R48) (f:a9r->Option (d1F⊕d1G)) (v:a9r):Option (d1F⊕d1G):=
 let w0:=(v.1.2.1<(↑(ByteArray.size v.1.1):Int))
 bif (decide w0)then
 let w1:=(decide (0<=v.1.2.1)&&decide w0)
 bif w1 then
 bif (decide (a1z v.1.1 v.1.2.1<32))then
 some (Sum.inr ((((),false,()),())))
 else
 bif w1 then
 bif (decide (a1z v.1.1 v.1.2.1>126))then
 some (Sum.inr ((((),false,()),())))
 else
 f (((v.1.1,(IntKind.wrap .i64 (v.1.2.1+1)),()),()))
 else
 none
 else
 none
 else
 some (Sum.inl (((v.1.1,()),())))
theorem e3e (k48 g48 kl4 xl4 tl4 yl4 kl10 xl10 f v) :EBk (f7D k48 g48 kl4 xl4 tl4 yl4 kl10 xl10) e0n (a0B [0,4] [] 0 [0] [] (atS c4J f) (a5H c2e c2f)) (mkS c4J v)=d1J k48 g48 f v:=by kernel_rfl
def e3f (v:a9r):Nat:=v.1.1.size+v.1.2.1.natAbs+1000
def d1K (v:a9r):Option (d1F⊕d1G):=a1u (d1J K48 G48) (e3f v) v
def b9S (v:a9r):Bool:=(d1K v).isSome
def b9T (v:a9r):Bool:=isR (d1K v)
def b9U (v:a9r):d1F:=xOf ((ByteArray.empty,()),()) (d1K v)
def b9V (v:a9r):d1G:=yOf (((),(false,())),()) (d1K v)
def r16 (k48:KA A48) (g48:GA A48 R48) (kl4:a9r->Bool) (xl4:a9r->d1F) (tl4:a9r->Bool) (yl4:a9r->d1G) (kl10:a8Y->Bool) (xl10:a8Y->b9R) (x:Den A16):Option (Den R16):=
 bif (decide ((↑(ByteArray.size x.1):Int)>600))then
 some (([],false,()))
 else
 bif (kl4 ((x.1,0,()),()))then
 bif (tl4 ((x.1,0,()),()))then
 some (([],(yl4 ((x.1,0,()),())).1.2))
 else
 let v2:=(xl4 ((x.1,0,()),()))
 let w1:=(v2.1.1,{ data:=#[32] },())
 bif (k48 w1)then
 let v4:=(g48 w1)
 let w0:=(((),v4.1,(↑(List.length v4.1):Int),0,()),[],())
 bif (kl10 w0)then
 let v6:=(xl10 w0)
 bif (decide ((↑(List.length v6.2.1):Int)>24))then
 some (([],false,()))
 else
 some ((v6.2.1,true,()))
 else
 none
 else
 none
 else
 none
theorem g0W (k48 g48 kl4 xl4 tl4 yl4 kl10 xl10 x) :a0E (f7D k48 g48 kl4 xl4 tl4 yl4 kl10 xl10) (a0e Tryz.f16) (a1f R16) (a0V A16 x) []=r16 k48 g48 kl4 xl4 tl4 yl4 kl10 xl10 x:=by kernel_rfl
def F16 (x:Den A16):Option (Den R16):=r16 K48 G48 b9S b9U b9T b9V b1c b1d x
def K16 (x:Den A16):Bool:=(F16 x).isSome
def G16 (x:Den A16):Den R16:=(F16 x).getD (zero R16)
theorem e8Q:a0q Tryz.prog (16,a0a A16 R16 K16 G16):=a0s (a0j mixed a0l a0k (.cons f2S .nil)) (a0O Tryz.func16 rfl rfl rfl (by kernel_rfl) (a0D (l:=[e0n,d1H]) (by kernel_rfl) (.cons (a0r rfl (a0x (sh:=c4J) (shX:=c2e) (shR:=c2f) (fun f v=>e3e K48 G48 b9S b9U b9T b9V b1c b1d f v) e3f ((ByteArray.empty,()),()) (((),(false,())),()))) (.cons (a0r rfl (a0y (sh:=b6z) (shX:=b6A) (fun f v=>d7q K48 G48 b9S b9U b9T b9V b1c b1d f v) c4L (((),()),([],())))) (.nil))))) fun x=>g0W K48 G48 b9S b9U b9T b9V b1c b1d x
abbrev I36:Sg:=⟨[.val (S46)],[]⟩
abbrev O36:Sg:=⟨[.mix [.sl (.flt .f32),.sl (.int .i64),.sl (.slice (.flt .f32)),.sl (a0S),.sl (.int .i64),.sl (S68),.int .i64,.int .i64,.int .i64,.int .i64,.sl (a1E),.int .i64,.int .i64,.int .i64,.int .i64,.int .i64,.cpx .f64,.int .i64,.cpx .f32,.int .i64,.ref (S97) 0,.ref (.str) 1]],[.arr (S97),.arr (.str)]⟩
noncomputable def g0X (k84 g84 k85 g85 k86 g86) :Env:=a0t tab eqs [(84,a0a A84 R84 k84 g84),(85,a0n false I85 O85 k85 g85),(86,a0n false I86 O86 k86 g86)] 16 [.cell 2 47] [] [] [] [] []
def r36 (k84:KA A84) (g84:GA A84 R84) (k85:KI I85) (g85:GI I85 O85) (k86:KI I86) (g86:GI I86 O86) (x:I36.den):Option (O36.den):=
 bif (k84 (x.1.1.1,()))then
 let w0:=((x.1.1.2.2.2.2.2.2.1,()),())
 bif (k85 w0)then
 bif (k86 (x.1.1.2.2.2.2.2.2.2,()))then
 let v3:=(g84 (x.1.1.1,()))
 some ((((v3.1.1.1,v3.1.1.2.1,v3.1.1.2.2.1,v3.1.2.1.1,v3.1.2.1.2.1,v3.1.2.2.1,v3.1.2.2.2.1.1.1.1,v3.1.2.2.2.1.1.1.2.1,v3.1.2.2.2.1.1.2.1.1,v3.1.2.2.2.1.1.2.1.2.1,v3.1.2.2.2.1.2.1,v3.1.2.2.2.1.2.2.1.1.1,v3.1.2.2.2.1.2.2.1.1.2.1,v3.1.2.2.2.1.2.2.1.2.1.1,v3.1.2.2.2.1.2.2.1.2.1.2.1,x.1.1.2.1,x.1.1.2.2.1,x.1.1.2.2.2.1,x.1.1.2.2.2.2.1,x.1.1.2.2.2.2.2.1,(),(),()),()),(g85 w0).2.1,(g86 (x.1.1.2.2.2.2.2.2.2,())).2))
 else
 none
 else
 none
 else
 none
theorem g0Y (k84 g84 k85 g85 k86 g86 x) :a1N (g0X k84 g84 k85 g85 k86 g86) (a0e Tryz.f36) I36 O36 x=r36 k84 g84 k85 g85 k86 g86 x:=by kernel_rfl
def F36 (x:I36.den):Option (O36.den):=r36 K84 G84 K85 G85 K86 G86 x
def K36 (x:I36.den):Bool:=(F36 x).isSome
def G36 (x:I36.den):O36.den:=(F36 x).getD (a1d O36)
theorem e8R:a0q Tryz.prog (36,a0n false I36 O36 K36 G36):=a1k (a0j mixed a0l a0k (.cons f7C (.cons f3g (.cons f3k .nil)))) (a0O Tryz.func36 rfl rfl rfl (by kernel_rfl) (a0m (by kernel_rfl))) false fun x=>g0Y K84 G84 K85 G85 K86 G86 x
theorem b9W (x:Den A44):F44 x=some (decide (x.2.1<=x.1)&&decide (x.1<=x.2.2.1),()):=by
 unfold F44 r44
 by_cases h:x.2.1<=x.1<;>simp[h]
theorem c4M (x:Den A51):F51 x=some (decide (x.2.1<=x.1)&&decide (x.1<=x.2.2.1),()):=b9W x
def b1e (s:Den S68) (m:Den S63):Bool:=(fgt .f32 m.1 s.2.1||feq .f32 m.1 s.2.1)&&(flt .f32 m.1 s.2.2.1||feq .f32 m.1 s.2.2.1)&&(decide (s.2.2.2.1<=m.2.1)&&decide (m.2.1<=s.2.2.2.2.1))
theorem c2g (x:Den b5X):f1G x=some (b1e x.1 x.2.1,()):=by
 unfold f1G f6B b1e
 simp only[K44,G44,b9W,Option.isSome_some,Option.getD_some]
 cases (fgt .f32 x.2.1.1 x.1.2.1||feq .f32 x.2.1.1 x.1.2.1)<;>cases (flt .f32 x.2.1.1 x.1.2.2.1||feq .f32 x.2.1.1 x.1.2.2.1)<;>simp
def I64 (n:Int):Prop := -9223372036854775808<=n /\ n<=9223372036854775807
def a3q (s:Den S68) (m:Den S63):Bool:=
 (fgt .f32 m.1 (a0i .sub .f32 s.2.1 1065353216)||feq .f32 m.1 (a0i .sub .f32 s.2.1 1065353216))&&(flt .f32 m.1 (a0i .add .f32 s.2.2.1 1065353216)||feq .f32 m.1 (a0i .add .f32 s.2.2.1 1065353216)) &&
  (decide (s.2.2.2.1<=m.2.1)||decide (s.2.2.2.1-m.2.1<=5))&&(decide (m.2.1<=s.2.2.2.2.1)||decide (m.2.1-s.2.2.2.2.1<=5))
theorem c4N {a b:Int} (ha:I64 a) (hb:I64 b) (h:¬b<=a):decide (IntKind.u64.wrap (IntKind.u64.wrap b-IntKind.u64.wrap a)<=5)=decide (b-a<=5):=by
 unfold I64 at ha hb
 rw[IntKind.wrap_u64,IntKind.wrap_u64,IntKind.wrap_u64,Bool.eq_iff_iff]
 simp only[decide_eq_true_eq]
 omega
theorem dlt (a b:Int):decide (a<b)=!decide (b<=a):=by by_cases h:b<=a<;>simp[h]<;>omega
theorem e0o (x:Den A20) (h1:I64 x.1.2.2.2.1) (h2:I64 x.1.2.2.2.2.1) (h3:I64 x.2.1.2.1):F20 x=some (a3q x.1 x.2.1,()):=by
 unfold F20 r20 a3q
 simp only[ge_iff_le]
 generalize (fgt .f32 x.2.1.1 (a0i .sub .f32 x.1.2.1 1065353216)||feq .f32 x.2.1.1 (a0i .sub .f32 x.1.2.1 1065353216))=p
 generalize (flt .f32 x.2.1.1 (a0i .add .f32 x.1.2.2.1 1065353216)||feq .f32 x.2.1.1 (a0i .add .f32 x.1.2.2.1 1065353216))=q
 by_cases ha:x.1.2.2.2.1<=x.2.1.2.1<;>by_cases hb:x.2.1.2.1<=x.1.2.2.2.2.1
 ·simp only[ha,hb,decide_true];cases p<;>cases q<;>rfl
 ·simp only[ha,hb,decide_true,decide_false,c4N h2 h3 hb];cases p<;>cases q<;>rfl
 ·simp only[ha,hb,decide_true,decide_false,c4N h3 h1 ha];cases p<;>cases q<;>cases decide (x.1.2.2.2.1-x.2.1.2.1<=5)<;>rfl
 ·simp only[ha,hb,decide_false,c4N h3 h1 ha,c4N h2 h3 hb];cases p<;>cases q<;>cases decide (x.1.2.2.2.1-x.2.1.2.1<=5)<;>rfl
theorem a7w (c x:Bool):(bif c then some (x,())else some (false,()))=some (c&&x,()):=by cases c<;>rfl
theorem d1L (a:ByteArray):a3K a a=true:=by simp[a3K]
def a7x (s:ByteArray):Bool:=a0w (fun i=>decide (97<=a1z s i)&&decide (a1z s i<=122)) 0 s.size
def f7E:ByteArray:={ data:=#[110,111,110,101] }
def c2h (s:ByteArray):Bool:=a7x s&&((decide (1<=(s.size:Int))&&decide ((s.size:Int)<=16))&&!bstr s f7E)
theorem dgt (a b:Int):decide (a>b)=!decide (a<=b):=by by_cases h:a<=b<;>simp[h]<;>omega
theorem e3g (s:ByteArray) (h:s.size<=9223372036854775807):f0C (s,())=some (c2h s,()):=by
 have hl:b8q ((s,(0:Int),()),())=some (bif a7x s then .inl ((s,()),())else .inr ((false,()),())):=by
  refine(a0X (q:=b8p K51 G51) (fun k=>((s,(k:Int),()),())) s.size (fun i=>decide (97<=a1z s i)&&decide (a1z s i<=122)) _ _ ?_ ?_ _ ?_:_)
  ·intro k f hk
   unfold b8p
   simp only[a4w k (by omega),dlt (a1z s k),dgt (a1z s k)]
   have e1:decide ((k:Int)<(s.size:Int))=true:=by simpa using hk
   have e2:decide (0<=(k:Int))=true:=by simp
   simp only[e1,e2,Bool.and_self,cond_true]
   cases decide (97<=a1z s k)<;>cases decide (a1z s k<=122)<;>rfl
  ·intro f
   simp[b8p]
  ·simp only[c9m];omega
 unfold f0C f3z c2h
 simp only[b4a,b4b,b4c,b4d,hl,Option.isSome_some,cond_true,K51,G51,c4M,Option.getD_some]
 cases a7x s
 ·rfl
 ·simp only[cond_true,isR,xOf,cond_false,Bool.true_and]
  exact a7w _ _
theorem e3h (s:ByteArray) (h:s.size<=9223372036854775807):f0Y (s,())=some (c2h s,()):=by
 have hl:b9i ((s,(0:Int),()),())=some (bif a7x s then .inl ((s,()),())else .inr ((false,()),())):=by
  refine(a0X (q:=b9h K44 G44) (fun k=>((s,(k:Int),()),())) s.size (fun i=>decide (97<=a1z s i)&&decide (a1z s i<=122)) _ _ ?_ ?_ _ ?_:_)
  ·intro k f hk
   unfold b9h
   simp only[a4w k (by omega),dlt (a1z s k),dgt (a1z s k)]
   have e1:decide ((k:Int)<(s.size:Int))=true:=by simpa using hk
   have e2:decide (0<=(k:Int))=true:=by simp
   simp only[e1,e2,Bool.and_self,cond_true]
   cases decide (97<=a1z s k)<;>cases decide (a1z s k<=122)<;>rfl
  ·intro f
   simp[b9h]
  ·simp only[d0v];omega
 unfold f0Y f4S c2h
 simp only[b5m,b5n,b5o,b5p,hl,Option.isSome_some,cond_true,K44,G44,b9W,Option.getD_some]
 cases a7x s
 ·rfl
 ·simp only[cond_true,isR,xOf,cond_false,Bool.true_and]
  exact a7w _ _
def at' (l:List (Den S68)) (i:Nat):Den S68:=l.getD i (zero S68)
theorem d1M (l:List (Den S68)) (s:ByteArray) (h:l.length<=9223372036854775807):e7w (l,s,())=some (match a0M (fun i=>a3K (at' l i).1 s) 0 l.length with|some j=>(j:Int)|none=>-1,()):=by
 have hl:b9m ((s,l,(l.length:Int),(0:Int),()),())=some (match a0M (fun i=>a3K (at' l i).1 s) 0 l.length with|some j => .inr (((j:Int),()),())|none => .inl ((),())):=by
  refine(a7m (q:=b9l) (fun k=>((s,l,(l.length:Int),(k:Int),()),())) l.length (fun i=>a3K (at' l i).1 s) _ (fun j => .inr (((j:Int),()),())) ?_ ?_ _ ?_:_)
  ·intro k f hk
   unfold b9l
   have e1:decide ((k:Int)<(l.length:Int))=true:=by simpa using hk
   have e2:decide (0<=(k:Int))=true:=by simp
   simp only[a4w k (by omega),e1,e2,Bool.and_self,cond_true,Int.toNat_natCast]
   rfl
  ·intro f
   simp[b9l]
  ·simp only[d0x];omega
 unfold e7w f4U
 simp only[b5t,b5u,b5v,hl,Option.isSome_some,cond_true]
 cases a0M (fun i=>a3K (at' l i).1 s) 0 l.length<;>rfl
def a3b (s:Den S68):Bool:=c2h s.1&&((fgt .f32 s.2.1 0||feq .f32 s.2.1 0)&&(fgt .f32 s.2.2.1 s.2.1&&((flt .f32 s.2.2.1 1128792064||feq .f32 s.2.2.1 1128792064) &&
 ((decide (0<=s.2.2.2.1)&&decide (s.2.2.2.1<=180))&&(decide (s.2.2.2.1<=s.2.2.2.2.1)&&decide (s.2.2.2.2.1<=180))))))
def a4a (l:List (Den S68)) (i:Nat):Bool:=a0w (fun j=>!bstr (at' l j).1 (at' l i).1) 0 i
def a5u (l:List (Den S68)):Bool:=a0w (fun i=>a3b (at' l i)&&a4a l i) 0 l.length&&decide ((l.length:Int)<=12)
structure d1N (l:List (Den S68)):Prop where
 len:l.length<=9223372036854775807
 name:∀i,(at' l i).1.size<=9223372036854775807
 rng:∀i,I64 (at' l i).2.2.2.1 /\ I64 (at' l i).2.2.2.2.1
theorem e8S {l:List (Den S68)} {i:Nat}:at' l i∈l∨at' l i=zero S68:=by
 unfold at'
 rw[List.getD_eq_getElem?_getD]
 cases h:l[i]? with
 |none=>exact .inr rfl
 |some x=>exact .inl (List.mem_of_getElem? h)
theorem c6T {l:List (Den S68)} {i:Nat} (hi:i<l.length):((match a0M (fun j=>a3K (at' l j).1 (at' l i).1) 0 l.length with|some j=>(j:Int)|none=>-1) != (i:Int))=!freshB l i:=by
 have hs:a3K (at' l i).1 (at' l i).1=true:=d1L _
 cases h:a0M (fun j=>a3K (at' l j).1 (at' l i).1) 0 l.length with
 |none=>have:=a2p.1 h i (Nat.zero_le _) (by omega);rw[hs]at this;cases this
 |some j=>
   obtain⟨h1,h2,h3,h4⟩:=a1V h
   by_cases hji:j=i
   ·subst hji
    have:a4a l j=true:=a0I.2 fun k hk1 hk2=>by rw[h4 k (Nat.zero_le _) (by omega)];rfl
    rw[this];simp
   ·have hlt:j<i:=by
     rcases Nat.lt_or_ge j i with h5|h5
     ·exact h5
     ·have:=h4 i (Nat.zero_le _) (by omega);rw[hs]at this;cases this
    have:a4a l i=false:=by
     cases hf:a4a l i with
     |false=>rfl
     |true=>have:=a0I.1 hf j (Nat.zero_le _) (by omega);rw[h3]at this;cases this
    rw[this]
    simp
    omega
theorem d1O (l:List (Den S68)) (h:d1N l):F92 (l,())=some (a5u l,()):=by
 have hl:d0B ((l,l,(l.length:Int),(0:Int),()),())=some (bif a0w (fun i=>a3b (at' l i)&&a4a l i) 0 l.length then .inl ((),())else .inr ((false,()),())):=by
  refine(a0X (q:=d0A e2z e2A c6B c6C K44 G44) (fun k=>((l,l,(l.length:Int),(k:Int),()),())) l.length (fun i=>a3b (at' l i)&&a4a l i) _ _ ?_ ?_ _ ?_:_)
  ·intro k f hk
   unfold d0A a3b
   have e1:decide ((k:Int)<(l.length:Int))=true:=by simpa using hk
   have e2:decide (0<=(k:Int))=true:=by simp
   have hlen:=h.len
   have ha:List.getD l k (zero S68)=at' l k:=rfl
   have hf:=c6T hk
   simp only[a4w k (by omega),e1,e2,Bool.and_self,cond_true,Int.toNat_natCast,ha,e2z,e2A,e3h _ (h.name k),c6B,c6C,d1M l _ h.len,K44,G44,b9W,Option.isSome_some,Option.getD_some,hf]
   generalize at' l k=s
   cases c2h s.1<;>cases a4a l k<;>cases (fgt .f32 s.2.1 0||feq .f32 s.2.1 0)<;>cases fgt .f32 s.2.2.1 s.2.1<;>cases (flt .f32 s.2.2.1 1128792064||feq .f32 s.2.2.1 1128792064) <;>
    cases (decide (0<=s.2.2.2.1)&&decide (s.2.2.2.1<=180))<;>cases (decide (s.2.2.2.1<=s.2.2.2.2.1)&&decide (s.2.2.2.2.1<=180))<;>rfl
  ·intro f
   simp[d0A]
  ·simp only[e2C];omega
 unfold F92 r92 a5u
 simp only[c3Z,c4a,c4b,hl,Option.isSome_some,cond_true,dgt (l.length:Int)]
 cases decide ((l.length:Int)<=12)<;>cases a0w (fun i=>a3b (at' l i)&&a4a l i) 0 l.length<;>rfl
theorem e3i (l:List (Den S68)) (h:d1N l):f0D (l,())=some (a5u l,()):=by
 have hlen:=h.len
 have hin:∀k,k<l.length->b2p ((l,(k:Int),(),(0:Int),()),at' l k,())=some (bif a4a l k then .inl ((l,(k:Int),()),())else .inr ((false,()),())):=by
  intro k hk
  refine(a0X (q:=b8t d3P d3Q K51 G51) (fun j=>((l,(k:Int),(),(j:Int),()),at' l k,())) k (fun j=>!bstr (at' l j).1 (at' l k).1) _ _ ?_ ?_ _ ?_:_)
  ·intro j f hj
   unfold b8t
   have e1:decide ((j:Int)<(k:Int))=true:=by simpa using hj
   have e2:decide (0<=(j:Int))=true:=by simp
   have e3:decide ((j:Int)<(l.length:Int))=true:=by simp;omega
   have ha:List.getD l j (zero S68)=at' l j:=rfl
   simp only[a4w j (by omega),e1,e2,e3,Bool.and_self,cond_true,Int.toNat_natCast,ha]
   cases a3K (at' l j).1 (at' l k).1<;>rfl
  ·intro f
   simp[b8t]
  ·simp only[c9p];omega
 have hl:b8v ((l,(0:Int),()),())=some (bif a0w (fun i=>a3b (at' l i)&&a4a l i) 0 l.length then .inl ((l,()),())else .inr ((false,()),())):=by
  refine(a0X (q:=b8u d3P d3Q K51 G51 a6x a6z a6y a6A) (fun k=>((l,(k:Int),()),())) l.length (fun i=>a3b (at' l i)&&a4a l i) _ _ ?_ ?_ _ ?_:_)
  ·intro k f hk
   have hi:=hin k hk
   unfold b8u a3b
   have e1:decide ((k:Int)<(l.length:Int))=true:=by simpa using hk
   have e2:decide (0<=(k:Int))=true:=by simp
   have ha:List.getD l k (zero S68)=at' l k:=rfl
   simp only[e1,e2,Bool.and_self,cond_true,Int.toNat_natCast,ha,d3P,d3Q,e3g _ (h.name k),K51,G51,c4M,Option.isSome_some,Option.getD_some]
   have hi':b2p ((l,(k:Int),(),(0:Int),()),((at' l k).1,(at' l k).2.1,(at' l k).2.2.1,(at' l k).2.2.2.1,(at' l k).2.2.2.2.1,()),())=_:=hi
   simp only[a6x,a6y,a6z,a6A,hi',Option.isSome_some]
   generalize at' l k=s
   cases c2h s.1<;>cases a4a l k<;>cases (fgt .f32 s.2.1 0||feq .f32 s.2.1 0)<;>cases fgt .f32 s.2.2.1 s.2.1<;>cases (flt .f32 s.2.2.1 1128792064||feq .f32 s.2.2.1 1128792064) <;>
    cases (decide (0<=s.2.2.2.1)&&decide (s.2.2.2.1<=180))<;>cases (decide (s.2.2.2.1<=s.2.2.2.2.1)&&decide (s.2.2.2.2.1<=180))<;>first|rfl|(simp only[cond_true,cond_false,isR,xOf,yOf,Bool.and_true,Bool.not_true,a4w k (by omega)];done)|(simp[isR,xOf,yOf,a4w k (by omega)])
  ·intro f
   simp[b8u]
  ·simp only[c9q];omega
 unfold f0D f3B a5u
 simp only[b0E,b0F,b0G,b0H,hl,Option.isSome_some,cond_true]
 cases a0w (fun i=>a3b (at' l i)&&a4a l i) 0 l.length
 ·rfl
 ·simp only[cond_true,isR,xOf,cond_false,Bool.true_and]
  rfl
def inB (n lo hi:Int):Bool:=decide (lo<=n)&&decide (n<=hi)
theorem a7y (x:Den A51):F51 x=some (inB x.1 x.2.1 x.2.2.1,()):=by
 unfold F51 r51 inB
 exact a7w _ _
theorem a3r (x:Den A44):F44 x=some (inB x.1 x.2.1 x.2.2.1,()):=a7y x
def a2s (p:Den S33):Bool:=inB p.1 (-10000) 10000&&inB p.2.1 (-10000) 10000
theorem c4O (x:Den A98):F98 x=some (a2s x.1,()):=by
 unfold F98 r98 a2s
 simp only[K51,G51,a7y,Option.isSome_some,Option.getD_some,cond_true]
 exact a7w _ _
theorem b9X (x:Den A63):F63 x=some (a2s x.1,()):=by
 unfold F63 r63 a2s
 simp only[K44,G44,a3r,Option.isSome_some,Option.getD_some,cond_true]
 exact a7w _ _
def eqP (p q:Den S33):Bool:=p.1==q.1&&p.2.1==q.2.1
def b1N (l:Den S35):Bool:=a2s l.1&&(a2s l.2.1&&!eqP l.1 l.2.1)
theorem e3j (x:Den c7B):f0G x=some (b1N x.1,()):=by
 unfold f0G f3E b1N
 simp only[K98,G98,c4O,Option.isSome_some,Option.getD_some,cond_true]
 cases a2s x.1.1<;>cases a2s x.1.2.1<;>rfl
theorem e3k (x:Den c7G):f0Z x=some (b1N x.1,()):=by
 unfold f0Z f4X b1N
 simp only[K63,G63,b9X,Option.isSome_some,Option.getD_some,cond_true]
 cases a2s x.1.1<;>cases a2s x.1.2.1<;>rfl
def mk (c:Den S38) (k:Nat):Den a1E:=c.2.1.getD k (zero a1E)
def a2w (c:Den S38) (k:Nat):Den S33:=if k=0 then c.1.1 else(mk c (k-1)).1
def b6B (c:Den S38) (k:Nat):Bool:=a2s (mk c k).1&&!eqP (mk c k).1 (a2w c k)
def b1f (c:Den S38):Bool:=b1N c.1&&(b1N c.2.2.1&&(inB c.2.1.length 1 20&&a0w (b6B c) 0 c.2.1.length))
theorem d1P (c:Den S38) (k:Nat) (h:k<=c.2.1.length) (hl:c.2.1.length<=9223372036854775807):e5i (c,(k:Int),())=some (a2w c k,()):=by
 unfold e5i f3H a2w
 by_cases hk:k=0
 ·subst hk;rfl
 ·have e1:((k:Int)==0)=false:=by simpa using hk
  have e2:IntKind.i64.wrap ((k:Int)-1)=((k-1:Nat):Int):=by rw[w64 (by omega) (by omega)];omega
  have e3:decide (0<=((k-1:Nat):Int))=true:=by simp
  have e4:decide (((k-1:Nat):Int)<(c.2.1.length:Int))=true:=by simp;omega
  simp only[e1,e2,e3,e4,cond_false,Bool.and_self,cond_true,Int.toNat_natCast,if_neg hk]
  rfl
theorem e3l (c:Den S38) (k:Nat) (h:k<=c.2.1.length) (hl:c.2.1.length<=9223372036854775807):e7y (c,(k:Int),())=some (a2w c k,()):=d1P c k h hl
theorem e3m (c:Den S38) (hl:c.2.1.length<=9223372036854775807):f0H (c,())=some (b1f c,()):=by
 have hlp:b2q (((),(0:Int),()),(c.1.1.1,c.1.1.2.1,c.1.2.1.1,c.1.2.1.2.1,c.2.1,c.2.2.1.1.1,c.2.2.1.1.2.1,c.2.2.1.2.1.1,c.2.2.1.2.1.2),())=some (bif a0w (b6B c) 0 c.2.1.length then .inl ((),())else .inr ((false,()),())):=by
  refine(a0X (q:=b8y e1X e1Y K51 G51 K98 G98 e1Z e2a) (fun k=>(((),(k:Int),()),(c.1.1.1,c.1.1.2.1,c.1.2.1.1,c.1.2.1.2.1,c.2.1,c.2.2.1.1.1,c.2.2.1.1.2.1,c.2.2.1.2.1.1,c.2.2.1.2.1.2),())) c.2.1.length (b6B c) _ _ ?_ ?_ _ ?_:_)
  ·intro k f hk
   have e1:decide ((k:Int)<(c.2.1.length:Int))=true:=by simpa using hk
   have e2:decide (0<=(k:Int))=true:=by simp
   have ha:c.2.1.getD k (zero a1E)=mk c k:=rfl
   have h58:e5i (c,(k:Int),())=some (a2w c k,()):=d1P c k (by omega) hl
   unfold b8y b6B
   simp only[a4w k (by omega),e1,e2,Bool.and_self,cond_true,Int.toNat_natCast,ha,K98,G98,c4O,e1Z,e2a,Option.isSome_some,Option.getD_some]
   have h58':e5i ((((c.1.1.1,c.1.1.2.1,()),(c.1.2.1.1,c.1.2.1.2.1,()),()),c.2.1,((c.2.2.1.1.1,c.2.2.1.1.2.1,()),c.2.2.1.2.1,()),()),(k:Int),())=some (a2w c k,()):=h58
   simp only[h58',Option.isSome_some,Option.getD_some,cond_true]
   cases a2s (mk c k).1
   ·rfl
   ·cases hq:eqP (mk c k).1 (a2w c k)<;>simp only[Bool.not_true,cond_false,Bool.true_and]
    ·have:((mk c k).1.1==(a2w c k).1&&(mk c k).1.2.1==(a2w c k).2.1)=false:=hq
     simp only[this,cond_false,Bool.not_false,cond_true]
    ·have:((mk c k).1.1==(a2w c k).1&&(mk c k).1.2.1==(a2w c k).2.1)=true:=hq
     simp only[this,cond_true]
  ·intro f
   simp[b8y]
  ·simp only[c9t];omega
 unfold f0H f3J b1f
 simp only[e1X,e1Y,e3j,K51,G51,a7y,Option.isSome_some,Option.getD_some,cond_true,b4n,b4o,b4p]
 have hlp':b2q (((),0,()),(c.1.1.1,c.1.1.2.1,c.1.2.1.1,c.1.2.1.2.1,c.2.1,c.2.2.1.1.1,c.2.2.1.1.2.1,c.2.2.1.2.1),())=_:=hlp
 cases b1N c.1
 ·rfl
 ·cases b1N c.2.2.1
  ·rfl
  ·cases inB c.2.1.length 1 20
   ·rfl
   ·simp only[Bool.not_true,cond_false,Bool.true_and,hlp',Option.isSome_some,cond_true]
    cases a0w (b6B c) 0 c.2.1.length<;>rfl
theorem e8T (c:Den S38) (hl:c.2.1.length<=9223372036854775807):F93 (c,())=some (b1f c,()):=by
 have hlp:c6D (((),c.2.1,(c.2.1.length:Int),(0:Int),()),(c.1.1.1,c.1.1.2.1,c.1.2.1.1,c.1.2.1.2.1,c.2.1,c.2.2.1.1.1,c.2.2.1.1.2.1,c.2.2.1.2.1.1,c.2.2.1.2.1.2),())=some (bif a0w (b6B c) 0 c.2.1.length then .inl ((),())else .inr ((false,()),())):=by
  refine(a0X (q:=d0G e2E e2F K44 G44 K63 G63 e2G e2H) (fun k=>(((),c.2.1,(c.2.1.length:Int),(k:Int),()),(c.1.1.1,c.1.1.2.1,c.1.2.1.1,c.1.2.1.2.1,c.2.1,c.2.2.1.1.1,c.2.2.1.1.2.1,c.2.2.1.2.1.1,c.2.2.1.2.1.2),())) c.2.1.length (b6B c) _ _ ?_ ?_ _ ?_:_)
  ·intro k f hk
   have e1:decide ((k:Int)<(c.2.1.length:Int))=true:=by simpa using hk
   have e2:decide (0<=(k:Int))=true:=by simp
   have ha:c.2.1.getD k (zero a1E)=mk c k:=rfl
   have h63:e7y (c,(k:Int),())=some (a2w c k,()):=e3l c k (by omega) hl
   unfold d0G b6B
   simp only[a4w k (by omega),e1,e2,Bool.and_self,cond_true,Int.toNat_natCast,ha,K63,G63,b9X,e2G,e2H,Option.isSome_some,Option.getD_some]
   have h63':e7y ((((c.1.1.1,c.1.1.2.1,()),(c.1.2.1.1,c.1.2.1.2.1,()),()),c.2.1,((c.2.2.1.1.1,c.2.2.1.1.2.1,()),c.2.2.1.2.1,()),()),(k:Int),())=some (a2w c k,()):=h63
   simp only[h63',Option.isSome_some,Option.getD_some,cond_true]
   cases a2s (mk c k).1
   ·rfl
   ·cases hq:eqP (mk c k).1 (a2w c k)<;>simp only[Bool.not_true,cond_false,Bool.true_and]
    ·have:((mk c k).1.1==(a2w c k).1&&(mk c k).1.2.1==(a2w c k).2.1)=false:=hq
     simp only[this,cond_false,Bool.not_false,cond_true]
    ·have:((mk c k).1.1==(a2w c k).1&&(mk c k).1.2.1==(a2w c k).2.1)=true:=hq
     simp only[this,cond_true]
  ·intro f
   simp[d0G]
  ·simp only[e2J];omega
 unfold F93 r93 b1f
 simp only[e2E,e2F,e3k,K44,G44,a3r,Option.isSome_some,Option.getD_some,cond_true,c4d,c4e,c4f]
 have hlp':c6D (((),c.2.1,(c.2.1.length:Int),0,()),(c.1.1.1,c.1.1.2.1,c.1.2.1.1,c.1.2.1.2.1,c.2.1,c.2.2.1.1.1,c.2.2.1.1.2.1,c.2.2.1.2.1),())=_:=hlp
 cases b1N c.1
 ·rfl
 ·cases b1N c.2.2.1
  ·rfl
  ·cases inB c.2.1.length 1 20
   ·rfl
   ·simp only[Bool.not_true,cond_false,Bool.true_and,hlp',Option.isSome_some,cond_true]
    cases a0w (b6B c) 0 c.2.1.length<;>rfl
theorem f7F (x:Den A98):K98 x=true:=by unfold K98;rw[c4O];rfl
theorem f7G (x:Den A63):K63 x=true:=by unfold K63;rw[b9X];rfl
theorem e8U (x:Den A98):G98 x=(a2s x.1,()):=by unfold G98;rw[c4O];rfl
theorem e8V (x:Den A63):G63 x=(a2s x.1,()):=by unfold G63;rw[b9X];rfl
def sg (t:List (Den S97)) (k:Nat):Den S97:=t.getD k (zero S97)
def b9Y (t:List (Den S97)) (k:Nat):Bool:=a2s (sg t k).1&&(inB (sg t k).2.1 0 10000000&&!(decide (0<k)&&decide ((sg t k).2.1<=(sg t (k-1)).2.1)))
def a7z (t:List (Den S97)):Bool:=a0w (b9Y t) 0 t.length&&decide ((t.length:Int)<=200)
theorem c4P (x:Den A43):F43 x=some (inB x.1 0 10000000,()):=by
 unfold F43 r43
 simp only[K44,G44,a3r,Option.isSome_some,Option.getD_some,cond_true]
theorem e8W (t:List (Den S97)) (h:t.length<=9223372036854775807):F46 (t,())=some (a7z t,()):=by
 have hl:d0L ((t,t,(t.length:Int),(0:Int),()),())=some (bif a0w (b9Y t) 0 t.length then .inl ((),())else .inr ((false,()),())):=by
  refine(a0X (q:=d0K K63 G63 K43 G43) (fun k=>((t,t,(t.length:Int),(k:Int),()),())) t.length (b9Y t) _ _ ?_ ?_ _ ?_:_)
  ·intro k f hk
   have e1:decide ((k:Int)<(t.length:Int))=true:=by simpa using hk
   have e2:decide (0<=(k:Int))=true:=by simp
   have ha:∀k,t.getD k (zero S97)=sg t k:=fun _=>rfl
   unfold d0K b9Y
   simp only[a4w k (by omega),e1,e2,Bool.and_self,cond_true,Int.toNat_natCast,ha,K63,G63,b9X,K43,G43,c4P,Option.isSome_some,Option.getD_some]
   cases a2s (sg t k).1
   ·rfl
   ·cases inB (sg t k).2.1 0 10000000
    ·rfl
    ·by_cases hk0:0<k
     ·have e3:IntKind.i64.wrap ((k:Int)-1)=((k-1:Nat):Int):=by rw[w64 (by omega) (by omega)];omega
      have e4:decide (((k-1:Nat):Int)<(t.length:Int))=true:=by simp;omega
      have e5:decide (0<=((k-1:Nat):Int))=true:=by simp
      have e6:decide ((k:Int)>0)=true:=by simpa using hk0
      simp only[e3,e4,e5,e6,Int.toNat_natCast,hk0,decide_true,Bool.and_self,cond_true,Bool.not_true,cond_false,Bool.true_and]
      cases decide ((sg t k).2.1<=(sg t (k-1)).2.1)<;>rfl
     ·have e6:decide ((k:Int)>0)=false:=by simpa using hk0
      simp only[e6,hk0,decide_false,Bool.not_true,cond_false,Bool.true_and,Bool.false_and,Bool.not_false,cond_true]
  ·intro f
   simp[d0K]
  ·simp only[e2L];omega
 unfold F46 r46 a7z
 simp only[c4h,c4i,c4j,hl,Option.isSome_some,cond_true,dgt (t.length:Int)]
 cases decide ((t.length:Int)<=200)<;>cases a0w (b9Y t) 0 t.length<;>rfl
def Pst {α:Type} (o:Option α) (P:α->Prop):Prop:=∃y,o=some y /\ P y
theorem a0v {α:Type} {y:α} {P:α->Prop} (h:P y):Pst (some y) P:=⟨y,rfl,h⟩
theorem a0p {α:Type} {c:Bool} {a b:Option α} {P:α->Prop} (hc:c=true) (h:Pst a P):Pst (bif c then a else b) P:=by rw[hc];exact h
theorem a1q {α:Type} {c:Bool} {a b:Option α} {P:α->Prop} (h1:c=true->Pst a P) (h2:c=false->Pst b P):Pst (bif c then a else b) P:=by
 cases c
 ·exact h2 rfl
 ·exact h1 rfl
theorem a2B {α:Type} {o:Option α} {P:α->Prop} (h:Pst o P):o.isSome=true:=by obtain⟨y,e,_⟩:=h;rw[e];rfl
theorem a2S {α:Type} {o:Option α} {P:α->Prop} (z:α) (h:Pst o P):P (o.getD z):=by obtain⟨y,e,h⟩:=h;rw[e];exact h
theorem a0H {c:Bool} {a b:Option Unit} (hc:c=true) (h:a=some ()):(bif c then a else b)=some ():=by rw[hc];exact h
theorem a1Z {c:Bool} {a b:Option Unit} (h1:c=true->a=some ()) (h2:c=false->b=some ()):(bif c then a else b)=some ():=by
 cases c
 ·exact h2 rfl
 ·exact h1 rfl
theorem e0p (x:b2v.den) (h:a0g x.2.1):Pst (f0P x) fun y=>a0g y.2.1:=by
 unfold f0P f3Y
 dsimp only
 (repeat' (with_reducible first|refine a0v ?_|refine a0p (a0C _ (by(repeat ((try dsimp only);first|assumption|(with_reducible first|apply a0c|apply a0f))))) ?_|refine a0p (a2b _ (by(repeat ((try dsimp only);first|assumption|(with_reducible first|apply a0c|apply a0f))))) ?_|refine a1q (fun _=>?_) (fun _=>?_)))<;>(repeat ((try dsimp only);first|assumption|(with_reducible first|apply a0c|apply a0f)))
theorem a8x (x:b2v.den) (h:a0g x.2.1):d3S x=true:=a2B (e0p x h)
theorem a0d (x:b2v.den) (h:a0g x.2.1):a0g (d3T x).2.1:=a2S _ (e0p x h)
theorem d1Q (x:I81.den) (h:a0g x.2.1):Pst (F81 x) fun y=>a0g y.2.1:=by
 unfold F81 r81
 dsimp only
 refine a0p (a2b _ (by(repeat ((try dsimp only);first|assumption|(with_reducible first|apply a0d|apply a0c|apply a0f))))) ?_
 refine a1q (fun _=>?_) (fun _=>?_)
 ·refine a0p (a8x _ (by(repeat ((try dsimp only);first|assumption|(with_reducible first|apply a0d|apply a0c|apply a0f))))) ?_
  exact a0v (by(repeat ((try dsimp only);first|assumption|(with_reducible first|apply a0d|apply a0c|apply a0f))))
 ·(repeat' (with_reducible first|refine a0v ?_|refine a0p (a0C _ (by(repeat ((try dsimp only);first|assumption|(with_reducible first|apply a0d|apply a0c|apply a0f))))) ?_|refine a0p (a2b _ (by(repeat ((try dsimp only);first|assumption|(with_reducible first|apply a0d|apply a0c|apply a0f))))) ?_|refine a1q (fun _=>?_) (fun _=>?_)))<;>(repeat ((try dsimp only);first|assumption|(with_reducible first|apply a0d|apply a0c|apply a0f)))
theorem d1R (x:I81.den) (h:a0g x.2.1):K81 x=true:=a2B (d1Q x h)
theorem a0h (x:I81.den) (h:a0g x.2.1):a0g (G81 x).2.1:=a2S _ (d1Q x h)
theorem b9Z (x:a6k.den) (h:a0g x.2.1):Pst (f0Q x) fun y=>a0g y.2.1:=by
 unfold f0Q f4f
 dsimp only
 refine a0p (a0C _ (by(repeat ((try dsimp only);first|assumption|(with_reducible first|apply a0h|apply a0d|apply a0c|apply a0f))))) ?_
 refine a1q (fun _=>?_) (fun _=>?_)
 ·refine a0p (b0O _ (by(repeat ((try dsimp only);first|assumption|(with_reducible first|apply a0h|apply a0d|apply a0c|apply a0f)))) (by simp)) ?_
  exact a0v (a7u _ (by(repeat ((try dsimp only);first|assumption|(with_reducible first|apply a0h|apply a0d|apply a0c|apply a0f)))) (by simp))
 ·(repeat' (with_reducible first|refine a0v ?_|refine a0p (a0C _ (by(repeat ((try dsimp only);first|assumption|(with_reducible first|apply a0h|apply a0d|apply a0c|apply a0f))))) ?_|refine a0p (a2b _ (by(repeat ((try dsimp only);first|assumption|(with_reducible first|apply a0h|apply a0d|apply a0c|apply a0f))))) ?_|refine a1q (fun _=>?_) (fun _=>?_)))<;>(repeat ((try dsimp only);first|assumption|(with_reducible first|apply a0h|apply a0d|apply a0c|apply a0f)))
theorem b6C (x:a6k.den) (h:a0g x.2.1):a7R x=true:=a2B (b9Z x h)
theorem a0b (x:a6k.den) (h:a0g x.2.1):a0g (a7S x).2.1:=a2S _ (b9Z x h)
theorem c4Q (x:b1M.den) (h:a0g x.2.1) (hl:0<x.2.2.1.length):Pst (f0M x) fun y=>a0g y.2.1 /\ y.1.1∈x.2.2.1:=by
 obtain⟨m,c1,he,h1,h2,h3⟩:=a9C (x.2.2.1.length:Int) x.2.1 h
 unfold f0M f3U
 have he':F34 (((),(↑(List.length x.snd.snd.fst):Int),()),x.snd.fst,())=some ((m,()),(c1,())):=he
 have e1:decide (0<=m)=true:=decide_eq_true h2
 have h4:m<(x.2.2.1.length:Int):=h3 (by omega)
 have e2:decide (m<(x.2.2.1.length:Int))=true:=decide_eq_true h4
 simp only[K34,G34,he',Option.isSome_some,Option.getD_some,cond_true,e1,e2,Bool.and_self]
 refine a0v ⟨h1,?_⟩
 show x.2.2.1.getD m.toNat _∈x.2.2.1
 rw[a5l _ _ _ (by omega)]
 exact List.getElem_mem _
theorem d1S (x:b1M.den) (h:a0g x.2.1) (hl:0<x.2.2.1.length):c1z x=true:=a2B (c4Q x h hl)
theorem d1T (x:b1M.den) (h:a0g x.2.1) (hl:0<x.2.2.1.length):a0g (b8B x).2.1 /\ (b8B x).1.1∈x.2.2.1:=a2S _ (c4Q x h hl)
theorem d1U (n:Int):I64 (IntKind.i64.wrap n):=by
 unfold I64
 rw[IntKind.wrap_i64]
 omega
def d7r (c:List Int×Int×Int×Unit):Bool:=decide (0<=c.2.1)&&decide (c.1.length<=1048576)
theorem a1s {c:List Int×Int×Int×Unit}:d7r c=true↔a0g c:=by unfold d7r a0g;simp
def e0q:List Int×Int×Int×Unit:=([],0,0,())
theorem a6I:a0g e0q:=⟨Int.le_refl 0,Nat.zero_le _⟩
def p141 (x:a2i.den):Bool:=d7r x.2.1
def Q141 (x:a2i.den) (y:a3x.den):Prop:=a0g y.2.1
theorem e141:Nonempty (Ch a2i a3x p141 Q141):=⟨⟨fun _=>((0,()),(e0q,())),fun _ _=>a6I⟩⟩
theorem d1V:a2L Tryz.prog 141 (a3o true a2i a3x p141 Q141 e141):=b7S d9i (N:=f8I) (a2M trivial) e6R a1w fun x hx k hk=>by
 have h:a0g x.2.1:=a1s.1 hx
 refine Eq.trans (e7h _ _ k x) ?_
 unfold e7g
 dsimp only
 refine a0H (d1R _ (by(repeat ((try dsimp only);first|assumption|(with_reducible first|apply a0b|apply a0h|apply a0d|apply a0c|apply a0f))))) ?_
 refine a1Z (fun hb=>?_) (fun _=>?_)
 ·refine a0H hb ?_
  exact hk _ (by show a0g _;(repeat ((try dsimp only);first|assumption|(with_reducible first|apply a0b|apply a0h|apply a0d|apply a0c|apply a0f))))
 ·exact a0A fun z=>hk _ (by show a0g _;(repeat ((try dsimp only);first|assumption|(with_reducible first|apply a0b|apply a0h|apply a0d|apply a0c|apply a0f))))
theorem a9F:I64 0:=by unfold I64;decide
theorem e3n:I64 180:=by unfold I64;decide
theorem a1g (n:Int) (c:List Int×Int×Int×Unit) (h:a0g c) (hn:0<n):0<=((G34 (((),n,()),c,())).1.1:Int) /\ ((G34 (((),n,()),c,())).1.1:Int)<n:=by
 obtain⟨_,h1,h2⟩:=d9t (((),n,()),c,()) h
 exact⟨h1,h2 hn⟩
def c2i (s:Den S68):Prop:=s.1.size<=1000 /\ I64 s.2.2.2.1 /\ I64 s.2.2.2.2.1
def a0T (l:List (Den S68)):Prop:=∀s∈l,c2i s
theorem c6U:c2i (zero S68):=⟨Nat.zero_le _,a9F,a9F⟩
theorem a0T.at {l:List (Den S68)} (h:a0T l) (i:Nat):c2i (at' l i):=by
 rcases e8S (l:=l) (i:=i)with h1|h1
 ·exact h _ h1
 ·rw[h1];exact c6U
theorem a0T.app {l:List (Den S68)} {s:Den S68} (h:a0T l) (hs:c2i s):a0T (l++[s]):=by
 intro t ht
 rcases List.mem_append.1 ht with h1|h1
 ·exact h t h1
 ·rw[List.mem_singleton.1 h1];exact hs
theorem a0T.set {l:List (Den S68)} {i:Nat} {s:Den S68} (h:a0T l) (hs:c2i s):a0T (l.set i s):=by
 intro t ht
 rcases List.mem_or_eq_of_mem_set ht with h1|h1
 ·exact h t h1
 ·rw[h1];exact hs
theorem a0T.good {l:List (Den S68)} (h:a0T l) (hl:l.length<=13):d1N l:=
 ⟨by omega,fun i=>by have:=(h.at i).1;omega,fun i=>⟨(h.at i).2.1,(h.at i).2.2⟩⟩
theorem f8Z {α:Type} (z x:α):(List.replicate 1 z).set 0 x=[x]:=rfl
theorem c4R (v:a9j) (h:a0g v.2.1) (hn:∀s∈v.2.2.1,s.size<=1000) (hn6:v.2.2.1.length=6) (h0:0<=v.1.2.2.2.1) (h1:(v.2.2.2.1.length:Int)+v.1.2.2.2.1<=5) (h2:1<=(v.2.2.2.1.length:Int)+v.1.2.2.2.1) (hg:a0T v.2.2.2.1) :
 Pst (e2n v) fun y=>a0g y.2.1 /\ a0T y.2.2.1 /\ y.2.2.1.length<=5 /\ 1<=y.2.2.1.length:=by
 refine a0W (q:=d5T K34 G34 K77 G77 c1z b8B a9A a9B a7R a7S) (fun v=>a0g v.2.1 /\ (∀s∈v.2.2.1,s.size<=1000) /\ v.2.2.1.length=6 /\ 0<=v.1.2.2.2.1 /\ (v.2.2.2.1.length:Int)+v.1.2.2.2.1<=5 /\ 1<=(v.2.2.2.1.length:Int)+v.1.2.2.2.1 /\ a0T v.2.2.2.1)
  (fun _ r=>Pst r fun y=>a0g y.2.1 /\ a0T y.2.2.1 /\ y.2.2.1.length<=5 /\ 1<=y.2.2.1.length) (fun v=>v.1.2.2.2.1.toNat) ?_ _ _ ⟨h,hn,hn6,h0,h1,h2,hg⟩ (Nat.lt_of_lt_of_le (m:=1000) (by omega) (Nat.le_add_left _ _))
 clear h hn hn6 h0 h1 h2 hg v
 rintro⟨⟨_,_,_,k,_⟩,c,ns,l,_⟩ f ⟨g0,g1,g2,g3,g4,g5,g6⟩ ih
 simp only at g0 g1 g2 g3 g4 g5 g6 ih
 unfold d5T
 dsimp only
 by_cases hk:k>0
 ·refine a0p (by simpa using hk) ?_
  refine a0p (a0C _ (by(repeat ((try dsimp only);first|assumption|(with_reducible first|apply a0b|apply a0h|apply a0d|apply a0c|apply a0f))))) ?_
  refine a0p (a0C _ (by(repeat ((try dsimp only);first|assumption|(with_reducible first|apply a0b|apply a0h|apply a0d|apply a0c|apply a0f))))) ?_
  have c1:a0g (G34 (((),16,()),c,())).snd.fst:=by(repeat ((try dsimp only);first|assumption|(with_reducible first|apply a0b|apply a0h|apply a0d|apply a0c|apply a0f)))
  have b1:0<=((G34 (((),100,()),(G34 (((),16,()),c,())).snd)).fst.fst:Int) /\ ((G34 (((),100,()),(G34 (((),16,()),c,())).snd)).fst.fst:Int)<100:=a1g 100 _ c1 (by decide)
  have c2:a0g (G34 (((),100,()),(G34 (((),16,()),c,())).snd)).snd.fst:=by(repeat ((try dsimp only);first|assumption|(with_reducible first|apply a0b|apply a0h|apply a0d|apply a0c|apply a0f)))
  generalize G34 (((),100,()),(G34 (((),16,()),c,())).snd)=A at *
  generalize G34 (((),16,()),c,())=B at *
  have i1:∀z:Int,z=A.fst.fst->I64 z:=fun z e=>by have h1:0<=z:=e ▸ b1.1;have h2:z<100:=e ▸ b1.2;unfold I64;omega
  refine a0p ?_ ?_
  ·simp;omega
  refine a0p (a0C _ (by(repeat ((try dsimp only);first|assumption|(with_reducible first|apply a0b|apply a0h|apply a0d|apply a0c|apply a0f))))) ?_
  refine a0p (a0C _ (by(repeat ((try dsimp only);first|assumption|(with_reducible first|apply a0b|apply a0h|apply a0d|apply a0c|apply a0f))))) ?_
  refine a0p (a2b _ (by(repeat ((try dsimp only);first|assumption|(with_reducible first|apply a0b|apply a0h|apply a0d|apply a0c|apply a0f))))) ?_
  have e:IntKind.i64.wrap (k-1)=k-1:=w64 (by omega) (by omega)
  have hname:(ns.getD (Int.toNat (l.length:Int)) (zero Ty.str)).size<=1000:=by
   rw[Int.toNat_natCast,a5l _ _ _ (by omega)]
   exact g1 _ (List.getElem_mem _)
  simp only[f8Z,List.length_singleton]
  refine a1q (fun _=>?_) (fun _=>?_)
  ·refine a0p (a0K (by omega)) ?_
   refine ih _ ⟨by(repeat ((try dsimp only);first|assumption|(with_reducible first|apply a0b|apply a0h|apply a0d|apply a0c|apply a0f))),g1,g2,?_,?_,?_,g6.app ⟨hname,a9F,e3n⟩⟩ ?_<;>simp only[e,List.length_append,List.length_singleton]<;>omega
  ·refine a0p (a0K (by omega)) ?_
   refine ih _ ⟨by(repeat ((try dsimp only);first|assumption|(with_reducible first|apply a0b|apply a0h|apply a0d|apply a0c|apply a0f))),g1,g2,?_,?_,?_,g6.app ⟨hname,i1 _ rfl,d1U _⟩⟩ ?_<;>simp only[e,List.length_append,List.length_singleton]<;>omega
 ·have:decide (k>0)=false:=by simpa using hk
  rw[this]
  exact a0v ⟨g0,g6,by show l.length<=5;omega,by show 1<=l.length;omega⟩
theorem c0a (v:a4L) (h:a0g v.2.1) (h1:v.2.2.1.length<=13) (h2:1<=v.2.2.1.length) (hg:a0T v.2.2.1):Pst (c9P v) fun y=>a0g y.2.1 /\ a0T y.2.2.1 /\ y.2.2.1.length<=13:=by
 refine a0W (q:=c3M K34 G34 K77 G77 c1z b8B a9A a9B a7R a7S) (fun v=>a0g v.2.1 /\ v.2.2.1.length<=13 /\ 1<=v.2.2.1.length /\ a0T v.2.2.1)
  (fun _ r=>Pst r fun y=>a0g y.2.1 /\ a0T y.2.2.1 /\ y.2.2.1.length<=13) (fun v=>13-v.2.2.1.length) ?_ _ _ ⟨h,h1,h2,hg⟩ (Nat.lt_of_lt_of_le (m:=1000) (by omega) (Nat.le_add_left _ _))
 clear h h1 h2 hg v
 rintro⟨⟨_,_,_⟩,c,l,_⟩ f ⟨g0,g1,g2,g3⟩ ih
 simp only at g0 g1 g2 g3 ih
 unfold c3M
 dsimp only
 refine a0p (a0C _ (by(repeat ((try dsimp only);first|assumption|(with_reducible first|apply a0b|apply a0h|apply a0d|apply a0c|apply a0f))))) ?_
 have b2:0<=((G34 (((),2,()),c,())).fst.fst:Int) /\ ((G34 (((),2,()),c,())).fst.fst:Int)<2:=a1g 2 c g0 (by decide)
 have c2:a0g (G34 (((),2,()),c,())).snd.fst:=by(repeat ((try dsimp only);first|assumption|(with_reducible first|apply a0b|apply a0h|apply a0d|apply a0c|apply a0f)))
 generalize G34 (((),2,()),c,())=D at *
 have bd:∀z:Int,z=D.fst.fst->IntKind.i64.wrap (12+z)<=13:=fun z e=>by
  have h1:0<=z:=e ▸ b2.1
  have h2:z<2:=e ▸ b2.2
  rw[w64 (by omega) (by omega)]
  omega
 have bd':=bd _ rfl
 by_cases hl:(l.length:Int)<IntKind.i64.wrap (12+D.fst.fst)
 ·refine a0p (by simpa using hl) ?_
  have hl':(l.length:Int)<13:=Int.lt_of_lt_of_le hl bd'
  refine a0p ?_ ?_
  ·have:decide (0<(l.length:Int))=true:=by simp;omega
   rw[this];rfl
  simp only[f8Z,List.length_singleton]
  refine a0p (a0K (by omega)) ?_
  refine ih _ ⟨c2,?_,?_,g3.app ⟨?_,(g3.at 0).2.1,(g3.at 0).2.2⟩⟩ ?_
  ·simp only[List.length_append,List.length_singleton];omega
  ·simp only[List.length_append,List.length_singleton];omega
  ·have hb:∀z:Int,(a8K [z]).size=1:=fun _=>rfl
   simp only[ByteArray.size_append,hb]
   show 1+1<=1000
   decide
  ·simp only[List.length_append,List.length_singleton];omega
 ·have:decide ((l.length:Int)<IntKind.i64.wrap (12+D.fst.fst))=false:=by simpa using hl
  rw[this]
  exact a0v ⟨c2,g3,g1⟩
theorem f7H (v:a9j) (h:a0g v.2.1) (hn:∀s∈v.2.2.1,s.size<=1000) (hn6:v.2.2.1.length=6) (h0:0<=v.1.2.2.2.1) (h1:(v.2.2.2.1.length:Int)+v.1.2.2.2.1<=5) (h2:1<=(v.2.2.2.1.length:Int)+v.1.2.2.2.1) (hg:a0T v.2.2.2.1) :
 b0L v=true /\ a0g (a5o v).2.1 /\ a0T (a5o v).2.2.1 /\ (a5o v).2.2.1.length<=5 /\ 1<=(a5o v).2.2.1.length:=⟨a2B (c4R v h hn hn6 h0 h1 h2 hg),a2S _ (c4R v h hn hn6 h0 h1 h2 hg)⟩
theorem e8X (v:a4L) (h:a0g v.2.1) (h1:v.2.2.1.length<=13) (h2:1<=v.2.2.1.length) (hg:a0T v.2.2.1):a6E v=true /\ a0g (a4y v).2.1 /\ a0T (a4y v).2.2.1 /\ (a4y v).2.2.1.length<=13:=⟨a2B (c0a v h h1 h2 hg),a2S _ (c0a v h h1 h2 hg)⟩
def p75 (x:I75.den):Bool:=d7r x.2.1
def Q75 (x:I75.den) (y:O75.den):Prop:=a0g y.2.1 /\ a0T y.2.2.1 /\ y.2.2.1.length<=13
theorem e75:Nonempty (Ch I75 O75 p75 Q75):=⟨⟨fun _=>(((),()),(e0q,([],()))),fun _ _=>⟨a6I,(fun _ h=>by cases h),Nat.zero_le _⟩⟩⟩
def c0b:List ByteArray:=(((((List.replicate 6 (zero Ty.str)).set 0 { data:=#[109,97,105,110] }).set 1 { data:=#[106,105,98] }).set 2 { data:=#[103,101,110,111,97] }).set 3 { data:=#[115,116,111,114,109] }).set 4 { data:=#[99,111,100,101] } |>.set 5 { data:=#[107,105,116,101] }
theorem c0c:(∀s∈c0b,s.size<=1000) /\ c0b.length=6:=by
 have h:(c0b.all fun s=>Nat.ble s.size 1000)=true:=rfl
 exact⟨fun s hs=>Nat.le_of_ble_eq_true (List.all_eq_true.1 h s hs),rfl⟩
def c4S (s:ByteArray):List ByteArray:=((((List.replicate 5 (zero Ty.str)).set 0 { data:=#[] }).set 1 { data:=#[74,105,98] }).set 2 { data:=#[97,98,99,100,101,102,103,104,105,106,107,108,109,110,111,112,113] }).set 3 { data:=#[97,98,99,100,101,102,103,104,105,106,107,108,109,110,111,112] } |>.set 4 s
theorem d1W {s:ByteArray} (h:s.size<=1000):∀t∈c4S s,t.size<=1000:=by
 intro t ht
 have h0:((((List.replicate 5 (zero Ty.str)).set 0 { data:=#[] }).set 1 { data:=#[74,105,98] }).set 2 { data:=#[97,98,99,100,101,102,103,104,105,106,107,108,109,110,111,112,113] } |>.set 3 { data:=#[97,98,99,100,101,102,103,104,105,106,107,108,109,110,111,112] }).all (fun s:ByteArray=>Nat.ble s.size 1000)=true:=rfl
 rcases List.mem_or_eq_of_mem_set ht with h1|h1
 ·exact Nat.le_of_ble_eq_true (List.all_eq_true.1 h0 t h1)
 ·rw[h1];exact h
theorem f7I:a2L Tryz.prog 75 (a3o true I75 O75 p75 Q75 e75):=b7S e6U (N:=N75 p141 Q141 e141) (a2M ⟨d1V,trivial⟩) f8D a1w fun x hx k hk=>by
 have h:a0g x.2.1:=a1s.1 hx
 refine Eq.trans (f4B _ _ _ _ _ _ _ _ _ _ _ _ _ _ _ _ _ k x) ?_
 unfold f8K
 dsimp only
 refine a0H (a0C _ (by(repeat ((try dsimp only);first|assumption|(with_reducible first|apply a0b|apply a0h|apply a0d|apply a0c|apply a0f))))) ?_
 have b5:0<=((G34 (((),5,()),x.snd)).fst.fst:Int) /\ ((G34 (((),5,()),x.snd)).fst.fst:Int)<5:=a1g 5 x.2.1 h (by decide)
 have c5:a0g (G34 (((),5,()),x.snd)).snd.fst:=by(repeat ((try dsimp only);first|assumption|(with_reducible first|apply a0b|apply a0h|apply a0d|apply a0c|apply a0f)))
 generalize G34 (((),5,()),x.snd)=D at *
 have bd:∀z:Int,z=D.fst.fst->1<=IntKind.i64.wrap (1+z) /\ IntKind.i64.wrap (1+z)<=5:=fun z e=>by
  have h1:0<=z:=e ▸ b5.1
  have h2:z<5:=e ▸ b5.2
  rw[w64 (by omega) (by omega)]
  omega
 obtain⟨w1,w2⟩:=bd _ rfl
 obtain⟨k1,cy,gy,ly,ly1⟩:=f7H (((),(),(),IntKind.i64.wrap (1+D.fst.fst),()),D.snd.fst,c0b,[],()) c5 c0c.1 c0c.2 (by show 0<=IntKind.i64.wrap (1+D.fst.fst);omega) (by simpa using w2) (by simpa using w1) (fun _ h=>by cases h)
 refine a0H k1 ?_
 have hz:List.replicate 0 (zero S68)=[]:=rfl
 unfold c0b at cy gy ly ly1
 rw[hz]
 generalize a5o _=y at *
 refine a0H (a0C _ (by(repeat ((try dsimp only);first|assumption|(with_reducible first|apply a0b|apply a0h|apply a0d|apply a0c|apply a0f))))) ?_
 have b12:0<=((G34 (((),(y.2.2.1.length:Int),()),y.snd.fst,())).fst.fst:Int) /\ ((G34 (((),(y.2.2.1.length:Int),()),y.snd.fst,())).fst.fst:Int)<(y.2.2.1.length:Int):=a1g _ y.2.1 cy (by omega)
 have c12:a0g (G34 (((),(y.2.2.1.length:Int),()),y.snd.fst,())).snd.fst:=by(repeat ((try dsimp only);first|assumption|(with_reducible first|apply a0b|apply a0h|apply a0d|apply a0c|apply a0f)))
 generalize G34 (((),(y.2.2.1.length:Int),()),y.snd.fst,())=I at *
 refine a0H (a0C _ (by(repeat ((try dsimp only);first|assumption|(with_reducible first|apply a0b|apply a0h|apply a0d|apply a0c|apply a0f))))) ?_
 have c14:a0g (G34 (((),24,()),I.snd)).snd.fst:=by(repeat ((try dsimp only);first|assumption|(with_reducible first|apply a0b|apply a0h|apply a0d|apply a0c|apply a0f)))
 generalize G34 (((),24,()),I.snd)=M at *
 have hidx:(decide (0<=I.fst.fst)&&decide (I.fst.fst<((y.snd.snd.fst.length:Nat):Int)))=true:=by
  rw[decide_eq_true b12.1,decide_eq_true b12.2];rfl
 have hat:∀i,c2i (List.getD y.snd.snd.fst i (zero S68)):=fun i=>gy.at i
 refine a1Z (fun _=>?_) (fun _=>?_)
 ·refine a0H ?_ ?_
  ·have:decide (0<((y.snd.snd.fst.length:Nat):Int))=true:=by simp;omega
   rw[this];rfl
  obtain⟨nm,hnm⟩:∃nm,nm=c4S (List.getD y.snd.snd.fst (Int.toNat 0) (zero S68)).fst:=⟨_,rfl⟩
  have h5:∀t∈nm,t.size<=1000:=by rw[hnm];exact d1W (hat _).1
  have h5l:0<nm.length:=by rw[hnm];simp[c4S]
  unfold c4S at hnm
  rw[<- hnm]
  refine a0H (d1S (((),(),()),M.snd.fst,nm,()) c14 h5l) ?_
  obtain⟨c22,m22⟩:=d1T (((),(),()),M.snd.fst,nm,()) c14 h5l
  refine a0H hidx ?_
  exact hk _ ⟨c22,gy.set ⟨h5 _ m22,(hat _).2⟩,by simp only[List.length_set];omega⟩
 refine a1Z (fun _=>?_) (fun _=>?_)
 ·haveI:=e141
  refine a0A fun g=>?_
  have hp:p141 (((),300,()),M.snd)=true:=a1s.2 c14
  refine a0H hp ?_
  refine a0H hidx ?_
  exact hk _ ⟨g.2 _ hp,gy.set (hat _),by simp only[List.length_set];omega⟩
 refine a1Z (fun _=>?_) (fun _=>?_)
 ·haveI:=e141
  refine a0A fun g=>?_
  have hp:p141 (((),300,()),M.snd)=true:=a1s.2 c14
  refine a0H hp ?_
  refine a0H hidx ?_
  exact hk _ ⟨g.2 _ hp,gy.set (hat _),by simp only[List.length_set];omega⟩
 refine a1Z (fun _=>?_) (fun _=>?_)
 ·refine a0H (b6C _ (by(repeat ((try dsimp only);first|assumption|(with_reducible first|apply a0b|apply a0h|apply a0d|apply a0c|apply a0f))))) ?_
  refine a0H hidx ?_
  exact hk _ ⟨by(repeat ((try dsimp only);first|assumption|(with_reducible first|apply a0b|apply a0h|apply a0d|apply a0c|apply a0f))),gy.set ⟨(hat _).1,(hat _).2.1,d1U _⟩,by simp only[List.length_set];omega⟩
 refine a1Z (fun _=>?_) (fun _=>?_)
 ·refine a0H (b6C _ (by(repeat ((try dsimp only);first|assumption|(with_reducible first|apply a0b|apply a0h|apply a0d|apply a0c|apply a0f))))) ?_
  refine a0H hidx ?_
  exact hk _ ⟨by(repeat ((try dsimp only);first|assumption|(with_reducible first|apply a0b|apply a0h|apply a0d|apply a0c|apply a0f))),gy.set ⟨(hat _).1,d1U _,(hat _).2.2⟩,by simp only[List.length_set];omega⟩
 refine a1Z (fun _=>?_) (fun _=>?_)
 ·exact hk _ ⟨c14,(fun _ h=>by cases h),Nat.zero_le _⟩
 refine a1Z (fun _=>?_) (fun _=>?_)
 ·obtain⟨k2,c16,g16,l16⟩:=e8X (((),(),()),M.snd.fst,y.snd.snd) c14 (by show y.2.2.1.length<=13;omega) ly1 gy
  refine a0H k2 ?_
  exact hk _ ⟨c16,g16,l16⟩
 ·exact hk _ ⟨c14,gy,by show y.2.2.1.length<=13;omega⟩
def p128 (x:a8k.den):Bool:=d7r x.2.1
def Q128 (x:a8k.den) (y:b1B.den):Prop:=a0g y.2.1
theorem e128:Nonempty (Ch a8k b1B p128 Q128):=⟨⟨fun _=>(((0,0),()),(e0q,())),fun _ _=>a6I⟩⟩
theorem e8Y:a2L Tryz.prog 128 (a3o true a8k b1B p128 Q128 e128):=b7S d9r (N:=f8J p141 Q141 e141) (a2M ⟨d1V,trivial⟩) e7b a1w fun x hx k hk=>by
 have hk:∀y:b1B.den,a0g y.2.1->k y=some ():=hk
 have h:a0g x.2.1:=a1s.1 hx
 refine Eq.trans (e7j _ _ _ _ _ _ _ _ _ _ _ k x) ?_
 unfold e7i
 dsimp only
 haveI:=e141
 refine a0H (a2b _ (by(repeat ((try dsimp only);first|assumption|(with_reducible first|apply a0b|apply a0h|apply a0d|apply a0c|apply a0f))))) ?_
 refine a1Z (fun _=>?_) (fun _=>?_)
 ·refine a0H (a8x _ (by(repeat ((try dsimp only);first|assumption|(with_reducible first|apply a0b|apply a0h|apply a0d|apply a0c|apply a0f))))) ?_
  refine a1Z (fun h1=>?_) (fun _=>?_)
  ·refine a0H h1 ?_
   refine a0H (a8x _ (by(repeat ((try dsimp only);first|assumption|(with_reducible first|apply a0b|apply a0h|apply a0d|apply a0c|apply a0f))))) ?_
   refine a1Z (fun h2=>?_) (fun _=>?_)
   ·refine a0H h2 ?_
    exact hk _ (by(repeat ((try dsimp only);first|assumption|(with_reducible first|apply a0b|apply a0h|apply a0d|apply a0c|apply a0f))))
   ·exact a0A fun z=>hk _ (by(repeat ((try dsimp only);first|assumption|(with_reducible first|apply a0b|apply a0h|apply a0d|apply a0c|apply a0f))))
  ·refine a0A fun z=>?_
   refine a0H (a8x _ (by(repeat ((try dsimp only);first|assumption|(with_reducible first|apply a0b|apply a0h|apply a0d|apply a0c|apply a0f))))) ?_
   refine a1Z (fun h2=>?_) (fun _=>?_)
   ·refine a0H h2 ?_
    exact hk _ (by(repeat ((try dsimp only);first|assumption|(with_reducible first|apply a0b|apply a0h|apply a0d|apply a0c|apply a0f))))
   ·exact a0A fun z=>hk _ (by(repeat ((try dsimp only);first|assumption|(with_reducible first|apply a0b|apply a0h|apply a0d|apply a0c|apply a0f))))
 ·refine a0H (a2b _ (by(repeat ((try dsimp only);first|assumption|(with_reducible first|apply a0b|apply a0h|apply a0d|apply a0c|apply a0f))))) ?_
  have c3:a0g (G77 (((),20,()),(G77 (((),30,()),x.snd)).snd)).snd.fst:=by(repeat ((try dsimp only);first|assumption|(with_reducible first|apply a0b|apply a0h|apply a0d|apply a0c|apply a0f)))
  generalize G77 (((),20,()),(G77 (((),30,()),x.snd)).snd)=A at *
  refine a1Z (fun _=>?_) (fun _=>?_)
  ·refine a0H (b0O _ c3 (by simp)) ?_
   have c9:=a7u (((),(),()),A.snd.fst,((((List.replicate 4 (zero (Ty.int IntKind.i64))).set 0 100).set 1 (-100)).set 2 101).set 3 0,()) c3 (by simp)
   refine a0A fun g=>?_
   have hp:p141 (((),100,()),(c0K (((),(),()),A.snd.fst,((((List.replicate 4 (zero (Ty.int IntKind.i64))).set 0 100).set 1 (-100)).set 2 101).set 3 0,())).snd.fst,())=true:=a1s.2 c9
   refine a0H hp ?_
   exact hk _ (g.2 _ hp)
  ·refine a0A fun g=>?_
   have hp:p141 (((),15,()),A.snd)=true:=a1s.2 c3
   refine a0H hp ?_
   refine a0A fun g2=>?_
   have hp2:p141 (((),15,()),(g.val (((),15,()),A.snd)).snd)=true:=a1s.2 (g.2 _ hp)
   refine a0H hp2 ?_
   exact hk _ (g2.2 _ hp2)
theorem c4T (x:c7D.den) (h:a0g x.2.1):e5k x=true /\ a0g (e5l x).2.1:=by
 unfold e5k e5l f4o f4m
 have k1:=a2b (((),40,()),x.2) h
 have c1:=a0f (((),40,()),x.2) h
 simp only[k1,cond_true]
 generalize G77 (((),40,()),x.2)=g1 at *
 cases g1.1.1
 ·simp only[cond_false]
  have k2:=b0O (((),(),()),g1.2.1,(((List.replicate 3 (zero (Ty.int IntKind.i64))).set 0 4).set 1 20).set 2 400,()) c1 (by simp)
  have c2:=a7u (((),(),()),g1.2.1,(((List.replicate 3 (zero (Ty.int IntKind.i64))).set 0 4).set 1 20).set 2 400,()) c1 (by simp)
  simp only[k2,cond_true]
  generalize c0K (((),(),()),g1.2.1,(((List.replicate 3 (zero (Ty.int IntKind.i64))).set 0 4).set 1 20).set 2 400,())=g2 at *
  generalize IntKind.i64.wrap (IntKind.i64.wrap (2*g2.1.1)+1)=n
  have k3:=a0C (((),n,()),g2.2.1,()) c2
  have c3:=a0c (((),n,()),g2.2.1,()) c2
  simp only[k3,cond_true]
  have k4:=a0C (((),n,()),(G34 (((),n,()),g2.2.1,())).2) c3
  have c4:=a0c (((),n,()),(G34 (((),n,()),g2.2.1,())).2) c3
  simp only[k4,cond_true,Option.isSome_some,Option.getD_some]
  exact⟨trivial,c4⟩
 ·simp only[cond_true]
  have k2:=b0O (((),(),()),g1.2.1,((((List.replicate 4 (zero (Ty.int IntKind.i64))).set 0 10000).set 1 (-10000)).set 2 10001).set 3 9223372036854775807,()) c1 (by simp)
  have c2:=a7u (((),(),()),g1.2.1,((((List.replicate 4 (zero (Ty.int IntKind.i64))).set 0 10000).set 1 (-10000)).set 2 10001).set 3 9223372036854775807,()) c1 (by simp)
  simp only[k2,cond_true]
  generalize c0K (((),(),()),g1.2.1,((((List.replicate 4 (zero (Ty.int IntKind.i64))).set 0 10000).set 1 (-10000)).set 2 10001).set 3 9223372036854775807,())=g2 at *
  have k3:=b0O (((),(),()),g2.2.1,(((List.replicate 3 (zero (Ty.int IntKind.i64))).set 0 10000).set 1 0).set 2 (-10001),()) c2 (by simp)
  have c3:=a7u (((),(),()),g2.2.1,(((List.replicate 3 (zero (Ty.int IntKind.i64))).set 0 10000).set 1 0).set 2 (-10001),()) c2 (by simp)
  simp only[k3,cond_true,Option.isSome_some,Option.getD_some]
  exact⟨trivial,c3⟩
theorem d1X (x:c7D.den) (h:a0g x.2.1):e5k x=true:=(c4T x h).1
theorem a0Y (x:c7D.den) (h:a0g x.2.1):a0g (e5l x).2.1:=(c4T x h).2
theorem d1Y (x:c0M.den) (h:a0g x.2.1):Pst (f0S x) fun y=>a0g y.2.1:=by
 unfold f0S f4q
 dsimp only
 (repeat' (with_reducible first|refine a0v ?_|refine a0p (a0C _ (by(repeat ((try dsimp only);first|assumption|(with_reducible first|apply a0b|apply a0c|apply a0f|apply a0Y))))) ?_|refine a0p (a2b _ (by(repeat ((try dsimp only);first|assumption|(with_reducible first|apply a0b|apply a0c|apply a0f|apply a0Y))))) ?_|refine a0p (d1X _ (by(repeat ((try dsimp only);first|assumption|(with_reducible first|apply a0b|apply a0c|apply a0f|apply a0Y))))) ?_|refine a1q (fun _=>?_) (fun _=>?_)))<;>(repeat ((try dsimp only);first|assumption|(with_reducible first|apply a0b|apply a0c|apply a0f|apply a0Y)))
theorem e3o (x:c0M.den) (h:a0g x.2.1):d3X x=true:=a2B (d1Y x h)
theorem a1m (x:c0M.den) (h:a0g x.2.1):a0g (d3Y x).2.1:=a2S _ (d1Y x h)
theorem d1Z (x:c0L.den) (h:a0g x.2.1):Pst (f0R x) fun y=>a0g y.2.1:=by
 unfold f0R f4j
 dsimp only
 (repeat' (with_reducible first|refine a0v ?_|refine a0p (a0C _ (by(repeat ((try dsimp only);first|assumption|(with_reducible first|apply a1m|apply a0b|apply a0c|apply a0f|apply a0Y))))) ?_|refine a0p (a2b _ (by(repeat ((try dsimp only);first|assumption|(with_reducible first|apply a1m|apply a0b|apply a0c|apply a0f|apply a0Y))))) ?_|refine a0p (d1X _ (by(repeat ((try dsimp only);first|assumption|(with_reducible first|apply a1m|apply a0b|apply a0c|apply a0f|apply a0Y))))) ?_|refine a1q (fun _=>?_) (fun _=>?_)))<;>(repeat ((try dsimp only);first|assumption|(with_reducible first|apply a1m|apply a0b|apply a0c|apply a0f|apply a0Y)))
theorem c2j (x:c0L.den) (h:a0g x.2.1):d3V x=true:=a2B (d1Z x h)
theorem a1D (x:c0L.den) (h:a0g x.2.1):a0g (c3N x).2.1:=a2S _ (d1Z x h)
theorem d7s (v:b4G) (h:a0g v.2.1) (h0:0<=v.1.2.2.2.1) (h1:(v.2.2.2.2.1.length:Int)+v.1.2.2.2.1<=3) (h2:1<=(v.2.2.2.2.1.length:Int)+v.1.2.2.2.1):Pst (e2p v) fun y=>a0g y.2.1 /\ y.2.2.2.2.1.length<=3 /\ 1<=y.2.2.2.2.1.length:=by
 refine a0W (q:=d5V K34 G34 d3V c3N K77 G77 d3X d3Y) (fun v=>a0g v.2.1 /\ 0<=v.1.2.2.2.1 /\ (v.2.2.2.2.1.length:Int)+v.1.2.2.2.1<=3 /\ 1<=(v.2.2.2.2.1.length:Int)+v.1.2.2.2.1) (fun _ r=>Pst r fun y=>a0g y.2.1 /\ y.2.2.2.2.1.length<=3 /\ 1<=y.2.2.2.2.1.length)
  (fun v=>v.1.2.2.2.1.toNat) ?_ _ _ ⟨h,h0,h1,h2⟩ (Nat.lt_of_lt_of_le (m:=1000) (by omega) (Nat.le_add_left _ _))
 clear h h0 h1 h2 v
 rintro⟨⟨_,_,_,k,_⟩,c,b1,b2,l,_⟩ f ⟨g0,g1,g2,g3⟩ ih
 simp only at g0 g1 g2 g3 ih
 unfold d5V
 dsimp only
 by_cases hk:k>0
 ·refine a0p (by simpa using hk) ?_
  refine a0p (c2j _ (by(repeat ((try dsimp only);first|assumption|(with_reducible first|apply a1D|apply a1m|apply a0b|apply a0c|apply a0f|apply a0Y))))) ?_
  refine a0p (a2b _ (by(repeat ((try dsimp only);first|assumption|(with_reducible first|apply a1D|apply a1m|apply a0b|apply a0c|apply a0f|apply a0Y))))) ?_
  refine a0p ?_ ?_
  ·refine a0K ?_
   simp only[List.length_set,List.length_replicate]
   omega
  have e:IntKind.i64.wrap (k-1)=k-1:=w64 (by omega) (by omega)
  refine ih _ ⟨by(repeat ((try dsimp only);first|assumption|(with_reducible first|apply a1D|apply a1m|apply a0b|apply a0c|apply a0f|apply a0Y))),?_,?_,?_⟩ ?_<;>simp only[e,List.length_append,List.length_set,List.length_replicate]<;>omega
 ·have:decide (k>0)=false:=by simpa using hk
  rw[this]
  exact a0v ⟨g0,by show l.length<=3;omega,by show 1<=l.length;omega⟩
theorem c4U (v:a5p) (h:a0g v.2.1) (h1:v.2.2.2.2.1.length<=22):Pst (c9S v) fun y=>a0g y.2.1 /\ y.2.2.2.2.1.length<=22:=by
 refine a0W (q:=c3P K34 G34 d3V c3N K77 G77 d3X d3Y) (fun v=>a0g v.2.1 /\ v.2.2.2.2.1.length<=22) (fun _ r=>Pst r fun y=>a0g y.2.1 /\ y.2.2.2.2.1.length<=22)
  (fun v=>22-v.2.2.2.2.1.length) ?_ _ _ ⟨h,h1⟩ (Nat.lt_of_lt_of_le (m:=1000) (by omega) (Nat.le_add_left _ _))
 clear h h1 v
 rintro⟨⟨_,_,_,_⟩,c,b1,b2,l,_⟩ f ⟨g0,g2⟩ ih
 simp only at g0 g2 ih
 unfold c3P
 dsimp only
 refine a0p (a0C _ (by(repeat ((try dsimp only);first|assumption|(with_reducible first|apply a1D|apply a1m|apply a0b|apply a0c|apply a0f|apply a0Y))))) ?_
 have b2':0<=((G34 (((),2,()),c,())).fst.fst:Int) /\ ((G34 (((),2,()),c,())).fst.fst:Int)<2:=a1g 2 c g0 (by decide)
 have c2:a0g (G34 (((),2,()),c,())).snd.fst:=by(repeat ((try dsimp only);first|assumption|(with_reducible first|apply a1D|apply a1m|apply a0b|apply a0c|apply a0f|apply a0Y)))
 generalize G34 (((),2,()),c,())=D at *
 have bd:∀z:Int,z=D.fst.fst->IntKind.i64.wrap (20+z)<=21:=fun z e=>by
  have h1:0<=z:=e ▸ b2'.1
  have h2:z<2:=e ▸ b2'.2
  rw[w64 (by omega) (by omega)]
  omega
 have bd':=bd _ rfl
 by_cases hl:(l.length:Int)<IntKind.i64.wrap (20+D.fst.fst)
 ·refine a0p (by simpa using hl) ?_
  refine a0p ?_ ?_
  ·refine a0K ?_
   simp only[List.length_set,List.length_replicate]
   omega
  have hl':(l.length:Int)<21:=Int.lt_of_lt_of_le hl bd'
  refine ih _ ⟨c2,?_⟩ ?_<;>simp only[List.length_append,List.length_set,List.length_replicate]<;>omega
 ·have:decide ((l.length:Int)<IntKind.i64.wrap (20+D.fst.fst))=false:=by simpa using hl
  rw[this]
  exact a0v ⟨c2,g2⟩
theorem f7J (v:a5p) (h:a0g v.2.1) (h1:v.2.2.2.2.1.length<=22):b0M v=true:=a2B (c4U v h h1)
theorem f7K (v:a5p) (h:a0g v.2.1) (h1:v.2.2.2.2.1.length<=22):a0g (a8j v).2.1 /\ (a8j v).2.2.2.2.1.length<=22:=a2S _ (c4U v h h1)
theorem c0d (x:I76.den) (h:a0g x.2.1):Pst (F76 x) fun y=>a0g y.2.1 /\ y.1.1.2.1.length<=22:=by
 unfold F76 r76
 dsimp only
 refine a0p (a0C _ (by(repeat ((try dsimp only);first|assumption|(with_reducible first|apply a1D|apply a1m|apply a0b|apply a0c|apply a0f|apply a0Y))))) ?_
 refine a0p (a0C _ (by(repeat ((try dsimp only);first|assumption|(with_reducible first|apply a1D|apply a1m|apply a0b|apply a0c|apply a0f|apply a0Y))))) ?_
 have c9:a0g (G34 (((),9,()),x.snd)).snd.fst:=by(repeat ((try dsimp only);first|assumption|(with_reducible first|apply a1D|apply a1m|apply a0b|apply a0c|apply a0f|apply a0Y)))
 have b3:0<=((G34 (((),3,()),(G34 (((),9,()),x.snd)).snd)).fst.fst:Int) /\ ((G34 (((),3,()),(G34 (((),9,()),x.snd)).snd)).fst.fst:Int)<3:=a1g 3 (G34 (((),9,()),x.snd)).2.1 c9 (by decide)
 have c3:a0g (G34 (((),3,()),(G34 (((),9,()),x.snd)).snd)).snd.fst:=by(repeat ((try dsimp only);first|assumption|(with_reducible first|apply a1D|apply a1m|apply a0b|apply a0c|apply a0f|apply a0Y)))
 generalize G34 (((),3,()),(G34 (((),9,()),x.snd)).snd)=D at *
 generalize G34 (((),9,()),x.snd)=B at *
 have bd:∀z:Int,z=D.fst.fst->1<=IntKind.i64.wrap (1+z) /\ IntKind.i64.wrap (1+z)<=3:=fun z e=>by
  have h1:0<=z:=e ▸ b3.1
  have h2:z<3:=e ▸ b3.2
  rw[w64 (by omega) (by omega)]
  omega
 have p:=d7s (((),(),(),IntKind.i64.wrap (1+D.fst.fst),()),D.snd.fst,(0,0,0,0,(),0,0,0,0,()),(0,-20,IntKind.i64.wrap (B.fst.fst-4),20,(),0,0,0,0,()),[],()) c3 (Int.le_trans (by decide) (bd _ rfl).1) (by simpa using(bd _ rfl).2) (by simpa using(bd _ rfl).1)
 refine a0p (a2B p) ?_
 obtain⟨y,ey,hy⟩:=p
 have ex:b2y (((),(),(),IntKind.i64.wrap (1+D.fst.fst),()),D.snd.fst,(0,0,0,0,(),0,0,0,0,()),(0,-20,IntKind.i64.wrap (B.fst.fst-4),20,(),0,0,0,0,()),[],())=y:=by unfold b2y;rw[ey];rfl
 rw[ex]
 obtain⟨cy,ly,ly1⟩:=hy
 refine a0p (c2j _ (by(repeat ((try dsimp only);first|assumption|(with_reducible first|apply a1D|apply a1m|apply a0b|apply a0c|apply a0f|apply a0Y))))) ?_
 refine a0p (c2j _ (by(repeat ((try dsimp only);first|assumption|(with_reducible first|apply a1D|apply a1m|apply a0b|apply a0c|apply a0f|apply a0Y))))) ?_
 refine a0p (a0C _ (by(repeat ((try dsimp only);first|assumption|(with_reducible first|apply a1D|apply a1m|apply a0b|apply a0c|apply a0f|apply a0Y))))) ?_
 have cA:a0g (G34 (((),20,()),(c3N (((),(50,20,()),20,()),(c3N (((),(50,-20,()),20,()),y.snd.fst,())).snd)).snd)).snd.fst:=by(repeat ((try dsimp only);first|assumption|(with_reducible first|apply a1D|apply a1m|apply a0b|apply a0c|apply a0f|apply a0Y)))
 generalize G34 (((),20,()),(c3N (((),(50,20,()),20,()),(c3N (((),(50,-20,()),20,()),y.snd.fst,())).snd)).snd)=A at *
 have l3:y.2.2.2.2.1.length<=22:=by omega
 refine a1q (fun _=>?_) (fun _=>?_)
 ·exact a0v ⟨cA,by simp⟩
 refine a1q (fun _=>?_) (fun _=>?_)
 ·refine a0p ?_ ?_
  ·have:decide (0<((y.snd.snd.snd.snd.fst.length:Nat):Int))=true:=by simp;omega
   rw[this];rfl
  exact a0v ⟨cA,by simp only[List.length_set];exact l3⟩
 refine a1q (fun _=>?_) (fun _=>?_)
 ·refine a0p (e3o _ (by(repeat ((try dsimp only);first|assumption|(with_reducible first|apply a1D|apply a1m|apply a0b|apply a0c|apply a0f|apply a0Y))))) ?_
  exact a0v ⟨by(repeat ((try dsimp only);first|assumption|(with_reducible first|apply a1D|apply a1m|apply a0b|apply a0c|apply a0f|apply a0Y))),l3⟩
 refine a1q (fun _=>?_) (fun _=>?_)
 ·exact a0v ⟨cA,l3⟩
 refine a1q (fun _=>?_) (fun _=>?_)
 ·refine a0p (f7J _ cA l3) ?_
  exact a0v (f7K _ cA l3)
 ·exact a0v ⟨cA,l3⟩
theorem e8Z (x:I76.den) (h:a0g x.2.1):K76 x=true:=a2B (c0d x h)
theorem c0e (x:I33.den) (h:a0g x.2.1):Pst (F33 x) fun y=>a0g y.2.1:=by
 unfold F33 r33
 dsimp only
 refine a0p (d1R _ (by(repeat ((try dsimp only);first|assumption|(with_reducible first|apply a0b|apply a0h|apply a0d|apply a0c|apply a0f))))) ?_
 refine a0p (d1R _ (by(repeat ((try dsimp only);first|assumption|(with_reducible first|apply a0b|apply a0h|apply a0d|apply a0c|apply a0f))))) ?_
 exact a0v (by(repeat ((try dsimp only);first|assumption|(with_reducible first|apply a0b|apply a0h|apply a0d|apply a0c|apply a0f))))
theorem e0r (x:I33.den) (h:a0g x.2.1):K33 x=true:=a2B (c0e x h)
theorem a0P (x:I33.den) (h:a0g x.2.1):a0g (G33 x).2.1:=a2S _ (c0e x h)
theorem d7t (x:Den c1F) (h:x.1.length<=1048576):Pst (f0T x) fun _=>True:=by
 have c0:=c9Y (x,()) h
 unfold f0T f4v
 dsimp only
 refine a0p (d9v (x,()) h) ?_
 generalize G30 (x,())=A at *
 refine a0p (e0r _ (by(repeat ((try dsimp only);first|assumption|(with_reducible first|apply a0P|apply a0b|apply a0h|apply a0d|apply a0c|apply a0f))))) ?_
 refine a0p (a0C _ (by(repeat ((try dsimp only);first|assumption|(with_reducible first|apply a0P|apply a0b|apply a0h|apply a0d|apply a0c|apply a0f))))) ?_
 refine a1q (fun _=>a0v trivial) (fun _=>?_)
 refine a1q (fun _=>a0v trivial) (fun _=>?_)
 refine a1q (fun _=>?_) (fun _=>a0v trivial)
 refine a0p (a8x _ (by(repeat ((try dsimp only);first|assumption|(with_reducible first|apply a0P|apply a0b|apply a0h|apply a0d|apply a0c|apply a0f))))) ?_
 refine a0p (a8x _ (by(repeat ((try dsimp only);first|assumption|(with_reducible first|apply a0P|apply a0b|apply a0h|apply a0d|apply a0c|apply a0f))))) ?_
 exact a0v trivial
theorem e3p (x:Den c1F) (h:x.1.length<=1048576):d5W x=true:=a2B (d7t x h)
theorem d2a (v:b0I) (h:a0g v.2.1) (h0:0<=v.1.2.2.2.2.2.1):Pst (e2i v) fun y=>a0g y.2.1 /\ y.1.2.2.2.1=v.1.2.2.2.1 /\ y.2.2.2.2.1=v.2.2.2.2.1:=by
 refine a0W (q:=d5P K34 G34 K77 G77) (fun u=>a0g u.2.1 /\ u.1.2.2.2.1=v.1.2.2.2.1 /\ u.2.2.2.2.1=v.2.2.2.2.1 /\ 0<=u.1.2.2.2.2.2.1)
  (fun _ r=>Pst r fun y=>a0g y.2.1 /\ y.1.2.2.2.1=v.1.2.2.2.1 /\ y.2.2.2.2.1=v.2.2.2.2.1) (fun u=>(13-u.1.2.2.2.2.2.1).toNat) ?_ _ _ ⟨h,rfl,rfl,h0⟩ ?_
 ·rintro⟨⟨_,_,_,n,_,i,_⟩,⟨c0,c1,c2,_⟩,_,_,l,st,_⟩ f ⟨g0,g1,g2,g3⟩ ih
  dsimp only at g0 g1 g2 g3 ih
  unfold d5P
  dsimp only
  by_cases hk:i<13
  ·refine a0p (by simpa using hk) ?_
   refine a0p (a0C _ (by(repeat ((try dsimp only);first|assumption|(with_reducible first|apply a0P|apply a0b|apply a0h|apply a0d|apply a0c|apply a0f))))) ?_
   refine a0p (a0C _ (by(repeat ((try dsimp only);first|assumption|(with_reducible first|apply a0P|apply a0b|apply a0h|apply a0d|apply a0c|apply a0f))))) ?_
   refine a0p (by simp;omega) ?_
   have e:IntKind.i64.wrap (i+1)=i+1:=w64 (by omega) (by omega)
   refine ih _ ⟨by(repeat ((try dsimp only);first|assumption|(with_reducible first|apply a0P|apply a0b|apply a0h|apply a0d|apply a0c|apply a0f))),g1,g2,?_⟩ ?_
   ·show 0<=IntKind.i64.wrap (i+1);omega
   ·show(13-IntKind.i64.wrap (i+1)).toNat<(13-i).toNat;omega
  ·have hd:decide (i<13)=false:=by simpa using hk
   rw[hd]
   exact a0v ⟨g0,g1,g2⟩
 ·exact Nat.lt_of_lt_of_le (m:=1000) (by omega) (Nat.le_add_left _ _)
theorem b6D (v:b4A) (h:a0g v.2.1) (h0:0<=v.1.2.2.2.1) (h1:(v.2.2.2.2.1.length:Int)+v.1.2.2.2.1<=3) (h2:1<=(v.2.2.2.2.1.length:Int)+v.1.2.2.2.1):Pst (e2l v) fun y=>a0g y.2.1 /\ 1<=y.2.2.2.2.1.length /\ y.2.2.2.2.1.length<=3:=by
 refine a0W (q:=d5Q K34 G34 K77 G77 a7s a7t) (fun u=>a0g u.2.1 /\ 0<=u.1.2.2.2.1 /\ (u.2.2.2.2.1.length:Int)+u.1.2.2.2.1<=3 /\ 1<=(u.2.2.2.2.1.length:Int)+u.1.2.2.2.1)
  (fun _ r=>Pst r fun y=>a0g y.2.1 /\ 1<=y.2.2.2.2.1.length /\ y.2.2.2.2.1.length<=3) (fun u=>u.1.2.2.2.1.toNat) ?_ _ _ ⟨h,h0,h1,h2⟩ ?_
 ·rintro⟨⟨_,_,_,n,_⟩,⟨c0,c1,c2,_⟩,_,_,l,_⟩ f ⟨g0,g1,g2,g3⟩ ih
  dsimp only at g0 g1 g2 g3 ih
  unfold d5Q
  dsimp only
  by_cases hk:n>0
  ·refine a0p (by simpa using hk) ?_
   refine a0p (a0C _ (by(repeat ((try dsimp only);first|assumption|(with_reducible first|apply a0P|apply a0b|apply a0h|apply a0d|apply a0c|apply a0f))))) ?_
   refine a0p (a0C _ (by(repeat ((try dsimp only);first|assumption|(with_reducible first|apply a0P|apply a0b|apply a0h|apply a0d|apply a0c|apply a0f))))) ?_
   have c5:a0g (G34 (((),8001,()),(G34 (((),8001,()),(c0,c1,c2,()),())).snd)).snd.fst:=by(repeat ((try dsimp only);first|assumption|(with_reducible first|apply a0P|apply a0b|apply a0h|apply a0d|apply a0c|apply a0f)))
   generalize hA:G34 (((),8001,()),(c0,c1,c2,()),())=A at *
   generalize hB:G34 (((),8001,()),A.snd)=B at *
   generalize (FloatKind.nearest FloatKind.f64 (IntKind.wrap IntKind.i64 (A.fst.fst-4000)),FloatKind.nearest FloatKind.f64 (IntKind.wrap IntKind.i64 (B.fst.fst-4000)))=at0
   have hl:=d2a (((),(),(),n,(),0,()),B.snd.fst,((),(),()),((),(),()),l,(at0,(0,0),(0,0),(0,0),(0,0),(0,0),(0,0),(0,0),(0,0),(0,0),(0,0),(0,0),(0,0),(0,0),()),()) c5 (Int.le_refl 0)
   obtain⟨y,hy,q1,q2,q3⟩:=hl
   have e1:a7s (((),(),(),n,(),0,()),B.snd.fst,((),(),()),((),(),()),l,(at0,(0,0),(0,0),(0,0),(0,0),(0,0),(0,0),(0,0),(0,0),(0,0),(0,0),(0,0),(0,0),(0,0),()),())=true:=by unfold a7s;rw[hy];rfl
   have e2:a7t (((),(),(),n,(),0,()),B.snd.fst,((),(),()),((),(),()),l,(at0,(0,0),(0,0),(0,0),(0,0),(0,0),(0,0),(0,0),(0,0),(0,0),(0,0),(0,0),(0,0),(0,0),()),())=y:=by unfold a7t;rw[hy];rfl
   refine a0p e1 ?_
   rw[e2]
   obtain⟨⟨_,_,_,n',_,_⟩,c,_,_,l',st,_⟩:=y
   dsimp only at q1 q2 q3
   subst q2 q3
   dsimp only
   have e:IntKind.i64.wrap (n'-1)=n'-1:=w64 (by omega) (by omega)
   refine a0p (a2b _ (by(repeat ((try dsimp only);first|assumption|(with_reducible first|apply a0P|apply a0b|apply a0h|apply a0d|apply a0c|apply a0f))))) ?_
   refine a1q (fun _=>?_) (fun _=>?_)
   all_goals
    refine a0p (a0K (by simp only[List.length_set,List.length_replicate];omega)) ?_
    refine ih _ ⟨by(repeat ((try dsimp only);first|assumption|(with_reducible first|apply a0P|apply a0b|apply a0h|apply a0d|apply a0c|apply a0f))),?_,?_,?_⟩ ?_
    ·show 0<=IntKind.i64.wrap (n'-1);omega
    ·simp only[e,List.length_append,List.length_set,List.length_replicate];omega
    ·simp only[e,List.length_append,List.length_set,List.length_replicate];omega
    ·show(IntKind.i64.wrap (n'-1)).toNat<n'.toNat;omega
  ·have hd:decide (n>0)=false:=by simpa using hk
   rw[hd]
   exact a0v ⟨g0,by show 1<=l.length;omega,by show l.length<=3;omega⟩
 ·unfold e2k
  have:=h0
  omega
theorem c6V (v:a7r) (h:a0g v.2.1) (h0:0<=v.1.2.2.2.2.1) (h1:(v.2.2.2.2.2.1.length:Int)+v.1.2.2.2.2.1<=5) (h2:1<=(v.2.2.2.2.2.1.length:Int)+v.1.2.2.2.2.1):Pst (c9I v) fun y=>a0g y.2.1 /\ y.2.2.2.2.1=v.2.2.2.2.1 /\ 1<=y.2.2.2.2.2.1.length /\ y.2.2.2.2.2.1.length<=5:=by
 refine a0W (q:=c3K K34 G34 K77 G77) (fun u=>a0g u.2.1 /\ u.2.2.2.2.1=v.2.2.2.2.1 /\ 0<=u.1.2.2.2.2.1 /\ (u.2.2.2.2.2.1.length:Int)+u.1.2.2.2.2.1<=5 /\ 1<=(u.2.2.2.2.2.1.length:Int)+u.1.2.2.2.2.1)
  (fun _ r=>Pst r fun y=>a0g y.2.1 /\ y.2.2.2.2.1=v.2.2.2.2.1 /\ 1<=y.2.2.2.2.2.1.length /\ y.2.2.2.2.2.1.length<=5) (fun u=>u.1.2.2.2.2.1.toNat) ?_ _ _ ⟨h,rfl,h0,h1,h2⟩ ?_
 ·rintro⟨⟨_,_,_,t,n,_⟩,⟨c0,c1,c2,_⟩,_,_,l,hs,_⟩ f ⟨g0,g1,g2,g3,g4⟩ ih
  dsimp only at g0 g1 g2 g3 g4 ih
  unfold c3K
  dsimp only
  by_cases hk:n>0
  ·refine a0p (by simpa using hk) ?_
   refine a0p (a0K (by simp only[List.length_set,List.length_replicate];omega)) ?_
   refine a0p (a0C _ (by(repeat ((try dsimp only);first|assumption|(with_reducible first|apply a0P|apply a0b|apply a0h|apply a0d|apply a0c|apply a0f))))) ?_
   refine a0p (a0C _ (by(repeat ((try dsimp only);first|assumption|(with_reducible first|apply a0P|apply a0b|apply a0h|apply a0d|apply a0c|apply a0f))))) ?_
   have e:IntKind.i64.wrap (n-1)=n-1:=w64 (by omega) (by omega)
   refine ih _ ⟨by(repeat ((try dsimp only);first|assumption|(with_reducible first|apply a0P|apply a0b|apply a0h|apply a0d|apply a0c|apply a0f))),g1,?_,?_,?_⟩ ?_
   ·show 0<=IntKind.i64.wrap (n-1);omega
   ·simp only[e,List.length_append,List.length_set,List.length_replicate];omega
   ·simp only[e,List.length_append,List.length_set,List.length_replicate];omega
   ·show(IntKind.i64.wrap (n-1)).toNat<n.toNat;omega
  ·have hd:decide (n>0)=false:=by simpa using hk
   rw[hd]
   exact a0v ⟨g0,g1,by show 1<=hs.length;omega,by show hs.length<=5;omega⟩
 ·unfold c9H
  have:=h0
  omega
theorem c4V (d n:Int) (hd:0<=d /\ d<n) (hn:n<=100):1<=IntKind.i64.wrap (1+d) /\ IntKind.i64.wrap (1+d)<=n:=by
 rw[w64 (by omega) (by omega)]
 omega
theorem d2b (x:I74.den) (h:a0g x.2.1):Pst (F74 x) fun y=>a0g y.2.1 /\ (1<=y.2.2.1.length /\ y.2.2.1.length<=3) /\ 1<=y.2.2.2.1.length /\ y.2.2.2.1.length<=5:=by
 unfold F74 r74
 dsimp only
 refine a0p (a0C _ (by(repeat ((try dsimp only);first|assumption|(with_reducible first|apply a0P|apply a0b|apply a0h|apply a0d|apply a0c|apply a0f))))) ?_
 have b1:=c4V _ 3 (a1g 3 x.2.1 h (by decide)) (by decide)
 have c1:a0g (G34 (((),3,()),x.snd)).snd.fst:=by(repeat ((try dsimp only);first|assumption|(with_reducible first|apply a0P|apply a0b|apply a0h|apply a0d|apply a0c|apply a0f)))
 have b1:1<=IntKind.i64.wrap (1+(G34 (((),3,()),x.snd)).fst.fst) /\ IntKind.i64.wrap (1+(G34 (((),3,()),x.snd)).fst.fst)<=3:=b1
 generalize G34 (((),3,()),x.snd)=A at *
 generalize IntKind.i64.wrap (1+A.fst.fst)=n at *
 obtain⟨y,hy,q1,q2,q3⟩:=b6D (((),(),(),n,()),A.snd.fst,((),(),()),((),(),()),[],()) c1 (by show 0<=n;omega) (by show(0:Int)+n<=3;omega) (by show 1<=(0:Int)+n;omega)
 have e1:b0J (((),(),(),n,()),A.snd.fst,((),(),()),((),(),()),[],())=true:=by unfold b0J;rw[hy];rfl
 have e2:b0K (((),(),(),n,()),A.snd.fst,((),(),()),((),(),()),[],())=y:=by unfold b0K;rw[hy];rfl
 refine a0p e1 ?_
 rw[e2]
 obtain⟨_,c,_,_,l,_⟩:=y
 dsimp only at q1 q2 q3 ⊢
 refine a0p (a0C _ (by(repeat ((try dsimp only);first|assumption|(with_reducible first|apply a0P|apply a0b|apply a0h|apply a0d|apply a0c|apply a0f))))) ?_
 have c2:a0g (G34 (((),30000,()),c,())).snd.fst:=by(repeat ((try dsimp only);first|assumption|(with_reducible first|apply a0P|apply a0b|apply a0h|apply a0d|apply a0c|apply a0f)))
 generalize G34 (((),30000,()),c,())=B at *
 refine a0p (a0C _ (by(repeat ((try dsimp only);first|assumption|(with_reducible first|apply a0P|apply a0b|apply a0h|apply a0d|apply a0c|apply a0f))))) ?_
 have b2:=c4V _ 5 (a1g 5 B.2.1 c2 (by decide)) (by decide)
 have c3:a0g (G34 (((),5,()),B.snd)).snd.fst:=by(repeat ((try dsimp only);first|assumption|(with_reducible first|apply a0P|apply a0b|apply a0h|apply a0d|apply a0c|apply a0f)))
 have b2:1<=IntKind.i64.wrap (1+(G34 (((),5,()),B.snd)).fst.fst) /\ IntKind.i64.wrap (1+(G34 (((),5,()),B.snd)).fst.fst)<=5:=b2
 generalize G34 (((),5,()),B.snd)=C at *
 generalize IntKind.i64.wrap (1+C.fst.fst)=m at *
 obtain⟨y,hy,r1,r2,r3,r4⟩:=c6V (((),(),(),B.fst.fst,m,()),C.snd.fst,((),(),()),((),(),()),l,[],()) c3 (by show 0<=m;omega) (by show(0:Int)+m<=5;omega) (by show 1<=(0:Int)+m;omega)
 have e3:a6C (((),(),(),B.fst.fst,m,()),C.snd.fst,((),(),()),((),(),()),l,[],())=true:=by unfold a6C;rw[hy];rfl
 have e4:a6D (((),(),(),B.fst.fst,m,()),C.snd.fst,((),(),()),((),(),()),l,[],())=y:=by unfold a6D;rw[hy];rfl
 refine a0p e3 ?_
 rw[e4]
 obtain⟨_,c',_,_,l',hs,_⟩:=y
 dsimp only at r1 r2 r3 r4 ⊢
 subst r2
 exact a0v ⟨r1,⟨q2,q3⟩,r3,r4⟩
theorem e0s (x:I74.den) (h:a0g x.2.1):K74 x=true:=a2B (d2b x h)
theorem e0t (x:I74.den) (h:a0g x.2.1):a0g (G74 x).2.1 /\ (1<=(G74 x).2.2.1.length /\ (G74 x).2.2.1.length<=3) /\ 1<=(G74 x).2.2.2.1.length /\ (G74 x).2.2.2.1.length<=5:=a2S _ (d2b x h)
theorem e9a (d:Int) (h:0<=d /\ d<2):IntKind.i64.wrap (20+d)<=21:=by
 rw[w64 (by omega) (by omega)]
 omega
theorem c2k (v:a5q) (h:a0g v.2.1) (h1:1<=v.2.2.2.2.1.length) (h2:v.2.2.2.2.1.length<=21):Pst (c9V v) fun y=>a0g y.2.1 /\ y.2.2.2.2.1.length<=21 /\ y.2.2.2.2.2.1=v.2.2.2.2.2.1:=by
 refine a0W (q:=c3R K74 G74 K34 G34 K82 G82 d5W d9o d9p d9q a7R a7S) (fun u=>a0g u.2.1 /\ 1<=u.2.2.2.2.1.length /\ u.2.2.2.2.1.length<=21 /\ u.2.2.2.2.2.1=v.2.2.2.2.2.1)
  (fun _ r=>Pst r fun y=>a0g y.2.1 /\ y.2.2.2.2.1.length<=21 /\ y.2.2.2.2.2.1=v.2.2.2.2.2.1) (fun u=>21-u.2.2.2.2.1.length) ?_ _ _ ⟨h,h1,h2,rfl⟩ ?_
 ·rintro⟨_,⟨c0,c1,c2,_⟩,_,_,l,hs,_⟩ f ⟨g0,g1,g2,g3⟩ ih
  dsimp only at g0 g1 g2 g3 ih
  unfold c3R
  dsimp only
  refine a0p (a0C _ (by(repeat ((try dsimp only);first|assumption|(with_reducible first|apply a0P|apply a0b|apply a0h|apply a0d|apply a0c|apply a0f))))) ?_
  have b2:=a1g 2 (c0,c1,c2,()) g0 (by decide)
  have e:IntKind.i64.wrap (20+(G34 (((),2,()),(c0,c1,c2,()),())).fst.fst)<=21:=e9a _ b2
  refine a1q (fun hb=>?_) (fun _=>a0v ⟨by(repeat ((try dsimp only);first|assumption|(with_reducible first|apply a0P|apply a0b|apply a0h|apply a0d|apply a0c|apply a0f))),g2,g3⟩)
  have hb:(l.length:Int)<IntKind.i64.wrap (20+(G34 (((),2,()),(c0,c1,c2,()),())).fst.fst):=by simpa using hb
  refine a0p (by simp;omega) ?_
  refine a0p (a0K (by simp only[List.length_set,List.length_replicate];omega)) ?_
  refine ih _ ⟨by(repeat ((try dsimp only);first|assumption|(with_reducible first|apply a0P|apply a0b|apply a0h|apply a0d|apply a0c|apply a0f))),?_,?_,g3⟩ ?_<;>simp only[List.length_append,List.length_set,List.length_replicate]<;>omega
 ·unfold c9U
  omega
def p79 (x:I79.den):Bool:=d7r x.2.1
def a7A (t:Den S30):Prop:=t.1.length<=21 /\ t.2.1.length<=6
def Q79 (x:I79.den) (y:O79.den):Prop:=a0g y.2.1 /\ a7A y.1.1
theorem e79:Nonempty (Ch I79 O79 p79 Q79):=⟨⟨fun _=>((([],[],()),()),(e0q,())),fun _ _=>⟨a6I,by show 0<=21;decide,by show 0<=6;decide⟩⟩⟩
theorem f7L:a2L Tryz.prog 79 (a3o true I79 O79 p79 Q79 e79):=b7S e7e (N:=N79 p128 Q128 e128) (a2M ⟨e8Y,trivial⟩) f8G a1w fun x hx k hk=>by
 have hk:∀y:O79.den,a0g y.2.1->y.1.1.1.length<=21->y.1.1.2.1.length<=6->k y=some ():=fun y h1 h2 h3=>hk y ⟨h1,h2,h3⟩
 have h:a0g x.2.1:=a1s.1 hx
 refine Eq.trans (f4C _ _ _ _ _ _ _ _ _ _ _ _ _ _ _ _ _ k x) ?_
 unfold f8L
 dsimp only
 haveI:=e128
 have t0:=e0t (((),()),x.snd) h
 refine a0H (e0s _ h) ?_
 generalize G74 (((),()),x.snd)=T at *
 obtain⟨_,c,l,hs,_⟩:=T
 dsimp only at t0 ⊢
 obtain⟨t1,⟨t2,t3⟩,t4,t5⟩:=t0
 refine a0H (a0C _ (by(repeat ((try dsimp only);first|assumption|(with_reducible first|apply a0P|apply a0b|apply a0h|apply a0d|apply a0c|apply a0f))))) ?_
 have b1:=a1g (l.length:Int) c t1 (by omega)
 have c1:a0g (G34 (((),(l.length:Int),()),c,())).snd.fst:=by(repeat ((try dsimp only);first|assumption|(with_reducible first|apply a0P|apply a0b|apply a0h|apply a0d|apply a0c|apply a0f)))
 generalize G34 (((),(l.length:Int),()),c,())=A at *
 obtain⟨⟨i,_⟩,cA,_⟩:=A
 dsimp only at b1 c1 ⊢
 refine a0H (a0C _ (by(repeat ((try dsimp only);first|assumption|(with_reducible first|apply a0P|apply a0b|apply a0h|apply a0d|apply a0c|apply a0f))))) ?_
 have c2:a0g (G34 (((),24,()),cA,())).snd.fst:=by(repeat ((try dsimp only);first|assumption|(with_reducible first|apply a0P|apply a0b|apply a0h|apply a0d|apply a0c|apply a0f)))
 generalize G34 (((),24,()),cA,())=B at *
 have din:(decide (0<=i)&&decide (i<(l.length:Int)))=true:=by simp only[Bool.and_eq_true,decide_eq_true_eq];exact b1
 refine a1Z (fun _=>?_) (fun _=>?_)
 ·refine a0H (b8F _ c2) ?_
  have c3:=e2s (((),()),B.snd) c2
  generalize G82 (((),()),B.snd)=C at *
  refine a0H (e3p _ (by simp)) ?_
  refine a0H din ?_
  exact hk _ c3 (by simp only[List.length_set];omega) (by show hs.length<=6;omega)
 refine a1Z (fun _=>?_) (fun _=>?_)
 ·refine a0A fun g=>?_
  refine a0H (a0C _ (by(repeat ((try dsimp only);first|assumption|(with_reducible first|apply a0P|apply a0b|apply a0h|apply a0d|apply a0c|apply a0f))))) ?_
  have b4:=a1g 13 B.2.1 c2 (by decide)
  have b4:0<=(G34 (((),13,()),B.snd)).fst.fst /\ (G34 (((),13,()),B.snd)).fst.fst<13:=b4
  have c4:a0g (G34 (((),13,()),B.snd)).snd.fst:=by(repeat ((try dsimp only);first|assumption|(with_reducible first|apply a0P|apply a0b|apply a0h|apply a0d|apply a0c|apply a0f)))
  generalize G34 (((),13,()),B.snd)=D at *
  have hp:p128 (((),()),D.snd)=true:=a1s.2 c4
  have q1:a0g (g.val (((),()),D.snd)).2.1:=g.2 _ hp
  refine a0H hp ?_
  generalize g.val (((),()),D.snd)=C at *
  refine a0H din ?_
  refine a0H (by simp only[Bool.and_eq_true,decide_eq_true_eq];exact b4) ?_
  exact hk _ q1 (by simp only[List.length_set];omega) (by show hs.length<=6;omega)
 refine a1Z (fun _=>?_) (fun _=>?_)
 ·refine a0H (a0C _ (by(repeat ((try dsimp only);first|assumption|(with_reducible first|apply a0P|apply a0b|apply a0h|apply a0d|apply a0c|apply a0f))))) ?_
  have b5:=a1g (hs.length:Int) B.2.1 c2 (by omega)
  have b5:0<=(G34 (((),(hs.length:Int),()),B.snd)).fst.fst /\ (G34 (((),(hs.length:Int),()),B.snd)).fst.fst<(hs.length:Int):=b5
  have c5:a0g (G34 (((),(hs.length:Int),()),B.snd)).snd.fst:=by(repeat ((try dsimp only);first|assumption|(with_reducible first|apply a0P|apply a0b|apply a0h|apply a0d|apply a0c|apply a0f)))
  generalize G34 (((),(hs.length:Int),()),B.snd)=D at *
  refine a0H (b6C _ (by(repeat ((try dsimp only);first|assumption|(with_reducible first|apply a0P|apply a0b|apply a0h|apply a0d|apply a0c|apply a0f))))) ?_
  refine a0H (by simp only[Bool.and_eq_true,decide_eq_true_eq];exact b5) ?_
  exact hk _ (by(repeat ((try dsimp only);first|assumption|(with_reducible first|apply a0P|apply a0b|apply a0h|apply a0d|apply a0c|apply a0f)))) (by show l.length<=21;omega) (by simp only[List.length_set];omega)
 refine a1Z (fun _=>hk _ c2 (by show l.length<=21;omega) (by show 0<=6;decide)) (fun _=>?_)
 refine a1Z (fun _=>hk _ c2 (by show 0<=21;decide) (by show hs.length<=6;omega)) (fun _=>?_)
 refine a1Z (fun _=>?_) (fun _=>?_)
 ·obtain⟨y,hy,r1,r2,r3⟩:=c2k (((),(),(),()),B.snd.fst,((),(),()),((),(),()),l,hs,()) c2 t2 (by show l.length<=21;omega)
  have e3:a6F (((),(),(),()),B.snd.fst,((),(),()),((),(),()),l,hs,())=true:=by unfold a6F;rw[hy];rfl
  have e4:a6G (((),(),(),()),B.snd.fst,((),(),()),((),(),()),l,hs,())=y:=by unfold a6G;rw[hy];rfl
  refine a0H e3 ?_
  rw[e4]
  obtain⟨_,c',_,_,l',hs',_⟩:=y
  dsimp only at r1 r2 r3 ⊢
  subst r3
  exact hk _ r1 r2 (by show hs'.length<=6;omega)
 refine a1Z (fun _=>?_) (fun _=>hk _ c2 (by show l.length<=21;omega) (by show hs.length<=6;omega))
 have e5:IntKind.i64.wrap ((hs.length:Int)-1)=(hs.length:Int)-1:=w64 (by omega) (by omega)
 rw[e5]
 refine a0H (by simp only[Bool.and_eq_true,decide_eq_true_eq];omega) ?_
 refine a0H (a0K (by simp only[List.length_set,List.length_replicate];omega)) ?_
 exact hk _ c2 (by show l.length<=21;omega) (by simp only[List.length_append,List.length_set,List.length_replicate];omega)
def f7M:List (Nat×TI):=[
 (1,⟨1,8,false,.nil,[.pois],[],0,.other⟩),
 (2,⟨1,8,false,.int .i64,[.int .i64 0],[],0,.int .i64⟩),
 (3,⟨1,8,false,.int .i64,[.int .i64 0],[],0,.int .i64⟩),
 (4,⟨1,1,false,.bool,[.bool false],[],0,.bool⟩),
 (5,⟨1,1,false,.int .u8,[.int .u8 0],[],0,.int .u8⟩),
 (9,⟨1,16,false,.str,[.str ByteArray.empty],[],0,.string⟩),
 (10,⟨1,16,false,.str,[.str ByteArray.empty],[],0,.string⟩),
 (22,⟨1,24,false,.slice (.int .u8),[.nil (.int .u8)],[],5,.slice⟩),
 (24,⟨1,24,false,.slice .jnk,[.nil (.flt .f32)],[],62,.slice⟩),
 (25,⟨1,24,false,.slice (.int .i64),[.nil (.int .i64)],[],3,.slice⟩),
 (26,⟨1,24,false,.slice (.slice .jnk),[.nil (.slice .jnk)],[],24,.slice⟩),
 (28,⟨3,72,true,S27,[.nil (.flt .f32),.nil (.int .i64),.nil (.slice .jnk)],[(0,1,false),(1,1,false),(2,1,false)],0,.struct⟩),
 (50,⟨1,24,false,.slice (.bool),[.nil (.bool)],[],4,.slice⟩),
 (62,⟨1,4,false,.flt .f32,[.flt .f32 0],[],0,.float .f32⟩),
 (104,⟨1,8,false,.int .u64,[.int .u64 0],[],0,.int .u64⟩),
 (109,⟨1,8,false,.flt .f64,[.flt .f64 0],[],0,.float .f64⟩),
 (122,⟨3,40,true,a2N,[.nil (.int .u8),.int .i64 0,.int .i64 0],[(0,1,false),(1,1,false),(2,1,false)],0,.struct⟩),
 (142,⟨1,8,false,.nil,[.pois],[],0,.other⟩),
 (208,⟨1,8,false,.nil,[.pois],[],0,.other⟩),
 (240,⟨1,8,false,.nil,[.pois],[],0,.other⟩)]
theorem d2c:f0e Tryz.prog f7M=true:=by kernel_rfl
abbrev a5Z:Sg:=⟨[.ptr 0],[.box (a2N)]⟩
abbrev b1g:Sg:=⟨[.mix [.ref (.flt .f32) 1,.ref (.int .i64) 2,.ref (.slice (.jnk)) 3]],[.box (a2N),.arr (.flt .f32),.arr (.int .i64),.arr (.slice (.jnk))]⟩
abbrev a4z:Type:=((Unit×(Unit×(Unit×(Int×Unit))))×(((List (Den (.int .u8)))×(Int×(Int×Unit)))×((Unit×(Unit×(Unit×Unit)))×((Unit×(Unit×(Unit×Unit)))×((List (Den (.int .i64)))×Unit)))))
def a9G:ShS:=⟨[(0,.one (.ptr 0 0)),(2,.one (.ptr 1 0)),(3,.one (.ptr 2 0)),(5,.one (.int .i64))],[(0,.box [.sl (.int .u8),.int .i64,.int .i64]),(1,.box [.nil (.flt .f32),.nil (.int .i64),.nil (.slice (.jnk))]),(2,.box [.nil (.flt .f32),.ref (.int .i64) 3,.nil (.slice (.jnk))]),(3,.arr (.int .i64))],4,1⟩
abbrev b1h:Type:=((Unit×(Unit×(Unit×Unit)))×(((List (Den (.int .u8)))×(Int×(Int×Unit)))×((Unit×(Unit×(Unit×Unit)))×((Unit×(Unit×(Unit×Unit)))×((List (Den (.int .i64)))×Unit)))))
def b1i:ShS:=⟨[(0,.one (.ptr 0 0)),(2,.one (.ptr 1 0)),(3,.one (.ptr 2 0))],[(0,.box [.sl (.int .u8),.int .i64,.int .i64]),(1,.box [.nil (.flt .f32),.nil (.int .i64),.nil (.slice (.jnk))]),(2,.box [.nil (.flt .f32),.ref (.int .i64) 3,.nil (.slice (.jnk))]),(3,.arr (.int .i64))],4,1⟩
abbrev a3c:Type:=((Unit×(Unit×(Unit×(Nat×(Int×Unit)))))×(((List (Den (.int .u8)))×(Int×(Int×Unit)))×((Unit×(Unit×(Unit×Unit)))×((Unit×(Unit×(Unit×Unit)))×((List (Den (.flt .f32)))×((List (Den (.int .i64)))×((List (Den (.slice (.jnk))))×Unit)))))))
def a7B:ShS:=⟨[(0,.one (.ptr 0 0)),(2,.one (.ptr 1 0)),(3,.one (.ptr 2 0)),(6,.one (.flt .f32)),(7,.one (.int .i64))],[(0,.box [.sl (.int .u8),.int .i64,.int .i64]),(1,.box [.nil (.flt .f32),.nil (.int .i64),.nil (.slice (.jnk))]),(2,.box [.ref (.flt .f32) 3,.ref (.int .i64) 4,.ref (.slice (.jnk)) 5]),(3,.arr (.flt .f32)),(4,.arr (.int .i64)),(5,.arr (.slice (.jnk)))],6,1⟩
abbrev a7C:Type:=((Unit×(Unit×Unit))×(((List (Den (.int .u8)))×(Int×(Int×Unit)))×((Unit×(Unit×(Unit×Unit)))×((Unit×(Unit×(Unit×Unit)))×((List (Den (.flt .f32)))×((List (Den (.int .i64)))×((List (Den (.slice (.jnk))))×Unit)))))))
def a8y:ShS:=⟨[(2,.one (.ptr 1 0)),(3,.one (.ptr 2 0))],[(0,.box [.sl (.int .u8),.int .i64,.int .i64]),(1,.box [.nil (.flt .f32),.nil (.int .i64),.nil (.slice (.jnk))]),(2,.box [.ref (.flt .f32) 3,.ref (.int .i64) 4,.ref (.slice (.jnk)) 5]),(3,.arr (.flt .f32)),(4,.arr (.int .i64)),(5,.arr (.slice (.jnk)))],6,1⟩
abbrev a2t:Type:=((Unit×(Unit×(Unit×(Nat×(Int×(Unit×(Int×Unit)))))))×(((List (Den (.int .u8)))×(Int×(Int×Unit)))×((Unit×(Unit×(Unit×Unit)))×((Unit×(Unit×(Unit×Unit)))×((List (Den (.flt .f32)))×((List (Den (.int .i64)))×((List (Den (.slice (.jnk))))×((List (Den (.flt .f32)))×Unit))))))))
def a7D:ShS:=⟨[(0,.one (.ptr 0 0)),(2,.one (.ptr 1 0)),(3,.one (.ptr 2 0)),(6,.one (.flt .f32)),(7,.one (.int .i64)),(8,.one (.ref (.flt .f32) 6)),(9,.one (.int .i64))],[(0,.box [.sl (.int .u8),.int .i64,.int .i64]),(1,.box [.nil (.flt .f32),.nil (.int .i64),.nil (.slice (.jnk))]),(2,.box [.ref (.flt .f32) 3,.ref (.int .i64) 4,.ref (.slice (.jnk)) 5]),(3,.arr (.flt .f32)),(4,.arr (.int .i64)),(5,.arr (.slice (.jnk))),(6,.arr (.flt .f32))],7,1⟩
abbrev a5L:Type:=((Unit×(Unit×(Unit×(Nat×(Int×((List (Den (.jnk)))×Unit))))))×(((List (Den (.int .u8)))×(Int×(Int×Unit)))×((Unit×(Unit×(Unit×Unit)))×((Unit×(Unit×(Unit×Unit)))×((List (Den (.flt .f32)))×((List (Den (.int .i64)))×((List (Den (.slice (.jnk))))×Unit)))))))
def a8z:ShS:=⟨[(0,.one (.ptr 0 0)),(2,.one (.ptr 1 0)),(3,.one (.ptr 2 0)),(6,.one (.flt .f32)),(7,.one (.int .i64)),(8,.one (.sl (.jnk)))],[(0,.box [.sl (.int .u8),.int .i64,.int .i64]),(1,.box [.nil (.flt .f32),.nil (.int .i64),.nil (.slice (.jnk))]),(2,.box [.ref (.flt .f32) 3,.ref (.int .i64) 4,.ref (.slice (.jnk)) 5]),(3,.arr (.flt .f32)),(4,.arr (.int .i64)),(5,.arr (.slice (.jnk)))],6,1⟩
noncomputable def c4W (k34 g34 k77 g77 kl6 xl6 kl12 xl12 kl17 xl17) :Env:=a0t f7M eqs [(34,a0n true I34 O34 k34 g34),(77,a0n true I77 O77 k77 g77)] 110 [.cell 2 28] [] [] [(6,a1X [0,2,3,5] [] 0 [0,2,3] [] a9G b1i kl6 xl6),(12,a1X [0,2,3,6,7] [.boxNil 3 0,.boxNil 3 2] 2 [2,3] [] a7B a8y kl12 xl12),(17,a1X [0,2,3,6,7,8,9] [] 4 [0,2,3,6,7,8] [.jnk 8] a7D a8z kl17 xl17)] [] []
noncomputable def c4X:Code:=(a0u (a0e Tryz.f73)).getD 0 .skip
noncomputable def c0f:Code:=(a0u (a0e Tryz.f73)).getD 1 .skip
noncomputable def c0g:Code:=(a0u (a0e Tryz.f73)).getD 2 .skip
def a9H (k34:KI I34) (g34:GI I34 O34) (k77:KI I77) (g77:GI I77 O77) (f:a2t->Option (a5L)) (v:a2t):Option (a5L):=
 bif (decide (v.1.2.2.2.2.2.2.1<(↑(List.length v.2.2.2.2.2.1):Int)))then
 bif (k34 (((),57,()),v.2.1,()))then
 bif (v.1.2.2.2.2.2.2.1==0)then
 let v1:=(g34 (((),57,()),v.2.1,()))
 bif (k77 (((),8,()),v1.2))then
 let v3:=(g77 (((),8,()),v1.2))
 bif (!v3.1.1)then
 bif (fgt .f32 v.1.2.2.2.1 1084227584)then
 bif (k34 (((),40,()),v3.2))then
 let v5:=(g34 (((),40,()),v3.2))
 let v8:=(List.set (List.replicate 1 (zero (Ty.flt .f32))) 0 (a0i .add .f32 0 (a0i .quo .f32 (FloatKind.nearest .f32 v5.1.1) 1098907648)))
 bif (a0F (List.length v.2.2.2.2.2.2.2.1+List.length v8))then
 f ((((),(),(),v.1.2.2.2.1,v.1.2.2.2.2.1,(),(IntKind.wrap .i64 (v.1.2.2.2.2.2.2.1+1)),()),v5.2.1,((),(),(),()),((),(),(),()),v.2.2.2.2.1,v.2.2.2.2.2.1,v.2.2.2.2.2.2.1,(v.2.2.2.2.2.2.2.1++v8),()))
 else
 none
 else
 none
 else
 let v4:=(List.set (List.replicate 1 (zero (Ty.flt .f32))) 0 0)
 bif (a0F (List.length v.2.2.2.2.2.2.2.1+List.length v4))then
 f ((((),(),(),v.1.2.2.2.1,v.1.2.2.2.2.1,(),(IntKind.wrap .i64 (v.1.2.2.2.2.2.2.1+1)),()),v3.2.1,((),(),(),()),((),(),(),()),v.2.2.2.2.1,v.2.2.2.2.2.1,v.2.2.2.2.2.2.1,(v.2.2.2.2.2.2.2.1++v4),()))
 else
 none
 else
 bif (fgt .f32 v.1.2.2.2.1 1084227584)then
 bif (k34 (((),40,()),v3.2))then
 let v7:=(g34 (((),40,()),v3.2))
 let v10:=(List.set (List.replicate 1 (zero (Ty.flt .f32))) 0 (a0i .add .f32 (a0i .quo .f32 (FloatKind.nearest .f32 (IntKind.wrap .i64 (8+v1.1.1))) 1098907648) (a0i .quo .f32 (FloatKind.nearest .f32 v7.1.1) 1098907648)))
 bif (a0F (List.length v.2.2.2.2.2.2.2.1+List.length v10))then
 f ((((),(),(),v.1.2.2.2.1,v.1.2.2.2.2.1,(),(IntKind.wrap .i64 (v.1.2.2.2.2.2.2.1+1)),()),v7.2.1,((),(),(),()),((),(),(),()),v.2.2.2.2.1,v.2.2.2.2.2.1,v.2.2.2.2.2.2.1,(v.2.2.2.2.2.2.2.1++v10),()))
 else
 none
 else
 none
 else
 let v6:=(List.set (List.replicate 1 (zero (Ty.flt .f32))) 0 (a0i .quo .f32 (FloatKind.nearest .f32 (IntKind.wrap .i64 (8+v1.1.1))) 1098907648))
 bif (a0F (List.length v.2.2.2.2.2.2.2.1+List.length v6))then
 f ((((),(),(),v.1.2.2.2.1,v.1.2.2.2.2.1,(),(IntKind.wrap .i64 (v.1.2.2.2.2.2.2.1+1)),()),v3.2.1,((),(),(),()),((),(),(),()),v.2.2.2.2.1,v.2.2.2.2.2.1,v.2.2.2.2.2.2.1,(v.2.2.2.2.2.2.2.1++v6),()))
 else
 none
 else
 none
 else
 bif (fgt .f32 v.1.2.2.2.1 1084227584)then
 let v1:=(g34 (((),57,()),v.2.1,()))
 bif (k34 (((),40,()),v1.2))then
 let v5:=(g34 (((),40,()),v1.2))
 let v8:=(List.set (List.replicate 1 (zero (Ty.flt .f32))) 0 (a0i .add .f32 (a0i .quo .f32 (FloatKind.nearest .f32 (IntKind.wrap .i64 (8+v1.1.1))) 1098907648) (a0i .quo .f32 (FloatKind.nearest .f32 v5.1.1) 1098907648)))
 bif (a0F (List.length v.2.2.2.2.2.2.2.1+List.length v8))then
 f ((((),(),(),v.1.2.2.2.1,v.1.2.2.2.2.1,(),(IntKind.wrap .i64 (v.1.2.2.2.2.2.2.1+1)),()),v5.2.1,((),(),(),()),((),(),(),()),v.2.2.2.2.1,v.2.2.2.2.2.1,v.2.2.2.2.2.2.1,(v.2.2.2.2.2.2.2.1++v8),()))
 else
 none
 else
 none
 else
 let v1:=(g34 (((),57,()),v.2.1,()))
 let v4:=(List.set (List.replicate 1 (zero (Ty.flt .f32))) 0 (a0i .quo .f32 (FloatKind.nearest .f32 (IntKind.wrap .i64 (8+v1.1.1))) 1098907648))
 bif (a0F (List.length v.2.2.2.2.2.2.2.1+List.length v4))then
 f ((((),(),(),v.1.2.2.2.1,v.1.2.2.2.2.1,(),(IntKind.wrap .i64 (v.1.2.2.2.2.2.2.1+1)),()),v1.2.1,((),(),(),()),((),(),(),()),v.2.2.2.2.1,v.2.2.2.2.2.1,v.2.2.2.2.2.2.1,(v.2.2.2.2.2.2.2.1++v4),()))
 else
 none
 else
 none
 else
 some ((((),(),(),v.1.2.2.2.1,v.1.2.2.2.2.1,List.map (fun x=>()) v.2.2.2.2.2.2.2.1,()),v.2.1,((),(),(),()),((),(),(),()),v.2.2.2.2.1,v.2.2.2.2.2.1,v.2.2.2.2.2.2.1,()))
theorem c6W (k34 g34 k77 g77 kl6 xl6 kl12 xl12 kl17 xl17 f v) :EBk (c4W k34 g34 k77 g77 kl6 xl6 kl12 xl12 kl17 xl17) c0g (a0B [0,2,3,6,7,8,9] [] 4 [0,2,3,6,7,8] [.jnk 8] (atS a7D f) (a5U a8z)) (mkS a7D v)=a9H k34 g34 k77 g77 f v:=by kernel_rfl
def b6E (v:a2t):Nat:=v.1.2.2.2.2.1.natAbs+v.1.2.2.2.2.2.2.1.natAbs+v.2.1.1.length+v.2.1.2.1.natAbs+v.2.1.2.2.1.natAbs+v.2.2.2.2.1.length+v.2.2.2.2.2.1.length+v.2.2.2.2.2.2.1.length+v.2.2.2.2.2.2.2.1.length+1000
def a9I (v:a2t):Option (a5L):=a1u (a9H K34 G34 K77 G77) (b6E v) v
def a3s (v:a2t):Bool:=(a9I v).isSome
def a1x (v:a2t):a5L:=(a9I v).getD (((),((),((),(0,(0,([],())))))),(([],(0,(0,()))),(((),((),((),()))),(((),((),((),()))),([],([],([],())))))))
def a9J (k34:KI I34) (g34:GI I34 O34) (k77:KI I77) (g77:GI I77 O77) (kl17:a2t->Bool) (xl17:a2t->a5L) (f:a3c->Option (a7C)) (v:a3c):Option (a7C):=
 bif (decide (v.1.2.2.2.2.1>0))then
 let w1:=(zero (Ty.flt .f32))
 let v0:=(List.set (List.replicate 1 w1) 0 v.1.2.2.2.1)
 bif (a0F (List.length v.2.2.2.2.1+List.length v0))then
 let v1:=(v.2.2.2.2.1++v0)
 let w0:=(((),(),(),v.1.2.2.2.1,v.1.2.2.2.2.1,(),0,()),v.2.1,((),(),(),()),((),(),(),()),v1,v.2.2.2.2.2.1,v.2.2.2.2.2.2.1,List.replicate 0 w1,())
 bif (kl17 w0)then
 let v3:=(xl17 w0)
 let v4:=(List.set (List.replicate 1 (zero (Ty.slice Ty.jnk))) 0 v3.1.2.2.2.2.2.1)
 bif (a0F (List.length v3.2.2.2.2.2.2.1+List.length v4))then
 bif (k34 (((),40,()),v3.2.1,()))then
 let v6:=(g34 (((),40,()),v3.2.1,()))
 f ((((),(),(),(a0i .add .f32 v3.1.2.2.2.1 (a0i .quo .f32 (FloatKind.nearest .f32 (IntKind.wrap .i64 (1+v6.1.1))) 1090519040)),(IntKind.wrap .i64 (v3.1.2.2.2.2.1-1)),()),v6.2.1,((),(),(),()),((),(),(),()),v3.2.2.2.2.1,v3.2.2.2.2.2.1,(v3.2.2.2.2.2.2.1++v4),()))
 else
 none
 else
 none
 else
 none
 else
 none
 else
 some ((((),(),()),v.2.1,((),(),(),()),((),(),(),()),v.2.2.2.2))
theorem c6X (k34 g34 k77 g77 kl6 xl6 kl12 xl12 kl17 xl17 f v) :EBk (c4W k34 g34 k77 g77 kl6 xl6 kl12 xl12 kl17 xl17) c0f (a0B [0,2,3,6,7] [.boxNil 3 0,.boxNil 3 2] 2 [2,3] [] (atS a7B f) (a5U a8y)) (mkS a7B v)=a9J k34 g34 k77 g77 kl17 xl17 f v:=by kernel_rfl
def b6F (v:a3c):Nat:=v.1.2.2.2.2.1.natAbs+v.2.1.1.length+v.2.1.2.1.natAbs+v.2.1.2.2.1.natAbs+v.2.2.2.2.1.length+v.2.2.2.2.2.1.length+v.2.2.2.2.2.2.1.length+1000
def a9K (v:a3c):Option (a7C):=a1u (a9J K34 G34 K77 G77 a3s a1x) (b6F v) v
def a4b (v:a3c):Bool:=(a9K v).isSome
def a1Q (v:a3c):a7C:=(a9K v).getD (((),((),())),(([],(0,(0,()))),(((),((),((),()))),(((),((),((),()))),([],([],([],())))))))
def b6G (k34:KI I34) (g34:GI I34 O34) (k77:KI I77) (g77:GI I77 O77) (f:a4z->Option (b1h)) (v:a4z):Option (b1h):=
 bif (decide (v.1.2.2.2.1>0))then
 bif (decide (v.1.2.2.2.1<180))then
 bif (decide ((↑(List.length v.2.2.2.2.1):Int)<20))then
 let v0:=(List.set (List.replicate 1 (zero (Ty.int IntKind.i64))) 0 v.1.2.2.2.1)
 bif (a0F (List.length v.2.2.2.2.1+List.length v0))then
 bif (k34 (((),50,()),v.2.1,()))then
 let v3:=(g34 (((),50,()),v.2.1,()))
 f ((((),(),(),(IntKind.wrap .i64 ((IntKind.wrap .i64 (v.1.2.2.2.1+5))+v3.1.1)),()),v3.2.1,((),(),(),()),((),(),(),()),(v.2.2.2.2.1++v0),()))
 else
 none
 else
 none
 else
 some ((((),(),(),()),v.2.1,((),(),(),()),((),(),(),()),v.2.2.2.2))
 else
 some ((((),(),(),()),v.2.1,((),(),(),()),((),(),(),()),v.2.2.2.2))
 else
 some ((((),(),(),()),v.2.1,((),(),(),()),((),(),(),()),v.2.2.2.2))
theorem d2d (k34 g34 k77 g77 kl6 xl6 kl12 xl12 kl17 xl17 f v) :EBk (c4W k34 g34 k77 g77 kl6 xl6 kl12 xl12 kl17 xl17) c4X (a0B [0,2,3,5] [] 0 [0,2,3] [] (atS a9G f) (a5U b1i)) (mkS a9G v)=b6G k34 g34 k77 g77 f v:=by kernel_rfl
def c2l (v:a4z):Nat:=v.1.2.2.2.1.natAbs+v.2.1.1.length+v.2.1.2.1.natAbs+v.2.1.2.2.1.natAbs+v.2.2.2.2.1.length+1000
def b6H (v:a4z):Option (b1h):=a1u (b6G K34 G34 K77 G77) (c2l v) v
def a5M (v:a4z):Bool:=(b6H v).isSome
def a2E (v:a4z):b1h:=(b6H v).getD (((),((),((),()))),(([],(0,(0,()))),(((),((),((),()))),(((),((),((),()))),([],())))))
def e3q (k34:KI I34) (g34:GI I34 O34) (k77:KI I77) (g77:GI I77 O77) (kl6:a4z->Bool) (xl6:a4z->b1h) (kl12:a3c->Bool) (xl12:a3c->a7C) (kl17:a2t->Bool) (xl17:a2t->a5L) (x:a5Z.den):Option (b1g.den):=
 bif (k34 (((),25,()),x.2))then
 let v1:=(g34 (((),25,()),x.2))
 bif (k77 (((),6,()),v1.2))then
 let v3:=(g77 (((),6,()),v1.2))
 bif v3.1.1 then
 let w4:=(List.replicate 1 (zero (Ty.int IntKind.i64)))
 let v4:=(List.set w4 0 0)
 let w3:=(((),(),(),0,()),v3.2.1,((),(),(),()),((),(),(),()),v4,())
 bif (kl6 w3)then
 let v6:=(xl6 w3)
 let v7:=(List.set w4 0 180)
 bif (a0F (List.length v6.2.2.2.2.1+List.length v7))then
 bif (k34 (((),4,()),v6.2.1,()))then
 let v9:=(g34 (((),4,()),v6.2.1,()))
 bif (k34 (((),4,()),v9.2))then
 let v11:=(IntKind.wrap .i64 (1+v9.1.1))
 let v12:=(g34 (((),4,()),v9.2))
 let v13:=(IntKind.wrap .i64 (1+v12.1.1))
 let v14:=(v6.2.2.2.2.1++v7)
 let w0:=(((),(),(),FloatKind.nearest .f32 v11,v13,()),v12.2.1,((),(),(),()),((),(),(),()),[],v14,[],())
 bif (kl12 w0)then
 let v16:=(xl12 w0)
 some (((((),(),(),()),()),v16.2.1,v16.2.2.2.2))
 else
 none
 else
 none
 else
 none
 else
 none
 else
 none
 else
 let v4:=(IntKind.wrap .i64 (20+v1.1.1))
 let w5:=(List.replicate 1 (zero (Ty.int IntKind.i64)))
 let v5:=(List.set w5 0 0)
 let w2:=(((),(),(),v4,()),v3.2.1,((),(),(),()),((),(),(),()),v5,())
 bif (kl6 w2)then
 let v7:=(xl6 w2)
 let v8:=(List.set w5 0 180)
 bif (a0F (List.length v7.2.2.2.2.1+List.length v8))then
 bif (k34 (((),4,()),v7.2.1,()))then
 let v10:=(g34 (((),4,()),v7.2.1,()))
 bif (k34 (((),4,()),v10.2))then
 let v12:=(IntKind.wrap .i64 (1+v10.1.1))
 let v13:=(g34 (((),4,()),v10.2))
 let v14:=(IntKind.wrap .i64 (1+v13.1.1))
 let v15:=(v7.2.2.2.2.1++v8)
 let w1:=(((),(),(),FloatKind.nearest .f32 v12,v14,()),v13.2.1,((),(),(),()),((),(),(),()),[],v15,[],())
 bif (kl12 w1)then
 let v17:=(xl12 w1)
 some (((((),(),(),()),()),v17.2.1,v17.2.2.2.2))
 else
 none
 else
 none
 else
 none
 else
 none
 else
 none
 else
 none
 else
 none
theorem e9b (k34 g34 k77 g77 kl6 xl6 kl12 xl12 kl17 xl17 x) :a1N (c4W k34 g34 k77 g77 kl6 xl6 kl12 xl12 kl17 xl17) (a0e Tryz.f73) a5Z b1g x=e3q k34 g34 k77 g77 kl6 xl6 kl12 xl12 kl17 xl17 x:=by kernel_rfl
def d7u (x:a5Z.den):Option (b1g.den):=e3q K34 G34 K77 G77 a5M a2E a4b a1Q a3s a1x x
def b1j (x:a5Z.den):Bool:=(d7u x).isSome
def a6J (x:a5Z.den):b1g.den:=(d7u x).getD (a1d b1g)
theorem e3r:a0q Tryz.prog (73,a0n true a5Z b1g b1j a6J):=a1k (a0j mixed d2c a0k (.cons a4x (.cons b1L .nil))) (a0O Tryz.func73 rfl rfl rfl (by kernel_rfl) (a0D (l:=[c4X,c0f,c0g]) (by kernel_rfl) (.cons (a0r rfl (a0y (sh:=a9G) (shX:=b1i) (fun f v=>d2d K34 G34 K77 G77 a5M a2E a4b a1Q a3s a1x f v) c2l (((),((),((),()))),(([],(0,(0,()))),(((),((),((),()))),(((),((),((),()))),([],()))))))) (.cons (a0r rfl (a0y (sh:=a7B) (shX:=a8y) (fun f v=>c6X K34 G34 K77 G77 a5M a2E a4b a1Q a3s a1x f v) b6F (((),((),())),(([],(0,(0,()))),(((),((),((),()))),(((),((),((),()))),([],([],([],()))))))))) (.cons (a0r rfl (a0y (sh:=a7D) (shX:=a8z) (fun f v=>c6W K34 G34 K77 G77 a5M a2E a4b a1Q a3s a1x f v) b6E (((),((),((),(0,(0,([],())))))),(([],(0,(0,()))),(((),((),((),()))),(((),((),((),()))),([],([],([],()))))))))) (.nil)))))) true fun x=>e9b K34 G34 K77 G77 a5M a2E a4b a1Q a3s a1x x
abbrev I78:Sg:=⟨[.ptr 0],[.box (a2N)]⟩
abbrev O78:Sg:=⟨[.val (.cons (.slice (.flt .f32)) (.cons (.slice (.int .i64)) (.cons (.slice (.slice .jnk)) (.nil))))],[.box (a2N)]⟩
abbrev a7E:Type:=((Unit×(Unit×(Unit×Unit)))×(((List (Den (.int .u8)))×(Int×(Int×Unit)))×((Unit×(Unit×(Unit×Unit)))×((Unit×(Unit×(Unit×Unit)))×((List (Den (.flt .f32)))×((List (Den (.int .i64)))×((List (Den (.slice (.jnk))))×Unit)))))))
def b6I:ShS:=⟨[(0,.one (.ptr 0 0)),(2,.one (.ptr 1 0)),(3,.one (.ptr 2 0))],[(0,.box [.sl (.int .u8),.int .i64,.int .i64]),(1,.box [.nil (.flt .f32),.nil (.int .i64),.nil (.slice (.jnk))]),(2,.box [.ref (.flt .f32) 3,.ref (.int .i64) 4,.ref (.slice (.jnk)) 5]),(3,.arr (.flt .f32)),(4,.arr (.int .i64)),(5,.arr (.slice (.jnk)))],6,1⟩
abbrev c0h:Type:=((Unit×(Unit×Unit))×(((List (Den (.int .u8)))×(Int×(Int×Unit)))×((Unit×(Unit×(Unit×Unit)))×((Unit×(Unit×(Unit×Unit)))×((List (Den (.flt .f32)))×((List (Den (.int .i64)))×((List (Den (.slice (.jnk))))×Unit)))))))
def b6J:ShS:=⟨[(2,.one (.ptr 1 0)),(3,.one (.ptr 2 0))],[(0,.box [.sl (.int .u8),.int .i64,.int .i64]),(1,.box [.nil (.flt .f32),.nil (.int .i64),.nil (.slice (.jnk))]),(2,.box [.ref (.flt .f32) 3,.ref (.int .i64) 4,.ref (.slice (.jnk)) 5]),(3,.arr (.flt .f32)),(4,.arr (.int .i64)),(5,.arr (.slice (.jnk)))],6,1⟩
abbrev a7F:Type:=((Unit×(Unit×(Int×(Int×(Int×Unit)))))×(((List (Den (.int .u8)))×(Int×(Int×Unit)))×((Unit×(Unit×(Unit×Unit)))×((Unit×(Unit×(Unit×Unit)))×((List (Den (.flt .f32)))×((List (Den (.int .i64)))×((List (Den (.slice (.jnk))))×Unit)))))))
def b6K:ShS:=⟨[(2,.one (.ptr 1 0)),(3,.one (.ptr 2 0)),(4,.one (.int .i64)),(117,.one (.int .i64)),(118,.one (.int .i64))],[(0,.box [.sl (.int .u8),.int .i64,.int .i64]),(1,.box [.nil (.flt .f32),.nil (.int .i64),.nil (.slice (.jnk))]),(2,.box [.ref (.flt .f32) 3,.ref (.int .i64) 4,.ref (.slice (.jnk)) 5]),(3,.arr (.flt .f32)),(4,.arr (.int .i64)),(5,.arr (.slice (.jnk)))],6,1⟩
abbrev c0i:Type:=((Unit×(Unit×Unit))×(((List (Den (.int .u8)))×(Int×(Int×Unit)))×((Unit×(Unit×(Unit×Unit)))×((Unit×(Unit×(Unit×Unit)))×((List (Den (.flt .f32)))×((List (Den (.int .i64)))×((List (Den (.slice (.jnk))))×Unit)))))))
def b6L:ShS:=⟨[(2,.one (.ptr 1 0)),(3,.one (.ptr 2 0))],[(0,.box [.sl (.int .u8),.int .i64,.int .i64]),(1,.box [.nil (.flt .f32),.nil (.int .i64),.nil (.slice (.jnk))]),(2,.box [.ref (.flt .f32) 3,.ref (.int .i64) 4,.ref (.slice (.jnk)) 5]),(3,.arr (.flt .f32)),(4,.arr (.int .i64)),(5,.arr (.slice (.jnk)))],6,1⟩
noncomputable def e5r (k1073 g1073 k34 g34 k141 g141 k142 g142 kl18 xl18 kl25 xl25) :Env:=a0t f7M eqs [(73,a0n true a5Z b1g k1073 g1073),(34,a0n true I34 O34 k34 g34),(141,a0n true a2i a3x k141 g141),(142,a0n true a6k b4D k142 g142)] 130 [.cell 2 28] [] [] [(18,a1X [0,2,3] [] 1 [2,3] [] b6I b6J kl18 xl18),(25,a1X [2,3,4,117,118] [] 3 [2,3] [] b6K b6L kl25 xl25)] [] [.frzBox 2]
noncomputable def d2e:Code:=(a0u (a0e Tryz.f78)).getD 0 .skip
noncomputable def d2f:Code:=(a0u (a0e Tryz.f78)).getD 1 .skip
def c4Y (k1073:KI a5Z) (g1073:GI a5Z b1g) (k34:KI I34) (g34:GI I34 O34) (k141:KI a2i) (g141:GI a2i a3x) (k142:KI a6k) (g142:GI a6k b4D) (f:a7F->Option (c0i)) (v:a7F):Option (c0i):=
 bif (decide (v.1.2.2.2.2.1<v.1.2.2.2.1))then
 bif (decide (0<=v.1.2.2.1)&&decide (v.1.2.2.1<(↑(List.length v.2.2.2.2.2.2.1):Int)))then
 bif (decide (0<=v.1.2.2.2.2.1)&&decide (v.1.2.2.2.2.1<(↑(List.length (List.getD v.2.2.2.2.2.2.1 (Int.toNat v.1.2.2.1) (zero (Ty.slice Ty.jnk)))):Int)))then
 f ((((),(),v.1.2.2.1,v.1.2.2.2.1,(IntKind.wrap .i64 (v.1.2.2.2.2.1+1)),()),v.2.1,((),(),(),()),((),(),(),()),v.2.2.2.2))
 else
 none
 else
 none
 else
 some ((((),(),()),v.2.1,((),(),(),()),((),(),(),()),v.2.2.2.2))
theorem d7v (k1073 g1073 k34 g34 k141 g141 k142 g142 kl18 xl18 kl25 xl25 f v) :EBk (e5r k1073 g1073 k34 g34 k141 g141 k142 g142 kl18 xl18 kl25 xl25) d2f (a0B [2,3,4,117,118] [] 3 [2,3] [] (atS b6K f) (a5U b6L)) (mkS b6K v)=c4Y k1073 g1073 k34 g34 k141 g141 k142 g142 f v:=by kernel_rfl
def d2g (v:a7F):Nat:=v.1.2.2.1.natAbs+v.1.2.2.2.1.natAbs+v.1.2.2.2.2.1.natAbs+v.2.1.1.length+v.2.1.2.1.natAbs+v.2.1.2.2.1.natAbs+v.2.2.2.2.1.length+v.2.2.2.2.2.1.length+v.2.2.2.2.2.2.1.length+1000
def c4Z (v:a7F):Option (c0i):=a1u (c4Y b1j a6J K34 G34 a9A a9B a7R a7S) (d2g v) v
def b1k (v:a7F):Bool:=(c4Z v).isSome
def a6K (v:a7F):c0i:=(c4Z v).getD (((),((),())),(([],(0,(0,()))),(((),((),((),()))),(((),((),((),()))),([],([],([],())))))))
def c5a (k1073:KI a5Z) (g1073:GI a5Z b1g) (k34:KI I34) (g34:GI I34 O34) (k141:KI a2i) (g141:GI a2i a3x) (k142:KI a6k) (g142:GI a6k b4D) (f:a7E->Option (c0h)) (v:a7E):Option (c0h):=
 bif (k34 (((),2,()),v.2.1,()))then
 let v1:=(g34 (((),2,()),v.2.1,()))
 let w0:=(↑(List.length v.2.2.2.2.1):Int)
 bif (decide (w0<(IntKind.wrap .i64 (12+v1.1.1))))then
 let v3:=(IntKind.wrap .i64 (w0-1))
 bif (decide (0<=v3)&&decide (v3<w0))then
 let w1:=(zero (Ty.flt .f32))
 let v6:=(List.set (List.replicate 1 w1) 0 (a0i .add .f32 (List.getD v.2.2.2.2.1 (Int.toNat v3) w1) 1065353216))
 bif (a0F (List.length v.2.2.2.2.1+List.length v6))then
 bif (decide (0<=0)&&decide (0<(↑(List.length v.2.2.2.2.2.2.1):Int)))then
 let v8:=(List.set (List.replicate 1 (zero (Ty.slice Ty.jnk))) 0 (List.getD v.2.2.2.2.2.2.1 (Int.toNat 0) (zero (Ty.slice Ty.jnk))))
 bif (a0F (List.length v.2.2.2.2.2.2.1+List.length v8))then
 f ((((),(),(),()),v1.2.1,((),(),(),()),((),(),(),()),(v.2.2.2.2.1++v6),v.2.2.2.2.2.1,(v.2.2.2.2.2.2.1++v8),()))
 else
 none
 else
 none
 else
 none
 else
 none
 else
 some ((((),(),()),v1.2.1,((),(),(),()),((),(),(),()),v.2.2.2.2))
 else
 none
theorem d7w (k1073 g1073 k34 g34 k141 g141 k142 g142 kl18 xl18 kl25 xl25 f v) :EBk (e5r k1073 g1073 k34 g34 k141 g141 k142 g142 kl18 xl18 kl25 xl25) d2e (a0B [0,2,3] [] 1 [2,3] [] (atS b6I f) (a5U b6J)) (mkS b6I v)=c5a k1073 g1073 k34 g34 k141 g141 k142 g142 f v:=by kernel_rfl
def d2h (v:a7E):Nat:=v.2.1.1.length+v.2.1.2.1.natAbs+v.2.1.2.2.1.natAbs+v.2.2.2.2.1.length+v.2.2.2.2.2.1.length+v.2.2.2.2.2.2.1.length+1000
def c5b (v:a7E):Option (c0h):=a1u (c5a b1j a6J K34 G34 a9A a9B a7R a7S) (d2h v) v
def b1l (v:a7E):Bool:=(c5b v).isSome
def a4A (v:a7E):c0h:=(c5b v).getD (((),((),())),(([],(0,(0,()))),(((),((),((),()))),(((),((),((),()))),([],([],([],())))))))
theorem e9c:a1y Tryz.prog (e5r b1j a6J K34 G34 a9A a9B a7R a7S b1l a4A b1k a6K):=a0j mixed d2c a0k (.cons e3r (.cons a4x (.cons c9K (.cons c9N .nil))))
theorem f9a:a6g Tryz.prog 78 (e5r b1j a6J K34 G34 a9A a9B a7R a7S b1l a4A b1k a6K) (a0e Tryz.f78):=a0O Tryz.func78 rfl rfl rfl (by kernel_rfl) (a0D (l:=[d2e,d2f]) (by kernel_rfl) (.cons (a0r rfl (a0y (sh:=b6I) (shX:=b6J) (fun f v=>d7w b1j a6J K34 G34 a9A a9B a7R a7S b1l a4A b1k a6K f v) d2h (((),((),())),(([],(0,(0,()))),(((),((),((),()))),(((),((),((),()))),([],([],([],()))))))))) (.cons (a0r rfl (a0y (sh:=b6K) (shX:=b6L) (fun f v=>d7v b1j a6J K34 G34 a9A a9B a7R a7S b1l a4A b1k a6K f v) d2g (((),((),())),(([],(0,(0,()))),(((),((),((),()))),(((),((),((),()))),([],([],([],()))))))))) (.nil))))
noncomputable def N78 (p141:KI a2i) (Q141:QI a2i a3x) (e141:Nonempty (Ch a2i a3x p141 Q141)):a9h:=mkN [(141,a3o true a2i a3x p141 Q141 e141)] []
noncomputable def f9b (k1073:KI a5Z) (g1073:GI a5Z b1g) (k34:KI I34) (g34:GI I34 O34) (k141:KI a2i) (g141:GI a2i a3x) (k142:KI a6k) (g142:GI a6k b4D) (kl18:a7E->Bool) (xl18:a7E->c0h) (kl25:a7F->Bool) (xl25:a7F->c0i) (p141:KI a2i) (Q141:QI a2i a3x) (e141:Nonempty (Ch a2i a3x p141 Q141)) (h:O78.den->Option Unit) (x:I78.den):Option Unit:=
 bif (k1073 (((),()),x.2))then
 let v1:=(g1073 (((),()),x.2))
 let w6:=(↑(List.length v1.2.2.1):Int)
 bif (k34 (((),w6,()),v1.2.1,()))then
 let v3:=(g34 (((),w6,()),v1.2.1,()))
 let w4:=(↑(List.length v1.2.2.2.1):Int)
 bif (k34 (((),w4,()),v3.2))then
 let v5:=(g34 (((),w4,()),v3.2))
 bif (k34 (((),24,()),v5.2))then
 let v7:=(g34 (((),24,()),v5.2))
 bif (v7.1.1==0)then
 a3m fun(c141_12:Ch a2i a3x p141 Q141)=>
 bif (p141 (((),120,()),v7.2))then
 bif (decide (0<=v3.1.1)&&decide (v3.1.1<w6))then
 let v9:=(c141_12.val (((),120,()),v7.2))
 h (((((List.set v1.2.2.1 (Int.toNat v3.1.1) v9.1.1),v1.2.2.2),()),v9.2))
 else
 none
 else
 none
 else
 bif (v7.1.1==1)then
 bif (k142 (((),()),v7.2))then
 bif (decide (0<=v5.1.1)&&decide (v5.1.1<w4))then
 let v9:=(g142 (((),()),v7.2))
 h ((((v1.2.2.1,(List.set v1.2.2.2.1 (Int.toNat v5.1.1) v9.1.1),v1.2.2.2.2),()),v9.2))
 else
 none
 else
 none
 else
 bif (v7.1.1==2)then
 a3m fun(c141_16:Ch a2i a3x p141 Q141)=>
 bif (decide (0<=v3.1.1)&&decide (v3.1.1<(↑(List.length v1.2.2.2.2.1):Int)))then
 bif (p141 (((),60,()),v7.2))then
 bif (decide (0<=v5.1.1)&&decide (v5.1.1<(↑(List.length (List.getD v1.2.2.2.2.1 (Int.toNat v3.1.1) (zero (Ty.slice Ty.jnk)))):Int)))then
 h (((v1.2.2,()),(c141_16.val (((),60,()),v7.2)).2))
 else
 none
 else
 none
 else
 none
 else
 bif (v7.1.1==3)then
 let w2:=(decide (0<=v3.1.1)&&decide (v3.1.1<(↑(List.length v1.2.2.2.2.1):Int)))
 bif w2 then
 let v8:=(List.getD v1.2.2.2.2.1 (Int.toNat v3.1.1) (zero (Ty.slice Ty.jnk)))
 let w3:=(↑(List.length v8):Int)
 bif (decide (0<=1)&&decide (1<=w3)&&decide (w3<=w3))then
 bif w2 then
 h ((((v1.2.2.1,v1.2.2.2.1,(List.set v1.2.2.2.2.1 (Int.toNat v3.1.1) (List.drop (Int.toNat 1) (List.take (Int.toNat w3) v8))),()),()),v7.2))
 else
 none
 else
 none
 else
 none
 else
 bif (v7.1.1==4)then
 let w0:=(↑(List.length v1.2.2.2.2.1):Int)
 bif (decide (0<=1)&&decide (1<=w0)&&decide (w0<=w0))then
 h ((((v1.2.2.1,v1.2.2.2.1,List.drop (Int.toNat 1) (List.take (Int.toNat w0) v1.2.2.2.2.1),()),()),v7.2))
 else
 none
 else
 bif (v7.1.1==5)then
 h (((([],[],[],()),()),v7.2))
 else
 bif (v7.1.1==6)then
 let w5:=(((),(),(),()),v7.2.1,((),(),(),()),((),(),(),()),v1.2.2)
 bif (kl18 w5)then
 let v9:=(xl18 w5)
 h (((v9.2.2.2.2,()),v9.2.1,()))
 else
 none
 else
 bif (v7.1.1==7)then
 bif (decide (0<=v3.1.1)&&decide (v3.1.1<(↑(List.length v1.2.2.2.2.1):Int)))then
 bif (decide (0<=v5.1.1)&&decide (v5.1.1<(↑(List.length (List.getD v1.2.2.2.2.1 (Int.toNat v3.1.1) (zero (Ty.slice Ty.jnk)))):Int)))then
 h (((v1.2.2,()),v7.2))
 else
 none
 else
 none
 else
 bif (v7.1.1==8)then
 bif (decide (0<=v3.1.1)&&decide (v3.1.1<(↑(List.length v1.2.2.2.2.1):Int)))then
 let v8:=(List.getD v1.2.2.2.2.1 (Int.toNat v3.1.1) (zero (Ty.slice Ty.jnk)))
 let w1:=(((),(),v3.1.1,(↑(List.length v8):Int),0,()),v7.2.1,((),(),(),()),((),(),(),()),v1.2.2)
 bif (kl25 w1)then
 let v10:=(xl25 w1)
 h (((v10.2.2.2.2,()),v10.2.1,()))
 else
 none
 else
 none
 else
 h (((v1.2.2,()),v7.2))
 else
 none
 else
 none
 else
 none
 else
 none
theorem f7N (k1073 g1073 k34 g34 k141 g141 k142 g142 kl18 xl18 kl25 xl25 p141 Q141 e141 h x) :a3n (e5r k1073 g1073 k34 g34 k141 g141 k142 g142 kl18 xl18 kl25 xl25) (N78 p141 Q141 e141) (a0e Tryz.f78) I78 O78 h x=f9b k1073 g1073 k34 g34 k141 g141 k142 g142 kl18 xl18 kl25 xl25 p141 Q141 e141 h x:=by kernel_rfl
theorem d7x (v:a2t) (hc:a0g v.2.1) (hk:v.1.2.2.2.2.2.2.1=0) (hr:v.2.2.2.2.2.2.2.1=[]) (ha:v.2.2.2.2.2.1.length<=30) :
 Pst (a9I v) fun y=>a0g y.2.1 /\ y.1.2.2.2.2.1=v.1.2.2.2.2.1 /\ y.2.2.2.2.1=v.2.2.2.2.1 /\ y.2.2.2.2.2.1=v.2.2.2.2.2.1 /\ y.2.2.2.2.2.2.1=v.2.2.2.2.2.2.1 /\ y.1.2.2.2.2.2.1.length=v.2.2.2.2.2.1.length:=by
 unfold a9I
 refine a0W (q:=a9H K34 G34 K77 G77)
  (fun u=>a0g u.2.1 /\ u.1.2.2.2.2.1=v.1.2.2.2.2.1 /\ u.2.2.2.2.1=v.2.2.2.2.1 /\ u.2.2.2.2.2.1=v.2.2.2.2.2.1 /\ u.2.2.2.2.2.2.1=v.2.2.2.2.2.2.1 /\ 0<=(u.1.2.2.2.2.2.2.1:Int) /\ (u.1.2.2.2.2.2.2.1:Int)<=(v.2.2.2.2.2.1.length:Int) /\ (u.2.2.2.2.2.2.2.1.length:Int)=u.1.2.2.2.2.2.2.1)
  (fun _ r=>Pst r fun y=>a0g y.2.1 /\ y.1.2.2.2.2.1=v.1.2.2.2.2.1 /\ y.2.2.2.2.1=v.2.2.2.2.1 /\ y.2.2.2.2.2.1=v.2.2.2.2.2.1 /\ y.2.2.2.2.2.2.1=v.2.2.2.2.2.2.1 /\ y.1.2.2.2.2.2.1.length=v.2.2.2.2.2.1.length)
  (fun u=>(30-(u.1.2.2.2.2.2.2.1:Int)).toNat) ?_ _ _ ⟨hc,rfl,rfl,rfl,rfl,by rw[hk];exact Int.le_refl 0,by rw[hk];exact Int.natCast_nonneg _,by rw[hr,hk];rfl⟩ (by unfold b6E;omega)
 clear hk hr hc
 rintro⟨⟨_,_,_,w,n,_,i,_⟩,⟨c0,c1,c2,_⟩,_,_,ws,as_,sp,row,_⟩ f ⟨g0,g1,g2,g3,g4,g5,g6,g7⟩ ih
 dsimp only at g0 g1 g2 g3 g4 g5 g6 g7 ih
 subst g1 g2 g4
 have ea:as_.length=v.2.2.2.2.2.1.length:=by rw[g3]
 unfold a9H
 dsimp only
 by_cases hk:i<(as_.length:Int)
 ·refine a0p (by simpa using hk) ?_
  have e:IntKind.i64.wrap (i+1)=i+1:=w64 (by omega) (by omega)
  rw[e]
  have fin:∀(x:Nat) (c:List Int×Int×Int×Unit),a0g c->Pst (bif (a0F (List.length row+List.length (List.set (List.replicate 1 (zero (Ty.flt FloatKind.f32))) 0 x)))then f (((),((),((),((w),((v.1.2.2.2.2.1),((),((i+1),()))))))),(((c.1),((c.2.1),((c.2.2.1),()))),(((),((),((),()))),(((),((),((),()))),((v.2.2.2.2.1),((as_),((v.2.2.2.2.2.2.1),((row++List.set (List.replicate 1 (zero (Ty.flt FloatKind.f32))) 0 x),()))))))))else none)
   fun y=>a0g y.2.1 /\ y.1.2.2.2.2.1=v.1.2.2.2.2.1 /\ y.2.2.2.2.1=v.2.2.2.2.1 /\ y.2.2.2.2.2.1=v.2.2.2.2.2.1 /\ y.2.2.2.2.2.2.1=v.2.2.2.2.2.2.1 /\ y.1.2.2.2.2.2.1.length=v.2.2.2.2.2.1.length:=by
   intro x c h
   refine a0p (a0K (by simp only[List.length_set,List.length_replicate];omega)) ?_
   refine ih _ ⟨h,rfl,rfl,g3,rfl,?_,?_,?_⟩ ?_<;>simp only[List.length_append,List.length_set,List.length_replicate]<;>omega
  refine a0p (a0C _ (by(repeat ((try dsimp only);first|assumption|(with_reducible first|apply a0b|apply a0h|apply a0d|apply a0c|apply a0f))))) ?_
  refine a1q (fun _=>?_) (fun _=>?_)
  ·refine a0p (a2b _ (by(repeat ((try dsimp only);first|assumption|(with_reducible first|apply a0b|apply a0h|apply a0d|apply a0c|apply a0f))))) ?_
   refine a1q (fun _=>?_) (fun _=>?_)
   ·refine a1q (fun _=>?_) (fun _=>?_)
    ·refine a0p (a0C _ (by(repeat ((try dsimp only);first|assumption|(with_reducible first|apply a0b|apply a0h|apply a0d|apply a0c|apply a0f))))) ?_
     exact fin _ _ (by(repeat ((try dsimp only);first|assumption|(with_reducible first|apply a0b|apply a0h|apply a0d|apply a0c|apply a0f))))
    ·exact fin _ _ (by(repeat ((try dsimp only);first|assumption|(with_reducible first|apply a0b|apply a0h|apply a0d|apply a0c|apply a0f))))
   ·refine a1q (fun _=>?_) (fun _=>?_)
    ·refine a0p (a0C _ (by(repeat ((try dsimp only);first|assumption|(with_reducible first|apply a0b|apply a0h|apply a0d|apply a0c|apply a0f))))) ?_
     exact fin _ _ (by(repeat ((try dsimp only);first|assumption|(with_reducible first|apply a0b|apply a0h|apply a0d|apply a0c|apply a0f))))
    ·exact fin _ _ (by(repeat ((try dsimp only);first|assumption|(with_reducible first|apply a0b|apply a0h|apply a0d|apply a0c|apply a0f))))
  ·refine a1q (fun _=>?_) (fun _=>?_)
   ·refine a0p (a0C _ (by(repeat ((try dsimp only);first|assumption|(with_reducible first|apply a0b|apply a0h|apply a0d|apply a0c|apply a0f))))) ?_
    exact fin _ _ (by(repeat ((try dsimp only);first|assumption|(with_reducible first|apply a0b|apply a0h|apply a0d|apply a0c|apply a0f))))
   ·exact fin _ _ (by(repeat ((try dsimp only);first|assumption|(with_reducible first|apply a0b|apply a0h|apply a0d|apply a0c|apply a0f))))
 ·have hd:decide (i<(as_.length:Int))=false:=by simpa using hk
  rw[hd]
  exact a0v ⟨g0,rfl,rfl,g3,rfl,by show(row.map fun _=>()).length=_;rw[List.length_map];omega⟩
def Rows (n:Nat) (a:Nat) (ws:List Nat) (sp:List (List Unit)):Prop:=ws.length=n /\ sp.length=n /\ ∀r∈sp,r.length=a
theorem d2i (v:a3c) (hc:a0g v.2.1) (hn:0<=(v.1.2.2.2.2.1:Int) /\ (v.1.2.2.2.2.1:Int)<=8) (hw:v.2.2.2.2.1=[]) (hs:v.2.2.2.2.2.2.1=[]) (ha:v.2.2.2.2.2.1.length<=30) :
 Pst (a9K v) fun y=>a0g y.2.1 /\ y.2.2.2.2.2.1=v.2.2.2.2.2.1 /\ Rows (v.1.2.2.2.2.1:Int).toNat v.2.2.2.2.2.1.length y.2.2.2.2.1 y.2.2.2.2.2.2.1:=by
 unfold a9K
 refine a0W (q:=a9J K34 G34 K77 G77 a3s a1x)
  (fun u=>a0g u.2.1 /\ u.2.2.2.2.2.1=v.2.2.2.2.2.1 /\ 0<=(u.1.2.2.2.2.1:Int) /\ (u.2.2.2.2.1.length:Int)+u.1.2.2.2.2.1=v.1.2.2.2.2.1 /\ Rows u.2.2.2.2.1.length v.2.2.2.2.2.1.length u.2.2.2.2.1 u.2.2.2.2.2.2.1)
  (fun _ r=>Pst r fun y=>a0g y.2.1 /\ y.2.2.2.2.2.1=v.2.2.2.2.2.1 /\ Rows (v.1.2.2.2.2.1:Int).toNat v.2.2.2.2.2.1.length y.2.2.2.2.1 y.2.2.2.2.2.2.1)
  (fun u=>(u.1.2.2.2.2.1:Int).toNat) ?_ _ _ ⟨hc,rfl,hn.1,by rw[hw];exact Int.zero_add _,by rw[hw,hs];exact⟨rfl,rfl,fun _ h=>by cases h⟩⟩ (by unfold b6F;omega)
 clear hc hw hs
 rintro⟨⟨_,_,_,w,n,_⟩,⟨c0,c1,c2,_⟩,_,_,ws,as_,sp,_⟩ f ⟨g0,g1,g2,g3,g4⟩ ih
 dsimp only at g0 g1 g2 g3 g4 ih
 obtain⟨g4,g5,g6⟩:=g4
 have ea:as_.length=v.2.2.2.2.2.1.length:=by rw[g1]
 unfold a9J
 dsimp only
 by_cases hk:n>0
 ·refine a0p (by simpa using hk) ?_
  refine a0p (a0K (by simp only[List.length_set,List.length_replicate];omega)) ?_
  have hr:=d7x (((),(),(),w,n,(),0,()),(c0,c1,c2,()),((),(),(),()),((),(),(),()),ws++(List.replicate 1 (zero (Ty.flt FloatKind.f32))).set 0 w,as_,sp,List.replicate 0 (zero (Ty.flt FloatKind.f32)),()) g0 rfl rfl (by show as_.length<=30;omega)
  refine a0p (a2B hr) ?_
  have hx:=a2S (((),((),((),(0,(0,([],())))))),(([],(0,(0,()))),(((),((),((),()))),(((),((),((),()))),([],([],([],()))))))) hr
  change a0g (a1x _).2.1 /\ (a1x _).1.2.2.2.2.1=n /\ (a1x _).2.2.2.2.1=_ /\ (a1x _).2.2.2.2.2.1=as_ /\ (a1x _).2.2.2.2.2.2.1=sp /\ (a1x _).1.2.2.2.2.2.1.length=as_.length at hx
  generalize a1x (((),(),(),w,n,(),0,()),(c0,c1,c2,()),((),(),(),()),((),(),(),()),ws++(List.replicate 1 (zero (Ty.flt FloatKind.f32))).set 0 w,as_,sp,List.replicate 0 (zero (Ty.flt FloatKind.f32)),())=y at *
  obtain⟨⟨_,_,_,w',n',row,_⟩,c',_,_,ws',as',sp',_⟩:=y
  dsimp only at hx
  obtain⟨h1,h2,h3,h4,h5,h6⟩:=hx
  subst h2 h3 h4 h5
  refine a0p (a0K (by simp only[List.length_set,List.length_replicate];omega)) ?_
  refine a0p (a0C _ (by(repeat ((try dsimp only);first|assumption|(with_reducible first|apply a0b|apply a0h|apply a0d|apply a0c|apply a0f))))) ?_
  have e:IntKind.i64.wrap (n'-1)=n'-1:=w64 (by omega) (by omega)
  dsimp only
  rw[e]
  refine ih _ ⟨by(repeat ((try dsimp only);first|assumption|(with_reducible first|apply a0b|apply a0h|apply a0d|apply a0c|apply a0f))),g1,?_,?_,?_,?_,?_⟩ ?_
  ·show 0<=n'-1;omega
  ·simp only[List.length_append,List.length_set,List.length_replicate];omega
  ·rfl
  ·simp only[List.length_append,List.length_set,List.length_replicate];omega
  ·intro r hr
   rcases List.mem_append.1 hr with hr|hr
   ·exact g6 r hr
   ·rw[show r=row from List.mem_singleton.1 hr,h6,ea]
  ·show(n'-1).toNat<n'.toNat;omega
 ·have hd:decide (n>0)=false:=by simpa using hk
  rw[hd]
  refine a0v ⟨g0,g1,?_,?_,g6⟩
  ·show ws.length=_;omega
  ·show sp.length=_;omega
theorem f7O (a b:Int) (h1:a>0) (h2:a<180) (h:0<=b /\ b<50):IntKind.i64.wrap (IntKind.i64.wrap (a+5)+b)<=1000:=by
 rw[w64 (x:=a+5) (by omega) (by omega),w64 (by omega) (by omega)]
 omega
theorem f7P (b:Int) (h:0<=b /\ b<4):0<=IntKind.i64.wrap (1+b) /\ IntKind.i64.wrap (1+b)<=8 /\ 1<=(IntKind.i64.wrap (1+b)).toNat /\ (IntKind.i64.wrap (1+b)).toNat<=4:=by
 rw[w64 (by omega) (by omega)]
 omega
theorem f7Q (b:Int) (h:0<=b /\ b<25):IntKind.i64.wrap (20+b)<=1000:=by
 rw[w64 (by omega) (by omega)]
 omega
theorem c2m (v:a4z) (hc:a0g v.2.1) (hn:(v.1.2.2.2.1:Int)<=1000) (hw:v.2.2.2.2.1.length=1) :
 Pst (b6H v) fun y=>a0g y.2.1 /\ 1<=y.2.2.2.2.1.length /\ y.2.2.2.2.1.length<=21:=by
 unfold b6H
 refine a0W (q:=b6G K34 G34 K77 G77)
  (fun u=>a0g u.2.1 /\ (u.1.2.2.2.1:Int)<=1000 /\ 1<=u.2.2.2.2.1.length /\ u.2.2.2.2.1.length<=21)
  (fun _ r=>Pst r fun y=>a0g y.2.1 /\ 1<=y.2.2.2.2.1.length /\ y.2.2.2.2.1.length<=21)
  (fun u=>21-u.2.2.2.2.1.length) ?_ _ _ ⟨hc,hn,by omega,by omega⟩ (by unfold c2l;omega)
 rintro⟨⟨_,_,_,a,_⟩,⟨c0,c1,c2,_⟩,_,_,as_,_⟩ f ⟨g0,g1,g2,g3⟩ ih
 dsimp only at g0 g1 g2 g3 ih
 unfold b6G
 dsimp only
 refine a1q (fun h1=>?_) (fun _=>a0v ⟨g0,g2,g3⟩)
 refine a1q (fun h2=>?_) (fun _=>a0v ⟨g0,g2,g3⟩)
 refine a1q (fun h3=>?_) (fun _=>a0v ⟨g0,g2,g3⟩)
 have h1:a>0:=by simpa using h1
 have h2:a<180:=by simpa using h2
 have h3:as_.length<20:=by have:(as_.length:Int)<20:=by simpa using h3
                                 omega
 refine a0p (a0K (by simp only[List.length_set,List.length_replicate];omega)) ?_
 refine a0p (a0C _ (by(repeat ((try dsimp only);first|assumption|(with_reducible first|apply a0b|apply a0h|apply a0d|apply a0c|apply a0f))))) ?_
 have hb:=a1g 50 (c0,c1,c2,()) g0 (by decide)
 refine ih _ ⟨by(repeat ((try dsimp only);first|assumption|(with_reducible first|apply a0b|apply a0h|apply a0d|apply a0c|apply a0f))),f7O _ _ h1 h2 hb,?_,?_⟩ ?_
 all_goals simp only[List.length_append,List.length_set,List.length_replicate];omega
def e9d (ws:List Nat) (as_:List Int) (sp:List (List Unit)):Prop:=2<=as_.length /\ as_.length<=22 /\ 1<=ws.length /\ ws.length<=4 /\ Rows ws.length as_.length ws sp
theorem c5c (x:a5Z.den) (h:a0g x.2.1):Pst (d7u x) fun y=>a0g y.2.1 /\ e9d y.2.2.1 y.2.2.2.1 y.2.2.2.2.1:=by
 unfold d7u e3q
 dsimp only
 have a2n:∀(n:Int) (c:List Int×Int×Int×Unit),a0g c->0<n->0<=((G34 (((),n,()),c,())).1.1:Int) /\ ((G34 (((),n,()),c,())).1.1:Int)<n:=fun n c h hn=>a1g n c h hn
 refine a0p (a0C _ (by(repeat ((try dsimp only);first|assumption|(with_reducible first|apply a0b|apply a0h|apply a0d|apply a0c|apply a0f))))) ?_
 have b1:0<=((G34 (((),25,()),x.snd)).1.1:Int) /\ ((G34 (((),25,()),x.snd)).1.1:Int)<25:=a2n 25 x.2.1 h (by decide)
 have c1:a0g (G34 (((),25,()),x.snd)).2.1:=by(repeat ((try dsimp only);first|assumption|(with_reducible first|apply a0b|apply a0h|apply a0d|apply a0c|apply a0f)))
 generalize G34 (((),25,()),x.snd)=A at *
 refine a0p (a2b _ (by(repeat ((try dsimp only);first|assumption|(with_reducible first|apply a0b|apply a0h|apply a0d|apply a0c|apply a0f))))) ?_
 have c2:a0g (G77 (((),6,()),A.snd)).2.1:=by(repeat ((try dsimp only);first|assumption|(with_reducible first|apply a0b|apply a0h|apply a0d|apply a0c|apply a0f)))
 generalize G77 (((),6,()),A.snd)=B at *
 have main:∀a:Int,a<=1000->Pst (
  let v5:=List.set (List.replicate 1 (zero (Ty.int IntKind.i64))) 0 0
  let v6:=(a5M (((),(),(),a,()),B.snd.fst,((),(),(),()),((),(),(),()),v5,()))
  bif (v6)then
   let v7:=(a2E (((),(),(),a,()),B.snd.fst,((),(),(),()),((),(),(),()),v5,()))
   let v8:=(List.set (List.replicate 1 (zero (Ty.int IntKind.i64))) 0 180)
   bif (a0F (List.length v7.snd.snd.snd.snd.fst+List.length v8))then
    let v9:=(K34 (((),4,()),v7.snd.fst,()))
    bif (v9)then
     let v10:=(G34 (((),4,()),v7.snd.fst,()))
     let v11:=(K34 (((),4,()),v10.snd))
     bif (v11)then
      let v12:=(IntKind.wrap IntKind.i64 (1+v10.fst.fst))
      let v13:=(G34 (((),4,()),v10.snd))
      let v14:=(IntKind.wrap IntKind.i64 (1+v13.fst.fst))
      let v15:=(v7.snd.snd.snd.snd.fst++v8)
      let v16:=(a4b (((),(),(),FloatKind.nearest FloatKind.f32 v12,v14,()),v13.snd.fst,((),(),(),()),((),(),(),()),[],v15,[],()))
      bif (v16)then
       let v17:=(a1Q (((),(),(),FloatKind.nearest FloatKind.f32 v12,v14,()),v13.snd.fst,((),(),(),()),((),(),(),()),[],v15,[],()))
       (some ((((),((),((),()))),()),(((v17.snd.fst.1),((v17.snd.fst.snd.1),((v17.snd.fst.snd.snd.1),()))),((v17.snd.snd.snd.snd.1),((v17.snd.snd.snd.snd.snd.1),((v17.snd.snd.snd.snd.snd.snd.1),()))))):Option b1g.den)
      else none
     else none
    else none
   else none
  else none) fun y=>a0g y.2.1 /\ e9d y.2.2.1 y.2.2.2.1 y.2.2.2.2.1:=by
  intro a ha
  dsimp only
  have hr:=c2m (((),(),(),a,()),B.snd.fst,((),(),(),()),((),(),(),()),List.set (List.replicate 1 (zero (Ty.int IntKind.i64))) 0 0,()) c2 ha rfl
  refine a0p (a2B hr) ?_
  have hx:=a2S (((),((),((),()))),(([],(0,(0,()))),(((),((),((),()))),(((),((),((),()))),([],()))))) hr
  change a0g (a2E _).2.1 /\ 1<=(a2E _).2.2.2.2.1.length /\ (a2E _).2.2.2.2.1.length<=21 at hx
  generalize a2E (((),(),(),a,()),B.snd.fst,((),(),(),()),((),(),(),()),List.set (List.replicate 1 (zero (Ty.int IntKind.i64))) 0 0,())=y at *
  obtain⟨_,c,_,_,as_,_⟩:=y
  dsimp only at hx ⊢
  obtain⟨h1,h2,h3⟩:=hx
  refine a0p (a0K (by simp only[List.length_set,List.length_replicate];omega)) ?_
  refine a0p (a0C _ (by(repeat ((try dsimp only);first|assumption|(with_reducible first|apply a0b|apply a0h|apply a0d|apply a0c|apply a0f))))) ?_
  have c3:a0g (G34 (((),4,()),c,())).2.1:=by(repeat ((try dsimp only);first|assumption|(with_reducible first|apply a0b|apply a0h|apply a0d|apply a0c|apply a0f)))
  generalize G34 (((),4,()),c,())=D at *
  refine a0p (a0C _ (by(repeat ((try dsimp only);first|assumption|(with_reducible first|apply a0b|apply a0h|apply a0d|apply a0c|apply a0f))))) ?_
  have b4:0<=((G34 (((),4,()),D.snd)).1.1:Int) /\ ((G34 (((),4,()),D.snd)).1.1:Int)<4:=a2n 4 D.2.1 c3 (by decide)
  have c4:a0g (G34 (((),4,()),D.snd)).2.1:=by(repeat ((try dsimp only);first|assumption|(with_reducible first|apply a0b|apply a0h|apply a0d|apply a0c|apply a0f)))
  generalize G34 (((),4,()),D.snd)=E at *
  have hn:0<=IntKind.i64.wrap (1+E.fst.fst) /\ IntKind.i64.wrap (1+E.fst.fst)<=8 /\ 1<=(IntKind.i64.wrap (1+E.fst.fst)).toNat /\ (IntKind.i64.wrap (1+E.fst.fst)).toNat<=4:=f7P _ b4
  generalize IntKind.i64.wrap (1+E.fst.fst)=nn at *
  generalize FloatKind.nearest FloatKind.f32 (IntKind.wrap IntKind.i64 (1+D.fst.fst))=w
  have hq:=d2i (((),(),(),w,nn,()),E.snd.fst,((),(),(),()),((),(),(),()),[],as_++List.set (List.replicate 1 (zero (Ty.int IntKind.i64))) 0 180,[],()) c4 ⟨hn.1,hn.2.1⟩ rfl rfl (by simp only[List.length_append,List.length_set,List.length_replicate];omega)
  refine a0p (a2B hq) ?_
  have hx:=a2S (((),((),())),(([],(0,(0,()))),(((),((),((),()))),(((),((),((),()))),([],([],([],()))))))) hq
  change a0g (a1Q _).2.1 /\ (a1Q _).2.2.2.2.2.1=_ /\ Rows nn.toNat _ (a1Q _).2.2.2.2.1 (a1Q _).2.2.2.2.2.2.1 at hx
  generalize a1Q (((),(),(),w,nn,()),E.snd.fst,((),(),(),()),((),(),(),()),[],as_++List.set (List.replicate 1 (zero (Ty.int IntKind.i64))) 0 180,[],())=y at *
  obtain⟨_,c',_,_,ws',as',sp',_⟩:=y
  dsimp only at hx
  obtain⟨k1,k2,k3,k4,k5⟩:=hx
  subst k2
  refine a0v ⟨k1,?_⟩
  dsimp only
  have el:(as_++List.set (List.replicate 1 (zero (Ty.int IntKind.i64))) 0 180).length=as_.length+1:=by simp only[List.length_append,List.length_set,List.length_replicate]
  refine⟨by rw[el];omega,by rw[el];omega,by rw[k3];exact hn.2.2.1,by rw[k3];exact hn.2.2.2,rfl,by rw[k3,k4],k5⟩
 refine a1q (fun _=>?_) (fun _=>?_)
 ·exact main 0 (by decide)
 ·exact main _ (f7Q _ b1)
theorem d7y (x:a5Z.den) (h:a0g x.2.1):b1j x=true:=a2B (c5c x h)
theorem d7z (x:a5Z.den) (h:a0g x.2.1):a0g (a6J x).2.1 /\ e9d (a6J x).2.2.1 (a6J x).2.2.2.1 (a6J x).2.2.2.2.1:=a2S _ (c5c x h)
def d4u (ws:List Nat) (as_:List Int) (sp:List (List Unit)):Prop:=ws.length<=14 /\ as_.length<=22 /\ sp.length<=14 /\ ∀r∈sp,r.length<=22
theorem e9d.some {ws:List Nat} {as_:List Int} {sp:List (List Unit)} (h:e9d ws as_ sp):d4u ws as_ sp:=by
 obtain⟨h1,h2,h3,h4,h5,h6,h7⟩:=h
 exact⟨by omega,h2,by omega,fun r hr=>by rw[h7 r hr];exact h2⟩
theorem d4u.nil:d4u [] [] []:=⟨Nat.zero_le _,Nat.zero_le _,Nat.zero_le _,fun _ h=>by cases h⟩
theorem w12 (a:Int) (h:0<=a /\ a<2):12<=IntKind.i64.wrap (12+a) /\ IntKind.i64.wrap (12+a)<=13:=by
 rw[w64 (by omega) (by omega)]
 omega
theorem f7R (a:Int) (n:Nat) (h:0<=a /\ a<(n:Int)):a.toNat<n:=by omega
theorem d2j (v:a7E) (hc:a0g v.2.1) (hw:1<=v.2.2.2.2.1.length /\ v.2.2.2.2.1.length<=4) (hs:v.2.2.2.2.2.2.1.length=v.2.2.2.2.1.length) (hr:∀r∈v.2.2.2.2.2.2.1,List.length r<=22) :
 Pst (c5b v) fun y=>a0g y.2.1 /\ y.2.2.2.2.2.1=v.2.2.2.2.2.1 /\ y.2.2.2.2.1.length<=14 /\ y.2.2.2.2.2.2.1.length<=14 /\ ∀r∈y.2.2.2.2.2.2.1,List.length r<=22:=by
 unfold c5b
 refine a0W (q:=c5a b1j a6J K34 G34 a9A a9B a7R a7S)
  (fun u=>a0g u.2.1 /\ u.2.2.2.2.2.1=v.2.2.2.2.2.1 /\ 1<=u.2.2.2.2.1.length /\ u.2.2.2.2.1.length<=13 /\ u.2.2.2.2.2.2.1.length=u.2.2.2.2.1.length /\ ∀r∈u.2.2.2.2.2.2.1,List.length r<=22)
  (fun _ r=>Pst r fun y=>a0g y.2.1 /\ y.2.2.2.2.2.1=v.2.2.2.2.2.1 /\ y.2.2.2.2.1.length<=14 /\ y.2.2.2.2.2.2.1.length<=14 /\ ∀r∈y.2.2.2.2.2.2.1,List.length r<=22)
  (fun u=>14-u.2.2.2.2.1.length) ?_ _ _ ⟨hc,rfl,hw.1,by omega,hs,hr⟩ (by unfold d2h;omega)
 clear hc hw hs hr
 rintro⟨_,⟨c0,c1,c2,_⟩,_,_,ws,as_,sp,_⟩ f ⟨g0,g1,g2,g3,g4,g5⟩ ih
 dsimp only at g0 g1 g2 g3 g4 g5 ih
 unfold c5a
 dsimp only
 refine a0p (a0C _ (by(repeat ((try dsimp only);first|assumption|(with_reducible first|apply a0b|apply a0h|apply a0d|apply a0c|apply a0f))))) ?_
 have b1:=w12 _ (a1g 2 (c0,c1,c2,()) g0 (by decide))
 have c5:a0g (G34 (((),2,()),(c0,c1,c2,()),())).2.1:=by(repeat ((try dsimp only);first|assumption|(with_reducible first|apply a0b|apply a0h|apply a0d|apply a0c|apply a0f)))
 generalize G34 (((),2,()),(c0,c1,c2,()),())=A at *
 generalize IntKind.i64.wrap (12+A.fst.fst)=n at *
 have e:IntKind.i64.wrap ((ws.length:Int)-1)=((ws.length-1:Nat):Int):=by rw[w64 (by omega) (by omega)];omega
 rw[e]
 by_cases hk:(ws.length:Int)<n
 ·refine a0p (by simpa using hk) ?_
  refine a0p (by simp;omega) ?_
  refine a0p (a0K (by simp only[List.length_set,List.length_replicate];omega)) ?_
  refine a0p (by simp;omega) ?_
  refine a0p (a0K (by simp only[List.length_set,List.length_replicate];omega)) ?_
  have hm:List.getD sp (Int.toNat 0) (zero (Ty.slice Ty.jnk))∈sp:=by
   have h0:0<sp.length:=by omega
   show sp.getD 0 _∈sp
   rw[List.getD_eq_getElem?_getD,List.getElem?_eq_getElem h0]
   exact List.getElem_mem h0
  refine ih _ ⟨c5,g1,?_,?_,?_,?_⟩ ?_
  ·simp only[List.length_append,List.length_set,List.length_replicate];omega
  ·simp only[List.length_append,List.length_set,List.length_replicate];omega
  ·simp only[List.length_append,List.length_set,List.length_replicate];omega
  ·intro r hr
   rcases List.mem_append.1 hr with hr|hr
   ·exact g5 r hr
   ·rw[show r=_ from List.mem_singleton.1 hr];exact g5 _ hm
  ·simp only[List.length_append,List.length_set,List.length_replicate];omega
 ·have hd:decide ((ws.length:Int)<n)=false:=by simpa using hk
  rw[hd]
  exact a0v ⟨c5,g1,by show ws.length<=14;omega,by show sp.length<=14;omega,g5⟩
theorem d2k (v:a7F) (hc:a0g v.2.1) (hi:0<=(v.1.2.2.1:Int) /\ (v.1.2.2.1:Int)<(v.2.2.2.2.2.2.1.length:Int)) (hn:(v.1.2.2.2.1:Int)=((List.getD v.2.2.2.2.2.2.1 (v.1.2.2.1:Int).toNat (zero (Ty.slice Ty.jnk))).length:Int)) (hs:(v.1.2.2.2.1:Int)<=22) (hk:v.1.2.2.2.2.1=0) :
 Pst (c4Z v) fun y=>a0g y.2.1 /\ y.2.2.2.2=v.2.2.2.2:=by
 unfold c4Z
 refine a0W (q:=c4Y b1j a6J K34 G34 a9A a9B a7R a7S)
  (fun u=>a0g u.2.1 /\ u.2.2.2.2=v.2.2.2.2 /\ u.1.2.2.1=v.1.2.2.1 /\ u.1.2.2.2.1=v.1.2.2.2.1 /\ 0<=(u.1.2.2.2.2.1:Int) /\ (u.1.2.2.2.2.1:Int)<=v.1.2.2.2.1)
  (fun _ r=>Pst r fun y=>a0g y.2.1 /\ y.2.2.2.2=v.2.2.2.2)
  (fun u=>(v.1.2.2.2.1-u.1.2.2.2.2.1:Int).toNat) ?_ _ _ ⟨hc,rfl,rfl,rfl,by rw[hk];exact Int.le_refl 0,by rw[hk,hn];exact Int.natCast_nonneg _⟩ (by rw[hk];unfold d2g;omega)
 clear hc hk
 rintro⟨⟨_,_,i,n,k,_⟩,⟨c0,c1,c2,_⟩,_,_,ws,as_,sp,_⟩ f ⟨g0,g1,g2,g3,g4,g5⟩ ih
 dsimp only at g0 g1 g2 g3 g4 g5 ih
 have es:sp=v.2.2.2.2.2.2.1:=congrArg (·.2.2.1) g1
 rw[<- g2,<- es]at hi
 rw[<- g2,<- g3,<- es]at hn
 rw[<- g3]at hs g5
 unfold c4Y
 dsimp only
 by_cases hk:k<n
 ·refine a0p (by simpa using hk) ?_
  refine a0p (by simp;omega) ?_
  rw[<- hn]
  refine a0p (by simp;omega) ?_
  have e:IntKind.i64.wrap (k+1)=k+1:=w64 (by omega) (by omega)
  rw[e]
  refine ih _ ⟨g0,g1,g2,g3,?_,?_⟩ ?_
  ·show 0<=k+1;omega
  ·show k+1<=v.1.2.2.2.1;rw[<- g3];omega
  ·show(v.1.2.2.2.1-(k+1):Int).toNat<(v.1.2.2.2.1-k:Int).toNat;rw[<- g3];omega
 ·have hd:decide (k<n)=false:=by simpa using hk
  rw[hd]
  exact a0v ⟨g0,g1⟩
def p78 (x:I78.den):Bool:=d7r x.2.1
def Q78 (x:I78.den) (y:O78.den):Prop:=a0g y.2.1 /\ d4u y.1.1.1 y.1.1.2.1 y.1.1.2.2.1
theorem e9e (x:I78.den) (hx:p78 x=true) (k:O78.den->Option Unit) (hk:∀y,Q78 x y->k y=some ()) :
 a3n (e5r b1j a6J K34 G34 a9A a9B a7R a7S b1l a4A b1k a6K) (N78 p141 Q141 e141) (a0e Tryz.f78) I78 O78 k x=some ():=by
 have hk:∀y:O78.den,a0g y.2.1 /\ d4u y.1.1.1 y.1.1.2.1 y.1.1.2.2.1->k y=some ():=hk
 have h:a0g x.2.1:=a1s.1 hx
 refine Eq.trans (f7N _ _ _ _ _ _ _ _ _ _ _ _ _ _ _ k x) ?_
 unfold f9b
 dsimp only
 haveI:=e141
 have a2n:∀(n:Int) (c:List Int×Int×Int×Unit),a0g c->0<n->0<=((G34 (((),n,()),c,())).1.1:Int) /\ ((G34 (((),n,()),c,())).1.1:Int)<n:=fun n c h hn=>a1g n c h hn
 refine a0H (d7y (((),()),x.snd) h) ?_
 obtain⟨c1,hP⟩:=d7z (((),()),x.snd) h
 generalize a6J (((),()),x.snd)=A at *
 obtain⟨_,c,ws,as_,sp,_⟩:=A
 dsimp only at c1 hP ⊢
 have hL:=hP.some
 obtain⟨p1,p2,p3,p4,-,p5,p6⟩:=hP
 refine a0H (a0C _ (by(repeat ((try dsimp only);first|assumption|(with_reducible first|apply a0b|apply a0h|apply a0d|apply a0c|apply a0f))))) ?_
 have b2:0<=((G34 (((),(ws.length:Int),()),c,())).1.1:Int) /\ ((G34 (((),(ws.length:Int),()),c,())).1.1:Int)<(ws.length:Int):=a2n _ c c1 (by omega)
 have c2:a0g (G34 (((),(ws.length:Int),()),c,())).2.1:=by(repeat ((try dsimp only);first|assumption|(with_reducible first|apply a0b|apply a0h|apply a0d|apply a0c|apply a0f)))
 generalize G34 (((),(ws.length:Int),()),c,())=B at *
 refine a0H (a0C _ (by(repeat ((try dsimp only);first|assumption|(with_reducible first|apply a0b|apply a0h|apply a0d|apply a0c|apply a0f))))) ?_
 have b3:0<=((G34 (((),(as_.length:Int),()),B.snd)).1.1:Int) /\ ((G34 (((),(as_.length:Int),()),B.snd)).1.1:Int)<(as_.length:Int):=a2n _ B.2.1 c2 (by omega)
 have c3:a0g (G34 (((),(as_.length:Int),()),B.snd)).2.1:=by(repeat ((try dsimp only);first|assumption|(with_reducible first|apply a0b|apply a0h|apply a0d|apply a0c|apply a0f)))
 generalize G34 (((),(as_.length:Int),()),B.snd)=C at *
 refine a0H (a0C _ (by(repeat ((try dsimp only);first|assumption|(with_reducible first|apply a0b|apply a0h|apply a0d|apply a0c|apply a0f))))) ?_
 have c4:a0g (G34 (((),24,()),C.snd)).2.1:=by(repeat ((try dsimp only);first|assumption|(with_reducible first|apply a0b|apply a0h|apply a0d|apply a0c|apply a0f)))
 generalize G34 (((),24,()),C.snd)=D at *
 have i1:(decide (0<=(B.fst.fst:Int))&&decide ((B.fst.fst:Int)<(ws.length:Int)))=true:=by simp[b2]
 have i2:(decide (0<=(B.fst.fst:Int))&&decide ((B.fst.fst:Int)<(sp.length:Int)))=true:=by rw[p5];exact i1
 have i3:(decide (0<=(C.fst.fst:Int))&&decide ((C.fst.fst:Int)<(as_.length:Int)))=true:=by simp[b3]
 have hlt:(B.fst.fst:Int).toNat<sp.length:=by
  rw[p5]
  exact f7R _ _ b2
 have hm:List.getD sp (Int.toNat B.fst.fst) (zero (Ty.slice Ty.jnk))∈sp:=by
  rw[List.getD_eq_getElem?_getD,List.getElem?_eq_getElem hlt]
  exact List.getElem_mem hlt
 have hml:(List.getD sp (Int.toNat B.fst.fst) (zero (Ty.slice Ty.jnk))).length=as_.length:=p6 _ hm
 have i4:(decide (0<=(C.fst.fst:Int))&&decide ((C.fst.fst:Int)<((List.getD sp (Int.toNat B.fst.fst) (zero (Ty.slice Ty.jnk))).length:Int)))=true:=by rw[hml];exact i3
 have hset:∀(i:Nat) (r:List Unit),r.length<=22->d4u ws as_ (sp.set i r):=fun i r hr=>⟨hL.1,hL.2.1,by rw[List.length_set];exact hL.2.2.1,fun u hu=>by
  rcases List.mem_or_eq_of_mem_set hu with h1|h1
  ·exact hL.2.2.2 u h1
  ·rw[h1];exact hr⟩
 refine a1Z (fun _=>?_) (fun _=>?_)
 ·refine a0A fun g=>?_
  have hp:p141 (((),120,()),D.snd)=true:=a1s.2 c4
  refine a0H hp ?_
  refine a0H i1 ?_
  exact hk _ ⟨g.2 _ hp,by show(List.set ws _ _).length<=14;rw[List.length_set];exact hL.1,hL.2⟩
 refine a1Z (fun _=>?_) (fun _=>?_)
 ·refine a0H (b6C _ (by(repeat ((try dsimp only);first|assumption|(with_reducible first|apply a0b|apply a0h|apply a0d|apply a0c|apply a0f))))) ?_
  refine a0H i3 ?_
  exact hk _ ⟨by(repeat ((try dsimp only);first|assumption|(with_reducible first|apply a0b|apply a0h|apply a0d|apply a0c|apply a0f))),hL.1,by show(List.set as_ _ _).length<=22;rw[List.length_set];exact hL.2.1,hL.2.2⟩
 refine a1Z (fun _=>?_) (fun _=>?_)
 ·refine a0A fun g=>?_
  refine a0H i2 ?_
  have hp:p141 (((),60,()),D.snd)=true:=a1s.2 c4
  refine a0H hp ?_
  refine a0H i4 ?_
  exact hk _ ⟨g.2 _ hp,hL⟩
 refine a1Z (fun _=>?_) (fun _=>?_)
 ·refine a0H i2 ?_
  refine a0H (by rw[hml];simp;omega) ?_
  refine a0H i2 ?_
  refine hk _ ⟨c4,hset _ _ ?_⟩
  simp only[List.length_drop,List.length_take]
  rw[hml]
  omega
 refine a1Z (fun _=>?_) (fun _=>?_)
 ·refine a0H (by simp;omega) ?_
  refine hk _ ⟨c4,hL.1,hL.2.1,?_,fun r hr=>?_⟩
  ·simp only[List.length_drop,List.length_take];have:=hL.2.2.1;omega
  ·exact hL.2.2.2 r (List.mem_of_mem_take (List.mem_of_mem_drop hr))
 refine a1Z (fun _=>hk _ ⟨c4,d4u.nil⟩) (fun _=>?_)
 refine a1Z (fun _=>?_) (fun _=>?_)
 ·have hr:=d2j (((),(),(),()),D.snd.fst,((),(),(),()),((),(),(),()),ws,as_,sp,()) c4 ⟨p3,p4⟩ p5 hL.2.2.2
  refine a0H (a2B hr) ?_
  have hx:=a2S (((),((),())),(([],(0,(0,()))),(((),((),((),()))),(((),((),((),()))),([],([],([],()))))))) hr
  change a0g (a4A _).2.1 /\ (a4A _).2.2.2.2.2.1=as_ /\ (a4A _).2.2.2.2.1.length<=14 /\ (a4A _).2.2.2.2.2.2.1.length<=14 /\ _ at hx
  refine hk _ ⟨hx.1,hx.2.2.1,?_,hx.2.2.2.1,hx.2.2.2.2⟩
  refine Nat.le_trans (Nat.le_of_eq ?_) hL.2.1
  exact congrArg List.length hx.2.1
 refine a1Z (fun _=>?_) (fun _=>?_)
 ·refine a0H i2 ?_
  refine a0H i4 ?_
  exact hk _ ⟨c4,hL⟩
 refine a1Z (fun _=>?_) (fun _=>hk _ ⟨c4,hL⟩)
 refine a0H i2 ?_
 have hr:=d2k (((),(),B.fst.fst,((List.getD sp (Int.toNat B.fst.fst) (zero (Ty.slice Ty.jnk))).length:Int),0,()),D.snd.fst,((),(),(),()),((),(),(),()),ws,as_,sp,()) c4
  (by show 0<=(B.fst.fst:Int) /\ (B.fst.fst:Int)<(sp.length:Int);rw[p5];exact b2) rfl (by show((List.getD sp (Int.toNat B.fst.fst) (zero (Ty.slice Ty.jnk))).length:Int)<=22;rw[hml];omega) rfl
 refine a0H (a2B hr) ?_
 have hx:=a2S (((),((),())),(([],(0,(0,()))),(((),((),((),()))),(((),((),((),()))),([],([],([],()))))))) hr
 change a0g (a6K _).2.1 /\ (a6K _).2.2.2.2=(ws,as_,sp,())at hx
 have e1:=congrArg (·.1) hx.2
 have e2:=congrArg (·.2.1) hx.2
 have e3:=congrArg (·.2.2.1) hx.2
 dsimp only at e1 e2 e3
 refine hk _ ⟨hx.1,?_⟩
 dsimp only
 rw[e1,e2,e3]
 exact hL
theorem e9f:Nonempty (Ch I78 (unO O78) p78 fun x y=>Q78 x (e5X O78 y)):=⟨⟨fun _=>((([],[],[],()),()),(e0q,())),fun _ _=>⟨a6I,d4u.nil⟩⟩⟩
theorem f7S:a2L Tryz.prog 78 (a3o true I78 (unO O78) p78 (fun x y=>Q78 x (e5X O78 y)) e9f):=
 e5Z e9c (N:=N78 p141 Q141 e141) (a2M ⟨d1V,trivial⟩) f9a a1w rfl (fun _=>rfl) (fun _=>rfl) (fun _=>rfl) e9e
abbrev a3t:Sg:=⟨[.ptr 0],[.box (a2N)]⟩
abbrev a4c:Sg:=⟨[.val (S27)],[.box (a2N)]⟩
def d2l (x:a3t.den):Bool:=false
def d2m (x:a3t.den):a4c.den:=a1d a4c
theorem e3s:a0q Tryz.prog (78,a0n true a3t a4c d2l d2m):=e5T e9c f9a fun x h=>by cases h
def a4d (x:a3t.den):Bool:=d7r x.2.1
def e0u (p:List Nat×List Int×List (List Nat)×Unit):Prop:=p.1.length<=14 /\ p.2.1.length<=22 /\ p.2.2.1.length<=14 /\ ∀r∈p.2.2.1,r.length<=22
def a6a (x:a3t.den) (y:a4c.den):Prop:=a0g y.2.1 /\ e0u y.1.1
theorem b6M:Nonempty (Ch a3t a4c a4d a6a):=⟨⟨fun _=>((([],[],[],()),()),(e0q,())),fun _ _=>⟨a6I,Nat.zero_le _,Nat.zero_le _,Nat.zero_le _,fun _ h=>by cases h⟩⟩⟩
theorem e3t (x:I78.den) (y:a4c.den):Q78 x (e5X O78 y)↔a6a x y:=by
 obtain⟨⟨⟨ws,as_,sp,_⟩,_⟩,c,_⟩:=y
 have e2:∀r:List Nat,List.length (shp (.slice .jnk) r)=r.length:=fun r=>List.length_map _
 show a0g c /\ d4u (List.map (shp (.flt .f32)) ws) (List.map (shp (.int .i64)) as_) (List.map (shp (.slice .jnk)) sp)↔a0g c /\ (ws.length<=14 /\ as_.length<=22 /\ sp.length<=14 /\ ∀r∈sp,r.length<=22)
 unfold d4u
 simp only[List.length_map,List.mem_map,forall_exists_index,and_imp,forall_apply_eq_imp_iff₂,e2]
theorem d2n {P:Program} {f:Nat} {own:Bool} {I O:Sg} {ok:I.den->Bool} {Q Q':I.den->O.den->Prop} (e:∀x y,Q x y↔Q' x y) {hne:Nonempty (Ch I O ok Q)} {hne':Nonempty (Ch I O ok Q')} (h:a2L P f (a3o own I O ok Q hne)):a2L P f (a3o own I O ok Q' hne'):=by
 have e:Q=Q':=funext fun x=>funext fun y=>propext (e x y)
 subst e
 exact h
theorem e3u:a2L Tryz.prog 78 (a3o true a3t a4c a4d a6a b6M):=d2n (O:=a4c) e3t f7S
def amt (s:Nat):Nat:=bif flt .f32 s 0 then a5R .f32 s else s
theorem e0v (s:Nat):F94 (s,())=some (amt s,()):=by
 unfold F94 r94 amt
 cases flt .f32 s 0<;>rfl
theorem d2o (s:Nat):e5h (s,())=some (amt s,()):=by
 unfold e5h f3s amt
 cases flt .f32 s 0<;>rfl
def c0j (s:Nat):Bool:=flt .f32 (amt s) 1120403456||feq .f32 (amt s) 1120403456
def a5d (c:Nat×Nat):Bool:=c0j c.1&&c0j c.2
theorem a4X (c:Nat×Nat):F45 (c,())=some (a5d c,()):=by
 unfold F45 r45 a5d
 have e1:F94 (c.1,())=some (amt c.1,()):=e0v c.1
 have e2:F94 (c.2,())=some (amt c.2,()):=e0v c.2
 simp only[K94,G94,e1,e2,Option.isSome_some,Option.getD_some,cond_true]
 show(bif c0j c.1 then some (c0j c.2,())else some (false,()))=_
 cases c0j c.1<;>rfl
theorem e9g (c:Nat×Nat):F52 (c,())=some (a5d c,()):=by
 unfold F52 r52 a5d
 have e1:e5h (c.1,())=some (amt c.1,()):=d2o c.1
 have e2:e5h (c.2,())=some (amt c.2,()):=d2o c.2
 simp only[f0x,f0y,e1,e2,Option.isSome_some,Option.getD_some,cond_true]
 show(bif c0j c.1 then some (c0j c.2,())else some (false,()))=_
 cases c0j c.1<;>rfl
def atV (l:List (Nat×Nat)) (i:Nat):Nat×Nat:=l.getD i (0,0)
def a8A (l:List (Nat×Nat)):Bool:=a0w (fun i=>a5d (atV l i)) 0 l.length
def a0L (x a b:Int):Bool:=decide (a<=x)&&decide (x<=b)
theorem a2O (x a b:Int):F44 (x,a,b,())=some (a0L x a b,()):=by
 unfold F44 r44 a0L
 show(bif decide (x ≥ a)then some (decide (x<=b),())else some (false,()))=_
 show(bif decide (a<=x)then some (decide (x<=b),())else some (false,()))=_
 cases decide (a<=x)<;>rfl
theorem a5v (x a b:Int):F51 (x,a,b,())=some (a0L x a b,()):=a2O x a b
theorem e5s:Ieee.double.signWeight=2^63:=by decide
theorem c2n:Ieee.double.infRung=2047*2^52:=by decide
theorem c2o:Ieee.double.binade=2^52:=by decide
theorem e3v:Ieee.double.leastPlace=-1074:=by decide
theorem f7T:Ieee.double.fractionBits=52:=by decide
theorem a5N (neg:Bool) (K e:Nat) (h1:e*2^52+K<2047*2^52) (h2:(e=0 /\ K<=2^53)∨(2^52<=K /\ K<=2^53)) :
 ∃(m:Nat) (c:Nat),Ieee.double.read (Ieee.double.word neg (e*2^52+K)) = .number neg m ((c:Int)-1074) /\ m*2^c=K*2^e:=by
 have hr:Ieee.double.word neg (e*2^52+K)%Ieee.double.signWeight=e*2^52+K:=by
  unfold Ieee.Format.word
  rw[e5s]
  split<;>omega
 have hn:(Ieee.double.word neg (e*2^52+K)/Ieee.double.signWeight%2==1)=neg:=by
  unfold Ieee.Format.word
  rw[e5s]
  cases neg
  ·rw[if_neg (by decide)]
   have:(e*2^52+K)/2^63=0:=Nat.div_eq_of_lt (by omega)
   rw[this];rfl
  ·rw[if_pos rfl]
   have:(2^63+(e*2^52+K))/2^63=1:=by omega
   rw[this];rfl
 unfold Ieee.Format.read
 dsimp only
 rw[hr,hn,c2o,c2n,e3v]
 by_cases c1:e*2^52+K<2^52
 ·rw[if_pos c1]
  have:e=0:=by omega
  subst this
  exact⟨K,0,by simp,by simp⟩
 ·rw[if_neg c1,if_pos h1]
  by_cases c2:K<2^52
  ·exfalso;omega
  by_cases c3:K=2^53
  ·have e1:(e*2^52+K)/2^52=e+2:=by omega
   have e2:(e*2^52+K)%2^52=0:=by omega
   rw[e1,e2]
   refine⟨2^52,e+1,?_,?_⟩
   ·rw[show((-1074:Int)+((e+2-1:Nat):Int))=((e+1:Nat):Int)-1074 by omega,Nat.add_zero]
   ·rw[c3,<- Nat.pow_add,<- Nat.pow_add]
    congr 1
    omega
  ·have e1:(e*2^52+K)/2^52=e+1:=by omega
   have e2:(e*2^52+K)%2^52=K-2^52:=by omega
   rw[e1,e2]
   refine⟨K,e,?_,rfl⟩
   rw[show((-1074:Int)+((e+1-1:Nat):Int))=((e:Nat):Int)-1074 by omega,show 2^52+(K-2^52)=K by omega]
def VU (s:Bool) (m c:Nat):Int:=if s then -((m*2^c:Nat):Int)else((m*2^c:Nat):Int)
def isD (b:Nat) (v:Int):Prop:=∃(s:Bool) (m c:Nat),Ieee.double.read b = .number s m ((c:Int)-1074) /\ v=VU s m c
theorem c5d (s:Bool) (m c d:Nat) (h:d<=c):Ieee.signed s m (c-d)*((2^d:Nat):Int)=VU s m c:=by
 have e:m*2^(c-d)*2^d=m*2^c:=by rw[Nat.mul_assoc,<- Nat.pow_add];congr 2;omega
 unfold Ieee.signed VU
 rw[Nat.shiftLeft_eq]
 split
 ·rw[Int.neg_mul,<- Int.natCast_mul,e]
 ·rw[<- Int.natCast_mul,e]
theorem e3w (a b k:Int) (hk:0<k):compare (a*k) (b*k)=compare a b:=by
 have h1:a*k<b*k↔a<b:=Int.mul_lt_mul_right hk
 have h2:b*k<a*k↔b<a:=Int.mul_lt_mul_right hk
 rw[Int.compare_eq_ite_lt,Int.compare_eq_ite_lt]
 simp only[h1,h2]
theorem e3x (s t:Bool) (m n c d:Nat):Ieee.Datum.order (.number s m ((c:Int)-1074)) (.number t n ((d:Int)-1074))=some (compare (VU s m c) (VU t n d)):=by
 unfold Ieee.Datum.order
 dsimp only
 have e1:(((c:Int)-1074)-min ((c:Int)-1074) ((d:Int)-1074)).toNat=c-min c d:=by omega
 have e2:(((d:Int)-1074)-min ((c:Int)-1074) ((d:Int)-1074)).toNat=d-min c d:=by omega
 rw[e1,e2,<- c5d s m c (min c d) (Nat.min_le_left _ _),<- c5d t n d (min c d) (Nat.min_le_right _ _),e3w]
 exact Int.natCast_pos.2 (Nat.two_pow_pos _)
theorem g0Z {a b:Nat} {x y:Int} (ha:isD a x) (hb:isD b y):FloatKind.f64.format.order a b=some (compare x y):=by
 obtain⟨s,m,c,h1,rfl⟩:=ha
 obtain⟨t,n,d,h2,rfl⟩:=hb
 show(Ieee.double.read a).order (Ieee.double.read b)=_
 rw[h1,h2]
 exact e3x s t m n c d
set_option exponentiation.threshold 2000
theorem d7A (neg:Bool) (M c v:Nat) (h0:0<M) (h:M*2^c=v*2^1074) (hv53:v<2^53) :
 ∃K e:Nat,Ieee.double.nearest neg M ((c:Int)-1074)=Ieee.double.word neg (e*2^52+K) /\ e*2^52+K<2047*2^52 /\ ((e=0 /\ K<=2^53)∨(2^52<=K /\ K<=2^53)) /\ K*2^e=M*2^c:=by
 have l1:2^M.log2<=M:=Nat.log2_self_le (by omega)
 have l2:M<2^(M.log2+1):=Nat.lt_log2_self
 have hlc:M.log2+c<1127:=by
  have h1:2^(M.log2+c)<=M*2^c:=by rw[Nat.pow_add];exact Nat.mul_le_mul_right _ l1
  have h2:v*2^1074<2^(53+1074):=by
   rw[Nat.pow_add 2 53 1074];exact Nat.mul_lt_mul_of_pos_right hv53 (Nat.two_pow_pos _)
  rw[<- h]at h2
  exact(Nat.pow_lt_pow_iff_right (a:=2) (by decide)).1 (Nat.lt_of_le_of_lt h1 h2)
 unfold Ieee.Format.nearest
 rw[if_neg (by omega),f7T,e3v,c2o,c2n]
 dsimp only
 generalize hL:M.log2=L at *
 by_cases hs:L<=52
 ·
  by_cases hd:L+c<52
  ·have hlast:max ((c:Int)-1074+(L:Int)-(52:Nat)) (-1074)=-1074:=by omega
   rw[hlast]
   have e1:((c:Int)-1074 - -1074).toNat=c:=by omega
   have e2:(-1074-((c:Int)-1074)).toNat=0:=by omega
   have e3:((-1074:Int) - -1074).toNat=0:=by decide
   rw[e1,e2,e3,a5y,Nat.shiftLeft_eq]
   have hk:M*2^c<2^53:=by
    calc M*2^c<2^(L+1)*2^c:=Nat.mul_lt_mul_of_pos_right l2 (Nat.two_pow_pos _)
     _=2^(L+1+c):=by rw[<- Nat.pow_add]
     _<=2^53:=Nat.pow_le_pow_right (by decide) (by omega)
   have hx:0*2^52+M*2^c<2047*2^52:=by rw[Nat.zero_mul,Nat.zero_add];exact Nat.lt_trans hk (by decide)
   refine⟨M*2^c,0,?_,hx,.inl ⟨Eq.refl 0,Nat.le_of_lt hk⟩,?_⟩
   ·rw[Nat.min_eq_left (Nat.le_of_lt hx)]
   ·rw[Nat.pow_zero,Nat.mul_one]
  ·have hlast:max ((c:Int)-1074+(L:Int)-(52:Nat)) (-1074)=(c:Int)-1074+(L:Int)-52:=by omega
   rw[hlast]
   have e1:((c:Int)-1074-((c:Int)-1074+(L:Int)-52)).toNat=52-L:=by omega
   have e2:(((c:Int)-1074+(L:Int)-52)-((c:Int)-1074)).toNat=0:=by omega
   have e3:(((c:Int)-1074+(L:Int)-52) - -1074).toNat=c+L-52:=by omega
   rw[e1,e2,e3,a5y,Nat.shiftLeft_eq]
   have hk1:M*2^(52-L)<2^53:=by
    calc M*2^(52-L)<2^(L+1)*2^(52-L):=Nat.mul_lt_mul_of_pos_right l2 (Nat.two_pow_pos _)
     _=2^(L+1+(52-L)):=by rw[<- Nat.pow_add]
     _=2^53:=by congr 1;omega
   have hk2:2^52<=M*2^(52-L):=by
    calc 2^52=2^(L+(52-L)):=by congr 1;omega
     _=2^L*2^(52-L):=by rw[<- Nat.pow_add]
     _<=M*2^(52-L):=Nat.mul_le_mul_right _ l1
   have hv:M*2^(52-L)*2^(c+L-52)=M*2^c:=by
    rw[Nat.mul_assoc,<- Nat.pow_add]
    congr 2
    omega
   refine⟨M*2^(52-L),c+L-52,?_,by generalize M*2^(52-L)=q at *;clear l1 l2;omega,.inr ⟨hk2,Nat.le_of_lt hk1⟩,hv⟩
   rw[Nat.min_eq_left (by omega)]
 ·
  have hlast:max ((c:Int)-1074+(L:Int)-(52:Nat)) (-1074)=(c:Int)-1074+(L:Int)-52:=by omega
  rw[hlast]
  have e1:((c:Int)-1074-((c:Int)-1074+(L:Int)-52)).toNat=0:=by omega
  have e2:(((c:Int)-1074+(L:Int)-52)-((c:Int)-1074)).toNat=L-52:=by omega
  have e3:(((c:Int)-1074+(L:Int)-52) - -1074).toNat=c+L-52:=by omega
  rw[e1,e2,e3,Nat.shiftLeft_zero]
  have hdvd:2^(L-52) ∣ M:=by
   have h1:2^(L-52)*2^c ∣ M*2^c:=by
    rw[h,<- Nat.pow_add]
    exact Nat.dvd_trans (Nat.pow_dvd_pow 2 (by omega)) (Nat.dvd_mul_left _ _)
   exact Nat.dvd_of_mul_dvd_mul_right (Nat.two_pow_pos c) h1
  have hm0:M%2^(L-52)=0:=Nat.mod_eq_zero_of_dvd hdvd
  have hg:0<2^(L-52):=Nat.two_pow_pos _
  have hcut:Ieee.Toward.even.cut neg M (L-52)=M/2^(L-52):=by
   unfold Ieee.Toward.cut
   dsimp only
   rw[hL,Nat.min_eq_left (by omega),Nat.one_shiftLeft,hm0]
   simp
  rw[hcut]
  have hq1:M/2^(L-52)<2^53:=by
   rw[Nat.div_lt_iff_lt_mul hg,<- Nat.pow_add]
   have:53+(L-52)=L+1:=by omega
   rw[this];exact l2
  have hq2:2^52<=M/2^(L-52):=by
   rw[Nat.le_div_iff_mul_le hg,<- Nat.pow_add]
   have:52+(L-52)=L:=by omega
   rw[this];exact l1
  have hdm:=Nat.div_add_mod M (2^(L-52))
  rw[hm0,Nat.add_zero]at hdm
  generalize M/2^(L-52)=q at *
  have hp:2^(c+L-52)=2^(L-52)*2^c:=by
   rw[<- Nat.pow_add]
   congr 1
   omega
  refine⟨q,c+L-52,?_,by omega,.inr ⟨by omega,by omega⟩,?_⟩
  ·rw[Nat.min_eq_left (by omega)]
  ·rw[hp,<- Nat.mul_assoc,Nat.mul_comm q,hdm]
end Go.Proofs.YtjomnmoekchfeaaGreatDoor.AM
