/- Texts of one proof, joined: an abstract machine for the program, its functions evaluated, plain lemmas. Conditions: those that each lemma names. -/
import Derived.Test.YtjomnmoekchfeaaGreatDoorM2
import Derived.Test.YtjomnmoekchfeaaGreatDoorProg
import Derived.Test.YtjomnmoekchfeaaGreatDoorChecked
import Derived.Shelf.Strings.Builder1
import Derived.Shelf.Strings.Builder2
import Derived.Shelf.Strings.OnBuilder
import Derived.Shelf.Small.Strs
import Derived.Shelf.Utf8.RuneCount
import Derived.Shelf.Strconv.Itoa0
import Derived.Shelf.Strconv.Itoa1
import Derived.Shelf.LaysM
import Derived.Shelf.Strconv.Itoa2
import Derived.Shelf.Strconv.Itoa3
import Derived.Shelf.Strings.Search1
import Derived.Shelf.Strings.Search2
import Derived.Shelf.Strings.Search3
import Derived.Shelf.Strings.Count
import Derived.Shelf.Strings.Shaped
import Derived.Shelf.Strings.Split
import Derived.Shelf.Strings.SplitShaped
import Derived.Shelf.Unicode.Decode
import Derived.Shelf.Strings.RuneCount
import Derived.Shelf.Strings.Explode
import Derived.Shelf.Unicode.DecodeSlow
import Derived.Shelf.Unicode.DecodeAny
import Derived.Ground.Names2Prog
import Derived.Shelf.Slices.Clone
import Derived.Ground.SlgnProg
import Derived.Shelf.SlicesE.Clone
set_option linter.unusedVariables false
set_option linter.unusedSimpArgs false
namespace Go.Proofs.YtjomnmoekchfeaaGreatDoor.AM
open Go Go.Proofs
abbrev S7:Ty := .cons (.int .i64) (.cons (.int .i64) (.cons (.bool) (.cons (.int .u8) (.nil))))
abbrev S13:Ty := .cons (.str) (.cons (.int .u64) (.nil))
abbrev S27:Ty := .cons (.slice (.flt .f32)) (.cons (.slice (.int .i64)) (.cons (.slice (.slice (.flt .f32))) (.nil)))
abbrev a1r:Ty := .cons (.cpx .f64) (.cons (.cons (.cpx .f32) (.cons (.cpx .f32) (.cons (.cpx .f32) (.cons (.cpx .f32) (.cons (.cpx .f32) (.cons (.cpx .f32) (.cons (.cpx .f32) (.cons (.cpx .f32) (.cons (.cpx .f32) (.cons (.cpx .f32) (.cons (.cpx .f32) (.cons (.cpx .f32) (.cons (.cpx .f32) (.nil)))))))))))))) (.nil))
abbrev S30:Ty := .cons (.slice (a1r)) (.cons (.slice (.int .i64)) (.nil))
abbrev S68:Ty := .cons (.str) (.cons (.flt .f32) (.cons (.flt .f32) (.cons (.int .i64) (.cons (.int .i64) (.nil)))))
abbrev S33:Ty := .cons (.int .i64) (.cons (.int .i64) (.nil))
abbrev S35:Ty := .cons (S33) (.cons (S33) (.nil))
abbrev a2u:Ty := .cons (S33) (.cons (.bool) (.nil))
abbrev S38:Ty := .cons (S35) (.cons (.slice (a2u)) (.cons (S35) (.nil)))
abbrev S40:Ty := .cons (S27) (.cons (S30) (.cons (.slice (S68)) (.cons (S38) (.nil))))
abbrev S97:Ty := .cons (S33) (.cons (.int .i64) (.nil))
abbrev S46:Ty := .cons (S40) (.cons (.int .i64) (.cons (.cpx .f64) (.cons (.int .i64) (.cons (.cpx .f32) (.cons (.int .i64) (.cons (.slice (S97)) (.cons (.slice (.str)) (.nil))))))))
abbrev S63:Ty := .cons (.flt .f32) (.cons (.int .i64) (.nil))
abbrev a2L:Ty := .cons (.slice (.int .u8)) (.cons (.int .i64) (.cons (.int .i64) (.nil)))
abbrev a2R:Ty := .cons (.int .i64) (.cons (.flt .f32) (.cons (.int .i64) (.nil)))
def tab:List (Nat×TI):=[
 (1,⟨1,8,false,.nil,[.pois],[],0,.other⟩),
 (2,⟨1,8,false,.int .i64,[.int .i64 0],[],0,.int .i64⟩),
 (3,⟨1,8,false,.int .i64,[.int .i64 0],[],0,.int .i64⟩),
 (4,⟨1,1,false,.bool,[.bool false],[],0,.bool⟩),
 (5,⟨1,1,false,.int .u8,[.int .u8 0],[],0,.int .u8⟩),
 (6,⟨1,1,false,.int .u8,[.int .u8 0],[],0,.int .u8⟩),
 (7,⟨4,24,true,S7,[.int .i64 0,.int .i64 0,.bool false,.int .u8 0],[(0,1,false),(1,1,false),(2,1,false),(3,1,false)],0,.struct⟩),
 (9,⟨1,16,false,.str,[.str ByteArray.empty],[],0,.string⟩),
 (10,⟨1,16,false,.str,[.str ByteArray.empty],[],0,.string⟩),
 (14,⟨2,24,true,S13,[.str ByteArray.empty,.int .u64 0],[(0,1,false),(1,1,false)],0,.struct⟩),
 (22,⟨1,24,false,.slice (.int .u8),[.nil (.int .u8)],[],5,.slice⟩),
 (24,⟨1,24,false,.slice (.flt .f32),[.nil (.flt .f32)],[],62,.slice⟩),
 (25,⟨1,24,false,.slice (.int .i64),[.nil (.int .i64)],[],3,.slice⟩),
 (26,⟨1,24,false,.slice (.slice (.flt .f32)),[.nil (.slice (.flt .f32))],[],24,.slice⟩),
 (28,⟨3,72,true,S27,[.nil (.flt .f32),.nil (.int .i64),.nil (.slice (.flt .f32))],[(0,1,false),(1,1,false),(2,1,false)],0,.struct⟩),
 (29,⟨1,24,false,.slice (a1r),[.nil (a1r)],[],186,.slice⟩),
 (31,⟨2,48,true,S30,[.nil (a1r),.nil (.int .i64)],[(0,1,false),(1,1,false)],0,.struct⟩),
 (32,⟨1,24,false,.slice (S68),[.nil (S68)],[],69,.slice⟩),
 (34,⟨2,16,true,S33,[.int .i64 0,.int .i64 0],[(0,1,false),(1,1,false)],0,.struct⟩),
 (36,⟨4,32,true,S35,[.int .i64 0,.int .i64 0,.int .i64 0,.int .i64 0],[(0,2,true),(2,2,true)],0,.struct⟩),
 (37,⟨1,24,false,.slice (a2u),[.nil (a2u)],[],165,.slice⟩),
 (39,⟨9,88,true,S38,[.int .i64 0,.int .i64 0,.int .i64 0,.int .i64 0,.nil (a2u),.int .i64 0,.int .i64 0,.int .i64 0,.int .i64 0],[(0,4,true),(4,1,false),(5,4,true)],0,.struct⟩),
 (41,⟨15,232,true,S40,[.nil (.flt .f32),.nil (.int .i64),.nil (.slice (.flt .f32)),.nil (a1r),.nil (.int .i64),.nil (S68),.int .i64 0,.int .i64 0,.int .i64 0,.int .i64 0,.nil (a2u),.int .i64 0,.int .i64 0,.int .i64 0,.int .i64 0],[(0,3,true),(3,2,true),(5,1,false),(6,9,true)],0,.struct⟩),
 (42,⟨1,16,false,.cpx .f64,[.cpx .f64 0 0],[],0,.complex .f64⟩),
 (43,⟨1,8,false,.cpx .f32,[.cpx .f32 0 0],[],0,.complex .f32⟩),
 (44,⟨1,24,false,.slice (S97),[.nil (S97)],[],98,.slice⟩),
 (45,⟨1,24,false,.slice (.str),[.nil (.str)],[],9,.slice⟩),
 (47,⟨22,328,true,S46,[.nil (.flt .f32),.nil (.int .i64),.nil (.slice (.flt .f32)),.nil (a1r),.nil (.int .i64),.nil (S68),.int .i64 0,.int .i64 0,.int .i64 0,.int .i64 0,.nil (a2u),.int .i64 0,.int .i64 0,.int .i64 0,.int .i64 0,.int .i64 0,.cpx .f64 0 0,.int .i64 0,.cpx .f32 0 0,.int .i64 0,.nil (S97),.nil (.str)],[(0,15,true),(15,1,false),(16,1,false),(17,1,false),(18,1,false),(19,1,false),(20,1,false),(21,1,false)],0,.struct⟩),
 (50,⟨1,24,false,.slice (.bool),[.nil (.bool)],[],4,.slice⟩),
 (62,⟨1,4,false,.flt .f32,[.flt .f32 0],[],0,.float .f32⟩),
 (64,⟨2,16,true,S63,[.flt .f32 0,.int .i64 0],[(0,1,false),(1,1,false)],0,.struct⟩),
 (69,⟨5,40,true,S68,[.str ByteArray.empty,.flt .f32 0,.flt .f32 0,.int .i64 0,.int .i64 0],[(0,1,false),(1,1,false),(2,1,false),(3,1,false),(4,1,false)],0,.struct⟩),
 (98,⟨3,24,true,S97,[.int .i64 0,.int .i64 0,.int .i64 0],[(0,2,true),(2,1,false)],0,.struct⟩),
 (104,⟨1,8,false,.int .u64,[.int .u64 0],[],0,.int .u64⟩),
 (109,⟨1,8,false,.flt .f64,[.flt .f64 0],[],0,.float .f64⟩),
 (122,⟨3,40,true,a2L,[.nil (.int .u8),.int .i64 0,.int .i64 0],[(0,1,false),(1,1,false),(2,1,false)],0,.struct⟩),
 (142,⟨1,8,false,.nil,[.pois],[],0,.other⟩),
 (165,⟨3,24,true,a2u,[.int .i64 0,.int .i64 0,.bool false],[(0,2,true),(2,1,false)],0,.struct⟩),
 (179,⟨3,24,true,a2R,[.int .i64 0,.flt .f32 0,.int .i64 0],[(0,1,false),(1,1,false),(2,1,false)],0,.struct⟩),
 (180,⟨1,24,false,.slice (a2R),[.nil (a2R)],[],179,.slice⟩),
 (184,⟨13,104,true,.cons (.cpx .f32) (.cons (.cpx .f32) (.cons (.cpx .f32) (.cons (.cpx .f32) (.cons (.cpx .f32) (.cons (.cpx .f32) (.cons (.cpx .f32) (.cons (.cpx .f32) (.cons (.cpx .f32) (.cons (.cpx .f32) (.cons (.cpx .f32) (.cons (.cpx .f32) (.cons (.cpx .f32) (.nil))))))))))))),[.cpx .f32 0 0,.cpx .f32 0 0,.cpx .f32 0 0,.cpx .f32 0 0,.cpx .f32 0 0,.cpx .f32 0 0,.cpx .f32 0 0,.cpx .f32 0 0,.cpx .f32 0 0,.cpx .f32 0 0,.cpx .f32 0 0,.cpx .f32 0 0,.cpx .f32 0 0],[],43,.array 13⟩),
 (186,⟨14,120,true,a1r,[.cpx .f64 0 0,.cpx .f32 0 0,.cpx .f32 0 0,.cpx .f32 0 0,.cpx .f32 0 0,.cpx .f32 0 0,.cpx .f32 0 0,.cpx .f32 0 0,.cpx .f32 0 0,.cpx .f32 0 0,.cpx .f32 0 0,.cpx .f32 0 0,.cpx .f32 0 0,.cpx .f32 0 0],[(0,1,false),(1,13,true)],0,.struct⟩),
 (201,⟨1,24,false,.slice (.cpx .f32),[.nil (.cpx .f32)],[],43,.slice⟩),
 (208,⟨1,8,false,.nil,[.pois],[],0,.other⟩),
 (240,⟨1,8,false,.nil,[.pois],[],0,.other⟩)]
def eqs:List Nat:=[34,36,98,165]
theorem a4Q:a7e (e8e Tryz.prog) eqs:=c4S (by kernel_rfl)
theorem a5h:f5S Tryz.prog tab=true:=by kernel_rfl
theorem mixed:Tryz.prog.follows .mixedOrders=true:=Tryz.checked.mixed
def a0B (f:Func):Code:=match f.body with
 |some c=>c
 |none => .skip
theorem a1q {f:Nat} {fn:Func} {Γ:Env} (h:Tryz.prog.funcs[f]?=some fn) (hb:fn.body=some (a0B fn)) (hr:fn.results.toList=Γ.res) (hn:fn.ntmps=Γ.nt) (hname:(fn.name == "runtime.NumGoroutine")=false) (hl:a7i Γ (a0B fn)):a5P Tryz.prog f Γ (a0B fn):=
 ⟨hl,fn,h,hb,hr,hn,hname⟩
theorem a1E {Γ:Env} {c:Code} (h:a2e c=[]):a7i Γ c:=fun c' a=>by rw[h]at a;cases a
abbrev OD (R:Ty):Type:=Option (Den R)
theorem isS {α:Type} {o:Option α} {y:α} (h:o=some y):o.isSome=true:=by rw[h];rfl
theorem gtS {α:Type} {o:Option α} {y d:α} (h:o=some y):o.getD d=y:=by rw[h];rfl
theorem fnO {f:Nat} {fn:Func} {sems:List (Nat×a6m)} {nt:Nat} {res:List ResultVar} {frz:List Nat} {cut:List (Nat×(List Nat×List Cv))} {loops:List (Nat×a4V)} {past:List (Nat×(List Nat×List Cv))} {rown:List Cv} {A R:Ty} {p:Den A->Option (Den R)}
 (hs:a7e (a0d Tryz.prog) sems) (h:Tryz.prog.funcs[f]?=some fn) (hv:∀x,b5Z (a8d tab eqs sems nt res frz cut loops past rown) (a0B fn) (d2J R) (a5Q A x) []=p x)
 (hb:fn.body=some (a0B fn):=by rfl) (hr:fn.results.toList=res:=by rfl) (hn:fn.ntmps=nt:=by rfl) (hname:(fn.name == "runtime.NumGoroutine")=false:=by kernel_rfl) (hl:a2e (a0B fn)=[]:=by kernel_rfl):
 a0d Tryz.prog (f,a0b A R (fun x=>(p x).isSome) (fun x=>(p x).getD (zero R))):=
 a0y (a4O mixed a5h a4Q hs) (a1q h hb hr hn hname (a1E hl)) hv
abbrev KI (I:Sg):Type:=I.den->Bool
abbrev GI (I O:Sg):Type:=I.den->O.den
abbrev KA (A:Ty):Type:=Den A->Bool
abbrev GA (A R:Ty):Type:=Den A->Den R
abbrev QI (I O:Sg):Type:=I.den->O.den->Prop
def zV:(s:ShV)->s.den
 |.one c=>e8s c
 |.agg cs=>c4X cs
 |.tup=>()
def zB:(s:ShB)->s.den
 |.box cs=>c4X cs
 |.arr t=>([]:List (Den t))
 |.gone=>()
def zT:(l:List (Nat×ShV))->e6M l
 |[]=>()
 |p::r=>(zV p.2,zT r)
def zM:(l:List (Nat×ShB))->e6O l
 |[]=>()
 |p::r=>(zB p.2,zM r)
def zS (s:ShS):s.den:=(zT s.tmps,zM s.mem)
structure LR where
 (live:List Nat) (own:List Cv) (ex:Nat) (past:List Nat) (pown:List Cv) (sh shX shR:ShS)
structure LX where
 (live:List Nat) (own:List Cv) (ex:Nat) (past:List Nat) (pown:List Cv) (sh shX:ShS)
def lmR (L:LR) (l:L.sh.den->Option (L.shX.den⊕L.shR.den)):a4V:=d2N L.live L.own L.ex L.past L.pown L.sh L.shX L.shR (fun v=>(l v).isSome) (fun v=>isR (l v)) (fun v=>xOf (zS L.shX) (l v)) (fun v=>yOf (zS L.shR) (l v))
def lmX (L:LX) (l:L.sh.den->Option L.shX.den):a4V:=d2O L.live L.own L.ex L.past L.pown L.sh L.shX (fun v=>(l v).isSome) (fun v=>(l v).getD (zS L.shX))
def EvR (Γ:Env) (c:Code) (L:LR) (g:(L.sh.den->Option (L.shX.den⊕L.shR.den))->L.sh.den->Option (L.shX.den⊕L.shR.den)):Prop:=∀f v,EBk Γ c (a3M L.live L.own L.ex L.past L.pown (atS L.sh f) (f5U L.shX L.shR)) (mkS L.sh v)=g f v
def EvX (Γ:Env) (c:Code) (L:LX) (g:(L.sh.den->Option L.shX.den)->L.sh.den->Option L.shX.den):Prop:=∀f v,EBk Γ c (a3M L.live L.own L.ex L.past L.pown (atS L.sh f) (f5V L.shX)) (mkS L.sh v)=g f v
def lp (fn:Func) (i:Nat):Code:=(a2e (a0B fn)).getD i .skip
def gE (a:List (Nat×a6m)) (fn:Func) (lps:List (Nat×a4V):=[]) (frz:List Nat:=[]) (cut:List (Nat×(List Nat×List Cv)):=[]) (past:List (Nat×(List Nat×List Cv)):=[]) (rown:List Cv:=[]) (tb:List (Nat×TI):=tab):Env:=a8d tb eqs a fn.ntmps fn.results.toList frz cut lps past rown
theorem a0C {sems fn lps frz cut past rown} (a:a7e (a0d Tryz.prog) sems):a1m Tryz.prog (gE sems fn lps frz cut past rown):=a4O mixed a5h a4Q a
def fzE (m:Nat×a6m):Nat×a6m:=(m.1,b6x m.2)
def LOK (Γ:Env) (c:Code):Prop:=∀L,a1D Γ.loops (a0O c)=some L->a3m Γ c L
theorem lR {Γ:Env} {c:Code} {L:LR} {g} (h:EvR Γ c L g) (b:L.sh.den->Nat) (a:a1D Γ.loops (a0O c)=some (lmR L fun v=>a0F g (b v) v):=by kernel_rfl):LOK Γ c:=b8I a (b6u h b (zS L.shX) (zS L.shR))
theorem lX {Γ:Env} {c:Code} {L:LX} {g} (h:EvX Γ c L g) (b:L.sh.den->Nat) (a:a1D Γ.loops (a0O c)=some (lmX L fun v=>a0F g (b v) v):=by kernel_rfl):LOK Γ c:=b8I a (b6v h b (zS L.shX))
section
variable {α:Type} {P:α->Prop} {a b c d e f g:α} {l:List α}
theorem nS:a7e P []:=trivial
theorem s1 (x:P a):a7e P [a]:=⟨x,trivial⟩
theorem s2 (x:P a) (y:P b):a7e P [a,b]:=⟨x,y,trivial⟩
theorem s3 (x:P a) (y:P b) (z:P c):a7e P [a,b,c]:=⟨x,y,z,trivial⟩
theorem s4 (x:P a) (y:P b) (z:P c) (u:P d):a7e P [a,b,c,d]:=⟨x,y,z,u,trivial⟩
theorem s5 (x:P a) (y:P b) (z:P c) (u:P d) (v:P e):a7e P [a,b,c,d,e]:=⟨x,y,z,u,v,trivial⟩
theorem s6 (x:P a) (y:P b) (z:P c) (u:P d) (v:P e) (w:P f):a7e P [a,b,c,d,e,f]:=⟨x,y,z,u,v,w,trivial⟩
theorem s7c (x:P a) (y:P b) (z:P c) (u:P d) (v:P e) (w:P f) (t:P g) (h:a7e P l):a7e P (a::b::c::d::e::f::g::l):=⟨x,y,z,u,v,w,t,h⟩
theorem s7 (x:P a) (y:P b) (z:P c) (u:P d) (v:P e) (w:P f) (t:P g):a7e P [a,b,c,d,e,f,g]:=s7c x y z u v w t trivial
end
theorem fnE {f:Nat} {fn:Func} {sems:List (Nat×a6m)} (hs:a7e (a0d Tryz.prog) sems) (h:Tryz.prog.funcs[f]?=some fn) (frz:List Nat:=[]) (cut:List (Nat×(List Nat×List Cv)):=[]) (past:List (Nat×(List Nat×List Cv)):=[]) (rown:List Cv:=[]) {A R:Ty} {p:Den A->Option (Den R)}
 (hv:∀x,b5Z (gE sems fn [] frz cut past rown) (a0B fn) (d2J R) (a5Q A x) []=p x:=by intro _;kernel_rfl)
 (hb:fn.body=some (a0B fn):=by rfl) (hname:(fn.name == "runtime.NumGoroutine")=false:=by kernel_rfl) (hl:a2e (a0B fn)=[]:=by kernel_rfl):
 a0d Tryz.prog (f,a0b A R (fun x=>(p x).isSome) (fun x=>(p x).getD (zero R))):=a0y (a0C hs) (a1q h hb rfl rfl hname (a1E hl)) hv
theorem sgE {f:Nat} {fn:Func} {sems:List (Nat×a6m)} (own:Bool) (hs:a7e (a0d Tryz.prog) sems) (h:Tryz.prog.funcs[f]?=some fn) (frz:List Nat:=[]) (cut:List (Nat×(List Nat×List Cv)):=[]) (past:List (Nat×(List Nat×List Cv)):=[]) (rown:List Cv:=[]) {I O:Sg} {p:I.den->Option O.den}
 (hv:∀x,d2Q (gE sems fn [] frz cut past rown) (a0B fn) I O x=p x:=by intro _;kernel_rfl)
 (hb:fn.body=some (a0B fn):=by rfl) (hname:(fn.name == "runtime.NumGoroutine")=false:=by kernel_rfl) (hl:a2e (a0B fn)=[]:=by kernel_rfl):
 a0d Tryz.prog (f,a0H own I O (fun x=>(p x).isSome) (fun x=>(p x).getD (a1b O))):=a4P (a0C hs) (a1q h hb rfl rfl hname (a1E hl)) own hv
abbrev b0d:Type:=List (Den (.flt .f32))
abbrev ty4:Type:=List (Den (.int .i64))
abbrev c5k:Type:=List (Den (.slice (.flt .f32)))
abbrev c5l:Type:=List (Den a1r)
abbrev b2c:Type:=List (Den S68)
abbrev e2w:Type:=List (Den a2u)
abbrev a4X:Type:=Nat×Nat
abbrev d6F:Type:=List (Den S97)
abbrev c5m:Type:=List (Den .str)
abbrev d6G:Type:=c5m×Unit
abbrev ty0:Type:=b0d×ty4×c5k×c5l×ty4×b2c×Int×Int×Int×Int×e2w×Int×Int×Int×Int×Int×a4X×Int×a4X×Int×d6F×d6G
abbrev ty1:Type:=b0d×ty4×c5k×Unit
abbrev a4r:Type:=Unit×Unit
abbrev ty5:Type:=Unit×a4r
abbrev ty2:Type:=Unit×Unit×Unit×Unit×Unit×Unit×Int×Int×Int×Int×Unit×Int×Int×Int×Int×Int×a4X×Int×a4X×Int×ty5
abbrev ty6:Type:=Int×Unit
abbrev a4h:Type:=Int×ty6
abbrev ty3:Type:=List (Den (.int .u8))×a4h
abbrev ty7:Type:=c5l×ty4×Unit
abbrev a7N:Type:=Unit×ty5
abbrev ty8:Type:=ty3×a7N×a7N×b0d×ty4×List (Den (.slice (.jnk)))×Unit
abbrev d1V:Type:=Bool×Unit
abbrev ty9:Type:=d1V×Unit
abbrev f6b:Type:=Int×Int×Int×Int×Unit×Int×Int×a4h
abbrev f6c:Type:=Int×Int×Int×Int×e2w×Int×Int×a4h
abbrev f9t:Type:=(a4X×a4X×a4X×a4X×a4X×a4X×a4X×a4X×a4X×a4X×a4X×a4X×a4X×a4X×Unit)×Unit
abbrev e8A:Type:=List (Den .bool)
abbrev g6E:Type:=ty2×e8A×(b0d×ty4×c5k×c5l×ty4×b2c×Int×Int×Int×Int×e2w×Int×Int×Int×Int×Int×a4X×Int×a4X×Int×d6F×a4r)×d6G
abbrev b2d:Type:=Unit×ty6
abbrev b3O:Type:=ByteArray
abbrev g6F:Type:=(b0d×ty4×c5k×c5l×ty4×b2c×f6c)×(Unit×Unit×Unit×Unit×Unit×Unit×f6b)×(Unit×Unit×Unit×Unit×Unit×Unit×f6b)×ty1
abbrev c5n:Type:=List (Den a2R)
abbrev b3P:Type:=ty7×Unit
abbrev b8N:Type:=ty1×Unit
abbrev d6H:Type:=Unit×Unit×b2d
abbrev f6d:Type:=ty3×f6b×f6b×e2w×Unit
abbrev f6e:Type:=ty3×a7N×a7N×ty4×Unit
abbrev c5o:Type:=ty6×Unit
abbrev f6f:Type:=(Nat×Int×b2d)×b8N
abbrev e8B:Type:=(b3O×ty6)×Unit
abbrev d6I:Type:=b3O×Unit
abbrev d1W:Type:=Nat×ty6
abbrev f6g:Type:=(a4X×d1V)×Unit
abbrev f6h:Type:=(a4X×Unit)×Unit
abbrev f6i:Type:=ty3×ty5×ty5×ty7
def bx0:ShB:=.box [.sl (.int .u8),.int .i64,.int .i64]
def bx1:ShB:=.box [.sl (a1r),.sl (.int .i64)]
def bx2:ShB:=.box [.sl (.flt .f32),.sl (.int .i64),.sl (.slice (.flt .f32))]
def bx3:ShB:=.box [.sl (.flt .f32),.sl (.int .i64),.sl (.slice (.flt .f32)),.sl (a1r),.sl (.int .i64),.sl (S68),.int .i64,.int .i64,.int .i64,.int .i64,.sl (a2u),.int .i64,.int .i64,.int .i64,.int .i64,.int .i64,.cpx .f64,.int .i64,.cpx .f32,.int .i64,.sl (S97),.sl (.str)]
def bx4:ShB:=.box [.nil (.flt .f32),.nil (.int .i64),.nil (.slice (.flt .f32)),.nil (a1r),.nil (.int .i64),.nil (S68),.int .i64,.int .i64,.int .i64,.int .i64,.nil (a2u),.int .i64,.int .i64,.int .i64,.int .i64,.int .i64,.cpx .f64,.int .i64,.cpx .f32,.int .i64,.nil (S97),.nil (.str)]
def bx5:ShB:=.box [.nil (.flt .f32),.nil (.int .i64),.nil (.slice (.jnk))]
def bx6:ShB:=.box [.nil (.flt .f32),.nil (.int .i64),.nil (.slice (.flt .f32))]
def bx7:ShB:=.box [.ref (.flt .f32) 3,.ref (.int .i64) 4,.ref (.slice (.jnk)) 5]
def bx8:ShB:=.box [.nil (a1r),.nil (.int .i64)]
def bx9:ShB:=.box [.ref (.flt .f32) 3,.ref (.int .i64) 4,.ref (.slice (.flt .f32)) 5]
def h0v:ShB:=.box [.ref (a1r) 3,.ref (.int .i64) 4]
def f6j:ShB:=.box [.ref (a1r) 3,.nil (.int .i64)]
def h0w:ShB:=.box [.int .i64,.int .i64,.int .i64,.int .i64,.nil (a2u),.int .i64,.int .i64,.int .i64,.int .i64]
def h0x:ShB:=.box [.int .i64,.int .i64,.int .i64,.int .i64,.ref (a2u) 3,.int .i64,.int .i64,.int .i64,.int .i64]
def f9u:ShB:=.box [.flt .f32,.int .i64]
def f9v:ShB:=.box [.cpx .f64,.cpx .f32,.cpx .f32,.cpx .f32,.cpx .f32,.cpx .f32,.cpx .f32,.cpx .f32,.cpx .f32,.cpx .f32,.cpx .f32,.cpx .f32,.cpx .f32,.cpx .f32]
def g6G:ShB:=.box [.sl (.flt .f32),.sl (.int .i64),.sl (.slice (.flt .f32)),.sl (a1r),.sl (.int .i64),.sl (S68),.int .i64,.int .i64,.int .i64,.int .i64,.sl (a2u),.int .i64,.int .i64,.int .i64,.int .i64]
def g6H:ShB:=.box [.int .i64,.int .i64,.int .i64,.int .i64,.sl (a2u),.int .i64,.int .i64,.int .i64,.int .i64]
def g6I:ShB:=.box [.sl (.flt .f32),.sl (.int .i64),.ref (.slice (.flt .f32)) 2]
def g6J:ShB:=.box [.nil (.flt .f32),.ref (.int .i64) 3,.nil (.slice (.jnk))]
def g6K:ShB:=.box [.nil (.flt .f32),.ref (.int .i64) 3,.nil (.slice (.flt .f32))]
def g6L:ShB:=.box [.sl (.flt .f32),.sl (.int .i64),.sl (.slice (.flt .f32)),.sl (a1r),.sl (.int .i64),.sl (S68),.int .i64,.int .i64,.int .i64,.int .i64,.sl (a2u),.int .i64,.int .i64,.int .i64,.int .i64,.int .i64,.cpx .f64,.int .i64,.cpx .f32,.int .i64,.sl (S97),.ref (.str) 3]
def h0y:ShB:=.box [.nil (.flt .f32),.nil (.int .i64),.nil (.slice (.flt .f32)),.nil (a1r),.nil (.int .i64),.nil (S68),.int .i64,.int .i64,.int .i64,.int .i64,.nil (a2u),.int .i64,.int .i64,.int .i64,.int .i64]
def h0z:ShB:=.box [.ref (.flt .f32) 3,.ref (.int .i64) 4,.ref (.slice (.flt .f32)) 5,.nil (a1r),.nil (.int .i64),.nil (S68),.int .i64,.int .i64,.int .i64,.int .i64,.nil (a2u),.int .i64,.int .i64,.int .i64,.int .i64]
def on0:ShV:=.one (.ref (.str) 0)
def on1:ShV:=.one (.ref (.flt .f32) 6)
def om0:ShV:=.one (.int .i64)
def om1:ShV:=.one (.ptr 0 0)
def om2:ShV:=.one (.bool)
def om3:ShV:=.one (.ptr 1 0)
def om4:ShV:=.one (.ptr 2 0)
def om5:ShV:=.one (.str)
def om6:ShV:=.one (.cpx .f64)
def om7:ShV:=.one (.sl (S68))
def om8:ShV:=.one (.sl (a2R))
def om9:ShV:=.one (.flt .f32)
def d3c:ShV:=.one (.flt .f64)
def d3d:ShV:=.one (.sl (.str))
def e2x:ShV:=.one (.sl (.flt .f32))
def e2y:ShV:=.one (.sl (.int .i64))
def e6Q:ShV:=.one (.sl (S97))
def li0:List (Nat×ShB):=[(0,bx0),(1,bx6),(2,bx9),(3,.arr (.flt .f32)),(4,.arr (.int .i64)),(5,.arr (.slice (.flt .f32))),(6,.arr (.flt .f32))]
def li1:List (Nat×ShB):=[(0,g6G),(1,h0y),(2,h0z),(3,.arr (.flt .f32)),(4,.arr (.int .i64)),(5,.arr (.slice (.flt .f32)))]
def li2:List (Nat×ShB):=[(0,bx0),(1,bx6),(2,bx9),(3,.arr (.flt .f32)),(4,.arr (.int .i64)),(5,.arr (.slice (.flt .f32)))]
def li3:List (Nat×ShB):=[(0,bx0),(1,bx5),(2,bx7),(3,.arr (.flt .f32)),(4,.arr (.int .i64)),(5,.arr (.slice (.jnk)))]
def li4:List (Nat×ShB):=[(0,bx0),(1,bx8),(2,h0v),(3,.arr (a1r)),(4,.arr (.int .i64))]
def li5:List (Nat×ShV):=[(0,om1),(2,om3),(3,om4),(6,om9),(7,om0),(8,on1),(9,om0)]
def li6:List (Nat×ShB):=[(0,bx0),(1,h0w),(2,h0x),(3,.arr (a2u))]
def li7:List (Nat×ShV):=[(0,om1),(2,om3),(3,om4)]
def li8:List (Nat×ShV):=[(2,om3),(3,om4)]
def li9:List (Nat×ShV):=[(1,om1),(3,om0)]
def c2C:List (Nat×ShB):=[(0,bx1)]
def a9h:List (Nat×ShV):=[(2,om2)]
def b5V:List (Nat×ShB):=[(0,bx2)]
def d1X:List (Nat×ShV):=[(4,om2)]
theorem kgP {A R:Type} {F:A->Option R} {z:R} (K:A->Bool) (G:A->R) {x:A} {y:R} (h:F x=some y) (b:∀x,K x=(F x).isSome:=by intro _;rfl) (a:∀x,G x=(F x).getD z:=by intro _;rfl):K x=true /\ G x=y:=by rw[b,a,h];exact⟨rfl,rfl⟩
set_option maxRecDepth 100000
set_option maxHeartbeats 0
theorem d6J:b6z Tryz.prog 120 Extern.MathFloatBits.float64bits:=⟨_,Tryz.func120,rfl,rfl,by kernel_rfl,by kernel_rfl⟩
theorem d6K:b6z Tryz.prog 121 Extern.MathFloatBits.float64frombits:=⟨_,Tryz.func121,rfl,rfl,by kernel_rfl,by kernel_rfl⟩
abbrev c5p:Type:={ z:Nat // a1y .f64 z=true }
theorem d3e:Nonempty c5p:=⟨⟨qn .f64,a5o _⟩⟩
abbrev e6R:Ty := .cons (.flt .f64) (.nil)
abbrev e8C:Ty := .cons (.flt .f64) (.nil)
noncomputable def g6M:a8e:=mkN [(120,a5S (.cons (.flt .f64) .nil) (.cons (.int .u64) .nil) c5p d3e (fun z x=>((((bif a1y .f64 x.1 then z.1 else x.1:Nat):Int)),()))),(121,a5S (.cons (.int .u64) .nil) (.cons (.flt .f64) .nil) Unit ⟨()⟩ (fun _ x=>((x.1:Int).toNat,())))] []
noncomputable def e2z:Env:=a8d tab eqs [] 7 [.tmp 2] [] [] [] [] []
theorem e8D (h:Den e8C->Option Unit) (x:Den e6R):a5G e2z g6M (a0B Tryz.f119) (a5H e8C h) (a5Q e6R x) [] =
 a3u fun(z:c5p)=>a3u fun(_:Unit)=>h ((Int.toNat (a2c BinOp.andNot IntKind.u64 (((bif a1y FloatKind.f64 x.fst then z.1 else x.fst:Nat):Int)) 9223372036854775808)),()):=by kernel_rfl
theorem d3f (n:Nat):(a2c .andNot .u64 (n:Int) 9223372036854775808).toNat=n%2^63:=by
 have e:a2c .andNot .u64 (n:Int) 9223372036854775808=IntKind.u64.wrap ((BitVec.ofInt 64 (n:Int) &&& ~~~(BitVec.ofInt 64 9223372036854775808)).toNat:Int):=rfl;have c : ~~~(BitVec.ofInt 64 9223372036854775808)=9223372036854775807#64:=by decide
 rw[e,c,BitVec.toNat_and];have b:(BitVec.ofInt 64 (n:Int)).toNat=n%2^64:=by
  rw[BitVec.toNat_ofInt];omega
 have a:(9223372036854775807#64).toNat=2^63-1:=by decide
 rw[b,a,Nat.and_two_pow_sub_one_eq_mod,IntKind.wrap_u64];omega
theorem b3Q {n:Nat}:a1y .f64 (n%2^63)=a1y .f64 n:=by
 have a:FloatKind.f64.format.signWeight=2^63:=by decide
 rw[Bool.eq_iff_iff,a3Z,a3Z,a,Nat.mod_mod]
def e8E (x:Den e6R):Bool:=true
def e8F (x:Den e6R):Den e8C:=(x.1%2^63,())
theorem e8G:a1m Tryz.prog e2z:=a4O mixed a5h a4Q .nil
theorem f9w:a5P Tryz.prog 119 e2z (a0B Tryz.f119):=a1q Tryz.func119 rfl rfl rfl (by kernel_rfl) (a1E (by kernel_rfl))
def m119:=(119,a0b e6R e8C e8E e8F)
theorem e8H:a0d Tryz.prog (119,a0b e6R e8C e8E e8F):=
 a6g (N:=g6M) e8G (a2K ⟨b8J d6J,a7M d6K,trivial⟩) f9w a1p (Q:=fun x y=>FEq .f64 (x.1%2^63) y.1)
  (fun x y g β K v h=>by
   obtain⟨b,rfl,a⟩:=h;refine⟨b,rfl,?_⟩;have a:FEq .f64 y.1 b:=a;show FEq .f64 (x.1%2^63) b;rcases g with e|⟨c,d⟩
   ·rw[e];exact a
   ·exact .inr ⟨c,FEq.nan_left a d⟩)
  (fun x _ k f=>by
   rw[e8D]
   haveI:=d3e
   refine a0n fun z=>a0n fun _=>f _ ?_
   rw[d3f];cases hn:a1y .f64 x.1 with
   |true=>exact .inr ⟨by rw[b3Q];exact hn,by show a1y .f64 (z.1%2^63)=true;rw[b3Q];exact z.2⟩
   |false=>exact .inl rfl)
end Go.Proofs.YtjomnmoekchfeaaGreatDoor.AM
namespace Go.Proofs
open Go.Shelf
def Tryz.lays156_ren:Go.Shelf.Ren:=⟨fun|156=>60|165=>116|166=>117|169=>118|240=>183|241=>184|276=>229|277=>230|n=>n,fun|31=>45|9=>9|3=>3|4=>4|0=>0|20=>20|72=>154|76=>158|70=>152|37=>22|75=>157|127=>215|164=>242|5=>5|80=>160|n=>n,fun|n=>n⟩
theorem Tryz.lays156:Go.Proofs.Lays.n156 Tryz.prog Tryz.lays156_ren:={
 mixed:=by kernel_rfl
 f156:=Tryz.func60.trans (congrArg some (by kernel_rfl))
 f165:=Tryz.func116.trans (congrArg some (by kernel_rfl))
 f166:=Tryz.func117.trans (congrArg some (by kernel_rfl))
 f169:=Tryz.func118.trans (congrArg some (by kernel_rfl))
 f240:=Tryz.func183.trans (congrArg some (by kernel_rfl))
 f241:=Tryz.func184.trans (congrArg some (by kernel_rfl))
 f276:=Tryz.func229.trans (congrArg some (by kernel_rfl))
 f277:=Tryz.func230.trans (congrArg some (by kernel_rfl))
 t0:=Tryz.underlying0
 a0:=Tryz.isAgg0
 z0:=Tryz.sizeOf0
 v0:=Tryz.zeroValue0
 t3:=Tryz.underlying3
 a3:=Tryz.isAgg3
 z3:=Tryz.sizeOf3
 v3:=Tryz.zeroValue3
 t4:=Tryz.underlying4
 a4:=Tryz.isAgg4
 z4:=Tryz.sizeOf4
 v4:=Tryz.zeroValue4
 t9:=Tryz.underlying9
 a9:=Tryz.isAgg9
 z9:=Tryz.sizeOf9
 v9:=Tryz.zeroValue9
 t20:=Tryz.underlying20
 a20:=Tryz.isAgg20
 z20:=Tryz.sizeOf20
 v20:=Tryz.zeroValue20
 t31:=Tryz.underlying45
 a31:=Tryz.isAgg45
 z31:=Tryz.sizeOf45
 v31:=Tryz.zeroValue45
 t37:=Tryz.underlying22
 a37:=Tryz.isAgg22
 z37:=Tryz.sizeOf22
 v37:=Tryz.zeroValue22
 t70:=Tryz.underlying152
 a70:=Tryz.isAgg152
 z70:=Tryz.sizeOf152
 v70:=Tryz.zeroValue152
 t72:=Tryz.underlying154
 a72:=Tryz.isAgg154
 z72:=Tryz.sizeOf154
 v72:=Tryz.zeroValue154
 t75:=Tryz.underlying157
 a75:=Tryz.isAgg157
 z75:=Tryz.sizeOf157
 v75:=Tryz.zeroValue157
 t76:=Tryz.underlying158
 a76:=Tryz.isAgg158
 z76:=Tryz.sizeOf158
 v76:=Tryz.zeroValue158
 t127:=Tryz.underlying215
 a127:=Tryz.isAgg215
 z127:=Tryz.sizeOf215
 v127:=Tryz.zeroValue215
 t164:=Tryz.underlying242
 a164:=Tryz.isAgg242
 z164:=Tryz.sizeOf242
 v164:=Tryz.zeroValue242 }
theorem Tryz.Builder_Extra_156:Builder.Extra Tryz.prog Tryz.lays156_ren:={
 sizeBuilder:=by kernel_rfl
 liesBuilder:=by kernel_rfl
 t5:=Tryz.underlying5
 a5:=Tryz.isAgg5
 z5:=Tryz.sizeOf5
 v5:=Tryz.zeroValue5
 infoByte:=by kernel_rfl
 cellsByte:=by kernel_rfl
 sizeByte:=by kernel_rfl
 neB5:=by decide }
open Go.RowKit in
theorem Tryz.strings_Join_none (a:Option Addr) (c:Nat) (sep:ByteArray) (w:World) :
 Calls Tryz.prog 60 #[.slice a 0 c,.string sep] w fun e w'=>e = .returned (.string ⟨#[]⟩) /\ w'=w:=Any.strings_Join_none Tryz.lays156 Tryz.Builder_Extra_156 a c sep w
open Go.RowKit in
theorem Tryz.strings_Join (f o c:Nat) (xs:List ByteArray) (sep:ByteArray) (w:World) (a:∀(j:Nat) x,xs[j]?=some x->w.cell? ⟨f,o+j,none⟩=some (.string x)) (g:f<w.heap.size) (h:xs.length<=140737488355328) (b:xs.length<=c) (d:(Lib.join (xs.map (·.data.toList)) sep.data.toList).length<=140737488355328) :
 Calls Tryz.prog 60 #[.slice (some ⟨f,o,none⟩) xs.length c,.string sep] w fun e w'=>e = .returned (.string ⟨(Lib.join (xs.map (·.data.toList)) sep.data.toList).toArray⟩) /\ Below w.heap.size w w':=Any.strings_Join Tryz.lays156 Tryz.Builder_Extra_156 f o c xs sep w a g h b d
def Tryz.lays137_ren:Go.Shelf.Ren:=⟨fun|137=>235|217=>252|266=>271|n=>n,fun|9=>9|5=>5|3=>3|n=>n,fun|n=>n⟩
theorem Tryz.lays137:Go.Proofs.Lays.n137 Tryz.prog Tryz.lays137_ren:={
 mixed:=by kernel_rfl
 f137:=Tryz.func235.trans (congrArg some (by kernel_rfl))
 f217:=Tryz.func252.trans (congrArg some (by kernel_rfl))
 f266:=Tryz.func271.trans (congrArg some (by kernel_rfl))
 t3:=Tryz.underlying3
 a3:=Tryz.isAgg3
 z3:=Tryz.sizeOf3
 v3:=Tryz.zeroValue3
 t5:=Tryz.underlying5
 a5:=Tryz.isAgg5
 z5:=Tryz.sizeOf5
 v5:=Tryz.zeroValue5
 t9:=Tryz.underlying9
 a9:=Tryz.isAgg9
 z9:=Tryz.sizeOf9
 v9:=Tryz.zeroValue9 }
open Go.RowKit in
theorem Tryz.strings_IndexByte (s:ByteArray) (c:Int) (w:World) :
 Calls Tryz.prog 235 #[.string s,.int .u8 c] w fun e w'=>e = .returned (.int .i64 (Lib.indexByte s.data.toList c.toNat.toUInt8)) /\ w'=w:=Any.strings_IndexByte Tryz.lays137 s c w
def Tryz.laysM171_ren:Go.Shelf.Ren:=⟨fun|171=>65|243=>124|246=>188|283=>231|284=>232|285=>233|286=>234|129=>259|317=>258|318=>260|319=>261|320=>262|337=>273|338=>274|n=>n,fun|3=>3|9=>9|2=>2|4=>4|171=>245|0=>0|53=>104|37=>22|5=>5|173=>248|212=>257|51=>258|20=>20|213=>259|46=>162|232=>269|233=>270|n=>n,fun|17=>2|18=>5|19=>6|n=>n⟩
theorem Tryz.laysM171:Go.Proofs.LaysM.n171 Tryz.prog Tryz.laysM171_ren:={
 mixed:=by kernel_rfl
 f129:=Tryz.func259.trans (congrArg some (by kernel_rfl))
 f171:=Tryz.func65.trans (congrArg some (by kernel_rfl))
 f243:=Tryz.func124.trans (congrArg some (by kernel_rfl))
 f246:=Tryz.func188.trans (congrArg some (by kernel_rfl))
 f283:=Tryz.func231.trans (congrArg some (by kernel_rfl))
 f284:=Tryz.func232.trans (congrArg some (by kernel_rfl))
 f285:=Tryz.func233.trans (congrArg some (by kernel_rfl))
 f286:=Tryz.func234.trans (congrArg some (by kernel_rfl))
 f317:=Tryz.func258.trans (congrArg some (by kernel_rfl))
 f318:=Tryz.func260.trans (congrArg some (by kernel_rfl))
 f319:=Tryz.func261.trans (congrArg some (by kernel_rfl))
 f320:=Tryz.func262.trans (congrArg some (by kernel_rfl))
 f337:=Tryz.func273.trans (congrArg some (by kernel_rfl))
 f338:=Tryz.func274.trans (congrArg some (by kernel_rfl))
 t0:=Tryz.underlying0
 a0:=Tryz.isAgg0
 z0:=Tryz.sizeOf0
 v0:=Tryz.zeroValue0
 t2:=Tryz.underlying2
 a2:=Tryz.isAgg2
 z2:=Tryz.sizeOf2
 v2:=Tryz.zeroValue2
 t3:=Tryz.underlying3
 a3:=Tryz.isAgg3
 z3:=Tryz.sizeOf3
 v3:=Tryz.zeroValue3
 t4:=Tryz.underlying4
 a4:=Tryz.isAgg4
 z4:=Tryz.sizeOf4
 v4:=Tryz.zeroValue4
 t5:=Tryz.underlying5
 a5:=Tryz.isAgg5
 z5:=Tryz.sizeOf5
 v5:=Tryz.zeroValue5
 t9:=Tryz.underlying9
 a9:=Tryz.isAgg9
 z9:=Tryz.sizeOf9
 v9:=Tryz.zeroValue9
 t20:=Tryz.underlying20
 a20:=Tryz.isAgg20
 z20:=Tryz.sizeOf20
 v20:=Tryz.zeroValue20
 t37:=Tryz.underlying22
 a37:=Tryz.isAgg22
 z37:=Tryz.sizeOf22
 v37:=Tryz.zeroValue22
 t46:=Tryz.underlying162
 a46:=Tryz.isAgg162
 z46:=Tryz.sizeOf162
 v46:=Tryz.zeroValue162
 t51:=Tryz.underlying258
 a51:=Tryz.isAgg258
 z51:=Tryz.sizeOf258
 v51:=Tryz.zeroValue258
 t53:=Tryz.underlying104
 a53:=Tryz.isAgg104
 z53:=Tryz.sizeOf104
 v53:=Tryz.zeroValue104
 t171:=Tryz.underlying245
 a171:=Tryz.isAgg245
 z171:=Tryz.sizeOf245
 v171:=Tryz.zeroValue245
 t173:=Tryz.underlying248
 a173:=Tryz.isAgg248
 z173:=Tryz.sizeOf248
 v173:=Tryz.zeroValue248
 t212:=Tryz.underlying257
 a212:=Tryz.isAgg257
 z212:=Tryz.sizeOf257
 v212:=Tryz.zeroValue257
 t213:=Tryz.underlying259
 a213:=Tryz.isAgg259
 z213:=Tryz.sizeOf259
 t232:=Tryz.underlying269
 a232:=Tryz.isAgg269
 z232:=Tryz.sizeOf269
 v232:=Tryz.zeroValue269
 t233:=Tryz.underlying270
 a233:=Tryz.isAgg270
 z233:=Tryz.sizeOf270
 v233:=Tryz.zeroValue270
 g17:=by kernel_rfl
 g18:=by kernel_rfl
 g19:=by kernel_rfl
 i0:=by kernel_rfl
 i2:=by kernel_rfl
 i3:=by kernel_rfl
 i4:=by kernel_rfl
 i5:=by kernel_rfl
 i9:=by kernel_rfl
 i20:=by kernel_rfl
 i37:=by kernel_rfl
 i46:=by kernel_rfl
 i51:=by kernel_rfl
 i53:=by kernel_rfl
 i171:=by kernel_rfl
 i173:=by kernel_rfl
 i212:=by kernel_rfl
 i232:=by kernel_rfl
 i233:=by kernel_rfl
 m17:=by kernel_rfl
 m18:=by kernel_rfl
 m19:=by kernel_rfl }
open Go.RowKit Go.Sort Go.Lib in
theorem Tryz.strconv_Itoa (n:Int) (h0:-9223372036854775808<=n) (h1:n<=9223372036854775807) (w:World) (htab:Lib.TabIs Tryz.prog w "internal/strconv.uint64pow10" .u64 Lib.pow10Tab) :
 Calls Tryz.prog 65 #[.int .i64 n] w fun e w'=>e = .returned (.string ⟨(Lib.itoa n).toArray⟩) /\ ∃k os,w'=grow (w.drewN k) os:=Any.strconv_Itoa Tryz.laysM171 n h0 h1 w htab
def Tryz.lays146_ren:Go.Shelf.Ren:=⟨fun|146=>48|221=>95|268=>162|138=>163|143=>164|195=>211|197=>212|218=>213|219=>214|260=>251|217=>252|225=>253|224=>254|267=>255|266=>271|314=>272|n=>n,fun|9=>9|31=>45|3=>3|4=>4|0=>0|105=>233|21=>21|5=>5|46=>162|119=>262|139=>265|138=>264|146=>266|51=>258|n=>n,fun|1=>1|3=>3|4=>4|n=>n⟩
theorem Tryz.lays146:Go.Proofs.Lays.n146 Tryz.prog Tryz.lays146_ren:={
 mixed:=by kernel_rfl
 f138:=Tryz.func163.trans (congrArg some (by kernel_rfl))
 f143:=Tryz.func164.trans (congrArg some (by kernel_rfl))
 f146:=Tryz.func48.trans (congrArg some (by kernel_rfl))
 f195:=Tryz.func211.trans (congrArg some (by kernel_rfl))
 f197:=Tryz.func212.trans (congrArg some (by kernel_rfl))
 f217:=Tryz.func252.trans (congrArg some (by kernel_rfl))
 f218:=Tryz.func213.trans (congrArg some (by kernel_rfl))
 f219:=Tryz.func214.trans (congrArg some (by kernel_rfl))
 f221:=Tryz.func95.trans (congrArg some (by kernel_rfl))
 f224:=Tryz.func254.trans (congrArg some (by kernel_rfl))
 f225:=Tryz.func253.trans (congrArg some (by kernel_rfl))
 f260:=Tryz.func251.trans (congrArg some (by kernel_rfl))
 f266:=Tryz.func271.trans (congrArg some (by kernel_rfl))
 f267:=Tryz.func255.trans (congrArg some (by kernel_rfl))
 f268:=Tryz.func162.trans (congrArg some (by kernel_rfl))
 f314:=Tryz.func272.trans (congrArg some (by kernel_rfl))
 t0:=Tryz.underlying0
 a0:=Tryz.isAgg0
 z0:=Tryz.sizeOf0
 v0:=Tryz.zeroValue0
 t3:=Tryz.underlying3
 a3:=Tryz.isAgg3
 z3:=Tryz.sizeOf3
 v3:=Tryz.zeroValue3
 t4:=Tryz.underlying4
 a4:=Tryz.isAgg4
 z4:=Tryz.sizeOf4
 v4:=Tryz.zeroValue4
 t5:=Tryz.underlying5
 a5:=Tryz.isAgg5
 z5:=Tryz.sizeOf5
 v5:=Tryz.zeroValue5
 t9:=Tryz.underlying9
 a9:=Tryz.isAgg9
 z9:=Tryz.sizeOf9
 v9:=Tryz.zeroValue9
 t21:=Tryz.underlying21
 a21:=Tryz.isAgg21
 z21:=Tryz.sizeOf21
 v21:=Tryz.zeroValue21
 t31:=Tryz.underlying45
 a31:=Tryz.isAgg45
 z31:=Tryz.sizeOf45
 v31:=Tryz.zeroValue45
 t46:=Tryz.underlying162
 a46:=Tryz.isAgg162
 z46:=Tryz.sizeOf162
 v46:=Tryz.zeroValue162
 t51:=Tryz.underlying258
 a51:=Tryz.isAgg258
 z51:=Tryz.sizeOf258
 v51:=Tryz.zeroValue258
 t105:=Tryz.underlying233
 a105:=Tryz.isAgg233
 z105:=Tryz.sizeOf233
 v105:=Tryz.zeroValue233
 t119:=Tryz.underlying262
 a119:=Tryz.isAgg262
 z119:=Tryz.sizeOf262
 t138:=Tryz.underlying264
 a138:=Tryz.isAgg264
 z138:=Tryz.sizeOf264
 v138:=Tryz.zeroValue264
 t139:=Tryz.underlying265
 a139:=Tryz.isAgg265
 z139:=Tryz.sizeOf265
 v139:=Tryz.zeroValue265
 t146:=Tryz.underlying266
 a146:=Tryz.isAgg266
 z146:=Tryz.sizeOf266
 v146:=Tryz.zeroValue266
 g1:=by kernel_rfl
 g3:=by kernel_rfl
 g4:=by kernel_rfl }
open Go.RowKit Go.Lib in
theorem Tryz.strings_Split (s sep:ByteArray) (m:Int) (w:World) (c:s.size<4294967281) (b:w.cell? ⟨1,0,none⟩=some (.int .i64 m)) (a:1<=sep.size) :
 Calls Tryz.prog 48 #[.string s,.string sep] w fun e w'=>
  e = .returned (.slice (some ⟨w.heap.size,0,none⟩) (Lib.countB s sep+1) (Lib.countB s sep+1)) /\ w'=w.alloc (.cells ((Lib.splitB sep 0 (Lib.countB s sep) s).map Value.string).toArray 9):=Any.strings_Split Tryz.lays146 (by kernel_rfl) s sep m w c b a
end Go.Proofs
namespace Go.Proofs.YtjomnmoekchfeaaGreatDoor.AM
open IntKind (wrap)
open List (length replicate getD set)
open Int (toNat toNat_natCast)
open Option (getD_some isSome_some)
open FloatKind (nearest)
open Nat (beq zero_le)
open Go Go.Proofs Go.RowKit
set_option maxRecDepth 100000
set_option maxHeartbeats 0
theorem c5q {β0:Bt} {K0:Ks} {w0 w':World} {rs:List W} {v:Value} (d:KOK K0 w0) (c:∀k,0<=k->β0 k=none) (a:Below w0.heap.size w0 w') (i:a7j β0 K0 rs v):Ret [] [] rs β0 K0 w0 v w' β0 K0:=
 ⟨KLe.refl _,⟨fun b arr e=>by
  obtain⟨cur,T,fz,f,g⟩:=d.ato b arr e;exact⟨cur,T,fz,by rw[a.block b (d.lt e)];exact f,g⟩,d.gk⟩,fun _ _ e => .inl e,
  ⟨fun k b e=>by simp[a2o]at e,fun k k' b b' _ _ _ e=>by simp[a2o]at e,fun k b _ _ e=>by simp[a2o]at e⟩,fun k _=>c k (zero_le _),i,
  ⟨a.os,a.tape,a.output,a.size,fun b h _=>a.block b h⟩,fun x j=>by
   obtain⟨k,b,y,e,_⟩:=j;simp[a2o]at e,BLe.refl _,Nat.le_refl _⟩
theorem b6A {f:Nat} (j:e1M Tryz.prog f) {A R:Ty} {ok:Den A->Bool} {g:Den A->Den R}
 (h:∀(x:Den A),ok x=true->∀(vs:Array Value) (β:Bt) (K:Ks) (w:World),KOK K w->All2 (WR β K) (a5Q A x) vs.toList->Calls Tryz.prog f vs w fun e w'=>∃v,e = .returned v /\ a7j β K (a5Q R (g x)) v /\ Below w.heap.size w w') :
 a0d Tryz.prog (f,a0b A R ok g):=by
 refine⟨?_,j⟩;intro args ins rs outs a β0 K0 w0 vs d n b l;cases ins with
 |cons _ _=>simp[a0b]at a
 | nil =>
   simp only[a0b]at a;split at a
   ·rename_i x m;simp only[Option.some.injEq,Prod.mk.injEq]at a;obtain⟨c,rfl,rfl⟩:=a;refine(h x c vs β0 K0 w0 d (a6c m l)).mono ?_;rintro e w' ⟨v,rfl,k,i⟩;exact⟨v,β0,K0,rfl,c5q d b i k⟩
   ·cases a
theorem d3g {β:Bt} {K:Ks} {a:W} {vs:Array Value} (h:All2 (WR β K) [a] vs.toList):∃v,vs=#[v] /\ WR β K a v:=by
 rcases vs with⟨l⟩
 cases l with
 |nil=>exact h.elim
 | cons v r=>cases r with
   |nil=>exact⟨v,rfl,h.1⟩
   |cons _ _=>exact h.2.elim
theorem b2e {β:Bt} {K:Ks} {a b:W} {vs:Array Value} (h:All2 (WR β K) [a,b] vs.toList):∃v u,vs=#[v,u] /\ WR β K a v /\ WR β K b u:=by
 rcases vs with⟨l⟩
 cases l with
 |nil=>exact h.elim
 | cons v r=>cases r with
   |nil=>exact h.2.elim
   | cons u r=>cases r with
     |nil=>exact⟨v,u,rfl,h.1,h.2.1⟩
     |cons _ _=>exact h.2.2.elim
theorem c5r {K:Ks} {w:World} (h:KOK K w):∃m:Int,(∃T fz,w.heap[1]?=some (.cells #[.int .i64 m] T fz)) /\ ∃T fz,w.heap[2]?=some (.cells ((List.range 20).map fun i=>Value.int .u64 ((10^i:Nat):Int)).toArray T fz):=by
 obtain⟨m,c⟩:=h.gk;refine⟨m,?_,?_⟩
 ·obtain⟨cur,T,fz,a,b,_⟩:=h.ato 1 _ (c (1,#[.int .i64 m]) (List.mem_cons_self ..));have:=b rfl;subst this;exact⟨T,fz,a⟩
 ·obtain⟨cur,T,fz,a,b,_⟩:=h.ato 2 _ (c (2,_) (List.mem_cons_of_mem _ (List.mem_cons_self ..)));have:=b rfl;subst this;exact⟨T,fz,a⟩
theorem e8I {K:Ks} {w:World} (h:KOK K w):Lib.TabIs Tryz.prog w "internal/strconv.uint64pow10" .u64 Lib.pow10Tab:=by
 obtain⟨m,_,T,fz,h2⟩:=c5r h
 unfold Lib.TabIs World.var?
 rw[show Tryz.prog.globalNamed "internal/strconv.uint64pow10" = some 2 by kernel_rfl]
 simp only[Option.bind_some,h2,Lib.pow10Tab,List.map_map]
 rfl
theorem c5s {K:Ks} {w:World} (h:KOK K w):∃m,w.cell? ⟨1,0,none⟩=some (.int .i64 m):=by
 obtain⟨m,⟨T,fz,a⟩,_⟩:=c5r h;exact⟨m,by simp[World.cell?,a]⟩
abbrev A65:Ty := .cons (.int .i64) (.nil)
abbrev R65:Ty := .cons .str (.nil)
def K65 (x:Den A65):Bool:=decide ((-9223372036854775808:Int)<=x.1)&&decide ((x.1:Int)<=9223372036854775807)
def G65 (x:Den A65):Den R65:=(⟨(Lib.itoa x.1).toArray⟩,())
def m65:=(65,a0b A65 R65 K65 G65)
theorem f9x:a0d Tryz.prog (65,a0b A65 R65 K65 G65):=
 b6A ⟨_,Tryz.func65,by kernel_rfl,by kernel_rfl⟩ fun x a vs β K w f g=>by
  obtain⟨n,_⟩:=x;obtain⟨v,rfl,c⟩:=d3g g;have c:v = .int .i64 n:=c;subst c;simp only[K65,Bool.and_eq_true,decide_eq_true_eq]at a;refine(Tryz.strconv_Itoa n a.1 a.2 w (e8I f)).mono ?_;rintro e w' ⟨rfl,k,os,rfl⟩;exact⟨_,rfl,rfl,⟨rfl,rfl,rfl,by simp[Go.Sort.grow],fun b d=>by simp[Go.Sort.grow,Array.getElem?_append,d]⟩⟩
abbrev f6k:Ty := .cons .str (.cons (.int .u8) (.nil))
abbrev f9y:Ty := .cons (.int .i64) (.nil)
def e2A (x:Den f6k):Bool:=true
def a5I (x:Den f6k):Den f9y:=(Lib.indexByte (x.1:ByteArray).data.toList (x.2.1:Int).toNat.toUInt8,())
def h0A:=(235,a0b f6k f9y e2A a5I)
theorem e8J:a0d Tryz.prog (235,a0b f6k f9y e2A a5I):=
 b6A ⟨_,Tryz.func235,by kernel_rfl,by kernel_rfl⟩ fun x d vs β K w g f=>by
  obtain⟨s,c,_⟩:=x;obtain⟨v,u,rfl,a,b⟩:=b2e f;have a:v = .string s:=a;have b:u = .int .u8 c:=b;subst a;subst b;refine(Tryz.strings_IndexByte s c w).mono ?_;rintro e w' ⟨rfl,rfl⟩;exact⟨_,rfl,rfl,Below.refl _ _⟩
abbrev A60:Ty := .cons (.slice .str) (.cons .str (.nil))
abbrev R60:Ty := .cons .str (.nil)
def b6B (l:List ByteArray) (sep:ByteArray):List UInt8:=Lib.join (l.map (·.data.toList)) sep.data.toList
def K60 (x:Den A60):Bool:=decide ((x.1:List ByteArray).length<=140737488355328)&&decide ((b6B x.1 x.2.1).length<=140737488355328)
def G60 (x:Den A60):Den R60:=(⟨(b6B x.1 x.2.1).toArray⟩,())
def m60:=(60,a0b A60 R60 K60 G60)
theorem f9z:a0d Tryz.prog (60,a0b A60 R60 K60 G60):=
 b6A ⟨_,Tryz.func60,by kernel_rfl,by kernel_rfl⟩ fun x f vs β K w A H=>by
  obtain⟨l,sep,_⟩:=x;obtain⟨v,u,rfl,s,r⟩:=b2e H;have r:u = .string sep:=r;subst r;obtain⟨a,n,c,e,G,D,q⟩:=(show DR K (.slice .str) l [v]from s);have e:v = .slice a n c:=by simpa using e
  subst e;simp only[K60,Bool.and_eq_true,decide_eq_true_eq]at f;have k:n=length (α:=ByteArray) l:=G;have t:∀(l:List ByteArray),n=l.length->l.length<=140737488355328->(b6B l sep).length<=140737488355328 ->
   (n=0∨∃b o arr,a=some ⟨b,o,none⟩ /\ K b=some (false,arr) /\ ∀i (h:i<l.length),DR K .str l[i] (sub arr.toList (o+i*1) 1)) ->
   Calls Tryz.prog 60 #[.slice a n c,.string sep] w fun e w'=>∃v,e = .returned v /\ a7j β K (a5Q R60 (⟨(b6B l sep).toArray⟩,())) v /\ Below w.heap.size w w':=by
   intro l k B C q;by_cases y:n=0
   ·subst y;have:l=[]:=by
     cases l with
     |nil=>rfl
     |cons _ _=>simp at k
    subst this;refine(Tryz.strings_Join_none a c sep w).mono ?_;rintro e w' ⟨rfl,rfl⟩;exact⟨_,rfl,rfl,Below.refl _ _⟩
   ·obtain⟨b,o,arr,rfl,z,E⟩:=q.resolve_left y;obtain⟨cur,T,fz,hh,d,_⟩:=A.ato b _ z;have d:=d rfl;subst d;subst k;refine(Tryz.strings_Join b o c l sep w ?_ (A.lt z) B D C).mono ?_
    ·intro j x F;obtain⟨p,I⟩:=List.getElem?_eq_some_iff.1 F;have g:=E j p;have g:sub cur.toList (o+j*1) 1=[.string l[j]]:=g;rw[I]at g;unfold sub at g;rw[Nat.mul_one]at g;simp only[World.cell?,hh,Option.isSome_none,Bool.false_eq_true,if_false];have:(cur.toList.drop (o+j))[0]?=some (.string x):=by
      have:=congrArg (fun l=>l[0]?) g;simpa[List.getElem?_take]using this
     rw[List.getElem?_drop,Nat.add_zero,Array.getElem?_toList]at this;exact this
    ·rintro e w' ⟨rfl,m⟩;exact⟨_,rfl,rfl,m⟩
  exact t l k f.1 f.2 q
abbrev A48:Ty := .cons .str (.cons .str (.nil))
abbrev R48:Ty := .cons (.slice .str) (.nil)
def a4i (s sep:ByteArray):List ByteArray:=Lib.splitB sep 0 (Lib.countB s sep) s
def K48 (x:Den A48):Bool:=decide ((x.1:ByteArray).size<4294967281)&&decide (1<=(x.2.1:ByteArray).size)
def G48 (x:Den A48):Den R48:=(a4i x.1 x.2.1,())
def m48:=(48,a0b A48 R48 K48 G48)
theorem f9A:a0d Tryz.prog (48,a0b A48 R48 K48 G48):=by
 refine⟨?_,⟨_,Tryz.func48,by kernel_rfl,by kernel_rfl⟩⟩;intro args ins rs outs c β0 K0 w0 vs l z o t;cases ins with
 |cons _ _=>simp[a0b]at c
 | nil =>
   simp only[a0b]at c;split at c
   case h_2=>cases c
   rename_i x w;simp only[Option.some.injEq,Prod.mk.injEq]at c;obtain⟨f,rfl,rfl⟩:=c;have t:=a6c w t;obtain⟨s,sep,_⟩:=x;obtain⟨v,u,rfl,g,r⟩:=b2e t;have g:v = .string s:=g;have r:u = .string sep:=r;subst g;subst r;simp only[K48,Bool.and_eq_true,decide_eq_true_eq]at f;obtain⟨m,q⟩:=c5s l;refine(Tryz.strings_Split s sep m w0 f.1 q f.2).mono ?_;rintro e w' ⟨rfl,rfl⟩;have j:(a4i s sep).length=Lib.countB s sep+1:=Lib.splitB_all sep f.2 0 _ s rfl;have d:∀arr,K0 w0.heap.size=some arr->False:=fun arr e=>Nat.lt_irrefl _ (l.lt e)
   let arr:Array Value:=((a4i s sep).map Value.string).toArray
   refine⟨_,β0,fun b=>if b=w0.heap.size then some (false,arr)else K0 b,rfl,⟨?_,⟨?_,?_⟩,?_,⟨fun k b e=>by simp[a2o]at e,fun k k' b b' _ _ _ e=>by simp[a2o]at e,fun k b _ _ e=>by simp[a2o]at e⟩,fun k _=>o k (zero_le _),?_,Fr.alloc _ _ _,fun x w=>by
    obtain⟨k,b,y,e,_⟩:=w;simp[a2o]at e,BLe.refl _,Nat.le_refl _⟩⟩
   ·intro b a e;show(if b=w0.heap.size then some (false,arr)else K0 b)=_;rw[if_neg (by rintro rfl;exact d _ e)];exact e
   ·intro b a e;split at e
    ·rename_i n;cases e;subst n;exact⟨_,9,(0,0),a1J _ _,fun _=>rfl,fun h=>by cases h⟩
    ·exact(l.alloc _).ato b a e
   ·refine GK.mono (K:=K0) (fun b a e=>?_) l.gk;show(if b=w0.heap.size then some (false,arr)else K0 b)=_;rw[if_neg (by rintro rfl;exact d _ e)];exact e
   ·intro b a e;split at e
    ·rename_i n;right;right;rw[n];exact Nat.le_refl _
    ·exact .inl e
   ·show DR _ (.slice .str) (a4i s sep) [_];refine⟨_,_,_,rfl,j.symm,Nat.le_refl _,.inr ⟨w0.heap.size,0,arr,rfl,if_pos rfl,fun i p=>?_⟩⟩;show sub arr.toList (0+i*1) 1=[.string (a4i s sep)[i]];have p:i<(a4i s sep).length:=p;unfold sub;rw[Nat.mul_one,Nat.zero_add];simp only[arr];rw[List.drop_eq_getElem_cons (by simpa using p)];simp
open Go Go.Proofs
abbrev A62:Ty := .cons (.flt .f64) (.nil)
abbrev R62:Ty := .cons (.flt .f64) (.nil)
noncomputable def N62:a8e:=mkN [(120,a5S (.cons (.flt .f64) .nil) (.cons (.int .u64) .nil) c5p d3e (fun z x=>((((bif a1y .f64 x.1 then z.1 else x.1:Nat):Int)),()))),(121,a5S (.cons (.int .u64) .nil) (.cons (.flt .f64) .nil) Unit ⟨()⟩ (fun _ x=>((x.1:Int).toNat,())))] []
noncomputable def f9B:Env:=a8d tab eqs [] 32 [.tmp 2] [] [] [] [] []
def rE (n:Int):Int:=a2c .and .u64 (Int.fdiv n (2^min (toNat 52) (IntKind.bits .u64))) 2047
noncomputable def rR (n:Int) (h:Nat->Option Unit):Option Unit:=
 bif decide (rE n<1023)then
  bif rE n==1022 then
   a3u fun(_:Unit)=>h (toNat (a2c .or .u64 (a2c .and .u64 n 9223372036854775808) 4607182418800017408))
  else a3u fun(_:Unit)=>h (toNat (a2c .and .u64 n 9223372036854775808))
 else bif decide (rE n<1075)then
  let a:=wrap .u64 (rE n-1023)
  bif decide (0<=a)then
   bif decide (0<=a)then
    a3u fun(_:Unit)=>h (toNat (a2c .andNot .u64 (wrap .u64 (n+Int.fdiv 2251799813685248 (2^min (toNat a) (IntKind.bits .u64)))) (Int.fdiv 4503599627370495 (2^min (toNat a) (IntKind.bits .u64)))))
   else none
  else none
 else a3u fun(_:Unit)=>h (toNat n)
theorem f9C (h:Den R62->Option Unit) (x:Den A62):a5G f9B N62 (a0B Tryz.f62) (a5H R62 h) (a5Q A62 x) [] =
 a3u fun(z:c5p)=>rR (((bif a1y FloatKind.f64 x.fst then z.1 else x.fst:Nat):Int)) (fun y=>h (y,())):=by kernel_rfl
def a1z (n:Int):Nat:=
 bif decide (rE n<1023)then
  bif rE n==1022 then toNat (a2c .or .u64 (a2c .and .u64 n 9223372036854775808) 4607182418800017408)
  else toNat (a2c .and .u64 n 9223372036854775808)
 else bif decide (rE n<1075)then
  toNat (a2c .andNot .u64 (wrap .u64 (n+Int.fdiv 2251799813685248 (2^min (toNat (wrap .u64 (rE n-1023))) (IntKind.bits .u64)))) (Int.fdiv 4503599627370495 (2^min (toNat (wrap .u64 (rE n-1023))) (IntKind.bits .u64))))
 else toNat n
theorem b6C (n:Int):0<=wrap .u64 n:=by rw[IntKind.wrap_u64];omega
theorem f9D (n:Int) (h:Nat->Option Unit) (hh:h (a1z n)=some ()):rR n h=some ():=by
 unfold rR;unfold a1z at hh;cases h1:decide (rE n<1023)with
 | true =>
   rw[h1]at hh;cases h2:rE n==1022 with
   |true=>rw[h2]at hh;exact a0n fun _=>hh
   |false=>rw[h2]at hh;exact a0n fun _=>hh
 | false =>
   rw[h1]at hh;cases h2:decide (rE n<1075)with
   | true =>
     rw[h2]at hh;simp only[b6C,decide_true,cond_true];exact a0n fun _=>hh
   |false=>rw[h2]at hh;exact a0n fun _=>hh
theorem b8O (b:Nat):rE (b:Int)=((b/2^52%2048:Nat):Int):=by
 unfold rE;have a:Int.fdiv (b:Int) (2^min (toNat 52) (IntKind.bits .u64))=((b/2^52:Nat):Int):=by
  have e:min (toNat 52) (IntKind.bits .u64)=52:=by decide
  rw[e,Int.fdiv_eq_ediv_of_nonneg _ (by decide)];rfl
 rw[a];show IntKind.u64.wrap (((BitVec.ofInt 64 ((b/2^52:Nat):Int) &&& BitVec.ofInt 64 2047).toNat:Nat):Int)=_;rw[BitVec.toNat_and];have d:(BitVec.ofInt 64 ((b/2^52:Nat):Int)).toNat=b/2^52%2^64:=by
  rw[BitVec.toNat_ofInt];omega
 have c:(BitVec.ofInt 64 2047).toNat=2^11-1:=by decide
 rw[d,c,Nat.and_two_pow_sub_one_eq_mod,IntKind.wrap_u64];omega
theorem e8K {b:Nat} (h:a1y .f64 b=true):rE (b:Int)=2047:=by
 rw[b8O];rw[a3Z]at h;have a:FloatKind.f64.format.signWeight=2^63:=by decide
 have c:FloatKind.f64.format.infRung=2047*2^52:=by decide
 rw[a,c]at h;omega
def K62 (x:Den A62):Bool:=true
def G62 (x:Den A62):Den R62:=(a1z ((x.1:Nat):Int),())
theorem f9E:a1m Tryz.prog f9B:=a4O mixed a5h a4Q .nil
theorem h0B:a5P Tryz.prog 62 f9B (a0B Tryz.f62):=a1q Tryz.func62 rfl rfl rfl (by kernel_rfl) (a1E (by kernel_rfl))
def m62:=(62,a0b A62 R62 K62 G62)
theorem f9F:a0d Tryz.prog (62,a0b A62 R62 K62 G62):=
 a6g (N:=N62) f9E (a2K ⟨b8J d6J,a7M d6K,trivial⟩) h0B a1p (Q:=fun x y=>FEq .f64 (a1z ((x.1:Nat):Int)) y.1)
  (fun x y h β K v i=>by
   obtain⟨b,rfl,a⟩:=i;refine⟨b,rfl,?_⟩;have a:FEq .f64 y.1 b:=a;show FEq .f64 (a1z ((x.1:Nat):Int)) b;rcases h with e|⟨d,f⟩
   ·rw[e];exact a
   ·exact .inr ⟨d,FEq.nan_left a f⟩)
  (fun x _ k g=>by
   rw[f9C]
   haveI:=d3e
   refine a0n fun z=>f9D _ _ (g _ ?_)
   cases hn:a1y .f64 x.1 with
   | true =>
     have c:∀b:Nat,a1y .f64 b=true->a1z (b:Int)=b:=fun b a=>by
      unfold a1z;rw[e8K a];rfl
     refine .inr ⟨by rw[c _ hn];exact hn,?_⟩;show a1y .f64 (a1z ((bif true then z.1 else x.1:Nat):Int))=true;rw[cond_true,c _ z.2];exact z.2
   |false=>exact .inl rfl)
abbrev e6S:Ty := .cons (.slice (.flt .f32)) (.nil)
abbrev e8L:Ty := .cons (.slice (.flt .f32)) (.nil)
noncomputable def e2B:Env:=a8d tab eqs [] 8 [.tmp 2] [] [] [] [] [.nil 2,.frz 2]
theorem e8M (h:Den e8L->Option Unit) (x:Den e6S):a5G e2B (mkN [] []) (a0B Tryz.f199) (a5H e8L h) (a5Q e6S x) [] =
 a3u fun(z:Bool)=>bif List.isEmpty x.1&&z then h ([],())else bif a0k (0+length x.1)then h (x.1,())else none:=by kernel_rfl
def e6T (x:Den e6S):Bool:=a0k (0+length x.1)
def e6U (x:Den e6S):Den e8L:=x
theorem e8N:a1m Tryz.prog e2B:=a4O mixed a5h a4Q .nil
theorem f9G:a5P Tryz.prog 199 e2B (a0B Tryz.f199):=a1q Tryz.func199 rfl rfl rfl (by kernel_rfl) (a1E (by kernel_rfl))
def h0C:=(199,a0b e6S e8L e6T e6U)
theorem e8O:a0d Tryz.prog (199,a0b e6S e8L e6T e6U):=
 a6g (N:=mkN [] []) e8N (a2K trivial) f9G a1p (Q:=fun x y=>y=x) (fun x y e β K v d=>by rw[e]at d;exact d)
  (fun x c k b=>by
   obtain⟨l,_⟩:=x;rw[e8M];refine a0n fun z=>?_
   have b:=b (l,()) rfl;have c:a0k (0+length l)=true:=c;cases l with
   |nil=>cases z<;>exact b
   |cons a r=>dsimp only[List.isEmpty,Bool.false_and,cond_false];rw[c];exact b)
abbrev e6V:Ty := .cons (.slice (.int .i64)) (.nil)
abbrev e8P:Ty := .cons (.slice (.int .i64)) (.nil)
noncomputable def e2C:Env:=a8d tab eqs [] 8 [.tmp 2] [] [] [] [] [.nil 2,.frz 2]
theorem e8Q (h:Den e8P->Option Unit) (x:Den e6V):a5G e2C (mkN [] []) (a0B Tryz.f200) (a5H e8P h) (a5Q e6V x) [] =
 a3u fun(z:Bool)=>bif List.isEmpty x.1&&z then h ([],())else bif a0k (0+length x.1)then h (x.1,())else none:=by kernel_rfl
def e6W (x:Den e6V):Bool:=a0k (0+length x.1)
def e6X (x:Den e6V):Den e8P:=x
theorem e8R:a1m Tryz.prog e2C:=a4O mixed a5h a4Q .nil
theorem f9H:a5P Tryz.prog 200 e2C (a0B Tryz.f200):=a1q Tryz.func200 rfl rfl rfl (by kernel_rfl) (a1E (by kernel_rfl))
def h0D:=(200,a0b e6V e8P e6W e6X)
theorem d6L:a0d Tryz.prog (200,a0b e6V e8P e6W e6X):=
 a6g (N:=mkN [] []) e8R (a2K trivial) f9H a1p (Q:=fun x y=>y=x) (fun x y e β K v d=>by rw[e]at d;exact d)
  (fun x c k b=>by
   obtain⟨l,_⟩:=x;rw[e8Q];refine a0n fun z=>?_
   have b:=b (l,()) rfl;have c:a0k (0+length l)=true:=c;cases l with
   |nil=>cases z<;>exact b
   |cons a r=>dsimp only[List.isEmpty,Bool.false_and,cond_false];rw[c];exact b)
abbrev e6Y:Ty := .cons (.slice (a1r)) (.nil)
abbrev e8S:Ty := .cons (.slice (a1r)) (.nil)
noncomputable def e2D:Env:=a8d tab eqs [] 8 [.tmp 2] [] [] [] [] [.nil 2,.frz 2]
theorem e8T (h:Den e8S->Option Unit) (x:Den e6Y):a5G e2D (mkN [] []) (a0B Tryz.f201) (a5H e8S h) (a5Q e6Y x) [] =
 a3u fun(z:Bool)=>bif List.isEmpty x.1&&z then h ([],())else bif a0k (0+length x.1)then h (x.1,())else none:=by kernel_rfl
def f6l (x:Den e6Y):Bool:=a0k (0+length x.1)
def f6m (x:Den e6Y):Den e8S:=x
theorem e8U:a1m Tryz.prog e2D:=a4O mixed a5h a4Q .nil
theorem f9I:a5P Tryz.prog 201 e2D (a0B Tryz.f201):=a1q Tryz.func201 rfl rfl rfl (by kernel_rfl) (a1E (by kernel_rfl))
def m201:=(201,a0b e6Y e8S f6l f6m)
theorem e8V:a0d Tryz.prog (201,a0b e6Y e8S f6l f6m):=
 a6g (N:=mkN [] []) e8U (a2K trivial) f9I a1p (Q:=fun x y=>y=x) (fun x y e β K v d=>by rw[e]at d;exact d)
  (fun x c k b=>by
   obtain⟨l,_⟩:=x;rw[e8T];refine a0n fun z=>?_
   have b:=b (l,()) rfl;have c:a0k (0+length l)=true:=c;cases l with
   |nil=>cases z<;>exact b
   |cons a r=>dsimp only[List.isEmpty,Bool.false_and,cond_false];rw[c];exact b)
abbrev e6Z:Ty := .cons (.slice (S68)) (.nil)
abbrev e8W:Ty := .cons (.slice (S68)) (.nil)
noncomputable def e2E:Env:=a8d tab eqs [] 8 [.tmp 2] [] [] [] [] [.nil 2,.frz 2]
theorem e8X (h:Den e8W->Option Unit) (x:Den e6Z):a5G e2E (mkN [] []) (a0B Tryz.f149) (a5H e8W h) (a5Q e6Z x) [] =
 a3u fun(z:Bool)=>bif List.isEmpty x.1&&z then h ([],())else bif a0k (0+length x.1)then h (x.1,())else none:=by kernel_rfl
def f6n (x:Den e6Z):Bool:=a0k (0+length x.1)
def f6o (x:Den e6Z):Den e8W:=x
theorem e8Y:a1m Tryz.prog e2E:=a4O mixed a5h a4Q .nil
theorem f9J:a5P Tryz.prog 149 e2E (a0B Tryz.f149):=a1q Tryz.func149 rfl rfl rfl (by kernel_rfl) (a1E (by kernel_rfl))
def m149:=(149,a0b e6Z e8W f6n f6o)
theorem e8Z:a0d Tryz.prog (149,a0b e6Z e8W f6n f6o):=
 a6g (N:=mkN [] []) e8Y (a2K trivial) f9J a1p (Q:=fun x y=>y=x) (fun x y e β K v d=>by rw[e]at d;exact d)
  (fun x c k b=>by
   obtain⟨l,_⟩:=x;rw[e8X];refine a0n fun z=>?_
   have b:=b (l,()) rfl;have c:a0k (0+length l)=true:=c;cases l with
   |nil=>cases z<;>exact b
   |cons a r=>dsimp only[List.isEmpty,Bool.false_and,cond_false];rw[c];exact b)
abbrev e7a:Ty := .cons (.slice (a2u)) (.nil)
abbrev e9a:Ty := .cons (.slice (a2u)) (.nil)
noncomputable def e2F:Env:=a8d tab eqs [] 8 [.tmp 2] [] [] [] [] [.nil 2,.frz 2]
theorem e9b (h:Den e9a->Option Unit) (x:Den e7a):a5G e2F (mkN [] []) (a0B Tryz.f202) (a5H e9a h) (a5Q e7a x) [] =
 a3u fun(z:Bool)=>bif List.isEmpty x.1&&z then h ([],())else bif a0k (0+length x.1)then h (x.1,())else none:=by kernel_rfl
def f6p (x:Den e7a):Bool:=a0k (0+length x.1)
def f6q (x:Den e7a):Den e9a:=x
theorem e9c:a1m Tryz.prog e2F:=a4O mixed a5h a4Q .nil
theorem f9K:a5P Tryz.prog 202 e2F (a0B Tryz.f202):=a1q Tryz.func202 rfl rfl rfl (by kernel_rfl) (a1E (by kernel_rfl))
def m202:=(202,a0b e7a e9a f6p f6q)
theorem e9d:a0d Tryz.prog (202,a0b e7a e9a f6p f6q):=
 a6g (N:=mkN [] []) e9c (a2K trivial) f9K a1p (Q:=fun x y=>y=x) (fun x y e β K v d=>by rw[e]at d;exact d)
  (fun x c k b=>by
   obtain⟨l,_⟩:=x;rw[e9b];refine a0n fun z=>?_
   have b:=b (l,()) rfl;have c:a0k (0+length l)=true:=c;cases l with
   |nil=>cases z<;>exact b
   |cons a r=>dsimp only[List.isEmpty,Bool.false_and,cond_false];rw[c];exact b)
abbrev I85:Sg:=⟨[.val (.slice (S97))],[]⟩
abbrev O85:Sg:=⟨[.own (S97) 0],[.arr (S97)]⟩
noncomputable def f9L:Env:=a8d tab eqs [] 8 [.tmp 2] [] [] [] [] [.nil 2]
theorem f9M (h:O85.den->Option Unit) (x:I85.den):a3v f9L (mkN [] []) (a0B Tryz.f85) I85 O85 h x =
 a3u fun(z:Bool)=>bif List.isEmpty x.1.1&&z then h (((),()),([],()))else bif a0k (0+length x.1.1)then h (((),()),(x.1.1,()))else none:=by kernel_rfl
def K85 (x:I85.den):Bool:=a0k (0+length x.1.1)
def G85 (x:I85.den):O85.den:=(((),()),(x.1.1,()))
theorem f9N:a1m Tryz.prog f9L:=a4O mixed a5h a4Q .nil
theorem h0E:a5P Tryz.prog 85 f9L (a0B Tryz.f85):=a1q Tryz.func85 rfl rfl rfl (by kernel_rfl) (a1E (by kernel_rfl))
def m85:=(85,a0H false I85 O85 K85 G85)
theorem f9O:a0d Tryz.prog (85,a0H false I85 O85 K85 G85):=
 c5i (N:=mkN [] []) f9N (a2K trivial) h0E a1p
  (fun x c k b=>by
   obtain⟨⟨l,_⟩,_⟩:=x;rw[f9M];refine a0n fun z=>?_
   have b:k (((),()),(l,()))=some ():=b;have c:a0k (0+length l)=true:=c;cases l with
   |nil=>cases z<;>exact b
   |cons a r=>dsimp only[List.isEmpty,Bool.false_and,cond_false];rw[c];exact b)
abbrev I86:Sg:=⟨[.val (.slice (.str))],[]⟩
abbrev O86:Sg:=⟨[.own (.str) 0],[.arr (.str)]⟩
noncomputable def f9P:Env:=a8d tab eqs [] 8 [.tmp 2] [] [] [] [] [.nil 2]
theorem f9Q (h:O86.den->Option Unit) (x:I86.den):a3v f9P (mkN [] []) (a0B Tryz.f86) I86 O86 h x =
 a3u fun(z:Bool)=>bif List.isEmpty x.1.1&&z then h (((),()),([],()))else bif a0k (0+length x.1.1)then h (((),()),(x.1.1,()))else none:=by kernel_rfl
def K86 (x:I86.den):Bool:=a0k (0+length x.1.1)
def G86 (x:I86.den):O86.den:=(((),()),(x.1.1,()))
theorem f9R:a1m Tryz.prog f9P:=a4O mixed a5h a4Q .nil
theorem h0F:a5P Tryz.prog 86 f9P (a0B Tryz.f86):=a1q Tryz.func86 rfl rfl rfl (by kernel_rfl) (a1E (by kernel_rfl))
def m86:=(86,a0H false I86 O86 K86 G86)
theorem f9S:a0d Tryz.prog (86,a0H false I86 O86 K86 G86):=
 c5i (N:=mkN [] []) f9R (a2K trivial) h0F a1p
  (fun x c k b=>by
   obtain⟨⟨l,_⟩,_⟩:=x;rw[f9Q];refine a0n fun z=>?_
   have b:k (((),()),(l,()))=some ():=b;have c:a0k (0+length l)=true:=c;cases l with
   |nil=>cases z<;>exact b
   |cons a r=>dsimp only[List.isEmpty,Bool.false_and,cond_false];rw[c];exact b)
abbrev g6N:Ty:=.cons (.flt .f64) (.nil)
abbrev f9T:Ty:=.cons (.flt .f64) (.nil)
def e7b (x:Den g6N):OD f9T:=bif flt .f64 x.1 0 then some (a3H .f64 x.1,())else some (x)
def f6r (x):=(e7b x).isSome
def f6s (x):=(e7b x).getD (zero f9T)
def h0G:=(165,a0b g6N f9T f6r f6s)
theorem e9e:a0d Tryz.prog h0G:=fnE nS Tryz.func165
abbrev A96:Ty:=.cons (.cpx .f64) (.nil)
abbrev R96:Ty:=.cons (.bool) (.nil)
def F96 (x:Den A96):OD R96:=bif f6r (x.1.1,()) then let a:=f6s (x.1.1,());bif flt .f64 a.1 4726483295884279808||feq .f64 a.1 4726483295884279808 then bif f6r (x.1.2,()) then let b:=f6s (x.1.2,());some (flt .f64 b.1 4726483295884279808||feq .f64 b.1 4726483295884279808,())else none else some (false,())else none
def K96 (x):=(F96 x).isSome
def G96 (x):=(F96 x).getD (zero R96)
def m96:=(96,a0b A96 R96 K96 G96)
theorem b6D:a0d Tryz.prog m96:=fnE (s1 e9e) Tryz.func96
abbrev A97:Ty:=.cons (.flt .f64) (.nil)
abbrev R97:Ty:=.cons (.int .i64) (.nil)
def F97 (x:Den A97):OD R97:=bif a6n .f64 x.1 IntKind.i64 then let b:=f2i .f64 x.1;let a:=a0a .sub .f64 x.1 (nearest .f64 b);bif fgt .f64 a 4602678819172646912||feq .f64 a 4602678819172646912 then bif flt .f64 a 13826050856027422720||feq .f64 a 13826050856027422720 then some (wrap .i64 ((wrap .i64 (b+1))-1),())else some (wrap .i64 (b+1),())else bif flt .f64 a 13826050856027422720||feq .f64 a 13826050856027422720 then some (wrap .i64 (b-1),())else some (b,())else none
def K97 (x):=(F97 x).isSome
def G97 (x):=(F97 x).getD (zero R97)
def m97:=(97,a0b A97 R97 K97 G97)
theorem f9U:a0d Tryz.prog m97:=fnE nS Tryz.func97
abbrev A51:Ty:=.cons (.int .i64) (.cons (.int .i64) (.cons (.int .i64) (.nil)))
abbrev R51:Ty:=.cons (.bool) (.nil)
def F51 (x:Den A51):OD R51:=bif decide (x.1 ≥ x.2.1) then some (decide (x.1<=x.2.2.1),())else some (false,())
def K51 (x):=(F51 x).isSome
def G51 (x):=(F51 x).getD (zero R51)
def m51:=(51,a0b A51 R51 K51 G51)
theorem a4E:a0d Tryz.prog m51:=fnE nS Tryz.func51
abbrev A98:Ty:=.cons (S33) (.nil)
abbrev R98:Ty:=.cons (.bool) (.nil)
def F98 (x:Den A98):OD R98:=bif K51 (x.1.1,-10000,10000,()) then bif (G51 (x.1.1,-10000,10000,())).1 then bif K51 (x.1.2.1,-10000,10000,()) then some (G51 (x.1.2.1,-10000,10000,()))else none else some (false,())else none
def K98 (x):=(F98 x).isSome
def G98 (x):=(F98 x).getD (zero R98)
def m98:=(98,a0b A98 R98 K98 G98)
theorem d3h:a0d Tryz.prog m98:=fnE (s1 a4E) Tryz.func98
abbrev A49:Ty:=.cons (.cpx .f64) (.nil)
abbrev R49:Ty:=.cons (S33) (.cons (.bool) (.nil))
def F49 (x:Den A49):OD R49:=bif K96 x then bif !(G96 x).1 then some ((0,0,()),false,())else bif K97 (x.1.1,()) then bif K97 (x.1.2,()) then let a:=G97 (x.1.1,());let b:=G97 (x.1.2,());bif K98 ((a.1,b),()) then bif !(G98 ((a.1,b),())).1 then some ((0,0,()),false,())else some ((a.1,b),true,())else none else none else none else none
def K49 (x):=(F49 x).isSome
def G49 (x):=(F49 x).getD (zero R49)
def m49:=(49,a0b A49 R49 K49 G49)
theorem d3i:a0d Tryz.prog m49:=fnE (s3 b6D f9U d3h) Tryz.func49
abbrev A99:Ty:=.cons (S27) (.nil)
abbrev R99:Ty:=.cons (.bool) (.nil)
abbrev b8P:Type:=b2d×b8N
abbrev d6M:Type:=a4r×b8N
abbrev d6N:Type:=ty9
def d6O:LR:=⟨[1,5],[],4,[1],[],⟨[(1,om1),(5,om0)],b5V,1,0⟩,⟨[(1,om1)],b5V,1,0⟩,⟨a9h,[],0,0⟩⟩
def b3R (f:b8P->Option (d6M⊕d6N)) (v:b8P):Option (d6M⊕d6N):=bif decide (v.1.2.1<(length v.2.1.2.1:Int)) then bif decide (0<=v.1.2.1)&&decide (v.1.2.1<(length v.2.1.2.1:Int)) then let a:=wrap .i64 (v.1.2.1-1);bif decide (0<=a)&&decide (a<(length v.2.1.2.1:Int)) then bif decide ((getD v.2.1.2.1 (toNat v.1.2.1) (zero (Ty.int IntKind.i64)))<=(getD v.2.1.2.1 (toNat a) (zero (Ty.int IntKind.i64)))) then some (Sum.inr ((false,()),()))else f ((((),wrap .i64 (v.1.2.1+1),()),v.2))else none else none else some (Sum.inl (((),()),v.2))
def c5t (v:b8P):Nat:=v.1.2.1.natAbs+v.2.1.1.length+v.2.1.2.1.length+v.2.1.2.2.1.length+1000
def b0B (v:b8P):=a0F b3R (c5t v) v
def c5u (v):=(b0B v).isSome
def c5v (v):=isR (b0B v)
def c5w (v):=xOf default (b0B v)
def c5x (v):=yOf default (b0B v)
abbrev d3j:Type:=(Unit×a4h)×b8N
abbrev e9f:Type:=b2d×b8N
abbrev e9g:Type:=ty9
def e9h:LR:=⟨[1,3,4],[],2,[1,3],[],⟨[(1,om1),(3,om0),(4,om0)],b5V,1,0⟩,⟨li9,b5V,1,0⟩,⟨a9h,[],0,0⟩⟩
def c5y (f:d3j->Option (e9f⊕e9g)) (v:d3j):Option (e9f⊕e9g):=bif decide (0<=v.1.2.1)&&decide (v.1.2.1<(length v.2.1.2.2.1:Int)) then let a:=getD v.2.1.2.2.1 (toNat v.1.2.1) (zero (Ty.slice (Ty.flt .f32)));bif decide (v.1.2.2.1<(length a:Int)) then bif decide (0<=v.1.2.1)&&decide (v.1.2.1<(length v.2.1.2.2.1:Int)) then bif decide (0<=v.1.2.2.1)&&decide (v.1.2.2.1<(length a:Int)) then let b:=getD a (toNat v.1.2.2.1) (zero (Ty.flt .f32));bif fgt .f32 b 0||feq .f32 b 0 then bif decide (0<=v.1.2.1)&&decide (v.1.2.1<(length v.2.1.2.2.1:Int)) then bif decide (0<=v.1.2.2.1)&&decide (v.1.2.2.1<(length a:Int)) then bif !(flt .f32 b 1112014848||feq .f32 b 1112014848) then some (Sum.inr ((false,()),()))else f ((((),v.1.2.1,wrap .i64 (v.1.2.2.1+1),()),v.2))else none else none else some (Sum.inr ((false,()),()))else none else none else some (Sum.inl (((),v.1.2.1,()),v.2))else none
def e2G (v:d3j):Nat:=v.1.2.1.natAbs+v.1.2.2.1.natAbs+v.2.1.1.length+v.2.1.2.1.length+v.2.1.2.2.1.length+1000
def c2D (v:d3j):=a0F c5y (e2G v) v
def b8Q (v):=(c2D v).isSome
def b8R (v):=isR (c2D v)
def b3S (v):=xOf default (c2D v)
def b8S (v):=yOf default (c2D v)
abbrev d3k:Type:=b2d×b8N
abbrev e2H:Type:=a4r×b8N
abbrev e2I:Type:=ty9
def e9i:LR:=⟨[1,3],[],0,[1],[],⟨li9,b5V,1,0⟩,⟨[(1,om1)],b5V,1,0⟩,⟨a9h,[],0,0⟩⟩
def b2f (f:d3k->Option (e2H⊕e2I)) (v:d3k):Option (e2H⊕e2I):=let d:=(length v.2.1.1:Int);bif decide (v.1.2.1<d) then let e:=decide (0<=v.1.2.1)&&decide (v.1.2.1<d);bif e then let h:=zero (Ty.flt .f32);let a:=getD v.2.1.1 (toNat v.1.2.1) h;bif fgt .f32 a 0 then bif e then bif !(flt .f32 a 1120403456||feq .f32 a 1120403456) then some (Sum.inr ((false,()),()))else bif decide (v.1.2.1>0) then bif e then let g:=wrap .i64 (v.1.2.1-1);bif decide (0<=g)&&decide (g<d) then let i:=getD v.2.1.1 (toNat g) h;bif flt .f32 a i||feq .f32 a i then some (Sum.inr ((false,()),()))else bif decide (0<=v.1.2.1)&&decide (v.1.2.1<(length v.2.1.2.2.1:Int)) then bif (↑(length (getD v.2.1.2.2.1 (toNat v.1.2.1) (zero (Ty.slice (Ty.flt .f32))))):Int) != (length v.2.1.2.1:Int) then some (Sum.inr ((false,()),()))else let b:=(((),v.1.2.1,0,()),v.2);bif b8Q b then bif b8R b then some (Sum.inr (b8S b))else let j:=b3S b;f ((((),wrap .i64 (j.1.2.1+1),()),j.2))else none else none else none else none else bif decide (0<=v.1.2.1)&&decide (v.1.2.1<(length v.2.1.2.2.1:Int)) then bif (↑(length (getD v.2.1.2.2.1 (toNat v.1.2.1) (zero (Ty.slice (Ty.flt .f32))))):Int) != (length v.2.1.2.1:Int) then some (Sum.inr ((false,()),()))else let c:=(((),v.1.2.1,0,()),v.2);bif b8Q c then bif b8R c then some (Sum.inr (b8S c))else let k:=b3S c;f ((((),wrap .i64 (k.1.2.1+1),()),k.2))else none else none else none else some (Sum.inr ((false,()),()))else none else some (Sum.inl (((),()),v.2))
def e2J (v:d3k):Nat:=v.1.2.1.natAbs+v.2.1.1.length+v.2.1.2.1.length+v.2.1.2.2.1.length+1000
def c2E (v:d3k):=a0F b2f (e2J v) v
def d6P (v):=(c2E v).isSome
def d6Q (v):=isR (c2E v)
def d6R (v):=xOf default (c2E v)
def d6S (v):=yOf default (c2E v)
def F99 (x:Den A99):OD R99:=bif K51 ((length x.1.1:Int),1,12,()) then bif !(G51 ((length x.1.1:Int),1,12,())).1 then some (false,())else bif K51 ((length x.1.2.1:Int),2,24,()) then bif !(G51 ((length x.1.2.1:Int),2,24,())).1 then some (false,())else bif (length x.1.2.2.1:Int) != (length x.1.1:Int) then some (false,())else bif d6P (((),0,()),x) then bif d6Q (((),0,()),x) then some (d6S (((),0,()),x)).1 else let c:=d6R (((),0,()),x);bif c5u (((),1,()),c.2) then bif c5v (((),1,()),c.2) then some (c5x (((),1,()),c.2)).1 else let b:=c5w (((),1,()),c.2);bif decide (0<=0)&&decide (0<(length b.2.1.2.1:Int)) then bif (getD b.2.1.2.1 (toNat 0) (zero (Ty.int IntKind.i64)))==0 then let a:=wrap .i64 ((length b.2.1.2.1:Int)-1);bif decide (0<=a)&&decide (a<(length b.2.1.2.1:Int)) then some ((getD b.2.1.2.1 (toNat a) (zero (Ty.int IntKind.i64)))==180,())else none else some (false,())else none else none else none else none else none
def K99 (x):=(F99 x).isSome
def G99 (x):=(F99 x).getD (zero R99)
def m99:=(99,a0b A99 R99 K99 G99)
noncomputable def f9V:=gE [m51] Tryz.f99 (lps:=[(4,lmR e9i c2E),(9,lmR e9h c2D),(14,lmR d6O b0B)])
theorem e2K:EvR f9V (lp Tryz.f99 0) e9i b2f:=fun _ _=>by kernel_rfl
theorem e2L:EvR f9V (lp Tryz.f99 1) e9h c5y:=fun _ _=>by kernel_rfl
theorem d3l:EvR f9V (lp Tryz.f99 2) d6O b3R:=fun _ _=>by kernel_rfl
theorem e9j:a0d Tryz.prog m99:=a0y (a0C (s1 a4E)) (a1q Tryz.func99 rfl rfl rfl (by kernel_rfl) (a0f (by kernel_rfl) (s3 (lR e2K e2J) (lR e2L e2G) (lR d3l c5t)))) fun _=>by kernel_rfl
abbrev g6O:Ty:=.cons (.flt .f32) (.nil)
abbrev f9W:Ty:=.cons (.flt .f32) (.nil)
def e7c (x:Den g6O):OD f9W:=bif flt .f32 x.1 0 then some (a3H .f32 x.1,())else some (x)
def f6t (x):=(e7c x).isSome
def f6u (x):=(e7c x).getD (zero f9W)
def h0H:=(103,a0b g6O f9W f6t f6u)
theorem e9k:a0d Tryz.prog h0H:=fnE nS Tryz.func103
abbrev A52:Ty:=.cons (.cpx .f32) (.nil)
abbrev R52:Ty:=.cons (.bool) (.nil)
def F52 (x:Den A52):OD R52:=bif f6t (x.1.1,()) then let a:=f6u (x.1.1,());bif flt .f32 a.1 1120403456||feq .f32 a.1 1120403456 then bif f6t (x.1.2,()) then let b:=f6u (x.1.2,());some (flt .f32 b.1 1120403456||feq .f32 b.1 1120403456,())else none else some (false,())else none
def K52 (x):=(F52 x).isSome
def G52 (x):=(F52 x).getD (zero R52)
def m52:=(52,a0b A52 R52 K52 G52)
theorem b2g:a0d Tryz.prog m52:=fnE (s1 e9k) Tryz.func52
abbrev g6P:Ty:=.cons (a1r) (.nil)
abbrev f9X:Ty:=.cons (.bool) (.nil)
abbrev b8T:Type:=b2d×f9t
abbrev d6T:Type:=a4r
abbrev d6U:Type:=ty9
def d6V:LR:=⟨[1,3],[],0,[],[],⟨li9,[(0,f9v)],1,0⟩,⟨[],[],0,0⟩,⟨a9h,[],0,0⟩⟩
def b8U (f:b8T->Option (d6T⊕d6U)) (v:b8T):Option (d6T⊕d6U):=bif decide (v.1.2.1<13) then bif decide (0<=v.1.2.1)&&decide (v.1.2.1<(↑13:Int)) then let a:=getD [v.2.1.2.1,v.2.1.2.2.1,v.2.1.2.2.2.1,v.2.1.2.2.2.2.1,v.2.1.2.2.2.2.2.1,v.2.1.2.2.2.2.2.2.1,v.2.1.2.2.2.2.2.2.2.1,v.2.1.2.2.2.2.2.2.2.2.1,v.2.1.2.2.2.2.2.2.2.2.2.1,v.2.1.2.2.2.2.2.2.2.2.2.2.1,v.2.1.2.2.2.2.2.2.2.2.2.2.2.1,v.2.1.2.2.2.2.2.2.2.2.2.2.2.2.1,v.2.1.2.2.2.2.2.2.2.2.2.2.2.2.2.1] (toNat v.1.2.1) (0,0);bif K52 (a,()) then bif !(G52 (a,())).1 then some (Sum.inr ((false,()),()))else f ((((),wrap .i64 (v.1.2.1+1),()),v.2))else none else none else some (Sum.inl ((),()))
def c5z (v:b8T):Nat:=v.1.2.1.natAbs+1000
def b0C (v:b8T):=a0F b8U (c5z v) v
def c5A (v):=(b0C v).isSome
def c5B (v):=isR (b0C v)
def f9Y (v):=xOf default (b0C v)
def c5C (v):=yOf default (b0C v)
def e7d (x:Den g6P):OD f9X:=let a:=(((),0,()),(x.1.1,x.1.2.1),());bif c5A a then bif c5B a then some (c5C a).1 else some (true,())else none
def e9l (x):=(e7d x).isSome
def e9m (x):=(e7d x).getD (zero f9X)
def g6Q:=(166,a0b g6P f9X e9l e9m)
noncomputable def f9Z:=gE [m52] Tryz.f166 (lps:=[(2,lmR d6V b0C)])
theorem d3m:EvR f9Z (lp Tryz.f166 0) d6V b8U:=fun _ _=>by kernel_rfl
theorem d6W:a0d Tryz.prog g6Q:=a0y (a0C (s1 b2g)) (a1q Tryz.func166 rfl rfl rfl (by kernel_rfl) (a0f (by kernel_rfl) (s1 (lR d3m c5z)))) fun _=>by kernel_rfl
abbrev g6R:Ty:=.cons (S30) (.nil)
abbrev g0a:Ty:=.cons (.bool) (.nil)
abbrev b8V:Type:=b2d×b3P
abbrev d6X:Type:=a4r
abbrev d6Y:Type:=ty9
def d6Z:LR:=⟨[1,4],[],2,[],[],⟨[(1,om1),(4,om0)],c2C,1,0⟩,⟨[],[],0,0⟩,⟨a9h,[],0,0⟩⟩
def b3T (f:b8V->Option (d6X⊕d6Y)) (v:b8V):Option (d6X⊕d6Y):=bif decide (v.1.2.1<(length v.2.1.2.1:Int)) then bif decide (0<=v.1.2.1)&&decide (v.1.2.1<(length v.2.1.2.1:Int)) then let a:=getD v.2.1.2.1 (toNat v.1.2.1) (zero (Ty.int IntKind.i64));bif K51 (a,0,10000000,()) then bif !(G51 (a,0,10000000,())).1 then some (Sum.inr ((false,()),()))else bif decide (v.1.2.1>0) then bif decide (0<=v.1.2.1)&&decide (v.1.2.1<(length v.2.1.2.1:Int)) then let b:=wrap .i64 (v.1.2.1-1);bif decide (0<=b)&&decide (b<(length v.2.1.2.1:Int)) then bif decide (a<(wrap .i64 ((getD v.2.1.2.1 (toNat b) (zero (Ty.int IntKind.i64)))+21600))) then some (Sum.inr ((false,()),()))else f ((((),wrap .i64 (v.1.2.1+1),()),v.2))else none else none else f ((((),wrap .i64 (v.1.2.1+1),()),v.2))else none else none else some (Sum.inl ((),()))
def c5D (v:b8V):Nat:=v.1.2.1.natAbs+v.2.1.1.length+v.2.1.2.1.length+1000
def b0D (v:b8V):=a0F b3T (c5D v) v
def c5E (v):=(b0D v).isSome
def c5F (v):=isR (b0D v)
def g0b (v):=xOf default (b0D v)
def c5G (v):=yOf default (b0D v)
abbrev b8W:Type:=b2d×b3P
abbrev d7a:Type:=a4r×b3P
abbrev d7b:Type:=ty9
def d7c:LR:=⟨[1,3],[],0,[1],[],⟨li9,c2C,1,0⟩,⟨[(1,om1)],c2C,1,0⟩,⟨a9h,[],0,0⟩⟩
def b3U (f:b8W->Option (d7a⊕d7b)) (v:b8W):Option (d7a⊕d7b):=bif decide (v.1.2.1<(length v.2.1.1:Int)) then bif decide (0<=v.1.2.1)&&decide (v.1.2.1<(length v.2.1.1:Int)) then let a:=getD v.2.1.1 (toNat v.1.2.1) (zero a1r);bif K96 (a.1,()) then bif !(G96 (a.1,())).1 then some (Sum.inr ((false,()),()))else bif decide (0<=v.1.2.1)&&decide (v.1.2.1<(length v.2.1.1:Int)) then bif e9l (a,()) then bif !(e9m (a,())).1 then some (Sum.inr ((false,()),()))else f ((((),wrap .i64 (v.1.2.1+1),()),v.2))else none else none else none else none else some (Sum.inl (((),()),v.2))
def c5H (v:b8W):Nat:=v.1.2.1.natAbs+v.2.1.1.length+v.2.1.2.1.length+1000
def b0E (v:b8W):=a0F b3U (c5H v) v
def c5I (v):=(b0E v).isSome
def c5J (v):=isR (b0E v)
def c5K (v):=xOf default (b0E v)
def c5L (v):=yOf default (b0E v)
def e7e (x:Den g6R):OD g0a:=let b:=((length x.1.1:Int),1,20,());bif K51 b then bif !(G51 b).1 then some (false,())else let c:=((length x.1.2.1:Int),1,60,());bif K51 c then bif !(G51 c).1 then some (false,())else bif c5I (((),0,()),x) then bif c5J (((),0,()),x) then some (c5L (((),0,()),x)).1 else let a:=c5K (((),0,()),x);bif c5E (((),0,()),a.2) then bif c5F (((),0,()),a.2) then some (c5G (((),0,()),a.2)).1 else some (true,())else none else none else none else none
def e2M (x):=(e7e x).isSome
def e2N (x):=(e7e x).getD (zero g0a)
def g0c:=(100,a0b g6R g0a e2M e2N)
noncomputable def e9n:=gE [m51,m96,g6Q] Tryz.f100 (lps:=[(4,lmR d7c b0E),(9,lmR d6Z b0D)])
theorem d3n:EvR e9n (lp Tryz.f100 0) d7c b3U:=fun _ _=>by kernel_rfl
theorem d3o:EvR e9n (lp Tryz.f100 1) d6Z b3T:=fun _ _=>by kernel_rfl
theorem c5M:a0d Tryz.prog g0c:=a0y (a0C (s3 a4E b6D d6W)) (a1q Tryz.func100 rfl rfl rfl (by kernel_rfl) (a0f (by kernel_rfl) (s2 (lR d3n c5H) (lR d3o c5D)))) fun _=>by kernel_rfl
abbrev g6S:Ty:=.cons (.str) (.nil)
abbrev g0d:Ty:=.cons (.bool) (.nil)
abbrev b8X:Type:=e8B
abbrev d7d:Type:=d6I×Unit
abbrev d7e:Type:=ty9
def d7f:LR:=⟨[0,3],[],0,[0],[],⟨[(0,om5),(3,om0)],[],0,0⟩,⟨[(0,om5)],[],0,0⟩,⟨a9h,[],0,0⟩⟩
def b3V (f:b8X->Option (d7d⊕d7e)) (v:b8X):Option (d7d⊕d7e):=let a:=v.1.2.1<(ByteArray.size v.1.1:Int);bif decide a then let b:=decide (0<=v.1.2.1)&&decide a;bif b then bif decide (a0p v.1.1 v.1.2.1<97) then some (Sum.inr ((false,()),()))else bif b then bif decide (a0p v.1.1 v.1.2.1>122) then some (Sum.inr ((false,()),()))else f (((v.1.1,wrap .i64 (v.1.2.1+1),()),()))else none else none else some (Sum.inl ((v.1.1,()),()))
def c5N (v:b8X):Nat:=v.1.1.size+v.1.2.1.natAbs+1000
def b0F (v:b8X):=a0F b3V (c5N v) v
def c5O (v):=(b0F v).isSome
def c5P (v):=isR (b0F v)
def c5Q (v):=xOf default (b0F v)
def c5R (v):=yOf default (b0F v)
def f6v (x:Den g6S):OD g0d:=bif c5O ((x.1,0,()),()) then bif c5P ((x.1,0,()),()) then some (c5R ((x.1,0,()),())).1 else let a:=c5Q ((x.1,0,()),());let b:=((ByteArray.size a.1.1:Int),1,16,());bif K51 b then bif (G51 b).1 then some (!a0G a.1.1 { data:=#[110,111,110,101] },())else some (false,())else none else none
def g0e (x):=(f6v x).isSome
def g0f (x):=(f6v x).getD (zero g0d)
def g6T:=(167,a0b g6S g0d g0e g0f)
noncomputable def g0g:=gE [m51] Tryz.f167 (lps:=[(2,lmR d7f b0F)])
theorem d3p:EvR g0g (lp Tryz.f167 0) d7f b3V:=fun _ _=>by kernel_rfl
theorem e9o:a0d Tryz.prog g6T:=a0y (a0C (s1 a4E)) (a1q Tryz.func167 rfl rfl rfl (by kernel_rfl) (a0f (by kernel_rfl) (s1 (lR d3p c5N)))) fun _=>by kernel_rfl
abbrev g6U:Ty:=.cons (.slice (S68)) (.nil)
abbrev g0h:Ty:=.cons (.bool) (.nil)
abbrev b8Y:Type:=(b2c×Int×b2d)×(b3O×Nat×Nat×a4h)×Unit
abbrev d7g:Type:=(b2c×ty6)×Unit
abbrev d7h:Type:=ty9
def d7i:LR:=⟨[0,3,4,5],[],2,[0,3],[],⟨[(0,om7),(3,om0),(4,om1),(5,om0)],[(0,.box [.str,.flt .f32,.flt .f32,.int .i64,.int .i64])],1,0⟩,⟨[(0,om7),(3,om0)],[],0,0⟩,⟨a9h,[],0,0⟩⟩
def b3W (f:b8Y->Option (d7g⊕d7h)) (v:b8Y):Option (d7g⊕d7h):=bif decide (v.1.2.2.2.1<v.1.2.1) then bif decide (0<=v.1.2.2.2.1)&&decide (v.1.2.2.2.1<(length v.1.1:Int)) then bif a0G (getD v.1.1 (toNat v.1.2.2.2.1) (zero S68)).1 v.2.1.1 then some (Sum.inr ((false,()),()))else f (((v.1.1,v.1.2.1,(),wrap .i64 (v.1.2.2.2.1+1),()),v.2))else none else some (Sum.inl ((v.1.1,v.1.2.1,()),()))
def c5S (v:b8Y):Nat:=v.1.1.length+v.1.2.1.natAbs+v.1.2.2.2.1.natAbs+v.2.1.1.size+v.2.1.2.2.2.1.natAbs+v.2.1.2.2.2.2.1.natAbs+1000
def a9i (v:b8Y):=a0F b3W (c5S v) v
def c5T (v):=(a9i v).isSome
def c5U (v):=isR (a9i v)
def c5V (v):=xOf default (a9i v)
def c5W (v):=yOf default (a9i v)
abbrev b8Z:Type:=(b2c×ty6)×Unit
abbrev d7j:Type:=(b2c×Unit)×Unit
abbrev d7k:Type:=ty9
def d7l:LR:=⟨[0,3],[],0,[0],[],⟨[(0,om7),(3,om0)],[],0,0⟩,⟨[(0,om7)],[],0,0⟩,⟨a9h,[],0,0⟩⟩
def b3X (f:b8Z->Option (d7j⊕d7k)) (v:b8Z):Option (d7j⊕d7k):=bif decide (v.1.2.1<(length v.1.1:Int)) then bif decide (0<=v.1.2.1)&&decide (v.1.2.1<(length v.1.1:Int)) then let a:=getD v.1.1 (toNat v.1.2.1) (zero S68);bif g0e (a.1,()) then bif !(g0f (a.1,())).1 then some (Sum.inr ((false,()),()))else bif fgt .f32 a.2.1 0||feq .f32 a.2.1 0 then bif fgt .f32 a.2.2.1 a.2.1 then bif !(flt .f32 a.2.2.1 1128792064||feq .f32 a.2.2.1 1128792064) then some (Sum.inr ((false,()),()))else bif K51 (a.2.2.2.1,0,180,()) then bif !(G51 (a.2.2.2.1,0,180,())).1 then some (Sum.inr ((false,()),()))else bif K51 (a.2.2.2.2.1,a.2.2.2.1,180,()) then bif !(G51 (a.2.2.2.2.1,a.2.2.2.1,180,())).1 then some (Sum.inr ((false,()),()))else bif c5T ((v.1.1,v.1.2.1,(),0,()),a,()) then bif c5U ((v.1.1,v.1.2.1,(),0,()),a,()) then some (Sum.inr (c5W ((v.1.1,v.1.2.1,(),0,()),a,())))else let b:=c5V ((v.1.1,v.1.2.1,(),0,()),a,());f (((b.1.1,wrap .i64 (b.1.2.1+1),()),()))else none else none else none else some (Sum.inr ((false,()),()))else some (Sum.inr ((false,()),()))else none else none else some (Sum.inl ((v.1.1,()),()))
def c5X (v:b8Z):Nat:=v.1.1.length+v.1.2.1.natAbs+1000
def b0G (v:b8Z):=a0F b3X (c5X v) v
def c5Y (v):=(b0G v).isSome
def c5Z (v):=isR (b0G v)
def c6a (v):=xOf default (b0G v)
def c6b (v):=yOf default (b0G v)
def f6w (x:Den g6U):OD g0h:=bif c5Y ((x.1,0,()),()) then bif c5Z ((x.1,0,()),()) then some (c6b ((x.1,0,()),())).1 else some (decide ((↑(length (c6a ((x.1,0,()),())).1.1):Int)<=12),())else none
def d7m (x):=(f6w x).isSome
def d7n (x):=(f6w x).getD (zero g0h)
def g6V:=(101,a0b g6U g0h d7m d7n)
noncomputable def e9p:=gE [g6T,m51] Tryz.f101 (lps:=[(2,lmR d7l b0G),(8,lmR d7i a9i)])
theorem d3q:EvR e9p (lp Tryz.f101 0) d7l b3X:=fun _ _=>by kernel_rfl
theorem d3r:EvR e9p (lp Tryz.f101 1) d7i b3W:=fun _ _=>by kernel_rfl
theorem c6c:a0d Tryz.prog g6V:=a0y (a0C (s2 e9o a4E)) (a1q Tryz.func101 rfl rfl rfl (by kernel_rfl) (a0f (by kernel_rfl) (s2 (lR d3q c5X) (lR d3r c5S)))) fun _=>by kernel_rfl
abbrev g0i:Ty:=.cons (S35) (.nil)
abbrev g0j:Ty:=.cons (.bool) (.nil)
def f6x (x:Den g0i):OD g0j:=bif K98 (x.1.1,()) then bif (G98 (x.1.1,())).1 then bif K98 x.1.2 then bif (G98 x.1.2).1 then some (!(x.1.1.1==x.1.2.1.1&&x.1.1.2.1==x.1.2.1.2.1),())else some (false,())else none else some (false,())else none
def f6y (x):=(f6x x).isSome
def f6z (x):=(f6x x).getD (zero g0j)
def g6W:=(168,a0b g0i g0j f6y f6z)
theorem e9q:a0d Tryz.prog g6W:=fnE (s1 d3h) Tryz.func168
abbrev g6X:Ty:=.cons (S38) (.cons (.int .i64) (.nil))
abbrev g0k:Ty:=.cons (S33) (.nil)
def e7f (x:Den g6X):OD g0k:=bif x.2.1==0 then some (x.1.1.1,())else let a:=wrap .i64 (x.2.1-1);bif decide (0<=a)&&decide (a<(length x.1.2.1:Int)) then some ((getD x.1.2.1 (toNat a) (zero a2u)).1,())else none
def g0l (x):=(e7f x).isSome
def g0m (x):=(e7f x).getD (zero g0k)
def g6Y:=(169,a0b g6X g0k g0l g0m)
theorem e9r:a0d Tryz.prog g6Y:=fnE nS Tryz.func169
abbrev g6Z:Ty:=.cons (S38) (.nil)
abbrev g0n:Ty:=.cons (.bool) (.nil)
abbrev b9a:Type:=b2d×f6c×Unit
abbrev d7o:Type:=a4r
abbrev d7p:Type:=ty9
def d7q:LR:=⟨[1,3],[],0,[],[],⟨li9,[(0,g6H)],1,0⟩,⟨[],[],0,0⟩,⟨a9h,[],0,0⟩⟩
def b3Y (f:b9a->Option (d7o⊕d7p)) (v:b9a):Option (d7o⊕d7p):=let b:=v.1.2.1<(length v.2.1.2.2.2.2.1:Int);bif decide b then let c:=decide (0<=v.1.2.1)&&decide b;bif c then let a:=getD v.2.1.2.2.2.2.1 (toNat v.1.2.1) (zero a2u);bif K98 (a.1,()) then bif !(G98 (a.1,())).1 then some (Sum.inr ((false,()),()))else bif c then let d:=((((v.2.1.1,v.2.1.2.1,()),(v.2.1.2.2.1,v.2.1.2.2.2.1,()),()),v.2.1.2.2.2.2.1,((v.2.1.2.2.2.2.2.1,v.2.1.2.2.2.2.2.2.1,()),v.2.1.2.2.2.2.2.2.2,()),()),v.1.2);bif g0l d then let e:=g0m d;bif a.1.1==e.1.1&&a.1.2.1==e.1.2.1 then some (Sum.inr ((false,()),()))else f ((((),wrap .i64 (v.1.2.1+1),()),v.2))else none else none else none else none else some (Sum.inl ((),()))
def c6d (v:b9a):Nat:=v.1.2.1.natAbs+v.2.1.1.natAbs+v.2.1.2.1.natAbs+v.2.1.2.2.1.natAbs+v.2.1.2.2.2.1.natAbs+v.2.1.2.2.2.2.1.length+v.2.1.2.2.2.2.2.1.natAbs+v.2.1.2.2.2.2.2.2.1.natAbs+v.2.1.2.2.2.2.2.2.2.1.natAbs+v.2.1.2.2.2.2.2.2.2.2.1.natAbs+1000
def a9j (v:b9a):=a0F b3Y (c6d v) v
def c6e (v):=(a9j v).isSome
def c6f (v):=isR (a9j v)
def g0o (v):=xOf default (a9j v)
def c6g (v):=yOf default (a9j v)
def f6A (x:Den g6Z):OD g0n:=bif f6y (x.1.1,()) then bif !(f6z (x.1.1,())).1 then some (false,())else bif f6y x.1.2.2 then bif !(f6z x.1.2.2).1 then some (false,())else let b:=((length x.1.2.1:Int),1,20,());bif K51 b then bif !(G51 b).1 then some (false,())else let a:=(((),0,()),(x.1.1.1.1,x.1.1.1.2.1,x.1.1.2.1.1,x.1.1.2.1.2.1,x.1.2.1,x.1.2.2.1.1.1,x.1.2.2.1.1.2.1,x.1.2.2.1.2.1),());bif c6e a then bif c6f a then some (c6g a).1 else some (true,())else none else none else none else none
def g0p (x):=(f6A x).isSome
def g0q (x):=(f6A x).getD (zero g0n)
def h0I:=(102,a0b g6Z g0n g0p g0q)
noncomputable def g0r:=gE [g6W,m51,m98,g6Y] Tryz.f102 (lps:=[(4,lmR d7q a9j)])
theorem d3s:EvR g0r (lp Tryz.f102 0) d7q b3Y:=fun _ _=>by kernel_rfl
theorem e9s:a0d Tryz.prog h0I:=a0y (a0C (s4 e9q a4E d3h e9r)) (a1q Tryz.func102 rfl rfl rfl (by kernel_rfl) (a0f (by kernel_rfl) (s1 (lR d3s c6d)))) fun _=>by kernel_rfl
abbrev A50:Ty:=.cons (S40) (.nil)
abbrev R50:Ty:=.cons (.bool) (.nil)
def F50 (x:Den A50):OD R50:=bif K99 (x.1.1,()) then bif (G99 (x.1.1,())).1 then bif e2M (x.1.2.1,()) then bif (e2N (x.1.2.1,())).1 then bif d7m (x.1.2.2.1,()) then bif (d7n (x.1.2.2.1,())).1 then bif decide ((length x.1.2.2.1:Int)>0) then bif g0p x.1.2.2.2 then some (g0q x.1.2.2.2)else none else some (false,())else some (false,())else none else some (false,())else none else some (false,())else none
def K50 (x):=(F50 x).isSome
def G50 (x):=(F50 x).getD (zero R50)
def m50:=(50,a0b A50 R50 K50 G50)
theorem e9t:a0d Tryz.prog m50:=fnE (s4 e9j c5M c6c e9s) Tryz.func50
abbrev I80:Sg:=⟨[.val (S40)],[]⟩
abbrev O80:Sg:=⟨[.mix [.ref (.flt .f32) 0,.ref (.int .i64) 1,.ref (.slice (.flt .f32)) 2,.ref (a1r) 3,.ref (.int .i64) 4,.ref (S68) 5,.int .i64,.int .i64,.int .i64,.int .i64,.ref (a2u) 6,.int .i64,.int .i64,.int .i64,.int .i64]],[.arr (.flt .f32),.arr (.int .i64),.arr (.slice (.flt .f32)),.arr (a1r),.arr (.int .i64),.arr (S68),.arr (a2u)]⟩
abbrev c6h:Type:=d6H×g6F
abbrev e2O:Type:=a7N×g6F
def e9u:LX:=⟨[1,2,3,4],[.boxNil 3 2],0,[1,2,3],[],⟨[(1,om1),(2,om3),(3,om4),(4,om0)],li1,6,0⟩,⟨[(1,om1),(2,om3),(3,om4)],li1,6,0⟩⟩
def c6i (f:c6h->Option (e2O)) (v:c6h):Option (e2O):=let a:=v.1.2.2.2.1<(length v.2.1.2.2.1:Int);bif decide a then bif decide (0<=v.1.2.2.2.1)&&decide a then let b:=zero (Ty.slice (Ty.flt .f32));let c:=getD v.2.1.2.2.1 (toNat v.1.2.2.2.1) b;let d:=zero (Ty.flt .f32);bif a0k (length (replicate 0 d)+length c) then let e:=set (replicate 1 b) 0 (replicate 0 d++c);bif a0k (length v.2.2.2.2.2.2.1+length e) then f ((((),(),(),wrap .i64 (v.1.2.2.2.1+1),()),v.2.1,v.2.2.1,v.2.2.2.1,v.2.2.2.2.1,v.2.2.2.2.2.1,v.2.2.2.2.2.2.1++e,()))else none else none else none else some (((),(),(),()),v.2)
def d3t (v:c6h):Nat:=v.1.2.2.2.1.natAbs+v.2.1.1.length+v.2.1.2.1.length+v.2.1.2.2.1.length+v.2.1.2.2.2.1.length+v.2.1.2.2.2.2.1.length+v.2.1.2.2.2.2.2.1.length+v.2.1.2.2.2.2.2.2.1.natAbs+v.2.1.2.2.2.2.2.2.2.1.natAbs+v.2.1.2.2.2.2.2.2.2.2.1.natAbs+v.2.1.2.2.2.2.2.2.2.2.2.1.natAbs+v.2.1.2.2.2.2.2.2.2.2.2.2.1.length+v.2.1.2.2.2.2.2.2.2.2.2.2.2.1.natAbs+v.2.1.2.2.2.2.2.2.2.2.2.2.2.2.1.natAbs+v.2.1.2.2.2.2.2.2.2.2.2.2.2.2.2.1.natAbs+v.2.1.2.2.2.2.2.2.2.2.2.2.2.2.2.2.1.natAbs+v.2.2.1.2.2.2.2.2.2.1.natAbs+v.2.2.1.2.2.2.2.2.2.2.1.natAbs+v.2.2.1.2.2.2.2.2.2.2.2.1.natAbs+v.2.2.1.2.2.2.2.2.2.2.2.2.1.natAbs+v.2.2.1.2.2.2.2.2.2.2.2.2.2.2.1.natAbs+v.2.2.1.2.2.2.2.2.2.2.2.2.2.2.2.1.natAbs+v.2.2.1.2.2.2.2.2.2.2.2.2.2.2.2.2.1.natAbs+v.2.2.1.2.2.2.2.2.2.2.2.2.2.2.2.2.2.1.natAbs+v.2.2.2.1.2.2.2.2.2.2.1.natAbs+v.2.2.2.1.2.2.2.2.2.2.2.1.natAbs+v.2.2.2.1.2.2.2.2.2.2.2.2.1.natAbs+v.2.2.2.1.2.2.2.2.2.2.2.2.2.1.natAbs+v.2.2.2.1.2.2.2.2.2.2.2.2.2.2.2.1.natAbs+v.2.2.2.1.2.2.2.2.2.2.2.2.2.2.2.2.1.natAbs+v.2.2.2.1.2.2.2.2.2.2.2.2.2.2.2.2.2.1.natAbs+v.2.2.2.1.2.2.2.2.2.2.2.2.2.2.2.2.2.2.1.natAbs+v.2.2.2.2.1.length+v.2.2.2.2.2.1.length+v.2.2.2.2.2.2.1.length+1000
def c6j (v:c6h):=a0F c6i (d3t v) v
def b9b (v):=(c6j v).isSome
def b9c (v):=(c6j v).getD (((),((),((),()))),(([],([],([],([],([],([],(0,(0,(0,(0,([],(0,(0,(0,(0,()))))))))))))))),(((),((),((),((),((),((),(0,(0,(0,(0,((),(0,(0,(0,(0,()))))))))))))))),(((),((),((),((),((),((),(0,(0,(0,(0,((),(0,(0,(0,(0,()))))))))))))))),([],([],([],())))))))
def F80 (x:I80.den):Option (O80.den):=let c:=zero (Ty.flt .f32);bif a0k (length (replicate 0 c)+length x.1.1.1.1) then let b:=zero (Ty.int IntKind.i64);bif a0k (length (replicate 0 b)+length x.1.1.1.2.1) then let e:=replicate 0 c++x.1.1.1.1;let g:=replicate 0 b++x.1.1.1.2.1;let d:=(((),(),(),0,()),(x.1.1.1.1,x.1.1.1.2.1,x.1.1.1.2.2.1,x.1.1.2.1.1,x.1.1.2.1.2.1,x.1.1.2.2.1,x.1.1.2.2.2.1.1.1.1,x.1.1.2.2.2.1.1.1.2.1,x.1.1.2.2.2.1.1.2.1.1,x.1.1.2.2.2.1.1.2.1.2.1,x.1.1.2.2.2.1.2.1,x.1.1.2.2.2.1.2.2.1.1.1,x.1.1.2.2.2.1.2.2.1.1.2.1,x.1.1.2.2.2.1.2.2.1.2.1),((),(),(),(),(),(),0,0,0,0,(),0,0,0,0,()),((),(),(),(),(),(),x.1.1.2.2.2.1.1.1.1,x.1.1.2.2.2.1.1.1.2.1,x.1.1.2.2.2.1.1.2.1.1,x.1.1.2.2.2.1.1.2.1.2.1,(),x.1.1.2.2.2.1.2.2.1.1.1,x.1.1.2.2.2.1.2.2.1.1.2.1,x.1.1.2.2.2.1.2.2.1.2.1),e,g,[],());bif b9b d then let a:=b9c d;bif a0k (length (replicate 0 (zero a1r))+length a.2.1.2.2.2.1) then bif a0k (length (replicate 0 b)+length a.2.1.2.2.2.2.1) then bif a0k (length (replicate 0 (zero S68))+length a.2.1.2.2.2.2.2.1) then bif a0k (length (replicate 0 (zero a2u))+length a.2.1.2.2.2.2.2.2.2.2.2.2.1) then some ((a.2.2.2.1,()),a.2.2.2.2.1,a.2.2.2.2.2.1,a.2.2.2.2.2.2.1,replicate 0 (zero a1r)++a.2.1.2.2.2.1,replicate 0 b++a.2.1.2.2.2.2.1,replicate 0 (zero S68)++a.2.1.2.2.2.2.2.1,replicate 0 (zero a2u)++a.2.1.2.2.2.2.2.2.2.2.2.2.1,())else none else none else none else none else none else none else none
def K80 (x):=(F80 x).isSome
def G80 (x):=(F80 x).getD (a1b O80)
def m80:=(80,a0H false I80 O80 K80 G80)
noncomputable def h0J:=gE [] Tryz.f80 (lps:=[(5,lmX e9u c6j)])
theorem e2P:EvX h0J (lp Tryz.f80 0) e9u c6i:=fun _ _=>by kernel_rfl
theorem e9v:a0d Tryz.prog m80:=a4P (a0C nS) (a1q Tryz.func80 rfl rfl rfl (by kernel_rfl) (a0f (by kernel_rfl) (s1 (lX e2P d3t)))) false fun _=>by kernel_rfl
abbrev I32:Sg:=⟨[.val (S40),.val (.cpx .f64),.val (.int .i64)],[]⟩
abbrev O32:Sg:=⟨[.mix [.ref (.flt .f32) 0,.ref (.int .i64) 1,.ref (.slice (.flt .f32)) 2,.ref (a1r) 3,.ref (.int .i64) 4,.ref (S68) 5,.int .i64,.int .i64,.int .i64,.int .i64,.ref (a2u) 6,.int .i64,.int .i64,.int .i64,.int .i64,.int .i64,.cpx .f64,.int .i64,.cpx .f32,.int .i64,.sl (S97),.sl (.str)],.val (.bool)],[.arr (.flt .f32),.arr (.int .i64),.arr (.slice (.flt .f32)),.arr (a1r),.arr (.int .i64),.arr (S68),.arr (a2u)]⟩
def F32 (x:I32.den):Option (O32.den):=bif K49 (x.1.2.1,()) then bif K50 (x.1.1,()) then bif !(G50 (x.1.1,())).1 then some ((((),(),(),(),(),(),0,0,0,0,(),0,0,0,0,0,(0,0),0,(0,0),0,[],[],()),false,()),[],[],[],[],[],[],[],())else bif !(G49 (x.1.2.1,())).2.1 then some ((((),(),(),(),(),(),0,0,0,0,(),0,0,0,0,0,(0,0),0,(0,0),0,[],[],()),false,()),[],[],[],[],[],[],[],())else bif K51 (x.1.2.2.1,0,10000000,()) then bif !(G51 (x.1.2.2.1,0,10000000,())).1 then some ((((),(),(),(),(),(),0,0,0,0,(),0,0,0,0,0,(0,0),0,(0,0),0,[],[],()),false,()),[],[],[],[],[],[],[],())else bif K80 ((x.1.1,()),()) then let a:=G80 ((x.1.1,()),());some ((((),(),(),(),(),(),a.1.1.2.2.2.2.2.2.1,a.1.1.2.2.2.2.2.2.2.1,a.1.1.2.2.2.2.2.2.2.2.1,a.1.1.2.2.2.2.2.2.2.2.2.1,(),a.1.1.2.2.2.2.2.2.2.2.2.2.2.1,a.1.1.2.2.2.2.2.2.2.2.2.2.2.2.1,a.1.1.2.2.2.2.2.2.2.2.2.2.2.2.2.1,a.1.1.2.2.2.2.2.2.2.2.2.2.2.2.2.2.1,x.1.2.2.1,x.1.2.1,0,(0,0),-1,[],[],()),true,()),a.2)else none else none else none else none
def K32 (x):=(F32 x).isSome
def G32 (x):=(F32 x).getD (a1b O32)
def m32:=(32,a0H false I32 O32 K32 G32)
theorem g0s:a0d Tryz.prog m32:=sgE false (s4 d3i e9t a4E e9v) Tryz.func32 (rown:=[.boxNil 6 0,.boxNil 6 1,.boxNil 6 2,.boxNil 6 3,.boxNil 6 4,.boxNil 6 5,.boxNil 6 10])
abbrev g7a:Ty:=.cons (.int .i64) (.nil)
abbrev g0t:Ty:=.cons (.int .u8) (.nil)
def f6B (x:Den g7a):OD g0t:=bif decide (x.1<10) then some (wrap .u8 (wrap .i64 (48+x.1)),())else some (wrap .u8 (wrap .i64 ((wrap .i64 (97+x.1))-10)),())
def e9w (x):=(f6B x).isSome
def e9x (x):=(f6B x).getD (zero g0t)
def g7b:=(190,a0b g7a g0t e9w e9x)
theorem e9y:a0d Tryz.prog g7b:=fnE nS Tryz.func190
abbrev g7c:Ty:=.cons (.int .i64) (.nil)
abbrev g0u:Ty:=.cons (.str) (.nil)
abbrev b9d:Type:=(Int×Bool×d6I)×Unit
abbrev d7r:Type:=(Bool×d6I)×Unit
def d7s:LX:=⟨[0,3,4],[],0,[3,4],[],⟨[(0,om0),(3,om2),(4,om5)],[],0,0⟩,⟨[(3,om2),(4,om5)],[],0,0⟩⟩
def b9e (f:b9d->Option (d7r)) (v:b9d):Option (d7r):=bif v.1.1 != 0 then bif decide (Int.tmod v.1.1 10<0) then let a:=wrap .i64 (0-Int.tmod v.1.1 10);bif e9w (a,()) then let b:=a7H (set (replicate 1 (zero (Ty.int IntKind.u8))) 0 (e9x (a,())).1);bif decide (ByteArray.size b+ByteArray.size v.1.2.2.1<=9223372036854775807) then f (((wrap .i64 (Int.tdiv v.1.1 10),v.1.2.1,b++v.1.2.2.1,()),()))else none else none else bif e9w (Int.tmod v.1.1 10,()) then let c:=a7H (set (replicate 1 (zero (Ty.int IntKind.u8))) 0 (e9x (Int.tmod v.1.1 10,())).1);bif decide (ByteArray.size c+ByteArray.size v.1.2.2.1<=9223372036854775807) then f (((wrap .i64 (Int.tdiv v.1.1 10),v.1.2.1,c++v.1.2.2.1,()),()))else none else none else some (v.1.2,())
def c6k (v:b9d):Nat:=v.1.1.natAbs+v.1.2.2.1.size+1000
def b3Z (v:b9d):=a0F b9e (c6k v) v
def c6l (v):=(b3Z v).isSome
def c6m (v):=(b3Z v).getD default
def f6C (x:Den g7c):OD g0u:=bif x.1==0 then some ({ data:=#[48] },())else let b:=((x.1,decide (x.1<0),{ data:=#[] },()),());bif c6l b then let a:=c6m b;bif a.1.1 then bif decide (ByteArray.size { data:=#[45] }+ByteArray.size a.1.2.1<=9223372036854775807) then some ({ data:=#[45] }++a.1.2.1,())else none else some a.1.2 else none
def b4a (x):=(f6C x).isSome
def a7t (x):=(f6C x).getD (zero g0u)
def g7d:=(130,a0b g7c g0u b4a a7t)
noncomputable def g0v:=gE [g7b] Tryz.f130 (lps:=[(5,lmX d7s b3Z)])
theorem d3u:EvX g0v (lp Tryz.f130 0) d7s b9e:=fun _ _=>by kernel_rfl
theorem c6n:a0d Tryz.prog g7d:=a0y (a0C (s1 e9y)) (a1q Tryz.func130 rfl rfl rfl (by kernel_rfl) (a0f (by kernel_rfl) (s1 (lX d3u c6k)))) fun _=>by kernel_rfl
abbrev A83:Ty:=.cons (.int .i64) (.nil)
abbrev R83:Ty:=.cons (.str) (.nil)
def F83 (x:Den A83):OD R83:=bif K51 (x.1,-1000000000,1000000000,()) then bif !(G51 (x.1,-1000000000,1000000000,())).1 then some ({ data:=#[] },())else bif decide (x.1<0) then let c:=wrap .i64 (0-x.1);let g:=wrap .i64 (1000+Int.tmod c 1000);bif b4a (g,()) then let h:=wrap .i64 (Int.tdiv c 1000);bif b4a (h,()) then let d:=a7t (h,());bif decide (ByteArray.size { data:=#[45] }+ByteArray.size d.1<=9223372036854775807) then let a:={ data:=#[45] }++d.1;bif decide (ByteArray.size a+ByteArray.size { data:=#[46] }<=9223372036854775807) then let b:=a7t (g,());bif decide (0<=1)&&decide (1<=(ByteArray.size b.1:Int))&&decide ((ByteArray.size b.1:Int)<=(ByteArray.size b.1:Int)) then let e:=a++{ data:=#[46] };bif decide (ByteArray.size e+ByteArray.size (ByteArray.extract b.1 (toNat 1) (toNat (ByteArray.size b.1:Int)))<=9223372036854775807) then some (e++ByteArray.extract b.1 (toNat 1) (toNat (ByteArray.size b.1:Int)),())else none else none else none else none else none else none else let c:=wrap .i64 (1000+Int.tmod x.1 1000);bif b4a (c,()) then let i:=wrap .i64 (Int.tdiv x.1 1000);bif b4a (i,()) then let j:=a7t (i,());bif decide (ByteArray.size { data:=#[] }+ByteArray.size j.1<=9223372036854775807) then let d:={ data:=#[] }++j.1;bif decide (ByteArray.size d+ByteArray.size { data:=#[46] }<=9223372036854775807) then let a:=a7t (c,());bif decide (0<=1)&&decide (1<=(ByteArray.size a.1:Int))&&decide ((ByteArray.size a.1:Int)<=(ByteArray.size a.1:Int)) then let b:=d++{ data:=#[46] };bif decide (ByteArray.size b+ByteArray.size (ByteArray.extract a.1 (toNat 1) (toNat (ByteArray.size a.1:Int)))<=9223372036854775807) then some (b++ByteArray.extract a.1 (toNat 1) (toNat (ByteArray.size a.1:Int)),())else none else none else none else none else none else none else none
def K83 (x):=(F83 x).isSome
def G83 (x):=(F83 x).getD (zero R83)
def m83:=(83,a0b A83 R83 K83 G83)
theorem e2Q:a0d Tryz.prog m83:=fnE (s2 a4E c6n) Tryz.func83
abbrev A53:Ty:=.cons (.slice (S97)) (.nil)
abbrev R53:Ty:=.cons (.bool) (.nil)
abbrev d3v:Type:=(d6F×ty6)×Unit
abbrev e9z:Type:=(d6F×Unit)×Unit
abbrev e9A:Type:=ty9
def e9B:LR:=⟨[0,3],[],0,[0],[],⟨[(0,e6Q),(3,om0)],[],0,0⟩,⟨[(0,e6Q)],[],0,0⟩,⟨a9h,[],0,0⟩⟩
def c6o (f:d3v->Option (e9z⊕e9A)) (v:d3v):Option (e9z⊕e9A):=let b:=(length v.1.1:Int);bif decide (v.1.2.1<b) then let c:=decide (0<=v.1.2.1)&&decide (v.1.2.1<b);bif c then let a:=getD v.1.1 (toNat v.1.2.1) (zero S97);bif K98 (a.1,()) then bif !(G98 (a.1,())).1 then some (Sum.inr ((false,()),()))else bif c then bif K51 (a.2.1,0,10000000,()) then bif !(G51 (a.2.1,0,10000000,())).1 then some (Sum.inr ((false,()),()))else bif decide (v.1.2.1>0) then bif c then let d:=wrap .i64 (v.1.2.1-1);bif decide (0<=d)&&decide (d<b) then bif decide (a.2.1<=(getD v.1.1 (toNat d) (zero S97)).2.1) then some (Sum.inr ((false,()),()))else f (((v.1.1,wrap .i64 (v.1.2.1+1),()),()))else none else none else f (((v.1.1,wrap .i64 (v.1.2.1+1),()),()))else none else none else none else none else some (Sum.inl ((v.1.1,()),()))
def e2R (v:d3v):Nat:=v.1.1.length+v.1.2.1.natAbs+1000
def c2F (v:d3v):=a0F c6o (e2R v) v
def d7t (v):=(c2F v).isSome
def d7u (v):=isR (c2F v)
def d7v (v):=xOf default (c2F v)
def d7w (v):=yOf default (c2F v)
def F53 (x:Den A53):OD R53:=bif d7t ((x.1,0,()),()) then bif d7u ((x.1,0,()),()) then some (d7w ((x.1,0,()),())).1 else some (decide ((↑(length (d7v ((x.1,0,()),())).1.1):Int)<=200),())else none
def K53 (x):=(F53 x).isSome
def G53 (x):=(F53 x).getD (zero R53)
def m53:=(53,a0b A53 R53 K53 G53)
noncomputable def h0K:=gE [m98,m51] Tryz.f53 (lps:=[(2,lmR e9B c2F)])
theorem e2S:EvR h0K (lp Tryz.f53 0) e9B c6o:=fun _ _=>by kernel_rfl
theorem g0w:a0d Tryz.prog m53:=a0y (a0C (s2 d3h a4E)) (a1q Tryz.func53 rfl rfl rfl (by kernel_rfl) (a0f (by kernel_rfl) (s1 (lR e2S e2R)))) fun _=>by kernel_rfl
abbrev g7e:Ty:=.cons (.cpx .f32) (.nil)
abbrev g0x:Ty:=.cons (.cpx .f64) (.nil)
def f6D (x:Den g7e):OD g0x:=some (((a0x .f32 .f64 x.1.1).2,(a0x .f32 .f64 x.1.2).2),())
def e9C (x):=(f6D x).isSome
def e9D (x):=(f6D x).getD (zero g0x)
def h0L:=(219,a0b g7e g0x e9C e9D)
theorem d7x:a0d Tryz.prog h0L:=fnE nS Tryz.func219
abbrev g7f:Ty:=.cons (.cpx .f64) (.cons (.cpx .f64) (.nil))
abbrev g0y:Ty:=.cons (.flt .f64) (.nil)
def e7g (x:Den g7f):OD g0y:=some (a0a .add .f64 (a0a .mul .f64 x.1.1 x.2.1.1) (a0a .mul .f64 x.1.2 x.2.1.2),())
def d3w (x):=(e7g x).isSome
def d1Y (x):=(e7g x).getD (zero g0y)
def g0z:=(256,a0b g7f g0y d3w d1Y)
theorem c6p:a0d Tryz.prog g0z:=fnE nS Tryz.func256
abbrev g7g:Ty:=.nil
abbrev g0A:Ty:=.cons (.cpx .f64) (.nil)
def f6E (x:Den g7g):OD g0A:=some ((4607181046959943561,4580687535080594718),())
def e9E (x):=(f6E x).isSome
def e9F (x):=(f6E x).getD (zero g0A)
def g0B:=(217,a0b g7g g0A e9E e9F)
theorem d7y:a0d Tryz.prog g0B:=fnE nS Tryz.func217
abbrev g7h:Ty:=.cons (.cpx .f64) (.cons (.cpx .f64) (.nil))
abbrev g0C:Ty:=.cons (.cpx .f64) (.nil)
def e9G (x:Den g7h):OD g0C:=some ((a0a .sub .f64 (a0a .mul .f64 x.1.1 x.2.1.1) (a0a .mul .f64 x.1.2 x.2.1.2),a0a .add .f64 (a0a .mul .f64 x.1.1 x.2.1.2) (a0a .mul .f64 x.1.2 x.2.1.1)),())
def e9H (x):=(e9G x).isSome
def e9I (x):=(e9G x).getD (zero g0C)
def g0D:=(216,a0b g7h g0C e9H e9I)
theorem d7z:a0d Tryz.prog g0D:=fnE nS Tryz.func216
abbrev g7i:Ty:=.cons (.cpx .f64) (.nil)
abbrev g0E:Ty:=.cons (.int .i64) (.nil)
abbrev b9f:Type:=(a4X×Int×a4X×d1W)×Unit
abbrev d7A:Type:=c5o
def d7B:LX:=⟨[0,3,4,5,6],[],0,[3],[],⟨[(0,om6),(3,om0),(4,om6),(5,d3c),(6,om0)],[],0,0⟩,⟨[(3,om0)],[],0,0⟩⟩
def b4b (f:b9f->Option (d7A)) (v:b9f):Option (d7A):=bif decide (v.1.2.2.2.2.1<360) then bif e9E () then let b:=e9F ();bif e9H (v.1.2.2.1,b) then let a:=e9I (v.1.2.2.1,b);bif d3w (v.1.1,a) then let c:=d1Y (v.1.1,a);bif fgt .f64 c.1 v.1.2.2.2.1 then f (((v.1.1,v.1.2.2.2.2.1,a.1,c.1,wrap .i64 (v.1.2.2.2.2.1+1),()),()))else f (((v.1.1,v.1.2.1,a.1,v.1.2.2.2.1,wrap .i64 (v.1.2.2.2.2.1+1),()),()))else none else none else none else some ((v.1.2.1,()),())
def b9g (v:b9f):Nat:=v.1.2.1.natAbs+v.1.2.2.2.2.1.natAbs+1000
def b9h (v:b9f):=a0F b4b (b9g v) v
def c6q (v):=(b9h v).isSome
def c6r (v):=(b9h v).getD default
def e9J (x:Den g7i):OD g0E:=bif K96 x then bif !(G96 x).1 then some (-1,())else bif feq .f64 x.1.1 0&&feq .f64 x.1.2 0 then some (-1,())else bif d3w (x.1,(4607182418800017408,0),()) then let a:=d1Y (x.1,(4607182418800017408,0),());bif c6q ((x.1,0,(4607182418800017408,0),a.1,1,()),()) then some (c6r ((x.1,0,(4607182418800017408,0),a.1,1,()),())).1 else none else none else none
def g0F (x):=(e9J x).isSome
def g0G (x):=(e9J x).getD (zero g0E)
def h0M:=(218,a0b g7i g0E g0F g0G)
noncomputable def g0H:=gE [m96,g0z,g0B,g0D] Tryz.f218 (lps:=[(7,lmX d7B b9h)])
theorem d3x:EvX g0H (lp Tryz.f218 0) d7B b4b:=fun _ _=>by kernel_rfl
theorem e9K:a0d Tryz.prog h0M:=a0y (a0C (s4 b6D c6p d7y d7z)) (a1q Tryz.func218 rfl rfl rfl (by kernel_rfl) (a0f (by kernel_rfl) (s1 (lX d3x b9g)))) fun _=>by kernel_rfl
abbrev g7j:Ty:=.cons (.cpx .f32) (.nil)
abbrev g0I:Ty:=.cons (.int .i64) (.nil)
def e9L (x:Den g7j):OD g0I:=bif K52 x then bif !(G52 x).1 then some (-1,())else bif feq .f32 x.1.1 0&&feq .f32 x.1.2 0 then some (-1,())else let a:=a3H .f32 x.1.1;let b:=a3H .f32 x.1.2;bif e9C ((a,b),()) then let c:=e9D ((a,b),());bif g0F c then some (g0G c)else none else none else none
def e7h (x):=(e9L x).isSome
def d3y (x):=(e9L x).getD (zero g0I)
def h0N:=(171,a0b g7j g0I e7h d3y)
theorem d7C:a0d Tryz.prog h0N:=fnE (s3 b2g d7x e9K) Tryz.func171
abbrev g7k:Ty:=.cons (.flt .f64) (.nil)
abbrev g0J:Ty:=.cons (.flt .f64) (.nil)
abbrev b9i:Type:=(Nat×d1W)×Unit
abbrev d7D:Type:=(Nat×Unit)×Unit
def d7E:LX:=⟨[0,3,4],[],0,[3],[],⟨[(0,d3c),(3,d3c),(4,om0)],[],0,0⟩,⟨[(3,d3c)],[],0,0⟩⟩
def b4c (f:b9i->Option (d7D)) (v:b9i):Option (d7D):=bif decide (v.1.2.2.1<60) then f (((v.1.1,a0a .quo .f64 (a0a .add .f64 v.1.2.1 (a0a .quo .f64 v.1.1 v.1.2.1)) 4611686018427387904,wrap .i64 (v.1.2.2.1+1),()),()))else some ((v.1.2.1,()),())
def b9j (v:b9i):Nat:=v.1.2.2.1.natAbs+1000
def b9k (v:b9i):=a0F b4c (b9j v) v
def b6E (v):=(b9k v).isSome
def b6F (v):=(b9k v).getD default
def e9M (x:Den g7k):OD g0J:=bif fgt .f64 x.1 4427486594234968593||feq .f64 x.1 4427486594234968593 then bif !(flt .f64 x.1 4861130398305394688||feq .f64 x.1 4861130398305394688) then some (0,())else bif flt .f64 x.1 4607182418800017408 then let a:=((x.1,4607182418800017408,0,()),());bif b6E a then some (b6F a).1 else none else bif b6E ((x.1,x.1,0,()),()) then some (b6F ((x.1,x.1,0,()),())).1 else none else some (0,())
def g0K (x):=(e9M x).isSome
def g0L (x):=(e9M x).getD (zero g0J)
def h0O:=(257,a0b g7k g0J g0K g0L)
noncomputable def g0M:=gE [] Tryz.f257 (lps:=[(7,lmX d7E b9k)])
theorem d3z:EvX g0M (lp Tryz.f257 0) d7E b4c:=fun _ _=>by kernel_rfl
theorem e9N:a0d Tryz.prog h0O:=a0y (a0C nS) (a1q Tryz.func257 rfl rfl rfl (by kernel_rfl) (a0f (by kernel_rfl) (s1 (lX d3z b9j)))) fun _=>by kernel_rfl
abbrev g7l:Ty:=.cons (.cpx .f64) (.nil)
abbrev g0N:Ty:=.cons (.flt .f64) (.nil)
def e9O (x:Den g7l):OD g0N:=bif K96 x then bif !(G96 x).1 then some (0,())else bif d3w (x.1,x) then let a:=d1Y (x.1,x);bif g0K a then some (g0L a)else none else none else none
def g0O (x):=(e9O x).isSome
def g0P (x):=(e9O x).getD (zero g0N)
def h0P:=(222,a0b g7l g0N g0O g0P)
theorem e9P:a0d Tryz.prog h0P:=fnE (s3 b6D c6p e9N) Tryz.func222
abbrev g7m:Ty:=.cons (.cpx .f32) (.nil)
abbrev g0Q:Ty:=.cons (.flt .f32) (.nil)
def e9Q (x:Den g7m):OD g0Q:=bif K52 x then bif !(G52 x).1 then some (0,())else bif e9C x then let a:=e9D x;bif g0O a then let b:=g0P a;bif (a0x .f64 .f32 b.1).1 then some ((a0x .f64 .f32 b.1).2,())else none else none else none else none
def e7i (x):=(e9Q x).isSome
def e2T (x):=(e9Q x).getD (zero g0Q)
def h0Q:=(173,a0b g7m g0Q e7i e2T)
theorem d7F:a0d Tryz.prog h0Q:=fnE (s3 b2g d7x e9P) Tryz.func173
abbrev g7n:Ty:=.cons (.int .i64) (.nil)
abbrev g0R:Ty:=.cons (.int .i64) (.nil)
def e2U (x:Den g7n):OD g0R:=some (Int.tmod (wrap .i64 (Int.tmod x.1 360+360)) 360,())
def e2V (x):=(e2U x).isSome
def e2W (x):=(e2U x).getD (zero g0R)
def g7o:=(215,a0b g7n g0R e2V e2W)
theorem d7G:a0d Tryz.prog g7o:=fnE nS Tryz.func215
abbrev g7p:Ty:=.cons (.int .i64) (.cons (.int .i64) (.nil))
abbrev g0S:Ty:=.cons (.int .i64) (.nil)
def e9R (x:Den g7p):OD g0S:=bif e2V x.2 then bif e2V (x.1,()) then let b:=wrap .i64 ((e2W x.2).1-(e2W (x.1,())).1);bif e2V (b,()) then let a:=e2W (b,());let c:=wrap .i64 (360-a.1);bif decide (a.1>c) then some (c,())else some a else none else none else none
def e7j (x):=(e9R x).isSome
def e2X (x):=(e9R x).getD (zero g0S)
def h0R:=(174,a0b g7p g0S e7j e2X)
theorem d7H:a0d Tryz.prog h0R:=fnE (s1 d7G) Tryz.func174
abbrev g7q:Ty:=.cons (.flt .f32) (.cons (.flt .f32) (.cons (.flt .f32) (.nil)))
abbrev g0T:Ty:=.cons (.flt .f32) (.nil)
def g0U (x:Den g7q):OD g0T:=some (a0a .add .f32 x.1 (a0a .mul .f32 (a0a .sub .f32 x.2.1 x.1) x.2.2.1),())
def e7k (x):=(g0U x).isSome
def e7l (x):=(g0U x).getD (zero g0T)
def g0V:=(221,a0b g7q g0T e7k e7l)
theorem c6s:a0d Tryz.prog g0V:=fnE nS Tryz.func221
abbrev g7r:Ty:=.cons (.slice (.int .i64)) (.cons (.slice (.flt .f32)) (.cons (.int .i64) (.nil)))
abbrev g0W:Ty:=.cons (.flt .f32) (.nil)
abbrev b9l:Type:=(ty4×b0d×a4h)×Unit
abbrev d7I:Type:=(ty4×b0d×a4h)×Unit
def d7J:LX:=⟨[0,1,2,7],[],0,[0,1,2,7],[],⟨[(0,e2y),(1,e2x),(2,om0),(7,om0)],[],0,0⟩,⟨[(0,e2y),(1,e2x),(2,om0),(7,om0)],[],0,0⟩⟩
def b4d (f:b9l->Option (d7I)) (v:b9l):Option (d7I):=bif decide (0<=v.1.2.2.2.1)&&decide (v.1.2.2.2.1<(length v.1.1:Int)) then bif decide ((getD v.1.1 (toNat v.1.2.2.2.1) (zero (Ty.int IntKind.i64)))<v.1.2.2.1) then f (((v.1.1,v.1.2.1,v.1.2.2.1,wrap .i64 (v.1.2.2.2.1+1),()),()))else some (v)else none
def b9m (v:b9l):Nat:=v.1.1.length+v.1.2.1.length+v.1.2.2.1.natAbs+v.1.2.2.2.1.natAbs+1000
def b9n (v:b9l):=a0F b4d (b9m v) v
def c6t (v):=(b9n v).isSome
def c6u (v):=(b9n v).getD default
def d7K (x:Den g7r):OD g0W:=bif c6t ((x.1,x.2.1,x.2.2.1,0,()),()) then let a:=c6u ((x.1,x.2.1,x.2.2.1,0,()),());bif decide (0<=a.1.2.2.2.1)&&decide (a.1.2.2.2.1<(length a.1.1:Int)) then let c:=getD a.1.1 (toNat a.1.2.2.2.1) (zero (Ty.int IntKind.i64));bif c==a.1.2.2.1 then bif decide (0<=a.1.2.2.2.1)&&decide (a.1.2.2.2.1<(length a.1.2.1:Int)) then some (getD a.1.2.1 (toNat a.1.2.2.2.1) (zero (Ty.flt .f32)),())else none else let b:=wrap .i64 (a.1.2.2.2.1-1);bif decide (0<=b)&&decide (b<(length a.1.1:Int)) then bif decide (0<=a.1.2.2.2.1)&&decide (a.1.2.2.2.1<(length a.1.1:Int)) then bif decide (0<=b)&&decide (b<(length a.1.1:Int)) then bif decide (0<=b)&&decide (b<(length a.1.2.1:Int)) then bif decide (0<=a.1.2.2.2.1)&&decide (a.1.2.2.2.1<(length a.1.2.1:Int)) then let d:=getD a.1.2.1 (toNat b) (zero (Ty.flt .f32));let e:=getD a.1.2.1 (toNat a.1.2.2.2.1) (zero (Ty.flt .f32));let g:=getD a.1.1 (toNat b) (zero (Ty.int IntKind.i64));let h:=a0a .quo .f32 (nearest .f32 (wrap .i64 (a.1.2.2.1-g))) (nearest .f32 (wrap .i64 (c-g)));bif e7k (d,e,h,()) then some (e7l (d,e,h,()))else none else none else none else none else none else none else none else none
def e7m (x):=(d7K x).isSome
def e7n (x):=(d7K x).getD (zero g0W)
def g7s:=(220,a0b g7r g0W e7m e7n)
noncomputable def g0X:=gE [g0V] Tryz.f220 (lps:=[(2,lmX d7J b9n)])
theorem d3A:EvX g0X (lp Tryz.f220 0) d7J b4d:=fun _ _=>by kernel_rfl
theorem e9S:a0d Tryz.prog g7s:=a0y (a0C (s1 c6s)) (a1q Tryz.func220 rfl rfl rfl (by kernel_rfl) (a0f (by kernel_rfl) (s1 (lX d3A b9m)))) fun _=>by kernel_rfl
abbrev g7t:Ty:=.cons (S27) (.cons (.flt .f32) (.cons (.int .i64) (.nil)))
abbrev g0Y:Ty:=.cons (.flt .f32) (.cons (.bool) (.nil))
abbrev b2h:Type:=f6f
abbrev c6v:Type:=f6f
def c6w:LX:=⟨[1,2,3,10],[],0,[1,2,3,10],[],⟨[(1,om9),(2,om0),(3,om1),(10,om0)],b5V,1,0⟩,⟨[(1,om9),(2,om0),(3,om1),(10,om0)],b5V,1,0⟩⟩
def a9k (f:b2h->Option (c6v)) (v:b2h):Option (c6v):=let a:=wrap .i64 (v.1.2.2.2.1+1);bif decide (0<=a)&&decide (a<(length v.2.1.1:Int)) then let b:=getD v.2.1.1 (toNat a) (zero (Ty.flt .f32));bif flt .f32 b v.1.1||feq .f32 b v.1.1 then f (((v.1.1,v.1.2.1,(),a,()),v.2))else some (v)else none
def b2i (v:b2h):Nat:=v.1.2.1.natAbs+v.1.2.2.2.1.natAbs+v.2.1.1.length+v.2.1.2.1.length+v.2.1.2.2.1.length+1000
def b2j (v:b2h):=a0F a9k (b2i v) v
def b9o (v):=(b2j v).isSome
def b9p (v):=(b2j v).getD default
def f6F (x:Den g7t):OD g0Y:=bif K99 (x.1,()) then bif !(G99 (x.1,())).1 then some (0,false,())else bif fgt .f32 x.2.1 0||feq .f32 x.2.1 0 then bif !(flt .f32 x.2.1 1120403456||feq .f32 x.2.1 1120403456) then some (0,false,())else bif K51 (x.2.2.1,0,180,()) then bif !(G51 (x.2.2.1,0,180,())).1 then some (0,false,())else bif decide (0<=0)&&decide (0<(length x.1.1:Int)) then let k:=getD x.1.1 (toNat 0) (zero (Ty.flt .f32));bif flt .f32 x.2.1 k||feq .f32 x.2.1 k then bif decide (0<=0)&&decide (0<(length x.1.1:Int)) then bif decide (0<=0)&&decide (0<(length x.1.2.2.1:Int)) then let b:=getD x.1.2.2.1 (toNat 0) (zero (Ty.slice (Ty.flt .f32)));bif e7m (x.1.2.1,b,x.2.2) then some (a0a .mul .f32 (a0a .quo .f32 x.2.1 k) (e7n (x.1.2.1,b,x.2.2)).1,true,())else none else none else none else let b:=wrap .i64 ((length x.1.1:Int)-1);bif decide (0<=b)&&decide (b<(length x.1.1:Int)) then let l:=getD x.1.1 (toNat b) (zero (Ty.flt .f32));bif fgt .f32 x.2.1 l||feq .f32 x.2.1 l then bif decide (0<=b)&&decide (b<(length x.1.2.2.1:Int)) then let m:=getD x.1.2.2.1 (toNat b) (zero (Ty.slice (Ty.flt .f32)));bif e7m (x.1.2.1,m,x.2.2) then some ((e7n (x.1.2.1,m,x.2.2)).1,true,())else none else none else bif b9o ((x.2.1,x.2.2.1,(),0,()),x.1,()) then let a:=b9p ((x.2.1,x.2.2.1,(),0,()),x.1,());bif decide (0<=a.1.2.2.2.1)&&decide (a.1.2.2.2.1<(length a.2.1.1:Int)) then let c:=wrap .i64 (a.1.2.2.2.1+1);bif decide (0<=c)&&decide (c<(length a.2.1.1:Int)) then bif decide (0<=a.1.2.2.2.1)&&decide (a.1.2.2.2.1<(length a.2.1.1:Int)) then bif decide (0<=a.1.2.2.2.1)&&decide (a.1.2.2.2.1<(length a.2.1.2.2.1:Int)) then let d:=getD a.2.1.2.2.1 (toNat a.1.2.2.2.1) (zero (Ty.slice (Ty.flt .f32)));bif e7m (a.2.1.2.1,d,a.1.2.1,()) then bif decide (0<=c)&&decide (c<(length a.2.1.2.2.1:Int)) then let e:=getD a.2.1.2.2.1 (toNat c) (zero (Ty.slice (Ty.flt .f32)));bif e7m (a.2.1.2.1,e,a.1.2.1,()) then let g:=e7n (a.2.1.2.1,d,a.1.2.1,());let h:=e7n (a.2.1.2.1,e,a.1.2.1,());let i:=getD a.2.1.1 (toNat a.1.2.2.2.1) (zero (Ty.flt .f32));let j:=a0a .quo .f32 (a0a .sub .f32 a.1.1 i) (a0a .sub .f32 (getD a.2.1.1 (toNat c) (zero (Ty.flt .f32))) i);bif e7k (g.1,h.1,j,()) then some ((e7l (g.1,h.1,j,())).1,true,())else none else none else none else none else none else none else none else none else none else none else none else none else some (0,false,())else none
def f6G (x):=(f6F x).isSome
def f6H (x):=(f6F x).getD (zero g0Y)
def h0S:=(172,a0b g7t g0Y f6G f6H)
noncomputable def g0Z:=gE [m99,m51,g7s,g0V] Tryz.f172 (lps:=[(10,lmX c6w b2j)])
theorem c6x:EvX g0Z (lp Tryz.f172 0) c6w a9k:=fun _ _=>by kernel_rfl
theorem e9T:a0d Tryz.prog h0S:=a0y (a0C (s4 e9j a4E e9S c6s)) (a1q Tryz.func172 rfl rfl rfl (by kernel_rfl) (a0f (by kernel_rfl) (s1 (lX c6x b2i)))) fun _=>by kernel_rfl
abbrev g7u:Ty:=.cons (S46) (.nil)
abbrev g1a:Ty:=.cons (.flt .f32) (.nil)
def f6I (x:Den g7u):OD g1a:=bif e7h (x.1.2.2.2.2.1,()) then let a:=d3y (x.1.2.2.2.2.1,());bif decide (a.1<0) then some (0,())else bif e7i (x.1.2.2.2.2.1,()) then bif e7j (x.1.2.2.2.1,a) then let b:=e2T (x.1.2.2.2.2.1,());let c:=e2X (x.1.2.2.2.1,a);bif f6G (x.1.1.1,b.1,c) then some ((f6H (x.1.1.1,b.1,c)).1,())else none else none else none else none
def e7o (x):=(f6I x).isSome
def d7L (x):=(f6I x).getD (zero g1a)
def h0T:=(105,a0b g7u g1a e7o d7L)
theorem d7M:a0d Tryz.prog h0T:=fnE (s4 d7C d7F d7H e9T) Tryz.func105
abbrev g7v:Ty:=.cons (.int .i64) (.nil)
abbrev g1b:Ty:=.cons (.cpx .f64) (.nil)
abbrev b9q:Type:=(a4X×ty6)×Unit
abbrev d7N:Type:=f6h
def d7O:LX:=⟨[3,4],[],0,[3],[],⟨[(3,om6),(4,om0)],[],0,0⟩,⟨[(3,om6)],[],0,0⟩⟩
def b4e (f:b9q->Option (d7N)) (v:b9q):Option (d7N):=bif decide (v.1.2.1>0) then bif e9E () then let a:=e9F ();bif e9H (v.1.1,a) then f ((((e9I (v.1.1,a)).1,wrap .i64 (v.1.2.1-1),()),()))else none else none else some ((v.1.1,()),())
def b9r (v:b9q):Nat:=v.1.2.1.natAbs+1000
def b9s (v:b9q):=a0F b4e (b9r v) v
def c6y (v):=(b9s v).isSome
def c6z (v):=(b9s v).getD default
def f6J (x:Den g7v):OD g1b:=bif e2V x then let b:=e2W x;let a:=(((4607182418800017408,0),b),());bif c6y a then some (c6z a).1 else none else none
def g1c (x):=(f6J x).isSome
def g1d (x):=(f6J x).getD (zero g1b)
def h0U:=(170,a0b g7v g1b g1c g1d)
noncomputable def g1e:=gE [g7o,g0B,g0D] Tryz.f170 (lps:=[(3,lmX d7O b9s)])
theorem d3B:EvX g1e (lp Tryz.f170 0) d7O b4e:=fun _ _=>by kernel_rfl
theorem e9U:a0d Tryz.prog h0U:=a0y (a0C (s3 d7G d7y d7z)) (a1q Tryz.func170 rfl rfl rfl (by kernel_rfl) (a0f (by kernel_rfl) (s1 (lX d3B b9r)))) fun _=>by kernel_rfl
abbrev g7w:Ty:=.cons (.int .i64) (.cons (.flt .f32) (.nil))
abbrev g1f:Ty:=.cons (.cpx .f32) (.cons (.bool) (.nil))
def e9V (x:Den g7w):OD g1f:=bif fgt .f32 x.2.1 0||feq .f32 x.2.1 0 then bif !(flt .f32 x.2.1 1112014848||feq .f32 x.2.1 1112014848) then some ((0,0),false,())else bif g1c (x.1,()) then let a:=g1d (x.1,());let b:=a0x .f64 .f32 a.1.1;bif b.1 then let c:=a0x .f64 .f32 a.1.2;bif c.1 then some ((a0a .mul .f32 b.2 x.2.1,a0a .mul .f32 c.2 x.2.1),true,())else none else none else none else some ((0,0),false,())
def e7p (x):=(e9V x).isSome
def e2Y (x):=(e9V x).getD (zero g1f)
def h0V:=(104,a0b g7w g1f e7p e2Y)
theorem d7P:a0d Tryz.prog h0V:=fnE (s1 e9U) Tryz.func104
abbrev g7x:Ty:=.cons (.cpx .f32) (.cons (.cpx .f32) (.nil))
abbrev g1g:Ty:=.cons (.cpx .f32) (.cons (.bool) (.nil))
def f6K (x:Den g7x):OD g1g:=bif K52 (x.1,()) then bif !(G52 (x.1,())).1 then some ((0,0),false,())else bif K52 x.2 then bif !(G52 x.2).1 then some ((0,0),false,())else some ((a0a .sub .f32 x.1.1 x.2.1.1,a0a .sub .f32 x.1.2 x.2.1.2),true,())else none else none
def g1h (x):=(f6K x).isSome
def g1i (x):=(f6K x).getD (zero g1g)
def h0W:=(175,a0b g7x g1g g1h g1i)
theorem e9W:a0d Tryz.prog h0W:=fnE (s1 b2g) Tryz.func175
abbrev g7y:Ty:=.cons (.cpx .f32) (.cons (.cpx .f32) (.cons (.int .i64) (.nil)))
abbrev g1j:Ty:=.cons (S63) (.cons (.bool) (.nil))
def f6L (x:Den g7y):OD g1j:=bif g1h (x.1,x.2.1,()) then let a:=g1i (x.1,x.2.1,());bif e7h (a.1,()) then bif !a.2.1 then some ((0,0,()),false,())else let b:=d3y (a.1,());bif decide (b.1<0) then some ((0,0,()),false,())else bif e7i (a.1,()) then bif e7j (x.2.2.1,b) then some (((e2T (a.1,())).1,e2X (x.2.2.1,b)),true,())else none else none else none else none
def f6M (x):=(f6L x).isSome
def f6N (x):=(f6L x).getD (zero g1j)
def h0X:=(106,a0b g7y g1j f6M f6N)
theorem e9X:a0d Tryz.prog h0X:=fnE (s4 e9W d7C d7F d7H) Tryz.func106
abbrev A54:Ty:=.cons (S46) (.nil)
abbrev R54:Ty:=.cons (S63) (.cons (.bool) (.nil))
def F54 (x:Den A54):OD R54:=bif e7o x then let a:=d7L x;bif e7p (x.1.2.2.2.1,a) then let c:=e2Y (x.1.2.2.2.1,a);let b:=(x.1.2.2.2.2.1,c.1,x.1.2.2.2.1,());bif f6M b then some (f6N b)else none else none else none
def K54 (x):=(F54 x).isSome
def G54 (x):=(F54 x).getD (zero R54)
def m54:=(54,a0b A54 R54 K54 G54)
theorem e2Z:a0d Tryz.prog m54:=fnE (s3 d7M d7P e9X) Tryz.func54
abbrev A55:Ty:=.cons (S68) (.cons (S63) (.nil))
abbrev R55:Ty:=.cons (.bool) (.nil)
def F55 (x:Den A55):OD R55:=let b:=a0a .sub .f32 x.1.2.1 1065353216;bif fgt .f32 x.2.1.1 b||feq .f32 x.2.1.1 b then let c:=a0a .add .f32 x.1.2.2.1 1065353216;bif !(flt .f32 x.2.1.1 c||feq .f32 x.2.1.1 c) then some (false,())else bif decide (x.2.1.2.1<x.1.2.2.2.1) then let a:=wrap .i64 (x.1.2.2.2.1-x.2.1.2.1);bif K51 (a,0,5,()) then bif !(G51 (a,0,5,())).1 then some (false,())else bif decide (x.2.1.2.1<=x.1.2.2.2.2.1) then some (true,())else let d:=wrap .i64 (x.2.1.2.1-x.1.2.2.2.2.1);bif K51 (d,0,5,()) then some (G51 (d,0,5,()))else none else none else bif decide (x.2.1.2.1<=x.1.2.2.2.2.1) then some (true,())else let a:=wrap .i64 (x.2.1.2.1-x.1.2.2.2.2.1);bif K51 (a,0,5,()) then some (G51 (a,0,5,()))else none else some (false,())
def K55 (x):=(F55 x).isSome
def G55 (x):=(F55 x).getD (zero R55)
def m55:=(55,a0b A55 R55 K55 G55)
theorem e9Y:a0d Tryz.prog m55:=fnE (s1 a4E) Tryz.func55
abbrev A18:Ty:=.cons (S46) (.nil)
abbrev R18:Ty:=.cons (.bool) (.nil)
def F18 (x:Den A18):OD R18:=bif K49 (x.1.2.2.1,()) then bif K50 (x.1.1,()) then bif !(G50 (x.1.1,())).1 then some (false,())else bif K51 (x.1.2.1,0,10000000,()) then bif !(G51 (x.1.2.1,0,10000000,())).1 then some (false,())else bif !(G49 (x.1.2.2.1,())).2.1 then some (false,())else bif K51 (x.1.2.2.2.1,0,359,()) then bif !(G51 (x.1.2.2.2.1,0,359,())).1 then some (false,())else bif K52 (x.1.2.2.2.2.1,()) then bif !(G52 (x.1.2.2.2.2.1,())).1 then some (false,())else let g:=(length x.1.1.2.2.1:Int);let h:=wrap .i64 (g-1);let j:=(x.1.2.2.2.2.2.1,-1,h,());bif K51 j then bif !(G51 j).1 then some (false,())else bif K53 (x.1.2.2.2.2.2.2.1,()) then bif !(G53 (x.1.2.2.2.2.2.2.1,())).1 then some (false,())else let i:=(length x.1.2.2.2.2.2.2.1:Int);bif decide (i>0) then let a:=wrap .i64 (i-1);bif decide (0<=a)&&decide (a<i) then bif decide ((getD x.1.2.2.2.2.2.2.1 (toNat a) (zero S97)).2.1>x.1.2.1) then some (false,())else bif decide ((length x.1.2.2.2.2.2.2.2.1:Int)>300) then some (false,())else bif decide (x.1.2.2.2.2.2.1 ≥ 0) then bif K54 x then let b:=G54 x;bif b.2.1 then bif decide (0<=x.1.2.2.2.2.2.1)&&decide (x.1.2.2.2.2.2.1<g) then let d:=getD x.1.1.2.2.1 (toNat x.1.2.2.2.2.2.1) (zero S68);bif K55 (d,b.1,()) then some (G55 (d,b.1,()))else none else none else some (false,())else none else some (true,())else none else bif decide ((length x.1.2.2.2.2.2.2.2.1:Int)>300) then some (false,())else bif decide (x.1.2.2.2.2.2.1 ≥ 0) then bif K54 x then let c:=G54 x;bif c.2.1 then bif decide (0<=x.1.2.2.2.2.2.1)&&decide (x.1.2.2.2.2.2.1<g) then let e:=getD x.1.1.2.2.1 (toNat x.1.2.2.2.2.2.1) (zero S68);bif K55 (e,c.1,()) then some (G55 (e,c.1,()))else none else none else some (false,())else none else some (true,())else none else none else none else none else none else none else none
def K18 (x):=(F18 x).isSome
def G18 (x):=(F18 x).getD (zero R18)
def m18:=(18,a0b A18 R18 K18 G18)
theorem g1k:a0d Tryz.prog m18:=fnE (s7 d3i e9t a4E b2g g0w e2Z e9Y) Tryz.func18
abbrev I30:Sg:=⟨[.val (.slice (.int .u8))],[]⟩
abbrev O30:Sg:=⟨[.ptr 0],[.box (a2L)]⟩
abbrev d3C:Type:=ty3×Unit
abbrev e9Z:Type:=(List (Den (.int .u8))×ty6)×Unit
def f0a:LX:=⟨[0,3,4],[],0,[0,3],[],⟨[(0,.one (.sl (.int .u8))),(3,om0),(4,om0)],[],0,0⟩,⟨[(0,.one (.sl (.int .u8))),(3,om0)],[],0,0⟩⟩
def d3D (f:d3C->Option (e9Z)) (v:d3C):Option (e9Z):=bif decide (v.1.2.2.1<(length v.1.1:Int)) then bif decide (v.1.2.2.1<4000) then bif decide (0<=v.1.2.2.1)&&decide (v.1.2.2.1<(length v.1.1:Int)) then f (((v.1.1,a2c BinOp.and IntKind.i64 (wrap .i64 ((wrap .i64 ((wrap .i64 (v.1.2.1*131))+(wrap .i64 (getD v.1.1 (toNat v.1.2.2.1) (zero (Ty.int IntKind.u8))))))+7)) 1073741823,wrap .i64 (v.1.2.2.1+1),()),()))else none else some ((v.1.1,v.1.2.1,()),())else some ((v.1.1,v.1.2.1,()),())
def e3a (v:d3C):Nat:=v.1.1.length+v.1.2.1.natAbs+v.1.2.2.1.natAbs+1000
def d3E (v:d3C):=a0F d3D (e3a v) v
def d7Q (v):=(d3E v).isSome
def d7R (v):=(d3E v).getD default
def F30 (x:I30.den):Option (O30.den):=let a:=wrap .i64 (33211+(length x.1.1:Int));bif d7Q ((x.1.1,a,0,()),()) then let b:=d7R ((x.1.1,a,0,()),());some (((),()),(b.1.1,0,b.1.2),())else none
def K30 (x):=(F30 x).isSome
def G30 (x):=(F30 x).getD (a1b O30)
def m30:=(30,a0H false I30 O30 K30 G30)
noncomputable def h0Y:=gE [] Tryz.f30 (lps:=[(3,lmX f0a d3E)])
theorem e3b:EvX h0Y (lp Tryz.f30 0) f0a d3D:=fun _ _=>by kernel_rfl
theorem f0b:a0d Tryz.prog m30:=a4P (a0C nS) (a1q Tryz.func30 rfl rfl rfl (by kernel_rfl) (a0f (by kernel_rfl) (s1 (lX e3b e3a)))) false fun _=>by kernel_rfl
abbrev I82:Sg:=⟨[.ptr 0],[.box (a2L)]⟩
abbrev O82:Sg:=⟨[.val (.int .i64)],[.box (a2L)]⟩
def F82 (x:I82.den):Option (O82.den):=bif decide (x.2.1.2.1<(length x.2.1.1:Int)) then bif decide (0<=x.2.1.2.1)&&decide (x.2.1.2.1<(length x.2.1.1:Int)) then let a:=wrap .i64 ((wrap .i64 (x.2.1.2.2.1*6364136223846793005))+1442695040888963407);some ((a2c BinOp.and IntKind.i64 (wrap .i64 (a2c BinOp.and IntKind.i64 (a2c BinOp.xor IntKind.i64 (Int.fdiv a (2^min (toNat 33) (IntKind.bits IntKind.i64))) (Int.fdiv a (2^min (toNat 45) (IntKind.bits IntKind.i64)))) 255+(wrap .i64 (getD x.2.1.1 (toNat x.2.1.2.1) (zero (Ty.int IntKind.u8)))))) 255,()),(x.2.1.1,wrap .i64 (x.2.1.2.1+1),a,()),())else none else let a:=wrap .i64 ((wrap .i64 (x.2.1.2.2.1*6364136223846793005))+1442695040888963407);some ((a2c BinOp.and IntKind.i64 (a2c BinOp.xor IntKind.i64 (Int.fdiv a (2^min (toNat 33) (IntKind.bits IntKind.i64))) (Int.fdiv a (2^min (toNat 45) (IntKind.bits IntKind.i64)))) 255,()),(x.2.1.1,x.2.1.2.1,a,()),())
def K82 (x):=(F82 x).isSome
def G82 (x):=(F82 x).getD (a1b O82)
def m82:=(82,a0H true I82 O82 K82 G82)
theorem f0c:a0d Tryz.prog m82:=sgE true nS Tryz.func82
abbrev I34:Sg:=⟨[.ptr 0,.val (.int .i64)],[.box (a2L)]⟩
abbrev O34:Sg:=⟨[.val (.int .i64)],[.box (a2L)]⟩
def F34 (x:I34.den):Option (O34.den):=bif decide (x.1.2.1<=0) then some ((0,()),x.2)else bif decide (x.1.2.1<=256) then bif K82 (((),()),x.2) then bif x.1.2.1 != 0 then let a:=G82 (((),()),x.2);some ((Int.tmod a.1.1 x.1.2.1,()),a.2)else none else none else bif K82 (((),()),x.2) then let a:=G82 (((),()),x.2);bif K82 (((),()),a.2) then let c:=G82 (((),()),a.2);bif K82 (((),()),c.2) then let d:=G82 (((),()),c.2);bif K82 (((),()),d.2) then bif x.1.2.1 != 0 then let b:=G82 (((),()),d.2);some ((Int.tmod (wrap .i64 ((wrap .i64 ((wrap .i64 ((wrap .i64 (a.1.1*16777216))+(wrap .i64 (c.1.1*65536))))+(wrap .i64 (d.1.1*256))))+b.1.1)) x.1.2.1,()),b.2)else none else none else none else none else none
def K34 (x):=(F34 x).isSome
def G34 (x):=(F34 x).getD (a1b O34)
def m34:=(34,a0H true I34 O34 K34 G34)
theorem a4F:a0d Tryz.prog m34:=sgE true (s1 f0c) Tryz.func34
abbrev I77:Sg:=⟨[.ptr 0,.val (.int .i64)],[.box (a2L)]⟩
abbrev O77:Sg:=⟨[.val (.bool)],[.box (a2L)]⟩
def F77 (x:I77.den):Option (O77.den):=bif K34 (((),x.1.2),x.2) then let a:=G34 (((),x.1.2),x.2);some ((a.1.1==0,()),a.2)else none
def K77 (x):=(F77 x).isSome
def G77 (x):=(F77 x).getD (a1b O77)
def m77:=(77,a0H true I77 O77 K77 G77)
theorem b0e:a0d Tryz.prog m77:=sgE true (s1 a4F) Tryz.func77
abbrev f0d:Sg:=⟨[.ptr 0,.own (.str) 1],[.box (a2L),.arr (.str)]⟩
abbrev g1l:Sg:=⟨[.val (.str)],[.box (a2L),.arr (.str)]⟩
def f6O (x:f0d.den):Option (g1l.den):=bif K34 (((),(length x.2.2.1:Int),()),x.2.1,()) then let a:=G34 (((),(length x.2.2.1:Int),()),x.2.1,());bif decide (0<=a.1.1)&&decide (a.1.1<(length x.2.2.1:Int)) then some ((getD x.2.2.1 (toNat a.1.1) (zero Ty.str),()),a.2.1,x.2.2)else none else none
def f0e (x):=(f6O x).isSome
def e3c (x):=(f6O x).getD (a1b g1l)
def g7z:=(131,a0H true f0d g1l f0e e3c)
theorem d7S:a0d Tryz.prog g7z:=sgE true (s1 a4F) Tryz.func131
abbrev I73:Sg:=⟨[.ptr 0],[.box (a2L)]⟩
abbrev O73:Sg:=⟨[.val (S27)],[.box (a2L)]⟩
abbrev b4f:Type:=(Unit×Unit×Unit×Nat×Int×b2d)×ty3×a7N×a7N×b0d×ty4×c5k×b0d×Unit
abbrev d7T:Type:=(Unit×Unit×Unit×Nat×Int×a4r)×ty3×a7N×a7N×b0d×ty4×c5k×b0d×Unit
def d7U:LX:=⟨[0,2,3,6,7,8,9],[],4,[0,2,3,6,7,8],[],⟨li5,li0,7,1⟩,⟨[(0,om1),(2,om3),(3,om4),(6,om9),(7,om0),(8,on1)],li0,7,1⟩⟩
def b9t (f:b4f->Option (d7T)) (v:b4f):Option (d7T):=bif decide (v.1.2.2.2.2.2.2.1<(length v.2.2.2.2.2.1:Int)) then bif K34 (((),57,()),v.2.1,()) then bif v.1.2.2.2.2.2.2.1==0 then let a:=G34 (((),57,()),v.2.1,());bif K77 (((),8,()),a.2) then let b:=G77 (((),8,()),a.2);bif !b.1.1 then bif fgt .f32 v.1.2.2.2.1 1084227584 then bif K34 (((),40,()),b.2) then let c:=G34 (((),40,()),b.2);let d:=set (replicate 1 (zero (Ty.flt .f32))) 0 (a0a .add .f32 0 (a0a .quo .f32 (nearest .f32 c.1.1) 1098907648));bif a0k (length v.2.2.2.2.2.2.2.1+length d) then f ((((),(),(),v.1.2.2.2.1,v.1.2.2.2.2.1,(),wrap .i64 (v.1.2.2.2.2.2.2.1+1),()),c.2.1,((),(),(),()),((),(),(),()),v.2.2.2.2.1,v.2.2.2.2.2.1,v.2.2.2.2.2.2.1,v.2.2.2.2.2.2.2.1++d,()))else none else none else let e:=set (replicate 1 (zero (Ty.flt .f32))) 0 0;bif a0k (length v.2.2.2.2.2.2.2.1+length e) then f ((((),(),(),v.1.2.2.2.1,v.1.2.2.2.2.1,(),wrap .i64 (v.1.2.2.2.2.2.2.1+1),()),b.2.1,((),(),(),()),((),(),(),()),v.2.2.2.2.1,v.2.2.2.2.2.1,v.2.2.2.2.2.2.1,v.2.2.2.2.2.2.2.1++e,()))else none else bif fgt .f32 v.1.2.2.2.1 1084227584 then bif K34 (((),40,()),b.2) then let h:=G34 (((),40,()),b.2);let g:=set (replicate 1 (zero (Ty.flt .f32))) 0 (a0a .add .f32 (a0a .quo .f32 (nearest .f32 (wrap .i64 (8+a.1.1))) 1098907648) (a0a .quo .f32 (nearest .f32 h.1.1) 1098907648));bif a0k (length v.2.2.2.2.2.2.2.1+length g) then f ((((),(),(),v.1.2.2.2.1,v.1.2.2.2.2.1,(),wrap .i64 (v.1.2.2.2.2.2.2.1+1),()),h.2.1,((),(),(),()),((),(),(),()),v.2.2.2.2.1,v.2.2.2.2.2.1,v.2.2.2.2.2.2.1,v.2.2.2.2.2.2.2.1++g,()))else none else none else let i:=set (replicate 1 (zero (Ty.flt .f32))) 0 (a0a .quo .f32 (nearest .f32 (wrap .i64 (8+a.1.1))) 1098907648);bif a0k (length v.2.2.2.2.2.2.2.1+length i) then f ((((),(),(),v.1.2.2.2.1,v.1.2.2.2.2.1,(),wrap .i64 (v.1.2.2.2.2.2.2.1+1),()),b.2.1,((),(),(),()),((),(),(),()),v.2.2.2.2.1,v.2.2.2.2.2.1,v.2.2.2.2.2.2.1,v.2.2.2.2.2.2.2.1++i,()))else none else none else bif fgt .f32 v.1.2.2.2.1 1084227584 then let a:=G34 (((),57,()),v.2.1,());bif K34 (((),40,()),a.2) then let c:=G34 (((),40,()),a.2);let d:=set (replicate 1 (zero (Ty.flt .f32))) 0 (a0a .add .f32 (a0a .quo .f32 (nearest .f32 (wrap .i64 (8+a.1.1))) 1098907648) (a0a .quo .f32 (nearest .f32 c.1.1) 1098907648));bif a0k (length v.2.2.2.2.2.2.2.1+length d) then f ((((),(),(),v.1.2.2.2.1,v.1.2.2.2.2.1,(),wrap .i64 (v.1.2.2.2.2.2.2.1+1),()),c.2.1,((),(),(),()),((),(),(),()),v.2.2.2.2.1,v.2.2.2.2.2.1,v.2.2.2.2.2.2.1,v.2.2.2.2.2.2.2.1++d,()))else none else none else let a:=G34 (((),57,()),v.2.1,());let e:=set (replicate 1 (zero (Ty.flt .f32))) 0 (a0a .quo .f32 (nearest .f32 (wrap .i64 (8+a.1.1))) 1098907648);bif a0k (length v.2.2.2.2.2.2.2.1+length e) then f ((((),(),(),v.1.2.2.2.1,v.1.2.2.2.2.1,(),wrap .i64 (v.1.2.2.2.2.2.2.1+1),()),a.2.1,((),(),(),()),((),(),(),()),v.2.2.2.2.1,v.2.2.2.2.2.1,v.2.2.2.2.2.2.1,v.2.2.2.2.2.2.2.1++e,()))else none else none else some (((),(),(),v.1.2.2.2.1,v.1.2.2.2.2.1,(),()),v.2.1,((),(),(),()),((),(),(),()),v.2.2.2.2)
def c6A (v:b4f):Nat:=v.1.2.2.2.2.1.natAbs+v.1.2.2.2.2.2.2.1.natAbs+v.2.1.1.length+v.2.1.2.1.natAbs+v.2.1.2.2.1.natAbs+v.2.2.2.2.1.length+v.2.2.2.2.2.1.length+v.2.2.2.2.2.2.1.length+v.2.2.2.2.2.2.2.1.length+1000
def b4g (v:b4f):=a0F b9t (c6A v) v
def e3d (v):=(b4g v).isSome
def a5i (v):=(b4g v).getD default
abbrev b4h:Type:=(Unit×Unit×Unit×d1W)×ty3×a7N×a7N×ty1
abbrev d7V:Type:=ty5×ty3×a7N×a7N×ty1
def d7W:LX:=⟨[0,2,3,6,7],[.boxNil 3 0,.boxNil 3 2],2,[2,3],[],⟨[(0,om1),(2,om3),(3,om4),(6,om9),(7,om0)],li2,6,1⟩,⟨li8,li2,6,1⟩⟩
def b9u (f:b4h->Option (d7V)) (v:b4h):Option (d7V):=bif decide (v.1.2.2.2.2.1>0) then let b:=zero (Ty.flt .f32);let c:=set (replicate 1 b) 0 v.1.2.2.2.1;bif a0k (length v.2.2.2.2.1+length c) then let h:=v.2.2.2.2.1++c;let d:=(((),(),(),v.1.2.2.2.1,v.1.2.2.2.2.1,(),0,()),v.2.1,((),(),(),()),((),(),(),()),h,v.2.2.2.2.2.1,v.2.2.2.2.2.2.1,replicate 0 b,());bif e3d d then let a:=a5i d;let e:=set (replicate 1 (zero (Ty.slice (Ty.flt .f32)))) 0 a.2.2.2.2.2.2.2.1;bif a0k (length a.2.2.2.2.2.2.1+length e) then bif K34 (((),40,()),a.2.1,()) then let g:=G34 (((),40,()),a.2.1,());f ((((),(),(),a0a .add .f32 a.1.2.2.2.1 (a0a .quo .f32 (nearest .f32 (wrap .i64 (1+g.1.1))) 1090519040),wrap .i64 (a.1.2.2.2.2.1-1),()),g.2.1,((),(),(),()),((),(),(),()),a.2.2.2.2.1,a.2.2.2.2.2.1,a.2.2.2.2.2.2.1++e,()))else none else none else none else none else some (((),(),()),v.2.1,((),(),(),()),((),(),(),()),v.2.2.2.2)
def c6B (v:b4h):Nat:=v.1.2.2.2.2.1.natAbs+v.2.1.1.length+v.2.1.2.1.natAbs+v.2.1.2.2.1.natAbs+v.2.2.2.2.1.length+v.2.2.2.2.2.1.length+v.2.2.2.2.2.2.1.length+1000
def b4i (v:b4h):=a0F b9u (c6B v) v
def b6G (v):=(b4i v).isSome
def a5j (v):=(b4i v).getD default
abbrev c6C:Type:=d6H×f6e
abbrev f0f:Type:=a7N×f6e
def f0g:LX:=⟨[0,2,3,5],[],0,[0,2,3],[],⟨[(0,om1),(2,om3),(3,om4),(5,om0)],[(0,bx0),(1,bx6),(2,g6K),(3,.arr (.int .i64))],4,1⟩,⟨li7,[(0,bx0),(1,bx6),(2,g6K),(3,.arr (.int .i64))],4,1⟩⟩
def d3F (f:c6C->Option (f0f)) (v:c6C):Option (f0f):=bif decide (v.1.2.2.2.1>0) then bif decide (v.1.2.2.2.1<180) then bif decide ((length v.2.2.2.2.1:Int)<20) then let a:=set (replicate 1 (zero (Ty.int IntKind.i64))) 0 v.1.2.2.2.1;bif a0k (length v.2.2.2.2.1+length a) then bif K34 (((),50,()),v.2.1,()) then let b:=G34 (((),50,()),v.2.1,());f ((((),(),(),wrap .i64 ((wrap .i64 (v.1.2.2.2.1+5))+b.1.1),()),b.2.1,((),(),(),()),((),(),(),()),v.2.2.2.2.1++a,()))else none else none else some (((),(),(),()),v.2.1,((),(),(),()),((),(),(),()),v.2.2.2.2)else some (((),(),(),()),v.2.1,((),(),(),()),((),(),(),()),v.2.2.2.2)else some (((),(),(),()),v.2.1,((),(),(),()),((),(),(),()),v.2.2.2.2)
def e3e (v:c6C):Nat:=v.1.2.2.2.1.natAbs+v.2.1.1.length+v.2.1.2.1.natAbs+v.2.1.2.2.1.natAbs+v.2.2.2.2.1.length+1000
def c6D (v:c6C):=a0F d3F (e3e v) v
def c6E (v):=(c6D v).isSome
def a9l (v):=(c6D v).getD default
def F73 (x:I73.den):Option (O73.den):=bif K34 (((),25,()),x.2) then let j:=G34 (((),25,()),x.2);bif K77 (((),6,()),j.2) then let k:=G77 (((),6,()),j.2);bif k.1.1 then let p:=replicate 1 (zero (Ty.int IntKind.i64));let l:=set p 0 0;let q:=(((),(),(),0,()),k.2.1,((),(),(),()),((),(),(),()),l,());bif c6E q then let i:=a9l q;let c:=set p 0 180;bif a0k (length i.2.2.2.2.1+length c) then bif K34 (((),4,()),i.2.1,()) then let m:=G34 (((),4,()),i.2.1,());bif K34 (((),4,()),m.2) then let n:=wrap .i64 (1+m.1.1);let a:=G34 (((),4,()),m.2);let b:=wrap .i64 (1+a.1.1);let d:=i.2.2.2.2.1++c;let r:=(((),(),(),nearest .f32 n,b,()),a.2.1,((),(),(),()),((),(),(),()),[],d,[],());bif b6G r then let g:=a5j r;some ((g.2.2.2.2,()),g.2.1,())else none else none else none else none else none else let l:=wrap .i64 (20+j.1.1);let s:=replicate 1 (zero (Ty.int IntKind.i64));let y:=set s 0 0;let t:=(((),(),(),l,()),k.2.1,((),(),(),()),((),(),(),()),y,());bif c6E t then let c:=a9l t;let u:=set s 0 180;bif a0k (length c.2.2.2.2.1+length u) then bif K34 (((),4,()),c.2.1,()) then let e:=G34 (((),4,()),c.2.1,());bif K34 (((),4,()),e.2) then let a:=wrap .i64 (1+e.1.1);let b:=G34 (((),4,()),e.2);let d:=wrap .i64 (1+b.1.1);let o:=c.2.2.2.2.1++u;let w:=(((),(),(),nearest .f32 a,d,()),b.2.1,((),(),(),()),((),(),(),()),[],o,[],());bif b6G w then let h:=a5j w;some ((h.2.2.2.2,()),h.2.1,())else none else none else none else none else none else none else none
def K73 (x):=(F73 x).isSome
def G73 (x):=(F73 x).getD (a1b O73)
def m73:=(73,a0H true I73 O73 K73 G73)
noncomputable def g1m:=gE [m34,m77] Tryz.f73 (lps:=[(6,lmX f0g c6D),(12,lmX d7W b4i),(17,lmX d7U b4g)]) (rown:=[.frzBox 2])
theorem e3f:EvX g1m (lp Tryz.f73 0) f0g d3F:=fun _ _=>by kernel_rfl
theorem d3G:EvX g1m (lp Tryz.f73 1) d7W b9u:=fun _ _=>by kernel_rfl
theorem d3H:EvX g1m (lp Tryz.f73 2) d7U b9t:=fun _ _=>by kernel_rfl
theorem g1n:a0d Tryz.prog m73:=a4P (a0C (s2 a4F b0e)) (a1q Tryz.func73 rfl rfl rfl (by kernel_rfl) (a0f (by kernel_rfl) (s3 (lX e3f e3e) (lX d3G c6B) (lX d3H c6A)))) true fun _=>by kernel_rfl
abbrev I74:Sg:=⟨[.ptr 0],[.box (a2L)]⟩
abbrev O74:Sg:=⟨[.mix [.ref (a1r) 1,.ref (.int .i64) 2]],[.box (a2L),.arr (a1r),.arr (.int .i64)]⟩
abbrev b4j:Type:=(Unit×Unit×Unit×a4h)×f6i
abbrev d7X:Type:=ty5×f6i
def d7Y:LX:=⟨[0,2,3,9,10],[.boxNil 3 1],4,[2,3],[],⟨[(0,om1),(2,om3),(3,om4),(9,om0),(10,om0)],li4,5,1⟩,⟨li8,li4,5,1⟩⟩
def b9v (f:b4j->Option (d7X)) (v:b4j):Option (d7X):=bif decide (v.1.2.2.2.2.1>0) then let b:=set (replicate 1 (zero (Ty.int IntKind.i64))) 0 v.1.2.2.2.1;bif a0k (length v.2.2.2.2.2.1+length b) then bif K34 (((),3,()),v.2.1,()) then let a:=G34 (((),3,()),v.2.1,());bif K34 (((),20000,()),a.2) then let c:=G34 (((),20000,()),a.2);f ((((),(),(),wrap .i64 ((wrap .i64 (v.1.2.2.2.1+21600))+(wrap .i64 (a.1.1*c.1.1))),wrap .i64 (v.1.2.2.2.2.1-1),()),c.2.1,((),(),()),((),(),()),v.2.2.2.2.1,v.2.2.2.2.2.1++b,()))else none else none else none else some (((),(),()),v.2.1,((),(),()),((),(),()),v.2.2.2.2)
def c6F (v:b4j):Nat:=v.1.2.2.2.1.natAbs+v.1.2.2.2.2.1.natAbs+v.2.1.1.length+v.2.1.2.1.natAbs+v.2.1.2.2.1.natAbs+v.2.2.2.2.1.length+v.2.2.2.2.2.1.length+1000
def b9w (v:b4j):=a0F b9v (c6F v) v
def b6H (v):=(b9w v).isSome
def b6I (v):=(b9w v).getD default
abbrev c6G:Type:=(Unit×Unit×Unit×Int×b2d)×ty3×ty5×ty5×c5l×f9t
abbrev f0h:Type:=(Unit×Unit×Unit×Int×a4r)×ty3×ty5×ty5×c5l×f9t
def f0i:LX:=⟨[0,2,3,4,6,7],[],2,[0,2,3,4,6],[],⟨[(0,om1),(2,om3),(3,om4),(4,om0),(6,.one (.ptr 4 0)),(7,om0)],[(0,bx0),(1,bx8),(2,f6j),(3,.arr (a1r)),(4,f9v)],5,1⟩,⟨[(0,om1),(2,om3),(3,om4),(4,om0),(6,.one (.ptr 4 0))],[(0,bx0),(1,bx8),(2,f6j),(3,.arr (a1r)),(4,f9v)],5,1⟩⟩
def d3I (f:c6G->Option (f0h)) (v:c6G):Option (f0h):=bif decide (v.1.2.2.2.2.2.1<13) then bif K34 (((),33,()),v.2.1,()) then let d:=G34 (((),33,()),v.2.1,());bif K34 (((),33,()),d.2) then bif decide (0<=v.1.2.2.2.2.2.1)&&decide (v.1.2.2.2.2.2.1<(↑13:Int)) then let e:=G34 (((),33,()),d.2);let b:=a0a .quo .f32 (nearest .f32 (wrap .i64 (d.1.1-16))) 1098907648;let c:=a0a .quo .f32 (nearest .f32 (wrap .i64 (e.1.1-16))) 1098907648;let a:=toNat v.1.2.2.2.2.2.1;let g:=0+1+1+1+1+1+1+1+1+1+1+1+1;let h:=0+1+1+1+1+1+1+1+1+1+1+1;let i:=0+1+1+1+1+1+1+1+1+1+1;let j:=0+1+1+1+1+1+1+1+1+1;let k:=0+1+1+1+1+1+1+1+1;let l:=0+1+1+1+1+1+1+1;let m:=0+1+1+1+1+1+1;f ((((),(),(),v.1.2.2.2.1,(),wrap .i64 (v.1.2.2.2.2.2.1+1),()),e.2.1,((),(),()),((),(),()),v.2.2.2.2.1,(v.2.2.2.2.2.1.1,(bif beq 0 a then b else v.2.2.2.2.2.1.2.1.1,bif beq 0 a then c else v.2.2.2.2.2.1.2.1.2),(bif beq (0+1) a then b else v.2.2.2.2.2.1.2.2.1.1,bif beq (0+1) a then c else v.2.2.2.2.2.1.2.2.1.2),(bif beq (0+1+1) a then b else v.2.2.2.2.2.1.2.2.2.1.1,bif beq (0+1+1) a then c else v.2.2.2.2.2.1.2.2.2.1.2),(bif beq (0+1+1+1) a then b else v.2.2.2.2.2.1.2.2.2.2.1.1,bif beq (0+1+1+1) a then c else v.2.2.2.2.2.1.2.2.2.2.1.2),(bif beq (0+1+1+1+1) a then b else v.2.2.2.2.2.1.2.2.2.2.2.1.1,bif beq (0+1+1+1+1) a then c else v.2.2.2.2.2.1.2.2.2.2.2.1.2),(bif beq (0+1+1+1+1+1) a then b else v.2.2.2.2.2.1.2.2.2.2.2.2.1.1,bif beq (0+1+1+1+1+1) a then c else v.2.2.2.2.2.1.2.2.2.2.2.2.1.2),(bif beq m a then b else v.2.2.2.2.2.1.2.2.2.2.2.2.2.1.1,bif beq m a then c else v.2.2.2.2.2.1.2.2.2.2.2.2.2.1.2),(bif beq l a then b else v.2.2.2.2.2.1.2.2.2.2.2.2.2.2.1.1,bif beq l a then c else v.2.2.2.2.2.1.2.2.2.2.2.2.2.2.1.2),(bif beq k a then b else v.2.2.2.2.2.1.2.2.2.2.2.2.2.2.2.1.1,bif beq k a then c else v.2.2.2.2.2.1.2.2.2.2.2.2.2.2.2.1.2),(bif beq j a then b else v.2.2.2.2.2.1.2.2.2.2.2.2.2.2.2.2.1.1,bif beq j a then c else v.2.2.2.2.2.1.2.2.2.2.2.2.2.2.2.2.1.2),(bif beq i a then b else v.2.2.2.2.2.1.2.2.2.2.2.2.2.2.2.2.2.1.1,bif beq i a then c else v.2.2.2.2.2.1.2.2.2.2.2.2.2.2.2.2.2.1.2),(bif beq h a then b else v.2.2.2.2.2.1.2.2.2.2.2.2.2.2.2.2.2.2.1.1,bif beq h a then c else v.2.2.2.2.2.1.2.2.2.2.2.2.2.2.2.2.2.2.1.2),(bif beq g a then b else v.2.2.2.2.2.1.2.2.2.2.2.2.2.2.2.2.2.2.2.1.1,bif beq g a then c else v.2.2.2.2.2.1.2.2.2.2.2.2.2.2.2.2.2.2.2.1.2),()),()))else none else none else none else some (((),(),(),v.1.2.2.2.1,(),()),v.2.1,((),(),()),((),(),()),v.2.2.2.2)
def f0j (v:c6G):Nat:=v.1.2.2.2.1.natAbs+v.1.2.2.2.2.2.1.natAbs+v.2.1.1.length+v.2.1.2.1.natAbs+v.2.1.2.2.1.natAbs+v.2.2.2.2.1.length+1000
def d3J (v:c6G):=a0F d3I (f0j v) v
def c6H (v):=(d3J v).isSome
def c6I (v):=(d3J v).getD (((),((),((),(0,((),()))))),(([],(0,(0,()))),(((),((),())),(((),((),())),([],(((0,0),((0,0),((0,0),((0,0),((0,0),((0,0),((0,0),((0,0),((0,0),((0,0),((0,0),((0,0),((0,0),((0,0),())))))))))))))),()))))))
abbrev c6J:Type:=d6H×ty3×ty5×ty5×c5l×Unit
abbrev f0k:Type:=a7N×ty3×ty5×ty5×c5l×Unit
def f0l:LX:=⟨[0,2,3,4],[.boxNil 3 0],0,[0,2,3],[],⟨[(0,om1),(2,om3),(3,om4),(4,om0)],[(0,bx0),(1,bx8),(2,f6j),(3,.arr (a1r))],4,1⟩,⟨li7,[(0,bx0),(1,bx8),(2,f6j),(3,.arr (a1r))],4,1⟩⟩
def d3K (f:c6J->Option (f0k)) (v:c6J):Option (f0k):=bif decide (v.1.2.2.2.1>0) then bif K34 (((),8001,()),v.2.1,()) then let c:=G34 (((),8001,()),v.2.1,());bif K34 (((),8001,()),c.2) then let e:=G34 (((),8001,()),c.2);let h:=wrap .i64 (c.1.1-4000);let i:=wrap .i64 (e.1.1-4000);let g:=(((),(),(),v.1.2.2.2.1,(),0,()),e.2.1,((),(),()),((),(),()),v.2.2.2.2.1,((nearest .f64 h,nearest .f64 i),(0,0),(0,0),(0,0),(0,0),(0,0),(0,0),(0,0),(0,0),(0,0),(0,0),(0,0),(0,0),(0,0),()),());bif c6H g then let a:=c6I g;bif K77 (((),5,()),a.2.1,()) then let d:=G77 (((),5,()),a.2.1,());bif d.1.1 then let b:=set (replicate 1 (zero a1r)) 0 (a.2.2.2.2.2.1.1,((0,0),(0,0),(0,0),(0,0),(0,0),(0,0),(0,0),(0,0),(0,0),(0,0),(0,0),(0,0),(0,0),()),());bif a0k (length a.2.2.2.2.1+length b) then f ((((),(),(),wrap .i64 (a.1.2.2.2.1-1),()),d.2.1,((),(),()),((),(),()),a.2.2.2.2.1++b,()))else none else let b:=set (replicate 1 (zero a1r)) 0 (a.2.2.2.2.2.1.1,a.2.2.2.2.2.1.2,());bif a0k (length a.2.2.2.2.1+length b) then f ((((),(),(),wrap .i64 (a.1.2.2.2.1-1),()),d.2.1,((),(),()),((),(),()),a.2.2.2.2.1++b,()))else none else none else none else none else none else some (((),(),(),()),v.2.1,((),(),()),((),(),()),v.2.2.2.2)
def e3g (v:c6J):Nat:=v.1.2.2.2.1.natAbs+v.2.1.1.length+v.2.1.2.1.natAbs+v.2.1.2.2.1.natAbs+v.2.2.2.2.1.length+1000
def d3L (v:c6J):=a0F d3K (e3g v) v
def c6K (v):=(d3L v).isSome
def c6L (v):=(d3L v).getD default
def F74 (x:I74.den):Option (O74.den):=bif K34 (((),3,()),x.2) then let d:=G34 (((),3,()),x.2);let i:=wrap .i64 (1+d.1.1);let e:=(((),(),(),i,()),d.2.1,((),(),()),((),(),()),[],());bif c6K e then let b:=c6L e;bif K34 (((),30000,()),b.2.1,()) then let c:=G34 (((),30000,()),b.2.1,());bif K34 (((),5,()),c.2) then let g:=G34 (((),5,()),c.2);let j:=wrap .i64 (1+g.1.1);let h:=(((),(),(),c.1.1,j,()),g.2.1,((),(),()),((),(),()),b.2.2.2.2.1,[],());bif b6H h then let a:=b6I h;some ((((),(),()),()),a.2.1,a.2.2.2.2)else none else none else none else none else none
def K74 (x):=(F74 x).isSome
def G74 (x):=(F74 x).getD (a1b O74)
def m74:=(74,a0H true I74 O74 K74 G74)
noncomputable def g1o:=gE [m34,m77] Tryz.f74 (lps:=[(3,lmX f0l d3L),(8,lmX f0i d3J),(17,lmX d7Y b9w)])
theorem e3h:EvX g1o (lp Tryz.f74 0) f0l d3K:=fun _ _=>by kernel_rfl
theorem e3i:EvX g1o (lp Tryz.f74 1) f0i d3I:=fun _ _=>by kernel_rfl
theorem d3M:EvX g1o (lp Tryz.f74 2) d7Y b9v:=fun _ _=>by kernel_rfl
theorem f0m:a0d Tryz.prog m74:=a4P (a0C (s2 a4F b0e)) (a1q Tryz.func74 rfl rfl rfl (by kernel_rfl) (a0f (by kernel_rfl) (s3 (lX e3h e3g) (lX e3i f0j) (lX d3M c6F)))) true fun _=>by kernel_rfl
abbrev f0n:Sg:=⟨[.ptr 0],[.box (a2L)]⟩
abbrev g1p:Sg:=⟨[.val (.flt .f64)],[.box (a2L)]⟩
def f6P (x:f0n.den):Option (g1p.den):=bif K34 (((),2,()),x.2) then let b:=G34 (((),2,()),x.2);bif K34 (((),8,()),b.2) then let a:=G34 (((),8,()),b.2);bif a.1.1==0 then let d:=wrap .i64 (b.1.1*0);let c:=nearest .f64 d;some ((a0a .quo .f64 c c,()),a.2)else bif a.1.1==1 then some ((a0a .quo .f64 4607182418800017408 (nearest .f64 (wrap .i64 (b.1.1*0))),()),a.2)else bif a.1.1==2 then some ((a0a .quo .f64 13830554455654793216 (nearest .f64 (wrap .i64 (b.1.1*0))),()),a.2)else bif a.1.1==3 then some ((a3H .f64 (nearest .f64 (wrap .i64 (b.1.1*0))),()),a.2)else bif a.1.1==4 then some ((9094988921128908188,()),a.2)else bif a.1.1==5 then some ((9223372036854775809,()),a.2)else bif a.1.1==6 then some ((4412443251819771522,()),a.2)else some ((nearest .f64 (wrap .i64 (b.1.1*0)),()),a.2)else none else none
def d7Z (x):=(f6P x).isSome
def d8a (x):=(f6P x).getD (a1b g1p)
def g7A:=(146,a0H true f0n g1p d7Z d8a)
theorem c6M:a0d Tryz.prog g7A:=sgE true (s1 a4F) Tryz.func146
abbrev I81:Sg:=⟨[.ptr 0,.val (.int .i64)],[.box (a2L)]⟩
abbrev O81:Sg:=⟨[.val (.flt .f64)],[.box (a2L)]⟩
def F81 (x:I81.den):Option (O81.den):=bif K77 (((),40,()),x.2) then let d:=G77 (((),40,()),x.2);bif d.1.1 then bif d7Z (((),()),d.2) then some (d8a (((),()),d.2))else none else let h:=wrap .i64 ((wrap .i64 (x.1.2.1*8))+1);bif K34 (((),h,()),d.2) then let g:=G34 (((),h,()),d.2);bif K77 (((),2,()),g.2) then let e:=G77 (((),2,()),g.2);bif e.1.1 then let c:=wrap .i64 ((wrap .i64 (x.1.2.1*1000))+1);bif K34 (((),c,()),e.2) then let a:=G34 (((),c,()),e.2);bif K77 (((),2,()),a.2) then let b:=G77 (((),2,()),a.2);bif b.1.1 then some ((a3H .f64 (a0a .quo .f64 (nearest .f64 a.1.1) 4652007308841189376),()),b.2)else some ((a0a .quo .f64 (nearest .f64 a.1.1) 4652007308841189376,()),b.2)else none else none else bif K77 (((),2,()),e.2) then let c:=G77 (((),2,()),e.2);bif c.1.1 then some ((a3H .f64 (a0a .quo .f64 (nearest .f64 g.1.1) 4620693217682128896),()),c.2)else some ((a0a .quo .f64 (nearest .f64 g.1.1) 4620693217682128896,()),c.2)else none else none else none else none
def K81 (x):=(F81 x).isSome
def G81 (x):=(F81 x).getD (a1b O81)
def m81:=(81,a0H true I81 O81 K81 G81)
theorem f0o:a0d Tryz.prog m81:=sgE true (s3 b0e c6M a4F) Tryz.func81
abbrev a5z:Sg:=⟨[.ptr 0,.val (.int .i64)],[.box (a2L)]⟩
abbrev a7u:Sg:=⟨[.val (.flt .f32)],[.box (a2L)]⟩
noncomputable def e3j:=gE [m81] Tryz.f141
theorem f0p:a1m Tryz.prog e3j:=a0C (s1 f0o)
theorem g1q:a5P Tryz.prog 141 e3j (a0B Tryz.f141):=a1q Tryz.func141 rfl rfl rfl (by kernel_rfl) (a1E (by kernel_rfl))
abbrev f0q:Sg:=⟨[.ptr 0,.own (.int .i64) 1],[.box (a2L),.arr (.int .i64)]⟩
abbrev g1r:Sg:=⟨[.val (.int .i64)],[.box (a2L),.arr (.int .i64)]⟩
def f0r (x:f0q.den):Option (g1r.den):=bif K34 (((),(length x.2.2.1:Int),()),x.2.1,()) then let a:=G34 (((),(length x.2.2.1:Int),()),x.2.1,());bif decide (0<=a.1.1)&&decide (a.1.1<(length x.2.2.1:Int)) then some ((getD x.2.2.1 (toNat a.1.1) (zero (Ty.int IntKind.i64)),()),a.2.1,x.2.2)else none else none
def d8b (x):=(f0r x).isSome
def c2G (x):=(f0r x).getD (a1b g1r)
def g7B:=(125,a0H true f0q g1r d8b c2G)
theorem c6N:a0d Tryz.prog g7B:=sgE true (s1 a4F) Tryz.func125
abbrev f0s:Sg:=⟨[.ptr 0],[.box (a2L)]⟩
abbrev g1s:Sg:=⟨[.val (.int .i64)],[.box (a2L)]⟩
def f6Q (x:f0s.den):Option (g1s.den):=bif K34 (((),4,()),x.2) then let a:=G34 (((),4,()),x.2);bif a.1.1==0 then let c:=set (set (set (set (set (set (set (set (set (set (replicate 10 (zero (Ty.int IntKind.i64))) 0 (-1)) 1 0) 2 127) 3 128) 4 16383) 5 16384) 6 1000000000) 7 1000000001) 8 9223372036854775807) 9 (-9223372036854775808);let d:=(((),(),()),a.2.1,c,());bif d8b d then let b:=c2G d;some (b.1,b.2.1,())else none else bif a.1.1==1 then bif K34 (((),1000000000,()),a.2) then some (G34 (((),1000000000,()),a.2))else none else bif K34 (((),400,()),a.2) then some (G34 (((),400,()),a.2))else none else none
def e7q (x):=(f6Q x).isSome
def e7r (x):=(f6Q x).getD (a1b g1s)
def f6R:=(142,a0H true f0s g1s e7q e7r)
theorem c6O:a0d Tryz.prog f6R:=sgE true (s2 a4F c6N) Tryz.func142
abbrev I75:Sg:=⟨[.ptr 0],[.box (a2L)]⟩
abbrev O75:Sg:=⟨[.own (S68) 1],[.box (a2L),.arr (S68)]⟩
abbrev b0H:Type:=ty5×ty3×b2c×Unit
abbrev d8c:Type:=a4r×ty3×b2c×Unit
def d8d:LX:=⟨[0,4],[],3,[4],[],⟨[(0,om1),(4,.one (.ref (S68) 1))],[(0,bx0),(1,.arr (S68))],2,1⟩,⟨[(4,.one (.ref (S68) 1))],[(0,bx0),(1,.arr (S68))],2,1⟩⟩
def b9x (f:b0H->Option (d8c)) (v:b0H):Option (d8c):=bif K34 (((),2,()),v.2.1,()) then let a:=G34 (((),2,()),v.2.1,());let b:=(length v.2.2.1:Int);bif decide (b<(wrap .i64 (12+a.1.1))) then bif decide (0<=0)&&decide (0<b) then let c:=set (replicate 1 (zero S68)) 0 ({ data:=#[115] }++(a7H (set (replicate 1 (zero (Ty.int IntKind.u8))) 0 (wrap .u8 (wrap .i64 (97+b))))),(getD v.2.2.1 (toNat 0) (zero S68)).2);bif a0k (length v.2.2.1+length c) then f ((((),(),()),a.2.1,v.2.2.1++c,()))else none else none else some (((),()),a.2.1,v.2.2)else none
def d8e (v:b0H):Nat:=v.2.1.1.length+v.2.1.2.1.natAbs+v.2.1.2.2.1.natAbs+v.2.2.1.length+1000
def b9y (v:b0H):=a0F b9x (d8e v) v
def c6P (v):=(b9y v).isSome
def b2k (v):=(b9y v).getD default
abbrev c2H:Type:=d6H×ty3×c5m×b2c×Unit
abbrev f0t:Type:=ty5×ty3×b2c×Unit
def f0u:LX:=⟨[0,3,4,5],[],0,[0,4],[],⟨[(0,om1),(3,.one (.ref (.str) 1)),(4,.one (.ref (S68) 2)),(5,om0)],[(0,bx0),(1,.arr (.str)),(2,.arr (S68))],3,1⟩,⟨[(0,om1),(4,.one (.ref (S68) 1))],[(0,bx0),(1,.arr (S68))],2,1⟩⟩
def d3N (f:c2H->Option (f0t)) (v:c2H):Option (f0t):=bif decide (v.1.2.2.2.1>0) then bif K34 (((),16,()),v.2.1,()) then let a:=G34 (((),16,()),v.2.1,());bif K34 (((),100,()),a.2) then let d:=(length v.2.2.2.1:Int);bif decide (0<=d)&&decide (d<(length v.2.2.1:Int)) then let e:=G34 (((),100,()),a.2);bif K34 (((),14,()),e.2) then let g:=G34 (((),14,()),e.2);bif K34 (((),81,()),g.2) then let h:=G34 (((),81,()),g.2);bif K77 (((),4,()),h.2) then let i:=G77 (((),4,()),h.2);bif i.1.1 then let b:=set (replicate 1 (zero S68)) 0 (getD v.2.2.1 (toNat d) (zero Ty.str),0,a0a .add .f32 (nearest .f32 a.1.1) (nearest .f32 (wrap .i64 (2+g.1.1))),0,180,());bif a0k (length v.2.2.2.1+length b) then f ((((),(),(),wrap .i64 (v.1.2.2.2.1-1),()),i.2.1,v.2.2.1,v.2.2.2.1++b,()))else none else let c:=set (replicate 1 (zero S68)) 0 (getD v.2.2.1 (toNat d) (zero Ty.str),nearest .f32 a.1.1,a0a .add .f32 (nearest .f32 a.1.1) (nearest .f32 (wrap .i64 (2+g.1.1))),e.1.1,wrap .i64 (e.1.1+h.1.1),());bif a0k (length v.2.2.2.1+length c) then f ((((),(),(),wrap .i64 (v.1.2.2.2.1-1),()),i.2.1,v.2.2.1,v.2.2.2.1++c,()))else none else none else none else none else none else none else none else some (((),(),()),v.2.1,v.2.2.2)
def f0v (v:c2H):Nat:=v.1.2.2.2.1.natAbs+v.2.1.1.length+v.2.1.2.1.natAbs+v.2.1.2.2.1.natAbs+v.2.2.1.length+v.2.2.2.1.length+1000
def d3O (v:c2H):=a0F d3N (f0v v) v
def d8f (v):=(d3O v).isSome
def b0I (v):=(d3O v).getD default
noncomputable def f0w:=gE [m34,m77,g7z,f6R] Tryz.f75 (lps:=[(4,lmX f0u d3O),(29,lmX d8d b9y)])
theorem e3k:EvX f0w (lp Tryz.f75 0) f0u d3N:=fun _ _=>by kernel_rfl
theorem d3P:EvX f0w (lp Tryz.f75 1) d8d b9x:=fun _ _=>by kernel_rfl
theorem g1t:a1m Tryz.prog f0w:=a0C (s4 a4F b0e d7S c6O)
theorem h0Z:a5P Tryz.prog 75 f0w (a0B Tryz.f75):=a1q Tryz.func75 rfl rfl rfl (by kernel_rfl) (a0f (by kernel_rfl) (s2 (lX e3k f0v) (lX d3P d8e)))
abbrev f0x:Sg:=⟨[.ptr 0,.val (S33),.val (.int .i64)],[.box (a2L)]⟩
abbrev g1u:Sg:=⟨[.val (S33)],[.box (a2L)]⟩
def f6S (x:f0x.den):Option (g1u.den):=let a:=wrap .i64 ((wrap .i64 (2*x.1.2.2.1))+1);bif K34 (((),a,()),x.2) then let b:=G34 (((),a,()),x.2);bif K34 (((),a,()),b.2) then let c:=G34 (((),a,()),b.2);some (((wrap .i64 ((wrap .i64 (x.1.2.1.1+b.1.1))-x.1.2.2.1),wrap .i64 ((wrap .i64 (x.1.2.1.2.1+c.1.1))-x.1.2.2.1),()),()),c.2)else none else none
def f0y (x):=(f6S x).isSome
def d3Q (x):=(f6S x).getD (a1b g1u)
def g7C:=(143,a0H true f0x g1u f0y d3Q)
theorem f0z:a0d Tryz.prog g7C:=sgE true (s1 a4F) Tryz.func143
abbrev f0A:Sg:=⟨[.ptr 0],[.box (a2L)]⟩
abbrev g1v:Sg:=⟨[.val (S33)],[.box (a2L)]⟩
def g1w (x:f0A.den):Option (g1v.den):=bif K77 (((),40,()),x.2) then let b:=G77 (((),40,()),x.2);bif b.1.1 then let i:=set (set (set (set (replicate 4 (zero (Ty.int IntKind.i64))) 0 10000) 1 (-10000)) 2 10001) 3 9223372036854775807;bif d8b (((),(),()),b.2.1,i,()) then let h:=c2G (((),(),()),b.2.1,i,());let a:=set (set (set (replicate 3 (zero (Ty.int IntKind.i64))) 0 10000) 1 0) 2 (-10001);bif d8b (((),(),()),h.2.1,a,()) then let c:=c2G (((),(),()),h.2.1,a,());some (((h.1.1,c.1),()),c.2.1,())else none else none else let j:=set (set (set (replicate 3 (zero (Ty.int IntKind.i64))) 0 4) 1 20) 2 400;bif d8b (((),(),()),b.2.1,j,()) then let d:=c2G (((),(),()),b.2.1,j,());let g:=wrap .i64 ((wrap .i64 (2*d.1.1))+1);bif K34 (((),g,()),d.2.1,()) then let a:=G34 (((),g,()),d.2.1,());bif K34 (((),g,()),a.2) then let e:=G34 (((),g,()),a.2);some (((wrap .i64 (a.1.1-d.1.1),wrap .i64 (e.1.1-d.1.1),()),()),e.2)else none else none else none else none
def e7s (x):=(g1w x).isSome
def e7t (x):=(g1w x).getD (a1b g1v)
def h1a:=(189,a0H true f0A g1v e7s e7t)
theorem f0B:a0d Tryz.prog h1a:=sgE true (s3 b0e c6N a4F) Tryz.func189
abbrev f0C:Sg:=⟨[.ptr 0],[.box (a2L)]⟩
abbrev g1x:Sg:=⟨[.val (S35)],[.box (a2L)]⟩
def f6T (x:f0C.den):Option (g1x.den):=bif e7s (((),()),x.2) then let a:=e7t (((),()),x.2);bif e7s (((),()),a.2) then let b:=e7t (((),()),a.2);some (((a.1.1,b.1),()),b.2)else none else none
def g1y (x):=(f6T x).isSome
def g1z (x):=(f6T x).getD (a1b g1x)
def g7D:=(144,a0H true f0C g1x g1y g1z)
theorem f0D:a0d Tryz.prog g7D:=sgE true (s1 f0B) Tryz.func144
abbrev I76:Sg:=⟨[.ptr 0],[.box (a2L)]⟩
abbrev O76:Sg:=⟨[.val (S38)],[.box (a2L)]⟩
abbrev a9m:Type:=a7N×f6d
abbrev d8g:Type:=ty5×f6d
def d8h:LX:=⟨[0,2,3],[],3,[2,3],[],⟨li7,li6,4,1⟩,⟨li8,li6,4,1⟩⟩
def b9z (f:a9m->Option (d8g)) (v:a9m):Option (d8g):=bif K34 (((),2,()),v.2.1,()) then let a:=G34 (((),2,()),v.2.1,());let b:=(length v.2.2.2.2.1:Int);bif decide (b<(wrap .i64 (20+a.1.1))) then let c:=set (replicate 1 (zero a2u)) 0 ((b,1000,()),false,());bif a0k (length v.2.2.2.2.1+length c) then f ((((),(),(),()),a.2.1,v.2.2.1,v.2.2.2.1,v.2.2.2.2.1++c,()))else none else some (((),(),()),a.2.1,v.2.2)else none
def d8i (v:a9m):Nat:=v.2.1.1.length+v.2.1.2.1.natAbs+v.2.1.2.2.1.natAbs+v.2.2.1.1.natAbs+v.2.2.1.2.1.natAbs+v.2.2.1.2.2.1.natAbs+v.2.2.1.2.2.2.1.natAbs+v.2.2.1.2.2.2.2.2.1.natAbs+v.2.2.1.2.2.2.2.2.2.1.natAbs+v.2.2.1.2.2.2.2.2.2.2.1.natAbs+v.2.2.1.2.2.2.2.2.2.2.2.1.natAbs+v.2.2.2.1.1.natAbs+v.2.2.2.1.2.1.natAbs+v.2.2.2.1.2.2.1.natAbs+v.2.2.2.1.2.2.2.1.natAbs+v.2.2.2.1.2.2.2.2.2.1.natAbs+v.2.2.2.1.2.2.2.2.2.2.1.natAbs+v.2.2.2.1.2.2.2.2.2.2.2.1.natAbs+v.2.2.2.1.2.2.2.2.2.2.2.2.1.natAbs+v.2.2.2.2.1.length+1000
def b9A (v:a9m):=a0F b9z (d8i v) v
def c6Q (v):=(b9A v).isSome
def b6J (v):=(b9A v).getD default
abbrev c6R:Type:=d6H×f6d
abbrev f0E:Type:=a7N×f6d
def f0F:LX:=⟨[0,2,3,4],[.boxNil 3 4],0,[0,2,3],[],⟨[(0,om1),(2,om3),(3,om4),(4,om0)],li6,4,1⟩,⟨li7,li6,4,1⟩⟩
def d3R (f:c6R->Option (f0E)) (v:c6R):Option (f0E):=bif decide (v.1.2.2.2.1>0) then let e:=wrap .i64 (100*Int.tmod (length v.2.2.2.2.1:Int) 2);let b:=(((),(e,0,()),40,()),v.2.1,());bif f0y b then let a:=d3Q b;bif K77 (((),2,()),a.2) then let c:=G77 (((),2,()),a.2);let d:=set (replicate 1 (zero a2u)) 0 (a.1.1,c.1);bif a0k (length v.2.2.2.2.1+length d) then f ((((),(),(),wrap .i64 (v.1.2.2.2.1-1),()),c.2.1,v.2.2.1,v.2.2.2.1,v.2.2.2.2.1++d,()))else none else none else none else some (((),(),(),()),v.2)
def f0G (v:c6R):Nat:=v.1.2.2.2.1.natAbs+v.2.1.1.length+v.2.1.2.1.natAbs+v.2.1.2.2.1.natAbs+v.2.2.1.1.natAbs+v.2.2.1.2.1.natAbs+v.2.2.1.2.2.1.natAbs+v.2.2.1.2.2.2.1.natAbs+v.2.2.1.2.2.2.2.2.1.natAbs+v.2.2.1.2.2.2.2.2.2.1.natAbs+v.2.2.1.2.2.2.2.2.2.2.1.natAbs+v.2.2.1.2.2.2.2.2.2.2.2.1.natAbs+v.2.2.2.1.1.natAbs+v.2.2.2.1.2.1.natAbs+v.2.2.2.1.2.2.1.natAbs+v.2.2.2.1.2.2.2.1.natAbs+v.2.2.2.1.2.2.2.2.2.1.natAbs+v.2.2.2.1.2.2.2.2.2.2.1.natAbs+v.2.2.2.1.2.2.2.2.2.2.2.1.natAbs+v.2.2.2.1.2.2.2.2.2.2.2.2.1.natAbs+v.2.2.2.2.1.length+1000
def d3S (v:c6R):=a0F d3R (f0G v) v
def f0H (v):=(d3S v).isSome
def c6S (v):=(d3S v).getD default
def F76 (x:I76.den):Option (O76.den):=bif K34 (((),9,()),x.2) then let g:=G34 (((),9,()),x.2);bif K34 (((),3,()),g.2) then let h:=G34 (((),3,()),g.2);let n:=wrap .i64 (1+h.1.1);let o:=wrap .i64 (g.1.1-4);let i:=(((),(),(),n,()),h.2.1,(0,0,0,0,(),0,0,0,0,()),(0,-20,o,20,(),0,0,0,0,()),[],());bif f0H i then let a:=c6S i;let j:=(((),(50,-20,()),20,()),a.2.1,());bif f0y j then let e:=d3Q j;let k:=(((),(50,20,()),20,()),e.2);bif f0y k then let d:=d3Q k;bif K34 (((),20,()),d.2) then let b:=G34 (((),20,()),d.2);bif b.1.1==0 then some (((((a.2.2.2.1.1,a.2.2.2.1.2.1,()),(a.2.2.2.1.2.2.1,a.2.2.2.1.2.2.2.1,()),()),replicate 0 (zero a2u),(e.1.1,d.1),()),()),b.2)else bif b.1.1==1 then bif decide (0<=0)&&decide (0<(length a.2.2.2.2.1:Int)) then let l:=(a.2.2.2.1.1,a.2.2.2.1.2.1,());some ((((l,(a.2.2.2.1.2.2.1,a.2.2.2.1.2.2.2.1,()),()),set a.2.2.2.2.1 (toNat 0) (l,(getD a.2.2.2.2.1 (toNat 0) (zero a2u)).2),(e.1.1,d.1),()),()),b.2)else none else bif b.1.1==2 then bif g1y (((),()),b.2) then let c:=g1z (((),()),b.2);some (((c.1.1,a.2.2.2.2.1,(e.1.1,d.1),()),()),c.2)else none else bif b.1.1==3 then some (((((a.2.2.2.1.1,a.2.2.2.1.2.1,()),(a.2.2.2.1.2.2.1,a.2.2.2.1.2.2.2.1,()),()),a.2.2.2.2.1,(d.1.1,d.1),()),()),b.2)else bif b.1.1==4 then let m:=(((),(),(),()),b.2.1,(a.2.2.1.1,a.2.2.1.2.1,a.2.2.1.2.2.1,a.2.2.1.2.2.2.1,(),a.2.2.1.2.2.2.2.2),(a.2.2.2.1.1,a.2.2.2.1.2.1,a.2.2.2.1.2.2.1,a.2.2.2.1.2.2.2.1,(),e.1.1.1,e.1.1.2.1,d.1.1),a.2.2.2.2);bif c6Q m then let c:=b6J m;some (((((c.2.2.2.1.1,c.2.2.2.1.2.1,()),(c.2.2.2.1.2.2.1,c.2.2.2.1.2.2.2.1,()),()),c.2.2.2.2.1,((c.2.2.2.1.2.2.2.2.2.1,c.2.2.2.1.2.2.2.2.2.2.1,()),c.2.2.2.1.2.2.2.2.2.2.2,()),()),()),c.2.1,())else none else some (((((a.2.2.2.1.1,a.2.2.2.1.2.1,()),(a.2.2.2.1.2.2.1,a.2.2.2.1.2.2.2.1,()),()),a.2.2.2.2.1,(e.1.1,d.1),()),()),b.2)else none else none else none else none else none else none
def K76 (x):=(F76 x).isSome
def G76 (x):=(F76 x).getD (a1b O76)
def m76:=(76,a0H true I76 O76 K76 G76)
noncomputable def g7E:=gE [m34,g7C,m77,g7D] Tryz.f76 (lps:=[(3,lmX f0F d3S),(18,lmX d8h b9A)]) (rown:=[.frzBox 2])
theorem e3l:EvX g7E (lp Tryz.f76 0) f0F d3R:=fun _ _=>by kernel_rfl
theorem d3T:EvX g7E (lp Tryz.f76 1) d8h b9z:=fun _ _=>by kernel_rfl
theorem g1A:a0d Tryz.prog m76:=a4P (a0C (s4 a4F f0z b0e f0D)) (a1q Tryz.func76 rfl rfl rfl (by kernel_rfl) (a0f (by kernel_rfl) (s2 (lX e3l f0G) (lX d3T d8i)))) true fun _=>by kernel_rfl
abbrev I33:Sg:=⟨[.ptr 0,.val (.int .i64)],[.box (a2L)]⟩
abbrev O33:Sg:=⟨[.val (.cpx .f64)],[.box (a2L)]⟩
def F33 (x:I33.den):Option (O33.den):=bif K81 (((),x.1.2),x.2) then let a:=G81 (((),x.1.2),x.2);bif K81 (((),x.1.2),a.2) then let b:=G81 (((),x.1.2),a.2);some (((a.1.1,b.1.1),()),b.2)else none else none
def K33 (x):=(F33 x).isSome
def G33 (x):=(F33 x).getD (a1b O33)
def m33:=(33,a0H true I33 O33 K33 G33)
theorem f0I:a0d Tryz.prog m33:=sgE true (s1 f0o) Tryz.func33
abbrev f6U:Ty:=.cons (.slice (.int .u8)) (.nil)
abbrev g1B:Ty:=.cons (.cpx .f64) (.nil)
def f6V (x:Den f6U):OD g1B:=bif K30 (x,()) then let d:=G30 (x,());bif K33 (((),1000,()),d.2) then let b:=G33 (((),1000,()),d.2);bif K34 (((),6,()),b.2) then let a:=G34 (((),6,()),b.2);bif a.1.1==0 then some ((4726483295884279808,13949855332739055616),())else bif a.1.1==1 then some ((b.1.1.1,4726483295884279809),())else bif a.1.1==2 then bif d7Z (((),()),a.2) then let c:=d8a (((),()),a.2);bif d7Z (((),()),c.2) then some ((c.1.1,(d8a (((),()),c.2)).1.1),())else none else none else some b.1 else none else none else none
def g1C (x):=(f6V x).isSome
def g7F (x):=(f6V x).getD (zero g1B)
def g7G:=(145,a0b f6U g1B g1C g7F)
theorem f0J:a0d Tryz.prog g7G:=fnE (s4 f0b f0I a4F c6M) Tryz.func145
abbrev b9B:Sg:=⟨[.ptr 0],[.box (a2L)]⟩
abbrev c3X:Sg:=⟨[.val (.cpx .f32)],[.box (a2L)]⟩
noncomputable def e3m:=gE [m77,g7A,g7B] Tryz.f128
theorem f0K:a1m Tryz.prog e3m:=a0C (s3 b0e c6M c6N)
theorem g1D:a5P Tryz.prog 128 e3m (a0B Tryz.f128):=a1q Tryz.func128 rfl rfl rfl (by kernel_rfl) (a1E (by kernel_rfl))
abbrev I79:Sg:=⟨[.ptr 0],[.box (a2L)]⟩
abbrev O79:Sg:=⟨[.val (S30)],[.box (a2L)]⟩
abbrev b4k:Type:=a7N×f6i
abbrev d8j:Type:=ty5×f6i
def d8k:LX:=⟨[0,2,3],[],1,[2,3],[],⟨li7,li4,5,1⟩,⟨li8,li4,5,1⟩⟩
def b9C (f:b4k->Option (d8j)) (v:b4k):Option (d8j):=bif K34 (((),2,()),v.2.1,()) then let a:=G34 (((),2,()),v.2.1,());let b:=(length v.2.2.2.2.1:Int);bif decide (b<(wrap .i64 (20+a.1.1))) then bif decide (0<=0)&&decide (0<b) then let c:=set (replicate 1 (zero a1r)) 0 (getD v.2.2.2.2.1 (toNat 0) (zero a1r));bif a0k (length v.2.2.2.2.1+length c) then f ((((),(),(),()),a.2.1,((),(),()),((),(),()),v.2.2.2.2.1++c,v.2.2.2.2.2))else none else none else some (((),(),()),a.2.1,((),(),()),((),(),()),v.2.2.2.2)else none
def c6T (v:b4k):Nat:=v.2.1.1.length+v.2.1.2.1.natAbs+v.2.1.2.2.1.natAbs+v.2.2.2.2.1.length+v.2.2.2.2.2.1.length+1000
def b9D (v:b4k):=a0F b9C (c6T v) v
def b6K (v):=(b9D v).isSome
def b6L (v):=(b9D v).getD default
noncomputable def f6W:=gE [m74,m34,m82,g7G,f6R] Tryz.f79 (lps:=[(15,lmX d8k b9D)]) (rown:=[.frzBox 2])
theorem d3U:EvX f6W (lp Tryz.f79 0) d8k b9C:=fun _ _=>by kernel_rfl
theorem g1E:a1m Tryz.prog f6W:=a0C (s5 f0m a4F f0c f0J c6O)
theorem h1b:a5P Tryz.prog 79 f6W (a0B Tryz.f79):=a1q Tryz.func79 rfl rfl rfl (by kernel_rfl) (a0f (by kernel_rfl) (s1 (lX d3U c6T)))
abbrev I67:Sg:=⟨[.ptr 0,.val (S40)],[.box (a2L)]⟩
abbrev O67:Sg:=⟨[.val (.str)],[.box (a2L)]⟩
def F67 (x:I67.den):Option (O67.den):=bif K34 (((),12,()),x.2) then let b:=G34 (((),12,()),x.2);bif b.1.1==0 then bif K34 (((),365,()),b.2) then let a:=G34 (((),365,()),b.2);bif b4a a.1 then let c:=a7t a.1;bif decide (ByteArray.size { data:=#[115,116,101,101,114,32] }+ByteArray.size c.1<=9223372036854775807) then some (({ data:=#[115,116,101,101,114,32] }++c.1,()),a.2)else none else none else none else bif b.1.1==1 then bif K34 (((),365,()),b.2) then let a:=G34 (((),365,()),b.2);bif b4a a.1 then let c:=a7t a.1;bif decide (ByteArray.size { data:=#[115,116,101,101,114,32] }+ByteArray.size c.1<=9223372036854775807) then some (({ data:=#[115,116,101,101,114,32] }++c.1,()),a.2)else none else none else none else bif b.1.1==2 then bif K34 (((),25,()),b.2) then let a:=G34 (((),25,()),b.2);let c:=wrap .i64 ((wrap .i64 (1000*a.1.1))-12000);bif K83 (c,()) then let h:=G83 (c,());bif decide (ByteArray.size { data:=#[119,105,110,100,32] }+ByteArray.size h.1<=9223372036854775807) then let k:={ data:=#[119,105,110,100,32] }++h.1;bif decide (ByteArray.size k+ByteArray.size { data:=#[32] }<=9223372036854775807) then bif K34 (((),49,()),a.2) then let d:=G34 (((),49,()),a.2);let e:=wrap .i64 ((wrap .i64 (500*d.1.1))-12000);bif K83 (e,()) then let i:=k++{ data:=#[32] };let g:=G83 (e,());bif decide (ByteArray.size i+ByteArray.size g.1<=9223372036854775807) then some ((i++g.1,()),d.2)else none else none else none else none else none else none else none else bif b.1.1==3 then bif K34 (((),25,()),b.2) then let a:=G34 (((),25,()),b.2);let c:=wrap .i64 ((wrap .i64 (1000*a.1.1))-12000);bif K83 (c,()) then let h:=G83 (c,());bif decide (ByteArray.size { data:=#[119,105,110,100,32] }+ByteArray.size h.1<=9223372036854775807) then let k:={ data:=#[119,105,110,100,32] }++h.1;bif decide (ByteArray.size k+ByteArray.size { data:=#[32] }<=9223372036854775807) then bif K34 (((),49,()),a.2) then let d:=G34 (((),49,()),a.2);let e:=wrap .i64 ((wrap .i64 (500*d.1.1))-12000);bif K83 (e,()) then let i:=k++{ data:=#[32] };let g:=G83 (e,());bif decide (ByteArray.size i+ByteArray.size g.1<=9223372036854775807) then some ((i++g.1,()),d.2)else none else none else none else none else none else none else none else bif b.1.1==4 then let o:=(length x.1.2.1.2.2.1:Int);bif decide (o>0) then bif K77 (((),5,()),b.2) then let a:=G77 (((),5,()),b.2);bif !a.1.1 then bif K34 (((),o,()),a.2) then let c:=G34 (((),o,()),a.2);bif decide (0<=c.1.1)&&decide (c.1.1<o) then let j:=getD x.1.2.1.2.2.1 (toNat c.1.1) (zero S68);bif decide (ByteArray.size { data:=#[115,97,105,108,32] }+ByteArray.size j.1<=9223372036854775807) then some (({ data:=#[115,97,105,108,32] }++j.1,()),c.2)else none else none else none else some (({ data:=#[115,97,105,108,32] }++{ data:=#[110,111,110,101] },()),a.2)else none else some (({ data:=#[115,97,105,108,32] }++{ data:=#[110,111,110,101] },()),b.2)else bif b.1.1==5 then let p:=(length x.1.2.1.2.2.1:Int);bif decide (p>0) then bif K77 (((),5,()),b.2) then let a:=G77 (((),5,()),b.2);bif !a.1.1 then bif K34 (((),p,()),a.2) then let c:=G34 (((),p,()),a.2);bif decide (0<=c.1.1)&&decide (c.1.1<p) then let j:=getD x.1.2.1.2.2.1 (toNat c.1.1) (zero S68);bif decide (ByteArray.size { data:=#[115,97,105,108,32] }+ByteArray.size j.1<=9223372036854775807) then some (({ data:=#[115,97,105,108,32] }++j.1,()),c.2)else none else none else none else some (({ data:=#[115,97,105,108,32] }++{ data:=#[110,111,110,101] },()),a.2)else none else some (({ data:=#[115,97,105,108,32] }++{ data:=#[110,111,110,101] },()),b.2)else bif b.1.1==6 then bif K34 (((),200000,()),b.2) then let a:=G34 (((),200000,()),b.2);let q:=wrap .i64 (a.1.1-100000);bif K83 (q,()) then let j:=G83 (q,());bif decide (ByteArray.size { data:=#[102,105,120,32] }+ByteArray.size j.1<=9223372036854775807) then let h:={ data:=#[102,105,120,32] }++j.1;bif decide (ByteArray.size h+ByteArray.size { data:=#[32,32] }<=9223372036854775807) then bif K34 (((),200000,()),a.2) then let l:=G34 (((),200000,()),a.2);let d:=wrap .i64 (l.1.1-100000);bif K83 (d,()) then let e:=h++{ data:=#[32,32] };let m:=G83 (d,());bif decide (ByteArray.size e+ByteArray.size m.1<=9223372036854775807) then some ((e++m.1,()),l.2)else none else none else none else none else none else none else none else bif b.1.1==7 then let g:=set (set (set (set (set (set (set (set (set (set (set (set (set (set (replicate 14 (zero Ty.str)) 0 { data:=#[] }) 1 { data:=#[103,111] }) 2 { data:=#[103,111,32,48] }) 3 { data:=#[103,111,32,51,54,48,49] }) 4 { data:=#[103,111,32,49,32,50] }) 5 { data:=#[115,116,101,101,114,32,51,54,48] }) 6 { data:=#[115,116,101,101,114,32,48,48] }) 7 { data:=#[115,97,105,108] }) 8 { data:=#[119,105,110,100,32,49,32,50] }) 9 { data:=#[119,105,110,100,32,49,48,49,46,48,48,48,32,48,46,48,48,48] }) 10 { data:=#[102,105,120,32,49,48,48,48,48,46,53,48,48,32,48,46,48,48,48] }) 11 { data:=#[116,97,99,107,32,49] }) 12 { data:=#[32,115,97,105,108,32,32,110,111,110,101,32] }) 13 { data:=#[115,116,101,101,114,32,45,49] };let r:=(((),(),()),b.2.1,g,());bif f0e r then let n:=e3c r;some (n.1,n.2.1,())else none else bif K34 (((),40,()),b.2) then let a:=G34 (((),40,()),b.2);bif K34 (((),40,()),a.2) then let c:=G34 (((),40,()),a.2);let h:=wrap .i64 (1+(wrap .i64 (a.1.1*c.1.1)));bif b4a (h,()) then let l:=a7t (h,());bif decide (ByteArray.size { data:=#[103,111,32] }+ByteArray.size l.1<=9223372036854775807) then some (({ data:=#[103,111,32] }++l.1,()),c.2)else none else none else none else none else none
def K67 (x):=(F67 x).isSome
def G67 (x):=(F67 x).getD (a1b O67)
def m67:=(67,a0H true I67 O67 K67 G67)
theorem g1F:a0d Tryz.prog m67:=sgE true (s5 a4F c6n e2Q b0e d7S) Tryz.func67
abbrev I35:Sg:=⟨[.ptr 0,.val (S40)],[.box (a2L)]⟩
abbrev O35:Sg:=⟨[.own (.str) 1],[.box (a2L),.arr (.str)]⟩
abbrev b4l:Type:=d6H×ty3×(b0d×ty4×c5k×c5l×ty4×b2c×f6c)×d6G
abbrev f0L:Type:=a4r×ty3×d6G
def f0M:LX:=⟨[0,3,5,6],[],0,[5],[],⟨[(0,om1),(3,om3),(5,.one (.ref (.str) 2)),(6,om0)],[(0,bx0),(1,g6G),(2,.arr (.str))],3,1⟩,⟨[(5,.one (.ref (.str) 1))],[(0,bx0),(1,.arr (.str))],2,1⟩⟩
def d3V (f:b4l->Option (f0L)) (v:b4l):Option (f0L):=bif decide (v.1.2.2.2.1>0) then let a:=(((),((v.2.2.1.1,v.2.2.1.2.1,v.2.2.1.2.2.1,()),(v.2.2.1.2.2.2.1,v.2.2.1.2.2.2.2.1,()),v.2.2.1.2.2.2.2.2.1,(((v.2.2.1.2.2.2.2.2.2.1,v.2.2.1.2.2.2.2.2.2.2.1,()),(v.2.2.1.2.2.2.2.2.2.2.2.1,v.2.2.1.2.2.2.2.2.2.2.2.2.1,()),()),v.2.2.1.2.2.2.2.2.2.2.2.2.2.1,((v.2.2.1.2.2.2.2.2.2.2.2.2.2.2.1,v.2.2.1.2.2.2.2.2.2.2.2.2.2.2.2.1,()),v.2.2.1.2.2.2.2.2.2.2.2.2.2.2.2.2,()),()),()),()),v.2.1,());bif K67 a then let b:=G67 a;let c:=set (replicate 1 (zero Ty.str)) 0 b.1.1;bif a0k (length v.2.2.2.1+length c) then f ((((),(),(),wrap .i64 (v.1.2.2.2.1-1),()),b.2.1,v.2.2.1,v.2.2.2.1++c,()))else none else none else some (((),()),v.2.1,v.2.2.2)
def f0N (v:b4l):Nat:=v.1.2.2.2.1.natAbs+v.2.1.1.length+v.2.1.2.1.natAbs+v.2.1.2.2.1.natAbs+v.2.2.1.1.length+v.2.2.1.2.1.length+v.2.2.1.2.2.1.length+v.2.2.1.2.2.2.1.length+v.2.2.1.2.2.2.2.1.length+v.2.2.1.2.2.2.2.2.1.length+v.2.2.1.2.2.2.2.2.2.1.natAbs+v.2.2.1.2.2.2.2.2.2.2.1.natAbs+v.2.2.1.2.2.2.2.2.2.2.2.1.natAbs+v.2.2.1.2.2.2.2.2.2.2.2.2.1.natAbs+v.2.2.1.2.2.2.2.2.2.2.2.2.2.1.length+v.2.2.1.2.2.2.2.2.2.2.2.2.2.2.1.natAbs+v.2.2.1.2.2.2.2.2.2.2.2.2.2.2.2.1.natAbs+v.2.2.1.2.2.2.2.2.2.2.2.2.2.2.2.2.1.natAbs+v.2.2.1.2.2.2.2.2.2.2.2.2.2.2.2.2.2.1.natAbs+v.2.2.2.1.length+1000
def d3W (v:b4l):=a0F d3V (f0N v) v
def b4m (v):=(d3W v).isSome
def b0J (v):=(d3W v).getD default
def F35 (x:I35.den):Option (O35.den):=bif K34 (((),33,()),x.2) then let i:=G34 (((),33,()),x.2);let l:=wrap .i64 ((wrap .i64 (500*i.1.1))-8000);bif K83 (l,()) then let m:=G83 (l,());bif decide (ByteArray.size { data:=#[119,105,110,100,32] }+ByteArray.size m.1<=9223372036854775807) then let n:={ data:=#[119,105,110,100,32] }++m.1;bif decide (ByteArray.size n+ByteArray.size { data:=#[32] }<=9223372036854775807) then bif K34 (((),33,()),i.2) then let c:=G34 (((),33,()),i.2);let d:=wrap .i64 ((wrap .i64 (500*c.1.1))-8000);bif K83 (d,()) then let a:=n++{ data:=#[32] };let b:=G83 (d,());bif decide (ByteArray.size a+ByteArray.size b.1<=9223372036854775807) then let o:=(length x.1.2.1.2.2.1:Int);bif decide (o>0) then bif decide (0<=0)&&decide (0<o) then let e:=getD x.1.2.1.2.2.1 (toNat 0) (zero S68);bif decide (ByteArray.size { data:=#[115,97,105,108,32] }+ByteArray.size e.1<=9223372036854775807) then bif K34 (((),9,()),c.2) then let g:=G34 (((),9,()),c.2);let p:=replicate 1 (zero Ty.str);let j:=(set p 0 (a++b.1))++(set p 0 ({ data:=#[115,97,105,108,32] }++e.1));let q:=(((),(),(),g.1),g.2.1,(x.1.2.1.1.1,x.1.2.1.1.2.1,x.1.2.1.1.2.2.1,x.1.2.1.2.1.1,x.1.2.1.2.1.2.1,x.1.2.1.2.2.1,x.1.2.1.2.2.2.1.1.1.1,x.1.2.1.2.2.2.1.1.1.2.1,x.1.2.1.2.2.2.1.1.2.1.1,x.1.2.1.2.2.2.1.1.2.1.2.1,x.1.2.1.2.2.2.1.2.1,x.1.2.1.2.2.2.1.2.2.1.1.1,x.1.2.1.2.2.2.1.2.2.1.1.2.1,x.1.2.1.2.2.2.1.2.2.1.2.1),j,());bif b4m q then some (((),()),(b0J q).2)else none else none else none else none else bif K34 (((),9,()),c.2) then let h:=G34 (((),9,()),c.2);let k:=set (replicate 1 (zero Ty.str)) 0 (a++b.1);let r:=(((),(),(),h.1),h.2.1,(x.1.2.1.1.1,x.1.2.1.1.2.1,x.1.2.1.1.2.2.1,x.1.2.1.2.1.1,x.1.2.1.2.1.2.1,x.1.2.1.2.2.1,x.1.2.1.2.2.2.1.1.1.1,x.1.2.1.2.2.2.1.1.1.2.1,x.1.2.1.2.2.2.1.1.2.1.1,x.1.2.1.2.2.2.1.1.2.1.2.1,x.1.2.1.2.2.2.1.2.1,x.1.2.1.2.2.2.1.2.2.1.1.1,x.1.2.1.2.2.2.1.2.2.1.1.2.1,x.1.2.1.2.2.2.1.2.2.1.2.1),k,());bif b4m r then some (((),()),(b0J r).2)else none else none else none else none else none else none else none else none else none
def K35 (x):=(F35 x).isSome
def G35 (x):=(F35 x).getD (a1b O35)
def m35:=(35,a0H true I35 O35 K35 G35)
noncomputable def h1c:=gE [m34,m83,m67] Tryz.f35 (lps:=[(5,lmX f0M d3W)])
theorem e3n:EvX h1c (lp Tryz.f35 0) f0M d3V:=fun _ _=>by kernel_rfl
theorem g1G:a0d Tryz.prog m35:=a4P (a0C (s3 a4F e2Q g1F)) (a1q Tryz.func35 rfl rfl rfl (by kernel_rfl) (a0f (by kernel_rfl) (s1 (lX e3n f0N)))) true fun _=>by kernel_rfl
def a0c (c:List Int×Int×Int×Unit):Prop:=0<=c.2.1 /\ c.1.length<=1048576
theorem b9E (a:Int):0<=a2c .and .i64 a 255 /\ a2c .and .i64 a 255<=255:=by
 have h:(BitVec.ofInt IntKind.i64.bits a &&& BitVec.ofInt IntKind.i64.bits 255).toNat<=255:=by
  rw[BitVec.toNat_and];exact Nat.and_le_right
 have e:a2c .and .i64 a 255=IntKind.i64.wrap ((BitVec.ofInt IntKind.i64.bits a &&& BitVec.ofInt IntKind.i64.bits 255).toNat:Int):=rfl;rw[e,w64 (by omega) (by omega)];omega
theorem b4n (x:I82.den) (h:a0c x.2.1):K82 x=true:=by
 unfold K82 F82;have a:decide (0<=x.2.1.2.1)=true:=decide_eq_true h.1;cases hc:decide (x.2.1.2.1<(x.2.1.1.length:Int))<;>simp only[a,Bool.and_self,cond_true,cond_false,isSome_some]
theorem b4o (x:I82.den) (h:a0c x.2.1):a0c (G82 x).2.1 /\ 0<=(G82 x).1.1 /\ (G82 x).1.1<=255:=by
 unfold G82 F82;have d:decide (0<=x.2.1.2.1)=true:=decide_eq_true h.1;have f:=h.2;have e:0<=x.2.1.2.1:=h.1;by_cases a:x.2.1.2.1<(x.2.1.1.length:Int)
 ·have b:x.2.1.2.1<1048576:=by
   have:((x.2.1.1.length:Nat):Int)<=1048576:=by omega
   exact Int.lt_of_lt_of_le a this
  have c:decide (x.2.1.2.1<(x.2.1.1.length:Int))=true:=decide_eq_true a;simp only[c,d,Bool.and_self,cond_true,getD_some];refine⟨⟨?_,f⟩,(b9E _).1,(b9E _).2⟩;have g:∀n:Int,0<=n->n<1048576->0<=IntKind.i64.wrap (n+1):=fun n d i=>by rw[w64 (by omega) (by omega)];omega
  exact g _ e b
 ·have c:decide (x.2.1.2.1<(x.2.1.1.length:Int))=false:=decide_eq_false a;simp only[c,cond_false,getD_some];exact⟨⟨e,f⟩,(b9E _).1,(b9E _).2⟩
theorem e3o (x:I82.den) (h:a0c x.2.1):a0c (G82 x).2.1:=(b4o x h).1
theorem b2l {a n:Int} (h:0<=a) (b:0<n):0<=Int.tmod a n /\ Int.tmod a n<n:=by
 rw[Int.tmod_eq_emod_of_nonneg h];exact⟨Int.emod_nonneg _ (by omega),Int.emod_lt_of_pos _ b⟩
theorem a8r (n:Int) (c:List Int×Int×Int×Unit) (h:a0c c):∃(m:Int) (c':List Int×Int×Int×Unit),F34 (((),n,()),(c,()))=some ((m,()),(c',())) /\ a0c c' /\ 0<=m /\ (0<n->m<n):=by
 unfold F34;by_cases i:n<=0
 ·have:decide (n<=0)=true:=decide_eq_true i;simp only[this,cond_true];exact⟨0,c,rfl,h,by omega,fun h=>by omega⟩
 ·have l:decide (n<=0)=false:=decide_eq_false i;have o:(n != 0)=true:=by simp;omega
  have p:=b4n (((),()),(c,())) h;obtain⟨b,e,A⟩:=b4o (((),()),(c,())) h;simp only[l,cond_false,p,cond_true,o];generalize G82 (((),()),(c,()))=g1 at *;by_cases d:n<=256
  ·have:decide (n<=256)=true:=decide_eq_true d;simp only[this,cond_true];exact⟨_,g1.2.1,rfl,b,(b2l e (by omega)).1,fun _=>(b2l e (by omega)).2⟩
  ·have:decide (n<=256)=false:=decide_eq_false d;simp only[this,cond_false];have q:=b4n (((),()),g1.2) b;obtain⟨f,t,B⟩:=b4o (((),()),g1.2) b;simp only[q,cond_true];generalize G82 (((),()),g1.2)=g2 at *;have r:=b4n (((),()),g2.2) f;obtain⟨g,u,C⟩:=b4o (((),()),g2.2) f;simp only[r,cond_true];generalize G82 (((),()),g2.2)=g3 at *;have s:=b4n (((),()),g3.2) g;obtain⟨k,v,D⟩:=b4o (((),()),g3.2) g;simp only[s,cond_true];generalize G82 (((),()),g3.2)=g4 at *;have a:∀x y z w:Int,0<=x->x<=255->0<=y->y<=255->0<=z->z<=255->0<=w->w<=255 ->
    0<=IntKind.i64.wrap (IntKind.i64.wrap (IntKind.i64.wrap (IntKind.i64.wrap (x*16777216)+IntKind.i64.wrap (y*65536))+IntKind.i64.wrap (z*256))+w):=by
    intro x y z w H d I J K L M N;have w1:IntKind.i64.wrap (x*16777216)=x*16777216:=w64 (by omega) (by omega);have w2:IntKind.i64.wrap (y*65536)=y*65536:=w64 (by omega) (by omega);have E:IntKind.i64.wrap (z*256)=z*256:=w64 (by omega) (by omega);have F:IntKind.i64.wrap (x*16777216+y*65536)=x*16777216+y*65536:=w64 (by omega) (by omega);have G:IntKind.i64.wrap (x*16777216+y*65536+z*256)=x*16777216+y*65536+z*256:=w64 (by omega) (by omega);rw[w1,w2,E,F,G,w64 (by omega) (by omega)];omega
   have j:=a g1.1.1 g2.1.1 g3.1.1 g4.1.1 e A t B u C v D;exact⟨_,g4.2.1,rfl,k,(b2l j (by omega)).1,fun _=>(b2l j (by omega)).2⟩
theorem a0o (x:I34.den) (h:a0c x.2.1):K34 x=true:=by
 obtain⟨m,c,a,_⟩:=a8r x.1.2.1 x.2.1 h;unfold K34;rw[show x=(((),x.1.2.1,()),(x.2.1,()))from rfl,a];rfl
theorem d8l (x:I34.den) (h:a0c x.2.1):a0c (G34 x).2.1 /\ 0<=((G34 x).1.1:Int) /\ ((0:Int)<x.1.2.1->((G34 x).1.1:Int)<x.1.2.1):=by
 obtain⟨m,c,e,a,b,d⟩:=a8r x.1.2.1 x.2.1 h;unfold G34;rw[show F34 x=_ from e];exact⟨a,b,d⟩
theorem a1i (x:I34.den) (h:a0c x.2.1):a0c (G34 x).2.1:=(d8l x h).1
theorem a1R (x:I77.den) (h:a0c x.2.1):K77 x=true:=by
 unfold K77 F77;simp only[a0o (((),x.1.2),x.2) h,cond_true,isSome_some]
theorem a2V (x:I77.den) (h:a0c x.2.1):a0c (G77 x).2.1:=by
 unfold G77 F77;simp only[a0o (((),x.1.2),x.2) h,cond_true,getD_some];exact a1i (((),x.1.2),x.2) h
theorem c6U (l:List Int) (c:List Int×Int×Int×Unit) (h:a0c c) (k:0<l.length):∃(m:Int) (c':List Int×Int×Int×Unit),f0r (((),(),()),(c,l,()))=some ((m,()),(c',l,())) /\ a0c c' /\ m∈l:=by
 obtain⟨m,a,j,e,f,g⟩:=a8r (l.length:Int) c h;unfold f0r;have b:decide (0<=m)=true:=decide_eq_true f;have i:m<(l.length:Int):=g (by omega);have d:decide (m<(l.length:Int))=true:=decide_eq_true i;simp only[K34,G34,j,isSome_some,getD_some,cond_true,b,d,Bool.and_self];refine⟨_,a,rfl,e,?_⟩;rw[a3t _ _ _ (by omega)];exact List.getElem_mem _
theorem a9n (x:f0q.den) (h:a0c x.2.1) (b:0<x.2.2.1.length):d8b x=true:=by
 obtain⟨m,c,a,_⟩:=c6U x.2.2.1 x.2.1 h b;unfold d8b;rw[show x=(((),(),()),(x.2.1,x.2.2.1,()))from rfl,a];rfl
theorem e3p (x:f0q.den) (h:a0c x.2.1) (e:0<x.2.2.1.length):a0c (c2G x).2.1 /\ (c2G x).1.1∈x.2.2.1:=by
 obtain⟨m,c,d,a,b⟩:=c6U x.2.2.1 x.2.1 h e;unfold c2G;rw[show f0r x=_ from d];exact⟨a,b⟩
theorem a6N (x:f0q.den) (h:a0c x.2.1) (a:0<x.2.2.1.length):a0c (c2G x).2.1:=(e3p x h a).1
theorem d8m (a:List Int) (h:a.length<=1048576):∃c,F30 ((a,()),())=some (((),()),(c,())) /\ a0c c:=by
 have g:∃y,d3E ((a,IntKind.i64.wrap (33211+(a.length:Int)),(0:Int),()),())=some y /\ y.1.1=a:=by
  refine a0J (q:=d3D) (fun v=>v.1.1=a /\ 0<=v.1.2.2.1 /\ v.1.2.2.1<=a.length) (fun _ r=>∃y,r=some y /\ y.1.1=a) (fun v=>((a.length:Int)-v.1.2.2.1).toNat) ?_ _ _ ⟨rfl,by simp only;omega,by simp only;omega⟩ (by simp only[e3a];omega);rintro⟨⟨l,hh,i,_⟩,_⟩ f ⟨h0,h1,h2⟩ ih;simp only at h0 h1 h2 ih;subst h0;unfold d3D;by_cases b:i<(l.length:Int)
  ·have a1:decide (0<=i)=true:=by simp;omega
   have a2:decide (i<(l.length:Int))=true:=by simpa using b
   have d:IntKind.i64.wrap (i+1)=i+1:=w64 (by omega) (by omega);simp only[a1,a2,d,Bool.and_self,cond_true];cases decide (i<4000)
   ·exact⟨_,rfl,rfl⟩
   ·exact ih ((l,_,i+1,()),()) ⟨rfl,by simp only;omega,by simp only;omega⟩ (by simp only;omega)
  ·have a2:decide (i<(l.length:Int))=false:=by simpa using b
   simp only[a2,cond_false];exact⟨_,rfl,rfl⟩
 obtain⟨y,j,e⟩:=g;unfold F30;simp only[d7Q,d7R,j,isSome_some,getD_some,cond_true];refine⟨_,rfl,?_,?_⟩
 ·exact Int.le_refl 0
 ·rw[e];exact h
theorem d8n (x:I30.den) (h:x.1.1.length<=1048576):K30 x=true:=by
 obtain⟨c,a,_⟩:=d8m x.1.1 h;unfold K30;rw[show x=((x.1.1,()),())from rfl,a];rfl
theorem c6V (x:I30.den) (h:x.1.1.length<=1048576):a0c (G30 x).2.1:=by
 obtain⟨c,b,a⟩:=d8m x.1.1 h;unfold G30;rw[show F30 x=_ from b];exact a
theorem cu {c} (h:a0c c:=by(repeat ((try dsimp only);first|assumption|(with_reducible first|apply G142_cur|apply G81_cur|apply G146_cur|apply a1i|apply a2V|apply G144_cur|apply G189_cur|apply G143_cur|apply G33_cur)))):a0c c:=h
noncomputable def g7H:a8e:=mkN [] []
noncomputable def f0O (h:a7u.den->Option Unit) (x:a5z.den):Option Unit:=bif K81 (((),x.1.2),x.2) then let a:=G81 (((),x.1.2),x.2);bif a1T a.1.1 then let b:=a0x .f64 .f32 a.1.1;bif b.1 then h (((b.2,()),a.2))else none else a3u fun(c:a9b)=>h (((c.1,()),a.2))else none
theorem f0P (h x) :a3v (e3j) (g7H) (a0B Tryz.f141) a5z a7u h x=f0O h x:=by kernel_rfl
noncomputable def g7I (p141:KI a5z) (Q141:QI a5z a7u) (e141:Nonempty (Ch a5z a7u p141 Q141)):a8e:=mkN [(141,a3w true a5z a7u p141 Q141 e141)] []
noncomputable def f0Q (p141:KI a5z) (Q141:QI a5z a7u) (e141:Nonempty (Ch a5z a7u p141 Q141)) (h:c3X.den->Option Unit) (x:b9B.den):Option Unit:=bif K77 (((),30,()),x.2) then let c:=G77 (((),30,()),x.2);bif c.1.1 then bif d7Z (((),()),c.2) then let b:=d8a (((),()),c.2);bif a1T b.1.1 then let g:=a0x .f64 .f32 b.1.1;bif g.1 then bif d7Z (((),()),b.2) then let a:=d8a (((),()),b.2);bif a1T a.1.1 then let j:=a0x .f64 .f32 a.1.1;bif j.1 then h ((((g.2,j.2),()),a.2))else none else a3u fun(n:a9b)=>h ((((g.2,n.1),()),a.2))else none else none else a3u fun(o:a9b)=>bif d7Z (((),()),b.2) then let a:=d8a (((),()),b.2);bif a1T a.1.1 then let k:=a0x .f64 .f32 a.1.1;bif k.1 then h ((((o.1,k.2),()),a.2))else none else a3u fun(n:a9b)=>h ((((o.1,n.1),()),a.2))else none else none else bif K77 (((),20,()),c.2) then let b:=G77 (((),20,()),c.2);bif b.1.1 then let d:=set (set (set (set (replicate 4 (zero (Ty.int IntKind.i64))) 0 100) 1 (-100)) 2 101) 3 0;bif d8b (((),(),()),b.2.1,d,()) then a3u fun(l:Ch a5z a7u p141 Q141)=>let i:=c2G (((),(),()),b.2.1,d,());bif p141 (((),100,()),i.2.1,()) then let e:=l.val (((),100,()),i.2.1,());h ((((nearest .f32 i.1.1,e.1.1),()),e.2))else none else none else a3u fun(f:Ch a5z a7u p141 Q141)=>bif p141 (((),15,()),b.2) then a3u fun(m:Ch a5z a7u p141 Q141)=>let a:=f.val (((),15,()),b.2);bif p141 (((),15,()),a.2) then let d:=m.val (((),15,()),a.2);h ((((a.1.1,d.1.1),()),d.2))else none else none else none else none
theorem f0R (p141 Q141 e141 h x) :a3v (e3m) (g7I p141 Q141 e141) (a0B Tryz.f128) b9B c3X h x=f0Q p141 Q141 e141 h x:=by kernel_rfl
noncomputable def N75 (p141:KI a5z) (Q141:QI a5z a7u) (e141:Nonempty (Ch a5z a7u p141 Q141)):a8e:=mkN [(141,a3w true a5z a7u p141 Q141 e141)] []
noncomputable def g7J (p141:KI a5z) (Q141:QI a5z a7u) (e141:Nonempty (Ch a5z a7u p141 Q141)) (h:O75.den->Option Unit) (x:I75.den):Option Unit:=bif K34 (((),5,()),x.2) then let k:=G34 (((),5,()),x.2);let o:=wrap .i64 (1+k.1.1);let p:=set (set (set (set (set (set (replicate 6 (zero Ty.str)) 0 { data:=#[109,97,105,110] }) 1 { data:=#[106,105,98] }) 2 { data:=#[103,101,110,111,97] }) 3 { data:=#[115,116,111,114,109] }) 4 { data:=#[99,111,100,101] }) 5 { data:=#[107,105,116,101] };let l:=(((),(),(),o,()),k.2.1,p,replicate 0 (zero S68),());bif d8f l then let c:=b0I l;let g:=(length c.2.2.1:Int);bif K34 (((),g,()),c.2.1,()) then let a:=G34 (((),g,()),c.2.1,());bif K34 (((),24,()),a.2) then let b:=G34 (((),24,()),a.2);bif b.1.1==0 then bif decide (0<=0)&&decide (0<g) then let j:=set (set (set (set (set (replicate 5 (zero Ty.str)) 0 { data:=#[] }) 1 { data:=#[74,105,98] }) 2 { data:=#[97,98,99,100,101,102,103,104,105,106,107,108,109,110,111,112,113] }) 3 { data:=#[97,98,99,100,101,102,103,104,105,106,107,108,109,110,111,112] }) 4 (getD c.2.2.1 (toNat 0) (zero S68)).1;let m:=(((),(),()),b.2.1,j,());bif f0e m then bif decide (0<=a.1.1)&&decide (a.1.1<g) then let i:=e3c m;h ((((),()),i.2.1,set c.2.2.1 (toNat a.1.1) (i.1.1,(getD c.2.2.1 (toNat a.1.1) (zero S68)).2),()))else none else none else none else bif b.1.1==1 then a3u fun(f:Ch a5z a7u p141 Q141)=>bif p141 (((),300,()),b.2) then bif decide (0<=a.1.1)&&decide (a.1.1<g) then let e:=f.val (((),300,()),b.2);let d:=getD c.2.2.1 (toNat a.1.1) (zero S68);h ((((),()),e.2.1,set c.2.2.1 (toNat a.1.1) (d.1,e.1.1,d.2.2),()))else none else none else bif b.1.1==2 then a3u fun(q:Ch a5z a7u p141 Q141)=>bif p141 (((),300,()),b.2) then bif decide (0<=a.1.1)&&decide (a.1.1<g) then let e:=q.val (((),300,()),b.2);let d:=getD c.2.2.1 (toNat a.1.1) (zero S68);h ((((),()),e.2.1,set c.2.2.1 (toNat a.1.1) (d.1,d.2.1,e.1.1,d.2.2.2),()))else none else none else bif b.1.1==3 then bif e7q (((),()),b.2) then bif decide (0<=a.1.1)&&decide (a.1.1<g) then let e:=e7r (((),()),b.2);let d:=getD c.2.2.1 (toNat a.1.1) (zero S68);h ((((),()),e.2.1,set c.2.2.1 (toNat a.1.1) (d.1,d.2.1,d.2.2.1,d.2.2.2.1,wrap .i64 (e.1.1-2),()),()))else none else none else bif b.1.1==4 then bif e7q (((),()),b.2) then bif decide (0<=a.1.1)&&decide (a.1.1<g) then let e:=e7r (((),()),b.2);let d:=getD c.2.2.1 (toNat a.1.1) (zero S68);h ((((),()),e.2.1,set c.2.2.1 (toNat a.1.1) (d.1,d.2.1,d.2.2.1,wrap .i64 (e.1.1-2),d.2.2.2.2),()))else none else none else bif b.1.1==5 then h ((((),()),b.2.1,replicate 0 (zero S68),()))else bif b.1.1==6 then let n:=(((),(),()),b.2.1,c.2.2);bif c6P n then h ((((),()),(b2k n).2))else none else h ((((),()),b.2.1,c.2.2))else none else none else none else none
theorem g1H (p141 Q141 e141 h x) :a3v (f0w) (N75 p141 Q141 e141) (a0B Tryz.f75) I75 O75 h x=g7J p141 Q141 e141 h x:=by kernel_rfl
noncomputable def N79 (p128:KI b9B) (Q128:QI b9B c3X) (e128:Nonempty (Ch b9B c3X p128 Q128)):a8e:=mkN [(128,a3w true b9B c3X p128 Q128 e128)] []
noncomputable def g7K (p128:KI b9B) (Q128:QI b9B c3X) (e128:Nonempty (Ch b9B c3X p128 Q128)) (h:O79.den->Option Unit) (x:I79.den):Option Unit:=bif K74 (((),()),x.2) then let d:=G74 (((),()),x.2);let k:=(length d.2.2.1:Int);bif K34 (((),k,()),d.2.1,()) then let g:=G34 (((),k,()),d.2.1,());bif K34 (((),24,()),g.2) then let e:=G34 (((),24,()),g.2);bif e.1.1==0 then bif K82 (((),()),e.2) then let b:=G82 (((),()),e.2);let c:=set (replicate 1 (zero (Ty.int IntKind.u8))) 0 (wrap .u8 b.1.1);bif g1C (c,()) then bif decide (0<=g.1.1)&&decide (g.1.1<k) then h ((((set d.2.2.1 (toNat g.1.1) ((g7F (c,())).1,(getD d.2.2.1 (toNat g.1.1) (zero a1r)).2),d.2.2.2),()),b.2))else none else none else none else bif e.1.1==1 then a3u fun(f:Ch b9B c3X p128 Q128)=>bif K34 (((),13,()),e.2) then let b:=G34 (((),13,()),e.2);bif p128 (((),()),b.2) then bif decide (0<=g.1.1)&&decide (g.1.1<k) then bif decide (0<=b.1.1)&&decide (b.1.1<(↑13:Int)) then let c:=getD d.2.2.1 (toNat g.1.1) (zero a1r);let a:=f.val (((),()),b.2);let n:=0+1+1+1+1+1+1+1+1+1+1+1+1;let o:=0+1+1+1+1+1+1+1+1+1+1+1;let p:=0+1+1+1+1+1+1+1+1+1+1;let q:=0+1+1+1+1+1+1+1+1+1;let r:=0+1+1+1+1+1+1+1+1;let s:=0+1+1+1+1+1+1+1;let i:=0+1+1+1+1+1+1;h ((((set d.2.2.1 (toNat g.1.1) (c.1,((bif beq 0 (toNat b.1.1)then a.1.1.1 else c.2.1.1.1,bif beq 0 (toNat b.1.1)then a.1.1.2 else c.2.1.1.2),(bif beq (0+1) (toNat b.1.1)then a.1.1.1 else c.2.1.2.1.1,bif beq (0+1) (toNat b.1.1)then a.1.1.2 else c.2.1.2.1.2),(bif beq (0+1+1) (toNat b.1.1)then a.1.1.1 else c.2.1.2.2.1.1,bif beq (0+1+1) (toNat b.1.1)then a.1.1.2 else c.2.1.2.2.1.2),(bif beq (0+1+1+1) (toNat b.1.1)then a.1.1.1 else c.2.1.2.2.2.1.1,bif beq (0+1+1+1) (toNat b.1.1)then a.1.1.2 else c.2.1.2.2.2.1.2),(bif beq (0+1+1+1+1) (toNat b.1.1)then a.1.1.1 else c.2.1.2.2.2.2.1.1,bif beq (0+1+1+1+1) (toNat b.1.1)then a.1.1.2 else c.2.1.2.2.2.2.1.2),(bif beq (0+1+1+1+1+1) (toNat b.1.1)then a.1.1.1 else c.2.1.2.2.2.2.2.1.1,bif beq (0+1+1+1+1+1) (toNat b.1.1)then a.1.1.2 else c.2.1.2.2.2.2.2.1.2),(bif beq i (toNat b.1.1)then a.1.1.1 else c.2.1.2.2.2.2.2.2.1.1,bif beq i (toNat b.1.1)then a.1.1.2 else c.2.1.2.2.2.2.2.2.1.2),(bif beq s (toNat b.1.1)then a.1.1.1 else c.2.1.2.2.2.2.2.2.2.1.1,bif beq s (toNat b.1.1)then a.1.1.2 else c.2.1.2.2.2.2.2.2.2.1.2),(bif beq r (toNat b.1.1)then a.1.1.1 else c.2.1.2.2.2.2.2.2.2.2.1.1,bif beq r (toNat b.1.1)then a.1.1.2 else c.2.1.2.2.2.2.2.2.2.2.1.2),(bif beq q (toNat b.1.1)then a.1.1.1 else c.2.1.2.2.2.2.2.2.2.2.2.1.1,bif beq q (toNat b.1.1)then a.1.1.2 else c.2.1.2.2.2.2.2.2.2.2.2.1.2),(bif beq p (toNat b.1.1)then a.1.1.1 else c.2.1.2.2.2.2.2.2.2.2.2.2.1.1,bif beq p (toNat b.1.1)then a.1.1.2 else c.2.1.2.2.2.2.2.2.2.2.2.2.1.2),(bif beq o (toNat b.1.1)then a.1.1.1 else c.2.1.2.2.2.2.2.2.2.2.2.2.2.1.1,bif beq o (toNat b.1.1)then a.1.1.2 else c.2.1.2.2.2.2.2.2.2.2.2.2.2.1.2),(bif beq n (toNat b.1.1)then a.1.1.1 else c.2.1.2.2.2.2.2.2.2.2.2.2.2.2.1.1,bif beq n (toNat b.1.1)then a.1.1.2 else c.2.1.2.2.2.2.2.2.2.2.2.2.2.2.1.2),()),()),d.2.2.2),()),a.2))else none else none else none else none else bif e.1.1==2 then let l:=(length d.2.2.2.1:Int);bif K34 (((),l,()),e.2) then let b:=G34 (((),l,()),e.2);bif e7q (((),()),b.2) then bif decide (0<=b.1.1)&&decide (b.1.1<l) then let c:=e7r (((),()),b.2);h ((((d.2.2.1,set d.2.2.2.1 (toNat b.1.1) c.1.1,()),()),c.2))else none else none else none else bif e.1.1==3 then h ((((d.2.2.1,replicate 0 (zero (Ty.int IntKind.i64)),()),()),e.2))else bif e.1.1==4 then h ((((replicate 0 (zero a1r),d.2.2.2),()),e.2))else bif e.1.1==5 then let t:=(((),(),(),()),e.2.1,((),(),()),((),(),()),d.2.2);bif b6K t then let b:=b6L t;h (((b.2.2.2.2,()),b.2.1,()))else none else bif e.1.1==6 then let u:=(length d.2.2.2.1:Int);let m:=wrap .i64 (u-1);bif decide (0<=m)&&decide (m<u) then let j:=zero (Ty.int IntKind.i64);let a:=set (replicate 1 j) 0 (wrap .i64 ((wrap .i64 ((getD d.2.2.2.1 (toNat m) j)+21600))-1));bif a0k (length d.2.2.2.1+length a) then h ((((d.2.2.1,d.2.2.2.1++a,()),()),e.2))else none else none else h (((d.2.2,()),e.2))else none else none else none
theorem g1I (p128 Q128 e128 h x) :a3v (f6W) (N79 p128 Q128 e128) (a0B Tryz.f79) I79 O79 h x=g7K p128 Q128 e128 h x:=by kernel_rfl
abbrev A8:Ty:=.cons (.slice (.int .u8)) (.nil)
abbrev R8:Ty:=.cons (.bool) (.nil)
def F8 (x:Den A8):OD R8:=some (decide ((length x.1:Int)>1048576),())
def K8 (x):=(F8 x).isSome
def G8 (x):=(F8 x).getD (zero R8)
def m8:=(8,a0b A8 R8 K8 G8)
theorem h1d:a0d Tryz.prog m8:=fnE nS Tryz.func8
abbrev A44:Ty:=.cons (.int .i64) (.cons (.int .i64) (.cons (.int .i64) (.nil)))
abbrev R44:Ty:=.cons (.bool) (.nil)
def F44 (x:Den A44):OD R44:=bif decide (x.1 ≥ x.2.1) then some (decide (x.1<=x.2.2.1),())else some (false,())
def K44 (x):=(F44 x).isSome
def G44 (x):=(F44 x).getD (zero R44)
def m44:=(44,a0b A44 R44 K44 G44)
theorem a6h:a0d Tryz.prog m44:=fnE nS Tryz.func44
abbrev g7L:Ty:=.cons (.flt .f32) (.nil)
abbrev g1J:Ty:=.cons (.bool) (.nil)
def f0S (x:Den g7L):OD g1J:=bif fgt .f32 x.1 0||feq .f32 x.1 0 then some (flt .f32 x.1 1112014848||feq .f32 x.1 1112014848,())else some (false,())
def e3q (x):=(f0S x).isSome
def e3r (x):=(f0S x).getD (zero g1J)
def h1e:=(107,a0b g7L g1J e3q e3r)
theorem c6W:a0d Tryz.prog h1e:=fnE nS Tryz.func107
abbrev g7M:Ty:=.cons (.flt .f32) (.nil)
abbrev g1K:Ty:=.cons (.bool) (.nil)
def f0T (x:Den g7M):OD g1K:=bif e3q x then some (!(e3r x).1,())else none
def g1L (x):=(f0T x).isSome
def g1M (x):=(f0T x).getD (zero g1K)
def g7N:=(158,a0b g7M g1K g1L g1M)
theorem d8o:a0d Tryz.prog g7N:=fnE (s1 c6W) Tryz.func158
abbrev g7O:Sg:=⟨[.val (.slice (.flt .f32)),.fnv 158 []],[]⟩
abbrev g1N:Sg:=⟨[.val (.int .i64)],[]⟩
abbrev b9F:Type:=(b0d×Unit×a4h)×Unit
abbrev d8p:Type:=a4r
abbrev d8q:Type:=c5o
def d8r:LR:=⟨[0,1,7,8],[],0,[],[],⟨[(0,e2x),(1,.one (.fn 158 [])),(7,om0),(8,om0)],[],0,0⟩,⟨[],[],0,0⟩,⟨[(4,om0)],[],0,0⟩⟩
def b4p (f:b9F->Option (d8p⊕d8q)) (v:b9F):Option (d8p⊕d8q):=bif decide (v.1.2.2.2.1<v.1.2.2.1) then bif decide (0<=v.1.2.2.2.1)&&decide (v.1.2.2.2.1<(length v.1.1:Int)) then let a:=getD v.1.1 (toNat v.1.2.2.2.1) (zero (Ty.flt .f32));bif g1L (a,()) then bif (g1M (a,())).1 then some (Sum.inr (v.1.2.2.2,()))else f (((v.1.1,(),v.1.2.2.1,wrap .i64 (v.1.2.2.2.1+1),()),()))else none else none else some (Sum.inl ((),()))
def b9G (v:b9F):Nat:=v.1.1.length+v.1.2.2.1.natAbs+v.1.2.2.2.1.natAbs+1000
def b0K (v:b9F):=a0F b4p (b9G v) v
def c6X (v):=(b0K v).isSome
def c6Y (v):=isR (b0K v)
def g1O (v):=xOf default (b0K v)
def c6Z (v):=yOf default (b0K v)
def f6X (x:g7O.den):Option (g1N.den):=let a:=((x.1.1,(),(length x.1.1:Int),0,()),());bif c6X a then bif c6Y a then some (c6Z a)else some ((-1,()),())else none
def g1P (x):=(f6X x).isSome
def g1Q (x):=(f6X x).getD (a1b g1N)
def h1f:=(210,a0H false g7O g1N g1P g1Q)
noncomputable def g1R:=gE [g7N] Tryz.f210 (lps:=[(2,lmR d8r b0K)])
theorem d3X:EvR g1R (lp Tryz.f210 0) d8r b4p:=fun _ _=>by kernel_rfl
theorem f0U:a0d Tryz.prog h1f:=a4P (a0C (s1 d8o)) (a1q Tryz.func210 rfl rfl rfl (by kernel_rfl) (a0f (by kernel_rfl) (s1 (lR d3X b9G)))) false fun _=>by kernel_rfl
abbrev g7P:Sg:=⟨[.val (.slice (.flt .f32)),.fnv 158 []],[]⟩
abbrev g1S:Sg:=⟨[.val (.bool)],[]⟩
def f0V (x:g7P.den):Option (g1S.den):=bif g1P ((x.1.1,(),()),()) then some ((decide ((g1Q ((x.1.1,(),()),())).1.1 ≥ 0),()),())else none
def g1T (x):=(f0V x).isSome
def g1U (x):=(f0V x).getD (a1b g1S)
def g7Q:=(157,a0H false g7P g1S g1T g1U)
theorem f0W:a0d Tryz.prog g7Q:=sgE false (s2 f0U d8o) Tryz.func157
abbrev A90:Ty:=.cons (S27) (.nil)
abbrev R90:Ty:=.cons (.bool) (.nil)
abbrev b9H:Type:=(Unit×c5k×a4h)×b8N
abbrev d8s:Type:=a4r
abbrev d8t:Type:=ty9
def d8u:LR:=⟨[1,99,100,101],[],4,[],[],⟨[(1,om1),(99,.one (.sl (.slice (.flt .f32)))),(100,om0),(101,om0)],b5V,1,0⟩,⟨[],[],0,0⟩,⟨a9h,[],0,0⟩⟩
def b4q (f:b9H->Option (d8s⊕d8t)) (v:b9H):Option (d8s⊕d8t):=bif decide (v.1.2.2.2.1<v.1.2.2.1) then bif decide (0<=v.1.2.2.2.1)&&decide (v.1.2.2.2.1<(length v.1.2.1:Int)) then let a:=getD v.1.2.1 (toNat v.1.2.2.2.1) (zero (Ty.slice (Ty.flt .f32)));bif (length a:Int) != (length v.2.1.2.1:Int) then some (Sum.inr ((false,()),()))else bif g1T ((a,(),()),()) then bif (g1U ((a,(),()),())).1.1 then some (Sum.inr ((false,()),()))else f ((((),v.1.2.1,v.1.2.2.1,wrap .i64 (v.1.2.2.2.1+1),()),v.2))else none else none else some (Sum.inl ((),()))
def c7a (v:b9H):Nat:=v.1.2.1.length+v.1.2.2.1.natAbs+v.1.2.2.2.1.natAbs+v.2.1.1.length+v.2.1.2.1.length+v.2.1.2.2.1.length+1000
def b0L (v:b9H):=a0F b4q (c7a v) v
def c7b (v):=(b0L v).isSome
def c7c (v):=isR (b0L v)
def g1V (v):=xOf default (b0L v)
def c7d (v):=yOf default (b0L v)
abbrev b9I:Type:=(Unit×ty4×a4h)×b8N
abbrev d8v:Type:=a4r×b8N
abbrev d8w:Type:=ty9
def d8x:LR:=⟨[1,62,63,64],[],2,[1],[],⟨[(1,om1),(62,e2y),(63,om0),(64,om0)],b5V,1,0⟩,⟨[(1,om1)],b5V,1,0⟩,⟨a9h,[],0,0⟩⟩
def b4r (f:b9I->Option (d8v⊕d8w)) (v:b9I):Option (d8v⊕d8w):=bif decide (v.1.2.2.2.1<v.1.2.2.1) then bif decide (0<=v.1.2.2.2.1)&&decide (v.1.2.2.2.1<(length v.1.2.1:Int)) then bif decide (v.1.2.2.2.1>0) then let a:=wrap .i64 (v.1.2.2.2.1-1);bif decide (0<=a)&&decide (a<(length v.2.1.2.1:Int)) then bif decide ((getD v.1.2.1 (toNat v.1.2.2.2.1) (zero (Ty.int IntKind.i64)))<=(getD v.2.1.2.1 (toNat a) (zero (Ty.int IntKind.i64)))) then some (Sum.inr ((false,()),()))else f ((((),v.1.2.1,v.1.2.2.1,wrap .i64 (v.1.2.2.2.1+1),()),v.2))else none else f ((((),v.1.2.1,v.1.2.2.1,wrap .i64 (v.1.2.2.2.1+1),()),v.2))else none else some (Sum.inl (((),()),v.2))
def c7e (v:b9I):Nat:=v.1.2.1.length+v.1.2.2.1.natAbs+v.1.2.2.2.1.natAbs+v.2.1.1.length+v.2.1.2.1.length+v.2.1.2.2.1.length+1000
def b0M (v:b9I):=a0F b4r (c7e v) v
def c7f (v):=(b0M v).isSome
def c7g (v):=isR (b0M v)
def c7h (v):=xOf default (b0M v)
def c7i (v):=yOf default (b0M v)
abbrev d3Y:Type:=(Unit×b0d×a4h)×b8N
abbrev f0X:Type:=a4r×b8N
abbrev f0Y:Type:=ty9
def f0Z:LR:=⟨[1,31,32,33],[],0,[1],[],⟨[(1,om1),(31,e2x),(32,om0),(33,om0)],b5V,1,0⟩,⟨[(1,om1)],b5V,1,0⟩,⟨a9h,[],0,0⟩⟩
def c7j (f:d3Y->Option (f0X⊕f0Y)) (v:d3Y):Option (f0X⊕f0Y):=bif decide (v.1.2.2.2.1<v.1.2.2.1) then bif decide (0<=v.1.2.2.2.1)&&decide (v.1.2.2.2.1<(length v.1.2.1:Int)) then let a:=getD v.1.2.1 (toNat v.1.2.2.2.1) (zero (Ty.flt .f32));bif fgt .f32 a 0 then bif !(flt .f32 a 1120403456||feq .f32 a 1120403456) then some (Sum.inr ((false,()),()))else bif decide (v.1.2.2.2.1>0) then let b:=wrap .i64 (v.1.2.2.2.1-1);bif decide (0<=b)&&decide (b<(length v.2.1.1:Int)) then bif !fgt .f32 a (getD v.2.1.1 (toNat b) (zero (Ty.flt .f32))) then some (Sum.inr ((false,()),()))else f ((((),v.1.2.1,v.1.2.2.1,wrap .i64 (v.1.2.2.2.1+1),()),v.2))else none else f ((((),v.1.2.1,v.1.2.2.1,wrap .i64 (v.1.2.2.2.1+1),()),v.2))else some (Sum.inr ((false,()),()))else none else some (Sum.inl (((),()),v.2))
def e3s (v:d3Y):Nat:=v.1.2.1.length+v.1.2.2.1.natAbs+v.1.2.2.2.1.natAbs+v.2.1.1.length+v.2.1.2.1.length+v.2.1.2.2.1.length+1000
def c2I (v:d3Y):=a0F c7j (e3s v) v
def d8y (v):=(c2I v).isSome
def d8z (v):=isR (c2I v)
def d8A (v):=xOf default (c2I v)
def d8B (v):=yOf default (c2I v)
def F90 (x:Den A90):OD R90:=bif K44 ((length x.1.1:Int),1,12,()) then bif !(G44 ((length x.1.1:Int),1,12,())).1 then some (false,())else bif K44 ((length x.1.2.1:Int),2,24,()) then bif !(G44 ((length x.1.2.1:Int),2,24,())).1 then some (false,())else bif (length x.1.2.2.1:Int) != (length x.1.1:Int) then some (false,())else bif d8y (((),x.1.1,(length x.1.1:Int),0,()),x) then bif d8z (((),x.1.1,(length x.1.1:Int),0,()),x) then some (d8B (((),x.1.1,(length x.1.1:Int),0,()),x)).1 else let b:=d8A (((),x.1.1,(length x.1.1:Int),0,()),x);bif c7f (((),b.2.1.2.1,(length b.2.1.2.1:Int),0,()),b.2) then bif c7g (((),b.2.1.2.1,(length b.2.1.2.1:Int),0,()),b.2) then some (c7i (((),b.2.1.2.1,(length b.2.1.2.1:Int),0,()),b.2)).1 else let a:=c7h (((),b.2.1.2.1,(length b.2.1.2.1:Int),0,()),b.2);bif decide (0<=0)&&decide (0<(length a.2.1.2.1:Int)) then bif (getD a.2.1.2.1 (toNat 0) (zero (Ty.int IntKind.i64))) != 0 then some (false,())else let c:=wrap .i64 ((length a.2.1.2.1:Int)-1);bif decide (0<=c)&&decide (c<(length a.2.1.2.1:Int)) then bif (getD a.2.1.2.1 (toNat c) (zero (Ty.int IntKind.i64))) != 180 then some (false,())else bif c7b (((),a.2.1.2.2.1,(length a.2.1.2.2.1:Int),0,()),a.2) then bif c7c (((),a.2.1.2.2.1,(length a.2.1.2.2.1:Int),0,()),a.2) then some (c7d (((),a.2.1.2.2.1,(length a.2.1.2.2.1:Int),0,()),a.2)).1 else some (true,())else none else none else none else none else none else none else none
def K90 (x):=(F90 x).isSome
def G90 (x):=(F90 x).getD (zero R90)
def m90:=(90,a0b A90 R90 K90 G90)
noncomputable def g1W:=gE [m44,g7Q] Tryz.f90 (lps:=[(4,lmR f0Z c2I),(10,lmR d8x b0M),(18,lmR d8u b0L)])
theorem e3t:EvR g1W (lp Tryz.f90 0) f0Z c7j:=fun _ _=>by kernel_rfl
theorem d3Z:EvR g1W (lp Tryz.f90 1) d8x b4r:=fun _ _=>by kernel_rfl
theorem d4a:EvR g1W (lp Tryz.f90 2) d8u b4q:=fun _ _=>by kernel_rfl
theorem f1a:a0d Tryz.prog m90:=a0y (a0C (s2 a6h f0W)) (a1q Tryz.func90 rfl rfl rfl (by kernel_rfl) (a0f (by kernel_rfl) (s3 (lR e3t e3s) (lR d3Z c7e) (lR d4a c7a)))) fun _=>by kernel_rfl
abbrev A94:Ty:=.cons (.flt .f32) (.nil)
abbrev R94:Ty:=.cons (.flt .f32) (.nil)
def F94 (x:Den A94):OD R94:=bif flt .f32 x.1 0 then some (a3H .f32 x.1,())else some (x)
def K94 (x):=(F94 x).isSome
def G94 (x):=(F94 x).getD (zero R94)
def m94:=(94,a0b A94 R94 K94 G94)
theorem g1X:a0d Tryz.prog m94:=fnE nS Tryz.func94
abbrev A45:Ty:=.cons (.cpx .f32) (.nil)
abbrev R45:Ty:=.cons (.bool) (.nil)
def F45 (x:Den A45):OD R45:=bif K94 (x.1.1,()) then let a:=G94 (x.1.1,());bif flt .f32 a.1 1120403456||feq .f32 a.1 1120403456 then bif K94 (x.1.2,()) then let b:=G94 (x.1.2,());some (flt .f32 b.1 1120403456||feq .f32 b.1 1120403456,())else none else some (false,())else none
def K45 (x):=(F45 x).isSome
def G45 (x):=(F45 x).getD (zero R45)
def m45:=(45,a0b A45 R45 K45 G45)
theorem b2m:a0d Tryz.prog m45:=fnE (s1 g1X) Tryz.func45
abbrev g7R:Ty:=.cons (.slice (.cpx .f32)) (.nil)
abbrev g1Y:Ty:=.cons (.bool) (.nil)
abbrev b9J:Type:=(List (Den (.cpx .f32))×a4h)×Unit
abbrev d8C:Type:=a4r
abbrev d8D:Type:=ty9
def d8E:LR:=⟨[5,6,7],[],0,[],[],⟨[(5,.one (.sl (.cpx .f32))),(6,om0),(7,om0)],[],0,0⟩,⟨[],[],0,0⟩,⟨a9h,[],0,0⟩⟩
def b4s (f:b9J->Option (d8C⊕d8D)) (v:b9J):Option (d8C⊕d8D):=bif decide (v.1.2.2.1<v.1.2.1) then bif decide (0<=v.1.2.2.1)&&decide (v.1.2.2.1<(length v.1.1:Int)) then let a:=getD v.1.1 (toNat v.1.2.2.1) (zero (Ty.cpx FloatKind.f32));bif K45 (a,()) then bif !(G45 (a,())).1 then some (Sum.inr ((false,()),()))else f (((v.1.1,v.1.2.1,wrap .i64 (v.1.2.2.1+1),()),()))else none else none else some (Sum.inl ((),()))
def c7k (v:b9J):Nat:=v.1.1.length+v.1.2.1.natAbs+v.1.2.2.1.natAbs+1000
def b0N (v:b9J):=a0F b4s (c7k v) v
def c7l (v):=(b0N v).isSome
def c7m (v):=isR (b0N v)
def g1Z (v):=xOf default (b0N v)
def c7n (v):=yOf default (b0N v)
def e7u (x:Den g7R):OD g1Y:=let a:=((x.1,(length x.1:Int),0,()),());bif c7l a then bif c7m a then some (c7n a).1 else some (true,())else none
def f1b (x):=(e7u x).isSome
def f1c (x):=(e7u x).getD (zero g1Y)
def g7S:=(159,a0b g7R g1Y f1b f1c)
noncomputable def g2a:=gE [m45] Tryz.f159 (lps:=[(2,lmR d8E b0N)])
theorem d4b:EvR g2a (lp Tryz.f159 0) d8E b4s:=fun _ _=>by kernel_rfl
theorem d8F:a0d Tryz.prog g7S:=a0y (a0C (s1 b2m)) (a1q Tryz.func159 rfl rfl rfl (by kernel_rfl) (a0f (by kernel_rfl) (s1 (lR d4b c7k)))) fun _=>by kernel_rfl
abbrev A61:Ty:=.cons (.cpx .f64) (.nil)
abbrev R61:Ty:=.cons (.bool) (.nil)
def F61 (x:Den A61):OD R61:=bif e8E (x.1.1,()) then let a:=e8F (x.1.1,());bif flt .f64 a.1 4726483295884279808||feq .f64 a.1 4726483295884279808 then bif e8E (x.1.2,()) then let b:=e8F (x.1.2,());some (flt .f64 b.1 4726483295884279808||feq .f64 b.1 4726483295884279808,())else none else some (false,())else none
def K61 (x):=(F61 x).isSome
def G61 (x):=(F61 x).getD (zero R61)
def m61:=(61,a0b A61 R61 K61 G61)
theorem b6M:a0d Tryz.prog m61:=fnE (s1 e8H) Tryz.func61
abbrev A63:Ty:=.cons (S33) (.nil)
abbrev R63:Ty:=.cons (.bool) (.nil)
def F63 (x:Den A63):OD R63:=bif K44 (x.1.1,-10000,10000,()) then bif (G44 (x.1.1,-10000,10000,())).1 then bif K44 (x.1.2.1,-10000,10000,()) then some (G44 (x.1.2.1,-10000,10000,()))else none else some (false,())else none
def K63 (x):=(F63 x).isSome
def G63 (x):=(F63 x).getD (zero R63)
def m63:=(63,a0b A63 R63 K63 G63)
theorem d4c:a0d Tryz.prog m63:=fnE (s1 a6h) Tryz.func63
abbrev A23:Ty:=.cons (.cpx .f64) (.nil)
abbrev R23:Ty:=.cons (S33) (.cons (.bool) (.nil))
def F23 (x:Den A23):OD R23:=bif K61 x then bif !(G61 x).1 then some ((0,0,()),false,())else bif K62 (x.1.1,()) then let c:=G62 (x.1.1,());bif a6n .f64 c.1 IntKind.i64 then bif K62 (x.1.2,()) then let d:=G62 (x.1.2,());bif a6n .f64 d.1 IntKind.i64 then let a:=f2i .f64 c.1;let b:=f2i .f64 d.1;bif K63 ((a,b,()),()) then bif !(G63 ((a,b,()),())).1 then some ((0,0,()),false,())else some ((a,b,()),true,())else none else none else none else none else none else none
def K23 (x):=(F23 x).isSome
def G23 (x):=(F23 x).getD (zero R23)
def m23:=(23,a0b A23 R23 K23 G23)
theorem e3u:a0d Tryz.prog m23:=fnE (s3 b6M f9F d4c) Tryz.func23
abbrev A43:Ty:=.cons (.int .i64) (.nil)
abbrev R43:Ty:=.cons (.bool) (.nil)
def F43 (x:Den A43):OD R43:=bif K44 (x.1,0,10000000,()) then some (G44 (x.1,0,10000000,()))else none
def K43 (x):=(F43 x).isSome
def G43 (x):=(F43 x).getD (zero R43)
def m43:=(43,a0b A43 R43 K43 G43)
theorem c7o:a0d Tryz.prog m43:=fnE (s1 a6h) Tryz.func43
abbrev A91:Ty:=.cons (S30) (.nil)
abbrev R91:Ty:=.cons (.bool) (.nil)
abbrev b9K:Type:=(Unit×ty4×a4h)×b3P
abbrev d8G:Type:=a4r
abbrev d8H:Type:=ty9
def d8I:LR:=⟨[1,38,39,40],[],2,[],[],⟨[(1,om1),(38,e2y),(39,om0),(40,om0)],c2C,1,0⟩,⟨[],[],0,0⟩,⟨a9h,[],0,0⟩⟩
def b4t (f:b9K->Option (d8G⊕d8H)) (v:b9K):Option (d8G⊕d8H):=bif decide (v.1.2.2.2.1<v.1.2.2.1) then bif decide (0<=v.1.2.2.2.1)&&decide (v.1.2.2.2.1<(length v.1.2.1:Int)) then let a:=getD v.1.2.1 (toNat v.1.2.2.2.1) (zero (Ty.int IntKind.i64));bif K43 (a,()) then bif !(G43 (a,())).1 then some (Sum.inr ((false,()),()))else bif decide (v.1.2.2.2.1>0) then let b:=wrap .i64 (v.1.2.2.2.1-1);bif decide (0<=b)&&decide (b<(length v.2.1.2.1:Int)) then bif decide (a<(wrap .i64 ((getD v.2.1.2.1 (toNat b) (zero (Ty.int IntKind.i64)))+21600))) then some (Sum.inr ((false,()),()))else f ((((),v.1.2.1,v.1.2.2.1,wrap .i64 (v.1.2.2.2.1+1),()),v.2))else none else f ((((),v.1.2.1,v.1.2.2.1,wrap .i64 (v.1.2.2.2.1+1),()),v.2))else none else none else some (Sum.inl ((),()))
def c7p (v:b9K):Nat:=v.1.2.1.length+v.1.2.2.1.natAbs+v.1.2.2.2.1.natAbs+v.2.1.1.length+v.2.1.2.1.length+1000
def b0O (v:b9K):=a0F b4t (c7p v) v
def c7q (v):=(b0O v).isSome
def c7r (v):=isR (b0O v)
def g2b (v):=xOf default (b0O v)
def c7s (v):=yOf default (b0O v)
abbrev d4d:Type:=(Unit×c5l×a4h)×b3P
abbrev f1d:Type:=a4r×b3P
abbrev f1e:Type:=ty9
def f1f:LR:=⟨[1,20,21,22],[],0,[1],[],⟨[(1,om1),(20,.one (.sl (a1r))),(21,om0),(22,om0)],c2C,1,0⟩,⟨[(1,om1)],c2C,1,0⟩,⟨a9h,[],0,0⟩⟩
def c7t (f:d4d->Option (f1d⊕f1e)) (v:d4d):Option (f1d⊕f1e):=bif decide (v.1.2.2.2.1<v.1.2.2.1) then bif decide (0<=v.1.2.2.2.1)&&decide (v.1.2.2.2.1<(length v.1.2.1:Int)) then let a:=getD v.1.2.1 (toNat v.1.2.2.2.1) (zero a1r);bif K61 (a.1,()) then bif !(G61 (a.1,())).1 then some (Sum.inr ((false,()),()))else bif f1b ([a.2.1.1,a.2.1.2.1,a.2.1.2.2.1,a.2.1.2.2.2.1,a.2.1.2.2.2.2.1,a.2.1.2.2.2.2.2.1,a.2.1.2.2.2.2.2.2.1,a.2.1.2.2.2.2.2.2.2.1,a.2.1.2.2.2.2.2.2.2.2.1,a.2.1.2.2.2.2.2.2.2.2.2.1,a.2.1.2.2.2.2.2.2.2.2.2.2.1,a.2.1.2.2.2.2.2.2.2.2.2.2.2.1,a.2.1.2.2.2.2.2.2.2.2.2.2.2.2.1],()) then bif !(f1c ([a.2.1.1,a.2.1.2.1,a.2.1.2.2.1,a.2.1.2.2.2.1,a.2.1.2.2.2.2.1,a.2.1.2.2.2.2.2.1,a.2.1.2.2.2.2.2.2.1,a.2.1.2.2.2.2.2.2.2.1,a.2.1.2.2.2.2.2.2.2.2.1,a.2.1.2.2.2.2.2.2.2.2.2.1,a.2.1.2.2.2.2.2.2.2.2.2.2.1,a.2.1.2.2.2.2.2.2.2.2.2.2.2.1,a.2.1.2.2.2.2.2.2.2.2.2.2.2.2.1],())).1 then some (Sum.inr ((false,()),()))else f ((((),v.1.2.1,v.1.2.2.1,wrap .i64 (v.1.2.2.2.1+1),()),v.2))else none else none else none else some (Sum.inl (((),()),v.2))
def e3v (v:d4d):Nat:=v.1.2.1.length+v.1.2.2.1.natAbs+v.1.2.2.2.1.natAbs+v.2.1.1.length+v.2.1.2.1.length+1000
def c2J (v:d4d):=a0F c7t (e3v v) v
def d8J (v):=(c2J v).isSome
def d8K (v):=isR (c2J v)
def d8L (v):=xOf default (c2J v)
def d8M (v):=yOf default (c2J v)
def F91 (x:Den A91):OD R91:=let b:=(length x.1.1:Int);bif K44 (b,1,20,()) then bif !(G44 (b,1,20,())).1 then some (false,())else let e:=((length x.1.2.1:Int),1,60,());bif K44 e then bif !(G44 e).1 then some (false,())else let a:=(((),x.1.1,b,0,()),x);bif d8J a then bif d8K a then some (d8M a).1 else let c:=d8L a;let d:=(((),c.2.1.2.1,(length c.2.1.2.1:Int),0,()),c.2);bif c7q d then bif c7r d then some (c7s d).1 else some (true,())else none else none else none else none
def K91 (x):=(F91 x).isSome
def G91 (x):=(F91 x).getD (zero R91)
def m91:=(91,a0b A91 R91 K91 G91)
noncomputable def g7T:=gE [m44,m61,g7S,m43] Tryz.f91 (lps:=[(4,lmR f1f c2J),(10,lmR d8I b0O)])
theorem e3w:EvR g7T (lp Tryz.f91 0) f1f c7t:=fun _ _=>by kernel_rfl
theorem d4e:EvR g7T (lp Tryz.f91 1) d8I b4t:=fun _ _=>by kernel_rfl
theorem e3x:a0d Tryz.prog m91:=a0y (a0C (s4 a6h b6M d8F c7o)) (a1q Tryz.func91 rfl rfl rfl (by kernel_rfl) (a0f (by kernel_rfl) (s2 (lR e3w e3v) (lR d4e c7p)))) fun _=>by kernel_rfl
abbrev g7U:Ty:=.cons (.str) (.nil)
abbrev g2c:Ty:=.cons (.bool) (.nil)
abbrev b9L:Type:=e8B
abbrev d8N:Type:=d6I×Unit
abbrev d8O:Type:=ty9
def d8P:LR:=⟨[0,3],[],0,[0],[],⟨[(0,om5),(3,om0)],[],0,0⟩,⟨[(0,om5)],[],0,0⟩,⟨a9h,[],0,0⟩⟩
def b4u (f:b9L->Option (d8N⊕d8O)) (v:b9L):Option (d8N⊕d8O):=let a:=v.1.2.1<(ByteArray.size v.1.1:Int);bif decide a then let b:=decide (0<=v.1.2.1)&&decide a;bif b then bif decide (a0p v.1.1 v.1.2.1<97) then some (Sum.inr ((false,()),()))else bif b then bif decide (a0p v.1.1 v.1.2.1>122) then some (Sum.inr ((false,()),()))else f (((v.1.1,wrap .i64 (v.1.2.1+1),()),()))else none else none else some (Sum.inl ((v.1.1,()),()))
def c7u (v:b9L):Nat:=v.1.1.size+v.1.2.1.natAbs+1000
def b0P (v:b9L):=a0F b4u (c7u v) v
def c7v (v):=(b0P v).isSome
def c7w (v):=isR (b0P v)
def c7x (v):=xOf default (b0P v)
def c7y (v):=yOf default (b0P v)
def f6Y (x:Den g7U):OD g2c:=bif c7v ((x.1,0,()),()) then bif c7w ((x.1,0,()),()) then some (c7y ((x.1,0,()),())).1 else let a:=c7x ((x.1,0,()),());let b:=((ByteArray.size a.1.1:Int),1,16,());bif K44 b then bif (G44 b).1 then some (!a0G a.1.1 { data:=#[110,111,110,101] },())else some (false,())else none else none
def g2d (x):=(f6Y x).isSome
def g2e (x):=(f6Y x).getD (zero g2c)
def g7V:=(160,a0b g7U g2c g2d g2e)
noncomputable def g2f:=gE [m44] Tryz.f160 (lps:=[(2,lmR d8P b0P)])
theorem d4f:EvR g2f (lp Tryz.f160 0) d8P b4u:=fun _ _=>by kernel_rfl
theorem f1g:a0d Tryz.prog g7V:=a0y (a0C (s1 a6h)) (a1q Tryz.func160 rfl rfl rfl (by kernel_rfl) (a0f (by kernel_rfl) (s1 (lR d4f c7u)))) fun _=>by kernel_rfl
abbrev f6Z:Ty:=.cons (.slice (S68)) (.cons (.str) (.nil))
abbrev f7a:Ty:=.cons (.int .i64) (.nil)
abbrev b9M:Type:=(b3O×b2c×a4h)×Unit
abbrev d8Q:Type:=a4r
abbrev d8R:Type:=c5o
def d8S:LR:=⟨[1,7,8,9],[],0,[],[],⟨[(1,om5),(7,om7),(8,om0),(9,om0)],[],0,0⟩,⟨[],[],0,0⟩,⟨[(4,om0)],[],0,0⟩⟩
def b4v (f:b9M->Option (d8Q⊕d8R)) (v:b9M):Option (d8Q⊕d8R):=bif decide (v.1.2.2.2.1<v.1.2.2.1) then bif decide (0<=v.1.2.2.2.1)&&decide (v.1.2.2.2.1<(length v.1.2.1:Int)) then bif a0G (getD v.1.2.1 (toNat v.1.2.2.2.1) (zero S68)).1 v.1.1 then some (Sum.inr (v.1.2.2.2,()))else f (((v.1.1,v.1.2.1,v.1.2.2.1,wrap .i64 (v.1.2.2.2.1+1),()),()))else none else some (Sum.inl ((),()))
def c7z (v:b9M):Nat:=v.1.1.size+v.1.2.1.length+v.1.2.2.1.natAbs+v.1.2.2.2.1.natAbs+1000
def b0Q (v:b9M):=a0F b4v (c7z v) v
def c7A (v):=(b0Q v).isSome
def c7B (v):=isR (b0Q v)
def g2g (v):=xOf default (b0Q v)
def c7C (v):=yOf default (b0Q v)
def f1h (x:Den f6Z):OD f7a:=let a:=((x.2.1,x.1,(length x.1:Int),0,()),());bif c7A a then bif c7B a then some (c7C a).1 else some (-1,())else none
def e7v (x):=(f1h x).isSome
def c7D (x):=(f1h x).getD (zero f7a)
def g7W:=(134,a0b f6Z f7a e7v c7D)
noncomputable def g2h:=gE [] Tryz.f134 (lps:=[(2,lmR d8S b0Q)])
theorem d4g:EvR g2h (lp Tryz.f134 0) d8S b4v:=fun _ _=>by kernel_rfl
theorem d8T:a0d Tryz.prog g7W:=a0y (a0C nS) (a1q Tryz.func134 rfl rfl rfl (by kernel_rfl) (a0f (by kernel_rfl) (s1 (lR d4g c7z)))) fun _=>by kernel_rfl
abbrev A92:Ty:=.cons (.slice (S68)) (.nil)
abbrev R92:Ty:=.cons (.bool) (.nil)
abbrev d4h:Type:=(b2c×b2c×a4h)×Unit
abbrev f1i:Type:=a4r
abbrev f1j:Type:=ty9
def f1k:LR:=⟨[0,8,9,10],[],0,[],[],⟨[(0,om7),(8,om7),(9,om0),(10,om0)],[],0,0⟩,⟨[],[],0,0⟩,⟨a9h,[],0,0⟩⟩
def c7E (f:d4h->Option (f1i⊕f1j)) (v:d4h):Option (f1i⊕f1j):=bif decide (v.1.2.2.2.1<v.1.2.2.1) then bif decide (0<=v.1.2.2.2.1)&&decide (v.1.2.2.2.1<(length v.1.2.1:Int)) then let a:=getD v.1.2.1 (toNat v.1.2.2.2.1) (zero S68);bif g2d (a.1,()) then bif !(g2e (a.1,())).1 then some (Sum.inr ((false,()),()))else bif e7v (v.1.1,a.1,()) then bif (c7D (v.1.1,a.1,())).1 != v.1.2.2.2.1 then some (Sum.inr ((false,()),()))else bif !(fgt .f32 a.2.1 0||feq .f32 a.2.1 0) then some (Sum.inr ((false,()),()))else bif fgt .f32 a.2.2.1 a.2.1 then bif !(flt .f32 a.2.2.1 1128792064||feq .f32 a.2.2.1 1128792064) then some (Sum.inr ((false,()),()))else bif K44 (a.2.2.2.1,0,180,()) then bif !(G44 (a.2.2.2.1,0,180,())).1 then some (Sum.inr ((false,()),()))else bif K44 (a.2.2.2.2.1,a.2.2.2.1,180,()) then bif !(G44 (a.2.2.2.2.1,a.2.2.2.1,180,())).1 then some (Sum.inr ((false,()),()))else f (((v.1.1,v.1.2.1,v.1.2.2.1,wrap .i64 (v.1.2.2.2.1+1),()),()))else none else none else some (Sum.inr ((false,()),()))else none else none else none else some (Sum.inl ((),()))
def e3y (v:d4h):Nat:=v.1.1.length+v.1.2.1.length+v.1.2.2.1.natAbs+v.1.2.2.2.1.natAbs+1000
def c2K (v:d4h):=a0F c7E (e3y v) v
def d8U (v):=(c2K v).isSome
def d8V (v):=isR (c2K v)
def g7X (v):=xOf default (c2K v)
def d8W (v):=yOf default (c2K v)
def F92 (x:Den A92):OD R92:=bif decide ((length x.1:Int)>12) then some (false,())else let a:=((x.1,x.1,(length x.1:Int),0,()),());bif d8U a then bif d8V a then some (d8W a).1 else some (true,())else none
def K92 (x):=(F92 x).isSome
def G92 (x):=(F92 x).getD (zero R92)
def m92:=(92,a0b A92 R92 K92 G92)
noncomputable def h1g:=gE [g7V,g7W,m44] Tryz.f92 (lps:=[(4,lmR f1k c2K)])
theorem e3z:EvR h1g (lp Tryz.f92 0) f1k c7E:=fun _ _=>by kernel_rfl
theorem e3A:a0d Tryz.prog m92:=a0y (a0C (s3 f1g d8T a6h)) (a1q Tryz.func92 rfl rfl rfl (by kernel_rfl) (a0f (by kernel_rfl) (s1 (lR e3z e3y)))) fun _=>by kernel_rfl
abbrev g2i:Ty:=.cons (S35) (.nil)
abbrev g2j:Ty:=.cons (.bool) (.nil)
def f7b (x:Den g2i):OD g2j:=bif K63 (x.1.1,()) then bif (G63 (x.1.1,())).1 then bif K63 x.1.2 then bif (G63 x.1.2).1 then some (!(x.1.1.1==x.1.2.1.1&&x.1.1.2.1==x.1.2.1.2.1),())else some (false,())else none else some (false,())else none
def f7c (x):=(f7b x).isSome
def f7d (x):=(f7b x).getD (zero g2j)
def g7Y:=(161,a0b g2i g2j f7c f7d)
theorem f1l:a0d Tryz.prog g7Y:=fnE (s1 d4c) Tryz.func161
abbrev g7Z:Ty:=.cons (S38) (.cons (.int .i64) (.nil))
abbrev g2k:Ty:=.cons (S33) (.nil)
def f1m (x:Den g7Z):OD g2k:=bif x.2.1==0 then some (x.1.1.1,())else let a:=wrap .i64 (x.2.1-1);bif decide (0<=a)&&decide (a<(length x.1.2.1:Int)) then some ((getD x.1.2.1 (toNat a) (zero a2u)).1,())else none
def g2l (x):=(f1m x).isSome
def g2m (x):=(f1m x).getD (zero g2k)
def g8a:=(123,a0b g7Z g2k g2l g2m)
theorem f1n:a0d Tryz.prog g8a:=fnE nS Tryz.func123
abbrev A93:Ty:=.cons (S38) (.nil)
abbrev R93:Ty:=.cons (.bool) (.nil)
abbrev d4i:Type:=(Unit×e2w×a4h)×f6c×Unit
abbrev f1o:Type:=a4r
abbrev f1p:Type:=ty9
def f1q:LR:=⟨[1,23,24,25],[],0,[],[],⟨[(1,om1),(23,.one (.sl (a2u))),(24,om0),(25,om0)],[(0,g6H)],1,0⟩,⟨[],[],0,0⟩,⟨a9h,[],0,0⟩⟩
def c7F (f:d4i->Option (f1o⊕f1p)) (v:d4i):Option (f1o⊕f1p):=bif decide (v.1.2.2.2.1<v.1.2.2.1) then bif decide (0<=v.1.2.2.2.1)&&decide (v.1.2.2.2.1<(length v.1.2.1:Int)) then let a:=getD v.1.2.1 (toNat v.1.2.2.2.1) (zero a2u);bif K63 (a.1,()) then bif !(G63 (a.1,())).1 then some (Sum.inr ((false,()),()))else let b:=((((v.2.1.1,v.2.1.2.1,()),(v.2.1.2.2.1,v.2.1.2.2.2.1,()),()),v.2.1.2.2.2.2.1,((v.2.1.2.2.2.2.2.1,v.2.1.2.2.2.2.2.2.1,()),v.2.1.2.2.2.2.2.2.2,()),()),v.1.2.2.2);bif g2l b then let c:=g2m b;bif a.1.1==c.1.1&&a.1.2.1==c.1.2.1 then some (Sum.inr ((false,()),()))else f ((((),v.1.2.1,v.1.2.2.1,wrap .i64 (v.1.2.2.2.1+1),()),v.2))else none else none else none else some (Sum.inl ((),()))
def e3B (v:d4i):Nat:=v.1.2.1.length+v.1.2.2.1.natAbs+v.1.2.2.2.1.natAbs+v.2.1.1.natAbs+v.2.1.2.1.natAbs+v.2.1.2.2.1.natAbs+v.2.1.2.2.2.1.natAbs+v.2.1.2.2.2.2.1.length+v.2.1.2.2.2.2.2.1.natAbs+v.2.1.2.2.2.2.2.2.1.natAbs+v.2.1.2.2.2.2.2.2.2.1.natAbs+v.2.1.2.2.2.2.2.2.2.2.1.natAbs+1000
def b6N (v:d4i):=a0F c7F (e3B v) v
def d8X (v):=(b6N v).isSome
def d8Y (v):=isR (b6N v)
def g8b (v):=xOf default (b6N v)
def d8Z (v):=yOf default (b6N v)
def F93 (x:Den A93):OD R93:=bif f7c (x.1.1,()) then bif !(f7d (x.1.1,())).1 then some (false,())else bif f7c x.1.2.2 then bif !(f7d x.1.2.2).1 then some (false,())else let a:=(length x.1.2.1:Int);bif K44 (a,1,20,()) then bif !(G44 (a,1,20,())).1 then some (false,())else let b:=(((),x.1.2.1,a,0,()),(x.1.1.1.1,x.1.1.1.2.1,x.1.1.2.1.1,x.1.1.2.1.2.1,x.1.2.1,x.1.2.2.1.1.1,x.1.2.2.1.1.2.1,x.1.2.2.1.2.1),());bif d8X b then bif d8Y b then some (d8Z b).1 else some (true,())else none else none else none else none
def K93 (x):=(F93 x).isSome
def G93 (x):=(F93 x).getD (zero R93)
def m93:=(93,a0b A93 R93 K93 G93)
noncomputable def h1h:=gE [g7Y,m44,m63,g8a] Tryz.f93 (lps:=[(4,lmR f1q b6N)])
theorem e3C:EvR h1h (lp Tryz.f93 0) f1q c7F:=fun _ _=>by kernel_rfl
theorem g2n:a0d Tryz.prog m93:=a0y (a0C (s4 f1l a6h d4c f1n)) (a1q Tryz.func93 rfl rfl rfl (by kernel_rfl) (a0f (by kernel_rfl) (s1 (lR e3C e3B)))) fun _=>by kernel_rfl
abbrev A42:Ty:=.cons (S40) (.nil)
abbrev R42:Ty:=.cons (.bool) (.nil)
def F42 (x:Den A42):OD R42:=bif K90 (x.1.1,()) then bif (G90 (x.1.1,())).1 then bif K91 (x.1.2.1,()) then bif (G91 (x.1.2.1,())).1 then bif K92 (x.1.2.2.1,()) then bif (G92 (x.1.2.2.1,())).1 then bif decide ((length x.1.2.2.1:Int)>0) then bif K93 x.1.2.2.2 then some (G93 x.1.2.2.2)else none else some (false,())else some (false,())else none else some (false,())else none else some (false,())else none
def K42 (x):=(F42 x).isSome
def G42 (x):=(F42 x).getD (zero R42)
def m42:=(42,a0b A42 R42 K42 G42)
theorem f1r:a0d Tryz.prog m42:=fnE (s4 f1a e3x e3A g2n) Tryz.func42
abbrev A46:Ty:=.cons (.slice (S97)) (.nil)
abbrev R46:Ty:=.cons (.bool) (.nil)
abbrev d4j:Type:=(d6F×d6F×a4h)×Unit
abbrev f1s:Type:=a4r
abbrev f1t:Type:=ty9
def f1u:LR:=⟨[0,8,9,10],[],0,[],[],⟨[(0,e6Q),(8,e6Q),(9,om0),(10,om0)],[],0,0⟩,⟨[],[],0,0⟩,⟨a9h,[],0,0⟩⟩
def c7G (f:d4j->Option (f1s⊕f1t)) (v:d4j):Option (f1s⊕f1t):=bif decide (v.1.2.2.2.1<v.1.2.2.1) then bif decide (0<=v.1.2.2.2.1)&&decide (v.1.2.2.2.1<(length v.1.2.1:Int)) then let a:=getD v.1.2.1 (toNat v.1.2.2.2.1) (zero S97);bif K63 (a.1,()) then bif !(G63 (a.1,())).1 then some (Sum.inr ((false,()),()))else bif K43 a.2 then bif !(G43 a.2).1 then some (Sum.inr ((false,()),()))else bif decide (v.1.2.2.2.1>0) then let b:=wrap .i64 (v.1.2.2.2.1-1);bif decide (0<=b)&&decide (b<(length v.1.1:Int)) then bif decide (a.2.1<=(getD v.1.1 (toNat b) (zero S97)).2.1) then some (Sum.inr ((false,()),()))else f (((v.1.1,v.1.2.1,v.1.2.2.1,wrap .i64 (v.1.2.2.2.1+1),()),()))else none else f (((v.1.1,v.1.2.1,v.1.2.2.1,wrap .i64 (v.1.2.2.2.1+1),()),()))else none else none else none else some (Sum.inl ((),()))
def e3D (v:d4j):Nat:=v.1.1.length+v.1.2.1.length+v.1.2.2.1.natAbs+v.1.2.2.2.1.natAbs+1000
def c2L (v:d4j):=a0F c7G (e3D v) v
def d9a (v):=(c2L v).isSome
def d9b (v):=isR (c2L v)
def g8c (v):=xOf default (c2L v)
def d9c (v):=yOf default (c2L v)
def F46 (x:Den A46):OD R46:=bif decide ((length x.1:Int)>200) then some (false,())else let a:=((x.1,x.1,(length x.1:Int),0,()),());bif d9a a then bif d9b a then some (d9c a).1 else some (true,())else none
def K46 (x):=(F46 x).isSome
def G46 (x):=(F46 x).getD (zero R46)
def m46:=(46,a0b A46 R46 K46 G46)
noncomputable def h1i:=gE [m63,m43] Tryz.f46 (lps:=[(4,lmR f1u c2L)])
theorem e3E:EvR h1i (lp Tryz.f46 0) f1u c7G:=fun _ _=>by kernel_rfl
theorem g2o:a0d Tryz.prog m46:=a0y (a0C (s2 d4c c7o)) (a1q Tryz.func46 rfl rfl rfl (by kernel_rfl) (a0f (by kernel_rfl) (s1 (lR e3E e3D)))) fun _=>by kernel_rfl
abbrev g8d:Ty:=.cons (.cpx .f64) (.cons (.cpx .f64) (.nil))
abbrev g2p:Ty:=.cons (.flt .f64) (.nil)
def f1v (x:Den g8d):OD g2p:=some (a0a .add .f64 (a0a .mul .f64 x.1.1 x.2.1.1) (a0a .mul .f64 x.1.2 x.2.1.2),())
def e3F (x):=(f1v x).isSome
def d4k (x):=(f1v x).getD (zero g2p)
def g8e:=(225,a0b g8d g2p e3F d4k)
theorem c7H:a0d Tryz.prog g8e:=fnE nS Tryz.func225
abbrev g8f:Sg:=⟨[.val (.int .i64),.val (.cpx .f64),.ptr 0,.ptr 1,.ptr 2],[.box (.cpx .f64),.box (.flt .f64),.box (.int .i64)]⟩
abbrev g2q:Sg:=⟨[],[.box (.cpx .f64),.box (.flt .f64),.box (.int .i64)]⟩
def f7e (x:g8f.den):Option (g2q.den):=bif e3F (x.2.1,x.1.2.1,()) then bif x.1.1==0 then some ((),x.2.1,(d4k (x.2.1,x.1.2.1,())).1,x.1.1,())else let a:=d4k (x.2.1,x.1.2.1,());bif fgt .f64 a.1 x.2.2.1 then some ((),x.2.1,a.1,x.1.1,())else some ((),x.2)else none
def g2r (x):=(f7e x).isSome
def g2s (x):=(f7e x).getD (a1b g2q)
def g8g:=(224,a0H true g8f g2q g2r g2s)
theorem d9d:a0d Tryz.prog g8g:=sgE true (s1 c7H) Tryz.func224
abbrev g8h:Ty:=.cons (.cpx .f64) (.cons (.cpx .f64) (.nil))
abbrev g2t:Ty:=.cons (.cpx .f64) (.nil)
def f1w (x:Den g8h):OD g2t:=some ((a0a .sub .f64 (a0a .mul .f64 x.1.1 x.2.1.1) (a0a .mul .f64 x.1.2 x.2.1.2),a0a .add .f64 (a0a .mul .f64 x.1.1 x.2.1.2) (a0a .mul .f64 x.1.2 x.2.1.1)),())
def f1x (x):=(f1w x).isSome
def f1y (x):=(f1w x).getD (zero g2t)
def g2u:=(177,a0b g8h g2t f1x f1y)
theorem d9e:a0d Tryz.prog g2u:=fnE nS Tryz.func177
abbrev g8i:Sg:=⟨[.fnv 224 [0,1,2]],[.box (.cpx .f64),.box (.flt .f64),.box (.int .i64)]⟩
abbrev g2v:Sg:=⟨[],[.box (.cpx .f64),.box (.flt .f64),.box (.int .i64)]⟩
abbrev b9N:Type:=(Unit×a4X×ty6)×(a4X×Unit)×(Nat×Unit)×c5o
abbrev d9f:Type:=Unit×(a4X×Unit)×(Nat×Unit)×c5o
def d9g:LX:=⟨[0,2,3],[],0,[],[],⟨[(0,.one (.fn 224 [0,1,2])),(2,om6),(3,om0)],[(0,.box [.cpx .f64]),(1,.box [.flt .f64]),(2,.box [.int .i64])],3,3⟩,⟨[],[(0,.box [.cpx .f64]),(1,.box [.flt .f64]),(2,.box [.int .i64])],3,3⟩⟩
def b4w (f:b9N->Option (d9f)) (v:b9N):Option (d9f):=bif decide (v.1.2.2.1<360) then bif g2r ((v.1.2.2.1,v.1.2.1,(),(),(),()),v.2.1.1,v.2.2.1.1,v.2.2.2.1) then bif f1x (v.1.2.1,(4607181046959943561,4580687535080594718),()) then let a:=g2s ((v.1.2.2.1,v.1.2.1,(),(),(),()),v.2.1.1,v.2.2.1.1,v.2.2.2.1);f ((((),(f1y (v.1.2.1,(4607181046959943561,4580687535080594718),())).1,wrap .i64 (v.1.2.2.1+1),()),(a.2.1,()),(a.2.2.1,()),a.2.2.2,()))else none else none else some ((),v.2)
def b9O (v:b9N):Nat:=v.1.2.2.1.natAbs+v.2.2.2.1.1.natAbs+1000
def b9P (v:b9N):=a0F b4w (b9O v) v
def c7I (v):=(b9P v).isSome
def c7J (v):=(b9P v).getD default
def f7f (x:g8i.den):Option (g2v.den):=let b:=(((),(4607182418800017408,0),0,()),(x.2.1,()),(x.2.2.1,()),x.2.2.2,());bif c7I b then let a:=c7J b;some ((),a.2.1.1,a.2.2.1.1,a.2.2.2.1)else none
def g2w (x):=(f7f x).isSome
def g2x (x):=(f7f x).getD (a1b g2v)
def h1j:=(223,a0H true g8i g2v g2w g2x)
noncomputable def g2y:=gE [g2u,g8g] Tryz.f223 (lps:=[(2,lmX d9g b9P)])
theorem d4l:EvX g2y (lp Tryz.f223 0) d9g b4w:=fun _ _=>by kernel_rfl
theorem f1z:a0d Tryz.prog h1j:=a4P (a0C (s2 d9e d9d)) (a1q Tryz.func223 rfl rfl rfl (by kernel_rfl) (a0f (by kernel_rfl) (s1 (lX d4l b9O)))) true fun _=>by kernel_rfl
abbrev g8j:Ty:=.cons (.cpx .f64) (.nil)
abbrev g2z:Ty:=.cons (.int .i64) (.nil)
def f1A (x:Den g8j):OD g2z:=bif K61 x then bif !(G61 x).1 then some (-1,())else bif feq .f64 x.1.1 0&&feq .f64 x.1.2 0 then some (-1,())else bif g2w (((),()),x.1,0,0,()) then some (g2x (((),()),x.1,0,0,())).2.2.2 else none else none
def g2A (x):=(f1A x).isSome
def g2B (x):=(f1A x).getD (zero g2z)
def h1k:=(178,a0b g8j g2z g2A g2B)
theorem f1B:a0d Tryz.prog h1k:=fnE (s3 b6M d9d f1z) Tryz.func178
abbrev g8k:Ty:=.cons (.cpx .f32) (.nil)
abbrev g2C:Ty:=.cons (.int .i64) (.nil)
def f1C (x:Den g8k):OD g2C:=bif K45 x then bif !(G45 x).1 then some (-1,())else bif feq .f32 x.1.1 0&&feq .f32 x.1.2 0 then some (-1,())else let a:=a3H .f32 x.1.1;let b:=a3H .f32 x.1.2;bif g2A (((a0x .f32 .f64 a).2,(a0x .f32 .f64 b).2),()) then some (g2B (((a0x .f32 .f64 a).2,(a0x .f32 .f64 b).2),()))else none else none
def e7w (x):=(f1C x).isSome
def d4m (x):=(f1C x).getD (zero g2C)
def h1l:=(110,a0b g8k g2C e7w d4m)
theorem d9h:a0d Tryz.prog h1l:=fnE (s2 b2m f1B) Tryz.func110
abbrev g8l:Ty:=.cons (.cpx .f32) (.nil)
abbrev g2D:Ty:=.cons (.cpx .f64) (.nil)
def g2E (x:Den g8l):OD g2D:=some (((a0x .f32 .f64 x.1.1).2,(a0x .f32 .f64 x.1.2).2),())
def g2F (x):=(g2E x).isSome
def g2G (x):=(g2E x).getD (zero g2D)
def h1m:=(181,a0b g8l g2D g2F g2G)
theorem f1D:a0d Tryz.prog h1m:=fnE nS Tryz.func181
abbrev g8m:Ty:=.cons (.flt .f64) (.nil)
abbrev g2H:Ty:=.cons (.flt .f64) (.nil)
abbrev b9Q:Type:=(Nat×d1W)×Unit
abbrev d9i:Type:=(Nat×Unit)×Unit
def d9j:LX:=⟨[0,3,4],[],0,[3],[],⟨[(0,d3c),(3,d3c),(4,om0)],[],0,0⟩,⟨[(3,d3c)],[],0,0⟩⟩
def b4x (f:b9Q->Option (d9i)) (v:b9Q):Option (d9i):=bif decide (v.1.2.2.1<60) then f (((v.1.1,a0a .quo .f64 (a0a .add .f64 v.1.2.1 (a0a .quo .f64 v.1.1 v.1.2.1)) 4611686018427387904,wrap .i64 (v.1.2.2.1+1),()),()))else some ((v.1.2.1,()),())
def b9R (v:b9Q):Nat:=v.1.2.2.1.natAbs+1000
def b9S (v:b9Q):=a0F b4x (b9R v) v
def c7K (v):=(b9S v).isSome
def c7L (v):=(b9S v).getD default
def f1E (x:Den g8m):OD g2H:=bif fgt .f64 x.1 4427486594234968593||feq .f64 x.1 4427486594234968593 then bif !(flt .f64 x.1 4861130398305394688||feq .f64 x.1 4861130398305394688) then some (0,())else let a:=b2T .f64 x.1 4607182418800017408;bif c7K ((x.1,a,0,()),()) then some (c7L ((x.1,a,0,()),())).1 else none else some (0,())
def g2I (x):=(f1E x).isSome
def g2J (x):=(f1E x).getD (zero g2H)
def h1n:=(228,a0b g8m g2H g2I g2J)
noncomputable def g2K:=gE [] Tryz.f228 (lps:=[(5,lmX d9j b9S)])
theorem d4n:EvX g2K (lp Tryz.f228 0) d9j b4x:=fun _ _=>by kernel_rfl
theorem f1F:a0d Tryz.prog h1n:=a0y (a0C nS) (a1q Tryz.func228 rfl rfl rfl (by kernel_rfl) (a0f (by kernel_rfl) (s1 (lX d4n b9R)))) fun _=>by kernel_rfl
abbrev g8n:Ty:=.cons (.cpx .f64) (.nil)
abbrev g2L:Ty:=.cons (.flt .f64) (.nil)
def f1G (x:Den g8n):OD g2L:=bif K61 x then bif !(G61 x).1 then some (0,())else bif e3F (x.1,x) then let a:=d4k (x.1,x);bif g2I a then some (g2J a)else none else none else none
def g2M (x):=(f1G x).isSome
def g2N (x):=(f1G x).getD (zero g2L)
def h1o:=(180,a0b g8n g2L g2M g2N)
theorem f1H:a0d Tryz.prog h1o:=fnE (s3 b6M c7H f1F) Tryz.func180
abbrev g8o:Ty:=.cons (.cpx .f32) (.nil)
abbrev g2O:Ty:=.cons (.flt .f32) (.nil)
def f1I (x:Den g8o):OD g2O:=bif K45 x then bif !(G45 x).1 then some (0,())else bif g2F x then let a:=g2G x;bif g2M a then let b:=g2N a;bif (a0x .f64 .f32 b.1).1 then some ((a0x .f64 .f32 b.1).2,())else none else none else none else none
def e7x (x):=(f1I x).isSome
def e3G (x):=(f1I x).getD (zero g2O)
def h1p:=(112,a0b g8o g2O e7x e3G)
theorem d9k:a0d Tryz.prog h1p:=fnE (s3 b2m f1D f1H) Tryz.func112
abbrev g8p:Ty:=.cons (.int .i64) (.nil)
abbrev g2P:Ty:=.cons (.int .i64) (.nil)
def d4o (x:Den g8p):OD g2P:=some (Int.tmod (wrap .i64 (Int.tmod x.1 360+360)) 360,())
def d9l (x):=(d4o x).isSome
def d9m (x):=(d4o x).getD (zero g2P)
def g8q:=(176,a0b g8p g2P d9l d9m)
theorem d9n:a0d Tryz.prog g8q:=fnE nS Tryz.func176
abbrev g8r:Ty:=.cons (.int .i64) (.cons (.int .i64) (.nil))
abbrev g2Q:Ty:=.cons (.int .i64) (.nil)
def f1J (x:Den g8r):OD g2Q:=bif d9l x.2 then bif d9l (x.1,()) then let a:=wrap .i64 ((d9m x.2).1-(d9m (x.1,())).1);bif d9l (a,()) then let b:=d9m (a,());let c:=wrap .i64 (0-b.1);bif d9l (c,()) then some (a3a b.1 (d9m (c,())).1,())else none else none else none else none
def e7y (x):=(f1J x).isSome
def e3H (x):=(f1J x).getD (zero g2Q)
def h1q:=(113,a0b g8r g2Q e7y e3H)
theorem d9o:a0d Tryz.prog h1q:=fnE (s1 d9n) Tryz.func113
abbrev g8s:Ty:=.cons (.flt .f32) (.cons (.flt .f32) (.cons (.flt .f32) (.nil)))
abbrev g2R:Ty:=.cons (.flt .f32) (.nil)
def g2S (x:Den g8s):OD g2R:=some (a0a .add .f32 x.1 (a0a .mul .f32 (a0a .sub .f32 x.2.1 x.1) x.2.2.1),())
def e7z (x):=(g2S x).isSome
def e7A (x):=(g2S x).getD (zero g2R)
def g2T:=(227,a0b g8s g2R e7z e7A)
theorem c7M:a0d Tryz.prog g2T:=fnE nS Tryz.func227
abbrev g8t:Ty:=.cons (S27) (.cons (.slice (.flt .f32)) (.cons (.int .i64) (.nil)))
abbrev g2U:Ty:=.cons (.flt .f32) (.nil)
abbrev b9T:Type:=(b0d×Int×Unit×ty4×a4h)×b8N
abbrev d9p:Type:=a4r
abbrev d9q:Type:=(Nat×Unit)×Unit
def d9r:LR:=⟨[1,2,3,11,12,13],[],0,[],[],⟨[(1,e2x),(2,om0),(3,om1),(11,e2y),(12,om0),(13,om0)],b5V,1,0⟩,⟨[],[],0,0⟩,⟨[(6,om9)],[],0,0⟩⟩
def b4y (f:b9T->Option (d9p⊕d9q)) (v:b9T):Option (d9p⊕d9q):=bif decide (v.1.2.2.2.2.2.1<v.1.2.2.2.2.1) then bif decide (0<=v.1.2.2.2.2.2.1)&&decide (v.1.2.2.2.2.2.1<(length v.1.2.2.2.1:Int)) then let b:=getD v.1.2.2.2.1 (toNat v.1.2.2.2.2.2.1) (zero (Ty.int IntKind.i64));bif b==v.1.2.1 then bif decide (0<=v.1.2.2.2.2.2.1)&&decide (v.1.2.2.2.2.2.1<(length v.1.1:Int)) then some (Sum.inr ((getD v.1.1 (toNat v.1.2.2.2.2.2.1) (zero (Ty.flt .f32)),()),()))else none else bif decide (b>v.1.2.1) then let a:=wrap .i64 (v.1.2.2.2.2.2.1-1);bif decide (0<=a)&&decide (a<(length v.2.1.2.1:Int)) then bif decide (0<=a)&&decide (a<(length v.1.1:Int)) then bif decide (0<=v.1.2.2.2.2.2.1)&&decide (v.1.2.2.2.2.2.1<(length v.1.1:Int)) then let c:=getD v.1.1 (toNat a) (zero (Ty.flt .f32));let d:=getD v.1.1 (toNat v.1.2.2.2.2.2.1) (zero (Ty.flt .f32));let e:=getD v.2.1.2.1 (toNat a) (zero (Ty.int IntKind.i64));let g:=a0a .quo .f32 (nearest .f32 (wrap .i64 (v.1.2.1-e))) (nearest .f32 (wrap .i64 (b-e)));bif e7z (c,d,g,()) then some (Sum.inr (e7A (c,d,g,()),()))else none else none else none else none else f (((v.1.1,v.1.2.1,(),v.1.2.2.2.1,v.1.2.2.2.2.1,wrap .i64 (v.1.2.2.2.2.2.1+1),()),v.2))else none else some (Sum.inl ((),()))
def b9U (v:b9T):Nat:=v.1.1.length+v.1.2.1.natAbs+v.1.2.2.2.1.length+v.1.2.2.2.2.1.natAbs+v.1.2.2.2.2.2.1.natAbs+v.2.1.1.length+v.2.1.2.1.length+v.2.1.2.2.1.length+1000
def b0R (v:b9T):=a0F b4y (b9U v) v
def c7N (v):=(b0R v).isSome
def c7O (v):=isR (b0R v)
def g2V (v):=xOf default (b0R v)
def c7P (v):=yOf default (b0R v)
def d9s (x:Den g8t):OD g2U:=let a:=((x.2.1,x.2.2.1,(),x.1.2.1,(length x.1.2.1:Int),0,()),x.1,());bif c7N a then bif c7O a then some (c7P a).1 else some (0,())else none
def e7B (x):=(d9s x).isSome
def e7C (x):=(d9s x).getD (zero g2U)
def g8u:=(226,a0b g8t g2U e7B e7C)
noncomputable def g2W:=gE [g2T] Tryz.f226 (lps:=[(2,lmR d9r b0R)])
theorem d4p:EvR g2W (lp Tryz.f226 0) d9r b4y:=fun _ _=>by kernel_rfl
theorem f1K:a0d Tryz.prog g8u:=a0y (a0C (s1 c7M)) (a1q Tryz.func226 rfl rfl rfl (by kernel_rfl) (a0f (by kernel_rfl) (s1 (lR d4p b9U)))) fun _=>by kernel_rfl
abbrev g8v:Ty:=.cons (S27) (.cons (.flt .f32) (.cons (.int .i64) (.nil)))
abbrev g2X:Ty:=.cons (.flt .f32) (.nil)
abbrev b9V:Type:=f6f
abbrev d9t:Type:=f6f
def d9u:LX:=⟨[1,2,3,8],[],0,[1,2,3,8],[],⟨[(1,om9),(2,om0),(3,om1),(8,om0)],b5V,1,0⟩,⟨[(1,om9),(2,om0),(3,om1),(8,om0)],b5V,1,0⟩⟩
def b4z (f:b9V->Option (d9t)) (v:b9V):Option (d9t):=let a:=wrap .i64 (v.1.2.2.2.1+1);bif decide (0<=a)&&decide (a<(length v.2.1.1:Int)) then let b:=getD v.2.1.1 (toNat a) (zero (Ty.flt .f32));bif flt .f32 b v.1.1||feq .f32 b v.1.1 then f (((v.1.1,v.1.2.1,(),a,()),v.2))else some (v)else none
def b9W (v:b9V):Nat:=v.1.2.1.natAbs+v.1.2.2.2.1.natAbs+v.2.1.1.length+v.2.1.2.1.length+v.2.1.2.2.1.length+1000
def b9X (v:b9V):=a0F b4z (b9W v) v
def c7Q (v):=(b9X v).isSome
def c7R (v):=(b9X v).getD default
def f1L (x:Den g8v):OD g2X:=bif decide (0<=0)&&decide (0<(length x.1.1:Int)) then let i:=getD x.1.1 (toNat 0) (zero (Ty.flt .f32));bif flt .f32 x.2.1 i||feq .f32 x.2.1 i then bif decide (0<=0)&&decide (0<(length x.1.1:Int)) then bif decide (0<=0)&&decide (0<(length x.1.2.2.1:Int)) then let b:=getD x.1.2.2.1 (toNat 0) (zero (Ty.slice (Ty.flt .f32)));bif e7B (x.1,b,x.2.2) then some (a0a .mul .f32 (a0a .quo .f32 x.2.1 i) (e7C (x.1,b,x.2.2)).1,())else none else none else none else let b:=wrap .i64 ((length x.1.1:Int)-1);bif decide (0<=b)&&decide (b<(length x.1.1:Int)) then let j:=getD x.1.1 (toNat b) (zero (Ty.flt .f32));bif fgt .f32 x.2.1 j||feq .f32 x.2.1 j then bif decide (0<=b)&&decide (b<(length x.1.2.2.1:Int)) then let k:=getD x.1.2.2.1 (toNat b) (zero (Ty.slice (Ty.flt .f32)));bif e7B (x.1,k,x.2.2) then some (e7C (x.1,k,x.2.2))else none else none else bif c7Q ((x.2.1,x.2.2.1,(),0,()),x.1,()) then let a:=c7R ((x.2.1,x.2.2.1,(),0,()),x.1,());bif decide (0<=a.1.2.2.2.1)&&decide (a.1.2.2.2.1<(length a.2.1.1:Int)) then let c:=wrap .i64 (a.1.2.2.2.1+1);bif decide (0<=c)&&decide (c<(length a.2.1.1:Int)) then bif decide (0<=a.1.2.2.2.1)&&decide (a.1.2.2.2.1<(length a.2.1.2.2.1:Int)) then let l:=getD a.2.1.2.2.1 (toNat a.1.2.2.2.1) (zero (Ty.slice (Ty.flt .f32)));bif e7B (a.2.1,l,a.1.2.1,()) then bif decide (0<=c)&&decide (c<(length a.2.1.2.2.1:Int)) then let m:=getD a.2.1.2.2.1 (toNat c) (zero (Ty.slice (Ty.flt .f32)));bif e7B (a.2.1,m,a.1.2.1,()) then let d:=e7C (a.2.1,l,a.1.2.1,());let e:=e7C (a.2.1,m,a.1.2.1,());let g:=getD a.2.1.1 (toNat a.1.2.2.2.1) (zero (Ty.flt .f32));let h:=a0a .quo .f32 (a0a .sub .f32 a.1.1 g) (a0a .sub .f32 (getD a.2.1.1 (toNat c) (zero (Ty.flt .f32))) g);bif e7z (d.1,e.1,h,()) then some (e7A (d.1,e.1,h,()))else none else none else none else none else none else none else none else none else none else none
def g2Y (x):=(f1L x).isSome
def g2Z (x):=(f1L x).getD (zero g2X)
def h1r:=(179,a0b g8v g2X g2Y g2Z)
noncomputable def g3a:=gE [g8u,g2T] Tryz.f179 (lps:=[(7,lmX d9u b9X)])
theorem d4q:EvX g3a (lp Tryz.f179 0) d9u b4z:=fun _ _=>by kernel_rfl
theorem f1M:a0d Tryz.prog h1r:=a0y (a0C (s2 f1K c7M)) (a1q Tryz.func179 rfl rfl rfl (by kernel_rfl) (a0f (by kernel_rfl) (s1 (lX d4q b9W)))) fun _=>by kernel_rfl
abbrev g8w:Ty:=.cons (S27) (.cons (.flt .f32) (.cons (.int .i64) (.nil)))
abbrev g3b:Ty:=.cons (.flt .f32) (.cons (.bool) (.nil))
def f7g (x:Den g8w):OD g3b:=bif K90 (x.1,()) then bif !(G90 (x.1,())).1 then some (0,false,())else bif fgt .f32 x.2.1 0||feq .f32 x.2.1 0 then bif !(flt .f32 x.2.1 1120403456||feq .f32 x.2.1 1120403456) then some (0,false,())else bif K44 (x.2.2.1,0,180,()) then bif !(G44 (x.2.2.1,0,180,())).1 then some (0,false,())else bif g2Y x then some ((g2Z x).1,true,())else none else none else some (0,false,())else none
def f7h (x):=(f7g x).isSome
def f7i (x):=(f7g x).getD (zero g3b)
def h1s:=(111,a0b g8w g3b f7h f7i)
theorem f1N:a0d Tryz.prog h1s:=fnE (s3 f1a a6h f1M) Tryz.func111
abbrev A57:Ty:=.cons (S46) (.nil)
abbrev R57:Ty:=.cons (.flt .f32) (.nil)
def F57 (x:Den A57):OD R57:=bif e7w (x.1.2.2.2.2.1,()) then let a:=d4m (x.1.2.2.2.2.1,());bif decide (a.1<0) then some (0,())else bif e7x (x.1.2.2.2.2.1,()) then bif e7y (x.1.2.2.2.1,a) then let b:=e3G (x.1.2.2.2.2.1,());let c:=e3H (x.1.2.2.2.1,a);bif f7h (x.1.1.1,b.1,c) then some ((f7i (x.1.1.1,b.1,c)).1,())else none else none else none else none
def K57 (x):=(F57 x).isSome
def G57 (x):=(F57 x).getD (zero R57)
def m57:=(57,a0b A57 R57 K57 G57)
theorem f1O:a0d Tryz.prog m57:=fnE (s4 d9h d9k d9o f1N) Tryz.func57
abbrev g8x:Ty:=.cons (.int .i64) (.nil)
abbrev g3c:Ty:=.cons (.cpx .f64) (.nil)
abbrev b9Y:Type:=(a4X×ty6)×Unit
abbrev d9v:Type:=f6h
def d9w:LX:=⟨[3,4],[],0,[3],[],⟨[(3,om6),(4,om0)],[],0,0⟩,⟨[(3,om6)],[],0,0⟩⟩
def b4A (f:b9Y->Option (d9v)) (v:b9Y):Option (d9v):=bif decide (v.1.2.1>0) then bif f1x (v.1.1,(4607181046959943561,4580687535080594718),()) then f ((((f1y (v.1.1,(4607181046959943561,4580687535080594718),())).1,wrap .i64 (v.1.2.1-1),()),()))else none else some ((v.1.1,()),())
def b9Z (v:b9Y):Nat:=v.1.2.1.natAbs+1000
def c0a (v:b9Y):=a0F b4A (b9Z v) v
def c7S (v):=(c0a v).isSome
def c7T (v):=(c0a v).getD default
def f7j (x:Den g8x):OD g3c:=bif d9l x then let b:=d9m x;let a:=(((4607182418800017408,0),b),());bif c7S a then some (c7T a).1 else none else none
def g3d (x):=(f7j x).isSome
def g3e (x):=(f7j x).getD (zero g3c)
def h1t:=(109,a0b g8x g3c g3d g3e)
noncomputable def g3f:=gE [g8q,g2u] Tryz.f109 (lps:=[(3,lmX d9w c0a)])
theorem d4r:EvX g3f (lp Tryz.f109 0) d9w b4A:=fun _ _=>by kernel_rfl
theorem f1P:a0d Tryz.prog h1t:=a0y (a0C (s2 d9n d9e)) (a1q Tryz.func109 rfl rfl rfl (by kernel_rfl) (a0f (by kernel_rfl) (s1 (lX d4r b9Z)))) fun _=>by kernel_rfl
abbrev g8y:Ty:=.cons (.cpx .f64) (.cons (.flt .f32) (.nil))
abbrev g3g:Ty:=.cons (.cpx .f32) (.nil)
def f7k (x:Den g8y):OD g3g:=let a:=a0x .f64 .f32 x.1.1;bif a.1 then let b:=a0x .f64 .f32 x.1.2;bif b.1 then some ((a0a .mul .f32 a.2 x.2.1,a0a .mul .f32 b.2 x.2.1),())else none else none
def g3h (x):=(f7k x).isSome
def g3i (x):=(f7k x).getD (zero g3g)
def h1u:=(108,a0b g8y g3g g3h g3i)
theorem f1Q:a0d Tryz.prog h1u:=fnE nS Tryz.func108
abbrev A56:Ty:=.cons (.int .i64) (.cons (.flt .f32) (.nil))
abbrev R56:Ty:=.cons (.cpx .f32) (.cons (.bool) (.nil))
def F56 (x:Den A56):OD R56:=bif e3q x.2 then bif !(e3r x.2).1 then some ((0,0),false,())else bif g3d (x.1,()) then let a:=g3e (x.1,());bif g3h (a.1,x.2) then some ((g3i (a.1,x.2)).1,true,())else none else none else none
def K56 (x):=(F56 x).isSome
def G56 (x):=(F56 x).getD (zero R56)
def m56:=(56,a0b A56 R56 K56 G56)
theorem f1R:a0d Tryz.prog m56:=fnE (s3 c6W f1P f1Q) Tryz.func56
abbrev g8z:Ty:=.cons (.cpx .f32) (.cons (.cpx .f32) (.nil))
abbrev g3j:Ty:=.cons (.cpx .f32) (.cons (.bool) (.nil))
def f7l (x:Den g8z):OD g3j:=bif K45 (x.1,()) then bif !(G45 (x.1,())).1 then some ((0,0),false,())else bif K45 x.2 then bif !(G45 x.2).1 then some ((0,0),false,())else some ((a0a .sub .f32 x.1.1 x.2.1.1,a0a .sub .f32 x.1.2 x.2.1.2),true,())else none else none
def g3k (x):=(f7l x).isSome
def g3l (x):=(f7l x).getD (zero g3j)
def h1v:=(114,a0b g8z g3j g3k g3l)
theorem f1S:a0d Tryz.prog h1v:=fnE (s1 b2m) Tryz.func114
abbrev A58:Ty:=.cons (.cpx .f32) (.cons (.cpx .f32) (.cons (.int .i64) (.nil)))
abbrev R58:Ty:=.cons (S63) (.cons (.bool) (.nil))
def F58 (x:Den A58):OD R58:=bif g3k (x.1,x.2.1,()) then let a:=g3l (x.1,x.2.1,());bif e7w (a.1,()) then bif !a.2.1 then some ((0,0,()),false,())else let b:=d4m (a.1,());bif decide (b.1<0) then some ((0,0,()),false,())else bif e7x (a.1,()) then bif e7y (x.2.2.1,b) then some (((e3G (a.1,())).1,e3H (x.2.2.1,b)),true,())else none else none else none else none
def K58 (x):=(F58 x).isSome
def G58 (x):=(F58 x).getD (zero R58)
def m58:=(58,a0b A58 R58 K58 G58)
theorem g3m:a0d Tryz.prog m58:=fnE (s4 f1S d9h d9k d9o) Tryz.func58
abbrev A19:Ty:=.cons (S46) (.nil)
abbrev R19:Ty:=.cons (S63) (.cons (.bool) (.nil))
def F19 (x:Den A19):OD R19:=bif K57 x then let a:=G57 x;bif K56 (x.1.2.2.2.1,a) then let b:=G56 (x.1.2.2.2.1,a);bif !b.2.1 then some ((0,0,()),false,())else let c:=(x.1.2.2.2.2.1,b.1,x.1.2.2.2.1,());bif K58 c then some (G58 c)else none else none else none
def K19 (x):=(F19 x).isSome
def G19 (x):=(F19 x).getD (zero R19)
def m19:=(19,a0b A19 R19 K19 G19)
theorem f1T:a0d Tryz.prog m19:=fnE (s3 f1O f1R g3m) Tryz.func19
abbrev A20:Ty:=.cons (S68) (.cons (S63) (.nil))
abbrev R20:Ty:=.cons (.bool) (.nil)
def F20 (x:Den A20):OD R20:=bif decide (x.2.1.2.1 ≥ x.1.2.2.2.1) then bif decide (x.2.1.2.1<=x.1.2.2.2.2.1) then let a:=a0a .sub .f32 x.1.2.1 1065353216;bif fgt .f32 x.2.1.1 a||feq .f32 x.2.1.1 a then let b:=a0a .add .f32 x.1.2.2.1 1065353216;bif flt .f32 x.2.1.1 b||feq .f32 x.2.1.1 b then some (true,())else some (false,())else some (false,())else let a:=a0a .sub .f32 x.1.2.1 1065353216;bif fgt .f32 x.2.1.1 a||feq .f32 x.2.1.1 a then let b:=a0a .add .f32 x.1.2.2.1 1065353216;bif flt .f32 x.2.1.1 b||feq .f32 x.2.1.1 b then some (decide ((wrap .u64 ((wrap .u64 x.2.1.2.1)-(wrap .u64 x.1.2.2.2.2.1)))<=5),())else some (false,())else some (false,())else bif decide (x.2.1.2.1<=x.1.2.2.2.2.1) then let a:=a0a .sub .f32 x.1.2.1 1065353216;bif fgt .f32 x.2.1.1 a||feq .f32 x.2.1.1 a then let b:=a0a .add .f32 x.1.2.2.1 1065353216;bif flt .f32 x.2.1.1 b||feq .f32 x.2.1.1 b then bif decide ((wrap .u64 ((wrap .u64 x.1.2.2.2.1)-(wrap .u64 x.2.1.2.1)))<=5) then some (true,())else some (false,())else some (false,())else some (false,())else let a:=a0a .sub .f32 x.1.2.1 1065353216;bif fgt .f32 x.2.1.1 a||feq .f32 x.2.1.1 a then let b:=a0a .add .f32 x.1.2.2.1 1065353216;bif flt .f32 x.2.1.1 b||feq .f32 x.2.1.1 b then let c:=wrap .u64 x.2.1.2.1;bif decide ((wrap .u64 ((wrap .u64 x.1.2.2.2.1)-c))<=5) then some (decide ((wrap .u64 (c-(wrap .u64 x.1.2.2.2.2.1)))<=5),())else some (false,())else some (false,())else some (false,())
def K20 (x):=(F20 x).isSome
def G20 (x):=(F20 x).getD (zero R20)
def m20:=(20,a0b A20 R20 K20 G20)
theorem f1U:a0d Tryz.prog m20:=fnE nS Tryz.func20
abbrev A14:Ty:=.cons (S46) (.nil)
abbrev R14:Ty:=.cons (.bool) (.nil)
def F14 (x:Den A14):OD R14:=bif K23 (x.1.2.2.1,()) then bif K42 (x.1.1,()) then bif !(G42 (x.1.1,())).1 then some (false,())else bif K43 (x.1.2.1,()) then bif !(G43 (x.1.2.1,())).1 then some (false,())else bif !(G23 (x.1.2.2.1,())).2.1 then some (false,())else bif K44 (x.1.2.2.2.1,0,359,()) then bif !(G44 (x.1.2.2.2.1,0,359,())).1 then some (false,())else bif K45 (x.1.2.2.2.2.1,()) then bif !(G45 (x.1.2.2.2.2.1,())).1 then some (false,())else let g:=(length x.1.1.2.2.1:Int);let h:=wrap .i64 (g-1);let j:=(x.1.2.2.2.2.2.1,-1,h,());bif K44 j then bif !(G44 j).1 then some (false,())else bif K46 (x.1.2.2.2.2.2.2.1,()) then bif !(G46 (x.1.2.2.2.2.2.2.1,())).1 then some (false,())else bif decide ((length x.1.2.2.2.2.2.2.2.1:Int)>300) then some (false,())else let i:=(length x.1.2.2.2.2.2.2.1:Int);bif decide (i>0) then let a:=wrap .i64 (i-1);bif decide (0<=a)&&decide (a<i) then bif decide ((getD x.1.2.2.2.2.2.2.1 (toNat a) (zero S97)).2.1>x.1.2.1) then some (false,())else bif decide (x.1.2.2.2.2.2.1 ≥ 0) then bif K19 x then let b:=G19 x;bif b.2.1 then bif decide (0<=x.1.2.2.2.2.2.1)&&decide (x.1.2.2.2.2.2.1<g) then let d:=getD x.1.1.2.2.1 (toNat x.1.2.2.2.2.2.1) (zero S68);bif K20 (d,b.1,()) then some (G20 (d,b.1,()))else none else none else some (false,())else none else some (true,())else none else bif decide (x.1.2.2.2.2.2.1 ≥ 0) then bif K19 x then let c:=G19 x;bif c.2.1 then bif decide (0<=x.1.2.2.2.2.2.1)&&decide (x.1.2.2.2.2.2.1<g) then let e:=getD x.1.1.2.2.1 (toNat x.1.2.2.2.2.2.1) (zero S68);bif K20 (e,c.1,()) then some (G20 (e,c.1,()))else none else none else some (false,())else none else some (true,())else none else none else none else none else none else none else none
def K14 (x):=(F14 x).isSome
def G14 (x):=(F14 x).getD (zero R14)
def m14:=(14,a0b A14 R14 K14 G14)
theorem f1V:a0d Tryz.prog m14:=fnE (s7c e3u f1r c7o a6h b2m g2o f1T (s1 f1U)) Tryz.func14
abbrev A25:Ty:=.cons (.int .i64) (.nil)
abbrev R25:Ty:=.cons (.str) (.nil)
def F25 (x:Den A25):OD R25:=bif K65 x then some (G65 x)else none
def K25 (x):=(F25 x).isSome
def G25 (x):=(F25 x).getD (zero R25)
def m25:=(25,a0b A25 R25 K25 G25)
theorem f1W:a0d Tryz.prog m25:=fnE (s1 f9x) Tryz.func25
abbrev A17:Ty:=.cons (.str) (.nil)
abbrev R17:Ty:=.cons (.int .i64) (.cons (.bool) (.nil))
abbrev b2n:Type:=(b3O×a4h)×Unit
abbrev c7U:Type:=e8B
abbrev c7V:Type:=(Int×d1V)×Unit
def f1X:LR:=⟨[0,4,5],[],0,[0,4],[],⟨[(0,om5),(4,om0),(5,om0)],[],0,0⟩,⟨[(0,om5),(4,om0)],[],0,0⟩,⟨[(2,om0),(3,om2)],[],0,0⟩⟩
def b0f (f:b2n->Option (c7U⊕c7V)) (v:b2n):Option (c7U⊕c7V):=let b:=v.1.2.2.1<(ByteArray.size v.1.1:Int);bif decide b then let a:=decide (0<=v.1.2.2.1)&&decide b;bif a then bif decide (a0p v.1.1 v.1.2.2.1<48) then some (Sum.inr ((0,false,()),()))else bif a then bif decide (a0p v.1.1 v.1.2.2.1>57) then some (Sum.inr ((0,false,()),()))else bif a then f (((v.1.1,wrap .i64 ((wrap .i64 (v.1.2.1*10))+(wrap .i64 (wrap .u8 (a0p v.1.1 v.1.2.2.1-48)))),wrap .i64 (v.1.2.2.1+1),()),()))else none else none else none else some (Sum.inl ((v.1.1,v.1.2.1,()),()))
def b4B (v:b2n):Nat:=v.1.1.size+v.1.2.1.natAbs+v.1.2.2.1.natAbs+1000
def b2o (v:b2n):=a0F b0f (b4B v) v
def a9o (v):=(b2o v).isSome
def a9p (v):=isR (b2o v)
def b4C (v):=xOf default (b2o v)
def b4D (v):=yOf default (b2o v)
def F17 (x:Den A17):OD R17:=let b:=(ByteArray.size x.1:Int);bif b==0 then some (0,false,())else bif decide (b>10) then some (0,false,())else bif a9o ((x.1,0,0,()),()) then bif a9p ((x.1,0,0,()),()) then some (b4D ((x.1,0,0,()),())).1 else let a:=b4C ((x.1,0,0,()),());bif decide (a.1.2.1>1000000000) then some (0,false,())else bif K25 a.1.2 then bif !a0G (G25 a.1.2).1 a.1.1 then some (0,false,())else some (a.1.2.1,true,())else none else none
def K17 (x):=(F17 x).isSome
def G17 (x):=(F17 x).getD (zero R17)
def m17:=(17,a0b A17 R17 K17 G17)
noncomputable def h1w:=gE [m25] Tryz.f17 (lps:=[(5,lmR f1X b2o)])
theorem e3I:EvR h1w (lp Tryz.f17 0) f1X b0f:=fun _ _=>by kernel_rfl
theorem g3n:a0d Tryz.prog m17:=a0y (a0C (s1 f1W)) (a1q Tryz.func17 rfl rfl rfl (by kernel_rfl) (a0f (by kernel_rfl) (s1 (lR e3I b4B)))) fun _=>by kernel_rfl
abbrev g8A:Ty:=.cons (.int .i64) (.nil)
abbrev g3o:Ty:=.cons (.bool) (.nil)
def f7m (x:Den g8A):OD g3o:=let a:=(x.1,-1000000000,1000000000,());bif K44 a then some (G44 a)else none
def f1Y (x):=(f7m x).isSome
def f1Z (x):=(f7m x).getD (zero g3o)
def g8B:=(237,a0b g8A g3o f1Y f1Z)
theorem d9x:a0d Tryz.prog g8B:=fnE (s1 a6h) Tryz.func237
abbrev g8C:Ty:=.cons (.int .i64) (.nil)
abbrev f7n:Ty:=.cons (.str) (.nil)
abbrev c0b:Type:=(Int×b3O×d6I)×Unit
abbrev d9y:Type:=(Int×b3O×d6I)×Unit
def d9z:LX:=⟨[0,3,4],[],0,[0,3,4],[],⟨[(0,om0),(3,om5),(4,om5)],[],0,0⟩,⟨[(0,om0),(3,om5),(4,om5)],[],0,0⟩⟩
def c0c (f:c0b->Option (d9y)) (v:c0b):Option (d9y):=bif decide ((ByteArray.size v.1.2.2.1:Int)<3) then bif decide (ByteArray.size { data:=#[48] }+ByteArray.size v.1.2.2.1<=9223372036854775807) then f (((v.1.1,v.1.2.1,{ data:=#[48] }++v.1.2.2.1,()),()))else none else some (v)
def c7W (v:c0b):Nat:=v.1.1.natAbs+v.1.2.1.size+v.1.2.2.1.size+1000
def c0d (v:c0b):=a0F c0c (c7W v) v
def a9q (v):=(c0d v).isSome
def a1W (v):=(c0d v).getD default
def f7o (x:Den g8C):OD f7n:=bif f1Y x then bif !(f1Z x).1 then some ({ data:=#[] },())else bif decide (x.1<0) then let g:=wrap .i64 (0-x.1);bif K25 (Int.tmod g 1000,()) then let l:=G25 (Int.tmod g 1000,());let h:=((g,{ data:=#[45] },l),());bif a9q h then let b:=a1W h;let i:=wrap .i64 (Int.tdiv b.1.1 1000);bif K25 (i,()) then let c:=G25 (i,());bif decide (ByteArray.size b.1.2.1+ByteArray.size c.1<=9223372036854775807) then let a:=b.1.2.1++c.1;bif decide (ByteArray.size a+ByteArray.size { data:=#[46] }<=9223372036854775807) then let d:=a++{ data:=#[46] };bif decide (ByteArray.size d+ByteArray.size b.1.2.2.1<=9223372036854775807) then some (d++b.1.2.2.1,())else none else none else none else none else none else none else bif K25 (Int.tmod x.1 1000,()) then let m:=G25 (Int.tmod x.1 1000,());let j:=((x.1,{ data:=#[] },m),());bif a9q j then let e:=a1W j;let b:=wrap .i64 (Int.tdiv e.1.1 1000);bif K25 (b,()) then let k:=G25 (b,());bif decide (ByteArray.size e.1.2.1+ByteArray.size k.1<=9223372036854775807) then let c:=e.1.2.1++k.1;bif decide (ByteArray.size c+ByteArray.size { data:=#[46] }<=9223372036854775807) then let a:=c++{ data:=#[46] };bif decide (ByteArray.size a+ByteArray.size e.1.2.2.1<=9223372036854775807) then some (a++e.1.2.2.1,())else none else none else none else none else none else none else none
def d1Z (x):=(f7o x).isSome
def d9A (x):=(f7o x).getD (zero f7n)
def g8D:=(236,a0b g8C f7n d1Z d9A)
noncomputable def g3p:=gE [g8B,m25] Tryz.f236 (lps:=[(7,lmX d9z c0d)])
theorem d4s:EvX g3p (lp Tryz.f236 0) d9z c0c:=fun _ _=>by kernel_rfl
theorem f2a:a0d Tryz.prog g8D:=a0y (a0C (s2 d9x f1W)) (a1q Tryz.func236 rfl rfl rfl (by kernel_rfl) (a0f (by kernel_rfl) (s1 (lX d4s c7W)))) fun _=>by kernel_rfl
abbrev g8E:Ty:=.cons (.str) (.nil)
abbrev e3J:Ty:=.cons (.int .i64) (.cons (.bool) (.nil))
abbrev b2p:Type:=(b3O×b3O×Int×Int×a4h)×Unit
abbrev c7X:Type:=(b3O×a4h)×Unit
abbrev c7Y:Type:=(Int×d1V)×Unit
def c7Z:LR:=⟨[0,4,5,6,7,8],[],0,[0,5,7],[],⟨[(0,om5),(4,om5),(5,om0),(6,om0),(7,om0),(8,om0)],[],0,0⟩,⟨[(0,om5),(5,om0),(7,om0)],[],0,0⟩,⟨[(2,om0),(3,om2)],[],0,0⟩⟩
def a3U (f:b2p->Option (c7X⊕c7Y)) (v:b2p):Option (c7X⊕c7Y):=bif decide (v.1.2.2.2.2.2.1<(ByteArray.size v.1.2.1:Int)) then bif v.1.2.2.2.2.2.1==v.1.2.2.2.1 then f (((v.1.1,v.1.2.1,v.1.2.2.1,v.1.2.2.2.1,v.1.2.2.2.2.1,wrap .i64 (v.1.2.2.2.2.2.1+1),()),()))else bif decide (0<=v.1.2.2.2.2.2.1)&&decide (v.1.2.2.2.2.2.1<(ByteArray.size v.1.2.1:Int)) then bif decide (a0p v.1.2.1 v.1.2.2.2.2.2.1<48) then some (Sum.inr ((0,false,()),()))else bif decide (0<=v.1.2.2.2.2.2.1)&&decide (v.1.2.2.2.2.2.1<(ByteArray.size v.1.2.1:Int)) then bif decide (a0p v.1.2.1 v.1.2.2.2.2.2.1>57) then some (Sum.inr ((0,false,()),()))else bif decide (0<=v.1.2.2.2.2.2.1)&&decide (v.1.2.2.2.2.2.1<(ByteArray.size v.1.2.1:Int)) then f (((v.1.1,v.1.2.1,v.1.2.2.1,v.1.2.2.2.1,wrap .i64 ((wrap .i64 (v.1.2.2.2.2.1*10))+(wrap .i64 (wrap .u8 (a0p v.1.2.1 v.1.2.2.2.2.2.1-48)))),wrap .i64 (v.1.2.2.2.2.2.1+1),()),()))else none else none else none else some (Sum.inl ((v.1.1,v.1.2.2.1,v.1.2.2.2.2.1,()),()))
def a7v (v:b2p):Nat:=v.1.1.size+v.1.2.1.size+v.1.2.2.1.natAbs+v.1.2.2.2.1.natAbs+v.1.2.2.2.2.1.natAbs+v.1.2.2.2.2.2.1.natAbs+1000
def a6i (v:b2p):=a0F a3U (a7v v) v
def a3N (v):=(a6i v).isSome
def a4G (v):=isR (a6i v)
def a1k (v):=xOf default (a6i v)
def a5A (v):=yOf default (a6i v)
def e3K (x:Den g8E):OD e3J:=bif !a0G x.1 { data:=#[] } then let d:=(ByteArray.size x.1:Int);bif decide (0<=0)&&decide (0<d) then bif a0p x.1 0==45 then bif decide (0<=1)&&decide (1<=d)&&decide (d<=d) then let i:=(ByteArray.extract x.1 (toNat 1) (toNat d),46,());bif e2A i then let a:=a5I i;bif decide (a.1<1) then some (0,false,())else bif (↑(ByteArray.size (ByteArray.extract x.1 (toNat 1) (toNat d))):Int) != (wrap .i64 (a.1+4)) then some (0,false,())else bif decide (a.1>7) then some (0,false,())else let e:=((x.1,ByteArray.extract x.1 (toNat 1) (toNat d),-1,a.1,0,0,()),());bif a3N e then bif a4G e then some (a5A e).1 else let b:=a1k e;let c:=wrap .i64 (b.1.2.2.1*b.1.2.1);bif d1Z (c,()) then bif !a0G (d9A (c,())).1 b.1.1 then some (0,false,())else some (c,true,())else none else none else none else none else bif e2A (x.1,46,()) then let a:=a5I (x.1,46,());bif decide (a.1<1) then some (0,false,())else bif d != (wrap .i64 (a.1+4)) then some (0,false,())else bif decide (a.1>7) then some (0,false,())else let g:=((x.1,x.1,1,a.1,0,0,()),());bif a3N g then bif a4G g then some (a5A g).1 else let b:=a1k g;let c:=wrap .i64 (b.1.2.2.1*b.1.2.1);bif d1Z (c,()) then bif !a0G (d9A (c,())).1 b.1.1 then some (0,false,())else some (c,true,())else none else none else none else none else bif e2A (x.1,46,()) then let a:=a5I (x.1,46,());bif decide (a.1<1) then some (0,false,())else bif (ByteArray.size x.1:Int) != (wrap .i64 (a.1+4)) then some (0,false,())else bif decide (a.1>7) then some (0,false,())else let h:=((x.1,x.1,1,a.1,0,0,()),());bif a3N h then bif a4G h then some (a5A h).1 else let b:=a1k h;let c:=wrap .i64 (b.1.2.2.1*b.1.2.1);bif d1Z (c,()) then bif !a0G (d9A (c,())).1 b.1.1 then some (0,false,())else some (c,true,())else none else none else none
def e3L (x):=(e3K x).isSome
def b5W (x):=(e3K x).getD (zero e3J)
def h1x:=(191,a0b g8E e3J e3L b5W)
noncomputable def g3q:=gE [h0A,g8D] Tryz.f191 (lps:=[(10,lmR c7Z a6i)])
theorem c8a:EvR g3q (lp Tryz.f191 0) c7Z a3U:=fun _ _=>by kernel_rfl
theorem f2b:a0d Tryz.prog h1x:=a0y (a0C (s2 e8J f2a)) (a1q Tryz.func191 rfl rfl rfl (by kernel_rfl) (a0f (by kernel_rfl) (s1 (lR c8a a7v)))) fun _=>by kernel_rfl
abbrev g8F:Ty:=.cons (.int .i64) (.nil)
abbrev g3r:Ty:=.cons (.flt .f64) (.nil)
def f7p (x:Den g8F):OD g3r:=bif f1Y x then bif !(f1Z x).1 then some (0,())else some (a0a .quo .f64 (nearest .f64 x.1) 4652007308841189376,())else none
def e3M (x):=(f7p x).isSome
def c8b (x):=(f7p x).getD (zero g3r)
def h1y:=(192,a0b g8F g3r e3M c8b)
theorem f2c:a0d Tryz.prog h1y:=fnE (s1 d9x) Tryz.func192
abbrev f7q:Ty:=.cons (.slice (.str)) (.nil)
abbrev f2d:Ty:=.cons (.flt .f64) (.cons (.flt .f64) (.cons (.bool) (.nil)))
def e7D (x:Den f7q):OD f2d:=bif decide (0<=0)&&decide (0<(length x.1:Int)) then let c:=getD x.1 (toNat 0) (zero Ty.str);bif e3L (c,()) then bif decide (0<=1)&&decide (1<(length x.1:Int)) then let d:=getD x.1 (toNat 1) (zero Ty.str);bif e3L (d,()) then let a:=b5W (c,());bif e3M (a.1,()) then let b:=b5W (d,());bif e3M (b.1,()) then bif a.2.1 then some ((c8b (a.1,())).1,(c8b (b.1,())).1,b.2)else some ((c8b (a.1,())).1,(c8b (b.1,())).1,false,())else none else none else none else none else none else none
def f2e (x):=(e7D x).isSome
def b0g (x):=(e7D x).getD (zero f2d)
def h1z:=(132,a0b f7q f2d f2e b0g)
theorem f2f:a0d Tryz.prog h1z:=fnE (s2 f2b f2c) Tryz.func132
abbrev g8G:Ty:=.cons (.flt .f32) (.nil)
abbrev g3s:Ty:=.cons (.bool) (.nil)
def g3t (x:Den g8G):OD g3s:=bif fgt .f32 x.1 0||feq .f32 x.1 0 then some (flt .f32 x.1 1065353216||feq .f32 x.1 1065353216,())else some (false,())
def g3u (x):=(g3t x).isSome
def g3v (x):=(g3t x).getD (zero g3s)
def h1A:=(193,a0b g8G g3s g3u g3v)
theorem f2g:a0d Tryz.prog h1A:=fnE nS Tryz.func193
abbrev g8H:Ty:=.cons (.flt .f32) (.cons (.flt .f32) (.cons (.flt .f32) (.nil)))
abbrev g3w:Ty:=.cons (.flt .f32) (.nil)
def g3x (x:Den g8H):OD g3w:=some (a0a .add .f32 x.1 (a0a .mul .f32 (a0a .sub .f32 x.2.1 x.1) x.2.2.1),())
def f7r (x):=(g3x x).isSome
def f7s (x):=(g3x x).getD (zero g3w)
def h1B:=(194,a0b g8H g3w f7r f7s)
theorem f2h:a0d Tryz.prog h1B:=fnE nS Tryz.func194
abbrev f7t:Ty:=.cons (.cpx .f32) (.cons (.cpx .f32) (.cons (.flt .f32) (.nil)))
abbrev f7u:Ty:=.cons (.cpx .f32) (.cons (.bool) (.nil))
def f7v (x:Den f7t):OD f7u:=bif K45 (x.1,()) then bif !(G45 (x.1,())).1 then some ((0,0),false,())else bif K45 (x.2.1,()) then bif !(G45 (x.2.1,())).1 then some ((0,0),false,())else bif g3u x.2.2 then bif !(g3v x.2.2).1 then some ((0,0),false,())else bif f7r (x.1.1,x.2.1.1,x.2.2) then bif f7r (x.1.2,x.2.1.2,x.2.2) then some (((f7s (x.1.1,x.2.1.1,x.2.2)).1,(f7s (x.1.2,x.2.1.2,x.2.2)).1),true,())else none else none else none else none else none
def f7w (x):=(f7v x).isSome
def e3N (x):=(f7v x).getD (zero f7u)
def h1C:=(133,a0b f7t f7u f7w e3N)
theorem f2j:a0d Tryz.prog h1C:=fnE (s3 b2m f2g f2h) Tryz.func133
abbrev f2k:Ty:=.cons (S68) (.cons (S63) (.nil))
abbrev f7x:Ty:=.cons (.bool) (.nil)
def f7y (x:Den f2k):OD f7x:=bif fgt .f32 x.2.1.1 x.1.2.1||feq .f32 x.2.1.1 x.1.2.1 then bif flt .f32 x.2.1.1 x.1.2.2.1||feq .f32 x.2.1.1 x.1.2.2.1 then bif K44 (x.2.1.2.1,x.1.2.2.2) then some (G44 (x.2.1.2.1,x.1.2.2.2))else none else some (false,())else some (false,())
def e7E (x):=(f7y x).isSome
def e7F (x):=(f7y x).getD (zero f7x)
def g8I:=(135,a0b f2k f7x e7E e7F)
theorem d9B:a0d Tryz.prog g8I:=fnE (s1 a6h) Tryz.func135
abbrev g8J:Ty:=.cons (a2R) (.nil)
abbrev g3y:Ty:=.cons (.bool) (.nil)
def f7z (x:Den g8J):OD g3y:=bif e3q (x.1.2.1,()) then bif (e3r (x.1.2.1,())).1 then bif K44 (x.1.2.2.1,0,100000,()) then some (G44 (x.1.2.2.1,0,100000,()))else none else some (false,())else none
def f7A (x):=(f7z x).isSome
def f7B (x):=(f7z x).getD (zero g3y)
def g8K:=(238,a0b g8J g3y f7A f7B)
theorem f2l:a0d Tryz.prog g8K:=fnE (s2 c6W a6h) Tryz.func238
abbrev g8L:Ty:=.cons (.slice (a2R)) (.nil)
abbrev g3z:Ty:=.cons (.bool) (.nil)
abbrev c0e:Type:=(c5n×c5n×a4h)×Unit
abbrev d9C:Type:=(c5n×Unit)×Unit
abbrev d9D:Type:=ty9
def d9E:LR:=⟨[0,5,6,7],[],0,[0],[],⟨[(0,om8),(5,om8),(6,om0),(7,om0)],[],0,0⟩,⟨[(0,om8)],[],0,0⟩,⟨a9h,[],0,0⟩⟩
def b4E (f:c0e->Option (d9C⊕d9D)) (v:c0e):Option (d9C⊕d9D):=bif decide (v.1.2.2.2.1<v.1.2.2.1) then bif decide (0<=v.1.2.2.2.1)&&decide (v.1.2.2.2.1<(length v.1.2.1:Int)) then let a:=getD v.1.2.1 (toNat v.1.2.2.2.1) (zero a2R);bif f7A (a,()) then bif !(f7B (a,())).1 then some (Sum.inr ((false,()),()))else f (((v.1.1,v.1.2.1,v.1.2.2.1,wrap .i64 (v.1.2.2.2.1+1),()),()))else none else none else some (Sum.inl ((v.1.1,()),()))
def c8c (v:c0e):Nat:=v.1.1.length+v.1.2.1.length+v.1.2.2.1.natAbs+v.1.2.2.2.1.natAbs+1000
def a9r (v:c0e):=a0F b4E (c8c v) v
def b6O (v):=(a9r v).isSome
def b6P (v):=isR (a9r v)
def b6Q (v):=xOf default (a9r v)
def b6R (v):=yOf default (a9r v)
def f7C (x:Den g8L):OD g3z:=let a:=((x.1,x.1,(length x.1:Int),0,()),());bif b6O a then bif b6P a then some (b6R a).1 else some (decide ((↑(length (b6Q a).1.1):Int)<=50),())else none
def f7D (x):=(f7C x).isSome
def f7E (x):=(f7C x).getD (zero g3z)
def g8M:=(195,a0b g8L g3z f7D f7E)
noncomputable def g3A:=gE [g8K] Tryz.f195 (lps:=[(2,lmR d9E a9r)])
theorem d4t:EvR g3A (lp Tryz.f195 0) d9E b4E:=fun _ _=>by kernel_rfl
theorem f2m:a0d Tryz.prog g8M:=a0y (a0C (s1 f2l)) (a1q Tryz.func195 rfl rfl rfl (by kernel_rfl) (a0f (by kernel_rfl) (s1 (lR d4t c8c)))) fun _=>by kernel_rfl
abbrev g8N:Ty:=.cons (.cpx .f64) (.cons (.cpx .f64) (.nil))
abbrev g3B:Ty:=.cons (.cpx .f64) (.nil)
def g3C (x:Den g8N):OD g3B:=some ((a0a .sub .f64 x.1.1 x.2.1.1,a0a .sub .f64 x.1.2 x.2.1.2),())
def g3D (x):=(g3C x).isSome
def g3E (x):=(g3C x).getD (zero g3B)
def g8O:=(263,a0b g8N g3B g3D g3E)
theorem f2n:a0d Tryz.prog g8O:=fnE nS Tryz.func263
abbrev g8P:Ty:=.cons (S30) (.cons (.cpx .f64) (.nil))
abbrev g3F:Ty:=.cons (.int .i64) (.nil)
abbrev c0f:Type:=(a4X×Int×Nat×c5l×a4h)×Unit
abbrev d9F:Type:=c5o
def d9G:LX:=⟨[1,5,6,20,21,22],[],0,[5],[],⟨[(1,om6),(5,om0),(6,d3c),(20,.one (.sl (a1r))),(21,om0),(22,om0)],[],0,0⟩,⟨[(5,om0)],[],0,0⟩⟩
def b4F (f:c0f->Option (d9F)) (v:c0f):Option (d9F):=bif decide (v.1.2.2.2.2.2.1<v.1.2.2.2.2.1) then bif decide (0<=v.1.2.2.2.2.2.1)&&decide (v.1.2.2.2.2.2.1<(length v.1.2.2.2.1:Int)) then let b:=getD v.1.2.2.2.1 (toNat v.1.2.2.2.2.2.1) (zero a1r);bif g3D (b.1,v.1.1,()) then let a:=g3E (b.1,v.1.1,());bif e3F (a.1,a) then bif decide (v.1.2.1<0) then f (((v.1.1,v.1.2.2.2.2.2.1,(d4k (a.1,a)).1,v.1.2.2.2.1,v.1.2.2.2.2.1,wrap .i64 (v.1.2.2.2.2.2.1+1),()),()))else let c:=d4k (a.1,a);bif flt .f64 c.1 v.1.2.2.1 then f (((v.1.1,v.1.2.2.2.2.2.1,c.1,v.1.2.2.2.1,v.1.2.2.2.2.1,wrap .i64 (v.1.2.2.2.2.2.1+1),()),()))else f (((v.1.1,v.1.2.1,v.1.2.2.1,v.1.2.2.2.1,v.1.2.2.2.2.1,wrap .i64 (v.1.2.2.2.2.2.1+1),()),()))else none else none else none else some ((v.1.2.1,()),())
def c8d (v:c0f):Nat:=v.1.2.1.natAbs+v.1.2.2.2.1.length+v.1.2.2.2.2.1.natAbs+v.1.2.2.2.2.2.1.natAbs+1000
def c0g (v:c0f):=a0F b4F (c8d v) v
def c8e (v):=(c0g v).isSome
def c8f (v):=(c0g v).getD default
def f2o (x:Den g8P):OD g3F:=bif K91 (x.1,()) then bif !(G91 (x.1,())).1 then some (-1,())else bif K61 x.2 then bif !(G61 x.2).1 then some (-1,())else let a:=((x.2.1,-1,0,x.1.1,(length x.1.1:Int),0,()),());bif c8e a then some (c8f a).1 else none else none else none
def g3G (x):=(f2o x).isSome
def g3H (x):=(f2o x).getD (zero g3F)
def h1D:=(239,a0b g8P g3F g3G g3H)
noncomputable def g3I:=gE [m91,m61,g8O,g8e] Tryz.f239 (lps:=[(5,lmX d9G c0g)])
theorem d4u:EvX g3I (lp Tryz.f239 0) d9G b4F:=fun _ _=>by kernel_rfl
theorem f2p:a0d Tryz.prog h1D:=a0y (a0C (s4 e3x b6M f2n c7H)) (a1q Tryz.func239 rfl rfl rfl (by kernel_rfl) (a0f (by kernel_rfl) (s1 (lX d4u c8d)))) fun _=>by kernel_rfl
abbrev g8Q:Sg:=⟨[.val (.int .i64),.ptr 0,.ptr 1],[.box (.int .i64),.box (S30)]⟩
abbrev g3J:Sg:=⟨[.val (.int .i64)],[.box (.int .i64),.box (S30)]⟩
def e7G (x:g8Q.den):Option (g3J.den):=let a:=decide (0<=x.1.1)&&decide (x.1.1<(length x.2.2.1.2.1:Int));bif a then bif a then let b:=getD x.2.2.1.2.1 (toNat x.1.1) (zero (Ty.int IntKind.i64));some ((e1H (wrap .i64 (x.2.1-b)) (wrap .i64 (b-x.2.1)),()),x.2)else none else none
def f7F (x):=(e7G x).isSome
def f7G (x):=(e7G x).getD (a1b g3J)
def g8R:=(264,a0H true g8Q g3J f7F f7G)
theorem f2q:a0d Tryz.prog g8R:=sgE true nS Tryz.func264
abbrev g8S:Ty:=.cons (S30) (.cons (.int .i64) (.nil))
abbrev g3K:Ty:=.cons (.int .i64) (.nil)
abbrev c0h:Type:=(Unit×Int×a4h)×ty6×b3P
abbrev d9H:Type:=c5o
def d9I:LX:=⟨[5,6,19,20],[],0,[6],[],⟨[(5,.one (.fn 264 [0,1])),(6,om0),(19,om0),(20,om0)],[(0,.box [.int .i64]),(1,bx1)],2,0⟩,⟨[(6,om0)],[],0,0⟩⟩
def b4G (f:c0h->Option (d9H)) (v:c0h):Option (d9H):=bif decide (v.1.2.2.2.1<v.1.2.2.1) then bif f7F ((v.1.2.2.2.1,(),(),()),v.2.1.1,v.2.2) then let b:=f7G ((v.1.2.2.2.1,(),(),()),v.2.1.1,v.2.2);bif f7F ((v.1.2.1,(),(),()),b.2) then let a:=f7G ((v.1.2.1,(),(),()),b.2);bif decide (b.1.1<a.1.1) then f ((((),v.1.2.2.2.1,v.1.2.2.1,wrap .i64 (v.1.2.2.2.1+1),()),(a.2.1,()),a.2.2))else f ((((),v.1.2.1,v.1.2.2.1,wrap .i64 (v.1.2.2.2.1+1),()),(a.2.1,()),a.2.2))else none else none else some ((v.1.2.1,()),())
def c8g (v:c0h):Nat:=v.1.2.1.natAbs+v.1.2.2.1.natAbs+v.1.2.2.2.1.natAbs+v.2.1.1.natAbs+v.2.2.1.1.length+v.2.2.1.2.1.length+1000
def c0i (v:c0h):=a0F b4G (c8g v) v
def c8h (v):=(c0i v).isSome
def c8i (v):=(c0i v).getD default
def f2r (x:Den g8S):OD g3K:=bif K91 (x.1,()) then bif !(G91 (x.1,())).1 then some (-1,())else bif K43 x.2 then bif !(G43 x.2).1 then some (-1,())else let a:=(((),0,(length x.1.2.1:Int),0,()),x.2,x.1,());bif c8h a then some (c8i a).1 else none else none else none
def g3L (x):=(f2r x).isSome
def g3M (x):=(f2r x).getD (zero g3K)
def h1E:=(240,a0b g8S g3K g3L g3M)
noncomputable def g3N:=gE [m91,m43,g8R] Tryz.f240 (lps:=[(6,lmX d9I c0i)])
theorem d4v:EvX g3N (lp Tryz.f240 0) d9I b4G:=fun _ _=>by kernel_rfl
theorem f2s:a0d Tryz.prog h1E:=a0y (a0C (s3 e3x c7o f2q)) (a1q Tryz.func240 rfl rfl rfl (by kernel_rfl) (a0f (by kernel_rfl) (s1 (lX d4v c8g)))) fun _=>by kernel_rfl
abbrev g8T:Ty:=.cons (.int .i64) (.cons (.int .i64) (.cons (.int .i64) (.nil)))
abbrev g3O:Ty:=.cons (.int .i64) (.nil)
def f2t (x:Den g8T):OD g3O:=bif decide (x.2.2.1<x.2.1) then some (x.2.1,())else bif decide (x.1<x.2.1) then some (x.2.1,())else some (a3a x.1 x.2.2.1,())
def g3P (x):=(f2t x).isSome
def g3Q (x):=(f2t x).getD (zero g3O)
def h1F:=(265,a0b g8T g3O g3P g3Q)
theorem f2u:a0d Tryz.prog h1F:=fnE nS Tryz.func265
abbrev g8U:Ty:=.cons (a1r) (.cons (.int .i64) (.nil))
abbrev g3R:Ty:=.cons (.cpx .f32) (.cons (.bool) (.nil))
def f7H (x:Den g8U):OD g3R:=let h:=([x.1.2.1.1,x.1.2.1.2.1,x.1.2.1.2.2.1,x.1.2.1.2.2.2.1,x.1.2.1.2.2.2.2.1,x.1.2.1.2.2.2.2.2.1,x.1.2.1.2.2.2.2.2.2.1,x.1.2.1.2.2.2.2.2.2.2.1,x.1.2.1.2.2.2.2.2.2.2.2.1,x.1.2.1.2.2.2.2.2.2.2.2.2.1,x.1.2.1.2.2.2.2.2.2.2.2.2.2.1,x.1.2.1.2.2.2.2.2.2.2.2.2.2.2.1,x.1.2.1.2.2.2.2.2.2.2.2.2.2.2.2.1],());bif f1b h then bif !(f1c h).1 then some ((0,0),false,())else bif g3P (x.2.1,-21600,21600,()) then let b:=wrap .i64 ((g3Q (x.2.1,-21600,21600,())).1+21600);bif Int.tmod b 3600==0 then let a:=wrap .i64 (Int.tdiv b 3600);bif decide (0<=a)&&decide (a<(↑13:Int)) then some (getD [x.1.2.1.1,x.1.2.1.2.1,x.1.2.1.2.2.1,x.1.2.1.2.2.2.1,x.1.2.1.2.2.2.2.1,x.1.2.1.2.2.2.2.2.1,x.1.2.1.2.2.2.2.2.2.1,x.1.2.1.2.2.2.2.2.2.2.1,x.1.2.1.2.2.2.2.2.2.2.2.1,x.1.2.1.2.2.2.2.2.2.2.2.2.1,x.1.2.1.2.2.2.2.2.2.2.2.2.2.1,x.1.2.1.2.2.2.2.2.2.2.2.2.2.2.1,x.1.2.1.2.2.2.2.2.2.2.2.2.2.2.2.1] (toNat a) (0,0),true,())else none else let a:=wrap .i64 (Int.tdiv b 3600);bif decide (0<=a)&&decide (a<(↑13:Int)) then let g:=wrap .i64 (a+1);bif decide (0<=g)&&decide (g<(↑13:Int)) then let c:=getD [x.1.2.1.1,x.1.2.1.2.1,x.1.2.1.2.2.1,x.1.2.1.2.2.2.1,x.1.2.1.2.2.2.2.1,x.1.2.1.2.2.2.2.2.1,x.1.2.1.2.2.2.2.2.2.1,x.1.2.1.2.2.2.2.2.2.2.1,x.1.2.1.2.2.2.2.2.2.2.2.1,x.1.2.1.2.2.2.2.2.2.2.2.2.1,x.1.2.1.2.2.2.2.2.2.2.2.2.2.1,x.1.2.1.2.2.2.2.2.2.2.2.2.2.2.1,x.1.2.1.2.2.2.2.2.2.2.2.2.2.2.2.1] (toNat a) (0,0);let d:=getD [x.1.2.1.1,x.1.2.1.2.1,x.1.2.1.2.2.1,x.1.2.1.2.2.2.1,x.1.2.1.2.2.2.2.1,x.1.2.1.2.2.2.2.2.1,x.1.2.1.2.2.2.2.2.2.1,x.1.2.1.2.2.2.2.2.2.2.1,x.1.2.1.2.2.2.2.2.2.2.2.1,x.1.2.1.2.2.2.2.2.2.2.2.2.1,x.1.2.1.2.2.2.2.2.2.2.2.2.2.1,x.1.2.1.2.2.2.2.2.2.2.2.2.2.2.1,x.1.2.1.2.2.2.2.2.2.2.2.2.2.2.2.1] (toNat g) (0,0);let e:=a0a .quo .f32 (nearest .f32 (Int.tmod b 3600)) 1163984896;bif e7z (c.1,d.1,e,()) then bif e7z (c.2,d.2,e,()) then some (((e7A (c.1,d.1,e,())).1,(e7A (c.2,d.2,e,())).1),true,())else none else none else none else none else none else none
def g3S (x):=(f7H x).isSome
def g3T (x):=(f7H x).getD (zero g3R)
def h1G:=(241,a0b g8U g3R g3S g3T)
theorem f2v:a0d Tryz.prog h1G:=fnE (s3 d8F f2u c7M) Tryz.func241
abbrev g8V:Ty:=.cons (S30) (.cons (.cpx .f64) (.cons (.int .i64) (.nil)))
abbrev g3U:Ty:=.cons (.cpx .f32) (.cons (.bool) (.nil))
def f7I (x:Den g8V):OD g3U:=bif g3G (x.1,x.2.1,()) then bif g3L (x.1,x.2.2) then let a:=g3H (x.1,x.2.1,());bif decide (a.1<0) then some ((0,0),false,())else let b:=g3M (x.1,x.2.2);bif decide (b.1<0) then some ((0,0),false,())else bif decide (0<=a.1)&&decide (a.1<(length x.1.1:Int)) then bif decide (0<=b.1)&&decide (b.1<(length x.1.2.1:Int)) then let c:=getD x.1.1 (toNat a.1) (zero a1r);let d:=wrap .i64 (x.2.2.1-(getD x.1.2.1 (toNat b.1) (zero (Ty.int IntKind.i64))));bif g3S (c,d,()) then some (g3T (c,d,()))else none else none else none else none else none
def f7J (x):=(f7I x).isSome
def e3O (x):=(f7I x).getD (zero g3U)
def g8W:=(196,a0b g8V g3U f7J e3O)
theorem f2w:a0d Tryz.prog g8W:=fnE (s3 f2p f2s f2v) Tryz.func196
abbrev g8X:Ty:=.cons (.cpx .f32) (.cons (.cpx .f32) (.nil))
abbrev g3V:Ty:=.cons (.cpx .f32) (.nil)
def g3W (x:Den g8X):OD g3V:=some ((a0a .add .f32 x.1.1 x.2.1.1,a0a .add .f32 x.1.2 x.2.1.2),())
def g3X (x):=(g3W x).isSome
def g3Y (x):=(g3W x).getD (zero g3V)
def h1H:=(266,a0b g8X g3V g3X g3Y)
theorem f2x:a0d Tryz.prog h1H:=fnE nS Tryz.func266
abbrev g8Y:Ty:=.cons (.int .i64) (.cons (.flt .f32) (.cons (.cpx .f32) (.nil)))
abbrev g3Z:Ty:=.cons (.cpx .f32) (.cons (.bool) (.nil))
def f7K (x:Den g8Y):OD g3Z:=bif K56 (x.1,x.2.1,()) then let a:=G56 (x.1,x.2.1,());bif !a.2.1 then some ((0,0),false,())else bif K45 x.2.2 then bif !(G45 x.2.2).1 then some ((0,0),false,())else bif g3X (a.1,x.2.2) then some ((g3Y (a.1,x.2.2)).1,true,())else none else none else none
def g4a (x):=(f7K x).isSome
def g4b (x):=(f7K x).getD (zero g3Z)
def h1I:=(242,a0b g8Y g3Z g4a g4b)
theorem f2y:a0d Tryz.prog h1I:=fnE (s3 f1R b2m f2x) Tryz.func242
abbrev g8Z:Ty:=.cons (.cpx .f64) (.cons (.cpx .f32) (.cons (.int .i64) (.nil)))
abbrev g4c:Ty:=.cons (.cpx .f64) (.cons (.bool) (.nil))
def f7L (x:Den g8Z):OD g4c:=bif K61 (x.1,()) then bif !(G61 (x.1,())).1 then some ((0,0),false,())else bif K45 (x.2.1,()) then bif !(G45 (x.2.1,())).1 then some ((0,0),false,())else bif K44 (x.2.2.1,0,100000,()) then bif !(G44 (x.2.2.1,0,100000,())).1 then some ((0,0),false,())else let c:=nearest .f64 x.2.2.1;let a:=a0a .add .f64 x.1.1 (a0a .mul .f64 (a0x .f32 .f64 x.2.1.1).2 c);let b:=a0a .add .f64 x.1.2 (a0a .mul .f64 (a0x .f32 .f64 x.2.1.2).2 c);bif K61 ((a,b),()) then bif !(G61 ((a,b),())).1 then some ((0,0),false,())else some ((a,b),true,())else none else none else none else none
def g4d (x):=(f7L x).isSome
def g4e (x):=(f7L x).getD (zero g4c)
def h1J:=(243,a0b g8Z g4c g4d g4e)
theorem f2z:a0d Tryz.prog h1J:=fnE (s3 b6M b2m a6h) Tryz.func243
abbrev g9a:Ty:=.cons (.cpx .f64) (.cons (a2R) (.cons (.int .i64) (.cons (.cpx .f32) (.nil))))
abbrev g4f:Ty:=.cons (.cpx .f64) (.cons (.bool) (.nil))
def f7M (x:Den g9a):OD g4f:=let b:=(x.2.1.1,x.2.1.2.1,x.2.2.2);bif g4a b then let a:=g4b b;bif !a.2.1 then some ((0,0),false,())else bif g4d (x.1,a.1,x.2.2.1,()) then some (g4e (x.1,a.1,x.2.2.1,()))else none else none
def f7N (x):=(f7M x).isSome
def f2A (x):=(f7M x).getD (zero g4f)
def g9b:=(197,a0b g9a g4f f7N f2A)
theorem f2B:a0d Tryz.prog g9b:=fnE (s2 f2y f2z) Tryz.func197
abbrev f7O:Ty:=.cons (.cpx .f64) (.cons (.int .i64) (.cons (.slice (a2R)) (.cons (S30) (.nil))))
abbrev f7P:Ty:=.cons (.cpx .f64) (.cons (.bool) (.nil))
abbrev c0j:Type:=(a4X×Int×Unit×Unit×Int×c5n×a4h)×ty7×(Int×d1W)×Unit
abbrev d9J:Type:=(a4X×Int×Unit×c5n×a4h)×b3P
abbrev d9K:Type:=f6g
def d9L:LR:=⟨[0,1,7,11,12,25,26,27],[],2,[0,1,7,25,26,27],[],⟨[(0,om6),(1,om0),(7,om1),(11,om3),(12,om0),(25,om8),(26,om0),(27,om0)],[(0,bx1),(1,.box [.int .i64,.flt .f32,.int .i64])],2,0⟩,⟨[(0,om6),(1,om0),(7,om1),(25,om8),(26,om0),(27,om0)],c2C,1,0⟩,⟨[(8,om6),(9,om2)],[],0,0⟩⟩
def b4H (f:c0j->Option (d9J⊕d9K)) (v:c0j):Option (d9J⊕d9K):=bif decide (v.1.2.2.2.2.1>0) then bif f7J (v.2.1,v.1.1,v.1.2.1,()) then let a:=e3O (v.2.1,v.1.1,v.1.2.1,());bif !a.2.1 then some (Sum.inr (((0,0),false,()),()))else let b:=(v.1.1,v.2.2.1,a3a v.1.2.2.2.2.1 600,a.1,());bif f7N b then let c:=f2A b;bif !c.2.1 then some (Sum.inr (((0,0),false,()),()))else f (((c.1,wrap .i64 (v.1.2.1+a3a v.1.2.2.2.2.1 600),(),(),wrap .i64 (v.1.2.2.2.2.1-a3a v.1.2.2.2.2.1 600),v.1.2.2.2.2.2),v.2))else none else none else some (Sum.inl ((v.1.1,v.1.2.1,(),v.1.2.2.2.2.2),v.2.1,()))
def c0k (v:c0j):Nat:=v.1.2.1.natAbs+v.1.2.2.2.2.1.natAbs+v.1.2.2.2.2.2.1.length+v.1.2.2.2.2.2.2.1.natAbs+v.1.2.2.2.2.2.2.2.1.natAbs+v.2.1.1.length+v.2.1.2.1.length+v.2.2.1.1.natAbs+v.2.2.1.2.2.1.natAbs+1000
def b0S (v:c0j):=a0F b4H (c0k v) v
def b6S (v):=(b0S v).isSome
def b6T (v):=isR (b0S v)
def a4H (v):=xOf default (b0S v)
def b6U (v):=yOf default (b0S v)
abbrev c0l:Type:=(a4X×Int×Unit×c5n×a4h)×b3P
abbrev c8j:Type:=f6h
abbrev c8k:Type:=f6g
def d9M:LR:=⟨[0,1,7,25,26,27],[],0,[0],[],⟨[(0,om6),(1,om0),(7,om1),(25,om8),(26,om0),(27,om0)],c2C,1,0⟩,⟨[(0,om6)],[],0,0⟩,⟨[(8,om6),(9,om2)],[],0,0⟩⟩
def c8l (f:c0l->Option (c8j⊕c8k)) (v:c0l):Option (c8j⊕c8k):=bif decide (v.1.2.2.2.2.2.1<v.1.2.2.2.2.1) then bif decide (0<=v.1.2.2.2.2.2.1)&&decide (v.1.2.2.2.2.2.1<(length v.1.2.2.2.1:Int)) then let c:=getD v.1.2.2.2.1 (toNat v.1.2.2.2.2.2.1) (zero a2R);let b:=((v.1.1,v.1.2.1,(),(),c.2.2.1,v.1.2.2.2),v.2.1,c,());bif b6S b then bif b6T b then some (Sum.inr (b6U b))else let a:=a4H b;f (((a.1.1,a.1.2.1,(),a.1.2.2.2.1,a.1.2.2.2.2.1,wrap .i64 (a.1.2.2.2.2.2.1+1),()),a.2))else none else none else some (Sum.inl ((v.1.1,()),()))
def b4I (v:c0l):Nat:=v.1.2.1.natAbs+v.1.2.2.2.1.length+v.1.2.2.2.2.1.natAbs+v.1.2.2.2.2.2.1.natAbs+v.2.1.1.length+v.2.1.2.1.length+1000
def a9s (v:c0l):=a0F c8l (b4I v) v
def b6V (v):=(a9s v).isSome
def b6W (v):=isR (a9s v)
def b6X (v):=xOf default (a9s v)
def b6Y (v):=yOf default (a9s v)
def e3P (x:Den f7O):OD f7P:=bif K61 (x.1,()) then bif !(G61 (x.1,())).1 then some ((0,0),false,())else bif f7D (x.2.2.1,()) then bif !(f7E (x.2.2.1,())).1 then some ((0,0),false,())else let a:=((x.1,x.2.1,(),x.2.2.1,(length x.2.2.1:Int),0,()),x.2.2.2);bif b6V a then bif b6W a then some (b6Y a).1 else some ((b6X a).1.1,true,())else none else none else none
def f7Q (x):=(e3P x).isSome
def d9N (x):=(e3P x).getD (zero f7P)
def h1K:=(136,a0b f7O f7P f7Q d9N)
noncomputable def f2C:=gE [m61,g8M,g8W,g9b] Tryz.f136 (lps:=[(4,lmR d9M a9s),(7,lmR d9L b0S)])
theorem d4w:EvR f2C (lp Tryz.f136 0) d9M c8l:=fun _ _=>by kernel_rfl
theorem d4x:EvR f2C (lp Tryz.f136 1) d9L b4H:=fun _ _=>by kernel_rfl
theorem f2D:a0d Tryz.prog h1K:=a0y (a0C (s4 b6M f2m f2w f2B)) (a1q Tryz.func136 rfl rfl rfl (by kernel_rfl) (a0f (by kernel_rfl) (s2 (lR d4w b4I) (lR d4x c0k)))) fun _=>by kernel_rfl
abbrev g9c:Ty:=.cons (.slice (S68)) (.cons (S63) (.nil))
abbrev g4g:Ty:=.cons (.int .i64) (.nil)
abbrev c0m:Type:=(Unit×b2c×a4h)×d1W×Unit
abbrev d9O:Type:=a4r
abbrev d9P:Type:=c5o
def d9Q:LR:=⟨[3,10,11,12],[],0,[],[],⟨[(3,om1),(10,om7),(11,om0),(12,om0)],[(0,f9u)],1,0⟩,⟨[],[],0,0⟩,⟨[(4,om0)],[],0,0⟩⟩
def b4J (f:c0m->Option (d9O⊕d9P)) (v:c0m):Option (d9O⊕d9P):=bif decide (v.1.2.2.2.1<v.1.2.2.1) then bif decide (0<=v.1.2.2.2.1)&&decide (v.1.2.2.2.1<(length v.1.2.1:Int)) then let a:=getD v.1.2.1 (toNat v.1.2.2.2.1) (zero S68);bif e7E (a,v.2) then bif (e7F (a,v.2)).1 then some (Sum.inr (v.1.2.2.2,()))else f ((((),v.1.2.1,v.1.2.2.1,wrap .i64 (v.1.2.2.2.1+1),()),v.2))else none else none else some (Sum.inl ((),()))
def c8m (v:c0m):Nat:=v.1.2.1.length+v.1.2.2.1.natAbs+v.1.2.2.2.1.natAbs+v.2.1.2.1.natAbs+1000
def b0T (v:c0m):=a0F b4J (c8m v) v
def c8n (v):=(b0T v).isSome
def c8o (v):=isR (b0T v)
def g4h (v):=xOf default (b0T v)
def c8p (v):=yOf default (b0T v)
def f7R (x:Den g9c):OD g4g:=bif K92 (x.1,()) then bif !(G92 (x.1,())).1 then some (-1,())else let a:=(((),x.1,(length x.1:Int),0,()),x.2);bif c8n a then bif c8o a then some (c8p a).1 else some (-1,())else none else none
def e7H (x):=(f7R x).isSome
def e7I (x):=(f7R x).getD (zero g4g)
def h1L:=(198,a0b g9c g4g e7H e7I)
noncomputable def g4i:=gE [m92,g8I] Tryz.f198 (lps:=[(4,lmR d9Q b0T)])
theorem d4y:EvR g4i (lp Tryz.f198 0) d9Q b4J:=fun _ _=>by kernel_rfl
theorem f2E:a0d Tryz.prog h1L:=a0y (a0C (s2 e3A d9B)) (a1q Tryz.func198 rfl rfl rfl (by kernel_rfl) (a0f (by kernel_rfl) (s1 (lR d4y c8m)))) fun _=>by kernel_rfl
abbrev f7S:Ty:=.cons (.slice (S68)) (.cons (.int .i64) (.cons (S63) (.nil)))
abbrev f2F:Ty:=.cons (.int .i64) (.nil)
def f7T (x:Den f7S):OD f2F:=bif K92 (x.1,()) then bif !(G92 (x.1,())).1 then some (-1,())else let a:=wrap .i64 ((length x.1:Int)-1);bif K44 (x.2.1,0,a,()) then bif (G44 (x.2.1,0,a,())).1 then bif decide (0<=x.2.1)&&decide (x.2.1<(length x.1:Int)) then let b:=getD x.1 (toNat x.2.1) (zero S68);bif K20 (b,x.2.2) then bif (G20 (b,x.2.2)).1 then some (x.2.1,())else bif e7H (x.1,x.2.2) then some (e7I (x.1,x.2.2))else none else none else none else bif e7H (x.1,x.2.2) then some (e7I (x.1,x.2.2))else none else none else none
def f7U (x):=(f7T x).isSome
def f7V (x):=(f7T x).getD (zero f2F)
def h1M:=(137,a0b f7S f2F f7U f7V)
theorem f2G:a0d Tryz.prog h1M:=fnE (s4 e3A a6h f1U f2E) Tryz.func137
abbrev g9d:Ty:=.cons (S27) (.nil)
abbrev g4j:Ty:=.cons (S27) (.nil)
abbrev c0n:Type:=(Unit×Unit×c5k×a4h)×a7N×(b0d×ty4×a4r)×c5k×Unit
abbrev d9R:Type:=ty5×a7N×(b0d×ty4×a4r)×c5k×Unit
def d9S:LX:=⟨[2,3,14,15,16],[.boxNil 3 2],0,[2,3],[],⟨[(2,om1),(3,om3),(14,.one (.sl (.slice (.flt .f32)))),(15,om0),(16,om0)],[(0,bx6),(1,g6I),(2,.arr (.slice (.flt .f32)))],3,0⟩,⟨[(2,om1),(3,om3)],[(0,bx6),(1,g6I),(2,.arr (.slice (.flt .f32)))],3,0⟩⟩
def c0o (f:c0n->Option (d9R)) (v:c0n):Option (d9R):=bif decide (v.1.2.2.2.2.1<v.1.2.2.2.1) then bif decide (0<=v.1.2.2.2.2.1)&&decide (v.1.2.2.2.2.1<(length v.1.2.2.1:Int)) then let a:=zero (Ty.slice (Ty.flt .f32));let b:=getD v.1.2.2.1 (toNat v.1.2.2.2.2.1) a;bif e6T (b,()) then let c:=set (replicate 1 a) 0 (e6U (b,())).1;bif a0k (length v.2.2.2.1+length c) then f ((((),(),v.1.2.2.1,v.1.2.2.2.1,wrap .i64 (v.1.2.2.2.2.1+1),()),((),(),(),()),(v.2.2.1.1,v.2.2.1.2.1,(),()),v.2.2.2.1++c,()))else none else none else none else some (((),(),()),((),(),(),()),(v.2.2.1.1,v.2.2.1.2.1,(),()),v.2.2.2)
def c0p (v:c0n):Nat:=v.1.2.2.1.length+v.1.2.2.2.1.natAbs+v.1.2.2.2.2.1.natAbs+v.2.2.1.1.length+v.2.2.1.2.1.length+v.2.2.2.1.length+1000
def c0q (v:c0n):=a0F c0o (c0p v) v
def c8q (v):=(c0q v).isSome
def c8r (v):=(c0q v).getD default
def f7W (x:Den g9d):OD g4j:=bif e6T (x.1.1,()) then bif e6W (x.1.2.1,()) then let c:=e6U (x.1.1,());let d:=e6X (x.1.2.1,());let b:=(((),(),x.1.2.2.1,(length x.1.2.2.1:Int),0,()),((),(),(),()),(c.1,d.1,(),()),[],());bif c8q b then let a:=c8r b;some ((a.2.2.1.1,a.2.2.1.2.1,a.2.2.2),())else none else none else none
def g4k (x):=(f7W x).isSome
def g4l (x):=(f7W x).getD (zero g4j)
def h1N:=(147,a0b g9d g4j g4k g4l)
noncomputable def g4m:=gE [h0C,h0D] Tryz.f147 (lps:=[(3,lmX d9S c0q)]) (rown:=[.frzBox 2])
theorem d4z:EvX g4m (lp Tryz.f147 0) d9S c0o:=fun _ _=>by kernel_rfl
theorem f2H:a0d Tryz.prog h1N:=a0y (a0C (s2 e8O d6L)) (a1q Tryz.func147 rfl rfl rfl (by kernel_rfl) (a0f (by kernel_rfl) (s1 (lX d4z c0p)))) fun _=>by kernel_rfl
abbrev g9e:Ty:=.cons (S30) (.nil)
abbrev g4n:Ty:=.cons (S30) (.nil)
def f7X (x:Den g9e):OD g4n:=bif f6l (x.1.1,()) then bif e6W x.1.2 then some (((f6m (x.1.1,())).1,e6X x.1.2),())else none else none
def g4o (x):=(f7X x).isSome
def g4p (x):=(f7X x).getD (zero g4n)
def h1O:=(148,a0b g9e g4n g4o g4p)
theorem f2I:a0d Tryz.prog h1O:=fnE (s2 e8V d6L) Tryz.func148
abbrev g9f:Ty:=.cons (S38) (.nil)
abbrev g4q:Ty:=.cons (S38) (.nil)
def f7Y (x:Den g9f):OD g4q:=bif f6p (x.1.2.1,()) then some ((x.1.1,(f6q (x.1.2.1,())).1,x.1.2.2),())else none
def g4r (x):=(f7Y x).isSome
def g4s (x):=(f7Y x).getD (zero g4q)
def h1P:=(150,a0b g9f g4q g4r g4s)
theorem f2J:a0d Tryz.prog h1P:=fnE (s1 e9d) Tryz.func150
abbrev A84:Ty:=.cons (S40) (.nil)
abbrev R84:Ty:=.cons (S40) (.nil)
def F84 (x:Den A84):OD R84:=bif g4k (x.1.1,()) then bif g4o (x.1.2.1,()) then bif f6n (x.1.2.2.1,()) then bif g4r x.1.2.2.2 then some (((g4l (x.1.1,())).1,(g4p (x.1.2.1,())).1,(f6o (x.1.2.2.1,())).1,g4s x.1.2.2.2),())else none else none else none else none
def K84 (x):=(F84 x).isSome
def G84 (x):=(F84 x).getD (zero R84)
def m84:=(84,a0b A84 R84 K84 G84)
theorem f2K:a0d Tryz.prog m84:=fnE (s4 f2H f2I e8Z f2J) Tryz.func84
abbrev A16:Ty:=.cons (.str) (.nil)
abbrev R16:Ty:=.cons (.slice (.str)) (.cons (.bool) (.nil))
abbrev c0r:Type:=(Unit×c5m×a4h)×d6G
abbrev d9T:Type:=a4r×d6G
def d9U:LX:=⟨[5,28,29,30],[.nil 5],2,[5],[],⟨[(5,on0),(28,d3d),(29,om0),(30,om0)],[(0,.arr (.str))],1,0⟩,⟨[(5,on0)],[(0,.arr (.str))],1,0⟩⟩
def c0s (f:c0r->Option (d9T)) (v:c0r):Option (d9T):=bif decide (v.1.2.2.2.1<v.1.2.2.1) then bif decide (0<=v.1.2.2.2.1)&&decide (v.1.2.2.2.1<(length v.1.2.1:Int)) then let a:=getD v.1.2.1 (toNat v.1.2.2.2.1) (zero Ty.str);bif !a0G a { data:=#[] } then let b:=set (replicate 1 (zero Ty.str)) 0 a;bif a0k (length v.2.1+length b) then f ((((),v.1.2.1,v.1.2.2.1,wrap .i64 (v.1.2.2.2.1+1),()),v.2.1++b,()))else none else f ((((),v.1.2.1,v.1.2.2.1,wrap .i64 (v.1.2.2.2.1+1),()),v.2))else none else some (((),()),v.2)
def c0t (v:c0r):Nat:=v.1.2.1.length+v.1.2.2.1.natAbs+v.1.2.2.2.1.natAbs+v.2.1.length+1000
def c0u (v:c0r):=a0F c0s (c0t v) v
def c8s (v):=(c0u v).isSome
def c8t (v):=(c0u v).getD default
abbrev d4A:Type:=e8B
abbrev f2L:Type:=d6I×Unit
abbrev f2M:Type:=(Unit×d1V)×Unit
def f2N:LR:=⟨[0,4],[],0,[0],[],⟨[(0,om5),(4,om0)],[],0,0⟩,⟨[(0,om5)],[],0,0⟩,⟨[(2,.one (.nil (.str))),(3,om2)],[],0,0⟩⟩
def c8u (f:d4A->Option (f2L⊕f2M)) (v:d4A):Option (f2L⊕f2M):=let a:=v.1.2.1<(ByteArray.size v.1.1:Int);bif decide a then let b:=decide (0<=v.1.2.1)&&decide a;bif b then bif decide (a0p v.1.1 v.1.2.1<32) then some (Sum.inr (((),false,()),()))else bif b then bif decide (a0p v.1.1 v.1.2.1>126) then some (Sum.inr (((),false,()),()))else f (((v.1.1,wrap .i64 (v.1.2.1+1),()),()))else none else none else some (Sum.inl ((v.1.1,()),()))
def e3Q (v:d4A):Nat:=v.1.1.size+v.1.2.1.natAbs+1000
def c2M (v:d4A):=a0F c8u (e3Q v) v
def d9V (v):=(c2M v).isSome
def d9W (v):=isR (c2M v)
def d9X (v):=xOf default (c2M v)
def d9Y (v):=yOf default (c2M v)
def F16 (x:Den A16):OD R16:=bif decide ((ByteArray.size x.1:Int)>600) then some ([],false,())else bif d9V ((x.1,0,()),()) then bif d9W ((x.1,0,()),()) then some ([],(d9Y ((x.1,0,()),())).1.2)else let e:=d9X ((x.1,0,()),());let a:=(e.1.1,{ data:=#[32] },());bif K48 a then let b:=G48 a;let c:=(((),b.1,(length b.1:Int),0,()),[],());bif c8s c then let d:=c8t c;bif decide ((length d.2.1:Int)>24) then some ([],false,())else some (d.2.1,true,())else none else none else none
def K16 (x):=(F16 x).isSome
def G16 (x):=(F16 x).getD (zero R16)
def m16:=(16,a0b A16 R16 K16 G16)
noncomputable def g9g:=gE [m48] Tryz.f16 (lps:=[(4,lmR f2N c2M),(10,lmX d9U c0u)]) (rown:=[.frz 2])
theorem e3R:EvR g9g (lp Tryz.f16 0) f2N c8u:=fun _ _=>by kernel_rfl
theorem d4B:EvX g9g (lp Tryz.f16 1) d9U c0s:=fun _ _=>by kernel_rfl
theorem g4t:a0d Tryz.prog m16:=a0y (a0C (s1 f9A)) (a1q Tryz.func16 rfl rfl rfl (by kernel_rfl) (a0f (by kernel_rfl) (s2 (lR e3R e3Q) (lX d4B c0t)))) fun _=>by kernel_rfl
abbrev I36:Sg:=⟨[.val (S46)],[]⟩
abbrev O36:Sg:=⟨[.mix [.sl (.flt .f32),.sl (.int .i64),.sl (.slice (.flt .f32)),.sl (a1r),.sl (.int .i64),.sl (S68),.int .i64,.int .i64,.int .i64,.int .i64,.sl (a2u),.int .i64,.int .i64,.int .i64,.int .i64,.int .i64,.cpx .f64,.int .i64,.cpx .f32,.int .i64,.ref (S97) 0,.ref (.str) 1]],[.arr (S97),.arr (.str)]⟩
def F36 (x:I36.den):Option (O36.den):=bif K84 (x.1.1.1,()) then let b:=((x.1.1.2.2.2.2.2.2.1,()),());bif K85 b then bif K86 (x.1.1.2.2.2.2.2.2.2,()) then let a:=G84 (x.1.1.1,());some (((a.1.1.1,a.1.1.2.1,a.1.1.2.2.1,a.1.2.1.1,a.1.2.1.2.1,a.1.2.2.1,a.1.2.2.2.1.1.1.1,a.1.2.2.2.1.1.1.2.1,a.1.2.2.2.1.1.2.1.1,a.1.2.2.2.1.1.2.1.2.1,a.1.2.2.2.1.2.1,a.1.2.2.2.1.2.2.1.1.1,a.1.2.2.2.1.2.2.1.1.2.1,a.1.2.2.2.1.2.2.1.2.1.1,a.1.2.2.2.1.2.2.1.2.1.2.1,x.1.1.2.1,x.1.1.2.2.1,x.1.1.2.2.2.1,x.1.1.2.2.2.2.1,x.1.1.2.2.2.2.2.1,(),(),()),()),(G85 b).2.1,(G86 (x.1.1.2.2.2.2.2.2.2,())).2)else none else none else none
def K36 (x):=(F36 x).isSome
def G36 (x):=(F36 x).getD (a1b O36)
def m36:=(36,a0H false I36 O36 K36 G36)
theorem f2O:a0d Tryz.prog m36:=sgE false (s3 f2K f9O f9S) Tryz.func36
theorem b4K (x:Den A44):F44 x=some (decide (x.2.1<=x.1)&&decide (x.1<=x.2.2.1),()):=by
 unfold F44;by_cases h:x.2.1<=x.1<;>simp[h]
theorem b0U (x:Den A51):F51 x=some (decide (x.2.1<=x.1)&&decide (x.1<=x.2.2.1),()):=b4K x
def a3g (s:Den S68) (m:Den S63):Bool:=(fgt .f32 m.1 s.2.1||feq .f32 m.1 s.2.1)&&(flt .f32 m.1 s.2.2.1||feq .f32 m.1 s.2.2.1)&&(decide (s.2.2.2.1<=m.2.1)&&decide (m.2.1<=s.2.2.2.2.1))
theorem c8v (x:Den f2k):f7y x=some (a3g x.1 x.2.1,()):=by
 unfold f7y a3g;simp only[K44,G44,b4K,isSome_some,getD_some];cases (fgt .f32 x.2.1.1 x.1.2.1||feq .f32 x.2.1.1 x.1.2.1)<;>cases (flt .f32 x.2.1.1 x.1.2.2.1||feq .f32 x.2.1.1 x.1.2.2.1)<;>simp
def I64 (n:Int):Prop := -9223372036854775808<=n /\ n<=9223372036854775807
def a0V (s:Den S68) (m:Den S63):Bool:=
 (fgt .f32 m.1 (a0a .sub .f32 s.2.1 1065353216)||feq .f32 m.1 (a0a .sub .f32 s.2.1 1065353216))&&(flt .f32 m.1 (a0a .add .f32 s.2.2.1 1065353216)||feq .f32 m.1 (a0a .add .f32 s.2.2.1 1065353216)) &&
  (decide (s.2.2.2.1<=m.2.1)||decide (s.2.2.2.1-m.2.1<=5))&&(decide (m.2.1<=s.2.2.2.2.1)||decide (m.2.1-s.2.2.2.2.1<=5))
theorem c0v {a b:Int} (c:I64 a) (d:I64 b) (h:¬b<=a):(decide (0<=IntKind.i64.wrap (b-a))&&decide (IntKind.i64.wrap (b-a)<=5))=decide (b-a<=5):=by
 unfold I64 at c d;rw[IntKind.wrap_i64,Bool.eq_iff_iff];simp only[Bool.and_eq_true,decide_eq_true_eq];omega
theorem c0w {a b:Int} (c:I64 a) (d:I64 b) (h:¬b<=a):decide (IntKind.u64.wrap (IntKind.u64.wrap b-IntKind.u64.wrap a)<=5)=decide (b-a<=5):=by
 unfold I64 at c d;rw[IntKind.wrap_u64,IntKind.wrap_u64,IntKind.wrap_u64,Bool.eq_iff_iff];simp only[decide_eq_true_eq];omega
theorem dlt (a b:Int):decide (a<b)=!decide (b<=a):=by by_cases h:b<=a<;>simp[h]<;>omega
theorem d9Z (x:Den A55) (d:I64 x.1.2.2.2.1) (e:I64 x.1.2.2.2.2.1) (c:I64 x.2.1.2.1):F55 x=some (a0V x.1 x.2.1,()):=by
 unfold F55 a0V;simp only[K51,G51,b0U,isSome_some,getD_some,cond_true,dlt];generalize (fgt .f32 x.2.1.1 (a0a .sub .f32 x.1.2.1 1065353216)||feq .f32 x.2.1.1 (a0a .sub .f32 x.1.2.1 1065353216))=p;generalize (flt .f32 x.2.1.1 (a0a .add .f32 x.1.2.2.1 1065353216)||feq .f32 x.2.1.1 (a0a .add .f32 x.1.2.2.1 1065353216))=q;by_cases a:x.1.2.2.2.1<=x.2.1.2.1<;>by_cases b:x.2.1.2.1<=x.1.2.2.2.2.1
 ·simp only[a,b,decide_true];cases p<;>cases q<;>rfl
 ·simp only[a,b,decide_true,decide_false,c0v e c b];cases p<;>cases q<;>rfl
 ·simp only[a,b,decide_true,decide_false,c0v c d a];cases p<;>cases q<;>cases decide (x.1.2.2.2.1-x.2.1.2.1<=5)<;>rfl
 ·simp only[a,b,decide_false,c0v c d a,c0v e c b];cases p<;>cases q<;>cases decide (x.1.2.2.2.1-x.2.1.2.1<=5)<;>rfl
theorem e0a (x:Den A20) (d:I64 x.1.2.2.2.1) (e:I64 x.1.2.2.2.2.1) (c:I64 x.2.1.2.1):F20 x=some (a0V x.1 x.2.1,()):=by
 unfold F20 a0V;simp only[ge_iff_le];generalize (fgt .f32 x.2.1.1 (a0a .sub .f32 x.1.2.1 1065353216)||feq .f32 x.2.1.1 (a0a .sub .f32 x.1.2.1 1065353216))=p;generalize (flt .f32 x.2.1.1 (a0a .add .f32 x.1.2.2.1 1065353216)||feq .f32 x.2.1.1 (a0a .add .f32 x.1.2.2.1 1065353216))=q;by_cases a:x.1.2.2.2.1<=x.2.1.2.1<;>by_cases b:x.2.1.2.1<=x.1.2.2.2.2.1
 ·simp only[a,b,decide_true];cases p<;>cases q<;>rfl
 ·simp only[a,b,decide_true,decide_false,c0w e c b];cases p<;>cases q<;>rfl
 ·simp only[a,b,decide_true,decide_false,c0w c d a];cases p<;>cases q<;>cases decide (x.1.2.2.2.1-x.2.1.2.1<=5)<;>rfl
 ·simp only[a,b,decide_false,c0w c d a,c0w e c b];cases p<;>cases q<;>cases decide (x.1.2.2.2.1-x.2.1.2.1<=5)<;>rfl
theorem a6O (c x:Bool):(bif c then some (x,())else some (false,()))=some (c&&x,()):=by cases c<;>rfl
theorem c8w (a:ByteArray):a0G a a=true:=by simp[a0G]
def a6P (s:ByteArray):Bool:=a0i (fun i=>decide (97<=a0p s i)&&decide (a0p s i<=122)) 0 s.size
def g4u:ByteArray:={ data:=#[110,111,110,101] }
def b6Z (s:ByteArray):Bool:=a6P s&&((decide (1<=(s.size:Int))&&decide ((s.size:Int)<=16))&&!a0G s g4u)
theorem dgt (a b:Int):decide (a>b)=!decide (a<=b):=by by_cases h:a<=b<;>simp[h]<;>omega
theorem e3S (s:ByteArray) (h:s.size<=9223372036854775807):f6v (s,())=some (b6Z s,()):=by
 have d:b0F ((s,(0:Int),()),())=some (bif a6P s then .inl ((s,()),())else .inr ((false,()),())):=by
  refine(a0M (q:=b3V) (fun k=>((s,(k:Int),()),())) s.size (fun i=>decide (97<=a0p s i)&&decide (a0p s i<=122)) _ _ ?_ ?_ _ ?_:_)
  ·intro k f c;unfold b3V;simp only[a1Z k (by omega),dlt (a0p s k),dgt (a0p s k)];have a:decide ((k:Int)<(s.size:Int))=true:=by simpa using c
   have b:decide (0<=(k:Int))=true:=by simp
   simp only[a,b,Bool.and_self,cond_true];cases decide (97<=a0p s k)<;>cases decide (a0p s k<=122)<;>rfl
  ·intro f;simp[b3V]
  ·simp only[c5N];omega
 unfold f6v b6Z;simp only[c5O,c5P,c5Q,c5R,d,isSome_some,cond_true,K51,G51,b0U,getD_some];cases a6P s
 ·rfl
 ·simp only[cond_true,isR,xOf,cond_false,Bool.true_and];exact a6O _ _
theorem e3T (s:ByteArray) (h:s.size<=9223372036854775807):f6Y (s,())=some (b6Z s,()):=by
 have d:b0P ((s,(0:Int),()),())=some (bif a6P s then .inl ((s,()),())else .inr ((false,()),())):=by
  refine(a0M (q:=b4u) (fun k=>((s,(k:Int),()),())) s.size (fun i=>decide (97<=a0p s i)&&decide (a0p s i<=122)) _ _ ?_ ?_ _ ?_:_)
  ·intro k f c;unfold b4u;simp only[a1Z k (by omega),dlt (a0p s k),dgt (a0p s k)];have a:decide ((k:Int)<(s.size:Int))=true:=by simpa using c
   have b:decide (0<=(k:Int))=true:=by simp
   simp only[a,b,Bool.and_self,cond_true];cases decide (97<=a0p s k)<;>cases decide (a0p s k<=122)<;>rfl
  ·intro f;simp[b4u]
  ·simp only[c7u];omega
 unfold f6Y b6Z;simp only[c7v,c7w,c7x,c7y,d,isSome_some,cond_true,K44,G44,b4K,getD_some];cases a6P s
 ·rfl
 ·simp only[cond_true,isR,xOf,cond_false,Bool.true_and];exact a6O _ _
def at' (l:List (Den S68)) (i:Nat):Den S68:=l.getD i (zero S68)
theorem c8x (l:List (Den S68)) (s:ByteArray) (h:l.length<=9223372036854775807):f1h (l,s,())=some (match a0r (fun i=>a0G (at' l i).1 s) 0 l.length with|some j=>(j:Int)|none=>-1,()):=by
 have d:b0Q ((s,l,(l.length:Int),(0:Int),()),())=some (match a0r (fun i=>a0G (at' l i).1 s) 0 l.length with|some j => .inr (((j:Int),()),())|none => .inl ((),())):=by
  refine(a4g (q:=b4v) (fun k=>((s,l,(l.length:Int),(k:Int),()),())) l.length (fun i=>a0G (at' l i).1 s) _ (fun j => .inr (((j:Int),()),())) ?_ ?_ _ ?_:_)
  ·intro k f c;unfold b4v;have a:decide ((k:Int)<(l.length:Int))=true:=by simpa using c
   have b:decide (0<=(k:Int))=true:=by simp
   simp only[a1Z k (by omega),a,b,Bool.and_self,cond_true,toNat_natCast];rfl
  ·intro f;simp[b4v]
  ·simp only[c7z];omega
 unfold f1h;simp only[c7A,c7B,c7C,d,isSome_some,cond_true];cases a0r (fun i=>a0G (at' l i).1 s) 0 l.length<;>rfl
def a1U (s:Den S68):Bool:=b6Z s.1&&((fgt .f32 s.2.1 0||feq .f32 s.2.1 0)&&(fgt .f32 s.2.2.1 s.2.1&&((flt .f32 s.2.2.1 1128792064||feq .f32 s.2.2.1 1128792064) &&
 ((decide (0<=s.2.2.2.1)&&decide (s.2.2.2.1<=180))&&(decide (s.2.2.2.1<=s.2.2.2.2.1)&&decide (s.2.2.2.2.1<=180))))))
def a3x (l:List (Den S68)) (i:Nat):Bool:=a0i (fun j=>!a0G (at' l j).1 (at' l i).1) 0 i
def a1B (l:List (Den S68)):Bool:=a0i (fun i=>a1U (at' l i)&&a3x l i) 0 l.length&&decide ((l.length:Int)<=12)
structure b7a (l:List (Den S68)):Prop where
 len:l.length<=9223372036854775807
 name:∀i,(at' l i).1.size<=9223372036854775807
 rng:∀i,I64 (at' l i).2.2.2.1 /\ I64 (at' l i).2.2.2.2.1
theorem f2P {l:List (Den S68)} {i:Nat}:at' l i∈l∨at' l i=zero S68:=by
 unfold at';rw[List.getD_eq_getElem?_getD];cases h:l[i]? with
 |none=>exact .inr rfl
 |some x=>exact .inl (List.mem_of_getElem? h)
theorem c2N {l:List (Den S68)} {i:Nat} (p:i<l.length):((match a0r (fun j=>a0G (at' l j).1 (at' l i).1) 0 l.length with|some j=>(j:Int)|none=>-1) != (i:Int))=!a3x l i:=by
 have d:a0G (at' l i).1 (at' l i).1=true:=c8w _;cases h:a0r (fun j=>a0G (at' l j).1 (at' l i).1) 0 l.length with
 |none=>have:=a1o.1 h i (zero_le _) (by omega);rw[d]at this;cases this
 | some j =>
   obtain⟨n,o,e,b⟩:=a0X h;by_cases a:j=i
   ·subst a;have:a3x l j=true:=a0u.2 fun k f g=>by rw[b k (zero_le _) (by omega)];rfl
    rw[this];simp
   ·have m:j<i:=by
     rcases Nat.lt_or_ge j i with c|c
     ·exact c
     ·have:=b i (zero_le _) (by omega);rw[d]at this;cases this
    have:a3x l i=false:=by
     cases hf:a3x l i with
     |false=>rfl
     |true=>have:=a0u.1 hf j (zero_le _) (by omega);rw[e]at this;cases this
    rw[this];simp;omega
theorem c8y (l:List (Den S68)) (h:b7a l):F92 (l,())=some (a1B l,()):=by
 have j:c2K ((l,l,(l.length:Int),(0:Int),()),())=some (bif a0i (fun i=>a1U (at' l i)&&a3x l i) 0 l.length then .inl ((),())else .inr ((false,()),())):=by
  refine(a0M (q:=c7E) (fun k=>((l,l,(l.length:Int),(k:Int),()),())) l.length (fun i=>a1U (at' l i)&&a3x l i) _ _ ?_ ?_ _ ?_:_)
  ·intro k f a;unfold c7E a1U;have c:decide ((k:Int)<(l.length:Int))=true:=by simpa using a
   have d:decide (0<=(k:Int))=true:=by simp
   have b:=h.len;have e:getD l k (zero S68)=at' l k:=rfl;have g:=c2N a;simp only[a1Z k (by omega),c,d,Bool.and_self,cond_true,toNat_natCast,e,g2d,g2e,e3T _ (h.name k),e7v,c7D,c8x l _ h.len,K44,G44,b4K,isSome_some,getD_some,g];generalize at' l k=s;cases b6Z s.1<;>cases a3x l k<;>cases (fgt .f32 s.2.1 0||feq .f32 s.2.1 0)<;>cases fgt .f32 s.2.2.1 s.2.1<;>cases (flt .f32 s.2.2.1 1128792064||feq .f32 s.2.2.1 1128792064) <;>
    cases (decide (0<=s.2.2.2.1)&&decide (s.2.2.2.1<=180))<;>cases (decide (s.2.2.2.1<=s.2.2.2.2.1)&&decide (s.2.2.2.2.1<=180))<;>rfl
  ·intro f;simp[c7E]
  ·simp only[e3y];omega
 unfold F92 a1B;simp only[d8U,d8V,d8W,j,isSome_some,cond_true,dgt (l.length:Int)];cases decide ((l.length:Int)<=12)<;>cases a0i (fun i=>a1U (at' l i)&&a3x l i) 0 l.length<;>rfl
theorem b2q (l:List (Den S68)) (h:b7a l):f6w (l,())=some (a1B l,()):=by
 have m:=h.len;have e:∀k,k<l.length->a9i ((l,(k:Int),(),(0:Int),()),at' l k,())=some (bif a3x l k then .inl ((l,(k:Int),()),())else .inr ((false,()),())):=by
  intro k g;refine(a0M (q:=b3W) (fun j=>((l,(k:Int),(),(j:Int),()),at' l k,())) k (fun j=>!a0G (at' l j).1 (at' l k).1) _ _ ?_ ?_ _ ?_:_)
  ·intro j f p;unfold b3W;have a:decide ((j:Int)<(k:Int))=true:=by simpa using p
   have b:decide (0<=(j:Int))=true:=by simp
   have n:decide ((j:Int)<(l.length:Int))=true:=by simp;omega
   have c:getD l j (zero S68)=at' l j:=rfl;simp only[a1Z j (by omega),a,b,n,Bool.and_self,cond_true,toNat_natCast,c];cases a0G (at' l j).1 (at' l k).1<;>rfl
  ·intro f;simp[b3W]
  ·simp only[c5S];omega
 have r:b0G ((l,(0:Int),()),())=some (bif a0i (fun i=>a1U (at' l i)&&a3x l i) 0 l.length then .inl ((l,()),())else .inr ((false,()),())):=by
  refine(a0M (q:=b3X) (fun k=>((l,(k:Int),()),())) l.length (fun i=>a1U (at' l i)&&a3x l i) _ _ ?_ ?_ _ ?_:_)
  ·intro k f g;have o:=e k g;unfold b3X a1U;have a:decide ((k:Int)<(l.length:Int))=true:=by simpa using g
   have b:decide (0<=(k:Int))=true:=by simp
   have c:getD l k (zero S68)=at' l k:=rfl;simp only[a,b,Bool.and_self,cond_true,toNat_natCast,c,g0e,g0f,e3S _ (h.name k),K51,G51,b0U,isSome_some,getD_some];have d:a9i ((l,(k:Int),(),(0:Int),()),((at' l k).1,(at' l k).2.1,(at' l k).2.2.1,(at' l k).2.2.2.1,(at' l k).2.2.2.2.1,()),())=_:=o;simp only[c5T,c5U,c5V,c5W,d,isSome_some];generalize at' l k=s;cases b6Z s.1<;>cases a3x l k<;>cases (fgt .f32 s.2.1 0||feq .f32 s.2.1 0)<;>cases fgt .f32 s.2.2.1 s.2.1<;>cases (flt .f32 s.2.2.1 1128792064||feq .f32 s.2.2.1 1128792064) <;>
    cases (decide (0<=s.2.2.2.1)&&decide (s.2.2.2.1<=180))<;>cases (decide (s.2.2.2.1<=s.2.2.2.2.1)&&decide (s.2.2.2.2.1<=180))<;>first|rfl|(simp only[cond_true,cond_false,isR,xOf,yOf,Bool.and_true,Bool.not_true,a1Z k (by omega)];done)|(simp[isR,xOf,yOf,a1Z k (by omega)])
  ·intro f;simp[b3X]
  ·simp only[c5X];omega
 unfold f6w a1B;simp only[c5Y,c5Z,c6a,c6b,r,isSome_some,cond_true];cases a0i (fun i=>a1U (at' l i)&&a3x l i) 0 l.length
 ·rfl
 ·simp only[cond_true,isR,xOf,cond_false,Bool.true_and];rfl
def inB (n b a:Int):Bool:=decide (b<=n)&&decide (n<=a)
theorem a2h (x:Den A51):F51 x=some (inB x.1 x.2.1 x.2.2.1,()):=by
 unfold F51 inB;exact a6O _ _
theorem a3y (x:Den A44):F44 x=some (inB x.1 x.2.1 x.2.2.1,()):=a2h x
def a1C (p:Den S33):Bool:=inB p.1 (-10000) 10000&&inB p.2.1 (-10000) 10000
theorem b4L (x:Den A98):F98 x=some (a1C x.1,()):=by
 unfold F98 a1C;simp only[K51,G51,a2h,isSome_some,getD_some,cond_true];exact a6O _ _
theorem b4M (x:Den A63):F63 x=some (a1C x.1,()):=by
 unfold F63 a1C;simp only[K44,G44,a3y,isSome_some,getD_some,cond_true];exact a6O _ _
def eqP (p q:Den S33):Bool:=p.1==q.1&&p.2.1==q.2.1
def b0h (l:Den S35):Bool:=a1C l.1&&(a1C l.2.1&&!eqP l.1 l.2.1)
theorem e3U (x:Den g0i):f6x x=some (b0h x.1,()):=by
 unfold f6x b0h;simp only[K98,G98,b4L,isSome_some,getD_some,cond_true];cases a1C x.1.1<;>cases a1C x.1.2.1<;>rfl
theorem e3V (x:Den g2i):f7b x=some (b0h x.1,()):=by
 unfold f7b b0h;simp only[K63,G63,b4M,isSome_some,getD_some,cond_true];cases a1C x.1.1<;>cases a1C x.1.2.1<;>rfl
def mk (c:Den S38) (k:Nat):Den a2u:=c.2.1.getD k (zero a2u)
def a2n (c:Den S38) (k:Nat):Den S33:=if k=0 then c.1.1 else(mk c (k-1)).1
def b2r (c:Den S38) (k:Nat):Bool:=a1C (mk c k).1&&!eqP (mk c k).1 (a2n c k)
def a9t (c:Den S38):Bool:=b0h c.1&&(b0h c.2.2.1&&(inB c.2.1.length 1 20&&a0i (b2r c) 0 c.2.1.length))
theorem c8z (c:Den S38) (k:Nat) (h:k<=c.2.1.length) (g:c.2.1.length<=9223372036854775807):e7f (c,(k:Int),())=some (a2n c k,()):=by
 unfold e7f a2n;by_cases a:k=0
 ·subst a;rfl
 ·have b:((k:Int)==0)=false:=by simpa using a
  have d:IntKind.i64.wrap ((k:Int)-1)=((k-1:Nat):Int):=by rw[w64 (by omega) (by omega)];omega
  have e:decide (0<=((k-1:Nat):Int))=true:=by simp
  have f:decide (((k-1:Nat):Int)<(c.2.1.length:Int))=true:=by simp;omega
  simp only[b,d,e,f,cond_false,Bool.and_self,cond_true,toNat_natCast,if_neg a];rfl
theorem e3W (c:Den S38) (k:Nat) (h:k<=c.2.1.length) (a:c.2.1.length<=9223372036854775807):f1m (c,(k:Int),())=some (a2n c k,()):=c8z c k h a
theorem e3X (c:Den S38) (l:c.2.1.length<=9223372036854775807):f6A (c,())=some (a9t c,()):=by
 have e:a9j (((),(0:Int),()),(c.1.1.1,c.1.1.2.1,c.1.2.1.1,c.1.2.1.2.1,c.2.1,c.2.2.1.1.1,c.2.2.1.1.2.1,c.2.2.1.2.1.1,c.2.2.1.2.1.2),())=some (bif a0i (b2r c) 0 c.2.1.length then .inl ((),())else .inr ((false,()),())):=by
  refine(a0M (q:=b3Y) (fun k=>(((),(k:Int),()),(c.1.1.1,c.1.1.2.1,c.1.2.1.1,c.1.2.1.2.1,c.2.1,c.2.2.1.1.1,c.2.2.1.1.2.1,c.2.2.1.2.1.1,c.2.2.1.2.1.2),())) c.2.1.length (b2r c) _ _ ?_ ?_ _ ?_:_)
  ·intro k f j;have g:decide ((k:Int)<(c.2.1.length:Int))=true:=by simpa using j
   have h:decide (0<=(k:Int))=true:=by simp
   have i:c.2.1.getD k (zero a2u)=mk c k:=rfl;have d:e7f (c,(k:Int),())=some (a2n c k,()):=c8z c k (by omega) l;unfold b3Y b2r;simp only[a1Z k (by omega),g,h,Bool.and_self,cond_true,toNat_natCast,i,K98,G98,b4L,g0l,g0m,isSome_some,getD_some];have a:e7f ((((c.1.1.1,c.1.1.2.1,()),(c.1.2.1.1,c.1.2.1.2.1,()),()),c.2.1,((c.2.2.1.1.1,c.2.2.1.1.2.1,()),c.2.2.1.2.1,()),()),(k:Int),())=some (a2n c k,()):=d;simp only[a,isSome_some,getD_some,cond_true];cases a1C (mk c k).1
   ·rfl
   ·cases hq:eqP (mk c k).1 (a2n c k)<;>simp only[Bool.not_true,cond_false,Bool.true_and]
    ·have:((mk c k).1.1==(a2n c k).1&&(mk c k).1.2.1==(a2n c k).2.1)=false:=hq;simp only[this,cond_false,Bool.not_false,cond_true]
    ·have:((mk c k).1.1==(a2n c k).1&&(mk c k).1.2.1==(a2n c k).2.1)=true:=hq;simp only[this,cond_true]
  ·intro f;simp[b3Y]
  ·simp only[c6d];omega
 unfold f6A a9t;simp only[f6y,f6z,e3U,K51,G51,a2h,isSome_some,getD_some,cond_true,c6e,c6f,c6g];have b:a9j (((),0,()),(c.1.1.1,c.1.1.2.1,c.1.2.1.1,c.1.2.1.2.1,c.2.1,c.2.2.1.1.1,c.2.2.1.1.2.1,c.2.2.1.2.1),())=_:=e;cases b0h c.1
 ·rfl
 ·cases b0h c.2.2.1
  ·rfl
  ·cases inB c.2.1.length 1 20
   ·rfl
   ·simp only[Bool.not_true,cond_false,Bool.true_and,b,isSome_some,cond_true];cases a0i (b2r c) 0 c.2.1.length<;>rfl
theorem f2Q (c:Den S38) (l:c.2.1.length<=9223372036854775807):F93 (c,())=some (a9t c,()):=by
 have e:b6N (((),c.2.1,(c.2.1.length:Int),(0:Int),()),(c.1.1.1,c.1.1.2.1,c.1.2.1.1,c.1.2.1.2.1,c.2.1,c.2.2.1.1.1,c.2.2.1.1.2.1,c.2.2.1.2.1.1,c.2.2.1.2.1.2),())=some (bif a0i (b2r c) 0 c.2.1.length then .inl ((),())else .inr ((false,()),())):=by
  refine(a0M (q:=c7F) (fun k=>(((),c.2.1,(c.2.1.length:Int),(k:Int),()),(c.1.1.1,c.1.1.2.1,c.1.2.1.1,c.1.2.1.2.1,c.2.1,c.2.2.1.1.1,c.2.2.1.1.2.1,c.2.2.1.2.1.1,c.2.2.1.2.1.2),())) c.2.1.length (b2r c) _ _ ?_ ?_ _ ?_:_)
  ·intro k f j;have g:decide ((k:Int)<(c.2.1.length:Int))=true:=by simpa using j
   have h:decide (0<=(k:Int))=true:=by simp
   have i:c.2.1.getD k (zero a2u)=mk c k:=rfl;have d:f1m (c,(k:Int),())=some (a2n c k,()):=e3W c k (by omega) l;unfold c7F b2r;simp only[a1Z k (by omega),g,h,Bool.and_self,cond_true,toNat_natCast,i,K63,G63,b4M,g2l,g2m,isSome_some,getD_some];have a:f1m ((((c.1.1.1,c.1.1.2.1,()),(c.1.2.1.1,c.1.2.1.2.1,()),()),c.2.1,((c.2.2.1.1.1,c.2.2.1.1.2.1,()),c.2.2.1.2.1,()),()),(k:Int),())=some (a2n c k,()):=d;simp only[a,isSome_some,getD_some,cond_true];cases a1C (mk c k).1
   ·rfl
   ·cases hq:eqP (mk c k).1 (a2n c k)<;>simp only[Bool.not_true,cond_false,Bool.true_and]
    ·have:((mk c k).1.1==(a2n c k).1&&(mk c k).1.2.1==(a2n c k).2.1)=false:=hq;simp only[this,cond_false,Bool.not_false,cond_true]
    ·have:((mk c k).1.1==(a2n c k).1&&(mk c k).1.2.1==(a2n c k).2.1)=true:=hq;simp only[this,cond_true]
  ·intro f;simp[c7F]
  ·simp only[e3B];omega
 unfold F93 a9t;simp only[f7c,f7d,e3V,K44,G44,a3y,isSome_some,getD_some,cond_true,d8X,d8Y,d8Z];have b:b6N (((),c.2.1,(c.2.1.length:Int),0,()),(c.1.1.1,c.1.1.2.1,c.1.2.1.1,c.1.2.1.2.1,c.2.1,c.2.2.1.1.1,c.2.2.1.1.2.1,c.2.2.1.2.1),())=_:=e;cases b0h c.1
 ·rfl
 ·cases b0h c.2.2.1
  ·rfl
  ·cases inB c.2.1.length 1 20
   ·rfl
   ·simp only[Bool.not_true,cond_false,Bool.true_and,b,isSome_some,cond_true];cases a0i (b2r c) 0 c.2.1.length<;>rfl
theorem g4v (x:Den A98):K98 x=true:=by unfold K98;rw[b4L];rfl
theorem g4w (x:Den A63):K63 x=true:=by unfold K63;rw[b4M];rfl
theorem f2R (x:Den A98):G98 x=(a1C x.1,()):=by unfold G98;rw[b4L];rfl
theorem f2S (x:Den A63):G63 x=(a1C x.1,()):=by unfold G63;rw[b4M];rfl
def sg (t:List (Den S97)) (k:Nat):Den S97:=t.getD k (zero S97)
def a5k (t:List (Den S97)) (k:Nat):Bool:=a1C (sg t k).1&&(inB (sg t k).2.1 0 10000000&&!(decide (0<k)&&decide ((sg t k).2.1<=(sg t (k-1)).2.1)))
def a2M (t:List (Den S97)):Bool:=a0i (a5k t) 0 t.length&&decide ((t.length:Int)<=200)
theorem b4N (x:Den A43):F43 x=some (inB x.1 0 10000000,()):=by
 unfold F43;simp only[K44,G44,a3y,isSome_some,getD_some,cond_true]
theorem f2T (t:List (Den S97)) (h:t.length<=9223372036854775807):F53 (t,())=some (a2M t,()):=by
 have m:c2F ((t,(0:Int),()),())=some (bif a0i (a5k t) 0 t.length then .inl ((t,()),())else .inr ((false,()),())):=by
  refine(a0M (q:=c6o) (fun k=>((t,(k:Int),()),())) t.length (a5k t) _ _ ?_ ?_ _ ?_:_)
  ·intro k f l;have c:decide ((k:Int)<(t.length:Int))=true:=by simpa using l
   have d:decide (0<=(k:Int))=true:=by simp
   have j:∀k,t.getD k (zero S97)=sg t k:=fun _=>rfl
   unfold c6o a5k;simp only[a1Z k (by omega),c,d,Bool.and_self,cond_true,toNat_natCast,j,K98,G98,b4L,K51,G51,a2h,isSome_some,getD_some];cases a1C (sg t k).1
   ·rfl
   ·cases inB (sg t k).2.1 0 10000000
    ·rfl
    ·by_cases a:0<k
     ·have e:IntKind.i64.wrap ((k:Int)-1)=((k-1:Nat):Int):=by rw[w64 (by omega) (by omega)];omega
      have g:decide (((k-1:Nat):Int)<(t.length:Int))=true:=by simp;omega
      have i:decide (0<=((k-1:Nat):Int))=true:=by simp
      have b:decide ((k:Int)>0)=true:=by simpa using a
      simp only[e,g,i,b,toNat_natCast,a,decide_true,Bool.and_self,cond_true,Bool.not_true,cond_false,Bool.true_and];cases decide ((sg t k).2.1<=(sg t (k-1)).2.1)<;>rfl
     ·have b:decide ((k:Int)>0)=false:=by simpa using a
      simp only[b,a,decide_false,Bool.not_true,cond_false,Bool.true_and,Bool.false_and,Bool.not_false,cond_true]
  ·intro f;simp[c6o]
  ·simp only[e2R];omega
 unfold F53 a2M;simp only[d7t,d7u,d7v,d7w,m,isSome_some,cond_true];cases a0i (a5k t) 0 t.length
 ·rfl
 ·simp only[cond_true,isR,xOf,cond_false,Bool.true_and];rfl
theorem f2U (t:List (Den S97)) (h:t.length<=9223372036854775807):F46 (t,())=some (a2M t,()):=by
 have m:c2L ((t,t,(t.length:Int),(0:Int),()),())=some (bif a0i (a5k t) 0 t.length then .inl ((),())else .inr ((false,()),())):=by
  refine(a0M (q:=c7G) (fun k=>((t,t,(t.length:Int),(k:Int),()),())) t.length (a5k t) _ _ ?_ ?_ _ ?_:_)
  ·intro k f l;have c:decide ((k:Int)<(t.length:Int))=true:=by simpa using l
   have d:decide (0<=(k:Int))=true:=by simp
   have j:∀k,t.getD k (zero S97)=sg t k:=fun _=>rfl
   unfold c7G a5k;simp only[a1Z k (by omega),c,d,Bool.and_self,cond_true,toNat_natCast,j,K63,G63,b4M,K43,G43,b4N,isSome_some,getD_some];cases a1C (sg t k).1
   ·rfl
   ·cases inB (sg t k).2.1 0 10000000
    ·rfl
    ·by_cases a:0<k
     ·have e:IntKind.i64.wrap ((k:Int)-1)=((k-1:Nat):Int):=by rw[w64 (by omega) (by omega)];omega
      have g:decide (((k-1:Nat):Int)<(t.length:Int))=true:=by simp;omega
      have i:decide (0<=((k-1:Nat):Int))=true:=by simp
      have b:decide ((k:Int)>0)=true:=by simpa using a
      simp only[e,g,i,b,toNat_natCast,a,decide_true,Bool.and_self,cond_true,Bool.not_true,cond_false,Bool.true_and];cases decide ((sg t k).2.1<=(sg t (k-1)).2.1)<;>rfl
     ·have b:decide ((k:Int)>0)=false:=by simpa using a
      simp only[b,a,decide_false,Bool.not_true,cond_false,Bool.true_and,Bool.false_and,Bool.not_false,cond_true]
  ·intro f;simp[c7G]
  ·simp only[e3D];omega
 unfold F46 a2M;simp only[d9a,d9b,d9c,m,isSome_some,cond_true,dgt (t.length:Int)];cases decide ((t.length:Int)<=200)<;>cases a0i (a5k t) 0 t.length<;>rfl
end Go.Proofs.YtjomnmoekchfeaaGreatDoor.AM
