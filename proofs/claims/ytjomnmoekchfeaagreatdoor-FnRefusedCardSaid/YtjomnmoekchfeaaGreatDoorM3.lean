/- Texts of one proof, joined: an abstract machine for the program, its functions evaluated, plain lemmas. Conditions: those that each lemma names. -/
import Derived.Test.YtjomnmoekchfeaaGreatDoorM2
import Derived.Test.YtjomnmoekchfeaaGreatDoorProg
import Derived.Test.YtjomnmoekchfeaaGreatDoorChecked
import Derived.Shelf.Strings.Builder1
import Derived.Shelf.Strings.Builder2
import Derived.Shelf.Strings.OnBuilder
import Derived.Shelf.Small.Strs
import Derived.Shelf.Utf8.RuneCount
import Derived.Shelf.Strconv.Itoa0
import Derived.Shelf.Strconv.Itoa1
import Derived.Shelf.LaysM
import Derived.Shelf.Strconv.Itoa2
import Derived.Shelf.Strconv.Itoa3
import Derived.Shelf.Strings.Search1
import Derived.Shelf.Strings.Search2
import Derived.Shelf.Strings.Search3
import Derived.Shelf.Strings.Count
import Derived.Shelf.Strings.Shaped
import Derived.Shelf.Strings.Split
import Derived.Shelf.Strings.SplitShaped
import Derived.Shelf.Unicode.Decode
import Derived.Shelf.Strings.RuneCount
import Derived.Shelf.Strings.Explode
import Derived.Shelf.Unicode.DecodeSlow
import Derived.Shelf.Unicode.DecodeAny
import Derived.Ground.Names2Prog
import Derived.Shelf.Slices.Clone
import Derived.Ground.SlgnProg
import Derived.Shelf.SlicesE.Clone
set_option linter.unusedVariables false
set_option linter.unusedSimpArgs false
namespace Go.Proofs.YtjomnmoekchfeaaGreatDoor.AM
open Go Go.Proofs
abbrev S7:Ty := .cons (.int .i64) (.cons (.int .i64) (.cons (.bool) (.cons (.int .u8) (.nil))))
abbrev S13:Ty := .cons (.str) (.cons (.int .u64) (.nil))
abbrev S27:Ty := .cons (.slice (.flt .f32)) (.cons (.slice (.int .i64)) (.cons (.slice (.slice (.flt .f32))) (.nil)))
abbrev a1m:Ty := .cons (.cpx .f64) (.cons (.cons (.cpx .f32) (.cons (.cpx .f32) (.cons (.cpx .f32) (.cons (.cpx .f32) (.cons (.cpx .f32) (.cons (.cpx .f32) (.cons (.cpx .f32) (.cons (.cpx .f32) (.cons (.cpx .f32) (.cons (.cpx .f32) (.cons (.cpx .f32) (.cons (.cpx .f32) (.cons (.cpx .f32) (.nil)))))))))))))) (.nil))
abbrev S30:Ty := .cons (.slice (a1m)) (.cons (.slice (.int .i64)) (.nil))
abbrev S68:Ty := .cons (.str) (.cons (.flt .f32) (.cons (.flt .f32) (.cons (.int .i64) (.cons (.int .i64) (.nil)))))
abbrev S33:Ty := .cons (.int .i64) (.cons (.int .i64) (.nil))
abbrev S35:Ty := .cons (S33) (.cons (S33) (.nil))
abbrev a2n:Ty := .cons (S33) (.cons (.bool) (.nil))
abbrev S38:Ty := .cons (S35) (.cons (.slice (a2n)) (.cons (S35) (.nil)))
abbrev S40:Ty := .cons (S27) (.cons (S30) (.cons (.slice (S68)) (.cons (S38) (.nil))))
abbrev S97:Ty := .cons (S33) (.cons (.int .i64) (.nil))
abbrev S46:Ty := .cons (S40) (.cons (.int .i64) (.cons (.cpx .f64) (.cons (.int .i64) (.cons (.cpx .f32) (.cons (.int .i64) (.cons (.slice (S97)) (.cons (.slice (.str)) (.nil))))))))
abbrev S63:Ty := .cons (.flt .f32) (.cons (.int .i64) (.nil))
abbrev a1U:Ty := .cons (.slice (.int .u8)) (.cons (.int .i64) (.cons (.int .i64) (.nil)))
abbrev a2z:Ty := .cons (.int .i64) (.cons (.flt .f32) (.cons (.int .i64) (.nil)))
def tab:List (Nat×TI):=[
 (1,⟨1,8,false,.nil,[.pois],[],0,.other⟩),
 (2,⟨1,8,false,.int .i64,[.int .i64 0],[],0,.int .i64⟩),
 (3,⟨1,8,false,.int .i64,[.int .i64 0],[],0,.int .i64⟩),
 (4,⟨1,1,false,.bool,[.bool false],[],0,.bool⟩),
 (5,⟨1,1,false,.int .u8,[.int .u8 0],[],0,.int .u8⟩),
 (6,⟨1,1,false,.int .u8,[.int .u8 0],[],0,.int .u8⟩),
 (7,⟨4,24,true,S7,[.int .i64 0,.int .i64 0,.bool false,.int .u8 0],[(0,1,false),(1,1,false),(2,1,false),(3,1,false)],0,.struct⟩),
 (9,⟨1,16,false,.str,[.str ByteArray.empty],[],0,.string⟩),
 (10,⟨1,16,false,.str,[.str ByteArray.empty],[],0,.string⟩),
 (14,⟨2,24,true,S13,[.str ByteArray.empty,.int .u64 0],[(0,1,false),(1,1,false)],0,.struct⟩),
 (22,⟨1,24,false,.slice (.int .u8),[.nil (.int .u8)],[],5,.slice⟩),
 (24,⟨1,24,false,.slice (.flt .f32),[.nil (.flt .f32)],[],62,.slice⟩),
 (25,⟨1,24,false,.slice (.int .i64),[.nil (.int .i64)],[],3,.slice⟩),
 (26,⟨1,24,false,.slice (.slice (.flt .f32)),[.nil (.slice (.flt .f32))],[],24,.slice⟩),
 (28,⟨3,72,true,S27,[.nil (.flt .f32),.nil (.int .i64),.nil (.slice (.flt .f32))],[(0,1,false),(1,1,false),(2,1,false)],0,.struct⟩),
 (29,⟨1,24,false,.slice (a1m),[.nil (a1m)],[],186,.slice⟩),
 (31,⟨2,48,true,S30,[.nil (a1m),.nil (.int .i64)],[(0,1,false),(1,1,false)],0,.struct⟩),
 (32,⟨1,24,false,.slice (S68),[.nil (S68)],[],69,.slice⟩),
 (34,⟨2,16,true,S33,[.int .i64 0,.int .i64 0],[(0,1,false),(1,1,false)],0,.struct⟩),
 (36,⟨4,32,true,S35,[.int .i64 0,.int .i64 0,.int .i64 0,.int .i64 0],[(0,2,true),(2,2,true)],0,.struct⟩),
 (37,⟨1,24,false,.slice (a2n),[.nil (a2n)],[],165,.slice⟩),
 (39,⟨9,88,true,S38,[.int .i64 0,.int .i64 0,.int .i64 0,.int .i64 0,.nil (a2n),.int .i64 0,.int .i64 0,.int .i64 0,.int .i64 0],[(0,4,true),(4,1,false),(5,4,true)],0,.struct⟩),
 (41,⟨15,232,true,S40,[.nil (.flt .f32),.nil (.int .i64),.nil (.slice (.flt .f32)),.nil (a1m),.nil (.int .i64),.nil (S68),.int .i64 0,.int .i64 0,.int .i64 0,.int .i64 0,.nil (a2n),.int .i64 0,.int .i64 0,.int .i64 0,.int .i64 0],[(0,3,true),(3,2,true),(5,1,false),(6,9,true)],0,.struct⟩),
 (42,⟨1,16,false,.cpx .f64,[.cpx .f64 0 0],[],0,.complex .f64⟩),
 (43,⟨1,8,false,.cpx .f32,[.cpx .f32 0 0],[],0,.complex .f32⟩),
 (44,⟨1,24,false,.slice (S97),[.nil (S97)],[],98,.slice⟩),
 (45,⟨1,24,false,.slice (.str),[.nil (.str)],[],9,.slice⟩),
 (47,⟨22,328,true,S46,[.nil (.flt .f32),.nil (.int .i64),.nil (.slice (.flt .f32)),.nil (a1m),.nil (.int .i64),.nil (S68),.int .i64 0,.int .i64 0,.int .i64 0,.int .i64 0,.nil (a2n),.int .i64 0,.int .i64 0,.int .i64 0,.int .i64 0,.int .i64 0,.cpx .f64 0 0,.int .i64 0,.cpx .f32 0 0,.int .i64 0,.nil (S97),.nil (.str)],[(0,15,true),(15,1,false),(16,1,false),(17,1,false),(18,1,false),(19,1,false),(20,1,false),(21,1,false)],0,.struct⟩),
 (50,⟨1,24,false,.slice (.bool),[.nil (.bool)],[],4,.slice⟩),
 (62,⟨1,4,false,.flt .f32,[.flt .f32 0],[],0,.float .f32⟩),
 (64,⟨2,16,true,S63,[.flt .f32 0,.int .i64 0],[(0,1,false),(1,1,false)],0,.struct⟩),
 (69,⟨5,40,true,S68,[.str ByteArray.empty,.flt .f32 0,.flt .f32 0,.int .i64 0,.int .i64 0],[(0,1,false),(1,1,false),(2,1,false),(3,1,false),(4,1,false)],0,.struct⟩),
 (98,⟨3,24,true,S97,[.int .i64 0,.int .i64 0,.int .i64 0],[(0,2,true),(2,1,false)],0,.struct⟩),
 (104,⟨1,8,false,.int .u64,[.int .u64 0],[],0,.int .u64⟩),
 (109,⟨1,8,false,.flt .f64,[.flt .f64 0],[],0,.float .f64⟩),
 (122,⟨3,40,true,a1U,[.nil (.int .u8),.int .i64 0,.int .i64 0],[(0,1,false),(1,1,false),(2,1,false)],0,.struct⟩),
 (142,⟨1,8,false,.nil,[.pois],[],0,.other⟩),
 (165,⟨3,24,true,a2n,[.int .i64 0,.int .i64 0,.bool false],[(0,2,true),(2,1,false)],0,.struct⟩),
 (179,⟨3,24,true,a2z,[.int .i64 0,.flt .f32 0,.int .i64 0],[(0,1,false),(1,1,false),(2,1,false)],0,.struct⟩),
 (180,⟨1,24,false,.slice (a2z),[.nil (a2z)],[],179,.slice⟩),
 (184,⟨13,104,true,.cons (.cpx .f32) (.cons (.cpx .f32) (.cons (.cpx .f32) (.cons (.cpx .f32) (.cons (.cpx .f32) (.cons (.cpx .f32) (.cons (.cpx .f32) (.cons (.cpx .f32) (.cons (.cpx .f32) (.cons (.cpx .f32) (.cons (.cpx .f32) (.cons (.cpx .f32) (.cons (.cpx .f32) (.nil))))))))))))),[.cpx .f32 0 0,.cpx .f32 0 0,.cpx .f32 0 0,.cpx .f32 0 0,.cpx .f32 0 0,.cpx .f32 0 0,.cpx .f32 0 0,.cpx .f32 0 0,.cpx .f32 0 0,.cpx .f32 0 0,.cpx .f32 0 0,.cpx .f32 0 0,.cpx .f32 0 0],[],43,.array 13⟩),
 (186,⟨14,120,true,a1m,[.cpx .f64 0 0,.cpx .f32 0 0,.cpx .f32 0 0,.cpx .f32 0 0,.cpx .f32 0 0,.cpx .f32 0 0,.cpx .f32 0 0,.cpx .f32 0 0,.cpx .f32 0 0,.cpx .f32 0 0,.cpx .f32 0 0,.cpx .f32 0 0,.cpx .f32 0 0,.cpx .f32 0 0],[(0,1,false),(1,13,true)],0,.struct⟩),
 (201,⟨1,24,false,.slice (.cpx .f32),[.nil (.cpx .f32)],[],43,.slice⟩),
 (208,⟨1,8,false,.nil,[.pois],[],0,.other⟩),
 (240,⟨1,8,false,.nil,[.pois],[],0,.other⟩)]
def eqs:List Nat:=[34,36,98,165]
theorem a4F:a6W (e6N Tryz.prog) eqs:=c4l (by kernel_rfl)
theorem a4W:f4m Tryz.prog tab=true:=by kernel_rfl
theorem mixed:Tryz.prog.follows .mixedOrders=true:=Tryz.checked.mixed
def a0x (f:Func):Code:=match f.body with
 |some c=>c
 |none => .skip
theorem a1n {f:Nat} {fn:Func} {Γ:Env} (h:Tryz.prog.funcs[f]?=some fn) (hb:fn.body=some (a0x fn)) (hr:fn.results.toList=Γ.res) (hn:fn.ntmps=Γ.nt) (hname:(fn.name == "runtime.NumGoroutine")=false) (hl:a7a Γ (a0x fn)):a5s Tryz.prog f Γ (a0x fn):=
 ⟨hl,fn,h,hb,hr,hn,hname⟩
theorem a1E {Γ:Env} {c:Code} (h:a1Z c=[]):a7a Γ c:=fun c' hc=>by rw[h]at hc;cases hc
abbrev OD (R:Ty):Type:=Option (Den R)
theorem isS {α:Type} {o:Option α} {y:α} (h:o=some y):o.isSome=true:=by rw[h];rfl
theorem gtS {α:Type} {o:Option α} {y d:α} (h:o=some y):o.getD d=y:=by rw[h];rfl
theorem fnO {f:Nat} {fn:Func} {sems:List (Nat×a6e)} {nt:Nat} {res:List ResultVar} {frz:List Nat} {cut:List (Nat×(List Nat×List Cv))} {loops:List (Nat×a4J)} {past:List (Nat×(List Nat×List Cv))} {rown:List Cv} {A R:Ty} {p:Den A->Option (Den R)}
 (hs:a6W (a0d Tryz.prog) sems) (h:Tryz.prog.funcs[f]?=some fn) (hv:∀x,b5A (a7Z tab eqs sems nt res frz cut loops past rown) (a0x fn) (d1E R) (a5F A x) []=p x)
 (hb:fn.body=some (a0x fn):=by rfl) (hr:fn.results.toList=res:=by rfl) (hn:fn.ntmps=nt:=by rfl) (hname:(fn.name == "runtime.NumGoroutine")=false:=by kernel_rfl) (hl:a1Z (a0x fn)=[]:=by kernel_rfl):
 a0d Tryz.prog (f,a0b A R (fun x=>(p x).isSome) (fun x=>(p x).getD (zero R))):=
 a0w (a4E mixed a4W a4F hs) (a1n h hb hr hn hname (a1E hl)) hv
abbrev KI (I:Sg):Type:=I.den->Bool
abbrev GI (I O:Sg):Type:=I.den->O.den
abbrev KA (A:Ty):Type:=Den A->Bool
abbrev GA (A R:Ty):Type:=Den A->Den R
abbrev QI (I O:Sg):Type:=I.den->O.den->Prop
def zV:(s:ShV)->s.den
 |.one c=>e7b c
 |.agg cs=>c4q cs
 |.tup=>()
def zB:(s:ShB)->s.den
 |.box cs=>c4q cs
 |.arr t=>([]:List (Den t))
 |.gone=>()
def zT:(l:List (Nat×ShV))->e5B l
 |[]=>()
 |p::r=>(zV p.2,zT r)
def zM:(l:List (Nat×ShB))->e5D l
 |[]=>()
 |p::r=>(zB p.2,zM r)
def zS (s:ShS):s.den:=(zT s.tmps,zM s.mem)
structure LR where
 (live:List Nat) (own:List Cv) (ex:Nat) (past:List Nat) (pown:List Cv) (sh shX shR:ShS)
structure LX where
 (live:List Nat) (own:List Cv) (ex:Nat) (past:List Nat) (pown:List Cv) (sh shX:ShS)
def lmR (L:LR) (l:L.sh.den->Option (L.shX.den⊕L.shR.den)):a4J:=d1I L.live L.own L.ex L.past L.pown L.sh L.shX L.shR (fun v=>(l v).isSome) (fun v=>isR (l v)) (fun v=>xOf (zS L.shX) (l v)) (fun v=>yOf (zS L.shR) (l v))
def lmX (L:LX) (l:L.sh.den->Option L.shX.den):a4J:=d1J L.live L.own L.ex L.past L.pown L.sh L.shX (fun v=>(l v).isSome) (fun v=>(l v).getD (zS L.shX))
def EvR (Γ:Env) (c:Code) (L:LR) (g:(L.sh.den->Option (L.shX.den⊕L.shR.den))->L.sh.den->Option (L.shX.den⊕L.shR.den)):Prop:=∀f v,EBk Γ c (a3D L.live L.own L.ex L.past L.pown (atS L.sh f) (f4o L.shX L.shR)) (mkS L.sh v)=g f v
def EvX (Γ:Env) (c:Code) (L:LX) (g:(L.sh.den->Option L.shX.den)->L.sh.den->Option L.shX.den):Prop:=∀f v,EBk Γ c (a3D L.live L.own L.ex L.past L.pown (atS L.sh f) (f4p L.shX)) (mkS L.sh v)=g f v
def lp (fn:Func) (i:Nat):Code:=(a1Z (a0x fn)).getD i .skip
def gE (sems:List (Nat×a6e)) (fn:Func) (lps:List (Nat×a4J):=[]) (frz:List Nat:=[]) (cut:List (Nat×(List Nat×List Cv)):=[]) (past:List (Nat×(List Nat×List Cv)):=[]) (rown:List Cv:=[]) (tb:List (Nat×TI):=tab):Env:=a7Z tb eqs sems fn.ntmps fn.results.toList frz cut lps past rown
theorem a0z {sems fn lps frz cut past rown} (hs:a6W (a0d Tryz.prog) sems):a1g Tryz.prog (gE sems fn lps frz cut past rown):=a4E mixed a4W a4F hs
def fzE (m:Nat×a6e):Nat×a6e:=(m.1,b5Y m.2)
def LOK (Γ:Env) (c:Code):Prop:=∀L,a1D Γ.loops (a0I c)=some L->a3j Γ c L
theorem lR {Γ:Env} {c:Code} {L:LR} {g} (h:EvR Γ c L g) (b:L.sh.den->Nat) (hl:a1D Γ.loops (a0I c)=some (lmR L fun v=>a0C g (b v) v):=by kernel_rfl):LOK Γ c:=b8o hl (b5V h b (zS L.shX) (zS L.shR))
theorem lX {Γ:Env} {c:Code} {L:LX} {g} (h:EvX Γ c L g) (b:L.sh.den->Nat) (hl:a1D Γ.loops (a0I c)=some (lmX L fun v=>a0C g (b v) v):=by kernel_rfl):LOK Γ c:=b8o hl (b5W h b (zS L.shX))
section
variable {α:Type} {P:α->Prop} {a b c d e f g:α} {l:List α}
theorem nS:a6W P []:=trivial
theorem s1 (x:P a):a6W P [a]:=⟨x,trivial⟩
theorem s2 (x:P a) (y:P b):a6W P [a,b]:=⟨x,y,trivial⟩
theorem s3 (x:P a) (y:P b) (z:P c):a6W P [a,b,c]:=⟨x,y,z,trivial⟩
theorem s4 (x:P a) (y:P b) (z:P c) (u:P d):a6W P [a,b,c,d]:=⟨x,y,z,u,trivial⟩
theorem s5 (x:P a) (y:P b) (z:P c) (u:P d) (v:P e):a6W P [a,b,c,d,e]:=⟨x,y,z,u,v,trivial⟩
theorem s6 (x:P a) (y:P b) (z:P c) (u:P d) (v:P e) (w:P f):a6W P [a,b,c,d,e,f]:=⟨x,y,z,u,v,w,trivial⟩
theorem s7c (x:P a) (y:P b) (z:P c) (u:P d) (v:P e) (w:P f) (t:P g) (h:a6W P l):a6W P (a::b::c::d::e::f::g::l):=⟨x,y,z,u,v,w,t,h⟩
theorem s7 (x:P a) (y:P b) (z:P c) (u:P d) (v:P e) (w:P f) (t:P g):a6W P [a,b,c,d,e,f,g]:=s7c x y z u v w t trivial
end
theorem fnE {f:Nat} {fn:Func} {sems:List (Nat×a6e)} (hs:a6W (a0d Tryz.prog) sems) (h:Tryz.prog.funcs[f]?=some fn) (frz:List Nat:=[]) (cut:List (Nat×(List Nat×List Cv)):=[]) (past:List (Nat×(List Nat×List Cv)):=[]) (rown:List Cv:=[]) {A R:Ty} {p:Den A->Option (Den R)}
 (hv:∀x,b5A (gE sems fn [] frz cut past rown) (a0x fn) (d1E R) (a5F A x) []=p x:=by intro _;kernel_rfl)
 (hb:fn.body=some (a0x fn):=by rfl) (hname:(fn.name == "runtime.NumGoroutine")=false:=by kernel_rfl) (hl:a1Z (a0x fn)=[]:=by kernel_rfl):
 a0d Tryz.prog (f,a0b A R (fun x=>(p x).isSome) (fun x=>(p x).getD (zero R))):=a0w (a0z hs) (a1n h hb rfl rfl hname (a1E hl)) hv
theorem sgE {f:Nat} {fn:Func} {sems:List (Nat×a6e)} (own:Bool) (hs:a6W (a0d Tryz.prog) sems) (h:Tryz.prog.funcs[f]?=some fn) (frz:List Nat:=[]) (cut:List (Nat×(List Nat×List Cv)):=[]) (past:List (Nat×(List Nat×List Cv)):=[]) (rown:List Cv:=[]) {I O:Sg} {p:I.den->Option O.den}
 (hv:∀x,d1L (gE sems fn [] frz cut past rown) (a0x fn) I O x=p x:=by intro _;kernel_rfl)
 (hb:fn.body=some (a0x fn):=by rfl) (hname:(fn.name == "runtime.NumGoroutine")=false:=by kernel_rfl) (hl:a1Z (a0x fn)=[]:=by kernel_rfl):
 a0d Tryz.prog (f,a0y own I O (fun x=>(p x).isSome) (fun x=>(p x).getD (a0R O))):=a4a (a0z hs) (a1n h hb rfl rfl hname (a1E hl)) own hv
abbrev ty0:Type:=List (Den (.int .i64))
abbrev a9V:Type:=List (Den (.flt .f32))
abbrev c4D:Type:=List (Den (.slice (.flt .f32)))
abbrev c4E:Type:=List (Den a1m)
abbrev b1P:Type:=List (Den S68)
abbrev e1p:Type:=List (Den a2n)
abbrev a4L:Type:=Nat×Nat
abbrev d0P:Type:=List (Den S97)
abbrev d1X:Type:=List (Den .str)
abbrev d5y:Type:=d1X×Unit
abbrev ty1:Type:=a9V×ty0×c4D×c4E×ty0×b1P×Int×Int×Int×Int×e1p×Int×Int×Int×Int×Int×a4L×Int×a4L×Int×d0P×d5y
abbrev ty2:Type:=a9V×ty0×c4D×Unit
abbrev ty6:Type:=Int×Unit
abbrev a5w:Type:=Int×ty6
abbrev ty3:Type:=List (Den (.int .u8))×a5w
abbrev a4i:Type:=Unit×Unit
abbrev ty5:Type:=Unit×a4i
abbrev ty4:Type:=Unit×Unit×Unit×Unit×Unit×Unit×Int×Int×Int×Int×Unit×Int×Int×Int×Int×Int×a4L×Int×a4L×Int×ty5
abbrev ty7:Type:=(a9V×ty0×c4D×c4E×ty0×b1P×Int×Int×Int×Int×e1p×Int×Int×Int×Int×Int×a4L×Int×a4L×Int×d0P×a4i)×d5y
abbrev ty8:Type:=c4E×ty0×Unit
abbrev a7l:Type:=Unit×ty5
abbrev ty9:Type:=ty3×a7l×a7l×a9V×ty0×List (Den (.slice (.jnk)))×Unit
abbrev d1Y:Type:=Bool×Unit
abbrev a5I:Type:=d1Y×Unit
abbrev f4v:Type:=Int×Int×Int×Int×Unit×Int×Int×a5w
abbrev f7V:Type:=(a4L×a4L×a4L×a4L×a4L×a4L×a4L×a4L×a4L×a4L×a4L×a4L×a4L×a4L×Unit)×Unit
abbrev f4w:Type:=Int×Int×Int×Int×e1p×Int×Int×a5w
abbrev b1Q:Type:=Unit×ty6
abbrev b3z:Type:=ByteArray
abbrev g5o:Type:=(a9V×ty0×c4D×c4E×ty0×b1P×f4w)×(Unit×Unit×Unit×Unit×Unit×Unit×f4v)×(Unit×Unit×Unit×Unit×Unit×Unit×f4v)×ty2
abbrev c4F:Type:=List (Den a2z)
abbrev b3A:Type:=ty8×Unit
abbrev b8t:Type:=ty2×Unit
abbrev d5z:Type:=Unit×Unit×b1Q
abbrev f4x:Type:=ty3×f4v×f4v×e1p×Unit
abbrev f4y:Type:=ty3×a7l×a7l×ty0×Unit
abbrev c4G:Type:=ty6×Unit
abbrev f4z:Type:=(Nat×Int×b1Q)×b8t
abbrev e7i:Type:=(b3z×ty6)×Unit
abbrev d5A:Type:=Unit×a5w
abbrev d5B:Type:=b3z×Unit
abbrev d0Q:Type:=Nat×ty6
abbrev f4A:Type:=(a4L×d1Y)×Unit
abbrev f4B:Type:=(a4L×Unit)×Unit
abbrev f4C:Type:=ty3×ty5×ty5×ty8
def bx0:ShB:=.box [.sl (.int .u8),.int .i64,.int .i64]
def bx1:ShB:=.box [.sl (a1m),.sl (.int .i64)]
def bx2:ShB:=.box [.sl (.flt .f32),.sl (.int .i64),.sl (.slice (.flt .f32))]
def bx3:ShB:=.box [.nil (.flt .f32),.nil (.int .i64),.nil (.slice (.jnk))]
def bx4:ShB:=.box [.nil (.flt .f32),.nil (.int .i64),.nil (.slice (.flt .f32))]
def bx5:ShB:=.box [.nil (.flt .f32),.nil (.int .i64),.nil (.slice (.flt .f32)),.nil (a1m),.nil (.int .i64),.nil (S68),.int .i64,.int .i64,.int .i64,.int .i64,.nil (a2n),.int .i64,.int .i64,.int .i64,.int .i64,.int .i64,.cpx .f64,.int .i64,.cpx .f32,.int .i64,.nil (S97),.nil (.str)]
def bx6:ShB:=.box [.ref (.flt .f32) 3,.ref (.int .i64) 4,.ref (.slice (.jnk)) 5]
def bx7:ShB:=.box [.nil (a1m),.nil (.int .i64)]
def bx8:ShB:=.box [.sl (.flt .f32),.sl (.int .i64),.sl (.slice (.flt .f32)),.sl (a1m),.sl (.int .i64),.sl (S68),.int .i64,.int .i64,.int .i64,.int .i64,.sl (a2n),.int .i64,.int .i64,.int .i64,.int .i64,.int .i64,.cpx .f64,.int .i64,.cpx .f32,.int .i64,.sl (S97),.sl (.str)]
def bx9:ShB:=.box [.sl (.flt .f32),.sl (.int .i64),.sl (.slice (.flt .f32)),.sl (a1m),.sl (.int .i64),.sl (S68),.int .i64,.int .i64,.int .i64,.int .i64,.sl (a2n),.int .i64,.int .i64,.int .i64,.int .i64,.int .i64,.cpx .f64,.int .i64,.cpx .f32,.int .i64,.sl (S97),.ref (.str) 3]
def g5p:ShB:=.box [.ref (.flt .f32) 3,.ref (.int .i64) 4,.ref (.slice (.flt .f32)) 5]
def g9b:ShB:=.box [.ref (a1m) 3,.ref (.int .i64) 4]
def f4D:ShB:=.box [.ref (a1m) 3,.nil (.int .i64)]
def g9c:ShB:=.box [.int .i64,.int .i64,.int .i64,.int .i64,.nil (a2n),.int .i64,.int .i64,.int .i64,.int .i64]
def g9d:ShB:=.box [.int .i64,.int .i64,.int .i64,.int .i64,.ref (a2n) 3,.int .i64,.int .i64,.int .i64,.int .i64]
def f7W:ShB:=.box [.flt .f32,.int .i64]
def f7X:ShB:=.box [.cpx .f64,.cpx .f32,.cpx .f32,.cpx .f32,.cpx .f32,.cpx .f32,.cpx .f32,.cpx .f32,.cpx .f32,.cpx .f32,.cpx .f32,.cpx .f32,.cpx .f32,.cpx .f32]
def g5q:ShB:=.box [.sl (.flt .f32),.sl (.int .i64),.sl (.slice (.flt .f32)),.sl (a1m),.sl (.int .i64),.sl (S68),.int .i64,.int .i64,.int .i64,.int .i64,.sl (a2n),.int .i64,.int .i64,.int .i64,.int .i64]
def g5r:ShB:=.box [.int .i64,.int .i64,.int .i64,.int .i64,.sl (a2n),.int .i64,.int .i64,.int .i64,.int .i64]
def g5s:ShB:=.box [.sl (.flt .f32),.sl (.int .i64),.ref (.slice (.flt .f32)) 2]
def g5t:ShB:=.box [.nil (.flt .f32),.ref (.int .i64) 3,.nil (.slice (.jnk))]
def g5u:ShB:=.box [.nil (.flt .f32),.ref (.int .i64) 3,.nil (.slice (.flt .f32))]
def g9e:ShB:=.box [.nil (.flt .f32),.nil (.int .i64),.nil (.slice (.flt .f32)),.nil (a1m),.nil (.int .i64),.nil (S68),.int .i64,.int .i64,.int .i64,.int .i64,.nil (a2n),.int .i64,.int .i64,.int .i64,.int .i64]
def g9f:ShB:=.box [.ref (.flt .f32) 3,.ref (.int .i64) 4,.ref (.slice (.flt .f32)) 5,.nil (a1m),.nil (.int .i64),.nil (S68),.int .i64,.int .i64,.int .i64,.int .i64,.nil (a2n),.int .i64,.int .i64,.int .i64,.int .i64]
def on0:ShV:=.one (.ref (.str) 0)
def on1:ShV:=.one (.ref (.flt .f32) 6)
def om0:ShV:=.one (.int .i64)
def om1:ShV:=.one (.ptr 0 0)
def om2:ShV:=.one (.bool)
def om3:ShV:=.one (.ptr 1 0)
def om4:ShV:=.one (.ptr 2 0)
def om5:ShV:=.one (.str)
def om6:ShV:=.one (.cpx .f64)
def om7:ShV:=.one (.sl (S68))
def om8:ShV:=.one (.sl (a2z))
def om9:ShV:=.one (.flt .f32)
def d1Z:ShV:=.one (.flt .f64)
def e1q:ShV:=.one (.sl (.str))
def e1r:ShV:=.one (.sl (.flt .f32))
def e1s:ShV:=.one (.sl (.int .i64))
def e5F:ShV:=.one (.sl (S97))
def li0:List (Nat×ShB):=[(0,bx0),(1,bx4),(2,g5p),(3,.arr (.flt .f32)),(4,.arr (.int .i64)),(5,.arr (.slice (.flt .f32))),(6,.arr (.flt .f32))]
def li1:List (Nat×ShB):=[(0,g5q),(1,g9e),(2,g9f),(3,.arr (.flt .f32)),(4,.arr (.int .i64)),(5,.arr (.slice (.flt .f32)))]
def li2:List (Nat×ShB):=[(0,bx0),(1,bx4),(2,g5p),(3,.arr (.flt .f32)),(4,.arr (.int .i64)),(5,.arr (.slice (.flt .f32)))]
def li3:List (Nat×ShB):=[(0,bx0),(1,bx3),(2,bx6),(3,.arr (.flt .f32)),(4,.arr (.int .i64)),(5,.arr (.slice (.jnk)))]
def li4:List (Nat×ShB):=[(0,bx0),(1,bx7),(2,g9b),(3,.arr (a1m)),(4,.arr (.int .i64))]
def li5:List (Nat×ShV):=[(0,om1),(2,om3),(3,om4),(6,om9),(7,om0),(8,on1),(9,om0)]
def li6:List (Nat×ShB):=[(0,bx0),(1,g9c),(2,g9d),(3,.arr (a2n))]
def li7:List (Nat×ShV):=[(0,om1),(2,om3),(3,om4)]
def li8:List (Nat×ShV):=[(2,om3),(3,om4)]
def li9:List (Nat×ShV):=[(1,om1),(3,om0)]
def c2e:List (Nat×ShB):=[(0,bx1)]
def a8Y:List (Nat×ShV):=[(2,om2)]
def b5w:List (Nat×ShB):=[(0,bx2)]
set_option maxRecDepth 100000
set_option maxHeartbeats 0
theorem d5C:b6a Tryz.prog 120 Extern.MathFloatBits.float64bits:=⟨_,Tryz.func120,rfl,rfl,by kernel_rfl,by kernel_rfl⟩
theorem d5D:b6a Tryz.prog 121 Extern.MathFloatBits.float64frombits:=⟨_,Tryz.func121,rfl,rfl,by kernel_rfl,by kernel_rfl⟩
abbrev c4H:Type:={ z:Nat // a1w .f64 z=true }
theorem d2a:Nonempty c4H:=⟨⟨qn .f64,a5b _⟩⟩
abbrev e5G:Ty := .cons (.flt .f64) (.nil)
abbrev e7j:Ty := .cons (.flt .f64) (.nil)
noncomputable def g5v:a7H:=mkN [(120,a5H (.cons (.flt .f64) .nil) (.cons (.int .u64) .nil) c4H d2a (fun z x=>((((bif a1w .f64 x.1 then z.1 else x.1:Nat):Int)),()))),(121,a5H (.cons (.int .u64) .nil) (.cons (.flt .f64) .nil) Unit ⟨()⟩ (fun _ x=>((x.1:Int).toNat,())))] []
noncomputable def e1t:Env:=a7Z tab eqs [] 7 [.tmp 2] [] [] [] [] []
theorem e7k (h:Den e7j->Option Unit) (x:Den e5G):a5u e1t g5v (a0x Tryz.f119) (a5v e7j h) (a5F e5G x) [] =
 a3a fun(z:c4H)=>a3a fun(_:Unit)=>h ((Int.toNat (a1X BinOp.andNot IntKind.u64 (((bif a1w FloatKind.f64 x.fst then z.1 else x.fst:Nat):Int)) 9223372036854775808)),()):=by kernel_rfl
theorem d2b (n:Nat):(a1X .andNot .u64 (n:Int) 9223372036854775808).toNat=n%2^63:=by
 have e:a1X .andNot .u64 (n:Int) 9223372036854775808=IntKind.u64.wrap ((BitVec.ofInt 64 (n:Int) &&& ~~~(BitVec.ofInt 64 9223372036854775808)).toNat:Int):=rfl;have hy : ~~~(BitVec.ofInt 64 9223372036854775808)=9223372036854775807#64:=by decide
 rw[e,hy,BitVec.toNat_and];have hx:(BitVec.ofInt 64 (n:Int)).toNat=n%2^64:=by
  rw[BitVec.toNat_ofInt];omega
 have h7:(9223372036854775807#64).toNat=2^63-1:=by decide
 rw[hx,h7,Nat.and_two_pow_sub_one_eq_mod,IntKind.wrap_u64];omega
theorem b3B {n:Nat}:a1w .f64 (n%2^63)=a1w .f64 n:=by
 have hs:FloatKind.f64.format.signWeight=2^63:=by decide
 rw[Bool.eq_iff_iff,a3T,a3T,hs,Nat.mod_mod]
def e7l (x:Den e5G):Bool:=true
def e7m (x:Den e5G):Den e7j:=(x.1%2^63,())
theorem e7n:a1g Tryz.prog e1t:=a4E mixed a4W a4F .nil
theorem f7Y:a5s Tryz.prog 119 e1t (a0x Tryz.f119):=a1n Tryz.func119 rfl rfl rfl (by kernel_rfl) (a1E (by kernel_rfl))
def m119:=(119,a0b e5G e7j e7l e7m)
theorem e7o:a0d Tryz.prog (119,a0b e5G e7j e7l e7m):=
 a5V (N:=g5v) e7n (a2m ⟨b8p d5C,a7I d5D,trivial⟩) f7Y a1d (Q:=fun x y=>FEq .f64 (x.1%2^63) y.1)
  (fun x y hq β K v hv=>by
   obtain⟨b,rfl,hb⟩:=hv;refine⟨b,rfl,?_⟩;have hb:FEq .f64 y.1 b:=hb;show FEq .f64 (x.1%2^63) b;rcases hq with e|⟨h1,h2⟩
   ·rw[e];exact hb
   ·exact .inr ⟨h1,FEq.nan_left hb h2⟩)
  (fun x _ k hk=>by
   rw[e7k]
   haveI:=d2a
   refine a0l fun z=>a0l fun _=>hk _ ?_
   rw[d2b];cases hn:a1w .f64 x.1 with
   |true=>exact .inr ⟨by rw[b3B];exact hn,by show a1w .f64 (z.1%2^63)=true;rw[b3B];exact z.2⟩
   |false=>exact .inl rfl)
end Go.Proofs.YtjomnmoekchfeaaGreatDoor.AM
namespace Go.Proofs
open Go.Shelf
def Tryz.lays156_ren:Go.Shelf.Ren:=⟨fun|156=>60|165=>116|166=>117|169=>118|240=>183|241=>184|276=>229|277=>230|n=>n,fun|31=>45|9=>9|3=>3|4=>4|0=>0|20=>20|72=>154|76=>158|70=>152|37=>22|75=>157|127=>215|164=>242|5=>5|80=>160|n=>n,fun|n=>n⟩
theorem Tryz.lays156:Go.Proofs.Lays.n156 Tryz.prog Tryz.lays156_ren:={
 mixed:=by kernel_rfl
 f156:=Tryz.func60.trans (congrArg some (by kernel_rfl))
 f165:=Tryz.func116.trans (congrArg some (by kernel_rfl))
 f166:=Tryz.func117.trans (congrArg some (by kernel_rfl))
 f169:=Tryz.func118.trans (congrArg some (by kernel_rfl))
 f240:=Tryz.func183.trans (congrArg some (by kernel_rfl))
 f241:=Tryz.func184.trans (congrArg some (by kernel_rfl))
 f276:=Tryz.func229.trans (congrArg some (by kernel_rfl))
 f277:=Tryz.func230.trans (congrArg some (by kernel_rfl))
 t0:=Tryz.underlying0
 a0:=Tryz.isAgg0
 z0:=Tryz.sizeOf0
 v0:=Tryz.zeroValue0
 t3:=Tryz.underlying3
 a3:=Tryz.isAgg3
 z3:=Tryz.sizeOf3
 v3:=Tryz.zeroValue3
 t4:=Tryz.underlying4
 a4:=Tryz.isAgg4
 z4:=Tryz.sizeOf4
 v4:=Tryz.zeroValue4
 t9:=Tryz.underlying9
 a9:=Tryz.isAgg9
 z9:=Tryz.sizeOf9
 v9:=Tryz.zeroValue9
 t20:=Tryz.underlying20
 a20:=Tryz.isAgg20
 z20:=Tryz.sizeOf20
 v20:=Tryz.zeroValue20
 t31:=Tryz.underlying45
 a31:=Tryz.isAgg45
 z31:=Tryz.sizeOf45
 v31:=Tryz.zeroValue45
 t37:=Tryz.underlying22
 a37:=Tryz.isAgg22
 z37:=Tryz.sizeOf22
 v37:=Tryz.zeroValue22
 t70:=Tryz.underlying152
 a70:=Tryz.isAgg152
 z70:=Tryz.sizeOf152
 v70:=Tryz.zeroValue152
 t72:=Tryz.underlying154
 a72:=Tryz.isAgg154
 z72:=Tryz.sizeOf154
 v72:=Tryz.zeroValue154
 t75:=Tryz.underlying157
 a75:=Tryz.isAgg157
 z75:=Tryz.sizeOf157
 v75:=Tryz.zeroValue157
 t76:=Tryz.underlying158
 a76:=Tryz.isAgg158
 z76:=Tryz.sizeOf158
 v76:=Tryz.zeroValue158
 t127:=Tryz.underlying215
 a127:=Tryz.isAgg215
 z127:=Tryz.sizeOf215
 v127:=Tryz.zeroValue215
 t164:=Tryz.underlying242
 a164:=Tryz.isAgg242
 z164:=Tryz.sizeOf242
 v164:=Tryz.zeroValue242 }
theorem Tryz.Builder_Extra_156:Builder.Extra Tryz.prog Tryz.lays156_ren:={
 sizeBuilder:=by kernel_rfl
 liesBuilder:=by kernel_rfl
 t5:=Tryz.underlying5
 a5:=Tryz.isAgg5
 z5:=Tryz.sizeOf5
 v5:=Tryz.zeroValue5
 infoByte:=by kernel_rfl
 cellsByte:=by kernel_rfl
 sizeByte:=by kernel_rfl
 neB5:=by decide }
open Go.RowKit in
theorem Tryz.strings_Join_none (a:Option Addr) (c:Nat) (sep:ByteArray) (w:World) :
 Calls Tryz.prog 60 #[.slice a 0 c,.string sep] w fun e w'=>e = .returned (.string ⟨#[]⟩) /\ w'=w:=Any.strings_Join_none Tryz.lays156 Tryz.Builder_Extra_156 a c sep w
open Go.RowKit in
theorem Tryz.strings_Join (bk o c:Nat) (xs:List ByteArray) (sep:ByteArray) (w:World) (hcells:∀(j:Nat) x,xs[j]?=some x->w.cell? ⟨bk,o+j,none⟩=some (.string x)) (hbk:bk<w.heap.size) (hN:xs.length<=140737488355328) (hcap:xs.length<=c) (hlen:(Lib.join (xs.map (·.data.toList)) sep.data.toList).length<=140737488355328) :
 Calls Tryz.prog 60 #[.slice (some ⟨bk,o,none⟩) xs.length c,.string sep] w fun e w'=>e = .returned (.string ⟨(Lib.join (xs.map (·.data.toList)) sep.data.toList).toArray⟩) /\ Below w.heap.size w w':=Any.strings_Join Tryz.lays156 Tryz.Builder_Extra_156 bk o c xs sep w hcells hbk hN hcap hlen
def Tryz.lays137_ren:Go.Shelf.Ren:=⟨fun|137=>235|217=>252|266=>271|n=>n,fun|9=>9|5=>5|3=>3|n=>n,fun|n=>n⟩
theorem Tryz.lays137:Go.Proofs.Lays.n137 Tryz.prog Tryz.lays137_ren:={
 mixed:=by kernel_rfl
 f137:=Tryz.func235.trans (congrArg some (by kernel_rfl))
 f217:=Tryz.func252.trans (congrArg some (by kernel_rfl))
 f266:=Tryz.func271.trans (congrArg some (by kernel_rfl))
 t3:=Tryz.underlying3
 a3:=Tryz.isAgg3
 z3:=Tryz.sizeOf3
 v3:=Tryz.zeroValue3
 t5:=Tryz.underlying5
 a5:=Tryz.isAgg5
 z5:=Tryz.sizeOf5
 v5:=Tryz.zeroValue5
 t9:=Tryz.underlying9
 a9:=Tryz.isAgg9
 z9:=Tryz.sizeOf9
 v9:=Tryz.zeroValue9 }
open Go.RowKit in
theorem Tryz.strings_IndexByte (s:ByteArray) (c:Int) (w:World) :
 Calls Tryz.prog 235 #[.string s,.int .u8 c] w fun e w'=>e = .returned (.int .i64 (Lib.indexByte s.data.toList c.toNat.toUInt8)) /\ w'=w:=Any.strings_IndexByte Tryz.lays137 s c w
def Tryz.laysM171_ren:Go.Shelf.Ren:=⟨fun|171=>65|243=>124|246=>188|283=>231|284=>232|285=>233|286=>234|129=>259|317=>258|318=>260|319=>261|320=>262|337=>273|338=>274|n=>n,fun|3=>3|9=>9|2=>2|4=>4|171=>245|0=>0|53=>104|37=>22|5=>5|173=>248|212=>257|51=>258|20=>20|213=>259|46=>162|232=>269|233=>270|n=>n,fun|17=>2|18=>5|19=>6|n=>n⟩
theorem Tryz.laysM171:Go.Proofs.LaysM.n171 Tryz.prog Tryz.laysM171_ren:={
 mixed:=by kernel_rfl
 f129:=Tryz.func259.trans (congrArg some (by kernel_rfl))
 f171:=Tryz.func65.trans (congrArg some (by kernel_rfl))
 f243:=Tryz.func124.trans (congrArg some (by kernel_rfl))
 f246:=Tryz.func188.trans (congrArg some (by kernel_rfl))
 f283:=Tryz.func231.trans (congrArg some (by kernel_rfl))
 f284:=Tryz.func232.trans (congrArg some (by kernel_rfl))
 f285:=Tryz.func233.trans (congrArg some (by kernel_rfl))
 f286:=Tryz.func234.trans (congrArg some (by kernel_rfl))
 f317:=Tryz.func258.trans (congrArg some (by kernel_rfl))
 f318:=Tryz.func260.trans (congrArg some (by kernel_rfl))
 f319:=Tryz.func261.trans (congrArg some (by kernel_rfl))
 f320:=Tryz.func262.trans (congrArg some (by kernel_rfl))
 f337:=Tryz.func273.trans (congrArg some (by kernel_rfl))
 f338:=Tryz.func274.trans (congrArg some (by kernel_rfl))
 t0:=Tryz.underlying0
 a0:=Tryz.isAgg0
 z0:=Tryz.sizeOf0
 v0:=Tryz.zeroValue0
 t2:=Tryz.underlying2
 a2:=Tryz.isAgg2
 z2:=Tryz.sizeOf2
 v2:=Tryz.zeroValue2
 t3:=Tryz.underlying3
 a3:=Tryz.isAgg3
 z3:=Tryz.sizeOf3
 v3:=Tryz.zeroValue3
 t4:=Tryz.underlying4
 a4:=Tryz.isAgg4
 z4:=Tryz.sizeOf4
 v4:=Tryz.zeroValue4
 t5:=Tryz.underlying5
 a5:=Tryz.isAgg5
 z5:=Tryz.sizeOf5
 v5:=Tryz.zeroValue5
 t9:=Tryz.underlying9
 a9:=Tryz.isAgg9
 z9:=Tryz.sizeOf9
 v9:=Tryz.zeroValue9
 t20:=Tryz.underlying20
 a20:=Tryz.isAgg20
 z20:=Tryz.sizeOf20
 v20:=Tryz.zeroValue20
 t37:=Tryz.underlying22
 a37:=Tryz.isAgg22
 z37:=Tryz.sizeOf22
 v37:=Tryz.zeroValue22
 t46:=Tryz.underlying162
 a46:=Tryz.isAgg162
 z46:=Tryz.sizeOf162
 v46:=Tryz.zeroValue162
 t51:=Tryz.underlying258
 a51:=Tryz.isAgg258
 z51:=Tryz.sizeOf258
 v51:=Tryz.zeroValue258
 t53:=Tryz.underlying104
 a53:=Tryz.isAgg104
 z53:=Tryz.sizeOf104
 v53:=Tryz.zeroValue104
 t171:=Tryz.underlying245
 a171:=Tryz.isAgg245
 z171:=Tryz.sizeOf245
 v171:=Tryz.zeroValue245
 t173:=Tryz.underlying248
 a173:=Tryz.isAgg248
 z173:=Tryz.sizeOf248
 v173:=Tryz.zeroValue248
 t212:=Tryz.underlying257
 a212:=Tryz.isAgg257
 z212:=Tryz.sizeOf257
 v212:=Tryz.zeroValue257
 t213:=Tryz.underlying259
 a213:=Tryz.isAgg259
 z213:=Tryz.sizeOf259
 t232:=Tryz.underlying269
 a232:=Tryz.isAgg269
 z232:=Tryz.sizeOf269
 v232:=Tryz.zeroValue269
 t233:=Tryz.underlying270
 a233:=Tryz.isAgg270
 z233:=Tryz.sizeOf270
 v233:=Tryz.zeroValue270
 g17:=by kernel_rfl
 g18:=by kernel_rfl
 g19:=by kernel_rfl
 i0:=by kernel_rfl
 i2:=by kernel_rfl
 i3:=by kernel_rfl
 i4:=by kernel_rfl
 i5:=by kernel_rfl
 i9:=by kernel_rfl
 i20:=by kernel_rfl
 i37:=by kernel_rfl
 i46:=by kernel_rfl
 i51:=by kernel_rfl
 i53:=by kernel_rfl
 i171:=by kernel_rfl
 i173:=by kernel_rfl
 i212:=by kernel_rfl
 i232:=by kernel_rfl
 i233:=by kernel_rfl
 m17:=by kernel_rfl
 m18:=by kernel_rfl
 m19:=by kernel_rfl }
open Go.RowKit Go.Sort Go.Lib in
theorem Tryz.strconv_Itoa (n:Int) (h0:-9223372036854775808<=n) (h1:n<=9223372036854775807) (w:World) (htab:Lib.TabIs Tryz.prog w "internal/strconv.uint64pow10" .u64 Lib.pow10Tab) :
 Calls Tryz.prog 65 #[.int .i64 n] w fun e w'=>e = .returned (.string ⟨(Lib.itoa n).toArray⟩) /\ ∃k os,w'=grow (w.drewN k) os:=Any.strconv_Itoa Tryz.laysM171 n h0 h1 w htab
def Tryz.lays146_ren:Go.Shelf.Ren:=⟨fun|146=>48|221=>95|268=>162|138=>163|143=>164|195=>211|197=>212|218=>213|219=>214|260=>251|217=>252|225=>253|224=>254|267=>255|266=>271|314=>272|n=>n,fun|9=>9|31=>45|3=>3|4=>4|0=>0|105=>233|21=>21|5=>5|46=>162|119=>262|139=>265|138=>264|146=>266|51=>258|n=>n,fun|1=>1|3=>3|4=>4|n=>n⟩
theorem Tryz.lays146:Go.Proofs.Lays.n146 Tryz.prog Tryz.lays146_ren:={
 mixed:=by kernel_rfl
 f138:=Tryz.func163.trans (congrArg some (by kernel_rfl))
 f143:=Tryz.func164.trans (congrArg some (by kernel_rfl))
 f146:=Tryz.func48.trans (congrArg some (by kernel_rfl))
 f195:=Tryz.func211.trans (congrArg some (by kernel_rfl))
 f197:=Tryz.func212.trans (congrArg some (by kernel_rfl))
 f217:=Tryz.func252.trans (congrArg some (by kernel_rfl))
 f218:=Tryz.func213.trans (congrArg some (by kernel_rfl))
 f219:=Tryz.func214.trans (congrArg some (by kernel_rfl))
 f221:=Tryz.func95.trans (congrArg some (by kernel_rfl))
 f224:=Tryz.func254.trans (congrArg some (by kernel_rfl))
 f225:=Tryz.func253.trans (congrArg some (by kernel_rfl))
 f260:=Tryz.func251.trans (congrArg some (by kernel_rfl))
 f266:=Tryz.func271.trans (congrArg some (by kernel_rfl))
 f267:=Tryz.func255.trans (congrArg some (by kernel_rfl))
 f268:=Tryz.func162.trans (congrArg some (by kernel_rfl))
 f314:=Tryz.func272.trans (congrArg some (by kernel_rfl))
 t0:=Tryz.underlying0
 a0:=Tryz.isAgg0
 z0:=Tryz.sizeOf0
 v0:=Tryz.zeroValue0
 t3:=Tryz.underlying3
 a3:=Tryz.isAgg3
 z3:=Tryz.sizeOf3
 v3:=Tryz.zeroValue3
 t4:=Tryz.underlying4
 a4:=Tryz.isAgg4
 z4:=Tryz.sizeOf4
 v4:=Tryz.zeroValue4
 t5:=Tryz.underlying5
 a5:=Tryz.isAgg5
 z5:=Tryz.sizeOf5
 v5:=Tryz.zeroValue5
 t9:=Tryz.underlying9
 a9:=Tryz.isAgg9
 z9:=Tryz.sizeOf9
 v9:=Tryz.zeroValue9
 t21:=Tryz.underlying21
 a21:=Tryz.isAgg21
 z21:=Tryz.sizeOf21
 v21:=Tryz.zeroValue21
 t31:=Tryz.underlying45
 a31:=Tryz.isAgg45
 z31:=Tryz.sizeOf45
 v31:=Tryz.zeroValue45
 t46:=Tryz.underlying162
 a46:=Tryz.isAgg162
 z46:=Tryz.sizeOf162
 v46:=Tryz.zeroValue162
 t51:=Tryz.underlying258
 a51:=Tryz.isAgg258
 z51:=Tryz.sizeOf258
 v51:=Tryz.zeroValue258
 t105:=Tryz.underlying233
 a105:=Tryz.isAgg233
 z105:=Tryz.sizeOf233
 v105:=Tryz.zeroValue233
 t119:=Tryz.underlying262
 a119:=Tryz.isAgg262
 z119:=Tryz.sizeOf262
 t138:=Tryz.underlying264
 a138:=Tryz.isAgg264
 z138:=Tryz.sizeOf264
 v138:=Tryz.zeroValue264
 t139:=Tryz.underlying265
 a139:=Tryz.isAgg265
 z139:=Tryz.sizeOf265
 v139:=Tryz.zeroValue265
 t146:=Tryz.underlying266
 a146:=Tryz.isAgg266
 z146:=Tryz.sizeOf266
 v146:=Tryz.zeroValue266
 g1:=by kernel_rfl
 g3:=by kernel_rfl
 g4:=by kernel_rfl }
open Go.RowKit Go.Lib in
theorem Tryz.strings_Split (s sep:ByteArray) (m:Int) (w:World) (hs:s.size<4294967281) (hm:w.cell? ⟨1,0,none⟩=some (.int .i64 m)) (h1:1<=sep.size) :
 Calls Tryz.prog 48 #[.string s,.string sep] w fun e w'=>
  e = .returned (.slice (some ⟨w.heap.size,0,none⟩) (Lib.countB s sep+1) (Lib.countB s sep+1)) /\ w'=w.alloc (.cells ((Lib.splitB sep 0 (Lib.countB s sep) s).map Value.string).toArray 9):=Any.strings_Split Tryz.lays146 (by kernel_rfl) s sep m w hs hm h1
end Go.Proofs
namespace Go.Proofs.YtjomnmoekchfeaaGreatDoor.AM
open IntKind (wrap)
open List (length replicate getD set)
open Int (toNat toNat_natCast)
open Option (getD_some isSome_some)
open FloatKind (nearest)
open Nat (beq zero_le)
open Go Go.Proofs Go.RowKit
set_option maxRecDepth 100000
set_option maxHeartbeats 0
theorem c4I {β0:Bt} {K0:Ks} {w0 w':World} {rs:List W} {v:Value} (hk:KOK K0 w0) (hfr:∀k,0<=k->β0 k=none) (hb:Below w0.heap.size w0 w') (ho:a7b β0 K0 rs v):Ret [] [] rs β0 K0 w0 v w' β0 K0:=
 ⟨KLe.refl _,⟨fun b arr e=>by
  obtain⟨cur,T,fz,h1,h2⟩:=hk.ato b arr e;exact⟨cur,T,fz,by rw[hb.block b (hk.lt e)];exact h1,h2⟩,hk.gk⟩,fun _ _ e => .inl e,
  ⟨fun k b e=>by simp[a2q]at e,fun k k' b b' _ _ _ e=>by simp[a2q]at e,fun k b _ _ e=>by simp[a2q]at e⟩,fun k _=>hfr k (zero_le _),ho,
  ⟨hb.os,hb.tape,hb.output,hb.size,fun b h _=>hb.block b h⟩,fun x hx=>by
   obtain⟨k,b,y,e,_⟩:=hx;simp[a2q]at e,BLe.refl _,Nat.le_refl _⟩
theorem b6b {f:Nat} (hf:e0F Tryz.prog f) {A R:Ty} {ok:Den A->Bool} {g:Den A->Den R}
 (h:∀(x:Den A),ok x=true->∀(vs:Array Value) (β:Bt) (K:Ks) (w:World),KOK K w->All2 (WR β K) (a5F A x) vs.toList->Calls Tryz.prog f vs w fun e w'=>∃v,e = .returned v /\ a7b β K (a5F R (g x)) v /\ Below w.heap.size w w') :
 a0d Tryz.prog (f,a0b A R ok g):=by
 refine⟨?_,hf⟩;intro args ins rs outs hrun β0 K0 w0 vs hk hm hfr hv;cases ins with
 |cons _ _=>simp[a0b]at hrun
 | nil =>
   simp only[a0b]at hrun;split at hrun
   ·rename_i x hx;simp only[Option.some.injEq,Prod.mk.injEq]at hrun;obtain⟨hok,rfl,rfl⟩:=hrun;refine(h x hok vs β0 K0 w0 hk (a5R hx hv)).mono ?_;rintro e w' ⟨v,rfl,ho,hb⟩;exact⟨v,β0,K0,rfl,c4I hk hfr hb ho⟩
   ·cases hrun
theorem d2c {β:Bt} {K:Ks} {a:W} {vs:Array Value} (h:All2 (WR β K) [a] vs.toList):∃v,vs=#[v] /\ WR β K a v:=by
 rcases vs with⟨l⟩
 cases l with
 |nil=>exact h.elim
 | cons v r=>cases r with
   |nil=>exact⟨v,rfl,h.1⟩
   |cons _ _=>exact h.2.elim
theorem b1R {β:Bt} {K:Ks} {a b:W} {vs:Array Value} (h:All2 (WR β K) [a,b] vs.toList):∃v u,vs=#[v,u] /\ WR β K a v /\ WR β K b u:=by
 rcases vs with⟨l⟩
 cases l with
 |nil=>exact h.elim
 | cons v r=>cases r with
   |nil=>exact h.2.elim
   | cons u r=>cases r with
     |nil=>exact⟨v,u,rfl,h.1,h.2.1⟩
     |cons _ _=>exact h.2.2.elim
theorem c4J {K:Ks} {w:World} (h:KOK K w):∃m:Int,(∃T fz,w.heap[1]?=some (.cells #[.int .i64 m] T fz)) /\ ∃T fz,w.heap[2]?=some (.cells ((List.range 20).map fun i=>Value.int .u64 ((10^i:Nat):Int)).toArray T fz):=by
 obtain⟨m,hm⟩:=h.gk;refine⟨m,?_,?_⟩
 ·obtain⟨cur,T,fz,h1,h2,_⟩:=h.ato 1 _ (hm (1,#[.int .i64 m]) (List.mem_cons_self ..));have:=h2 rfl;subst this;exact⟨T,fz,h1⟩
 ·obtain⟨cur,T,fz,h1,h2,_⟩:=h.ato 2 _ (hm (2,_) (List.mem_cons_of_mem _ (List.mem_cons_self ..)));have:=h2 rfl;subst this;exact⟨T,fz,h1⟩
theorem e7p {K:Ks} {w:World} (h:KOK K w):Lib.TabIs Tryz.prog w "internal/strconv.uint64pow10" .u64 Lib.pow10Tab:=by
 obtain⟨m,_,T,fz,h2⟩:=c4J h
 unfold Lib.TabIs World.var?
 rw[show Tryz.prog.globalNamed "internal/strconv.uint64pow10" = some 2 by kernel_rfl]
 simp only[Option.bind_some,h2,Lib.pow10Tab,List.map_map]
 rfl
theorem c4K {K:Ks} {w:World} (h:KOK K w):∃m,w.cell? ⟨1,0,none⟩=some (.int .i64 m):=by
 obtain⟨m,⟨T,fz,h1⟩,_⟩:=c4J h;exact⟨m,by simp[World.cell?,h1]⟩
abbrev A65:Ty := .cons (.int .i64) (.nil)
abbrev R65:Ty := .cons .str (.nil)
def K65 (x:Den A65):Bool:=decide ((-9223372036854775808:Int)<=x.1)&&decide ((x.1:Int)<=9223372036854775807)
def G65 (x:Den A65):Den R65:=(⟨(Lib.itoa x.1).toArray⟩,())
def m65:=(65,a0b A65 R65 K65 G65)
theorem f7Z:a0d Tryz.prog (65,a0b A65 R65 K65 G65):=
 b6b ⟨_,Tryz.func65,by kernel_rfl,by kernel_rfl⟩ fun x hok vs β K w hk hv=>by
  obtain⟨n,_⟩:=x;obtain⟨v,rfl,hv1⟩:=d2c hv;have hv1:v = .int .i64 n:=hv1;subst hv1;simp only[K65,Bool.and_eq_true,decide_eq_true_eq]at hok;refine(Tryz.strconv_Itoa n hok.1 hok.2 w (e7p hk)).mono ?_;rintro e w' ⟨rfl,k,os,rfl⟩;exact⟨_,rfl,rfl,⟨rfl,rfl,rfl,by simp[Go.Sort.grow],fun b hb=>by simp[Go.Sort.grow,Array.getElem?_append,hb]⟩⟩
abbrev f4E:Ty := .cons .str (.cons (.int .u8) (.nil))
abbrev f8a:Ty := .cons (.int .i64) (.nil)
def e1u (x:Den f4E):Bool:=true
def a5x (x:Den f4E):Den f8a:=(Lib.indexByte (x.1:ByteArray).data.toList (x.2.1:Int).toNat.toUInt8,())
def g9g:=(235,a0b f4E f8a e1u a5x)
theorem e7q:a0d Tryz.prog (235,a0b f4E f8a e1u a5x):=
 b6b ⟨_,Tryz.func235,by kernel_rfl,by kernel_rfl⟩ fun x hok vs β K w hk hv=>by
  obtain⟨s,c,_⟩:=x;obtain⟨v,u,rfl,hv1,hu⟩:=b1R hv;have hv1:v = .string s:=hv1;have hu:u = .int .u8 c:=hu;subst hv1;subst hu;refine(Tryz.strings_IndexByte s c w).mono ?_;rintro e w' ⟨rfl,rfl⟩;exact⟨_,rfl,rfl,Below.refl _ _⟩
abbrev A60:Ty := .cons (.slice .str) (.cons .str (.nil))
abbrev R60:Ty := .cons .str (.nil)
def b6c (l:List ByteArray) (sep:ByteArray):List UInt8:=Lib.join (l.map (·.data.toList)) sep.data.toList
def K60 (x:Den A60):Bool:=decide ((x.1:List ByteArray).length<=140737488355328)&&decide ((b6c x.1 x.2.1).length<=140737488355328)
def G60 (x:Den A60):Den R60:=(⟨(b6c x.1 x.2.1).toArray⟩,())
def m60:=(60,a0b A60 R60 K60 G60)
theorem f8b:a0d Tryz.prog (60,a0b A60 R60 K60 G60):=
 b6b ⟨_,Tryz.func60,by kernel_rfl,by kernel_rfl⟩ fun x hok vs β K w hk hv=>by
  obtain⟨l,sep,_⟩:=x;obtain⟨v,u,rfl,hv1,hu⟩:=b1R hv;have hu:u = .string sep:=hu;subst hu;obtain⟨a,n,c,e,hn,hc,hr⟩:=(show DR K (.slice .str) l [v]from hv1);have e:v = .slice a n c:=by simpa using e
  subst e;simp only[K60,Bool.and_eq_true,decide_eq_true_eq]at hok;have hl:n=length (α:=ByteArray) l:=hn;have key:∀(l:List ByteArray),n=l.length->l.length<=140737488355328->(b6c l sep).length<=140737488355328 ->
   (n=0∨∃b o arr,a=some ⟨b,o,none⟩ /\ K b=some (false,arr) /\ ∀i (h:i<l.length),DR K .str l[i] (sub arr.toList (o+i*1) 1)) ->
   Calls Tryz.prog 60 #[.slice a n c,.string sep] w fun e w'=>∃v,e = .returned v /\ a7b β K (a5F R60 (⟨(b6c l sep).toArray⟩,())) v /\ Below w.heap.size w w':=by
   intro l hl h1 h2 hr;by_cases h0:n=0
   ·subst h0;have:l=[]:=by
     cases l with
     |nil=>rfl
     |cons _ _=>simp at hl
    subst this;refine(Tryz.strings_Join_none a c sep w).mono ?_;rintro e w' ⟨rfl,rfl⟩;exact⟨_,rfl,rfl,Below.refl _ _⟩
   ·obtain⟨b,o,arr,rfl,hb,hi⟩:=hr.resolve_left h0;obtain⟨cur,T,fz,hh,hcur,_⟩:=hk.ato b _ hb;have hcur:=hcur rfl;subst hcur;subst hl;refine(Tryz.strings_Join b o c l sep w ?_ (hk.lt hb) h1 hc h2).mono ?_
    ·intro j x hj;obtain⟨hjl,hx⟩:=List.getElem?_eq_some_iff.1 hj;have h3:=hi j hjl;have h3:sub cur.toList (o+j*1) 1=[.string l[j]]:=h3;rw[hx]at h3;unfold sub at h3;rw[Nat.mul_one]at h3;simp only[World.cell?,hh,Option.isSome_none,Bool.false_eq_true,if_false];have:(cur.toList.drop (o+j))[0]?=some (.string x):=by
      have:=congrArg (fun l=>l[0]?) h3;simpa[List.getElem?_take]using this
     rw[List.getElem?_drop,Nat.add_zero,Array.getElem?_toList]at this;exact this
    ·rintro e w' ⟨rfl,hbl⟩;exact⟨_,rfl,rfl,hbl⟩
  exact key l hl hok.1 hok.2 hr
abbrev A48:Ty := .cons .str (.cons .str (.nil))
abbrev R48:Ty := .cons (.slice .str) (.nil)
def a4c (s sep:ByteArray):List ByteArray:=Lib.splitB sep 0 (Lib.countB s sep) s
def K48 (x:Den A48):Bool:=decide ((x.1:ByteArray).size<4294967281)&&decide (1<=(x.2.1:ByteArray).size)
def G48 (x:Den A48):Den R48:=(a4c x.1 x.2.1,())
def m48:=(48,a0b A48 R48 K48 G48)
theorem f8c:a0d Tryz.prog (48,a0b A48 R48 K48 G48):=by
 refine⟨?_,⟨_,Tryz.func48,by kernel_rfl,by kernel_rfl⟩⟩;intro args ins rs outs hrun β0 K0 w0 vs hk hm hfr hv;cases ins with
 |cons _ _=>simp[a0b]at hrun
 | nil =>
   simp only[a0b]at hrun;split at hrun
   case h_2=>cases hrun
   rename_i x hx;simp only[Option.some.injEq,Prod.mk.injEq]at hrun;obtain⟨hok,rfl,rfl⟩:=hrun;have hv:=a5R hx hv;obtain⟨s,sep,_⟩:=x;obtain⟨v,u,rfl,hv1,hu⟩:=b1R hv;have hv1:v = .string s:=hv1;have hu:u = .string sep:=hu;subst hv1;subst hu;simp only[K48,Bool.and_eq_true,decide_eq_true_eq]at hok;obtain⟨m,hm1⟩:=c4K hk;refine(Tryz.strings_Split s sep m w0 hok.1 hm1 hok.2).mono ?_;rintro e w' ⟨rfl,rfl⟩;have hlen:(a4c s sep).length=Lib.countB s sep+1:=Lib.splitB_all sep hok.2 0 _ s rfl;have hnone:∀arr,K0 w0.heap.size=some arr->False:=fun arr e=>Nat.lt_irrefl _ (hk.lt e)
   let arr:Array Value:=((a4c s sep).map Value.string).toArray
   refine⟨_,β0,fun b=>if b=w0.heap.size then some (false,arr)else K0 b,rfl,⟨?_,⟨?_,?_⟩,?_,⟨fun k b e=>by simp[a2q]at e,fun k k' b b' _ _ _ e=>by simp[a2q]at e,fun k b _ _ e=>by simp[a2q]at e⟩,fun k _=>hfr k (zero_le _),?_,Fr.alloc _ _ _,fun x hx=>by
    obtain⟨k,b,y,e,_⟩:=hx;simp[a2q]at e,BLe.refl _,Nat.le_refl _⟩⟩
   ·intro b a e;show(if b=w0.heap.size then some (false,arr)else K0 b)=_;rw[if_neg (by rintro rfl;exact hnone _ e)];exact e
   ·intro b a e;split at e
    ·rename_i hb;cases e;subst hb;exact⟨_,9,(0,0),a1G _ _,fun _=>rfl,fun h=>by cases h⟩
    ·exact(hk.alloc _).ato b a e
   ·refine GK.mono (K:=K0) (fun b a e=>?_) hk.gk;show(if b=w0.heap.size then some (false,arr)else K0 b)=_;rw[if_neg (by rintro rfl;exact hnone _ e)];exact e
   ·intro b a e;split at e
    ·rename_i hb;right;right;rw[hb];exact Nat.le_refl _
    ·exact .inl e
   ·show DR _ (.slice .str) (a4c s sep) [_];refine⟨_,_,_,rfl,hlen.symm,Nat.le_refl _,.inr ⟨w0.heap.size,0,arr,rfl,if_pos rfl,fun i hi=>?_⟩⟩;show sub arr.toList (0+i*1) 1=[.string (a4c s sep)[i]];have hi:i<(a4c s sep).length:=hi;unfold sub;rw[Nat.mul_one,Nat.zero_add];simp only[arr];rw[List.drop_eq_getElem_cons (by simpa using hi)];simp
open Go Go.Proofs
abbrev A62:Ty := .cons (.flt .f64) (.nil)
abbrev R62:Ty := .cons (.flt .f64) (.nil)
noncomputable def N62:a7H:=mkN [(120,a5H (.cons (.flt .f64) .nil) (.cons (.int .u64) .nil) c4H d2a (fun z x=>((((bif a1w .f64 x.1 then z.1 else x.1:Nat):Int)),()))),(121,a5H (.cons (.int .u64) .nil) (.cons (.flt .f64) .nil) Unit ⟨()⟩ (fun _ x=>((x.1:Int).toNat,())))] []
noncomputable def f8d:Env:=a7Z tab eqs [] 32 [.tmp 2] [] [] [] [] []
def rE (n:Int):Int:=a1X .and .u64 (Int.fdiv n (2^min (toNat 52) (IntKind.bits .u64))) 2047
noncomputable def rR (n:Int) (h:Nat->Option Unit):Option Unit:=
 bif decide (rE n<1023)then
  bif rE n==1022 then
   a3a fun(_:Unit)=>h (toNat (a1X .or .u64 (a1X .and .u64 n 9223372036854775808) 4607182418800017408))
  else a3a fun(_:Unit)=>h (toNat (a1X .and .u64 n 9223372036854775808))
 else bif decide (rE n<1075)then
  let v0:=wrap .u64 (rE n-1023)
  bif decide (0<=v0)then
   bif decide (0<=v0)then
    a3a fun(_:Unit)=>h (toNat (a1X .andNot .u64 (wrap .u64 (n+Int.fdiv 2251799813685248 (2^min (toNat v0) (IntKind.bits .u64)))) (Int.fdiv 4503599627370495 (2^min (toNat v0) (IntKind.bits .u64)))))
   else none
  else none
 else a3a fun(_:Unit)=>h (toNat n)
theorem f8e (h:Den R62->Option Unit) (x:Den A62):a5u f8d N62 (a0x Tryz.f62) (a5v R62 h) (a5F A62 x) [] =
 a3a fun(z:c4H)=>rR (((bif a1w FloatKind.f64 x.fst then z.1 else x.fst:Nat):Int)) (fun y=>h (y,())):=by kernel_rfl
def a1x (n:Int):Nat:=
 bif decide (rE n<1023)then
  bif rE n==1022 then toNat (a1X .or .u64 (a1X .and .u64 n 9223372036854775808) 4607182418800017408)
  else toNat (a1X .and .u64 n 9223372036854775808)
 else bif decide (rE n<1075)then
  toNat (a1X .andNot .u64 (wrap .u64 (n+Int.fdiv 2251799813685248 (2^min (toNat (wrap .u64 (rE n-1023))) (IntKind.bits .u64)))) (Int.fdiv 4503599627370495 (2^min (toNat (wrap .u64 (rE n-1023))) (IntKind.bits .u64))))
 else toNat n
theorem b6d (n:Int):0<=wrap .u64 n:=by rw[IntKind.wrap_u64];omega
theorem f8f (n:Int) (h:Nat->Option Unit) (hh:h (a1x n)=some ()):rR n h=some ():=by
 unfold rR;unfold a1x at hh;cases h1:decide (rE n<1023)with
 | true =>
   rw[h1]at hh;cases h2:rE n==1022 with
   |true=>rw[h2]at hh;exact a0l fun _=>hh
   |false=>rw[h2]at hh;exact a0l fun _=>hh
 | false =>
   rw[h1]at hh;cases h2:decide (rE n<1075)with
   | true =>
     rw[h2]at hh;simp only[b6d,decide_true,cond_true];exact a0l fun _=>hh
   |false=>rw[h2]at hh;exact a0l fun _=>hh
theorem b8u (b:Nat):rE (b:Int)=((b/2^52%2048:Nat):Int):=by
 unfold rE;have e1:Int.fdiv (b:Int) (2^min (toNat 52) (IntKind.bits .u64))=((b/2^52:Nat):Int):=by
  have e:min (toNat 52) (IntKind.bits .u64)=52:=by decide
  rw[e,Int.fdiv_eq_ediv_of_nonneg _ (by decide)];rfl
 rw[e1];show IntKind.u64.wrap (((BitVec.ofInt 64 ((b/2^52:Nat):Int) &&& BitVec.ofInt 64 2047).toNat:Nat):Int)=_;rw[BitVec.toNat_and];have hx:(BitVec.ofInt 64 ((b/2^52:Nat):Int)).toNat=b/2^52%2^64:=by
  rw[BitVec.toNat_ofInt];omega
 have h7:(BitVec.ofInt 64 2047).toNat=2^11-1:=by decide
 rw[hx,h7,Nat.and_two_pow_sub_one_eq_mod,IntKind.wrap_u64];omega
theorem e7r {b:Nat} (h:a1w .f64 b=true):rE (b:Int)=2047:=by
 rw[b8u];rw[a3T]at h;have h2:FloatKind.f64.format.signWeight=2^63:=by decide
 have h3:FloatKind.f64.format.infRung=2047*2^52:=by decide
 rw[h2,h3]at h;omega
def K62 (x:Den A62):Bool:=true
def G62 (x:Den A62):Den R62:=(a1x ((x.1:Nat):Int),())
theorem f8g:a1g Tryz.prog f8d:=a4E mixed a4W a4F .nil
theorem g9h:a5s Tryz.prog 62 f8d (a0x Tryz.f62):=a1n Tryz.func62 rfl rfl rfl (by kernel_rfl) (a1E (by kernel_rfl))
def m62:=(62,a0b A62 R62 K62 G62)
theorem f8h:a0d Tryz.prog (62,a0b A62 R62 K62 G62):=
 a5V (N:=N62) f8g (a2m ⟨b8p d5C,a7I d5D,trivial⟩) g9h a1d (Q:=fun x y=>FEq .f64 (a1x ((x.1:Nat):Int)) y.1)
  (fun x y hq β K v hv=>by
   obtain⟨b,rfl,hb⟩:=hv;refine⟨b,rfl,?_⟩;have hb:FEq .f64 y.1 b:=hb;show FEq .f64 (a1x ((x.1:Nat):Int)) b;rcases hq with e|⟨h1,h2⟩
   ·rw[e];exact hb
   ·exact .inr ⟨h1,FEq.nan_left hb h2⟩)
  (fun x _ k hk=>by
   rw[f8e]
   haveI:=d2a
   refine a0l fun z=>f8f _ _ (hk _ ?_)
   cases hn:a1w .f64 x.1 with
   | true =>
     have key:∀b:Nat,a1w .f64 b=true->a1x (b:Int)=b:=fun b hb=>by
      unfold a1x;rw[e7r hb];rfl
     refine .inr ⟨by rw[key _ hn];exact hn,?_⟩;show a1w .f64 (a1x ((bif true then z.1 else x.1:Nat):Int))=true;rw[cond_true,key _ z.2];exact z.2
   |false=>exact .inl rfl)
abbrev e5H:Ty := .cons (.slice (.flt .f32)) (.nil)
abbrev e7s:Ty := .cons (.slice (.flt .f32)) (.nil)
noncomputable def e1v:Env:=a7Z tab eqs [] 8 [.tmp 2] [] [] [] [] [.nil 2,.frz 2]
theorem e7t (h:Den e7s->Option Unit) (x:Den e5H):a5u e1v (mkN [] []) (a0x Tryz.f199) (a5v e7s h) (a5F e5H x) [] =
 a3a fun(z:Bool)=>bif List.isEmpty x.1&&z then h ([],())else bif a0j (0+length x.1)then h (x.1,())else none:=by kernel_rfl
def e5I (x:Den e5H):Bool:=a0j (0+length x.1)
def e5J (x:Den e5H):Den e7s:=x
theorem e7u:a1g Tryz.prog e1v:=a4E mixed a4W a4F .nil
theorem f8i:a5s Tryz.prog 199 e1v (a0x Tryz.f199):=a1n Tryz.func199 rfl rfl rfl (by kernel_rfl) (a1E (by kernel_rfl))
def g9i:=(199,a0b e5H e7s e5I e5J)
theorem e7v:a0d Tryz.prog (199,a0b e5H e7s e5I e5J):=
 a5V (N:=mkN [] []) e7u (a2m trivial) f8i a1d (Q:=fun x y=>y=x) (fun x y hq β K v hv=>by rw[hq]at hv;exact hv)
  (fun x hx k hk=>by
   obtain⟨l,_⟩:=x;rw[e7t];refine a0l fun z=>?_
   have hk:=hk (l,()) rfl;have hx:a0j (0+length l)=true:=hx;cases l with
   |nil=>cases z<;>exact hk
   |cons a r=>dsimp only[List.isEmpty,Bool.false_and,cond_false];rw[hx];exact hk)
abbrev e5K:Ty := .cons (.slice (.int .i64)) (.nil)
abbrev e7w:Ty := .cons (.slice (.int .i64)) (.nil)
noncomputable def e1w:Env:=a7Z tab eqs [] 8 [.tmp 2] [] [] [] [] [.nil 2,.frz 2]
theorem e7x (h:Den e7w->Option Unit) (x:Den e5K):a5u e1w (mkN [] []) (a0x Tryz.f200) (a5v e7w h) (a5F e5K x) [] =
 a3a fun(z:Bool)=>bif List.isEmpty x.1&&z then h ([],())else bif a0j (0+length x.1)then h (x.1,())else none:=by kernel_rfl
def e5L (x:Den e5K):Bool:=a0j (0+length x.1)
def e5M (x:Den e5K):Den e7w:=x
theorem e7y:a1g Tryz.prog e1w:=a4E mixed a4W a4F .nil
theorem f8j:a5s Tryz.prog 200 e1w (a0x Tryz.f200):=a1n Tryz.func200 rfl rfl rfl (by kernel_rfl) (a1E (by kernel_rfl))
def g9j:=(200,a0b e5K e7w e5L e5M)
theorem d5E:a0d Tryz.prog (200,a0b e5K e7w e5L e5M):=
 a5V (N:=mkN [] []) e7y (a2m trivial) f8j a1d (Q:=fun x y=>y=x) (fun x y hq β K v hv=>by rw[hq]at hv;exact hv)
  (fun x hx k hk=>by
   obtain⟨l,_⟩:=x;rw[e7x];refine a0l fun z=>?_
   have hk:=hk (l,()) rfl;have hx:a0j (0+length l)=true:=hx;cases l with
   |nil=>cases z<;>exact hk
   |cons a r=>dsimp only[List.isEmpty,Bool.false_and,cond_false];rw[hx];exact hk)
abbrev e5N:Ty := .cons (.slice (a1m)) (.nil)
abbrev e7z:Ty := .cons (.slice (a1m)) (.nil)
noncomputable def e1x:Env:=a7Z tab eqs [] 8 [.tmp 2] [] [] [] [] [.nil 2,.frz 2]
theorem e7A (h:Den e7z->Option Unit) (x:Den e5N):a5u e1x (mkN [] []) (a0x Tryz.f201) (a5v e7z h) (a5F e5N x) [] =
 a3a fun(z:Bool)=>bif List.isEmpty x.1&&z then h ([],())else bif a0j (0+length x.1)then h (x.1,())else none:=by kernel_rfl
def f4F (x:Den e5N):Bool:=a0j (0+length x.1)
def f4G (x:Den e5N):Den e7z:=x
theorem e7B:a1g Tryz.prog e1x:=a4E mixed a4W a4F .nil
theorem f8k:a5s Tryz.prog 201 e1x (a0x Tryz.f201):=a1n Tryz.func201 rfl rfl rfl (by kernel_rfl) (a1E (by kernel_rfl))
def m201:=(201,a0b e5N e7z f4F f4G)
theorem e7C:a0d Tryz.prog (201,a0b e5N e7z f4F f4G):=
 a5V (N:=mkN [] []) e7B (a2m trivial) f8k a1d (Q:=fun x y=>y=x) (fun x y hq β K v hv=>by rw[hq]at hv;exact hv)
  (fun x hx k hk=>by
   obtain⟨l,_⟩:=x;rw[e7A];refine a0l fun z=>?_
   have hk:=hk (l,()) rfl;have hx:a0j (0+length l)=true:=hx;cases l with
   |nil=>cases z<;>exact hk
   |cons a r=>dsimp only[List.isEmpty,Bool.false_and,cond_false];rw[hx];exact hk)
abbrev e5O:Ty := .cons (.slice (S68)) (.nil)
abbrev e7D:Ty := .cons (.slice (S68)) (.nil)
noncomputable def e1y:Env:=a7Z tab eqs [] 8 [.tmp 2] [] [] [] [] [.nil 2,.frz 2]
theorem e7E (h:Den e7D->Option Unit) (x:Den e5O):a5u e1y (mkN [] []) (a0x Tryz.f149) (a5v e7D h) (a5F e5O x) [] =
 a3a fun(z:Bool)=>bif List.isEmpty x.1&&z then h ([],())else bif a0j (0+length x.1)then h (x.1,())else none:=by kernel_rfl
def f4H (x:Den e5O):Bool:=a0j (0+length x.1)
def f4I (x:Den e5O):Den e7D:=x
theorem e7F:a1g Tryz.prog e1y:=a4E mixed a4W a4F .nil
theorem f8l:a5s Tryz.prog 149 e1y (a0x Tryz.f149):=a1n Tryz.func149 rfl rfl rfl (by kernel_rfl) (a1E (by kernel_rfl))
def m149:=(149,a0b e5O e7D f4H f4I)
theorem e7G:a0d Tryz.prog (149,a0b e5O e7D f4H f4I):=
 a5V (N:=mkN [] []) e7F (a2m trivial) f8l a1d (Q:=fun x y=>y=x) (fun x y hq β K v hv=>by rw[hq]at hv;exact hv)
  (fun x hx k hk=>by
   obtain⟨l,_⟩:=x;rw[e7E];refine a0l fun z=>?_
   have hk:=hk (l,()) rfl;have hx:a0j (0+length l)=true:=hx;cases l with
   |nil=>cases z<;>exact hk
   |cons a r=>dsimp only[List.isEmpty,Bool.false_and,cond_false];rw[hx];exact hk)
abbrev e5P:Ty := .cons (.slice (a2n)) (.nil)
abbrev e7H:Ty := .cons (.slice (a2n)) (.nil)
noncomputable def e1z:Env:=a7Z tab eqs [] 8 [.tmp 2] [] [] [] [] [.nil 2,.frz 2]
theorem e7I (h:Den e7H->Option Unit) (x:Den e5P):a5u e1z (mkN [] []) (a0x Tryz.f202) (a5v e7H h) (a5F e5P x) [] =
 a3a fun(z:Bool)=>bif List.isEmpty x.1&&z then h ([],())else bif a0j (0+length x.1)then h (x.1,())else none:=by kernel_rfl
def f4J (x:Den e5P):Bool:=a0j (0+length x.1)
def f4K (x:Den e5P):Den e7H:=x
theorem e7J:a1g Tryz.prog e1z:=a4E mixed a4W a4F .nil
theorem f8m:a5s Tryz.prog 202 e1z (a0x Tryz.f202):=a1n Tryz.func202 rfl rfl rfl (by kernel_rfl) (a1E (by kernel_rfl))
def m202:=(202,a0b e5P e7H f4J f4K)
theorem e7K:a0d Tryz.prog (202,a0b e5P e7H f4J f4K):=
 a5V (N:=mkN [] []) e7J (a2m trivial) f8m a1d (Q:=fun x y=>y=x) (fun x y hq β K v hv=>by rw[hq]at hv;exact hv)
  (fun x hx k hk=>by
   obtain⟨l,_⟩:=x;rw[e7I];refine a0l fun z=>?_
   have hk:=hk (l,()) rfl;have hx:a0j (0+length l)=true:=hx;cases l with
   |nil=>cases z<;>exact hk
   |cons a r=>dsimp only[List.isEmpty,Bool.false_and,cond_false];rw[hx];exact hk)
abbrev I85:Sg:=⟨[.val (.slice (S97))],[]⟩
abbrev O85:Sg:=⟨[.own (S97) 0],[.arr (S97)]⟩
noncomputable def f8n:Env:=a7Z tab eqs [] 8 [.tmp 2] [] [] [] [] [.nil 2]
theorem f8o (h:O85.den->Option Unit) (x:I85.den):a2T f8n (mkN [] []) (a0x Tryz.f85) I85 O85 h x =
 a3a fun(z:Bool)=>bif List.isEmpty x.1.1&&z then h (((),()),([],()))else bif a0j (0+length x.1.1)then h (((),()),(x.1.1,()))else none:=by kernel_rfl
def K85 (x:I85.den):Bool:=a0j (0+length x.1.1)
def G85 (x:I85.den):O85.den:=(((),()),(x.1.1,()))
theorem f8p:a1g Tryz.prog f8n:=a4E mixed a4W a4F .nil
theorem g9k:a5s Tryz.prog 85 f8n (a0x Tryz.f85):=a1n Tryz.func85 rfl rfl rfl (by kernel_rfl) (a1E (by kernel_rfl))
def m85:=(85,a0y false I85 O85 K85 G85)
theorem f8q:a0d Tryz.prog (85,a0y false I85 O85 K85 G85):=
 c4B (N:=mkN [] []) f8p (a2m trivial) g9k a1d
  (fun x hx k hk=>by
   obtain⟨⟨l,_⟩,_⟩:=x;rw[f8o];refine a0l fun z=>?_
   have hk:k (((),()),(l,()))=some ():=hk;have hx:a0j (0+length l)=true:=hx;cases l with
   |nil=>cases z<;>exact hk
   |cons a r=>dsimp only[List.isEmpty,Bool.false_and,cond_false];rw[hx];exact hk)
abbrev I86:Sg:=⟨[.val (.slice (.str))],[]⟩
abbrev O86:Sg:=⟨[.own (.str) 0],[.arr (.str)]⟩
noncomputable def f8r:Env:=a7Z tab eqs [] 8 [.tmp 2] [] [] [] [] [.nil 2]
theorem f8s (h:O86.den->Option Unit) (x:I86.den):a2T f8r (mkN [] []) (a0x Tryz.f86) I86 O86 h x =
 a3a fun(z:Bool)=>bif List.isEmpty x.1.1&&z then h (((),()),([],()))else bif a0j (0+length x.1.1)then h (((),()),(x.1.1,()))else none:=by kernel_rfl
def K86 (x:I86.den):Bool:=a0j (0+length x.1.1)
def G86 (x:I86.den):O86.den:=(((),()),(x.1.1,()))
theorem f8t:a1g Tryz.prog f8r:=a4E mixed a4W a4F .nil
theorem g9l:a5s Tryz.prog 86 f8r (a0x Tryz.f86):=a1n Tryz.func86 rfl rfl rfl (by kernel_rfl) (a1E (by kernel_rfl))
def m86:=(86,a0y false I86 O86 K86 G86)
theorem f8u:a0d Tryz.prog (86,a0y false I86 O86 K86 G86):=
 c4B (N:=mkN [] []) f8t (a2m trivial) g9l a1d
  (fun x hx k hk=>by
   obtain⟨⟨l,_⟩,_⟩:=x;rw[f8s];refine a0l fun z=>?_
   have hk:k (((),()),(l,()))=some ():=hk;have hx:a0j (0+length l)=true:=hx;cases l with
   |nil=>cases z<;>exact hk
   |cons a r=>dsimp only[List.isEmpty,Bool.false_and,cond_false];rw[hx];exact hk)
abbrev g5w:Ty:=.cons (.flt .f64) (.nil)
abbrev f8v:Ty:=.cons (.flt .f64) (.nil)
def e5Q (x:Den g5w):OD f8v:=bif flt .f64 x.1 0 then some (a3v .f64 x.1,())else some (x)
def f4L (x):=(e5Q x).isSome
def f4M (x):=(e5Q x).getD (zero f8v)
def g9m:=(165,a0b g5w f8v f4L f4M)
theorem e7L:a0d Tryz.prog g9m:=fnE nS Tryz.func165
abbrev A96:Ty:=.cons (.cpx .f64) (.nil)
abbrev R96:Ty:=.cons (.bool) (.nil)
def F96 (x:Den A96):OD R96:=bif f4L (x.1.1,()) then let a:=f4M (x.1.1,());bif flt .f64 a.1 4726483295884279808||feq .f64 a.1 4726483295884279808 then bif f4L (x.1.2,()) then let b:=f4M (x.1.2,());some (flt .f64 b.1 4726483295884279808||feq .f64 b.1 4726483295884279808,())else none else some (false,())else none
def K96 (x):=(F96 x).isSome
def G96 (x):=(F96 x).getD (zero R96)
def m96:=(96,a0b A96 R96 K96 G96)
theorem b6e:a0d Tryz.prog m96:=fnE (s1 e7L) Tryz.func96
abbrev A97:Ty:=.cons (.flt .f64) (.nil)
abbrev R97:Ty:=.cons (.int .i64) (.nil)
def F97 (x:Den A97):OD R97:=bif a6f .f64 x.1 IntKind.i64 then let b:=f2i .f64 x.1;let a:=a0a .sub .f64 x.1 (nearest .f64 b);bif fgt .f64 a 4602678819172646912||feq .f64 a 4602678819172646912 then bif flt .f64 a 13826050856027422720||feq .f64 a 13826050856027422720 then some (wrap .i64 ((wrap .i64 (b+1))-1),())else some (wrap .i64 (b+1),())else bif flt .f64 a 13826050856027422720||feq .f64 a 13826050856027422720 then some (wrap .i64 (b-1),())else some (b,())else none
def K97 (x):=(F97 x).isSome
def G97 (x):=(F97 x).getD (zero R97)
def m97:=(97,a0b A97 R97 K97 G97)
theorem f8w:a0d Tryz.prog m97:=fnE nS Tryz.func97
abbrev A51:Ty:=.cons (.int .i64) (.cons (.int .i64) (.cons (.int .i64) (.nil)))
abbrev R51:Ty:=.cons (.bool) (.nil)
def F51 (x:Den A51):OD R51:=bif decide (x.1 ≥ x.2.1) then some (decide (x.1<=x.2.2.1),())else some (false,())
def K51 (x):=(F51 x).isSome
def G51 (x):=(F51 x).getD (zero R51)
def m51:=(51,a0b A51 R51 K51 G51)
theorem a4u:a0d Tryz.prog m51:=fnE nS Tryz.func51
abbrev A98:Ty:=.cons (S33) (.nil)
abbrev R98:Ty:=.cons (.bool) (.nil)
def F98 (x:Den A98):OD R98:=bif K51 (x.1.1,-10000,10000,()) then bif (G51 (x.1.1,-10000,10000,())).1 then bif K51 (x.1.2.1,-10000,10000,()) then some (G51 (x.1.2.1,-10000,10000,()))else none else some (false,())else none
def K98 (x):=(F98 x).isSome
def G98 (x):=(F98 x).getD (zero R98)
def m98:=(98,a0b A98 R98 K98 G98)
theorem d2d:a0d Tryz.prog m98:=fnE (s1 a4u) Tryz.func98
abbrev A49:Ty:=.cons (.cpx .f64) (.nil)
abbrev R49:Ty:=.cons (S33) (.cons (.bool) (.nil))
def F49 (x:Den A49):OD R49:=bif K96 x then bif !(G96 x).1 then some ((0,0,()),false,())else bif K97 (x.1.1,()) then bif K97 (x.1.2,()) then let a:=G97 (x.1.1,());let b:=G97 (x.1.2,());bif K98 ((a.1,b),()) then bif !(G98 ((a.1,b),())).1 then some ((0,0,()),false,())else some ((a.1,b),true,())else none else none else none else none
def K49 (x):=(F49 x).isSome
def G49 (x):=(F49 x).getD (zero R49)
def m49:=(49,a0b A49 R49 K49 G49)
theorem d2e:a0d Tryz.prog m49:=fnE (s3 b6e f8w d2d) Tryz.func49
abbrev A99:Ty:=.cons (S27) (.nil)
abbrev R99:Ty:=.cons (.bool) (.nil)
abbrev b8v:Type:=b1Q×b8t
abbrev d5F:Type:=a4i×b8t
abbrev d5G:Type:=a5I
def d5H:LR:=⟨[1,5],[],4,[1],[],⟨[(1,om1),(5,om0)],b5w,1,0⟩,⟨[(1,om1)],b5w,1,0⟩,⟨a8Y,[],0,0⟩⟩
def b3C (f:b8v->Option (d5F⊕d5G)) (v:b8v):Option (d5F⊕d5G):=bif decide (v.1.2.1<(length v.2.1.2.1:Int)) then bif decide (0<=v.1.2.1)&&decide (v.1.2.1<(length v.2.1.2.1:Int)) then let a:=wrap .i64 (v.1.2.1-1);bif decide (0<=a)&&decide (a<(length v.2.1.2.1:Int)) then bif decide ((getD v.2.1.2.1 (toNat v.1.2.1) (zero (Ty.int IntKind.i64)))<=(getD v.2.1.2.1 (toNat a) (zero (Ty.int IntKind.i64)))) then some (Sum.inr ((false,()),()))else f ((((),wrap .i64 (v.1.2.1+1),()),v.2))else none else none else some (Sum.inl (((),()),v.2))
def c4L (v:b8v):Nat:=v.1.2.1.natAbs+v.2.1.1.length+v.2.1.2.1.length+v.2.1.2.2.1.length+1000
def b0s (v:b8v):=a0C b3C (c4L v) v
def c4M (v):=(b0s v).isSome
def c4N (v):=isR (b0s v)
def c4O (v):=xOf default (b0s v)
def c4P (v):=yOf default (b0s v)
abbrev d2f:Type:=d5A×b8t
abbrev e7M:Type:=b1Q×b8t
abbrev e7N:Type:=a5I
def e7O:LR:=⟨[1,3,4],[],2,[1,3],[],⟨[(1,om1),(3,om0),(4,om0)],b5w,1,0⟩,⟨li9,b5w,1,0⟩,⟨a8Y,[],0,0⟩⟩
def c4Q (f:d2f->Option (e7M⊕e7N)) (v:d2f):Option (e7M⊕e7N):=bif decide (0<=v.1.2.1)&&decide (v.1.2.1<(length v.2.1.2.2.1:Int)) then let a:=getD v.2.1.2.2.1 (toNat v.1.2.1) (zero (Ty.slice (Ty.flt .f32)));bif decide (v.1.2.2.1<(length a:Int)) then bif decide (0<=v.1.2.1)&&decide (v.1.2.1<(length v.2.1.2.2.1:Int)) then bif decide (0<=v.1.2.2.1)&&decide (v.1.2.2.1<(length a:Int)) then let b:=getD a (toNat v.1.2.2.1) (zero (Ty.flt .f32));bif fgt .f32 b 0||feq .f32 b 0 then bif decide (0<=v.1.2.1)&&decide (v.1.2.1<(length v.2.1.2.2.1:Int)) then bif decide (0<=v.1.2.2.1)&&decide (v.1.2.2.1<(length a:Int)) then bif !(flt .f32 b 1112014848||feq .f32 b 1112014848) then some (Sum.inr ((false,()),()))else f ((((),v.1.2.1,wrap .i64 (v.1.2.2.1+1),()),v.2))else none else none else some (Sum.inr ((false,()),()))else none else none else some (Sum.inl (((),v.1.2.1,()),v.2))else none
def e1A (v:d2f):Nat:=v.1.2.1.natAbs+v.1.2.2.1.natAbs+v.2.1.1.length+v.2.1.2.1.length+v.2.1.2.2.1.length+1000
def c2f (v:d2f):=a0C c4Q (e1A v) v
def b8w (v):=(c2f v).isSome
def b8x (v):=isR (c2f v)
def b3D (v):=xOf default (c2f v)
def b8y (v):=yOf default (c2f v)
abbrev d2g:Type:=b1Q×b8t
abbrev e1B:Type:=a4i×b8t
abbrev e1C:Type:=a5I
def e7P:LR:=⟨[1,3],[],0,[1],[],⟨li9,b5w,1,0⟩,⟨[(1,om1)],b5w,1,0⟩,⟨a8Y,[],0,0⟩⟩
def b1S (f:d2g->Option (e1B⊕e1C)) (v:d2g):Option (e1B⊕e1C):=let d:=(length v.2.1.1:Int);bif decide (v.1.2.1<d) then let e:=decide (0<=v.1.2.1)&&decide (v.1.2.1<d);bif e then let h:=zero (Ty.flt .f32);let a:=getD v.2.1.1 (toNat v.1.2.1) h;bif fgt .f32 a 0 then bif e then bif !(flt .f32 a 1120403456||feq .f32 a 1120403456) then some (Sum.inr ((false,()),()))else bif decide (v.1.2.1>0) then bif e then let g:=wrap .i64 (v.1.2.1-1);bif decide (0<=g)&&decide (g<d) then let i:=getD v.2.1.1 (toNat g) h;bif flt .f32 a i||feq .f32 a i then some (Sum.inr ((false,()),()))else bif decide (0<=v.1.2.1)&&decide (v.1.2.1<(length v.2.1.2.2.1:Int)) then bif (↑(length (getD v.2.1.2.2.1 (toNat v.1.2.1) (zero (Ty.slice (Ty.flt .f32))))):Int) != (length v.2.1.2.1:Int) then some (Sum.inr ((false,()),()))else let b:=(((),v.1.2.1,0,()),v.2);bif b8w b then bif b8x b then some (Sum.inr (b8y b))else let j:=b3D b;f ((((),wrap .i64 (j.1.2.1+1),()),j.2))else none else none else none else none else bif decide (0<=v.1.2.1)&&decide (v.1.2.1<(length v.2.1.2.2.1:Int)) then bif (↑(length (getD v.2.1.2.2.1 (toNat v.1.2.1) (zero (Ty.slice (Ty.flt .f32))))):Int) != (length v.2.1.2.1:Int) then some (Sum.inr ((false,()),()))else let c:=(((),v.1.2.1,0,()),v.2);bif b8w c then bif b8x c then some (Sum.inr (b8y c))else let k:=b3D c;f ((((),wrap .i64 (k.1.2.1+1),()),k.2))else none else none else none else some (Sum.inr ((false,()),()))else none else some (Sum.inl (((),()),v.2))
def e1D (v:d2g):Nat:=v.1.2.1.natAbs+v.2.1.1.length+v.2.1.2.1.length+v.2.1.2.2.1.length+1000
def c2g (v:d2g):=a0C b1S (e1D v) v
def d5I (v):=(c2g v).isSome
def d5J (v):=isR (c2g v)
def d5K (v):=xOf default (c2g v)
def d5L (v):=yOf default (c2g v)
def F99 (x:Den A99):OD R99:=bif K51 ((length x.1.1:Int),1,12,()) then bif !(G51 ((length x.1.1:Int),1,12,())).1 then some (false,())else bif K51 ((length x.1.2.1:Int),2,24,()) then bif !(G51 ((length x.1.2.1:Int),2,24,())).1 then some (false,())else bif (length x.1.2.2.1:Int) != (length x.1.1:Int) then some (false,())else bif d5I (((),0,()),x) then bif d5J (((),0,()),x) then some (d5L (((),0,()),x)).1 else let c:=d5K (((),0,()),x);bif c4M (((),1,()),c.2) then bif c4N (((),1,()),c.2) then some (c4P (((),1,()),c.2)).1 else let b:=c4O (((),1,()),c.2);bif decide (0<=0)&&decide (0<(length b.2.1.2.1:Int)) then bif (getD b.2.1.2.1 (toNat 0) (zero (Ty.int IntKind.i64)))==0 then let a:=wrap .i64 ((length b.2.1.2.1:Int)-1);bif decide (0<=a)&&decide (a<(length b.2.1.2.1:Int)) then some ((getD b.2.1.2.1 (toNat a) (zero (Ty.int IntKind.i64)))==180,())else none else some (false,())else none else none else none else none else none
def K99 (x):=(F99 x).isSome
def G99 (x):=(F99 x).getD (zero R99)
def m99:=(99,a0b A99 R99 K99 G99)
noncomputable def f8x:=gE [m51] Tryz.f99 (lps:=[(4,lmR e7P c2g),(9,lmR e7O c2f),(14,lmR d5H b0s)])
theorem e1E:EvR f8x (lp Tryz.f99 0) e7P b1S:=fun _ _=>by kernel_rfl
theorem e1F:EvR f8x (lp Tryz.f99 1) e7O c4Q:=fun _ _=>by kernel_rfl
theorem d2h:EvR f8x (lp Tryz.f99 2) d5H b3C:=fun _ _=>by kernel_rfl
theorem e7Q:a0d Tryz.prog m99:=a0w (a0z (s1 a4u)) (a1n Tryz.func99 rfl rfl rfl (by kernel_rfl) (a0f (by kernel_rfl) (s3 (lR e1E e1D) (lR e1F e1A) (lR d2h c4L)))) fun _=>by kernel_rfl
abbrev g5x:Ty:=.cons (.flt .f32) (.nil)
abbrev f8y:Ty:=.cons (.flt .f32) (.nil)
def e5R (x:Den g5x):OD f8y:=bif flt .f32 x.1 0 then some (a3v .f32 x.1,())else some (x)
def f4N (x):=(e5R x).isSome
def f4O (x):=(e5R x).getD (zero f8y)
def g9n:=(103,a0b g5x f8y f4N f4O)
theorem e7R:a0d Tryz.prog g9n:=fnE nS Tryz.func103
abbrev A52:Ty:=.cons (.cpx .f32) (.nil)
abbrev R52:Ty:=.cons (.bool) (.nil)
def F52 (x:Den A52):OD R52:=bif f4N (x.1.1,()) then let a:=f4O (x.1.1,());bif flt .f32 a.1 1120403456||feq .f32 a.1 1120403456 then bif f4N (x.1.2,()) then let b:=f4O (x.1.2,());some (flt .f32 b.1 1120403456||feq .f32 b.1 1120403456,())else none else some (false,())else none
def K52 (x):=(F52 x).isSome
def G52 (x):=(F52 x).getD (zero R52)
def m52:=(52,a0b A52 R52 K52 G52)
theorem b1T:a0d Tryz.prog m52:=fnE (s1 e7R) Tryz.func52
abbrev g5y:Ty:=.cons (a1m) (.nil)
abbrev f8z:Ty:=.cons (.bool) (.nil)
abbrev b8z:Type:=b1Q×f7V
abbrev d5M:Type:=a4i
abbrev d5N:Type:=a5I
def d5O:LR:=⟨[1,3],[],0,[],[],⟨li9,[(0,f7X)],1,0⟩,⟨[],[],0,0⟩,⟨a8Y,[],0,0⟩⟩
def b8A (f:b8z->Option (d5M⊕d5N)) (v:b8z):Option (d5M⊕d5N):=bif decide (v.1.2.1<13) then bif decide (0<=v.1.2.1)&&decide (v.1.2.1<(↑13:Int)) then let a:=getD [v.2.1.2.1,v.2.1.2.2.1,v.2.1.2.2.2.1,v.2.1.2.2.2.2.1,v.2.1.2.2.2.2.2.1,v.2.1.2.2.2.2.2.2.1,v.2.1.2.2.2.2.2.2.2.1,v.2.1.2.2.2.2.2.2.2.2.1,v.2.1.2.2.2.2.2.2.2.2.2.1,v.2.1.2.2.2.2.2.2.2.2.2.2.1,v.2.1.2.2.2.2.2.2.2.2.2.2.2.1,v.2.1.2.2.2.2.2.2.2.2.2.2.2.2.1,v.2.1.2.2.2.2.2.2.2.2.2.2.2.2.2.1] (toNat v.1.2.1) (0,0);bif K52 (a,()) then bif !(G52 (a,())).1 then some (Sum.inr ((false,()),()))else f ((((),wrap .i64 (v.1.2.1+1),()),v.2))else none else none else some (Sum.inl ((),()))
def c4R (v:b8z):Nat:=v.1.2.1.natAbs+1000
def b0t (v:b8z):=a0C b8A (c4R v) v
def c4S (v):=(b0t v).isSome
def c4T (v):=isR (b0t v)
def f8A (v):=xOf default (b0t v)
def c4U (v):=yOf default (b0t v)
def e5S (x:Den g5y):OD f8z:=let a:=(((),0,()),(x.1.1,x.1.2.1),());bif c4S a then bif c4T a then some (c4U a).1 else some (true,())else none
def e7S (x):=(e5S x).isSome
def e7T (x):=(e5S x).getD (zero f8z)
def g5z:=(166,a0b g5y f8z e7S e7T)
noncomputable def f8B:=gE [m52] Tryz.f166 (lps:=[(2,lmR d5O b0t)])
theorem d2i:EvR f8B (lp Tryz.f166 0) d5O b8A:=fun _ _=>by kernel_rfl
theorem d5P:a0d Tryz.prog g5z:=a0w (a0z (s1 b1T)) (a1n Tryz.func166 rfl rfl rfl (by kernel_rfl) (a0f (by kernel_rfl) (s1 (lR d2i c4R)))) fun _=>by kernel_rfl
abbrev g5A:Ty:=.cons (S30) (.nil)
abbrev f8C:Ty:=.cons (.bool) (.nil)
abbrev b8B:Type:=b1Q×b3A
abbrev d5Q:Type:=a4i
abbrev d5R:Type:=a5I
def d5S:LR:=⟨[1,4],[],2,[],[],⟨[(1,om1),(4,om0)],c2e,1,0⟩,⟨[],[],0,0⟩,⟨a8Y,[],0,0⟩⟩
def b3E (f:b8B->Option (d5Q⊕d5R)) (v:b8B):Option (d5Q⊕d5R):=bif decide (v.1.2.1<(length v.2.1.2.1:Int)) then bif decide (0<=v.1.2.1)&&decide (v.1.2.1<(length v.2.1.2.1:Int)) then let a:=getD v.2.1.2.1 (toNat v.1.2.1) (zero (Ty.int IntKind.i64));bif K51 (a,0,10000000,()) then bif !(G51 (a,0,10000000,())).1 then some (Sum.inr ((false,()),()))else bif decide (v.1.2.1>0) then bif decide (0<=v.1.2.1)&&decide (v.1.2.1<(length v.2.1.2.1:Int)) then let b:=wrap .i64 (v.1.2.1-1);bif decide (0<=b)&&decide (b<(length v.2.1.2.1:Int)) then bif decide (a<(wrap .i64 ((getD v.2.1.2.1 (toNat b) (zero (Ty.int IntKind.i64)))+21600))) then some (Sum.inr ((false,()),()))else f ((((),wrap .i64 (v.1.2.1+1),()),v.2))else none else none else f ((((),wrap .i64 (v.1.2.1+1),()),v.2))else none else none else some (Sum.inl ((),()))
def c4V (v:b8B):Nat:=v.1.2.1.natAbs+v.2.1.1.length+v.2.1.2.1.length+1000
def b0u (v:b8B):=a0C b3E (c4V v) v
def c4W (v):=(b0u v).isSome
def c4X (v):=isR (b0u v)
def f8D (v):=xOf default (b0u v)
def c4Y (v):=yOf default (b0u v)
abbrev b8C:Type:=b1Q×b3A
abbrev d5T:Type:=a4i×b3A
abbrev d5U:Type:=a5I
def d5V:LR:=⟨[1,3],[],0,[1],[],⟨li9,c2e,1,0⟩,⟨[(1,om1)],c2e,1,0⟩,⟨a8Y,[],0,0⟩⟩
def b3F (f:b8C->Option (d5T⊕d5U)) (v:b8C):Option (d5T⊕d5U):=bif decide (v.1.2.1<(length v.2.1.1:Int)) then bif decide (0<=v.1.2.1)&&decide (v.1.2.1<(length v.2.1.1:Int)) then let a:=getD v.2.1.1 (toNat v.1.2.1) (zero a1m);bif K96 (a.1,()) then bif !(G96 (a.1,())).1 then some (Sum.inr ((false,()),()))else bif decide (0<=v.1.2.1)&&decide (v.1.2.1<(length v.2.1.1:Int)) then bif e7S (a,()) then bif !(e7T (a,())).1 then some (Sum.inr ((false,()),()))else f ((((),wrap .i64 (v.1.2.1+1),()),v.2))else none else none else none else none else some (Sum.inl (((),()),v.2))
def c4Z (v:b8C):Nat:=v.1.2.1.natAbs+v.2.1.1.length+v.2.1.2.1.length+1000
def b0v (v:b8C):=a0C b3F (c4Z v) v
def c5a (v):=(b0v v).isSome
def c5b (v):=isR (b0v v)
def c5c (v):=xOf default (b0v v)
def c5d (v):=yOf default (b0v v)
def e5T (x:Den g5A):OD f8C:=let b:=((length x.1.1:Int),1,20,());bif K51 b then bif !(G51 b).1 then some (false,())else let c:=((length x.1.2.1:Int),1,60,());bif K51 c then bif !(G51 c).1 then some (false,())else bif c5a (((),0,()),x) then bif c5b (((),0,()),x) then some (c5d (((),0,()),x)).1 else let a:=c5c (((),0,()),x);bif c4W (((),0,()),a.2) then bif c4X (((),0,()),a.2) then some (c4Y (((),0,()),a.2)).1 else some (true,())else none else none else none else none
def e1G (x):=(e5T x).isSome
def e1H (x):=(e5T x).getD (zero f8C)
def f8E:=(100,a0b g5A f8C e1G e1H)
noncomputable def e7U:=gE [m51,m96,g5z] Tryz.f100 (lps:=[(4,lmR d5V b0v),(9,lmR d5S b0u)])
theorem d2j:EvR e7U (lp Tryz.f100 0) d5V b3F:=fun _ _=>by kernel_rfl
theorem d2k:EvR e7U (lp Tryz.f100 1) d5S b3E:=fun _ _=>by kernel_rfl
theorem c5e:a0d Tryz.prog f8E:=a0w (a0z (s3 a4u b6e d5P)) (a1n Tryz.func100 rfl rfl rfl (by kernel_rfl) (a0f (by kernel_rfl) (s2 (lR d2j c4Z) (lR d2k c4V)))) fun _=>by kernel_rfl
abbrev g5B:Ty:=.cons (.str) (.nil)
abbrev f8F:Ty:=.cons (.bool) (.nil)
abbrev b8D:Type:=e7i
abbrev d5W:Type:=d5B×Unit
abbrev d5X:Type:=a5I
def d5Y:LR:=⟨[0,3],[],0,[0],[],⟨[(0,om5),(3,om0)],[],0,0⟩,⟨[(0,om5)],[],0,0⟩,⟨a8Y,[],0,0⟩⟩
def b3G (f:b8D->Option (d5W⊕d5X)) (v:b8D):Option (d5W⊕d5X):=let a:=v.1.2.1<(ByteArray.size v.1.1:Int);bif decide a then let b:=decide (0<=v.1.2.1)&&decide a;bif b then bif decide (a0o v.1.1 v.1.2.1<97) then some (Sum.inr ((false,()),()))else bif b then bif decide (a0o v.1.1 v.1.2.1>122) then some (Sum.inr ((false,()),()))else f (((v.1.1,wrap .i64 (v.1.2.1+1),()),()))else none else none else some (Sum.inl ((v.1.1,()),()))
def c5f (v:b8D):Nat:=v.1.1.size+v.1.2.1.natAbs+1000
def b0w (v:b8D):=a0C b3G (c5f v) v
def c5g (v):=(b0w v).isSome
def c5h (v):=isR (b0w v)
def c5i (v):=xOf default (b0w v)
def c5j (v):=yOf default (b0w v)
def f4P (x:Den g5B):OD f8F:=bif c5g ((x.1,0,()),()) then bif c5h ((x.1,0,()),()) then some (c5j ((x.1,0,()),())).1 else let a:=c5i ((x.1,0,()),());let b:=((ByteArray.size a.1.1:Int),1,16,());bif K51 b then bif (G51 b).1 then some (!a0O a.1.1 { data:=#[110,111,110,101] },())else some (false,())else none else none
def f8G (x):=(f4P x).isSome
def f8H (x):=(f4P x).getD (zero f8F)
def g5C:=(167,a0b g5B f8F f8G f8H)
noncomputable def f8I:=gE [m51] Tryz.f167 (lps:=[(2,lmR d5Y b0w)])
theorem d2l:EvR f8I (lp Tryz.f167 0) d5Y b3G:=fun _ _=>by kernel_rfl
theorem e7V:a0d Tryz.prog g5C:=a0w (a0z (s1 a4u)) (a1n Tryz.func167 rfl rfl rfl (by kernel_rfl) (a0f (by kernel_rfl) (s1 (lR d2l c5f)))) fun _=>by kernel_rfl
abbrev g5D:Ty:=.cons (.slice (S68)) (.nil)
abbrev f8J:Ty:=.cons (.bool) (.nil)
abbrev b8E:Type:=(b1P×Int×b1Q)×(b3z×Nat×Nat×a5w)×Unit
abbrev d5Z:Type:=(b1P×ty6)×Unit
abbrev d6a:Type:=a5I
def d6b:LR:=⟨[0,3,4,5],[],2,[0,3],[],⟨[(0,om7),(3,om0),(4,om1),(5,om0)],[(0,.box [.str,.flt .f32,.flt .f32,.int .i64,.int .i64])],1,0⟩,⟨[(0,om7),(3,om0)],[],0,0⟩,⟨a8Y,[],0,0⟩⟩
def b3H (f:b8E->Option (d5Z⊕d6a)) (v:b8E):Option (d5Z⊕d6a):=bif decide (v.1.2.2.2.1<v.1.2.1) then bif decide (0<=v.1.2.2.2.1)&&decide (v.1.2.2.2.1<(length v.1.1:Int)) then bif a0O (getD v.1.1 (toNat v.1.2.2.2.1) (zero S68)).1 v.2.1.1 then some (Sum.inr ((false,()),()))else f (((v.1.1,v.1.2.1,(),wrap .i64 (v.1.2.2.2.1+1),()),v.2))else none else some (Sum.inl ((v.1.1,v.1.2.1,()),()))
def c5k (v:b8E):Nat:=v.1.1.length+v.1.2.1.natAbs+v.1.2.2.2.1.natAbs+v.2.1.1.size+v.2.1.2.2.2.1.natAbs+v.2.1.2.2.2.2.1.natAbs+1000
def a8Z (v:b8E):=a0C b3H (c5k v) v
def c5l (v):=(a8Z v).isSome
def c5m (v):=isR (a8Z v)
def c5n (v):=xOf default (a8Z v)
def c5o (v):=yOf default (a8Z v)
abbrev b8F:Type:=(b1P×ty6)×Unit
abbrev d6c:Type:=(b1P×Unit)×Unit
abbrev d6d:Type:=a5I
def d6e:LR:=⟨[0,3],[],0,[0],[],⟨[(0,om7),(3,om0)],[],0,0⟩,⟨[(0,om7)],[],0,0⟩,⟨a8Y,[],0,0⟩⟩
def b3I (f:b8F->Option (d6c⊕d6d)) (v:b8F):Option (d6c⊕d6d):=bif decide (v.1.2.1<(length v.1.1:Int)) then bif decide (0<=v.1.2.1)&&decide (v.1.2.1<(length v.1.1:Int)) then let a:=getD v.1.1 (toNat v.1.2.1) (zero S68);bif f8G (a.1,()) then bif !(f8H (a.1,())).1 then some (Sum.inr ((false,()),()))else bif fgt .f32 a.2.1 0||feq .f32 a.2.1 0 then bif fgt .f32 a.2.2.1 a.2.1 then bif !(flt .f32 a.2.2.1 1128792064||feq .f32 a.2.2.1 1128792064) then some (Sum.inr ((false,()),()))else bif K51 (a.2.2.2.1,0,180,()) then bif !(G51 (a.2.2.2.1,0,180,())).1 then some (Sum.inr ((false,()),()))else bif K51 (a.2.2.2.2.1,a.2.2.2.1,180,()) then bif !(G51 (a.2.2.2.2.1,a.2.2.2.1,180,())).1 then some (Sum.inr ((false,()),()))else bif c5l ((v.1.1,v.1.2.1,(),0,()),a,()) then bif c5m ((v.1.1,v.1.2.1,(),0,()),a,()) then some (Sum.inr (c5o ((v.1.1,v.1.2.1,(),0,()),a,())))else let b:=c5n ((v.1.1,v.1.2.1,(),0,()),a,());f (((b.1.1,wrap .i64 (b.1.2.1+1),()),()))else none else none else none else some (Sum.inr ((false,()),()))else some (Sum.inr ((false,()),()))else none else none else some (Sum.inl ((v.1.1,()),()))
def c5p (v:b8F):Nat:=v.1.1.length+v.1.2.1.natAbs+1000
def b0x (v:b8F):=a0C b3I (c5p v) v
def c5q (v):=(b0x v).isSome
def c5r (v):=isR (b0x v)
def c5s (v):=xOf default (b0x v)
def c5t (v):=yOf default (b0x v)
def f4Q (x:Den g5D):OD f8J:=bif c5q ((x.1,0,()),()) then bif c5r ((x.1,0,()),()) then some (c5t ((x.1,0,()),())).1 else some (decide ((↑(length (c5s ((x.1,0,()),())).1.1):Int)<=12),())else none
def d6f (x):=(f4Q x).isSome
def d6g (x):=(f4Q x).getD (zero f8J)
def g5E:=(101,a0b g5D f8J d6f d6g)
noncomputable def e7W:=gE [g5C,m51] Tryz.f101 (lps:=[(2,lmR d6e b0x),(8,lmR d6b a8Z)])
theorem d2m:EvR e7W (lp Tryz.f101 0) d6e b3I:=fun _ _=>by kernel_rfl
theorem d2n:EvR e7W (lp Tryz.f101 1) d6b b3H:=fun _ _=>by kernel_rfl
theorem c5u:a0d Tryz.prog g5E:=a0w (a0z (s2 e7V a4u)) (a1n Tryz.func101 rfl rfl rfl (by kernel_rfl) (a0f (by kernel_rfl) (s2 (lR d2m c5p) (lR d2n c5k)))) fun _=>by kernel_rfl
abbrev f8K:Ty:=.cons (S35) (.nil)
abbrev f8L:Ty:=.cons (.bool) (.nil)
def f4R (x:Den f8K):OD f8L:=bif K98 (x.1.1,()) then bif (G98 (x.1.1,())).1 then bif K98 x.1.2 then bif (G98 x.1.2).1 then some (!(x.1.1.1==x.1.2.1.1&&x.1.1.2.1==x.1.2.1.2.1),())else some (false,())else none else some (false,())else none
def f4S (x):=(f4R x).isSome
def f4T (x):=(f4R x).getD (zero f8L)
def g5F:=(168,a0b f8K f8L f4S f4T)
theorem e7X:a0d Tryz.prog g5F:=fnE (s1 d2d) Tryz.func168
abbrev g5G:Ty:=.cons (S38) (.cons (.int .i64) (.nil))
abbrev f8M:Ty:=.cons (S33) (.nil)
def e5U (x:Den g5G):OD f8M:=bif x.2.1==0 then some (x.1.1.1,())else let a:=wrap .i64 (x.2.1-1);bif decide (0<=a)&&decide (a<(length x.1.2.1:Int)) then some ((getD x.1.2.1 (toNat a) (zero a2n)).1,())else none
def f8N (x):=(e5U x).isSome
def f8O (x):=(e5U x).getD (zero f8M)
def g5H:=(169,a0b g5G f8M f8N f8O)
theorem e7Y:a0d Tryz.prog g5H:=fnE nS Tryz.func169
abbrev g5I:Ty:=.cons (S38) (.nil)
abbrev f8P:Ty:=.cons (.bool) (.nil)
abbrev b8G:Type:=b1Q×f4w×Unit
abbrev d6h:Type:=a4i
abbrev d6i:Type:=a5I
def d6j:LR:=⟨[1,3],[],0,[],[],⟨li9,[(0,g5r)],1,0⟩,⟨[],[],0,0⟩,⟨a8Y,[],0,0⟩⟩
def b3J (f:b8G->Option (d6h⊕d6i)) (v:b8G):Option (d6h⊕d6i):=let b:=v.1.2.1<(length v.2.1.2.2.2.2.1:Int);bif decide b then let c:=decide (0<=v.1.2.1)&&decide b;bif c then let a:=getD v.2.1.2.2.2.2.1 (toNat v.1.2.1) (zero a2n);bif K98 (a.1,()) then bif !(G98 (a.1,())).1 then some (Sum.inr ((false,()),()))else bif c then let d:=((((v.2.1.1,v.2.1.2.1,()),(v.2.1.2.2.1,v.2.1.2.2.2.1,()),()),v.2.1.2.2.2.2.1,((v.2.1.2.2.2.2.2.1,v.2.1.2.2.2.2.2.2.1,()),v.2.1.2.2.2.2.2.2.2,()),()),v.1.2);bif f8N d then let e:=f8O d;bif a.1.1==e.1.1&&a.1.2.1==e.1.2.1 then some (Sum.inr ((false,()),()))else f ((((),wrap .i64 (v.1.2.1+1),()),v.2))else none else none else none else none else some (Sum.inl ((),()))
def c5v (v:b8G):Nat:=v.1.2.1.natAbs+v.2.1.1.natAbs+v.2.1.2.1.natAbs+v.2.1.2.2.1.natAbs+v.2.1.2.2.2.1.natAbs+v.2.1.2.2.2.2.1.length+v.2.1.2.2.2.2.2.1.natAbs+v.2.1.2.2.2.2.2.2.1.natAbs+v.2.1.2.2.2.2.2.2.2.1.natAbs+v.2.1.2.2.2.2.2.2.2.2.1.natAbs+1000
def a9a (v:b8G):=a0C b3J (c5v v) v
def c5w (v):=(a9a v).isSome
def c5x (v):=isR (a9a v)
def f8Q (v):=xOf default (a9a v)
def c5y (v):=yOf default (a9a v)
def f4U (x:Den g5I):OD f8P:=bif f4S (x.1.1,()) then bif !(f4T (x.1.1,())).1 then some (false,())else bif f4S x.1.2.2 then bif !(f4T x.1.2.2).1 then some (false,())else let b:=((length x.1.2.1:Int),1,20,());bif K51 b then bif !(G51 b).1 then some (false,())else let a:=(((),0,()),(x.1.1.1.1,x.1.1.1.2.1,x.1.1.2.1.1,x.1.1.2.1.2.1,x.1.2.1,x.1.2.2.1.1.1,x.1.2.2.1.1.2.1,x.1.2.2.1.2.1),());bif c5w a then bif c5x a then some (c5y a).1 else some (true,())else none else none else none else none
def f8R (x):=(f4U x).isSome
def f8S (x):=(f4U x).getD (zero f8P)
def g9o:=(102,a0b g5I f8P f8R f8S)
noncomputable def f8T:=gE [g5F,m51,m98,g5H] Tryz.f102 (lps:=[(4,lmR d6j a9a)])
theorem d2o:EvR f8T (lp Tryz.f102 0) d6j b3J:=fun _ _=>by kernel_rfl
theorem e7Z:a0d Tryz.prog g9o:=a0w (a0z (s4 e7X a4u d2d e7Y)) (a1n Tryz.func102 rfl rfl rfl (by kernel_rfl) (a0f (by kernel_rfl) (s1 (lR d2o c5v)))) fun _=>by kernel_rfl
abbrev A50:Ty:=.cons (S40) (.nil)
abbrev R50:Ty:=.cons (.bool) (.nil)
def F50 (x:Den A50):OD R50:=bif K99 (x.1.1,()) then bif (G99 (x.1.1,())).1 then bif e1G (x.1.2.1,()) then bif (e1H (x.1.2.1,())).1 then bif d6f (x.1.2.2.1,()) then bif (d6g (x.1.2.2.1,())).1 then bif decide ((length x.1.2.2.1:Int)>0) then bif f8R x.1.2.2.2 then some (f8S x.1.2.2.2)else none else some (false,())else some (false,())else none else some (false,())else none else some (false,())else none
def K50 (x):=(F50 x).isSome
def G50 (x):=(F50 x).getD (zero R50)
def m50:=(50,a0b A50 R50 K50 G50)
theorem e8a:a0d Tryz.prog m50:=fnE (s4 e7Q c5e c5u e7Z) Tryz.func50
abbrev I80:Sg:=⟨[.val (S40)],[]⟩
abbrev O80:Sg:=⟨[.mix [.ref (.flt .f32) 0,.ref (.int .i64) 1,.ref (.slice (.flt .f32)) 2,.ref (a1m) 3,.ref (.int .i64) 4,.ref (S68) 5,.int .i64,.int .i64,.int .i64,.int .i64,.ref (a2n) 6,.int .i64,.int .i64,.int .i64,.int .i64]],[.arr (.flt .f32),.arr (.int .i64),.arr (.slice (.flt .f32)),.arr (a1m),.arr (.int .i64),.arr (S68),.arr (a2n)]⟩
abbrev c5z:Type:=d5z×g5o
abbrev e1I:Type:=a7l×g5o
def e8b:LX:=⟨[1,2,3,4],[.boxNil 3 2],0,[1,2,3],[],⟨[(1,om1),(2,om3),(3,om4),(4,om0)],li1,6,0⟩,⟨[(1,om1),(2,om3),(3,om4)],li1,6,0⟩⟩
def c5A (f:c5z->Option (e1I)) (v:c5z):Option (e1I):=let a:=v.1.2.2.2.1<(length v.2.1.2.2.1:Int);bif decide a then bif decide (0<=v.1.2.2.2.1)&&decide a then let b:=zero (Ty.slice (Ty.flt .f32));let c:=getD v.2.1.2.2.1 (toNat v.1.2.2.2.1) b;let d:=zero (Ty.flt .f32);bif a0j (length (replicate 0 d)+length c) then let e:=set (replicate 1 b) 0 (replicate 0 d++c);bif a0j (length v.2.2.2.2.2.2.1+length e) then f ((((),(),(),wrap .i64 (v.1.2.2.2.1+1),()),v.2.1,v.2.2.1,v.2.2.2.1,v.2.2.2.2.1,v.2.2.2.2.2.1,v.2.2.2.2.2.2.1++e,()))else none else none else none else some (((),(),(),()),v.2)
def d2p (v:c5z):Nat:=v.1.2.2.2.1.natAbs+v.2.1.1.length+v.2.1.2.1.length+v.2.1.2.2.1.length+v.2.1.2.2.2.1.length+v.2.1.2.2.2.2.1.length+v.2.1.2.2.2.2.2.1.length+v.2.1.2.2.2.2.2.2.1.natAbs+v.2.1.2.2.2.2.2.2.2.1.natAbs+v.2.1.2.2.2.2.2.2.2.2.1.natAbs+v.2.1.2.2.2.2.2.2.2.2.2.1.natAbs+v.2.1.2.2.2.2.2.2.2.2.2.2.1.length+v.2.1.2.2.2.2.2.2.2.2.2.2.2.1.natAbs+v.2.1.2.2.2.2.2.2.2.2.2.2.2.2.1.natAbs+v.2.1.2.2.2.2.2.2.2.2.2.2.2.2.2.1.natAbs+v.2.1.2.2.2.2.2.2.2.2.2.2.2.2.2.2.1.natAbs+v.2.2.1.2.2.2.2.2.2.1.natAbs+v.2.2.1.2.2.2.2.2.2.2.1.natAbs+v.2.2.1.2.2.2.2.2.2.2.2.1.natAbs+v.2.2.1.2.2.2.2.2.2.2.2.2.1.natAbs+v.2.2.1.2.2.2.2.2.2.2.2.2.2.2.1.natAbs+v.2.2.1.2.2.2.2.2.2.2.2.2.2.2.2.1.natAbs+v.2.2.1.2.2.2.2.2.2.2.2.2.2.2.2.2.1.natAbs+v.2.2.1.2.2.2.2.2.2.2.2.2.2.2.2.2.2.1.natAbs+v.2.2.2.1.2.2.2.2.2.2.1.natAbs+v.2.2.2.1.2.2.2.2.2.2.2.1.natAbs+v.2.2.2.1.2.2.2.2.2.2.2.2.1.natAbs+v.2.2.2.1.2.2.2.2.2.2.2.2.2.1.natAbs+v.2.2.2.1.2.2.2.2.2.2.2.2.2.2.2.1.natAbs+v.2.2.2.1.2.2.2.2.2.2.2.2.2.2.2.2.1.natAbs+v.2.2.2.1.2.2.2.2.2.2.2.2.2.2.2.2.2.1.natAbs+v.2.2.2.1.2.2.2.2.2.2.2.2.2.2.2.2.2.2.1.natAbs+v.2.2.2.2.1.length+v.2.2.2.2.2.1.length+v.2.2.2.2.2.2.1.length+1000
def c5B (v:c5z):=a0C c5A (d2p v) v
def b8H (v):=(c5B v).isSome
def b8I (v):=(c5B v).getD (((),((),((),()))),(([],([],([],([],([],([],(0,(0,(0,(0,([],(0,(0,(0,(0,()))))))))))))))),(((),((),((),((),((),((),(0,(0,(0,(0,((),(0,(0,(0,(0,()))))))))))))))),(((),((),((),((),((),((),(0,(0,(0,(0,((),(0,(0,(0,(0,()))))))))))))))),([],([],([],())))))))
def F80 (x:I80.den):Option (O80.den):=let c:=zero (Ty.flt .f32);bif a0j (length (replicate 0 c)+length x.1.1.1.1) then let b:=zero (Ty.int IntKind.i64);bif a0j (length (replicate 0 b)+length x.1.1.1.2.1) then let e:=replicate 0 c++x.1.1.1.1;let g:=replicate 0 b++x.1.1.1.2.1;let d:=(((),(),(),0,()),(x.1.1.1.1,x.1.1.1.2.1,x.1.1.1.2.2.1,x.1.1.2.1.1,x.1.1.2.1.2.1,x.1.1.2.2.1,x.1.1.2.2.2.1.1.1.1,x.1.1.2.2.2.1.1.1.2.1,x.1.1.2.2.2.1.1.2.1.1,x.1.1.2.2.2.1.1.2.1.2.1,x.1.1.2.2.2.1.2.1,x.1.1.2.2.2.1.2.2.1.1.1,x.1.1.2.2.2.1.2.2.1.1.2.1,x.1.1.2.2.2.1.2.2.1.2.1),((),(),(),(),(),(),0,0,0,0,(),0,0,0,0,()),((),(),(),(),(),(),x.1.1.2.2.2.1.1.1.1,x.1.1.2.2.2.1.1.1.2.1,x.1.1.2.2.2.1.1.2.1.1,x.1.1.2.2.2.1.1.2.1.2.1,(),x.1.1.2.2.2.1.2.2.1.1.1,x.1.1.2.2.2.1.2.2.1.1.2.1,x.1.1.2.2.2.1.2.2.1.2.1),e,g,[],());bif b8H d then let a:=b8I d;bif a0j (length (replicate 0 (zero a1m))+length a.2.1.2.2.2.1) then bif a0j (length (replicate 0 b)+length a.2.1.2.2.2.2.1) then bif a0j (length (replicate 0 (zero S68))+length a.2.1.2.2.2.2.2.1) then bif a0j (length (replicate 0 (zero a2n))+length a.2.1.2.2.2.2.2.2.2.2.2.2.1) then some ((a.2.2.2.1,()),a.2.2.2.2.1,a.2.2.2.2.2.1,a.2.2.2.2.2.2.1,replicate 0 (zero a1m)++a.2.1.2.2.2.1,replicate 0 b++a.2.1.2.2.2.2.1,replicate 0 (zero S68)++a.2.1.2.2.2.2.2.1,replicate 0 (zero a2n)++a.2.1.2.2.2.2.2.2.2.2.2.2.1,())else none else none else none else none else none else none else none
def K80 (x):=(F80 x).isSome
def G80 (x):=(F80 x).getD (a0R O80)
def m80:=(80,a0y false I80 O80 K80 G80)
noncomputable def g9p:=gE [] Tryz.f80 (lps:=[(5,lmX e8b c5B)])
theorem e1J:EvX g9p (lp Tryz.f80 0) e8b c5A:=fun _ _=>by kernel_rfl
theorem e8c:a0d Tryz.prog m80:=a4a (a0z nS) (a1n Tryz.func80 rfl rfl rfl (by kernel_rfl) (a0f (by kernel_rfl) (s1 (lX e1J d2p)))) false fun _=>by kernel_rfl
abbrev I32:Sg:=⟨[.val (S40),.val (.cpx .f64),.val (.int .i64)],[]⟩
abbrev O32:Sg:=⟨[.mix [.ref (.flt .f32) 0,.ref (.int .i64) 1,.ref (.slice (.flt .f32)) 2,.ref (a1m) 3,.ref (.int .i64) 4,.ref (S68) 5,.int .i64,.int .i64,.int .i64,.int .i64,.ref (a2n) 6,.int .i64,.int .i64,.int .i64,.int .i64,.int .i64,.cpx .f64,.int .i64,.cpx .f32,.int .i64,.sl (S97),.sl (.str)],.val (.bool)],[.arr (.flt .f32),.arr (.int .i64),.arr (.slice (.flt .f32)),.arr (a1m),.arr (.int .i64),.arr (S68),.arr (a2n)]⟩
def F32 (x:I32.den):Option (O32.den):=bif K49 (x.1.2.1,()) then bif K50 (x.1.1,()) then bif !(G50 (x.1.1,())).1 then some ((((),(),(),(),(),(),0,0,0,0,(),0,0,0,0,0,(0,0),0,(0,0),0,[],[],()),false,()),[],[],[],[],[],[],[],())else bif !(G49 (x.1.2.1,())).2.1 then some ((((),(),(),(),(),(),0,0,0,0,(),0,0,0,0,0,(0,0),0,(0,0),0,[],[],()),false,()),[],[],[],[],[],[],[],())else bif K51 (x.1.2.2.1,0,10000000,()) then bif !(G51 (x.1.2.2.1,0,10000000,())).1 then some ((((),(),(),(),(),(),0,0,0,0,(),0,0,0,0,0,(0,0),0,(0,0),0,[],[],()),false,()),[],[],[],[],[],[],[],())else bif K80 ((x.1.1,()),()) then let a:=G80 ((x.1.1,()),());some ((((),(),(),(),(),(),a.1.1.2.2.2.2.2.2.1,a.1.1.2.2.2.2.2.2.2.1,a.1.1.2.2.2.2.2.2.2.2.1,a.1.1.2.2.2.2.2.2.2.2.2.1,(),a.1.1.2.2.2.2.2.2.2.2.2.2.2.1,a.1.1.2.2.2.2.2.2.2.2.2.2.2.2.1,a.1.1.2.2.2.2.2.2.2.2.2.2.2.2.2.1,a.1.1.2.2.2.2.2.2.2.2.2.2.2.2.2.2.1,x.1.2.2.1,x.1.2.1,0,(0,0),-1,[],[],()),true,()),a.2)else none else none else none else none
def K32 (x):=(F32 x).isSome
def G32 (x):=(F32 x).getD (a0R O32)
def m32:=(32,a0y false I32 O32 K32 G32)
theorem f8U:a0d Tryz.prog m32:=sgE false (s4 d2e e8a a4u e8c) Tryz.func32 (rown:=[.boxNil 6 0,.boxNil 6 1,.boxNil 6 2,.boxNil 6 3,.boxNil 6 4,.boxNil 6 5,.boxNil 6 10])
abbrev g5J:Ty:=.cons (.int .i64) (.nil)
abbrev f8V:Ty:=.cons (.int .u8) (.nil)
def f4V (x:Den g5J):OD f8V:=bif decide (x.1<10) then some (wrap .u8 (wrap .i64 (48+x.1)),())else some (wrap .u8 (wrap .i64 ((wrap .i64 (97+x.1))-10)),())
def e8d (x):=(f4V x).isSome
def e8e (x):=(f4V x).getD (zero f8V)
def g5K:=(190,a0b g5J f8V e8d e8e)
theorem e8f:a0d Tryz.prog g5K:=fnE nS Tryz.func190
abbrev g5L:Ty:=.cons (.int .i64) (.nil)
abbrev f8W:Ty:=.cons (.str) (.nil)
abbrev b8J:Type:=(Int×Bool×d5B)×Unit
abbrev d6k:Type:=(Bool×d5B)×Unit
def d6l:LX:=⟨[0,3,4],[],0,[3,4],[],⟨[(0,om0),(3,om2),(4,om5)],[],0,0⟩,⟨[(3,om2),(4,om5)],[],0,0⟩⟩
def b8K (f:b8J->Option (d6k)) (v:b8J):Option (d6k):=bif v.1.1 != 0 then bif decide (Int.tmod v.1.1 10<0) then let a:=wrap .i64 (0-Int.tmod v.1.1 10);bif e8d (a,()) then let b:=a7C (set (replicate 1 (zero (Ty.int IntKind.u8))) 0 (e8e (a,())).1);bif decide (ByteArray.size b+ByteArray.size v.1.2.2.1<=9223372036854775807) then f (((wrap .i64 (Int.tdiv v.1.1 10),v.1.2.1,b++v.1.2.2.1,()),()))else none else none else bif e8d (Int.tmod v.1.1 10,()) then let c:=a7C (set (replicate 1 (zero (Ty.int IntKind.u8))) 0 (e8e (Int.tmod v.1.1 10,())).1);bif decide (ByteArray.size c+ByteArray.size v.1.2.2.1<=9223372036854775807) then f (((wrap .i64 (Int.tdiv v.1.1 10),v.1.2.1,c++v.1.2.2.1,()),()))else none else none else some (v.1.2,())
def c5C (v:b8J):Nat:=v.1.1.natAbs+v.1.2.2.1.size+1000
def b3K (v:b8J):=a0C b8K (c5C v) v
def c5D (v):=(b3K v).isSome
def c5E (v):=(b3K v).getD default
def f4W (x:Den g5L):OD f8W:=bif x.1==0 then some ({ data:=#[48] },())else let b:=((x.1,decide (x.1<0),{ data:=#[] },()),());bif c5D b then let a:=c5E b;bif a.1.1 then bif decide (ByteArray.size { data:=#[45] }+ByteArray.size a.1.2.1<=9223372036854775807) then some ({ data:=#[45] }++a.1.2.1,())else none else some a.1.2 else none
def b3L (x):=(f4W x).isSome
def a7m (x):=(f4W x).getD (zero f8W)
def g5M:=(130,a0b g5L f8W b3L a7m)
noncomputable def f8X:=gE [g5K] Tryz.f130 (lps:=[(5,lmX d6l b3K)])
theorem d2q:EvX f8X (lp Tryz.f130 0) d6l b8K:=fun _ _=>by kernel_rfl
theorem c5F:a0d Tryz.prog g5M:=a0w (a0z (s1 e8f)) (a1n Tryz.func130 rfl rfl rfl (by kernel_rfl) (a0f (by kernel_rfl) (s1 (lX d2q c5C)))) fun _=>by kernel_rfl
abbrev A83:Ty:=.cons (.int .i64) (.nil)
abbrev R83:Ty:=.cons (.str) (.nil)
def F83 (x:Den A83):OD R83:=bif K51 (x.1,-1000000000,1000000000,()) then bif !(G51 (x.1,-1000000000,1000000000,())).1 then some ({ data:=#[] },())else bif decide (x.1<0) then let c:=wrap .i64 (0-x.1);let g:=wrap .i64 (1000+Int.tmod c 1000);bif b3L (g,()) then let h:=wrap .i64 (Int.tdiv c 1000);bif b3L (h,()) then let d:=a7m (h,());bif decide (ByteArray.size { data:=#[45] }+ByteArray.size d.1<=9223372036854775807) then let a:={ data:=#[45] }++d.1;bif decide (ByteArray.size a+ByteArray.size { data:=#[46] }<=9223372036854775807) then let b:=a7m (g,());bif decide (0<=1)&&decide (1<=(ByteArray.size b.1:Int))&&decide ((ByteArray.size b.1:Int)<=(ByteArray.size b.1:Int)) then let e:=a++{ data:=#[46] };bif decide (ByteArray.size e+ByteArray.size (ByteArray.extract b.1 (toNat 1) (toNat (ByteArray.size b.1:Int)))<=9223372036854775807) then some (e++ByteArray.extract b.1 (toNat 1) (toNat (ByteArray.size b.1:Int)),())else none else none else none else none else none else none else let c:=wrap .i64 (1000+Int.tmod x.1 1000);bif b3L (c,()) then let i:=wrap .i64 (Int.tdiv x.1 1000);bif b3L (i,()) then let j:=a7m (i,());bif decide (ByteArray.size { data:=#[] }+ByteArray.size j.1<=9223372036854775807) then let d:={ data:=#[] }++j.1;bif decide (ByteArray.size d+ByteArray.size { data:=#[46] }<=9223372036854775807) then let a:=a7m (c,());bif decide (0<=1)&&decide (1<=(ByteArray.size a.1:Int))&&decide ((ByteArray.size a.1:Int)<=(ByteArray.size a.1:Int)) then let b:=d++{ data:=#[46] };bif decide (ByteArray.size b+ByteArray.size (ByteArray.extract a.1 (toNat 1) (toNat (ByteArray.size a.1:Int)))<=9223372036854775807) then some (b++ByteArray.extract a.1 (toNat 1) (toNat (ByteArray.size a.1:Int)),())else none else none else none else none else none else none else none
def K83 (x):=(F83 x).isSome
def G83 (x):=(F83 x).getD (zero R83)
def m83:=(83,a0b A83 R83 K83 G83)
theorem e1K:a0d Tryz.prog m83:=fnE (s2 a4u c5F) Tryz.func83
abbrev A53:Ty:=.cons (.slice (S97)) (.nil)
abbrev R53:Ty:=.cons (.bool) (.nil)
abbrev d2r:Type:=(d0P×ty6)×Unit
abbrev e8g:Type:=(d0P×Unit)×Unit
abbrev e8h:Type:=a5I
def e8i:LR:=⟨[0,3],[],0,[0],[],⟨[(0,e5F),(3,om0)],[],0,0⟩,⟨[(0,e5F)],[],0,0⟩,⟨a8Y,[],0,0⟩⟩
def c5G (f:d2r->Option (e8g⊕e8h)) (v:d2r):Option (e8g⊕e8h):=let b:=(length v.1.1:Int);bif decide (v.1.2.1<b) then let c:=decide (0<=v.1.2.1)&&decide (v.1.2.1<b);bif c then let a:=getD v.1.1 (toNat v.1.2.1) (zero S97);bif K98 (a.1,()) then bif !(G98 (a.1,())).1 then some (Sum.inr ((false,()),()))else bif c then bif K51 (a.2.1,0,10000000,()) then bif !(G51 (a.2.1,0,10000000,())).1 then some (Sum.inr ((false,()),()))else bif decide (v.1.2.1>0) then bif c then let d:=wrap .i64 (v.1.2.1-1);bif decide (0<=d)&&decide (d<b) then bif decide (a.2.1<=(getD v.1.1 (toNat d) (zero S97)).2.1) then some (Sum.inr ((false,()),()))else f (((v.1.1,wrap .i64 (v.1.2.1+1),()),()))else none else none else f (((v.1.1,wrap .i64 (v.1.2.1+1),()),()))else none else none else none else none else some (Sum.inl ((v.1.1,()),()))
def e1L (v:d2r):Nat:=v.1.1.length+v.1.2.1.natAbs+1000
def c2h (v:d2r):=a0C c5G (e1L v) v
def d6m (v):=(c2h v).isSome
def d6n (v):=isR (c2h v)
def d6o (v):=xOf default (c2h v)
def d6p (v):=yOf default (c2h v)
def F53 (x:Den A53):OD R53:=bif d6m ((x.1,0,()),()) then bif d6n ((x.1,0,()),()) then some (d6p ((x.1,0,()),())).1 else some (decide ((↑(length (d6o ((x.1,0,()),())).1.1):Int)<=200),())else none
def K53 (x):=(F53 x).isSome
def G53 (x):=(F53 x).getD (zero R53)
def m53:=(53,a0b A53 R53 K53 G53)
noncomputable def g9q:=gE [m98,m51] Tryz.f53 (lps:=[(2,lmR e8i c2h)])
theorem e1M:EvR g9q (lp Tryz.f53 0) e8i c5G:=fun _ _=>by kernel_rfl
theorem f8Y:a0d Tryz.prog m53:=a0w (a0z (s2 d2d a4u)) (a1n Tryz.func53 rfl rfl rfl (by kernel_rfl) (a0f (by kernel_rfl) (s1 (lR e1M e1L)))) fun _=>by kernel_rfl
abbrev g5N:Ty:=.cons (.cpx .f32) (.nil)
abbrev f8Z:Ty:=.cons (.cpx .f64) (.nil)
def f4X (x:Den g5N):OD f8Z:=some (((a0u .f32 .f64 x.1.1).2,(a0u .f32 .f64 x.1.2).2),())
def e8j (x):=(f4X x).isSome
def e8k (x):=(f4X x).getD (zero f8Z)
def g9r:=(219,a0b g5N f8Z e8j e8k)
theorem d6q:a0d Tryz.prog g9r:=fnE nS Tryz.func219
abbrev g5O:Ty:=.cons (.cpx .f64) (.cons (.cpx .f64) (.nil))
abbrev f9a:Ty:=.cons (.flt .f64) (.nil)
def e5V (x:Den g5O):OD f9a:=some (a0a .add .f64 (a0a .mul .f64 x.1.1 x.2.1.1) (a0a .mul .f64 x.1.2 x.2.1.2),())
def d2s (x):=(e5V x).isSome
def d0R (x):=(e5V x).getD (zero f9a)
def f9b:=(256,a0b g5O f9a d2s d0R)
theorem c5H:a0d Tryz.prog f9b:=fnE nS Tryz.func256
abbrev g5P:Ty:=.nil
abbrev f9c:Ty:=.cons (.cpx .f64) (.nil)
def f4Y (x:Den g5P):OD f9c:=some ((4607181046959943561,4580687535080594718),())
def e8l (x):=(f4Y x).isSome
def e8m (x):=(f4Y x).getD (zero f9c)
def f9d:=(217,a0b g5P f9c e8l e8m)
theorem d6r:a0d Tryz.prog f9d:=fnE nS Tryz.func217
abbrev g5Q:Ty:=.cons (.cpx .f64) (.cons (.cpx .f64) (.nil))
abbrev f9e:Ty:=.cons (.cpx .f64) (.nil)
def e8n (x:Den g5Q):OD f9e:=some ((a0a .sub .f64 (a0a .mul .f64 x.1.1 x.2.1.1) (a0a .mul .f64 x.1.2 x.2.1.2),a0a .add .f64 (a0a .mul .f64 x.1.1 x.2.1.2) (a0a .mul .f64 x.1.2 x.2.1.1)),())
def e8o (x):=(e8n x).isSome
def e8p (x):=(e8n x).getD (zero f9e)
def f9f:=(216,a0b g5Q f9e e8o e8p)
theorem d6s:a0d Tryz.prog f9f:=fnE nS Tryz.func216
abbrev g5R:Ty:=.cons (.cpx .f64) (.nil)
abbrev f9g:Ty:=.cons (.int .i64) (.nil)
abbrev b8L:Type:=(a4L×Int×a4L×d0Q)×Unit
abbrev d6t:Type:=c4G
def d6u:LX:=⟨[0,3,4,5,6],[],0,[3],[],⟨[(0,om6),(3,om0),(4,om6),(5,d1Z),(6,om0)],[],0,0⟩,⟨[(3,om0)],[],0,0⟩⟩
def b3M (f:b8L->Option (d6t)) (v:b8L):Option (d6t):=bif decide (v.1.2.2.2.2.1<360) then bif e8l () then let b:=e8m ();bif e8o (v.1.2.2.1,b) then let a:=e8p (v.1.2.2.1,b);bif d2s (v.1.1,a) then let c:=d0R (v.1.1,a);bif fgt .f64 c.1 v.1.2.2.2.1 then f (((v.1.1,v.1.2.2.2.2.1,a.1,c.1,wrap .i64 (v.1.2.2.2.2.1+1),()),()))else f (((v.1.1,v.1.2.1,a.1,v.1.2.2.2.1,wrap .i64 (v.1.2.2.2.2.1+1),()),()))else none else none else none else some ((v.1.2.1,()),())
def b8M (v:b8L):Nat:=v.1.2.1.natAbs+v.1.2.2.2.2.1.natAbs+1000
def b8N (v:b8L):=a0C b3M (b8M v) v
def c5I (v):=(b8N v).isSome
def c5J (v):=(b8N v).getD default
def e8q (x:Den g5R):OD f9g:=bif K96 x then bif !(G96 x).1 then some (-1,())else bif feq .f64 x.1.1 0&&feq .f64 x.1.2 0 then some (-1,())else bif d2s (x.1,(4607182418800017408,0),()) then let a:=d0R (x.1,(4607182418800017408,0),());bif c5I ((x.1,0,(4607182418800017408,0),a.1,1,()),()) then some (c5J ((x.1,0,(4607182418800017408,0),a.1,1,()),())).1 else none else none else none
def f9h (x):=(e8q x).isSome
def f9i (x):=(e8q x).getD (zero f9g)
def g9s:=(218,a0b g5R f9g f9h f9i)
noncomputable def f9j:=gE [m96,f9b,f9d,f9f] Tryz.f218 (lps:=[(7,lmX d6u b8N)])
theorem d2t:EvX f9j (lp Tryz.f218 0) d6u b3M:=fun _ _=>by kernel_rfl
theorem e8r:a0d Tryz.prog g9s:=a0w (a0z (s4 b6e c5H d6r d6s)) (a1n Tryz.func218 rfl rfl rfl (by kernel_rfl) (a0f (by kernel_rfl) (s1 (lX d2t b8M)))) fun _=>by kernel_rfl
abbrev g5S:Ty:=.cons (.cpx .f32) (.nil)
abbrev f9k:Ty:=.cons (.int .i64) (.nil)
def e8s (x:Den g5S):OD f9k:=bif K52 x then bif !(G52 x).1 then some (-1,())else bif feq .f32 x.1.1 0&&feq .f32 x.1.2 0 then some (-1,())else let a:=a3v .f32 x.1.1;let b:=a3v .f32 x.1.2;bif e8j ((a,b),()) then let c:=e8k ((a,b),());bif f9h c then some (f9i c)else none else none else none
def e5W (x):=(e8s x).isSome
def d2u (x):=(e8s x).getD (zero f9k)
def g9t:=(171,a0b g5S f9k e5W d2u)
theorem d6v:a0d Tryz.prog g9t:=fnE (s3 b1T d6q e8r) Tryz.func171
abbrev g5T:Ty:=.cons (.flt .f64) (.nil)
abbrev f9l:Ty:=.cons (.flt .f64) (.nil)
abbrev b8O:Type:=(Nat×d0Q)×Unit
abbrev d6w:Type:=(Nat×Unit)×Unit
def d6x:LX:=⟨[0,3,4],[],0,[3],[],⟨[(0,d1Z),(3,d1Z),(4,om0)],[],0,0⟩,⟨[(3,d1Z)],[],0,0⟩⟩
def b3N (f:b8O->Option (d6w)) (v:b8O):Option (d6w):=bif decide (v.1.2.2.1<60) then f (((v.1.1,a0a .quo .f64 (a0a .add .f64 v.1.2.1 (a0a .quo .f64 v.1.1 v.1.2.1)) 4611686018427387904,wrap .i64 (v.1.2.2.1+1),()),()))else some ((v.1.2.1,()),())
def b8P (v:b8O):Nat:=v.1.2.2.1.natAbs+1000
def b8Q (v:b8O):=a0C b3N (b8P v) v
def b6f (v):=(b8Q v).isSome
def b6g (v):=(b8Q v).getD default
def e8t (x:Den g5T):OD f9l:=bif fgt .f64 x.1 4427486594234968593||feq .f64 x.1 4427486594234968593 then bif !(flt .f64 x.1 4861130398305394688||feq .f64 x.1 4861130398305394688) then some (0,())else bif flt .f64 x.1 4607182418800017408 then let a:=((x.1,4607182418800017408,0,()),());bif b6f a then some (b6g a).1 else none else bif b6f ((x.1,x.1,0,()),()) then some (b6g ((x.1,x.1,0,()),())).1 else none else some (0,())
def f9m (x):=(e8t x).isSome
def f9n (x):=(e8t x).getD (zero f9l)
def g9u:=(257,a0b g5T f9l f9m f9n)
noncomputable def f9o:=gE [] Tryz.f257 (lps:=[(7,lmX d6x b8Q)])
theorem d2v:EvX f9o (lp Tryz.f257 0) d6x b3N:=fun _ _=>by kernel_rfl
theorem e8u:a0d Tryz.prog g9u:=a0w (a0z nS) (a1n Tryz.func257 rfl rfl rfl (by kernel_rfl) (a0f (by kernel_rfl) (s1 (lX d2v b8P)))) fun _=>by kernel_rfl
abbrev g5U:Ty:=.cons (.cpx .f64) (.nil)
abbrev f9p:Ty:=.cons (.flt .f64) (.nil)
def e8v (x:Den g5U):OD f9p:=bif K96 x then bif !(G96 x).1 then some (0,())else bif d2s (x.1,x) then let a:=d0R (x.1,x);bif f9m a then some (f9n a)else none else none else none
def f9q (x):=(e8v x).isSome
def f9r (x):=(e8v x).getD (zero f9p)
def g9v:=(222,a0b g5U f9p f9q f9r)
theorem e8w:a0d Tryz.prog g9v:=fnE (s3 b6e c5H e8u) Tryz.func222
abbrev g5V:Ty:=.cons (.cpx .f32) (.nil)
abbrev f9s:Ty:=.cons (.flt .f32) (.nil)
def e8x (x:Den g5V):OD f9s:=bif K52 x then bif !(G52 x).1 then some (0,())else bif e8j x then let a:=e8k x;bif f9q a then let b:=f9r a;bif (a0u .f64 .f32 b.1).1 then some ((a0u .f64 .f32 b.1).2,())else none else none else none else none
def e5X (x):=(e8x x).isSome
def e1N (x):=(e8x x).getD (zero f9s)
def g9w:=(173,a0b g5V f9s e5X e1N)
theorem d6y:a0d Tryz.prog g9w:=fnE (s3 b1T d6q e8w) Tryz.func173
abbrev g5W:Ty:=.cons (.int .i64) (.nil)
abbrev f9t:Ty:=.cons (.int .i64) (.nil)
def e1O (x:Den g5W):OD f9t:=some (Int.tmod (wrap .i64 (Int.tmod x.1 360+360)) 360,())
def e1P (x):=(e1O x).isSome
def e1Q (x):=(e1O x).getD (zero f9t)
def g5X:=(215,a0b g5W f9t e1P e1Q)
theorem d6z:a0d Tryz.prog g5X:=fnE nS Tryz.func215
abbrev g5Y:Ty:=.cons (.int .i64) (.cons (.int .i64) (.nil))
abbrev f9u:Ty:=.cons (.int .i64) (.nil)
def e8y (x:Den g5Y):OD f9u:=bif e1P x.2 then bif e1P (x.1,()) then let b:=wrap .i64 ((e1Q x.2).1-(e1Q (x.1,())).1);bif e1P (b,()) then let a:=e1Q (b,());let c:=wrap .i64 (360-a.1);bif decide (a.1>c) then some (c,())else some a else none else none else none
def e5Y (x):=(e8y x).isSome
def e1R (x):=(e8y x).getD (zero f9u)
def g9x:=(174,a0b g5Y f9u e5Y e1R)
theorem d6A:a0d Tryz.prog g9x:=fnE (s1 d6z) Tryz.func174
abbrev g5Z:Ty:=.cons (.flt .f32) (.cons (.flt .f32) (.cons (.flt .f32) (.nil)))
abbrev f9v:Ty:=.cons (.flt .f32) (.nil)
def f9w (x:Den g5Z):OD f9v:=some (a0a .add .f32 x.1 (a0a .mul .f32 (a0a .sub .f32 x.2.1 x.1) x.2.2.1),())
def e5Z (x):=(f9w x).isSome
def e6a (x):=(f9w x).getD (zero f9v)
def f9x:=(221,a0b g5Z f9v e5Z e6a)
theorem c5K:a0d Tryz.prog f9x:=fnE nS Tryz.func221
abbrev g6a:Ty:=.cons (.slice (.int .i64)) (.cons (.slice (.flt .f32)) (.cons (.int .i64) (.nil)))
abbrev f9y:Ty:=.cons (.flt .f32) (.nil)
abbrev b8R:Type:=(ty0×a9V×a5w)×Unit
abbrev d6B:Type:=(ty0×a9V×a5w)×Unit
def d6C:LX:=⟨[0,1,2,7],[],0,[0,1,2,7],[],⟨[(0,e1s),(1,e1r),(2,om0),(7,om0)],[],0,0⟩,⟨[(0,e1s),(1,e1r),(2,om0),(7,om0)],[],0,0⟩⟩
def b3O (f:b8R->Option (d6B)) (v:b8R):Option (d6B):=bif decide (0<=v.1.2.2.2.1)&&decide (v.1.2.2.2.1<(length v.1.1:Int)) then bif decide ((getD v.1.1 (toNat v.1.2.2.2.1) (zero (Ty.int IntKind.i64)))<v.1.2.2.1) then f (((v.1.1,v.1.2.1,v.1.2.2.1,wrap .i64 (v.1.2.2.2.1+1),()),()))else some (v)else none
def b8S (v:b8R):Nat:=v.1.1.length+v.1.2.1.length+v.1.2.2.1.natAbs+v.1.2.2.2.1.natAbs+1000
def b8T (v:b8R):=a0C b3O (b8S v) v
def c5L (v):=(b8T v).isSome
def c5M (v):=(b8T v).getD default
def d6D (x:Den g6a):OD f9y:=bif c5L ((x.1,x.2.1,x.2.2.1,0,()),()) then let a:=c5M ((x.1,x.2.1,x.2.2.1,0,()),());bif decide (0<=a.1.2.2.2.1)&&decide (a.1.2.2.2.1<(length a.1.1:Int)) then let c:=getD a.1.1 (toNat a.1.2.2.2.1) (zero (Ty.int IntKind.i64));bif c==a.1.2.2.1 then bif decide (0<=a.1.2.2.2.1)&&decide (a.1.2.2.2.1<(length a.1.2.1:Int)) then some (getD a.1.2.1 (toNat a.1.2.2.2.1) (zero (Ty.flt .f32)),())else none else let b:=wrap .i64 (a.1.2.2.2.1-1);bif decide (0<=b)&&decide (b<(length a.1.1:Int)) then bif decide (0<=a.1.2.2.2.1)&&decide (a.1.2.2.2.1<(length a.1.1:Int)) then bif decide (0<=b)&&decide (b<(length a.1.1:Int)) then bif decide (0<=b)&&decide (b<(length a.1.2.1:Int)) then bif decide (0<=a.1.2.2.2.1)&&decide (a.1.2.2.2.1<(length a.1.2.1:Int)) then let d:=getD a.1.2.1 (toNat b) (zero (Ty.flt .f32));let e:=getD a.1.2.1 (toNat a.1.2.2.2.1) (zero (Ty.flt .f32));let g:=getD a.1.1 (toNat b) (zero (Ty.int IntKind.i64));let h:=a0a .quo .f32 (nearest .f32 (wrap .i64 (a.1.2.2.1-g))) (nearest .f32 (wrap .i64 (c-g)));bif e5Z (d,e,h,()) then some (e6a (d,e,h,()))else none else none else none else none else none else none else none else none
def e6b (x):=(d6D x).isSome
def e6c (x):=(d6D x).getD (zero f9y)
def g6b:=(220,a0b g6a f9y e6b e6c)
noncomputable def f9z:=gE [f9x] Tryz.f220 (lps:=[(2,lmX d6C b8T)])
theorem d2w:EvX f9z (lp Tryz.f220 0) d6C b3O:=fun _ _=>by kernel_rfl
theorem e8z:a0d Tryz.prog g6b:=a0w (a0z (s1 c5K)) (a1n Tryz.func220 rfl rfl rfl (by kernel_rfl) (a0f (by kernel_rfl) (s1 (lX d2w b8S)))) fun _=>by kernel_rfl
abbrev g6c:Ty:=.cons (S27) (.cons (.flt .f32) (.cons (.int .i64) (.nil)))
abbrev f9A:Ty:=.cons (.flt .f32) (.cons (.bool) (.nil))
abbrev b1U:Type:=f4z
abbrev c5N:Type:=f4z
def c5O:LX:=⟨[1,2,3,10],[],0,[1,2,3,10],[],⟨[(1,om9),(2,om0),(3,om1),(10,om0)],b5w,1,0⟩,⟨[(1,om9),(2,om0),(3,om1),(10,om0)],b5w,1,0⟩⟩
def a9b (f:b1U->Option (c5N)) (v:b1U):Option (c5N):=let a:=wrap .i64 (v.1.2.2.2.1+1);bif decide (0<=a)&&decide (a<(length v.2.1.1:Int)) then let b:=getD v.2.1.1 (toNat a) (zero (Ty.flt .f32));bif flt .f32 b v.1.1||feq .f32 b v.1.1 then f (((v.1.1,v.1.2.1,(),a,()),v.2))else some (v)else none
def b1V (v:b1U):Nat:=v.1.2.1.natAbs+v.1.2.2.2.1.natAbs+v.2.1.1.length+v.2.1.2.1.length+v.2.1.2.2.1.length+1000
def b1W (v:b1U):=a0C a9b (b1V v) v
def b8U (v):=(b1W v).isSome
def b8V (v):=(b1W v).getD default
def f4Z (x:Den g6c):OD f9A:=bif K99 (x.1,()) then bif !(G99 (x.1,())).1 then some (0,false,())else bif fgt .f32 x.2.1 0||feq .f32 x.2.1 0 then bif !(flt .f32 x.2.1 1120403456||feq .f32 x.2.1 1120403456) then some (0,false,())else bif K51 (x.2.2.1,0,180,()) then bif !(G51 (x.2.2.1,0,180,())).1 then some (0,false,())else bif decide (0<=0)&&decide (0<(length x.1.1:Int)) then let k:=getD x.1.1 (toNat 0) (zero (Ty.flt .f32));bif flt .f32 x.2.1 k||feq .f32 x.2.1 k then bif decide (0<=0)&&decide (0<(length x.1.1:Int)) then bif decide (0<=0)&&decide (0<(length x.1.2.2.1:Int)) then let b:=getD x.1.2.2.1 (toNat 0) (zero (Ty.slice (Ty.flt .f32)));bif e6b (x.1.2.1,b,x.2.2) then some (a0a .mul .f32 (a0a .quo .f32 x.2.1 k) (e6c (x.1.2.1,b,x.2.2)).1,true,())else none else none else none else let b:=wrap .i64 ((length x.1.1:Int)-1);bif decide (0<=b)&&decide (b<(length x.1.1:Int)) then let l:=getD x.1.1 (toNat b) (zero (Ty.flt .f32));bif fgt .f32 x.2.1 l||feq .f32 x.2.1 l then bif decide (0<=b)&&decide (b<(length x.1.2.2.1:Int)) then let m:=getD x.1.2.2.1 (toNat b) (zero (Ty.slice (Ty.flt .f32)));bif e6b (x.1.2.1,m,x.2.2) then some ((e6c (x.1.2.1,m,x.2.2)).1,true,())else none else none else bif b8U ((x.2.1,x.2.2.1,(),0,()),x.1,()) then let a:=b8V ((x.2.1,x.2.2.1,(),0,()),x.1,());bif decide (0<=a.1.2.2.2.1)&&decide (a.1.2.2.2.1<(length a.2.1.1:Int)) then let c:=wrap .i64 (a.1.2.2.2.1+1);bif decide (0<=c)&&decide (c<(length a.2.1.1:Int)) then bif decide (0<=a.1.2.2.2.1)&&decide (a.1.2.2.2.1<(length a.2.1.1:Int)) then bif decide (0<=a.1.2.2.2.1)&&decide (a.1.2.2.2.1<(length a.2.1.2.2.1:Int)) then let d:=getD a.2.1.2.2.1 (toNat a.1.2.2.2.1) (zero (Ty.slice (Ty.flt .f32)));bif e6b (a.2.1.2.1,d,a.1.2.1,()) then bif decide (0<=c)&&decide (c<(length a.2.1.2.2.1:Int)) then let e:=getD a.2.1.2.2.1 (toNat c) (zero (Ty.slice (Ty.flt .f32)));bif e6b (a.2.1.2.1,e,a.1.2.1,()) then let g:=e6c (a.2.1.2.1,d,a.1.2.1,());let h:=e6c (a.2.1.2.1,e,a.1.2.1,());let i:=getD a.2.1.1 (toNat a.1.2.2.2.1) (zero (Ty.flt .f32));let j:=a0a .quo .f32 (a0a .sub .f32 a.1.1 i) (a0a .sub .f32 (getD a.2.1.1 (toNat c) (zero (Ty.flt .f32))) i);bif e5Z (g.1,h.1,j,()) then some ((e6a (g.1,h.1,j,())).1,true,())else none else none else none else none else none else none else none else none else none else none else none else none else some (0,false,())else none
def f5a (x):=(f4Z x).isSome
def f5b (x):=(f4Z x).getD (zero f9A)
def g9y:=(172,a0b g6c f9A f5a f5b)
noncomputable def f9B:=gE [m99,m51,g6b,f9x] Tryz.f172 (lps:=[(10,lmX c5O b1W)])
theorem c5P:EvX f9B (lp Tryz.f172 0) c5O a9b:=fun _ _=>by kernel_rfl
theorem e8A:a0d Tryz.prog g9y:=a0w (a0z (s4 e7Q a4u e8z c5K)) (a1n Tryz.func172 rfl rfl rfl (by kernel_rfl) (a0f (by kernel_rfl) (s1 (lX c5P b1V)))) fun _=>by kernel_rfl
abbrev g6d:Ty:=.cons (S46) (.nil)
abbrev f9C:Ty:=.cons (.flt .f32) (.nil)
def f5c (x:Den g6d):OD f9C:=bif e5W (x.1.2.2.2.2.1,()) then let a:=d2u (x.1.2.2.2.2.1,());bif decide (a.1<0) then some (0,())else bif e5X (x.1.2.2.2.2.1,()) then bif e5Y (x.1.2.2.2.1,a) then let b:=e1N (x.1.2.2.2.2.1,());let c:=e1R (x.1.2.2.2.1,a);bif f5a (x.1.1.1,b.1,c) then some ((f5b (x.1.1.1,b.1,c)).1,())else none else none else none else none
def e6d (x):=(f5c x).isSome
def d6E (x):=(f5c x).getD (zero f9C)
def g9z:=(105,a0b g6d f9C e6d d6E)
theorem d6F:a0d Tryz.prog g9z:=fnE (s4 d6v d6y d6A e8A) Tryz.func105
abbrev g6e:Ty:=.cons (.int .i64) (.nil)
abbrev f9D:Ty:=.cons (.cpx .f64) (.nil)
abbrev b8W:Type:=(a4L×ty6)×Unit
abbrev d6G:Type:=f4B
def d6H:LX:=⟨[3,4],[],0,[3],[],⟨[(3,om6),(4,om0)],[],0,0⟩,⟨[(3,om6)],[],0,0⟩⟩
def b3P (f:b8W->Option (d6G)) (v:b8W):Option (d6G):=bif decide (v.1.2.1>0) then bif e8l () then let a:=e8m ();bif e8o (v.1.1,a) then f ((((e8p (v.1.1,a)).1,wrap .i64 (v.1.2.1-1),()),()))else none else none else some ((v.1.1,()),())
def b8X (v:b8W):Nat:=v.1.2.1.natAbs+1000
def b8Y (v:b8W):=a0C b3P (b8X v) v
def c5Q (v):=(b8Y v).isSome
def c5R (v):=(b8Y v).getD default
def f5d (x:Den g6e):OD f9D:=bif e1P x then let b:=e1Q x;let a:=(((4607182418800017408,0),b),());bif c5Q a then some (c5R a).1 else none else none
def f9E (x):=(f5d x).isSome
def f9F (x):=(f5d x).getD (zero f9D)
def g9A:=(170,a0b g6e f9D f9E f9F)
noncomputable def f9G:=gE [g5X,f9d,f9f] Tryz.f170 (lps:=[(3,lmX d6H b8Y)])
theorem d2x:EvX f9G (lp Tryz.f170 0) d6H b3P:=fun _ _=>by kernel_rfl
theorem e8B:a0d Tryz.prog g9A:=a0w (a0z (s3 d6z d6r d6s)) (a1n Tryz.func170 rfl rfl rfl (by kernel_rfl) (a0f (by kernel_rfl) (s1 (lX d2x b8X)))) fun _=>by kernel_rfl
abbrev g6f:Ty:=.cons (.int .i64) (.cons (.flt .f32) (.nil))
abbrev f9H:Ty:=.cons (.cpx .f32) (.cons (.bool) (.nil))
def e8C (x:Den g6f):OD f9H:=bif fgt .f32 x.2.1 0||feq .f32 x.2.1 0 then bif !(flt .f32 x.2.1 1112014848||feq .f32 x.2.1 1112014848) then some ((0,0),false,())else bif f9E (x.1,()) then let a:=f9F (x.1,());let b:=a0u .f64 .f32 a.1.1;bif b.1 then let c:=a0u .f64 .f32 a.1.2;bif c.1 then some ((a0a .mul .f32 b.2 x.2.1,a0a .mul .f32 c.2 x.2.1),true,())else none else none else none else some ((0,0),false,())
def e6e (x):=(e8C x).isSome
def e1S (x):=(e8C x).getD (zero f9H)
def g9B:=(104,a0b g6f f9H e6e e1S)
theorem d6I:a0d Tryz.prog g9B:=fnE (s1 e8B) Tryz.func104
abbrev g6g:Ty:=.cons (.cpx .f32) (.cons (.cpx .f32) (.nil))
abbrev f9I:Ty:=.cons (.cpx .f32) (.cons (.bool) (.nil))
def f5e (x:Den g6g):OD f9I:=bif K52 (x.1,()) then bif !(G52 (x.1,())).1 then some ((0,0),false,())else bif K52 x.2 then bif !(G52 x.2).1 then some ((0,0),false,())else some ((a0a .sub .f32 x.1.1 x.2.1.1,a0a .sub .f32 x.1.2 x.2.1.2),true,())else none else none
def f9J (x):=(f5e x).isSome
def f9K (x):=(f5e x).getD (zero f9I)
def g9C:=(175,a0b g6g f9I f9J f9K)
theorem e8D:a0d Tryz.prog g9C:=fnE (s1 b1T) Tryz.func175
abbrev g6h:Ty:=.cons (.cpx .f32) (.cons (.cpx .f32) (.cons (.int .i64) (.nil)))
abbrev f9L:Ty:=.cons (S63) (.cons (.bool) (.nil))
def f5f (x:Den g6h):OD f9L:=bif f9J (x.1,x.2.1,()) then let a:=f9K (x.1,x.2.1,());bif e5W (a.1,()) then bif !a.2.1 then some ((0,0,()),false,())else let b:=d2u (a.1,());bif decide (b.1<0) then some ((0,0,()),false,())else bif e5X (a.1,()) then bif e5Y (x.2.2.1,b) then some (((e1N (a.1,())).1,e1R (x.2.2.1,b)),true,())else none else none else none else none
def f5g (x):=(f5f x).isSome
def f5h (x):=(f5f x).getD (zero f9L)
def g9D:=(106,a0b g6h f9L f5g f5h)
theorem e8E:a0d Tryz.prog g9D:=fnE (s4 e8D d6v d6y d6A) Tryz.func106
abbrev A54:Ty:=.cons (S46) (.nil)
abbrev R54:Ty:=.cons (S63) (.cons (.bool) (.nil))
def F54 (x:Den A54):OD R54:=bif e6d x then let a:=d6E x;bif e6e (x.1.2.2.2.1,a) then let c:=e1S (x.1.2.2.2.1,a);let b:=(x.1.2.2.2.2.1,c.1,x.1.2.2.2.1,());bif f5g b then some (f5h b)else none else none else none
def K54 (x):=(F54 x).isSome
def G54 (x):=(F54 x).getD (zero R54)
def m54:=(54,a0b A54 R54 K54 G54)
theorem e1T:a0d Tryz.prog m54:=fnE (s3 d6F d6I e8E) Tryz.func54
abbrev A55:Ty:=.cons (S68) (.cons (S63) (.nil))
abbrev R55:Ty:=.cons (.bool) (.nil)
def F55 (x:Den A55):OD R55:=let b:=a0a .sub .f32 x.1.2.1 1065353216;bif fgt .f32 x.2.1.1 b||feq .f32 x.2.1.1 b then let c:=a0a .add .f32 x.1.2.2.1 1065353216;bif !(flt .f32 x.2.1.1 c||feq .f32 x.2.1.1 c) then some (false,())else bif decide (x.2.1.2.1<x.1.2.2.2.1) then let a:=wrap .i64 (x.1.2.2.2.1-x.2.1.2.1);bif K51 (a,0,5,()) then bif !(G51 (a,0,5,())).1 then some (false,())else bif decide (x.2.1.2.1<=x.1.2.2.2.2.1) then some (true,())else let d:=wrap .i64 (x.2.1.2.1-x.1.2.2.2.2.1);bif K51 (d,0,5,()) then some (G51 (d,0,5,()))else none else none else bif decide (x.2.1.2.1<=x.1.2.2.2.2.1) then some (true,())else let a:=wrap .i64 (x.2.1.2.1-x.1.2.2.2.2.1);bif K51 (a,0,5,()) then some (G51 (a,0,5,()))else none else some (false,())
def K55 (x):=(F55 x).isSome
def G55 (x):=(F55 x).getD (zero R55)
def m55:=(55,a0b A55 R55 K55 G55)
theorem e8F:a0d Tryz.prog m55:=fnE (s1 a4u) Tryz.func55
abbrev A18:Ty:=.cons (S46) (.nil)
abbrev R18:Ty:=.cons (.bool) (.nil)
def F18 (x:Den A18):OD R18:=bif K49 (x.1.2.2.1,()) then bif K50 (x.1.1,()) then bif !(G50 (x.1.1,())).1 then some (false,())else bif K51 (x.1.2.1,0,10000000,()) then bif !(G51 (x.1.2.1,0,10000000,())).1 then some (false,())else bif !(G49 (x.1.2.2.1,())).2.1 then some (false,())else bif K51 (x.1.2.2.2.1,0,359,()) then bif !(G51 (x.1.2.2.2.1,0,359,())).1 then some (false,())else bif K52 (x.1.2.2.2.2.1,()) then bif !(G52 (x.1.2.2.2.2.1,())).1 then some (false,())else let g:=(length x.1.1.2.2.1:Int);let h:=wrap .i64 (g-1);let j:=(x.1.2.2.2.2.2.1,-1,h,());bif K51 j then bif !(G51 j).1 then some (false,())else bif K53 (x.1.2.2.2.2.2.2.1,()) then bif !(G53 (x.1.2.2.2.2.2.2.1,())).1 then some (false,())else let i:=(length x.1.2.2.2.2.2.2.1:Int);bif decide (i>0) then let a:=wrap .i64 (i-1);bif decide (0<=a)&&decide (a<i) then bif decide ((getD x.1.2.2.2.2.2.2.1 (toNat a) (zero S97)).2.1>x.1.2.1) then some (false,())else bif decide ((length x.1.2.2.2.2.2.2.2.1:Int)>300) then some (false,())else bif decide (x.1.2.2.2.2.2.1 ≥ 0) then bif K54 x then let b:=G54 x;bif b.2.1 then bif decide (0<=x.1.2.2.2.2.2.1)&&decide (x.1.2.2.2.2.2.1<g) then let d:=getD x.1.1.2.2.1 (toNat x.1.2.2.2.2.2.1) (zero S68);bif K55 (d,b.1,()) then some (G55 (d,b.1,()))else none else none else some (false,())else none else some (true,())else none else bif decide ((length x.1.2.2.2.2.2.2.2.1:Int)>300) then some (false,())else bif decide (x.1.2.2.2.2.2.1 ≥ 0) then bif K54 x then let c:=G54 x;bif c.2.1 then bif decide (0<=x.1.2.2.2.2.2.1)&&decide (x.1.2.2.2.2.2.1<g) then let e:=getD x.1.1.2.2.1 (toNat x.1.2.2.2.2.2.1) (zero S68);bif K55 (e,c.1,()) then some (G55 (e,c.1,()))else none else none else some (false,())else none else some (true,())else none else none else none else none else none else none else none
def K18 (x):=(F18 x).isSome
def G18 (x):=(F18 x).getD (zero R18)
def m18:=(18,a0b A18 R18 K18 G18)
theorem f9M:a0d Tryz.prog m18:=fnE (s7 d2e e8a a4u b1T f8Y e1T e8F) Tryz.func18
abbrev I30:Sg:=⟨[.val (.slice (.int .u8))],[]⟩
abbrev O30:Sg:=⟨[.ptr 0],[.box (a1U)]⟩
abbrev d2y:Type:=ty3×Unit
abbrev e8G:Type:=(List (Den (.int .u8))×ty6)×Unit
def e8H:LX:=⟨[0,3,4],[],0,[0,3],[],⟨[(0,.one (.sl (.int .u8))),(3,om0),(4,om0)],[],0,0⟩,⟨[(0,.one (.sl (.int .u8))),(3,om0)],[],0,0⟩⟩
def d2z (f:d2y->Option (e8G)) (v:d2y):Option (e8G):=bif decide (v.1.2.2.1<(length v.1.1:Int)) then bif decide (v.1.2.2.1<4000) then bif decide (0<=v.1.2.2.1)&&decide (v.1.2.2.1<(length v.1.1:Int)) then f (((v.1.1,a1X BinOp.and IntKind.i64 (wrap .i64 ((wrap .i64 ((wrap .i64 (v.1.2.1*131))+(wrap .i64 (getD v.1.1 (toNat v.1.2.2.1) (zero (Ty.int IntKind.u8))))))+7)) 1073741823,wrap .i64 (v.1.2.2.1+1),()),()))else none else some ((v.1.1,v.1.2.1,()),())else some ((v.1.1,v.1.2.1,()),())
def e1U (v:d2y):Nat:=v.1.1.length+v.1.2.1.natAbs+v.1.2.2.1.natAbs+1000
def d2A (v:d2y):=a0C d2z (e1U v) v
def d6J (v):=(d2A v).isSome
def d6K (v):=(d2A v).getD default
def F30 (x:I30.den):Option (O30.den):=let a:=wrap .i64 (33211+(length x.1.1:Int));bif d6J ((x.1.1,a,0,()),()) then let b:=d6K ((x.1.1,a,0,()),());some (((),()),(b.1.1,0,b.1.2),())else none
def K30 (x):=(F30 x).isSome
def G30 (x):=(F30 x).getD (a0R O30)
def m30:=(30,a0y false I30 O30 K30 G30)
noncomputable def g9E:=gE [] Tryz.f30 (lps:=[(3,lmX e8H d2A)])
theorem e1V:EvX g9E (lp Tryz.f30 0) e8H d2z:=fun _ _=>by kernel_rfl
theorem e8I:a0d Tryz.prog m30:=a4a (a0z nS) (a1n Tryz.func30 rfl rfl rfl (by kernel_rfl) (a0f (by kernel_rfl) (s1 (lX e1V e1U)))) false fun _=>by kernel_rfl
abbrev I82:Sg:=⟨[.ptr 0],[.box (a1U)]⟩
abbrev O82:Sg:=⟨[.val (.int .i64)],[.box (a1U)]⟩
def F82 (x:I82.den):Option (O82.den):=bif decide (x.2.1.2.1<(length x.2.1.1:Int)) then bif decide (0<=x.2.1.2.1)&&decide (x.2.1.2.1<(length x.2.1.1:Int)) then let a:=wrap .i64 ((wrap .i64 (x.2.1.2.2.1*6364136223846793005))+1442695040888963407);some ((a1X BinOp.and IntKind.i64 (wrap .i64 (a1X BinOp.and IntKind.i64 (a1X BinOp.xor IntKind.i64 (Int.fdiv a (2^min (toNat 33) (IntKind.bits IntKind.i64))) (Int.fdiv a (2^min (toNat 45) (IntKind.bits IntKind.i64)))) 255+(wrap .i64 (getD x.2.1.1 (toNat x.2.1.2.1) (zero (Ty.int IntKind.u8)))))) 255,()),(x.2.1.1,wrap .i64 (x.2.1.2.1+1),a,()),())else none else let a:=wrap .i64 ((wrap .i64 (x.2.1.2.2.1*6364136223846793005))+1442695040888963407);some ((a1X BinOp.and IntKind.i64 (a1X BinOp.xor IntKind.i64 (Int.fdiv a (2^min (toNat 33) (IntKind.bits IntKind.i64))) (Int.fdiv a (2^min (toNat 45) (IntKind.bits IntKind.i64)))) 255,()),(x.2.1.1,x.2.1.2.1,a,()),())
def K82 (x):=(F82 x).isSome
def G82 (x):=(F82 x).getD (a0R O82)
def m82:=(82,a0y true I82 O82 K82 G82)
theorem e8J:a0d Tryz.prog m82:=sgE true nS Tryz.func82
abbrev I34:Sg:=⟨[.ptr 0,.val (.int .i64)],[.box (a1U)]⟩
abbrev O34:Sg:=⟨[.val (.int .i64)],[.box (a1U)]⟩
def F34 (x:I34.den):Option (O34.den):=bif decide (x.1.2.1<=0) then some ((0,()),x.2)else bif decide (x.1.2.1<=256) then bif K82 (((),()),x.2) then bif x.1.2.1 != 0 then let a:=G82 (((),()),x.2);some ((Int.tmod a.1.1 x.1.2.1,()),a.2)else none else none else bif K82 (((),()),x.2) then let a:=G82 (((),()),x.2);bif K82 (((),()),a.2) then let c:=G82 (((),()),a.2);bif K82 (((),()),c.2) then let d:=G82 (((),()),c.2);bif K82 (((),()),d.2) then bif x.1.2.1 != 0 then let b:=G82 (((),()),d.2);some ((Int.tmod (wrap .i64 ((wrap .i64 ((wrap .i64 ((wrap .i64 (a.1.1*16777216))+(wrap .i64 (c.1.1*65536))))+(wrap .i64 (d.1.1*256))))+b.1.1)) x.1.2.1,()),b.2)else none else none else none else none else none
def K34 (x):=(F34 x).isSome
def G34 (x):=(F34 x).getD (a0R O34)
def m34:=(34,a0y true I34 O34 K34 G34)
theorem a3y:a0d Tryz.prog m34:=sgE true (s1 e8J) Tryz.func34
abbrev I77:Sg:=⟨[.ptr 0,.val (.int .i64)],[.box (a1U)]⟩
abbrev O77:Sg:=⟨[.val (.bool)],[.box (a1U)]⟩
def F77 (x:I77.den):Option (O77.den):=bif K34 (((),x.1.2),x.2) then let a:=G34 (((),x.1.2),x.2);some ((a.1.1==0,()),a.2)else none
def K77 (x):=(F77 x).isSome
def G77 (x):=(F77 x).getD (a0R O77)
def m77:=(77,a0y true I77 O77 K77 G77)
theorem a7n:a0d Tryz.prog m77:=sgE true (s1 a3y) Tryz.func77
abbrev e8K:Sg:=⟨[.ptr 0,.own (.str) 1],[.box (a1U),.arr (.str)]⟩
abbrev f9N:Sg:=⟨[.val (.str)],[.box (a1U),.arr (.str)]⟩
def f5i (x:e8K.den):Option (f9N.den):=bif K34 (((),(length x.2.2.1:Int),()),x.2.1,()) then let a:=G34 (((),(length x.2.2.1:Int),()),x.2.1,());bif decide (0<=a.1.1)&&decide (a.1.1<(length x.2.2.1:Int)) then some ((getD x.2.2.1 (toNat a.1.1) (zero Ty.str),()),a.2.1,x.2.2)else none else none
def e8L (x):=(f5i x).isSome
def e1W (x):=(f5i x).getD (a0R f9N)
def g6i:=(131,a0y true e8K f9N e8L e1W)
theorem d6L:a0d Tryz.prog g6i:=sgE true (s1 a3y) Tryz.func131
abbrev I73:Sg:=⟨[.ptr 0],[.box (a1U)]⟩
abbrev O73:Sg:=⟨[.val (S27)],[.box (a1U)]⟩
abbrev b3Q:Type:=(Unit×Unit×Unit×Nat×Int×b1Q)×ty3×a7l×a7l×a9V×ty0×c4D×a9V×Unit
abbrev d6M:Type:=(Unit×Unit×Unit×Nat×Int×a4i)×ty3×a7l×a7l×a9V×ty0×c4D×a9V×Unit
def d6N:LX:=⟨[0,2,3,6,7,8,9],[],4,[0,2,3,6,7,8],[],⟨li5,li0,7,1⟩,⟨[(0,om1),(2,om3),(3,om4),(6,om9),(7,om0),(8,on1)],li0,7,1⟩⟩
def b8Z (f:b3Q->Option (d6M)) (v:b3Q):Option (d6M):=bif decide (v.1.2.2.2.2.2.2.1<(length v.2.2.2.2.2.1:Int)) then bif K34 (((),57,()),v.2.1,()) then bif v.1.2.2.2.2.2.2.1==0 then let a:=G34 (((),57,()),v.2.1,());bif K77 (((),8,()),a.2) then let b:=G77 (((),8,()),a.2);bif !b.1.1 then bif fgt .f32 v.1.2.2.2.1 1084227584 then bif K34 (((),40,()),b.2) then let c:=G34 (((),40,()),b.2);let d:=set (replicate 1 (zero (Ty.flt .f32))) 0 (a0a .add .f32 0 (a0a .quo .f32 (nearest .f32 c.1.1) 1098907648));bif a0j (length v.2.2.2.2.2.2.2.1+length d) then f ((((),(),(),v.1.2.2.2.1,v.1.2.2.2.2.1,(),wrap .i64 (v.1.2.2.2.2.2.2.1+1),()),c.2.1,((),(),(),()),((),(),(),()),v.2.2.2.2.1,v.2.2.2.2.2.1,v.2.2.2.2.2.2.1,v.2.2.2.2.2.2.2.1++d,()))else none else none else let e:=set (replicate 1 (zero (Ty.flt .f32))) 0 0;bif a0j (length v.2.2.2.2.2.2.2.1+length e) then f ((((),(),(),v.1.2.2.2.1,v.1.2.2.2.2.1,(),wrap .i64 (v.1.2.2.2.2.2.2.1+1),()),b.2.1,((),(),(),()),((),(),(),()),v.2.2.2.2.1,v.2.2.2.2.2.1,v.2.2.2.2.2.2.1,v.2.2.2.2.2.2.2.1++e,()))else none else bif fgt .f32 v.1.2.2.2.1 1084227584 then bif K34 (((),40,()),b.2) then let h:=G34 (((),40,()),b.2);let g:=set (replicate 1 (zero (Ty.flt .f32))) 0 (a0a .add .f32 (a0a .quo .f32 (nearest .f32 (wrap .i64 (8+a.1.1))) 1098907648) (a0a .quo .f32 (nearest .f32 h.1.1) 1098907648));bif a0j (length v.2.2.2.2.2.2.2.1+length g) then f ((((),(),(),v.1.2.2.2.1,v.1.2.2.2.2.1,(),wrap .i64 (v.1.2.2.2.2.2.2.1+1),()),h.2.1,((),(),(),()),((),(),(),()),v.2.2.2.2.1,v.2.2.2.2.2.1,v.2.2.2.2.2.2.1,v.2.2.2.2.2.2.2.1++g,()))else none else none else let i:=set (replicate 1 (zero (Ty.flt .f32))) 0 (a0a .quo .f32 (nearest .f32 (wrap .i64 (8+a.1.1))) 1098907648);bif a0j (length v.2.2.2.2.2.2.2.1+length i) then f ((((),(),(),v.1.2.2.2.1,v.1.2.2.2.2.1,(),wrap .i64 (v.1.2.2.2.2.2.2.1+1),()),b.2.1,((),(),(),()),((),(),(),()),v.2.2.2.2.1,v.2.2.2.2.2.1,v.2.2.2.2.2.2.1,v.2.2.2.2.2.2.2.1++i,()))else none else none else bif fgt .f32 v.1.2.2.2.1 1084227584 then let a:=G34 (((),57,()),v.2.1,());bif K34 (((),40,()),a.2) then let c:=G34 (((),40,()),a.2);let d:=set (replicate 1 (zero (Ty.flt .f32))) 0 (a0a .add .f32 (a0a .quo .f32 (nearest .f32 (wrap .i64 (8+a.1.1))) 1098907648) (a0a .quo .f32 (nearest .f32 c.1.1) 1098907648));bif a0j (length v.2.2.2.2.2.2.2.1+length d) then f ((((),(),(),v.1.2.2.2.1,v.1.2.2.2.2.1,(),wrap .i64 (v.1.2.2.2.2.2.2.1+1),()),c.2.1,((),(),(),()),((),(),(),()),v.2.2.2.2.1,v.2.2.2.2.2.1,v.2.2.2.2.2.2.1,v.2.2.2.2.2.2.2.1++d,()))else none else none else let a:=G34 (((),57,()),v.2.1,());let e:=set (replicate 1 (zero (Ty.flt .f32))) 0 (a0a .quo .f32 (nearest .f32 (wrap .i64 (8+a.1.1))) 1098907648);bif a0j (length v.2.2.2.2.2.2.2.1+length e) then f ((((),(),(),v.1.2.2.2.1,v.1.2.2.2.2.1,(),wrap .i64 (v.1.2.2.2.2.2.2.1+1),()),a.2.1,((),(),(),()),((),(),(),()),v.2.2.2.2.1,v.2.2.2.2.2.1,v.2.2.2.2.2.2.1,v.2.2.2.2.2.2.2.1++e,()))else none else none else some (((),(),(),v.1.2.2.2.1,v.1.2.2.2.2.1,(),()),v.2.1,((),(),(),()),((),(),(),()),v.2.2.2.2)
def c5S (v:b3Q):Nat:=v.1.2.2.2.2.1.natAbs+v.1.2.2.2.2.2.2.1.natAbs+v.2.1.1.length+v.2.1.2.1.natAbs+v.2.1.2.2.1.natAbs+v.2.2.2.2.1.length+v.2.2.2.2.2.1.length+v.2.2.2.2.2.2.1.length+v.2.2.2.2.2.2.2.1.length+1000
def b3R (v:b3Q):=a0C b8Z (c5S v) v
def e1X (v):=(b3R v).isSome
def a4X (v):=(b3R v).getD default
abbrev b3S:Type:=(Unit×Unit×Unit×d0Q)×ty3×a7l×a7l×ty2
abbrev d6O:Type:=ty5×ty3×a7l×a7l×ty2
def d6P:LX:=⟨[0,2,3,6,7],[.boxNil 3 0,.boxNil 3 2],2,[2,3],[],⟨[(0,om1),(2,om3),(3,om4),(6,om9),(7,om0)],li2,6,1⟩,⟨li8,li2,6,1⟩⟩
def b9a (f:b3S->Option (d6O)) (v:b3S):Option (d6O):=bif decide (v.1.2.2.2.2.1>0) then let b:=zero (Ty.flt .f32);let c:=set (replicate 1 b) 0 v.1.2.2.2.1;bif a0j (length v.2.2.2.2.1+length c) then let h:=v.2.2.2.2.1++c;let d:=(((),(),(),v.1.2.2.2.1,v.1.2.2.2.2.1,(),0,()),v.2.1,((),(),(),()),((),(),(),()),h,v.2.2.2.2.2.1,v.2.2.2.2.2.2.1,replicate 0 b,());bif e1X d then let a:=a4X d;let e:=set (replicate 1 (zero (Ty.slice (Ty.flt .f32)))) 0 a.2.2.2.2.2.2.2.1;bif a0j (length a.2.2.2.2.2.2.1+length e) then bif K34 (((),40,()),a.2.1,()) then let g:=G34 (((),40,()),a.2.1,());f ((((),(),(),a0a .add .f32 a.1.2.2.2.1 (a0a .quo .f32 (nearest .f32 (wrap .i64 (1+g.1.1))) 1090519040),wrap .i64 (a.1.2.2.2.2.1-1),()),g.2.1,((),(),(),()),((),(),(),()),a.2.2.2.2.1,a.2.2.2.2.2.1,a.2.2.2.2.2.2.1++e,()))else none else none else none else none else some (((),(),()),v.2.1,((),(),(),()),((),(),(),()),v.2.2.2.2)
def c5T (v:b3S):Nat:=v.1.2.2.2.2.1.natAbs+v.2.1.1.length+v.2.1.2.1.natAbs+v.2.1.2.2.1.natAbs+v.2.2.2.2.1.length+v.2.2.2.2.2.1.length+v.2.2.2.2.2.2.1.length+1000
def b3T (v:b3S):=a0C b9a (c5T v) v
def b6h (v):=(b3T v).isSome
def a4Y (v):=(b3T v).getD default
abbrev c5U:Type:=d5z×f4y
abbrev e8M:Type:=a7l×f4y
def e8N:LX:=⟨[0,2,3,5],[],0,[0,2,3],[],⟨[(0,om1),(2,om3),(3,om4),(5,om0)],[(0,bx0),(1,bx4),(2,g5u),(3,.arr (.int .i64))],4,1⟩,⟨li7,[(0,bx0),(1,bx4),(2,g5u),(3,.arr (.int .i64))],4,1⟩⟩
def d2B (f:c5U->Option (e8M)) (v:c5U):Option (e8M):=bif decide (v.1.2.2.2.1>0) then bif decide (v.1.2.2.2.1<180) then bif decide ((length v.2.2.2.2.1:Int)<20) then let a:=set (replicate 1 (zero (Ty.int IntKind.i64))) 0 v.1.2.2.2.1;bif a0j (length v.2.2.2.2.1+length a) then bif K34 (((),50,()),v.2.1,()) then let b:=G34 (((),50,()),v.2.1,());f ((((),(),(),wrap .i64 ((wrap .i64 (v.1.2.2.2.1+5))+b.1.1),()),b.2.1,((),(),(),()),((),(),(),()),v.2.2.2.2.1++a,()))else none else none else some (((),(),(),()),v.2.1,((),(),(),()),((),(),(),()),v.2.2.2.2)else some (((),(),(),()),v.2.1,((),(),(),()),((),(),(),()),v.2.2.2.2)else some (((),(),(),()),v.2.1,((),(),(),()),((),(),(),()),v.2.2.2.2)
def e1Y (v:c5U):Nat:=v.1.2.2.2.1.natAbs+v.2.1.1.length+v.2.1.2.1.natAbs+v.2.1.2.2.1.natAbs+v.2.2.2.2.1.length+1000
def c5V (v:c5U):=a0C d2B (e1Y v) v
def c5W (v):=(c5V v).isSome
def a9c (v):=(c5V v).getD default
def F73 (x:I73.den):Option (O73.den):=bif K34 (((),25,()),x.2) then let j:=G34 (((),25,()),x.2);bif K77 (((),6,()),j.2) then let k:=G77 (((),6,()),j.2);bif k.1.1 then let p:=replicate 1 (zero (Ty.int IntKind.i64));let l:=set p 0 0;let q:=(((),(),(),0,()),k.2.1,((),(),(),()),((),(),(),()),l,());bif c5W q then let i:=a9c q;let c:=set p 0 180;bif a0j (length i.2.2.2.2.1+length c) then bif K34 (((),4,()),i.2.1,()) then let m:=G34 (((),4,()),i.2.1,());bif K34 (((),4,()),m.2) then let n:=wrap .i64 (1+m.1.1);let a:=G34 (((),4,()),m.2);let b:=wrap .i64 (1+a.1.1);let d:=i.2.2.2.2.1++c;let r:=(((),(),(),nearest .f32 n,b,()),a.2.1,((),(),(),()),((),(),(),()),[],d,[],());bif b6h r then let g:=a4Y r;some ((g.2.2.2.2,()),g.2.1,())else none else none else none else none else none else let l:=wrap .i64 (20+j.1.1);let s:=replicate 1 (zero (Ty.int IntKind.i64));let y:=set s 0 0;let t:=(((),(),(),l,()),k.2.1,((),(),(),()),((),(),(),()),y,());bif c5W t then let c:=a9c t;let u:=set s 0 180;bif a0j (length c.2.2.2.2.1+length u) then bif K34 (((),4,()),c.2.1,()) then let e:=G34 (((),4,()),c.2.1,());bif K34 (((),4,()),e.2) then let a:=wrap .i64 (1+e.1.1);let b:=G34 (((),4,()),e.2);let d:=wrap .i64 (1+b.1.1);let o:=c.2.2.2.2.1++u;let w:=(((),(),(),nearest .f32 a,d,()),b.2.1,((),(),(),()),((),(),(),()),[],o,[],());bif b6h w then let h:=a4Y w;some ((h.2.2.2.2,()),h.2.1,())else none else none else none else none else none else none else none
def K73 (x):=(F73 x).isSome
def G73 (x):=(F73 x).getD (a0R O73)
def m73:=(73,a0y true I73 O73 K73 G73)
noncomputable def f9O:=gE [m34,m77] Tryz.f73 (lps:=[(6,lmX e8N c5V),(12,lmX d6P b3T),(17,lmX d6N b3R)]) (rown:=[.frzBox 2])
theorem e1Z:EvX f9O (lp Tryz.f73 0) e8N d2B:=fun _ _=>by kernel_rfl
theorem d2C:EvX f9O (lp Tryz.f73 1) d6P b9a:=fun _ _=>by kernel_rfl
theorem d2D:EvX f9O (lp Tryz.f73 2) d6N b8Z:=fun _ _=>by kernel_rfl
theorem f9P:a0d Tryz.prog m73:=a4a (a0z (s2 a3y a7n)) (a1n Tryz.func73 rfl rfl rfl (by kernel_rfl) (a0f (by kernel_rfl) (s3 (lX e1Z e1Y) (lX d2C c5T) (lX d2D c5S)))) true fun _=>by kernel_rfl
abbrev I74:Sg:=⟨[.ptr 0],[.box (a1U)]⟩
abbrev O74:Sg:=⟨[.mix [.ref (a1m) 1,.ref (.int .i64) 2]],[.box (a1U),.arr (a1m),.arr (.int .i64)]⟩
abbrev b3U:Type:=(Unit×Unit×d5A)×f4C
abbrev d6Q:Type:=ty5×f4C
def d6R:LX:=⟨[0,2,3,9,10],[.boxNil 3 1],4,[2,3],[],⟨[(0,om1),(2,om3),(3,om4),(9,om0),(10,om0)],li4,5,1⟩,⟨li8,li4,5,1⟩⟩
def b9b (f:b3U->Option (d6Q)) (v:b3U):Option (d6Q):=bif decide (v.1.2.2.2.2.1>0) then let b:=set (replicate 1 (zero (Ty.int IntKind.i64))) 0 v.1.2.2.2.1;bif a0j (length v.2.2.2.2.2.1+length b) then bif K34 (((),3,()),v.2.1,()) then let a:=G34 (((),3,()),v.2.1,());bif K34 (((),20000,()),a.2) then let c:=G34 (((),20000,()),a.2);f ((((),(),(),wrap .i64 ((wrap .i64 (v.1.2.2.2.1+21600))+(wrap .i64 (a.1.1*c.1.1))),wrap .i64 (v.1.2.2.2.2.1-1),()),c.2.1,((),(),()),((),(),()),v.2.2.2.2.1,v.2.2.2.2.2.1++b,()))else none else none else none else some (((),(),()),v.2.1,((),(),()),((),(),()),v.2.2.2.2)
def c5X (v:b3U):Nat:=v.1.2.2.2.1.natAbs+v.1.2.2.2.2.1.natAbs+v.2.1.1.length+v.2.1.2.1.natAbs+v.2.1.2.2.1.natAbs+v.2.2.2.2.1.length+v.2.2.2.2.2.1.length+1000
def b9c (v:b3U):=a0C b9b (c5X v) v
def b6i (v):=(b9c v).isSome
def b6j (v):=(b9c v).getD default
abbrev c5Y:Type:=(Unit×Unit×Unit×Int×b1Q)×ty3×ty5×ty5×c4E×f7V
abbrev e8O:Type:=(Unit×Unit×Unit×Int×a4i)×ty3×ty5×ty5×c4E×f7V
def e8P:LX:=⟨[0,2,3,4,6,7],[],2,[0,2,3,4,6],[],⟨[(0,om1),(2,om3),(3,om4),(4,om0),(6,.one (.ptr 4 0)),(7,om0)],[(0,bx0),(1,bx7),(2,f4D),(3,.arr (a1m)),(4,f7X)],5,1⟩,⟨[(0,om1),(2,om3),(3,om4),(4,om0),(6,.one (.ptr 4 0))],[(0,bx0),(1,bx7),(2,f4D),(3,.arr (a1m)),(4,f7X)],5,1⟩⟩
def d2E (f:c5Y->Option (e8O)) (v:c5Y):Option (e8O):=bif decide (v.1.2.2.2.2.2.1<13) then bif K34 (((),33,()),v.2.1,()) then let d:=G34 (((),33,()),v.2.1,());bif K34 (((),33,()),d.2) then bif decide (0<=v.1.2.2.2.2.2.1)&&decide (v.1.2.2.2.2.2.1<(↑13:Int)) then let e:=G34 (((),33,()),d.2);let b:=a0a .quo .f32 (nearest .f32 (wrap .i64 (d.1.1-16))) 1098907648;let c:=a0a .quo .f32 (nearest .f32 (wrap .i64 (e.1.1-16))) 1098907648;let a:=toNat v.1.2.2.2.2.2.1;let g:=0+1+1+1+1+1+1+1+1+1+1+1+1;let h:=0+1+1+1+1+1+1+1+1+1+1+1;let i:=0+1+1+1+1+1+1+1+1+1+1;let j:=0+1+1+1+1+1+1+1+1+1;let k:=0+1+1+1+1+1+1+1+1;let l:=0+1+1+1+1+1+1+1;let m:=0+1+1+1+1+1+1;f ((((),(),(),v.1.2.2.2.1,(),wrap .i64 (v.1.2.2.2.2.2.1+1),()),e.2.1,((),(),()),((),(),()),v.2.2.2.2.1,(v.2.2.2.2.2.1.1,(bif beq 0 a then b else v.2.2.2.2.2.1.2.1.1,bif beq 0 a then c else v.2.2.2.2.2.1.2.1.2),(bif beq (0+1) a then b else v.2.2.2.2.2.1.2.2.1.1,bif beq (0+1) a then c else v.2.2.2.2.2.1.2.2.1.2),(bif beq (0+1+1) a then b else v.2.2.2.2.2.1.2.2.2.1.1,bif beq (0+1+1) a then c else v.2.2.2.2.2.1.2.2.2.1.2),(bif beq (0+1+1+1) a then b else v.2.2.2.2.2.1.2.2.2.2.1.1,bif beq (0+1+1+1) a then c else v.2.2.2.2.2.1.2.2.2.2.1.2),(bif beq (0+1+1+1+1) a then b else v.2.2.2.2.2.1.2.2.2.2.2.1.1,bif beq (0+1+1+1+1) a then c else v.2.2.2.2.2.1.2.2.2.2.2.1.2),(bif beq (0+1+1+1+1+1) a then b else v.2.2.2.2.2.1.2.2.2.2.2.2.1.1,bif beq (0+1+1+1+1+1) a then c else v.2.2.2.2.2.1.2.2.2.2.2.2.1.2),(bif beq m a then b else v.2.2.2.2.2.1.2.2.2.2.2.2.2.1.1,bif beq m a then c else v.2.2.2.2.2.1.2.2.2.2.2.2.2.1.2),(bif beq l a then b else v.2.2.2.2.2.1.2.2.2.2.2.2.2.2.1.1,bif beq l a then c else v.2.2.2.2.2.1.2.2.2.2.2.2.2.2.1.2),(bif beq k a then b else v.2.2.2.2.2.1.2.2.2.2.2.2.2.2.2.1.1,bif beq k a then c else v.2.2.2.2.2.1.2.2.2.2.2.2.2.2.2.1.2),(bif beq j a then b else v.2.2.2.2.2.1.2.2.2.2.2.2.2.2.2.2.1.1,bif beq j a then c else v.2.2.2.2.2.1.2.2.2.2.2.2.2.2.2.2.1.2),(bif beq i a then b else v.2.2.2.2.2.1.2.2.2.2.2.2.2.2.2.2.2.1.1,bif beq i a then c else v.2.2.2.2.2.1.2.2.2.2.2.2.2.2.2.2.2.1.2),(bif beq h a then b else v.2.2.2.2.2.1.2.2.2.2.2.2.2.2.2.2.2.2.1.1,bif beq h a then c else v.2.2.2.2.2.1.2.2.2.2.2.2.2.2.2.2.2.2.1.2),(bif beq g a then b else v.2.2.2.2.2.1.2.2.2.2.2.2.2.2.2.2.2.2.2.1.1,bif beq g a then c else v.2.2.2.2.2.1.2.2.2.2.2.2.2.2.2.2.2.2.2.1.2),()),()))else none else none else none else some (((),(),(),v.1.2.2.2.1,(),()),v.2.1,((),(),()),((),(),()),v.2.2.2.2)
def e8Q (v:c5Y):Nat:=v.1.2.2.2.1.natAbs+v.1.2.2.2.2.2.1.natAbs+v.2.1.1.length+v.2.1.2.1.natAbs+v.2.1.2.2.1.natAbs+v.2.2.2.2.1.length+1000
def d2F (v:c5Y):=a0C d2E (e8Q v) v
def c5Z (v):=(d2F v).isSome
def c6a (v):=(d2F v).getD (((),((),((),(0,((),()))))),(([],(0,(0,()))),(((),((),())),(((),((),())),([],(((0,0),((0,0),((0,0),((0,0),((0,0),((0,0),((0,0),((0,0),((0,0),((0,0),((0,0),((0,0),((0,0),((0,0),())))))))))))))),()))))))
abbrev c6b:Type:=d5z×ty3×ty5×ty5×c4E×Unit
abbrev e8R:Type:=a7l×ty3×ty5×ty5×c4E×Unit
def e8S:LX:=⟨[0,2,3,4],[.boxNil 3 0],0,[0,2,3],[],⟨[(0,om1),(2,om3),(3,om4),(4,om0)],[(0,bx0),(1,bx7),(2,f4D),(3,.arr (a1m))],4,1⟩,⟨li7,[(0,bx0),(1,bx7),(2,f4D),(3,.arr (a1m))],4,1⟩⟩
def d2G (f:c6b->Option (e8R)) (v:c6b):Option (e8R):=bif decide (v.1.2.2.2.1>0) then bif K34 (((),8001,()),v.2.1,()) then let c:=G34 (((),8001,()),v.2.1,());bif K34 (((),8001,()),c.2) then let e:=G34 (((),8001,()),c.2);let h:=wrap .i64 (c.1.1-4000);let i:=wrap .i64 (e.1.1-4000);let g:=(((),(),(),v.1.2.2.2.1,(),0,()),e.2.1,((),(),()),((),(),()),v.2.2.2.2.1,((nearest .f64 h,nearest .f64 i),(0,0),(0,0),(0,0),(0,0),(0,0),(0,0),(0,0),(0,0),(0,0),(0,0),(0,0),(0,0),(0,0),()),());bif c5Z g then let a:=c6a g;bif K77 (((),5,()),a.2.1,()) then let d:=G77 (((),5,()),a.2.1,());bif d.1.1 then let b:=set (replicate 1 (zero a1m)) 0 (a.2.2.2.2.2.1.1,((0,0),(0,0),(0,0),(0,0),(0,0),(0,0),(0,0),(0,0),(0,0),(0,0),(0,0),(0,0),(0,0),()),());bif a0j (length a.2.2.2.2.1+length b) then f ((((),(),(),wrap .i64 (a.1.2.2.2.1-1),()),d.2.1,((),(),()),((),(),()),a.2.2.2.2.1++b,()))else none else let b:=set (replicate 1 (zero a1m)) 0 (a.2.2.2.2.2.1.1,a.2.2.2.2.2.1.2,());bif a0j (length a.2.2.2.2.1+length b) then f ((((),(),(),wrap .i64 (a.1.2.2.2.1-1),()),d.2.1,((),(),()),((),(),()),a.2.2.2.2.1++b,()))else none else none else none else none else none else some (((),(),(),()),v.2.1,((),(),()),((),(),()),v.2.2.2.2)
def e2a (v:c6b):Nat:=v.1.2.2.2.1.natAbs+v.2.1.1.length+v.2.1.2.1.natAbs+v.2.1.2.2.1.natAbs+v.2.2.2.2.1.length+1000
def d2H (v:c6b):=a0C d2G (e2a v) v
def c6c (v):=(d2H v).isSome
def c6d (v):=(d2H v).getD default
def F74 (x:I74.den):Option (O74.den):=bif K34 (((),3,()),x.2) then let d:=G34 (((),3,()),x.2);let i:=wrap .i64 (1+d.1.1);let e:=(((),(),(),i,()),d.2.1,((),(),()),((),(),()),[],());bif c6c e then let b:=c6d e;bif K34 (((),30000,()),b.2.1,()) then let c:=G34 (((),30000,()),b.2.1,());bif K34 (((),5,()),c.2) then let g:=G34 (((),5,()),c.2);let j:=wrap .i64 (1+g.1.1);let h:=(((),(),(),c.1.1,j,()),g.2.1,((),(),()),((),(),()),b.2.2.2.2.1,[],());bif b6i h then let a:=b6j h;some ((((),(),()),()),a.2.1,a.2.2.2.2)else none else none else none else none else none
def K74 (x):=(F74 x).isSome
def G74 (x):=(F74 x).getD (a0R O74)
def m74:=(74,a0y true I74 O74 K74 G74)
noncomputable def f9Q:=gE [m34,m77] Tryz.f74 (lps:=[(3,lmX e8S d2H),(8,lmX e8P d2F),(17,lmX d6R b9c)])
theorem e2b:EvX f9Q (lp Tryz.f74 0) e8S d2G:=fun _ _=>by kernel_rfl
theorem e2c:EvX f9Q (lp Tryz.f74 1) e8P d2E:=fun _ _=>by kernel_rfl
theorem d2I:EvX f9Q (lp Tryz.f74 2) d6R b9b:=fun _ _=>by kernel_rfl
theorem e8T:a0d Tryz.prog m74:=a4a (a0z (s2 a3y a7n)) (a1n Tryz.func74 rfl rfl rfl (by kernel_rfl) (a0f (by kernel_rfl) (s3 (lX e2b e2a) (lX e2c e8Q) (lX d2I c5X)))) true fun _=>by kernel_rfl
abbrev e8U:Sg:=⟨[.ptr 0],[.box (a1U)]⟩
abbrev f9R:Sg:=⟨[.val (.flt .f64)],[.box (a1U)]⟩
def f5j (x:e8U.den):Option (f9R.den):=bif K34 (((),2,()),x.2) then let b:=G34 (((),2,()),x.2);bif K34 (((),8,()),b.2) then let a:=G34 (((),8,()),b.2);bif a.1.1==0 then let d:=wrap .i64 (b.1.1*0);let c:=nearest .f64 d;some ((a0a .quo .f64 c c,()),a.2)else bif a.1.1==1 then some ((a0a .quo .f64 4607182418800017408 (nearest .f64 (wrap .i64 (b.1.1*0))),()),a.2)else bif a.1.1==2 then some ((a0a .quo .f64 13830554455654793216 (nearest .f64 (wrap .i64 (b.1.1*0))),()),a.2)else bif a.1.1==3 then some ((a3v .f64 (nearest .f64 (wrap .i64 (b.1.1*0))),()),a.2)else bif a.1.1==4 then some ((9094988921128908188,()),a.2)else bif a.1.1==5 then some ((9223372036854775809,()),a.2)else bif a.1.1==6 then some ((4412443251819771522,()),a.2)else some ((nearest .f64 (wrap .i64 (b.1.1*0)),()),a.2)else none else none
def d6S (x):=(f5j x).isSome
def d6T (x):=(f5j x).getD (a0R f9R)
def g6j:=(146,a0y true e8U f9R d6S d6T)
theorem c6e:a0d Tryz.prog g6j:=sgE true (s1 a3y) Tryz.func146
abbrev I81:Sg:=⟨[.ptr 0,.val (.int .i64)],[.box (a1U)]⟩
abbrev O81:Sg:=⟨[.val (.flt .f64)],[.box (a1U)]⟩
def F81 (x:I81.den):Option (O81.den):=bif K77 (((),40,()),x.2) then let d:=G77 (((),40,()),x.2);bif d.1.1 then bif d6S (((),()),d.2) then some (d6T (((),()),d.2))else none else let h:=wrap .i64 ((wrap .i64 (x.1.2.1*8))+1);bif K34 (((),h,()),d.2) then let g:=G34 (((),h,()),d.2);bif K77 (((),2,()),g.2) then let e:=G77 (((),2,()),g.2);bif e.1.1 then let c:=wrap .i64 ((wrap .i64 (x.1.2.1*1000))+1);bif K34 (((),c,()),e.2) then let a:=G34 (((),c,()),e.2);bif K77 (((),2,()),a.2) then let b:=G77 (((),2,()),a.2);bif b.1.1 then some ((a3v .f64 (a0a .quo .f64 (nearest .f64 a.1.1) 4652007308841189376),()),b.2)else some ((a0a .quo .f64 (nearest .f64 a.1.1) 4652007308841189376,()),b.2)else none else none else bif K77 (((),2,()),e.2) then let c:=G77 (((),2,()),e.2);bif c.1.1 then some ((a3v .f64 (a0a .quo .f64 (nearest .f64 g.1.1) 4620693217682128896),()),c.2)else some ((a0a .quo .f64 (nearest .f64 g.1.1) 4620693217682128896,()),c.2)else none else none else none else none
def K81 (x):=(F81 x).isSome
def G81 (x):=(F81 x).getD (a0R O81)
def m81:=(81,a0y true I81 O81 K81 G81)
theorem e8V:a0d Tryz.prog m81:=sgE true (s3 a7n c6e a3y) Tryz.func81
abbrev a5n:Sg:=⟨[.ptr 0,.val (.int .i64)],[.box (a1U)]⟩
abbrev a7o:Sg:=⟨[.val (.flt .f32)],[.box (a1U)]⟩
noncomputable def e2d:=gE [m81] Tryz.f141
theorem e8W:a1g Tryz.prog e2d:=a0z (s1 e8V)
theorem f9S:a5s Tryz.prog 141 e2d (a0x Tryz.f141):=a1n Tryz.func141 rfl rfl rfl (by kernel_rfl) (a1E (by kernel_rfl))
abbrev e8X:Sg:=⟨[.ptr 0,.own (.int .i64) 1],[.box (a1U),.arr (.int .i64)]⟩
abbrev f9T:Sg:=⟨[.val (.int .i64)],[.box (a1U),.arr (.int .i64)]⟩
def e8Y (x:e8X.den):Option (f9T.den):=bif K34 (((),(length x.2.2.1:Int),()),x.2.1,()) then let a:=G34 (((),(length x.2.2.1:Int),()),x.2.1,());bif decide (0<=a.1.1)&&decide (a.1.1<(length x.2.2.1:Int)) then some ((getD x.2.2.1 (toNat a.1.1) (zero (Ty.int IntKind.i64)),()),a.2.1,x.2.2)else none else none
def d0S (x):=(e8Y x).isSome
def b6k (x):=(e8Y x).getD (a0R f9T)
def f9U:=(125,a0y true e8X f9T d0S b6k)
theorem b3V:a0d Tryz.prog f9U:=sgE true (s1 a3y) Tryz.func125
abbrev e8Z:Sg:=⟨[.ptr 0],[.box (a1U)]⟩
abbrev f9V:Sg:=⟨[.val (.int .i64)],[.box (a1U)]⟩
def f5k (x:e8Z.den):Option (f9V.den):=bif K34 (((),4,()),x.2) then let a:=G34 (((),4,()),x.2);bif a.1.1==0 then let c:=set (set (set (set (set (set (set (set (set (set (replicate 10 (zero (Ty.int IntKind.i64))) 0 (-1)) 1 0) 2 127) 3 128) 4 16383) 5 16384) 6 1000000000) 7 1000000001) 8 9223372036854775807) 9 (-9223372036854775808);let d:=(((),(),()),a.2.1,c,());bif d0S d then let b:=b6k d;some (b.1,b.2.1,())else none else bif a.1.1==1 then bif K34 (((),1000000000,()),a.2) then some (G34 (((),1000000000,()),a.2))else none else bif K34 (((),400,()),a.2) then some (G34 (((),400,()),a.2))else none else none
def d6U (x):=(f5k x).isSome
def d6V (x):=(f5k x).getD (a0R f9V)
def e9a:=(142,a0y true e8Z f9V d6U d6V)
theorem b3W:a0d Tryz.prog e9a:=sgE true (s2 a3y b3V) Tryz.func142
abbrev I75:Sg:=⟨[.ptr 0],[.box (a1U)]⟩
abbrev O75:Sg:=⟨[.own (S68) 1],[.box (a1U),.arr (S68)]⟩
abbrev b0y:Type:=ty5×ty3×b1P×Unit
abbrev d6W:Type:=a4i×ty3×b1P×Unit
def d6X:LX:=⟨[0,4],[],3,[4],[],⟨[(0,om1),(4,.one (.ref (S68) 1))],[(0,bx0),(1,.arr (S68))],2,1⟩,⟨[(4,.one (.ref (S68) 1))],[(0,bx0),(1,.arr (S68))],2,1⟩⟩
def b9d (f:b0y->Option (d6W)) (v:b0y):Option (d6W):=bif K34 (((),2,()),v.2.1,()) then let a:=G34 (((),2,()),v.2.1,());let b:=(length v.2.2.1:Int);bif decide (b<(wrap .i64 (12+a.1.1))) then bif decide (0<=0)&&decide (0<b) then let c:=set (replicate 1 (zero S68)) 0 ({ data:=#[115] }++(a7C (set (replicate 1 (zero (Ty.int IntKind.u8))) 0 (wrap .u8 (wrap .i64 (97+b))))),(getD v.2.2.1 (toNat 0) (zero S68)).2);bif a0j (length v.2.2.1+length c) then f ((((),(),()),a.2.1,v.2.2.1++c,()))else none else none else some (((),()),a.2.1,v.2.2)else none
def d6Y (v:b0y):Nat:=v.2.1.1.length+v.2.1.2.1.natAbs+v.2.1.2.2.1.natAbs+v.2.2.1.length+1000
def b9e (v:b0y):=a0C b9d (d6Y v) v
def c6f (v):=(b9e v).isSome
def b1X (v):=(b9e v).getD default
abbrev c2i:Type:=d5z×ty3×d1X×b1P×Unit
abbrev e9b:Type:=ty5×ty3×b1P×Unit
def e9c:LX:=⟨[0,3,4,5],[],0,[0,4],[],⟨[(0,om1),(3,.one (.ref (.str) 1)),(4,.one (.ref (S68) 2)),(5,om0)],[(0,bx0),(1,.arr (.str)),(2,.arr (S68))],3,1⟩,⟨[(0,om1),(4,.one (.ref (S68) 1))],[(0,bx0),(1,.arr (S68))],2,1⟩⟩
def d2J (f:c2i->Option (e9b)) (v:c2i):Option (e9b):=bif decide (v.1.2.2.2.1>0) then bif K34 (((),16,()),v.2.1,()) then let a:=G34 (((),16,()),v.2.1,());bif K34 (((),100,()),a.2) then let d:=(length v.2.2.2.1:Int);bif decide (0<=d)&&decide (d<(length v.2.2.1:Int)) then let e:=G34 (((),100,()),a.2);bif K34 (((),14,()),e.2) then let g:=G34 (((),14,()),e.2);bif K34 (((),81,()),g.2) then let h:=G34 (((),81,()),g.2);bif K77 (((),4,()),h.2) then let i:=G77 (((),4,()),h.2);bif i.1.1 then let b:=set (replicate 1 (zero S68)) 0 (getD v.2.2.1 (toNat d) (zero Ty.str),0,a0a .add .f32 (nearest .f32 a.1.1) (nearest .f32 (wrap .i64 (2+g.1.1))),0,180,());bif a0j (length v.2.2.2.1+length b) then f ((((),(),(),wrap .i64 (v.1.2.2.2.1-1),()),i.2.1,v.2.2.1,v.2.2.2.1++b,()))else none else let c:=set (replicate 1 (zero S68)) 0 (getD v.2.2.1 (toNat d) (zero Ty.str),nearest .f32 a.1.1,a0a .add .f32 (nearest .f32 a.1.1) (nearest .f32 (wrap .i64 (2+g.1.1))),e.1.1,wrap .i64 (e.1.1+h.1.1),());bif a0j (length v.2.2.2.1+length c) then f ((((),(),(),wrap .i64 (v.1.2.2.2.1-1),()),i.2.1,v.2.2.1,v.2.2.2.1++c,()))else none else none else none else none else none else none else none else some (((),(),()),v.2.1,v.2.2.2)
def e9d (v:c2i):Nat:=v.1.2.2.2.1.natAbs+v.2.1.1.length+v.2.1.2.1.natAbs+v.2.1.2.2.1.natAbs+v.2.2.1.length+v.2.2.2.1.length+1000
def d2K (v:c2i):=a0C d2J (e9d v) v
def d6Z (v):=(d2K v).isSome
def b0z (v):=(d2K v).getD default
noncomputable def e9e:=gE [m34,m77,g6i,e9a] Tryz.f75 (lps:=[(4,lmX e9c d2K),(29,lmX d6X b9e)])
theorem e2e:EvX e9e (lp Tryz.f75 0) e9c d2J:=fun _ _=>by kernel_rfl
theorem d2L:EvX e9e (lp Tryz.f75 1) d6X b9d:=fun _ _=>by kernel_rfl
theorem f9W:a1g Tryz.prog e9e:=a0z (s4 a3y a7n d6L b3W)
theorem g9F:a5s Tryz.prog 75 e9e (a0x Tryz.f75):=a1n Tryz.func75 rfl rfl rfl (by kernel_rfl) (a0f (by kernel_rfl) (s2 (lX e2e e9d) (lX d2L d6Y)))
abbrev e9f:Sg:=⟨[.ptr 0,.val (S33),.val (.int .i64)],[.box (a1U)]⟩
abbrev f9X:Sg:=⟨[.val (S33)],[.box (a1U)]⟩
def f5l (x:e9f.den):Option (f9X.den):=let a:=wrap .i64 ((wrap .i64 (2*x.1.2.2.1))+1);bif K34 (((),a,()),x.2) then let b:=G34 (((),a,()),x.2);bif K34 (((),a,()),b.2) then let c:=G34 (((),a,()),b.2);some (((wrap .i64 ((wrap .i64 (x.1.2.1.1+b.1.1))-x.1.2.2.1),wrap .i64 ((wrap .i64 (x.1.2.1.2.1+c.1.1))-x.1.2.2.1),()),()),c.2)else none else none
def e9g (x):=(f5l x).isSome
def d2M (x):=(f5l x).getD (a0R f9X)
def g6k:=(143,a0y true e9f f9X e9g d2M)
theorem e9h:a0d Tryz.prog g6k:=sgE true (s1 a3y) Tryz.func143
abbrev e9i:Sg:=⟨[.ptr 0],[.box (a1U)]⟩
abbrev f9Y:Sg:=⟨[.val (S33)],[.box (a1U)]⟩
def f9Z (x:e9i.den):Option (f9Y.den):=bif K77 (((),40,()),x.2) then let b:=G77 (((),40,()),x.2);bif b.1.1 then let i:=set (set (set (set (replicate 4 (zero (Ty.int IntKind.i64))) 0 10000) 1 (-10000)) 2 10001) 3 9223372036854775807;bif d0S (((),(),()),b.2.1,i,()) then let h:=b6k (((),(),()),b.2.1,i,());let a:=set (set (set (replicate 3 (zero (Ty.int IntKind.i64))) 0 10000) 1 0) 2 (-10001);bif d0S (((),(),()),h.2.1,a,()) then let c:=b6k (((),(),()),h.2.1,a,());some (((h.1.1,c.1),()),c.2.1,())else none else none else let j:=set (set (set (replicate 3 (zero (Ty.int IntKind.i64))) 0 4) 1 20) 2 400;bif d0S (((),(),()),b.2.1,j,()) then let d:=b6k (((),(),()),b.2.1,j,());let g:=wrap .i64 ((wrap .i64 (2*d.1.1))+1);bif K34 (((),g,()),d.2.1,()) then let a:=G34 (((),g,()),d.2.1,());bif K34 (((),g,()),a.2) then let e:=G34 (((),g,()),a.2);some (((wrap .i64 (a.1.1-d.1.1),wrap .i64 (e.1.1-d.1.1),()),()),e.2)else none else none else none else none
def e2f (x):=(f9Z x).isSome
def d7a (x):=(f9Z x).getD (a0R f9Y)
def g6l:=(189,a0y true e9i f9Y e2f d7a)
theorem d7b:a0d Tryz.prog g6l:=sgE true (s3 a7n b3V a3y) Tryz.func189
abbrev e9j:Sg:=⟨[.ptr 0],[.box (a1U)]⟩
abbrev g0a:Sg:=⟨[.val (S35)],[.box (a1U)]⟩
def f5m (x:e9j.den):Option (g0a.den):=bif e2f (((),()),x.2) then let a:=d7a (((),()),x.2);bif e2f (((),()),a.2) then let b:=d7a (((),()),a.2);some (((a.1.1,b.1),()),b.2)else none else none
def g0b (x):=(f5m x).isSome
def g0c (x):=(f5m x).getD (a0R g0a)
def g6m:=(144,a0y true e9j g0a g0b g0c)
theorem e9k:a0d Tryz.prog g6m:=sgE true (s1 d7b) Tryz.func144
abbrev I76:Sg:=⟨[.ptr 0],[.box (a1U)]⟩
abbrev O76:Sg:=⟨[.val (S38)],[.box (a1U)]⟩
abbrev a9d:Type:=a7l×f4x
abbrev d7c:Type:=ty5×f4x
def d7d:LX:=⟨[0,2,3],[],3,[2,3],[],⟨li7,li6,4,1⟩,⟨li8,li6,4,1⟩⟩
def b9f (f:a9d->Option (d7c)) (v:a9d):Option (d7c):=bif K34 (((),2,()),v.2.1,()) then let a:=G34 (((),2,()),v.2.1,());let b:=(length v.2.2.2.2.1:Int);bif decide (b<(wrap .i64 (20+a.1.1))) then let c:=set (replicate 1 (zero a2n)) 0 ((b,1000,()),false,());bif a0j (length v.2.2.2.2.1+length c) then f ((((),(),(),()),a.2.1,v.2.2.1,v.2.2.2.1,v.2.2.2.2.1++c,()))else none else some (((),(),()),a.2.1,v.2.2)else none
def d7e (v:a9d):Nat:=v.2.1.1.length+v.2.1.2.1.natAbs+v.2.1.2.2.1.natAbs+v.2.2.1.1.natAbs+v.2.2.1.2.1.natAbs+v.2.2.1.2.2.1.natAbs+v.2.2.1.2.2.2.1.natAbs+v.2.2.1.2.2.2.2.2.1.natAbs+v.2.2.1.2.2.2.2.2.2.1.natAbs+v.2.2.1.2.2.2.2.2.2.2.1.natAbs+v.2.2.1.2.2.2.2.2.2.2.2.1.natAbs+v.2.2.2.1.1.natAbs+v.2.2.2.1.2.1.natAbs+v.2.2.2.1.2.2.1.natAbs+v.2.2.2.1.2.2.2.1.natAbs+v.2.2.2.1.2.2.2.2.2.1.natAbs+v.2.2.2.1.2.2.2.2.2.2.1.natAbs+v.2.2.2.1.2.2.2.2.2.2.2.1.natAbs+v.2.2.2.1.2.2.2.2.2.2.2.2.1.natAbs+v.2.2.2.2.1.length+1000
def b9g (v:a9d):=a0C b9f (d7e v) v
def c6g (v):=(b9g v).isSome
def b6l (v):=(b9g v).getD default
abbrev c6h:Type:=d5z×f4x
abbrev e9l:Type:=a7l×f4x
def e9m:LX:=⟨[0,2,3,4],[.boxNil 3 4],0,[0,2,3],[],⟨[(0,om1),(2,om3),(3,om4),(4,om0)],li6,4,1⟩,⟨li7,li6,4,1⟩⟩
def d2N (f:c6h->Option (e9l)) (v:c6h):Option (e9l):=bif decide (v.1.2.2.2.1>0) then let e:=wrap .i64 (100*Int.tmod (length v.2.2.2.2.1:Int) 2);let b:=(((),(e,0,()),40,()),v.2.1,());bif e9g b then let a:=d2M b;bif K77 (((),2,()),a.2) then let c:=G77 (((),2,()),a.2);let d:=set (replicate 1 (zero a2n)) 0 (a.1.1,c.1);bif a0j (length v.2.2.2.2.1+length d) then f ((((),(),(),wrap .i64 (v.1.2.2.2.1-1),()),c.2.1,v.2.2.1,v.2.2.2.1,v.2.2.2.2.1++d,()))else none else none else none else some (((),(),(),()),v.2)
def e9n (v:c6h):Nat:=v.1.2.2.2.1.natAbs+v.2.1.1.length+v.2.1.2.1.natAbs+v.2.1.2.2.1.natAbs+v.2.2.1.1.natAbs+v.2.2.1.2.1.natAbs+v.2.2.1.2.2.1.natAbs+v.2.2.1.2.2.2.1.natAbs+v.2.2.1.2.2.2.2.2.1.natAbs+v.2.2.1.2.2.2.2.2.2.1.natAbs+v.2.2.1.2.2.2.2.2.2.2.1.natAbs+v.2.2.1.2.2.2.2.2.2.2.2.1.natAbs+v.2.2.2.1.1.natAbs+v.2.2.2.1.2.1.natAbs+v.2.2.2.1.2.2.1.natAbs+v.2.2.2.1.2.2.2.1.natAbs+v.2.2.2.1.2.2.2.2.2.1.natAbs+v.2.2.2.1.2.2.2.2.2.2.1.natAbs+v.2.2.2.1.2.2.2.2.2.2.2.1.natAbs+v.2.2.2.1.2.2.2.2.2.2.2.2.1.natAbs+v.2.2.2.2.1.length+1000
def d2O (v:c6h):=a0C d2N (e9n v) v
def e9o (v):=(d2O v).isSome
def c6i (v):=(d2O v).getD default
def F76 (x:I76.den):Option (O76.den):=bif K34 (((),9,()),x.2) then let g:=G34 (((),9,()),x.2);bif K34 (((),3,()),g.2) then let h:=G34 (((),3,()),g.2);let n:=wrap .i64 (1+h.1.1);let o:=wrap .i64 (g.1.1-4);let i:=(((),(),(),n,()),h.2.1,(0,0,0,0,(),0,0,0,0,()),(0,-20,o,20,(),0,0,0,0,()),[],());bif e9o i then let a:=c6i i;let j:=(((),(50,-20,()),20,()),a.2.1,());bif e9g j then let e:=d2M j;let k:=(((),(50,20,()),20,()),e.2);bif e9g k then let d:=d2M k;bif K34 (((),20,()),d.2) then let b:=G34 (((),20,()),d.2);bif b.1.1==0 then some (((((a.2.2.2.1.1,a.2.2.2.1.2.1,()),(a.2.2.2.1.2.2.1,a.2.2.2.1.2.2.2.1,()),()),replicate 0 (zero a2n),(e.1.1,d.1),()),()),b.2)else bif b.1.1==1 then bif decide (0<=0)&&decide (0<(length a.2.2.2.2.1:Int)) then let l:=(a.2.2.2.1.1,a.2.2.2.1.2.1,());some ((((l,(a.2.2.2.1.2.2.1,a.2.2.2.1.2.2.2.1,()),()),set a.2.2.2.2.1 (toNat 0) (l,(getD a.2.2.2.2.1 (toNat 0) (zero a2n)).2),(e.1.1,d.1),()),()),b.2)else none else bif b.1.1==2 then bif g0b (((),()),b.2) then let c:=g0c (((),()),b.2);some (((c.1.1,a.2.2.2.2.1,(e.1.1,d.1),()),()),c.2)else none else bif b.1.1==3 then some (((((a.2.2.2.1.1,a.2.2.2.1.2.1,()),(a.2.2.2.1.2.2.1,a.2.2.2.1.2.2.2.1,()),()),a.2.2.2.2.1,(d.1.1,d.1),()),()),b.2)else bif b.1.1==4 then let m:=(((),(),(),()),b.2.1,(a.2.2.1.1,a.2.2.1.2.1,a.2.2.1.2.2.1,a.2.2.1.2.2.2.1,(),a.2.2.1.2.2.2.2.2),(a.2.2.2.1.1,a.2.2.2.1.2.1,a.2.2.2.1.2.2.1,a.2.2.2.1.2.2.2.1,(),e.1.1.1,e.1.1.2.1,d.1.1),a.2.2.2.2);bif c6g m then let c:=b6l m;some (((((c.2.2.2.1.1,c.2.2.2.1.2.1,()),(c.2.2.2.1.2.2.1,c.2.2.2.1.2.2.2.1,()),()),c.2.2.2.2.1,((c.2.2.2.1.2.2.2.2.2.1,c.2.2.2.1.2.2.2.2.2.2.1,()),c.2.2.2.1.2.2.2.2.2.2.2,()),()),()),c.2.1,())else none else some (((((a.2.2.2.1.1,a.2.2.2.1.2.1,()),(a.2.2.2.1.2.2.1,a.2.2.2.1.2.2.2.1,()),()),a.2.2.2.2.1,(e.1.1,d.1),()),()),b.2)else none else none else none else none else none else none
def K76 (x):=(F76 x).isSome
def G76 (x):=(F76 x).getD (a0R O76)
def m76:=(76,a0y true I76 O76 K76 G76)
noncomputable def g6n:=gE [m34,g6k,m77,g6m] Tryz.f76 (lps:=[(3,lmX e9m d2O),(18,lmX d7d b9g)]) (rown:=[.frzBox 2])
theorem e2g:EvX g6n (lp Tryz.f76 0) e9m d2N:=fun _ _=>by kernel_rfl
theorem d2P:EvX g6n (lp Tryz.f76 1) d7d b9f:=fun _ _=>by kernel_rfl
theorem g0d:a0d Tryz.prog m76:=a4a (a0z (s4 a3y e9h a7n e9k)) (a1n Tryz.func76 rfl rfl rfl (by kernel_rfl) (a0f (by kernel_rfl) (s2 (lX e2g e9n) (lX d2P d7e)))) true fun _=>by kernel_rfl
abbrev I33:Sg:=⟨[.ptr 0,.val (.int .i64)],[.box (a1U)]⟩
abbrev O33:Sg:=⟨[.val (.cpx .f64)],[.box (a1U)]⟩
def F33 (x:I33.den):Option (O33.den):=bif K81 (((),x.1.2),x.2) then let a:=G81 (((),x.1.2),x.2);bif K81 (((),x.1.2),a.2) then let b:=G81 (((),x.1.2),a.2);some (((a.1.1,b.1.1),()),b.2)else none else none
def K33 (x):=(F33 x).isSome
def G33 (x):=(F33 x).getD (a0R O33)
def m33:=(33,a0y true I33 O33 K33 G33)
theorem e9p:a0d Tryz.prog m33:=sgE true (s1 e8V) Tryz.func33
abbrev f5n:Ty:=.cons (.slice (.int .u8)) (.nil)
abbrev g0e:Ty:=.cons (.cpx .f64) (.nil)
def f5o (x:Den f5n):OD g0e:=bif K30 (x,()) then let d:=G30 (x,());bif K33 (((),1000,()),d.2) then let b:=G33 (((),1000,()),d.2);bif K34 (((),6,()),b.2) then let a:=G34 (((),6,()),b.2);bif a.1.1==0 then some ((4726483295884279808,13949855332739055616),())else bif a.1.1==1 then some ((b.1.1.1,4726483295884279809),())else bif a.1.1==2 then bif d6S (((),()),a.2) then let c:=d6T (((),()),a.2);bif d6S (((),()),c.2) then some ((c.1.1,(d6T (((),()),c.2)).1.1),())else none else none else some b.1 else none else none else none
def g0f (x):=(f5o x).isSome
def g6o (x):=(f5o x).getD (zero g0e)
def g6p:=(145,a0b f5n g0e g0f g6o)
theorem e9q:a0d Tryz.prog g6p:=fnE (s4 e8I e9p a3y c6e) Tryz.func145
abbrev a9K:Sg:=⟨[.ptr 0],[.box (a1U)]⟩
abbrev b2E:Sg:=⟨[.val (.cpx .f32)],[.box (a1U)]⟩
noncomputable def e2h:=gE [m77,g6j,f9U] Tryz.f128
theorem e9r:a1g Tryz.prog e2h:=a0z (s3 a7n c6e b3V)
theorem g0g:a5s Tryz.prog 128 e2h (a0x Tryz.f128):=a1n Tryz.func128 rfl rfl rfl (by kernel_rfl) (a1E (by kernel_rfl))
abbrev I79:Sg:=⟨[.ptr 0],[.box (a1U)]⟩
abbrev O79:Sg:=⟨[.val (S30)],[.box (a1U)]⟩
abbrev b3X:Type:=a7l×f4C
abbrev d7f:Type:=ty5×f4C
def d7g:LX:=⟨[0,2,3],[],1,[2,3],[],⟨li7,li4,5,1⟩,⟨li8,li4,5,1⟩⟩
def b9h (f:b3X->Option (d7f)) (v:b3X):Option (d7f):=bif K34 (((),2,()),v.2.1,()) then let a:=G34 (((),2,()),v.2.1,());let b:=(length v.2.2.2.2.1:Int);bif decide (b<(wrap .i64 (20+a.1.1))) then bif decide (0<=0)&&decide (0<b) then let c:=set (replicate 1 (zero a1m)) 0 (getD v.2.2.2.2.1 (toNat 0) (zero a1m));bif a0j (length v.2.2.2.2.1+length c) then f ((((),(),(),()),a.2.1,((),(),()),((),(),()),v.2.2.2.2.1++c,v.2.2.2.2.2))else none else none else some (((),(),()),a.2.1,((),(),()),((),(),()),v.2.2.2.2)else none
def c6j (v:b3X):Nat:=v.2.1.1.length+v.2.1.2.1.natAbs+v.2.1.2.2.1.natAbs+v.2.2.2.2.1.length+v.2.2.2.2.2.1.length+1000
def b9i (v:b3X):=a0C b9h (c6j v) v
def b6m (v):=(b9i v).isSome
def b6n (v):=(b9i v).getD default
noncomputable def f5p:=gE [m74,m34,m82,g6p,e9a] Tryz.f79 (lps:=[(15,lmX d7g b9i)]) (rown:=[.frzBox 2])
theorem d2Q:EvX f5p (lp Tryz.f79 0) d7g b9h:=fun _ _=>by kernel_rfl
theorem g0h:a1g Tryz.prog f5p:=a0z (s5 e8T a3y e8J e9q b3W)
theorem g9G:a5s Tryz.prog 79 f5p (a0x Tryz.f79):=a1n Tryz.func79 rfl rfl rfl (by kernel_rfl) (a0f (by kernel_rfl) (s1 (lX d2Q c6j)))
abbrev I67:Sg:=⟨[.ptr 0,.val (S40)],[.box (a1U)]⟩
abbrev O67:Sg:=⟨[.val (.str)],[.box (a1U)]⟩
def F67 (x:I67.den):Option (O67.den):=bif K34 (((),12,()),x.2) then let b:=G34 (((),12,()),x.2);bif b.1.1==0 then bif K34 (((),365,()),b.2) then let a:=G34 (((),365,()),b.2);bif b3L a.1 then let c:=a7m a.1;bif decide (ByteArray.size { data:=#[115,116,101,101,114,32] }+ByteArray.size c.1<=9223372036854775807) then some (({ data:=#[115,116,101,101,114,32] }++c.1,()),a.2)else none else none else none else bif b.1.1==1 then bif K34 (((),365,()),b.2) then let a:=G34 (((),365,()),b.2);bif b3L a.1 then let c:=a7m a.1;bif decide (ByteArray.size { data:=#[115,116,101,101,114,32] }+ByteArray.size c.1<=9223372036854775807) then some (({ data:=#[115,116,101,101,114,32] }++c.1,()),a.2)else none else none else none else bif b.1.1==2 then bif K34 (((),25,()),b.2) then let a:=G34 (((),25,()),b.2);let c:=wrap .i64 ((wrap .i64 (1000*a.1.1))-12000);bif K83 (c,()) then let h:=G83 (c,());bif decide (ByteArray.size { data:=#[119,105,110,100,32] }+ByteArray.size h.1<=9223372036854775807) then let k:={ data:=#[119,105,110,100,32] }++h.1;bif decide (ByteArray.size k+ByteArray.size { data:=#[32] }<=9223372036854775807) then bif K34 (((),49,()),a.2) then let d:=G34 (((),49,()),a.2);let e:=wrap .i64 ((wrap .i64 (500*d.1.1))-12000);bif K83 (e,()) then let i:=k++{ data:=#[32] };let g:=G83 (e,());bif decide (ByteArray.size i+ByteArray.size g.1<=9223372036854775807) then some ((i++g.1,()),d.2)else none else none else none else none else none else none else none else bif b.1.1==3 then bif K34 (((),25,()),b.2) then let a:=G34 (((),25,()),b.2);let c:=wrap .i64 ((wrap .i64 (1000*a.1.1))-12000);bif K83 (c,()) then let h:=G83 (c,());bif decide (ByteArray.size { data:=#[119,105,110,100,32] }+ByteArray.size h.1<=9223372036854775807) then let k:={ data:=#[119,105,110,100,32] }++h.1;bif decide (ByteArray.size k+ByteArray.size { data:=#[32] }<=9223372036854775807) then bif K34 (((),49,()),a.2) then let d:=G34 (((),49,()),a.2);let e:=wrap .i64 ((wrap .i64 (500*d.1.1))-12000);bif K83 (e,()) then let i:=k++{ data:=#[32] };let g:=G83 (e,());bif decide (ByteArray.size i+ByteArray.size g.1<=9223372036854775807) then some ((i++g.1,()),d.2)else none else none else none else none else none else none else none else bif b.1.1==4 then let o:=(length x.1.2.1.2.2.1:Int);bif decide (o>0) then bif K77 (((),5,()),b.2) then let a:=G77 (((),5,()),b.2);bif !a.1.1 then bif K34 (((),o,()),a.2) then let c:=G34 (((),o,()),a.2);bif decide (0<=c.1.1)&&decide (c.1.1<o) then let j:=getD x.1.2.1.2.2.1 (toNat c.1.1) (zero S68);bif decide (ByteArray.size { data:=#[115,97,105,108,32] }+ByteArray.size j.1<=9223372036854775807) then some (({ data:=#[115,97,105,108,32] }++j.1,()),c.2)else none else none else none else some (({ data:=#[115,97,105,108,32] }++{ data:=#[110,111,110,101] },()),a.2)else none else some (({ data:=#[115,97,105,108,32] }++{ data:=#[110,111,110,101] },()),b.2)else bif b.1.1==5 then let p:=(length x.1.2.1.2.2.1:Int);bif decide (p>0) then bif K77 (((),5,()),b.2) then let a:=G77 (((),5,()),b.2);bif !a.1.1 then bif K34 (((),p,()),a.2) then let c:=G34 (((),p,()),a.2);bif decide (0<=c.1.1)&&decide (c.1.1<p) then let j:=getD x.1.2.1.2.2.1 (toNat c.1.1) (zero S68);bif decide (ByteArray.size { data:=#[115,97,105,108,32] }+ByteArray.size j.1<=9223372036854775807) then some (({ data:=#[115,97,105,108,32] }++j.1,()),c.2)else none else none else none else some (({ data:=#[115,97,105,108,32] }++{ data:=#[110,111,110,101] },()),a.2)else none else some (({ data:=#[115,97,105,108,32] }++{ data:=#[110,111,110,101] },()),b.2)else bif b.1.1==6 then bif K34 (((),200000,()),b.2) then let a:=G34 (((),200000,()),b.2);let q:=wrap .i64 (a.1.1-100000);bif K83 (q,()) then let j:=G83 (q,());bif decide (ByteArray.size { data:=#[102,105,120,32] }+ByteArray.size j.1<=9223372036854775807) then let h:={ data:=#[102,105,120,32] }++j.1;bif decide (ByteArray.size h+ByteArray.size { data:=#[32,32] }<=9223372036854775807) then bif K34 (((),200000,()),a.2) then let l:=G34 (((),200000,()),a.2);let d:=wrap .i64 (l.1.1-100000);bif K83 (d,()) then let e:=h++{ data:=#[32,32] };let m:=G83 (d,());bif decide (ByteArray.size e+ByteArray.size m.1<=9223372036854775807) then some ((e++m.1,()),l.2)else none else none else none else none else none else none else none else bif b.1.1==7 then let g:=set (set (set (set (set (set (set (set (set (set (set (set (set (set (replicate 14 (zero Ty.str)) 0 { data:=#[] }) 1 { data:=#[103,111] }) 2 { data:=#[103,111,32,48] }) 3 { data:=#[103,111,32,51,54,48,49] }) 4 { data:=#[103,111,32,49,32,50] }) 5 { data:=#[115,116,101,101,114,32,51,54,48] }) 6 { data:=#[115,116,101,101,114,32,48,48] }) 7 { data:=#[115,97,105,108] }) 8 { data:=#[119,105,110,100,32,49,32,50] }) 9 { data:=#[119,105,110,100,32,49,48,49,46,48,48,48,32,48,46,48,48,48] }) 10 { data:=#[102,105,120,32,49,48,48,48,48,46,53,48,48,32,48,46,48,48,48] }) 11 { data:=#[116,97,99,107,32,49] }) 12 { data:=#[32,115,97,105,108,32,32,110,111,110,101,32] }) 13 { data:=#[115,116,101,101,114,32,45,49] };let r:=(((),(),()),b.2.1,g,());bif e8L r then let n:=e1W r;some (n.1,n.2.1,())else none else bif K34 (((),40,()),b.2) then let a:=G34 (((),40,()),b.2);bif K34 (((),40,()),a.2) then let c:=G34 (((),40,()),a.2);let h:=wrap .i64 (1+(wrap .i64 (a.1.1*c.1.1)));bif b3L (h,()) then let l:=a7m (h,());bif decide (ByteArray.size { data:=#[103,111,32] }+ByteArray.size l.1<=9223372036854775807) then some (({ data:=#[103,111,32] }++l.1,()),c.2)else none else none else none else none else none
def K67 (x):=(F67 x).isSome
def G67 (x):=(F67 x).getD (a0R O67)
def m67:=(67,a0y true I67 O67 K67 G67)
theorem e9s:a0d Tryz.prog m67:=sgE true (s5 a3y c5F e1K a7n d6L) Tryz.func67
abbrev I35:Sg:=⟨[.ptr 0,.val (S40)],[.box (a1U)]⟩
abbrev O35:Sg:=⟨[.own (.str) 1],[.box (a1U),.arr (.str)]⟩
abbrev b3Y:Type:=d5z×ty3×(a9V×ty0×c4D×c4E×ty0×b1P×f4w)×d5y
abbrev e9t:Type:=a4i×ty3×d5y
def e9u:LX:=⟨[0,3,5,6],[],0,[5],[],⟨[(0,om1),(3,om3),(5,.one (.ref (.str) 2)),(6,om0)],[(0,bx0),(1,g5q),(2,.arr (.str))],3,1⟩,⟨[(5,.one (.ref (.str) 1))],[(0,bx0),(1,.arr (.str))],2,1⟩⟩
def d2R (f:b3Y->Option (e9t)) (v:b3Y):Option (e9t):=bif decide (v.1.2.2.2.1>0) then let a:=(((),((v.2.2.1.1,v.2.2.1.2.1,v.2.2.1.2.2.1,()),(v.2.2.1.2.2.2.1,v.2.2.1.2.2.2.2.1,()),v.2.2.1.2.2.2.2.2.1,(((v.2.2.1.2.2.2.2.2.2.1,v.2.2.1.2.2.2.2.2.2.2.1,()),(v.2.2.1.2.2.2.2.2.2.2.2.1,v.2.2.1.2.2.2.2.2.2.2.2.2.1,()),()),v.2.2.1.2.2.2.2.2.2.2.2.2.2.1,((v.2.2.1.2.2.2.2.2.2.2.2.2.2.2.1,v.2.2.1.2.2.2.2.2.2.2.2.2.2.2.2.1,()),v.2.2.1.2.2.2.2.2.2.2.2.2.2.2.2.2,()),()),()),()),v.2.1,());bif K67 a then let b:=G67 a;let c:=set (replicate 1 (zero Ty.str)) 0 b.1.1;bif a0j (length v.2.2.2.1+length c) then f ((((),(),(),wrap .i64 (v.1.2.2.2.1-1),()),b.2.1,v.2.2.1,v.2.2.2.1++c,()))else none else none else some (((),()),v.2.1,v.2.2.2)
def e9v (v:b3Y):Nat:=v.1.2.2.2.1.natAbs+v.2.1.1.length+v.2.1.2.1.natAbs+v.2.1.2.2.1.natAbs+v.2.2.1.1.length+v.2.2.1.2.1.length+v.2.2.1.2.2.1.length+v.2.2.1.2.2.2.1.length+v.2.2.1.2.2.2.2.1.length+v.2.2.1.2.2.2.2.2.1.length+v.2.2.1.2.2.2.2.2.2.1.natAbs+v.2.2.1.2.2.2.2.2.2.2.1.natAbs+v.2.2.1.2.2.2.2.2.2.2.2.1.natAbs+v.2.2.1.2.2.2.2.2.2.2.2.2.1.natAbs+v.2.2.1.2.2.2.2.2.2.2.2.2.2.1.length+v.2.2.1.2.2.2.2.2.2.2.2.2.2.2.1.natAbs+v.2.2.1.2.2.2.2.2.2.2.2.2.2.2.2.1.natAbs+v.2.2.1.2.2.2.2.2.2.2.2.2.2.2.2.2.1.natAbs+v.2.2.1.2.2.2.2.2.2.2.2.2.2.2.2.2.2.1.natAbs+v.2.2.2.1.length+1000
def d2S (v:b3Y):=a0C d2R (e9v v) v
def b3Z (v):=(d2S v).isSome
def b0A (v):=(d2S v).getD default
def F35 (x:I35.den):Option (O35.den):=bif K34 (((),33,()),x.2) then let i:=G34 (((),33,()),x.2);let l:=wrap .i64 ((wrap .i64 (500*i.1.1))-8000);bif K83 (l,()) then let m:=G83 (l,());bif decide (ByteArray.size { data:=#[119,105,110,100,32] }+ByteArray.size m.1<=9223372036854775807) then let n:={ data:=#[119,105,110,100,32] }++m.1;bif decide (ByteArray.size n+ByteArray.size { data:=#[32] }<=9223372036854775807) then bif K34 (((),33,()),i.2) then let c:=G34 (((),33,()),i.2);let d:=wrap .i64 ((wrap .i64 (500*c.1.1))-8000);bif K83 (d,()) then let a:=n++{ data:=#[32] };let b:=G83 (d,());bif decide (ByteArray.size a+ByteArray.size b.1<=9223372036854775807) then let o:=(length x.1.2.1.2.2.1:Int);bif decide (o>0) then bif decide (0<=0)&&decide (0<o) then let e:=getD x.1.2.1.2.2.1 (toNat 0) (zero S68);bif decide (ByteArray.size { data:=#[115,97,105,108,32] }+ByteArray.size e.1<=9223372036854775807) then bif K34 (((),9,()),c.2) then let g:=G34 (((),9,()),c.2);let p:=replicate 1 (zero Ty.str);let j:=(set p 0 (a++b.1))++(set p 0 ({ data:=#[115,97,105,108,32] }++e.1));let q:=(((),(),(),g.1),g.2.1,(x.1.2.1.1.1,x.1.2.1.1.2.1,x.1.2.1.1.2.2.1,x.1.2.1.2.1.1,x.1.2.1.2.1.2.1,x.1.2.1.2.2.1,x.1.2.1.2.2.2.1.1.1.1,x.1.2.1.2.2.2.1.1.1.2.1,x.1.2.1.2.2.2.1.1.2.1.1,x.1.2.1.2.2.2.1.1.2.1.2.1,x.1.2.1.2.2.2.1.2.1,x.1.2.1.2.2.2.1.2.2.1.1.1,x.1.2.1.2.2.2.1.2.2.1.1.2.1,x.1.2.1.2.2.2.1.2.2.1.2.1),j,());bif b3Z q then some (((),()),(b0A q).2)else none else none else none else none else bif K34 (((),9,()),c.2) then let h:=G34 (((),9,()),c.2);let k:=set (replicate 1 (zero Ty.str)) 0 (a++b.1);let r:=(((),(),(),h.1),h.2.1,(x.1.2.1.1.1,x.1.2.1.1.2.1,x.1.2.1.1.2.2.1,x.1.2.1.2.1.1,x.1.2.1.2.1.2.1,x.1.2.1.2.2.1,x.1.2.1.2.2.2.1.1.1.1,x.1.2.1.2.2.2.1.1.1.2.1,x.1.2.1.2.2.2.1.1.2.1.1,x.1.2.1.2.2.2.1.1.2.1.2.1,x.1.2.1.2.2.2.1.2.1,x.1.2.1.2.2.2.1.2.2.1.1.1,x.1.2.1.2.2.2.1.2.2.1.1.2.1,x.1.2.1.2.2.2.1.2.2.1.2.1),k,());bif b3Z r then some (((),()),(b0A r).2)else none else none else none else none else none else none else none else none else none
def K35 (x):=(F35 x).isSome
def G35 (x):=(F35 x).getD (a0R O35)
def m35:=(35,a0y true I35 O35 K35 G35)
noncomputable def g9H:=gE [m34,m83,m67] Tryz.f35 (lps:=[(5,lmX e9u d2S)])
theorem e2i:EvX g9H (lp Tryz.f35 0) e9u d2R:=fun _ _=>by kernel_rfl
theorem g0i:a0d Tryz.prog m35:=a4a (a0z (s3 a3y e1K e9s)) (a1n Tryz.func35 rfl rfl rfl (by kernel_rfl) (a0f (by kernel_rfl) (s1 (lX e2i e9v)))) true fun _=>by kernel_rfl
def a0c (c:List Int×Int×Int×Unit):Prop:=0<=c.2.1 /\ c.1.length<=1048576
theorem b9j (a:Int):0<=a1X .and .i64 a 255 /\ a1X .and .i64 a 255<=255:=by
 have h:(BitVec.ofInt IntKind.i64.bits a &&& BitVec.ofInt IntKind.i64.bits 255).toNat<=255:=by
  rw[BitVec.toNat_and];exact Nat.and_le_right
 have e:a1X .and .i64 a 255=IntKind.i64.wrap ((BitVec.ofInt IntKind.i64.bits a &&& BitVec.ofInt IntKind.i64.bits 255).toNat:Int):=rfl;rw[e,w64 (by omega) (by omega)];omega
theorem b4a (x:I82.den) (h:a0c x.2.1):K82 x=true:=by
 unfold K82 F82;have h1:decide (0<=x.2.1.2.1)=true:=decide_eq_true h.1;cases hc:decide (x.2.1.2.1<(x.2.1.1.length:Int))<;>simp only[h1,Bool.and_self,cond_true,cond_false,isSome_some]
theorem b4b (x:I82.den) (h:a0c x.2.1):a0c (G82 x).2.1 /\ 0<=(G82 x).1.1 /\ (G82 x).1.1<=255:=by
 unfold G82 F82;have h1:decide (0<=x.2.1.2.1)=true:=decide_eq_true h.1;have hl:=h.2;have hi:0<=x.2.1.2.1:=h.1;by_cases hlt:x.2.1.2.1<(x.2.1.1.length:Int)
 ·have hlt2:x.2.1.2.1<1048576:=by
   have:((x.2.1.1.length:Nat):Int)<=1048576:=by omega
   exact Int.lt_of_lt_of_le hlt this
  have hc:decide (x.2.1.2.1<(x.2.1.1.length:Int))=true:=decide_eq_true hlt;simp only[hc,h1,Bool.and_self,cond_true,getD_some];refine⟨⟨?_,hl⟩,(b9j _).1,(b9j _).2⟩;have hn:∀n:Int,0<=n->n<1048576->0<=IntKind.i64.wrap (n+1):=fun n h1 h2=>by rw[w64 (by omega) (by omega)];omega
  exact hn _ hi hlt2
 ·have hc:decide (x.2.1.2.1<(x.2.1.1.length:Int))=false:=decide_eq_false hlt;simp only[hc,cond_false,getD_some];exact⟨⟨hi,hl⟩,(b9j _).1,(b9j _).2⟩
theorem e2j (x:I82.den) (h:a0c x.2.1):a0c (G82 x).2.1:=(b4b x h).1
theorem b1Y {a n:Int} (h:0<=a) (hn:0<n):0<=Int.tmod a n /\ Int.tmod a n<n:=by
 rw[Int.tmod_eq_emod_of_nonneg h];exact⟨Int.emod_nonneg _ (by omega),Int.emod_lt_of_pos _ hn⟩
theorem a8i (n:Int) (c:List Int×Int×Int×Unit) (h:a0c c):∃(m:Int) (c':List Int×Int×Int×Unit),F34 (((),n,()),(c,()))=some ((m,()),(c',())) /\ a0c c' /\ 0<=m /\ (0<n->m<n):=by
 unfold F34;by_cases h0:n<=0
 ·have:decide (n<=0)=true:=decide_eq_true h0;simp only[this,cond_true];exact⟨0,c,rfl,h,by omega,fun h=>by omega⟩
 ·have e0:decide (n<=0)=false:=decide_eq_false h0;have e1:(n != 0)=true:=by simp;omega
  have k1:=b4a (((),()),(c,())) h;obtain⟨c1,l1,u1⟩:=b4b (((),()),(c,())) h;simp only[e0,cond_false,k1,cond_true,e1];generalize G82 (((),()),(c,()))=g1 at *;by_cases h2:n<=256
  ·have:decide (n<=256)=true:=decide_eq_true h2;simp only[this,cond_true];exact⟨_,g1.2.1,rfl,c1,(b1Y l1 (by omega)).1,fun _=>(b1Y l1 (by omega)).2⟩
  ·have:decide (n<=256)=false:=decide_eq_false h2;simp only[this,cond_false];have k2:=b4a (((),()),g1.2) c1;obtain⟨c2,l2,u2⟩:=b4b (((),()),g1.2) c1;simp only[k2,cond_true];generalize G82 (((),()),g1.2)=g2 at *;have k3:=b4a (((),()),g2.2) c2;obtain⟨c3,l3,u3⟩:=b4b (((),()),g2.2) c2;simp only[k3,cond_true];generalize G82 (((),()),g2.2)=g3 at *;have k4:=b4a (((),()),g3.2) c3;obtain⟨c4,l4,u4⟩:=b4b (((),()),g3.2) c3;simp only[k4,cond_true];generalize G82 (((),()),g3.2)=g4 at *;have big:∀x y z w:Int,0<=x->x<=255->0<=y->y<=255->0<=z->z<=255->0<=w->w<=255 ->
    0<=IntKind.i64.wrap (IntKind.i64.wrap (IntKind.i64.wrap (IntKind.i64.wrap (x*16777216)+IntKind.i64.wrap (y*65536))+IntKind.i64.wrap (z*256))+w):=by
    intro x y z w h1 h2 h3 h4 h5 h6 h7 h8;have w1:IntKind.i64.wrap (x*16777216)=x*16777216:=w64 (by omega) (by omega);have w2:IntKind.i64.wrap (y*65536)=y*65536:=w64 (by omega) (by omega);have w3:IntKind.i64.wrap (z*256)=z*256:=w64 (by omega) (by omega);have w4:IntKind.i64.wrap (x*16777216+y*65536)=x*16777216+y*65536:=w64 (by omega) (by omega);have w5:IntKind.i64.wrap (x*16777216+y*65536+z*256)=x*16777216+y*65536+z*256:=w64 (by omega) (by omega);rw[w1,w2,w3,w4,w5,w64 (by omega) (by omega)];omega
   have hb:=big g1.1.1 g2.1.1 g3.1.1 g4.1.1 l1 u1 l2 u2 l3 u3 l4 u4;exact⟨_,g4.2.1,rfl,c4,(b1Y hb (by omega)).1,fun _=>(b1Y hb (by omega)).2⟩
theorem a0k (x:I34.den) (h:a0c x.2.1):K34 x=true:=by
 obtain⟨m,c,he,_⟩:=a8i x.1.2.1 x.2.1 h;unfold K34;rw[show x=(((),x.1.2.1,()),(x.2.1,()))from rfl,he];rfl
theorem d7h (x:I34.den) (h:a0c x.2.1):a0c (G34 x).2.1 /\ 0<=((G34 x).1.1:Int) /\ ((0:Int)<x.1.2.1->((G34 x).1.1:Int)<x.1.2.1):=by
 obtain⟨m,c,he,h1,h2,h3⟩:=a8i x.1.2.1 x.2.1 h;unfold G34;rw[show F34 x=_ from he];exact⟨h1,h2,h3⟩
theorem a0G (x:I34.den) (h:a0c x.2.1):a0c (G34 x).2.1:=(d7h x h).1
theorem a1y (x:I77.den) (h:a0c x.2.1):K77 x=true:=by
 unfold K77 F77;simp only[a0k (((),x.1.2),x.2) h,cond_true,isSome_some]
theorem a1i (x:I77.den) (h:a0c x.2.1):a0c (G77 x).2.1:=by
 unfold G77 F77;simp only[a0k (((),x.1.2),x.2) h,cond_true,getD_some];exact a0G (((),x.1.2),x.2) h
theorem c6k (l:List Int) (c:List Int×Int×Int×Unit) (h:a0c c) (hl:0<l.length):∃(m:Int) (c':List Int×Int×Int×Unit),e8Y (((),(),()),(c,l,()))=some ((m,()),(c',l,())) /\ a0c c' /\ m∈l:=by
 obtain⟨m,c1,he,h1,h2,h3⟩:=a8i (l.length:Int) c h;unfold e8Y;have e1:decide (0<=m)=true:=decide_eq_true h2;have h4:m<(l.length:Int):=h3 (by omega);have e2:decide (m<(l.length:Int))=true:=decide_eq_true h4;simp only[K34,G34,he,isSome_some,getD_some,cond_true,e1,e2,Bool.and_self];refine⟨_,c1,rfl,h1,?_⟩;rw[a3q _ _ _ (by omega)];exact List.getElem_mem _
theorem a5W (x:e8X.den) (h:a0c x.2.1) (hl:0<x.2.2.1.length):d0S x=true:=by
 obtain⟨m,c,he,_⟩:=c6k x.2.2.1 x.2.1 h hl;unfold d0S;rw[show x=(((),(),()),(x.2.1,x.2.2.1,()))from rfl,he];rfl
theorem e2k (x:e8X.den) (h:a0c x.2.1) (hl:0<x.2.2.1.length):a0c (b6k x).2.1 /\ (b6k x).1.1∈x.2.2.1:=by
 obtain⟨m,c,he,h1,h2⟩:=c6k x.2.2.1 x.2.1 h hl;unfold b6k;rw[show e8Y x=_ from he];exact⟨h1,h2⟩
theorem a4v (x:e8X.den) (h:a0c x.2.1) (hl:0<x.2.2.1.length):a0c (b6k x).2.1:=(e2k x h hl).1
theorem d7i (code:List Int) (h:code.length<=1048576):∃c,F30 ((code,()),())=some (((),()),(c,())) /\ a0c c:=by
 have hl:∃y,d2A ((code,IntKind.i64.wrap (33211+(code.length:Int)),(0:Int),()),())=some y /\ y.1.1=code:=by
  refine a0E (q:=d2z) (fun v=>v.1.1=code /\ 0<=v.1.2.2.1 /\ v.1.2.2.1<=code.length) (fun _ r=>∃y,r=some y /\ y.1.1=code) (fun v=>((code.length:Int)-v.1.2.2.1).toNat) ?_ _ _ ⟨rfl,by simp only;omega,by simp only;omega⟩ (by simp only[e1U];omega);rintro⟨⟨l,hh,i,_⟩,_⟩ f ⟨h0,h1,h2⟩ ih;simp only at h0 h1 h2 ih;subst h0;unfold d2z;by_cases hi:i<(l.length:Int)
  ·have a1:decide (0<=i)=true:=by simp;omega
   have a2:decide (i<(l.length:Int))=true:=by simpa using hi
   have e1:IntKind.i64.wrap (i+1)=i+1:=w64 (by omega) (by omega);simp only[a1,a2,e1,Bool.and_self,cond_true];cases decide (i<4000)
   ·exact⟨_,rfl,rfl⟩
   ·exact ih ((l,_,i+1,()),()) ⟨rfl,by simp only;omega,by simp only;omega⟩ (by simp only;omega)
  ·have a2:decide (i<(l.length:Int))=false:=by simpa using hi
   simp only[a2,cond_false];exact⟨_,rfl,rfl⟩
 obtain⟨y,hy,hc⟩:=hl;unfold F30;simp only[d6J,d6K,hy,isSome_some,getD_some,cond_true];refine⟨_,rfl,?_,?_⟩
 ·exact Int.le_refl 0
 ·rw[hc];exact h
theorem d7j (x:I30.den) (h:x.1.1.length<=1048576):K30 x=true:=by
 obtain⟨c,he,_⟩:=d7i x.1.1 h;unfold K30;rw[show x=((x.1.1,()),())from rfl,he];rfl
theorem c6l (x:I30.den) (h:x.1.1.length<=1048576):a0c (G30 x).2.1:=by
 obtain⟨c,he,h1⟩:=d7i x.1.1 h;unfold G30;rw[show F30 x=_ from he];exact h1
theorem cu {c} (h:a0c c:=by(repeat ((try dsimp only);first|assumption|(with_reducible first|apply G142_cur|apply G81_cur|apply G146_cur|apply a0G|apply a1i|apply G144_cur|apply G189_cur|apply G143_cur|apply G33_cur)))):a0c c:=h
noncomputable def g6q:a7H:=mkN [] []
noncomputable def e9w (h:a7o.den->Option Unit) (x:a5n.den):Option Unit:=bif K81 (((),x.1.2),x.2) then let a:=G81 (((),x.1.2),x.2);bif a1Q a.1.1 then let b:=a0u .f64 .f32 a.1.1;bif b.1 then h (((b.2,()),a.2))else none else a3a fun(z6:a8S)=>h (((z6.1,()),a.2))else none
theorem e9x (h x) :a2T (e2d) (g6q) (a0x Tryz.f141) a5n a7o h x=e9w h x:=by kernel_rfl
noncomputable def g6r (p141:KI a5n) (Q141:QI a5n a7o) (e141:Nonempty (Ch a5n a7o p141 Q141)):a7H:=mkN [(141,a2K true a5n a7o p141 Q141 e141)] []
noncomputable def e9y (p141:KI a5n) (Q141:QI a5n a7o) (e141:Nonempty (Ch a5n a7o p141 Q141)) (h:b2E.den->Option Unit) (x:a9K.den):Option Unit:=bif K77 (((),30,()),x.2) then let c:=G77 (((),30,()),x.2);bif c.1.1 then bif d6S (((),()),c.2) then let b:=d6T (((),()),c.2);bif a1Q b.1.1 then let g:=a0u .f64 .f32 b.1.1;bif g.1 then bif d6S (((),()),b.2) then let a:=d6T (((),()),b.2);bif a1Q a.1.1 then let j:=a0u .f64 .f32 a.1.1;bif j.1 then h ((((g.2,j.2),()),a.2))else none else a3a fun(z16:a8S)=>h ((((g.2,z16.1),()),a.2))else none else none else a3a fun(z10:a8S)=>bif d6S (((),()),b.2) then let a:=d6T (((),()),b.2);bif a1Q a.1.1 then let k:=a0u .f64 .f32 a.1.1;bif k.1 then h ((((z10.1,k.2),()),a.2))else none else a3a fun(z16:a8S)=>h ((((z10.1,z16.1),()),a.2))else none else none else bif K77 (((),20,()),c.2) then let b:=G77 (((),20,()),c.2);bif b.1.1 then let d:=set (set (set (set (replicate 4 (zero (Ty.int IntKind.i64))) 0 100) 1 (-100)) 2 101) 3 0;bif d0S (((),(),()),b.2.1,d,()) then a3a fun(c141_12:Ch a5n a7o p141 Q141)=>let i:=b6k (((),(),()),b.2.1,d,());bif p141 (((),100,()),i.2.1,()) then let e:=c141_12.val (((),100,()),i.2.1,());h ((((nearest .f32 i.1.1,e.1.1),()),e.2))else none else none else a3a fun(c141_10:Ch a5n a7o p141 Q141)=>bif p141 (((),15,()),b.2) then a3a fun(c141_14:Ch a5n a7o p141 Q141)=>let a:=c141_10.val (((),15,()),b.2);bif p141 (((),15,()),a.2) then let d:=c141_14.val (((),15,()),a.2);h ((((a.1.1,d.1.1),()),d.2))else none else none else none else none
theorem e9z (p141 Q141 e141 h x) :a2T (e2h) (g6r p141 Q141 e141) (a0x Tryz.f128) a9K b2E h x=e9y p141 Q141 e141 h x:=by kernel_rfl
noncomputable def N75 (p141:KI a5n) (Q141:QI a5n a7o) (e141:Nonempty (Ch a5n a7o p141 Q141)):a7H:=mkN [(141,a2K true a5n a7o p141 Q141 e141)] []
noncomputable def g6s (p141:KI a5n) (Q141:QI a5n a7o) (e141:Nonempty (Ch a5n a7o p141 Q141)) (h:O75.den->Option Unit) (x:I75.den):Option Unit:=bif K34 (((),5,()),x.2) then let k:=G34 (((),5,()),x.2);let o:=wrap .i64 (1+k.1.1);let p:=set (set (set (set (set (set (replicate 6 (zero Ty.str)) 0 { data:=#[109,97,105,110] }) 1 { data:=#[106,105,98] }) 2 { data:=#[103,101,110,111,97] }) 3 { data:=#[115,116,111,114,109] }) 4 { data:=#[99,111,100,101] }) 5 { data:=#[107,105,116,101] };let l:=(((),(),(),o,()),k.2.1,p,replicate 0 (zero S68),());bif d6Z l then let c:=b0z l;let g:=(length c.2.2.1:Int);bif K34 (((),g,()),c.2.1,()) then let a:=G34 (((),g,()),c.2.1,());bif K34 (((),24,()),a.2) then let b:=G34 (((),24,()),a.2);bif b.1.1==0 then bif decide (0<=0)&&decide (0<g) then let j:=set (set (set (set (set (replicate 5 (zero Ty.str)) 0 { data:=#[] }) 1 { data:=#[74,105,98] }) 2 { data:=#[97,98,99,100,101,102,103,104,105,106,107,108,109,110,111,112,113] }) 3 { data:=#[97,98,99,100,101,102,103,104,105,106,107,108,109,110,111,112] }) 4 (getD c.2.2.1 (toNat 0) (zero S68)).1;let m:=(((),(),()),b.2.1,j,());bif e8L m then bif decide (0<=a.1.1)&&decide (a.1.1<g) then let i:=e1W m;h ((((),()),i.2.1,set c.2.2.1 (toNat a.1.1) (i.1.1,(getD c.2.2.1 (toNat a.1.1) (zero S68)).2),()))else none else none else none else bif b.1.1==1 then a3a fun(c141_14:Ch a5n a7o p141 Q141)=>bif p141 (((),300,()),b.2) then bif decide (0<=a.1.1)&&decide (a.1.1<g) then let e:=c141_14.val (((),300,()),b.2);let d:=getD c.2.2.1 (toNat a.1.1) (zero S68);h ((((),()),e.2.1,set c.2.2.1 (toNat a.1.1) (d.1,e.1.1,d.2.2),()))else none else none else bif b.1.1==2 then a3a fun(c141_16:Ch a5n a7o p141 Q141)=>bif p141 (((),300,()),b.2) then bif decide (0<=a.1.1)&&decide (a.1.1<g) then let e:=c141_16.val (((),300,()),b.2);let d:=getD c.2.2.1 (toNat a.1.1) (zero S68);h ((((),()),e.2.1,set c.2.2.1 (toNat a.1.1) (d.1,d.2.1,e.1.1,d.2.2.2),()))else none else none else bif b.1.1==3 then bif d6U (((),()),b.2) then bif decide (0<=a.1.1)&&decide (a.1.1<g) then let e:=d6V (((),()),b.2);let d:=getD c.2.2.1 (toNat a.1.1) (zero S68);h ((((),()),e.2.1,set c.2.2.1 (toNat a.1.1) (d.1,d.2.1,d.2.2.1,d.2.2.2.1,wrap .i64 (e.1.1-2),()),()))else none else none else bif b.1.1==4 then bif d6U (((),()),b.2) then bif decide (0<=a.1.1)&&decide (a.1.1<g) then let e:=d6V (((),()),b.2);let d:=getD c.2.2.1 (toNat a.1.1) (zero S68);h ((((),()),e.2.1,set c.2.2.1 (toNat a.1.1) (d.1,d.2.1,d.2.2.1,wrap .i64 (e.1.1-2),d.2.2.2.2),()))else none else none else bif b.1.1==5 then h ((((),()),b.2.1,replicate 0 (zero S68),()))else bif b.1.1==6 then let n:=(((),(),()),b.2.1,c.2.2);bif c6f n then h ((((),()),(b1X n).2))else none else h ((((),()),b.2.1,c.2.2))else none else none else none else none
theorem g0j (p141 Q141 e141 h x) :a2T (e9e) (N75 p141 Q141 e141) (a0x Tryz.f75) I75 O75 h x=g6s p141 Q141 e141 h x:=by kernel_rfl
noncomputable def N79 (p128:KI a9K) (Q128:QI a9K b2E) (e128:Nonempty (Ch a9K b2E p128 Q128)):a7H:=mkN [(128,a2K true a9K b2E p128 Q128 e128)] []
noncomputable def g6t (p128:KI a9K) (Q128:QI a9K b2E) (e128:Nonempty (Ch a9K b2E p128 Q128)) (h:O79.den->Option Unit) (x:I79.den):Option Unit:=bif K74 (((),()),x.2) then let d:=G74 (((),()),x.2);let k:=(length d.2.2.1:Int);bif K34 (((),k,()),d.2.1,()) then let g:=G34 (((),k,()),d.2.1,());bif K34 (((),24,()),g.2) then let e:=G34 (((),24,()),g.2);bif e.1.1==0 then bif K82 (((),()),e.2) then let b:=G82 (((),()),e.2);let c:=set (replicate 1 (zero (Ty.int IntKind.u8))) 0 (wrap .u8 b.1.1);bif g0f (c,()) then bif decide (0<=g.1.1)&&decide (g.1.1<k) then h ((((set d.2.2.1 (toNat g.1.1) ((g6o (c,())).1,(getD d.2.2.1 (toNat g.1.1) (zero a1m)).2),d.2.2.2),()),b.2))else none else none else none else bif e.1.1==1 then a3a fun(c128_12:Ch a9K b2E p128 Q128)=>bif K34 (((),13,()),e.2) then let b:=G34 (((),13,()),e.2);bif p128 (((),()),b.2) then bif decide (0<=g.1.1)&&decide (g.1.1<k) then bif decide (0<=b.1.1)&&decide (b.1.1<(↑13:Int)) then let c:=getD d.2.2.1 (toNat g.1.1) (zero a1m);let a:=c128_12.val (((),()),b.2);let n:=0+1+1+1+1+1+1+1+1+1+1+1+1;let o:=0+1+1+1+1+1+1+1+1+1+1+1;let p:=0+1+1+1+1+1+1+1+1+1+1;let q:=0+1+1+1+1+1+1+1+1+1;let r:=0+1+1+1+1+1+1+1+1;let s:=0+1+1+1+1+1+1+1;let i:=0+1+1+1+1+1+1;h ((((set d.2.2.1 (toNat g.1.1) (c.1,((bif beq 0 (toNat b.1.1)then a.1.1.1 else c.2.1.1.1,bif beq 0 (toNat b.1.1)then a.1.1.2 else c.2.1.1.2),(bif beq (0+1) (toNat b.1.1)then a.1.1.1 else c.2.1.2.1.1,bif beq (0+1) (toNat b.1.1)then a.1.1.2 else c.2.1.2.1.2),(bif beq (0+1+1) (toNat b.1.1)then a.1.1.1 else c.2.1.2.2.1.1,bif beq (0+1+1) (toNat b.1.1)then a.1.1.2 else c.2.1.2.2.1.2),(bif beq (0+1+1+1) (toNat b.1.1)then a.1.1.1 else c.2.1.2.2.2.1.1,bif beq (0+1+1+1) (toNat b.1.1)then a.1.1.2 else c.2.1.2.2.2.1.2),(bif beq (0+1+1+1+1) (toNat b.1.1)then a.1.1.1 else c.2.1.2.2.2.2.1.1,bif beq (0+1+1+1+1) (toNat b.1.1)then a.1.1.2 else c.2.1.2.2.2.2.1.2),(bif beq (0+1+1+1+1+1) (toNat b.1.1)then a.1.1.1 else c.2.1.2.2.2.2.2.1.1,bif beq (0+1+1+1+1+1) (toNat b.1.1)then a.1.1.2 else c.2.1.2.2.2.2.2.1.2),(bif beq i (toNat b.1.1)then a.1.1.1 else c.2.1.2.2.2.2.2.2.1.1,bif beq i (toNat b.1.1)then a.1.1.2 else c.2.1.2.2.2.2.2.2.1.2),(bif beq s (toNat b.1.1)then a.1.1.1 else c.2.1.2.2.2.2.2.2.2.1.1,bif beq s (toNat b.1.1)then a.1.1.2 else c.2.1.2.2.2.2.2.2.2.1.2),(bif beq r (toNat b.1.1)then a.1.1.1 else c.2.1.2.2.2.2.2.2.2.2.1.1,bif beq r (toNat b.1.1)then a.1.1.2 else c.2.1.2.2.2.2.2.2.2.2.1.2),(bif beq q (toNat b.1.1)then a.1.1.1 else c.2.1.2.2.2.2.2.2.2.2.2.1.1,bif beq q (toNat b.1.1)then a.1.1.2 else c.2.1.2.2.2.2.2.2.2.2.2.1.2),(bif beq p (toNat b.1.1)then a.1.1.1 else c.2.1.2.2.2.2.2.2.2.2.2.2.1.1,bif beq p (toNat b.1.1)then a.1.1.2 else c.2.1.2.2.2.2.2.2.2.2.2.2.1.2),(bif beq o (toNat b.1.1)then a.1.1.1 else c.2.1.2.2.2.2.2.2.2.2.2.2.2.1.1,bif beq o (toNat b.1.1)then a.1.1.2 else c.2.1.2.2.2.2.2.2.2.2.2.2.2.1.2),(bif beq n (toNat b.1.1)then a.1.1.1 else c.2.1.2.2.2.2.2.2.2.2.2.2.2.2.1.1,bif beq n (toNat b.1.1)then a.1.1.2 else c.2.1.2.2.2.2.2.2.2.2.2.2.2.2.1.2),()),()),d.2.2.2),()),a.2))else none else none else none else none else bif e.1.1==2 then let l:=(length d.2.2.2.1:Int);bif K34 (((),l,()),e.2) then let b:=G34 (((),l,()),e.2);bif d6U (((),()),b.2) then bif decide (0<=b.1.1)&&decide (b.1.1<l) then let c:=d6V (((),()),b.2);h ((((d.2.2.1,set d.2.2.2.1 (toNat b.1.1) c.1.1,()),()),c.2))else none else none else none else bif e.1.1==3 then h ((((d.2.2.1,replicate 0 (zero (Ty.int IntKind.i64)),()),()),e.2))else bif e.1.1==4 then h ((((replicate 0 (zero a1m),d.2.2.2),()),e.2))else bif e.1.1==5 then let t:=(((),(),(),()),e.2.1,((),(),()),((),(),()),d.2.2);bif b6m t then let b:=b6n t;h (((b.2.2.2.2,()),b.2.1,()))else none else bif e.1.1==6 then let u:=(length d.2.2.2.1:Int);let m:=wrap .i64 (u-1);bif decide (0<=m)&&decide (m<u) then let j:=zero (Ty.int IntKind.i64);let a:=set (replicate 1 j) 0 (wrap .i64 ((wrap .i64 ((getD d.2.2.2.1 (toNat m) j)+21600))-1));bif a0j (length d.2.2.2.1+length a) then h ((((d.2.2.1,d.2.2.2.1++a,()),()),e.2))else none else none else h (((d.2.2,()),e.2))else none else none else none
theorem g0k (p128 Q128 e128 h x) :a2T (f5p) (N79 p128 Q128 e128) (a0x Tryz.f79) I79 O79 h x=g6t p128 Q128 e128 h x:=by kernel_rfl
abbrev A8:Ty:=.cons (.slice (.int .u8)) (.nil)
abbrev R8:Ty:=.cons (.bool) (.nil)
def F8 (x:Den A8):OD R8:=some (decide ((length x.1:Int)>1048576),())
def K8 (x):=(F8 x).isSome
def G8 (x):=(F8 x).getD (zero R8)
def m8:=(8,a0b A8 R8 K8 G8)
theorem g9I:a0d Tryz.prog m8:=fnE nS Tryz.func8
abbrev A44:Ty:=.cons (.int .i64) (.cons (.int .i64) (.cons (.int .i64) (.nil)))
abbrev R44:Ty:=.cons (.bool) (.nil)
def F44 (x:Den A44):OD R44:=bif decide (x.1 ≥ x.2.1) then some (decide (x.1<=x.2.2.1),())else some (false,())
def K44 (x):=(F44 x).isSome
def G44 (x):=(F44 x).getD (zero R44)
def m44:=(44,a0b A44 R44 K44 G44)
theorem a5X:a0d Tryz.prog m44:=fnE nS Tryz.func44
abbrev g6u:Ty:=.cons (.flt .f32) (.nil)
abbrev g0l:Ty:=.cons (.bool) (.nil)
def e9A (x:Den g6u):OD g0l:=bif fgt .f32 x.1 0||feq .f32 x.1 0 then some (flt .f32 x.1 1112014848||feq .f32 x.1 1112014848,())else some (false,())
def e2l (x):=(e9A x).isSome
def e2m (x):=(e9A x).getD (zero g0l)
def g9J:=(107,a0b g6u g0l e2l e2m)
theorem c6m:a0d Tryz.prog g9J:=fnE nS Tryz.func107
abbrev g6v:Ty:=.cons (.flt .f32) (.nil)
abbrev g0m:Ty:=.cons (.bool) (.nil)
def e9B (x:Den g6v):OD g0m:=bif e2l x then some (!(e2m x).1,())else none
def g0n (x):=(e9B x).isSome
def g0o (x):=(e9B x).getD (zero g0m)
def g6w:=(158,a0b g6v g0m g0n g0o)
theorem d7k:a0d Tryz.prog g6w:=fnE (s1 c6m) Tryz.func158
abbrev g6x:Sg:=⟨[.val (.slice (.flt .f32)),.fnv 158 []],[]⟩
abbrev g0p:Sg:=⟨[.val (.int .i64)],[]⟩
abbrev b9k:Type:=(a9V×d5A)×Unit
abbrev d7l:Type:=a4i
abbrev d7m:Type:=c4G
def d7n:LR:=⟨[0,1,7,8],[],0,[],[],⟨[(0,e1r),(1,.one (.fn 158 [])),(7,om0),(8,om0)],[],0,0⟩,⟨[],[],0,0⟩,⟨[(4,om0)],[],0,0⟩⟩
def b4c (f:b9k->Option (d7l⊕d7m)) (v:b9k):Option (d7l⊕d7m):=bif decide (v.1.2.2.2.1<v.1.2.2.1) then bif decide (0<=v.1.2.2.2.1)&&decide (v.1.2.2.2.1<(length v.1.1:Int)) then let a:=getD v.1.1 (toNat v.1.2.2.2.1) (zero (Ty.flt .f32));bif g0n (a,()) then bif (g0o (a,())).1 then some (Sum.inr (v.1.2.2.2,()))else f (((v.1.1,(),v.1.2.2.1,wrap .i64 (v.1.2.2.2.1+1),()),()))else none else none else some (Sum.inl ((),()))
def b9l (v:b9k):Nat:=v.1.1.length+v.1.2.2.1.natAbs+v.1.2.2.2.1.natAbs+1000
def b0B (v:b9k):=a0C b4c (b9l v) v
def c6n (v):=(b0B v).isSome
def c6o (v):=isR (b0B v)
def g0q (v):=xOf default (b0B v)
def c6p (v):=yOf default (b0B v)
def f5q (x:g6x.den):Option (g0p.den):=let a:=((x.1.1,(),(length x.1.1:Int),0,()),());bif c6n a then bif c6o a then some (c6p a)else some ((-1,()),())else none
def g0r (x):=(f5q x).isSome
def g0s (x):=(f5q x).getD (a0R g0p)
def g9K:=(210,a0y false g6x g0p g0r g0s)
noncomputable def g0t:=gE [g6w] Tryz.f210 (lps:=[(2,lmR d7n b0B)])
theorem d2T:EvR g0t (lp Tryz.f210 0) d7n b4c:=fun _ _=>by kernel_rfl
theorem e9C:a0d Tryz.prog g9K:=a4a (a0z (s1 d7k)) (a1n Tryz.func210 rfl rfl rfl (by kernel_rfl) (a0f (by kernel_rfl) (s1 (lR d2T b9l)))) false fun _=>by kernel_rfl
abbrev g6y:Sg:=⟨[.val (.slice (.flt .f32)),.fnv 158 []],[]⟩
abbrev g0u:Sg:=⟨[.val (.bool)],[]⟩
def e9D (x:g6y.den):Option (g0u.den):=bif g0r ((x.1.1,(),()),()) then some ((decide ((g0s ((x.1.1,(),()),())).1.1 ≥ 0),()),())else none
def g0v (x):=(e9D x).isSome
def g0w (x):=(e9D x).getD (a0R g0u)
def g6z:=(157,a0y false g6y g0u g0v g0w)
theorem e9E:a0d Tryz.prog g6z:=sgE false (s2 e9C d7k) Tryz.func157
abbrev A90:Ty:=.cons (S27) (.nil)
abbrev R90:Ty:=.cons (.bool) (.nil)
abbrev b9m:Type:=(Unit×c4D×a5w)×b8t
abbrev d7o:Type:=a4i
abbrev d7p:Type:=a5I
def d7q:LR:=⟨[1,99,100,101],[],4,[],[],⟨[(1,om1),(99,.one (.sl (.slice (.flt .f32)))),(100,om0),(101,om0)],b5w,1,0⟩,⟨[],[],0,0⟩,⟨a8Y,[],0,0⟩⟩
def b4d (f:b9m->Option (d7o⊕d7p)) (v:b9m):Option (d7o⊕d7p):=bif decide (v.1.2.2.2.1<v.1.2.2.1) then bif decide (0<=v.1.2.2.2.1)&&decide (v.1.2.2.2.1<(length v.1.2.1:Int)) then let a:=getD v.1.2.1 (toNat v.1.2.2.2.1) (zero (Ty.slice (Ty.flt .f32)));bif (length a:Int) != (length v.2.1.2.1:Int) then some (Sum.inr ((false,()),()))else bif g0v ((a,(),()),()) then bif (g0w ((a,(),()),())).1.1 then some (Sum.inr ((false,()),()))else f ((((),v.1.2.1,v.1.2.2.1,wrap .i64 (v.1.2.2.2.1+1),()),v.2))else none else none else some (Sum.inl ((),()))
def c6q (v:b9m):Nat:=v.1.2.1.length+v.1.2.2.1.natAbs+v.1.2.2.2.1.natAbs+v.2.1.1.length+v.2.1.2.1.length+v.2.1.2.2.1.length+1000
def b0C (v:b9m):=a0C b4d (c6q v) v
def c6r (v):=(b0C v).isSome
def c6s (v):=isR (b0C v)
def g0x (v):=xOf default (b0C v)
def c6t (v):=yOf default (b0C v)
abbrev b9n:Type:=(Unit×ty0×a5w)×b8t
abbrev d7r:Type:=a4i×b8t
abbrev d7s:Type:=a5I
def d7t:LR:=⟨[1,62,63,64],[],2,[1],[],⟨[(1,om1),(62,e1s),(63,om0),(64,om0)],b5w,1,0⟩,⟨[(1,om1)],b5w,1,0⟩,⟨a8Y,[],0,0⟩⟩
def b4e (f:b9n->Option (d7r⊕d7s)) (v:b9n):Option (d7r⊕d7s):=bif decide (v.1.2.2.2.1<v.1.2.2.1) then bif decide (0<=v.1.2.2.2.1)&&decide (v.1.2.2.2.1<(length v.1.2.1:Int)) then bif decide (v.1.2.2.2.1>0) then let a:=wrap .i64 (v.1.2.2.2.1-1);bif decide (0<=a)&&decide (a<(length v.2.1.2.1:Int)) then bif decide ((getD v.1.2.1 (toNat v.1.2.2.2.1) (zero (Ty.int IntKind.i64)))<=(getD v.2.1.2.1 (toNat a) (zero (Ty.int IntKind.i64)))) then some (Sum.inr ((false,()),()))else f ((((),v.1.2.1,v.1.2.2.1,wrap .i64 (v.1.2.2.2.1+1),()),v.2))else none else f ((((),v.1.2.1,v.1.2.2.1,wrap .i64 (v.1.2.2.2.1+1),()),v.2))else none else some (Sum.inl (((),()),v.2))
def c6u (v:b9n):Nat:=v.1.2.1.length+v.1.2.2.1.natAbs+v.1.2.2.2.1.natAbs+v.2.1.1.length+v.2.1.2.1.length+v.2.1.2.2.1.length+1000
def b0D (v:b9n):=a0C b4e (c6u v) v
def c6v (v):=(b0D v).isSome
def c6w (v):=isR (b0D v)
def c6x (v):=xOf default (b0D v)
def c6y (v):=yOf default (b0D v)
abbrev d2U:Type:=(Unit×a9V×a5w)×b8t
abbrev e9F:Type:=a4i×b8t
abbrev e9G:Type:=a5I
def e9H:LR:=⟨[1,31,32,33],[],0,[1],[],⟨[(1,om1),(31,e1r),(32,om0),(33,om0)],b5w,1,0⟩,⟨[(1,om1)],b5w,1,0⟩,⟨a8Y,[],0,0⟩⟩
def c6z (f:d2U->Option (e9F⊕e9G)) (v:d2U):Option (e9F⊕e9G):=bif decide (v.1.2.2.2.1<v.1.2.2.1) then bif decide (0<=v.1.2.2.2.1)&&decide (v.1.2.2.2.1<(length v.1.2.1:Int)) then let a:=getD v.1.2.1 (toNat v.1.2.2.2.1) (zero (Ty.flt .f32));bif fgt .f32 a 0 then bif !(flt .f32 a 1120403456||feq .f32 a 1120403456) then some (Sum.inr ((false,()),()))else bif decide (v.1.2.2.2.1>0) then let b:=wrap .i64 (v.1.2.2.2.1-1);bif decide (0<=b)&&decide (b<(length v.2.1.1:Int)) then bif !fgt .f32 a (getD v.2.1.1 (toNat b) (zero (Ty.flt .f32))) then some (Sum.inr ((false,()),()))else f ((((),v.1.2.1,v.1.2.2.1,wrap .i64 (v.1.2.2.2.1+1),()),v.2))else none else f ((((),v.1.2.1,v.1.2.2.1,wrap .i64 (v.1.2.2.2.1+1),()),v.2))else some (Sum.inr ((false,()),()))else none else some (Sum.inl (((),()),v.2))
def e2n (v:d2U):Nat:=v.1.2.1.length+v.1.2.2.1.natAbs+v.1.2.2.2.1.natAbs+v.2.1.1.length+v.2.1.2.1.length+v.2.1.2.2.1.length+1000
def c2j (v:d2U):=a0C c6z (e2n v) v
def d7u (v):=(c2j v).isSome
def d7v (v):=isR (c2j v)
def d7w (v):=xOf default (c2j v)
def d7x (v):=yOf default (c2j v)
def F90 (x:Den A90):OD R90:=bif K44 ((length x.1.1:Int),1,12,()) then bif !(G44 ((length x.1.1:Int),1,12,())).1 then some (false,())else bif K44 ((length x.1.2.1:Int),2,24,()) then bif !(G44 ((length x.1.2.1:Int),2,24,())).1 then some (false,())else bif (length x.1.2.2.1:Int) != (length x.1.1:Int) then some (false,())else bif d7u (((),x.1.1,(length x.1.1:Int),0,()),x) then bif d7v (((),x.1.1,(length x.1.1:Int),0,()),x) then some (d7x (((),x.1.1,(length x.1.1:Int),0,()),x)).1 else let b:=d7w (((),x.1.1,(length x.1.1:Int),0,()),x);bif c6v (((),b.2.1.2.1,(length b.2.1.2.1:Int),0,()),b.2) then bif c6w (((),b.2.1.2.1,(length b.2.1.2.1:Int),0,()),b.2) then some (c6y (((),b.2.1.2.1,(length b.2.1.2.1:Int),0,()),b.2)).1 else let a:=c6x (((),b.2.1.2.1,(length b.2.1.2.1:Int),0,()),b.2);bif decide (0<=0)&&decide (0<(length a.2.1.2.1:Int)) then bif (getD a.2.1.2.1 (toNat 0) (zero (Ty.int IntKind.i64))) != 0 then some (false,())else let c:=wrap .i64 ((length a.2.1.2.1:Int)-1);bif decide (0<=c)&&decide (c<(length a.2.1.2.1:Int)) then bif (getD a.2.1.2.1 (toNat c) (zero (Ty.int IntKind.i64))) != 180 then some (false,())else bif c6r (((),a.2.1.2.2.1,(length a.2.1.2.2.1:Int),0,()),a.2) then bif c6s (((),a.2.1.2.2.1,(length a.2.1.2.2.1:Int),0,()),a.2) then some (c6t (((),a.2.1.2.2.1,(length a.2.1.2.2.1:Int),0,()),a.2)).1 else some (true,())else none else none else none else none else none else none else none
def K90 (x):=(F90 x).isSome
def G90 (x):=(F90 x).getD (zero R90)
def m90:=(90,a0b A90 R90 K90 G90)
noncomputable def g0y:=gE [m44,g6z] Tryz.f90 (lps:=[(4,lmR e9H c2j),(10,lmR d7t b0D),(18,lmR d7q b0C)])
theorem e2o:EvR g0y (lp Tryz.f90 0) e9H c6z:=fun _ _=>by kernel_rfl
theorem d2V:EvR g0y (lp Tryz.f90 1) d7t b4e:=fun _ _=>by kernel_rfl
theorem d2W:EvR g0y (lp Tryz.f90 2) d7q b4d:=fun _ _=>by kernel_rfl
theorem e9I:a0d Tryz.prog m90:=a0w (a0z (s2 a5X e9E)) (a1n Tryz.func90 rfl rfl rfl (by kernel_rfl) (a0f (by kernel_rfl) (s3 (lR e2o e2n) (lR d2V c6u) (lR d2W c6q)))) fun _=>by kernel_rfl
abbrev A94:Ty:=.cons (.flt .f32) (.nil)
abbrev R94:Ty:=.cons (.flt .f32) (.nil)
def F94 (x:Den A94):OD R94:=bif flt .f32 x.1 0 then some (a3v .f32 x.1,())else some (x)
def K94 (x):=(F94 x).isSome
def G94 (x):=(F94 x).getD (zero R94)
def m94:=(94,a0b A94 R94 K94 G94)
theorem g0z:a0d Tryz.prog m94:=fnE nS Tryz.func94
abbrev A45:Ty:=.cons (.cpx .f32) (.nil)
abbrev R45:Ty:=.cons (.bool) (.nil)
def F45 (x:Den A45):OD R45:=bif K94 (x.1.1,()) then let a:=G94 (x.1.1,());bif flt .f32 a.1 1120403456||feq .f32 a.1 1120403456 then bif K94 (x.1.2,()) then let b:=G94 (x.1.2,());some (flt .f32 b.1 1120403456||feq .f32 b.1 1120403456,())else none else some (false,())else none
def K45 (x):=(F45 x).isSome
def G45 (x):=(F45 x).getD (zero R45)
def m45:=(45,a0b A45 R45 K45 G45)
theorem b1Z:a0d Tryz.prog m45:=fnE (s1 g0z) Tryz.func45
abbrev g6A:Ty:=.cons (.slice (.cpx .f32)) (.nil)
abbrev g0A:Ty:=.cons (.bool) (.nil)
abbrev b9o:Type:=(List (Den (.cpx .f32))×a5w)×Unit
abbrev d7y:Type:=a4i
abbrev d7z:Type:=a5I
def d7A:LR:=⟨[5,6,7],[],0,[],[],⟨[(5,.one (.sl (.cpx .f32))),(6,om0),(7,om0)],[],0,0⟩,⟨[],[],0,0⟩,⟨a8Y,[],0,0⟩⟩
def b4f (f:b9o->Option (d7y⊕d7z)) (v:b9o):Option (d7y⊕d7z):=bif decide (v.1.2.2.1<v.1.2.1) then bif decide (0<=v.1.2.2.1)&&decide (v.1.2.2.1<(length v.1.1:Int)) then let a:=getD v.1.1 (toNat v.1.2.2.1) (zero (Ty.cpx FloatKind.f32));bif K45 (a,()) then bif !(G45 (a,())).1 then some (Sum.inr ((false,()),()))else f (((v.1.1,v.1.2.1,wrap .i64 (v.1.2.2.1+1),()),()))else none else none else some (Sum.inl ((),()))
def c6A (v:b9o):Nat:=v.1.1.length+v.1.2.1.natAbs+v.1.2.2.1.natAbs+1000
def b0E (v:b9o):=a0C b4f (c6A v) v
def c6B (v):=(b0E v).isSome
def c6C (v):=isR (b0E v)
def g0B (v):=xOf default (b0E v)
def c6D (v):=yOf default (b0E v)
def e6f (x:Den g6A):OD g0A:=let a:=((x.1,(length x.1:Int),0,()),());bif c6B a then bif c6C a then some (c6D a).1 else some (true,())else none
def e9J (x):=(e6f x).isSome
def e9K (x):=(e6f x).getD (zero g0A)
def g6B:=(159,a0b g6A g0A e9J e9K)
noncomputable def g0C:=gE [m45] Tryz.f159 (lps:=[(2,lmR d7A b0E)])
theorem d2X:EvR g0C (lp Tryz.f159 0) d7A b4f:=fun _ _=>by kernel_rfl
theorem d7B:a0d Tryz.prog g6B:=a0w (a0z (s1 b1Z)) (a1n Tryz.func159 rfl rfl rfl (by kernel_rfl) (a0f (by kernel_rfl) (s1 (lR d2X c6A)))) fun _=>by kernel_rfl
abbrev A61:Ty:=.cons (.cpx .f64) (.nil)
abbrev R61:Ty:=.cons (.bool) (.nil)
def F61 (x:Den A61):OD R61:=bif e7l (x.1.1,()) then let a:=e7m (x.1.1,());bif flt .f64 a.1 4726483295884279808||feq .f64 a.1 4726483295884279808 then bif e7l (x.1.2,()) then let b:=e7m (x.1.2,());some (flt .f64 b.1 4726483295884279808||feq .f64 b.1 4726483295884279808,())else none else some (false,())else none
def K61 (x):=(F61 x).isSome
def G61 (x):=(F61 x).getD (zero R61)
def m61:=(61,a0b A61 R61 K61 G61)
theorem b6o:a0d Tryz.prog m61:=fnE (s1 e7o) Tryz.func61
abbrev A63:Ty:=.cons (S33) (.nil)
abbrev R63:Ty:=.cons (.bool) (.nil)
def F63 (x:Den A63):OD R63:=bif K44 (x.1.1,-10000,10000,()) then bif (G44 (x.1.1,-10000,10000,())).1 then bif K44 (x.1.2.1,-10000,10000,()) then some (G44 (x.1.2.1,-10000,10000,()))else none else some (false,())else none
def K63 (x):=(F63 x).isSome
def G63 (x):=(F63 x).getD (zero R63)
def m63:=(63,a0b A63 R63 K63 G63)
theorem d2Y:a0d Tryz.prog m63:=fnE (s1 a5X) Tryz.func63
abbrev A23:Ty:=.cons (.cpx .f64) (.nil)
abbrev R23:Ty:=.cons (S33) (.cons (.bool) (.nil))
def F23 (x:Den A23):OD R23:=bif K61 x then bif !(G61 x).1 then some ((0,0,()),false,())else bif K62 (x.1.1,()) then let c:=G62 (x.1.1,());bif a6f .f64 c.1 IntKind.i64 then bif K62 (x.1.2,()) then let d:=G62 (x.1.2,());bif a6f .f64 d.1 IntKind.i64 then let a:=f2i .f64 c.1;let b:=f2i .f64 d.1;bif K63 ((a,b,()),()) then bif !(G63 ((a,b,()),())).1 then some ((0,0,()),false,())else some ((a,b,()),true,())else none else none else none else none else none else none
def K23 (x):=(F23 x).isSome
def G23 (x):=(F23 x).getD (zero R23)
def m23:=(23,a0b A23 R23 K23 G23)
theorem e9L:a0d Tryz.prog m23:=fnE (s3 b6o f8h d2Y) Tryz.func23
abbrev A43:Ty:=.cons (.int .i64) (.nil)
abbrev R43:Ty:=.cons (.bool) (.nil)
def F43 (x:Den A43):OD R43:=bif K44 (x.1,0,10000000,()) then some (G44 (x.1,0,10000000,()))else none
def K43 (x):=(F43 x).isSome
def G43 (x):=(F43 x).getD (zero R43)
def m43:=(43,a0b A43 R43 K43 G43)
theorem d2Z:a0d Tryz.prog m43:=fnE (s1 a5X) Tryz.func43
abbrev A91:Ty:=.cons (S30) (.nil)
abbrev R91:Ty:=.cons (.bool) (.nil)
abbrev b9p:Type:=(Unit×ty0×a5w)×b3A
abbrev d7C:Type:=a4i
abbrev d7D:Type:=a5I
def d7E:LR:=⟨[1,38,39,40],[],2,[],[],⟨[(1,om1),(38,e1s),(39,om0),(40,om0)],c2e,1,0⟩,⟨[],[],0,0⟩,⟨a8Y,[],0,0⟩⟩
def b4g (f:b9p->Option (d7C⊕d7D)) (v:b9p):Option (d7C⊕d7D):=bif decide (v.1.2.2.2.1<v.1.2.2.1) then bif decide (0<=v.1.2.2.2.1)&&decide (v.1.2.2.2.1<(length v.1.2.1:Int)) then let a:=getD v.1.2.1 (toNat v.1.2.2.2.1) (zero (Ty.int IntKind.i64));bif K43 (a,()) then bif !(G43 (a,())).1 then some (Sum.inr ((false,()),()))else bif decide (v.1.2.2.2.1>0) then let b:=wrap .i64 (v.1.2.2.2.1-1);bif decide (0<=b)&&decide (b<(length v.2.1.2.1:Int)) then bif decide (a<(wrap .i64 ((getD v.2.1.2.1 (toNat b) (zero (Ty.int IntKind.i64)))+21600))) then some (Sum.inr ((false,()),()))else f ((((),v.1.2.1,v.1.2.2.1,wrap .i64 (v.1.2.2.2.1+1),()),v.2))else none else f ((((),v.1.2.1,v.1.2.2.1,wrap .i64 (v.1.2.2.2.1+1),()),v.2))else none else none else some (Sum.inl ((),()))
def c6E (v:b9p):Nat:=v.1.2.1.length+v.1.2.2.1.natAbs+v.1.2.2.2.1.natAbs+v.2.1.1.length+v.2.1.2.1.length+1000
def b0F (v:b9p):=a0C b4g (c6E v) v
def c6F (v):=(b0F v).isSome
def c6G (v):=isR (b0F v)
def g0D (v):=xOf default (b0F v)
def c6H (v):=yOf default (b0F v)
abbrev d3a:Type:=(Unit×c4E×a5w)×b3A
abbrev e9M:Type:=a4i×b3A
abbrev e9N:Type:=a5I
def e9O:LR:=⟨[1,20,21,22],[],0,[1],[],⟨[(1,om1),(20,.one (.sl (a1m))),(21,om0),(22,om0)],c2e,1,0⟩,⟨[(1,om1)],c2e,1,0⟩,⟨a8Y,[],0,0⟩⟩
def c6I (f:d3a->Option (e9M⊕e9N)) (v:d3a):Option (e9M⊕e9N):=bif decide (v.1.2.2.2.1<v.1.2.2.1) then bif decide (0<=v.1.2.2.2.1)&&decide (v.1.2.2.2.1<(length v.1.2.1:Int)) then let a:=getD v.1.2.1 (toNat v.1.2.2.2.1) (zero a1m);bif K61 (a.1,()) then bif !(G61 (a.1,())).1 then some (Sum.inr ((false,()),()))else bif e9J ([a.2.1.1,a.2.1.2.1,a.2.1.2.2.1,a.2.1.2.2.2.1,a.2.1.2.2.2.2.1,a.2.1.2.2.2.2.2.1,a.2.1.2.2.2.2.2.2.1,a.2.1.2.2.2.2.2.2.2.1,a.2.1.2.2.2.2.2.2.2.2.1,a.2.1.2.2.2.2.2.2.2.2.2.1,a.2.1.2.2.2.2.2.2.2.2.2.2.1,a.2.1.2.2.2.2.2.2.2.2.2.2.2.1,a.2.1.2.2.2.2.2.2.2.2.2.2.2.2.1],()) then bif !(e9K ([a.2.1.1,a.2.1.2.1,a.2.1.2.2.1,a.2.1.2.2.2.1,a.2.1.2.2.2.2.1,a.2.1.2.2.2.2.2.1,a.2.1.2.2.2.2.2.2.1,a.2.1.2.2.2.2.2.2.2.1,a.2.1.2.2.2.2.2.2.2.2.1,a.2.1.2.2.2.2.2.2.2.2.2.1,a.2.1.2.2.2.2.2.2.2.2.2.2.1,a.2.1.2.2.2.2.2.2.2.2.2.2.2.1,a.2.1.2.2.2.2.2.2.2.2.2.2.2.2.1],())).1 then some (Sum.inr ((false,()),()))else f ((((),v.1.2.1,v.1.2.2.1,wrap .i64 (v.1.2.2.2.1+1),()),v.2))else none else none else none else some (Sum.inl (((),()),v.2))
def e2p (v:d3a):Nat:=v.1.2.1.length+v.1.2.2.1.natAbs+v.1.2.2.2.1.natAbs+v.2.1.1.length+v.2.1.2.1.length+1000
def c2k (v:d3a):=a0C c6I (e2p v) v
def d7F (v):=(c2k v).isSome
def d7G (v):=isR (c2k v)
def d7H (v):=xOf default (c2k v)
def d7I (v):=yOf default (c2k v)
def F91 (x:Den A91):OD R91:=let b:=(length x.1.1:Int);bif K44 (b,1,20,()) then bif !(G44 (b,1,20,())).1 then some (false,())else let e:=((length x.1.2.1:Int),1,60,());bif K44 e then bif !(G44 e).1 then some (false,())else let a:=(((),x.1.1,b,0,()),x);bif d7F a then bif d7G a then some (d7I a).1 else let c:=d7H a;let d:=(((),c.2.1.2.1,(length c.2.1.2.1:Int),0,()),c.2);bif c6F d then bif c6G d then some (c6H d).1 else some (true,())else none else none else none else none
def K91 (x):=(F91 x).isSome
def G91 (x):=(F91 x).getD (zero R91)
def m91:=(91,a0b A91 R91 K91 G91)
noncomputable def g6C:=gE [m44,m61,g6B,m43] Tryz.f91 (lps:=[(4,lmR e9O c2k),(10,lmR d7E b0F)])
theorem e2q:EvR g6C (lp Tryz.f91 0) e9O c6I:=fun _ _=>by kernel_rfl
theorem d3b:EvR g6C (lp Tryz.f91 1) d7E b4g:=fun _ _=>by kernel_rfl
theorem e2r:a0d Tryz.prog m91:=a0w (a0z (s4 a5X b6o d7B d2Z)) (a1n Tryz.func91 rfl rfl rfl (by kernel_rfl) (a0f (by kernel_rfl) (s2 (lR e2q e2p) (lR d3b c6E)))) fun _=>by kernel_rfl
abbrev g6D:Ty:=.cons (.str) (.nil)
abbrev g0E:Ty:=.cons (.bool) (.nil)
abbrev b9q:Type:=e7i
abbrev d7J:Type:=d5B×Unit
abbrev d7K:Type:=a5I
def d7L:LR:=⟨[0,3],[],0,[0],[],⟨[(0,om5),(3,om0)],[],0,0⟩,⟨[(0,om5)],[],0,0⟩,⟨a8Y,[],0,0⟩⟩
def b4h (f:b9q->Option (d7J⊕d7K)) (v:b9q):Option (d7J⊕d7K):=let a:=v.1.2.1<(ByteArray.size v.1.1:Int);bif decide a then let b:=decide (0<=v.1.2.1)&&decide a;bif b then bif decide (a0o v.1.1 v.1.2.1<97) then some (Sum.inr ((false,()),()))else bif b then bif decide (a0o v.1.1 v.1.2.1>122) then some (Sum.inr ((false,()),()))else f (((v.1.1,wrap .i64 (v.1.2.1+1),()),()))else none else none else some (Sum.inl ((v.1.1,()),()))
def c6J (v:b9q):Nat:=v.1.1.size+v.1.2.1.natAbs+1000
def b0G (v:b9q):=a0C b4h (c6J v) v
def c6K (v):=(b0G v).isSome
def c6L (v):=isR (b0G v)
def c6M (v):=xOf default (b0G v)
def c6N (v):=yOf default (b0G v)
def f5r (x:Den g6D):OD g0E:=bif c6K ((x.1,0,()),()) then bif c6L ((x.1,0,()),()) then some (c6N ((x.1,0,()),())).1 else let a:=c6M ((x.1,0,()),());let b:=((ByteArray.size a.1.1:Int),1,16,());bif K44 b then bif (G44 b).1 then some (!a0O a.1.1 { data:=#[110,111,110,101] },())else some (false,())else none else none
def g0F (x):=(f5r x).isSome
def g0G (x):=(f5r x).getD (zero g0E)
def g6E:=(160,a0b g6D g0E g0F g0G)
noncomputable def g0H:=gE [m44] Tryz.f160 (lps:=[(2,lmR d7L b0G)])
theorem d3c:EvR g0H (lp Tryz.f160 0) d7L b4h:=fun _ _=>by kernel_rfl
theorem e9P:a0d Tryz.prog g6E:=a0w (a0z (s1 a5X)) (a1n Tryz.func160 rfl rfl rfl (by kernel_rfl) (a0f (by kernel_rfl) (s1 (lR d3c c6J)))) fun _=>by kernel_rfl
abbrev f5s:Ty:=.cons (.slice (S68)) (.cons (.str) (.nil))
abbrev f5t:Ty:=.cons (.int .i64) (.nil)
abbrev b9r:Type:=(b3z×b1P×a5w)×Unit
abbrev d7M:Type:=a4i
abbrev d7N:Type:=c4G
def d7O:LR:=⟨[1,7,8,9],[],0,[],[],⟨[(1,om5),(7,om7),(8,om0),(9,om0)],[],0,0⟩,⟨[],[],0,0⟩,⟨[(4,om0)],[],0,0⟩⟩
def b4i (f:b9r->Option (d7M⊕d7N)) (v:b9r):Option (d7M⊕d7N):=bif decide (v.1.2.2.2.1<v.1.2.2.1) then bif decide (0<=v.1.2.2.2.1)&&decide (v.1.2.2.2.1<(length v.1.2.1:Int)) then bif a0O (getD v.1.2.1 (toNat v.1.2.2.2.1) (zero S68)).1 v.1.1 then some (Sum.inr (v.1.2.2.2,()))else f (((v.1.1,v.1.2.1,v.1.2.2.1,wrap .i64 (v.1.2.2.2.1+1),()),()))else none else some (Sum.inl ((),()))
def c6O (v:b9r):Nat:=v.1.1.size+v.1.2.1.length+v.1.2.2.1.natAbs+v.1.2.2.2.1.natAbs+1000
def b0H (v:b9r):=a0C b4i (c6O v) v
def c6P (v):=(b0H v).isSome
def c6Q (v):=isR (b0H v)
def g0I (v):=xOf default (b0H v)
def c6R (v):=yOf default (b0H v)
def e9Q (x:Den f5s):OD f5t:=let a:=((x.2.1,x.1,(length x.1:Int),0,()),());bif c6P a then bif c6Q a then some (c6R a).1 else some (-1,())else none
def e6g (x):=(e9Q x).isSome
def c6S (x):=(e9Q x).getD (zero f5t)
def g6F:=(134,a0b f5s f5t e6g c6S)
noncomputable def g0J:=gE [] Tryz.f134 (lps:=[(2,lmR d7O b0H)])
theorem d3d:EvR g0J (lp Tryz.f134 0) d7O b4i:=fun _ _=>by kernel_rfl
theorem d7P:a0d Tryz.prog g6F:=a0w (a0z nS) (a1n Tryz.func134 rfl rfl rfl (by kernel_rfl) (a0f (by kernel_rfl) (s1 (lR d3d c6O)))) fun _=>by kernel_rfl
abbrev A92:Ty:=.cons (.slice (S68)) (.nil)
abbrev R92:Ty:=.cons (.bool) (.nil)
abbrev d3e:Type:=(b1P×b1P×a5w)×Unit
abbrev e9R:Type:=a4i
abbrev e9S:Type:=a5I
def e9T:LR:=⟨[0,8,9,10],[],0,[],[],⟨[(0,om7),(8,om7),(9,om0),(10,om0)],[],0,0⟩,⟨[],[],0,0⟩,⟨a8Y,[],0,0⟩⟩
def c6T (f:d3e->Option (e9R⊕e9S)) (v:d3e):Option (e9R⊕e9S):=bif decide (v.1.2.2.2.1<v.1.2.2.1) then bif decide (0<=v.1.2.2.2.1)&&decide (v.1.2.2.2.1<(length v.1.2.1:Int)) then let a:=getD v.1.2.1 (toNat v.1.2.2.2.1) (zero S68);bif g0F (a.1,()) then bif !(g0G (a.1,())).1 then some (Sum.inr ((false,()),()))else bif e6g (v.1.1,a.1,()) then bif (c6S (v.1.1,a.1,())).1 != v.1.2.2.2.1 then some (Sum.inr ((false,()),()))else bif !(fgt .f32 a.2.1 0||feq .f32 a.2.1 0) then some (Sum.inr ((false,()),()))else bif fgt .f32 a.2.2.1 a.2.1 then bif !(flt .f32 a.2.2.1 1128792064||feq .f32 a.2.2.1 1128792064) then some (Sum.inr ((false,()),()))else bif K44 (a.2.2.2.1,0,180,()) then bif !(G44 (a.2.2.2.1,0,180,())).1 then some (Sum.inr ((false,()),()))else bif K44 (a.2.2.2.2.1,a.2.2.2.1,180,()) then bif !(G44 (a.2.2.2.2.1,a.2.2.2.1,180,())).1 then some (Sum.inr ((false,()),()))else f (((v.1.1,v.1.2.1,v.1.2.2.1,wrap .i64 (v.1.2.2.2.1+1),()),()))else none else none else some (Sum.inr ((false,()),()))else none else none else none else some (Sum.inl ((),()))
def e2s (v:d3e):Nat:=v.1.1.length+v.1.2.1.length+v.1.2.2.1.natAbs+v.1.2.2.2.1.natAbs+1000
def c2l (v:d3e):=a0C c6T (e2s v) v
def d7Q (v):=(c2l v).isSome
def d7R (v):=isR (c2l v)
def g6G (v):=xOf default (c2l v)
def d7S (v):=yOf default (c2l v)
def F92 (x:Den A92):OD R92:=bif decide ((length x.1:Int)>12) then some (false,())else let a:=((x.1,x.1,(length x.1:Int),0,()),());bif d7Q a then bif d7R a then some (d7S a).1 else some (true,())else none
def K92 (x):=(F92 x).isSome
def G92 (x):=(F92 x).getD (zero R92)
def m92:=(92,a0b A92 R92 K92 G92)
noncomputable def g9L:=gE [g6E,g6F,m44] Tryz.f92 (lps:=[(4,lmR e9T c2l)])
theorem e2t:EvR g9L (lp Tryz.f92 0) e9T c6T:=fun _ _=>by kernel_rfl
theorem e2u:a0d Tryz.prog m92:=a0w (a0z (s3 e9P d7P a5X)) (a1n Tryz.func92 rfl rfl rfl (by kernel_rfl) (a0f (by kernel_rfl) (s1 (lR e2t e2s)))) fun _=>by kernel_rfl
abbrev g0K:Ty:=.cons (S35) (.nil)
abbrev g0L:Ty:=.cons (.bool) (.nil)
def f5u (x:Den g0K):OD g0L:=bif K63 (x.1.1,()) then bif (G63 (x.1.1,())).1 then bif K63 x.1.2 then bif (G63 x.1.2).1 then some (!(x.1.1.1==x.1.2.1.1&&x.1.1.2.1==x.1.2.1.2.1),())else some (false,())else none else some (false,())else none
def f5v (x):=(f5u x).isSome
def f5w (x):=(f5u x).getD (zero g0L)
def g6H:=(161,a0b g0K g0L f5v f5w)
theorem e9U:a0d Tryz.prog g6H:=fnE (s1 d2Y) Tryz.func161
abbrev g6I:Ty:=.cons (S38) (.cons (.int .i64) (.nil))
abbrev g0M:Ty:=.cons (S33) (.nil)
def e9V (x:Den g6I):OD g0M:=bif x.2.1==0 then some (x.1.1.1,())else let a:=wrap .i64 (x.2.1-1);bif decide (0<=a)&&decide (a<(length x.1.2.1:Int)) then some ((getD x.1.2.1 (toNat a) (zero a2n)).1,())else none
def g0N (x):=(e9V x).isSome
def g0O (x):=(e9V x).getD (zero g0M)
def g6J:=(123,a0b g6I g0M g0N g0O)
theorem e9W:a0d Tryz.prog g6J:=fnE nS Tryz.func123
abbrev A93:Ty:=.cons (S38) (.nil)
abbrev R93:Ty:=.cons (.bool) (.nil)
abbrev d3f:Type:=(Unit×e1p×a5w)×f4w×Unit
abbrev e9X:Type:=a4i
abbrev e9Y:Type:=a5I
def e9Z:LR:=⟨[1,23,24,25],[],0,[],[],⟨[(1,om1),(23,.one (.sl (a2n))),(24,om0),(25,om0)],[(0,g5r)],1,0⟩,⟨[],[],0,0⟩,⟨a8Y,[],0,0⟩⟩
def c6U (f:d3f->Option (e9X⊕e9Y)) (v:d3f):Option (e9X⊕e9Y):=bif decide (v.1.2.2.2.1<v.1.2.2.1) then bif decide (0<=v.1.2.2.2.1)&&decide (v.1.2.2.2.1<(length v.1.2.1:Int)) then let a:=getD v.1.2.1 (toNat v.1.2.2.2.1) (zero a2n);bif K63 (a.1,()) then bif !(G63 (a.1,())).1 then some (Sum.inr ((false,()),()))else let b:=((((v.2.1.1,v.2.1.2.1,()),(v.2.1.2.2.1,v.2.1.2.2.2.1,()),()),v.2.1.2.2.2.2.1,((v.2.1.2.2.2.2.2.1,v.2.1.2.2.2.2.2.2.1,()),v.2.1.2.2.2.2.2.2.2,()),()),v.1.2.2.2);bif g0N b then let c:=g0O b;bif a.1.1==c.1.1&&a.1.2.1==c.1.2.1 then some (Sum.inr ((false,()),()))else f ((((),v.1.2.1,v.1.2.2.1,wrap .i64 (v.1.2.2.2.1+1),()),v.2))else none else none else none else some (Sum.inl ((),()))
def e2v (v:d3f):Nat:=v.1.2.1.length+v.1.2.2.1.natAbs+v.1.2.2.2.1.natAbs+v.2.1.1.natAbs+v.2.1.2.1.natAbs+v.2.1.2.2.1.natAbs+v.2.1.2.2.2.1.natAbs+v.2.1.2.2.2.2.1.length+v.2.1.2.2.2.2.2.1.natAbs+v.2.1.2.2.2.2.2.2.1.natAbs+v.2.1.2.2.2.2.2.2.2.1.natAbs+v.2.1.2.2.2.2.2.2.2.2.1.natAbs+1000
def b6p (v:d3f):=a0C c6U (e2v v) v
def d7T (v):=(b6p v).isSome
def d7U (v):=isR (b6p v)
def g6K (v):=xOf default (b6p v)
def d7V (v):=yOf default (b6p v)
def F93 (x:Den A93):OD R93:=bif f5v (x.1.1,()) then bif !(f5w (x.1.1,())).1 then some (false,())else bif f5v x.1.2.2 then bif !(f5w x.1.2.2).1 then some (false,())else let a:=(length x.1.2.1:Int);bif K44 (a,1,20,()) then bif !(G44 (a,1,20,())).1 then some (false,())else let b:=(((),x.1.2.1,a,0,()),(x.1.1.1.1,x.1.1.1.2.1,x.1.1.2.1.1,x.1.1.2.1.2.1,x.1.2.1,x.1.2.2.1.1.1,x.1.2.2.1.1.2.1,x.1.2.2.1.2.1),());bif d7T b then bif d7U b then some (d7V b).1 else some (true,())else none else none else none else none
def K93 (x):=(F93 x).isSome
def G93 (x):=(F93 x).getD (zero R93)
def m93:=(93,a0b A93 R93 K93 G93)
noncomputable def g9M:=gE [g6H,m44,m63,g6J] Tryz.f93 (lps:=[(4,lmR e9Z b6p)])
theorem e2w:EvR g9M (lp Tryz.f93 0) e9Z c6U:=fun _ _=>by kernel_rfl
theorem g0P:a0d Tryz.prog m93:=a0w (a0z (s4 e9U a5X d2Y e9W)) (a1n Tryz.func93 rfl rfl rfl (by kernel_rfl) (a0f (by kernel_rfl) (s1 (lR e2w e2v)))) fun _=>by kernel_rfl
abbrev A42:Ty:=.cons (S40) (.nil)
abbrev R42:Ty:=.cons (.bool) (.nil)
def F42 (x:Den A42):OD R42:=bif K90 (x.1.1,()) then bif (G90 (x.1.1,())).1 then bif K91 (x.1.2.1,()) then bif (G91 (x.1.2.1,())).1 then bif K92 (x.1.2.2.1,()) then bif (G92 (x.1.2.2.1,())).1 then bif decide ((length x.1.2.2.1:Int)>0) then bif K93 x.1.2.2.2 then some (G93 x.1.2.2.2)else none else some (false,())else some (false,())else none else some (false,())else none else some (false,())else none
def K42 (x):=(F42 x).isSome
def G42 (x):=(F42 x).getD (zero R42)
def m42:=(42,a0b A42 R42 K42 G42)
theorem g0Q:a0d Tryz.prog m42:=fnE (s4 e9I e2r e2u g0P) Tryz.func42
abbrev A46:Ty:=.cons (.slice (S97)) (.nil)
abbrev R46:Ty:=.cons (.bool) (.nil)
abbrev d3g:Type:=(d0P×d0P×a5w)×Unit
abbrev f0a:Type:=a4i
abbrev f0b:Type:=a5I
def f0c:LR:=⟨[0,8,9,10],[],0,[],[],⟨[(0,e5F),(8,e5F),(9,om0),(10,om0)],[],0,0⟩,⟨[],[],0,0⟩,⟨a8Y,[],0,0⟩⟩
def c6V (f:d3g->Option (f0a⊕f0b)) (v:d3g):Option (f0a⊕f0b):=bif decide (v.1.2.2.2.1<v.1.2.2.1) then bif decide (0<=v.1.2.2.2.1)&&decide (v.1.2.2.2.1<(length v.1.2.1:Int)) then let a:=getD v.1.2.1 (toNat v.1.2.2.2.1) (zero S97);bif K63 (a.1,()) then bif !(G63 (a.1,())).1 then some (Sum.inr ((false,()),()))else bif K43 a.2 then bif !(G43 a.2).1 then some (Sum.inr ((false,()),()))else bif decide (v.1.2.2.2.1>0) then let b:=wrap .i64 (v.1.2.2.2.1-1);bif decide (0<=b)&&decide (b<(length v.1.1:Int)) then bif decide (a.2.1<=(getD v.1.1 (toNat b) (zero S97)).2.1) then some (Sum.inr ((false,()),()))else f (((v.1.1,v.1.2.1,v.1.2.2.1,wrap .i64 (v.1.2.2.2.1+1),()),()))else none else f (((v.1.1,v.1.2.1,v.1.2.2.1,wrap .i64 (v.1.2.2.2.1+1),()),()))else none else none else none else some (Sum.inl ((),()))
def e2x (v:d3g):Nat:=v.1.1.length+v.1.2.1.length+v.1.2.2.1.natAbs+v.1.2.2.2.1.natAbs+1000
def c2m (v:d3g):=a0C c6V (e2x v) v
def d7W (v):=(c2m v).isSome
def d7X (v):=isR (c2m v)
def g6L (v):=xOf default (c2m v)
def d7Y (v):=yOf default (c2m v)
def F46 (x:Den A46):OD R46:=bif decide ((length x.1:Int)>200) then some (false,())else let a:=((x.1,x.1,(length x.1:Int),0,()),());bif d7W a then bif d7X a then some (d7Y a).1 else some (true,())else none
def K46 (x):=(F46 x).isSome
def G46 (x):=(F46 x).getD (zero R46)
def m46:=(46,a0b A46 R46 K46 G46)
noncomputable def g9N:=gE [m63,m43] Tryz.f46 (lps:=[(4,lmR f0c c2m)])
theorem e2y:EvR g9N (lp Tryz.f46 0) f0c c6V:=fun _ _=>by kernel_rfl
theorem g0R:a0d Tryz.prog m46:=a0w (a0z (s2 d2Y d2Z)) (a1n Tryz.func46 rfl rfl rfl (by kernel_rfl) (a0f (by kernel_rfl) (s1 (lR e2y e2x)))) fun _=>by kernel_rfl
abbrev g6M:Ty:=.cons (.cpx .f64) (.cons (.cpx .f64) (.nil))
abbrev g0S:Ty:=.cons (.flt .f64) (.nil)
def f0d (x:Den g6M):OD g0S:=some (a0a .add .f64 (a0a .mul .f64 x.1.1 x.2.1.1) (a0a .mul .f64 x.1.2 x.2.1.2),())
def e2z (x):=(f0d x).isSome
def d3h (x):=(f0d x).getD (zero g0S)
def g6N:=(225,a0b g6M g0S e2z d3h)
theorem c6W:a0d Tryz.prog g6N:=fnE nS Tryz.func225
abbrev g6O:Sg:=⟨[.val (.int .i64),.val (.cpx .f64),.ptr 0,.ptr 1,.ptr 2],[.box (.cpx .f64),.box (.flt .f64),.box (.int .i64)]⟩
abbrev g0T:Sg:=⟨[],[.box (.cpx .f64),.box (.flt .f64),.box (.int .i64)]⟩
def f5x (x:g6O.den):Option (g0T.den):=bif e2z (x.2.1,x.1.2.1,()) then bif x.1.1==0 then some ((),x.2.1,(d3h (x.2.1,x.1.2.1,())).1,x.1.1,())else let a:=d3h (x.2.1,x.1.2.1,());bif fgt .f64 a.1 x.2.2.1 then some ((),x.2.1,a.1,x.1.1,())else some ((),x.2)else none
def g0U (x):=(f5x x).isSome
def g0V (x):=(f5x x).getD (a0R g0T)
def g6P:=(224,a0y true g6O g0T g0U g0V)
theorem d7Z:a0d Tryz.prog g6P:=sgE true (s1 c6W) Tryz.func224
abbrev g6Q:Ty:=.cons (.cpx .f64) (.cons (.cpx .f64) (.nil))
abbrev g0W:Ty:=.cons (.cpx .f64) (.nil)
def f0e (x:Den g6Q):OD g0W:=some ((a0a .sub .f64 (a0a .mul .f64 x.1.1 x.2.1.1) (a0a .mul .f64 x.1.2 x.2.1.2),a0a .add .f64 (a0a .mul .f64 x.1.1 x.2.1.2) (a0a .mul .f64 x.1.2 x.2.1.1)),())
def f0f (x):=(f0e x).isSome
def f0g (x):=(f0e x).getD (zero g0W)
def g0X:=(177,a0b g6Q g0W f0f f0g)
theorem d8a:a0d Tryz.prog g0X:=fnE nS Tryz.func177
abbrev g6R:Sg:=⟨[.fnv 224 [0,1,2]],[.box (.cpx .f64),.box (.flt .f64),.box (.int .i64)]⟩
abbrev g0Y:Sg:=⟨[],[.box (.cpx .f64),.box (.flt .f64),.box (.int .i64)]⟩
abbrev b9s:Type:=(Unit×a4L×ty6)×(a4L×Unit)×(Nat×Unit)×c4G
abbrev d8b:Type:=Unit×(a4L×Unit)×(Nat×Unit)×c4G
def d8c:LX:=⟨[0,2,3],[],0,[],[],⟨[(0,.one (.fn 224 [0,1,2])),(2,om6),(3,om0)],[(0,.box [.cpx .f64]),(1,.box [.flt .f64]),(2,.box [.int .i64])],3,3⟩,⟨[],[(0,.box [.cpx .f64]),(1,.box [.flt .f64]),(2,.box [.int .i64])],3,3⟩⟩
def b4j (f:b9s->Option (d8b)) (v:b9s):Option (d8b):=bif decide (v.1.2.2.1<360) then bif g0U ((v.1.2.2.1,v.1.2.1,(),(),(),()),v.2.1.1,v.2.2.1.1,v.2.2.2.1) then bif f0f (v.1.2.1,(4607181046959943561,4580687535080594718),()) then let a:=g0V ((v.1.2.2.1,v.1.2.1,(),(),(),()),v.2.1.1,v.2.2.1.1,v.2.2.2.1);f ((((),(f0g (v.1.2.1,(4607181046959943561,4580687535080594718),())).1,wrap .i64 (v.1.2.2.1+1),()),(a.2.1,()),(a.2.2.1,()),a.2.2.2,()))else none else none else some ((),v.2)
def b9t (v:b9s):Nat:=v.1.2.2.1.natAbs+v.2.2.2.1.1.natAbs+1000
def b9u (v:b9s):=a0C b4j (b9t v) v
def c6X (v):=(b9u v).isSome
def c6Y (v):=(b9u v).getD default
def f5y (x:g6R.den):Option (g0Y.den):=let b:=(((),(4607182418800017408,0),0,()),(x.2.1,()),(x.2.2.1,()),x.2.2.2,());bif c6X b then let a:=c6Y b;some ((),a.2.1.1,a.2.2.1.1,a.2.2.2.1)else none
def g0Z (x):=(f5y x).isSome
def g1a (x):=(f5y x).getD (a0R g0Y)
def g9O:=(223,a0y true g6R g0Y g0Z g1a)
noncomputable def g1b:=gE [g0X,g6P] Tryz.f223 (lps:=[(2,lmX d8c b9u)])
theorem d3i:EvX g1b (lp Tryz.f223 0) d8c b4j:=fun _ _=>by kernel_rfl
theorem f0h:a0d Tryz.prog g9O:=a4a (a0z (s2 d8a d7Z)) (a1n Tryz.func223 rfl rfl rfl (by kernel_rfl) (a0f (by kernel_rfl) (s1 (lX d3i b9t)))) true fun _=>by kernel_rfl
abbrev g6S:Ty:=.cons (.cpx .f64) (.nil)
abbrev g1c:Ty:=.cons (.int .i64) (.nil)
def f0i (x:Den g6S):OD g1c:=bif K61 x then bif !(G61 x).1 then some (-1,())else bif feq .f64 x.1.1 0&&feq .f64 x.1.2 0 then some (-1,())else bif g0Z (((),()),x.1,0,0,()) then some (g1a (((),()),x.1,0,0,())).2.2.2 else none else none
def g1d (x):=(f0i x).isSome
def g1e (x):=(f0i x).getD (zero g1c)
def g9P:=(178,a0b g6S g1c g1d g1e)
theorem f0j:a0d Tryz.prog g9P:=fnE (s3 b6o d7Z f0h) Tryz.func178
abbrev g6T:Ty:=.cons (.cpx .f32) (.nil)
abbrev g1f:Ty:=.cons (.int .i64) (.nil)
def f0k (x:Den g6T):OD g1f:=bif K45 x then bif !(G45 x).1 then some (-1,())else bif feq .f32 x.1.1 0&&feq .f32 x.1.2 0 then some (-1,())else let a:=a3v .f32 x.1.1;let b:=a3v .f32 x.1.2;bif g1d (((a0u .f32 .f64 a).2,(a0u .f32 .f64 b).2),()) then some (g1e (((a0u .f32 .f64 a).2,(a0u .f32 .f64 b).2),()))else none else none
def e6h (x):=(f0k x).isSome
def d3j (x):=(f0k x).getD (zero g1f)
def g9Q:=(110,a0b g6T g1f e6h d3j)
theorem d8d:a0d Tryz.prog g9Q:=fnE (s2 b1Z f0j) Tryz.func110
abbrev g6U:Ty:=.cons (.cpx .f32) (.nil)
abbrev g1g:Ty:=.cons (.cpx .f64) (.nil)
def g1h (x:Den g6U):OD g1g:=some (((a0u .f32 .f64 x.1.1).2,(a0u .f32 .f64 x.1.2).2),())
def g1i (x):=(g1h x).isSome
def g1j (x):=(g1h x).getD (zero g1g)
def g9R:=(181,a0b g6U g1g g1i g1j)
theorem f0l:a0d Tryz.prog g9R:=fnE nS Tryz.func181
abbrev g6V:Ty:=.cons (.flt .f64) (.nil)
abbrev g1k:Ty:=.cons (.flt .f64) (.nil)
abbrev b9v:Type:=(Nat×d0Q)×Unit
abbrev d8e:Type:=(Nat×Unit)×Unit
def d8f:LX:=⟨[0,3,4],[],0,[3],[],⟨[(0,d1Z),(3,d1Z),(4,om0)],[],0,0⟩,⟨[(3,d1Z)],[],0,0⟩⟩
def b4k (f:b9v->Option (d8e)) (v:b9v):Option (d8e):=bif decide (v.1.2.2.1<60) then f (((v.1.1,a0a .quo .f64 (a0a .add .f64 v.1.2.1 (a0a .quo .f64 v.1.1 v.1.2.1)) 4611686018427387904,wrap .i64 (v.1.2.2.1+1),()),()))else some ((v.1.2.1,()),())
def b9w (v:b9v):Nat:=v.1.2.2.1.natAbs+1000
def b9x (v:b9v):=a0C b4k (b9w v) v
def c6Z (v):=(b9x v).isSome
def c7a (v):=(b9x v).getD default
def f0m (x:Den g6V):OD g1k:=bif fgt .f64 x.1 4427486594234968593||feq .f64 x.1 4427486594234968593 then bif !(flt .f64 x.1 4861130398305394688||feq .f64 x.1 4861130398305394688) then some (0,())else let a:=b2F .f64 x.1 4607182418800017408;bif c6Z ((x.1,a,0,()),()) then some (c7a ((x.1,a,0,()),())).1 else none else some (0,())
def g1l (x):=(f0m x).isSome
def g1m (x):=(f0m x).getD (zero g1k)
def g9S:=(228,a0b g6V g1k g1l g1m)
noncomputable def g1n:=gE [] Tryz.f228 (lps:=[(5,lmX d8f b9x)])
theorem d3k:EvX g1n (lp Tryz.f228 0) d8f b4k:=fun _ _=>by kernel_rfl
theorem f0n:a0d Tryz.prog g9S:=a0w (a0z nS) (a1n Tryz.func228 rfl rfl rfl (by kernel_rfl) (a0f (by kernel_rfl) (s1 (lX d3k b9w)))) fun _=>by kernel_rfl
abbrev g6W:Ty:=.cons (.cpx .f64) (.nil)
abbrev g1o:Ty:=.cons (.flt .f64) (.nil)
def f0o (x:Den g6W):OD g1o:=bif K61 x then bif !(G61 x).1 then some (0,())else bif e2z (x.1,x) then let a:=d3h (x.1,x);bif g1l a then some (g1m a)else none else none else none
def g1p (x):=(f0o x).isSome
def g1q (x):=(f0o x).getD (zero g1o)
def g9T:=(180,a0b g6W g1o g1p g1q)
theorem f0p:a0d Tryz.prog g9T:=fnE (s3 b6o c6W f0n) Tryz.func180
abbrev g6X:Ty:=.cons (.cpx .f32) (.nil)
abbrev g1r:Ty:=.cons (.flt .f32) (.nil)
def f0q (x:Den g6X):OD g1r:=bif K45 x then bif !(G45 x).1 then some (0,())else bif g1i x then let a:=g1j x;bif g1p a then let b:=g1q a;bif (a0u .f64 .f32 b.1).1 then some ((a0u .f64 .f32 b.1).2,())else none else none else none else none
def e6i (x):=(f0q x).isSome
def e2A (x):=(f0q x).getD (zero g1r)
def g9U:=(112,a0b g6X g1r e6i e2A)
theorem d8g:a0d Tryz.prog g9U:=fnE (s3 b1Z f0l f0p) Tryz.func112
abbrev g6Y:Ty:=.cons (.int .i64) (.nil)
abbrev g1s:Ty:=.cons (.int .i64) (.nil)
def d3l (x:Den g6Y):OD g1s:=some (Int.tmod (wrap .i64 (Int.tmod x.1 360+360)) 360,())
def d8h (x):=(d3l x).isSome
def d8i (x):=(d3l x).getD (zero g1s)
def g6Z:=(176,a0b g6Y g1s d8h d8i)
theorem d8j:a0d Tryz.prog g6Z:=fnE nS Tryz.func176
abbrev g7a:Ty:=.cons (.int .i64) (.cons (.int .i64) (.nil))
abbrev g1t:Ty:=.cons (.int .i64) (.nil)
def f0r (x:Den g7a):OD g1t:=bif d8h x.2 then bif d8h (x.1,()) then let a:=wrap .i64 ((d8i x.2).1-(d8i (x.1,())).1);bif d8h (a,()) then let b:=d8i (a,());let c:=wrap .i64 (0-b.1);bif d8h (c,()) then some (a2l b.1 (d8i (c,())).1,())else none else none else none else none
def e6j (x):=(f0r x).isSome
def e2B (x):=(f0r x).getD (zero g1t)
def g9V:=(113,a0b g7a g1t e6j e2B)
theorem d8k:a0d Tryz.prog g9V:=fnE (s1 d8j) Tryz.func113
abbrev g7b:Ty:=.cons (.flt .f32) (.cons (.flt .f32) (.cons (.flt .f32) (.nil)))
abbrev g1u:Ty:=.cons (.flt .f32) (.nil)
def g1v (x:Den g7b):OD g1u:=some (a0a .add .f32 x.1 (a0a .mul .f32 (a0a .sub .f32 x.2.1 x.1) x.2.2.1),())
def e6k (x):=(g1v x).isSome
def e6l (x):=(g1v x).getD (zero g1u)
def g1w:=(227,a0b g7b g1u e6k e6l)
theorem c7b:a0d Tryz.prog g1w:=fnE nS Tryz.func227
abbrev g7c:Ty:=.cons (S27) (.cons (.slice (.flt .f32)) (.cons (.int .i64) (.nil)))
abbrev g1x:Ty:=.cons (.flt .f32) (.nil)
abbrev b9y:Type:=(a9V×Int×Unit×ty0×a5w)×b8t
abbrev d8l:Type:=a4i
abbrev d8m:Type:=(Nat×Unit)×Unit
def d8n:LR:=⟨[1,2,3,11,12,13],[],0,[],[],⟨[(1,e1r),(2,om0),(3,om1),(11,e1s),(12,om0),(13,om0)],b5w,1,0⟩,⟨[],[],0,0⟩,⟨[(6,om9)],[],0,0⟩⟩
def b4l (f:b9y->Option (d8l⊕d8m)) (v:b9y):Option (d8l⊕d8m):=bif decide (v.1.2.2.2.2.2.1<v.1.2.2.2.2.1) then bif decide (0<=v.1.2.2.2.2.2.1)&&decide (v.1.2.2.2.2.2.1<(length v.1.2.2.2.1:Int)) then let b:=getD v.1.2.2.2.1 (toNat v.1.2.2.2.2.2.1) (zero (Ty.int IntKind.i64));bif b==v.1.2.1 then bif decide (0<=v.1.2.2.2.2.2.1)&&decide (v.1.2.2.2.2.2.1<(length v.1.1:Int)) then some (Sum.inr ((getD v.1.1 (toNat v.1.2.2.2.2.2.1) (zero (Ty.flt .f32)),()),()))else none else bif decide (b>v.1.2.1) then let a:=wrap .i64 (v.1.2.2.2.2.2.1-1);bif decide (0<=a)&&decide (a<(length v.2.1.2.1:Int)) then bif decide (0<=a)&&decide (a<(length v.1.1:Int)) then bif decide (0<=v.1.2.2.2.2.2.1)&&decide (v.1.2.2.2.2.2.1<(length v.1.1:Int)) then let c:=getD v.1.1 (toNat a) (zero (Ty.flt .f32));let d:=getD v.1.1 (toNat v.1.2.2.2.2.2.1) (zero (Ty.flt .f32));let e:=getD v.2.1.2.1 (toNat a) (zero (Ty.int IntKind.i64));let g:=a0a .quo .f32 (nearest .f32 (wrap .i64 (v.1.2.1-e))) (nearest .f32 (wrap .i64 (b-e)));bif e6k (c,d,g,()) then some (Sum.inr (e6l (c,d,g,()),()))else none else none else none else none else f (((v.1.1,v.1.2.1,(),v.1.2.2.2.1,v.1.2.2.2.2.1,wrap .i64 (v.1.2.2.2.2.2.1+1),()),v.2))else none else some (Sum.inl ((),()))
def b9z (v:b9y):Nat:=v.1.1.length+v.1.2.1.natAbs+v.1.2.2.2.1.length+v.1.2.2.2.2.1.natAbs+v.1.2.2.2.2.2.1.natAbs+v.2.1.1.length+v.2.1.2.1.length+v.2.1.2.2.1.length+1000
def b0I (v:b9y):=a0C b4l (b9z v) v
def c7c (v):=(b0I v).isSome
def c7d (v):=isR (b0I v)
def g1y (v):=xOf default (b0I v)
def c7e (v):=yOf default (b0I v)
def d8o (x:Den g7c):OD g1x:=let a:=((x.2.1,x.2.2.1,(),x.1.2.1,(length x.1.2.1:Int),0,()),x.1,());bif c7c a then bif c7d a then some (c7e a).1 else some (0,())else none
def e6m (x):=(d8o x).isSome
def e6n (x):=(d8o x).getD (zero g1x)
def g7d:=(226,a0b g7c g1x e6m e6n)
noncomputable def g1z:=gE [g1w] Tryz.f226 (lps:=[(2,lmR d8n b0I)])
theorem d3m:EvR g1z (lp Tryz.f226 0) d8n b4l:=fun _ _=>by kernel_rfl
theorem f0s:a0d Tryz.prog g7d:=a0w (a0z (s1 c7b)) (a1n Tryz.func226 rfl rfl rfl (by kernel_rfl) (a0f (by kernel_rfl) (s1 (lR d3m b9z)))) fun _=>by kernel_rfl
abbrev g7e:Ty:=.cons (S27) (.cons (.flt .f32) (.cons (.int .i64) (.nil)))
abbrev g1A:Ty:=.cons (.flt .f32) (.nil)
abbrev b9A:Type:=f4z
abbrev d8p:Type:=f4z
def d8q:LX:=⟨[1,2,3,8],[],0,[1,2,3,8],[],⟨[(1,om9),(2,om0),(3,om1),(8,om0)],b5w,1,0⟩,⟨[(1,om9),(2,om0),(3,om1),(8,om0)],b5w,1,0⟩⟩
def b4m (f:b9A->Option (d8p)) (v:b9A):Option (d8p):=let a:=wrap .i64 (v.1.2.2.2.1+1);bif decide (0<=a)&&decide (a<(length v.2.1.1:Int)) then let b:=getD v.2.1.1 (toNat a) (zero (Ty.flt .f32));bif flt .f32 b v.1.1||feq .f32 b v.1.1 then f (((v.1.1,v.1.2.1,(),a,()),v.2))else some (v)else none
def b9B (v:b9A):Nat:=v.1.2.1.natAbs+v.1.2.2.2.1.natAbs+v.2.1.1.length+v.2.1.2.1.length+v.2.1.2.2.1.length+1000
def b9C (v:b9A):=a0C b4m (b9B v) v
def c7f (v):=(b9C v).isSome
def c7g (v):=(b9C v).getD default
def f0t (x:Den g7e):OD g1A:=bif decide (0<=0)&&decide (0<(length x.1.1:Int)) then let i:=getD x.1.1 (toNat 0) (zero (Ty.flt .f32));bif flt .f32 x.2.1 i||feq .f32 x.2.1 i then bif decide (0<=0)&&decide (0<(length x.1.1:Int)) then bif decide (0<=0)&&decide (0<(length x.1.2.2.1:Int)) then let b:=getD x.1.2.2.1 (toNat 0) (zero (Ty.slice (Ty.flt .f32)));bif e6m (x.1,b,x.2.2) then some (a0a .mul .f32 (a0a .quo .f32 x.2.1 i) (e6n (x.1,b,x.2.2)).1,())else none else none else none else let b:=wrap .i64 ((length x.1.1:Int)-1);bif decide (0<=b)&&decide (b<(length x.1.1:Int)) then let j:=getD x.1.1 (toNat b) (zero (Ty.flt .f32));bif fgt .f32 x.2.1 j||feq .f32 x.2.1 j then bif decide (0<=b)&&decide (b<(length x.1.2.2.1:Int)) then let k:=getD x.1.2.2.1 (toNat b) (zero (Ty.slice (Ty.flt .f32)));bif e6m (x.1,k,x.2.2) then some (e6n (x.1,k,x.2.2))else none else none else bif c7f ((x.2.1,x.2.2.1,(),0,()),x.1,()) then let a:=c7g ((x.2.1,x.2.2.1,(),0,()),x.1,());bif decide (0<=a.1.2.2.2.1)&&decide (a.1.2.2.2.1<(length a.2.1.1:Int)) then let c:=wrap .i64 (a.1.2.2.2.1+1);bif decide (0<=c)&&decide (c<(length a.2.1.1:Int)) then bif decide (0<=a.1.2.2.2.1)&&decide (a.1.2.2.2.1<(length a.2.1.2.2.1:Int)) then let l:=getD a.2.1.2.2.1 (toNat a.1.2.2.2.1) (zero (Ty.slice (Ty.flt .f32)));bif e6m (a.2.1,l,a.1.2.1,()) then bif decide (0<=c)&&decide (c<(length a.2.1.2.2.1:Int)) then let m:=getD a.2.1.2.2.1 (toNat c) (zero (Ty.slice (Ty.flt .f32)));bif e6m (a.2.1,m,a.1.2.1,()) then let d:=e6n (a.2.1,l,a.1.2.1,());let e:=e6n (a.2.1,m,a.1.2.1,());let g:=getD a.2.1.1 (toNat a.1.2.2.2.1) (zero (Ty.flt .f32));let h:=a0a .quo .f32 (a0a .sub .f32 a.1.1 g) (a0a .sub .f32 (getD a.2.1.1 (toNat c) (zero (Ty.flt .f32))) g);bif e6k (d.1,e.1,h,()) then some (e6l (d.1,e.1,h,()))else none else none else none else none else none else none else none else none else none else none
def g1B (x):=(f0t x).isSome
def g1C (x):=(f0t x).getD (zero g1A)
def g9W:=(179,a0b g7e g1A g1B g1C)
noncomputable def g1D:=gE [g7d,g1w] Tryz.f179 (lps:=[(7,lmX d8q b9C)])
theorem d3n:EvX g1D (lp Tryz.f179 0) d8q b4m:=fun _ _=>by kernel_rfl
theorem f0u:a0d Tryz.prog g9W:=a0w (a0z (s2 f0s c7b)) (a1n Tryz.func179 rfl rfl rfl (by kernel_rfl) (a0f (by kernel_rfl) (s1 (lX d3n b9B)))) fun _=>by kernel_rfl
abbrev g7f:Ty:=.cons (S27) (.cons (.flt .f32) (.cons (.int .i64) (.nil)))
abbrev g1E:Ty:=.cons (.flt .f32) (.cons (.bool) (.nil))
def f5z (x:Den g7f):OD g1E:=bif K90 (x.1,()) then bif !(G90 (x.1,())).1 then some (0,false,())else bif fgt .f32 x.2.1 0||feq .f32 x.2.1 0 then bif !(flt .f32 x.2.1 1120403456||feq .f32 x.2.1 1120403456) then some (0,false,())else bif K44 (x.2.2.1,0,180,()) then bif !(G44 (x.2.2.1,0,180,())).1 then some (0,false,())else bif g1B x then some ((g1C x).1,true,())else none else none else some (0,false,())else none
def f5A (x):=(f5z x).isSome
def f5B (x):=(f5z x).getD (zero g1E)
def g9X:=(111,a0b g7f g1E f5A f5B)
theorem f0v:a0d Tryz.prog g9X:=fnE (s3 e9I a5X f0u) Tryz.func111
abbrev A57:Ty:=.cons (S46) (.nil)
abbrev R57:Ty:=.cons (.flt .f32) (.nil)
def F57 (x:Den A57):OD R57:=bif e6h (x.1.2.2.2.2.1,()) then let a:=d3j (x.1.2.2.2.2.1,());bif decide (a.1<0) then some (0,())else bif e6i (x.1.2.2.2.2.1,()) then bif e6j (x.1.2.2.2.1,a) then let b:=e2A (x.1.2.2.2.2.1,());let c:=e2B (x.1.2.2.2.1,a);bif f5A (x.1.1.1,b.1,c) then some ((f5B (x.1.1.1,b.1,c)).1,())else none else none else none else none
def K57 (x):=(F57 x).isSome
def G57 (x):=(F57 x).getD (zero R57)
def m57:=(57,a0b A57 R57 K57 G57)
theorem f0w:a0d Tryz.prog m57:=fnE (s4 d8d d8g d8k f0v) Tryz.func57
abbrev g7g:Ty:=.cons (.int .i64) (.nil)
abbrev g1F:Ty:=.cons (.cpx .f64) (.nil)
abbrev b9D:Type:=(a4L×ty6)×Unit
abbrev d8r:Type:=f4B
def d8s:LX:=⟨[3,4],[],0,[3],[],⟨[(3,om6),(4,om0)],[],0,0⟩,⟨[(3,om6)],[],0,0⟩⟩
def b4n (f:b9D->Option (d8r)) (v:b9D):Option (d8r):=bif decide (v.1.2.1>0) then bif f0f (v.1.1,(4607181046959943561,4580687535080594718),()) then f ((((f0g (v.1.1,(4607181046959943561,4580687535080594718),())).1,wrap .i64 (v.1.2.1-1),()),()))else none else some ((v.1.1,()),())
def b9E (v:b9D):Nat:=v.1.2.1.natAbs+1000
def b9F (v:b9D):=a0C b4n (b9E v) v
def c7h (v):=(b9F v).isSome
def c7i (v):=(b9F v).getD default
def f5C (x:Den g7g):OD g1F:=bif d8h x then let b:=d8i x;let a:=(((4607182418800017408,0),b),());bif c7h a then some (c7i a).1 else none else none
def g1G (x):=(f5C x).isSome
def g1H (x):=(f5C x).getD (zero g1F)
def g9Y:=(109,a0b g7g g1F g1G g1H)
noncomputable def g1I:=gE [g6Z,g0X] Tryz.f109 (lps:=[(3,lmX d8s b9F)])
theorem d3o:EvX g1I (lp Tryz.f109 0) d8s b4n:=fun _ _=>by kernel_rfl
theorem f0x:a0d Tryz.prog g9Y:=a0w (a0z (s2 d8j d8a)) (a1n Tryz.func109 rfl rfl rfl (by kernel_rfl) (a0f (by kernel_rfl) (s1 (lX d3o b9E)))) fun _=>by kernel_rfl
abbrev g7h:Ty:=.cons (.cpx .f64) (.cons (.flt .f32) (.nil))
abbrev g1J:Ty:=.cons (.cpx .f32) (.nil)
def f5D (x:Den g7h):OD g1J:=let a:=a0u .f64 .f32 x.1.1;bif a.1 then let b:=a0u .f64 .f32 x.1.2;bif b.1 then some ((a0a .mul .f32 a.2 x.2.1,a0a .mul .f32 b.2 x.2.1),())else none else none
def g1K (x):=(f5D x).isSome
def g1L (x):=(f5D x).getD (zero g1J)
def g9Z:=(108,a0b g7h g1J g1K g1L)
theorem f0y:a0d Tryz.prog g9Z:=fnE nS Tryz.func108
abbrev A56:Ty:=.cons (.int .i64) (.cons (.flt .f32) (.nil))
abbrev R56:Ty:=.cons (.cpx .f32) (.cons (.bool) (.nil))
def F56 (x:Den A56):OD R56:=bif e2l x.2 then bif !(e2m x.2).1 then some ((0,0),false,())else bif g1G (x.1,()) then let a:=g1H (x.1,());bif g1K (a.1,x.2) then some ((g1L (a.1,x.2)).1,true,())else none else none else none
def K56 (x):=(F56 x).isSome
def G56 (x):=(F56 x).getD (zero R56)
def m56:=(56,a0b A56 R56 K56 G56)
theorem f0z:a0d Tryz.prog m56:=fnE (s3 c6m f0x f0y) Tryz.func56
abbrev g7i:Ty:=.cons (.cpx .f32) (.cons (.cpx .f32) (.nil))
abbrev g1M:Ty:=.cons (.cpx .f32) (.cons (.bool) (.nil))
def f5E (x:Den g7i):OD g1M:=bif K45 (x.1,()) then bif !(G45 (x.1,())).1 then some ((0,0),false,())else bif K45 x.2 then bif !(G45 x.2).1 then some ((0,0),false,())else some ((a0a .sub .f32 x.1.1 x.2.1.1,a0a .sub .f32 x.1.2 x.2.1.2),true,())else none else none
def g1N (x):=(f5E x).isSome
def g1O (x):=(f5E x).getD (zero g1M)
def h0a:=(114,a0b g7i g1M g1N g1O)
theorem f0A:a0d Tryz.prog h0a:=fnE (s1 b1Z) Tryz.func114
abbrev A58:Ty:=.cons (.cpx .f32) (.cons (.cpx .f32) (.cons (.int .i64) (.nil)))
abbrev R58:Ty:=.cons (S63) (.cons (.bool) (.nil))
def F58 (x:Den A58):OD R58:=bif g1N (x.1,x.2.1,()) then let a:=g1O (x.1,x.2.1,());bif e6h (a.1,()) then bif !a.2.1 then some ((0,0,()),false,())else let b:=d3j (a.1,());bif decide (b.1<0) then some ((0,0,()),false,())else bif e6i (a.1,()) then bif e6j (x.2.2.1,b) then some (((e2A (a.1,())).1,e2B (x.2.2.1,b)),true,())else none else none else none else none
def K58 (x):=(F58 x).isSome
def G58 (x):=(F58 x).getD (zero R58)
def m58:=(58,a0b A58 R58 K58 G58)
theorem g1P:a0d Tryz.prog m58:=fnE (s4 f0A d8d d8g d8k) Tryz.func58
abbrev A19:Ty:=.cons (S46) (.nil)
abbrev R19:Ty:=.cons (S63) (.cons (.bool) (.nil))
def F19 (x:Den A19):OD R19:=bif K57 x then let a:=G57 x;bif K56 (x.1.2.2.2.1,a) then let b:=G56 (x.1.2.2.2.1,a);bif !b.2.1 then some ((0,0,()),false,())else let c:=(x.1.2.2.2.2.1,b.1,x.1.2.2.2.1,());bif K58 c then some (G58 c)else none else none else none
def K19 (x):=(F19 x).isSome
def G19 (x):=(F19 x).getD (zero R19)
def m19:=(19,a0b A19 R19 K19 G19)
theorem f0B:a0d Tryz.prog m19:=fnE (s3 f0w f0z g1P) Tryz.func19
abbrev A20:Ty:=.cons (S68) (.cons (S63) (.nil))
abbrev R20:Ty:=.cons (.bool) (.nil)
def F20 (x:Den A20):OD R20:=bif decide (x.2.1.2.1 ≥ x.1.2.2.2.1) then bif decide (x.2.1.2.1<=x.1.2.2.2.2.1) then let a:=a0a .sub .f32 x.1.2.1 1065353216;bif fgt .f32 x.2.1.1 a||feq .f32 x.2.1.1 a then let b:=a0a .add .f32 x.1.2.2.1 1065353216;bif flt .f32 x.2.1.1 b||feq .f32 x.2.1.1 b then some (true,())else some (false,())else some (false,())else let a:=a0a .sub .f32 x.1.2.1 1065353216;bif fgt .f32 x.2.1.1 a||feq .f32 x.2.1.1 a then let b:=a0a .add .f32 x.1.2.2.1 1065353216;bif flt .f32 x.2.1.1 b||feq .f32 x.2.1.1 b then some (decide ((wrap .u64 ((wrap .u64 x.2.1.2.1)-(wrap .u64 x.1.2.2.2.2.1)))<=5),())else some (false,())else some (false,())else bif decide (x.2.1.2.1<=x.1.2.2.2.2.1) then let a:=a0a .sub .f32 x.1.2.1 1065353216;bif fgt .f32 x.2.1.1 a||feq .f32 x.2.1.1 a then let b:=a0a .add .f32 x.1.2.2.1 1065353216;bif flt .f32 x.2.1.1 b||feq .f32 x.2.1.1 b then bif decide ((wrap .u64 ((wrap .u64 x.1.2.2.2.1)-(wrap .u64 x.2.1.2.1)))<=5) then some (true,())else some (false,())else some (false,())else some (false,())else let a:=a0a .sub .f32 x.1.2.1 1065353216;bif fgt .f32 x.2.1.1 a||feq .f32 x.2.1.1 a then let b:=a0a .add .f32 x.1.2.2.1 1065353216;bif flt .f32 x.2.1.1 b||feq .f32 x.2.1.1 b then let c:=wrap .u64 x.2.1.2.1;bif decide ((wrap .u64 ((wrap .u64 x.1.2.2.2.1)-c))<=5) then some (decide ((wrap .u64 (c-(wrap .u64 x.1.2.2.2.2.1)))<=5),())else some (false,())else some (false,())else some (false,())
def K20 (x):=(F20 x).isSome
def G20 (x):=(F20 x).getD (zero R20)
def m20:=(20,a0b A20 R20 K20 G20)
theorem f0C:a0d Tryz.prog m20:=fnE nS Tryz.func20
abbrev A14:Ty:=.cons (S46) (.nil)
abbrev R14:Ty:=.cons (.bool) (.nil)
def F14 (x:Den A14):OD R14:=bif K23 (x.1.2.2.1,()) then bif K42 (x.1.1,()) then bif !(G42 (x.1.1,())).1 then some (false,())else bif K43 (x.1.2.1,()) then bif !(G43 (x.1.2.1,())).1 then some (false,())else bif !(G23 (x.1.2.2.1,())).2.1 then some (false,())else bif K44 (x.1.2.2.2.1,0,359,()) then bif !(G44 (x.1.2.2.2.1,0,359,())).1 then some (false,())else bif K45 (x.1.2.2.2.2.1,()) then bif !(G45 (x.1.2.2.2.2.1,())).1 then some (false,())else let g:=(length x.1.1.2.2.1:Int);let h:=wrap .i64 (g-1);let j:=(x.1.2.2.2.2.2.1,-1,h,());bif K44 j then bif !(G44 j).1 then some (false,())else bif K46 (x.1.2.2.2.2.2.2.1,()) then bif !(G46 (x.1.2.2.2.2.2.2.1,())).1 then some (false,())else bif decide ((length x.1.2.2.2.2.2.2.2.1:Int)>300) then some (false,())else let i:=(length x.1.2.2.2.2.2.2.1:Int);bif decide (i>0) then let a:=wrap .i64 (i-1);bif decide (0<=a)&&decide (a<i) then bif decide ((getD x.1.2.2.2.2.2.2.1 (toNat a) (zero S97)).2.1>x.1.2.1) then some (false,())else bif decide (x.1.2.2.2.2.2.1 ≥ 0) then bif K19 x then let b:=G19 x;bif b.2.1 then bif decide (0<=x.1.2.2.2.2.2.1)&&decide (x.1.2.2.2.2.2.1<g) then let d:=getD x.1.1.2.2.1 (toNat x.1.2.2.2.2.2.1) (zero S68);bif K20 (d,b.1,()) then some (G20 (d,b.1,()))else none else none else some (false,())else none else some (true,())else none else bif decide (x.1.2.2.2.2.2.1 ≥ 0) then bif K19 x then let c:=G19 x;bif c.2.1 then bif decide (0<=x.1.2.2.2.2.2.1)&&decide (x.1.2.2.2.2.2.1<g) then let e:=getD x.1.1.2.2.1 (toNat x.1.2.2.2.2.2.1) (zero S68);bif K20 (e,c.1,()) then some (G20 (e,c.1,()))else none else none else some (false,())else none else some (true,())else none else none else none else none else none else none else none
def K14 (x):=(F14 x).isSome
def G14 (x):=(F14 x).getD (zero R14)
def m14:=(14,a0b A14 R14 K14 G14)
theorem g1Q:a0d Tryz.prog m14:=fnE (s7c e9L g0Q d2Z a5X b1Z g0R f0B (s1 f0C)) Tryz.func14
abbrev A25:Ty:=.cons (.int .i64) (.nil)
abbrev R25:Ty:=.cons (.str) (.nil)
def F25 (x:Den A25):OD R25:=bif K65 x then some (G65 x)else none
def K25 (x):=(F25 x).isSome
def G25 (x):=(F25 x).getD (zero R25)
def m25:=(25,a0b A25 R25 K25 G25)
theorem f0D:a0d Tryz.prog m25:=fnE (s1 f7Z) Tryz.func25
abbrev A17:Ty:=.cons (.str) (.nil)
abbrev R17:Ty:=.cons (.int .i64) (.cons (.bool) (.nil))
abbrev b2a:Type:=(b3z×a5w)×Unit
abbrev c7j:Type:=e7i
abbrev c7k:Type:=(Int×d1Y)×Unit
def f0E:LR:=⟨[0,4,5],[],0,[0,4],[],⟨[(0,om5),(4,om0),(5,om0)],[],0,0⟩,⟨[(0,om5),(4,om0)],[],0,0⟩,⟨[(2,om0),(3,om2)],[],0,0⟩⟩
def b4o (f:b2a->Option (c7j⊕c7k)) (v:b2a):Option (c7j⊕c7k):=let b:=v.1.2.2.1<(ByteArray.size v.1.1:Int);bif decide b then let a:=decide (0<=v.1.2.2.1)&&decide b;bif a then bif decide (a0o v.1.1 v.1.2.2.1<48) then some (Sum.inr ((0,false,()),()))else bif a then bif decide (a0o v.1.1 v.1.2.2.1>57) then some (Sum.inr ((0,false,()),()))else bif a then f (((v.1.1,wrap .i64 ((wrap .i64 (v.1.2.1*10))+(wrap .i64 (wrap .u8 (a0o v.1.1 v.1.2.2.1-48)))),wrap .i64 (v.1.2.2.1+1),()),()))else none else none else none else some (Sum.inl ((v.1.1,v.1.2.1,()),()))
def c2n (v:b2a):Nat:=v.1.1.size+v.1.2.1.natAbs+v.1.2.2.1.natAbs+1000
def b6q (v:b2a):=a0C b4o (c2n v) v
def c7l (v):=(b6q v).isSome
def c7m (v):=isR (b6q v)
def c7n (v):=xOf default (b6q v)
def c7o (v):=yOf default (b6q v)
def F17 (x:Den A17):OD R17:=let b:=(ByteArray.size x.1:Int);bif b==0 then some (0,false,())else bif decide (b>10) then some (0,false,())else bif c7l ((x.1,0,0,()),()) then bif c7m ((x.1,0,0,()),()) then some (c7o ((x.1,0,0,()),())).1 else let a:=c7n ((x.1,0,0,()),());bif decide (a.1.2.1>1000000000) then some (0,false,())else bif K25 a.1.2 then bif !a0O (G25 a.1.2).1 a.1.1 then some (0,false,())else some (a.1.2.1,true,())else none else none
def K17 (x):=(F17 x).isSome
def G17 (x):=(F17 x).getD (zero R17)
def m17:=(17,a0b A17 R17 K17 G17)
noncomputable def h0b:=gE [m25] Tryz.f17 (lps:=[(5,lmR f0E b6q)])
theorem e2C:EvR h0b (lp Tryz.f17 0) f0E b4o:=fun _ _=>by kernel_rfl
theorem g1R:a0d Tryz.prog m17:=a0w (a0z (s1 f0D)) (a1n Tryz.func17 rfl rfl rfl (by kernel_rfl) (a0f (by kernel_rfl) (s1 (lR e2C c2n)))) fun _=>by kernel_rfl
abbrev g7j:Ty:=.cons (.int .i64) (.nil)
abbrev g1S:Ty:=.cons (.bool) (.nil)
def f5F (x:Den g7j):OD g1S:=let a:=(x.1,-1000000000,1000000000,());bif K44 a then some (G44 a)else none
def f0F (x):=(f5F x).isSome
def f0G (x):=(f5F x).getD (zero g1S)
def g7k:=(237,a0b g7j g1S f0F f0G)
theorem d8t:a0d Tryz.prog g7k:=fnE (s1 a5X) Tryz.func237
abbrev g7l:Ty:=.cons (.int .i64) (.nil)
abbrev f5G:Ty:=.cons (.str) (.nil)
abbrev b9G:Type:=(Int×b3z×d5B)×Unit
abbrev d8u:Type:=(Int×b3z×d5B)×Unit
def d8v:LX:=⟨[0,3,4],[],0,[0,3,4],[],⟨[(0,om0),(3,om5),(4,om5)],[],0,0⟩,⟨[(0,om0),(3,om5),(4,om5)],[],0,0⟩⟩
def b9H (f:b9G->Option (d8u)) (v:b9G):Option (d8u):=bif decide ((ByteArray.size v.1.2.2.1:Int)<3) then bif decide (ByteArray.size { data:=#[48] }+ByteArray.size v.1.2.2.1<=9223372036854775807) then f (((v.1.1,v.1.2.1,{ data:=#[48] }++v.1.2.2.1,()),()))else none else some (v)
def c7p (v:b9G):Nat:=v.1.1.natAbs+v.1.2.1.size+v.1.2.2.1.size+1000
def b9I (v:b9G):=a0C b9H (c7p v) v
def a9e (v):=(b9I v).isSome
def a1R (v):=(b9I v).getD default
def f5H (x:Den g7l):OD f5G:=bif f0F x then bif !(f0G x).1 then some ({ data:=#[] },())else bif decide (x.1<0) then let g:=wrap .i64 (0-x.1);bif K25 (Int.tmod g 1000,()) then let l:=G25 (Int.tmod g 1000,());let h:=((g,{ data:=#[45] },l),());bif a9e h then let b:=a1R h;let i:=wrap .i64 (Int.tdiv b.1.1 1000);bif K25 (i,()) then let c:=G25 (i,());bif decide (ByteArray.size b.1.2.1+ByteArray.size c.1<=9223372036854775807) then let a:=b.1.2.1++c.1;bif decide (ByteArray.size a+ByteArray.size { data:=#[46] }<=9223372036854775807) then let d:=a++{ data:=#[46] };bif decide (ByteArray.size d+ByteArray.size b.1.2.2.1<=9223372036854775807) then some (d++b.1.2.2.1,())else none else none else none else none else none else none else bif K25 (Int.tmod x.1 1000,()) then let m:=G25 (Int.tmod x.1 1000,());let j:=((x.1,{ data:=#[] },m),());bif a9e j then let e:=a1R j;let b:=wrap .i64 (Int.tdiv e.1.1 1000);bif K25 (b,()) then let k:=G25 (b,());bif decide (ByteArray.size e.1.2.1+ByteArray.size k.1<=9223372036854775807) then let c:=e.1.2.1++k.1;bif decide (ByteArray.size c+ByteArray.size { data:=#[46] }<=9223372036854775807) then let a:=c++{ data:=#[46] };bif decide (ByteArray.size a+ByteArray.size e.1.2.2.1<=9223372036854775807) then some (a++e.1.2.2.1,())else none else none else none else none else none else none else none
def d0T (x):=(f5H x).isSome
def d8w (x):=(f5H x).getD (zero f5G)
def g7m:=(236,a0b g7l f5G d0T d8w)
noncomputable def g1T:=gE [g7k,m25] Tryz.f236 (lps:=[(7,lmX d8v b9I)])
theorem d3p:EvX g1T (lp Tryz.f236 0) d8v b9H:=fun _ _=>by kernel_rfl
theorem f0H:a0d Tryz.prog g7m:=a0w (a0z (s2 d8t f0D)) (a1n Tryz.func236 rfl rfl rfl (by kernel_rfl) (a0f (by kernel_rfl) (s1 (lX d3p c7p)))) fun _=>by kernel_rfl
abbrev g7n:Ty:=.cons (.str) (.nil)
abbrev e2D:Ty:=.cons (.int .i64) (.cons (.bool) (.nil))
abbrev b2b:Type:=(b3z×b3z×Int×Int×a5w)×Unit
abbrev c7q:Type:=(b3z×a5w)×Unit
abbrev c7r:Type:=(Int×d1Y)×Unit
def c7s:LR:=⟨[0,4,5,6,7,8],[],0,[0,5,7],[],⟨[(0,om5),(4,om5),(5,om0),(6,om0),(7,om0),(8,om0)],[],0,0⟩,⟨[(0,om5),(5,om0),(7,om0)],[],0,0⟩,⟨[(2,om0),(3,om2)],[],0,0⟩⟩
def a3N (f:b2b->Option (c7q⊕c7r)) (v:b2b):Option (c7q⊕c7r):=bif decide (v.1.2.2.2.2.2.1<(ByteArray.size v.1.2.1:Int)) then bif v.1.2.2.2.2.2.1==v.1.2.2.2.1 then f (((v.1.1,v.1.2.1,v.1.2.2.1,v.1.2.2.2.1,v.1.2.2.2.2.1,wrap .i64 (v.1.2.2.2.2.2.1+1),()),()))else bif decide (0<=v.1.2.2.2.2.2.1)&&decide (v.1.2.2.2.2.2.1<(ByteArray.size v.1.2.1:Int)) then bif decide (a0o v.1.2.1 v.1.2.2.2.2.2.1<48) then some (Sum.inr ((0,false,()),()))else bif decide (0<=v.1.2.2.2.2.2.1)&&decide (v.1.2.2.2.2.2.1<(ByteArray.size v.1.2.1:Int)) then bif decide (a0o v.1.2.1 v.1.2.2.2.2.2.1>57) then some (Sum.inr ((0,false,()),()))else bif decide (0<=v.1.2.2.2.2.2.1)&&decide (v.1.2.2.2.2.2.1<(ByteArray.size v.1.2.1:Int)) then f (((v.1.1,v.1.2.1,v.1.2.2.1,v.1.2.2.2.1,wrap .i64 ((wrap .i64 (v.1.2.2.2.2.1*10))+(wrap .i64 (wrap .u8 (a0o v.1.2.1 v.1.2.2.2.2.2.1-48)))),wrap .i64 (v.1.2.2.2.2.2.1+1),()),()))else none else none else none else some (Sum.inl ((v.1.1,v.1.2.2.1,v.1.2.2.2.2.1,()),()))
def a7p (v:b2b):Nat:=v.1.1.size+v.1.2.1.size+v.1.2.2.1.natAbs+v.1.2.2.2.1.natAbs+v.1.2.2.2.2.1.natAbs+v.1.2.2.2.2.2.1.natAbs+1000
def a5Y (v:b2b):=a0C a3N (a7p v) v
def a3E (v):=(a5Y v).isSome
def a4w (v):=isR (a5Y v)
def a1e (v):=xOf default (a5Y v)
def a5o (v):=yOf default (a5Y v)
def e2E (x:Den g7n):OD e2D:=bif !a0O x.1 { data:=#[] } then let d:=(ByteArray.size x.1:Int);bif decide (0<=0)&&decide (0<d) then bif a0o x.1 0==45 then bif decide (0<=1)&&decide (1<=d)&&decide (d<=d) then let i:=(ByteArray.extract x.1 (toNat 1) (toNat d),46,());bif e1u i then let a:=a5x i;bif decide (a.1<1) then some (0,false,())else bif (↑(ByteArray.size (ByteArray.extract x.1 (toNat 1) (toNat d))):Int) != (wrap .i64 (a.1+4)) then some (0,false,())else bif decide (a.1>7) then some (0,false,())else let e:=((x.1,ByteArray.extract x.1 (toNat 1) (toNat d),-1,a.1,0,0,()),());bif a3E e then bif a4w e then some (a5o e).1 else let b:=a1e e;let c:=wrap .i64 (b.1.2.2.1*b.1.2.1);bif d0T (c,()) then bif !a0O (d8w (c,())).1 b.1.1 then some (0,false,())else some (c,true,())else none else none else none else none else bif e1u (x.1,46,()) then let a:=a5x (x.1,46,());bif decide (a.1<1) then some (0,false,())else bif d != (wrap .i64 (a.1+4)) then some (0,false,())else bif decide (a.1>7) then some (0,false,())else let g:=((x.1,x.1,1,a.1,0,0,()),());bif a3E g then bif a4w g then some (a5o g).1 else let b:=a1e g;let c:=wrap .i64 (b.1.2.2.1*b.1.2.1);bif d0T (c,()) then bif !a0O (d8w (c,())).1 b.1.1 then some (0,false,())else some (c,true,())else none else none else none else none else bif e1u (x.1,46,()) then let a:=a5x (x.1,46,());bif decide (a.1<1) then some (0,false,())else bif (ByteArray.size x.1:Int) != (wrap .i64 (a.1+4)) then some (0,false,())else bif decide (a.1>7) then some (0,false,())else let h:=((x.1,x.1,1,a.1,0,0,()),());bif a3E h then bif a4w h then some (a5o h).1 else let b:=a1e h;let c:=wrap .i64 (b.1.2.2.1*b.1.2.1);bif d0T (c,()) then bif !a0O (d8w (c,())).1 b.1.1 then some (0,false,())else some (c,true,())else none else none else none
def e2F (x):=(e2E x).isSome
def b5x (x):=(e2E x).getD (zero e2D)
def h0c:=(191,a0b g7n e2D e2F b5x)
noncomputable def g1U:=gE [g9g,g7m] Tryz.f191 (lps:=[(10,lmR c7s a5Y)])
theorem c7t:EvR g1U (lp Tryz.f191 0) c7s a3N:=fun _ _=>by kernel_rfl
theorem f0I:a0d Tryz.prog h0c:=a0w (a0z (s2 e7q f0H)) (a1n Tryz.func191 rfl rfl rfl (by kernel_rfl) (a0f (by kernel_rfl) (s1 (lR c7t a7p)))) fun _=>by kernel_rfl
abbrev g7o:Ty:=.cons (.int .i64) (.nil)
abbrev g1V:Ty:=.cons (.flt .f64) (.nil)
def f5I (x:Den g7o):OD g1V:=bif f0F x then bif !(f0G x).1 then some (0,())else some (a0a .quo .f64 (nearest .f64 x.1) 4652007308841189376,())else none
def e2G (x):=(f5I x).isSome
def c7u (x):=(f5I x).getD (zero g1V)
def h0d:=(192,a0b g7o g1V e2G c7u)
theorem f0J:a0d Tryz.prog h0d:=fnE (s1 d8t) Tryz.func192
abbrev f5J:Ty:=.cons (.slice (.str)) (.nil)
abbrev f0K:Ty:=.cons (.flt .f64) (.cons (.flt .f64) (.cons (.bool) (.nil)))
def e6o (x:Den f5J):OD f0K:=bif decide (0<=0)&&decide (0<(length x.1:Int)) then let c:=getD x.1 (toNat 0) (zero Ty.str);bif e2F (c,()) then bif decide (0<=1)&&decide (1<(length x.1:Int)) then let d:=getD x.1 (toNat 1) (zero Ty.str);bif e2F (d,()) then let a:=b5x (c,());bif e2G (a.1,()) then let b:=b5x (d,());bif e2G (b.1,()) then bif a.2.1 then some ((c7u (a.1,())).1,(c7u (b.1,())).1,b.2)else some ((c7u (a.1,())).1,(c7u (b.1,())).1,false,())else none else none else none else none else none else none
def f0L (x):=(e6o x).isSome
def a9W (x):=(e6o x).getD (zero f0K)
def h0e:=(132,a0b f5J f0K f0L a9W)
theorem f0M:a0d Tryz.prog h0e:=fnE (s2 f0I f0J) Tryz.func132
abbrev g7p:Ty:=.cons (.flt .f32) (.nil)
abbrev g1W:Ty:=.cons (.bool) (.nil)
def g1X (x:Den g7p):OD g1W:=bif fgt .f32 x.1 0||feq .f32 x.1 0 then some (flt .f32 x.1 1065353216||feq .f32 x.1 1065353216,())else some (false,())
def g1Y (x):=(g1X x).isSome
def g1Z (x):=(g1X x).getD (zero g1W)
def h0f:=(193,a0b g7p g1W g1Y g1Z)
theorem f0N:a0d Tryz.prog h0f:=fnE nS Tryz.func193
abbrev g7q:Ty:=.cons (.flt .f32) (.cons (.flt .f32) (.cons (.flt .f32) (.nil)))
abbrev g2a:Ty:=.cons (.flt .f32) (.nil)
def g2b (x:Den g7q):OD g2a:=some (a0a .add .f32 x.1 (a0a .mul .f32 (a0a .sub .f32 x.2.1 x.1) x.2.2.1),())
def f5K (x):=(g2b x).isSome
def f5L (x):=(g2b x).getD (zero g2a)
def h0g:=(194,a0b g7q g2a f5K f5L)
theorem f0O:a0d Tryz.prog h0g:=fnE nS Tryz.func194
abbrev f5M:Ty:=.cons (.cpx .f32) (.cons (.cpx .f32) (.cons (.flt .f32) (.nil)))
abbrev f5N:Ty:=.cons (.cpx .f32) (.cons (.bool) (.nil))
def f5O (x:Den f5M):OD f5N:=bif K45 (x.1,()) then bif !(G45 (x.1,())).1 then some ((0,0),false,())else bif K45 (x.2.1,()) then bif !(G45 (x.2.1,())).1 then some ((0,0),false,())else bif g1Y x.2.2 then bif !(g1Z x.2.2).1 then some ((0,0),false,())else bif f5K (x.1.1,x.2.1.1,x.2.2) then bif f5K (x.1.2,x.2.1.2,x.2.2) then some (((f5L (x.1.1,x.2.1.1,x.2.2)).1,(f5L (x.1.2,x.2.1.2,x.2.2)).1),true,())else none else none else none else none else none
def f5P (x):=(f5O x).isSome
def e2H (x):=(f5O x).getD (zero f5N)
def h0h:=(133,a0b f5M f5N f5P e2H)
theorem f0P:a0d Tryz.prog h0h:=fnE (s3 b1Z f0N f0O) Tryz.func133
abbrev f0Q:Ty:=.cons (S68) (.cons (S63) (.nil))
abbrev f5Q:Ty:=.cons (.bool) (.nil)
def f5R (x:Den f0Q):OD f5Q:=bif fgt .f32 x.2.1.1 x.1.2.1||feq .f32 x.2.1.1 x.1.2.1 then bif flt .f32 x.2.1.1 x.1.2.2.1||feq .f32 x.2.1.1 x.1.2.2.1 then bif K44 (x.2.1.2.1,x.1.2.2.2) then some (G44 (x.2.1.2.1,x.1.2.2.2))else none else some (false,())else some (false,())
def e2I (x):=(f5R x).isSome
def e2J (x):=(f5R x).getD (zero f5Q)
def g7r:=(135,a0b f0Q f5Q e2I e2J)
theorem d8x:a0d Tryz.prog g7r:=fnE (s1 a5X) Tryz.func135
abbrev g7s:Ty:=.cons (a2z) (.nil)
abbrev g2c:Ty:=.cons (.bool) (.nil)
def f5S (x:Den g7s):OD g2c:=bif e2l (x.1.2.1,()) then bif (e2m (x.1.2.1,())).1 then bif K44 (x.1.2.2.1,0,100000,()) then some (G44 (x.1.2.2.1,0,100000,()))else none else some (false,())else none
def f5T (x):=(f5S x).isSome
def f5U (x):=(f5S x).getD (zero g2c)
def g7t:=(238,a0b g7s g2c f5T f5U)
theorem f0R:a0d Tryz.prog g7t:=fnE (s2 c6m a5X) Tryz.func238
abbrev g7u:Ty:=.cons (.slice (a2z)) (.nil)
abbrev g2d:Ty:=.cons (.bool) (.nil)
abbrev b9J:Type:=(c4F×c4F×a5w)×Unit
abbrev d8y:Type:=(c4F×Unit)×Unit
abbrev d8z:Type:=a5I
def d8A:LR:=⟨[0,5,6,7],[],0,[0],[],⟨[(0,om8),(5,om8),(6,om0),(7,om0)],[],0,0⟩,⟨[(0,om8)],[],0,0⟩,⟨a8Y,[],0,0⟩⟩
def b4p (f:b9J->Option (d8y⊕d8z)) (v:b9J):Option (d8y⊕d8z):=bif decide (v.1.2.2.2.1<v.1.2.2.1) then bif decide (0<=v.1.2.2.2.1)&&decide (v.1.2.2.2.1<(length v.1.2.1:Int)) then let a:=getD v.1.2.1 (toNat v.1.2.2.2.1) (zero a2z);bif f5T (a,()) then bif !(f5U (a,())).1 then some (Sum.inr ((false,()),()))else f (((v.1.1,v.1.2.1,v.1.2.2.1,wrap .i64 (v.1.2.2.2.1+1),()),()))else none else none else some (Sum.inl ((v.1.1,()),()))
def c7v (v:b9J):Nat:=v.1.1.length+v.1.2.1.length+v.1.2.2.1.natAbs+v.1.2.2.2.1.natAbs+1000
def a9f (v:b9J):=a0C b4p (c7v v) v
def b6r (v):=(a9f v).isSome
def b6s (v):=isR (a9f v)
def b6t (v):=xOf default (a9f v)
def b6u (v):=yOf default (a9f v)
def f5V (x:Den g7u):OD g2d:=let a:=((x.1,x.1,(length x.1:Int),0,()),());bif b6r a then bif b6s a then some (b6u a).1 else some (decide ((↑(length (b6t a).1.1):Int)<=50),())else none
def f5W (x):=(f5V x).isSome
def f5X (x):=(f5V x).getD (zero g2d)
def g7v:=(195,a0b g7u g2d f5W f5X)
noncomputable def g2e:=gE [g7t] Tryz.f195 (lps:=[(2,lmR d8A a9f)])
theorem d3q:EvR g2e (lp Tryz.f195 0) d8A b4p:=fun _ _=>by kernel_rfl
theorem f0S:a0d Tryz.prog g7v:=a0w (a0z (s1 f0R)) (a1n Tryz.func195 rfl rfl rfl (by kernel_rfl) (a0f (by kernel_rfl) (s1 (lR d3q c7v)))) fun _=>by kernel_rfl
abbrev g7w:Ty:=.cons (.cpx .f64) (.cons (.cpx .f64) (.nil))
abbrev g2f:Ty:=.cons (.cpx .f64) (.nil)
def g2g (x:Den g7w):OD g2f:=some ((a0a .sub .f64 x.1.1 x.2.1.1,a0a .sub .f64 x.1.2 x.2.1.2),())
def g2h (x):=(g2g x).isSome
def g2i (x):=(g2g x).getD (zero g2f)
def g7x:=(263,a0b g7w g2f g2h g2i)
theorem f0T:a0d Tryz.prog g7x:=fnE nS Tryz.func263
abbrev g7y:Ty:=.cons (S30) (.cons (.cpx .f64) (.nil))
abbrev g2j:Ty:=.cons (.int .i64) (.nil)
abbrev b9K:Type:=(a4L×Int×Nat×c4E×a5w)×Unit
abbrev d8B:Type:=c4G
def d8C:LX:=⟨[1,5,6,20,21,22],[],0,[5],[],⟨[(1,om6),(5,om0),(6,d1Z),(20,.one (.sl (a1m))),(21,om0),(22,om0)],[],0,0⟩,⟨[(5,om0)],[],0,0⟩⟩
def b4q (f:b9K->Option (d8B)) (v:b9K):Option (d8B):=bif decide (v.1.2.2.2.2.2.1<v.1.2.2.2.2.1) then bif decide (0<=v.1.2.2.2.2.2.1)&&decide (v.1.2.2.2.2.2.1<(length v.1.2.2.2.1:Int)) then let b:=getD v.1.2.2.2.1 (toNat v.1.2.2.2.2.2.1) (zero a1m);bif g2h (b.1,v.1.1,()) then let a:=g2i (b.1,v.1.1,());bif e2z (a.1,a) then bif decide (v.1.2.1<0) then f (((v.1.1,v.1.2.2.2.2.2.1,(d3h (a.1,a)).1,v.1.2.2.2.1,v.1.2.2.2.2.1,wrap .i64 (v.1.2.2.2.2.2.1+1),()),()))else let c:=d3h (a.1,a);bif flt .f64 c.1 v.1.2.2.1 then f (((v.1.1,v.1.2.2.2.2.2.1,c.1,v.1.2.2.2.1,v.1.2.2.2.2.1,wrap .i64 (v.1.2.2.2.2.2.1+1),()),()))else f (((v.1.1,v.1.2.1,v.1.2.2.1,v.1.2.2.2.1,v.1.2.2.2.2.1,wrap .i64 (v.1.2.2.2.2.2.1+1),()),()))else none else none else none else some ((v.1.2.1,()),())
def c7w (v:b9K):Nat:=v.1.2.1.natAbs+v.1.2.2.2.1.length+v.1.2.2.2.2.1.natAbs+v.1.2.2.2.2.2.1.natAbs+1000
def b9L (v:b9K):=a0C b4q (c7w v) v
def c7x (v):=(b9L v).isSome
def c7y (v):=(b9L v).getD default
def f0U (x:Den g7y):OD g2j:=bif K91 (x.1,()) then bif !(G91 (x.1,())).1 then some (-1,())else bif K61 x.2 then bif !(G61 x.2).1 then some (-1,())else let a:=((x.2.1,-1,0,x.1.1,(length x.1.1:Int),0,()),());bif c7x a then some (c7y a).1 else none else none else none
def g2k (x):=(f0U x).isSome
def g2l (x):=(f0U x).getD (zero g2j)
def h0i:=(239,a0b g7y g2j g2k g2l)
noncomputable def g2m:=gE [m91,m61,g7x,g6N] Tryz.f239 (lps:=[(5,lmX d8C b9L)])
theorem d3r:EvX g2m (lp Tryz.f239 0) d8C b4q:=fun _ _=>by kernel_rfl
theorem f0V:a0d Tryz.prog h0i:=a0w (a0z (s4 e2r b6o f0T c6W)) (a1n Tryz.func239 rfl rfl rfl (by kernel_rfl) (a0f (by kernel_rfl) (s1 (lX d3r c7w)))) fun _=>by kernel_rfl
abbrev g7z:Sg:=⟨[.val (.int .i64),.ptr 0,.ptr 1],[.box (.int .i64),.box (S30)]⟩
abbrev g2n:Sg:=⟨[.val (.int .i64)],[.box (.int .i64),.box (S30)]⟩
def e6p (x:g7z.den):Option (g2n.den):=let a:=decide (0<=x.1.1)&&decide (x.1.1<(length x.2.2.1.2.1:Int));bif a then bif a then let b:=getD x.2.2.1.2.1 (toNat x.1.1) (zero (Ty.int IntKind.i64));some ((e0A (wrap .i64 (x.2.1-b)) (wrap .i64 (b-x.2.1)),()),x.2)else none else none
def f5Y (x):=(e6p x).isSome
def f5Z (x):=(e6p x).getD (a0R g2n)
def g7A:=(264,a0y true g7z g2n f5Y f5Z)
theorem f0W:a0d Tryz.prog g7A:=sgE true nS Tryz.func264
abbrev g7B:Ty:=.cons (S30) (.cons (.int .i64) (.nil))
abbrev g2o:Ty:=.cons (.int .i64) (.nil)
abbrev b9M:Type:=(Unit×Int×a5w)×ty6×b3A
abbrev d8D:Type:=c4G
def d8E:LX:=⟨[5,6,19,20],[],0,[6],[],⟨[(5,.one (.fn 264 [0,1])),(6,om0),(19,om0),(20,om0)],[(0,.box [.int .i64]),(1,bx1)],2,0⟩,⟨[(6,om0)],[],0,0⟩⟩
def b4r (f:b9M->Option (d8D)) (v:b9M):Option (d8D):=bif decide (v.1.2.2.2.1<v.1.2.2.1) then bif f5Y ((v.1.2.2.2.1,(),(),()),v.2.1.1,v.2.2) then let b:=f5Z ((v.1.2.2.2.1,(),(),()),v.2.1.1,v.2.2);bif f5Y ((v.1.2.1,(),(),()),b.2) then let a:=f5Z ((v.1.2.1,(),(),()),b.2);bif decide (b.1.1<a.1.1) then f ((((),v.1.2.2.2.1,v.1.2.2.1,wrap .i64 (v.1.2.2.2.1+1),()),(a.2.1,()),a.2.2))else f ((((),v.1.2.1,v.1.2.2.1,wrap .i64 (v.1.2.2.2.1+1),()),(a.2.1,()),a.2.2))else none else none else some ((v.1.2.1,()),())
def c7z (v:b9M):Nat:=v.1.2.1.natAbs+v.1.2.2.1.natAbs+v.1.2.2.2.1.natAbs+v.2.1.1.natAbs+v.2.2.1.1.length+v.2.2.1.2.1.length+1000
def b9N (v:b9M):=a0C b4r (c7z v) v
def c7A (v):=(b9N v).isSome
def c7B (v):=(b9N v).getD default
def f0X (x:Den g7B):OD g2o:=bif K91 (x.1,()) then bif !(G91 (x.1,())).1 then some (-1,())else bif K43 x.2 then bif !(G43 x.2).1 then some (-1,())else let a:=(((),0,(length x.1.2.1:Int),0,()),x.2,x.1,());bif c7A a then some (c7B a).1 else none else none else none
def g2p (x):=(f0X x).isSome
def g2q (x):=(f0X x).getD (zero g2o)
def h0j:=(240,a0b g7B g2o g2p g2q)
noncomputable def g2r:=gE [m91,m43,g7A] Tryz.f240 (lps:=[(6,lmX d8E b9N)])
theorem d3s:EvX g2r (lp Tryz.f240 0) d8E b4r:=fun _ _=>by kernel_rfl
theorem f0Y:a0d Tryz.prog h0j:=a0w (a0z (s3 e2r d2Z f0W)) (a1n Tryz.func240 rfl rfl rfl (by kernel_rfl) (a0f (by kernel_rfl) (s1 (lX d3s c7z)))) fun _=>by kernel_rfl
abbrev g7C:Ty:=.cons (.int .i64) (.cons (.int .i64) (.cons (.int .i64) (.nil)))
abbrev g2s:Ty:=.cons (.int .i64) (.nil)
def f0Z (x:Den g7C):OD g2s:=bif decide (x.2.2.1<x.2.1) then some (x.2.1,())else bif decide (x.1<x.2.1) then some (x.2.1,())else some (a2l x.1 x.2.2.1,())
def g2t (x):=(f0Z x).isSome
def g2u (x):=(f0Z x).getD (zero g2s)
def h0k:=(265,a0b g7C g2s g2t g2u)
theorem f1a:a0d Tryz.prog h0k:=fnE nS Tryz.func265
abbrev g7D:Ty:=.cons (a1m) (.cons (.int .i64) (.nil))
abbrev g2v:Ty:=.cons (.cpx .f32) (.cons (.bool) (.nil))
def f6a (x:Den g7D):OD g2v:=let h:=([x.1.2.1.1,x.1.2.1.2.1,x.1.2.1.2.2.1,x.1.2.1.2.2.2.1,x.1.2.1.2.2.2.2.1,x.1.2.1.2.2.2.2.2.1,x.1.2.1.2.2.2.2.2.2.1,x.1.2.1.2.2.2.2.2.2.2.1,x.1.2.1.2.2.2.2.2.2.2.2.1,x.1.2.1.2.2.2.2.2.2.2.2.2.1,x.1.2.1.2.2.2.2.2.2.2.2.2.2.1,x.1.2.1.2.2.2.2.2.2.2.2.2.2.2.1,x.1.2.1.2.2.2.2.2.2.2.2.2.2.2.2.1],());bif e9J h then bif !(e9K h).1 then some ((0,0),false,())else bif g2t (x.2.1,-21600,21600,()) then let b:=wrap .i64 ((g2u (x.2.1,-21600,21600,())).1+21600);bif Int.tmod b 3600==0 then let a:=wrap .i64 (Int.tdiv b 3600);bif decide (0<=a)&&decide (a<(↑13:Int)) then some (getD [x.1.2.1.1,x.1.2.1.2.1,x.1.2.1.2.2.1,x.1.2.1.2.2.2.1,x.1.2.1.2.2.2.2.1,x.1.2.1.2.2.2.2.2.1,x.1.2.1.2.2.2.2.2.2.1,x.1.2.1.2.2.2.2.2.2.2.1,x.1.2.1.2.2.2.2.2.2.2.2.1,x.1.2.1.2.2.2.2.2.2.2.2.2.1,x.1.2.1.2.2.2.2.2.2.2.2.2.2.1,x.1.2.1.2.2.2.2.2.2.2.2.2.2.2.1,x.1.2.1.2.2.2.2.2.2.2.2.2.2.2.2.1] (toNat a) (0,0),true,())else none else let a:=wrap .i64 (Int.tdiv b 3600);bif decide (0<=a)&&decide (a<(↑13:Int)) then let g:=wrap .i64 (a+1);bif decide (0<=g)&&decide (g<(↑13:Int)) then let c:=getD [x.1.2.1.1,x.1.2.1.2.1,x.1.2.1.2.2.1,x.1.2.1.2.2.2.1,x.1.2.1.2.2.2.2.1,x.1.2.1.2.2.2.2.2.1,x.1.2.1.2.2.2.2.2.2.1,x.1.2.1.2.2.2.2.2.2.2.1,x.1.2.1.2.2.2.2.2.2.2.2.1,x.1.2.1.2.2.2.2.2.2.2.2.2.1,x.1.2.1.2.2.2.2.2.2.2.2.2.2.1,x.1.2.1.2.2.2.2.2.2.2.2.2.2.2.1,x.1.2.1.2.2.2.2.2.2.2.2.2.2.2.2.1] (toNat a) (0,0);let d:=getD [x.1.2.1.1,x.1.2.1.2.1,x.1.2.1.2.2.1,x.1.2.1.2.2.2.1,x.1.2.1.2.2.2.2.1,x.1.2.1.2.2.2.2.2.1,x.1.2.1.2.2.2.2.2.2.1,x.1.2.1.2.2.2.2.2.2.2.1,x.1.2.1.2.2.2.2.2.2.2.2.1,x.1.2.1.2.2.2.2.2.2.2.2.2.1,x.1.2.1.2.2.2.2.2.2.2.2.2.2.1,x.1.2.1.2.2.2.2.2.2.2.2.2.2.2.1,x.1.2.1.2.2.2.2.2.2.2.2.2.2.2.2.1] (toNat g) (0,0);let e:=a0a .quo .f32 (nearest .f32 (Int.tmod b 3600)) 1163984896;bif e6k (c.1,d.1,e,()) then bif e6k (c.2,d.2,e,()) then some (((e6l (c.1,d.1,e,())).1,(e6l (c.2,d.2,e,())).1),true,())else none else none else none else none else none else none
def g2w (x):=(f6a x).isSome
def g2x (x):=(f6a x).getD (zero g2v)
def h0l:=(241,a0b g7D g2v g2w g2x)
theorem f1b:a0d Tryz.prog h0l:=fnE (s3 d7B f1a c7b) Tryz.func241
abbrev g7E:Ty:=.cons (S30) (.cons (.cpx .f64) (.cons (.int .i64) (.nil)))
abbrev g2y:Ty:=.cons (.cpx .f32) (.cons (.bool) (.nil))
def f6b (x:Den g7E):OD g2y:=bif g2k (x.1,x.2.1,()) then bif g2p (x.1,x.2.2) then let a:=g2l (x.1,x.2.1,());bif decide (a.1<0) then some ((0,0),false,())else let b:=g2q (x.1,x.2.2);bif decide (b.1<0) then some ((0,0),false,())else bif decide (0<=a.1)&&decide (a.1<(length x.1.1:Int)) then bif decide (0<=b.1)&&decide (b.1<(length x.1.2.1:Int)) then let c:=getD x.1.1 (toNat a.1) (zero a1m);let d:=wrap .i64 (x.2.2.1-(getD x.1.2.1 (toNat b.1) (zero (Ty.int IntKind.i64))));bif g2w (c,d,()) then some (g2x (c,d,()))else none else none else none else none else none
def f6c (x):=(f6b x).isSome
def e2K (x):=(f6b x).getD (zero g2y)
def g7F:=(196,a0b g7E g2y f6c e2K)
theorem f1c:a0d Tryz.prog g7F:=fnE (s3 f0V f0Y f1b) Tryz.func196
abbrev g7G:Ty:=.cons (.cpx .f32) (.cons (.cpx .f32) (.nil))
abbrev g2z:Ty:=.cons (.cpx .f32) (.nil)
def g2A (x:Den g7G):OD g2z:=some ((a0a .add .f32 x.1.1 x.2.1.1,a0a .add .f32 x.1.2 x.2.1.2),())
def g2B (x):=(g2A x).isSome
def g2C (x):=(g2A x).getD (zero g2z)
def h0m:=(266,a0b g7G g2z g2B g2C)
theorem f1d:a0d Tryz.prog h0m:=fnE nS Tryz.func266
abbrev g7H:Ty:=.cons (.int .i64) (.cons (.flt .f32) (.cons (.cpx .f32) (.nil)))
abbrev g2D:Ty:=.cons (.cpx .f32) (.cons (.bool) (.nil))
def f6d (x:Den g7H):OD g2D:=bif K56 (x.1,x.2.1,()) then let a:=G56 (x.1,x.2.1,());bif !a.2.1 then some ((0,0),false,())else bif K45 x.2.2 then bif !(G45 x.2.2).1 then some ((0,0),false,())else bif g2B (a.1,x.2.2) then some ((g2C (a.1,x.2.2)).1,true,())else none else none else none
def g2E (x):=(f6d x).isSome
def g2F (x):=(f6d x).getD (zero g2D)
def h0n:=(242,a0b g7H g2D g2E g2F)
theorem f1e:a0d Tryz.prog h0n:=fnE (s3 f0z b1Z f1d) Tryz.func242
abbrev g7I:Ty:=.cons (.cpx .f64) (.cons (.cpx .f32) (.cons (.int .i64) (.nil)))
abbrev g2G:Ty:=.cons (.cpx .f64) (.cons (.bool) (.nil))
def f6e (x:Den g7I):OD g2G:=bif K61 (x.1,()) then bif !(G61 (x.1,())).1 then some ((0,0),false,())else bif K45 (x.2.1,()) then bif !(G45 (x.2.1,())).1 then some ((0,0),false,())else bif K44 (x.2.2.1,0,100000,()) then bif !(G44 (x.2.2.1,0,100000,())).1 then some ((0,0),false,())else let c:=nearest .f64 x.2.2.1;let a:=a0a .add .f64 x.1.1 (a0a .mul .f64 (a0u .f32 .f64 x.2.1.1).2 c);let b:=a0a .add .f64 x.1.2 (a0a .mul .f64 (a0u .f32 .f64 x.2.1.2).2 c);bif K61 ((a,b),()) then bif !(G61 ((a,b),())).1 then some ((0,0),false,())else some ((a,b),true,())else none else none else none else none
def g2H (x):=(f6e x).isSome
def g2I (x):=(f6e x).getD (zero g2G)
def h0o:=(243,a0b g7I g2G g2H g2I)
theorem f1f:a0d Tryz.prog h0o:=fnE (s3 b6o b1Z a5X) Tryz.func243
abbrev g7J:Ty:=.cons (.cpx .f64) (.cons (a2z) (.cons (.int .i64) (.cons (.cpx .f32) (.nil))))
abbrev g2J:Ty:=.cons (.cpx .f64) (.cons (.bool) (.nil))
def f6f (x:Den g7J):OD g2J:=let b:=(x.2.1.1,x.2.1.2.1,x.2.2.2);bif g2E b then let a:=g2F b;bif !a.2.1 then some ((0,0),false,())else bif g2H (x.1,a.1,x.2.2.1,()) then some (g2I (x.1,a.1,x.2.2.1,()))else none else none
def f6g (x):=(f6f x).isSome
def f1g (x):=(f6f x).getD (zero g2J)
def g7K:=(197,a0b g7J g2J f6g f1g)
theorem f1h:a0d Tryz.prog g7K:=fnE (s2 f1e f1f) Tryz.func197
abbrev f6h:Ty:=.cons (.cpx .f64) (.cons (.int .i64) (.cons (.slice (a2z)) (.cons (S30) (.nil))))
abbrev f6i:Ty:=.cons (.cpx .f64) (.cons (.bool) (.nil))
abbrev b9O:Type:=(a4L×Int×Unit×Unit×Int×c4F×a5w)×ty8×(Int×d0Q)×Unit
abbrev d8F:Type:=(a4L×Int×Unit×c4F×a5w)×b3A
abbrev d8G:Type:=f4A
def d8H:LR:=⟨[0,1,7,11,12,25,26,27],[],2,[0,1,7,25,26,27],[],⟨[(0,om6),(1,om0),(7,om1),(11,om3),(12,om0),(25,om8),(26,om0),(27,om0)],[(0,bx1),(1,.box [.int .i64,.flt .f32,.int .i64])],2,0⟩,⟨[(0,om6),(1,om0),(7,om1),(25,om8),(26,om0),(27,om0)],c2e,1,0⟩,⟨[(8,om6),(9,om2)],[],0,0⟩⟩
def b4s (f:b9O->Option (d8F⊕d8G)) (v:b9O):Option (d8F⊕d8G):=bif decide (v.1.2.2.2.2.1>0) then bif f6c (v.2.1,v.1.1,v.1.2.1,()) then let a:=e2K (v.2.1,v.1.1,v.1.2.1,());bif !a.2.1 then some (Sum.inr (((0,0),false,()),()))else let b:=(v.1.1,v.2.2.1,a2l v.1.2.2.2.2.1 600,a.1,());bif f6g b then let c:=f1g b;bif !c.2.1 then some (Sum.inr (((0,0),false,()),()))else f (((c.1,wrap .i64 (v.1.2.1+a2l v.1.2.2.2.2.1 600),(),(),wrap .i64 (v.1.2.2.2.2.1-a2l v.1.2.2.2.2.1 600),v.1.2.2.2.2.2),v.2))else none else none else some (Sum.inl ((v.1.1,v.1.2.1,(),v.1.2.2.2.2.2),v.2.1,()))
def b9P (v:b9O):Nat:=v.1.2.1.natAbs+v.1.2.2.2.2.1.natAbs+v.1.2.2.2.2.2.1.length+v.1.2.2.2.2.2.2.1.natAbs+v.1.2.2.2.2.2.2.2.1.natAbs+v.2.1.1.length+v.2.1.2.1.length+v.2.2.1.1.natAbs+v.2.2.1.2.2.1.natAbs+1000
def b0J (v:b9O):=a0C b4s (b9P v) v
def b6v (v):=(b0J v).isSome
def b6w (v):=isR (b0J v)
def a4x (v):=xOf default (b0J v)
def b6x (v):=yOf default (b0J v)
abbrev b9Q:Type:=(a4L×Int×Unit×c4F×a5w)×b3A
abbrev c7C:Type:=f4B
abbrev c7D:Type:=f4A
def d8I:LR:=⟨[0,1,7,25,26,27],[],0,[0],[],⟨[(0,om6),(1,om0),(7,om1),(25,om8),(26,om0),(27,om0)],c2e,1,0⟩,⟨[(0,om6)],[],0,0⟩,⟨[(8,om6),(9,om2)],[],0,0⟩⟩
def c7E (f:b9Q->Option (c7C⊕c7D)) (v:b9Q):Option (c7C⊕c7D):=bif decide (v.1.2.2.2.2.2.1<v.1.2.2.2.2.1) then bif decide (0<=v.1.2.2.2.2.2.1)&&decide (v.1.2.2.2.2.2.1<(length v.1.2.2.2.1:Int)) then let c:=getD v.1.2.2.2.1 (toNat v.1.2.2.2.2.2.1) (zero a2z);let b:=((v.1.1,v.1.2.1,(),(),c.2.2.1,v.1.2.2.2),v.2.1,c,());bif b6v b then bif b6w b then some (Sum.inr (b6x b))else let a:=a4x b;f (((a.1.1,a.1.2.1,(),a.1.2.2.2.1,a.1.2.2.2.2.1,wrap .i64 (a.1.2.2.2.2.2.1+1),()),a.2))else none else none else some (Sum.inl ((v.1.1,()),()))
def b4t (v:b9Q):Nat:=v.1.2.1.natAbs+v.1.2.2.2.1.length+v.1.2.2.2.2.1.natAbs+v.1.2.2.2.2.2.1.natAbs+v.2.1.1.length+v.2.1.2.1.length+1000
def a9g (v:b9Q):=a0C c7E (b4t v) v
def b6y (v):=(a9g v).isSome
def b6z (v):=isR (a9g v)
def b6A (v):=xOf default (a9g v)
def b6B (v):=yOf default (a9g v)
def e2L (x:Den f6h):OD f6i:=bif K61 (x.1,()) then bif !(G61 (x.1,())).1 then some ((0,0),false,())else bif f5W (x.2.2.1,()) then bif !(f5X (x.2.2.1,())).1 then some ((0,0),false,())else let a:=((x.1,x.2.1,(),x.2.2.1,(length x.2.2.1:Int),0,()),x.2.2.2);bif b6y a then bif b6z a then some (b6B a).1 else some ((b6A a).1.1,true,())else none else none else none
def f6j (x):=(e2L x).isSome
def d8J (x):=(e2L x).getD (zero f6i)
def h0p:=(136,a0b f6h f6i f6j d8J)
noncomputable def f1i:=gE [m61,g7v,g7F,g7K] Tryz.f136 (lps:=[(4,lmR d8I a9g),(7,lmR d8H b0J)])
theorem d3t:EvR f1i (lp Tryz.f136 0) d8I c7E:=fun _ _=>by kernel_rfl
theorem d3u:EvR f1i (lp Tryz.f136 1) d8H b4s:=fun _ _=>by kernel_rfl
theorem f1j:a0d Tryz.prog h0p:=a0w (a0z (s4 b6o f0S f1c f1h)) (a1n Tryz.func136 rfl rfl rfl (by kernel_rfl) (a0f (by kernel_rfl) (s2 (lR d3t b4t) (lR d3u b9P)))) fun _=>by kernel_rfl
abbrev g7L:Ty:=.cons (.slice (S68)) (.cons (S63) (.nil))
abbrev g2K:Ty:=.cons (.int .i64) (.nil)
abbrev b9R:Type:=(Unit×b1P×a5w)×d0Q×Unit
abbrev d8K:Type:=a4i
abbrev d8L:Type:=c4G
def d8M:LR:=⟨[3,10,11,12],[],0,[],[],⟨[(3,om1),(10,om7),(11,om0),(12,om0)],[(0,f7W)],1,0⟩,⟨[],[],0,0⟩,⟨[(4,om0)],[],0,0⟩⟩
def b4u (f:b9R->Option (d8K⊕d8L)) (v:b9R):Option (d8K⊕d8L):=bif decide (v.1.2.2.2.1<v.1.2.2.1) then bif decide (0<=v.1.2.2.2.1)&&decide (v.1.2.2.2.1<(length v.1.2.1:Int)) then let a:=getD v.1.2.1 (toNat v.1.2.2.2.1) (zero S68);bif e2I (a,v.2) then bif (e2J (a,v.2)).1 then some (Sum.inr (v.1.2.2.2,()))else f ((((),v.1.2.1,v.1.2.2.1,wrap .i64 (v.1.2.2.2.1+1),()),v.2))else none else none else some (Sum.inl ((),()))
def c7F (v:b9R):Nat:=v.1.2.1.length+v.1.2.2.1.natAbs+v.1.2.2.2.1.natAbs+v.2.1.2.1.natAbs+1000
def b0K (v:b9R):=a0C b4u (c7F v) v
def c7G (v):=(b0K v).isSome
def c7H (v):=isR (b0K v)
def g2L (v):=xOf default (b0K v)
def c7I (v):=yOf default (b0K v)
def f6k (x:Den g7L):OD g2K:=bif K92 (x.1,()) then bif !(G92 (x.1,())).1 then some (-1,())else let a:=(((),x.1,(length x.1:Int),0,()),x.2);bif c7G a then bif c7H a then some (c7I a).1 else some (-1,())else none else none
def e6q (x):=(f6k x).isSome
def e6r (x):=(f6k x).getD (zero g2K)
def h0q:=(198,a0b g7L g2K e6q e6r)
noncomputable def g2M:=gE [m92,g7r] Tryz.f198 (lps:=[(4,lmR d8M b0K)])
theorem d3v:EvR g2M (lp Tryz.f198 0) d8M b4u:=fun _ _=>by kernel_rfl
theorem f1k:a0d Tryz.prog h0q:=a0w (a0z (s2 e2u d8x)) (a1n Tryz.func198 rfl rfl rfl (by kernel_rfl) (a0f (by kernel_rfl) (s1 (lR d3v c7F)))) fun _=>by kernel_rfl
abbrev f6l:Ty:=.cons (.slice (S68)) (.cons (.int .i64) (.cons (S63) (.nil)))
abbrev f1l:Ty:=.cons (.int .i64) (.nil)
def f6m (x:Den f6l):OD f1l:=bif K92 (x.1,()) then bif !(G92 (x.1,())).1 then some (-1,())else let a:=wrap .i64 ((length x.1:Int)-1);bif K44 (x.2.1,0,a,()) then bif (G44 (x.2.1,0,a,())).1 then bif decide (0<=x.2.1)&&decide (x.2.1<(length x.1:Int)) then let b:=getD x.1 (toNat x.2.1) (zero S68);bif K20 (b,x.2.2) then bif (G20 (b,x.2.2)).1 then some (x.2.1,())else bif e6q (x.1,x.2.2) then some (e6r (x.1,x.2.2))else none else none else none else bif e6q (x.1,x.2.2) then some (e6r (x.1,x.2.2))else none else none else none
def f6n (x):=(f6m x).isSome
def f6o (x):=(f6m x).getD (zero f1l)
def h0r:=(137,a0b f6l f1l f6n f6o)
theorem f1m:a0d Tryz.prog h0r:=fnE (s4 e2u a5X f0C f1k) Tryz.func137
abbrev g7M:Ty:=.cons (S27) (.nil)
abbrev g2N:Ty:=.cons (S27) (.nil)
abbrev b9S:Type:=(Unit×Unit×c4D×a5w)×a7l×(a9V×ty0×a4i)×c4D×Unit
abbrev d8N:Type:=ty5×a7l×(a9V×ty0×a4i)×c4D×Unit
def d8O:LX:=⟨[2,3,14,15,16],[.boxNil 3 2],0,[2,3],[],⟨[(2,om1),(3,om3),(14,.one (.sl (.slice (.flt .f32)))),(15,om0),(16,om0)],[(0,bx4),(1,g5s),(2,.arr (.slice (.flt .f32)))],3,0⟩,⟨[(2,om1),(3,om3)],[(0,bx4),(1,g5s),(2,.arr (.slice (.flt .f32)))],3,0⟩⟩
def b9T (f:b9S->Option (d8N)) (v:b9S):Option (d8N):=bif decide (v.1.2.2.2.2.1<v.1.2.2.2.1) then bif decide (0<=v.1.2.2.2.2.1)&&decide (v.1.2.2.2.2.1<(length v.1.2.2.1:Int)) then let a:=zero (Ty.slice (Ty.flt .f32));let b:=getD v.1.2.2.1 (toNat v.1.2.2.2.2.1) a;bif e5I (b,()) then let c:=set (replicate 1 a) 0 (e5J (b,())).1;bif a0j (length v.2.2.2.1+length c) then f ((((),(),v.1.2.2.1,v.1.2.2.2.1,wrap .i64 (v.1.2.2.2.2.1+1),()),((),(),(),()),(v.2.2.1.1,v.2.2.1.2.1,(),()),v.2.2.2.1++c,()))else none else none else none else some (((),(),()),((),(),(),()),(v.2.2.1.1,v.2.2.1.2.1,(),()),v.2.2.2)
def b9U (v:b9S):Nat:=v.1.2.2.1.length+v.1.2.2.2.1.natAbs+v.1.2.2.2.2.1.natAbs+v.2.2.1.1.length+v.2.2.1.2.1.length+v.2.2.2.1.length+1000
def b9V (v:b9S):=a0C b9T (b9U v) v
def c7J (v):=(b9V v).isSome
def c7K (v):=(b9V v).getD default
def f6p (x:Den g7M):OD g2N:=bif e5I (x.1.1,()) then bif e5L (x.1.2.1,()) then let c:=e5J (x.1.1,());let d:=e5M (x.1.2.1,());let b:=(((),(),x.1.2.2.1,(length x.1.2.2.1:Int),0,()),((),(),(),()),(c.1,d.1,(),()),[],());bif c7J b then let a:=c7K b;some ((a.2.2.1.1,a.2.2.1.2.1,a.2.2.2),())else none else none else none
def g2O (x):=(f6p x).isSome
def g2P (x):=(f6p x).getD (zero g2N)
def h0t:=(147,a0b g7M g2N g2O g2P)
noncomputable def g2Q:=gE [g9i,g9j] Tryz.f147 (lps:=[(3,lmX d8O b9V)]) (rown:=[.frzBox 2])
theorem d3w:EvX g2Q (lp Tryz.f147 0) d8O b9T:=fun _ _=>by kernel_rfl
theorem f1n:a0d Tryz.prog h0t:=a0w (a0z (s2 e7v d5E)) (a1n Tryz.func147 rfl rfl rfl (by kernel_rfl) (a0f (by kernel_rfl) (s1 (lX d3w b9U)))) fun _=>by kernel_rfl
abbrev g7N:Ty:=.cons (S30) (.nil)
abbrev g2R:Ty:=.cons (S30) (.nil)
def f6q (x:Den g7N):OD g2R:=bif f4F (x.1.1,()) then bif e5L x.1.2 then some (((f4G (x.1.1,())).1,e5M x.1.2),())else none else none
def g2S (x):=(f6q x).isSome
def g2T (x):=(f6q x).getD (zero g2R)
def h0u:=(148,a0b g7N g2R g2S g2T)
theorem f1o:a0d Tryz.prog h0u:=fnE (s2 e7C d5E) Tryz.func148
abbrev g7O:Ty:=.cons (S38) (.nil)
abbrev g2U:Ty:=.cons (S38) (.nil)
def f6r (x:Den g7O):OD g2U:=bif f4J (x.1.2.1,()) then some ((x.1.1,(f4K (x.1.2.1,())).1,x.1.2.2),())else none
def g2V (x):=(f6r x).isSome
def g2W (x):=(f6r x).getD (zero g2U)
def h0v:=(150,a0b g7O g2U g2V g2W)
theorem f1p:a0d Tryz.prog h0v:=fnE (s1 e7K) Tryz.func150
abbrev A84:Ty:=.cons (S40) (.nil)
abbrev R84:Ty:=.cons (S40) (.nil)
def F84 (x:Den A84):OD R84:=bif g2O (x.1.1,()) then bif g2S (x.1.2.1,()) then bif f4H (x.1.2.2.1,()) then bif g2V x.1.2.2.2 then some (((g2P (x.1.1,())).1,(g2T (x.1.2.1,())).1,(f4I (x.1.2.2.1,())).1,g2W x.1.2.2.2),())else none else none else none else none
def K84 (x):=(F84 x).isSome
def G84 (x):=(F84 x).getD (zero R84)
def m84:=(84,a0b A84 R84 K84 G84)
theorem g2X:a0d Tryz.prog m84:=fnE (s4 f1n f1o e7G f1p) Tryz.func84
abbrev A16:Ty:=.cons (.str) (.nil)
abbrev R16:Ty:=.cons (.slice (.str)) (.cons (.bool) (.nil))
abbrev b9W:Type:=(Unit×d1X×a5w)×d5y
abbrev d8P:Type:=a4i×d5y
def d8Q:LX:=⟨[5,28,29,30],[.nil 5],2,[5],[],⟨[(5,on0),(28,e1q),(29,om0),(30,om0)],[(0,.arr (.str))],1,0⟩,⟨[(5,on0)],[(0,.arr (.str))],1,0⟩⟩
def b9X (f:b9W->Option (d8P)) (v:b9W):Option (d8P):=bif decide (v.1.2.2.2.1<v.1.2.2.1) then bif decide (0<=v.1.2.2.2.1)&&decide (v.1.2.2.2.1<(length v.1.2.1:Int)) then let a:=getD v.1.2.1 (toNat v.1.2.2.2.1) (zero Ty.str);bif !a0O a { data:=#[] } then let b:=set (replicate 1 (zero Ty.str)) 0 a;bif a0j (length v.2.1+length b) then f ((((),v.1.2.1,v.1.2.2.1,wrap .i64 (v.1.2.2.2.1+1),()),v.2.1++b,()))else none else f ((((),v.1.2.1,v.1.2.2.1,wrap .i64 (v.1.2.2.2.1+1),()),v.2))else none else some (((),()),v.2)
def b9Y (v:b9W):Nat:=v.1.2.1.length+v.1.2.2.1.natAbs+v.1.2.2.2.1.natAbs+v.2.1.length+1000
def b9Z (v:b9W):=a0C b9X (b9Y v) v
def c7L (v):=(b9Z v).isSome
def c7M (v):=(b9Z v).getD default
abbrev d3x:Type:=e7i
abbrev f1q:Type:=d5B×Unit
abbrev f1r:Type:=(Unit×d1Y)×Unit
def f1s:LR:=⟨[0,4],[],0,[0],[],⟨[(0,om5),(4,om0)],[],0,0⟩,⟨[(0,om5)],[],0,0⟩,⟨[(2,.one (.nil (.str))),(3,om2)],[],0,0⟩⟩
def c7N (f:d3x->Option (f1q⊕f1r)) (v:d3x):Option (f1q⊕f1r):=let a:=v.1.2.1<(ByteArray.size v.1.1:Int);bif decide a then let b:=decide (0<=v.1.2.1)&&decide a;bif b then bif decide (a0o v.1.1 v.1.2.1<32) then some (Sum.inr (((),false,()),()))else bif b then bif decide (a0o v.1.1 v.1.2.1>126) then some (Sum.inr (((),false,()),()))else f (((v.1.1,wrap .i64 (v.1.2.1+1),()),()))else none else none else some (Sum.inl ((v.1.1,()),()))
def e2M (v:d3x):Nat:=v.1.1.size+v.1.2.1.natAbs+1000
def c2o (v:d3x):=a0C c7N (e2M v) v
def d8R (v):=(c2o v).isSome
def d8S (v):=isR (c2o v)
def d8T (v):=xOf default (c2o v)
def d8U (v):=yOf default (c2o v)
def F16 (x:Den A16):OD R16:=bif decide ((ByteArray.size x.1:Int)>600) then some ([],false,())else bif d8R ((x.1,0,()),()) then bif d8S ((x.1,0,()),()) then some ([],(d8U ((x.1,0,()),())).1.2)else let e:=d8T ((x.1,0,()),());let a:=(e.1.1,{ data:=#[32] },());bif K48 a then let b:=G48 a;let c:=(((),b.1,(length b.1:Int),0,()),[],());bif c7L c then let d:=c7M c;bif decide ((length d.2.1:Int)>24) then some ([],false,())else some (d.2.1,true,())else none else none else none
def K16 (x):=(F16 x).isSome
def G16 (x):=(F16 x).getD (zero R16)
def m16:=(16,a0b A16 R16 K16 G16)
noncomputable def g7P:=gE [m48] Tryz.f16 (lps:=[(4,lmR f1s c2o),(10,lmX d8Q b9Z)]) (rown:=[.frz 2])
theorem e2N:EvR g7P (lp Tryz.f16 0) f1s c7N:=fun _ _=>by kernel_rfl
theorem d3y:EvX g7P (lp Tryz.f16 1) d8Q b9X:=fun _ _=>by kernel_rfl
theorem f1t:a0d Tryz.prog m16:=a0w (a0z (s1 f8c)) (a1n Tryz.func16 rfl rfl rfl (by kernel_rfl) (a0f (by kernel_rfl) (s2 (lR e2N e2M) (lX d3y b9Y)))) fun _=>by kernel_rfl
abbrev I36:Sg:=⟨[.val (S46)],[]⟩
abbrev O36:Sg:=⟨[.mix [.sl (.flt .f32),.sl (.int .i64),.sl (.slice (.flt .f32)),.sl (a1m),.sl (.int .i64),.sl (S68),.int .i64,.int .i64,.int .i64,.int .i64,.sl (a2n),.int .i64,.int .i64,.int .i64,.int .i64,.int .i64,.cpx .f64,.int .i64,.cpx .f32,.int .i64,.ref (S97) 0,.ref (.str) 1]],[.arr (S97),.arr (.str)]⟩
def F36 (x:I36.den):Option (O36.den):=bif K84 (x.1.1.1,()) then let b:=((x.1.1.2.2.2.2.2.2.1,()),());bif K85 b then bif K86 (x.1.1.2.2.2.2.2.2.2,()) then let a:=G84 (x.1.1.1,());some (((a.1.1.1,a.1.1.2.1,a.1.1.2.2.1,a.1.2.1.1,a.1.2.1.2.1,a.1.2.2.1,a.1.2.2.2.1.1.1.1,a.1.2.2.2.1.1.1.2.1,a.1.2.2.2.1.1.2.1.1,a.1.2.2.2.1.1.2.1.2.1,a.1.2.2.2.1.2.1,a.1.2.2.2.1.2.2.1.1.1,a.1.2.2.2.1.2.2.1.1.2.1,a.1.2.2.2.1.2.2.1.2.1.1,a.1.2.2.2.1.2.2.1.2.1.2.1,x.1.1.2.1,x.1.1.2.2.1,x.1.1.2.2.2.1,x.1.1.2.2.2.2.1,x.1.1.2.2.2.2.2.1,(),(),()),()),(G85 b).2.1,(G86 (x.1.1.2.2.2.2.2.2.2,())).2)else none else none else none
def K36 (x):=(F36 x).isSome
def G36 (x):=(F36 x).getD (a0R O36)
def m36:=(36,a0y false I36 O36 K36 G36)
theorem g2Y:a0d Tryz.prog m36:=sgE false (s3 g2X f8q f8u) Tryz.func36
theorem b4v (x:Den A44):F44 x=some (decide (x.2.1<=x.1)&&decide (x.1<=x.2.2.1),()):=by
 unfold F44;by_cases h:x.2.1<=x.1<;>simp[h]
theorem b0L (x:Den A51):F51 x=some (decide (x.2.1<=x.1)&&decide (x.1<=x.2.2.1),()):=b4v x
def a4d (s:Den S68) (m:Den S63):Bool:=(fgt .f32 m.1 s.2.1||feq .f32 m.1 s.2.1)&&(flt .f32 m.1 s.2.2.1||feq .f32 m.1 s.2.2.1)&&(decide (s.2.2.2.1<=m.2.1)&&decide (m.2.1<=s.2.2.2.2.1))
theorem b6C (x:Den f0Q):f5R x=some (a4d x.1 x.2.1,()):=by
 unfold f5R a4d;simp only[K44,G44,b4v,isSome_some,getD_some];cases (fgt .f32 x.2.1.1 x.1.2.1||feq .f32 x.2.1.1 x.1.2.1)<;>cases (flt .f32 x.2.1.1 x.1.2.2.1||feq .f32 x.2.1.1 x.1.2.2.1)<;>simp
def I64 (n:Int):Prop := -9223372036854775808<=n /\ n<=9223372036854775807
def a1z (s:Den S68) (m:Den S63):Bool:=
 (fgt .f32 m.1 (a0a .sub .f32 s.2.1 1065353216)||feq .f32 m.1 (a0a .sub .f32 s.2.1 1065353216))&&(flt .f32 m.1 (a0a .add .f32 s.2.2.1 1065353216)||feq .f32 m.1 (a0a .add .f32 s.2.2.1 1065353216)) &&
  (decide (s.2.2.2.1<=m.2.1)||decide (s.2.2.2.1-m.2.1<=5))&&(decide (m.2.1<=s.2.2.2.2.1)||decide (m.2.1-s.2.2.2.2.1<=5))
theorem c0a {a b:Int} (ha:I64 a) (hb:I64 b) (h:¬b<=a):(decide (0<=IntKind.i64.wrap (b-a))&&decide (IntKind.i64.wrap (b-a)<=5))=decide (b-a<=5):=by
 unfold I64 at ha hb;rw[IntKind.wrap_i64,Bool.eq_iff_iff];simp only[Bool.and_eq_true,decide_eq_true_eq];omega
theorem c0b {a b:Int} (ha:I64 a) (hb:I64 b) (h:¬b<=a):decide (IntKind.u64.wrap (IntKind.u64.wrap b-IntKind.u64.wrap a)<=5)=decide (b-a<=5):=by
 unfold I64 at ha hb;rw[IntKind.wrap_u64,IntKind.wrap_u64,IntKind.wrap_u64,Bool.eq_iff_iff];simp only[decide_eq_true_eq];omega
theorem dlt (a b:Int):decide (a<b)=!decide (b<=a):=by by_cases h:b<=a<;>simp[h]<;>omega
theorem d8V (x:Den A55) (h1:I64 x.1.2.2.2.1) (h2:I64 x.1.2.2.2.2.1) (h3:I64 x.2.1.2.1):F55 x=some (a1z x.1 x.2.1,()):=by
 unfold F55 a1z;simp only[K51,G51,b0L,isSome_some,getD_some,cond_true,dlt];generalize (fgt .f32 x.2.1.1 (a0a .sub .f32 x.1.2.1 1065353216)||feq .f32 x.2.1.1 (a0a .sub .f32 x.1.2.1 1065353216))=p;generalize (flt .f32 x.2.1.1 (a0a .add .f32 x.1.2.2.1 1065353216)||feq .f32 x.2.1.1 (a0a .add .f32 x.1.2.2.1 1065353216))=q;by_cases ha:x.1.2.2.2.1<=x.2.1.2.1<;>by_cases hb:x.2.1.2.1<=x.1.2.2.2.2.1
 ·simp only[ha,hb,decide_true];cases p<;>cases q<;>rfl
 ·simp only[ha,hb,decide_true,decide_false,c0a h2 h3 hb];cases p<;>cases q<;>rfl
 ·simp only[ha,hb,decide_true,decide_false,c0a h3 h1 ha];cases p<;>cases q<;>cases decide (x.1.2.2.2.1-x.2.1.2.1<=5)<;>rfl
 ·simp only[ha,hb,decide_false,c0a h3 h1 ha,c0a h2 h3 hb];cases p<;>cases q<;>cases decide (x.1.2.2.2.1-x.2.1.2.1<=5)<;>rfl
theorem d8W (x:Den A20) (h1:I64 x.1.2.2.2.1) (h2:I64 x.1.2.2.2.2.1) (h3:I64 x.2.1.2.1):F20 x=some (a1z x.1 x.2.1,()):=by
 unfold F20 a1z;simp only[ge_iff_le];generalize (fgt .f32 x.2.1.1 (a0a .sub .f32 x.1.2.1 1065353216)||feq .f32 x.2.1.1 (a0a .sub .f32 x.1.2.1 1065353216))=p;generalize (flt .f32 x.2.1.1 (a0a .add .f32 x.1.2.2.1 1065353216)||feq .f32 x.2.1.1 (a0a .add .f32 x.1.2.2.1 1065353216))=q;by_cases ha:x.1.2.2.2.1<=x.2.1.2.1<;>by_cases hb:x.2.1.2.1<=x.1.2.2.2.2.1
 ·simp only[ha,hb,decide_true];cases p<;>cases q<;>rfl
 ·simp only[ha,hb,decide_true,decide_false,c0b h2 h3 hb];cases p<;>cases q<;>rfl
 ·simp only[ha,hb,decide_true,decide_false,c0b h3 h1 ha];cases p<;>cases q<;>cases decide (x.1.2.2.2.1-x.2.1.2.1<=5)<;>rfl
 ·simp only[ha,hb,decide_false,c0b h3 h1 ha,c0b h2 h3 hb];cases p<;>cases q<;>cases decide (x.1.2.2.2.1-x.2.1.2.1<=5)<;>rfl
theorem a6F (c x:Bool):(bif c then some (x,())else some (false,()))=some (c&&x,()):=by cases c<;>rfl
theorem c7O (a:ByteArray):a0O a a=true:=by simp[a0O]
def a6G (s:ByteArray):Bool:=a0i (fun i=>decide (97<=a0o s i)&&decide (a0o s i<=122)) 0 s.size
def g2Z:ByteArray:={ data:=#[110,111,110,101] }
def b6D (s:ByteArray):Bool:=a6G s&&((decide (1<=(s.size:Int))&&decide ((s.size:Int)<=16))&&!a0O s g2Z)
theorem dgt (a b:Int):decide (a>b)=!decide (a<=b):=by by_cases h:a<=b<;>simp[h]<;>omega
theorem e2O (s:ByteArray) (h:s.size<=9223372036854775807):f4P (s,())=some (b6D s,()):=by
 have hl:b0w ((s,(0:Int),()),())=some (bif a6G s then .inl ((s,()),())else .inr ((false,()),())):=by
  refine(a0H (q:=b3G) (fun k=>((s,(k:Int),()),())) s.size (fun i=>decide (97<=a0o s i)&&decide (a0o s i<=122)) _ _ ?_ ?_ _ ?_:_)
  ·intro k f hk;unfold b3G;simp only[a2h k (by omega),dlt (a0o s k),dgt (a0o s k)];have e1:decide ((k:Int)<(s.size:Int))=true:=by simpa using hk
   have e2:decide (0<=(k:Int))=true:=by simp
   simp only[e1,e2,Bool.and_self,cond_true];cases decide (97<=a0o s k)<;>cases decide (a0o s k<=122)<;>rfl
  ·intro f;simp[b3G]
  ·simp only[c5f];omega
 unfold f4P b6D;simp only[c5g,c5h,c5i,c5j,hl,isSome_some,cond_true,K51,G51,b0L,getD_some];cases a6G s
 ·rfl
 ·simp only[cond_true,isR,xOf,cond_false,Bool.true_and];exact a6F _ _
theorem e2P (s:ByteArray) (h:s.size<=9223372036854775807):f5r (s,())=some (b6D s,()):=by
 have hl:b0G ((s,(0:Int),()),())=some (bif a6G s then .inl ((s,()),())else .inr ((false,()),())):=by
  refine(a0H (q:=b4h) (fun k=>((s,(k:Int),()),())) s.size (fun i=>decide (97<=a0o s i)&&decide (a0o s i<=122)) _ _ ?_ ?_ _ ?_:_)
  ·intro k f hk;unfold b4h;simp only[a2h k (by omega),dlt (a0o s k),dgt (a0o s k)];have e1:decide ((k:Int)<(s.size:Int))=true:=by simpa using hk
   have e2:decide (0<=(k:Int))=true:=by simp
   simp only[e1,e2,Bool.and_self,cond_true];cases decide (97<=a0o s k)<;>cases decide (a0o s k<=122)<;>rfl
  ·intro f;simp[b4h]
  ·simp only[c6J];omega
 unfold f5r b6D;simp only[c6K,c6L,c6M,c6N,hl,isSome_some,cond_true,K44,G44,b4v,getD_some];cases a6G s
 ·rfl
 ·simp only[cond_true,isR,xOf,cond_false,Bool.true_and];exact a6F _ _
def at' (l:List (Den S68)) (i:Nat):Den S68:=l.getD i (zero S68)
theorem c7P (l:List (Den S68)) (s:ByteArray) (h:l.length<=9223372036854775807):e9Q (l,s,())=some (match a0s (fun i=>a0O (at' l i).1 s) 0 l.length with|some j=>(j:Int)|none=>-1,()):=by
 have hl:b0H ((s,l,(l.length:Int),(0:Int),()),())=some (match a0s (fun i=>a0O (at' l i).1 s) 0 l.length with|some j => .inr (((j:Int),()),())|none => .inl ((),())):=by
  refine(a4b (q:=b4i) (fun k=>((s,l,(l.length:Int),(k:Int),()),())) l.length (fun i=>a0O (at' l i).1 s) _ (fun j => .inr (((j:Int),()),())) ?_ ?_ _ ?_:_)
  ·intro k f hk;unfold b4i;have e1:decide ((k:Int)<(l.length:Int))=true:=by simpa using hk
   have e2:decide (0<=(k:Int))=true:=by simp
   simp only[a2h k (by omega),e1,e2,Bool.and_self,cond_true,toNat_natCast];rfl
  ·intro f;simp[b4i]
  ·simp only[c6O];omega
 unfold e9Q;simp only[c6P,c6Q,c6R,hl,isSome_some,cond_true];cases a0s (fun i=>a0O (at' l i).1 s) 0 l.length<;>rfl
def a3c (s:Den S68):Bool:=b6D s.1&&((fgt .f32 s.2.1 0||feq .f32 s.2.1 0)&&(fgt .f32 s.2.2.1 s.2.1&&((flt .f32 s.2.2.1 1128792064||feq .f32 s.2.2.1 1128792064) &&
 ((decide (0<=s.2.2.2.1)&&decide (s.2.2.2.1<=180))&&(decide (s.2.2.2.1<=s.2.2.2.2.1)&&decide (s.2.2.2.2.1<=180))))))
def a3F (l:List (Den S68)) (i:Nat):Bool:=a0i (fun j=>!a0O (at' l j).1 (at' l i).1) 0 i
def a2U (l:List (Den S68)):Bool:=a0i (fun i=>a3c (at' l i)&&a3F l i) 0 l.length&&decide ((l.length:Int)<=12)
structure b6E (l:List (Den S68)):Prop where
 len:l.length<=9223372036854775807
 name:∀i,(at' l i).1.size<=9223372036854775807
 rng:∀i,I64 (at' l i).2.2.2.1 /\ I64 (at' l i).2.2.2.2.1
theorem f1u {l:List (Den S68)} {i:Nat}:at' l i∈l∨at' l i=zero S68:=by
 unfold at';rw[List.getD_eq_getElem?_getD];cases h:l[i]? with
 |none=>exact .inr rfl
 |some x=>exact .inl (List.mem_of_getElem? h)
theorem c2p {l:List (Den S68)} {i:Nat} (hi:i<l.length):((match a0s (fun j=>a0O (at' l j).1 (at' l i).1) 0 l.length with|some j=>(j:Int)|none=>-1) != (i:Int))=!a3F l i:=by
 have hs:a0O (at' l i).1 (at' l i).1=true:=c7O _;cases h:a0s (fun j=>a0O (at' l j).1 (at' l i).1) 0 l.length with
 |none=>have:=a2c.1 h i (zero_le _) (by omega);rw[hs]at this;cases this
 | some j =>
   obtain⟨h1,h2,h3,h4⟩:=a1I h;by_cases hji:j=i
   ·subst hji;have:a3F l j=true:=a0t.2 fun k hk1 hk2=>by rw[h4 k (zero_le _) (by omega)];rfl
    rw[this];simp
   ·have hlt:j<i:=by
     rcases Nat.lt_or_ge j i with h5|h5
     ·exact h5
     ·have:=h4 i (zero_le _) (by omega);rw[hs]at this;cases this
    have:a3F l i=false:=by
     cases hf:a3F l i with
     |false=>rfl
     |true=>have:=a0t.1 hf j (zero_le _) (by omega);rw[h3]at this;cases this
    rw[this];simp;omega
theorem c7Q (l:List (Den S68)) (h:b6E l):F92 (l,())=some (a2U l,()):=by
 have hl:c2l ((l,l,(l.length:Int),(0:Int),()),())=some (bif a0i (fun i=>a3c (at' l i)&&a3F l i) 0 l.length then .inl ((),())else .inr ((false,()),())):=by
  refine(a0H (q:=c6T) (fun k=>((l,l,(l.length:Int),(k:Int),()),())) l.length (fun i=>a3c (at' l i)&&a3F l i) _ _ ?_ ?_ _ ?_:_)
  ·intro k f hk;unfold c6T a3c;have e1:decide ((k:Int)<(l.length:Int))=true:=by simpa using hk
   have e2:decide (0<=(k:Int))=true:=by simp
   have hlen:=h.len;have ha:getD l k (zero S68)=at' l k:=rfl;have hf:=c2p hk;simp only[a2h k (by omega),e1,e2,Bool.and_self,cond_true,toNat_natCast,ha,g0F,g0G,e2P _ (h.name k),e6g,c6S,c7P l _ h.len,K44,G44,b4v,isSome_some,getD_some,hf];generalize at' l k=s;cases b6D s.1<;>cases a3F l k<;>cases (fgt .f32 s.2.1 0||feq .f32 s.2.1 0)<;>cases fgt .f32 s.2.2.1 s.2.1<;>cases (flt .f32 s.2.2.1 1128792064||feq .f32 s.2.2.1 1128792064) <;>
    cases (decide (0<=s.2.2.2.1)&&decide (s.2.2.2.1<=180))<;>cases (decide (s.2.2.2.1<=s.2.2.2.2.1)&&decide (s.2.2.2.2.1<=180))<;>rfl
  ·intro f;simp[c6T]
  ·simp only[e2s];omega
 unfold F92 a2U;simp only[d7Q,d7R,d7S,hl,isSome_some,cond_true,dgt (l.length:Int)];cases decide ((l.length:Int)<=12)<;>cases a0i (fun i=>a3c (at' l i)&&a3F l i) 0 l.length<;>rfl
theorem b2c (l:List (Den S68)) (h:b6E l):f4Q (l,())=some (a2U l,()):=by
 have hlen:=h.len;have hin:∀k,k<l.length->a8Z ((l,(k:Int),(),(0:Int),()),at' l k,())=some (bif a3F l k then .inl ((l,(k:Int),()),())else .inr ((false,()),())):=by
  intro k hk;refine(a0H (q:=b3H) (fun j=>((l,(k:Int),(),(j:Int),()),at' l k,())) k (fun j=>!a0O (at' l j).1 (at' l k).1) _ _ ?_ ?_ _ ?_:_)
  ·intro j f hj;unfold b3H;have e1:decide ((j:Int)<(k:Int))=true:=by simpa using hj
   have e2:decide (0<=(j:Int))=true:=by simp
   have e3:decide ((j:Int)<(l.length:Int))=true:=by simp;omega
   have ha:getD l j (zero S68)=at' l j:=rfl;simp only[a2h j (by omega),e1,e2,e3,Bool.and_self,cond_true,toNat_natCast,ha];cases a0O (at' l j).1 (at' l k).1<;>rfl
  ·intro f;simp[b3H]
  ·simp only[c5k];omega
 have hl:b0x ((l,(0:Int),()),())=some (bif a0i (fun i=>a3c (at' l i)&&a3F l i) 0 l.length then .inl ((l,()),())else .inr ((false,()),())):=by
  refine(a0H (q:=b3I) (fun k=>((l,(k:Int),()),())) l.length (fun i=>a3c (at' l i)&&a3F l i) _ _ ?_ ?_ _ ?_:_)
  ·intro k f hk;have hi:=hin k hk;unfold b3I a3c;have e1:decide ((k:Int)<(l.length:Int))=true:=by simpa using hk
   have e2:decide (0<=(k:Int))=true:=by simp
   have ha:getD l k (zero S68)=at' l k:=rfl;simp only[e1,e2,Bool.and_self,cond_true,toNat_natCast,ha,f8G,f8H,e2O _ (h.name k),K51,G51,b0L,isSome_some,getD_some];have hi':a8Z ((l,(k:Int),(),(0:Int),()),((at' l k).1,(at' l k).2.1,(at' l k).2.2.1,(at' l k).2.2.2.1,(at' l k).2.2.2.2.1,()),())=_:=hi;simp only[c5l,c5m,c5n,c5o,hi',isSome_some];generalize at' l k=s;cases b6D s.1<;>cases a3F l k<;>cases (fgt .f32 s.2.1 0||feq .f32 s.2.1 0)<;>cases fgt .f32 s.2.2.1 s.2.1<;>cases (flt .f32 s.2.2.1 1128792064||feq .f32 s.2.2.1 1128792064) <;>
    cases (decide (0<=s.2.2.2.1)&&decide (s.2.2.2.1<=180))<;>cases (decide (s.2.2.2.1<=s.2.2.2.2.1)&&decide (s.2.2.2.2.1<=180))<;>first|rfl|(simp only[cond_true,cond_false,isR,xOf,yOf,Bool.and_true,Bool.not_true,a2h k (by omega)];done)|(simp[isR,xOf,yOf,a2h k (by omega)])
  ·intro f;simp[b3I]
  ·simp only[c5p];omega
 unfold f4Q a2U;simp only[c5q,c5r,c5s,c5t,hl,isSome_some,cond_true];cases a0i (fun i=>a3c (at' l i)&&a3F l i) 0 l.length
 ·rfl
 ·simp only[cond_true,isR,xOf,cond_false,Bool.true_and];rfl
def inB (n lo hi:Int):Bool:=decide (lo<=n)&&decide (n<=hi)
theorem a2d (x:Den A51):F51 x=some (inB x.1 x.2.1 x.2.2.1,()):=by
 unfold F51 inB;exact a6F _ _
theorem a3r (x:Den A44):F44 x=some (inB x.1 x.2.1 x.2.2.1,()):=a2d x
def a1N (p:Den S33):Bool:=inB p.1 (-10000) 10000&&inB p.2.1 (-10000) 10000
theorem b4w (x:Den A98):F98 x=some (a1N x.1,()):=by
 unfold F98 a1N;simp only[K51,G51,a2d,isSome_some,getD_some,cond_true];exact a6F _ _
theorem b4x (x:Den A63):F63 x=some (a1N x.1,()):=by
 unfold F63 a1N;simp only[K44,G44,a3r,isSome_some,getD_some,cond_true];exact a6F _ _
def eqP (p q:Den S33):Bool:=p.1==q.1&&p.2.1==q.2.1
def a9X (l:Den S35):Bool:=a1N l.1&&(a1N l.2.1&&!eqP l.1 l.2.1)
theorem e2Q (x:Den f8K):f4R x=some (a9X x.1,()):=by
 unfold f4R a9X;simp only[K98,G98,b4w,isSome_some,getD_some,cond_true];cases a1N x.1.1<;>cases a1N x.1.2.1<;>rfl
theorem e2R (x:Den g0K):f5u x=some (a9X x.1,()):=by
 unfold f5u a9X;simp only[K63,G63,b4x,isSome_some,getD_some,cond_true];cases a1N x.1.1<;>cases a1N x.1.2.1<;>rfl
def mk (c:Den S38) (k:Nat):Den a2n:=c.2.1.getD k (zero a2n)
def a2o (c:Den S38) (k:Nat):Den S33:=if k=0 then c.1.1 else(mk c (k-1)).1
def b2d (c:Den S38) (k:Nat):Bool:=a1N (mk c k).1&&!eqP (mk c k).1 (a2o c k)
def a9h (c:Den S38):Bool:=a9X c.1&&(a9X c.2.2.1&&(inB c.2.1.length 1 20&&a0i (b2d c) 0 c.2.1.length))
theorem c7R (c:Den S38) (k:Nat) (h:k<=c.2.1.length) (hl:c.2.1.length<=9223372036854775807):e5U (c,(k:Int),())=some (a2o c k,()):=by
 unfold e5U a2o;by_cases hk:k=0
 ·subst hk;rfl
 ·have e1:((k:Int)==0)=false:=by simpa using hk
  have e2:IntKind.i64.wrap ((k:Int)-1)=((k-1:Nat):Int):=by rw[w64 (by omega) (by omega)];omega
  have e3:decide (0<=((k-1:Nat):Int))=true:=by simp
  have e4:decide (((k-1:Nat):Int)<(c.2.1.length:Int))=true:=by simp;omega
  simp only[e1,e2,e3,e4,cond_false,Bool.and_self,cond_true,toNat_natCast,if_neg hk];rfl
theorem e2S (c:Den S38) (k:Nat) (h:k<=c.2.1.length) (hl:c.2.1.length<=9223372036854775807):e9V (c,(k:Int),())=some (a2o c k,()):=c7R c k h hl
theorem e2T (c:Den S38) (hl:c.2.1.length<=9223372036854775807):f4U (c,())=some (a9h c,()):=by
 have hlp:a9a (((),(0:Int),()),(c.1.1.1,c.1.1.2.1,c.1.2.1.1,c.1.2.1.2.1,c.2.1,c.2.2.1.1.1,c.2.2.1.1.2.1,c.2.2.1.2.1.1,c.2.2.1.2.1.2),())=some (bif a0i (b2d c) 0 c.2.1.length then .inl ((),())else .inr ((false,()),())):=by
  refine(a0H (q:=b3J) (fun k=>(((),(k:Int),()),(c.1.1.1,c.1.1.2.1,c.1.2.1.1,c.1.2.1.2.1,c.2.1,c.2.2.1.1.1,c.2.2.1.1.2.1,c.2.2.1.2.1.1,c.2.2.1.2.1.2),())) c.2.1.length (b2d c) _ _ ?_ ?_ _ ?_:_)
  ·intro k f hk;have e1:decide ((k:Int)<(c.2.1.length:Int))=true:=by simpa using hk
   have e2:decide (0<=(k:Int))=true:=by simp
   have ha:c.2.1.getD k (zero a2n)=mk c k:=rfl;have h58:e5U (c,(k:Int),())=some (a2o c k,()):=c7R c k (by omega) hl;unfold b3J b2d;simp only[a2h k (by omega),e1,e2,Bool.and_self,cond_true,toNat_natCast,ha,K98,G98,b4w,f8N,f8O,isSome_some,getD_some];have h58':e5U ((((c.1.1.1,c.1.1.2.1,()),(c.1.2.1.1,c.1.2.1.2.1,()),()),c.2.1,((c.2.2.1.1.1,c.2.2.1.1.2.1,()),c.2.2.1.2.1,()),()),(k:Int),())=some (a2o c k,()):=h58;simp only[h58',isSome_some,getD_some,cond_true];cases a1N (mk c k).1
   ·rfl
   ·cases hq:eqP (mk c k).1 (a2o c k)<;>simp only[Bool.not_true,cond_false,Bool.true_and]
    ·have:((mk c k).1.1==(a2o c k).1&&(mk c k).1.2.1==(a2o c k).2.1)=false:=hq;simp only[this,cond_false,Bool.not_false,cond_true]
    ·have:((mk c k).1.1==(a2o c k).1&&(mk c k).1.2.1==(a2o c k).2.1)=true:=hq;simp only[this,cond_true]
  ·intro f;simp[b3J]
  ·simp only[c5v];omega
 unfold f4U a9h;simp only[f4S,f4T,e2Q,K51,G51,a2d,isSome_some,getD_some,cond_true,c5w,c5x,c5y];have hlp':a9a (((),0,()),(c.1.1.1,c.1.1.2.1,c.1.2.1.1,c.1.2.1.2.1,c.2.1,c.2.2.1.1.1,c.2.2.1.1.2.1,c.2.2.1.2.1),())=_:=hlp;cases a9X c.1
 ·rfl
 ·cases a9X c.2.2.1
  ·rfl
  ·cases inB c.2.1.length 1 20
   ·rfl
   ·simp only[Bool.not_true,cond_false,Bool.true_and,hlp',isSome_some,cond_true];cases a0i (b2d c) 0 c.2.1.length<;>rfl
theorem f1v (c:Den S38) (hl:c.2.1.length<=9223372036854775807):F93 (c,())=some (a9h c,()):=by
 have hlp:b6p (((),c.2.1,(c.2.1.length:Int),(0:Int),()),(c.1.1.1,c.1.1.2.1,c.1.2.1.1,c.1.2.1.2.1,c.2.1,c.2.2.1.1.1,c.2.2.1.1.2.1,c.2.2.1.2.1.1,c.2.2.1.2.1.2),())=some (bif a0i (b2d c) 0 c.2.1.length then .inl ((),())else .inr ((false,()),())):=by
  refine(a0H (q:=c6U) (fun k=>(((),c.2.1,(c.2.1.length:Int),(k:Int),()),(c.1.1.1,c.1.1.2.1,c.1.2.1.1,c.1.2.1.2.1,c.2.1,c.2.2.1.1.1,c.2.2.1.1.2.1,c.2.2.1.2.1.1,c.2.2.1.2.1.2),())) c.2.1.length (b2d c) _ _ ?_ ?_ _ ?_:_)
  ·intro k f hk;have e1:decide ((k:Int)<(c.2.1.length:Int))=true:=by simpa using hk
   have e2:decide (0<=(k:Int))=true:=by simp
   have ha:c.2.1.getD k (zero a2n)=mk c k:=rfl;have h63:e9V (c,(k:Int),())=some (a2o c k,()):=e2S c k (by omega) hl;unfold c6U b2d;simp only[a2h k (by omega),e1,e2,Bool.and_self,cond_true,toNat_natCast,ha,K63,G63,b4x,g0N,g0O,isSome_some,getD_some];have h63':e9V ((((c.1.1.1,c.1.1.2.1,()),(c.1.2.1.1,c.1.2.1.2.1,()),()),c.2.1,((c.2.2.1.1.1,c.2.2.1.1.2.1,()),c.2.2.1.2.1,()),()),(k:Int),())=some (a2o c k,()):=h63;simp only[h63',isSome_some,getD_some,cond_true];cases a1N (mk c k).1
   ·rfl
   ·cases hq:eqP (mk c k).1 (a2o c k)<;>simp only[Bool.not_true,cond_false,Bool.true_and]
    ·have:((mk c k).1.1==(a2o c k).1&&(mk c k).1.2.1==(a2o c k).2.1)=false:=hq;simp only[this,cond_false,Bool.not_false,cond_true]
    ·have:((mk c k).1.1==(a2o c k).1&&(mk c k).1.2.1==(a2o c k).2.1)=true:=hq;simp only[this,cond_true]
  ·intro f;simp[c6U]
  ·simp only[e2v];omega
 unfold F93 a9h;simp only[f5v,f5w,e2R,K44,G44,a3r,isSome_some,getD_some,cond_true,d7T,d7U,d7V];have hlp':b6p (((),c.2.1,(c.2.1.length:Int),0,()),(c.1.1.1,c.1.1.2.1,c.1.2.1.1,c.1.2.1.2.1,c.2.1,c.2.2.1.1.1,c.2.2.1.1.2.1,c.2.2.1.2.1),())=_:=hlp;cases a9X c.1
 ·rfl
 ·cases a9X c.2.2.1
  ·rfl
  ·cases inB c.2.1.length 1 20
   ·rfl
   ·simp only[Bool.not_true,cond_false,Bool.true_and,hlp',isSome_some,cond_true];cases a0i (b2d c) 0 c.2.1.length<;>rfl
theorem g3a (x:Den A98):K98 x=true:=by unfold K98;rw[b4w];rfl
theorem g3b (x:Den A63):K63 x=true:=by unfold K63;rw[b4x];rfl
theorem f1w (x:Den A98):G98 x=(a1N x.1,()):=by unfold G98;rw[b4w];rfl
theorem f1x (x:Den A63):G63 x=(a1N x.1,()):=by unfold G63;rw[b4x];rfl
def sg (t:List (Den S97)) (k:Nat):Den S97:=t.getD k (zero S97)
def a6H (t:List (Den S97)) (k:Nat):Bool:=a1N (sg t k).1&&(inB (sg t k).2.1 0 10000000&&!(decide (0<k)&&decide ((sg t k).2.1<=(sg t (k-1)).2.1)))
def a3G (t:List (Den S97)):Bool:=a0i (a6H t) 0 t.length&&decide ((t.length:Int)<=200)
theorem c0c (x:Den A43):F43 x=some (inB x.1 0 10000000,()):=by
 unfold F43;simp only[K44,G44,a3r,isSome_some,getD_some,cond_true]
theorem f1y (t:List (Den S97)) (h:t.length<=9223372036854775807):F53 (t,())=some (a3G t,()):=by
 have hl:c2h ((t,(0:Int),()),())=some (bif a0i (a6H t) 0 t.length then .inl ((t,()),())else .inr ((false,()),())):=by
  refine(a0H (q:=c5G) (fun k=>((t,(k:Int),()),())) t.length (a6H t) _ _ ?_ ?_ _ ?_:_)
  ·intro k f hk;have e1:decide ((k:Int)<(t.length:Int))=true:=by simpa using hk
   have e2:decide (0<=(k:Int))=true:=by simp
   have ha:∀k,t.getD k (zero S97)=sg t k:=fun _=>rfl
   unfold c5G a6H;simp only[a2h k (by omega),e1,e2,Bool.and_self,cond_true,toNat_natCast,ha,K98,G98,b4w,K51,G51,a2d,isSome_some,getD_some];cases a1N (sg t k).1
   ·rfl
   ·cases inB (sg t k).2.1 0 10000000
    ·rfl
    ·by_cases hk0:0<k
     ·have e3:IntKind.i64.wrap ((k:Int)-1)=((k-1:Nat):Int):=by rw[w64 (by omega) (by omega)];omega
      have e4:decide (((k-1:Nat):Int)<(t.length:Int))=true:=by simp;omega
      have e5:decide (0<=((k-1:Nat):Int))=true:=by simp
      have e6:decide ((k:Int)>0)=true:=by simpa using hk0
      simp only[e3,e4,e5,e6,toNat_natCast,hk0,decide_true,Bool.and_self,cond_true,Bool.not_true,cond_false,Bool.true_and];cases decide ((sg t k).2.1<=(sg t (k-1)).2.1)<;>rfl
     ·have e6:decide ((k:Int)>0)=false:=by simpa using hk0
      simp only[e6,hk0,decide_false,Bool.not_true,cond_false,Bool.true_and,Bool.false_and,Bool.not_false,cond_true]
  ·intro f;simp[c5G]
  ·simp only[e1L];omega
 unfold F53 a3G;simp only[d6m,d6n,d6o,d6p,hl,isSome_some,cond_true];cases a0i (a6H t) 0 t.length
 ·rfl
 ·simp only[cond_true,isR,xOf,cond_false,Bool.true_and];rfl
theorem f1z (t:List (Den S97)) (h:t.length<=9223372036854775807):F46 (t,())=some (a3G t,()):=by
 have hl:c2m ((t,t,(t.length:Int),(0:Int),()),())=some (bif a0i (a6H t) 0 t.length then .inl ((),())else .inr ((false,()),())):=by
  refine(a0H (q:=c6V) (fun k=>((t,t,(t.length:Int),(k:Int),()),())) t.length (a6H t) _ _ ?_ ?_ _ ?_:_)
  ·intro k f hk;have e1:decide ((k:Int)<(t.length:Int))=true:=by simpa using hk
   have e2:decide (0<=(k:Int))=true:=by simp
   have ha:∀k,t.getD k (zero S97)=sg t k:=fun _=>rfl
   unfold c6V a6H;simp only[a2h k (by omega),e1,e2,Bool.and_self,cond_true,toNat_natCast,ha,K63,G63,b4x,K43,G43,c0c,isSome_some,getD_some];cases a1N (sg t k).1
   ·rfl
   ·cases inB (sg t k).2.1 0 10000000
    ·rfl
    ·by_cases hk0:0<k
     ·have e3:IntKind.i64.wrap ((k:Int)-1)=((k-1:Nat):Int):=by rw[w64 (by omega) (by omega)];omega
      have e4:decide (((k-1:Nat):Int)<(t.length:Int))=true:=by simp;omega
      have e5:decide (0<=((k-1:Nat):Int))=true:=by simp
      have e6:decide ((k:Int)>0)=true:=by simpa using hk0
      simp only[e3,e4,e5,e6,toNat_natCast,hk0,decide_true,Bool.and_self,cond_true,Bool.not_true,cond_false,Bool.true_and];cases decide ((sg t k).2.1<=(sg t (k-1)).2.1)<;>rfl
     ·have e6:decide ((k:Int)>0)=false:=by simpa using hk0
      simp only[e6,hk0,decide_false,Bool.not_true,cond_false,Bool.true_and,Bool.false_and,Bool.not_false,cond_true]
  ·intro f;simp[c6V]
  ·simp only[e2x];omega
 unfold F46 a3G;simp only[d7W,d7X,d7Y,hl,isSome_some,cond_true,dgt (t.length:Int)];cases decide ((t.length:Int)<=200)<;>cases a0i (a6H t) 0 t.length<;>rfl
end Go.Proofs.YtjomnmoekchfeaaGreatDoor.AM
