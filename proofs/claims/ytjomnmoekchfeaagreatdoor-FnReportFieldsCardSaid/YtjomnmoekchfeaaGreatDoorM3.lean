/- Texts of one proof, joined: an abstract machine for the program, its functions evaluated, plain lemmas. Conditions: those that each lemma names. -/
import Derived.Test.YtjomnmoekchfeaaGreatDoorM2
import Derived.Test.YtjomnmoekchfeaaGreatDoorProg
import Derived.Test.YtjomnmoekchfeaaGreatDoorChecked
import Derived.Shelf.Strings.Builder1
import Derived.Shelf.Strings.Builder2
import Derived.Shelf.Strings.OnBuilder
import Derived.Shelf.Small.Strs
import Derived.Shelf.Utf8.RuneCount
import Derived.Shelf.Strconv.Itoa0
import Derived.Shelf.Strconv.Itoa1
import Derived.Shelf.LaysM
import Derived.Shelf.Strconv.Itoa2
import Derived.Shelf.Strconv.Itoa3
import Derived.Shelf.Strings.Search1
import Derived.Shelf.Strings.Search2
import Derived.Shelf.Strings.Search3
import Derived.Shelf.Strings.Count
import Derived.Shelf.Strings.Shaped
import Derived.Shelf.Strings.Split
import Derived.Shelf.Strings.SplitShaped
import Derived.Shelf.Unicode.Decode
import Derived.Shelf.Strings.RuneCount
import Derived.Shelf.Strings.Explode
import Derived.Shelf.Unicode.DecodeSlow
import Derived.Shelf.Unicode.DecodeAny
import Derived.Ground.Names2Prog
import Derived.Shelf.Slices.Clone
import Derived.Ground.SlgnProg
import Derived.Shelf.SlicesE.Clone
set_option linter.unusedVariables false
set_option linter.unusedSimpArgs false
namespace Go.Proofs.YtjomnmoekchfeaaGreatDoor.AM
open Go Go.Proofs
abbrev S7:Ty := .cons (.int .i64) (.cons (.int .i64) (.cons (.bool) (.cons (.int .u8) (.nil))))
abbrev S13:Ty := .cons (.str) (.cons (.int .u64) (.nil))
abbrev S27:Ty := .cons (.slice (.flt .f32)) (.cons (.slice (.int .i64)) (.cons (.slice (.slice (.flt .f32))) (.nil)))
abbrev a1B:Ty := .cons (.cpx .f64) (.cons (.cons (.cpx .f32) (.cons (.cpx .f32) (.cons (.cpx .f32) (.cons (.cpx .f32) (.cons (.cpx .f32) (.cons (.cpx .f32) (.cons (.cpx .f32) (.cons (.cpx .f32) (.cons (.cpx .f32) (.cons (.cpx .f32) (.cons (.cpx .f32) (.cons (.cpx .f32) (.cons (.cpx .f32) (.nil)))))))))))))) (.nil))
abbrev S30:Ty := .cons (.slice (a1B)) (.cons (.slice (.int .i64)) (.nil))
abbrev S68:Ty := .cons (.str) (.cons (.flt .f32) (.cons (.flt .f32) (.cons (.int .i64) (.cons (.int .i64) (.nil)))))
abbrev S33:Ty := .cons (.int .i64) (.cons (.int .i64) (.nil))
abbrev S35:Ty := .cons (S33) (.cons (S33) (.nil))
abbrev a2I:Ty := .cons (S33) (.cons (.bool) (.nil))
abbrev S38:Ty := .cons (S35) (.cons (.slice (a2I)) (.cons (S35) (.nil)))
abbrev S40:Ty := .cons (S27) (.cons (S30) (.cons (.slice (S68)) (.cons (S38) (.nil))))
abbrev S97:Ty := .cons (S33) (.cons (.int .i64) (.nil))
abbrev S46:Ty := .cons (S40) (.cons (.int .i64) (.cons (.cpx .f64) (.cons (.int .i64) (.cons (.cpx .f32) (.cons (.int .i64) (.cons (.slice (S97)) (.cons (.slice (.str)) (.nil))))))))
abbrev S63:Ty := .cons (.flt .f32) (.cons (.int .i64) (.nil))
abbrev a1M:Ty := .cons (.slice (.int .u8)) (.cons (.int .i64) (.cons (.int .i64) (.nil)))
abbrev a6c:Ty := .cons (.int .i64) (.cons (.flt .f32) (.cons (.int .i64) (.nil)))
def tab:List (Nat×TI):=[
 (1,⟨1,8,false,.nil,[.pois],[],0,.other⟩),
 (2,⟨1,8,false,.int .i64,[.int .i64 0],[],0,.int .i64⟩),
 (3,⟨1,8,false,.int .i64,[.int .i64 0],[],0,.int .i64⟩),
 (4,⟨1,1,false,.bool,[.bool false],[],0,.bool⟩),
 (5,⟨1,1,false,.int .u8,[.int .u8 0],[],0,.int .u8⟩),
 (6,⟨1,1,false,.int .u8,[.int .u8 0],[],0,.int .u8⟩),
 (7,⟨4,24,true,S7,[.int .i64 0,.int .i64 0,.bool false,.int .u8 0],[(0,1,false),(1,1,false),(2,1,false),(3,1,false)],0,.struct⟩),
 (9,⟨1,16,false,.str,[.str ByteArray.empty],[],0,.string⟩),
 (10,⟨1,16,false,.str,[.str ByteArray.empty],[],0,.string⟩),
 (14,⟨2,24,true,S13,[.str ByteArray.empty,.int .u64 0],[(0,1,false),(1,1,false)],0,.struct⟩),
 (22,⟨1,24,false,.slice (.int .u8),[.nil (.int .u8)],[],5,.slice⟩),
 (24,⟨1,24,false,.slice (.flt .f32),[.nil (.flt .f32)],[],62,.slice⟩),
 (25,⟨1,24,false,.slice (.int .i64),[.nil (.int .i64)],[],3,.slice⟩),
 (26,⟨1,24,false,.slice (.slice (.flt .f32)),[.nil (.slice (.flt .f32))],[],24,.slice⟩),
 (28,⟨3,72,true,S27,[.nil (.flt .f32),.nil (.int .i64),.nil (.slice (.flt .f32))],[(0,1,false),(1,1,false),(2,1,false)],0,.struct⟩),
 (29,⟨1,24,false,.slice (a1B),[.nil (a1B)],[],186,.slice⟩),
 (31,⟨2,48,true,S30,[.nil (a1B),.nil (.int .i64)],[(0,1,false),(1,1,false)],0,.struct⟩),
 (32,⟨1,24,false,.slice (S68),[.nil (S68)],[],69,.slice⟩),
 (34,⟨2,16,true,S33,[.int .i64 0,.int .i64 0],[(0,1,false),(1,1,false)],0,.struct⟩),
 (36,⟨4,32,true,S35,[.int .i64 0,.int .i64 0,.int .i64 0,.int .i64 0],[(0,2,true),(2,2,true)],0,.struct⟩),
 (37,⟨1,24,false,.slice (a2I),[.nil (a2I)],[],165,.slice⟩),
 (39,⟨9,88,true,S38,[.int .i64 0,.int .i64 0,.int .i64 0,.int .i64 0,.nil (a2I),.int .i64 0,.int .i64 0,.int .i64 0,.int .i64 0],[(0,4,true),(4,1,false),(5,4,true)],0,.struct⟩),
 (41,⟨15,232,true,S40,[.nil (.flt .f32),.nil (.int .i64),.nil (.slice (.flt .f32)),.nil (a1B),.nil (.int .i64),.nil (S68),.int .i64 0,.int .i64 0,.int .i64 0,.int .i64 0,.nil (a2I),.int .i64 0,.int .i64 0,.int .i64 0,.int .i64 0],[(0,3,true),(3,2,true),(5,1,false),(6,9,true)],0,.struct⟩),
 (42,⟨1,16,false,.cpx .f64,[.cpx .f64 0 0],[],0,.complex .f64⟩),
 (43,⟨1,8,false,.cpx .f32,[.cpx .f32 0 0],[],0,.complex .f32⟩),
 (44,⟨1,24,false,.slice (S97),[.nil (S97)],[],98,.slice⟩),
 (45,⟨1,24,false,.slice (.str),[.nil (.str)],[],9,.slice⟩),
 (47,⟨22,328,true,S46,[.nil (.flt .f32),.nil (.int .i64),.nil (.slice (.flt .f32)),.nil (a1B),.nil (.int .i64),.nil (S68),.int .i64 0,.int .i64 0,.int .i64 0,.int .i64 0,.nil (a2I),.int .i64 0,.int .i64 0,.int .i64 0,.int .i64 0,.int .i64 0,.cpx .f64 0 0,.int .i64 0,.cpx .f32 0 0,.int .i64 0,.nil (S97),.nil (.str)],[(0,15,true),(15,1,false),(16,1,false),(17,1,false),(18,1,false),(19,1,false),(20,1,false),(21,1,false)],0,.struct⟩),
 (50,⟨1,24,false,.slice (.bool),[.nil (.bool)],[],4,.slice⟩),
 (62,⟨1,4,false,.flt .f32,[.flt .f32 0],[],0,.float .f32⟩),
 (64,⟨2,16,true,S63,[.flt .f32 0,.int .i64 0],[(0,1,false),(1,1,false)],0,.struct⟩),
 (69,⟨5,40,true,S68,[.str ByteArray.empty,.flt .f32 0,.flt .f32 0,.int .i64 0,.int .i64 0],[(0,1,false),(1,1,false),(2,1,false),(3,1,false),(4,1,false)],0,.struct⟩),
 (98,⟨3,24,true,S97,[.int .i64 0,.int .i64 0,.int .i64 0],[(0,2,true),(2,1,false)],0,.struct⟩),
 (104,⟨1,8,false,.int .u64,[.int .u64 0],[],0,.int .u64⟩),
 (109,⟨1,8,false,.flt .f64,[.flt .f64 0],[],0,.float .f64⟩),
 (122,⟨3,40,true,a1M,[.nil (.int .u8),.int .i64 0,.int .i64 0],[(0,1,false),(1,1,false),(2,1,false)],0,.struct⟩),
 (142,⟨1,8,false,.nil,[.pois],[],0,.other⟩),
 (165,⟨3,24,true,a2I,[.int .i64 0,.int .i64 0,.bool false],[(0,2,true),(2,1,false)],0,.struct⟩),
 (179,⟨3,24,true,a6c,[.int .i64 0,.flt .f32 0,.int .i64 0],[(0,1,false),(1,1,false),(2,1,false)],0,.struct⟩),
 (180,⟨1,24,false,.slice (a6c),[.nil (a6c)],[],179,.slice⟩),
 (184,⟨13,104,true,.cons (.cpx .f32) (.cons (.cpx .f32) (.cons (.cpx .f32) (.cons (.cpx .f32) (.cons (.cpx .f32) (.cons (.cpx .f32) (.cons (.cpx .f32) (.cons (.cpx .f32) (.cons (.cpx .f32) (.cons (.cpx .f32) (.cons (.cpx .f32) (.cons (.cpx .f32) (.cons (.cpx .f32) (.nil))))))))))))),[.cpx .f32 0 0,.cpx .f32 0 0,.cpx .f32 0 0,.cpx .f32 0 0,.cpx .f32 0 0,.cpx .f32 0 0,.cpx .f32 0 0,.cpx .f32 0 0,.cpx .f32 0 0,.cpx .f32 0 0,.cpx .f32 0 0,.cpx .f32 0 0,.cpx .f32 0 0],[],43,.array 13⟩),
 (186,⟨14,120,true,a1B,[.cpx .f64 0 0,.cpx .f32 0 0,.cpx .f32 0 0,.cpx .f32 0 0,.cpx .f32 0 0,.cpx .f32 0 0,.cpx .f32 0 0,.cpx .f32 0 0,.cpx .f32 0 0,.cpx .f32 0 0,.cpx .f32 0 0,.cpx .f32 0 0,.cpx .f32 0 0,.cpx .f32 0 0],[(0,1,false),(1,13,true)],0,.struct⟩),
 (201,⟨1,24,false,.slice (.cpx .f32),[.nil (.cpx .f32)],[],43,.slice⟩),
 (208,⟨1,8,false,.nil,[.pois],[],0,.other⟩),
 (240,⟨1,8,false,.nil,[.pois],[],0,.other⟩)]
def eqs:List Nat:=[34,36,98,165]
theorem b2U:a6u (e2J Tryz.prog) eqs:=c2s (by kernel_rfl)
theorem b7j:e8L Tryz.prog tab=true:=by kernel_rfl
theorem mixed:Tryz.prog.follows .mixedOrders=true:=Tryz.checked.mixed
def a0N (f:Func):Code:=match f.body with
 |some c=>c
 |none => .skip
theorem a1F {f:Nat} {fn:Func} {Γ:Env} (h:Tryz.prog.funcs[f]?=some fn) (hb:fn.body=some (a0N fn)) (hr:fn.results.toList=Γ.res) (hn:fn.ntmps=Γ.nt) (hname:(fn.name == "runtime.NumGoroutine")=false) (hl:a6y Γ (a0N fn)):a7b Tryz.prog f Γ (a0N fn):=
 ⟨hl,fn,h,hb,hr,hn,hname⟩
theorem a2Z {Γ:Env} {c:Code} (h:a1S c=[]):a6y Γ c:=fun c' a=>by rw[h]at a;cases a
abbrev OD (R:Ty):Type:=Option (Den R)
theorem isS {α:Type} {o:Option α} {y:α} (h:o=some y):o.isSome=true:=by rw[h];rfl
theorem gtS {α:Type} {o:Option α} {y d:α} (h:o=some y):o.getD d=y:=by rw[h];rfl
theorem fnO {f:Nat} {fn:Func} {sems:List (Nat×a5A)} {nt:Nat} {res:List ResultVar} {frz:List Nat} {cut:List (Nat×(List Nat×List Cv))} {loops:List (Nat×a4l)} {past:List (Nat×(List Nat×List Cv))} {rown:List Cv} {A R:Ty} {p:Den A->Option (Den R)}
 (hs:a6u (a0f Tryz.prog) sems) (h:Tryz.prog.funcs[f]?=some fn) (hv:∀x,b4O (c2q tab eqs sems nt res frz cut loops past rown) (a0N fn) (c9q R) (a6t A x) []=p x)
 (hb:fn.body=some (a0N fn):=by rfl) (hr:fn.results.toList=res:=by rfl) (hn:fn.ntmps=nt:=by rfl) (hname:(fn.name == "runtime.NumGoroutine")=false:=by kernel_rfl) (hl:a1S (a0N fn)=[]:=by kernel_rfl):
 a0f Tryz.prog (f,a0c A R (fun x=>(p x).isSome) (fun x=>(p x).getD (zero R))):=
 a0Q (b2C mixed b7j b2U hs) (a1F h hb hr hn hname (a2Z hl)) hv
abbrev KI (I:Sg):Type:=I.den->Bool
abbrev GI (I O:Sg):Type:=I.den->O.den
abbrev KA (A:Ty):Type:=Den A->Bool
abbrev GA (A R:Ty):Type:=Den A->Den R
abbrev QI (I O:Sg):Type:=I.den->O.den->Prop
def zV:(s:ShV)->s.den
 |.one c=>e2X c
 |.agg cs=>c2y cs
 |.tup=>()
def zB:(s:ShB)->s.den
 |.box cs=>c2y cs
 |.arr t=>([]:List (Den t))
 |.gone=>()
def zT:(l:List (Nat×ShV))->e1M l
 |[]=>()
 |p::r=>(zV p.2,zT r)
def zM:(l:List (Nat×ShB))->e1O l
 |[]=>()
 |p::r=>(zB p.2,zM r)
def zS (s:ShS):s.den:=(zT s.tmps,zM s.mem)
structure LR where
 (live:List Nat) (own:List Cv) (ex:Nat) (past:List Nat) (pown:List Cv) (sh shX shR:ShS)
structure LX where
 (live:List Nat) (own:List Cv) (ex:Nat) (past:List Nat) (pown:List Cv) (sh shX:ShS)
def lmR (L:LR) (l:L.sh.den->Option (L.shX.den⊕L.shR.den)):a4l:=c9u L.live L.own L.ex L.past L.pown L.sh L.shX L.shR (fun v=>(l v).isSome) (fun v=>isR (l v)) (fun v=>xOf (zS L.shX) (l v)) (fun v=>yOf (zS L.shR) (l v))
def lmX (L:LX) (l:L.sh.den->Option L.shX.den):a4l:=c9v L.live L.own L.ex L.past L.pown L.sh L.shX (fun v=>(l v).isSome) (fun v=>(l v).getD (zS L.shX))
def EvR (Γ:Env) (c:Code) (L:LR) (g:(L.sh.den->Option (L.shX.den⊕L.shR.den))->L.sh.den->Option (L.shX.den⊕L.shR.den)):Prop:=∀f v,EBk Γ c (a3k L.live L.own L.ex L.past L.pown (atS L.sh f) (e8N L.shX L.shR)) (mkS L.sh v)=g f v
def EvX (Γ:Env) (c:Code) (L:LX) (g:(L.sh.den->Option L.shX.den)->L.sh.den->Option L.shX.den):Prop:=∀f v,EBk Γ c (a3k L.live L.own L.ex L.past L.pown (atS L.sh f) (e8O L.shX)) (mkS L.sh v)=g f v
def lp (fn:Func) (i:Nat):Code:=(a1S (a0N fn)).getD i .skip
def gE (a:List (Nat×a5A)) (fn:Func) (lps:List (Nat×a4l):=[]) (frz:List Nat:=[]) (cut:List (Nat×(List Nat×List Cv)):=[]) (past:List (Nat×(List Nat×List Cv)):=[]) (rown:List Cv:=[]) (tb:List (Nat×TI):=tab):Env:=c2q tb eqs a fn.ntmps fn.results.toList frz cut lps past rown
theorem a0L {sems fn lps frz cut past rown} (a:a6u (a0f Tryz.prog) sems):a1o Tryz.prog (gE sems fn lps frz cut past rown):=b2C mixed b7j b2U a
def fzE (m:Nat×a5A):Nat×a5A:=(m.1,b5m m.2)
def LOK (Γ:Env) (c:Code):Prop:=∀L,a1w Γ.loops (a0I c)=some L->a2R Γ c L
theorem lR {Γ:Env} {c:Code} {L:LR} {g} (h:EvR Γ c L g) (b:L.sh.den->Nat) (a:a1w Γ.loops (a0I c)=some (lmR L fun v=>a0K g (b v) v):=by kernel_rfl):LOK Γ c:=b7e a (b5j h b (zS L.shX) (zS L.shR))
theorem lX {Γ:Env} {c:Code} {L:LX} {g} (h:EvX Γ c L g) (b:L.sh.den->Nat) (a:a1w Γ.loops (a0I c)=some (lmX L fun v=>a0K g (b v) v):=by kernel_rfl):LOK Γ c:=b7e a (b5k h b (zS L.shX))
section
variable {α:Type} {P:α->Prop} {a b c d e f g:α} {l:List α}
theorem nS:a6u P []:=trivial
theorem s1 (x:P a):a6u P [a]:=⟨x,trivial⟩
theorem s2 (x:P a) (y:P b):a6u P [a,b]:=⟨x,y,trivial⟩
theorem s3 (x:P a) (y:P b) (z:P c):a6u P [a,b,c]:=⟨x,y,z,trivial⟩
theorem s4 (x:P a) (y:P b) (z:P c) (u:P d):a6u P [a,b,c,d]:=⟨x,y,z,u,trivial⟩
theorem s5 (x:P a) (y:P b) (z:P c) (u:P d) (v:P e):a6u P [a,b,c,d,e]:=⟨x,y,z,u,v,trivial⟩
theorem s6 (x:P a) (y:P b) (z:P c) (u:P d) (v:P e) (w:P f):a6u P [a,b,c,d,e,f]:=⟨x,y,z,u,v,w,trivial⟩
theorem s7c (x:P a) (y:P b) (z:P c) (u:P d) (v:P e) (w:P f) (t:P g) (h:a6u P l):a6u P (a::b::c::d::e::f::g::l):=⟨x,y,z,u,v,w,t,h⟩
theorem s7 (x:P a) (y:P b) (z:P c) (u:P d) (v:P e) (w:P f) (t:P g):a6u P [a,b,c,d,e,f,g]:=s7c x y z u v w t trivial
end
theorem fnE {f:Nat} {fn:Func} {sems:List (Nat×a5A)} (hs:a6u (a0f Tryz.prog) sems) (h:Tryz.prog.funcs[f]?=some fn) (frz:List Nat:=[]) (cut:List (Nat×(List Nat×List Cv)):=[]) (past:List (Nat×(List Nat×List Cv)):=[]) (rown:List Cv:=[]) {A R:Ty} {p:Den A->Option (Den R)}
 (hv:∀x,b4O (gE sems fn [] frz cut past rown) (a0N fn) (c9q R) (a6t A x) []=p x:=by intro _;kernel_rfl)
 (hb:fn.body=some (a0N fn):=by rfl) (hname:(fn.name == "runtime.NumGoroutine")=false:=by kernel_rfl) (hl:a1S (a0N fn)=[]:=by kernel_rfl):
 a0f Tryz.prog (f,a0c A R (fun x=>(p x).isSome) (fun x=>(p x).getD (zero R))):=a0Q (a0L hs) (a1F h hb rfl rfl hname (a2Z hl)) hv
theorem sgE {f:Nat} {fn:Func} {sems:List (Nat×a5A)} (own:Bool) (hs:a6u (a0f Tryz.prog) sems) (h:Tryz.prog.funcs[f]?=some fn) (frz:List Nat:=[]) (cut:List (Nat×(List Nat×List Cv)):=[]) (past:List (Nat×(List Nat×List Cv)):=[]) (rown:List Cv:=[]) {I O:Sg} {p:I.den->Option O.den}
 (hv:∀x,c9x (gE sems fn [] frz cut past rown) (a0N fn) I O x=p x:=by intro _;kernel_rfl)
 (hb:fn.body=some (a0N fn):=by rfl) (hname:(fn.name == "runtime.NumGoroutine")=false:=by kernel_rfl) (hl:a1S (a0N fn)=[]:=by kernel_rfl):
 a0f Tryz.prog (f,a0H own I O (fun x=>(p x).isSome) (fun x=>(p x).getD (a0Y O))):=a2Y (a0L hs) (a1F h hb rfl rfl hname (a2Z hl)) own hv
abbrev b2V:Type:=List (Den (.flt .f32))
abbrev ty4:Type:=List (Den (.int .i64))
abbrev d2Q:Type:=List (Den (.slice (.flt .f32)))
abbrev c8E:Type:=List (Den a1B)
abbrev b4I:Type:=List (Den S68)
abbrev e3d:Type:=List (Den a2I)
abbrev a4r:Type:=Nat×Nat
abbrev c1w:Type:=List (Den S97)
abbrev d8q:Type:=List (Den .str)
abbrev d2R:Type:=d8q×Unit
abbrev ty0:Type:=b2V×ty4×d2Q×c8E×ty4×b4I×Int×Int×Int×Int×e3d×Int×Int×Int×Int×Int×a4r×Int×a4r×Int×c1w×d2R
abbrev ty1:Type:=b2V×ty4×d2Q×Unit
abbrev ty7:Type:=Int×Unit
abbrev a6K:Type:=Int×ty7
abbrev ty2:Type:=List (Den (.int .u8))×a6K
abbrev a5r:Type:=Unit×Unit
abbrev ty5:Type:=Unit×a5r
abbrev ty3:Type:=Unit×Unit×Unit×Unit×Unit×Unit×Int×Int×Int×Int×Unit×Int×Int×Int×Int×Int×a4r×Int×a4r×Int×ty5
abbrev ty6:Type:=(b2V×ty4×d2Q×c8E×ty4×b4I×Int×Int×Int×Int×e3d×Int×Int×Int×Int×Int×a4r×Int×a4r×Int×c1w×a5r)×d2R
abbrev a7u:Type:=Unit×ty5
abbrev ty8:Type:=ty2×a7u×a7u×b2V×ty4×List (Den (.slice (.jnk)))×Unit
abbrev ty9:Type:=Int×Int×Int×Int×Unit×Int×Int×a6K
abbrev d8r:Type:=Int×Int×Int×Int×e3d×Int×Int×a6K
abbrev f1L:Type:=(a4r×a4r×a4r×a4r×a4r×a4r×a4r×a4r×a4r×a4r×a4r×a4r×a4r×a4r×Unit)×Unit
abbrev f8d:Type:=c8E×ty4×Unit
abbrev c8F:Type:=Bool×Unit
abbrev a9l:Type:=c8F×Unit
abbrev b2W:Type:=ByteArray
abbrev b2X:Type:=Unit×ty7
abbrev f8e:Type:=(b2V×ty4×d2Q×c8E×ty4×b4I×d8r)×(Unit×Unit×Unit×Unit×Unit×Unit×ty9)×(Unit×Unit×Unit×Unit×Unit×Unit×ty9)×ty1
abbrev e8T:Type:=ty2×ty9×ty9×e3d×Unit
abbrev d2S:Type:=Unit×Unit×b2X
abbrev c0x:Type:=ty1×Unit
abbrev c2L:Type:=f8d×Unit
abbrev e8U:Type:=ty2×a7u×a7u×ty4×Unit
abbrev e8V:Type:=(Nat×Int×b2X)×c0x
abbrev e3e:Type:=(b2W×ty7)×Unit
abbrev d2T:Type:=Unit×a6K
abbrev d2U:Type:=b2W×Unit
abbrev c9J:Type:=ty7×Unit
abbrev e3f:Type:=List (Den a6c)
abbrev e8W:Type:=ty2×ty5×ty5×f8d
def bx0:ShB:=.box [.sl (.int .u8),.int .i64,.int .i64]
def bx1:ShB:=.box [.sl (.flt .f32),.sl (.int .i64),.sl (.slice (.flt .f32))]
def bx2:ShB:=.box [.sl (a1B),.sl (.int .i64)]
def bx3:ShB:=.box [.nil (.flt .f32),.nil (.int .i64),.nil (.slice (.jnk))]
def bx4:ShB:=.box [.nil (.flt .f32),.nil (.int .i64),.nil (.slice (.flt .f32)),.nil (a1B),.nil (.int .i64),.nil (S68),.int .i64,.int .i64,.int .i64,.int .i64,.nil (a2I),.int .i64,.int .i64,.int .i64,.int .i64,.int .i64,.cpx .f64,.int .i64,.cpx .f32,.int .i64,.nil (S97),.nil (.str)]
def bx5:ShB:=.box [.ref (.flt .f32) 3,.ref (.int .i64) 4,.ref (.slice (.jnk)) 5]
def bx6:ShB:=.box [.nil (a1B),.nil (.int .i64)]
def bx7:ShB:=.box [.sl (.flt .f32),.sl (.int .i64),.sl (.slice (.flt .f32)),.sl (a1B),.sl (.int .i64),.sl (S68),.int .i64,.int .i64,.int .i64,.int .i64,.sl (a2I),.int .i64,.int .i64,.int .i64,.int .i64,.int .i64,.cpx .f64,.int .i64,.cpx .f32,.int .i64,.sl (S97),.sl (.str)]
def bx8:ShB:=.box [.nil (.flt .f32),.nil (.int .i64),.nil (.slice (.flt .f32))]
def bx9:ShB:=.box [.int .i64,.int .i64,.int .i64,.int .i64,.sl (a2I),.int .i64,.int .i64,.int .i64,.int .i64]
def e8X:ShB:=.box [.sl (.flt .f32),.sl (.int .i64),.sl (.slice (.flt .f32)),.sl (a1B),.sl (.int .i64),.sl (S68),.int .i64,.int .i64,.int .i64,.int .i64,.sl (a2I),.int .i64,.int .i64,.int .i64,.int .i64,.int .i64,.cpx .f64,.int .i64,.cpx .f32,.int .i64,.sl (S97),.ref (.str) 3]
def f8f:ShB:=.box [.ref (.flt .f32) 3,.ref (.int .i64) 4,.ref (.slice (.flt .f32)) 5]
def g1j:ShB:=.box [.ref (a1B) 3,.ref (.int .i64) 4]
def e8Y:ShB:=.box [.ref (a1B) 3,.nil (.int .i64)]
def g1k:ShB:=.box [.int .i64,.int .i64,.int .i64,.int .i64,.nil (a2I),.int .i64,.int .i64,.int .i64,.int .i64]
def g1l:ShB:=.box [.int .i64,.int .i64,.int .i64,.int .i64,.ref (a2I) 3,.int .i64,.int .i64,.int .i64,.int .i64]
def f1M:ShB:=.box [.cpx .f64,.cpx .f32,.cpx .f32,.cpx .f32,.cpx .f32,.cpx .f32,.cpx .f32,.cpx .f32,.cpx .f32,.cpx .f32,.cpx .f32,.cpx .f32,.cpx .f32,.cpx .f32]
def f8g:ShB:=.box [.sl (.flt .f32),.sl (.int .i64),.sl (.slice (.flt .f32)),.sl (a1B),.sl (.int .i64),.sl (S68),.int .i64,.int .i64,.int .i64,.int .i64,.sl (a2I),.int .i64,.int .i64,.int .i64,.int .i64]
def f8h:ShB:=.box [.nil (.flt .f32),.ref (.int .i64) 3,.nil (.slice (.jnk))]
def f8i:ShB:=.box [.nil (.flt .f32),.ref (.int .i64) 3,.nil (.slice (.flt .f32))]
def g1m:ShB:=.box [.nil (.flt .f32),.nil (.int .i64),.nil (.slice (.flt .f32)),.nil (a1B),.nil (.int .i64),.nil (S68),.int .i64,.int .i64,.int .i64,.int .i64,.nil (a2I),.int .i64,.int .i64,.int .i64,.int .i64]
def g1n:ShB:=.box [.ref (.flt .f32) 3,.ref (.int .i64) 4,.ref (.slice (.flt .f32)) 5,.nil (a1B),.nil (.int .i64),.nil (S68),.int .i64,.int .i64,.int .i64,.int .i64,.nil (a2I),.int .i64,.int .i64,.int .i64,.int .i64]
def on0:ShV:=.one (.ref (.str) 0)
def on1:ShV:=.one (.ref (.flt .f32) 6)
def om0:ShV:=.one (.int .i64)
def om1:ShV:=.one (.ptr 0 0)
def om2:ShV:=.one (.ptr 1 0)
def om3:ShV:=.one (.ptr 2 0)
def om4:ShV:=.one (.bool)
def om5:ShV:=.one (.str)
def om6:ShV:=.one (.cpx .f64)
def om7:ShV:=.one (.flt .f32)
def om8:ShV:=.one (.sl (S68))
def om9:ShV:=.one (.flt .f64)
def e1Q:ShV:=.one (.sl (S97))
def e3g:ShV:=.one (.sl (a6c))
def e3h:ShV:=.one (.sl (.str))
def e3i:ShV:=.one (.sl (.flt .f32))
def e3j:ShV:=.one (.sl (.int .i64))
def li0:List (Nat×ShB):=[(0,bx0),(1,bx8),(2,f8f),(3,.arr (.flt .f32)),(4,.arr (.int .i64)),(5,.arr (.slice (.flt .f32))),(6,.arr (.flt .f32))]
def li1:List (Nat×ShB):=[(0,f8g),(1,g1m),(2,g1n),(3,.arr (.flt .f32)),(4,.arr (.int .i64)),(5,.arr (.slice (.flt .f32)))]
def li2:List (Nat×ShB):=[(0,bx0),(1,bx8),(2,f8f),(3,.arr (.flt .f32)),(4,.arr (.int .i64)),(5,.arr (.slice (.flt .f32)))]
def li3:List (Nat×ShB):=[(0,bx0),(1,bx3),(2,bx5),(3,.arr (.flt .f32)),(4,.arr (.int .i64)),(5,.arr (.slice (.jnk)))]
def li4:List (Nat×ShB):=[(0,bx0),(1,bx6),(2,g1j),(3,.arr (a1B)),(4,.arr (.int .i64))]
def li5:List (Nat×ShV):=[(0,om1),(2,om2),(3,om3),(6,om7),(7,om0),(8,on1),(9,om0)]
def li6:List (Nat×ShB):=[(0,bx0),(1,g1k),(2,g1l),(3,.arr (a2I))]
def li7:List (Nat×ShV):=[(0,om1),(2,om2),(3,om3)]
def li8:List (Nat×ShV):=[(2,om2),(3,om3)]
def li9:List (Nat×ShV):=[(1,om1),(3,om0)]
def c2M:List (Nat×ShB):=[(0,bx2)]
def a9m:List (Nat×ShV):=[(2,om4)]
def b4J:List (Nat×ShB):=[(0,bx1)]
theorem kgP {A R:Type} {F:A->Option R} {z:R} (K:A->Bool) (G:A->R) {x:A} {y:R} (h:F x=some y) (b:∀x,K x=(F x).isSome:=by intro _;rfl) (a:∀x,G x=(F x).getD z:=by intro _;rfl):K x=true /\ G x=y:=by rw[b,a,h];exact⟨rfl,rfl⟩
set_option maxRecDepth 100000
set_option maxHeartbeats 0
theorem d2V:b5o Tryz.prog 120 Extern.MathFloatBits.float64bits:=⟨_,Tryz.func120,rfl,rfl,by kernel_rfl,by kernel_rfl⟩
theorem d2W:b5o Tryz.prog 121 Extern.MathFloatBits.float64frombits:=⟨_,Tryz.func121,rfl,rfl,by kernel_rfl,by kernel_rfl⟩
abbrev c2N:Type:={ z:Nat // a1r .f64 z=true }
theorem c9K:Nonempty c2N:=⟨⟨qn .f64,a4D _⟩⟩
abbrev e1R:Ty := .cons (.flt .f64) (.nil)
abbrev e3k:Ty := .cons (.flt .f64) (.nil)
noncomputable def f8j:a6I:=mkN [(120,a5b (.cons (.flt .f64) .nil) (.cons (.int .u64) .nil) c2N c9K (fun z x=>((((bif a1r .f64 x.1 then z.1 else x.1:Nat):Int)),()))),(121,a5b (.cons (.int .u64) .nil) (.cons (.flt .f64) .nil) Unit ⟨()⟩ (fun _ x=>((x.1:Int).toNat,())))] []
noncomputable def d8s:Env:=c2q tab eqs [] 7 [.tmp 2] [] [] [] [] []
theorem e3l (h:Den e3k->Option Unit) (x:Den e1R):a7s d8s f8j (a0N Tryz.f119) (a7t e3k h) (a6t e1R x) [] =
 a3u fun(z:c2N)=>a3u fun(_:Unit)=>h ((Int.toNat (a1Q BinOp.andNot IntKind.u64 (((bif a1r FloatKind.f64 x.fst then z.1 else x.fst:Nat):Int)) 9223372036854775808)),()):=by kernel_rfl
theorem c9L (n:Nat):(a1Q .andNot .u64 (n:Int) 9223372036854775808).toNat=n%2^63:=by
 have e:a1Q .andNot .u64 (n:Int) 9223372036854775808=IntKind.u64.wrap ((BitVec.ofInt 64 (n:Int) &&& ~~~(BitVec.ofInt 64 9223372036854775808)).toNat:Int):=rfl;have c : ~~~(BitVec.ofInt 64 9223372036854775808)=9223372036854775807#64:=by decide
 rw[e,c,BitVec.toNat_and];have b:(BitVec.ofInt 64 (n:Int)).toNat=n%2^64:=by
  rw[BitVec.toNat_ofInt];omega
 have a:(9223372036854775807#64).toNat=2^63-1:=by decide
 rw[b,a,Nat.and_two_pow_sub_one_eq_mod,IntKind.wrap_u64];omega
theorem b2Y {n:Nat}:a1r .f64 (n%2^63)=a1r .f64 n:=by
 have a:FloatKind.f64.format.signWeight=2^63:=by decide
 rw[Bool.eq_iff_iff,a3y,a3y,a,Nat.mod_mod]
def e3m (x:Den e1R):Bool:=true
def e3n (x:Den e1R):Den e3k:=(x.1%2^63,())
theorem e3o:a1o Tryz.prog d8s:=b2C mixed b7j b2U .nil
theorem f1N:a7b Tryz.prog 119 d8s (a0N Tryz.f119):=a1F Tryz.func119 rfl rfl rfl (by kernel_rfl) (a2Z (by kernel_rfl))
def m119:=(119,a0c e1R e3k e3m e3n)
theorem e3p:a0f Tryz.prog (119,a0c e1R e3k e3m e3n):=
 c2J (N:=f8j) e3o (a4h ⟨b7f d2V,a7d d2W,trivial⟩) f1N a1L (Q:=fun x y=>FEq .f64 (x.1%2^63) y.1)
  (fun x y g β K v h=>by
   obtain⟨b,rfl,a⟩:=h;refine⟨b,rfl,?_⟩;have a:FEq .f64 y.1 b:=a;show FEq .f64 (x.1%2^63) b;rcases g with e|⟨c,d⟩
   ·rw[e];exact a
   ·exact .inr ⟨c,FEq.nan_left a d⟩)
  (fun x _ k f=>by
   rw[e3l]
   haveI:=c9K
   refine a0t fun z=>a0t fun _=>f _ ?_
   rw[c9L];cases hn:a1r .f64 x.1 with
   |true=>exact .inr ⟨by rw[b2Y];exact hn,by show a1r .f64 (z.1%2^63)=true;rw[b2Y];exact z.2⟩
   |false=>exact .inl rfl)
end Go.Proofs.YtjomnmoekchfeaaGreatDoor.AM
namespace Go.Proofs
open Go.Shelf
def Tryz.lays156_ren:Go.Shelf.Ren:=⟨fun|156=>60|165=>116|166=>117|169=>118|240=>183|241=>184|276=>229|277=>230|n=>n,fun|31=>45|9=>9|3=>3|4=>4|0=>0|20=>20|72=>154|76=>158|70=>152|37=>22|75=>157|127=>215|164=>242|5=>5|80=>160|n=>n,fun|n=>n⟩
theorem Tryz.lays156:Go.Proofs.Lays.n156 Tryz.prog Tryz.lays156_ren:={
 mixed:=by kernel_rfl
 f156:=Tryz.func60.trans (congrArg some (by kernel_rfl))
 f165:=Tryz.func116.trans (congrArg some (by kernel_rfl))
 f166:=Tryz.func117.trans (congrArg some (by kernel_rfl))
 f169:=Tryz.func118.trans (congrArg some (by kernel_rfl))
 f240:=Tryz.func183.trans (congrArg some (by kernel_rfl))
 f241:=Tryz.func184.trans (congrArg some (by kernel_rfl))
 f276:=Tryz.func229.trans (congrArg some (by kernel_rfl))
 f277:=Tryz.func230.trans (congrArg some (by kernel_rfl))
 t0:=Tryz.underlying0
 a0:=Tryz.isAgg0
 z0:=Tryz.sizeOf0
 v0:=Tryz.zeroValue0
 t3:=Tryz.underlying3
 a3:=Tryz.isAgg3
 z3:=Tryz.sizeOf3
 v3:=Tryz.zeroValue3
 t4:=Tryz.underlying4
 a4:=Tryz.isAgg4
 z4:=Tryz.sizeOf4
 v4:=Tryz.zeroValue4
 t9:=Tryz.underlying9
 a9:=Tryz.isAgg9
 z9:=Tryz.sizeOf9
 v9:=Tryz.zeroValue9
 t20:=Tryz.underlying20
 a20:=Tryz.isAgg20
 z20:=Tryz.sizeOf20
 v20:=Tryz.zeroValue20
 t31:=Tryz.underlying45
 a31:=Tryz.isAgg45
 z31:=Tryz.sizeOf45
 v31:=Tryz.zeroValue45
 t37:=Tryz.underlying22
 a37:=Tryz.isAgg22
 z37:=Tryz.sizeOf22
 v37:=Tryz.zeroValue22
 t70:=Tryz.underlying152
 a70:=Tryz.isAgg152
 z70:=Tryz.sizeOf152
 v70:=Tryz.zeroValue152
 t72:=Tryz.underlying154
 a72:=Tryz.isAgg154
 z72:=Tryz.sizeOf154
 v72:=Tryz.zeroValue154
 t75:=Tryz.underlying157
 a75:=Tryz.isAgg157
 z75:=Tryz.sizeOf157
 v75:=Tryz.zeroValue157
 t76:=Tryz.underlying158
 a76:=Tryz.isAgg158
 z76:=Tryz.sizeOf158
 v76:=Tryz.zeroValue158
 t127:=Tryz.underlying215
 a127:=Tryz.isAgg215
 z127:=Tryz.sizeOf215
 v127:=Tryz.zeroValue215
 t164:=Tryz.underlying242
 a164:=Tryz.isAgg242
 z164:=Tryz.sizeOf242
 v164:=Tryz.zeroValue242 }
theorem Tryz.Builder_Extra_156:Builder.Extra Tryz.prog Tryz.lays156_ren:={
 sizeBuilder:=by kernel_rfl
 liesBuilder:=by kernel_rfl
 t5:=Tryz.underlying5
 a5:=Tryz.isAgg5
 z5:=Tryz.sizeOf5
 v5:=Tryz.zeroValue5
 infoByte:=by kernel_rfl
 cellsByte:=by kernel_rfl
 sizeByte:=by kernel_rfl
 neB5:=by decide }
open Go.RowKit in
theorem Tryz.strings_Join_none (a:Option Addr) (c:Nat) (sep:ByteArray) (w:World) :
 Calls Tryz.prog 60 #[.slice a 0 c,.string sep] w fun e w'=>e = .returned (.string ⟨#[]⟩) /\ w'=w:=Any.strings_Join_none Tryz.lays156 Tryz.Builder_Extra_156 a c sep w
open Go.RowKit in
theorem Tryz.strings_Join (f o c:Nat) (xs:List ByteArray) (sep:ByteArray) (w:World) (a:∀(j:Nat) x,xs[j]?=some x->w.cell? ⟨f,o+j,none⟩=some (.string x)) (g:f<w.heap.size) (h:xs.length<=140737488355328) (b:xs.length<=c) (d:(Lib.join (xs.map (·.data.toList)) sep.data.toList).length<=140737488355328) :
 Calls Tryz.prog 60 #[.slice (some ⟨f,o,none⟩) xs.length c,.string sep] w fun e w'=>e = .returned (.string ⟨(Lib.join (xs.map (·.data.toList)) sep.data.toList).toArray⟩) /\ Below w.heap.size w w':=Any.strings_Join Tryz.lays156 Tryz.Builder_Extra_156 f o c xs sep w a g h b d
def Tryz.laysM171_ren:Go.Shelf.Ren:=⟨fun|171=>65|243=>124|246=>188|283=>231|284=>232|285=>233|286=>234|129=>259|317=>258|318=>260|319=>261|320=>262|337=>273|338=>274|n=>n,fun|3=>3|9=>9|2=>2|4=>4|171=>245|0=>0|53=>104|37=>22|5=>5|173=>248|212=>257|51=>258|20=>20|213=>259|46=>162|232=>269|233=>270|n=>n,fun|17=>2|18=>5|19=>6|n=>n⟩
theorem Tryz.laysM171:Go.Proofs.LaysM.n171 Tryz.prog Tryz.laysM171_ren:={
 mixed:=by kernel_rfl
 f129:=Tryz.func259.trans (congrArg some (by kernel_rfl))
 f171:=Tryz.func65.trans (congrArg some (by kernel_rfl))
 f243:=Tryz.func124.trans (congrArg some (by kernel_rfl))
 f246:=Tryz.func188.trans (congrArg some (by kernel_rfl))
 f283:=Tryz.func231.trans (congrArg some (by kernel_rfl))
 f284:=Tryz.func232.trans (congrArg some (by kernel_rfl))
 f285:=Tryz.func233.trans (congrArg some (by kernel_rfl))
 f286:=Tryz.func234.trans (congrArg some (by kernel_rfl))
 f317:=Tryz.func258.trans (congrArg some (by kernel_rfl))
 f318:=Tryz.func260.trans (congrArg some (by kernel_rfl))
 f319:=Tryz.func261.trans (congrArg some (by kernel_rfl))
 f320:=Tryz.func262.trans (congrArg some (by kernel_rfl))
 f337:=Tryz.func273.trans (congrArg some (by kernel_rfl))
 f338:=Tryz.func274.trans (congrArg some (by kernel_rfl))
 t0:=Tryz.underlying0
 a0:=Tryz.isAgg0
 z0:=Tryz.sizeOf0
 v0:=Tryz.zeroValue0
 t2:=Tryz.underlying2
 a2:=Tryz.isAgg2
 z2:=Tryz.sizeOf2
 v2:=Tryz.zeroValue2
 t3:=Tryz.underlying3
 a3:=Tryz.isAgg3
 z3:=Tryz.sizeOf3
 v3:=Tryz.zeroValue3
 t4:=Tryz.underlying4
 a4:=Tryz.isAgg4
 z4:=Tryz.sizeOf4
 v4:=Tryz.zeroValue4
 t5:=Tryz.underlying5
 a5:=Tryz.isAgg5
 z5:=Tryz.sizeOf5
 v5:=Tryz.zeroValue5
 t9:=Tryz.underlying9
 a9:=Tryz.isAgg9
 z9:=Tryz.sizeOf9
 v9:=Tryz.zeroValue9
 t20:=Tryz.underlying20
 a20:=Tryz.isAgg20
 z20:=Tryz.sizeOf20
 v20:=Tryz.zeroValue20
 t37:=Tryz.underlying22
 a37:=Tryz.isAgg22
 z37:=Tryz.sizeOf22
 v37:=Tryz.zeroValue22
 t46:=Tryz.underlying162
 a46:=Tryz.isAgg162
 z46:=Tryz.sizeOf162
 v46:=Tryz.zeroValue162
 t51:=Tryz.underlying258
 a51:=Tryz.isAgg258
 z51:=Tryz.sizeOf258
 v51:=Tryz.zeroValue258
 t53:=Tryz.underlying104
 a53:=Tryz.isAgg104
 z53:=Tryz.sizeOf104
 v53:=Tryz.zeroValue104
 t171:=Tryz.underlying245
 a171:=Tryz.isAgg245
 z171:=Tryz.sizeOf245
 v171:=Tryz.zeroValue245
 t173:=Tryz.underlying248
 a173:=Tryz.isAgg248
 z173:=Tryz.sizeOf248
 v173:=Tryz.zeroValue248
 t212:=Tryz.underlying257
 a212:=Tryz.isAgg257
 z212:=Tryz.sizeOf257
 v212:=Tryz.zeroValue257
 t213:=Tryz.underlying259
 a213:=Tryz.isAgg259
 z213:=Tryz.sizeOf259
 t232:=Tryz.underlying269
 a232:=Tryz.isAgg269
 z232:=Tryz.sizeOf269
 v232:=Tryz.zeroValue269
 t233:=Tryz.underlying270
 a233:=Tryz.isAgg270
 z233:=Tryz.sizeOf270
 v233:=Tryz.zeroValue270
 g17:=by kernel_rfl
 g18:=by kernel_rfl
 g19:=by kernel_rfl
 i0:=by kernel_rfl
 i2:=by kernel_rfl
 i3:=by kernel_rfl
 i4:=by kernel_rfl
 i5:=by kernel_rfl
 i9:=by kernel_rfl
 i20:=by kernel_rfl
 i37:=by kernel_rfl
 i46:=by kernel_rfl
 i51:=by kernel_rfl
 i53:=by kernel_rfl
 i171:=by kernel_rfl
 i173:=by kernel_rfl
 i212:=by kernel_rfl
 i232:=by kernel_rfl
 i233:=by kernel_rfl
 m17:=by kernel_rfl
 m18:=by kernel_rfl
 m19:=by kernel_rfl }
open Go.RowKit Go.Sort Go.Lib in
theorem Tryz.strconv_Itoa (n:Int) (h0:-9223372036854775808<=n) (h1:n<=9223372036854775807) (w:World) (htab:Lib.TabIs Tryz.prog w "internal/strconv.uint64pow10" .u64 Lib.pow10Tab) :
 Calls Tryz.prog 65 #[.int .i64 n] w fun e w'=>e = .returned (.string ⟨(Lib.itoa n).toArray⟩) /\ ∃k os,w'=grow (w.drewN k) os:=Any.strconv_Itoa Tryz.laysM171 n h0 h1 w htab
def Tryz.lays146_ren:Go.Shelf.Ren:=⟨fun|146=>48|221=>95|268=>162|138=>163|143=>164|195=>211|197=>212|218=>213|219=>214|260=>251|217=>252|225=>253|224=>254|267=>255|266=>271|314=>272|n=>n,fun|9=>9|31=>45|3=>3|4=>4|0=>0|105=>233|21=>21|5=>5|46=>162|119=>262|139=>265|138=>264|146=>266|51=>258|n=>n,fun|1=>1|3=>3|4=>4|n=>n⟩
theorem Tryz.lays146:Go.Proofs.Lays.n146 Tryz.prog Tryz.lays146_ren:={
 mixed:=by kernel_rfl
 f138:=Tryz.func163.trans (congrArg some (by kernel_rfl))
 f143:=Tryz.func164.trans (congrArg some (by kernel_rfl))
 f146:=Tryz.func48.trans (congrArg some (by kernel_rfl))
 f195:=Tryz.func211.trans (congrArg some (by kernel_rfl))
 f197:=Tryz.func212.trans (congrArg some (by kernel_rfl))
 f217:=Tryz.func252.trans (congrArg some (by kernel_rfl))
 f218:=Tryz.func213.trans (congrArg some (by kernel_rfl))
 f219:=Tryz.func214.trans (congrArg some (by kernel_rfl))
 f221:=Tryz.func95.trans (congrArg some (by kernel_rfl))
 f224:=Tryz.func254.trans (congrArg some (by kernel_rfl))
 f225:=Tryz.func253.trans (congrArg some (by kernel_rfl))
 f260:=Tryz.func251.trans (congrArg some (by kernel_rfl))
 f266:=Tryz.func271.trans (congrArg some (by kernel_rfl))
 f267:=Tryz.func255.trans (congrArg some (by kernel_rfl))
 f268:=Tryz.func162.trans (congrArg some (by kernel_rfl))
 f314:=Tryz.func272.trans (congrArg some (by kernel_rfl))
 t0:=Tryz.underlying0
 a0:=Tryz.isAgg0
 z0:=Tryz.sizeOf0
 v0:=Tryz.zeroValue0
 t3:=Tryz.underlying3
 a3:=Tryz.isAgg3
 z3:=Tryz.sizeOf3
 v3:=Tryz.zeroValue3
 t4:=Tryz.underlying4
 a4:=Tryz.isAgg4
 z4:=Tryz.sizeOf4
 v4:=Tryz.zeroValue4
 t5:=Tryz.underlying5
 a5:=Tryz.isAgg5
 z5:=Tryz.sizeOf5
 v5:=Tryz.zeroValue5
 t9:=Tryz.underlying9
 a9:=Tryz.isAgg9
 z9:=Tryz.sizeOf9
 v9:=Tryz.zeroValue9
 t21:=Tryz.underlying21
 a21:=Tryz.isAgg21
 z21:=Tryz.sizeOf21
 v21:=Tryz.zeroValue21
 t31:=Tryz.underlying45
 a31:=Tryz.isAgg45
 z31:=Tryz.sizeOf45
 v31:=Tryz.zeroValue45
 t46:=Tryz.underlying162
 a46:=Tryz.isAgg162
 z46:=Tryz.sizeOf162
 v46:=Tryz.zeroValue162
 t51:=Tryz.underlying258
 a51:=Tryz.isAgg258
 z51:=Tryz.sizeOf258
 v51:=Tryz.zeroValue258
 t105:=Tryz.underlying233
 a105:=Tryz.isAgg233
 z105:=Tryz.sizeOf233
 v105:=Tryz.zeroValue233
 t119:=Tryz.underlying262
 a119:=Tryz.isAgg262
 z119:=Tryz.sizeOf262
 t138:=Tryz.underlying264
 a138:=Tryz.isAgg264
 z138:=Tryz.sizeOf264
 v138:=Tryz.zeroValue264
 t139:=Tryz.underlying265
 a139:=Tryz.isAgg265
 z139:=Tryz.sizeOf265
 v139:=Tryz.zeroValue265
 t146:=Tryz.underlying266
 a146:=Tryz.isAgg266
 z146:=Tryz.sizeOf266
 v146:=Tryz.zeroValue266
 g1:=by kernel_rfl
 g3:=by kernel_rfl
 g4:=by kernel_rfl }
open Go.RowKit Go.Lib in
theorem Tryz.strings_Split (s sep:ByteArray) (m:Int) (w:World) (c:s.size<4294967281) (b:w.cell? ⟨1,0,none⟩=some (.int .i64 m)) (a:1<=sep.size) :
 Calls Tryz.prog 48 #[.string s,.string sep] w fun e w'=>
  e = .returned (.slice (some ⟨w.heap.size,0,none⟩) (Lib.countB s sep+1) (Lib.countB s sep+1)) /\ w'=w.alloc (.cells ((Lib.splitB sep 0 (Lib.countB s sep) s).map Value.string).toArray 9):=Any.strings_Split Tryz.lays146 (by kernel_rfl) s sep m w c b a
end Go.Proofs
namespace Go.Proofs.YtjomnmoekchfeaaGreatDoor.AM
open IntKind (wrap)
open List (length replicate getD set length_append length_set)
open Int (toNat toNat_natCast)
open Option (getD_some isSome_some)
open FloatKind (nearest)
open Nat (beq zero_le)
open Go Go.Proofs Go.RowKit
set_option maxRecDepth 100000
set_option maxHeartbeats 0
theorem c2O {β0:Bt} {K0:Ks} {w0 w':World} {rs:List W} {v:Value} (d:KOK K0 w0) (c:∀k,0<=k->β0 k=none) (a:Below w0.heap.size w0 w') (i:a6z β0 K0 rs v):Ret [] [] rs β0 K0 w0 v w' β0 K0:=
 ⟨KLe.refl _,⟨fun b arr e=>by
  obtain⟨cur,T,fz,f,g⟩:=d.ato b arr e;exact⟨cur,T,fz,by rw[a.block b (d.lt e)];exact f,g⟩,d.gk⟩,fun _ _ e => .inl e,
  ⟨fun k b e=>by simp[a2f]at e,fun k k' b b' _ _ _ e=>by simp[a2f]at e,fun k b _ _ e=>by simp[a2f]at e⟩,fun k _=>c k (zero_le _),i,
  ⟨a.os,a.tape,a.output,a.size,fun b h _=>a.block b h⟩,fun x j=>by
   obtain⟨k,b,y,e,_⟩:=j;simp[a2f]at e,BLe.refl _,Nat.le_refl _⟩
theorem c2P {f:Nat} (j:d7G Tryz.prog f) {A R:Ty} {ok:Den A->Bool} {g:Den A->Den R}
 (h:∀(x:Den A),ok x=true->∀(vs:Array Value) (β:Bt) (K:Ks) (w:World),KOK K w->All2 (WR β K) (a6t A x) vs.toList->Calls Tryz.prog f vs w fun e w'=>∃v,e = .returned v /\ a6z β K (a6t R (g x)) v /\ Below w.heap.size w w') :
 a0f Tryz.prog (f,a0c A R ok g):=by
 refine⟨?_,j⟩;intro args ins rs outs a β0 K0 w0 vs d n b l;cases ins with
 |cons _ _=>simp[a0c]at a
 | nil =>
   simp only[a0c]at a;split at a
   ·rename_i x m;simp only[Option.some.injEq,Prod.mk.injEq]at a;obtain⟨c,rfl,rfl⟩:=a;refine(h x c vs β0 K0 w0 d (a5m m l)).mono ?_;rintro e w' ⟨v,rfl,k,i⟩;exact⟨v,β0,K0,rfl,c2O d b i k⟩
   ·cases a
theorem c9M {β:Bt} {K:Ks} {a:W} {vs:Array Value} (h:All2 (WR β K) [a] vs.toList):∃v,vs=#[v] /\ WR β K a v:=by
 rcases vs with⟨l⟩
 cases l with
 |nil=>exact h.elim
 | cons v r=>cases r with
   |nil=>exact⟨v,rfl,h.1⟩
   |cons _ _=>exact h.2.elim
theorem b7k {β:Bt} {K:Ks} {a b:W} {vs:Array Value} (h:All2 (WR β K) [a,b] vs.toList):∃v u,vs=#[v,u] /\ WR β K a v /\ WR β K b u:=by
 rcases vs with⟨l⟩
 cases l with
 |nil=>exact h.elim
 | cons v r=>cases r with
   |nil=>exact h.2.elim
   | cons u r=>cases r with
     |nil=>exact⟨v,u,rfl,h.1,h.2.1⟩
     |cons _ _=>exact h.2.2.elim
theorem c2Q {K:Ks} {w:World} (h:KOK K w):∃m:Int,(∃T fz,w.heap[1]?=some (.cells #[.int .i64 m] T fz)) /\ ∃T fz,w.heap[2]?=some (.cells ((List.range 20).map fun i=>Value.int .u64 ((10^i:Nat):Int)).toArray T fz):=by
 obtain⟨m,c⟩:=h.gk;refine⟨m,?_,?_⟩
 ·obtain⟨cur,T,fz,a,b,_⟩:=h.ato 1 _ (c (1,#[.int .i64 m]) (List.mem_cons_self ..));have:=b rfl;subst this;exact⟨T,fz,a⟩
 ·obtain⟨cur,T,fz,a,b,_⟩:=h.ato 2 _ (c (2,_) (List.mem_cons_of_mem _ (List.mem_cons_self ..)));have:=b rfl;subst this;exact⟨T,fz,a⟩
theorem e3q {K:Ks} {w:World} (h:KOK K w):Lib.TabIs Tryz.prog w "internal/strconv.uint64pow10" .u64 Lib.pow10Tab:=by
 obtain⟨m,_,T,fz,h2⟩:=c2Q h
 unfold Lib.TabIs World.var?
 rw[show Tryz.prog.globalNamed "internal/strconv.uint64pow10" = some 2 by kernel_rfl]
 simp only[Option.bind_some,h2,Lib.pow10Tab,List.map_map]
 rfl
theorem c2R {K:Ks} {w:World} (h:KOK K w):∃m,w.cell? ⟨1,0,none⟩=some (.int .i64 m):=by
 obtain⟨m,⟨T,fz,a⟩,_⟩:=c2Q h;exact⟨m,by simp[World.cell?,a]⟩
abbrev A65:Ty := .cons (.int .i64) (.nil)
abbrev R65:Ty := .cons .str (.nil)
def K65 (x:Den A65):Bool:=decide ((-9223372036854775808:Int)<=x.1)&&decide ((x.1:Int)<=9223372036854775807)
def G65 (x:Den A65):Den R65:=(⟨(Lib.itoa x.1).toArray⟩,())
def m65:=(65,a0c A65 R65 K65 G65)
theorem f1O:a0f Tryz.prog (65,a0c A65 R65 K65 G65):=
 c2P ⟨_,Tryz.func65,by kernel_rfl,by kernel_rfl⟩ fun x a vs β K w f g=>by
  obtain⟨n,_⟩:=x;obtain⟨v,rfl,c⟩:=c9M g;have c:v = .int .i64 n:=c;subst c;simp only[K65,Bool.and_eq_true,decide_eq_true_eq]at a;refine(Tryz.strconv_Itoa n a.1 a.2 w (e3q f)).mono ?_;rintro e w' ⟨rfl,k,os,rfl⟩;exact⟨_,rfl,rfl,⟨rfl,rfl,rfl,by simp[Go.Sort.grow],fun b d=>by simp[Go.Sort.grow,Array.getElem?_append,d]⟩⟩
abbrev f8k:Ty := .cons .str (.cons (.int .u8) (.nil))
abbrev g1o:Ty := .cons (.int .i64) (.nil)
def e3r (x:Den f8k):Bool:=true
def a5s (x:Den f8k):Den g1o:=(Lib.indexByte (x.1:ByteArray).data.toList (x.2.1:Int).toNat.toUInt8,())
abbrev A60:Ty := .cons (.slice .str) (.cons .str (.nil))
abbrev R60:Ty := .cons .str (.nil)
def b5p (l:List ByteArray) (sep:ByteArray):List UInt8:=Lib.join (l.map (·.data.toList)) sep.data.toList
def K60 (x:Den A60):Bool:=decide ((x.1:List ByteArray).length<=140737488355328)&&decide ((b5p x.1 x.2.1).length<=140737488355328)
def G60 (x:Den A60):Den R60:=(⟨(b5p x.1 x.2.1).toArray⟩,())
def m60:=(60,a0c A60 R60 K60 G60)
theorem f1P:a0f Tryz.prog (60,a0c A60 R60 K60 G60):=
 c2P ⟨_,Tryz.func60,by kernel_rfl,by kernel_rfl⟩ fun x f vs β K w A H=>by
  obtain⟨l,sep,_⟩:=x;obtain⟨v,u,rfl,s,r⟩:=b7k H;have r:u = .string sep:=r;subst r;obtain⟨a,n,c,e,G,D,q⟩:=(show DR K (.slice .str) l [v]from s);have e:v = .slice a n c:=by simpa using e
  subst e;simp only[K60,Bool.and_eq_true,decide_eq_true_eq]at f;have k:n=length (α:=ByteArray) l:=G;have t:∀(l:List ByteArray),n=l.length->l.length<=140737488355328->(b5p l sep).length<=140737488355328 ->
   (n=0∨∃b o arr,a=some ⟨b,o,none⟩ /\ K b=some (false,arr) /\ ∀i (h:i<l.length),DR K .str l[i] (sub arr.toList (o+i*1) 1)) ->
   Calls Tryz.prog 60 #[.slice a n c,.string sep] w fun e w'=>∃v,e = .returned v /\ a6z β K (a6t R60 (⟨(b5p l sep).toArray⟩,())) v /\ Below w.heap.size w w':=by
   intro l k B C q;by_cases y:n=0
   ·subst y;have:l=[]:=by
     cases l with
     |nil=>rfl
     |cons _ _=>simp at k
    subst this;refine(Tryz.strings_Join_none a c sep w).mono ?_;rintro e w' ⟨rfl,rfl⟩;exact⟨_,rfl,rfl,Below.refl _ _⟩
   ·obtain⟨b,o,arr,rfl,z,E⟩:=q.resolve_left y;obtain⟨cur,T,fz,hh,d,_⟩:=A.ato b _ z;have d:=d rfl;subst d;subst k;refine(Tryz.strings_Join b o c l sep w ?_ (A.lt z) B D C).mono ?_
    ·intro j x F;obtain⟨p,I⟩:=List.getElem?_eq_some_iff.1 F;have g:=E j p;have g:sub cur.toList (o+j*1) 1=[.string l[j]]:=g;rw[I]at g;unfold sub at g;rw[Nat.mul_one]at g;simp only[World.cell?,hh,Option.isSome_none,Bool.false_eq_true,if_false];have:(cur.toList.drop (o+j))[0]?=some (.string x):=by
      have:=congrArg (fun l=>l[0]?) g;simpa[List.getElem?_take]using this
     rw[List.getElem?_drop,Nat.add_zero,Array.getElem?_toList]at this;exact this
    ·rintro e w' ⟨rfl,m⟩;exact⟨_,rfl,rfl,m⟩
  exact t l k f.1 f.2 q
abbrev A48:Ty := .cons .str (.cons .str (.nil))
abbrev R48:Ty := .cons (.slice .str) (.nil)
def a3G (s sep:ByteArray):List ByteArray:=Lib.splitB sep 0 (Lib.countB s sep) s
def K48 (x:Den A48):Bool:=decide ((x.1:ByteArray).size<4294967281)&&decide (1<=(x.2.1:ByteArray).size)
def G48 (x:Den A48):Den R48:=(a3G x.1 x.2.1,())
def m48:=(48,a0c A48 R48 K48 G48)
theorem f1Q:a0f Tryz.prog (48,a0c A48 R48 K48 G48):=by
 refine⟨?_,⟨_,Tryz.func48,by kernel_rfl,by kernel_rfl⟩⟩;intro args ins rs outs c β0 K0 w0 vs l z o t;cases ins with
 |cons _ _=>simp[a0c]at c
 | nil =>
   simp only[a0c]at c;split at c
   case h_2=>cases c
   rename_i x w;simp only[Option.some.injEq,Prod.mk.injEq]at c;obtain⟨f,rfl,rfl⟩:=c;have t:=a5m w t;obtain⟨s,sep,_⟩:=x;obtain⟨v,u,rfl,g,r⟩:=b7k t;have g:v = .string s:=g;have r:u = .string sep:=r;subst g;subst r;simp only[K48,Bool.and_eq_true,decide_eq_true_eq]at f;obtain⟨m,q⟩:=c2R l;refine(Tryz.strings_Split s sep m w0 f.1 q f.2).mono ?_;rintro e w' ⟨rfl,rfl⟩;have j:(a3G s sep).length=Lib.countB s sep+1:=Lib.splitB_all sep f.2 0 _ s rfl;have d:∀arr,K0 w0.heap.size=some arr->False:=fun arr e=>Nat.lt_irrefl _ (l.lt e)
   let arr:Array Value:=((a3G s sep).map Value.string).toArray
   refine⟨_,β0,fun b=>if b=w0.heap.size then some (false,arr)else K0 b,rfl,⟨?_,⟨?_,?_⟩,?_,⟨fun k b e=>by simp[a2f]at e,fun k k' b b' _ _ _ e=>by simp[a2f]at e,fun k b _ _ e=>by simp[a2f]at e⟩,fun k _=>o k (zero_le _),?_,Fr.alloc _ _ _,fun x w=>by
    obtain⟨k,b,y,e,_⟩:=w;simp[a2f]at e,BLe.refl _,Nat.le_refl _⟩⟩
   ·intro b a e;show(if b=w0.heap.size then some (false,arr)else K0 b)=_;rw[if_neg (by rintro rfl;exact d _ e)];exact e
   ·intro b a e;split at e
    ·rename_i n;cases e;subst n;exact⟨_,9,(0,0),a1z _ _,fun _=>rfl,fun h=>by cases h⟩
    ·exact(l.alloc _).ato b a e
   ·refine GK.mono (K:=K0) (fun b a e=>?_) l.gk;show(if b=w0.heap.size then some (false,arr)else K0 b)=_;rw[if_neg (by rintro rfl;exact d _ e)];exact e
   ·intro b a e;split at e
    ·rename_i n;right;right;rw[n];exact Nat.le_refl _
    ·exact .inl e
   ·show DR _ (.slice .str) (a3G s sep) [_];refine⟨_,_,_,rfl,j.symm,Nat.le_refl _,.inr ⟨w0.heap.size,0,arr,rfl,if_pos rfl,fun i p=>?_⟩⟩;show sub arr.toList (0+i*1) 1=[.string (a3G s sep)[i]];have p:i<(a3G s sep).length:=p;unfold sub;rw[Nat.mul_one,Nat.zero_add];simp only[arr];rw[List.drop_eq_getElem_cons (by simpa using p)];simp
open Go Go.Proofs
abbrev A62:Ty := .cons (.flt .f64) (.nil)
abbrev R62:Ty := .cons (.flt .f64) (.nil)
noncomputable def N62:a6I:=mkN [(120,a5b (.cons (.flt .f64) .nil) (.cons (.int .u64) .nil) c2N c9K (fun z x=>((((bif a1r .f64 x.1 then z.1 else x.1:Nat):Int)),()))),(121,a5b (.cons (.int .u64) .nil) (.cons (.flt .f64) .nil) Unit ⟨()⟩ (fun _ x=>((x.1:Int).toNat,())))] []
noncomputable def f1R:Env:=c2q tab eqs [] 32 [.tmp 2] [] [] [] [] []
def rE (n:Int):Int:=a1Q .and .u64 (Int.fdiv n (2^min (toNat 52) (IntKind.bits .u64))) 2047
noncomputable def rR (n:Int) (h:Nat->Option Unit):Option Unit:=
 bif decide (rE n<1023)then
  bif rE n==1022 then
   a3u fun(_:Unit)=>h (toNat (a1Q .or .u64 (a1Q .and .u64 n 9223372036854775808) 4607182418800017408))
  else a3u fun(_:Unit)=>h (toNat (a1Q .and .u64 n 9223372036854775808))
 else bif decide (rE n<1075)then
  let a:=wrap .u64 (rE n-1023)
  bif decide (0<=a)then
   bif decide (0<=a)then
    a3u fun(_:Unit)=>h (toNat (a1Q .andNot .u64 (wrap .u64 (n+Int.fdiv 2251799813685248 (2^min (toNat a) (IntKind.bits .u64)))) (Int.fdiv 4503599627370495 (2^min (toNat a) (IntKind.bits .u64)))))
   else none
  else none
 else a3u fun(_:Unit)=>h (toNat n)
theorem f1S (h:Den R62->Option Unit) (x:Den A62):a7s f1R N62 (a0N Tryz.f62) (a7t R62 h) (a6t A62 x) [] =
 a3u fun(z:c2N)=>rR (((bif a1r FloatKind.f64 x.fst then z.1 else x.fst:Nat):Int)) (fun y=>h (y,())):=by kernel_rfl
def a1s (n:Int):Nat:=
 bif decide (rE n<1023)then
  bif rE n==1022 then toNat (a1Q .or .u64 (a1Q .and .u64 n 9223372036854775808) 4607182418800017408)
  else toNat (a1Q .and .u64 n 9223372036854775808)
 else bif decide (rE n<1075)then
  toNat (a1Q .andNot .u64 (wrap .u64 (n+Int.fdiv 2251799813685248 (2^min (toNat (wrap .u64 (rE n-1023))) (IntKind.bits .u64)))) (Int.fdiv 4503599627370495 (2^min (toNat (wrap .u64 (rE n-1023))) (IntKind.bits .u64))))
 else toNat n
theorem b5q (n:Int):0<=wrap .u64 n:=by rw[IntKind.wrap_u64];omega
theorem f1T (n:Int) (h:Nat->Option Unit) (hh:h (a1s n)=some ()):rR n h=some ():=by
 unfold rR;unfold a1s at hh;cases h1:decide (rE n<1023)with
 | true =>
   rw[h1]at hh;cases h2:rE n==1022 with
   |true=>rw[h2]at hh;exact a0t fun _=>hh
   |false=>rw[h2]at hh;exact a0t fun _=>hh
 | false =>
   rw[h1]at hh;cases h2:decide (rE n<1075)with
   | true =>
     rw[h2]at hh;simp only[b5q,decide_true,cond_true];exact a0t fun _=>hh
   |false=>rw[h2]at hh;exact a0t fun _=>hh
theorem b7l (b:Nat):rE (b:Int)=((b/2^52%2048:Nat):Int):=by
 unfold rE;have a:Int.fdiv (b:Int) (2^min (toNat 52) (IntKind.bits .u64))=((b/2^52:Nat):Int):=by
  have e:min (toNat 52) (IntKind.bits .u64)=52:=by decide
  rw[e,Int.fdiv_eq_ediv_of_nonneg _ (by decide)];rfl
 rw[a];show IntKind.u64.wrap (((BitVec.ofInt 64 ((b/2^52:Nat):Int) &&& BitVec.ofInt 64 2047).toNat:Nat):Int)=_;rw[BitVec.toNat_and];have d:(BitVec.ofInt 64 ((b/2^52:Nat):Int)).toNat=b/2^52%2^64:=by
  rw[BitVec.toNat_ofInt];omega
 have c:(BitVec.ofInt 64 2047).toNat=2^11-1:=by decide
 rw[d,c,Nat.and_two_pow_sub_one_eq_mod,IntKind.wrap_u64];omega
theorem e3s {b:Nat} (h:a1r .f64 b=true):rE (b:Int)=2047:=by
 rw[b7l];rw[a3y]at h;have a:FloatKind.f64.format.signWeight=2^63:=by decide
 have c:FloatKind.f64.format.infRung=2047*2^52:=by decide
 rw[a,c]at h;omega
def K62 (x:Den A62):Bool:=true
def G62 (x:Den A62):Den R62:=(a1s ((x.1:Nat):Int),())
theorem f1U:a1o Tryz.prog f1R:=b2C mixed b7j b2U .nil
theorem g1p:a7b Tryz.prog 62 f1R (a0N Tryz.f62):=a1F Tryz.func62 rfl rfl rfl (by kernel_rfl) (a2Z (by kernel_rfl))
def m62:=(62,a0c A62 R62 K62 G62)
theorem f1V:a0f Tryz.prog (62,a0c A62 R62 K62 G62):=
 c2J (N:=N62) f1U (a4h ⟨b7f d2V,a7d d2W,trivial⟩) g1p a1L (Q:=fun x y=>FEq .f64 (a1s ((x.1:Nat):Int)) y.1)
  (fun x y h β K v i=>by
   obtain⟨b,rfl,a⟩:=i;refine⟨b,rfl,?_⟩;have a:FEq .f64 y.1 b:=a;show FEq .f64 (a1s ((x.1:Nat):Int)) b;rcases h with e|⟨d,f⟩
   ·rw[e];exact a
   ·exact .inr ⟨d,FEq.nan_left a f⟩)
  (fun x _ k g=>by
   rw[f1S]
   haveI:=c9K
   refine a0t fun z=>f1T _ _ (g _ ?_)
   cases hn:a1r .f64 x.1 with
   | true =>
     have c:∀b:Nat,a1r .f64 b=true->a1s (b:Int)=b:=fun b a=>by
      unfold a1s;rw[e3s a];rfl
     refine .inr ⟨by rw[c _ hn];exact hn,?_⟩;show a1r .f64 (a1s ((bif true then z.1 else x.1:Nat):Int))=true;rw[cond_true,c _ z.2];exact z.2
   |false=>exact .inl rfl)
abbrev f8l:Ty:=.cons (.flt .f64) (.nil)
abbrev f1W:Ty:=.cons (.flt .f64) (.nil)
def e1S (x:Den f8l):OD f1W:=bif flt .f64 x.1 0 then some (a3g .f64 x.1,())else some (x)
def e8Z (x):=(e1S x).isSome
def e9a (x):=(e1S x).getD (zero f1W)
def g1q:=(165,a0c f8l f1W e8Z e9a)
theorem e3t:a0f Tryz.prog g1q:=fnE nS Tryz.func165
abbrev A96:Ty:=.cons (.cpx .f64) (.nil)
abbrev R96:Ty:=.cons (.bool) (.nil)
def F96 (x:Den A96):OD R96:=bif e8Z (x.1.1,()) then let a:=e9a (x.1.1,());bif flt .f64 a.1 4726483295884279808||feq .f64 a.1 4726483295884279808 then bif e8Z (x.1.2,()) then let b:=e9a (x.1.2,());some (flt .f64 b.1 4726483295884279808||feq .f64 b.1 4726483295884279808,())else none else some (false,())else none
def K96 (x):=(F96 x).isSome
def G96 (x):=(F96 x).getD (zero R96)
def m96:=(96,a0c A96 R96 K96 G96)
theorem b5r:a0f Tryz.prog m96:=fnE (s1 e3t) Tryz.func96
abbrev A97:Ty:=.cons (.flt .f64) (.nil)
abbrev R97:Ty:=.cons (.int .i64) (.nil)
def F97 (x:Den A97):OD R97:=bif a5B .f64 x.1 IntKind.i64 then let b:=f2i .f64 x.1;let a:=a0b .sub .f64 x.1 (nearest .f64 b);bif fgt .f64 a 4602678819172646912||feq .f64 a 4602678819172646912 then bif flt .f64 a 13826050856027422720||feq .f64 a 13826050856027422720 then some (wrap .i64 ((wrap .i64 (b+1))-1),())else some (wrap .i64 (b+1),())else bif flt .f64 a 13826050856027422720||feq .f64 a 13826050856027422720 then some (wrap .i64 (b-1),())else some (b,())else none
def K97 (x):=(F97 x).isSome
def G97 (x):=(F97 x).getD (zero R97)
def m97:=(97,a0c A97 R97 K97 G97)
theorem f1X:a0f Tryz.prog m97:=fnE nS Tryz.func97
abbrev A51:Ty:=.cons (.int .i64) (.cons (.int .i64) (.cons (.int .i64) (.nil)))
abbrev R51:Ty:=.cons (.bool) (.nil)
def F51 (x:Den A51):OD R51:=bif decide (x.1 ≥ x.2.1) then some (decide (x.1<=x.2.2.1),())else some (false,())
def K51 (x):=(F51 x).isSome
def G51 (x):=(F51 x).getD (zero R51)
def m51:=(51,a0c A51 R51 K51 G51)
theorem a4a:a0f Tryz.prog m51:=fnE nS Tryz.func51
abbrev A98:Ty:=.cons (S33) (.nil)
abbrev R98:Ty:=.cons (.bool) (.nil)
def F98 (x:Den A98):OD R98:=bif K51 (x.1.1,-10000,10000,()) then bif (G51 (x.1.1,-10000,10000,())).1 then bif K51 (x.1.2.1,-10000,10000,()) then some (G51 (x.1.2.1,-10000,10000,()))else none else some (false,())else none
def K98 (x):=(F98 x).isSome
def G98 (x):=(F98 x).getD (zero R98)
def m98:=(98,a0c A98 R98 K98 G98)
theorem c9N:a0f Tryz.prog m98:=fnE (s1 a4a) Tryz.func98
abbrev A49:Ty:=.cons (.cpx .f64) (.nil)
abbrev R49:Ty:=.cons (S33) (.cons (.bool) (.nil))
def F49 (x:Den A49):OD R49:=bif K96 x then bif !(G96 x).1 then some ((0,0,()),false,())else bif K97 (x.1.1,()) then bif K97 (x.1.2,()) then let a:=G97 (x.1.1,());let b:=G97 (x.1.2,());bif K98 ((a.1,b),()) then bif !(G98 ((a.1,b),())).1 then some ((0,0,()),false,())else some ((a.1,b),true,())else none else none else none else none
def K49 (x):=(F49 x).isSome
def G49 (x):=(F49 x).getD (zero R49)
def m49:=(49,a0c A49 R49 K49 G49)
theorem c9O:a0f Tryz.prog m49:=fnE (s3 b5r f1X c9N) Tryz.func49
abbrev A99:Ty:=.cons (S27) (.nil)
abbrev R99:Ty:=.cons (.bool) (.nil)
abbrev b7m:Type:=b2X×c0x
abbrev d2X:Type:=a5r×c0x
abbrev d2Y:Type:=a9l
def d2Z:LR:=⟨[1,5],[],4,[1],[],⟨[(1,om1),(5,om0)],b4J,1,0⟩,⟨[(1,om1)],b4J,1,0⟩,⟨a9m,[],0,0⟩⟩
def b2Z (f:b7m->Option (d2X⊕d2Y)) (v:b7m):Option (d2X⊕d2Y):=bif decide (v.1.2.1<(length v.2.1.2.1:Int)) then bif decide (0<=v.1.2.1)&&decide (v.1.2.1<(length v.2.1.2.1:Int)) then let a:=wrap .i64 (v.1.2.1-1);bif decide (0<=a)&&decide (a<(length v.2.1.2.1:Int)) then bif decide ((getD v.2.1.2.1 (toNat v.1.2.1) (zero (Ty.int IntKind.i64)))<=(getD v.2.1.2.1 (toNat a) (zero (Ty.int IntKind.i64)))) then some (Sum.inr ((false,()),()))else f ((((),wrap .i64 (v.1.2.1+1),()),v.2))else none else none else some (Sum.inl (((),()),v.2))
def c2S (v:b7m):Nat:=v.1.2.1.natAbs+v.2.1.1.length+v.2.1.2.1.length+v.2.1.2.2.1.length+1000
def a9Q (v:b7m):=a0K b2Z (c2S v) v
def c2T (v):=(a9Q v).isSome
def c2U (v):=isR (a9Q v)
def c2V (v):=xOf default (a9Q v)
def c2W (v):=yOf default (a9Q v)
abbrev c9P:Type:=d2T×c0x
abbrev e3u:Type:=b2X×c0x
abbrev e3v:Type:=a9l
def e3w:LR:=⟨[1,3,4],[],2,[1,3],[],⟨[(1,om1),(3,om0),(4,om0)],b4J,1,0⟩,⟨li9,b4J,1,0⟩,⟨a9m,[],0,0⟩⟩
def c2X (f:c9P->Option (e3u⊕e3v)) (v:c9P):Option (e3u⊕e3v):=bif decide (0<=v.1.2.1)&&decide (v.1.2.1<(length v.2.1.2.2.1:Int)) then let a:=getD v.2.1.2.2.1 (toNat v.1.2.1) (zero (Ty.slice (Ty.flt .f32)));bif decide (v.1.2.2.1<(length a:Int)) then bif decide (0<=v.1.2.1)&&decide (v.1.2.1<(length v.2.1.2.2.1:Int)) then bif decide (0<=v.1.2.2.1)&&decide (v.1.2.2.1<(length a:Int)) then let b:=getD a (toNat v.1.2.2.1) (zero (Ty.flt .f32));bif fgt .f32 b 0||feq .f32 b 0 then bif decide (0<=v.1.2.1)&&decide (v.1.2.1<(length v.2.1.2.2.1:Int)) then bif decide (0<=v.1.2.2.1)&&decide (v.1.2.2.1<(length a:Int)) then bif !(flt .f32 b 1112014848||feq .f32 b 1112014848) then some (Sum.inr ((false,()),()))else f ((((),v.1.2.1,wrap .i64 (v.1.2.2.1+1),()),v.2))else none else none else some (Sum.inr ((false,()),()))else none else none else some (Sum.inl (((),v.1.2.1,()),v.2))else none
def d8t (v:c9P):Nat:=v.1.2.1.natAbs+v.1.2.2.1.natAbs+v.2.1.1.length+v.2.1.2.1.length+v.2.1.2.2.1.length+1000
def c0y (v:c9P):=a0K c2X (d8t v) v
def b7n (v):=(c0y v).isSome
def b7o (v):=isR (c0y v)
def b3a (v):=xOf default (c0y v)
def b7p (v):=yOf default (c0y v)
abbrev c9Q:Type:=b2X×c0x
abbrev d8u:Type:=a5r×c0x
abbrev d8v:Type:=a9l
def e3x:LR:=⟨[1,3],[],0,[1],[],⟨li9,b4J,1,0⟩,⟨[(1,om1)],b4J,1,0⟩,⟨a9m,[],0,0⟩⟩
def b1k (f:c9Q->Option (d8u⊕d8v)) (v:c9Q):Option (d8u⊕d8v):=let d:=(length v.2.1.1:Int);bif decide (v.1.2.1<d) then let e:=decide (0<=v.1.2.1)&&decide (v.1.2.1<d);bif e then let h:=zero (Ty.flt .f32);let a:=getD v.2.1.1 (toNat v.1.2.1) h;bif fgt .f32 a 0 then bif e then bif !(flt .f32 a 1120403456||feq .f32 a 1120403456) then some (Sum.inr ((false,()),()))else bif decide (v.1.2.1>0) then bif e then let g:=wrap .i64 (v.1.2.1-1);bif decide (0<=g)&&decide (g<d) then let i:=getD v.2.1.1 (toNat g) h;bif flt .f32 a i||feq .f32 a i then some (Sum.inr ((false,()),()))else bif decide (0<=v.1.2.1)&&decide (v.1.2.1<(length v.2.1.2.2.1:Int)) then bif (↑(length (getD v.2.1.2.2.1 (toNat v.1.2.1) (zero (Ty.slice (Ty.flt .f32))))):Int) != (length v.2.1.2.1:Int) then some (Sum.inr ((false,()),()))else let b:=(((),v.1.2.1,0,()),v.2);bif b7n b then bif b7o b then some (Sum.inr (b7p b))else let j:=b3a b;f ((((),wrap .i64 (j.1.2.1+1),()),j.2))else none else none else none else none else bif decide (0<=v.1.2.1)&&decide (v.1.2.1<(length v.2.1.2.2.1:Int)) then bif (↑(length (getD v.2.1.2.2.1 (toNat v.1.2.1) (zero (Ty.slice (Ty.flt .f32))))):Int) != (length v.2.1.2.1:Int) then some (Sum.inr ((false,()),()))else let c:=(((),v.1.2.1,0,()),v.2);bif b7n c then bif b7o c then some (Sum.inr (b7p c))else let k:=b3a c;f ((((),wrap .i64 (k.1.2.1+1),()),k.2))else none else none else none else some (Sum.inr ((false,()),()))else none else some (Sum.inl (((),()),v.2))
def d8w (v:c9Q):Nat:=v.1.2.1.natAbs+v.2.1.1.length+v.2.1.2.1.length+v.2.1.2.2.1.length+1000
def c0z (v:c9Q):=a0K b1k (d8w v) v
def d3a (v):=(c0z v).isSome
def d3b (v):=isR (c0z v)
def d3c (v):=xOf default (c0z v)
def d3d (v):=yOf default (c0z v)
def F99 (x:Den A99):OD R99:=bif K51 ((length x.1.1:Int),1,12,()) then bif !(G51 ((length x.1.1:Int),1,12,())).1 then some (false,())else bif K51 ((length x.1.2.1:Int),2,24,()) then bif !(G51 ((length x.1.2.1:Int),2,24,())).1 then some (false,())else bif (length x.1.2.2.1:Int) != (length x.1.1:Int) then some (false,())else bif d3a (((),0,()),x) then bif d3b (((),0,()),x) then some (d3d (((),0,()),x)).1 else let c:=d3c (((),0,()),x);bif c2T (((),1,()),c.2) then bif c2U (((),1,()),c.2) then some (c2W (((),1,()),c.2)).1 else let b:=c2V (((),1,()),c.2);bif decide (0<=0)&&decide (0<(length b.2.1.2.1:Int)) then bif (getD b.2.1.2.1 (toNat 0) (zero (Ty.int IntKind.i64)))==0 then let a:=wrap .i64 ((length b.2.1.2.1:Int)-1);bif decide (0<=a)&&decide (a<(length b.2.1.2.1:Int)) then some ((getD b.2.1.2.1 (toNat a) (zero (Ty.int IntKind.i64)))==180,())else none else some (false,())else none else none else none else none else none
def K99 (x):=(F99 x).isSome
def G99 (x):=(F99 x).getD (zero R99)
def m99:=(99,a0c A99 R99 K99 G99)
noncomputable def f1Y:=gE [m51] Tryz.f99 (lps:=[(4,lmR e3x c0z),(9,lmR e3w c0y),(14,lmR d2Z a9Q)])
theorem d8x:EvR f1Y (lp Tryz.f99 0) e3x b1k:=fun _ _=>by kernel_rfl
theorem d8y:EvR f1Y (lp Tryz.f99 1) e3w c2X:=fun _ _=>by kernel_rfl
theorem c9R:EvR f1Y (lp Tryz.f99 2) d2Z b2Z:=fun _ _=>by kernel_rfl
theorem e3y:a0f Tryz.prog m99:=a0Q (a0L (s1 a4a)) (a1F Tryz.func99 rfl rfl rfl (by kernel_rfl) (a0j (by kernel_rfl) (s3 (lR d8x d8w) (lR d8y d8t) (lR c9R c2S)))) fun _=>by kernel_rfl
abbrev f8m:Ty:=.cons (.flt .f32) (.nil)
abbrev f1Z:Ty:=.cons (.flt .f32) (.nil)
def e1T (x:Den f8m):OD f1Z:=bif flt .f32 x.1 0 then some (a3g .f32 x.1,())else some (x)
def e9b (x):=(e1T x).isSome
def e9c (x):=(e1T x).getD (zero f1Z)
def g1r:=(103,a0c f8m f1Z e9b e9c)
theorem e3z:a0f Tryz.prog g1r:=fnE nS Tryz.func103
abbrev A52:Ty:=.cons (.cpx .f32) (.nil)
abbrev R52:Ty:=.cons (.bool) (.nil)
def F52 (x:Den A52):OD R52:=bif e9b (x.1.1,()) then let a:=e9c (x.1.1,());bif flt .f32 a.1 1120403456||feq .f32 a.1 1120403456 then bif e9b (x.1.2,()) then let b:=e9c (x.1.2,());some (flt .f32 b.1 1120403456||feq .f32 b.1 1120403456,())else none else some (false,())else none
def K52 (x):=(F52 x).isSome
def G52 (x):=(F52 x).getD (zero R52)
def m52:=(52,a0c A52 R52 K52 G52)
theorem b1l:a0f Tryz.prog m52:=fnE (s1 e3z) Tryz.func52
abbrev f8n:Ty:=.cons (a1B) (.nil)
abbrev f2a:Ty:=.cons (.bool) (.nil)
abbrev b7q:Type:=b2X×f1L
abbrev d3e:Type:=a5r
abbrev d3f:Type:=a9l
def d3g:LR:=⟨[1,3],[],0,[],[],⟨li9,[(0,f1M)],1,0⟩,⟨[],[],0,0⟩,⟨a9m,[],0,0⟩⟩
def b7r (f:b7q->Option (d3e⊕d3f)) (v:b7q):Option (d3e⊕d3f):=bif decide (v.1.2.1<13) then bif decide (0<=v.1.2.1)&&decide (v.1.2.1<(↑13:Int)) then let a:=getD [v.2.1.2.1,v.2.1.2.2.1,v.2.1.2.2.2.1,v.2.1.2.2.2.2.1,v.2.1.2.2.2.2.2.1,v.2.1.2.2.2.2.2.2.1,v.2.1.2.2.2.2.2.2.2.1,v.2.1.2.2.2.2.2.2.2.2.1,v.2.1.2.2.2.2.2.2.2.2.2.1,v.2.1.2.2.2.2.2.2.2.2.2.2.1,v.2.1.2.2.2.2.2.2.2.2.2.2.2.1,v.2.1.2.2.2.2.2.2.2.2.2.2.2.2.1,v.2.1.2.2.2.2.2.2.2.2.2.2.2.2.2.1] (toNat v.1.2.1) (0,0);bif K52 (a,()) then bif !(G52 (a,())).1 then some (Sum.inr ((false,()),()))else f ((((),wrap .i64 (v.1.2.1+1),()),v.2))else none else none else some (Sum.inl ((),()))
def c2Y (v:b7q):Nat:=v.1.2.1.natAbs+1000
def a9R (v:b7q):=a0K b7r (c2Y v) v
def c2Z (v):=(a9R v).isSome
def c3a (v):=isR (a9R v)
def f2b (v):=xOf default (a9R v)
def c3b (v):=yOf default (a9R v)
def e1U (x:Den f8n):OD f2a:=let a:=(((),0,()),(x.1.1,x.1.2.1),());bif c2Z a then bif c3a a then some (c3b a).1 else some (true,())else none
def e3A (x):=(e1U x).isSome
def e3B (x):=(e1U x).getD (zero f2a)
def f8o:=(166,a0c f8n f2a e3A e3B)
noncomputable def f2c:=gE [m52] Tryz.f166 (lps:=[(2,lmR d3g a9R)])
theorem c9S:EvR f2c (lp Tryz.f166 0) d3g b7r:=fun _ _=>by kernel_rfl
theorem d3h:a0f Tryz.prog f8o:=a0Q (a0L (s1 b1l)) (a1F Tryz.func166 rfl rfl rfl (by kernel_rfl) (a0j (by kernel_rfl) (s1 (lR c9S c2Y)))) fun _=>by kernel_rfl
abbrev f8p:Ty:=.cons (S30) (.nil)
abbrev f2d:Ty:=.cons (.bool) (.nil)
abbrev b7s:Type:=b2X×c2L
abbrev d3i:Type:=a5r
abbrev d3j:Type:=a9l
def d3k:LR:=⟨[1,4],[],2,[],[],⟨[(1,om1),(4,om0)],c2M,1,0⟩,⟨[],[],0,0⟩,⟨a9m,[],0,0⟩⟩
def b3b (f:b7s->Option (d3i⊕d3j)) (v:b7s):Option (d3i⊕d3j):=bif decide (v.1.2.1<(length v.2.1.2.1:Int)) then bif decide (0<=v.1.2.1)&&decide (v.1.2.1<(length v.2.1.2.1:Int)) then let a:=getD v.2.1.2.1 (toNat v.1.2.1) (zero (Ty.int IntKind.i64));bif K51 (a,0,10000000,()) then bif !(G51 (a,0,10000000,())).1 then some (Sum.inr ((false,()),()))else bif decide (v.1.2.1>0) then bif decide (0<=v.1.2.1)&&decide (v.1.2.1<(length v.2.1.2.1:Int)) then let b:=wrap .i64 (v.1.2.1-1);bif decide (0<=b)&&decide (b<(length v.2.1.2.1:Int)) then bif decide (a<(wrap .i64 ((getD v.2.1.2.1 (toNat b) (zero (Ty.int IntKind.i64)))+21600))) then some (Sum.inr ((false,()),()))else f ((((),wrap .i64 (v.1.2.1+1),()),v.2))else none else none else f ((((),wrap .i64 (v.1.2.1+1),()),v.2))else none else none else some (Sum.inl ((),()))
def c3c (v:b7s):Nat:=v.1.2.1.natAbs+v.2.1.1.length+v.2.1.2.1.length+1000
def a9S (v:b7s):=a0K b3b (c3c v) v
def c3d (v):=(a9S v).isSome
def c3e (v):=isR (a9S v)
def f2e (v):=xOf default (a9S v)
def c3f (v):=yOf default (a9S v)
abbrev b7t:Type:=b2X×c2L
abbrev d3l:Type:=a5r×c2L
abbrev d3m:Type:=a9l
def d3n:LR:=⟨[1,3],[],0,[1],[],⟨li9,c2M,1,0⟩,⟨[(1,om1)],c2M,1,0⟩,⟨a9m,[],0,0⟩⟩
def b3c (f:b7t->Option (d3l⊕d3m)) (v:b7t):Option (d3l⊕d3m):=bif decide (v.1.2.1<(length v.2.1.1:Int)) then bif decide (0<=v.1.2.1)&&decide (v.1.2.1<(length v.2.1.1:Int)) then let a:=getD v.2.1.1 (toNat v.1.2.1) (zero a1B);bif K96 (a.1,()) then bif !(G96 (a.1,())).1 then some (Sum.inr ((false,()),()))else bif decide (0<=v.1.2.1)&&decide (v.1.2.1<(length v.2.1.1:Int)) then bif e3A (a,()) then bif !(e3B (a,())).1 then some (Sum.inr ((false,()),()))else f ((((),wrap .i64 (v.1.2.1+1),()),v.2))else none else none else none else none else some (Sum.inl (((),()),v.2))
def c3g (v:b7t):Nat:=v.1.2.1.natAbs+v.2.1.1.length+v.2.1.2.1.length+1000
def a9T (v:b7t):=a0K b3c (c3g v) v
def c3h (v):=(a9T v).isSome
def c3i (v):=isR (a9T v)
def c3j (v):=xOf default (a9T v)
def c3k (v):=yOf default (a9T v)
def e1V (x:Den f8p):OD f2d:=let b:=((length x.1.1:Int),1,20,());bif K51 b then bif !(G51 b).1 then some (false,())else let c:=((length x.1.2.1:Int),1,60,());bif K51 c then bif !(G51 c).1 then some (false,())else bif c3h (((),0,()),x) then bif c3i (((),0,()),x) then some (c3k (((),0,()),x)).1 else let a:=c3j (((),0,()),x);bif c3d (((),0,()),a.2) then bif c3e (((),0,()),a.2) then some (c3f (((),0,()),a.2)).1 else some (true,())else none else none else none else none
def d8z (x):=(e1V x).isSome
def d8A (x):=(e1V x).getD (zero f2d)
def f2f:=(100,a0c f8p f2d d8z d8A)
noncomputable def e3C:=gE [m51,m96,f8o] Tryz.f100 (lps:=[(4,lmR d3n a9T),(9,lmR d3k a9S)])
theorem c9T:EvR e3C (lp Tryz.f100 0) d3n b3c:=fun _ _=>by kernel_rfl
theorem c9U:EvR e3C (lp Tryz.f100 1) d3k b3b:=fun _ _=>by kernel_rfl
theorem c3l:a0f Tryz.prog f2f:=a0Q (a0L (s3 a4a b5r d3h)) (a1F Tryz.func100 rfl rfl rfl (by kernel_rfl) (a0j (by kernel_rfl) (s2 (lR c9T c3g) (lR c9U c3c)))) fun _=>by kernel_rfl
abbrev f8q:Ty:=.cons (.str) (.nil)
abbrev f2g:Ty:=.cons (.bool) (.nil)
abbrev b7u:Type:=e3e
abbrev d3o:Type:=d2U×Unit
abbrev d3p:Type:=a9l
def d3q:LR:=⟨[0,3],[],0,[0],[],⟨[(0,om5),(3,om0)],[],0,0⟩,⟨[(0,om5)],[],0,0⟩,⟨a9m,[],0,0⟩⟩
def b3d (f:b7u->Option (d3o⊕d3p)) (v:b7u):Option (d3o⊕d3p):=let a:=v.1.2.1<(ByteArray.size v.1.1:Int);bif decide a then let b:=decide (0<=v.1.2.1)&&decide a;bif b then bif decide (a0o v.1.1 v.1.2.1<97) then some (Sum.inr ((false,()),()))else bif b then bif decide (a0o v.1.1 v.1.2.1>122) then some (Sum.inr ((false,()),()))else f (((v.1.1,wrap .i64 (v.1.2.1+1),()),()))else none else none else some (Sum.inl ((v.1.1,()),()))
def c3m (v:b7u):Nat:=v.1.1.size+v.1.2.1.natAbs+1000
def a9U (v:b7u):=a0K b3d (c3m v) v
def c3n (v):=(a9U v).isSome
def c3o (v):=isR (a9U v)
def c3p (v):=xOf default (a9U v)
def c3q (v):=yOf default (a9U v)
def e9d (x:Den f8q):OD f2g:=bif c3n ((x.1,0,()),()) then bif c3o ((x.1,0,()),()) then some (c3q ((x.1,0,()),())).1 else let a:=c3p ((x.1,0,()),());let b:=((ByteArray.size a.1.1:Int),1,16,());bif K51 b then bif (G51 b).1 then some (!a1a a.1.1 { data:=#[110,111,110,101] },())else some (false,())else none else none
def f2h (x):=(e9d x).isSome
def f2j (x):=(e9d x).getD (zero f2g)
def f8r:=(167,a0c f8q f2g f2h f2j)
noncomputable def f2k:=gE [m51] Tryz.f167 (lps:=[(2,lmR d3q a9U)])
theorem c9V:EvR f2k (lp Tryz.f167 0) d3q b3d:=fun _ _=>by kernel_rfl
theorem e3D:a0f Tryz.prog f8r:=a0Q (a0L (s1 a4a)) (a1F Tryz.func167 rfl rfl rfl (by kernel_rfl) (a0j (by kernel_rfl) (s1 (lR c9V c3m)))) fun _=>by kernel_rfl
abbrev f8s:Ty:=.cons (.slice (S68)) (.nil)
abbrev f2l:Ty:=.cons (.bool) (.nil)
abbrev b7v:Type:=(b4I×Int×b2X)×(b2W×Nat×Nat×a6K)×Unit
abbrev d3r:Type:=(b4I×ty7)×Unit
abbrev d3s:Type:=a9l
def d3t:LR:=⟨[0,3,4,5],[],2,[0,3],[],⟨[(0,om8),(3,om0),(4,om1),(5,om0)],[(0,.box [.str,.flt .f32,.flt .f32,.int .i64,.int .i64])],1,0⟩,⟨[(0,om8),(3,om0)],[],0,0⟩,⟨a9m,[],0,0⟩⟩
def b3e (f:b7v->Option (d3r⊕d3s)) (v:b7v):Option (d3r⊕d3s):=bif decide (v.1.2.2.2.1<v.1.2.1) then bif decide (0<=v.1.2.2.2.1)&&decide (v.1.2.2.2.1<(length v.1.1:Int)) then bif a1a (getD v.1.1 (toNat v.1.2.2.2.1) (zero S68)).1 v.2.1.1 then some (Sum.inr ((false,()),()))else f (((v.1.1,v.1.2.1,(),wrap .i64 (v.1.2.2.2.1+1),()),v.2))else none else some (Sum.inl ((v.1.1,v.1.2.1,()),()))
def c3r (v:b7v):Nat:=v.1.1.length+v.1.2.1.natAbs+v.1.2.2.2.1.natAbs+v.2.1.1.size+v.2.1.2.2.2.1.natAbs+v.2.1.2.2.2.2.1.natAbs+1000
def a8B (v:b7v):=a0K b3e (c3r v) v
def c3s (v):=(a8B v).isSome
def c3t (v):=isR (a8B v)
def c3u (v):=xOf default (a8B v)
def c3v (v):=yOf default (a8B v)
abbrev b7w:Type:=(b4I×ty7)×Unit
abbrev d3u:Type:=(b4I×Unit)×Unit
abbrev d3v:Type:=a9l
def d3w:LR:=⟨[0,3],[],0,[0],[],⟨[(0,om8),(3,om0)],[],0,0⟩,⟨[(0,om8)],[],0,0⟩,⟨a9m,[],0,0⟩⟩
def b3f (f:b7w->Option (d3u⊕d3v)) (v:b7w):Option (d3u⊕d3v):=bif decide (v.1.2.1<(length v.1.1:Int)) then bif decide (0<=v.1.2.1)&&decide (v.1.2.1<(length v.1.1:Int)) then let a:=getD v.1.1 (toNat v.1.2.1) (zero S68);bif f2h (a.1,()) then bif !(f2j (a.1,())).1 then some (Sum.inr ((false,()),()))else bif fgt .f32 a.2.1 0||feq .f32 a.2.1 0 then bif fgt .f32 a.2.2.1 a.2.1 then bif !(flt .f32 a.2.2.1 1128792064||feq .f32 a.2.2.1 1128792064) then some (Sum.inr ((false,()),()))else bif K51 (a.2.2.2.1,0,180,()) then bif !(G51 (a.2.2.2.1,0,180,())).1 then some (Sum.inr ((false,()),()))else bif K51 (a.2.2.2.2.1,a.2.2.2.1,180,()) then bif !(G51 (a.2.2.2.2.1,a.2.2.2.1,180,())).1 then some (Sum.inr ((false,()),()))else bif c3s ((v.1.1,v.1.2.1,(),0,()),a,()) then bif c3t ((v.1.1,v.1.2.1,(),0,()),a,()) then some (Sum.inr (c3v ((v.1.1,v.1.2.1,(),0,()),a,())))else let b:=c3u ((v.1.1,v.1.2.1,(),0,()),a,());f (((b.1.1,wrap .i64 (b.1.2.1+1),()),()))else none else none else none else some (Sum.inr ((false,()),()))else some (Sum.inr ((false,()),()))else none else none else some (Sum.inl ((v.1.1,()),()))
def c3w (v:b7w):Nat:=v.1.1.length+v.1.2.1.natAbs+1000
def a9V (v:b7w):=a0K b3f (c3w v) v
def c3x (v):=(a9V v).isSome
def c3y (v):=isR (a9V v)
def c3z (v):=xOf default (a9V v)
def c3A (v):=yOf default (a9V v)
def e9e (x:Den f8s):OD f2l:=bif c3x ((x.1,0,()),()) then bif c3y ((x.1,0,()),()) then some (c3A ((x.1,0,()),())).1 else some (decide ((↑(length (c3z ((x.1,0,()),())).1.1):Int)<=12),())else none
def d3x (x):=(e9e x).isSome
def d3y (x):=(e9e x).getD (zero f2l)
def f8t:=(101,a0c f8s f2l d3x d3y)
noncomputable def e3E:=gE [f8r,m51] Tryz.f101 (lps:=[(2,lmR d3w a9V),(8,lmR d3t a8B)])
theorem c9W:EvR e3E (lp Tryz.f101 0) d3w b3f:=fun _ _=>by kernel_rfl
theorem c9X:EvR e3E (lp Tryz.f101 1) d3t b3e:=fun _ _=>by kernel_rfl
theorem c3B:a0f Tryz.prog f8t:=a0Q (a0L (s2 e3D a4a)) (a1F Tryz.func101 rfl rfl rfl (by kernel_rfl) (a0j (by kernel_rfl) (s2 (lR c9W c3w) (lR c9X c3r)))) fun _=>by kernel_rfl
abbrev f2m:Ty:=.cons (S35) (.nil)
abbrev f2n:Ty:=.cons (.bool) (.nil)
def e9f (x:Den f2m):OD f2n:=bif K98 (x.1.1,()) then bif (G98 (x.1.1,())).1 then bif K98 x.1.2 then bif (G98 x.1.2).1 then some (!(x.1.1.1==x.1.2.1.1&&x.1.1.2.1==x.1.2.1.2.1),())else some (false,())else none else some (false,())else none
def e9g (x):=(e9f x).isSome
def e9h (x):=(e9f x).getD (zero f2n)
def f8u:=(168,a0c f2m f2n e9g e9h)
theorem e3F:a0f Tryz.prog f8u:=fnE (s1 c9N) Tryz.func168
abbrev f8v:Ty:=.cons (S38) (.cons (.int .i64) (.nil))
abbrev f2o:Ty:=.cons (S33) (.nil)
def e1W (x:Den f8v):OD f2o:=bif x.2.1==0 then some (x.1.1.1,())else let a:=wrap .i64 (x.2.1-1);bif decide (0<=a)&&decide (a<(length x.1.2.1:Int)) then some ((getD x.1.2.1 (toNat a) (zero a2I)).1,())else none
def e1X (x):=(e1W x).isSome
def e3G (x):=(e1W x).getD (zero f2o)
def f2p:=(169,a0c f8v f2o e1X e3G)
theorem d3z:a0f Tryz.prog f2p:=fnE nS Tryz.func169
abbrev f8w:Ty:=.cons (S38) (.nil)
abbrev f2q:Ty:=.cons (.bool) (.nil)
abbrev b7x:Type:=b2X×d8r×Unit
abbrev d3A:Type:=a5r
abbrev d3B:Type:=a9l
def d3C:LR:=⟨[1,3],[],0,[],[],⟨li9,[(0,bx9)],1,0⟩,⟨[],[],0,0⟩,⟨a9m,[],0,0⟩⟩
def b3g (f:b7x->Option (d3A⊕d3B)) (v:b7x):Option (d3A⊕d3B):=let b:=v.1.2.1<(length v.2.1.2.2.2.2.1:Int);bif decide b then let c:=decide (0<=v.1.2.1)&&decide b;bif c then let a:=getD v.2.1.2.2.2.2.1 (toNat v.1.2.1) (zero a2I);bif K98 (a.1,()) then bif !(G98 (a.1,())).1 then some (Sum.inr ((false,()),()))else bif c then let d:=((((v.2.1.1,v.2.1.2.1,()),(v.2.1.2.2.1,v.2.1.2.2.2.1,()),()),v.2.1.2.2.2.2.1,((v.2.1.2.2.2.2.2.1,v.2.1.2.2.2.2.2.2.1,()),v.2.1.2.2.2.2.2.2.2,()),()),v.1.2);bif e1X d then let e:=e3G d;bif a.1.1==e.1.1&&a.1.2.1==e.1.2.1 then some (Sum.inr ((false,()),()))else f ((((),wrap .i64 (v.1.2.1+1),()),v.2))else none else none else none else none else some (Sum.inl ((),()))
def c3C (v:b7x):Nat:=v.1.2.1.natAbs+v.2.1.1.natAbs+v.2.1.2.1.natAbs+v.2.1.2.2.1.natAbs+v.2.1.2.2.2.1.natAbs+v.2.1.2.2.2.2.1.length+v.2.1.2.2.2.2.2.1.natAbs+v.2.1.2.2.2.2.2.2.1.natAbs+v.2.1.2.2.2.2.2.2.2.1.natAbs+v.2.1.2.2.2.2.2.2.2.2.1.natAbs+1000
def a8C (v:b7x):=a0K b3g (c3C v) v
def c3D (v):=(a8C v).isSome
def c3E (v):=isR (a8C v)
def f2r (v):=xOf default (a8C v)
def c3F (v):=yOf default (a8C v)
def e9i (x:Den f8w):OD f2q:=bif e9g (x.1.1,()) then bif !(e9h (x.1.1,())).1 then some (false,())else bif e9g x.1.2.2 then bif !(e9h x.1.2.2).1 then some (false,())else let b:=((length x.1.2.1:Int),1,20,());bif K51 b then bif !(G51 b).1 then some (false,())else let a:=(((),0,()),(x.1.1.1.1,x.1.1.1.2.1,x.1.1.2.1.1,x.1.1.2.1.2.1,x.1.2.1,x.1.2.2.1.1.1,x.1.2.2.1.1.2.1,x.1.2.2.1.2.1),());bif c3D a then bif c3E a then some (c3F a).1 else some (true,())else none else none else none else none
def f2s (x):=(e9i x).isSome
def f2t (x):=(e9i x).getD (zero f2q)
def g1s:=(102,a0c f8w f2q f2s f2t)
noncomputable def f2u:=gE [f8u,m51,m98,f2p] Tryz.f102 (lps:=[(4,lmR d3C a8C)])
theorem c9Y:EvR f2u (lp Tryz.f102 0) d3C b3g:=fun _ _=>by kernel_rfl
theorem e3H:a0f Tryz.prog g1s:=a0Q (a0L (s4 e3F a4a c9N d3z)) (a1F Tryz.func102 rfl rfl rfl (by kernel_rfl) (a0j (by kernel_rfl) (s1 (lR c9Y c3C)))) fun _=>by kernel_rfl
abbrev A50:Ty:=.cons (S40) (.nil)
abbrev R50:Ty:=.cons (.bool) (.nil)
def F50 (x:Den A50):OD R50:=bif K99 (x.1.1,()) then bif (G99 (x.1.1,())).1 then bif d8z (x.1.2.1,()) then bif (d8A (x.1.2.1,())).1 then bif d3x (x.1.2.2.1,()) then bif (d3y (x.1.2.2.1,())).1 then bif decide ((length x.1.2.2.1:Int)>0) then bif f2s x.1.2.2.2 then some (f2t x.1.2.2.2)else none else some (false,())else some (false,())else none else some (false,())else none else some (false,())else none
def K50 (x):=(F50 x).isSome
def G50 (x):=(F50 x).getD (zero R50)
def m50:=(50,a0c A50 R50 K50 G50)
theorem e3I:a0f Tryz.prog m50:=fnE (s4 e3y c3l c3B e3H) Tryz.func50
abbrev I80:Sg:=⟨[.val (S40)],[]⟩
abbrev O80:Sg:=⟨[.mix [.ref (.flt .f32) 0,.ref (.int .i64) 1,.ref (.slice (.flt .f32)) 2,.ref (a1B) 3,.ref (.int .i64) 4,.ref (S68) 5,.int .i64,.int .i64,.int .i64,.int .i64,.ref (a2I) 6,.int .i64,.int .i64,.int .i64,.int .i64]],[.arr (.flt .f32),.arr (.int .i64),.arr (.slice (.flt .f32)),.arr (a1B),.arr (.int .i64),.arr (S68),.arr (a2I)]⟩
abbrev c3G:Type:=d2S×f8e
abbrev d8B:Type:=a7u×f8e
def e3J:LX:=⟨[1,2,3,4],[.boxNil 3 2],0,[1,2,3],[],⟨[(1,om1),(2,om2),(3,om3),(4,om0)],li1,6,0⟩,⟨[(1,om1),(2,om2),(3,om3)],li1,6,0⟩⟩
def c3H (f:c3G->Option (d8B)) (v:c3G):Option (d8B):=let a:=v.1.2.2.2.1<(length v.2.1.2.2.1:Int);bif decide a then bif decide (0<=v.1.2.2.2.1)&&decide a then let b:=zero (Ty.slice (Ty.flt .f32));let c:=getD v.2.1.2.2.1 (toNat v.1.2.2.2.1) b;let d:=zero (Ty.flt .f32);bif a0n (length (replicate 0 d)+length c) then let e:=set (replicate 1 b) 0 (replicate 0 d++c);bif a0n (length v.2.2.2.2.2.2.1+length e) then f ((((),(),(),wrap .i64 (v.1.2.2.2.1+1),()),v.2.1,v.2.2.1,v.2.2.2.1,v.2.2.2.2.1,v.2.2.2.2.2.1,v.2.2.2.2.2.2.1++e,()))else none else none else none else some (((),(),(),()),v.2)
def c9Z (v:c3G):Nat:=v.1.2.2.2.1.natAbs+v.2.1.1.length+v.2.1.2.1.length+v.2.1.2.2.1.length+v.2.1.2.2.2.1.length+v.2.1.2.2.2.2.1.length+v.2.1.2.2.2.2.2.1.length+v.2.1.2.2.2.2.2.2.1.natAbs+v.2.1.2.2.2.2.2.2.2.1.natAbs+v.2.1.2.2.2.2.2.2.2.2.1.natAbs+v.2.1.2.2.2.2.2.2.2.2.2.1.natAbs+v.2.1.2.2.2.2.2.2.2.2.2.2.1.length+v.2.1.2.2.2.2.2.2.2.2.2.2.2.1.natAbs+v.2.1.2.2.2.2.2.2.2.2.2.2.2.2.1.natAbs+v.2.1.2.2.2.2.2.2.2.2.2.2.2.2.2.1.natAbs+v.2.1.2.2.2.2.2.2.2.2.2.2.2.2.2.2.1.natAbs+v.2.2.1.2.2.2.2.2.2.1.natAbs+v.2.2.1.2.2.2.2.2.2.2.1.natAbs+v.2.2.1.2.2.2.2.2.2.2.2.1.natAbs+v.2.2.1.2.2.2.2.2.2.2.2.2.1.natAbs+v.2.2.1.2.2.2.2.2.2.2.2.2.2.2.1.natAbs+v.2.2.1.2.2.2.2.2.2.2.2.2.2.2.2.1.natAbs+v.2.2.1.2.2.2.2.2.2.2.2.2.2.2.2.2.1.natAbs+v.2.2.1.2.2.2.2.2.2.2.2.2.2.2.2.2.2.1.natAbs+v.2.2.2.1.2.2.2.2.2.2.1.natAbs+v.2.2.2.1.2.2.2.2.2.2.2.1.natAbs+v.2.2.2.1.2.2.2.2.2.2.2.2.1.natAbs+v.2.2.2.1.2.2.2.2.2.2.2.2.2.1.natAbs+v.2.2.2.1.2.2.2.2.2.2.2.2.2.2.2.1.natAbs+v.2.2.2.1.2.2.2.2.2.2.2.2.2.2.2.2.1.natAbs+v.2.2.2.1.2.2.2.2.2.2.2.2.2.2.2.2.2.1.natAbs+v.2.2.2.1.2.2.2.2.2.2.2.2.2.2.2.2.2.2.1.natAbs+v.2.2.2.2.1.length+v.2.2.2.2.2.1.length+v.2.2.2.2.2.2.1.length+1000
def c3I (v:c3G):=a0K c3H (c9Z v) v
def b7y (v):=(c3I v).isSome
def b7z (v):=(c3I v).getD (((),((),((),()))),(([],([],([],([],([],([],(0,(0,(0,(0,([],(0,(0,(0,(0,()))))))))))))))),(((),((),((),((),((),((),(0,(0,(0,(0,((),(0,(0,(0,(0,()))))))))))))))),(((),((),((),((),((),((),(0,(0,(0,(0,((),(0,(0,(0,(0,()))))))))))))))),([],([],([],())))))))
def F80 (x:I80.den):Option (O80.den):=let c:=zero (Ty.flt .f32);bif a0n (length (replicate 0 c)+length x.1.1.1.1) then let b:=zero (Ty.int IntKind.i64);bif a0n (length (replicate 0 b)+length x.1.1.1.2.1) then let e:=replicate 0 c++x.1.1.1.1;let g:=replicate 0 b++x.1.1.1.2.1;let d:=(((),(),(),0,()),(x.1.1.1.1,x.1.1.1.2.1,x.1.1.1.2.2.1,x.1.1.2.1.1,x.1.1.2.1.2.1,x.1.1.2.2.1,x.1.1.2.2.2.1.1.1.1,x.1.1.2.2.2.1.1.1.2.1,x.1.1.2.2.2.1.1.2.1.1,x.1.1.2.2.2.1.1.2.1.2.1,x.1.1.2.2.2.1.2.1,x.1.1.2.2.2.1.2.2.1.1.1,x.1.1.2.2.2.1.2.2.1.1.2.1,x.1.1.2.2.2.1.2.2.1.2.1),((),(),(),(),(),(),0,0,0,0,(),0,0,0,0,()),((),(),(),(),(),(),x.1.1.2.2.2.1.1.1.1,x.1.1.2.2.2.1.1.1.2.1,x.1.1.2.2.2.1.1.2.1.1,x.1.1.2.2.2.1.1.2.1.2.1,(),x.1.1.2.2.2.1.2.2.1.1.1,x.1.1.2.2.2.1.2.2.1.1.2.1,x.1.1.2.2.2.1.2.2.1.2.1),e,g,[],());bif b7y d then let a:=b7z d;bif a0n (length (replicate 0 (zero a1B))+length a.2.1.2.2.2.1) then bif a0n (length (replicate 0 b)+length a.2.1.2.2.2.2.1) then bif a0n (length (replicate 0 (zero S68))+length a.2.1.2.2.2.2.2.1) then bif a0n (length (replicate 0 (zero a2I))+length a.2.1.2.2.2.2.2.2.2.2.2.2.1) then some ((a.2.2.2.1,()),a.2.2.2.2.1,a.2.2.2.2.2.1,a.2.2.2.2.2.2.1,replicate 0 (zero a1B)++a.2.1.2.2.2.1,replicate 0 b++a.2.1.2.2.2.2.1,replicate 0 (zero S68)++a.2.1.2.2.2.2.2.1,replicate 0 (zero a2I)++a.2.1.2.2.2.2.2.2.2.2.2.2.1,())else none else none else none else none else none else none else none
def K80 (x):=(F80 x).isSome
def G80 (x):=(F80 x).getD (a0Y O80)
def m80:=(80,a0H false I80 O80 K80 G80)
noncomputable def g1t:=gE [] Tryz.f80 (lps:=[(5,lmX e3J c3I)])
theorem d8C:EvX g1t (lp Tryz.f80 0) e3J c3H:=fun _ _=>by kernel_rfl
theorem e3K:a0f Tryz.prog m80:=a2Y (a0L nS) (a1F Tryz.func80 rfl rfl rfl (by kernel_rfl) (a0j (by kernel_rfl) (s1 (lX d8C c9Z)))) false fun _=>by kernel_rfl
abbrev I32:Sg:=⟨[.val (S40),.val (.cpx .f64),.val (.int .i64)],[]⟩
abbrev O32:Sg:=⟨[.mix [.ref (.flt .f32) 0,.ref (.int .i64) 1,.ref (.slice (.flt .f32)) 2,.ref (a1B) 3,.ref (.int .i64) 4,.ref (S68) 5,.int .i64,.int .i64,.int .i64,.int .i64,.ref (a2I) 6,.int .i64,.int .i64,.int .i64,.int .i64,.int .i64,.cpx .f64,.int .i64,.cpx .f32,.int .i64,.sl (S97),.sl (.str)],.val (.bool)],[.arr (.flt .f32),.arr (.int .i64),.arr (.slice (.flt .f32)),.arr (a1B),.arr (.int .i64),.arr (S68),.arr (a2I)]⟩
def F32 (x:I32.den):Option (O32.den):=bif K49 (x.1.2.1,()) then bif K50 (x.1.1,()) then bif !(G50 (x.1.1,())).1 then some ((((),(),(),(),(),(),0,0,0,0,(),0,0,0,0,0,(0,0),0,(0,0),0,[],[],()),false,()),[],[],[],[],[],[],[],())else bif !(G49 (x.1.2.1,())).2.1 then some ((((),(),(),(),(),(),0,0,0,0,(),0,0,0,0,0,(0,0),0,(0,0),0,[],[],()),false,()),[],[],[],[],[],[],[],())else bif K51 (x.1.2.2.1,0,10000000,()) then bif !(G51 (x.1.2.2.1,0,10000000,())).1 then some ((((),(),(),(),(),(),0,0,0,0,(),0,0,0,0,0,(0,0),0,(0,0),0,[],[],()),false,()),[],[],[],[],[],[],[],())else bif K80 ((x.1.1,()),()) then let a:=G80 ((x.1.1,()),());some ((((),(),(),(),(),(),a.1.1.2.2.2.2.2.2.1,a.1.1.2.2.2.2.2.2.2.1,a.1.1.2.2.2.2.2.2.2.2.1,a.1.1.2.2.2.2.2.2.2.2.2.1,(),a.1.1.2.2.2.2.2.2.2.2.2.2.2.1,a.1.1.2.2.2.2.2.2.2.2.2.2.2.2.1,a.1.1.2.2.2.2.2.2.2.2.2.2.2.2.2.1,a.1.1.2.2.2.2.2.2.2.2.2.2.2.2.2.2.1,x.1.2.2.1,x.1.2.1,0,(0,0),-1,[],[],()),true,()),a.2)else none else none else none else none
def K32 (x):=(F32 x).isSome
def G32 (x):=(F32 x).getD (a0Y O32)
def m32:=(32,a0H false I32 O32 K32 G32)
theorem f2v:a0f Tryz.prog m32:=sgE false (s4 c9O e3I a4a e3K) Tryz.func32 (rown:=[.boxNil 6 0,.boxNil 6 1,.boxNil 6 2,.boxNil 6 3,.boxNil 6 4,.boxNil 6 5,.boxNil 6 10])
abbrev f8x:Ty:=.cons (.int .i64) (.nil)
abbrev f2w:Ty:=.cons (.int .u8) (.nil)
def e9j (x:Den f8x):OD f2w:=bif decide (x.1<10) then some (wrap .u8 (wrap .i64 (48+x.1)),())else some (wrap .u8 (wrap .i64 ((wrap .i64 (97+x.1))-10)),())
def e3L (x):=(e9j x).isSome
def e3M (x):=(e9j x).getD (zero f2w)
def f8y:=(190,a0c f8x f2w e3L e3M)
theorem e3N:a0f Tryz.prog f8y:=fnE nS Tryz.func190
abbrev f8z:Ty:=.cons (.int .i64) (.nil)
abbrev f2x:Ty:=.cons (.str) (.nil)
abbrev b7A:Type:=(Int×Bool×d2U)×Unit
abbrev d3D:Type:=(Bool×d2U)×Unit
def d3E:LX:=⟨[0,3,4],[],0,[3,4],[],⟨[(0,om0),(3,om4),(4,om5)],[],0,0⟩,⟨[(3,om4),(4,om5)],[],0,0⟩⟩
def b7B (f:b7A->Option (d3D)) (v:b7A):Option (d3D):=bif v.1.1 != 0 then bif decide (Int.tmod v.1.1 10<0) then let a:=wrap .i64 (0-Int.tmod v.1.1 10);bif e3L (a,()) then let b:=a6X (set (replicate 1 (zero (Ty.int IntKind.u8))) 0 (e3M (a,())).1);bif decide (ByteArray.size b+ByteArray.size v.1.2.2.1<=9223372036854775807) then f (((wrap .i64 (Int.tdiv v.1.1 10),v.1.2.1,b++v.1.2.2.1,()),()))else none else none else bif e3L (Int.tmod v.1.1 10,()) then let c:=a6X (set (replicate 1 (zero (Ty.int IntKind.u8))) 0 (e3M (Int.tmod v.1.1 10,())).1);bif decide (ByteArray.size c+ByteArray.size v.1.2.2.1<=9223372036854775807) then f (((wrap .i64 (Int.tdiv v.1.1 10),v.1.2.1,c++v.1.2.2.1,()),()))else none else none else some (v.1.2,())
def c3J (v:b7A):Nat:=v.1.1.natAbs+v.1.2.2.1.size+1000
def b3h (v:b7A):=a0K b7B (c3J v) v
def c3K (v):=(b3h v).isSome
def c3L (v):=(b3h v).getD default
def e9k (x:Den f8z):OD f2x:=bif x.1==0 then some ({ data:=#[48] },())else let b:=((x.1,decide (x.1<0),{ data:=#[] },()),());bif c3K b then let a:=c3L b;bif a.1.1 then bif decide (ByteArray.size { data:=#[45] }+ByteArray.size a.1.2.1<=9223372036854775807) then some ({ data:=#[45] }++a.1.2.1,())else none else some a.1.2 else none
def b3i (x):=(e9k x).isSome
def a6L (x):=(e9k x).getD (zero f2x)
def f8A:=(130,a0c f8z f2x b3i a6L)
noncomputable def f2y:=gE [f8y] Tryz.f130 (lps:=[(5,lmX d3E b3h)])
theorem d0a:EvX f2y (lp Tryz.f130 0) d3E b7B:=fun _ _=>by kernel_rfl
theorem c3M:a0f Tryz.prog f8A:=a0Q (a0L (s1 e3N)) (a1F Tryz.func130 rfl rfl rfl (by kernel_rfl) (a0j (by kernel_rfl) (s1 (lX d0a c3J)))) fun _=>by kernel_rfl
abbrev A83:Ty:=.cons (.int .i64) (.nil)
abbrev R83:Ty:=.cons (.str) (.nil)
def F83 (x:Den A83):OD R83:=bif K51 (x.1,-1000000000,1000000000,()) then bif !(G51 (x.1,-1000000000,1000000000,())).1 then some ({ data:=#[] },())else bif decide (x.1<0) then let c:=wrap .i64 (0-x.1);let g:=wrap .i64 (1000+Int.tmod c 1000);bif b3i (g,()) then let h:=wrap .i64 (Int.tdiv c 1000);bif b3i (h,()) then let d:=a6L (h,());bif decide (ByteArray.size { data:=#[45] }+ByteArray.size d.1<=9223372036854775807) then let a:={ data:=#[45] }++d.1;bif decide (ByteArray.size a+ByteArray.size { data:=#[46] }<=9223372036854775807) then let b:=a6L (g,());bif decide (0<=1)&&decide (1<=(ByteArray.size b.1:Int))&&decide ((ByteArray.size b.1:Int)<=(ByteArray.size b.1:Int)) then let e:=a++{ data:=#[46] };bif decide (ByteArray.size e+ByteArray.size (ByteArray.extract b.1 (toNat 1) (toNat (ByteArray.size b.1:Int)))<=9223372036854775807) then some (e++ByteArray.extract b.1 (toNat 1) (toNat (ByteArray.size b.1:Int)),())else none else none else none else none else none else none else let c:=wrap .i64 (1000+Int.tmod x.1 1000);bif b3i (c,()) then let i:=wrap .i64 (Int.tdiv x.1 1000);bif b3i (i,()) then let j:=a6L (i,());bif decide (ByteArray.size { data:=#[] }+ByteArray.size j.1<=9223372036854775807) then let d:={ data:=#[] }++j.1;bif decide (ByteArray.size d+ByteArray.size { data:=#[46] }<=9223372036854775807) then let a:=a6L (c,());bif decide (0<=1)&&decide (1<=(ByteArray.size a.1:Int))&&decide ((ByteArray.size a.1:Int)<=(ByteArray.size a.1:Int)) then let b:=d++{ data:=#[46] };bif decide (ByteArray.size b+ByteArray.size (ByteArray.extract a.1 (toNat 1) (toNat (ByteArray.size a.1:Int)))<=9223372036854775807) then some (b++ByteArray.extract a.1 (toNat 1) (toNat (ByteArray.size a.1:Int)),())else none else none else none else none else none else none else none
def K83 (x):=(F83 x).isSome
def G83 (x):=(F83 x).getD (zero R83)
def m83:=(83,a0c A83 R83 K83 G83)
theorem d8D:a0f Tryz.prog m83:=fnE (s2 a4a c3M) Tryz.func83
abbrev A53:Ty:=.cons (.slice (S97)) (.nil)
abbrev R53:Ty:=.cons (.bool) (.nil)
abbrev d0b:Type:=(c1w×ty7)×Unit
abbrev e3O:Type:=(c1w×Unit)×Unit
abbrev e3P:Type:=a9l
def e3Q:LR:=⟨[0,3],[],0,[0],[],⟨[(0,e1Q),(3,om0)],[],0,0⟩,⟨[(0,e1Q)],[],0,0⟩,⟨a9m,[],0,0⟩⟩
def c3N (f:d0b->Option (e3O⊕e3P)) (v:d0b):Option (e3O⊕e3P):=let b:=(length v.1.1:Int);bif decide (v.1.2.1<b) then let c:=decide (0<=v.1.2.1)&&decide (v.1.2.1<b);bif c then let a:=getD v.1.1 (toNat v.1.2.1) (zero S97);bif K98 (a.1,()) then bif !(G98 (a.1,())).1 then some (Sum.inr ((false,()),()))else bif c then bif K51 (a.2.1,0,10000000,()) then bif !(G51 (a.2.1,0,10000000,())).1 then some (Sum.inr ((false,()),()))else bif decide (v.1.2.1>0) then bif c then let d:=wrap .i64 (v.1.2.1-1);bif decide (0<=d)&&decide (d<b) then bif decide (a.2.1<=(getD v.1.1 (toNat d) (zero S97)).2.1) then some (Sum.inr ((false,()),()))else f (((v.1.1,wrap .i64 (v.1.2.1+1),()),()))else none else none else f (((v.1.1,wrap .i64 (v.1.2.1+1),()),()))else none else none else none else none else some (Sum.inl ((v.1.1,()),()))
def d8E (v:d0b):Nat:=v.1.1.length+v.1.2.1.natAbs+1000
def c0A (v:d0b):=a0K c3N (d8E v) v
def d3F (v):=(c0A v).isSome
def d3G (v):=isR (c0A v)
def d3H (v):=xOf default (c0A v)
def d3I (v):=yOf default (c0A v)
def F53 (x:Den A53):OD R53:=bif d3F ((x.1,0,()),()) then bif d3G ((x.1,0,()),()) then some (d3I ((x.1,0,()),())).1 else some (decide ((↑(length (d3H ((x.1,0,()),())).1.1):Int)<=200),())else none
def K53 (x):=(F53 x).isSome
def G53 (x):=(F53 x).getD (zero R53)
def m53:=(53,a0c A53 R53 K53 G53)
noncomputable def g1u:=gE [m98,m51] Tryz.f53 (lps:=[(2,lmR e3Q c0A)])
theorem d8F:EvR g1u (lp Tryz.f53 0) e3Q c3N:=fun _ _=>by kernel_rfl
theorem f2z:a0f Tryz.prog m53:=a0Q (a0L (s2 c9N a4a)) (a1F Tryz.func53 rfl rfl rfl (by kernel_rfl) (a0j (by kernel_rfl) (s1 (lR d8F d8E)))) fun _=>by kernel_rfl
abbrev f8B:Ty:=.cons (.cpx .f32) (.nil)
abbrev f2A:Ty:=.cons (.cpx .f64) (.nil)
def e9l (x:Den f8B):OD f2A:=some (((a0y .f32 .f64 x.1.1).2,(a0y .f32 .f64 x.1.2).2),())
def e3R (x):=(e9l x).isSome
def e3S (x):=(e9l x).getD (zero f2A)
def g1v:=(219,a0c f8B f2A e3R e3S)
theorem d3J:a0f Tryz.prog g1v:=fnE nS Tryz.func219
abbrev f8C:Ty:=.cons (.cpx .f64) (.cons (.cpx .f64) (.nil))
abbrev f2B:Ty:=.cons (.flt .f64) (.nil)
def e1Y (x:Den f8C):OD f2B:=some (a0b .add .f64 (a0b .mul .f64 x.1.1 x.2.1.1) (a0b .mul .f64 x.1.2 x.2.1.2),())
def d0c (x):=(e1Y x).isSome
def c8G (x):=(e1Y x).getD (zero f2B)
def f2C:=(256,a0c f8C f2B d0c c8G)
theorem c3O:a0f Tryz.prog f2C:=fnE nS Tryz.func256
abbrev f8D:Ty:=.nil
abbrev f2D:Ty:=.cons (.cpx .f64) (.nil)
def e9m (x:Den f8D):OD f2D:=some ((4607181046959943561,4580687535080594718),())
def e3T (x):=(e9m x).isSome
def e3U (x):=(e9m x).getD (zero f2D)
def f2E:=(217,a0c f8D f2D e3T e3U)
theorem d3K:a0f Tryz.prog f2E:=fnE nS Tryz.func217
abbrev f8E:Ty:=.cons (.cpx .f64) (.cons (.cpx .f64) (.nil))
abbrev f2F:Ty:=.cons (.cpx .f64) (.nil)
def e3V (x:Den f8E):OD f2F:=some ((a0b .sub .f64 (a0b .mul .f64 x.1.1 x.2.1.1) (a0b .mul .f64 x.1.2 x.2.1.2),a0b .add .f64 (a0b .mul .f64 x.1.1 x.2.1.2) (a0b .mul .f64 x.1.2 x.2.1.1)),())
def e3W (x):=(e3V x).isSome
def e3X (x):=(e3V x).getD (zero f2F)
def f2G:=(216,a0c f8E f2F e3W e3X)
theorem d3L:a0f Tryz.prog f2G:=fnE nS Tryz.func216
abbrev f8F:Ty:=.cons (.cpx .f64) (.nil)
abbrev f2H:Ty:=.cons (.int .i64) (.nil)
abbrev b7C:Type:=(a4r×Int×a4r×Nat×ty7)×Unit
abbrev d3M:Type:=c9J
def d3N:LX:=⟨[0,3,4,5,6],[],0,[3],[],⟨[(0,om6),(3,om0),(4,om6),(5,om9),(6,om0)],[],0,0⟩,⟨[(3,om0)],[],0,0⟩⟩
def b3j (f:b7C->Option (d3M)) (v:b7C):Option (d3M):=bif decide (v.1.2.2.2.2.1<360) then bif e3T () then let b:=e3U ();bif e3W (v.1.2.2.1,b) then let a:=e3X (v.1.2.2.1,b);bif d0c (v.1.1,a) then let c:=c8G (v.1.1,a);bif fgt .f64 c.1 v.1.2.2.2.1 then f (((v.1.1,v.1.2.2.2.2.1,a.1,c.1,wrap .i64 (v.1.2.2.2.2.1+1),()),()))else f (((v.1.1,v.1.2.1,a.1,v.1.2.2.2.1,wrap .i64 (v.1.2.2.2.2.1+1),()),()))else none else none else none else some ((v.1.2.1,()),())
def b7D (v:b7C):Nat:=v.1.2.1.natAbs+v.1.2.2.2.2.1.natAbs+1000
def b7E (v:b7C):=a0K b3j (b7D v) v
def c3P (v):=(b7E v).isSome
def c3Q (v):=(b7E v).getD default
def e3Y (x:Den f8F):OD f2H:=bif K96 x then bif !(G96 x).1 then some (-1,())else bif feq .f64 x.1.1 0&&feq .f64 x.1.2 0 then some (-1,())else bif d0c (x.1,(4607182418800017408,0),()) then let a:=c8G (x.1,(4607182418800017408,0),());bif c3P ((x.1,0,(4607182418800017408,0),a.1,1,()),()) then some (c3Q ((x.1,0,(4607182418800017408,0),a.1,1,()),())).1 else none else none else none
def f2I (x):=(e3Y x).isSome
def f2J (x):=(e3Y x).getD (zero f2H)
def g1w:=(218,a0c f8F f2H f2I f2J)
noncomputable def f2K:=gE [m96,f2C,f2E,f2G] Tryz.f218 (lps:=[(7,lmX d3N b7E)])
theorem d0d:EvX f2K (lp Tryz.f218 0) d3N b3j:=fun _ _=>by kernel_rfl
theorem e3Z:a0f Tryz.prog g1w:=a0Q (a0L (s4 b5r c3O d3K d3L)) (a1F Tryz.func218 rfl rfl rfl (by kernel_rfl) (a0j (by kernel_rfl) (s1 (lX d0d b7D)))) fun _=>by kernel_rfl
abbrev f8G:Ty:=.cons (.cpx .f32) (.nil)
abbrev f2L:Ty:=.cons (.int .i64) (.nil)
def e4a (x:Den f8G):OD f2L:=bif K52 x then bif !(G52 x).1 then some (-1,())else bif feq .f32 x.1.1 0&&feq .f32 x.1.2 0 then some (-1,())else let a:=a3g .f32 x.1.1;let b:=a3g .f32 x.1.2;bif e3R ((a,b),()) then let c:=e3S ((a,b),());bif f2I c then some (f2J c)else none else none else none
def e1Z (x):=(e4a x).isSome
def d0e (x):=(e4a x).getD (zero f2L)
def g1x:=(171,a0c f8G f2L e1Z d0e)
theorem d3O:a0f Tryz.prog g1x:=fnE (s3 b1l d3J e3Z) Tryz.func171
abbrev f8H:Ty:=.cons (.flt .f64) (.nil)
abbrev f2M:Ty:=.cons (.flt .f64) (.nil)
abbrev b7F:Type:=(Nat×Nat×ty7)×Unit
abbrev d3P:Type:=(Nat×Unit)×Unit
def d3Q:LX:=⟨[0,3,4],[],0,[3],[],⟨[(0,om9),(3,om9),(4,om0)],[],0,0⟩,⟨[(3,om9)],[],0,0⟩⟩
def b3k (f:b7F->Option (d3P)) (v:b7F):Option (d3P):=bif decide (v.1.2.2.1<60) then f (((v.1.1,a0b .quo .f64 (a0b .add .f64 v.1.2.1 (a0b .quo .f64 v.1.1 v.1.2.1)) 4611686018427387904,wrap .i64 (v.1.2.2.1+1),()),()))else some ((v.1.2.1,()),())
def b7G (v:b7F):Nat:=v.1.2.2.1.natAbs+1000
def b7H (v:b7F):=a0K b3k (b7G v) v
def b5s (v):=(b7H v).isSome
def b5t (v):=(b7H v).getD default
def e4b (x:Den f8H):OD f2M:=bif fgt .f64 x.1 4427486594234968593||feq .f64 x.1 4427486594234968593 then bif !(flt .f64 x.1 4861130398305394688||feq .f64 x.1 4861130398305394688) then some (0,())else bif flt .f64 x.1 4607182418800017408 then let a:=((x.1,4607182418800017408,0,()),());bif b5s a then some (b5t a).1 else none else bif b5s ((x.1,x.1,0,()),()) then some (b5t ((x.1,x.1,0,()),())).1 else none else some (0,())
def f2N (x):=(e4b x).isSome
def f2O (x):=(e4b x).getD (zero f2M)
def g1y:=(257,a0c f8H f2M f2N f2O)
noncomputable def f2P:=gE [] Tryz.f257 (lps:=[(7,lmX d3Q b7H)])
theorem d0f:EvX f2P (lp Tryz.f257 0) d3Q b3k:=fun _ _=>by kernel_rfl
theorem e4c:a0f Tryz.prog g1y:=a0Q (a0L nS) (a1F Tryz.func257 rfl rfl rfl (by kernel_rfl) (a0j (by kernel_rfl) (s1 (lX d0f b7G)))) fun _=>by kernel_rfl
abbrev f8I:Ty:=.cons (.cpx .f64) (.nil)
abbrev f2Q:Ty:=.cons (.flt .f64) (.nil)
def e4d (x:Den f8I):OD f2Q:=bif K96 x then bif !(G96 x).1 then some (0,())else bif d0c (x.1,x) then let a:=c8G (x.1,x);bif f2N a then some (f2O a)else none else none else none
def f2R (x):=(e4d x).isSome
def f2S (x):=(e4d x).getD (zero f2Q)
def g1z:=(222,a0c f8I f2Q f2R f2S)
theorem e4e:a0f Tryz.prog g1z:=fnE (s3 b5r c3O e4c) Tryz.func222
abbrev f8J:Ty:=.cons (.cpx .f32) (.nil)
abbrev f2T:Ty:=.cons (.flt .f32) (.nil)
def e4f (x:Den f8J):OD f2T:=bif K52 x then bif !(G52 x).1 then some (0,())else bif e3R x then let a:=e3S x;bif f2R a then let b:=f2S a;bif (a0y .f64 .f32 b.1).1 then some ((a0y .f64 .f32 b.1).2,())else none else none else none else none
def e2a (x):=(e4f x).isSome
def d8G (x):=(e4f x).getD (zero f2T)
def g1A:=(173,a0c f8J f2T e2a d8G)
theorem d3R:a0f Tryz.prog g1A:=fnE (s3 b1l d3J e4e) Tryz.func173
abbrev f8K:Ty:=.cons (.int .i64) (.nil)
abbrev f2U:Ty:=.cons (.int .i64) (.nil)
def d8H (x:Den f8K):OD f2U:=some (Int.tmod (wrap .i64 (Int.tmod x.1 360+360)) 360,())
def d8I (x):=(d8H x).isSome
def d8J (x):=(d8H x).getD (zero f2U)
def f8L:=(215,a0c f8K f2U d8I d8J)
theorem d3S:a0f Tryz.prog f8L:=fnE nS Tryz.func215
abbrev f8M:Ty:=.cons (.int .i64) (.cons (.int .i64) (.nil))
abbrev f2V:Ty:=.cons (.int .i64) (.nil)
def e4g (x:Den f8M):OD f2V:=bif d8I x.2 then bif d8I (x.1,()) then let b:=wrap .i64 ((d8J x.2).1-(d8J (x.1,())).1);bif d8I (b,()) then let a:=d8J (b,());let c:=wrap .i64 (360-a.1);bif decide (a.1>c) then some (c,())else some a else none else none else none
def e2b (x):=(e4g x).isSome
def d8K (x):=(e4g x).getD (zero f2V)
def g1B:=(174,a0c f8M f2V e2b d8K)
theorem d3T:a0f Tryz.prog g1B:=fnE (s1 d3S) Tryz.func174
abbrev f8N:Ty:=.cons (.flt .f32) (.cons (.flt .f32) (.cons (.flt .f32) (.nil)))
abbrev f2W:Ty:=.cons (.flt .f32) (.nil)
def f2X (x:Den f8N):OD f2W:=some (a0b .add .f32 x.1 (a0b .mul .f32 (a0b .sub .f32 x.2.1 x.1) x.2.2.1),())
def e2c (x):=(f2X x).isSome
def e2d (x):=(f2X x).getD (zero f2W)
def f2Y:=(221,a0c f8N f2W e2c e2d)
theorem c3R:a0f Tryz.prog f2Y:=fnE nS Tryz.func221
abbrev f8O:Ty:=.cons (.slice (.int .i64)) (.cons (.slice (.flt .f32)) (.cons (.int .i64) (.nil)))
abbrev f2Z:Ty:=.cons (.flt .f32) (.nil)
abbrev b7I:Type:=(ty4×b2V×a6K)×Unit
abbrev d3U:Type:=(ty4×b2V×a6K)×Unit
def d3V:LX:=⟨[0,1,2,7],[],0,[0,1,2,7],[],⟨[(0,e3j),(1,e3i),(2,om0),(7,om0)],[],0,0⟩,⟨[(0,e3j),(1,e3i),(2,om0),(7,om0)],[],0,0⟩⟩
def b3l (f:b7I->Option (d3U)) (v:b7I):Option (d3U):=bif decide (0<=v.1.2.2.2.1)&&decide (v.1.2.2.2.1<(length v.1.1:Int)) then bif decide ((getD v.1.1 (toNat v.1.2.2.2.1) (zero (Ty.int IntKind.i64)))<v.1.2.2.1) then f (((v.1.1,v.1.2.1,v.1.2.2.1,wrap .i64 (v.1.2.2.2.1+1),()),()))else some (v)else none
def b7J (v:b7I):Nat:=v.1.1.length+v.1.2.1.length+v.1.2.2.1.natAbs+v.1.2.2.2.1.natAbs+1000
def b7K (v:b7I):=a0K b3l (b7J v) v
def c3S (v):=(b7K v).isSome
def c3T (v):=(b7K v).getD default
def d3W (x:Den f8O):OD f2Z:=bif c3S ((x.1,x.2.1,x.2.2.1,0,()),()) then let a:=c3T ((x.1,x.2.1,x.2.2.1,0,()),());bif decide (0<=a.1.2.2.2.1)&&decide (a.1.2.2.2.1<(length a.1.1:Int)) then let c:=getD a.1.1 (toNat a.1.2.2.2.1) (zero (Ty.int IntKind.i64));bif c==a.1.2.2.1 then bif decide (0<=a.1.2.2.2.1)&&decide (a.1.2.2.2.1<(length a.1.2.1:Int)) then some (getD a.1.2.1 (toNat a.1.2.2.2.1) (zero (Ty.flt .f32)),())else none else let b:=wrap .i64 (a.1.2.2.2.1-1);bif decide (0<=b)&&decide (b<(length a.1.1:Int)) then bif decide (0<=a.1.2.2.2.1)&&decide (a.1.2.2.2.1<(length a.1.1:Int)) then bif decide (0<=b)&&decide (b<(length a.1.1:Int)) then bif decide (0<=b)&&decide (b<(length a.1.2.1:Int)) then bif decide (0<=a.1.2.2.2.1)&&decide (a.1.2.2.2.1<(length a.1.2.1:Int)) then let d:=getD a.1.2.1 (toNat b) (zero (Ty.flt .f32));let e:=getD a.1.2.1 (toNat a.1.2.2.2.1) (zero (Ty.flt .f32));let g:=getD a.1.1 (toNat b) (zero (Ty.int IntKind.i64));let h:=a0b .quo .f32 (nearest .f32 (wrap .i64 (a.1.2.2.1-g))) (nearest .f32 (wrap .i64 (c-g)));bif e2c (d,e,h,()) then some (e2d (d,e,h,()))else none else none else none else none else none else none else none else none
def e2e (x):=(d3W x).isSome
def e2f (x):=(d3W x).getD (zero f2Z)
def f8P:=(220,a0c f8O f2Z e2e e2f)
noncomputable def f3a:=gE [f2Y] Tryz.f220 (lps:=[(2,lmX d3V b7K)])
theorem d0g:EvX f3a (lp Tryz.f220 0) d3V b3l:=fun _ _=>by kernel_rfl
theorem e4h:a0f Tryz.prog f8P:=a0Q (a0L (s1 c3R)) (a1F Tryz.func220 rfl rfl rfl (by kernel_rfl) (a0j (by kernel_rfl) (s1 (lX d0g b7J)))) fun _=>by kernel_rfl
abbrev f8Q:Ty:=.cons (S27) (.cons (.flt .f32) (.cons (.int .i64) (.nil)))
abbrev f3b:Ty:=.cons (.flt .f32) (.cons (.bool) (.nil))
abbrev b1m:Type:=e8V
abbrev c3U:Type:=e8V
def c3V:LX:=⟨[1,2,3,10],[],0,[1,2,3,10],[],⟨[(1,om7),(2,om0),(3,om1),(10,om0)],b4J,1,0⟩,⟨[(1,om7),(2,om0),(3,om1),(10,om0)],b4J,1,0⟩⟩
def a8D (f:b1m->Option (c3U)) (v:b1m):Option (c3U):=let a:=wrap .i64 (v.1.2.2.2.1+1);bif decide (0<=a)&&decide (a<(length v.2.1.1:Int)) then let b:=getD v.2.1.1 (toNat a) (zero (Ty.flt .f32));bif flt .f32 b v.1.1||feq .f32 b v.1.1 then f (((v.1.1,v.1.2.1,(),a,()),v.2))else some (v)else none
def b1n (v:b1m):Nat:=v.1.2.1.natAbs+v.1.2.2.2.1.natAbs+v.2.1.1.length+v.2.1.2.1.length+v.2.1.2.2.1.length+1000
def b1o (v:b1m):=a0K a8D (b1n v) v
def b7L (v):=(b1o v).isSome
def b7M (v):=(b1o v).getD default
def e9n (x:Den f8Q):OD f3b:=bif K99 (x.1,()) then bif !(G99 (x.1,())).1 then some (0,false,())else bif fgt .f32 x.2.1 0||feq .f32 x.2.1 0 then bif !(flt .f32 x.2.1 1120403456||feq .f32 x.2.1 1120403456) then some (0,false,())else bif K51 (x.2.2.1,0,180,()) then bif !(G51 (x.2.2.1,0,180,())).1 then some (0,false,())else bif decide (0<=0)&&decide (0<(length x.1.1:Int)) then let k:=getD x.1.1 (toNat 0) (zero (Ty.flt .f32));bif flt .f32 x.2.1 k||feq .f32 x.2.1 k then bif decide (0<=0)&&decide (0<(length x.1.1:Int)) then bif decide (0<=0)&&decide (0<(length x.1.2.2.1:Int)) then let b:=getD x.1.2.2.1 (toNat 0) (zero (Ty.slice (Ty.flt .f32)));bif e2e (x.1.2.1,b,x.2.2) then some (a0b .mul .f32 (a0b .quo .f32 x.2.1 k) (e2f (x.1.2.1,b,x.2.2)).1,true,())else none else none else none else let b:=wrap .i64 ((length x.1.1:Int)-1);bif decide (0<=b)&&decide (b<(length x.1.1:Int)) then let l:=getD x.1.1 (toNat b) (zero (Ty.flt .f32));bif fgt .f32 x.2.1 l||feq .f32 x.2.1 l then bif decide (0<=b)&&decide (b<(length x.1.2.2.1:Int)) then let m:=getD x.1.2.2.1 (toNat b) (zero (Ty.slice (Ty.flt .f32)));bif e2e (x.1.2.1,m,x.2.2) then some ((e2f (x.1.2.1,m,x.2.2)).1,true,())else none else none else bif b7L ((x.2.1,x.2.2.1,(),0,()),x.1,()) then let a:=b7M ((x.2.1,x.2.2.1,(),0,()),x.1,());bif decide (0<=a.1.2.2.2.1)&&decide (a.1.2.2.2.1<(length a.2.1.1:Int)) then let c:=wrap .i64 (a.1.2.2.2.1+1);bif decide (0<=c)&&decide (c<(length a.2.1.1:Int)) then bif decide (0<=a.1.2.2.2.1)&&decide (a.1.2.2.2.1<(length a.2.1.1:Int)) then bif decide (0<=a.1.2.2.2.1)&&decide (a.1.2.2.2.1<(length a.2.1.2.2.1:Int)) then let d:=getD a.2.1.2.2.1 (toNat a.1.2.2.2.1) (zero (Ty.slice (Ty.flt .f32)));bif e2e (a.2.1.2.1,d,a.1.2.1,()) then bif decide (0<=c)&&decide (c<(length a.2.1.2.2.1:Int)) then let e:=getD a.2.1.2.2.1 (toNat c) (zero (Ty.slice (Ty.flt .f32)));bif e2e (a.2.1.2.1,e,a.1.2.1,()) then let g:=e2f (a.2.1.2.1,d,a.1.2.1,());let h:=e2f (a.2.1.2.1,e,a.1.2.1,());let i:=getD a.2.1.1 (toNat a.1.2.2.2.1) (zero (Ty.flt .f32));let j:=a0b .quo .f32 (a0b .sub .f32 a.1.1 i) (a0b .sub .f32 (getD a.2.1.1 (toNat c) (zero (Ty.flt .f32))) i);bif e2c (g.1,h.1,j,()) then some ((e2d (g.1,h.1,j,())).1,true,())else none else none else none else none else none else none else none else none else none else none else none else none else some (0,false,())else none
def e9o (x):=(e9n x).isSome
def e9p (x):=(e9n x).getD (zero f3b)
def g1C:=(172,a0c f8Q f3b e9o e9p)
noncomputable def f3c:=gE [m99,m51,f8P,f2Y] Tryz.f172 (lps:=[(10,lmX c3V b1o)])
theorem c3W:EvX f3c (lp Tryz.f172 0) c3V a8D:=fun _ _=>by kernel_rfl
theorem e4i:a0f Tryz.prog g1C:=a0Q (a0L (s4 e3y a4a e4h c3R)) (a1F Tryz.func172 rfl rfl rfl (by kernel_rfl) (a0j (by kernel_rfl) (s1 (lX c3W b1n)))) fun _=>by kernel_rfl
abbrev f8R:Ty:=.cons (S46) (.nil)
abbrev f3d:Ty:=.cons (.flt .f32) (.nil)
def e9q (x:Den f8R):OD f3d:=bif e1Z (x.1.2.2.2.2.1,()) then let a:=d0e (x.1.2.2.2.2.1,());bif decide (a.1<0) then some (0,())else bif e2a (x.1.2.2.2.2.1,()) then bif e2b (x.1.2.2.2.1,a) then let b:=d8G (x.1.2.2.2.2.1,());let c:=d8K (x.1.2.2.2.1,a);bif e9o (x.1.1.1,b.1,c) then some ((e9p (x.1.1.1,b.1,c)).1,())else none else none else none else none
def e2g (x):=(e9q x).isSome
def d3X (x):=(e9q x).getD (zero f3d)
def g1D:=(105,a0c f8R f3d e2g d3X)
theorem d3Y:a0f Tryz.prog g1D:=fnE (s4 d3O d3R d3T e4i) Tryz.func105
abbrev f8S:Ty:=.cons (.int .i64) (.nil)
abbrev f3e:Ty:=.cons (.cpx .f64) (.nil)
abbrev b7N:Type:=(a4r×ty7)×Unit
abbrev d3Z:Type:=(a4r×Unit)×Unit
def d4a:LX:=⟨[3,4],[],0,[3],[],⟨[(3,om6),(4,om0)],[],0,0⟩,⟨[(3,om6)],[],0,0⟩⟩
def b3m (f:b7N->Option (d3Z)) (v:b7N):Option (d3Z):=bif decide (v.1.2.1>0) then bif e3T () then let a:=e3U ();bif e3W (v.1.1,a) then f ((((e3X (v.1.1,a)).1,wrap .i64 (v.1.2.1-1),()),()))else none else none else some ((v.1.1,()),())
def b7O (v:b7N):Nat:=v.1.2.1.natAbs+1000
def b7P (v:b7N):=a0K b3m (b7O v) v
def c3X (v):=(b7P v).isSome
def c3Y (v):=(b7P v).getD default
def e9r (x:Den f8S):OD f3e:=bif d8I x then let b:=d8J x;let a:=(((4607182418800017408,0),b),());bif c3X a then some (c3Y a).1 else none else none
def f3f (x):=(e9r x).isSome
def f3g (x):=(e9r x).getD (zero f3e)
def g1E:=(170,a0c f8S f3e f3f f3g)
noncomputable def f3h:=gE [f8L,f2E,f2G] Tryz.f170 (lps:=[(3,lmX d4a b7P)])
theorem d0h:EvX f3h (lp Tryz.f170 0) d4a b3m:=fun _ _=>by kernel_rfl
theorem e4j:a0f Tryz.prog g1E:=a0Q (a0L (s3 d3S d3K d3L)) (a1F Tryz.func170 rfl rfl rfl (by kernel_rfl) (a0j (by kernel_rfl) (s1 (lX d0h b7O)))) fun _=>by kernel_rfl
abbrev f8T:Ty:=.cons (.int .i64) (.cons (.flt .f32) (.nil))
abbrev f3i:Ty:=.cons (.cpx .f32) (.cons (.bool) (.nil))
def e4k (x:Den f8T):OD f3i:=bif fgt .f32 x.2.1 0||feq .f32 x.2.1 0 then bif !(flt .f32 x.2.1 1112014848||feq .f32 x.2.1 1112014848) then some ((0,0),false,())else bif f3f (x.1,()) then let a:=f3g (x.1,());let b:=a0y .f64 .f32 a.1.1;bif b.1 then let c:=a0y .f64 .f32 a.1.2;bif c.1 then some ((a0b .mul .f32 b.2 x.2.1,a0b .mul .f32 c.2 x.2.1),true,())else none else none else none else some ((0,0),false,())
def e2h (x):=(e4k x).isSome
def d8L (x):=(e4k x).getD (zero f3i)
def g1F:=(104,a0c f8T f3i e2h d8L)
theorem d4b:a0f Tryz.prog g1F:=fnE (s1 e4j) Tryz.func104
abbrev f8U:Ty:=.cons (.cpx .f32) (.cons (.cpx .f32) (.nil))
abbrev f3j:Ty:=.cons (.cpx .f32) (.cons (.bool) (.nil))
def e9s (x:Den f8U):OD f3j:=bif K52 (x.1,()) then bif !(G52 (x.1,())).1 then some ((0,0),false,())else bif K52 x.2 then bif !(G52 x.2).1 then some ((0,0),false,())else some ((a0b .sub .f32 x.1.1 x.2.1.1,a0b .sub .f32 x.1.2 x.2.1.2),true,())else none else none
def f3k (x):=(e9s x).isSome
def f3l (x):=(e9s x).getD (zero f3j)
def g1G:=(175,a0c f8U f3j f3k f3l)
theorem e4l:a0f Tryz.prog g1G:=fnE (s1 b1l) Tryz.func175
abbrev f8V:Ty:=.cons (.cpx .f32) (.cons (.cpx .f32) (.cons (.int .i64) (.nil)))
abbrev f3m:Ty:=.cons (S63) (.cons (.bool) (.nil))
def e9t (x:Den f8V):OD f3m:=bif f3k (x.1,x.2.1,()) then let a:=f3l (x.1,x.2.1,());bif e1Z (a.1,()) then bif !a.2.1 then some ((0,0,()),false,())else let b:=d0e (a.1,());bif decide (b.1<0) then some ((0,0,()),false,())else bif e2a (a.1,()) then bif e2b (x.2.2.1,b) then some (((d8G (a.1,())).1,d8K (x.2.2.1,b)),true,())else none else none else none else none
def e9u (x):=(e9t x).isSome
def e9v (x):=(e9t x).getD (zero f3m)
def g1H:=(106,a0c f8V f3m e9u e9v)
theorem e4m:a0f Tryz.prog g1H:=fnE (s4 e4l d3O d3R d3T) Tryz.func106
abbrev A54:Ty:=.cons (S46) (.nil)
abbrev R54:Ty:=.cons (S63) (.cons (.bool) (.nil))
def F54 (x:Den A54):OD R54:=bif e2g x then let a:=d3X x;bif e2h (x.1.2.2.2.1,a) then let c:=d8L (x.1.2.2.2.1,a);let b:=(x.1.2.2.2.2.1,c.1,x.1.2.2.2.1,());bif e9u b then some (e9v b)else none else none else none
def K54 (x):=(F54 x).isSome
def G54 (x):=(F54 x).getD (zero R54)
def m54:=(54,a0c A54 R54 K54 G54)
theorem d8M:a0f Tryz.prog m54:=fnE (s3 d3Y d4b e4m) Tryz.func54
abbrev A55:Ty:=.cons (S68) (.cons (S63) (.nil))
abbrev R55:Ty:=.cons (.bool) (.nil)
def F55 (x:Den A55):OD R55:=let b:=a0b .sub .f32 x.1.2.1 1065353216;bif fgt .f32 x.2.1.1 b||feq .f32 x.2.1.1 b then let c:=a0b .add .f32 x.1.2.2.1 1065353216;bif !(flt .f32 x.2.1.1 c||feq .f32 x.2.1.1 c) then some (false,())else bif decide (x.2.1.2.1<x.1.2.2.2.1) then let a:=wrap .i64 (x.1.2.2.2.1-x.2.1.2.1);bif K51 (a,0,5,()) then bif !(G51 (a,0,5,())).1 then some (false,())else bif decide (x.2.1.2.1<=x.1.2.2.2.2.1) then some (true,())else let d:=wrap .i64 (x.2.1.2.1-x.1.2.2.2.2.1);bif K51 (d,0,5,()) then some (G51 (d,0,5,()))else none else none else bif decide (x.2.1.2.1<=x.1.2.2.2.2.1) then some (true,())else let a:=wrap .i64 (x.2.1.2.1-x.1.2.2.2.2.1);bif K51 (a,0,5,()) then some (G51 (a,0,5,()))else none else some (false,())
def K55 (x):=(F55 x).isSome
def G55 (x):=(F55 x).getD (zero R55)
def m55:=(55,a0c A55 R55 K55 G55)
theorem e4n:a0f Tryz.prog m55:=fnE (s1 a4a) Tryz.func55
abbrev A18:Ty:=.cons (S46) (.nil)
abbrev R18:Ty:=.cons (.bool) (.nil)
def F18 (x:Den A18):OD R18:=bif K49 (x.1.2.2.1,()) then bif K50 (x.1.1,()) then bif !(G50 (x.1.1,())).1 then some (false,())else bif K51 (x.1.2.1,0,10000000,()) then bif !(G51 (x.1.2.1,0,10000000,())).1 then some (false,())else bif !(G49 (x.1.2.2.1,())).2.1 then some (false,())else bif K51 (x.1.2.2.2.1,0,359,()) then bif !(G51 (x.1.2.2.2.1,0,359,())).1 then some (false,())else bif K52 (x.1.2.2.2.2.1,()) then bif !(G52 (x.1.2.2.2.2.1,())).1 then some (false,())else let g:=(length x.1.1.2.2.1:Int);let h:=wrap .i64 (g-1);let j:=(x.1.2.2.2.2.2.1,-1,h,());bif K51 j then bif !(G51 j).1 then some (false,())else bif K53 (x.1.2.2.2.2.2.2.1,()) then bif !(G53 (x.1.2.2.2.2.2.2.1,())).1 then some (false,())else let i:=(length x.1.2.2.2.2.2.2.1:Int);bif decide (i>0) then let a:=wrap .i64 (i-1);bif decide (0<=a)&&decide (a<i) then bif decide ((getD x.1.2.2.2.2.2.2.1 (toNat a) (zero S97)).2.1>x.1.2.1) then some (false,())else bif decide ((length x.1.2.2.2.2.2.2.2.1:Int)>300) then some (false,())else bif decide (x.1.2.2.2.2.2.1 ≥ 0) then bif K54 x then let b:=G54 x;bif b.2.1 then bif decide (0<=x.1.2.2.2.2.2.1)&&decide (x.1.2.2.2.2.2.1<g) then let d:=getD x.1.1.2.2.1 (toNat x.1.2.2.2.2.2.1) (zero S68);bif K55 (d,b.1,()) then some (G55 (d,b.1,()))else none else none else some (false,())else none else some (true,())else none else bif decide ((length x.1.2.2.2.2.2.2.2.1:Int)>300) then some (false,())else bif decide (x.1.2.2.2.2.2.1 ≥ 0) then bif K54 x then let c:=G54 x;bif c.2.1 then bif decide (0<=x.1.2.2.2.2.2.1)&&decide (x.1.2.2.2.2.2.1<g) then let e:=getD x.1.1.2.2.1 (toNat x.1.2.2.2.2.2.1) (zero S68);bif K55 (e,c.1,()) then some (G55 (e,c.1,()))else none else none else some (false,())else none else some (true,())else none else none else none else none else none else none else none
def K18 (x):=(F18 x).isSome
def G18 (x):=(F18 x).getD (zero R18)
def m18:=(18,a0c A18 R18 K18 G18)
theorem e4o:a0f Tryz.prog m18:=fnE (s7 c9O e3I a4a b1l f2z d8M e4n) Tryz.func18
abbrev I30:Sg:=⟨[.val (.slice (.int .u8))],[]⟩
abbrev O30:Sg:=⟨[.ptr 0],[.box (a1M)]⟩
abbrev d0i:Type:=ty2×Unit
abbrev e4p:Type:=(List (Den (.int .u8))×ty7)×Unit
def e4q:LX:=⟨[0,3,4],[],0,[0,3],[],⟨[(0,.one (.sl (.int .u8))),(3,om0),(4,om0)],[],0,0⟩,⟨[(0,.one (.sl (.int .u8))),(3,om0)],[],0,0⟩⟩
def d0j (f:d0i->Option (e4p)) (v:d0i):Option (e4p):=bif decide (v.1.2.2.1<(length v.1.1:Int)) then bif decide (v.1.2.2.1<4000) then bif decide (0<=v.1.2.2.1)&&decide (v.1.2.2.1<(length v.1.1:Int)) then f (((v.1.1,a1Q BinOp.and IntKind.i64 (wrap .i64 ((wrap .i64 ((wrap .i64 (v.1.2.1*131))+(wrap .i64 (getD v.1.1 (toNat v.1.2.2.1) (zero (Ty.int IntKind.u8))))))+7)) 1073741823,wrap .i64 (v.1.2.2.1+1),()),()))else none else some ((v.1.1,v.1.2.1,()),())else some ((v.1.1,v.1.2.1,()),())
def d8N (v:d0i):Nat:=v.1.1.length+v.1.2.1.natAbs+v.1.2.2.1.natAbs+1000
def d0k (v:d0i):=a0K d0j (d8N v) v
def d4c (v):=(d0k v).isSome
def d4d (v):=(d0k v).getD default
def F30 (x:I30.den):Option (O30.den):=let a:=wrap .i64 (33211+(length x.1.1:Int));bif d4c ((x.1.1,a,0,()),()) then let b:=d4d ((x.1.1,a,0,()),());some (((),()),(b.1.1,0,b.1.2),())else none
def K30 (x):=(F30 x).isSome
def G30 (x):=(F30 x).getD (a0Y O30)
def m30:=(30,a0H false I30 O30 K30 G30)
noncomputable def g1I:=gE [] Tryz.f30 (lps:=[(3,lmX e4q d0k)])
theorem d8O:EvX g1I (lp Tryz.f30 0) e4q d0j:=fun _ _=>by kernel_rfl
theorem e4r:a0f Tryz.prog m30:=a2Y (a0L nS) (a1F Tryz.func30 rfl rfl rfl (by kernel_rfl) (a0j (by kernel_rfl) (s1 (lX d8O d8N)))) false fun _=>by kernel_rfl
abbrev I82:Sg:=⟨[.ptr 0],[.box (a1M)]⟩
abbrev O82:Sg:=⟨[.val (.int .i64)],[.box (a1M)]⟩
def F82 (x:I82.den):Option (O82.den):=bif decide (x.2.1.2.1<(length x.2.1.1:Int)) then bif decide (0<=x.2.1.2.1)&&decide (x.2.1.2.1<(length x.2.1.1:Int)) then let a:=wrap .i64 ((wrap .i64 (x.2.1.2.2.1*6364136223846793005))+1442695040888963407);some ((a1Q BinOp.and IntKind.i64 (wrap .i64 (a1Q BinOp.and IntKind.i64 (a1Q BinOp.xor IntKind.i64 (Int.fdiv a (2^min (toNat 33) (IntKind.bits IntKind.i64))) (Int.fdiv a (2^min (toNat 45) (IntKind.bits IntKind.i64)))) 255+(wrap .i64 (getD x.2.1.1 (toNat x.2.1.2.1) (zero (Ty.int IntKind.u8)))))) 255,()),(x.2.1.1,wrap .i64 (x.2.1.2.1+1),a,()),())else none else let a:=wrap .i64 ((wrap .i64 (x.2.1.2.2.1*6364136223846793005))+1442695040888963407);some ((a1Q BinOp.and IntKind.i64 (a1Q BinOp.xor IntKind.i64 (Int.fdiv a (2^min (toNat 33) (IntKind.bits IntKind.i64))) (Int.fdiv a (2^min (toNat 45) (IntKind.bits IntKind.i64)))) 255,()),(x.2.1.1,x.2.1.2.1,a,()),())
def K82 (x):=(F82 x).isSome
def G82 (x):=(F82 x).getD (a0Y O82)
def m82:=(82,a0H true I82 O82 K82 G82)
theorem e4s:a0f Tryz.prog m82:=sgE true nS Tryz.func82
abbrev I34:Sg:=⟨[.ptr 0,.val (.int .i64)],[.box (a1M)]⟩
abbrev O34:Sg:=⟨[.val (.int .i64)],[.box (a1M)]⟩
def F34 (x:I34.den):Option (O34.den):=bif decide (x.1.2.1<=0) then some ((0,()),x.2)else bif decide (x.1.2.1<=256) then bif K82 (((),()),x.2) then bif x.1.2.1 != 0 then let a:=G82 (((),()),x.2);some ((Int.tmod a.1.1 x.1.2.1,()),a.2)else none else none else bif K82 (((),()),x.2) then let a:=G82 (((),()),x.2);bif K82 (((),()),a.2) then let c:=G82 (((),()),a.2);bif K82 (((),()),c.2) then let d:=G82 (((),()),c.2);bif K82 (((),()),d.2) then bif x.1.2.1 != 0 then let b:=G82 (((),()),d.2);some ((Int.tmod (wrap .i64 ((wrap .i64 ((wrap .i64 ((wrap .i64 (a.1.1*16777216))+(wrap .i64 (c.1.1*65536))))+(wrap .i64 (d.1.1*256))))+b.1.1)) x.1.2.1,()),b.2)else none else none else none else none else none
def K34 (x):=(F34 x).isSome
def G34 (x):=(F34 x).getD (a0Y O34)
def m34:=(34,a0H true I34 O34 K34 G34)
theorem a2N:a0f Tryz.prog m34:=sgE true (s1 e4s) Tryz.func34
abbrev I77:Sg:=⟨[.ptr 0,.val (.int .i64)],[.box (a1M)]⟩
abbrev O77:Sg:=⟨[.val (.bool)],[.box (a1M)]⟩
def F77 (x:I77.den):Option (O77.den):=bif K34 (((),x.1.2),x.2) then let a:=G34 (((),x.1.2),x.2);some ((a.1.1==0,()),a.2)else none
def K77 (x):=(F77 x).isSome
def G77 (x):=(F77 x).getD (a0Y O77)
def m77:=(77,a0H true I77 O77 K77 G77)
theorem a5t:a0f Tryz.prog m77:=sgE true (s1 a2N) Tryz.func77
abbrev e4t:Sg:=⟨[.ptr 0,.own (.str) 1],[.box (a1M),.arr (.str)]⟩
abbrev f3n:Sg:=⟨[.val (.str)],[.box (a1M),.arr (.str)]⟩
def e9w (x:e4t.den):Option (f3n.den):=bif K34 (((),(length x.2.2.1:Int),()),x.2.1,()) then let a:=G34 (((),(length x.2.2.1:Int),()),x.2.1,());bif decide (0<=a.1.1)&&decide (a.1.1<(length x.2.2.1:Int)) then some ((getD x.2.2.1 (toNat a.1.1) (zero Ty.str),()),a.2.1,x.2.2)else none else none
def e4u (x):=(e9w x).isSome
def d8P (x):=(e9w x).getD (a0Y f3n)
def f8W:=(131,a0H true e4t f3n e4u d8P)
theorem d4e:a0f Tryz.prog f8W:=sgE true (s1 a2N) Tryz.func131
abbrev I73:Sg:=⟨[.ptr 0],[.box (a1M)]⟩
abbrev O73:Sg:=⟨[.val (S27)],[.box (a1M)]⟩
abbrev b3n:Type:=(Unit×Unit×Unit×Nat×Int×b2X)×ty2×a7u×a7u×b2V×ty4×d2Q×b2V×Unit
abbrev d4f:Type:=(Unit×Unit×Unit×Nat×Int×a5r)×ty2×a7u×a7u×b2V×ty4×d2Q×b2V×Unit
def d4g:LX:=⟨[0,2,3,6,7,8,9],[],4,[0,2,3,6,7,8],[],⟨li5,li0,7,1⟩,⟨[(0,om1),(2,om2),(3,om3),(6,om7),(7,om0),(8,on1)],li0,7,1⟩⟩
def b7Q (f:b3n->Option (d4f)) (v:b3n):Option (d4f):=bif decide (v.1.2.2.2.2.2.2.1<(length v.2.2.2.2.2.1:Int)) then bif K34 (((),57,()),v.2.1,()) then bif v.1.2.2.2.2.2.2.1==0 then let a:=G34 (((),57,()),v.2.1,());bif K77 (((),8,()),a.2) then let b:=G77 (((),8,()),a.2);bif !b.1.1 then bif fgt .f32 v.1.2.2.2.1 1084227584 then bif K34 (((),40,()),b.2) then let c:=G34 (((),40,()),b.2);let d:=set (replicate 1 (zero (Ty.flt .f32))) 0 (a0b .add .f32 0 (a0b .quo .f32 (nearest .f32 c.1.1) 1098907648));bif a0n (length v.2.2.2.2.2.2.2.1+length d) then f ((((),(),(),v.1.2.2.2.1,v.1.2.2.2.2.1,(),wrap .i64 (v.1.2.2.2.2.2.2.1+1),()),c.2.1,((),(),(),()),((),(),(),()),v.2.2.2.2.1,v.2.2.2.2.2.1,v.2.2.2.2.2.2.1,v.2.2.2.2.2.2.2.1++d,()))else none else none else let e:=set (replicate 1 (zero (Ty.flt .f32))) 0 0;bif a0n (length v.2.2.2.2.2.2.2.1+length e) then f ((((),(),(),v.1.2.2.2.1,v.1.2.2.2.2.1,(),wrap .i64 (v.1.2.2.2.2.2.2.1+1),()),b.2.1,((),(),(),()),((),(),(),()),v.2.2.2.2.1,v.2.2.2.2.2.1,v.2.2.2.2.2.2.1,v.2.2.2.2.2.2.2.1++e,()))else none else bif fgt .f32 v.1.2.2.2.1 1084227584 then bif K34 (((),40,()),b.2) then let h:=G34 (((),40,()),b.2);let g:=set (replicate 1 (zero (Ty.flt .f32))) 0 (a0b .add .f32 (a0b .quo .f32 (nearest .f32 (wrap .i64 (8+a.1.1))) 1098907648) (a0b .quo .f32 (nearest .f32 h.1.1) 1098907648));bif a0n (length v.2.2.2.2.2.2.2.1+length g) then f ((((),(),(),v.1.2.2.2.1,v.1.2.2.2.2.1,(),wrap .i64 (v.1.2.2.2.2.2.2.1+1),()),h.2.1,((),(),(),()),((),(),(),()),v.2.2.2.2.1,v.2.2.2.2.2.1,v.2.2.2.2.2.2.1,v.2.2.2.2.2.2.2.1++g,()))else none else none else let i:=set (replicate 1 (zero (Ty.flt .f32))) 0 (a0b .quo .f32 (nearest .f32 (wrap .i64 (8+a.1.1))) 1098907648);bif a0n (length v.2.2.2.2.2.2.2.1+length i) then f ((((),(),(),v.1.2.2.2.1,v.1.2.2.2.2.1,(),wrap .i64 (v.1.2.2.2.2.2.2.1+1),()),b.2.1,((),(),(),()),((),(),(),()),v.2.2.2.2.1,v.2.2.2.2.2.1,v.2.2.2.2.2.2.1,v.2.2.2.2.2.2.2.1++i,()))else none else none else bif fgt .f32 v.1.2.2.2.1 1084227584 then let a:=G34 (((),57,()),v.2.1,());bif K34 (((),40,()),a.2) then let c:=G34 (((),40,()),a.2);let d:=set (replicate 1 (zero (Ty.flt .f32))) 0 (a0b .add .f32 (a0b .quo .f32 (nearest .f32 (wrap .i64 (8+a.1.1))) 1098907648) (a0b .quo .f32 (nearest .f32 c.1.1) 1098907648));bif a0n (length v.2.2.2.2.2.2.2.1+length d) then f ((((),(),(),v.1.2.2.2.1,v.1.2.2.2.2.1,(),wrap .i64 (v.1.2.2.2.2.2.2.1+1),()),c.2.1,((),(),(),()),((),(),(),()),v.2.2.2.2.1,v.2.2.2.2.2.1,v.2.2.2.2.2.2.1,v.2.2.2.2.2.2.2.1++d,()))else none else none else let a:=G34 (((),57,()),v.2.1,());let e:=set (replicate 1 (zero (Ty.flt .f32))) 0 (a0b .quo .f32 (nearest .f32 (wrap .i64 (8+a.1.1))) 1098907648);bif a0n (length v.2.2.2.2.2.2.2.1+length e) then f ((((),(),(),v.1.2.2.2.1,v.1.2.2.2.2.1,(),wrap .i64 (v.1.2.2.2.2.2.2.1+1),()),a.2.1,((),(),(),()),((),(),(),()),v.2.2.2.2.1,v.2.2.2.2.2.1,v.2.2.2.2.2.2.1,v.2.2.2.2.2.2.2.1++e,()))else none else none else some (((),(),(),v.1.2.2.2.1,v.1.2.2.2.2.1,(),()),v.2.1,((),(),(),()),((),(),(),()),v.2.2.2.2)
def c3Z (v:b3n):Nat:=v.1.2.2.2.2.1.natAbs+v.1.2.2.2.2.2.2.1.natAbs+v.2.1.1.length+v.2.1.2.1.natAbs+v.2.1.2.2.1.natAbs+v.2.2.2.2.1.length+v.2.2.2.2.2.1.length+v.2.2.2.2.2.2.1.length+v.2.2.2.2.2.2.2.1.length+1000
def b3o (v:b3n):=a0K b7Q (c3Z v) v
def d8Q (v):=(b3o v).isSome
def a4x (v):=(b3o v).getD default
abbrev b3p:Type:=(Unit×Unit×Unit×Nat×ty7)×ty2×a7u×a7u×ty1
abbrev d4h:Type:=ty5×ty2×a7u×a7u×ty1
def d4i:LX:=⟨[0,2,3,6,7],[.boxNil 3 0,.boxNil 3 2],2,[2,3],[],⟨[(0,om1),(2,om2),(3,om3),(6,om7),(7,om0)],li2,6,1⟩,⟨li8,li2,6,1⟩⟩
def b7R (f:b3p->Option (d4h)) (v:b3p):Option (d4h):=bif decide (v.1.2.2.2.2.1>0) then let b:=zero (Ty.flt .f32);let c:=set (replicate 1 b) 0 v.1.2.2.2.1;bif a0n (length v.2.2.2.2.1+length c) then let h:=v.2.2.2.2.1++c;let d:=(((),(),(),v.1.2.2.2.1,v.1.2.2.2.2.1,(),0,()),v.2.1,((),(),(),()),((),(),(),()),h,v.2.2.2.2.2.1,v.2.2.2.2.2.2.1,replicate 0 b,());bif d8Q d then let a:=a4x d;let e:=set (replicate 1 (zero (Ty.slice (Ty.flt .f32)))) 0 a.2.2.2.2.2.2.2.1;bif a0n (length a.2.2.2.2.2.2.1+length e) then bif K34 (((),40,()),a.2.1,()) then let g:=G34 (((),40,()),a.2.1,());f ((((),(),(),a0b .add .f32 a.1.2.2.2.1 (a0b .quo .f32 (nearest .f32 (wrap .i64 (1+g.1.1))) 1090519040),wrap .i64 (a.1.2.2.2.2.1-1),()),g.2.1,((),(),(),()),((),(),(),()),a.2.2.2.2.1,a.2.2.2.2.2.1,a.2.2.2.2.2.2.1++e,()))else none else none else none else none else some (((),(),()),v.2.1,((),(),(),()),((),(),(),()),v.2.2.2.2)
def c4a (v:b3p):Nat:=v.1.2.2.2.2.1.natAbs+v.2.1.1.length+v.2.1.2.1.natAbs+v.2.1.2.2.1.natAbs+v.2.2.2.2.1.length+v.2.2.2.2.2.1.length+v.2.2.2.2.2.2.1.length+1000
def b3q (v:b3p):=a0K b7R (c4a v) v
def b5u (v):=(b3q v).isSome
def a4y (v):=(b3q v).getD default
abbrev c4b:Type:=d2S×e8U
abbrev e4v:Type:=a7u×e8U
def e4w:LX:=⟨[0,2,3,5],[],0,[0,2,3],[],⟨[(0,om1),(2,om2),(3,om3),(5,om0)],[(0,bx0),(1,bx8),(2,f8i),(3,.arr (.int .i64))],4,1⟩,⟨li7,[(0,bx0),(1,bx8),(2,f8i),(3,.arr (.int .i64))],4,1⟩⟩
def d0l (f:c4b->Option (e4v)) (v:c4b):Option (e4v):=bif decide (v.1.2.2.2.1>0) then bif decide (v.1.2.2.2.1<180) then bif decide ((length v.2.2.2.2.1:Int)<20) then let a:=set (replicate 1 (zero (Ty.int IntKind.i64))) 0 v.1.2.2.2.1;bif a0n (length v.2.2.2.2.1+length a) then bif K34 (((),50,()),v.2.1,()) then let b:=G34 (((),50,()),v.2.1,());f ((((),(),(),wrap .i64 ((wrap .i64 (v.1.2.2.2.1+5))+b.1.1),()),b.2.1,((),(),(),()),((),(),(),()),v.2.2.2.2.1++a,()))else none else none else some (((),(),(),()),v.2.1,((),(),(),()),((),(),(),()),v.2.2.2.2)else some (((),(),(),()),v.2.1,((),(),(),()),((),(),(),()),v.2.2.2.2)else some (((),(),(),()),v.2.1,((),(),(),()),((),(),(),()),v.2.2.2.2)
def d8R (v:c4b):Nat:=v.1.2.2.2.1.natAbs+v.2.1.1.length+v.2.1.2.1.natAbs+v.2.1.2.2.1.natAbs+v.2.2.2.2.1.length+1000
def c4c (v:c4b):=a0K d0l (d8R v) v
def c4d (v):=(c4c v).isSome
def a8E (v):=(c4c v).getD default
def F73 (x:I73.den):Option (O73.den):=bif K34 (((),25,()),x.2) then let j:=G34 (((),25,()),x.2);bif K77 (((),6,()),j.2) then let k:=G77 (((),6,()),j.2);bif k.1.1 then let p:=replicate 1 (zero (Ty.int IntKind.i64));let l:=set p 0 0;let q:=(((),(),(),0,()),k.2.1,((),(),(),()),((),(),(),()),l,());bif c4d q then let i:=a8E q;let c:=set p 0 180;bif a0n (length i.2.2.2.2.1+length c) then bif K34 (((),4,()),i.2.1,()) then let m:=G34 (((),4,()),i.2.1,());bif K34 (((),4,()),m.2) then let n:=wrap .i64 (1+m.1.1);let a:=G34 (((),4,()),m.2);let b:=wrap .i64 (1+a.1.1);let d:=i.2.2.2.2.1++c;let r:=(((),(),(),nearest .f32 n,b,()),a.2.1,((),(),(),()),((),(),(),()),[],d,[],());bif b5u r then let g:=a4y r;some ((g.2.2.2.2,()),g.2.1,())else none else none else none else none else none else let l:=wrap .i64 (20+j.1.1);let s:=replicate 1 (zero (Ty.int IntKind.i64));let y:=set s 0 0;let t:=(((),(),(),l,()),k.2.1,((),(),(),()),((),(),(),()),y,());bif c4d t then let c:=a8E t;let u:=set s 0 180;bif a0n (length c.2.2.2.2.1+length u) then bif K34 (((),4,()),c.2.1,()) then let e:=G34 (((),4,()),c.2.1,());bif K34 (((),4,()),e.2) then let a:=wrap .i64 (1+e.1.1);let b:=G34 (((),4,()),e.2);let d:=wrap .i64 (1+b.1.1);let o:=c.2.2.2.2.1++u;let w:=(((),(),(),nearest .f32 a,d,()),b.2.1,((),(),(),()),((),(),(),()),[],o,[],());bif b5u w then let h:=a4y w;some ((h.2.2.2.2,()),h.2.1,())else none else none else none else none else none else none else none
def K73 (x):=(F73 x).isSome
def G73 (x):=(F73 x).getD (a0Y O73)
def m73:=(73,a0H true I73 O73 K73 G73)
noncomputable def f3o:=gE [m34,m77] Tryz.f73 (lps:=[(6,lmX e4w c4c),(12,lmX d4i b3q),(17,lmX d4g b3o)]) (rown:=[.frzBox 2])
theorem d8S:EvX f3o (lp Tryz.f73 0) e4w d0l:=fun _ _=>by kernel_rfl
theorem d0m:EvX f3o (lp Tryz.f73 1) d4i b7R:=fun _ _=>by kernel_rfl
theorem d0n:EvX f3o (lp Tryz.f73 2) d4g b7Q:=fun _ _=>by kernel_rfl
theorem f3p:a0f Tryz.prog m73:=a2Y (a0L (s2 a2N a5t)) (a1F Tryz.func73 rfl rfl rfl (by kernel_rfl) (a0j (by kernel_rfl) (s3 (lX d8S d8R) (lX d0m c4a) (lX d0n c3Z)))) true fun _=>by kernel_rfl
abbrev I74:Sg:=⟨[.ptr 0],[.box (a1M)]⟩
abbrev O74:Sg:=⟨[.mix [.ref (a1B) 1,.ref (.int .i64) 2]],[.box (a1M),.arr (a1B),.arr (.int .i64)]⟩
abbrev b3r:Type:=(Unit×Unit×d2T)×e8W
abbrev d4j:Type:=ty5×e8W
def d4k:LX:=⟨[0,2,3,9,10],[.boxNil 3 1],4,[2,3],[],⟨[(0,om1),(2,om2),(3,om3),(9,om0),(10,om0)],li4,5,1⟩,⟨li8,li4,5,1⟩⟩
def b7S (f:b3r->Option (d4j)) (v:b3r):Option (d4j):=bif decide (v.1.2.2.2.2.1>0) then let b:=set (replicate 1 (zero (Ty.int IntKind.i64))) 0 v.1.2.2.2.1;bif a0n (length v.2.2.2.2.2.1+length b) then bif K34 (((),3,()),v.2.1,()) then let a:=G34 (((),3,()),v.2.1,());bif K34 (((),20000,()),a.2) then let c:=G34 (((),20000,()),a.2);f ((((),(),(),wrap .i64 ((wrap .i64 (v.1.2.2.2.1+21600))+(wrap .i64 (a.1.1*c.1.1))),wrap .i64 (v.1.2.2.2.2.1-1),()),c.2.1,((),(),()),((),(),()),v.2.2.2.2.1,v.2.2.2.2.2.1++b,()))else none else none else none else some (((),(),()),v.2.1,((),(),()),((),(),()),v.2.2.2.2)
def c4e (v:b3r):Nat:=v.1.2.2.2.1.natAbs+v.1.2.2.2.2.1.natAbs+v.2.1.1.length+v.2.1.2.1.natAbs+v.2.1.2.2.1.natAbs+v.2.2.2.2.1.length+v.2.2.2.2.2.1.length+1000
def b7T (v:b3r):=a0K b7S (c4e v) v
def b5v (v):=(b7T v).isSome
def b5w (v):=(b7T v).getD default
abbrev c4f:Type:=(Unit×Unit×Unit×Int×b2X)×ty2×ty5×ty5×c8E×f1L
abbrev e4x:Type:=(Unit×Unit×Unit×Int×a5r)×ty2×ty5×ty5×c8E×f1L
def e4y:LX:=⟨[0,2,3,4,6,7],[],2,[0,2,3,4,6],[],⟨[(0,om1),(2,om2),(3,om3),(4,om0),(6,.one (.ptr 4 0)),(7,om0)],[(0,bx0),(1,bx6),(2,e8Y),(3,.arr (a1B)),(4,f1M)],5,1⟩,⟨[(0,om1),(2,om2),(3,om3),(4,om0),(6,.one (.ptr 4 0))],[(0,bx0),(1,bx6),(2,e8Y),(3,.arr (a1B)),(4,f1M)],5,1⟩⟩
def d0o (f:c4f->Option (e4x)) (v:c4f):Option (e4x):=bif decide (v.1.2.2.2.2.2.1<13) then bif K34 (((),33,()),v.2.1,()) then let d:=G34 (((),33,()),v.2.1,());bif K34 (((),33,()),d.2) then bif decide (0<=v.1.2.2.2.2.2.1)&&decide (v.1.2.2.2.2.2.1<(↑13:Int)) then let e:=G34 (((),33,()),d.2);let b:=a0b .quo .f32 (nearest .f32 (wrap .i64 (d.1.1-16))) 1098907648;let c:=a0b .quo .f32 (nearest .f32 (wrap .i64 (e.1.1-16))) 1098907648;let a:=toNat v.1.2.2.2.2.2.1;let g:=0+1+1+1+1+1+1+1+1+1+1+1+1;let h:=0+1+1+1+1+1+1+1+1+1+1+1;let i:=0+1+1+1+1+1+1+1+1+1+1;let j:=0+1+1+1+1+1+1+1+1+1;let k:=0+1+1+1+1+1+1+1+1;let l:=0+1+1+1+1+1+1+1;let m:=0+1+1+1+1+1+1;f ((((),(),(),v.1.2.2.2.1,(),wrap .i64 (v.1.2.2.2.2.2.1+1),()),e.2.1,((),(),()),((),(),()),v.2.2.2.2.1,(v.2.2.2.2.2.1.1,(bif beq 0 a then b else v.2.2.2.2.2.1.2.1.1,bif beq 0 a then c else v.2.2.2.2.2.1.2.1.2),(bif beq (0+1) a then b else v.2.2.2.2.2.1.2.2.1.1,bif beq (0+1) a then c else v.2.2.2.2.2.1.2.2.1.2),(bif beq (0+1+1) a then b else v.2.2.2.2.2.1.2.2.2.1.1,bif beq (0+1+1) a then c else v.2.2.2.2.2.1.2.2.2.1.2),(bif beq (0+1+1+1) a then b else v.2.2.2.2.2.1.2.2.2.2.1.1,bif beq (0+1+1+1) a then c else v.2.2.2.2.2.1.2.2.2.2.1.2),(bif beq (0+1+1+1+1) a then b else v.2.2.2.2.2.1.2.2.2.2.2.1.1,bif beq (0+1+1+1+1) a then c else v.2.2.2.2.2.1.2.2.2.2.2.1.2),(bif beq (0+1+1+1+1+1) a then b else v.2.2.2.2.2.1.2.2.2.2.2.2.1.1,bif beq (0+1+1+1+1+1) a then c else v.2.2.2.2.2.1.2.2.2.2.2.2.1.2),(bif beq m a then b else v.2.2.2.2.2.1.2.2.2.2.2.2.2.1.1,bif beq m a then c else v.2.2.2.2.2.1.2.2.2.2.2.2.2.1.2),(bif beq l a then b else v.2.2.2.2.2.1.2.2.2.2.2.2.2.2.1.1,bif beq l a then c else v.2.2.2.2.2.1.2.2.2.2.2.2.2.2.1.2),(bif beq k a then b else v.2.2.2.2.2.1.2.2.2.2.2.2.2.2.2.1.1,bif beq k a then c else v.2.2.2.2.2.1.2.2.2.2.2.2.2.2.2.1.2),(bif beq j a then b else v.2.2.2.2.2.1.2.2.2.2.2.2.2.2.2.2.1.1,bif beq j a then c else v.2.2.2.2.2.1.2.2.2.2.2.2.2.2.2.2.1.2),(bif beq i a then b else v.2.2.2.2.2.1.2.2.2.2.2.2.2.2.2.2.2.1.1,bif beq i a then c else v.2.2.2.2.2.1.2.2.2.2.2.2.2.2.2.2.2.1.2),(bif beq h a then b else v.2.2.2.2.2.1.2.2.2.2.2.2.2.2.2.2.2.2.1.1,bif beq h a then c else v.2.2.2.2.2.1.2.2.2.2.2.2.2.2.2.2.2.2.1.2),(bif beq g a then b else v.2.2.2.2.2.1.2.2.2.2.2.2.2.2.2.2.2.2.2.1.1,bif beq g a then c else v.2.2.2.2.2.1.2.2.2.2.2.2.2.2.2.2.2.2.2.1.2),()),()))else none else none else none else some (((),(),(),v.1.2.2.2.1,(),()),v.2.1,((),(),()),((),(),()),v.2.2.2.2)
def e4z (v:c4f):Nat:=v.1.2.2.2.1.natAbs+v.1.2.2.2.2.2.1.natAbs+v.2.1.1.length+v.2.1.2.1.natAbs+v.2.1.2.2.1.natAbs+v.2.2.2.2.1.length+1000
def d0p (v:c4f):=a0K d0o (e4z v) v
def c4g (v):=(d0p v).isSome
def c4h (v):=(d0p v).getD (((),((),((),(0,((),()))))),(([],(0,(0,()))),(((),((),())),(((),((),())),([],(((0,0),((0,0),((0,0),((0,0),((0,0),((0,0),((0,0),((0,0),((0,0),((0,0),((0,0),((0,0),((0,0),((0,0),())))))))))))))),()))))))
abbrev c4i:Type:=d2S×ty2×ty5×ty5×c8E×Unit
abbrev e4A:Type:=a7u×ty2×ty5×ty5×c8E×Unit
def e4B:LX:=⟨[0,2,3,4],[.boxNil 3 0],0,[0,2,3],[],⟨[(0,om1),(2,om2),(3,om3),(4,om0)],[(0,bx0),(1,bx6),(2,e8Y),(3,.arr (a1B))],4,1⟩,⟨li7,[(0,bx0),(1,bx6),(2,e8Y),(3,.arr (a1B))],4,1⟩⟩
def d0q (f:c4i->Option (e4A)) (v:c4i):Option (e4A):=bif decide (v.1.2.2.2.1>0) then bif K34 (((),8001,()),v.2.1,()) then let c:=G34 (((),8001,()),v.2.1,());bif K34 (((),8001,()),c.2) then let e:=G34 (((),8001,()),c.2);let h:=wrap .i64 (c.1.1-4000);let i:=wrap .i64 (e.1.1-4000);let g:=(((),(),(),v.1.2.2.2.1,(),0,()),e.2.1,((),(),()),((),(),()),v.2.2.2.2.1,((nearest .f64 h,nearest .f64 i),(0,0),(0,0),(0,0),(0,0),(0,0),(0,0),(0,0),(0,0),(0,0),(0,0),(0,0),(0,0),(0,0),()),());bif c4g g then let a:=c4h g;bif K77 (((),5,()),a.2.1,()) then let d:=G77 (((),5,()),a.2.1,());bif d.1.1 then let b:=set (replicate 1 (zero a1B)) 0 (a.2.2.2.2.2.1.1,((0,0),(0,0),(0,0),(0,0),(0,0),(0,0),(0,0),(0,0),(0,0),(0,0),(0,0),(0,0),(0,0),()),());bif a0n (length a.2.2.2.2.1+length b) then f ((((),(),(),wrap .i64 (a.1.2.2.2.1-1),()),d.2.1,((),(),()),((),(),()),a.2.2.2.2.1++b,()))else none else let b:=set (replicate 1 (zero a1B)) 0 (a.2.2.2.2.2.1.1,a.2.2.2.2.2.1.2,());bif a0n (length a.2.2.2.2.1+length b) then f ((((),(),(),wrap .i64 (a.1.2.2.2.1-1),()),d.2.1,((),(),()),((),(),()),a.2.2.2.2.1++b,()))else none else none else none else none else none else some (((),(),(),()),v.2.1,((),(),()),((),(),()),v.2.2.2.2)
def d8T (v:c4i):Nat:=v.1.2.2.2.1.natAbs+v.2.1.1.length+v.2.1.2.1.natAbs+v.2.1.2.2.1.natAbs+v.2.2.2.2.1.length+1000
def d0r (v:c4i):=a0K d0q (d8T v) v
def c4j (v):=(d0r v).isSome
def c4k (v):=(d0r v).getD default
def F74 (x:I74.den):Option (O74.den):=bif K34 (((),3,()),x.2) then let d:=G34 (((),3,()),x.2);let i:=wrap .i64 (1+d.1.1);let e:=(((),(),(),i,()),d.2.1,((),(),()),((),(),()),[],());bif c4j e then let b:=c4k e;bif K34 (((),30000,()),b.2.1,()) then let c:=G34 (((),30000,()),b.2.1,());bif K34 (((),5,()),c.2) then let g:=G34 (((),5,()),c.2);let j:=wrap .i64 (1+g.1.1);let h:=(((),(),(),c.1.1,j,()),g.2.1,((),(),()),((),(),()),b.2.2.2.2.1,[],());bif b5v h then let a:=b5w h;some ((((),(),()),()),a.2.1,a.2.2.2.2)else none else none else none else none else none
def K74 (x):=(F74 x).isSome
def G74 (x):=(F74 x).getD (a0Y O74)
def m74:=(74,a0H true I74 O74 K74 G74)
noncomputable def f3q:=gE [m34,m77] Tryz.f74 (lps:=[(3,lmX e4B d0r),(8,lmX e4y d0p),(17,lmX d4k b7T)])
theorem d8U:EvX f3q (lp Tryz.f74 0) e4B d0q:=fun _ _=>by kernel_rfl
theorem d8V:EvX f3q (lp Tryz.f74 1) e4y d0o:=fun _ _=>by kernel_rfl
theorem d0s:EvX f3q (lp Tryz.f74 2) d4k b7S:=fun _ _=>by kernel_rfl
theorem e4C:a0f Tryz.prog m74:=a2Y (a0L (s2 a2N a5t)) (a1F Tryz.func74 rfl rfl rfl (by kernel_rfl) (a0j (by kernel_rfl) (s3 (lX d8U d8T) (lX d8V e4z) (lX d0s c4e)))) true fun _=>by kernel_rfl
abbrev e4D:Sg:=⟨[.ptr 0],[.box (a1M)]⟩
abbrev f3r:Sg:=⟨[.val (.flt .f64)],[.box (a1M)]⟩
def e9x (x:e4D.den):Option (f3r.den):=bif K34 (((),2,()),x.2) then let b:=G34 (((),2,()),x.2);bif K34 (((),8,()),b.2) then let a:=G34 (((),8,()),b.2);bif a.1.1==0 then let d:=wrap .i64 (b.1.1*0);let c:=nearest .f64 d;some ((a0b .quo .f64 c c,()),a.2)else bif a.1.1==1 then some ((a0b .quo .f64 4607182418800017408 (nearest .f64 (wrap .i64 (b.1.1*0))),()),a.2)else bif a.1.1==2 then some ((a0b .quo .f64 13830554455654793216 (nearest .f64 (wrap .i64 (b.1.1*0))),()),a.2)else bif a.1.1==3 then some ((a3g .f64 (nearest .f64 (wrap .i64 (b.1.1*0))),()),a.2)else bif a.1.1==4 then some ((9094988921128908188,()),a.2)else bif a.1.1==5 then some ((9223372036854775809,()),a.2)else bif a.1.1==6 then some ((4412443251819771522,()),a.2)else some ((nearest .f64 (wrap .i64 (b.1.1*0)),()),a.2)else none else none
def d4l (x):=(e9x x).isSome
def d4m (x):=(e9x x).getD (a0Y f3r)
def f8X:=(146,a0H true e4D f3r d4l d4m)
theorem c4l:a0f Tryz.prog f8X:=sgE true (s1 a2N) Tryz.func146
abbrev I81:Sg:=⟨[.ptr 0,.val (.int .i64)],[.box (a1M)]⟩
abbrev O81:Sg:=⟨[.val (.flt .f64)],[.box (a1M)]⟩
def F81 (x:I81.den):Option (O81.den):=bif K77 (((),40,()),x.2) then let d:=G77 (((),40,()),x.2);bif d.1.1 then bif d4l (((),()),d.2) then some (d4m (((),()),d.2))else none else let h:=wrap .i64 ((wrap .i64 (x.1.2.1*8))+1);bif K34 (((),h,()),d.2) then let g:=G34 (((),h,()),d.2);bif K77 (((),2,()),g.2) then let e:=G77 (((),2,()),g.2);bif e.1.1 then let c:=wrap .i64 ((wrap .i64 (x.1.2.1*1000))+1);bif K34 (((),c,()),e.2) then let a:=G34 (((),c,()),e.2);bif K77 (((),2,()),a.2) then let b:=G77 (((),2,()),a.2);bif b.1.1 then some ((a3g .f64 (a0b .quo .f64 (nearest .f64 a.1.1) 4652007308841189376),()),b.2)else some ((a0b .quo .f64 (nearest .f64 a.1.1) 4652007308841189376,()),b.2)else none else none else bif K77 (((),2,()),e.2) then let c:=G77 (((),2,()),e.2);bif c.1.1 then some ((a3g .f64 (a0b .quo .f64 (nearest .f64 g.1.1) 4620693217682128896),()),c.2)else some ((a0b .quo .f64 (nearest .f64 g.1.1) 4620693217682128896,()),c.2)else none else none else none else none
def K81 (x):=(F81 x).isSome
def G81 (x):=(F81 x).getD (a0Y O81)
def m81:=(81,a0H true I81 O81 K81 G81)
theorem e4E:a0f Tryz.prog m81:=sgE true (s3 a5t c4l a2N) Tryz.func81
abbrev a4M:Sg:=⟨[.ptr 0,.val (.int .i64)],[.box (a1M)]⟩
abbrev a6M:Sg:=⟨[.val (.flt .f32)],[.box (a1M)]⟩
noncomputable def d8W:=gE [m81] Tryz.f141
theorem e4F:a1o Tryz.prog d8W:=a0L (s1 e4E)
theorem f3s:a7b Tryz.prog 141 d8W (a0N Tryz.f141):=a1F Tryz.func141 rfl rfl rfl (by kernel_rfl) (a2Z (by kernel_rfl))
abbrev e4G:Sg:=⟨[.ptr 0,.own (.int .i64) 1],[.box (a1M),.arr (.int .i64)]⟩
abbrev f3t:Sg:=⟨[.val (.int .i64)],[.box (a1M),.arr (.int .i64)]⟩
def e4H (x:e4G.den):Option (f3t.den):=bif K34 (((),(length x.2.2.1:Int),()),x.2.1,()) then let a:=G34 (((),(length x.2.2.1:Int),()),x.2.1,());bif decide (0<=a.1.1)&&decide (a.1.1<(length x.2.2.1:Int)) then some ((getD x.2.2.1 (toNat a.1.1) (zero (Ty.int IntKind.i64)),()),a.2.1,x.2.2)else none else none
def c8H (x):=(e4H x).isSome
def b5x (x):=(e4H x).getD (a0Y f3t)
def f3u:=(125,a0H true e4G f3t c8H b5x)
theorem b3s:a0f Tryz.prog f3u:=sgE true (s1 a2N) Tryz.func125
abbrev e4I:Sg:=⟨[.ptr 0],[.box (a1M)]⟩
abbrev f3v:Sg:=⟨[.val (.int .i64)],[.box (a1M)]⟩
def e9y (x:e4I.den):Option (f3v.den):=bif K34 (((),4,()),x.2) then let a:=G34 (((),4,()),x.2);bif a.1.1==0 then let c:=set (set (set (set (set (set (set (set (set (set (replicate 10 (zero (Ty.int IntKind.i64))) 0 (-1)) 1 0) 2 127) 3 128) 4 16383) 5 16384) 6 1000000000) 7 1000000001) 8 9223372036854775807) 9 (-9223372036854775808);let d:=(((),(),()),a.2.1,c,());bif c8H d then let b:=b5x d;some (b.1,b.2.1,())else none else bif a.1.1==1 then bif K34 (((),1000000000,()),a.2) then some (G34 (((),1000000000,()),a.2))else none else bif K34 (((),400,()),a.2) then some (G34 (((),400,()),a.2))else none else none
def d4n (x):=(e9y x).isSome
def d4o (x):=(e9y x).getD (a0Y f3v)
def e4J:=(142,a0H true e4I f3v d4n d4o)
theorem b3t:a0f Tryz.prog e4J:=sgE true (s2 a2N b3s) Tryz.func142
abbrev I75:Sg:=⟨[.ptr 0],[.box (a1M)]⟩
abbrev O75:Sg:=⟨[.own (S68) 1],[.box (a1M),.arr (S68)]⟩
abbrev a9W:Type:=ty5×ty2×b4I×Unit
abbrev d4p:Type:=a5r×ty2×b4I×Unit
def d4q:LX:=⟨[0,4],[],3,[4],[],⟨[(0,om1),(4,.one (.ref (S68) 1))],[(0,bx0),(1,.arr (S68))],2,1⟩,⟨[(4,.one (.ref (S68) 1))],[(0,bx0),(1,.arr (S68))],2,1⟩⟩
def b7U (f:a9W->Option (d4p)) (v:a9W):Option (d4p):=bif K34 (((),2,()),v.2.1,()) then let a:=G34 (((),2,()),v.2.1,());let b:=(length v.2.2.1:Int);bif decide (b<(wrap .i64 (12+a.1.1))) then bif decide (0<=0)&&decide (0<b) then let c:=set (replicate 1 (zero S68)) 0 ({ data:=#[115] }++(a6X (set (replicate 1 (zero (Ty.int IntKind.u8))) 0 (wrap .u8 (wrap .i64 (97+b))))),(getD v.2.2.1 (toNat 0) (zero S68)).2);bif a0n (length v.2.2.1+length c) then f ((((),(),()),a.2.1,v.2.2.1++c,()))else none else none else some (((),()),a.2.1,v.2.2)else none
def d4r (v:a9W):Nat:=v.2.1.1.length+v.2.1.2.1.natAbs+v.2.1.2.2.1.natAbs+v.2.2.1.length+1000
def b7V (v:a9W):=a0K b7U (d4r v) v
def c4m (v):=(b7V v).isSome
def b1p (v):=(b7V v).getD default
abbrev c0B:Type:=d2S×ty2×d8q×b4I×Unit
abbrev e4K:Type:=ty5×ty2×b4I×Unit
def e4L:LX:=⟨[0,3,4,5],[],0,[0,4],[],⟨[(0,om1),(3,.one (.ref (.str) 1)),(4,.one (.ref (S68) 2)),(5,om0)],[(0,bx0),(1,.arr (.str)),(2,.arr (S68))],3,1⟩,⟨[(0,om1),(4,.one (.ref (S68) 1))],[(0,bx0),(1,.arr (S68))],2,1⟩⟩
def d0t (f:c0B->Option (e4K)) (v:c0B):Option (e4K):=bif decide (v.1.2.2.2.1>0) then bif K34 (((),16,()),v.2.1,()) then let a:=G34 (((),16,()),v.2.1,());bif K34 (((),100,()),a.2) then let d:=(length v.2.2.2.1:Int);bif decide (0<=d)&&decide (d<(length v.2.2.1:Int)) then let e:=G34 (((),100,()),a.2);bif K34 (((),14,()),e.2) then let g:=G34 (((),14,()),e.2);bif K34 (((),81,()),g.2) then let h:=G34 (((),81,()),g.2);bif K77 (((),4,()),h.2) then let i:=G77 (((),4,()),h.2);bif i.1.1 then let b:=set (replicate 1 (zero S68)) 0 (getD v.2.2.1 (toNat d) (zero Ty.str),0,a0b .add .f32 (nearest .f32 a.1.1) (nearest .f32 (wrap .i64 (2+g.1.1))),0,180,());bif a0n (length v.2.2.2.1+length b) then f ((((),(),(),wrap .i64 (v.1.2.2.2.1-1),()),i.2.1,v.2.2.1,v.2.2.2.1++b,()))else none else let c:=set (replicate 1 (zero S68)) 0 (getD v.2.2.1 (toNat d) (zero Ty.str),nearest .f32 a.1.1,a0b .add .f32 (nearest .f32 a.1.1) (nearest .f32 (wrap .i64 (2+g.1.1))),e.1.1,wrap .i64 (e.1.1+h.1.1),());bif a0n (length v.2.2.2.1+length c) then f ((((),(),(),wrap .i64 (v.1.2.2.2.1-1),()),i.2.1,v.2.2.1,v.2.2.2.1++c,()))else none else none else none else none else none else none else none else some (((),(),()),v.2.1,v.2.2.2)
def e4M (v:c0B):Nat:=v.1.2.2.2.1.natAbs+v.2.1.1.length+v.2.1.2.1.natAbs+v.2.1.2.2.1.natAbs+v.2.2.1.length+v.2.2.2.1.length+1000
def d0u (v:c0B):=a0K d0t (e4M v) v
def d4s (v):=(d0u v).isSome
def a9X (v):=(d0u v).getD default
noncomputable def e4N:=gE [m34,m77,f8W,e4J] Tryz.f75 (lps:=[(4,lmX e4L d0u),(29,lmX d4q b7V)])
theorem d8X:EvX e4N (lp Tryz.f75 0) e4L d0t:=fun _ _=>by kernel_rfl
theorem d0v:EvX e4N (lp Tryz.f75 1) d4q b7U:=fun _ _=>by kernel_rfl
theorem f3w:a1o Tryz.prog e4N:=a0L (s4 a2N a5t d4e b3t)
theorem g1J:a7b Tryz.prog 75 e4N (a0N Tryz.f75):=a1F Tryz.func75 rfl rfl rfl (by kernel_rfl) (a0j (by kernel_rfl) (s2 (lX d8X e4M) (lX d0v d4r)))
abbrev e4O:Sg:=⟨[.ptr 0,.val (S33),.val (.int .i64)],[.box (a1M)]⟩
abbrev f3x:Sg:=⟨[.val (S33)],[.box (a1M)]⟩
def e9z (x:e4O.den):Option (f3x.den):=let a:=wrap .i64 ((wrap .i64 (2*x.1.2.2.1))+1);bif K34 (((),a,()),x.2) then let b:=G34 (((),a,()),x.2);bif K34 (((),a,()),b.2) then let c:=G34 (((),a,()),b.2);some (((wrap .i64 ((wrap .i64 (x.1.2.1.1+b.1.1))-x.1.2.2.1),wrap .i64 ((wrap .i64 (x.1.2.1.2.1+c.1.1))-x.1.2.2.1),()),()),c.2)else none else none
def c4n (x):=(e9z x).isSome
def b5y (x):=(e9z x).getD (a0Y f3x)
def f3y:=(143,a0H true e4O f3x c4n b5y)
theorem d4t:a0f Tryz.prog f3y:=sgE true (s1 a2N) Tryz.func143
abbrev e4P:Sg:=⟨[.ptr 0],[.box (a1M)]⟩
abbrev f3z:Sg:=⟨[.val (S33)],[.box (a1M)]⟩
def f3A (x:e4P.den):Option (f3z.den):=bif K77 (((),40,()),x.2) then let b:=G77 (((),40,()),x.2);bif b.1.1 then let i:=set (set (set (set (replicate 4 (zero (Ty.int IntKind.i64))) 0 10000) 1 (-10000)) 2 10001) 3 9223372036854775807;bif c8H (((),(),()),b.2.1,i,()) then let h:=b5x (((),(),()),b.2.1,i,());let a:=set (set (set (replicate 3 (zero (Ty.int IntKind.i64))) 0 10000) 1 0) 2 (-10001);bif c8H (((),(),()),h.2.1,a,()) then let c:=b5x (((),(),()),h.2.1,a,());some (((h.1.1,c.1),()),c.2.1,())else none else none else let j:=set (set (set (replicate 3 (zero (Ty.int IntKind.i64))) 0 4) 1 20) 2 400;bif c8H (((),(),()),b.2.1,j,()) then let d:=b5x (((),(),()),b.2.1,j,());let g:=wrap .i64 ((wrap .i64 (2*d.1.1))+1);bif K34 (((),g,()),d.2.1,()) then let a:=G34 (((),g,()),d.2.1,());bif K34 (((),g,()),a.2) then let e:=G34 (((),g,()),a.2);some (((wrap .i64 (a.1.1-d.1.1),wrap .i64 (e.1.1-d.1.1),()),()),e.2)else none else none else none else none
def d8Y (x):=(f3A x).isSome
def d4u (x):=(f3A x).getD (a0Y f3z)
def f8Y:=(189,a0H true e4P f3z d8Y d4u)
theorem d4v:a0f Tryz.prog f8Y:=sgE true (s3 a5t b3s a2N) Tryz.func189
abbrev e4Q:Sg:=⟨[.ptr 0],[.box (a1M)]⟩
abbrev f3B:Sg:=⟨[.val (S35)],[.box (a1M)]⟩
def e9A (x:e4Q.den):Option (f3B.den):=bif d8Y (((),()),x.2) then let a:=d4u (((),()),x.2);bif d8Y (((),()),a.2) then let b:=d4u (((),()),a.2);some (((a.1.1,b.1),()),b.2)else none else none
def f3C (x):=(e9A x).isSome
def f3D (x):=(e9A x).getD (a0Y f3B)
def f8Z:=(144,a0H true e4Q f3B f3C f3D)
theorem e4R:a0f Tryz.prog f8Z:=sgE true (s1 d4v) Tryz.func144
abbrev I76:Sg:=⟨[.ptr 0],[.box (a1M)]⟩
abbrev O76:Sg:=⟨[.val (S38)],[.box (a1M)]⟩
abbrev a8F:Type:=a7u×e8T
abbrev d4w:Type:=ty5×e8T
def d4x:LX:=⟨[0,2,3],[],3,[2,3],[],⟨li7,li6,4,1⟩,⟨li8,li6,4,1⟩⟩
def b7W (f:a8F->Option (d4w)) (v:a8F):Option (d4w):=bif K34 (((),2,()),v.2.1,()) then let a:=G34 (((),2,()),v.2.1,());let b:=(length v.2.2.2.2.1:Int);bif decide (b<(wrap .i64 (20+a.1.1))) then let c:=set (replicate 1 (zero a2I)) 0 ((b,1000,()),false,());bif a0n (length v.2.2.2.2.1+length c) then f ((((),(),(),()),a.2.1,v.2.2.1,v.2.2.2.1,v.2.2.2.2.1++c,()))else none else some (((),(),()),a.2.1,v.2.2)else none
def d4y (v:a8F):Nat:=v.2.1.1.length+v.2.1.2.1.natAbs+v.2.1.2.2.1.natAbs+v.2.2.1.1.natAbs+v.2.2.1.2.1.natAbs+v.2.2.1.2.2.1.natAbs+v.2.2.1.2.2.2.1.natAbs+v.2.2.1.2.2.2.2.2.1.natAbs+v.2.2.1.2.2.2.2.2.2.1.natAbs+v.2.2.1.2.2.2.2.2.2.2.1.natAbs+v.2.2.1.2.2.2.2.2.2.2.2.1.natAbs+v.2.2.2.1.1.natAbs+v.2.2.2.1.2.1.natAbs+v.2.2.2.1.2.2.1.natAbs+v.2.2.2.1.2.2.2.1.natAbs+v.2.2.2.1.2.2.2.2.2.1.natAbs+v.2.2.2.1.2.2.2.2.2.2.1.natAbs+v.2.2.2.1.2.2.2.2.2.2.2.1.natAbs+v.2.2.2.1.2.2.2.2.2.2.2.2.1.natAbs+v.2.2.2.2.1.length+1000
def b7X (v:a8F):=a0K b7W (d4y v) v
def c4o (v):=(b7X v).isSome
def b5z (v):=(b7X v).getD default
abbrev c4p:Type:=d2S×e8T
abbrev e4S:Type:=a7u×e8T
def e4T:LX:=⟨[0,2,3,4],[.boxNil 3 4],0,[0,2,3],[],⟨[(0,om1),(2,om2),(3,om3),(4,om0)],li6,4,1⟩,⟨li7,li6,4,1⟩⟩
def d0w (f:c4p->Option (e4S)) (v:c4p):Option (e4S):=bif decide (v.1.2.2.2.1>0) then let e:=wrap .i64 (100*Int.tmod (length v.2.2.2.2.1:Int) 2);let b:=(((),(e,0,()),40,()),v.2.1,());bif c4n b then let a:=b5y b;bif K77 (((),2,()),a.2) then let c:=G77 (((),2,()),a.2);let d:=set (replicate 1 (zero a2I)) 0 (a.1.1,c.1);bif a0n (length v.2.2.2.2.1+length d) then f ((((),(),(),wrap .i64 (v.1.2.2.2.1-1),()),c.2.1,v.2.2.1,v.2.2.2.1,v.2.2.2.2.1++d,()))else none else none else none else some (((),(),(),()),v.2)
def e4U (v:c4p):Nat:=v.1.2.2.2.1.natAbs+v.2.1.1.length+v.2.1.2.1.natAbs+v.2.1.2.2.1.natAbs+v.2.2.1.1.natAbs+v.2.2.1.2.1.natAbs+v.2.2.1.2.2.1.natAbs+v.2.2.1.2.2.2.1.natAbs+v.2.2.1.2.2.2.2.2.1.natAbs+v.2.2.1.2.2.2.2.2.2.1.natAbs+v.2.2.1.2.2.2.2.2.2.2.1.natAbs+v.2.2.1.2.2.2.2.2.2.2.2.1.natAbs+v.2.2.2.1.1.natAbs+v.2.2.2.1.2.1.natAbs+v.2.2.2.1.2.2.1.natAbs+v.2.2.2.1.2.2.2.1.natAbs+v.2.2.2.1.2.2.2.2.2.1.natAbs+v.2.2.2.1.2.2.2.2.2.2.1.natAbs+v.2.2.2.1.2.2.2.2.2.2.2.1.natAbs+v.2.2.2.1.2.2.2.2.2.2.2.2.1.natAbs+v.2.2.2.2.1.length+1000
def d0x (v:c4p):=a0K d0w (e4U v) v
def e4V (v):=(d0x v).isSome
def c4q (v):=(d0x v).getD default
def F76 (x:I76.den):Option (O76.den):=bif K34 (((),9,()),x.2) then let g:=G34 (((),9,()),x.2);bif K34 (((),3,()),g.2) then let h:=G34 (((),3,()),g.2);let n:=wrap .i64 (1+h.1.1);let o:=wrap .i64 (g.1.1-4);let i:=(((),(),(),n,()),h.2.1,(0,0,0,0,(),0,0,0,0,()),(0,-20,o,20,(),0,0,0,0,()),[],());bif e4V i then let a:=c4q i;let j:=(((),(50,-20,()),20,()),a.2.1,());bif c4n j then let e:=b5y j;let k:=(((),(50,20,()),20,()),e.2);bif c4n k then let d:=b5y k;bif K34 (((),20,()),d.2) then let b:=G34 (((),20,()),d.2);bif b.1.1==0 then some (((((a.2.2.2.1.1,a.2.2.2.1.2.1,()),(a.2.2.2.1.2.2.1,a.2.2.2.1.2.2.2.1,()),()),replicate 0 (zero a2I),(e.1.1,d.1),()),()),b.2)else bif b.1.1==1 then bif decide (0<=0)&&decide (0<(length a.2.2.2.2.1:Int)) then let l:=(a.2.2.2.1.1,a.2.2.2.1.2.1,());some ((((l,(a.2.2.2.1.2.2.1,a.2.2.2.1.2.2.2.1,()),()),set a.2.2.2.2.1 (toNat 0) (l,(getD a.2.2.2.2.1 (toNat 0) (zero a2I)).2),(e.1.1,d.1),()),()),b.2)else none else bif b.1.1==2 then bif f3C (((),()),b.2) then let c:=f3D (((),()),b.2);some (((c.1.1,a.2.2.2.2.1,(e.1.1,d.1),()),()),c.2)else none else bif b.1.1==3 then some (((((a.2.2.2.1.1,a.2.2.2.1.2.1,()),(a.2.2.2.1.2.2.1,a.2.2.2.1.2.2.2.1,()),()),a.2.2.2.2.1,(d.1.1,d.1),()),()),b.2)else bif b.1.1==4 then let m:=(((),(),(),()),b.2.1,(a.2.2.1.1,a.2.2.1.2.1,a.2.2.1.2.2.1,a.2.2.1.2.2.2.1,(),a.2.2.1.2.2.2.2.2),(a.2.2.2.1.1,a.2.2.2.1.2.1,a.2.2.2.1.2.2.1,a.2.2.2.1.2.2.2.1,(),e.1.1.1,e.1.1.2.1,d.1.1),a.2.2.2.2);bif c4o m then let c:=b5z m;some (((((c.2.2.2.1.1,c.2.2.2.1.2.1,()),(c.2.2.2.1.2.2.1,c.2.2.2.1.2.2.2.1,()),()),c.2.2.2.2.1,((c.2.2.2.1.2.2.2.2.2.1,c.2.2.2.1.2.2.2.2.2.2.1,()),c.2.2.2.1.2.2.2.2.2.2.2,()),()),()),c.2.1,())else none else some (((((a.2.2.2.1.1,a.2.2.2.1.2.1,()),(a.2.2.2.1.2.2.1,a.2.2.2.1.2.2.2.1,()),()),a.2.2.2.2.1,(e.1.1,d.1),()),()),b.2)else none else none else none else none else none else none
def K76 (x):=(F76 x).isSome
def G76 (x):=(F76 x).getD (a0Y O76)
def m76:=(76,a0H true I76 O76 K76 G76)
noncomputable def f9a:=gE [m34,f3y,m77,f8Z] Tryz.f76 (lps:=[(3,lmX e4T d0x),(18,lmX d4x b7X)]) (rown:=[.frzBox 2])
theorem d8Z:EvX f9a (lp Tryz.f76 0) e4T d0w:=fun _ _=>by kernel_rfl
theorem d0y:EvX f9a (lp Tryz.f76 1) d4x b7W:=fun _ _=>by kernel_rfl
theorem f3E:a0f Tryz.prog m76:=a2Y (a0L (s4 a2N d4t a5t e4R)) (a1F Tryz.func76 rfl rfl rfl (by kernel_rfl) (a0j (by kernel_rfl) (s2 (lX d8Z e4U) (lX d0y d4y)))) true fun _=>by kernel_rfl
abbrev I33:Sg:=⟨[.ptr 0,.val (.int .i64)],[.box (a1M)]⟩
abbrev O33:Sg:=⟨[.val (.cpx .f64)],[.box (a1M)]⟩
def F33 (x:I33.den):Option (O33.den):=bif K81 (((),x.1.2),x.2) then let a:=G81 (((),x.1.2),x.2);bif K81 (((),x.1.2),a.2) then let b:=G81 (((),x.1.2),a.2);some (((a.1.1,b.1.1),()),b.2)else none else none
def K33 (x):=(F33 x).isSome
def G33 (x):=(F33 x).getD (a0Y O33)
def m33:=(33,a0H true I33 O33 K33 G33)
theorem e4W:a0f Tryz.prog m33:=sgE true (s1 e4E) Tryz.func33
abbrev e9B:Ty:=.cons (.slice (.int .u8)) (.nil)
abbrev f3F:Ty:=.cons (.cpx .f64) (.nil)
def e9C (x:Den e9B):OD f3F:=bif K30 (x,()) then let d:=G30 (x,());bif K33 (((),1000,()),d.2) then let b:=G33 (((),1000,()),d.2);bif K34 (((),6,()),b.2) then let a:=G34 (((),6,()),b.2);bif a.1.1==0 then some ((4726483295884279808,13949855332739055616),())else bif a.1.1==1 then some ((b.1.1.1,4726483295884279809),())else bif a.1.1==2 then bif d4l (((),()),a.2) then let c:=d4m (((),()),a.2);bif d4l (((),()),c.2) then some ((c.1.1,(d4m (((),()),c.2)).1.1),())else none else none else some b.1 else none else none else none
def f3G (x):=(e9C x).isSome
def f9b (x):=(e9C x).getD (zero f3F)
def f9c:=(145,a0c e9B f3F f3G f9b)
theorem e4X:a0f Tryz.prog f9c:=fnE (s4 e4r e4W a2N c4l) Tryz.func145
abbrev a9n:Sg:=⟨[.ptr 0],[.box (a1M)]⟩
abbrev b1V:Sg:=⟨[.val (.cpx .f32)],[.box (a1M)]⟩
noncomputable def d9a:=gE [m77,f8X,f3u] Tryz.f128
theorem e4Y:a1o Tryz.prog d9a:=a0L (s3 a5t c4l b3s)
theorem f3H:a7b Tryz.prog 128 d9a (a0N Tryz.f128):=a1F Tryz.func128 rfl rfl rfl (by kernel_rfl) (a2Z (by kernel_rfl))
abbrev I79:Sg:=⟨[.ptr 0],[.box (a1M)]⟩
abbrev O79:Sg:=⟨[.val (S30)],[.box (a1M)]⟩
abbrev b3u:Type:=a7u×e8W
abbrev d4z:Type:=ty5×e8W
def d4A:LX:=⟨[0,2,3],[],1,[2,3],[],⟨li7,li4,5,1⟩,⟨li8,li4,5,1⟩⟩
def b7Y (f:b3u->Option (d4z)) (v:b3u):Option (d4z):=bif K34 (((),2,()),v.2.1,()) then let a:=G34 (((),2,()),v.2.1,());let b:=(length v.2.2.2.2.1:Int);bif decide (b<(wrap .i64 (20+a.1.1))) then bif decide (0<=0)&&decide (0<b) then let c:=set (replicate 1 (zero a1B)) 0 (getD v.2.2.2.2.1 (toNat 0) (zero a1B));bif a0n (length v.2.2.2.2.1+length c) then f ((((),(),(),()),a.2.1,((),(),()),((),(),()),v.2.2.2.2.1++c,v.2.2.2.2.2))else none else none else some (((),(),()),a.2.1,((),(),()),((),(),()),v.2.2.2.2)else none
def c4r (v:b3u):Nat:=v.2.1.1.length+v.2.1.2.1.natAbs+v.2.1.2.2.1.natAbs+v.2.2.2.2.1.length+v.2.2.2.2.2.1.length+1000
def b7Z (v:b3u):=a0K b7Y (c4r v) v
def b5A (v):=(b7Z v).isSome
def b5B (v):=(b7Z v).getD default
noncomputable def e9D:=gE [m74,m34,m82,f9c,e4J] Tryz.f79 (lps:=[(15,lmX d4A b7Z)]) (rown:=[.frzBox 2])
theorem d0z:EvX e9D (lp Tryz.f79 0) d4A b7Y:=fun _ _=>by kernel_rfl
theorem f3I:a1o Tryz.prog e9D:=a0L (s5 e4C a2N e4s e4X b3t)
theorem g1K:a7b Tryz.prog 79 e9D (a0N Tryz.f79):=a1F Tryz.func79 rfl rfl rfl (by kernel_rfl) (a0j (by kernel_rfl) (s1 (lX d0z c4r)))
abbrev I67:Sg:=⟨[.ptr 0,.val (S40)],[.box (a1M)]⟩
abbrev O67:Sg:=⟨[.val (.str)],[.box (a1M)]⟩
def F67 (x:I67.den):Option (O67.den):=bif K34 (((),12,()),x.2) then let b:=G34 (((),12,()),x.2);bif b.1.1==0 then bif K34 (((),365,()),b.2) then let a:=G34 (((),365,()),b.2);bif b3i a.1 then let c:=a6L a.1;bif decide (ByteArray.size { data:=#[115,116,101,101,114,32] }+ByteArray.size c.1<=9223372036854775807) then some (({ data:=#[115,116,101,101,114,32] }++c.1,()),a.2)else none else none else none else bif b.1.1==1 then bif K34 (((),365,()),b.2) then let a:=G34 (((),365,()),b.2);bif b3i a.1 then let c:=a6L a.1;bif decide (ByteArray.size { data:=#[115,116,101,101,114,32] }+ByteArray.size c.1<=9223372036854775807) then some (({ data:=#[115,116,101,101,114,32] }++c.1,()),a.2)else none else none else none else bif b.1.1==2 then bif K34 (((),25,()),b.2) then let a:=G34 (((),25,()),b.2);let c:=wrap .i64 ((wrap .i64 (1000*a.1.1))-12000);bif K83 (c,()) then let h:=G83 (c,());bif decide (ByteArray.size { data:=#[119,105,110,100,32] }+ByteArray.size h.1<=9223372036854775807) then let k:={ data:=#[119,105,110,100,32] }++h.1;bif decide (ByteArray.size k+ByteArray.size { data:=#[32] }<=9223372036854775807) then bif K34 (((),49,()),a.2) then let d:=G34 (((),49,()),a.2);let e:=wrap .i64 ((wrap .i64 (500*d.1.1))-12000);bif K83 (e,()) then let i:=k++{ data:=#[32] };let g:=G83 (e,());bif decide (ByteArray.size i+ByteArray.size g.1<=9223372036854775807) then some ((i++g.1,()),d.2)else none else none else none else none else none else none else none else bif b.1.1==3 then bif K34 (((),25,()),b.2) then let a:=G34 (((),25,()),b.2);let c:=wrap .i64 ((wrap .i64 (1000*a.1.1))-12000);bif K83 (c,()) then let h:=G83 (c,());bif decide (ByteArray.size { data:=#[119,105,110,100,32] }+ByteArray.size h.1<=9223372036854775807) then let k:={ data:=#[119,105,110,100,32] }++h.1;bif decide (ByteArray.size k+ByteArray.size { data:=#[32] }<=9223372036854775807) then bif K34 (((),49,()),a.2) then let d:=G34 (((),49,()),a.2);let e:=wrap .i64 ((wrap .i64 (500*d.1.1))-12000);bif K83 (e,()) then let i:=k++{ data:=#[32] };let g:=G83 (e,());bif decide (ByteArray.size i+ByteArray.size g.1<=9223372036854775807) then some ((i++g.1,()),d.2)else none else none else none else none else none else none else none else bif b.1.1==4 then let o:=(length x.1.2.1.2.2.1:Int);bif decide (o>0) then bif K77 (((),5,()),b.2) then let a:=G77 (((),5,()),b.2);bif !a.1.1 then bif K34 (((),o,()),a.2) then let c:=G34 (((),o,()),a.2);bif decide (0<=c.1.1)&&decide (c.1.1<o) then let j:=getD x.1.2.1.2.2.1 (toNat c.1.1) (zero S68);bif decide (ByteArray.size { data:=#[115,97,105,108,32] }+ByteArray.size j.1<=9223372036854775807) then some (({ data:=#[115,97,105,108,32] }++j.1,()),c.2)else none else none else none else some (({ data:=#[115,97,105,108,32] }++{ data:=#[110,111,110,101] },()),a.2)else none else some (({ data:=#[115,97,105,108,32] }++{ data:=#[110,111,110,101] },()),b.2)else bif b.1.1==5 then let p:=(length x.1.2.1.2.2.1:Int);bif decide (p>0) then bif K77 (((),5,()),b.2) then let a:=G77 (((),5,()),b.2);bif !a.1.1 then bif K34 (((),p,()),a.2) then let c:=G34 (((),p,()),a.2);bif decide (0<=c.1.1)&&decide (c.1.1<p) then let j:=getD x.1.2.1.2.2.1 (toNat c.1.1) (zero S68);bif decide (ByteArray.size { data:=#[115,97,105,108,32] }+ByteArray.size j.1<=9223372036854775807) then some (({ data:=#[115,97,105,108,32] }++j.1,()),c.2)else none else none else none else some (({ data:=#[115,97,105,108,32] }++{ data:=#[110,111,110,101] },()),a.2)else none else some (({ data:=#[115,97,105,108,32] }++{ data:=#[110,111,110,101] },()),b.2)else bif b.1.1==6 then bif K34 (((),200000,()),b.2) then let a:=G34 (((),200000,()),b.2);let q:=wrap .i64 (a.1.1-100000);bif K83 (q,()) then let j:=G83 (q,());bif decide (ByteArray.size { data:=#[102,105,120,32] }+ByteArray.size j.1<=9223372036854775807) then let h:={ data:=#[102,105,120,32] }++j.1;bif decide (ByteArray.size h+ByteArray.size { data:=#[32,32] }<=9223372036854775807) then bif K34 (((),200000,()),a.2) then let l:=G34 (((),200000,()),a.2);let d:=wrap .i64 (l.1.1-100000);bif K83 (d,()) then let e:=h++{ data:=#[32,32] };let m:=G83 (d,());bif decide (ByteArray.size e+ByteArray.size m.1<=9223372036854775807) then some ((e++m.1,()),l.2)else none else none else none else none else none else none else none else bif b.1.1==7 then let g:=set (set (set (set (set (set (set (set (set (set (set (set (set (set (replicate 14 (zero Ty.str)) 0 { data:=#[] }) 1 { data:=#[103,111] }) 2 { data:=#[103,111,32,48] }) 3 { data:=#[103,111,32,51,54,48,49] }) 4 { data:=#[103,111,32,49,32,50] }) 5 { data:=#[115,116,101,101,114,32,51,54,48] }) 6 { data:=#[115,116,101,101,114,32,48,48] }) 7 { data:=#[115,97,105,108] }) 8 { data:=#[119,105,110,100,32,49,32,50] }) 9 { data:=#[119,105,110,100,32,49,48,49,46,48,48,48,32,48,46,48,48,48] }) 10 { data:=#[102,105,120,32,49,48,48,48,48,46,53,48,48,32,48,46,48,48,48] }) 11 { data:=#[116,97,99,107,32,49] }) 12 { data:=#[32,115,97,105,108,32,32,110,111,110,101,32] }) 13 { data:=#[115,116,101,101,114,32,45,49] };let r:=(((),(),()),b.2.1,g,());bif e4u r then let n:=d8P r;some (n.1,n.2.1,())else none else bif K34 (((),40,()),b.2) then let a:=G34 (((),40,()),b.2);bif K34 (((),40,()),a.2) then let c:=G34 (((),40,()),a.2);let h:=wrap .i64 (1+(wrap .i64 (a.1.1*c.1.1)));bif b3i (h,()) then let l:=a6L (h,());bif decide (ByteArray.size { data:=#[103,111,32] }+ByteArray.size l.1<=9223372036854775807) then some (({ data:=#[103,111,32] }++l.1,()),c.2)else none else none else none else none else none
def K67 (x):=(F67 x).isSome
def G67 (x):=(F67 x).getD (a0Y O67)
def m67:=(67,a0H true I67 O67 K67 G67)
theorem f3J:a0f Tryz.prog m67:=sgE true (s5 a2N c3M d8D a5t d4e) Tryz.func67
abbrev I35:Sg:=⟨[.ptr 0,.val (S40)],[.box (a1M)]⟩
abbrev O35:Sg:=⟨[.own (.str) 1],[.box (a1M),.arr (.str)]⟩
abbrev b3v:Type:=d2S×ty2×(b2V×ty4×d2Q×c8E×ty4×b4I×d8r)×d2R
abbrev e4Z:Type:=a5r×ty2×d2R
def e5a:LX:=⟨[0,3,5,6],[],0,[5],[],⟨[(0,om1),(3,om2),(5,.one (.ref (.str) 2)),(6,om0)],[(0,bx0),(1,f8g),(2,.arr (.str))],3,1⟩,⟨[(5,.one (.ref (.str) 1))],[(0,bx0),(1,.arr (.str))],2,1⟩⟩
def d0A (f:b3v->Option (e4Z)) (v:b3v):Option (e4Z):=bif decide (v.1.2.2.2.1>0) then let a:=(((),((v.2.2.1.1,v.2.2.1.2.1,v.2.2.1.2.2.1,()),(v.2.2.1.2.2.2.1,v.2.2.1.2.2.2.2.1,()),v.2.2.1.2.2.2.2.2.1,(((v.2.2.1.2.2.2.2.2.2.1,v.2.2.1.2.2.2.2.2.2.2.1,()),(v.2.2.1.2.2.2.2.2.2.2.2.1,v.2.2.1.2.2.2.2.2.2.2.2.2.1,()),()),v.2.2.1.2.2.2.2.2.2.2.2.2.2.1,((v.2.2.1.2.2.2.2.2.2.2.2.2.2.2.1,v.2.2.1.2.2.2.2.2.2.2.2.2.2.2.2.1,()),v.2.2.1.2.2.2.2.2.2.2.2.2.2.2.2.2,()),()),()),()),v.2.1,());bif K67 a then let b:=G67 a;let c:=set (replicate 1 (zero Ty.str)) 0 b.1.1;bif a0n (length v.2.2.2.1+length c) then f ((((),(),(),wrap .i64 (v.1.2.2.2.1-1),()),b.2.1,v.2.2.1,v.2.2.2.1++c,()))else none else none else some (((),()),v.2.1,v.2.2.2)
def e5b (v:b3v):Nat:=v.1.2.2.2.1.natAbs+v.2.1.1.length+v.2.1.2.1.natAbs+v.2.1.2.2.1.natAbs+v.2.2.1.1.length+v.2.2.1.2.1.length+v.2.2.1.2.2.1.length+v.2.2.1.2.2.2.1.length+v.2.2.1.2.2.2.2.1.length+v.2.2.1.2.2.2.2.2.1.length+v.2.2.1.2.2.2.2.2.2.1.natAbs+v.2.2.1.2.2.2.2.2.2.2.1.natAbs+v.2.2.1.2.2.2.2.2.2.2.2.1.natAbs+v.2.2.1.2.2.2.2.2.2.2.2.2.1.natAbs+v.2.2.1.2.2.2.2.2.2.2.2.2.2.1.length+v.2.2.1.2.2.2.2.2.2.2.2.2.2.2.1.natAbs+v.2.2.1.2.2.2.2.2.2.2.2.2.2.2.2.1.natAbs+v.2.2.1.2.2.2.2.2.2.2.2.2.2.2.2.2.1.natAbs+v.2.2.1.2.2.2.2.2.2.2.2.2.2.2.2.2.2.1.natAbs+v.2.2.2.1.length+1000
def d0B (v:b3v):=a0K d0A (e5b v) v
def b3w (v):=(d0B v).isSome
def a9Y (v):=(d0B v).getD default
def F35 (x:I35.den):Option (O35.den):=bif K34 (((),33,()),x.2) then let i:=G34 (((),33,()),x.2);let l:=wrap .i64 ((wrap .i64 (500*i.1.1))-8000);bif K83 (l,()) then let m:=G83 (l,());bif decide (ByteArray.size { data:=#[119,105,110,100,32] }+ByteArray.size m.1<=9223372036854775807) then let n:={ data:=#[119,105,110,100,32] }++m.1;bif decide (ByteArray.size n+ByteArray.size { data:=#[32] }<=9223372036854775807) then bif K34 (((),33,()),i.2) then let c:=G34 (((),33,()),i.2);let d:=wrap .i64 ((wrap .i64 (500*c.1.1))-8000);bif K83 (d,()) then let a:=n++{ data:=#[32] };let b:=G83 (d,());bif decide (ByteArray.size a+ByteArray.size b.1<=9223372036854775807) then let o:=(length x.1.2.1.2.2.1:Int);bif decide (o>0) then bif decide (0<=0)&&decide (0<o) then let e:=getD x.1.2.1.2.2.1 (toNat 0) (zero S68);bif decide (ByteArray.size { data:=#[115,97,105,108,32] }+ByteArray.size e.1<=9223372036854775807) then bif K34 (((),9,()),c.2) then let g:=G34 (((),9,()),c.2);let p:=replicate 1 (zero Ty.str);let j:=(set p 0 (a++b.1))++(set p 0 ({ data:=#[115,97,105,108,32] }++e.1));let q:=(((),(),(),g.1),g.2.1,(x.1.2.1.1.1,x.1.2.1.1.2.1,x.1.2.1.1.2.2.1,x.1.2.1.2.1.1,x.1.2.1.2.1.2.1,x.1.2.1.2.2.1,x.1.2.1.2.2.2.1.1.1.1,x.1.2.1.2.2.2.1.1.1.2.1,x.1.2.1.2.2.2.1.1.2.1.1,x.1.2.1.2.2.2.1.1.2.1.2.1,x.1.2.1.2.2.2.1.2.1,x.1.2.1.2.2.2.1.2.2.1.1.1,x.1.2.1.2.2.2.1.2.2.1.1.2.1,x.1.2.1.2.2.2.1.2.2.1.2.1),j,());bif b3w q then some (((),()),(a9Y q).2)else none else none else none else none else bif K34 (((),9,()),c.2) then let h:=G34 (((),9,()),c.2);let k:=set (replicate 1 (zero Ty.str)) 0 (a++b.1);let r:=(((),(),(),h.1),h.2.1,(x.1.2.1.1.1,x.1.2.1.1.2.1,x.1.2.1.1.2.2.1,x.1.2.1.2.1.1,x.1.2.1.2.1.2.1,x.1.2.1.2.2.1,x.1.2.1.2.2.2.1.1.1.1,x.1.2.1.2.2.2.1.1.1.2.1,x.1.2.1.2.2.2.1.1.2.1.1,x.1.2.1.2.2.2.1.1.2.1.2.1,x.1.2.1.2.2.2.1.2.1,x.1.2.1.2.2.2.1.2.2.1.1.1,x.1.2.1.2.2.2.1.2.2.1.1.2.1,x.1.2.1.2.2.2.1.2.2.1.2.1),k,());bif b3w r then some (((),()),(a9Y r).2)else none else none else none else none else none else none else none else none else none
def K35 (x):=(F35 x).isSome
def G35 (x):=(F35 x).getD (a0Y O35)
def m35:=(35,a0H true I35 O35 K35 G35)
noncomputable def g1L:=gE [m34,m83,m67] Tryz.f35 (lps:=[(5,lmX e5a d0B)])
theorem d9b:EvX g1L (lp Tryz.f35 0) e5a d0A:=fun _ _=>by kernel_rfl
theorem f3K:a0f Tryz.prog m35:=a2Y (a0L (s3 a2N d8D f3J)) (a1F Tryz.func35 rfl rfl rfl (by kernel_rfl) (a0j (by kernel_rfl) (s1 (lX d9b e5b)))) true fun _=>by kernel_rfl
def a0a (c:List Int×Int×Int×Unit):Prop:=0<=c.2.1 /\ c.1.length<=1048576
theorem b8a (a:Int):0<=a1Q .and .i64 a 255 /\ a1Q .and .i64 a 255<=255:=by
 have h:(BitVec.ofInt IntKind.i64.bits a &&& BitVec.ofInt IntKind.i64.bits 255).toNat<=255:=by
  rw[BitVec.toNat_and];exact Nat.and_le_right
 have e:a1Q .and .i64 a 255=IntKind.i64.wrap ((BitVec.ofInt IntKind.i64.bits a &&& BitVec.ofInt IntKind.i64.bits 255).toNat:Int):=rfl;rw[e,w64 (by omega) (by omega)];omega
theorem b3x (x:I82.den) (h:a0a x.2.1):K82 x=true:=by
 unfold K82 F82;have a:decide (0<=x.2.1.2.1)=true:=decide_eq_true h.1;cases hc:decide (x.2.1.2.1<(x.2.1.1.length:Int))<;>simp only[a,Bool.and_self,cond_true,cond_false,isSome_some]
theorem b3y (x:I82.den) (h:a0a x.2.1):a0a (G82 x).2.1 /\ 0<=(G82 x).1.1 /\ (G82 x).1.1<=255:=by
 unfold G82 F82;have d:decide (0<=x.2.1.2.1)=true:=decide_eq_true h.1;have f:=h.2;have e:0<=x.2.1.2.1:=h.1;by_cases a:x.2.1.2.1<(x.2.1.1.length:Int)
 ·have b:x.2.1.2.1<1048576:=by
   have:((x.2.1.1.length:Nat):Int)<=1048576:=by omega
   exact Int.lt_of_lt_of_le a this
  have c:decide (x.2.1.2.1<(x.2.1.1.length:Int))=true:=decide_eq_true a;simp only[c,d,Bool.and_self,cond_true,getD_some];refine⟨⟨?_,f⟩,(b8a _).1,(b8a _).2⟩;have g:∀n:Int,0<=n->n<1048576->0<=IntKind.i64.wrap (n+1):=fun n d i=>by rw[w64 (by omega) (by omega)];omega
  exact g _ e b
 ·have c:decide (x.2.1.2.1<(x.2.1.1.length:Int))=false:=decide_eq_false a;simp only[c,cond_false,getD_some];exact⟨⟨e,f⟩,(b8a _).1,(b8a _).2⟩
theorem d9c (x:I82.den) (h:a0a x.2.1):a0a (G82 x).2.1:=(b3y x h).1
theorem b1q {a n:Int} (h:0<=a) (b:0<n):0<=Int.tmod a n /\ Int.tmod a n<n:=by
 rw[Int.tmod_eq_emod_of_nonneg h];exact⟨Int.emod_nonneg _ (by omega),Int.emod_lt_of_pos _ b⟩
theorem a7I (n:Int) (c:List Int×Int×Int×Unit) (h:a0a c):∃(m:Int) (c':List Int×Int×Int×Unit),F34 (((),n,()),(c,()))=some ((m,()),(c',())) /\ a0a c' /\ 0<=m /\ (0<n->m<n):=by
 unfold F34;by_cases i:n<=0
 ·have:decide (n<=0)=true:=decide_eq_true i;simp only[this,cond_true];exact⟨0,c,rfl,h,by omega,fun h=>by omega⟩
 ·have l:decide (n<=0)=false:=decide_eq_false i;have o:(n != 0)=true:=by simp;omega
  have p:=b3x (((),()),(c,())) h;obtain⟨b,e,A⟩:=b3y (((),()),(c,())) h;simp only[l,cond_false,p,cond_true,o];generalize G82 (((),()),(c,()))=g1 at *;by_cases d:n<=256
  ·have:decide (n<=256)=true:=decide_eq_true d;simp only[this,cond_true];exact⟨_,g1.2.1,rfl,b,(b1q e (by omega)).1,fun _=>(b1q e (by omega)).2⟩
  ·have:decide (n<=256)=false:=decide_eq_false d;simp only[this,cond_false];have q:=b3x (((),()),g1.2) b;obtain⟨f,t,B⟩:=b3y (((),()),g1.2) b;simp only[q,cond_true];generalize G82 (((),()),g1.2)=g2 at *;have r:=b3x (((),()),g2.2) f;obtain⟨g,u,C⟩:=b3y (((),()),g2.2) f;simp only[r,cond_true];generalize G82 (((),()),g2.2)=g3 at *;have s:=b3x (((),()),g3.2) g;obtain⟨k,v,D⟩:=b3y (((),()),g3.2) g;simp only[s,cond_true];generalize G82 (((),()),g3.2)=g4 at *;have a:∀x y z w:Int,0<=x->x<=255->0<=y->y<=255->0<=z->z<=255->0<=w->w<=255 ->
    0<=IntKind.i64.wrap (IntKind.i64.wrap (IntKind.i64.wrap (IntKind.i64.wrap (x*16777216)+IntKind.i64.wrap (y*65536))+IntKind.i64.wrap (z*256))+w):=by
    intro x y z w H d I J K L M N;have w1:IntKind.i64.wrap (x*16777216)=x*16777216:=w64 (by omega) (by omega);have w2:IntKind.i64.wrap (y*65536)=y*65536:=w64 (by omega) (by omega);have E:IntKind.i64.wrap (z*256)=z*256:=w64 (by omega) (by omega);have F:IntKind.i64.wrap (x*16777216+y*65536)=x*16777216+y*65536:=w64 (by omega) (by omega);have G:IntKind.i64.wrap (x*16777216+y*65536+z*256)=x*16777216+y*65536+z*256:=w64 (by omega) (by omega);rw[w1,w2,E,F,G,w64 (by omega) (by omega)];omega
   have j:=a g1.1.1 g2.1.1 g3.1.1 g4.1.1 e A t B u C v D;exact⟨_,g4.2.1,rfl,k,(b1q j (by omega)).1,fun _=>(b1q j (by omega)).2⟩
theorem a0k (x:I34.den) (h:a0a x.2.1):K34 x=true:=by
 obtain⟨m,c,a,_⟩:=a7I x.1.2.1 x.2.1 h;unfold K34;rw[show x=(((),x.1.2.1,()),(x.2.1,()))from rfl,a];rfl
theorem d4B (x:I34.den) (h:a0a x.2.1):a0a (G34 x).2.1 /\ 0<=((G34 x).1.1:Int) /\ ((0:Int)<x.1.2.1->((G34 x).1.1:Int)<x.1.2.1):=by
 obtain⟨m,c,e,a,b,d⟩:=a7I x.1.2.1 x.2.1 h;unfold G34;rw[show F34 x=_ from e];exact⟨a,b,d⟩
theorem a0D (x:I34.den) (h:a0a x.2.1):a0a (G34 x).2.1:=(d4B x h).1
theorem a1j (x:I77.den) (h:a0a x.2.1):K77 x=true:=by
 unfold K77 F77;simp only[a0k (((),x.1.2),x.2) h,cond_true,isSome_some]
theorem a1g (x:I77.den) (h:a0a x.2.1):a0a (G77 x).2.1:=by
 unfold G77 F77;simp only[a0k (((),x.1.2),x.2) h,cond_true,getD_some];exact a0D (((),x.1.2),x.2) h
theorem c4s (l:List Int) (c:List Int×Int×Int×Unit) (h:a0a c) (k:0<l.length):∃(m:Int) (c':List Int×Int×Int×Unit),e4H (((),(),()),(c,l,()))=some ((m,()),(c',l,())) /\ a0a c' /\ m∈l:=by
 obtain⟨m,a,j,e,f,g⟩:=a7I (l.length:Int) c h;unfold e4H;have b:decide (0<=m)=true:=decide_eq_true f;have i:m<(l.length:Int):=g (by omega);have d:decide (m<(l.length:Int))=true:=decide_eq_true i;simp only[K34,G34,j,isSome_some,getD_some,cond_true,b,d,Bool.and_self];refine⟨_,a,rfl,e,?_⟩;rw[a3Z _ _ _ (by omega)];exact List.getElem_mem _
theorem a4z (x:e4G.den) (h:a0a x.2.1) (b:0<x.2.2.1.length):c8H x=true:=by
 obtain⟨m,c,a,_⟩:=c4s x.2.2.1 x.2.1 h b;unfold c8H;rw[show x=(((),(),()),(x.2.1,x.2.2.1,()))from rfl,a];rfl
theorem d9d (x:e4G.den) (h:a0a x.2.1) (e:0<x.2.2.1.length):a0a (b5x x).2.1 /\ (b5x x).1.1∈x.2.2.1:=by
 obtain⟨m,c,d,a,b⟩:=c4s x.2.2.1 x.2.1 h e;unfold b5x;rw[show e4H x=_ from d];exact⟨a,b⟩
theorem a3m (x:e4G.den) (h:a0a x.2.1) (a:0<x.2.2.1.length):a0a (b5x x).2.1:=(d9d x h a).1
theorem d4C (a:List Int) (h:a.length<=1048576):∃c,F30 ((a,()),())=some (((),()),(c,())) /\ a0a c:=by
 have g:∃y,d0k ((a,IntKind.i64.wrap (33211+(a.length:Int)),(0:Int),()),())=some y /\ y.1.1=a:=by
  refine a0C (q:=d0j) (fun v=>v.1.1=a /\ 0<=v.1.2.2.1 /\ v.1.2.2.1<=a.length) (fun _ r=>∃y,r=some y /\ y.1.1=a) (fun v=>((a.length:Int)-v.1.2.2.1).toNat) ?_ _ _ ⟨rfl,by simp only;omega,by simp only;omega⟩ (by simp only[d8N];omega);rintro⟨⟨l,hh,i,_⟩,_⟩ f ⟨h0,h1,h2⟩ ih;simp only at h0 h1 h2 ih;subst h0;unfold d0j;by_cases b:i<(l.length:Int)
  ·have a1:decide (0<=i)=true:=by simp;omega
   have a2:decide (i<(l.length:Int))=true:=by simpa using b
   have d:IntKind.i64.wrap (i+1)=i+1:=w64 (by omega) (by omega);simp only[a1,a2,d,Bool.and_self,cond_true];cases decide (i<4000)
   ·exact⟨_,rfl,rfl⟩
   ·exact ih ((l,_,i+1,()),()) ⟨rfl,by simp only;omega,by simp only;omega⟩ (by simp only;omega)
  ·have a2:decide (i<(l.length:Int))=false:=by simpa using b
   simp only[a2,cond_false];exact⟨_,rfl,rfl⟩
 obtain⟨y,j,e⟩:=g;unfold F30;simp only[d4c,d4d,j,isSome_some,getD_some,cond_true];refine⟨_,rfl,?_,?_⟩
 ·exact Int.le_refl 0
 ·rw[e];exact h
theorem d4D (x:I30.den) (h:x.1.1.length<=1048576):K30 x=true:=by
 obtain⟨c,a,_⟩:=d4C x.1.1 h;unfold K30;rw[show x=((x.1.1,()),())from rfl,a];rfl
theorem c4t (x:I30.den) (h:x.1.1.length<=1048576):a0a (G30 x).2.1:=by
 obtain⟨c,b,a⟩:=d4C x.1.1 h;unfold G30;rw[show F30 x=_ from b];exact a
theorem cu {c} (h:a0a c:=by(repeat ((try dsimp only);first|assumption|(with_reducible first|apply G142_cur|apply G81_cur|apply G146_cur|apply a0D|apply a1g|apply G144_cur|apply G189_cur|apply G143_cur|apply G129_cur|apply G76_cur|apply G127_cur|apply G33_cur)))):a0a c:=h
noncomputable def f9d:a6I:=mkN [] []
noncomputable def e5c (h:a6M.den->Option Unit) (x:a4M.den):Option Unit:=bif K81 (((),x.1.2),x.2) then let a:=G81 (((),x.1.2),x.2);bif a1J a.1.1 then let b:=a0y .f64 .f32 a.1.1;bif b.1 then h (((b.2,()),a.2))else none else a3u fun(c:a8v)=>h (((c.1,()),a.2))else none
theorem e5d (h x) :a4i (d8W) (f9d) (a0N Tryz.f141) a4M a6M h x=e5c h x:=by kernel_rfl
noncomputable def f9e (p141:KI a4M) (Q141:QI a4M a6M) (e141:Nonempty (Ch a4M a6M p141 Q141)):a6I:=mkN [(141,a2w true a4M a6M p141 Q141 e141)] []
noncomputable def e5e (p141:KI a4M) (Q141:QI a4M a6M) (e141:Nonempty (Ch a4M a6M p141 Q141)) (h:b1V.den->Option Unit) (x:a9n.den):Option Unit:=bif K77 (((),30,()),x.2) then let c:=G77 (((),30,()),x.2);bif c.1.1 then bif d4l (((),()),c.2) then let b:=d4m (((),()),c.2);bif a1J b.1.1 then let g:=a0y .f64 .f32 b.1.1;bif g.1 then bif d4l (((),()),b.2) then let a:=d4m (((),()),b.2);bif a1J a.1.1 then let j:=a0y .f64 .f32 a.1.1;bif j.1 then h ((((g.2,j.2),()),a.2))else none else a3u fun(n:a8v)=>h ((((g.2,n.1),()),a.2))else none else none else a3u fun(o:a8v)=>bif d4l (((),()),b.2) then let a:=d4m (((),()),b.2);bif a1J a.1.1 then let k:=a0y .f64 .f32 a.1.1;bif k.1 then h ((((o.1,k.2),()),a.2))else none else a3u fun(n:a8v)=>h ((((o.1,n.1),()),a.2))else none else none else bif K77 (((),20,()),c.2) then let b:=G77 (((),20,()),c.2);bif b.1.1 then let d:=set (set (set (set (replicate 4 (zero (Ty.int IntKind.i64))) 0 100) 1 (-100)) 2 101) 3 0;bif c8H (((),(),()),b.2.1,d,()) then a3u fun(l:Ch a4M a6M p141 Q141)=>let i:=b5x (((),(),()),b.2.1,d,());bif p141 (((),100,()),i.2.1,()) then let e:=l.val (((),100,()),i.2.1,());h ((((nearest .f32 i.1.1,e.1.1),()),e.2))else none else none else a3u fun(f:Ch a4M a6M p141 Q141)=>bif p141 (((),15,()),b.2) then a3u fun(m:Ch a4M a6M p141 Q141)=>let a:=f.val (((),15,()),b.2);bif p141 (((),15,()),a.2) then let d:=m.val (((),15,()),a.2);h ((((a.1.1,d.1.1),()),d.2))else none else none else none else none
theorem e5f (p141 Q141 e141 h x) :a4i (d9a) (f9e p141 Q141 e141) (a0N Tryz.f128) a9n b1V h x=e5e p141 Q141 e141 h x:=by kernel_rfl
noncomputable def N75 (p141:KI a4M) (Q141:QI a4M a6M) (e141:Nonempty (Ch a4M a6M p141 Q141)):a6I:=mkN [(141,a2w true a4M a6M p141 Q141 e141)] []
noncomputable def f9f (p141:KI a4M) (Q141:QI a4M a6M) (e141:Nonempty (Ch a4M a6M p141 Q141)) (h:O75.den->Option Unit) (x:I75.den):Option Unit:=bif K34 (((),5,()),x.2) then let k:=G34 (((),5,()),x.2);let o:=wrap .i64 (1+k.1.1);let p:=set (set (set (set (set (set (replicate 6 (zero Ty.str)) 0 { data:=#[109,97,105,110] }) 1 { data:=#[106,105,98] }) 2 { data:=#[103,101,110,111,97] }) 3 { data:=#[115,116,111,114,109] }) 4 { data:=#[99,111,100,101] }) 5 { data:=#[107,105,116,101] };let l:=(((),(),(),o,()),k.2.1,p,replicate 0 (zero S68),());bif d4s l then let c:=a9X l;let g:=(length c.2.2.1:Int);bif K34 (((),g,()),c.2.1,()) then let a:=G34 (((),g,()),c.2.1,());bif K34 (((),24,()),a.2) then let b:=G34 (((),24,()),a.2);bif b.1.1==0 then bif decide (0<=0)&&decide (0<g) then let j:=set (set (set (set (set (replicate 5 (zero Ty.str)) 0 { data:=#[] }) 1 { data:=#[74,105,98] }) 2 { data:=#[97,98,99,100,101,102,103,104,105,106,107,108,109,110,111,112,113] }) 3 { data:=#[97,98,99,100,101,102,103,104,105,106,107,108,109,110,111,112] }) 4 (getD c.2.2.1 (toNat 0) (zero S68)).1;let m:=(((),(),()),b.2.1,j,());bif e4u m then bif decide (0<=a.1.1)&&decide (a.1.1<g) then let i:=d8P m;h ((((),()),i.2.1,set c.2.2.1 (toNat a.1.1) (i.1.1,(getD c.2.2.1 (toNat a.1.1) (zero S68)).2),()))else none else none else none else bif b.1.1==1 then a3u fun(f:Ch a4M a6M p141 Q141)=>bif p141 (((),300,()),b.2) then bif decide (0<=a.1.1)&&decide (a.1.1<g) then let e:=f.val (((),300,()),b.2);let d:=getD c.2.2.1 (toNat a.1.1) (zero S68);h ((((),()),e.2.1,set c.2.2.1 (toNat a.1.1) (d.1,e.1.1,d.2.2),()))else none else none else bif b.1.1==2 then a3u fun(q:Ch a4M a6M p141 Q141)=>bif p141 (((),300,()),b.2) then bif decide (0<=a.1.1)&&decide (a.1.1<g) then let e:=q.val (((),300,()),b.2);let d:=getD c.2.2.1 (toNat a.1.1) (zero S68);h ((((),()),e.2.1,set c.2.2.1 (toNat a.1.1) (d.1,d.2.1,e.1.1,d.2.2.2),()))else none else none else bif b.1.1==3 then bif d4n (((),()),b.2) then bif decide (0<=a.1.1)&&decide (a.1.1<g) then let e:=d4o (((),()),b.2);let d:=getD c.2.2.1 (toNat a.1.1) (zero S68);h ((((),()),e.2.1,set c.2.2.1 (toNat a.1.1) (d.1,d.2.1,d.2.2.1,d.2.2.2.1,wrap .i64 (e.1.1-2),()),()))else none else none else bif b.1.1==4 then bif d4n (((),()),b.2) then bif decide (0<=a.1.1)&&decide (a.1.1<g) then let e:=d4o (((),()),b.2);let d:=getD c.2.2.1 (toNat a.1.1) (zero S68);h ((((),()),e.2.1,set c.2.2.1 (toNat a.1.1) (d.1,d.2.1,d.2.2.1,wrap .i64 (e.1.1-2),d.2.2.2.2),()))else none else none else bif b.1.1==5 then h ((((),()),b.2.1,replicate 0 (zero S68),()))else bif b.1.1==6 then let n:=(((),(),()),b.2.1,c.2.2);bif c4m n then h ((((),()),(b1p n).2))else none else h ((((),()),b.2.1,c.2.2))else none else none else none else none
theorem f3L (p141 Q141 e141 h x) :a4i (e4N) (N75 p141 Q141 e141) (a0N Tryz.f75) I75 O75 h x=f9f p141 Q141 e141 h x:=by kernel_rfl
noncomputable def N79 (p128:KI a9n) (Q128:QI a9n b1V) (e128:Nonempty (Ch a9n b1V p128 Q128)):a6I:=mkN [(128,a2w true a9n b1V p128 Q128 e128)] []
noncomputable def f9g (p128:KI a9n) (Q128:QI a9n b1V) (e128:Nonempty (Ch a9n b1V p128 Q128)) (h:O79.den->Option Unit) (x:I79.den):Option Unit:=bif K74 (((),()),x.2) then let d:=G74 (((),()),x.2);let k:=(length d.2.2.1:Int);bif K34 (((),k,()),d.2.1,()) then let g:=G34 (((),k,()),d.2.1,());bif K34 (((),24,()),g.2) then let e:=G34 (((),24,()),g.2);bif e.1.1==0 then bif K82 (((),()),e.2) then let b:=G82 (((),()),e.2);let c:=set (replicate 1 (zero (Ty.int IntKind.u8))) 0 (wrap .u8 b.1.1);bif f3G (c,()) then bif decide (0<=g.1.1)&&decide (g.1.1<k) then h ((((set d.2.2.1 (toNat g.1.1) ((f9b (c,())).1,(getD d.2.2.1 (toNat g.1.1) (zero a1B)).2),d.2.2.2),()),b.2))else none else none else none else bif e.1.1==1 then a3u fun(f:Ch a9n b1V p128 Q128)=>bif K34 (((),13,()),e.2) then let b:=G34 (((),13,()),e.2);bif p128 (((),()),b.2) then bif decide (0<=g.1.1)&&decide (g.1.1<k) then bif decide (0<=b.1.1)&&decide (b.1.1<(↑13:Int)) then let c:=getD d.2.2.1 (toNat g.1.1) (zero a1B);let a:=f.val (((),()),b.2);let n:=0+1+1+1+1+1+1+1+1+1+1+1+1;let o:=0+1+1+1+1+1+1+1+1+1+1+1;let p:=0+1+1+1+1+1+1+1+1+1+1;let q:=0+1+1+1+1+1+1+1+1+1;let r:=0+1+1+1+1+1+1+1+1;let s:=0+1+1+1+1+1+1+1;let i:=0+1+1+1+1+1+1;h ((((set d.2.2.1 (toNat g.1.1) (c.1,((bif beq 0 (toNat b.1.1)then a.1.1.1 else c.2.1.1.1,bif beq 0 (toNat b.1.1)then a.1.1.2 else c.2.1.1.2),(bif beq (0+1) (toNat b.1.1)then a.1.1.1 else c.2.1.2.1.1,bif beq (0+1) (toNat b.1.1)then a.1.1.2 else c.2.1.2.1.2),(bif beq (0+1+1) (toNat b.1.1)then a.1.1.1 else c.2.1.2.2.1.1,bif beq (0+1+1) (toNat b.1.1)then a.1.1.2 else c.2.1.2.2.1.2),(bif beq (0+1+1+1) (toNat b.1.1)then a.1.1.1 else c.2.1.2.2.2.1.1,bif beq (0+1+1+1) (toNat b.1.1)then a.1.1.2 else c.2.1.2.2.2.1.2),(bif beq (0+1+1+1+1) (toNat b.1.1)then a.1.1.1 else c.2.1.2.2.2.2.1.1,bif beq (0+1+1+1+1) (toNat b.1.1)then a.1.1.2 else c.2.1.2.2.2.2.1.2),(bif beq (0+1+1+1+1+1) (toNat b.1.1)then a.1.1.1 else c.2.1.2.2.2.2.2.1.1,bif beq (0+1+1+1+1+1) (toNat b.1.1)then a.1.1.2 else c.2.1.2.2.2.2.2.1.2),(bif beq i (toNat b.1.1)then a.1.1.1 else c.2.1.2.2.2.2.2.2.1.1,bif beq i (toNat b.1.1)then a.1.1.2 else c.2.1.2.2.2.2.2.2.1.2),(bif beq s (toNat b.1.1)then a.1.1.1 else c.2.1.2.2.2.2.2.2.2.1.1,bif beq s (toNat b.1.1)then a.1.1.2 else c.2.1.2.2.2.2.2.2.2.1.2),(bif beq r (toNat b.1.1)then a.1.1.1 else c.2.1.2.2.2.2.2.2.2.2.1.1,bif beq r (toNat b.1.1)then a.1.1.2 else c.2.1.2.2.2.2.2.2.2.2.1.2),(bif beq q (toNat b.1.1)then a.1.1.1 else c.2.1.2.2.2.2.2.2.2.2.2.1.1,bif beq q (toNat b.1.1)then a.1.1.2 else c.2.1.2.2.2.2.2.2.2.2.2.1.2),(bif beq p (toNat b.1.1)then a.1.1.1 else c.2.1.2.2.2.2.2.2.2.2.2.2.1.1,bif beq p (toNat b.1.1)then a.1.1.2 else c.2.1.2.2.2.2.2.2.2.2.2.2.1.2),(bif beq o (toNat b.1.1)then a.1.1.1 else c.2.1.2.2.2.2.2.2.2.2.2.2.2.1.1,bif beq o (toNat b.1.1)then a.1.1.2 else c.2.1.2.2.2.2.2.2.2.2.2.2.2.1.2),(bif beq n (toNat b.1.1)then a.1.1.1 else c.2.1.2.2.2.2.2.2.2.2.2.2.2.2.1.1,bif beq n (toNat b.1.1)then a.1.1.2 else c.2.1.2.2.2.2.2.2.2.2.2.2.2.2.1.2),()),()),d.2.2.2),()),a.2))else none else none else none else none else bif e.1.1==2 then let l:=(length d.2.2.2.1:Int);bif K34 (((),l,()),e.2) then let b:=G34 (((),l,()),e.2);bif d4n (((),()),b.2) then bif decide (0<=b.1.1)&&decide (b.1.1<l) then let c:=d4o (((),()),b.2);h ((((d.2.2.1,set d.2.2.2.1 (toNat b.1.1) c.1.1,()),()),c.2))else none else none else none else bif e.1.1==3 then h ((((d.2.2.1,replicate 0 (zero (Ty.int IntKind.i64)),()),()),e.2))else bif e.1.1==4 then h ((((replicate 0 (zero a1B),d.2.2.2),()),e.2))else bif e.1.1==5 then let t:=(((),(),(),()),e.2.1,((),(),()),((),(),()),d.2.2);bif b5A t then let b:=b5B t;h (((b.2.2.2.2,()),b.2.1,()))else none else bif e.1.1==6 then let u:=(length d.2.2.2.1:Int);let m:=wrap .i64 (u-1);bif decide (0<=m)&&decide (m<u) then let j:=zero (Ty.int IntKind.i64);let a:=set (replicate 1 j) 0 (wrap .i64 ((wrap .i64 ((getD d.2.2.2.1 (toNat m) j)+21600))-1));bif a0n (length d.2.2.2.1+length a) then h ((((d.2.2.1,d.2.2.2.1++a,()),()),e.2))else none else none else h (((d.2.2,()),e.2))else none else none else none
theorem f3M (p128 Q128 e128 h x) :a4i (e9D) (N79 p128 Q128 e128) (a0N Tryz.f79) I79 O79 h x=f9g p128 Q128 e128 h x:=by kernel_rfl
abbrev A8:Ty:=.cons (.slice (.int .u8)) (.nil)
abbrev R8:Ty:=.cons (.bool) (.nil)
def F8 (x:Den A8):OD R8:=some (decide ((length x.1:Int)>1048576),())
def K8 (x):=(F8 x).isSome
def G8 (x):=(F8 x).getD (zero R8)
def m8:=(8,a0c A8 R8 K8 G8)
theorem g1M:a0f Tryz.prog m8:=fnE nS Tryz.func8
abbrev A44:Ty:=.cons (.int .i64) (.cons (.int .i64) (.cons (.int .i64) (.nil)))
abbrev R44:Ty:=.cons (.bool) (.nil)
def F44 (x:Den A44):OD R44:=bif decide (x.1 ≥ x.2.1) then some (decide (x.1<=x.2.2.1),())else some (false,())
def K44 (x):=(F44 x).isSome
def G44 (x):=(F44 x).getD (zero R44)
def m44:=(44,a0c A44 R44 K44 G44)
theorem a9v:a0f Tryz.prog m44:=fnE nS Tryz.func44
abbrev f9h:Ty:=.cons (.flt .f32) (.nil)
abbrev f3N:Ty:=.cons (.bool) (.nil)
def e5g (x:Den f9h):OD f3N:=bif fgt .f32 x.1 0||feq .f32 x.1 0 then some (flt .f32 x.1 1112014848||feq .f32 x.1 1112014848,())else some (false,())
def e5h (x):=(e5g x).isSome
def e5i (x):=(e5g x).getD (zero f3N)
def g1N:=(107,a0c f9h f3N e5h e5i)
theorem d4E:a0f Tryz.prog g1N:=fnE nS Tryz.func107
abbrev f9i:Ty:=.cons (.flt .f32) (.nil)
abbrev f3O:Ty:=.cons (.bool) (.nil)
def e5j (x:Den f9i):OD f3O:=bif e5h x then some (!(e5i x).1,())else none
def f3P (x):=(e5j x).isSome
def f3Q (x):=(e5j x).getD (zero f3O)
def f9j:=(158,a0c f9i f3O f3P f3Q)
theorem d4F:a0f Tryz.prog f9j:=fnE (s1 d4E) Tryz.func158
abbrev f9k:Sg:=⟨[.val (.slice (.flt .f32)),.fnv 158 []],[]⟩
abbrev f3R:Sg:=⟨[.val (.int .i64)],[]⟩
abbrev b8b:Type:=(b2V×d2T)×Unit
abbrev d4G:Type:=a5r
abbrev d4H:Type:=c9J
def d4I:LR:=⟨[0,1,7,8],[],0,[],[],⟨[(0,e3i),(1,.one (.fn 158 [])),(7,om0),(8,om0)],[],0,0⟩,⟨[],[],0,0⟩,⟨[(4,om0)],[],0,0⟩⟩
def b3z (f:b8b->Option (d4G⊕d4H)) (v:b8b):Option (d4G⊕d4H):=bif decide (v.1.2.2.2.1<v.1.2.2.1) then bif decide (0<=v.1.2.2.2.1)&&decide (v.1.2.2.2.1<(length v.1.1:Int)) then let a:=getD v.1.1 (toNat v.1.2.2.2.1) (zero (Ty.flt .f32));bif f3P (a,()) then bif (f3Q (a,())).1 then some (Sum.inr (v.1.2.2.2,()))else f (((v.1.1,(),v.1.2.2.1,wrap .i64 (v.1.2.2.2.1+1),()),()))else none else none else some (Sum.inl ((),()))
def b8c (v:b8b):Nat:=v.1.1.length+v.1.2.2.1.natAbs+v.1.2.2.2.1.natAbs+1000
def a9Z (v:b8b):=a0K b3z (b8c v) v
def c4u (v):=(a9Z v).isSome
def c4v (v):=isR (a9Z v)
def f3S (v):=xOf default (a9Z v)
def c4w (v):=yOf default (a9Z v)
def e9E (x:f9k.den):Option (f3R.den):=let a:=((x.1.1,(),(length x.1.1:Int),0,()),());bif c4u a then bif c4v a then some (c4w a)else some ((-1,()),())else none
def f3T (x):=(e9E x).isSome
def f3U (x):=(e9E x).getD (a0Y f3R)
def g1O:=(210,a0H false f9k f3R f3T f3U)
noncomputable def f3V:=gE [f9j] Tryz.f210 (lps:=[(2,lmR d4I a9Z)])
theorem d0C:EvR f3V (lp Tryz.f210 0) d4I b3z:=fun _ _=>by kernel_rfl
theorem e5k:a0f Tryz.prog g1O:=a2Y (a0L (s1 d4F)) (a1F Tryz.func210 rfl rfl rfl (by kernel_rfl) (a0j (by kernel_rfl) (s1 (lR d0C b8c)))) false fun _=>by kernel_rfl
abbrev f9l:Sg:=⟨[.val (.slice (.flt .f32)),.fnv 158 []],[]⟩
abbrev f3W:Sg:=⟨[.val (.bool)],[]⟩
def e5l (x:f9l.den):Option (f3W.den):=bif f3T ((x.1.1,(),()),()) then some ((decide ((f3U ((x.1.1,(),()),())).1.1 ≥ 0),()),())else none
def f3X (x):=(e5l x).isSome
def f3Y (x):=(e5l x).getD (a0Y f3W)
def f9m:=(157,a0H false f9l f3W f3X f3Y)
theorem e5m:a0f Tryz.prog f9m:=sgE false (s2 e5k d4F) Tryz.func157
abbrev A90:Ty:=.cons (S27) (.nil)
abbrev R90:Ty:=.cons (.bool) (.nil)
abbrev b8d:Type:=(Unit×d2Q×a6K)×c0x
abbrev d4J:Type:=a5r
abbrev d4K:Type:=a9l
def d4L:LR:=⟨[1,99,100,101],[],4,[],[],⟨[(1,om1),(99,.one (.sl (.slice (.flt .f32)))),(100,om0),(101,om0)],b4J,1,0⟩,⟨[],[],0,0⟩,⟨a9m,[],0,0⟩⟩
def b3A (f:b8d->Option (d4J⊕d4K)) (v:b8d):Option (d4J⊕d4K):=bif decide (v.1.2.2.2.1<v.1.2.2.1) then bif decide (0<=v.1.2.2.2.1)&&decide (v.1.2.2.2.1<(length v.1.2.1:Int)) then let a:=getD v.1.2.1 (toNat v.1.2.2.2.1) (zero (Ty.slice (Ty.flt .f32)));bif (length a:Int) != (length v.2.1.2.1:Int) then some (Sum.inr ((false,()),()))else bif f3X ((a,(),()),()) then bif (f3Y ((a,(),()),())).1.1 then some (Sum.inr ((false,()),()))else f ((((),v.1.2.1,v.1.2.2.1,wrap .i64 (v.1.2.2.2.1+1),()),v.2))else none else none else some (Sum.inl ((),()))
def c4x (v:b8d):Nat:=v.1.2.1.length+v.1.2.2.1.natAbs+v.1.2.2.2.1.natAbs+v.2.1.1.length+v.2.1.2.1.length+v.2.1.2.2.1.length+1000
def b0a (v:b8d):=a0K b3A (c4x v) v
def c4y (v):=(b0a v).isSome
def c4z (v):=isR (b0a v)
def f3Z (v):=xOf default (b0a v)
def c4A (v):=yOf default (b0a v)
abbrev b8e:Type:=(Unit×ty4×a6K)×c0x
abbrev d4M:Type:=a5r×c0x
abbrev d4N:Type:=a9l
def d4O:LR:=⟨[1,62,63,64],[],2,[1],[],⟨[(1,om1),(62,e3j),(63,om0),(64,om0)],b4J,1,0⟩,⟨[(1,om1)],b4J,1,0⟩,⟨a9m,[],0,0⟩⟩
def b3B (f:b8e->Option (d4M⊕d4N)) (v:b8e):Option (d4M⊕d4N):=bif decide (v.1.2.2.2.1<v.1.2.2.1) then bif decide (0<=v.1.2.2.2.1)&&decide (v.1.2.2.2.1<(length v.1.2.1:Int)) then bif decide (v.1.2.2.2.1>0) then let a:=wrap .i64 (v.1.2.2.2.1-1);bif decide (0<=a)&&decide (a<(length v.2.1.2.1:Int)) then bif decide ((getD v.1.2.1 (toNat v.1.2.2.2.1) (zero (Ty.int IntKind.i64)))<=(getD v.2.1.2.1 (toNat a) (zero (Ty.int IntKind.i64)))) then some (Sum.inr ((false,()),()))else f ((((),v.1.2.1,v.1.2.2.1,wrap .i64 (v.1.2.2.2.1+1),()),v.2))else none else f ((((),v.1.2.1,v.1.2.2.1,wrap .i64 (v.1.2.2.2.1+1),()),v.2))else none else some (Sum.inl (((),()),v.2))
def c4B (v:b8e):Nat:=v.1.2.1.length+v.1.2.2.1.natAbs+v.1.2.2.2.1.natAbs+v.2.1.1.length+v.2.1.2.1.length+v.2.1.2.2.1.length+1000
def b0b (v:b8e):=a0K b3B (c4B v) v
def c4C (v):=(b0b v).isSome
def c4D (v):=isR (b0b v)
def c4E (v):=xOf default (b0b v)
def c4F (v):=yOf default (b0b v)
abbrev d0D:Type:=(Unit×b2V×a6K)×c0x
abbrev e5n:Type:=a5r×c0x
abbrev e5o:Type:=a9l
def e5p:LR:=⟨[1,31,32,33],[],0,[1],[],⟨[(1,om1),(31,e3i),(32,om0),(33,om0)],b4J,1,0⟩,⟨[(1,om1)],b4J,1,0⟩,⟨a9m,[],0,0⟩⟩
def c4G (f:d0D->Option (e5n⊕e5o)) (v:d0D):Option (e5n⊕e5o):=bif decide (v.1.2.2.2.1<v.1.2.2.1) then bif decide (0<=v.1.2.2.2.1)&&decide (v.1.2.2.2.1<(length v.1.2.1:Int)) then let a:=getD v.1.2.1 (toNat v.1.2.2.2.1) (zero (Ty.flt .f32));bif fgt .f32 a 0 then bif !(flt .f32 a 1120403456||feq .f32 a 1120403456) then some (Sum.inr ((false,()),()))else bif decide (v.1.2.2.2.1>0) then let b:=wrap .i64 (v.1.2.2.2.1-1);bif decide (0<=b)&&decide (b<(length v.2.1.1:Int)) then bif !fgt .f32 a (getD v.2.1.1 (toNat b) (zero (Ty.flt .f32))) then some (Sum.inr ((false,()),()))else f ((((),v.1.2.1,v.1.2.2.1,wrap .i64 (v.1.2.2.2.1+1),()),v.2))else none else f ((((),v.1.2.1,v.1.2.2.1,wrap .i64 (v.1.2.2.2.1+1),()),v.2))else some (Sum.inr ((false,()),()))else none else some (Sum.inl (((),()),v.2))
def d9e (v:d0D):Nat:=v.1.2.1.length+v.1.2.2.1.natAbs+v.1.2.2.2.1.natAbs+v.2.1.1.length+v.2.1.2.1.length+v.2.1.2.2.1.length+1000
def c0C (v:d0D):=a0K c4G (d9e v) v
def d4P (v):=(c0C v).isSome
def d4Q (v):=isR (c0C v)
def d4R (v):=xOf default (c0C v)
def d4S (v):=yOf default (c0C v)
def F90 (x:Den A90):OD R90:=bif K44 ((length x.1.1:Int),1,12,()) then bif !(G44 ((length x.1.1:Int),1,12,())).1 then some (false,())else bif K44 ((length x.1.2.1:Int),2,24,()) then bif !(G44 ((length x.1.2.1:Int),2,24,())).1 then some (false,())else bif (length x.1.2.2.1:Int) != (length x.1.1:Int) then some (false,())else bif d4P (((),x.1.1,(length x.1.1:Int),0,()),x) then bif d4Q (((),x.1.1,(length x.1.1:Int),0,()),x) then some (d4S (((),x.1.1,(length x.1.1:Int),0,()),x)).1 else let b:=d4R (((),x.1.1,(length x.1.1:Int),0,()),x);bif c4C (((),b.2.1.2.1,(length b.2.1.2.1:Int),0,()),b.2) then bif c4D (((),b.2.1.2.1,(length b.2.1.2.1:Int),0,()),b.2) then some (c4F (((),b.2.1.2.1,(length b.2.1.2.1:Int),0,()),b.2)).1 else let a:=c4E (((),b.2.1.2.1,(length b.2.1.2.1:Int),0,()),b.2);bif decide (0<=0)&&decide (0<(length a.2.1.2.1:Int)) then bif (getD a.2.1.2.1 (toNat 0) (zero (Ty.int IntKind.i64))) != 0 then some (false,())else let c:=wrap .i64 ((length a.2.1.2.1:Int)-1);bif decide (0<=c)&&decide (c<(length a.2.1.2.1:Int)) then bif (getD a.2.1.2.1 (toNat c) (zero (Ty.int IntKind.i64))) != 180 then some (false,())else bif c4y (((),a.2.1.2.2.1,(length a.2.1.2.2.1:Int),0,()),a.2) then bif c4z (((),a.2.1.2.2.1,(length a.2.1.2.2.1:Int),0,()),a.2) then some (c4A (((),a.2.1.2.2.1,(length a.2.1.2.2.1:Int),0,()),a.2)).1 else some (true,())else none else none else none else none else none else none else none
def K90 (x):=(F90 x).isSome
def G90 (x):=(F90 x).getD (zero R90)
def m90:=(90,a0c A90 R90 K90 G90)
noncomputable def f4a:=gE [m44,f9m] Tryz.f90 (lps:=[(4,lmR e5p c0C),(10,lmR d4O b0b),(18,lmR d4L b0a)])
theorem d9f:EvR f4a (lp Tryz.f90 0) e5p c4G:=fun _ _=>by kernel_rfl
theorem d0E:EvR f4a (lp Tryz.f90 1) d4O b3B:=fun _ _=>by kernel_rfl
theorem d0F:EvR f4a (lp Tryz.f90 2) d4L b3A:=fun _ _=>by kernel_rfl
theorem e5q:a0f Tryz.prog m90:=a0Q (a0L (s2 a9v e5m)) (a1F Tryz.func90 rfl rfl rfl (by kernel_rfl) (a0j (by kernel_rfl) (s3 (lR d9f d9e) (lR d0E c4B) (lR d0F c4x)))) fun _=>by kernel_rfl
abbrev A94:Ty:=.cons (.flt .f32) (.nil)
abbrev R94:Ty:=.cons (.flt .f32) (.nil)
def F94 (x:Den A94):OD R94:=bif flt .f32 x.1 0 then some (a3g .f32 x.1,())else some (x)
def K94 (x):=(F94 x).isSome
def G94 (x):=(F94 x).getD (zero R94)
def m94:=(94,a0c A94 R94 K94 G94)
theorem f4b:a0f Tryz.prog m94:=fnE nS Tryz.func94
abbrev A45:Ty:=.cons (.cpx .f32) (.nil)
abbrev R45:Ty:=.cons (.bool) (.nil)
def F45 (x:Den A45):OD R45:=bif K94 (x.1.1,()) then let a:=G94 (x.1.1,());bif flt .f32 a.1 1120403456||feq .f32 a.1 1120403456 then bif K94 (x.1.2,()) then let b:=G94 (x.1.2,());some (flt .f32 b.1 1120403456||feq .f32 b.1 1120403456,())else none else some (false,())else none
def K45 (x):=(F45 x).isSome
def G45 (x):=(F45 x).getD (zero R45)
def m45:=(45,a0c A45 R45 K45 G45)
theorem c4H:a0f Tryz.prog m45:=fnE (s1 f4b) Tryz.func45
abbrev f9n:Ty:=.cons (.slice (.cpx .f32)) (.nil)
abbrev f4c:Ty:=.cons (.bool) (.nil)
abbrev b8f:Type:=(List (Den (.cpx .f32))×a6K)×Unit
abbrev d4T:Type:=a5r
abbrev d4U:Type:=a9l
def d4V:LR:=⟨[5,6,7],[],0,[],[],⟨[(5,.one (.sl (.cpx .f32))),(6,om0),(7,om0)],[],0,0⟩,⟨[],[],0,0⟩,⟨a9m,[],0,0⟩⟩
def b3C (f:b8f->Option (d4T⊕d4U)) (v:b8f):Option (d4T⊕d4U):=bif decide (v.1.2.2.1<v.1.2.1) then bif decide (0<=v.1.2.2.1)&&decide (v.1.2.2.1<(length v.1.1:Int)) then let a:=getD v.1.1 (toNat v.1.2.2.1) (zero (Ty.cpx FloatKind.f32));bif K45 (a,()) then bif !(G45 (a,())).1 then some (Sum.inr ((false,()),()))else f (((v.1.1,v.1.2.1,wrap .i64 (v.1.2.2.1+1),()),()))else none else none else some (Sum.inl ((),()))
def c4I (v:b8f):Nat:=v.1.1.length+v.1.2.1.natAbs+v.1.2.2.1.natAbs+1000
def b0c (v:b8f):=a0K b3C (c4I v) v
def c4J (v):=(b0c v).isSome
def c4K (v):=isR (b0c v)
def f4d (v):=xOf default (b0c v)
def c4L (v):=yOf default (b0c v)
def e5r (x:Den f9n):OD f4c:=let a:=((x.1,(length x.1:Int),0,()),());bif c4J a then bif c4K a then some (c4L a).1 else some (true,())else none
def f4e (x):=(e5r x).isSome
def f4f (x):=(e5r x).getD (zero f4c)
def f9o:=(159,a0c f9n f4c f4e f4f)
noncomputable def f4g:=gE [m45] Tryz.f159 (lps:=[(2,lmR d4V b0c)])
theorem d0G:EvR f4g (lp Tryz.f159 0) d4V b3C:=fun _ _=>by kernel_rfl
theorem e5s:a0f Tryz.prog f9o:=a0Q (a0L (s1 c4H)) (a1F Tryz.func159 rfl rfl rfl (by kernel_rfl) (a0j (by kernel_rfl) (s1 (lR d0G c4I)))) fun _=>by kernel_rfl
abbrev A61:Ty:=.cons (.cpx .f64) (.nil)
abbrev R61:Ty:=.cons (.bool) (.nil)
def F61 (x:Den A61):OD R61:=bif e3m (x.1.1,()) then let a:=e3n (x.1.1,());bif flt .f64 a.1 4726483295884279808||feq .f64 a.1 4726483295884279808 then bif e3m (x.1.2,()) then let b:=e3n (x.1.2,());some (flt .f64 b.1 4726483295884279808||feq .f64 b.1 4726483295884279808,())else none else some (false,())else none
def K61 (x):=(F61 x).isSome
def G61 (x):=(F61 x).getD (zero R61)
def m61:=(61,a0c A61 R61 K61 G61)
theorem d0H:a0f Tryz.prog m61:=fnE (s1 e3p) Tryz.func61
abbrev A63:Ty:=.cons (S33) (.nil)
abbrev R63:Ty:=.cons (.bool) (.nil)
def F63 (x:Den A63):OD R63:=bif K44 (x.1.1,-10000,10000,()) then bif (G44 (x.1.1,-10000,10000,())).1 then bif K44 (x.1.2.1,-10000,10000,()) then some (G44 (x.1.2.1,-10000,10000,()))else none else some (false,())else none
def K63 (x):=(F63 x).isSome
def G63 (x):=(F63 x).getD (zero R63)
def m63:=(63,a0c A63 R63 K63 G63)
theorem c4M:a0f Tryz.prog m63:=fnE (s1 a9v) Tryz.func63
abbrev A23:Ty:=.cons (.cpx .f64) (.nil)
abbrev R23:Ty:=.cons (S33) (.cons (.bool) (.nil))
def F23 (x:Den A23):OD R23:=bif K61 x then bif !(G61 x).1 then some ((0,0,()),false,())else bif K62 (x.1.1,()) then let c:=G62 (x.1.1,());bif a5B .f64 c.1 IntKind.i64 then bif K62 (x.1.2,()) then let d:=G62 (x.1.2,());bif a5B .f64 d.1 IntKind.i64 then let a:=f2i .f64 c.1;let b:=f2i .f64 d.1;bif K63 ((a,b,()),()) then bif !(G63 ((a,b,()),())).1 then some ((0,0,()),false,())else some ((a,b,()),true,())else none else none else none else none else none else none
def K23 (x):=(F23 x).isSome
def G23 (x):=(F23 x).getD (zero R23)
def m23:=(23,a0c A23 R23 K23 G23)
theorem d9g:a0f Tryz.prog m23:=fnE (s3 d0H f1V c4M) Tryz.func23
abbrev A43:Ty:=.cons (.int .i64) (.nil)
abbrev R43:Ty:=.cons (.bool) (.nil)
def F43 (x:Den A43):OD R43:=bif K44 (x.1,0,10000000,()) then some (G44 (x.1,0,10000000,()))else none
def K43 (x):=(F43 x).isSome
def G43 (x):=(F43 x).getD (zero R43)
def m43:=(43,a0c A43 R43 K43 G43)
theorem d9h:a0f Tryz.prog m43:=fnE (s1 a9v) Tryz.func43
abbrev A91:Ty:=.cons (S30) (.nil)
abbrev R91:Ty:=.cons (.bool) (.nil)
abbrev b8g:Type:=(Unit×ty4×a6K)×c2L
abbrev d4W:Type:=a5r
abbrev d4X:Type:=a9l
def d4Y:LR:=⟨[1,38,39,40],[],2,[],[],⟨[(1,om1),(38,e3j),(39,om0),(40,om0)],c2M,1,0⟩,⟨[],[],0,0⟩,⟨a9m,[],0,0⟩⟩
def b3D (f:b8g->Option (d4W⊕d4X)) (v:b8g):Option (d4W⊕d4X):=bif decide (v.1.2.2.2.1<v.1.2.2.1) then bif decide (0<=v.1.2.2.2.1)&&decide (v.1.2.2.2.1<(length v.1.2.1:Int)) then let a:=getD v.1.2.1 (toNat v.1.2.2.2.1) (zero (Ty.int IntKind.i64));bif K43 (a,()) then bif !(G43 (a,())).1 then some (Sum.inr ((false,()),()))else bif decide (v.1.2.2.2.1>0) then let b:=wrap .i64 (v.1.2.2.2.1-1);bif decide (0<=b)&&decide (b<(length v.2.1.2.1:Int)) then bif decide (a<(wrap .i64 ((getD v.2.1.2.1 (toNat b) (zero (Ty.int IntKind.i64)))+21600))) then some (Sum.inr ((false,()),()))else f ((((),v.1.2.1,v.1.2.2.1,wrap .i64 (v.1.2.2.2.1+1),()),v.2))else none else f ((((),v.1.2.1,v.1.2.2.1,wrap .i64 (v.1.2.2.2.1+1),()),v.2))else none else none else some (Sum.inl ((),()))
def c4N (v:b8g):Nat:=v.1.2.1.length+v.1.2.2.1.natAbs+v.1.2.2.2.1.natAbs+v.2.1.1.length+v.2.1.2.1.length+1000
def b0d (v:b8g):=a0K b3D (c4N v) v
def c4O (v):=(b0d v).isSome
def c4P (v):=isR (b0d v)
def f4h (v):=xOf default (b0d v)
def c4Q (v):=yOf default (b0d v)
abbrev d0I:Type:=(Unit×c8E×a6K)×c2L
abbrev e5t:Type:=a5r×c2L
abbrev e5u:Type:=a9l
def e5v:LR:=⟨[1,20,21,22],[],0,[1],[],⟨[(1,om1),(20,.one (.sl (a1B))),(21,om0),(22,om0)],c2M,1,0⟩,⟨[(1,om1)],c2M,1,0⟩,⟨a9m,[],0,0⟩⟩
def c4R (f:d0I->Option (e5t⊕e5u)) (v:d0I):Option (e5t⊕e5u):=bif decide (v.1.2.2.2.1<v.1.2.2.1) then bif decide (0<=v.1.2.2.2.1)&&decide (v.1.2.2.2.1<(length v.1.2.1:Int)) then let a:=getD v.1.2.1 (toNat v.1.2.2.2.1) (zero a1B);bif K61 (a.1,()) then bif !(G61 (a.1,())).1 then some (Sum.inr ((false,()),()))else bif f4e ([a.2.1.1,a.2.1.2.1,a.2.1.2.2.1,a.2.1.2.2.2.1,a.2.1.2.2.2.2.1,a.2.1.2.2.2.2.2.1,a.2.1.2.2.2.2.2.2.1,a.2.1.2.2.2.2.2.2.2.1,a.2.1.2.2.2.2.2.2.2.2.1,a.2.1.2.2.2.2.2.2.2.2.2.1,a.2.1.2.2.2.2.2.2.2.2.2.2.1,a.2.1.2.2.2.2.2.2.2.2.2.2.2.1,a.2.1.2.2.2.2.2.2.2.2.2.2.2.2.1],()) then bif !(f4f ([a.2.1.1,a.2.1.2.1,a.2.1.2.2.1,a.2.1.2.2.2.1,a.2.1.2.2.2.2.1,a.2.1.2.2.2.2.2.1,a.2.1.2.2.2.2.2.2.1,a.2.1.2.2.2.2.2.2.2.1,a.2.1.2.2.2.2.2.2.2.2.1,a.2.1.2.2.2.2.2.2.2.2.2.1,a.2.1.2.2.2.2.2.2.2.2.2.2.1,a.2.1.2.2.2.2.2.2.2.2.2.2.2.1,a.2.1.2.2.2.2.2.2.2.2.2.2.2.2.1],())).1 then some (Sum.inr ((false,()),()))else f ((((),v.1.2.1,v.1.2.2.1,wrap .i64 (v.1.2.2.2.1+1),()),v.2))else none else none else none else some (Sum.inl (((),()),v.2))
def d9i (v:d0I):Nat:=v.1.2.1.length+v.1.2.2.1.natAbs+v.1.2.2.2.1.natAbs+v.2.1.1.length+v.2.1.2.1.length+1000
def c0D (v:d0I):=a0K c4R (d9i v) v
def d4Z (v):=(c0D v).isSome
def d5a (v):=isR (c0D v)
def d5b (v):=xOf default (c0D v)
def d5c (v):=yOf default (c0D v)
def F91 (x:Den A91):OD R91:=let b:=(length x.1.1:Int);bif K44 (b,1,20,()) then bif !(G44 (b,1,20,())).1 then some (false,())else let e:=((length x.1.2.1:Int),1,60,());bif K44 e then bif !(G44 e).1 then some (false,())else let a:=(((),x.1.1,b,0,()),x);bif d4Z a then bif d5a a then some (d5c a).1 else let c:=d5b a;let d:=(((),c.2.1.2.1,(length c.2.1.2.1:Int),0,()),c.2);bif c4O d then bif c4P d then some (c4Q d).1 else some (true,())else none else none else none else none
def K91 (x):=(F91 x).isSome
def G91 (x):=(F91 x).getD (zero R91)
def m91:=(91,a0c A91 R91 K91 G91)
noncomputable def f9p:=gE [m44,m61,f9o,m43] Tryz.f91 (lps:=[(4,lmR e5v c0D),(10,lmR d4Y b0d)])
theorem d9j:EvR f9p (lp Tryz.f91 0) e5v c4R:=fun _ _=>by kernel_rfl
theorem d0J:EvR f9p (lp Tryz.f91 1) d4Y b3D:=fun _ _=>by kernel_rfl
theorem f4i:a0f Tryz.prog m91:=a0Q (a0L (s4 a9v d0H e5s d9h)) (a1F Tryz.func91 rfl rfl rfl (by kernel_rfl) (a0j (by kernel_rfl) (s2 (lR d9j d9i) (lR d0J c4N)))) fun _=>by kernel_rfl
abbrev f9q:Ty:=.cons (.str) (.nil)
abbrev f4j:Ty:=.cons (.bool) (.nil)
abbrev b8h:Type:=e3e
abbrev d5d:Type:=d2U×Unit
abbrev d5e:Type:=a9l
def d5f:LR:=⟨[0,3],[],0,[0],[],⟨[(0,om5),(3,om0)],[],0,0⟩,⟨[(0,om5)],[],0,0⟩,⟨a9m,[],0,0⟩⟩
def b3E (f:b8h->Option (d5d⊕d5e)) (v:b8h):Option (d5d⊕d5e):=let a:=v.1.2.1<(ByteArray.size v.1.1:Int);bif decide a then let b:=decide (0<=v.1.2.1)&&decide a;bif b then bif decide (a0o v.1.1 v.1.2.1<97) then some (Sum.inr ((false,()),()))else bif b then bif decide (a0o v.1.1 v.1.2.1>122) then some (Sum.inr ((false,()),()))else f (((v.1.1,wrap .i64 (v.1.2.1+1),()),()))else none else none else some (Sum.inl ((v.1.1,()),()))
def c4S (v:b8h):Nat:=v.1.1.size+v.1.2.1.natAbs+1000
def b0e (v:b8h):=a0K b3E (c4S v) v
def c4T (v):=(b0e v).isSome
def c4U (v):=isR (b0e v)
def c4V (v):=xOf default (b0e v)
def c4W (v):=yOf default (b0e v)
def e9F (x:Den f9q):OD f4j:=bif c4T ((x.1,0,()),()) then bif c4U ((x.1,0,()),()) then some (c4W ((x.1,0,()),())).1 else let a:=c4V ((x.1,0,()),());let b:=((ByteArray.size a.1.1:Int),1,16,());bif K44 b then bif (G44 b).1 then some (!a1a a.1.1 { data:=#[110,111,110,101] },())else some (false,())else none else none
def f4k (x):=(e9F x).isSome
def f4l (x):=(e9F x).getD (zero f4j)
def f9r:=(160,a0c f9q f4j f4k f4l)
noncomputable def f4m:=gE [m44] Tryz.f160 (lps:=[(2,lmR d5f b0e)])
theorem d0K:EvR f4m (lp Tryz.f160 0) d5f b3E:=fun _ _=>by kernel_rfl
theorem e5w:a0f Tryz.prog f9r:=a0Q (a0L (s1 a9v)) (a1F Tryz.func160 rfl rfl rfl (by kernel_rfl) (a0j (by kernel_rfl) (s1 (lR d0K c4S)))) fun _=>by kernel_rfl
abbrev e9G:Ty:=.cons (.slice (S68)) (.cons (.str) (.nil))
abbrev e9H:Ty:=.cons (.int .i64) (.nil)
abbrev b8i:Type:=(b2W×b4I×a6K)×Unit
abbrev d5g:Type:=a5r
abbrev d5h:Type:=c9J
def d5i:LR:=⟨[1,7,8,9],[],0,[],[],⟨[(1,om5),(7,om8),(8,om0),(9,om0)],[],0,0⟩,⟨[],[],0,0⟩,⟨[(4,om0)],[],0,0⟩⟩
def b3F (f:b8i->Option (d5g⊕d5h)) (v:b8i):Option (d5g⊕d5h):=bif decide (v.1.2.2.2.1<v.1.2.2.1) then bif decide (0<=v.1.2.2.2.1)&&decide (v.1.2.2.2.1<(length v.1.2.1:Int)) then bif a1a (getD v.1.2.1 (toNat v.1.2.2.2.1) (zero S68)).1 v.1.1 then some (Sum.inr (v.1.2.2.2,()))else f (((v.1.1,v.1.2.1,v.1.2.2.1,wrap .i64 (v.1.2.2.2.1+1),()),()))else none else some (Sum.inl ((),()))
def c4X (v:b8i):Nat:=v.1.1.size+v.1.2.1.length+v.1.2.2.1.natAbs+v.1.2.2.2.1.natAbs+1000
def b0f (v:b8i):=a0K b3F (c4X v) v
def c4Y (v):=(b0f v).isSome
def c4Z (v):=isR (b0f v)
def f4n (v):=xOf default (b0f v)
def c5a (v):=yOf default (b0f v)
def e9I (x:Den e9G):OD e9H:=let a:=((x.2.1,x.1,(length x.1:Int),0,()),());bif c4Y a then bif c4Z a then some (c5a a).1 else some (-1,())else none
def e9J (x):=(e9I x).isSome
def e9K (x):=(e9I x).getD (zero e9H)
def f9s:=(134,a0c e9G e9H e9J e9K)
noncomputable def f4o:=gE [] Tryz.f134 (lps:=[(2,lmR d5i b0f)])
theorem d0L:EvR f4o (lp Tryz.f134 0) d5i b3F:=fun _ _=>by kernel_rfl
theorem e5x:a0f Tryz.prog f9s:=a0Q (a0L nS) (a1F Tryz.func134 rfl rfl rfl (by kernel_rfl) (a0j (by kernel_rfl) (s1 (lR d0L c4X)))) fun _=>by kernel_rfl
abbrev A92:Ty:=.cons (.slice (S68)) (.nil)
abbrev R92:Ty:=.cons (.bool) (.nil)
abbrev d0M:Type:=(b4I×b4I×a6K)×Unit
abbrev e5y:Type:=a5r
abbrev e5z:Type:=a9l
def e5A:LR:=⟨[0,8,9,10],[],0,[],[],⟨[(0,om8),(8,om8),(9,om0),(10,om0)],[],0,0⟩,⟨[],[],0,0⟩,⟨a9m,[],0,0⟩⟩
def c5b (f:d0M->Option (e5y⊕e5z)) (v:d0M):Option (e5y⊕e5z):=bif decide (v.1.2.2.2.1<v.1.2.2.1) then bif decide (0<=v.1.2.2.2.1)&&decide (v.1.2.2.2.1<(length v.1.2.1:Int)) then let a:=getD v.1.2.1 (toNat v.1.2.2.2.1) (zero S68);bif f4k (a.1,()) then bif !(f4l (a.1,())).1 then some (Sum.inr ((false,()),()))else bif e9J (v.1.1,a.1,()) then bif (e9K (v.1.1,a.1,())).1 != v.1.2.2.2.1 then some (Sum.inr ((false,()),()))else bif !(fgt .f32 a.2.1 0||feq .f32 a.2.1 0) then some (Sum.inr ((false,()),()))else bif fgt .f32 a.2.2.1 a.2.1 then bif !(flt .f32 a.2.2.1 1128792064||feq .f32 a.2.2.1 1128792064) then some (Sum.inr ((false,()),()))else bif K44 (a.2.2.2.1,0,180,()) then bif !(G44 (a.2.2.2.1,0,180,())).1 then some (Sum.inr ((false,()),()))else bif K44 (a.2.2.2.2.1,a.2.2.2.1,180,()) then bif !(G44 (a.2.2.2.2.1,a.2.2.2.1,180,())).1 then some (Sum.inr ((false,()),()))else f (((v.1.1,v.1.2.1,v.1.2.2.1,wrap .i64 (v.1.2.2.2.1+1),()),()))else none else none else some (Sum.inr ((false,()),()))else none else none else none else some (Sum.inl ((),()))
def d9k (v:d0M):Nat:=v.1.1.length+v.1.2.1.length+v.1.2.2.1.natAbs+v.1.2.2.2.1.natAbs+1000
def c0E (v:d0M):=a0K c5b (d9k v) v
def d5j (v):=(c0E v).isSome
def d5k (v):=isR (c0E v)
def f9t (v):=xOf default (c0E v)
def d5l (v):=yOf default (c0E v)
def F92 (x:Den A92):OD R92:=bif decide ((length x.1:Int)>12) then some (false,())else let a:=((x.1,x.1,(length x.1:Int),0,()),());bif d5j a then bif d5k a then some (d5l a).1 else some (true,())else none
def K92 (x):=(F92 x).isSome
def G92 (x):=(F92 x).getD (zero R92)
def m92:=(92,a0c A92 R92 K92 G92)
noncomputable def g1P:=gE [f9r,f9s,m44] Tryz.f92 (lps:=[(4,lmR e5A c0E)])
theorem d9l:EvR g1P (lp Tryz.f92 0) e5A c5b:=fun _ _=>by kernel_rfl
theorem f4p:a0f Tryz.prog m92:=a0Q (a0L (s3 e5w e5x a9v)) (a1F Tryz.func92 rfl rfl rfl (by kernel_rfl) (a0j (by kernel_rfl) (s1 (lR d9l d9k)))) fun _=>by kernel_rfl
abbrev f4q:Ty:=.cons (S35) (.nil)
abbrev f4r:Ty:=.cons (.bool) (.nil)
def e9L (x:Den f4q):OD f4r:=bif K63 (x.1.1,()) then bif (G63 (x.1.1,())).1 then bif K63 x.1.2 then bif (G63 x.1.2).1 then some (!(x.1.1.1==x.1.2.1.1&&x.1.1.2.1==x.1.2.1.2.1),())else some (false,())else none else some (false,())else none
def e9M (x):=(e9L x).isSome
def e9N (x):=(e9L x).getD (zero f4r)
def f9u:=(161,a0c f4q f4r e9M e9N)
theorem e5B:a0f Tryz.prog f9u:=fnE (s1 c4M) Tryz.func161
abbrev f9v:Ty:=.cons (S38) (.cons (.int .i64) (.nil))
abbrev f4s:Ty:=.cons (S33) (.nil)
def e2i (x:Den f9v):OD f4s:=bif x.2.1==0 then some (x.1.1.1,())else let a:=wrap .i64 (x.2.1-1);bif decide (0<=a)&&decide (a<(length x.1.2.1:Int)) then some ((getD x.1.2.1 (toNat a) (zero a2I)).1,())else none
def e5C (x):=(e2i x).isSome
def e5D (x):=(e2i x).getD (zero f4s)
def f4t:=(123,a0c f9v f4s e5C e5D)
theorem d5m:a0f Tryz.prog f4t:=fnE nS Tryz.func123
abbrev A93:Ty:=.cons (S38) (.nil)
abbrev R93:Ty:=.cons (.bool) (.nil)
abbrev d0N:Type:=(Unit×e3d×a6K)×d8r×Unit
abbrev e5E:Type:=a5r
abbrev e5F:Type:=a9l
def e5G:LR:=⟨[1,23,24,25],[],0,[],[],⟨[(1,om1),(23,.one (.sl (a2I))),(24,om0),(25,om0)],[(0,bx9)],1,0⟩,⟨[],[],0,0⟩,⟨a9m,[],0,0⟩⟩
def c5c (f:d0N->Option (e5E⊕e5F)) (v:d0N):Option (e5E⊕e5F):=bif decide (v.1.2.2.2.1<v.1.2.2.1) then bif decide (0<=v.1.2.2.2.1)&&decide (v.1.2.2.2.1<(length v.1.2.1:Int)) then let a:=getD v.1.2.1 (toNat v.1.2.2.2.1) (zero a2I);bif K63 (a.1,()) then bif !(G63 (a.1,())).1 then some (Sum.inr ((false,()),()))else let b:=((((v.2.1.1,v.2.1.2.1,()),(v.2.1.2.2.1,v.2.1.2.2.2.1,()),()),v.2.1.2.2.2.2.1,((v.2.1.2.2.2.2.2.1,v.2.1.2.2.2.2.2.2.1,()),v.2.1.2.2.2.2.2.2.2,()),()),v.1.2.2.2);bif e5C b then let c:=e5D b;bif a.1.1==c.1.1&&a.1.2.1==c.1.2.1 then some (Sum.inr ((false,()),()))else f ((((),v.1.2.1,v.1.2.2.1,wrap .i64 (v.1.2.2.2.1+1),()),v.2))else none else none else none else some (Sum.inl ((),()))
def d9m (v:d0N):Nat:=v.1.2.1.length+v.1.2.2.1.natAbs+v.1.2.2.2.1.natAbs+v.2.1.1.natAbs+v.2.1.2.1.natAbs+v.2.1.2.2.1.natAbs+v.2.1.2.2.2.1.natAbs+v.2.1.2.2.2.2.1.length+v.2.1.2.2.2.2.2.1.natAbs+v.2.1.2.2.2.2.2.2.1.natAbs+v.2.1.2.2.2.2.2.2.2.1.natAbs+v.2.1.2.2.2.2.2.2.2.2.1.natAbs+1000
def b5C (v:d0N):=a0K c5c (d9m v) v
def d5n (v):=(b5C v).isSome
def d5o (v):=isR (b5C v)
def f9w (v):=xOf default (b5C v)
def d5p (v):=yOf default (b5C v)
def F93 (x:Den A93):OD R93:=bif e9M (x.1.1,()) then bif !(e9N (x.1.1,())).1 then some (false,())else bif e9M x.1.2.2 then bif !(e9N x.1.2.2).1 then some (false,())else let a:=(length x.1.2.1:Int);bif K44 (a,1,20,()) then bif !(G44 (a,1,20,())).1 then some (false,())else let b:=(((),x.1.2.1,a,0,()),(x.1.1.1.1,x.1.1.1.2.1,x.1.1.2.1.1,x.1.1.2.1.2.1,x.1.2.1,x.1.2.2.1.1.1,x.1.2.2.1.1.2.1,x.1.2.2.1.2.1),());bif d5n b then bif d5o b then some (d5p b).1 else some (true,())else none else none else none else none
def K93 (x):=(F93 x).isSome
def G93 (x):=(F93 x).getD (zero R93)
def m93:=(93,a0c A93 R93 K93 G93)
noncomputable def g1Q:=gE [f9u,m44,m63,f4t] Tryz.f93 (lps:=[(4,lmR e5G b5C)])
theorem d9n:EvR g1Q (lp Tryz.f93 0) e5G c5c:=fun _ _=>by kernel_rfl
theorem e5H:a0f Tryz.prog m93:=a0Q (a0L (s4 e5B a9v c4M d5m)) (a1F Tryz.func93 rfl rfl rfl (by kernel_rfl) (a0j (by kernel_rfl) (s1 (lR d9n d9m)))) fun _=>by kernel_rfl
abbrev A42:Ty:=.cons (S40) (.nil)
abbrev R42:Ty:=.cons (.bool) (.nil)
def F42 (x:Den A42):OD R42:=bif K90 (x.1.1,()) then bif (G90 (x.1.1,())).1 then bif K91 (x.1.2.1,()) then bif (G91 (x.1.2.1,())).1 then bif K92 (x.1.2.2.1,()) then bif (G92 (x.1.2.2.1,())).1 then bif decide ((length x.1.2.2.1:Int)>0) then bif K93 x.1.2.2.2 then some (G93 x.1.2.2.2)else none else some (false,())else some (false,())else none else some (false,())else none else some (false,())else none
def K42 (x):=(F42 x).isSome
def G42 (x):=(F42 x).getD (zero R42)
def m42:=(42,a0c A42 R42 K42 G42)
theorem f4u:a0f Tryz.prog m42:=fnE (s4 e5q f4i f4p e5H) Tryz.func42
abbrev A46:Ty:=.cons (.slice (S97)) (.nil)
abbrev R46:Ty:=.cons (.bool) (.nil)
abbrev d0O:Type:=(c1w×c1w×a6K)×Unit
abbrev e5I:Type:=a5r
abbrev e5J:Type:=a9l
def e5K:LR:=⟨[0,8,9,10],[],0,[],[],⟨[(0,e1Q),(8,e1Q),(9,om0),(10,om0)],[],0,0⟩,⟨[],[],0,0⟩,⟨a9m,[],0,0⟩⟩
def c5d (f:d0O->Option (e5I⊕e5J)) (v:d0O):Option (e5I⊕e5J):=bif decide (v.1.2.2.2.1<v.1.2.2.1) then bif decide (0<=v.1.2.2.2.1)&&decide (v.1.2.2.2.1<(length v.1.2.1:Int)) then let a:=getD v.1.2.1 (toNat v.1.2.2.2.1) (zero S97);bif K63 (a.1,()) then bif !(G63 (a.1,())).1 then some (Sum.inr ((false,()),()))else bif K43 a.2 then bif !(G43 a.2).1 then some (Sum.inr ((false,()),()))else bif decide (v.1.2.2.2.1>0) then let b:=wrap .i64 (v.1.2.2.2.1-1);bif decide (0<=b)&&decide (b<(length v.1.1:Int)) then bif decide (a.2.1<=(getD v.1.1 (toNat b) (zero S97)).2.1) then some (Sum.inr ((false,()),()))else f (((v.1.1,v.1.2.1,v.1.2.2.1,wrap .i64 (v.1.2.2.2.1+1),()),()))else none else f (((v.1.1,v.1.2.1,v.1.2.2.1,wrap .i64 (v.1.2.2.2.1+1),()),()))else none else none else none else some (Sum.inl ((),()))
def d9o (v:d0O):Nat:=v.1.1.length+v.1.2.1.length+v.1.2.2.1.natAbs+v.1.2.2.2.1.natAbs+1000
def c0F (v:d0O):=a0K c5d (d9o v) v
def d5q (v):=(c0F v).isSome
def d5r (v):=isR (c0F v)
def f9x (v):=xOf default (c0F v)
def d5s (v):=yOf default (c0F v)
def F46 (x:Den A46):OD R46:=bif decide ((length x.1:Int)>200) then some (false,())else let a:=((x.1,x.1,(length x.1:Int),0,()),());bif d5q a then bif d5r a then some (d5s a).1 else some (true,())else none
def K46 (x):=(F46 x).isSome
def G46 (x):=(F46 x).getD (zero R46)
def m46:=(46,a0c A46 R46 K46 G46)
noncomputable def g1R:=gE [m63,m43] Tryz.f46 (lps:=[(4,lmR e5K c0F)])
theorem d9p:EvR g1R (lp Tryz.f46 0) e5K c5d:=fun _ _=>by kernel_rfl
theorem e5L:a0f Tryz.prog m46:=a0Q (a0L (s2 c4M d9h)) (a1F Tryz.func46 rfl rfl rfl (by kernel_rfl) (a0j (by kernel_rfl) (s1 (lR d9p d9o)))) fun _=>by kernel_rfl
abbrev f9y:Ty:=.cons (.cpx .f64) (.cons (.cpx .f64) (.nil))
abbrev f4v:Ty:=.cons (.flt .f64) (.nil)
def e9O (x:Den f9y):OD f4v:=some (a0b .add .f64 (a0b .mul .f64 x.1.1 x.2.1.1) (a0b .mul .f64 x.1.2 x.2.1.2),())
def e5M (x):=(e9O x).isSome
def e2j (x):=(e9O x).getD (zero f4v)
def g1S:=(225,a0c f9y f4v e5M e2j)
theorem d5t:a0f Tryz.prog g1S:=fnE nS Tryz.func225
abbrev f9z:Sg:=⟨[.val (.int .i64),.val (.cpx .f64),.ptr 0,.ptr 1,.ptr 2],[.box (.cpx .f64),.box (.flt .f64),.box (.int .i64)]⟩
abbrev f4w:Sg:=⟨[],[.box (.cpx .f64),.box (.flt .f64),.box (.int .i64)]⟩
def e9P (x:f9z.den):Option (f4w.den):=bif e5M (x.2.1,x.1.2.1,()) then bif x.1.1==0 then some ((),x.2.1,(e2j (x.2.1,x.1.2.1,())).1,x.1.1,())else let a:=e2j (x.2.1,x.1.2.1,());bif fgt .f64 a.1 x.2.2.1 then some ((),x.2.1,a.1,x.1.1,())else some ((),x.2)else none
def f4x (x):=(e9P x).isSome
def f4y (x):=(e9P x).getD (a0Y f4w)
def f9A:=(224,a0H true f9z f4w f4x f4y)
theorem d5u:a0f Tryz.prog f9A:=sgE true (s1 d5t) Tryz.func224
abbrev f9B:Ty:=.cons (.cpx .f64) (.cons (.cpx .f64) (.nil))
abbrev f4z:Ty:=.cons (.cpx .f64) (.nil)
def e5N (x:Den f9B):OD f4z:=some ((a0b .sub .f64 (a0b .mul .f64 x.1.1 x.2.1.1) (a0b .mul .f64 x.1.2 x.2.1.2),a0b .add .f64 (a0b .mul .f64 x.1.1 x.2.1.2) (a0b .mul .f64 x.1.2 x.2.1.1)),())
def e5O (x):=(e5N x).isSome
def e5P (x):=(e5N x).getD (zero f4z)
def f4A:=(177,a0c f9B f4z e5O e5P)
theorem d5v:a0f Tryz.prog f4A:=fnE nS Tryz.func177
abbrev f9C:Sg:=⟨[.fnv 224 [0,1,2]],[.box (.cpx .f64),.box (.flt .f64),.box (.int .i64)]⟩
abbrev f4B:Sg:=⟨[],[.box (.cpx .f64),.box (.flt .f64),.box (.int .i64)]⟩
abbrev b8j:Type:=(Unit×a4r×ty7)×(a4r×Unit)×(Nat×Unit)×c9J
abbrev d5w:Type:=Unit×(a4r×Unit)×(Nat×Unit)×c9J
def d5x:LX:=⟨[0,2,3],[],0,[],[],⟨[(0,.one (.fn 224 [0,1,2])),(2,om6),(3,om0)],[(0,.box [.cpx .f64]),(1,.box [.flt .f64]),(2,.box [.int .i64])],3,3⟩,⟨[],[(0,.box [.cpx .f64]),(1,.box [.flt .f64]),(2,.box [.int .i64])],3,3⟩⟩
def b3G (f:b8j->Option (d5w)) (v:b8j):Option (d5w):=bif decide (v.1.2.2.1<360) then bif f4x ((v.1.2.2.1,v.1.2.1,(),(),(),()),v.2.1.1,v.2.2.1.1,v.2.2.2.1) then bif e5O (v.1.2.1,(4607181046959943561,4580687535080594718),()) then let a:=f4y ((v.1.2.2.1,v.1.2.1,(),(),(),()),v.2.1.1,v.2.2.1.1,v.2.2.2.1);f ((((),(e5P (v.1.2.1,(4607181046959943561,4580687535080594718),())).1,wrap .i64 (v.1.2.2.1+1),()),(a.2.1,()),(a.2.2.1,()),a.2.2.2,()))else none else none else some ((),v.2)
def b8k (v:b8j):Nat:=v.1.2.2.1.natAbs+v.2.2.2.1.1.natAbs+1000
def b8l (v:b8j):=a0K b3G (b8k v) v
def c5e (v):=(b8l v).isSome
def c5f (v):=(b8l v).getD default
def e9Q (x:f9C.den):Option (f4B.den):=let b:=(((),(4607182418800017408,0),0,()),(x.2.1,()),(x.2.2.1,()),x.2.2.2,());bif c5e b then let a:=c5f b;some ((),a.2.1.1,a.2.2.1.1,a.2.2.2.1)else none
def f4C (x):=(e9Q x).isSome
def f4D (x):=(e9Q x).getD (a0Y f4B)
def g1T:=(223,a0H true f9C f4B f4C f4D)
noncomputable def f4E:=gE [f4A,f9A] Tryz.f223 (lps:=[(2,lmX d5x b8l)])
theorem d0P:EvX f4E (lp Tryz.f223 0) d5x b3G:=fun _ _=>by kernel_rfl
theorem e5Q:a0f Tryz.prog g1T:=a2Y (a0L (s2 d5v d5u)) (a1F Tryz.func223 rfl rfl rfl (by kernel_rfl) (a0j (by kernel_rfl) (s1 (lX d0P b8k)))) true fun _=>by kernel_rfl
abbrev f9D:Ty:=.cons (.cpx .f64) (.nil)
abbrev f4F:Ty:=.cons (.int .i64) (.nil)
def e5R (x:Den f9D):OD f4F:=bif K61 x then bif !(G61 x).1 then some (-1,())else bif feq .f64 x.1.1 0&&feq .f64 x.1.2 0 then some (-1,())else bif f4C (((),()),x.1,0,0,()) then some (f4D (((),()),x.1,0,0,())).2.2.2 else none else none
def f4G (x):=(e5R x).isSome
def f4H (x):=(e5R x).getD (zero f4F)
def g1U:=(178,a0c f9D f4F f4G f4H)
theorem e5S:a0f Tryz.prog g1U:=fnE (s3 d0H d5u e5Q) Tryz.func178
abbrev f9E:Ty:=.cons (.cpx .f32) (.nil)
abbrev f4I:Ty:=.cons (.int .i64) (.nil)
def e5T (x:Den f9E):OD f4I:=bif K45 x then bif !(G45 x).1 then some (-1,())else bif feq .f32 x.1.1 0&&feq .f32 x.1.2 0 then some (-1,())else let a:=a3g .f32 x.1.1;let b:=a3g .f32 x.1.2;bif f4G (((a0y .f32 .f64 a).2,(a0y .f32 .f64 b).2),()) then some (f4H (((a0y .f32 .f64 a).2,(a0y .f32 .f64 b).2),()))else none else none
def e2k (x):=(e5T x).isSome
def d0Q (x):=(e5T x).getD (zero f4I)
def g1V:=(110,a0c f9E f4I e2k d0Q)
theorem d5y:a0f Tryz.prog g1V:=fnE (s2 c4H e5S) Tryz.func110
abbrev f9F:Ty:=.cons (.cpx .f32) (.nil)
abbrev f4J:Ty:=.cons (.cpx .f64) (.nil)
def f4K (x:Den f9F):OD f4J:=some (((a0y .f32 .f64 x.1.1).2,(a0y .f32 .f64 x.1.2).2),())
def f4L (x):=(f4K x).isSome
def f4M (x):=(f4K x).getD (zero f4J)
def g1W:=(181,a0c f9F f4J f4L f4M)
theorem e5U:a0f Tryz.prog g1W:=fnE nS Tryz.func181
abbrev f9G:Ty:=.cons (.flt .f64) (.nil)
abbrev f4N:Ty:=.cons (.flt .f64) (.nil)
abbrev b8m:Type:=(Nat×Nat×ty7)×Unit
abbrev d5z:Type:=(Nat×Unit)×Unit
def d5A:LX:=⟨[0,3,4],[],0,[3],[],⟨[(0,om9),(3,om9),(4,om0)],[],0,0⟩,⟨[(3,om9)],[],0,0⟩⟩
def b3H (f:b8m->Option (d5z)) (v:b8m):Option (d5z):=bif decide (v.1.2.2.1<60) then f (((v.1.1,a0b .quo .f64 (a0b .add .f64 v.1.2.1 (a0b .quo .f64 v.1.1 v.1.2.1)) 4611686018427387904,wrap .i64 (v.1.2.2.1+1),()),()))else some ((v.1.2.1,()),())
def b8n (v:b8m):Nat:=v.1.2.2.1.natAbs+1000
def b8o (v:b8m):=a0K b3H (b8n v) v
def c5g (v):=(b8o v).isSome
def c5h (v):=(b8o v).getD default
def e5V (x:Den f9G):OD f4N:=bif fgt .f64 x.1 4427486594234968593||feq .f64 x.1 4427486594234968593 then bif !(flt .f64 x.1 4861130398305394688||feq .f64 x.1 4861130398305394688) then some (0,())else let a:=b1Y .f64 x.1 4607182418800017408;bif c5g ((x.1,a,0,()),()) then some (c5h ((x.1,a,0,()),())).1 else none else some (0,())
def f4O (x):=(e5V x).isSome
def f4P (x):=(e5V x).getD (zero f4N)
def g1X:=(228,a0c f9G f4N f4O f4P)
noncomputable def f4Q:=gE [] Tryz.f228 (lps:=[(5,lmX d5A b8o)])
theorem d0R:EvX f4Q (lp Tryz.f228 0) d5A b3H:=fun _ _=>by kernel_rfl
theorem e5W:a0f Tryz.prog g1X:=a0Q (a0L nS) (a1F Tryz.func228 rfl rfl rfl (by kernel_rfl) (a0j (by kernel_rfl) (s1 (lX d0R b8n)))) fun _=>by kernel_rfl
abbrev f9H:Ty:=.cons (.cpx .f64) (.nil)
abbrev f4R:Ty:=.cons (.flt .f64) (.nil)
def e5X (x:Den f9H):OD f4R:=bif K61 x then bif !(G61 x).1 then some (0,())else bif e5M (x.1,x) then let a:=e2j (x.1,x);bif f4O a then some (f4P a)else none else none else none
def f4S (x):=(e5X x).isSome
def f4T (x):=(e5X x).getD (zero f4R)
def g1Y:=(180,a0c f9H f4R f4S f4T)
theorem e5Y:a0f Tryz.prog g1Y:=fnE (s3 d0H d5t e5W) Tryz.func180
abbrev f9I:Ty:=.cons (.cpx .f32) (.nil)
abbrev f4U:Ty:=.cons (.flt .f32) (.nil)
def e5Z (x:Den f9I):OD f4U:=bif K45 x then bif !(G45 x).1 then some (0,())else bif f4L x then let a:=f4M x;bif f4S a then let b:=f4T a;bif (a0y .f64 .f32 b.1).1 then some ((a0y .f64 .f32 b.1).2,())else none else none else none else none
def e2l (x):=(e5Z x).isSome
def d9q (x):=(e5Z x).getD (zero f4U)
def g1Z:=(112,a0c f9I f4U e2l d9q)
theorem d5B:a0f Tryz.prog g1Z:=fnE (s3 c4H e5U e5Y) Tryz.func112
abbrev f9J:Ty:=.cons (.int .i64) (.nil)
abbrev f4V:Ty:=.cons (.int .i64) (.nil)
def d0S (x:Den f9J):OD f4V:=some (Int.tmod (wrap .i64 (Int.tmod x.1 360+360)) 360,())
def d5C (x):=(d0S x).isSome
def d5D (x):=(d0S x).getD (zero f4V)
def f9K:=(176,a0c f9J f4V d5C d5D)
theorem d5E:a0f Tryz.prog f9K:=fnE nS Tryz.func176
abbrev f9L:Ty:=.cons (.int .i64) (.cons (.int .i64) (.nil))
abbrev f4W:Ty:=.cons (.int .i64) (.nil)
def e6a (x:Den f9L):OD f4W:=bif d5C x.2 then bif d5C (x.1,()) then let a:=wrap .i64 ((d5D x.2).1-(d5D (x.1,())).1);bif d5C (a,()) then let b:=d5D (a,());let c:=wrap .i64 (0-b.1);bif d5C (c,()) then some (a5e b.1 (d5D (c,())).1,())else none else none else none else none
def e2m (x):=(e6a x).isSome
def d9r (x):=(e6a x).getD (zero f4W)
def g2a:=(113,a0c f9L f4W e2m d9r)
theorem d5F:a0f Tryz.prog g2a:=fnE (s1 d5E) Tryz.func113
abbrev f9M:Ty:=.cons (.flt .f32) (.cons (.flt .f32) (.cons (.flt .f32) (.nil)))
abbrev f4X:Ty:=.cons (.flt .f32) (.nil)
def f9N (x:Den f9M):OD f4X:=some (a0b .add .f32 x.1 (a0b .mul .f32 (a0b .sub .f32 x.2.1 x.1) x.2.2.1),())
def f4Y (x):=(f9N x).isSome
def f4Z (x):=(f9N x).getD (zero f4X)
def f5a:=(227,a0c f9M f4X f4Y f4Z)
theorem d5G:a0f Tryz.prog f5a:=fnE nS Tryz.func227
abbrev f9O:Ty:=.cons (S27) (.cons (.slice (.flt .f32)) (.cons (.int .i64) (.nil)))
abbrev f5b:Ty:=.cons (.flt .f32) (.nil)
abbrev b8p:Type:=(b2V×Int×Unit×ty4×a6K)×c0x
abbrev d5H:Type:=a5r
abbrev d5I:Type:=(Nat×Unit)×Unit
def d5J:LR:=⟨[1,2,3,11,12,13],[],0,[],[],⟨[(1,e3i),(2,om0),(3,om1),(11,e3j),(12,om0),(13,om0)],b4J,1,0⟩,⟨[],[],0,0⟩,⟨[(6,om7)],[],0,0⟩⟩
def b3I (f:b8p->Option (d5H⊕d5I)) (v:b8p):Option (d5H⊕d5I):=bif decide (v.1.2.2.2.2.2.1<v.1.2.2.2.2.1) then bif decide (0<=v.1.2.2.2.2.2.1)&&decide (v.1.2.2.2.2.2.1<(length v.1.2.2.2.1:Int)) then let b:=getD v.1.2.2.2.1 (toNat v.1.2.2.2.2.2.1) (zero (Ty.int IntKind.i64));bif b==v.1.2.1 then bif decide (0<=v.1.2.2.2.2.2.1)&&decide (v.1.2.2.2.2.2.1<(length v.1.1:Int)) then some (Sum.inr ((getD v.1.1 (toNat v.1.2.2.2.2.2.1) (zero (Ty.flt .f32)),()),()))else none else bif decide (b>v.1.2.1) then let a:=wrap .i64 (v.1.2.2.2.2.2.1-1);bif decide (0<=a)&&decide (a<(length v.2.1.2.1:Int)) then bif decide (0<=a)&&decide (a<(length v.1.1:Int)) then bif decide (0<=v.1.2.2.2.2.2.1)&&decide (v.1.2.2.2.2.2.1<(length v.1.1:Int)) then let c:=getD v.1.1 (toNat a) (zero (Ty.flt .f32));let d:=getD v.1.1 (toNat v.1.2.2.2.2.2.1) (zero (Ty.flt .f32));let e:=getD v.2.1.2.1 (toNat a) (zero (Ty.int IntKind.i64));let g:=a0b .quo .f32 (nearest .f32 (wrap .i64 (v.1.2.1-e))) (nearest .f32 (wrap .i64 (b-e)));bif f4Y (c,d,g,()) then some (Sum.inr (f4Z (c,d,g,()),()))else none else none else none else none else f (((v.1.1,v.1.2.1,(),v.1.2.2.2.1,v.1.2.2.2.2.1,wrap .i64 (v.1.2.2.2.2.2.1+1),()),v.2))else none else some (Sum.inl ((),()))
def b8q (v:b8p):Nat:=v.1.1.length+v.1.2.1.natAbs+v.1.2.2.2.1.length+v.1.2.2.2.2.1.natAbs+v.1.2.2.2.2.2.1.natAbs+v.2.1.1.length+v.2.1.2.1.length+v.2.1.2.2.1.length+1000
def b0g (v:b8p):=a0K b3I (b8q v) v
def c5i (v):=(b0g v).isSome
def c5j (v):=isR (b0g v)
def f5c (v):=xOf default (b0g v)
def c5k (v):=yOf default (b0g v)
def d5K (x:Den f9O):OD f5b:=let a:=((x.2.1,x.2.2.1,(),x.1.2.1,(length x.1.2.1:Int),0,()),x.1,());bif c5i a then bif c5j a then some (c5k a).1 else some (0,())else none
def e2n (x):=(d5K x).isSome
def e2o (x):=(d5K x).getD (zero f5b)
def f9P:=(226,a0c f9O f5b e2n e2o)
noncomputable def f5d:=gE [f5a] Tryz.f226 (lps:=[(2,lmR d5J b0g)])
theorem d0T:EvR f5d (lp Tryz.f226 0) d5J b3I:=fun _ _=>by kernel_rfl
theorem e6b:a0f Tryz.prog f9P:=a0Q (a0L (s1 d5G)) (a1F Tryz.func226 rfl rfl rfl (by kernel_rfl) (a0j (by kernel_rfl) (s1 (lR d0T b8q)))) fun _=>by kernel_rfl
abbrev f9Q:Ty:=.cons (S27) (.cons (.flt .f32) (.cons (.int .i64) (.nil)))
abbrev f5e:Ty:=.cons (.flt .f32) (.nil)
abbrev b8r:Type:=e8V
abbrev d5L:Type:=e8V
def d5M:LX:=⟨[1,2,3,8],[],0,[1,2,3,8],[],⟨[(1,om7),(2,om0),(3,om1),(8,om0)],b4J,1,0⟩,⟨[(1,om7),(2,om0),(3,om1),(8,om0)],b4J,1,0⟩⟩
def b3J (f:b8r->Option (d5L)) (v:b8r):Option (d5L):=let a:=wrap .i64 (v.1.2.2.2.1+1);bif decide (0<=a)&&decide (a<(length v.2.1.1:Int)) then let b:=getD v.2.1.1 (toNat a) (zero (Ty.flt .f32));bif flt .f32 b v.1.1||feq .f32 b v.1.1 then f (((v.1.1,v.1.2.1,(),a,()),v.2))else some (v)else none
def b8s (v:b8r):Nat:=v.1.2.1.natAbs+v.1.2.2.2.1.natAbs+v.2.1.1.length+v.2.1.2.1.length+v.2.1.2.2.1.length+1000
def b8t (v:b8r):=a0K b3J (b8s v) v
def c5l (v):=(b8t v).isSome
def c5m (v):=(b8t v).getD default
def e6c (x:Den f9Q):OD f5e:=bif decide (0<=0)&&decide (0<(length x.1.1:Int)) then let i:=getD x.1.1 (toNat 0) (zero (Ty.flt .f32));bif flt .f32 x.2.1 i||feq .f32 x.2.1 i then bif decide (0<=0)&&decide (0<(length x.1.1:Int)) then bif decide (0<=0)&&decide (0<(length x.1.2.2.1:Int)) then let b:=getD x.1.2.2.1 (toNat 0) (zero (Ty.slice (Ty.flt .f32)));bif e2n (x.1,b,x.2.2) then some (a0b .mul .f32 (a0b .quo .f32 x.2.1 i) (e2o (x.1,b,x.2.2)).1,())else none else none else none else let b:=wrap .i64 ((length x.1.1:Int)-1);bif decide (0<=b)&&decide (b<(length x.1.1:Int)) then let j:=getD x.1.1 (toNat b) (zero (Ty.flt .f32));bif fgt .f32 x.2.1 j||feq .f32 x.2.1 j then bif decide (0<=b)&&decide (b<(length x.1.2.2.1:Int)) then let k:=getD x.1.2.2.1 (toNat b) (zero (Ty.slice (Ty.flt .f32)));bif e2n (x.1,k,x.2.2) then some (e2o (x.1,k,x.2.2))else none else none else bif c5l ((x.2.1,x.2.2.1,(),0,()),x.1,()) then let a:=c5m ((x.2.1,x.2.2.1,(),0,()),x.1,());bif decide (0<=a.1.2.2.2.1)&&decide (a.1.2.2.2.1<(length a.2.1.1:Int)) then let c:=wrap .i64 (a.1.2.2.2.1+1);bif decide (0<=c)&&decide (c<(length a.2.1.1:Int)) then bif decide (0<=a.1.2.2.2.1)&&decide (a.1.2.2.2.1<(length a.2.1.2.2.1:Int)) then let l:=getD a.2.1.2.2.1 (toNat a.1.2.2.2.1) (zero (Ty.slice (Ty.flt .f32)));bif e2n (a.2.1,l,a.1.2.1,()) then bif decide (0<=c)&&decide (c<(length a.2.1.2.2.1:Int)) then let m:=getD a.2.1.2.2.1 (toNat c) (zero (Ty.slice (Ty.flt .f32)));bif e2n (a.2.1,m,a.1.2.1,()) then let d:=e2o (a.2.1,l,a.1.2.1,());let e:=e2o (a.2.1,m,a.1.2.1,());let g:=getD a.2.1.1 (toNat a.1.2.2.2.1) (zero (Ty.flt .f32));let h:=a0b .quo .f32 (a0b .sub .f32 a.1.1 g) (a0b .sub .f32 (getD a.2.1.1 (toNat c) (zero (Ty.flt .f32))) g);bif f4Y (d.1,e.1,h,()) then some (f4Z (d.1,e.1,h,()))else none else none else none else none else none else none else none else none else none else none
def f5f (x):=(e6c x).isSome
def f5g (x):=(e6c x).getD (zero f5e)
def g2b:=(179,a0c f9Q f5e f5f f5g)
noncomputable def f5h:=gE [f9P,f5a] Tryz.f179 (lps:=[(7,lmX d5M b8t)])
theorem d0U:EvX f5h (lp Tryz.f179 0) d5M b3J:=fun _ _=>by kernel_rfl
theorem e6d:a0f Tryz.prog g2b:=a0Q (a0L (s2 e6b d5G)) (a1F Tryz.func179 rfl rfl rfl (by kernel_rfl) (a0j (by kernel_rfl) (s1 (lX d0U b8s)))) fun _=>by kernel_rfl
abbrev f9R:Ty:=.cons (S27) (.cons (.flt .f32) (.cons (.int .i64) (.nil)))
abbrev f5i:Ty:=.cons (.flt .f32) (.cons (.bool) (.nil))
def e9R (x:Den f9R):OD f5i:=bif K90 (x.1,()) then bif !(G90 (x.1,())).1 then some (0,false,())else bif fgt .f32 x.2.1 0||feq .f32 x.2.1 0 then bif !(flt .f32 x.2.1 1120403456||feq .f32 x.2.1 1120403456) then some (0,false,())else bif K44 (x.2.2.1,0,180,()) then bif !(G44 (x.2.2.1,0,180,())).1 then some (0,false,())else bif f5f x then some ((f5g x).1,true,())else none else none else some (0,false,())else none
def e9S (x):=(e9R x).isSome
def e9T (x):=(e9R x).getD (zero f5i)
def g2c:=(111,a0c f9R f5i e9S e9T)
theorem e6e:a0f Tryz.prog g2c:=fnE (s3 e5q a9v e6d) Tryz.func111
abbrev A57:Ty:=.cons (S46) (.nil)
abbrev R57:Ty:=.cons (.flt .f32) (.nil)
def F57 (x:Den A57):OD R57:=bif e2k (x.1.2.2.2.2.1,()) then let a:=d0Q (x.1.2.2.2.2.1,());bif decide (a.1<0) then some (0,())else bif e2l (x.1.2.2.2.2.1,()) then bif e2m (x.1.2.2.2.1,a) then let b:=d9q (x.1.2.2.2.2.1,());let c:=d9r (x.1.2.2.2.1,a);bif e9S (x.1.1.1,b.1,c) then some ((e9T (x.1.1.1,b.1,c)).1,())else none else none else none else none
def K57 (x):=(F57 x).isSome
def G57 (x):=(F57 x).getD (zero R57)
def m57:=(57,a0c A57 R57 K57 G57)
theorem f5j:a0f Tryz.prog m57:=fnE (s4 d5y d5B d5F e6e) Tryz.func57
abbrev f9S:Ty:=.cons (.int .i64) (.nil)
abbrev f5k:Ty:=.cons (.cpx .f64) (.nil)
abbrev b8u:Type:=(a4r×ty7)×Unit
abbrev d5N:Type:=(a4r×Unit)×Unit
def d5O:LX:=⟨[3,4],[],0,[3],[],⟨[(3,om6),(4,om0)],[],0,0⟩,⟨[(3,om6)],[],0,0⟩⟩
def b3K (f:b8u->Option (d5N)) (v:b8u):Option (d5N):=bif decide (v.1.2.1>0) then bif e5O (v.1.1,(4607181046959943561,4580687535080594718),()) then f ((((e5P (v.1.1,(4607181046959943561,4580687535080594718),())).1,wrap .i64 (v.1.2.1-1),()),()))else none else some ((v.1.1,()),())
def b8v (v:b8u):Nat:=v.1.2.1.natAbs+1000
def b8w (v:b8u):=a0K b3K (b8v v) v
def c5n (v):=(b8w v).isSome
def c5o (v):=(b8w v).getD default
def e9U (x:Den f9S):OD f5k:=bif d5C x then let b:=d5D x;let a:=(((4607182418800017408,0),b),());bif c5n a then some (c5o a).1 else none else none
def f5l (x):=(e9U x).isSome
def f5m (x):=(e9U x).getD (zero f5k)
def g2d:=(109,a0c f9S f5k f5l f5m)
noncomputable def f5n:=gE [f9K,f4A] Tryz.f109 (lps:=[(3,lmX d5O b8w)])
theorem d0V:EvX f5n (lp Tryz.f109 0) d5O b3K:=fun _ _=>by kernel_rfl
theorem e6f:a0f Tryz.prog g2d:=a0Q (a0L (s2 d5E d5v)) (a1F Tryz.func109 rfl rfl rfl (by kernel_rfl) (a0j (by kernel_rfl) (s1 (lX d0V b8v)))) fun _=>by kernel_rfl
abbrev f9T:Ty:=.cons (.cpx .f64) (.cons (.flt .f32) (.nil))
abbrev f5o:Ty:=.cons (.cpx .f32) (.nil)
def e9V (x:Den f9T):OD f5o:=let a:=a0y .f64 .f32 x.1.1;bif a.1 then let b:=a0y .f64 .f32 x.1.2;bif b.1 then some ((a0b .mul .f32 a.2 x.2.1,a0b .mul .f32 b.2 x.2.1),())else none else none
def f5p (x):=(e9V x).isSome
def f5q (x):=(e9V x).getD (zero f5o)
def g2e:=(108,a0c f9T f5o f5p f5q)
theorem e6g:a0f Tryz.prog g2e:=fnE nS Tryz.func108
abbrev A56:Ty:=.cons (.int .i64) (.cons (.flt .f32) (.nil))
abbrev R56:Ty:=.cons (.cpx .f32) (.cons (.bool) (.nil))
def F56 (x:Den A56):OD R56:=bif e5h x.2 then bif !(e5i x.2).1 then some ((0,0),false,())else bif f5l (x.1,()) then let a:=f5m (x.1,());bif f5p (a.1,x.2) then some ((f5q (a.1,x.2)).1,true,())else none else none else none
def K56 (x):=(F56 x).isSome
def G56 (x):=(F56 x).getD (zero R56)
def m56:=(56,a0c A56 R56 K56 G56)
theorem f5r:a0f Tryz.prog m56:=fnE (s3 d4E e6f e6g) Tryz.func56
abbrev f9U:Ty:=.cons (.cpx .f32) (.cons (.cpx .f32) (.nil))
abbrev f5s:Ty:=.cons (.cpx .f32) (.cons (.bool) (.nil))
def e9W (x:Den f9U):OD f5s:=bif K45 (x.1,()) then bif !(G45 (x.1,())).1 then some ((0,0),false,())else bif K45 x.2 then bif !(G45 x.2).1 then some ((0,0),false,())else some ((a0b .sub .f32 x.1.1 x.2.1.1,a0b .sub .f32 x.1.2 x.2.1.2),true,())else none else none
def f5t (x):=(e9W x).isSome
def f5u (x):=(e9W x).getD (zero f5s)
def g2f:=(114,a0c f9U f5s f5t f5u)
theorem e6h:a0f Tryz.prog g2f:=fnE (s1 c4H) Tryz.func114
abbrev A58:Ty:=.cons (.cpx .f32) (.cons (.cpx .f32) (.cons (.int .i64) (.nil)))
abbrev R58:Ty:=.cons (S63) (.cons (.bool) (.nil))
def F58 (x:Den A58):OD R58:=bif f5t (x.1,x.2.1,()) then let a:=f5u (x.1,x.2.1,());bif e2k (a.1,()) then bif !a.2.1 then some ((0,0,()),false,())else let b:=d0Q (a.1,());bif decide (b.1<0) then some ((0,0,()),false,())else bif e2l (a.1,()) then bif e2m (x.2.2.1,b) then some (((d9q (a.1,())).1,d9r (x.2.2.1,b)),true,())else none else none else none else none
def K58 (x):=(F58 x).isSome
def G58 (x):=(F58 x).getD (zero R58)
def m58:=(58,a0c A58 R58 K58 G58)
theorem f5v:a0f Tryz.prog m58:=fnE (s4 e6h d5y d5B d5F) Tryz.func58
abbrev A19:Ty:=.cons (S46) (.nil)
abbrev R19:Ty:=.cons (S63) (.cons (.bool) (.nil))
def F19 (x:Den A19):OD R19:=bif K57 x then let a:=G57 x;bif K56 (x.1.2.2.2.1,a) then let b:=G56 (x.1.2.2.2.1,a);bif !b.2.1 then some ((0,0,()),false,())else let c:=(x.1.2.2.2.2.1,b.1,x.1.2.2.2.1,());bif K58 c then some (G58 c)else none else none else none
def K19 (x):=(F19 x).isSome
def G19 (x):=(F19 x).getD (zero R19)
def m19:=(19,a0c A19 R19 K19 G19)
theorem f5w:a0f Tryz.prog m19:=fnE (s3 f5j f5r f5v) Tryz.func19
abbrev A20:Ty:=.cons (S68) (.cons (S63) (.nil))
abbrev R20:Ty:=.cons (.bool) (.nil)
def F20 (x:Den A20):OD R20:=bif decide (x.2.1.2.1 ≥ x.1.2.2.2.1) then bif decide (x.2.1.2.1<=x.1.2.2.2.2.1) then let a:=a0b .sub .f32 x.1.2.1 1065353216;bif fgt .f32 x.2.1.1 a||feq .f32 x.2.1.1 a then let b:=a0b .add .f32 x.1.2.2.1 1065353216;bif flt .f32 x.2.1.1 b||feq .f32 x.2.1.1 b then some (true,())else some (false,())else some (false,())else let a:=a0b .sub .f32 x.1.2.1 1065353216;bif fgt .f32 x.2.1.1 a||feq .f32 x.2.1.1 a then let b:=a0b .add .f32 x.1.2.2.1 1065353216;bif flt .f32 x.2.1.1 b||feq .f32 x.2.1.1 b then some (decide ((wrap .u64 ((wrap .u64 x.2.1.2.1)-(wrap .u64 x.1.2.2.2.2.1)))<=5),())else some (false,())else some (false,())else bif decide (x.2.1.2.1<=x.1.2.2.2.2.1) then let a:=a0b .sub .f32 x.1.2.1 1065353216;bif fgt .f32 x.2.1.1 a||feq .f32 x.2.1.1 a then let b:=a0b .add .f32 x.1.2.2.1 1065353216;bif flt .f32 x.2.1.1 b||feq .f32 x.2.1.1 b then bif decide ((wrap .u64 ((wrap .u64 x.1.2.2.2.1)-(wrap .u64 x.2.1.2.1)))<=5) then some (true,())else some (false,())else some (false,())else some (false,())else let a:=a0b .sub .f32 x.1.2.1 1065353216;bif fgt .f32 x.2.1.1 a||feq .f32 x.2.1.1 a then let b:=a0b .add .f32 x.1.2.2.1 1065353216;bif flt .f32 x.2.1.1 b||feq .f32 x.2.1.1 b then let c:=wrap .u64 x.2.1.2.1;bif decide ((wrap .u64 ((wrap .u64 x.1.2.2.2.1)-c))<=5) then some (decide ((wrap .u64 (c-(wrap .u64 x.1.2.2.2.2.1)))<=5),())else some (false,())else some (false,())else some (false,())
def K20 (x):=(F20 x).isSome
def G20 (x):=(F20 x).getD (zero R20)
def m20:=(20,a0c A20 R20 K20 G20)
theorem f5x:a0f Tryz.prog m20:=fnE nS Tryz.func20
abbrev A14:Ty:=.cons (S46) (.nil)
abbrev R14:Ty:=.cons (.bool) (.nil)
def F14 (x:Den A14):OD R14:=bif K23 (x.1.2.2.1,()) then bif K42 (x.1.1,()) then bif !(G42 (x.1.1,())).1 then some (false,())else bif K43 (x.1.2.1,()) then bif !(G43 (x.1.2.1,())).1 then some (false,())else bif !(G23 (x.1.2.2.1,())).2.1 then some (false,())else bif K44 (x.1.2.2.2.1,0,359,()) then bif !(G44 (x.1.2.2.2.1,0,359,())).1 then some (false,())else bif K45 (x.1.2.2.2.2.1,()) then bif !(G45 (x.1.2.2.2.2.1,())).1 then some (false,())else let g:=(length x.1.1.2.2.1:Int);let h:=wrap .i64 (g-1);let j:=(x.1.2.2.2.2.2.1,-1,h,());bif K44 j then bif !(G44 j).1 then some (false,())else bif K46 (x.1.2.2.2.2.2.2.1,()) then bif !(G46 (x.1.2.2.2.2.2.2.1,())).1 then some (false,())else bif decide ((length x.1.2.2.2.2.2.2.2.1:Int)>300) then some (false,())else let i:=(length x.1.2.2.2.2.2.2.1:Int);bif decide (i>0) then let a:=wrap .i64 (i-1);bif decide (0<=a)&&decide (a<i) then bif decide ((getD x.1.2.2.2.2.2.2.1 (toNat a) (zero S97)).2.1>x.1.2.1) then some (false,())else bif decide (x.1.2.2.2.2.2.1 ≥ 0) then bif K19 x then let b:=G19 x;bif b.2.1 then bif decide (0<=x.1.2.2.2.2.2.1)&&decide (x.1.2.2.2.2.2.1<g) then let d:=getD x.1.1.2.2.1 (toNat x.1.2.2.2.2.2.1) (zero S68);bif K20 (d,b.1,()) then some (G20 (d,b.1,()))else none else none else some (false,())else none else some (true,())else none else bif decide (x.1.2.2.2.2.2.1 ≥ 0) then bif K19 x then let c:=G19 x;bif c.2.1 then bif decide (0<=x.1.2.2.2.2.2.1)&&decide (x.1.2.2.2.2.2.1<g) then let e:=getD x.1.1.2.2.1 (toNat x.1.2.2.2.2.2.1) (zero S68);bif K20 (e,c.1,()) then some (G20 (e,c.1,()))else none else none else some (false,())else none else some (true,())else none else none else none else none else none else none else none
def K14 (x):=(F14 x).isSome
def G14 (x):=(F14 x).getD (zero R14)
def m14:=(14,a0c A14 R14 K14 G14)
theorem f5y:a0f Tryz.prog m14:=fnE (s7c d9g f4u d9h a9v c4H e5L f5w (s1 f5x)) Tryz.func14
abbrev A25:Ty:=.cons (.int .i64) (.nil)
abbrev R25:Ty:=.cons (.str) (.nil)
def F25 (x:Den A25):OD R25:=bif K65 x then some (G65 x)else none
def K25 (x):=(F25 x).isSome
def G25 (x):=(F25 x).getD (zero R25)
def m25:=(25,a0c A25 R25 K25 G25)
theorem e6i:a0f Tryz.prog m25:=fnE (s1 f1O) Tryz.func25
abbrev A17:Ty:=.cons (.str) (.nil)
abbrev R17:Ty:=.cons (.int .i64) (.cons (.bool) (.nil))
abbrev b1r:Type:=(b2W×a6K)×Unit
abbrev c5p:Type:=e3e
abbrev c5q:Type:=(Int×c8F)×Unit
def b5D (f:b1r->Option (c5p⊕c5q)) (v:b1r):Option (c5p⊕c5q):=let b:=v.1.2.2.1<(ByteArray.size v.1.1:Int);bif decide b then let a:=decide (0<=v.1.2.2.1)&&decide b;bif a then bif decide (a0o v.1.1 v.1.2.2.1<48) then some (Sum.inr ((0,false,()),()))else bif a then bif decide (a0o v.1.1 v.1.2.2.1>57) then some (Sum.inr ((0,false,()),()))else bif a then f (((v.1.1,wrap .i64 ((wrap .i64 (v.1.2.1*10))+(wrap .i64 (wrap .u8 (a0o v.1.1 v.1.2.2.1-48)))),wrap .i64 (v.1.2.2.1+1),()),()))else none else none else none else some (Sum.inl ((v.1.1,v.1.2.1,()),()))
def c5r (v:b1r):Nat:=v.1.1.size+v.1.2.1.natAbs+v.1.2.2.1.natAbs+1000
def c0G (v:b1r):=a0K b5D (c5r v) v
def c5s (v):=(c0G v).isSome
def c5t (v):=isR (c0G v)
def c5u (v):=xOf default (c0G v)
def c5v (v):=yOf default (c0G v)
def F17 (x:Den A17):OD R17:=let b:=(ByteArray.size x.1:Int);bif b==0 then some (0,false,())else bif decide (b>10) then some (0,false,())else bif c5s ((x.1,0,0,()),()) then bif c5t ((x.1,0,0,()),()) then some (c5v ((x.1,0,0,()),())).1 else let a:=c5u ((x.1,0,0,()),());bif decide (a.1.2.1>1000000000) then some (0,false,())else bif K25 a.1.2 then bif !a1a (G25 a.1.2).1 a.1.1 then some (0,false,())else some (a.1.2.1,true,())else none else none
def K17 (x):=(F17 x).isSome
def G17 (x):=(F17 x).getD (zero R17)
abbrev g2g:Ty:=.cons (.int .i64) (.nil)
abbrev f9V:Ty:=.cons (.bool) (.nil)
def e9X (x:Den g2g):OD f9V:=let a:=(x.1,-1000000000,1000000000,());bif K44 a then some (G44 a)else none
def f9W (x):=(e9X x).isSome
def f9X (x):=(e9X x).getD (zero f9V)
abbrev g2h:Ty:=.cons (.int .i64) (.nil)
abbrev f5z:Ty:=.cons (.str) (.nil)
abbrev b8x:Type:=(Int×b2W×d2U)×Unit
abbrev d5P:Type:=(Int×b2W×d2U)×Unit
def c5w (f:b8x->Option (d5P)) (v:b8x):Option (d5P):=bif decide ((ByteArray.size v.1.2.2.1:Int)<3) then bif decide (ByteArray.size { data:=#[48] }+ByteArray.size v.1.2.2.1<=9223372036854775807) then f (((v.1.1,v.1.2.1,{ data:=#[48] }++v.1.2.2.1,()),()))else none else some (v)
def d5Q (v:b8x):Nat:=v.1.1.natAbs+v.1.2.1.size+v.1.2.2.1.size+1000
def c5x (v:b8x):=a0K c5w (d5Q v) v
def a8G (v):=(c5x v).isSome
def a1N (v):=(c5x v).getD default
def e9Y (x:Den g2h):OD f5z:=bif f9W x then bif !(f9X x).1 then some ({ data:=#[] },())else bif decide (x.1<0) then let g:=wrap .i64 (0-x.1);bif K25 (Int.tmod g 1000,()) then let l:=G25 (Int.tmod g 1000,());let h:=((g,{ data:=#[45] },l),());bif a8G h then let b:=a1N h;let i:=wrap .i64 (Int.tdiv b.1.1 1000);bif K25 (i,()) then let c:=G25 (i,());bif decide (ByteArray.size b.1.2.1+ByteArray.size c.1<=9223372036854775807) then let a:=b.1.2.1++c.1;bif decide (ByteArray.size a+ByteArray.size { data:=#[46] }<=9223372036854775807) then let d:=a++{ data:=#[46] };bif decide (ByteArray.size d+ByteArray.size b.1.2.2.1<=9223372036854775807) then some (d++b.1.2.2.1,())else none else none else none else none else none else none else bif K25 (Int.tmod x.1 1000,()) then let m:=G25 (Int.tmod x.1 1000,());let j:=((x.1,{ data:=#[] },m),());bif a8G j then let e:=a1N j;let b:=wrap .i64 (Int.tdiv e.1.1 1000);bif K25 (b,()) then let k:=G25 (b,());bif decide (ByteArray.size e.1.2.1+ByteArray.size k.1<=9223372036854775807) then let c:=e.1.2.1++k.1;bif decide (ByteArray.size c+ByteArray.size { data:=#[46] }<=9223372036854775807) then let a:=c++{ data:=#[46] };bif decide (ByteArray.size a+ByteArray.size e.1.2.2.1<=9223372036854775807) then some (a++e.1.2.2.1,())else none else none else none else none else none else none else none
def d0W (x):=(e9Y x).isSome
def d9s (x):=(e9Y x).getD (zero f5z)
abbrev g2i:Ty:=.cons (.str) (.nil)
abbrev e2p:Ty:=.cons (.int .i64) (.cons (.bool) (.nil))
abbrev b1s:Type:=(b2W×b2W×Int×Int×a6K)×Unit
abbrev c5y:Type:=(b2W×a6K)×Unit
abbrev c5z:Type:=(Int×c8F)×Unit
def a4b (f:b1s->Option (c5y⊕c5z)) (v:b1s):Option (c5y⊕c5z):=bif decide (v.1.2.2.2.2.2.1<(ByteArray.size v.1.2.1:Int)) then bif v.1.2.2.2.2.2.1==v.1.2.2.2.1 then f (((v.1.1,v.1.2.1,v.1.2.2.1,v.1.2.2.2.1,v.1.2.2.2.2.1,wrap .i64 (v.1.2.2.2.2.2.1+1),()),()))else bif decide (0<=v.1.2.2.2.2.2.1)&&decide (v.1.2.2.2.2.2.1<(ByteArray.size v.1.2.1:Int)) then bif decide (a0o v.1.2.1 v.1.2.2.2.2.2.1<48) then some (Sum.inr ((0,false,()),()))else bif decide (0<=v.1.2.2.2.2.2.1)&&decide (v.1.2.2.2.2.2.1<(ByteArray.size v.1.2.1:Int)) then bif decide (a0o v.1.2.1 v.1.2.2.2.2.2.1>57) then some (Sum.inr ((0,false,()),()))else bif decide (0<=v.1.2.2.2.2.2.1)&&decide (v.1.2.2.2.2.2.1<(ByteArray.size v.1.2.1:Int)) then f (((v.1.1,v.1.2.1,v.1.2.2.1,v.1.2.2.2.1,wrap .i64 ((wrap .i64 (v.1.2.2.2.2.1*10))+(wrap .i64 (wrap .u8 (a0o v.1.2.1 v.1.2.2.2.2.2.1-48)))),wrap .i64 (v.1.2.2.2.2.2.1+1),()),()))else none else none else none else some (Sum.inl ((v.1.1,v.1.2.2.1,v.1.2.2.2.2.1,()),()))
def a8H (v:b1s):Nat:=v.1.1.size+v.1.2.1.size+v.1.2.2.1.natAbs+v.1.2.2.2.1.natAbs+v.1.2.2.2.2.1.natAbs+v.1.2.2.2.2.2.1.natAbs+1000
def a6N (v:b1s):=a0K a4b (a8H v) v
def a3n (v):=(a6N v).isSome
def a4c (v):=isR (a6N v)
def a1h (v):=xOf default (a6N v)
def a4N (v):=yOf default (a6N v)
def d9t (x:Den g2i):OD e2p:=bif !a1a x.1 { data:=#[] } then let d:=(ByteArray.size x.1:Int);bif decide (0<=0)&&decide (0<d) then bif a0o x.1 0==45 then bif decide (0<=1)&&decide (1<=d)&&decide (d<=d) then let i:=(ByteArray.extract x.1 (toNat 1) (toNat d),46,());bif e3r i then let a:=a5s i;bif decide (a.1<1) then some (0,false,())else bif (↑(ByteArray.size (ByteArray.extract x.1 (toNat 1) (toNat d))):Int) != (wrap .i64 (a.1+4)) then some (0,false,())else bif decide (a.1>7) then some (0,false,())else let e:=((x.1,ByteArray.extract x.1 (toNat 1) (toNat d),-1,a.1,0,0,()),());bif a3n e then bif a4c e then some (a4N e).1 else let b:=a1h e;let c:=wrap .i64 (b.1.2.2.1*b.1.2.1);bif d0W (c,()) then bif !a1a (d9s (c,())).1 b.1.1 then some (0,false,())else some (c,true,())else none else none else none else none else bif e3r (x.1,46,()) then let a:=a5s (x.1,46,());bif decide (a.1<1) then some (0,false,())else bif d != (wrap .i64 (a.1+4)) then some (0,false,())else bif decide (a.1>7) then some (0,false,())else let g:=((x.1,x.1,1,a.1,0,0,()),());bif a3n g then bif a4c g then some (a4N g).1 else let b:=a1h g;let c:=wrap .i64 (b.1.2.2.1*b.1.2.1);bif d0W (c,()) then bif !a1a (d9s (c,())).1 b.1.1 then some (0,false,())else some (c,true,())else none else none else none else none else bif e3r (x.1,46,()) then let a:=a5s (x.1,46,());bif decide (a.1<1) then some (0,false,())else bif (ByteArray.size x.1:Int) != (wrap .i64 (a.1+4)) then some (0,false,())else bif decide (a.1>7) then some (0,false,())else let h:=((x.1,x.1,1,a.1,0,0,()),());bif a3n h then bif a4c h then some (a4N h).1 else let b:=a1h h;let c:=wrap .i64 (b.1.2.2.1*b.1.2.1);bif d0W (c,()) then bif !a1a (d9s (c,())).1 b.1.1 then some (0,false,())else some (c,true,())else none else none else none
def K191 (x):=(d9t x).isSome
def f5A (x):=(d9t x).getD (zero e2p)
abbrev A16:Ty:=.cons (.str) (.nil)
abbrev R16:Ty:=.cons (.slice (.str)) (.cons (.bool) (.nil))
abbrev b8y:Type:=(Unit×d8q×a6K)×d2R
abbrev d5R:Type:=a5r×d2R
def d5S:LX:=⟨[5,28,29,30],[.nil 5],2,[5],[],⟨[(5,on0),(28,e3h),(29,om0),(30,om0)],[(0,.arr (.str))],1,0⟩,⟨[(5,on0)],[(0,.arr (.str))],1,0⟩⟩
def b8z (f:b8y->Option (d5R)) (v:b8y):Option (d5R):=bif decide (v.1.2.2.2.1<v.1.2.2.1) then bif decide (0<=v.1.2.2.2.1)&&decide (v.1.2.2.2.1<(length v.1.2.1:Int)) then let a:=getD v.1.2.1 (toNat v.1.2.2.2.1) (zero Ty.str);bif !a1a a { data:=#[] } then let b:=set (replicate 1 (zero Ty.str)) 0 a;bif a0n (length v.2.1+length b) then f ((((),v.1.2.1,v.1.2.2.1,wrap .i64 (v.1.2.2.2.1+1),()),v.2.1++b,()))else none else f ((((),v.1.2.1,v.1.2.2.1,wrap .i64 (v.1.2.2.2.1+1),()),v.2))else none else some (((),()),v.2)
def b8A (v:b8y):Nat:=v.1.2.1.length+v.1.2.2.1.natAbs+v.1.2.2.2.1.natAbs+v.2.1.length+1000
def b8B (v:b8y):=a0K b8z (b8A v) v
def c5A (v):=(b8B v).isSome
def c5B (v):=(b8B v).getD default
abbrev d0X:Type:=e3e
abbrev e6j:Type:=d2U×Unit
abbrev e6k:Type:=(Unit×c8F)×Unit
def e6l:LR:=⟨[0,4],[],0,[0],[],⟨[(0,om5),(4,om0)],[],0,0⟩,⟨[(0,om5)],[],0,0⟩,⟨[(2,.one (.nil (.str))),(3,om4)],[],0,0⟩⟩
def c5C (f:d0X->Option (e6j⊕e6k)) (v:d0X):Option (e6j⊕e6k):=let a:=v.1.2.1<(ByteArray.size v.1.1:Int);bif decide a then let b:=decide (0<=v.1.2.1)&&decide a;bif b then bif decide (a0o v.1.1 v.1.2.1<32) then some (Sum.inr (((),false,()),()))else bif b then bif decide (a0o v.1.1 v.1.2.1>126) then some (Sum.inr (((),false,()),()))else f (((v.1.1,wrap .i64 (v.1.2.1+1),()),()))else none else none else some (Sum.inl ((v.1.1,()),()))
def d9u (v:d0X):Nat:=v.1.1.size+v.1.2.1.natAbs+1000
def c0H (v:d0X):=a0K c5C (d9u v) v
def d5T (v):=(c0H v).isSome
def d5U (v):=isR (c0H v)
def d5V (v):=xOf default (c0H v)
def d5W (v):=yOf default (c0H v)
def F16 (x:Den A16):OD R16:=bif decide ((ByteArray.size x.1:Int)>600) then some ([],false,())else bif d5T ((x.1,0,()),()) then bif d5U ((x.1,0,()),()) then some ([],(d5W ((x.1,0,()),())).1.2)else let e:=d5V ((x.1,0,()),());let a:=(e.1.1,{ data:=#[32] },());bif K48 a then let b:=G48 a;let c:=(((),b.1,(length b.1:Int),0,()),[],());bif c5A c then let d:=c5B c;bif decide ((length d.2.1:Int)>24) then some ([],false,())else some (d.2.1,true,())else none else none else none
def K16 (x):=(F16 x).isSome
def G16 (x):=(F16 x).getD (zero R16)
def m16:=(16,a0c A16 R16 K16 G16)
noncomputable def f9Y:=gE [m48] Tryz.f16 (lps:=[(4,lmR e6l c0H),(10,lmX d5S b8B)]) (rown:=[.frz 2])
theorem d9v:EvR f9Y (lp Tryz.f16 0) e6l c5C:=fun _ _=>by kernel_rfl
theorem d0Y:EvX f9Y (lp Tryz.f16 1) d5S b8z:=fun _ _=>by kernel_rfl
theorem f5B:a0f Tryz.prog m16:=a0Q (a0L (s1 f1Q)) (a1F Tryz.func16 rfl rfl rfl (by kernel_rfl) (a0j (by kernel_rfl) (s2 (lR d9v d9u) (lX d0Y b8A)))) fun _=>by kernel_rfl
theorem b8C (x:Den A44):F44 x=some (decide (x.2.1<=x.1)&&decide (x.1<=x.2.2.1),()):=by
 unfold F44;by_cases h:x.2.1<=x.1<;>simp[h]
theorem b0h (x:Den A51):F51 x=some (decide (x.2.1<=x.1)&&decide (x.1<=x.2.2.1),()):=b8C x
def b1t (s:Den S68) (m:Den S63):Bool:=(fgt .f32 m.1 s.2.1||feq .f32 m.1 s.2.1)&&(flt .f32 m.1 s.2.2.1||feq .f32 m.1 s.2.2.1)&&(decide (s.2.2.2.1<=m.2.1)&&decide (m.2.1<=s.2.2.2.2.1))
def I64 (n:Int):Prop := -9223372036854775808<=n /\ n<=9223372036854775807
def a2x (s:Den S68) (m:Den S63):Bool:=
 (fgt .f32 m.1 (a0b .sub .f32 s.2.1 1065353216)||feq .f32 m.1 (a0b .sub .f32 s.2.1 1065353216))&&(flt .f32 m.1 (a0b .add .f32 s.2.2.1 1065353216)||feq .f32 m.1 (a0b .add .f32 s.2.2.1 1065353216)) &&
  (decide (s.2.2.2.1<=m.2.1)||decide (s.2.2.2.1-m.2.1<=5))&&(decide (m.2.1<=s.2.2.2.2.1)||decide (m.2.1-s.2.2.2.2.1<=5))
theorem b8D {a b:Int} (c:I64 a) (d:I64 b) (h:¬b<=a):(decide (0<=IntKind.i64.wrap (b-a))&&decide (IntKind.i64.wrap (b-a)<=5))=decide (b-a<=5):=by
 unfold I64 at c d;rw[IntKind.wrap_i64,Bool.eq_iff_iff];simp only[Bool.and_eq_true,decide_eq_true_eq];omega
theorem b8E {a b:Int} (c:I64 a) (d:I64 b) (h:¬b<=a):decide (IntKind.u64.wrap (IntKind.u64.wrap b-IntKind.u64.wrap a)<=5)=decide (b-a<=5):=by
 unfold I64 at c d;rw[IntKind.wrap_u64,IntKind.wrap_u64,IntKind.wrap_u64,Bool.eq_iff_iff];simp only[decide_eq_true_eq];omega
theorem dlt (a b:Int):decide (a<b)=!decide (b<=a):=by by_cases h:b<=a<;>simp[h]<;>omega
theorem d5X (x:Den A55) (d:I64 x.1.2.2.2.1) (e:I64 x.1.2.2.2.2.1) (c:I64 x.2.1.2.1):F55 x=some (a2x x.1 x.2.1,()):=by
 unfold F55 a2x;simp only[K51,G51,b0h,isSome_some,getD_some,cond_true,dlt];generalize (fgt .f32 x.2.1.1 (a0b .sub .f32 x.1.2.1 1065353216)||feq .f32 x.2.1.1 (a0b .sub .f32 x.1.2.1 1065353216))=p;generalize (flt .f32 x.2.1.1 (a0b .add .f32 x.1.2.2.1 1065353216)||feq .f32 x.2.1.1 (a0b .add .f32 x.1.2.2.1 1065353216))=q;by_cases a:x.1.2.2.2.1<=x.2.1.2.1<;>by_cases b:x.2.1.2.1<=x.1.2.2.2.2.1
 ·simp only[a,b,decide_true];cases p<;>cases q<;>rfl
 ·simp only[a,b,decide_true,decide_false,b8D e c b];cases p<;>cases q<;>rfl
 ·simp only[a,b,decide_true,decide_false,b8D c d a];cases p<;>cases q<;>cases decide (x.1.2.2.2.1-x.2.1.2.1<=5)<;>rfl
 ·simp only[a,b,decide_false,b8D c d a,b8D e c b];cases p<;>cases q<;>cases decide (x.1.2.2.2.1-x.2.1.2.1<=5)<;>rfl
theorem e6m (x:Den A20) (d:I64 x.1.2.2.2.1) (e:I64 x.1.2.2.2.2.1) (c:I64 x.2.1.2.1):F20 x=some (a2x x.1 x.2.1,()):=by
 unfold F20 a2x;simp only[ge_iff_le];generalize (fgt .f32 x.2.1.1 (a0b .sub .f32 x.1.2.1 1065353216)||feq .f32 x.2.1.1 (a0b .sub .f32 x.1.2.1 1065353216))=p;generalize (flt .f32 x.2.1.1 (a0b .add .f32 x.1.2.2.1 1065353216)||feq .f32 x.2.1.1 (a0b .add .f32 x.1.2.2.1 1065353216))=q;by_cases a:x.1.2.2.2.1<=x.2.1.2.1<;>by_cases b:x.2.1.2.1<=x.1.2.2.2.2.1
 ·simp only[a,b,decide_true];cases p<;>cases q<;>rfl
 ·simp only[a,b,decide_true,decide_false,b8E e c b];cases p<;>cases q<;>rfl
 ·simp only[a,b,decide_true,decide_false,b8E c d a];cases p<;>cases q<;>cases decide (x.1.2.2.2.1-x.2.1.2.1<=5)<;>rfl
 ·simp only[a,b,decide_false,b8E c d a,b8E e c b];cases p<;>cases q<;>cases decide (x.1.2.2.2.1-x.2.1.2.1<=5)<;>rfl
theorem a6d (c x:Bool):(bif c then some (x,())else some (false,()))=some (c&&x,()):=by cases c<;>rfl
theorem a3a (a:ByteArray):a1a a a=true:=by simp[a1a]
def a4O (s:ByteArray):Bool:=a0i (fun i=>decide (97<=a0o s i)&&decide (a0o s i<=122)) 0 s.size
def c5D:ByteArray:={ data:=#[110,111,110,101] }
def b1u (s:ByteArray):Bool:=a4O s&&((decide (1<=(s.size:Int))&&decide ((s.size:Int)<=16))&&!a1a s c5D)
theorem dgt (a b:Int):decide (a>b)=!decide (a<=b):=by by_cases h:a<=b<;>simp[h]<;>omega
theorem d9w (s:ByteArray) (h:s.size<=9223372036854775807):e9d (s,())=some (b1u s,()):=by
 have d:a9U ((s,(0:Int),()),())=some (bif a4O s then .inl ((s,()),())else .inr ((false,()),())):=by
  refine(a0F (q:=b3d) (fun k=>((s,(k:Int),()),())) s.size (fun i=>decide (97<=a0o s i)&&decide (a0o s i<=122)) _ _ ?_ ?_ _ ?_:_)
  ·intro k f c;unfold b3d;simp only[a2H k (by omega),dlt (a0o s k),dgt (a0o s k)];have a:decide ((k:Int)<(s.size:Int))=true:=by simpa using c
   have b:decide (0<=(k:Int))=true:=by simp
   simp only[a,b,Bool.and_self,cond_true];cases decide (97<=a0o s k)<;>cases decide (a0o s k<=122)<;>rfl
  ·intro f;simp[b3d]
  ·simp only[c3m];omega
 unfold e9d b1u;simp only[c3n,c3o,c3p,c3q,d,isSome_some,cond_true,K51,G51,b0h,getD_some];cases a4O s
 ·rfl
 ·simp only[cond_true,isR,xOf,cond_false,Bool.true_and];exact a6d _ _
theorem d9x (s:ByteArray) (h:s.size<=9223372036854775807):e9F (s,())=some (b1u s,()):=by
 have d:b0e ((s,(0:Int),()),())=some (bif a4O s then .inl ((s,()),())else .inr ((false,()),())):=by
  refine(a0F (q:=b3E) (fun k=>((s,(k:Int),()),())) s.size (fun i=>decide (97<=a0o s i)&&decide (a0o s i<=122)) _ _ ?_ ?_ _ ?_:_)
  ·intro k f c;unfold b3E;simp only[a2H k (by omega),dlt (a0o s k),dgt (a0o s k)];have a:decide ((k:Int)<(s.size:Int))=true:=by simpa using c
   have b:decide (0<=(k:Int))=true:=by simp
   simp only[a,b,Bool.and_self,cond_true];cases decide (97<=a0o s k)<;>cases decide (a0o s k<=122)<;>rfl
  ·intro f;simp[b3E]
  ·simp only[c4S];omega
 unfold e9F b1u;simp only[c4T,c4U,c4V,c4W,d,isSome_some,cond_true,K44,G44,b8C,getD_some];cases a4O s
 ·rfl
 ·simp only[cond_true,isR,xOf,cond_false,Bool.true_and];exact a6d _ _
def at' (l:List (Den S68)) (i:Nat):Den S68:=l.getD i (zero S68)
theorem d9y (l:List (Den S68)) (s:ByteArray) (h:l.length<=9223372036854775807):e9I (l,s,())=some (match a0x (fun i=>a1a (at' l i).1 s) 0 l.length with|some j=>(j:Int)|none=>-1,()):=by
 have d:b0f ((s,l,(l.length:Int),(0:Int),()),())=some (match a0x (fun i=>a1a (at' l i).1 s) 0 l.length with|some j => .inr (((j:Int),()),())|none => .inl ((),())):=by
  refine(a4v (q:=b3F) (fun k=>((s,l,(l.length:Int),(k:Int),()),())) l.length (fun i=>a1a (at' l i).1 s) _ (fun j => .inr (((j:Int),()),())) ?_ ?_ _ ?_:_)
  ·intro k f c;unfold b3F;have a:decide ((k:Int)<(l.length:Int))=true:=by simpa using c
   have b:decide (0<=(k:Int))=true:=by simp
   simp only[a2H k (by omega),a,b,Bool.and_self,cond_true,toNat_natCast];rfl
  ·intro f;simp[b3F]
  ·simp only[c4X];omega
 unfold e9I;simp only[c4Y,c4Z,c5a,d,isSome_some,cond_true];cases a0x (fun i=>a1a (at' l i).1 s) 0 l.length<;>rfl
def a1Y (s:Den S68):Bool:=b1u s.1&&((fgt .f32 s.2.1 0||feq .f32 s.2.1 0)&&(fgt .f32 s.2.2.1 s.2.1&&((flt .f32 s.2.2.1 1128792064||feq .f32 s.2.2.1 1128792064) &&
 ((decide (0<=s.2.2.2.1)&&decide (s.2.2.2.1<=180))&&(decide (s.2.2.2.1<=s.2.2.2.2.1)&&decide (s.2.2.2.2.1<=180))))))
def a3o (l:List (Den S68)) (i:Nat):Bool:=a0i (fun j=>!a1a (at' l j).1 (at' l i).1) 0 i
def a2J (l:List (Den S68)):Bool:=a0i (fun i=>a1Y (at' l i)&&a3o l i) 0 l.length&&decide ((l.length:Int)<=12)
structure c5E (l:List (Den S68)):Prop where
 len:l.length<=9223372036854775807
 name:∀i,(at' l i).1.size<=9223372036854775807
 rng:∀i,I64 (at' l i).2.2.2.1 /\ I64 (at' l i).2.2.2.2.1
theorem e6n {l:List (Den S68)} {i:Nat}:at' l i∈l∨at' l i=zero S68:=by
 unfold at';rw[List.getD_eq_getElem?_getD];cases h:l[i]? with
 |none=>exact .inr rfl
 |some x=>exact .inl (List.mem_of_getElem? h)
theorem c0I {l:List (Den S68)} {i:Nat} (p:i<l.length):((match a0x (fun j=>a1a (at' l j).1 (at' l i).1) 0 l.length with|some j=>(j:Int)|none=>-1) != (i:Int))=!a3o l i:=by
 have d:a1a (at' l i).1 (at' l i).1=true:=a3a _;cases h:a0x (fun j=>a1a (at' l j).1 (at' l i).1) 0 l.length with
 |none=>have:=a1X.1 h i (zero_le _) (by omega);rw[d]at this;cases this
 | some j =>
   obtain⟨n,o,e,b⟩:=a1W h;by_cases a:j=i
   ·subst a;have:a3o l j=true:=a0u.2 fun k f g=>by rw[b k (zero_le _) (by omega)];rfl
    rw[this];simp
   ·have m:j<i:=by
     rcases Nat.lt_or_ge j i with c|c
     ·exact c
     ·have:=b i (zero_le _) (by omega);rw[d]at this;cases this
    have:a3o l i=false:=by
     cases hf:a3o l i with
     |false=>rfl
     |true=>have:=a0u.1 hf j (zero_le _) (by omega);rw[e]at this;cases this
    rw[this];simp;omega
theorem e6o (l:List (Den S68)) (h:c5E l):F92 (l,())=some (a2J l,()):=by
 have j:c0E ((l,l,(l.length:Int),(0:Int),()),())=some (bif a0i (fun i=>a1Y (at' l i)&&a3o l i) 0 l.length then .inl ((),())else .inr ((false,()),())):=by
  refine(a0F (q:=c5b) (fun k=>((l,l,(l.length:Int),(k:Int),()),())) l.length (fun i=>a1Y (at' l i)&&a3o l i) _ _ ?_ ?_ _ ?_:_)
  ·intro k f a;unfold c5b a1Y;have c:decide ((k:Int)<(l.length:Int))=true:=by simpa using a
   have d:decide (0<=(k:Int))=true:=by simp
   have b:=h.len;have e:getD l k (zero S68)=at' l k:=rfl;have g:=c0I a;simp only[a2H k (by omega),c,d,Bool.and_self,cond_true,toNat_natCast,e,f4k,f4l,d9x _ (h.name k),e9J,e9K,d9y l _ h.len,K44,G44,b8C,isSome_some,getD_some,g];generalize at' l k=s;cases b1u s.1<;>cases a3o l k<;>cases (fgt .f32 s.2.1 0||feq .f32 s.2.1 0)<;>cases fgt .f32 s.2.2.1 s.2.1<;>cases (flt .f32 s.2.2.1 1128792064||feq .f32 s.2.2.1 1128792064) <;>
    cases (decide (0<=s.2.2.2.1)&&decide (s.2.2.2.1<=180))<;>cases (decide (s.2.2.2.1<=s.2.2.2.2.1)&&decide (s.2.2.2.2.1<=180))<;>rfl
  ·intro f;simp[c5b]
  ·simp only[d9k];omega
 unfold F92 a2J;simp only[d5j,d5k,d5l,j,isSome_some,cond_true,dgt (l.length:Int)];cases decide ((l.length:Int)<=12)<;>cases a0i (fun i=>a1Y (at' l i)&&a3o l i) 0 l.length<;>rfl
theorem b1v (l:List (Den S68)) (h:c5E l):e9e (l,())=some (a2J l,()):=by
 have m:=h.len;have e:∀k,k<l.length->a8B ((l,(k:Int),(),(0:Int),()),at' l k,())=some (bif a3o l k then .inl ((l,(k:Int),()),())else .inr ((false,()),())):=by
  intro k g;refine(a0F (q:=b3e) (fun j=>((l,(k:Int),(),(j:Int),()),at' l k,())) k (fun j=>!a1a (at' l j).1 (at' l k).1) _ _ ?_ ?_ _ ?_:_)
  ·intro j f p;unfold b3e;have a:decide ((j:Int)<(k:Int))=true:=by simpa using p
   have b:decide (0<=(j:Int))=true:=by simp
   have n:decide ((j:Int)<(l.length:Int))=true:=by simp;omega
   have c:getD l j (zero S68)=at' l j:=rfl;simp only[a2H j (by omega),a,b,n,Bool.and_self,cond_true,toNat_natCast,c];cases a1a (at' l j).1 (at' l k).1<;>rfl
  ·intro f;simp[b3e]
  ·simp only[c3r];omega
 have r:a9V ((l,(0:Int),()),())=some (bif a0i (fun i=>a1Y (at' l i)&&a3o l i) 0 l.length then .inl ((l,()),())else .inr ((false,()),())):=by
  refine(a0F (q:=b3f) (fun k=>((l,(k:Int),()),())) l.length (fun i=>a1Y (at' l i)&&a3o l i) _ _ ?_ ?_ _ ?_:_)
  ·intro k f g;have o:=e k g;unfold b3f a1Y;have a:decide ((k:Int)<(l.length:Int))=true:=by simpa using g
   have b:decide (0<=(k:Int))=true:=by simp
   have c:getD l k (zero S68)=at' l k:=rfl;simp only[a,b,Bool.and_self,cond_true,toNat_natCast,c,f2h,f2j,d9w _ (h.name k),K51,G51,b0h,isSome_some,getD_some];have d:a8B ((l,(k:Int),(),(0:Int),()),((at' l k).1,(at' l k).2.1,(at' l k).2.2.1,(at' l k).2.2.2.1,(at' l k).2.2.2.2.1,()),())=_:=o;simp only[c3s,c3t,c3u,c3v,d,isSome_some];generalize at' l k=s;cases b1u s.1<;>cases a3o l k<;>cases (fgt .f32 s.2.1 0||feq .f32 s.2.1 0)<;>cases fgt .f32 s.2.2.1 s.2.1<;>cases (flt .f32 s.2.2.1 1128792064||feq .f32 s.2.2.1 1128792064) <;>
    cases (decide (0<=s.2.2.2.1)&&decide (s.2.2.2.1<=180))<;>cases (decide (s.2.2.2.1<=s.2.2.2.2.1)&&decide (s.2.2.2.2.1<=180))<;>first|rfl|(simp only[cond_true,cond_false,isR,xOf,yOf,Bool.and_true,Bool.not_true,a2H k (by omega)];done)|(simp[isR,xOf,yOf,a2H k (by omega)])
  ·intro f;simp[b3f]
  ·simp only[c3w];omega
 unfold e9e a2J;simp only[c3x,c3y,c3z,c3A,r,isSome_some,cond_true];cases a0i (fun i=>a1Y (at' l i)&&a3o l i) 0 l.length
 ·rfl
 ·simp only[cond_true,isR,xOf,cond_false,Bool.true_and];rfl
def inB (n b a:Int):Bool:=decide (b<=n)&&decide (n<=a)
theorem a1Z (x:Den A51):F51 x=some (inB x.1 x.2.1 x.2.2.1,()):=by
 unfold F51 inB;exact a6d _ _
theorem a3H (x:Den A44):F44 x=some (inB x.1 x.2.1 x.2.2.1,()):=a1Z x
def a1v (p:Den S33):Bool:=inB p.1 (-10000) 10000&&inB p.2.1 (-10000) 10000
theorem b3L (x:Den A98):F98 x=some (a1v x.1,()):=by
 unfold F98 a1v;simp only[K51,G51,a1Z,isSome_some,getD_some,cond_true];exact a6d _ _
theorem b3M (x:Den A63):F63 x=some (a1v x.1,()):=by
 unfold F63 a1v;simp only[K44,G44,a3H,isSome_some,getD_some,cond_true];exact a6d _ _
def eqP (p q:Den S33):Bool:=p.1==q.1&&p.2.1==q.2.1
def a9w (l:Den S35):Bool:=a1v l.1&&(a1v l.2.1&&!eqP l.1 l.2.1)
theorem d9z (x:Den f2m):e9f x=some (a9w x.1,()):=by
 unfold e9f a9w;simp only[K98,G98,b3L,isSome_some,getD_some,cond_true];cases a1v x.1.1<;>cases a1v x.1.2.1<;>rfl
theorem d9A (x:Den f4q):e9L x=some (a9w x.1,()):=by
 unfold e9L a9w;simp only[K63,G63,b3M,isSome_some,getD_some,cond_true];cases a1v x.1.1<;>cases a1v x.1.2.1<;>rfl
def mk (c:Den S38) (k:Nat):Den a2I:=c.2.1.getD k (zero a2I)
def a1G (c:Den S38) (k:Nat):Den S33:=if k=0 then c.1.1 else(mk c (k-1)).1
def b1w (c:Den S38) (k:Nat):Bool:=a1v (mk c k).1&&!eqP (mk c k).1 (a1G c k)
def a4d (c:Den S38):Bool:=a9w c.1&&(a9w c.2.2.1&&(inB c.2.1.length 1 20&&a0i (b1w c) 0 c.2.1.length))
theorem b5E (c:Den S38) (k:Nat) (h:k<=c.2.1.length) (g:c.2.1.length<=9223372036854775807):e1W (c,(k:Int),())=some (a1G c k,()):=by
 unfold e1W a1G;by_cases a:k=0
 ·subst a;rfl
 ·have b:((k:Int)==0)=false:=by simpa using a
  have d:IntKind.i64.wrap ((k:Int)-1)=((k-1:Nat):Int):=by rw[w64 (by omega) (by omega)];omega
  have e:decide (0<=((k-1:Nat):Int))=true:=by simp
  have f:decide (((k-1:Nat):Int)<(c.2.1.length:Int))=true:=by simp;omega
  simp only[b,d,e,f,cond_false,Bool.and_self,cond_true,toNat_natCast,if_neg a];rfl
theorem c5F (c:Den S38) (k:Nat) (h:k<=c.2.1.length) (a:c.2.1.length<=9223372036854775807):e2i (c,(k:Int),())=some (a1G c k,()):=b5E c k h a
theorem d9B (c:Den S38) (l:c.2.1.length<=9223372036854775807):e9i (c,())=some (a4d c,()):=by
 have e:a8C (((),(0:Int),()),(c.1.1.1,c.1.1.2.1,c.1.2.1.1,c.1.2.1.2.1,c.2.1,c.2.2.1.1.1,c.2.2.1.1.2.1,c.2.2.1.2.1.1,c.2.2.1.2.1.2),())=some (bif a0i (b1w c) 0 c.2.1.length then .inl ((),())else .inr ((false,()),())):=by
  refine(a0F (q:=b3g) (fun k=>(((),(k:Int),()),(c.1.1.1,c.1.1.2.1,c.1.2.1.1,c.1.2.1.2.1,c.2.1,c.2.2.1.1.1,c.2.2.1.1.2.1,c.2.2.1.2.1.1,c.2.2.1.2.1.2),())) c.2.1.length (b1w c) _ _ ?_ ?_ _ ?_:_)
  ·intro k f j;have g:decide ((k:Int)<(c.2.1.length:Int))=true:=by simpa using j
   have h:decide (0<=(k:Int))=true:=by simp
   have i:c.2.1.getD k (zero a2I)=mk c k:=rfl;have d:e1W (c,(k:Int),())=some (a1G c k,()):=b5E c k (by omega) l;unfold b3g b1w;simp only[a2H k (by omega),g,h,Bool.and_self,cond_true,toNat_natCast,i,K98,G98,b3L,e1X,e3G,isSome_some,getD_some];have a:e1W ((((c.1.1.1,c.1.1.2.1,()),(c.1.2.1.1,c.1.2.1.2.1,()),()),c.2.1,((c.2.2.1.1.1,c.2.2.1.1.2.1,()),c.2.2.1.2.1,()),()),(k:Int),())=some (a1G c k,()):=d;simp only[a,isSome_some,getD_some,cond_true];cases a1v (mk c k).1
   ·rfl
   ·cases hq:eqP (mk c k).1 (a1G c k)<;>simp only[Bool.not_true,cond_false,Bool.true_and]
    ·have:((mk c k).1.1==(a1G c k).1&&(mk c k).1.2.1==(a1G c k).2.1)=false:=hq;simp only[this,cond_false,Bool.not_false,cond_true]
    ·have:((mk c k).1.1==(a1G c k).1&&(mk c k).1.2.1==(a1G c k).2.1)=true:=hq;simp only[this,cond_true]
  ·intro f;simp[b3g]
  ·simp only[c3C];omega
 unfold e9i a4d;simp only[e9g,e9h,d9z,K51,G51,a1Z,isSome_some,getD_some,cond_true,c3D,c3E,c3F];have b:a8C (((),0,()),(c.1.1.1,c.1.1.2.1,c.1.2.1.1,c.1.2.1.2.1,c.2.1,c.2.2.1.1.1,c.2.2.1.1.2.1,c.2.2.1.2.1),())=_:=e;cases a9w c.1
 ·rfl
 ·cases a9w c.2.2.1
  ·rfl
  ·cases inB c.2.1.length 1 20
   ·rfl
   ·simp only[Bool.not_true,cond_false,Bool.true_and,b,isSome_some,cond_true];cases a0i (b1w c) 0 c.2.1.length<;>rfl
theorem d5Y (c:Den S38) (l:c.2.1.length<=9223372036854775807):F93 (c,())=some (a4d c,()):=by
 have e:b5C (((),c.2.1,(c.2.1.length:Int),(0:Int),()),(c.1.1.1,c.1.1.2.1,c.1.2.1.1,c.1.2.1.2.1,c.2.1,c.2.2.1.1.1,c.2.2.1.1.2.1,c.2.2.1.2.1.1,c.2.2.1.2.1.2),())=some (bif a0i (b1w c) 0 c.2.1.length then .inl ((),())else .inr ((false,()),())):=by
  refine(a0F (q:=c5c) (fun k=>(((),c.2.1,(c.2.1.length:Int),(k:Int),()),(c.1.1.1,c.1.1.2.1,c.1.2.1.1,c.1.2.1.2.1,c.2.1,c.2.2.1.1.1,c.2.2.1.1.2.1,c.2.2.1.2.1.1,c.2.2.1.2.1.2),())) c.2.1.length (b1w c) _ _ ?_ ?_ _ ?_:_)
  ·intro k f j;have g:decide ((k:Int)<(c.2.1.length:Int))=true:=by simpa using j
   have h:decide (0<=(k:Int))=true:=by simp
   have i:c.2.1.getD k (zero a2I)=mk c k:=rfl;have d:e2i (c,(k:Int),())=some (a1G c k,()):=c5F c k (by omega) l;unfold c5c b1w;simp only[a2H k (by omega),g,h,Bool.and_self,cond_true,toNat_natCast,i,K63,G63,b3M,e5C,e5D,isSome_some,getD_some];have a:e2i ((((c.1.1.1,c.1.1.2.1,()),(c.1.2.1.1,c.1.2.1.2.1,()),()),c.2.1,((c.2.2.1.1.1,c.2.2.1.1.2.1,()),c.2.2.1.2.1,()),()),(k:Int),())=some (a1G c k,()):=d;simp only[a,isSome_some,getD_some,cond_true];cases a1v (mk c k).1
   ·rfl
   ·cases hq:eqP (mk c k).1 (a1G c k)<;>simp only[Bool.not_true,cond_false,Bool.true_and]
    ·have:((mk c k).1.1==(a1G c k).1&&(mk c k).1.2.1==(a1G c k).2.1)=false:=hq;simp only[this,cond_false,Bool.not_false,cond_true]
    ·have:((mk c k).1.1==(a1G c k).1&&(mk c k).1.2.1==(a1G c k).2.1)=true:=hq;simp only[this,cond_true]
  ·intro f;simp[c5c]
  ·simp only[d9m];omega
 unfold F93 a4d;simp only[e9M,e9N,d9A,K44,G44,a3H,isSome_some,getD_some,cond_true,d5n,d5o,d5p];have b:b5C (((),c.2.1,(c.2.1.length:Int),0,()),(c.1.1.1,c.1.1.2.1,c.1.2.1.1,c.1.2.1.2.1,c.2.1,c.2.2.1.1.1,c.2.2.1.1.2.1,c.2.2.1.2.1),())=_:=e;cases a9w c.1
 ·rfl
 ·cases a9w c.2.2.1
  ·rfl
  ·cases inB c.2.1.length 1 20
   ·rfl
   ·simp only[Bool.not_true,cond_false,Bool.true_and,b,isSome_some,cond_true];cases a0i (b1w c) 0 c.2.1.length<;>rfl
theorem b5F {α:Type} (c:Bool) (a b:Option α):(bif c then a else b).isSome=(bif c then a.isSome else b.isSome):=by cases c<;>rfl
theorem c5G {α:Type} (c:Bool) (a:α):(bif c then a else a)=a:=by cases c<;>rfl
theorem f5C (x:Den A98):K98 x=true:=by unfold K98;rw[b3L];rfl
theorem e6p (x:Den A63):K63 x=true:=by unfold K63;rw[b3M];rfl
theorem e6q (x:Den A98):G98 x=(a1v x.1,()):=by unfold G98;rw[b3L];rfl
theorem e6r (x:Den A63):G63 x=(a1v x.1,()):=by unfold G63;rw[b3M];rfl
def sg (t:List (Den S97)) (k:Nat):Den S97:=t.getD k (zero S97)
def a6e (t:List (Den S97)) (k:Nat):Bool:=a1v (sg t k).1&&(inB (sg t k).2.1 0 10000000&&!(decide (0<k)&&decide ((sg t k).2.1<=(sg t (k-1)).2.1)))
def a2y (t:List (Den S97)):Bool:=a0i (a6e t) 0 t.length&&decide ((t.length:Int)<=200)
theorem c5H (x:Den A43):F43 x=some (inB x.1 0 10000000,()):=by
 unfold F43;simp only[K44,G44,a3H,isSome_some,getD_some,cond_true]
theorem e6s (t:List (Den S97)) (h:t.length<=9223372036854775807):F53 (t,())=some (a2y t,()):=by
 have m:c0A ((t,(0:Int),()),())=some (bif a0i (a6e t) 0 t.length then .inl ((t,()),())else .inr ((false,()),())):=by
  refine(a0F (q:=c3N) (fun k=>((t,(k:Int),()),())) t.length (a6e t) _ _ ?_ ?_ _ ?_:_)
  ·intro k f l;have c:decide ((k:Int)<(t.length:Int))=true:=by simpa using l
   have d:decide (0<=(k:Int))=true:=by simp
   have j:∀k,t.getD k (zero S97)=sg t k:=fun _=>rfl
   unfold c3N a6e;simp only[a2H k (by omega),c,d,Bool.and_self,cond_true,toNat_natCast,j,K98,G98,b3L,K51,G51,a1Z,isSome_some,getD_some];cases a1v (sg t k).1
   ·rfl
   ·cases inB (sg t k).2.1 0 10000000
    ·rfl
    ·by_cases a:0<k
     ·have e:IntKind.i64.wrap ((k:Int)-1)=((k-1:Nat):Int):=by rw[w64 (by omega) (by omega)];omega
      have g:decide (((k-1:Nat):Int)<(t.length:Int))=true:=by simp;omega
      have i:decide (0<=((k-1:Nat):Int))=true:=by simp
      have b:decide ((k:Int)>0)=true:=by simpa using a
      simp only[e,g,i,b,toNat_natCast,a,decide_true,Bool.and_self,cond_true,Bool.not_true,cond_false,Bool.true_and];cases decide ((sg t k).2.1<=(sg t (k-1)).2.1)<;>rfl
     ·have b:decide ((k:Int)>0)=false:=by simpa using a
      simp only[b,a,decide_false,Bool.not_true,cond_false,Bool.true_and,Bool.false_and,Bool.not_false,cond_true]
  ·intro f;simp[c3N]
  ·simp only[d8E];omega
 unfold F53 a2y;simp only[d3F,d3G,d3H,d3I,m,isSome_some,cond_true];cases a0i (a6e t) 0 t.length
 ·rfl
 ·simp only[cond_true,isR,xOf,cond_false,Bool.true_and];rfl
theorem d5Z (t:List (Den S97)) (h:t.length<=9223372036854775807):F46 (t,())=some (a2y t,()):=by
 have m:c0F ((t,t,(t.length:Int),(0:Int),()),())=some (bif a0i (a6e t) 0 t.length then .inl ((),())else .inr ((false,()),())):=by
  refine(a0F (q:=c5d) (fun k=>((t,t,(t.length:Int),(k:Int),()),())) t.length (a6e t) _ _ ?_ ?_ _ ?_:_)
  ·intro k f l;have c:decide ((k:Int)<(t.length:Int))=true:=by simpa using l
   have d:decide (0<=(k:Int))=true:=by simp
   have j:∀k,t.getD k (zero S97)=sg t k:=fun _=>rfl
   unfold c5d a6e;simp only[a2H k (by omega),c,d,Bool.and_self,cond_true,toNat_natCast,j,K63,G63,b3M,K43,G43,c5H,isSome_some,getD_some];cases a1v (sg t k).1
   ·rfl
   ·cases inB (sg t k).2.1 0 10000000
    ·rfl
    ·by_cases a:0<k
     ·have e:IntKind.i64.wrap ((k:Int)-1)=((k-1:Nat):Int):=by rw[w64 (by omega) (by omega)];omega
      have g:decide (((k-1:Nat):Int)<(t.length:Int))=true:=by simp;omega
      have i:decide (0<=((k-1:Nat):Int))=true:=by simp
      have b:decide ((k:Int)>0)=true:=by simpa using a
      simp only[e,g,i,b,toNat_natCast,a,decide_true,Bool.and_self,cond_true,Bool.not_true,cond_false,Bool.true_and];cases decide ((sg t k).2.1<=(sg t (k-1)).2.1)<;>rfl
     ·have b:decide ((k:Int)>0)=false:=by simpa using a
      simp only[b,a,decide_false,Bool.not_true,cond_false,Bool.true_and,Bool.false_and,Bool.not_false,cond_true]
  ·intro f;simp[c5d]
  ·simp only[d9o];omega
 unfold F46 a2y;simp only[d5q,d5r,d5s,m,isSome_some,cond_true,dgt (t.length:Int)];cases decide ((t.length:Int)<=200)<;>cases a0i (a6e t) 0 t.length<;>rfl
def Pst {α:Type} (o:Option α) (P:α->Prop):Prop:=∃y,o=some y /\ P y
theorem a0h {α:Type} {y:α} {P:α->Prop} (h:P y):Pst (some y) P:=⟨y,rfl,h⟩
theorem a0d {α:Type} {c:Bool} {a b:Option α} {P:α->Prop} (d:c=true) (h:Pst a P):Pst (bif c then a else b) P:=by rw[d];exact h
theorem a0V {α:Type} {c:Bool} {a b:Option α} {P:α->Prop} (d:c=true->Pst a P) (e:c=false->Pst b P):Pst (bif c then a else b) P:=by
 cases c
 ·exact e rfl
 ·exact d rfl
theorem a1H {α:Type} {o:Option α} {P:α->Prop} (h:Pst o P):o.isSome=true:=by obtain⟨y,e,_⟩:=h;rw[e];rfl
theorem a1I {α:Type} {o:Option α} {P:α->Prop} (z:α) (h:Pst o P):P (o.getD z):=by obtain⟨y,e,h⟩:=h;rw[e];exact h
theorem a0p {c:Bool} {a b:Option Unit} (d:c=true) (h:a=some ()):(bif c then a else b)=some ():=by rw[d];exact h
theorem a1m {c:Bool} {a b:Option Unit} (d:c=true->a=some ()) (e:c=false->b=some ()):(bif c then a else b)=some ():=by
 cases c
 ·exact e rfl
 ·exact d rfl
theorem d6a (x:e4D.den) (h:a0a x.2.1):Pst (e9x x) fun y=>a0a y.2.1:=by
 unfold e9x;dsimp only
 (repeat' (with_reducible first|refine a0h ?_|refine a0d (a0k _ cu) ?_|refine a0d (a1j _ cu) ?_|refine a0V (fun _=>?_) (fun _=>?_)))<;>(repeat ((try dsimp only);first|assumption|(with_reducible first|apply a0D|apply a1g)))
theorem a6O (x:e4D.den) (h:a0a x.2.1):d4l x=true:=a1H (d6a x h)
theorem G146_cur (x:e4D.den) (h:a0a x.2.1):a0a (d4m x).2.1:=a1I _ (d6a x h)
theorem c5I (x:I81.den) (h:a0a x.2.1):Pst (F81 x) fun y=>a0a y.2.1:=by
 unfold F81;dsimp only;refine a0d (a1j _ cu) ?_;refine a0V (fun _=>?_) (fun _=>?_)
 ·refine a0d (a6O _ cu) ?_;exact a0h cu
 ·(repeat' (with_reducible first|refine a0h ?_|refine a0d (a0k _ cu) ?_|refine a0d (a1j _ cu) ?_|refine a0V (fun _=>?_) (fun _=>?_)))<;>(repeat ((try dsimp only);first|assumption|(with_reducible first|apply G146_cur|apply a0D|apply a1g)))
theorem c5J (x:I81.den) (h:a0a x.2.1):K81 x=true:=a1H (c5I x h)
theorem G81_cur (x:I81.den) (h:a0a x.2.1):a0a (G81 x).2.1:=a1I _ (c5I x h)
theorem b3N (x:e4I.den) (h:a0a x.2.1):Pst (e9y x) fun y=>a0a y.2.1:=by
 unfold e9y;dsimp only;refine a0d (a0k _ cu) ?_;refine a0V (fun _=>?_) (fun _=>?_)
 ·refine a0d (a4z _ cu (by simp)) ?_;exact a0h (a3m _ cu (by simp))
 ·(repeat' (with_reducible first|refine a0h ?_|refine a0d (a0k _ cu) ?_|refine a0d (a1j _ cu) ?_|refine a0V (fun _=>?_) (fun _=>?_)))<;>(repeat ((try dsimp only);first|assumption|(with_reducible first|apply G81_cur|apply G146_cur|apply a0D|apply a1g)))
theorem a6P (x:e4I.den) (h:a0a x.2.1):d4n x=true:=a1H (b3N x h)
theorem G142_cur (x:e4I.den) (h:a0a x.2.1):a0a (d4o x).2.1:=a1I _ (b3N x h)
theorem b8F (x:e4t.den) (h:a0a x.2.1) (k:0<x.2.2.1.length):Pst (e9w x) fun y=>a0a y.2.1 /\ y.1.1∈x.2.2.1:=by
 obtain⟨m,b,j,e,f,g⟩:=a7I (x.2.2.1.length:Int) x.2.1 h;unfold e9w;have a:F34 (((),(↑(length x.snd.snd.fst):Int),()),x.snd.fst,())=some ((m,()),(b,())):=j;have c:decide (0<=m)=true:=decide_eq_true f;have i:m<(x.2.2.1.length:Int):=g (by omega);have d:decide (m<(x.2.2.1.length:Int))=true:=decide_eq_true i;simp only[K34,G34,a,isSome_some,getD_some,cond_true,c,d,Bool.and_self];refine a0h ⟨e,?_⟩;show x.2.2.1.getD m.toNat _∈x.2.2.1;rw[a3Z _ _ _ (by omega)];exact List.getElem_mem _
theorem c5K (x:e4t.den) (h:a0a x.2.1) (a:0<x.2.2.1.length):e4u x=true:=a1H (b8F x h a)
theorem c5L (x:e4t.den) (h:a0a x.2.1) (a:0<x.2.2.1.length):a0a (d8P x).2.1 /\ (d8P x).1.1∈x.2.2.1:=a1I _ (b8F x h a)
theorem c0J (n:Int):I64 (IntKind.i64.wrap n):=by
 unfold I64;rw[IntKind.wrap_i64];omega
def c8I (c:List Int×Int×Int×Unit):Bool:=decide (0<=c.2.1)&&decide (c.1.length<=1048576)
theorem a0W {c:List Int×Int×Int×Unit}:c8I c=true↔a0a c:=by unfold c8I a0a;simp
def d0Z:List Int×Int×Int×Unit:=([],0,0,())
theorem a4A:a0a d0Z:=⟨Int.le_refl 0,zero_le _⟩
def p141 (x:a4M.den):Bool:=c8I x.2.1
def Q141 (x:a4M.den) (y:a6M.den):Prop:=a0a y.2.1
theorem e141:Nonempty (Ch a4M a6M p141 Q141):=⟨⟨fun _=>((0,()),(d0Z,())),fun _ _=>a4A⟩⟩
theorem c5M:a1T Tryz.prog 141 (a2w true a4M a6M p141 Q141 e141):=a9P e4F (N:=f9d) (a4h trivial) f3s a1L fun x c k a=>by
 have h:a0a x.2.1:=a0W.1 c;refine Eq.trans (e5d k x) ?_;unfold e5c;dsimp only;refine a0p (c5J _ cu) ?_;refine a1m (fun b=>?_) (fun _=>?_)
 ·refine a0p b ?_;exact a _ (by show a0a _;exact cu)
 ·exact a0t fun z=>a _ (by show a0a _;exact cu)
theorem a7J:I64 0:=by unfold I64;decide
theorem d9C:I64 180:=by unfold I64;decide
theorem a0O (n:Int) (c:List Int×Int×Int×Unit) (h:a0a c) (d:0<n):0<=((G34 (((),n,()),c,())).1.1:Int) /\ ((G34 (((),n,()),c,())).1.1:Int)<n:=by
 obtain⟨_,a,b⟩:=d4B (((),n,()),c,()) h;exact⟨a,b d⟩
def b5G (s:Den S68):Prop:=s.1.size<=1000 /\ I64 s.2.2.2.1 /\ I64 s.2.2.2.2.1
def a0E (l:List (Den S68)):Prop:=∀s∈l,b5G s
theorem c0K:b5G (zero S68):=⟨zero_le _,a7J,a7J⟩
theorem a0E.at {l:List (Den S68)} (h:a0E l) (i:Nat):b5G (at' l i):=by
 rcases e6n (l:=l) (i:=i)with h1|h1
 ·exact h _ h1
 ·rw[h1];exact c0K
theorem a0E.app {l:List (Den S68)} {s:Den S68} (h:a0E l) (b:b5G s):a0E (l++[s]):=by
 intro t c;rcases List.mem_append.1 c with a|a
 ·exact h t a
 ·rw[List.mem_singleton.1 a];exact b
theorem a0E.set {l:List (Den S68)} {i:Nat} {s:Den S68} (h:a0E l) (b:b5G s):a0E (l.set i s):=by
 intro t c;rcases List.mem_or_eq_of_mem_set c with a|a
 ·exact h t a
 ·rw[a];exact b
theorem a0E.good {l:List (Den S68)} (h:a0E l) (a:l.length<=13):c5E l:=
 ⟨by omega,fun i=>by have:=(h.at i).1;omega,fun i=>⟨(h.at i).2.1,(h.at i).2.2⟩⟩
theorem f9Z {α:Type} (z x:α):(replicate 1 z).set 0 x=[x]:=rfl
theorem b8G (v:c0B) (h:a0a v.2.1) (p:∀s∈v.2.2.1,s.size<=1000) (b:v.2.2.1.length=6) (j:0<=v.1.2.2.2.1) (d:(v.2.2.2.1.length:Int)+v.1.2.2.2.1<=5) (g:1<=(v.2.2.2.1.length:Int)+v.1.2.2.2.1) (n:a0E v.2.2.2.1) :
 Pst (d0u v) fun y=>a0a y.2.1 /\ a0E y.2.2.1 /\ y.2.2.1.length<=5 /\ 1<=y.2.2.1.length:=by
 refine a0C (q:=d0t) (fun v=>a0a v.2.1 /\ (∀s∈v.2.2.1,s.size<=1000) /\ v.2.2.1.length=6 /\ 0<=v.1.2.2.2.1 /\ (v.2.2.2.1.length:Int)+v.1.2.2.2.1<=5 /\ 1<=(v.2.2.2.1.length:Int)+v.1.2.2.2.1 /\ a0E v.2.2.2.1)
  (fun _ r=>Pst r fun y=>a0a y.2.1 /\ a0E y.2.2.1 /\ y.2.2.1.length<=5 /\ 1<=y.2.2.1.length) (fun v=>v.1.2.2.2.1.toNat) ?_ _ _ ⟨h,p,b,j,d,g,n⟩ (Nat.lt_of_lt_of_le (m:=1000) (by omega) (Nat.le_add_left _ _))
 clear h p b j d g n v;rintro⟨⟨_,_,_,k,_⟩,c,ns,l,_⟩ f ⟨g0,g1,g2,g3,g4,g5,g6⟩ ih;simp only at g0 g1 g2 g3 g4 g5 g6 ih;unfold d0t;dsimp only;by_cases o:k>0
 ·refine a0d (by simpa using o) ?_;refine a0d (a0k _ cu) ?_;refine a0d (a0k _ cu) ?_;have t:a0a (G34 (((),16,()),c,())).snd.fst:=cu;have i:0<=((G34 (((),100,()),(G34 (((),16,()),c,())).snd)).fst.fst:Int) /\ ((G34 (((),100,()),(G34 (((),16,()),c,())).snd)).fst.fst:Int)<100:=a0O 100 _ t (by decide);have w:a0a (G34 (((),100,()),(G34 (((),16,()),c,())).snd)).snd.fst:=cu;generalize G34 (((),100,()),(G34 (((),16,()),c,())).snd)=A at *;generalize G34 (((),16,()),c,())=B at *;have u:∀z:Int,z=A.fst.fst->I64 z:=fun z e=>by have d:0<=z:=e ▸ i.1;have g:z<100:=e ▸ i.2;unfold I64;omega
  refine a0d ?_ ?_
  ·simp;omega
  refine a0d (a0k _ cu) ?_;refine a0d (a0k _ cu) ?_;refine a0d (a1j _ cu) ?_;have e:IntKind.i64.wrap (k-1)=k-1:=w64 (by omega) (by omega);have a:(ns.getD (toNat (l.length:Int)) (zero Ty.str)).size<=1000:=by
   rw[toNat_natCast,a3Z _ _ _ (by omega)];exact g1 _ (List.getElem_mem _)
  simp only[f9Z,List.length_singleton];refine a0V (fun _=>?_) (fun _=>?_)
  ·refine a0d (a0v (by omega)) ?_;refine ih _ ⟨cu,g1,g2,?_,?_,?_,g6.app ⟨a,a7J,d9C⟩⟩ ?_<;>simp only[e,length_append,List.length_singleton]<;>omega
  ·refine a0d (a0v (by omega)) ?_;refine ih _ ⟨cu,g1,g2,?_,?_,?_,g6.app ⟨a,u _ rfl,c0J _⟩⟩ ?_<;>simp only[e,length_append,List.length_singleton]<;>omega
 ·have:decide (k>0)=false:=by simpa using o
  rw[this];exact a0h ⟨g0,g6,by show l.length<=5;omega,by show 1<=l.length;omega⟩
theorem b3O (v:a9W) (h:a0a v.2.1) (b:v.2.2.1.length<=13) (d:1<=v.2.2.1.length) (k:a0E v.2.2.1):Pst (b7V v) fun y=>a0a y.2.1 /\ a0E y.2.2.1 /\ y.2.2.1.length<=13:=by
 refine a0C (q:=b7U) (fun v=>a0a v.2.1 /\ v.2.2.1.length<=13 /\ 1<=v.2.2.1.length /\ a0E v.2.2.1)
  (fun _ r=>Pst r fun y=>a0a y.2.1 /\ a0E y.2.2.1 /\ y.2.2.1.length<=13) (fun v=>13-v.2.2.1.length) ?_ _ _ ⟨h,b,d,k⟩ (Nat.lt_of_lt_of_le (m:=1000) (by omega) (Nat.le_add_left _ _))
 clear h b d k v;rintro⟨⟨_,_,_⟩,c,l,_⟩ f ⟨g0,g1,g2,g3⟩ ih;simp only at g0 g1 g2 g3 ih;unfold b7U;dsimp only;refine a0d (a0k _ cu) ?_;have i:0<=((G34 (((),2,()),c,())).fst.fst:Int) /\ ((G34 (((),2,()),c,())).fst.fst:Int)<2:=a0O 2 c g0 (by decide);have j:a0a (G34 (((),2,()),c,())).snd.fst:=cu;generalize G34 (((),2,()),c,())=D at *;have n:∀z:Int,z=D.fst.fst->IntKind.i64.wrap (12+z)<=13:=fun z e=>by
  have b:0<=z:=e ▸ i.1;have d:z<2:=e ▸ i.2;rw[w64 (by omega) (by omega)];omega
 have a:=n _ rfl;by_cases g:(l.length:Int)<IntKind.i64.wrap (12+D.fst.fst)
 ·refine a0d (by simpa using g) ?_;have p:(l.length:Int)<13:=Int.lt_of_lt_of_le g a;refine a0d ?_ ?_
  ·have:decide (0<(l.length:Int))=true:=by simp;omega
   rw[this];rfl
  simp only[f9Z,List.length_singleton];refine a0d (a0v (by omega)) ?_;refine ih _ ⟨j,?_,?_,g3.app ⟨?_,(g3.at 0).2.1,(g3.at 0).2.2⟩⟩ ?_
  ·simp only[length_append,List.length_singleton];omega
  ·simp only[length_append,List.length_singleton];omega
  ·have o:∀z:Int,(a6X [z]).size=1:=fun _=>rfl
   simp only[ByteArray.size_append,o];show 1+1<=1000
   decide
  ·simp only[length_append,List.length_singleton];omega
 ·have:decide ((l.length:Int)<IntKind.i64.wrap (12+D.fst.fst))=false:=by simpa using g
  rw[this];exact a0h ⟨j,g3,g1⟩
theorem f5D (v:c0B) (h:a0a v.2.1) (f:∀s∈v.2.2.1,s.size<=1000) (a:v.2.2.1.length=6) (b:0<=v.1.2.2.2.1) (c:(v.2.2.2.1.length:Int)+v.1.2.2.2.1<=5) (d:1<=(v.2.2.2.1.length:Int)+v.1.2.2.2.1) (e:a0E v.2.2.2.1) :
 d4s v=true /\ a0a (a9X v).2.1 /\ a0E (a9X v).2.2.1 /\ (a9X v).2.2.1.length<=5 /\ 1<=(a9X v).2.2.1.length:=⟨a1H (b8G v h f a b c d e),a1I _ (b8G v h f a b c d e)⟩
theorem e6t (v:a9W) (h:a0a v.2.1) (a:v.2.2.1.length<=13) (b:1<=v.2.2.1.length) (c:a0E v.2.2.1):c4m v=true /\ a0a (b1p v).2.1 /\ a0E (b1p v).2.2.1 /\ (b1p v).2.2.1.length<=13:=⟨a1H (b3O v h a b c),a1I _ (b3O v h a b c)⟩
def p75 (x:I75.den):Bool:=c8I x.2.1
def Q75 (x:I75.den) (y:O75.den):Prop:=a0a y.2.1 /\ a0E y.2.2.1 /\ y.2.2.1.length<=13
theorem e75:Nonempty (Ch I75 O75 p75 Q75):=⟨⟨fun _=>(((),()),(d0Z,([],()))),fun _ _=>⟨a4A,(fun _ h=>by cases h),zero_le _⟩⟩⟩
def b3P:List ByteArray:=(((((replicate 6 (zero Ty.str)).set 0 { data:=#[109,97,105,110] }).set 1 { data:=#[106,105,98] }).set 2 { data:=#[103,101,110,111,97] }).set 3 { data:=#[115,116,111,114,109] }).set 4 { data:=#[99,111,100,101] } |>.set 5 { data:=#[107,105,116,101] }
theorem b3Q:(∀s∈b3P,s.size<=1000) /\ b3P.length=6:=by
 have h:(b3P.all fun s=>Nat.ble s.size 1000)=true:=rfl;exact⟨fun s a=>Nat.le_of_ble_eq_true (List.all_eq_true.1 h s a),rfl⟩
def b8H (s:ByteArray):List ByteArray:=((((replicate 5 (zero Ty.str)).set 0 { data:=#[] }).set 1 { data:=#[74,105,98] }).set 2 { data:=#[97,98,99,100,101,102,103,104,105,106,107,108,109,110,111,112,113] }).set 3 { data:=#[97,98,99,100,101,102,103,104,105,106,107,108,109,110,111,112] } |>.set 4 s
theorem c5N {s:ByteArray} (h:s.size<=1000):∀t∈b8H s,t.size<=1000:=by
 intro t c;have b:((((replicate 5 (zero Ty.str)).set 0 { data:=#[] }).set 1 { data:=#[74,105,98] }).set 2 { data:=#[97,98,99,100,101,102,103,104,105,106,107,108,109,110,111,112,113] } |>.set 3 { data:=#[97,98,99,100,101,102,103,104,105,106,107,108,109,110,111,112] }).all (fun s:ByteArray=>Nat.ble s.size 1000)=true:=rfl;rcases List.mem_or_eq_of_mem_set c with a|a
 ·exact Nat.le_of_ble_eq_true (List.all_eq_true.1 b t a)
 ·rw[a];exact h
theorem f5E:a1T Tryz.prog 75 (a2w true I75 O75 p75 Q75 e75):=a9P f3w (N:=N75 p141 Q141 e141) (a4h ⟨c5M,trivial⟩) g1J a1L fun x E k j=>by
 have h:a0a x.2.1:=a0W.1 E;refine Eq.trans (f3L _ _ _ k x) ?_;unfold f9f;dsimp only;refine a0p (a0k _ cu) ?_;have u:0<=((G34 (((),5,()),x.snd)).fst.fst:Int) /\ ((G34 (((),5,()),x.snd)).fst.fst:Int)<5:=a0O 5 x.2.1 h (by decide);have B:a0a (G34 (((),5,()),x.snd)).snd.fst:=cu;generalize G34 (((),5,()),x.snd)=D at *;have w:∀z:Int,z=D.fst.fst->1<=IntKind.i64.wrap (1+z) /\ IntKind.i64.wrap (1+z)<=5:=fun z e=>by
  have K:0<=z:=e ▸ u.1;have L:z<5:=e ▸ u.2;rw[w64 (by omega) (by omega)];omega
 obtain⟨w1,w2⟩:=w _ rfl;obtain⟨G,v,d,J,o⟩:=f5D (((),(),(),IntKind.i64.wrap (1+D.fst.fst),()),D.snd.fst,b3P,[],()) B b3Q.1 b3Q.2 (by show 0<=IntKind.i64.wrap (1+D.fst.fst);omega) (by simpa using w2) (by simpa using w1) (fun _ h=>by cases h);refine a0p G ?_;have F:replicate 0 (zero S68)=[]:=rfl;unfold b3P at v d J o;rw[F];generalize a9X _=y at *;refine a0p (a0k _ cu) ?_;have l:0<=((G34 (((),(y.2.2.1.length:Int),()),y.snd.fst,())).fst.fst:Int) /\ ((G34 (((),(y.2.2.1.length:Int),()),y.snd.fst,())).fst.fst:Int)<(y.2.2.1.length:Int):=a0O _ y.2.1 v (by omega);have A:a0a (G34 (((),(y.2.2.1.length:Int),()),y.snd.fst,())).snd.fst:=cu;generalize G34 (((),(y.2.2.1.length:Int),()),y.snd.fst,())=I at *;refine a0p (a0k _ cu) ?_;have c:a0a (G34 (((),24,()),I.snd)).snd.fst:=cu;generalize G34 (((),24,()),I.snd)=M at *;have b:(decide (0<=I.fst.fst)&&decide (I.fst.fst<((y.snd.snd.fst.length:Nat):Int)))=true:=by
  rw[decide_eq_true l.1,decide_eq_true l.2];rfl
 have a:∀i,b5G (getD y.snd.snd.fst i (zero S68)):=fun i=>d.at i
 refine a1m (fun _=>?_) (fun _=>?_)
 ·refine a0p ?_ ?_
  ·have:decide (0<((y.snd.snd.fst.length:Nat):Int))=true:=by simp;omega
   rw[this];rfl
  obtain⟨nm,f⟩:∃nm,nm=b8H (getD y.snd.snd.fst (toNat 0) (zero S68)).fst:=⟨_,rfl⟩;have C:∀t∈nm,t.size<=1000:=by rw[f];exact c5N (a _).1
  have m:0<nm.length:=by rw[f];simp[b8H]
  unfold b8H at f;rw[<- f];refine a0p (c5K (((),(),()),M.snd.fst,nm,()) c m) ?_;obtain⟨q,m22⟩:=c5L (((),(),()),M.snd.fst,nm,()) c m;refine a0p b ?_;exact j _ ⟨q,d.set ⟨C _ m22,(a _).2⟩,by simp only[length_set];omega⟩
 refine a1m (fun _=>?_) (fun _=>?_)
 ·haveI:=e141
  refine a0t fun g=>?_
  have n:p141 (((),300,()),M.snd)=true:=a0W.2 c;refine a0p n ?_;refine a0p b ?_;exact j _ ⟨g.2 _ n,d.set (a _),by simp only[length_set];omega⟩
 refine a1m (fun _=>?_) (fun _=>?_)
 ·haveI:=e141
  refine a0t fun g=>?_
  have n:p141 (((),300,()),M.snd)=true:=a0W.2 c;refine a0p n ?_;refine a0p b ?_;exact j _ ⟨g.2 _ n,d.set (a _),by simp only[length_set];omega⟩
 refine a1m (fun _=>?_) (fun _=>?_)
 ·refine a0p (a6P _ cu) ?_;refine a0p b ?_;exact j _ ⟨cu,d.set ⟨(a _).1,(a _).2.1,c0J _⟩,by simp only[length_set];omega⟩
 refine a1m (fun _=>?_) (fun _=>?_)
 ·refine a0p (a6P _ cu) ?_;refine a0p b ?_;exact j _ ⟨cu,d.set ⟨(a _).1,c0J _,(a _).2.2⟩,by simp only[length_set];omega⟩
 refine a1m (fun _=>?_) (fun _=>?_)
 ·exact j _ ⟨c,(fun _ h=>by cases h),zero_le _⟩
 refine a1m (fun _=>?_) (fun _=>?_)
 ·obtain⟨H,p,r,s⟩:=e6t (((),(),()),M.snd.fst,y.snd.snd) c (by show y.2.2.1.length<=13;omega) o d;refine a0p H ?_;exact j _ ⟨p,r,s⟩
 ·exact j _ ⟨c,d,by show y.2.2.1.length<=13;omega⟩
def p128 (x:a9n.den):Bool:=c8I x.2.1
def Q128 (x:a9n.den) (y:b1V.den):Prop:=a0a y.2.1
theorem e128:Nonempty (Ch a9n b1V p128 Q128):=⟨⟨fun _=>(((0,0),()),(d0Z,())),fun _ _=>a4A⟩⟩
theorem d6b:a1T Tryz.prog 128 (a2w true a9n b1V p128 Q128 e128):=a9P e4Y (N:=f9e p141 Q141 e141) (a4h ⟨c5M,trivial⟩) f3H a1L fun x l k a=>by
 have a:∀y:b1V.den,a0a y.2.1->k y=some ():=a;have h:a0a x.2.1:=a0W.1 l;refine Eq.trans (e5f _ _ _ k x) ?_;unfold e5e;dsimp only
 haveI:=e141
 refine a0p (a1j _ cu) ?_;refine a1m (fun _=>?_) (fun _=>?_)
 ·refine a0p (a6O _ cu) ?_;refine a1m (fun j=>?_) (fun _=>?_)
  ·refine a0p j ?_;refine a0p (a6O _ cu) ?_;refine a1m (fun e=>?_) (fun _=>?_)
   ·refine a0p e ?_;exact a _ cu
   ·exact a0t fun z=>a _ cu
  ·refine a0t fun z=>?_
   refine a0p (a6O _ cu) ?_;refine a1m (fun e=>?_) (fun _=>?_)
   ·refine a0p e ?_;exact a _ cu
   ·exact a0t fun z=>a _ cu
 ·refine a0p (a1j _ cu) ?_;have d:a0a (G77 (((),20,()),(G77 (((),30,()),x.snd)).snd)).snd.fst:=cu;generalize G77 (((),20,()),(G77 (((),30,()),x.snd)).snd)=A at *;refine a1m (fun _=>?_) (fun _=>?_)
  ·refine a0p (a4z _ d (by simp)) ?_;have f:=a3m (((),(),()),A.snd.fst,((((replicate 4 (zero (Ty.int IntKind.i64))).set 0 100).set 1 (-100)).set 2 101).set 3 0,()) d (by simp);refine a0t fun g=>?_
   have b:p141 (((),100,()),(b5x (((),(),()),A.snd.fst,((((replicate 4 (zero (Ty.int IntKind.i64))).set 0 100).set 1 (-100)).set 2 101).set 3 0,())).snd.fst,())=true:=a0W.2 f;refine a0p b ?_;exact a _ (g.2 _ b)
  ·refine a0t fun g=>?_
   have b:p141 (((),15,()),A.snd)=true:=a0W.2 d;refine a0p b ?_;refine a0t fun i=>?_
   have c:p141 (((),15,()),(g.val (((),15,()),A.snd)).snd)=true:=a0W.2 (g.2 _ b);refine a0p c ?_;exact a _ (i.2 _ c)
theorem b1x (x:e4P.den) (h:a0a x.2.1):d8Y x=true /\ a0a (d4u x).2.1:=by
 unfold d8Y d4u f3A;have g:=a1j (((),40,()),x.2) h;have b:=a1g (((),40,()),x.2) h;simp only[g,cond_true];generalize G77 (((),40,()),x.2)=g1 at *;cases g1.1.1
 ·simp only[cond_false];have d:=a4z (((),(),()),g1.2.1,(((replicate 3 (zero (Ty.int IntKind.i64))).set 0 4).set 1 20).set 2 400,()) b (by simp);have a:=a3m (((),(),()),g1.2.1,(((replicate 3 (zero (Ty.int IntKind.i64))).set 0 4).set 1 20).set 2 400,()) b (by simp);simp only[d,cond_true];generalize b5x (((),(),()),g1.2.1,(((replicate 3 (zero (Ty.int IntKind.i64))).set 0 4).set 1 20).set 2 400,())=g2 at *;generalize IntKind.i64.wrap (IntKind.i64.wrap (2*g2.1.1)+1)=n;have e:=a0k (((),n,()),g2.2.1,()) a;have c:=a0D (((),n,()),g2.2.1,()) a;simp only[e,cond_true];have i:=a0k (((),n,()),(G34 (((),n,()),g2.2.1,())).2) c;have f:=a0D (((),n,()),(G34 (((),n,()),g2.2.1,())).2) c;simp only[i,cond_true,isSome_some,getD_some];exact⟨trivial,f⟩
 ·simp only[cond_true];have d:=a4z (((),(),()),g1.2.1,((((replicate 4 (zero (Ty.int IntKind.i64))).set 0 10000).set 1 (-10000)).set 2 10001).set 3 9223372036854775807,()) b (by simp);have a:=a3m (((),(),()),g1.2.1,((((replicate 4 (zero (Ty.int IntKind.i64))).set 0 10000).set 1 (-10000)).set 2 10001).set 3 9223372036854775807,()) b (by simp);simp only[d,cond_true];generalize b5x (((),(),()),g1.2.1,((((replicate 4 (zero (Ty.int IntKind.i64))).set 0 10000).set 1 (-10000)).set 2 10001).set 3 9223372036854775807,())=g2 at *;have e:=a4z (((),(),()),g2.2.1,(((replicate 3 (zero (Ty.int IntKind.i64))).set 0 10000).set 1 0).set 2 (-10001),()) a (by simp);have c:=a3m (((),(),()),g2.2.1,(((replicate 3 (zero (Ty.int IntKind.i64))).set 0 10000).set 1 0).set 2 (-10001),()) a (by simp);simp only[e,cond_true,isSome_some,getD_some];exact⟨trivial,c⟩
theorem c5O (x:e4P.den) (h:a0a x.2.1):d8Y x=true:=(b1x x h).1
theorem G189_cur (x:e4P.den) (h:a0a x.2.1):a0a (d4u x).2.1:=(b1x x h).2
theorem c5P (x:e4Q.den) (h:a0a x.2.1):Pst (e9A x) fun y=>a0a y.2.1:=by
 unfold e9A;dsimp only
 (repeat' (with_reducible first|refine a0h ?_|refine a0d (a0k _ cu) ?_|refine a0d (a1j _ cu) ?_|refine a0d (c5O _ cu) ?_|refine a0V (fun _=>?_) (fun _=>?_)))<;>(repeat ((try dsimp only);first|assumption|(with_reducible first|apply G142_cur|apply a0D|apply a1g|apply G189_cur)))
theorem d9D (x:e4Q.den) (h:a0a x.2.1):f3C x=true:=a1H (c5P x h)
theorem G144_cur (x:e4Q.den) (h:a0a x.2.1):a0a (f3D x).2.1:=a1I _ (c5P x h)
theorem c5Q (x:e4O.den) (h:a0a x.2.1):Pst (e9z x) fun y=>a0a y.2.1:=by
 unfold e9z;dsimp only
 (repeat' (with_reducible first|refine a0h ?_|refine a0d (a0k _ cu) ?_|refine a0d (a1j _ cu) ?_|refine a0d (c5O _ cu) ?_|refine a0V (fun _=>?_) (fun _=>?_)))<;>(repeat ((try dsimp only);first|assumption|(with_reducible first|apply G144_cur|apply G142_cur|apply a0D|apply a1g|apply G189_cur)))
theorem a6Q (x:e4O.den) (h:a0a x.2.1):c4n x=true:=a1H (c5Q x h)
theorem G143_cur (x:e4O.den) (h:a0a x.2.1):a0a (b5y x).2.1:=a1I _ (c5Q x h)
theorem e6u (C:Den S38) (v:Int) (a:0<=v) (b:v<=(C.2.1.length:Int)) (c:C.2.1.length<=1000):e1X (C,v,())=true:=by
 have:=b5E C v.toNat (by omega) (by omega);rw[Int.toNat_of_nonneg a]at this;unfold e1X;rw[this];rfl
theorem d1a (v:c4p) (h:a0a v.2.1) (a:0<=v.1.2.2.2.1) (b:(v.2.2.2.2.1.length:Int)+v.1.2.2.2.1<=3) (d:1<=(v.2.2.2.2.1.length:Int)+v.1.2.2.2.1):Pst (d0x v) fun y=>a0a y.2.1 /\ y.2.2.2.2.1.length<=3 /\ 1<=y.2.2.2.2.1.length:=by
 refine a0C (q:=d0w) (fun v=>a0a v.2.1 /\ 0<=v.1.2.2.2.1 /\ (v.2.2.2.2.1.length:Int)+v.1.2.2.2.1<=3 /\ 1<=(v.2.2.2.2.1.length:Int)+v.1.2.2.2.1) (fun _ r=>Pst r fun y=>a0a y.2.1 /\ y.2.2.2.2.1.length<=3 /\ 1<=y.2.2.2.2.1.length)
  (fun v=>v.1.2.2.2.1.toNat) ?_ _ _ ⟨h,a,b,d⟩ (Nat.lt_of_lt_of_le (m:=1000) (by omega) (Nat.le_add_left _ _))
 clear h a b d v;rintro⟨⟨_,_,_,k,_⟩,c,b1,b2,l,_⟩ f ⟨g0,g1,g2,g3⟩ ih;simp only at g0 g1 g2 g3 ih;unfold d0w;dsimp only;by_cases g:k>0
 ·refine a0d (by simpa using g) ?_;refine a0d (a6Q _ cu) ?_;refine a0d (a1j _ cu) ?_;refine a0d ?_ ?_
  ·refine a0v ?_;simp only[length_set,List.length_replicate];omega
  have e:IntKind.i64.wrap (k-1)=k-1:=w64 (by omega) (by omega);refine ih _ ⟨cu,?_,?_,?_⟩ ?_<;>simp only[e,length_append,length_set,List.length_replicate]<;>omega
 ·have:decide (k>0)=false:=by simpa using g
  rw[this];exact a0h ⟨g0,by show l.length<=3;omega,by show 1<=l.length;omega⟩
theorem b8I (v:a8F) (h:a0a v.2.1) (d:v.2.2.2.2.1.length<=22):Pst (b7X v) fun y=>a0a y.2.1 /\ y.2.2.2.2.1.length<=22:=by
 refine a0C (q:=b7W) (fun v=>a0a v.2.1 /\ v.2.2.2.2.1.length<=22) (fun _ r=>Pst r fun y=>a0a y.2.1 /\ y.2.2.2.2.1.length<=22)
  (fun v=>22-v.2.2.2.2.1.length) ?_ _ _ ⟨h,d⟩ (Nat.lt_of_lt_of_le (m:=1000) (by omega) (Nat.le_add_left _ _))
 clear h d v;rintro⟨⟨_,_,_,_⟩,c,b1,b2,l,_⟩ f ⟨g0,g2⟩ ih;simp only at g0 g2 ih;unfold b7W;dsimp only;refine a0d (a0k _ cu) ?_;have a:0<=((G34 (((),2,()),c,())).fst.fst:Int) /\ ((G34 (((),2,()),c,())).fst.fst:Int)<2:=a0O 2 c g0 (by decide);have i:a0a (G34 (((),2,()),c,())).snd.fst:=cu;generalize G34 (((),2,()),c,())=D at *;have j:∀z:Int,z=D.fst.fst->IntKind.i64.wrap (20+z)<=21:=fun z e=>by
  have d:0<=z:=e ▸ a.1;have n:z<2:=e ▸ a.2;rw[w64 (by omega) (by omega)];omega
 have b:=j _ rfl;by_cases g:(l.length:Int)<IntKind.i64.wrap (20+D.fst.fst)
 ·refine a0d (by simpa using g) ?_;refine a0d ?_ ?_
  ·refine a0v ?_;simp only[length_set,List.length_replicate];omega
  have k:(l.length:Int)<21:=Int.lt_of_lt_of_le g b;refine ih _ ⟨i,?_⟩ ?_<;>simp only[length_append,length_set,List.length_replicate]<;>omega
 ·have:decide ((l.length:Int)<IntKind.i64.wrap (20+D.fst.fst))=false:=by simpa using g
  rw[this];exact a0h ⟨i,g2⟩
theorem f5F (v:a8F) (h:a0a v.2.1) (a:v.2.2.2.2.1.length<=22):c4o v=true:=a1H (b8I v h a)
theorem f5G (v:a8F) (h:a0a v.2.1) (a:v.2.2.2.2.1.length<=22):a0a (b5z v).2.1 /\ (b5z v).2.2.2.2.1.length<=22:=a1I _ (b8I v h a)
theorem a8I (x:I76.den) (h:a0a x.2.1):Pst (F76 x) fun y=>a0a y.2.1 /\ y.1.1.2.1.length<=22:=by
 unfold F76;dsimp only;refine a0d (a0k _ cu) ?_;refine a0d (a0k _ cu) ?_;have g:a0a (G34 (((),9,()),x.snd)).snd.fst:=cu;have d:0<=((G34 (((),3,()),(G34 (((),9,()),x.snd)).snd)).fst.fst:Int) /\ ((G34 (((),3,()),(G34 (((),9,()),x.snd)).snd)).fst.fst:Int)<3:=a0O 3 (G34 (((),9,()),x.snd)).2.1 g (by decide);have f:a0a (G34 (((),3,()),(G34 (((),9,()),x.snd)).snd)).snd.fst:=cu;generalize G34 (((),3,()),(G34 (((),9,()),x.snd)).snd)=D at *;generalize G34 (((),9,()),x.snd)=B at *;have c:∀z:Int,z=D.fst.fst->1<=IntKind.i64.wrap (1+z) /\ IntKind.i64.wrap (1+z)<=3:=fun z e=>by
  have m:0<=z:=e ▸ d.1;have n:z<3:=e ▸ d.2;rw[w64 (by omega) (by omega)];omega
 have p:=d1a (((),(),(),IntKind.i64.wrap (1+D.fst.fst),()),D.snd.fst,(0,0,0,0,(),0,0,0,0,()),(0,-20,IntKind.i64.wrap (B.fst.fst-4),20,(),0,0,0,0,()),[],()) f (Int.le_trans (by decide) (c _ rfl).1) (by simpa using(c _ rfl).2) (by simpa using(c _ rfl).1);refine a0d (a1H p) ?_;obtain⟨y,i,j⟩:=p;have ex:c4q (((),(),(),IntKind.i64.wrap (1+D.fst.fst),()),D.snd.fst,(0,0,0,0,(),0,0,0,0,()),(0,-20,IntKind.i64.wrap (B.fst.fst-4),20,(),0,0,0,0,()),[],())=y:=by unfold c4q;rw[i];rfl
 rw[ex];obtain⟨l,o,k⟩:=j;refine a0d (a6Q _ cu) ?_;refine a0d (a6Q _ cu) ?_;refine a0d (a0k _ cu) ?_;have a:a0a (G34 (((),20,()),(b5y (((),(50,20,()),20,()),(b5y (((),(50,-20,()),20,()),y.snd.fst,())).snd)).snd)).snd.fst:=cu;generalize G34 (((),20,()),(b5y (((),(50,20,()),20,()),(b5y (((),(50,-20,()),20,()),y.snd.fst,())).snd)).snd)=A at *;have b:y.2.2.2.2.1.length<=22:=by omega
 refine a0V (fun _=>?_) (fun _=>?_)
 ·exact a0h ⟨a,by simp⟩
 refine a0V (fun _=>?_) (fun _=>?_)
 ·refine a0d ?_ ?_
  ·have:decide (0<((y.snd.snd.snd.snd.fst.length:Nat):Int))=true:=by simp;omega
   rw[this];rfl
  exact a0h ⟨a,by simp only[length_set];exact b⟩
 refine a0V (fun _=>?_) (fun _=>?_)
 ·refine a0d (d9D _ cu) ?_;exact a0h ⟨cu,b⟩
 refine a0V (fun _=>?_) (fun _=>?_)
 ·exact a0h ⟨a,b⟩
 refine a0V (fun _=>?_) (fun _=>?_)
 ·refine a0d (f5F _ a b) ?_;exact a0h (f5G _ a b)
 ·exact a0h ⟨a,b⟩
theorem e6v (x:I76.den) (h:a0a x.2.1):K76 x=true:=a1H (a8I x h)
theorem G76_cur (x:I76.den) (h:a0a x.2.1):a0a (G76 x).2.1:=(a1I _ (a8I x h)).1
end Go.Proofs.YtjomnmoekchfeaaGreatDoor.AM
