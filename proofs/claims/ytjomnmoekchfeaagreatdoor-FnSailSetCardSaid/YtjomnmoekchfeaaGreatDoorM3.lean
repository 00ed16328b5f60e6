/- Texts of one proof, joined: an abstract machine for the program, its functions evaluated, plain lemmas. Conditions: those that each lemma names. -/
import Derived.Test.YtjomnmoekchfeaaGreatDoorM2
import Derived.Test.YtjomnmoekchfeaaGreatDoorProg
import Derived.Test.YtjomnmoekchfeaaGreatDoorChecked
import Derived.Shelf.Strings.Builder1
import Derived.Shelf.Strings.Builder2
import Derived.Shelf.Strings.OnBuilder
import Derived.Shelf.Small.Strs
import Derived.Shelf.Utf8.RuneCount
import Derived.Shelf.Strconv.Itoa0
import Derived.Shelf.Strconv.Itoa1
import Derived.Shelf.LaysM
import Derived.Shelf.Strconv.Itoa2
import Derived.Shelf.Strconv.Itoa3
import Derived.Shelf.Strings.Search1
import Derived.Shelf.Strings.Search2
import Derived.Shelf.Strings.Search3
import Derived.Shelf.Strings.Count
import Derived.Shelf.Strings.Shaped
import Derived.Shelf.Strings.Split
import Derived.Shelf.Strings.SplitShaped
import Derived.Shelf.Unicode.Decode
import Derived.Shelf.Strings.RuneCount
import Derived.Shelf.Strings.Explode
import Derived.Shelf.Unicode.DecodeSlow
import Derived.Shelf.Unicode.DecodeAny
import Derived.Ground.Names2Prog
import Derived.Shelf.Slices.Clone
import Derived.Ground.SlgnProg
import Derived.Shelf.SlicesE.Clone
set_option linter.unusedVariables false
set_option linter.unusedSimpArgs false
namespace Go.Proofs.YtjomnmoekchfeaaGreatDoor.AM
open Go Go.Proofs
abbrev S7:Ty := .cons (.int .i64) (.cons (.int .i64) (.cons (.bool) (.cons (.int .u8) (.nil))))
abbrev S13:Ty := .cons (.str) (.cons (.int .u64) (.nil))
abbrev S27:Ty := .cons (.slice (.flt .f32)) (.cons (.slice (.int .i64)) (.cons (.slice (.slice (.flt .f32))) (.nil)))
abbrev a0Y:Ty := .cons (.cpx .f64) (.cons (.cons (.cpx .f32) (.cons (.cpx .f32) (.cons (.cpx .f32) (.cons (.cpx .f32) (.cons (.cpx .f32) (.cons (.cpx .f32) (.cons (.cpx .f32) (.cons (.cpx .f32) (.cons (.cpx .f32) (.cons (.cpx .f32) (.cons (.cpx .f32) (.cons (.cpx .f32) (.cons (.cpx .f32) (.nil)))))))))))))) (.nil))
abbrev S30:Ty := .cons (.slice (a0Y)) (.cons (.slice (.int .i64)) (.nil))
abbrev S68:Ty := .cons (.str) (.cons (.flt .f32) (.cons (.flt .f32) (.cons (.int .i64) (.cons (.int .i64) (.nil)))))
abbrev S33:Ty := .cons (.int .i64) (.cons (.int .i64) (.nil))
abbrev S35:Ty := .cons (S33) (.cons (S33) (.nil))
abbrev a1U:Ty := .cons (S33) (.cons (.bool) (.nil))
abbrev S38:Ty := .cons (S35) (.cons (.slice (a1U)) (.cons (S35) (.nil)))
abbrev S40:Ty := .cons (S27) (.cons (S30) (.cons (.slice (S68)) (.cons (S38) (.nil))))
abbrev S97:Ty := .cons (S33) (.cons (.int .i64) (.nil))
abbrev S46:Ty := .cons (S40) (.cons (.int .i64) (.cons (.cpx .f64) (.cons (.int .i64) (.cons (.cpx .f32) (.cons (.int .i64) (.cons (.slice (S97)) (.cons (.slice (.str)) (.nil))))))))
abbrev S63:Ty := .cons (.flt .f32) (.cons (.int .i64) (.nil))
abbrev a2X:Ty := .cons (.slice (.int .u8)) (.cons (.int .i64) (.cons (.int .i64) (.nil)))
abbrev a3Y:Ty := .cons (.int .i64) (.cons (.flt .f32) (.cons (.int .i64) (.nil)))
def tab:List (Nat×TI):=[
 (1,⟨1,8,false,.nil,[.pois],[],0,.other⟩),
 (2,⟨1,8,false,.int .i64,[.int .i64 0],[],0,.int .i64⟩),
 (3,⟨1,8,false,.int .i64,[.int .i64 0],[],0,.int .i64⟩),
 (4,⟨1,1,false,.bool,[.bool false],[],0,.bool⟩),
 (5,⟨1,1,false,.int .u8,[.int .u8 0],[],0,.int .u8⟩),
 (6,⟨1,1,false,.int .u8,[.int .u8 0],[],0,.int .u8⟩),
 (7,⟨4,24,true,S7,[.int .i64 0,.int .i64 0,.bool false,.int .u8 0],[(0,1,false),(1,1,false),(2,1,false),(3,1,false)],0,.struct⟩),
 (9,⟨1,16,false,.str,[.str ByteArray.empty],[],0,.string⟩),
 (10,⟨1,16,false,.str,[.str ByteArray.empty],[],0,.string⟩),
 (14,⟨2,24,true,S13,[.str ByteArray.empty,.int .u64 0],[(0,1,false),(1,1,false)],0,.struct⟩),
 (22,⟨1,24,false,.slice (.int .u8),[.nil (.int .u8)],[],5,.slice⟩),
 (24,⟨1,24,false,.slice (.flt .f32),[.nil (.flt .f32)],[],62,.slice⟩),
 (25,⟨1,24,false,.slice (.int .i64),[.nil (.int .i64)],[],3,.slice⟩),
 (26,⟨1,24,false,.slice (.slice (.flt .f32)),[.nil (.slice (.flt .f32))],[],24,.slice⟩),
 (28,⟨3,72,true,S27,[.nil (.flt .f32),.nil (.int .i64),.nil (.slice (.flt .f32))],[(0,1,false),(1,1,false),(2,1,false)],0,.struct⟩),
 (29,⟨1,24,false,.slice (a0Y),[.nil (a0Y)],[],186,.slice⟩),
 (31,⟨2,48,true,S30,[.nil (a0Y),.nil (.int .i64)],[(0,1,false),(1,1,false)],0,.struct⟩),
 (32,⟨1,24,false,.slice (S68),[.nil (S68)],[],69,.slice⟩),
 (34,⟨2,16,true,S33,[.int .i64 0,.int .i64 0],[(0,1,false),(1,1,false)],0,.struct⟩),
 (36,⟨4,32,true,S35,[.int .i64 0,.int .i64 0,.int .i64 0,.int .i64 0],[(0,2,true),(2,2,true)],0,.struct⟩),
 (37,⟨1,24,false,.slice (a1U),[.nil (a1U)],[],165,.slice⟩),
 (39,⟨9,88,true,S38,[.int .i64 0,.int .i64 0,.int .i64 0,.int .i64 0,.nil (a1U),.int .i64 0,.int .i64 0,.int .i64 0,.int .i64 0],[(0,4,true),(4,1,false),(5,4,true)],0,.struct⟩),
 (41,⟨15,232,true,S40,[.nil (.flt .f32),.nil (.int .i64),.nil (.slice (.flt .f32)),.nil (a0Y),.nil (.int .i64),.nil (S68),.int .i64 0,.int .i64 0,.int .i64 0,.int .i64 0,.nil (a1U),.int .i64 0,.int .i64 0,.int .i64 0,.int .i64 0],[(0,3,true),(3,2,true),(5,1,false),(6,9,true)],0,.struct⟩),
 (42,⟨1,16,false,.cpx .f64,[.cpx .f64 0 0],[],0,.complex .f64⟩),
 (43,⟨1,8,false,.cpx .f32,[.cpx .f32 0 0],[],0,.complex .f32⟩),
 (44,⟨1,24,false,.slice (S97),[.nil (S97)],[],98,.slice⟩),
 (45,⟨1,24,false,.slice (.str),[.nil (.str)],[],9,.slice⟩),
 (47,⟨22,328,true,S46,[.nil (.flt .f32),.nil (.int .i64),.nil (.slice (.flt .f32)),.nil (a0Y),.nil (.int .i64),.nil (S68),.int .i64 0,.int .i64 0,.int .i64 0,.int .i64 0,.nil (a1U),.int .i64 0,.int .i64 0,.int .i64 0,.int .i64 0,.int .i64 0,.cpx .f64 0 0,.int .i64 0,.cpx .f32 0 0,.int .i64 0,.nil (S97),.nil (.str)],[(0,15,true),(15,1,false),(16,1,false),(17,1,false),(18,1,false),(19,1,false),(20,1,false),(21,1,false)],0,.struct⟩),
 (50,⟨1,24,false,.slice (.bool),[.nil (.bool)],[],4,.slice⟩),
 (62,⟨1,4,false,.flt .f32,[.flt .f32 0],[],0,.float .f32⟩),
 (64,⟨2,16,true,S63,[.flt .f32 0,.int .i64 0],[(0,1,false),(1,1,false)],0,.struct⟩),
 (69,⟨5,40,true,S68,[.str ByteArray.empty,.flt .f32 0,.flt .f32 0,.int .i64 0,.int .i64 0],[(0,1,false),(1,1,false),(2,1,false),(3,1,false),(4,1,false)],0,.struct⟩),
 (98,⟨3,24,true,S97,[.int .i64 0,.int .i64 0,.int .i64 0],[(0,2,true),(2,1,false)],0,.struct⟩),
 (104,⟨1,8,false,.int .u64,[.int .u64 0],[],0,.int .u64⟩),
 (109,⟨1,8,false,.flt .f64,[.flt .f64 0],[],0,.float .f64⟩),
 (122,⟨3,40,true,a2X,[.nil (.int .u8),.int .i64 0,.int .i64 0],[(0,1,false),(1,1,false),(2,1,false)],0,.struct⟩),
 (142,⟨1,8,false,.nil,[.pois],[],0,.other⟩),
 (165,⟨3,24,true,a1U,[.int .i64 0,.int .i64 0,.bool false],[(0,2,true),(2,1,false)],0,.struct⟩),
 (179,⟨3,24,true,a3Y,[.int .i64 0,.flt .f32 0,.int .i64 0],[(0,1,false),(1,1,false),(2,1,false)],0,.struct⟩),
 (180,⟨1,24,false,.slice (a3Y),[.nil (a3Y)],[],179,.slice⟩),
 (184,⟨13,104,true,.cons (.cpx .f32) (.cons (.cpx .f32) (.cons (.cpx .f32) (.cons (.cpx .f32) (.cons (.cpx .f32) (.cons (.cpx .f32) (.cons (.cpx .f32) (.cons (.cpx .f32) (.cons (.cpx .f32) (.cons (.cpx .f32) (.cons (.cpx .f32) (.cons (.cpx .f32) (.cons (.cpx .f32) (.nil))))))))))))),[.cpx .f32 0 0,.cpx .f32 0 0,.cpx .f32 0 0,.cpx .f32 0 0,.cpx .f32 0 0,.cpx .f32 0 0,.cpx .f32 0 0,.cpx .f32 0 0,.cpx .f32 0 0,.cpx .f32 0 0,.cpx .f32 0 0,.cpx .f32 0 0,.cpx .f32 0 0],[],43,.array 13⟩),
 (186,⟨14,120,true,a0Y,[.cpx .f64 0 0,.cpx .f32 0 0,.cpx .f32 0 0,.cpx .f32 0 0,.cpx .f32 0 0,.cpx .f32 0 0,.cpx .f32 0 0,.cpx .f32 0 0,.cpx .f32 0 0,.cpx .f32 0 0,.cpx .f32 0 0,.cpx .f32 0 0,.cpx .f32 0 0,.cpx .f32 0 0],[(0,1,false),(1,13,true)],0,.struct⟩),
 (201,⟨1,24,false,.slice (.cpx .f32),[.nil (.cpx .f32)],[],43,.slice⟩),
 (208,⟨1,8,false,.nil,[.pois],[],0,.other⟩),
 (240,⟨1,8,false,.nil,[.pois],[],0,.other⟩)]
def eqs:List Nat:=[34]
theorem a0w:c4A (e9t Tryz.prog) eqs:=d0F (by kernel_rfl)
theorem a0x:f4u Tryz.prog tab=true:=by kernel_rfl
theorem mixed:Tryz.prog.follows .mixedOrders=true:=Tryz.checked.mixed
def a0b (f:Func):Code:=match f.body with
 |some c=>c
 |none => .skip
theorem a1H {f:Nat} {fn:Func} {Γ:Env} (h:Tryz.prog.funcs[f]?=some fn) (hb:fn.body=some (a0b fn)) (hr:fn.results.toList=Γ.res) (hn:fn.ntmps=Γ.nt) (hname:(fn.name == "runtime.NumGoroutine")=false) (hl:a8n Γ (a0b fn)):a6z Tryz.prog f Γ (a0b fn):=
 ⟨hl,fn,h,hb,hr,hn,hname⟩
theorem a0O {Γ:Env} {c:Code} (h:a0p c=[]):a8n Γ c:=fun c' hc=>by rw[h]at hc;cases hc
abbrev OD (R:Ty):Type:=Option (Den R)
theorem isS {α:Type} {o:Option α} {y:α} (h:o=some y):o.isSome=true:=by rw[h];rfl
theorem gtS {α:Type} {o:Option α} {y d:α} (h:o=some y):o.getD d=y:=by rw[h];rfl
theorem fnO {f:Nat} {fn:Func} {sems:List (Nat×b2y)} {nt:Nat} {res:List ResultVar} {frz:List Nat} {cut:List (Nat×(List Nat×List Cv))} {loops:List (Nat×a6E)} {past:List (Nat×(List Nat×List Cv))} {rown:List Cv} {A R:Ty} {p:Den A->Option (Den R)}
 (hs:c4A (a0k Tryz.prog) sems) (h:Tryz.prog.funcs[f]?=some fn) (hv:∀x,a0t (a0m tab eqs sems nt res frz cut loops past rown) (a0b fn) (a1a R) (a0M A x) []=p x)
 (hb:fn.body=some (a0b fn):=by rfl) (hr:fn.results.toList=res:=by rfl) (hn:fn.ntmps=nt:=by rfl) (hname:(fn.name == "runtime.NumGoroutine")=false:=by kernel_rfl) (hl:a0p (a0b fn)=[]:=by kernel_rfl):
 a0k Tryz.prog (f,a0a A R (fun x=>(p x).isSome) (fun x=>(p x).getD (zero R))):=
 a1d (a0v mixed a0x a0w hs) (a1H h hb hr hn hname (a0O hl)) hv
abbrev KI (I:Sg):Type:=I.den->Bool
abbrev GI (I O:Sg):Type:=I.den->O.den
abbrev KA (A:Ty):Type:=Den A->Bool
abbrev GA (A R:Ty):Type:=Den A->Den R
abbrev QI (I O:Sg):Type:=I.den->O.den->Prop
set_option maxRecDepth 100000
set_option maxHeartbeats 0
theorem e1I:c2D Tryz.prog 120 Extern.MathFloatBits.float64bits:=⟨_,Tryz.func120,rfl,rfl,by kernel_rfl,by kernel_rfl⟩
theorem e1J:c2D Tryz.prog 121 Extern.MathFloatBits.float64frombits:=⟨_,Tryz.func121,rfl,rfl,by kernel_rfl,by kernel_rfl⟩
abbrev d0W:Type:={ z:Nat // a1O .f64 z=true }
theorem d7X:Nonempty d0W:=⟨⟨qn .f64,a5T _⟩⟩
abbrev e1K:Ty := .cons (.flt .f64) (.nil)
abbrev e8P:Ty := .cons (.flt .f64) (.nil)
noncomputable def g4b:a9F:=mkN [(120,a6B (.cons (.flt .f64) .nil) (.cons (.int .u64) .nil) d0W d7X (fun z x=>((((bif a1O .f64 x.1 then z.1 else x.1:Nat):Int)),()))),(121,a6B (.cons (.int .u64) .nil) (.cons (.flt .f64) .nil) Unit ⟨()⟩ (fun _ x=>((x.1:Int).toNat,())))] []
noncomputable def e5i:Env:=a0m tab eqs [] 7 [.tmp 2] [] [] [] [] []
theorem e9P (h:Den e8P->Option Unit) (x:Den e1K):a6p e5i g4b (a0b Tryz.f119) (a6q e8P h) (a0M e1K x) [] =
 a3z fun(z:d0W)=>a3z fun(_:Unit)=>h ((Int.toNat (a2u BinOp.andNot IntKind.u64 (((bif a1O FloatKind.f64 x.fst then z.1 else x.fst:Nat):Int)) 9223372036854775808)),()):=by kernel_rfl
theorem d7Y (n:Nat):(a2u .andNot .u64 (n:Int) 9223372036854775808).toNat=n%2^63:=by
 have e:a2u .andNot .u64 (n:Int) 9223372036854775808=IntKind.u64.wrap ((BitVec.ofInt 64 (n:Int) &&& ~~~(BitVec.ofInt 64 9223372036854775808)).toNat:Int):=rfl;have hy : ~~~(BitVec.ofInt 64 9223372036854775808)=9223372036854775807#64:=by decide
 rw[e,hy,BitVec.toNat_and];have hx:(BitVec.ofInt 64 (n:Int)).toNat=n%2^64:=by
  rw[BitVec.toNat_ofInt];omega
 have h7:(9223372036854775807#64).toNat=2^63-1:=by decide
 rw[hx,h7,Nat.and_two_pow_sub_one_eq_mod,IntKind.wrap_u64];omega
theorem b9g {n:Nat}:a1O .f64 (n%2^63)=a1O .f64 n:=by
 have hs:FloatKind.f64.format.signWeight=2^63:=by decide
 rw[Bool.eq_iff_iff,a4f,a4f,hs,Nat.mod_mod]
def f4C (x:Den e1K):Bool:=true
def f4D (x:Den e1K):Den e8P:=(x.1%2^63,())
theorem e9Q:a1F Tryz.prog e5i:=a0v mixed a0x a0w .nil
theorem f7v:a6z Tryz.prog 119 e5i (a0b Tryz.f119):=a1H Tryz.func119 rfl rfl rfl (by kernel_rfl) (a0O (by kernel_rfl))
theorem e9R:a0k Tryz.prog (119,a0a e1K e8P f4C f4D):=
 a6P (N:=g4b) e9Q (a2W ⟨c4E e1I,a9e e1J,trivial⟩) f7v a1C (Q:=fun x y=>FEq .f64 (x.1%2^63) y.1)
  (fun x y hq β K v hv=>by
   obtain⟨b,rfl,hb⟩:=hv;refine⟨b,rfl,?_⟩;have hb:FEq .f64 y.1 b:=hb;show FEq .f64 (x.1%2^63) b;rcases hq with e|⟨h1,h2⟩
   ·rw[e];exact hb
   ·exact .inr ⟨h1,FEq.nan_left hb h2⟩)
  (fun x _ k hk=>by
   rw[e9P]
   haveI:=d7X
   refine a0B fun z=>a0B fun _=>hk _ ?_
   rw[d7Y];cases hn:a1O .f64 x.1 with
   |true=>exact .inr ⟨by rw[b9g];exact hn,by show a1O .f64 (z.1%2^63)=true;rw[b9g];exact z.2⟩
   |false=>exact .inl rfl)
end Go.Proofs.YtjomnmoekchfeaaGreatDoor.AM
namespace Go.Proofs
open Go.Shelf
def Tryz.lays156_ren:Go.Shelf.Ren:=⟨fun|156=>60|165=>116|166=>117|169=>118|240=>183|241=>184|276=>229|277=>230|n=>n,fun|31=>45|9=>9|3=>3|4=>4|0=>0|20=>20|72=>154|76=>158|70=>152|37=>22|75=>157|127=>215|164=>242|5=>5|80=>160|n=>n,fun|n=>n⟩
theorem Tryz.lays156:Go.Proofs.Lays.n156 Tryz.prog Tryz.lays156_ren:={
 mixed:=by kernel_rfl
 f156:=Tryz.func60.trans (congrArg some (by kernel_rfl))
 f165:=Tryz.func116.trans (congrArg some (by kernel_rfl))
 f166:=Tryz.func117.trans (congrArg some (by kernel_rfl))
 f169:=Tryz.func118.trans (congrArg some (by kernel_rfl))
 f240:=Tryz.func183.trans (congrArg some (by kernel_rfl))
 f241:=Tryz.func184.trans (congrArg some (by kernel_rfl))
 f276:=Tryz.func229.trans (congrArg some (by kernel_rfl))
 f277:=Tryz.func230.trans (congrArg some (by kernel_rfl))
 t0:=Tryz.underlying0
 a0:=Tryz.isAgg0
 z0:=Tryz.sizeOf0
 v0:=Tryz.zeroValue0
 t3:=Tryz.underlying3
 a3:=Tryz.isAgg3
 z3:=Tryz.sizeOf3
 v3:=Tryz.zeroValue3
 t4:=Tryz.underlying4
 a4:=Tryz.isAgg4
 z4:=Tryz.sizeOf4
 v4:=Tryz.zeroValue4
 t9:=Tryz.underlying9
 a9:=Tryz.isAgg9
 z9:=Tryz.sizeOf9
 v9:=Tryz.zeroValue9
 t20:=Tryz.underlying20
 a20:=Tryz.isAgg20
 z20:=Tryz.sizeOf20
 v20:=Tryz.zeroValue20
 t31:=Tryz.underlying45
 a31:=Tryz.isAgg45
 z31:=Tryz.sizeOf45
 v31:=Tryz.zeroValue45
 t37:=Tryz.underlying22
 a37:=Tryz.isAgg22
 z37:=Tryz.sizeOf22
 v37:=Tryz.zeroValue22
 t70:=Tryz.underlying152
 a70:=Tryz.isAgg152
 z70:=Tryz.sizeOf152
 v70:=Tryz.zeroValue152
 t72:=Tryz.underlying154
 a72:=Tryz.isAgg154
 z72:=Tryz.sizeOf154
 v72:=Tryz.zeroValue154
 t75:=Tryz.underlying157
 a75:=Tryz.isAgg157
 z75:=Tryz.sizeOf157
 v75:=Tryz.zeroValue157
 t76:=Tryz.underlying158
 a76:=Tryz.isAgg158
 z76:=Tryz.sizeOf158
 v76:=Tryz.zeroValue158
 t127:=Tryz.underlying215
 a127:=Tryz.isAgg215
 z127:=Tryz.sizeOf215
 v127:=Tryz.zeroValue215
 t164:=Tryz.underlying242
 a164:=Tryz.isAgg242
 z164:=Tryz.sizeOf242
 v164:=Tryz.zeroValue242 }
theorem Tryz.Builder_Extra_156:Builder.Extra Tryz.prog Tryz.lays156_ren:={
 sizeBuilder:=by kernel_rfl
 liesBuilder:=by kernel_rfl
 t5:=Tryz.underlying5
 a5:=Tryz.isAgg5
 z5:=Tryz.sizeOf5
 v5:=Tryz.zeroValue5
 infoByte:=by kernel_rfl
 cellsByte:=by kernel_rfl
 sizeByte:=by kernel_rfl
 neB5:=by decide }
open Go.RowKit in
theorem Tryz.strings_Join_none (a:Option Addr) (c:Nat) (sep:ByteArray) (w:World) :
 Calls Tryz.prog 60 #[.slice a 0 c,.string sep] w fun e w'=>e = .returned (.string ⟨#[]⟩) /\ w'=w:=Any.strings_Join_none Tryz.lays156 Tryz.Builder_Extra_156 a c sep w
open Go.RowKit in
theorem Tryz.strings_Join (bk o c:Nat) (xs:List ByteArray) (sep:ByteArray) (w:World) (hcells:∀(j:Nat) x,xs[j]?=some x->w.cell? ⟨bk,o+j,none⟩=some (.string x)) (hbk:bk<w.heap.size) (hN:xs.length<=140737488355328) (hcap:xs.length<=c) (hlen:(Lib.join (xs.map (·.data.toList)) sep.data.toList).length<=140737488355328) :
 Calls Tryz.prog 60 #[.slice (some ⟨bk,o,none⟩) xs.length c,.string sep] w fun e w'=>e = .returned (.string ⟨(Lib.join (xs.map (·.data.toList)) sep.data.toList).toArray⟩) /\ Below w.heap.size w w':=Any.strings_Join Tryz.lays156 Tryz.Builder_Extra_156 bk o c xs sep w hcells hbk hN hcap hlen
def Tryz.lays137_ren:Go.Shelf.Ren:=⟨fun|137=>235|217=>252|266=>271|n=>n,fun|9=>9|5=>5|3=>3|n=>n,fun|n=>n⟩
theorem Tryz.lays137:Go.Proofs.Lays.n137 Tryz.prog Tryz.lays137_ren:={
 mixed:=by kernel_rfl
 f137:=Tryz.func235.trans (congrArg some (by kernel_rfl))
 f217:=Tryz.func252.trans (congrArg some (by kernel_rfl))
 f266:=Tryz.func271.trans (congrArg some (by kernel_rfl))
 t3:=Tryz.underlying3
 a3:=Tryz.isAgg3
 z3:=Tryz.sizeOf3
 v3:=Tryz.zeroValue3
 t5:=Tryz.underlying5
 a5:=Tryz.isAgg5
 z5:=Tryz.sizeOf5
 v5:=Tryz.zeroValue5
 t9:=Tryz.underlying9
 a9:=Tryz.isAgg9
 z9:=Tryz.sizeOf9
 v9:=Tryz.zeroValue9 }
open Go.RowKit in
theorem Tryz.strings_IndexByte (s:ByteArray) (c:Int) (w:World) :
 Calls Tryz.prog 235 #[.string s,.int .u8 c] w fun e w'=>e = .returned (.int .i64 (Lib.indexByte s.data.toList c.toNat.toUInt8)) /\ w'=w:=Any.strings_IndexByte Tryz.lays137 s c w
def Tryz.laysM171_ren:Go.Shelf.Ren:=⟨fun|171=>65|243=>124|246=>188|283=>231|284=>232|285=>233|286=>234|129=>259|317=>258|318=>260|319=>261|320=>262|337=>273|338=>274|n=>n,fun|3=>3|9=>9|2=>2|4=>4|171=>245|0=>0|53=>104|37=>22|5=>5|173=>248|212=>257|51=>258|20=>20|213=>259|46=>162|232=>269|233=>270|n=>n,fun|17=>2|18=>5|19=>6|n=>n⟩
theorem Tryz.laysM171:Go.Proofs.LaysM.n171 Tryz.prog Tryz.laysM171_ren:={
 mixed:=by kernel_rfl
 f129:=Tryz.func259.trans (congrArg some (by kernel_rfl))
 f171:=Tryz.func65.trans (congrArg some (by kernel_rfl))
 f243:=Tryz.func124.trans (congrArg some (by kernel_rfl))
 f246:=Tryz.func188.trans (congrArg some (by kernel_rfl))
 f283:=Tryz.func231.trans (congrArg some (by kernel_rfl))
 f284:=Tryz.func232.trans (congrArg some (by kernel_rfl))
 f285:=Tryz.func233.trans (congrArg some (by kernel_rfl))
 f286:=Tryz.func234.trans (congrArg some (by kernel_rfl))
 f317:=Tryz.func258.trans (congrArg some (by kernel_rfl))
 f318:=Tryz.func260.trans (congrArg some (by kernel_rfl))
 f319:=Tryz.func261.trans (congrArg some (by kernel_rfl))
 f320:=Tryz.func262.trans (congrArg some (by kernel_rfl))
 f337:=Tryz.func273.trans (congrArg some (by kernel_rfl))
 f338:=Tryz.func274.trans (congrArg some (by kernel_rfl))
 t0:=Tryz.underlying0
 a0:=Tryz.isAgg0
 z0:=Tryz.sizeOf0
 v0:=Tryz.zeroValue0
 t2:=Tryz.underlying2
 a2:=Tryz.isAgg2
 z2:=Tryz.sizeOf2
 v2:=Tryz.zeroValue2
 t3:=Tryz.underlying3
 a3:=Tryz.isAgg3
 z3:=Tryz.sizeOf3
 v3:=Tryz.zeroValue3
 t4:=Tryz.underlying4
 a4:=Tryz.isAgg4
 z4:=Tryz.sizeOf4
 v4:=Tryz.zeroValue4
 t5:=Tryz.underlying5
 a5:=Tryz.isAgg5
 z5:=Tryz.sizeOf5
 v5:=Tryz.zeroValue5
 t9:=Tryz.underlying9
 a9:=Tryz.isAgg9
 z9:=Tryz.sizeOf9
 v9:=Tryz.zeroValue9
 t20:=Tryz.underlying20
 a20:=Tryz.isAgg20
 z20:=Tryz.sizeOf20
 v20:=Tryz.zeroValue20
 t37:=Tryz.underlying22
 a37:=Tryz.isAgg22
 z37:=Tryz.sizeOf22
 v37:=Tryz.zeroValue22
 t46:=Tryz.underlying162
 a46:=Tryz.isAgg162
 z46:=Tryz.sizeOf162
 v46:=Tryz.zeroValue162
 t51:=Tryz.underlying258
 a51:=Tryz.isAgg258
 z51:=Tryz.sizeOf258
 v51:=Tryz.zeroValue258
 t53:=Tryz.underlying104
 a53:=Tryz.isAgg104
 z53:=Tryz.sizeOf104
 v53:=Tryz.zeroValue104
 t171:=Tryz.underlying245
 a171:=Tryz.isAgg245
 z171:=Tryz.sizeOf245
 v171:=Tryz.zeroValue245
 t173:=Tryz.underlying248
 a173:=Tryz.isAgg248
 z173:=Tryz.sizeOf248
 v173:=Tryz.zeroValue248
 t212:=Tryz.underlying257
 a212:=Tryz.isAgg257
 z212:=Tryz.sizeOf257
 v212:=Tryz.zeroValue257
 t213:=Tryz.underlying259
 a213:=Tryz.isAgg259
 z213:=Tryz.sizeOf259
 t232:=Tryz.underlying269
 a232:=Tryz.isAgg269
 z232:=Tryz.sizeOf269
 v232:=Tryz.zeroValue269
 t233:=Tryz.underlying270
 a233:=Tryz.isAgg270
 z233:=Tryz.sizeOf270
 v233:=Tryz.zeroValue270
 g17:=by kernel_rfl
 g18:=by kernel_rfl
 g19:=by kernel_rfl
 i0:=by kernel_rfl
 i2:=by kernel_rfl
 i3:=by kernel_rfl
 i4:=by kernel_rfl
 i5:=by kernel_rfl
 i9:=by kernel_rfl
 i20:=by kernel_rfl
 i37:=by kernel_rfl
 i46:=by kernel_rfl
 i51:=by kernel_rfl
 i53:=by kernel_rfl
 i171:=by kernel_rfl
 i173:=by kernel_rfl
 i212:=by kernel_rfl
 i232:=by kernel_rfl
 i233:=by kernel_rfl
 m17:=by kernel_rfl
 m18:=by kernel_rfl
 m19:=by kernel_rfl }
open Go.RowKit Go.Sort Go.Lib in
theorem Tryz.strconv_Itoa (n:Int) (h0:-9223372036854775808<=n) (h1:n<=9223372036854775807) (w:World) (htab:Lib.TabIs Tryz.prog w "internal/strconv.uint64pow10" .u64 Lib.pow10Tab) :
 Calls Tryz.prog 65 #[.int .i64 n] w fun e w'=>e = .returned (.string ⟨(Lib.itoa n).toArray⟩) /\ ∃k os,w'=grow (w.drewN k) os:=Any.strconv_Itoa Tryz.laysM171 n h0 h1 w htab
def Tryz.lays146_ren:Go.Shelf.Ren:=⟨fun|146=>48|221=>95|268=>162|138=>163|143=>164|195=>211|197=>212|218=>213|219=>214|260=>251|217=>252|225=>253|224=>254|267=>255|266=>271|314=>272|n=>n,fun|9=>9|31=>45|3=>3|4=>4|0=>0|105=>233|21=>21|5=>5|46=>162|119=>262|139=>265|138=>264|146=>266|51=>258|n=>n,fun|1=>1|3=>3|4=>4|n=>n⟩
theorem Tryz.lays146:Go.Proofs.Lays.n146 Tryz.prog Tryz.lays146_ren:={
 mixed:=by kernel_rfl
 f138:=Tryz.func163.trans (congrArg some (by kernel_rfl))
 f143:=Tryz.func164.trans (congrArg some (by kernel_rfl))
 f146:=Tryz.func48.trans (congrArg some (by kernel_rfl))
 f195:=Tryz.func211.trans (congrArg some (by kernel_rfl))
 f197:=Tryz.func212.trans (congrArg some (by kernel_rfl))
 f217:=Tryz.func252.trans (congrArg some (by kernel_rfl))
 f218:=Tryz.func213.trans (congrArg some (by kernel_rfl))
 f219:=Tryz.func214.trans (congrArg some (by kernel_rfl))
 f221:=Tryz.func95.trans (congrArg some (by kernel_rfl))
 f224:=Tryz.func254.trans (congrArg some (by kernel_rfl))
 f225:=Tryz.func253.trans (congrArg some (by kernel_rfl))
 f260:=Tryz.func251.trans (congrArg some (by kernel_rfl))
 f266:=Tryz.func271.trans (congrArg some (by kernel_rfl))
 f267:=Tryz.func255.trans (congrArg some (by kernel_rfl))
 f268:=Tryz.func162.trans (congrArg some (by kernel_rfl))
 f314:=Tryz.func272.trans (congrArg some (by kernel_rfl))
 t0:=Tryz.underlying0
 a0:=Tryz.isAgg0
 z0:=Tryz.sizeOf0
 v0:=Tryz.zeroValue0
 t3:=Tryz.underlying3
 a3:=Tryz.isAgg3
 z3:=Tryz.sizeOf3
 v3:=Tryz.zeroValue3
 t4:=Tryz.underlying4
 a4:=Tryz.isAgg4
 z4:=Tryz.sizeOf4
 v4:=Tryz.zeroValue4
 t5:=Tryz.underlying5
 a5:=Tryz.isAgg5
 z5:=Tryz.sizeOf5
 v5:=Tryz.zeroValue5
 t9:=Tryz.underlying9
 a9:=Tryz.isAgg9
 z9:=Tryz.sizeOf9
 v9:=Tryz.zeroValue9
 t21:=Tryz.underlying21
 a21:=Tryz.isAgg21
 z21:=Tryz.sizeOf21
 v21:=Tryz.zeroValue21
 t31:=Tryz.underlying45
 a31:=Tryz.isAgg45
 z31:=Tryz.sizeOf45
 v31:=Tryz.zeroValue45
 t46:=Tryz.underlying162
 a46:=Tryz.isAgg162
 z46:=Tryz.sizeOf162
 v46:=Tryz.zeroValue162
 t51:=Tryz.underlying258
 a51:=Tryz.isAgg258
 z51:=Tryz.sizeOf258
 v51:=Tryz.zeroValue258
 t105:=Tryz.underlying233
 a105:=Tryz.isAgg233
 z105:=Tryz.sizeOf233
 v105:=Tryz.zeroValue233
 t119:=Tryz.underlying262
 a119:=Tryz.isAgg262
 z119:=Tryz.sizeOf262
 t138:=Tryz.underlying264
 a138:=Tryz.isAgg264
 z138:=Tryz.sizeOf264
 v138:=Tryz.zeroValue264
 t139:=Tryz.underlying265
 a139:=Tryz.isAgg265
 z139:=Tryz.sizeOf265
 v139:=Tryz.zeroValue265
 t146:=Tryz.underlying266
 a146:=Tryz.isAgg266
 z146:=Tryz.sizeOf266
 v146:=Tryz.zeroValue266
 g1:=by kernel_rfl
 g3:=by kernel_rfl
 g4:=by kernel_rfl }
open Go.RowKit Go.Lib in
theorem Tryz.strings_Split (s sep:ByteArray) (m:Int) (w:World) (hs:s.size<4294967281) (hm:w.cell? ⟨1,0,none⟩=some (.int .i64 m)) (h1:1<=sep.size) :
 Calls Tryz.prog 48 #[.string s,.string sep] w fun e w'=>
  e = .returned (.slice (some ⟨w.heap.size,0,none⟩) (Lib.countB s sep+1) (Lib.countB s sep+1)) /\ w'=w.alloc (.cells ((Lib.splitB sep 0 (Lib.countB s sep) s).map Value.string).toArray 9):=Any.strings_Split Tryz.lays146 (by kernel_rfl) s sep m w hs hm h1
end Go.Proofs
namespace Go.Proofs.YtjomnmoekchfeaaGreatDoor.AM
open IntKind (wrap)
open List (length replicate getD set)
open Int (toNat)
open Option (getD_some isSome_some)
open FloatKind (nearest)
open Nat (beq)
open Go Go.Proofs Go.RowKit
set_option maxRecDepth 100000
set_option maxHeartbeats 0
theorem d0X {β0:Bt} {K0:Ks} {w0 w':World} {rs:List W} {v:Value} (hk:KOK K0 w0) (hfr:∀k,0<=k->β0 k=none) (hb:Below w0.heap.size w0 w') (ho:a8h β0 K0 rs v):Ret [] [] rs β0 K0 w0 v w' β0 K0:=
 ⟨KLe.refl _,⟨fun b arr e=>by
  obtain⟨cur,T,fz,h1,h2⟩:=hk.ato b arr e;exact⟨cur,T,fz,by rw[hb.block b (hk.lt e)];exact h1,h2⟩,hk.gk⟩,fun _ _ e => .inl e,
  ⟨fun k b e=>by simp[a2r]at e,fun k k' b b' _ _ _ e=>by simp[a2r]at e,fun k b _ _ e=>by simp[a2r]at e⟩,fun k _=>hfr k (Nat.zero_le _),ho,
  ⟨hb.os,hb.tape,hb.output,hb.size,fun b h _=>hb.block b h⟩,fun x hx=>by
   obtain⟨k,b,y,e,_⟩:=hx;simp[a2r]at e,BLe.refl _,Nat.le_refl _⟩
theorem c2E {f:Nat} (hf:e4A Tryz.prog f) {A R:Ty} {ok:Den A->Bool} {g:Den A->Den R}
 (h:∀(x:Den A),ok x=true->∀(vs:Array Value) (β:Bt) (K:Ks) (w:World),KOK K w->All2 (WR β K) (a0M A x) vs.toList->Calls Tryz.prog f vs w fun e w'=>∃v,e = .returned v /\ a8h β K (a0M R (g x)) v /\ Below w.heap.size w w') :
 a0k Tryz.prog (f,a0a A R ok g):=by
 refine⟨?_,hf⟩;intro args ins rs outs hrun β0 K0 w0 vs hk hm hfr hv;cases ins with
 |cons _ _=>simp[a0a]at hrun
 | nil =>
   simp only[a0a]at hrun;split at hrun
   ·rename_i x hx;simp only[Option.some.injEq,Prod.mk.injEq]at hrun;obtain⟨hok,rfl,rfl⟩:=hrun;refine(h x hok vs β0 K0 w0 hk (a6L hx hv)).mono ?_;rintro e w' ⟨v,rfl,ho,hb⟩;exact⟨v,β0,K0,rfl,d0X hk hfr hb ho⟩
   ·cases hrun
theorem d7Z {β:Bt} {K:Ks} {a:W} {vs:Array Value} (h:All2 (WR β K) [a] vs.toList):∃v,vs=#[v] /\ WR β K a v:=by
 rcases vs with⟨l⟩
 cases l with
 |nil=>exact h.elim
 | cons v r=>cases r with
   |nil=>exact⟨v,rfl,h.1⟩
   |cons _ _=>exact h.2.elim
theorem b4r {β:Bt} {K:Ks} {a b:W} {vs:Array Value} (h:All2 (WR β K) [a,b] vs.toList):∃v u,vs=#[v,u] /\ WR β K a v /\ WR β K b u:=by
 rcases vs with⟨l⟩
 cases l with
 |nil=>exact h.elim
 | cons v r=>cases r with
   |nil=>exact h.2.elim
   | cons u r=>cases r with
     |nil=>exact⟨v,u,rfl,h.1,h.2.1⟩
     |cons _ _=>exact h.2.2.elim
theorem d0Y {K:Ks} {w:World} (h:KOK K w):∃m:Int,(∃T fz,w.heap[1]?=some (.cells #[.int .i64 m] T fz)) /\ ∃T fz,w.heap[2]?=some (.cells ((List.range 20).map fun i=>Value.int .u64 ((10^i:Nat):Int)).toArray T fz):=by
 obtain⟨m,hm⟩:=h.gk;refine⟨m,?_,?_⟩
 ·obtain⟨cur,T,fz,h1,h2,_⟩:=h.ato 1 _ (hm (1,#[.int .i64 m]) (List.mem_cons_self ..));have:=h2 rfl;subst this;exact⟨T,fz,h1⟩
 ·obtain⟨cur,T,fz,h1,h2,_⟩:=h.ato 2 _ (hm (2,_) (List.mem_cons_of_mem _ (List.mem_cons_self ..)));have:=h2 rfl;subst this;exact⟨T,fz,h1⟩
theorem e9S {K:Ks} {w:World} (h:KOK K w):Lib.TabIs Tryz.prog w "internal/strconv.uint64pow10" .u64 Lib.pow10Tab:=by
 obtain⟨m,_,T,fz,h2⟩:=d0Y h
 unfold Lib.TabIs World.var?
 rw[show Tryz.prog.globalNamed "internal/strconv.uint64pow10" = some 2 by kernel_rfl]
 simp only[Option.bind_some,h2,Lib.pow10Tab,List.map_map]
 rfl
theorem d0Z {K:Ks} {w:World} (h:KOK K w):∃m,w.cell? ⟨1,0,none⟩=some (.int .i64 m):=by
 obtain⟨m,⟨T,fz,h1⟩,_⟩:=d0Y h;exact⟨m,by simp[World.cell?,h1]⟩
abbrev A65:Ty := .cons (.int .i64) (.nil)
abbrev R65:Ty := .cons .str (.nil)
def K65 (x:Den A65):Bool:=decide ((-9223372036854775808:Int)<=x.1)&&decide ((x.1:Int)<=9223372036854775807)
def G65 (x:Den A65):Den R65:=(⟨(Lib.itoa x.1).toArray⟩,())
theorem f7w:a0k Tryz.prog (65,a0a A65 R65 K65 G65):=
 c2E ⟨_,Tryz.func65,by kernel_rfl,by kernel_rfl⟩ fun x hok vs β K w hk hv=>by
  obtain⟨n,_⟩:=x;obtain⟨v,rfl,hv1⟩:=d7Z hv;have hv1:v = .int .i64 n:=hv1;subst hv1;simp only[K65,Bool.and_eq_true,decide_eq_true_eq]at hok;refine(Tryz.strconv_Itoa n hok.1 hok.2 w (e9S hk)).mono ?_;rintro e w' ⟨rfl,k,os,rfl⟩;exact⟨_,rfl,rfl,⟨rfl,rfl,rfl,by simp[Go.Sort.grow],fun b hb=>by simp[Go.Sort.grow,Array.getElem?_append,hb]⟩⟩
abbrev e1L:Ty := .cons .str (.cons (.int .u8) (.nil))
abbrev e9T:Ty := .cons (.int .i64) (.nil)
def e5j (x:Den e1L):Bool:=true
def b2O (x:Den e1L):Den e9T:=(Lib.indexByte (x.1:ByteArray).data.toList (x.2.1:Int).toNat.toUInt8,())
theorem e9U:a0k Tryz.prog (235,a0a e1L e9T e5j b2O):=
 c2E ⟨_,Tryz.func235,by kernel_rfl,by kernel_rfl⟩ fun x hok vs β K w hk hv=>by
  obtain⟨s,c,_⟩:=x;obtain⟨v,u,rfl,hv1,hu⟩:=b4r hv;have hv1:v = .string s:=hv1;have hu:u = .int .u8 c:=hu;subst hv1;subst hu;refine(Tryz.strings_IndexByte s c w).mono ?_;rintro e w' ⟨rfl,rfl⟩;exact⟨_,rfl,rfl,Below.refl _ _⟩
abbrev A60:Ty := .cons (.slice .str) (.cons .str (.nil))
abbrev R60:Ty := .cons .str (.nil)
def c2F (l:List ByteArray) (sep:ByteArray):List UInt8:=Lib.join (l.map (·.data.toList)) sep.data.toList
def K60 (x:Den A60):Bool:=decide ((x.1:List ByteArray).length<=140737488355328)&&decide ((c2F x.1 x.2.1).length<=140737488355328)
def G60 (x:Den A60):Den R60:=(⟨(c2F x.1 x.2.1).toArray⟩,())
theorem f7x:a0k Tryz.prog (60,a0a A60 R60 K60 G60):=
 c2E ⟨_,Tryz.func60,by kernel_rfl,by kernel_rfl⟩ fun x hok vs β K w hk hv=>by
  obtain⟨l,sep,_⟩:=x;obtain⟨v,u,rfl,hv1,hu⟩:=b4r hv;have hu:u = .string sep:=hu;subst hu;obtain⟨a,n,c,e,hn,hc,hr⟩:=(show DR K (.slice .str) l [v]from hv1);have e:v = .slice a n c:=by simpa using e
  subst e;simp only[K60,Bool.and_eq_true,decide_eq_true_eq]at hok;have hl:n=length (α:=ByteArray) l:=hn;have key:∀(l:List ByteArray),n=l.length->l.length<=140737488355328->(c2F l sep).length<=140737488355328 ->
   (n=0∨∃b o arr,a=some ⟨b,o,none⟩ /\ K b=some (false,arr) /\ ∀i (h:i<l.length),DR K .str l[i] (sub arr.toList (o+i*1) 1)) ->
   Calls Tryz.prog 60 #[.slice a n c,.string sep] w fun e w'=>∃v,e = .returned v /\ a8h β K (a0M R60 (⟨(c2F l sep).toArray⟩,())) v /\ Below w.heap.size w w':=by
   intro l hl h1 h2 hr;by_cases h0:n=0
   ·subst h0;have:l=[]:=by
     cases l with
     |nil=>rfl
     |cons _ _=>simp at hl
    subst this;refine(Tryz.strings_Join_none a c sep w).mono ?_;rintro e w' ⟨rfl,rfl⟩;exact⟨_,rfl,rfl,Below.refl _ _⟩
   ·obtain⟨b,o,arr,rfl,hb,hi⟩:=hr.resolve_left h0;obtain⟨cur,T,fz,hh,hcur,_⟩:=hk.ato b _ hb;have hcur:=hcur rfl;subst hcur;subst hl;refine(Tryz.strings_Join b o c l sep w ?_ (hk.lt hb) h1 hc h2).mono ?_
    ·intro j x hj;obtain⟨hjl,hx⟩:=List.getElem?_eq_some_iff.1 hj;have h3:=hi j hjl;have h3:sub cur.toList (o+j*1) 1=[.string l[j]]:=h3;rw[hx]at h3;unfold sub at h3;rw[Nat.mul_one]at h3;simp only[World.cell?,hh,Option.isSome_none,Bool.false_eq_true,if_false];have:(cur.toList.drop (o+j))[0]?=some (.string x):=by
      have:=congrArg (fun l=>l[0]?) h3;simpa[List.getElem?_take]using this
     rw[List.getElem?_drop,Nat.add_zero,Array.getElem?_toList]at this;exact this
    ·rintro e w' ⟨rfl,hbl⟩;exact⟨_,rfl,rfl,hbl⟩
  exact key l hl hok.1 hok.2 hr
abbrev A48:Ty := .cons .str (.cons .str (.nil))
abbrev R48:Ty := .cons (.slice .str) (.nil)
def a4m (s sep:ByteArray):List ByteArray:=Lib.splitB sep 0 (Lib.countB s sep) s
def K48 (x:Den A48):Bool:=decide ((x.1:ByteArray).size<4294967281)&&decide (1<=(x.2.1:ByteArray).size)
def G48 (x:Den A48):Den R48:=(a4m x.1 x.2.1,())
theorem f7y:a0k Tryz.prog (48,a0a A48 R48 K48 G48):=by
 refine⟨?_,⟨_,Tryz.func48,by kernel_rfl,by kernel_rfl⟩⟩;intro args ins rs outs hrun β0 K0 w0 vs hk hm hfr hv;cases ins with
 |cons _ _=>simp[a0a]at hrun
 | nil =>
   simp only[a0a]at hrun;split at hrun
   case h_2=>cases hrun
   rename_i x hx;simp only[Option.some.injEq,Prod.mk.injEq]at hrun;obtain⟨hok,rfl,rfl⟩:=hrun;have hv:=a6L hx hv;obtain⟨s,sep,_⟩:=x;obtain⟨v,u,rfl,hv1,hu⟩:=b4r hv;have hv1:v = .string s:=hv1;have hu:u = .string sep:=hu;subst hv1;subst hu;simp only[K48,Bool.and_eq_true,decide_eq_true_eq]at hok;obtain⟨m,hm1⟩:=d0Z hk;refine(Tryz.strings_Split s sep m w0 hok.1 hm1 hok.2).mono ?_;rintro e w' ⟨rfl,rfl⟩;have hlen:(a4m s sep).length=Lib.countB s sep+1:=Lib.splitB_all sep hok.2 0 _ s rfl;have hnone:∀arr,K0 w0.heap.size=some arr->False:=fun arr e=>Nat.lt_irrefl _ (hk.lt e)
   let arr:Array Value:=((a4m s sep).map Value.string).toArray
   refine⟨_,β0,fun b=>if b=w0.heap.size then some (false,arr)else K0 b,rfl,⟨?_,⟨?_,?_⟩,?_,⟨fun k b e=>by simp[a2r]at e,fun k k' b b' _ _ _ e=>by simp[a2r]at e,fun k b _ _ e=>by simp[a2r]at e⟩,fun k _=>hfr k (Nat.zero_le _),?_,Fr.alloc _ _ _,fun x hx=>by
    obtain⟨k,b,y,e,_⟩:=hx;simp[a2r]at e,BLe.refl _,Nat.le_refl _⟩⟩
   ·intro b a e;show(if b=w0.heap.size then some (false,arr)else K0 b)=_;rw[if_neg (by rintro rfl;exact hnone _ e)];exact e
   ·intro b a e;split at e
    ·rename_i hb;cases e;subst hb;exact⟨_,9,(0,0),a2b _ _,fun _=>rfl,fun h=>by cases h⟩
    ·exact(hk.alloc _).ato b a e
   ·refine GK.mono (K:=K0) (fun b a e=>?_) hk.gk;show(if b=w0.heap.size then some (false,arr)else K0 b)=_;rw[if_neg (by rintro rfl;exact hnone _ e)];exact e
   ·intro b a e;split at e
    ·rename_i hb;right;right;rw[hb];exact Nat.le_refl _
    ·exact .inl e
   ·show DR _ (.slice .str) (a4m s sep) [_];refine⟨_,_,_,rfl,hlen.symm,Nat.le_refl _,.inr ⟨w0.heap.size,0,arr,rfl,if_pos rfl,fun i hi=>?_⟩⟩;show sub arr.toList (0+i*1) 1=[.string (a4m s sep)[i]];have hi:i<(a4m s sep).length:=hi;unfold sub;rw[Nat.mul_one,Nat.zero_add];simp only[arr];rw[List.drop_eq_getElem_cons (by simpa using hi)];simp
open Go Go.Proofs
abbrev A62:Ty := .cons (.flt .f64) (.nil)
abbrev R62:Ty := .cons (.flt .f64) (.nil)
noncomputable def N62:a9F:=mkN [(120,a6B (.cons (.flt .f64) .nil) (.cons (.int .u64) .nil) d0W d7X (fun z x=>((((bif a1O .f64 x.1 then z.1 else x.1:Nat):Int)),()))),(121,a6B (.cons (.int .u64) .nil) (.cons (.flt .f64) .nil) Unit ⟨()⟩ (fun _ x=>((x.1:Int).toNat,())))] []
noncomputable def f7z:Env:=a0m tab eqs [] 32 [.tmp 2] [] [] [] [] []
def rE (n:Int):Int:=a2u .and .u64 (Int.fdiv n (2^min (toNat 52) (IntKind.bits .u64))) 2047
noncomputable def rR (n:Int) (h:Nat->Option Unit):Option Unit:=
 bif decide (rE n<1023)then
  bif rE n==1022 then
   a3z fun(_:Unit)=>h (toNat (a2u .or .u64 (a2u .and .u64 n 9223372036854775808) 4607182418800017408))
  else a3z fun(_:Unit)=>h (toNat (a2u .and .u64 n 9223372036854775808))
 else bif decide (rE n<1075)then
  let v0:=wrap .u64 (rE n-1023)
  bif decide (0<=v0)then
   bif decide (0<=v0)then
    a3z fun(_:Unit)=>h (toNat (a2u .andNot .u64 (wrap .u64 (n+Int.fdiv 2251799813685248 (2^min (toNat v0) (IntKind.bits .u64)))) (Int.fdiv 4503599627370495 (2^min (toNat v0) (IntKind.bits .u64)))))
   else none
  else none
 else a3z fun(_:Unit)=>h (toNat n)
theorem f7A (h:Den R62->Option Unit) (x:Den A62):a6p f7z N62 (a0b Tryz.f62) (a6q R62 h) (a0M A62 x) [] =
 a3z fun(z:d0W)=>rR (((bif a1O FloatKind.f64 x.fst then z.1 else x.fst:Nat):Int)) (fun y=>h (y,())):=by kernel_rfl
def a1R (n:Int):Nat:=
 bif decide (rE n<1023)then
  bif rE n==1022 then toNat (a2u .or .u64 (a2u .and .u64 n 9223372036854775808) 4607182418800017408)
  else toNat (a2u .and .u64 n 9223372036854775808)
 else bif decide (rE n<1075)then
  toNat (a2u .andNot .u64 (wrap .u64 (n+Int.fdiv 2251799813685248 (2^min (toNat (wrap .u64 (rE n-1023))) (IntKind.bits .u64)))) (Int.fdiv 4503599627370495 (2^min (toNat (wrap .u64 (rE n-1023))) (IntKind.bits .u64))))
 else toNat n
theorem c2G (n:Int):0<=wrap .u64 n:=by rw[IntKind.wrap_u64];omega
theorem f7B (n:Int) (h:Nat->Option Unit) (hh:h (a1R n)=some ()):rR n h=some ():=by
 unfold rR;unfold a1R at hh;cases h1:decide (rE n<1023)with
 | true =>
   rw[h1]at hh;cases h2:rE n==1022 with
   |true=>rw[h2]at hh;exact a0B fun _=>hh
   |false=>rw[h2]at hh;exact a0B fun _=>hh
 | false =>
   rw[h1]at hh;cases h2:decide (rE n<1075)with
   | true =>
     rw[h2]at hh;simp only[c2G,decide_true,cond_true];exact a0B fun _=>hh
   |false=>rw[h2]at hh;exact a0B fun _=>hh
theorem c4I (b:Nat):rE (b:Int)=((b/2^52%2048:Nat):Int):=by
 unfold rE;have e1:Int.fdiv (b:Int) (2^min (toNat 52) (IntKind.bits .u64))=((b/2^52:Nat):Int):=by
  have e:min (toNat 52) (IntKind.bits .u64)=52:=by decide
  rw[e,Int.fdiv_eq_ediv_of_nonneg _ (by decide)];rfl
 rw[e1];show IntKind.u64.wrap (((BitVec.ofInt 64 ((b/2^52:Nat):Int) &&& BitVec.ofInt 64 2047).toNat:Nat):Int)=_;rw[BitVec.toNat_and];have hx:(BitVec.ofInt 64 ((b/2^52:Nat):Int)).toNat=b/2^52%2^64:=by
  rw[BitVec.toNat_ofInt];omega
 have h7:(BitVec.ofInt 64 2047).toNat=2^11-1:=by decide
 rw[hx,h7,Nat.and_two_pow_sub_one_eq_mod,IntKind.wrap_u64];omega
theorem e9V {b:Nat} (h:a1O .f64 b=true):rE (b:Int)=2047:=by
 rw[c4I];rw[a4f]at h;have h2:FloatKind.f64.format.signWeight=2^63:=by decide
 have h3:FloatKind.f64.format.infRung=2047*2^52:=by decide
 rw[h2,h3]at h;omega
def K62 (x:Den A62):Bool:=true
def G62 (x:Den A62):Den R62:=(a1R ((x.1:Nat):Int),())
theorem f7C:a1F Tryz.prog f7z:=a0v mixed a0x a0w .nil
theorem g5f:a6z Tryz.prog 62 f7z (a0b Tryz.f62):=a1H Tryz.func62 rfl rfl rfl (by kernel_rfl) (a0O (by kernel_rfl))
theorem f7D:a0k Tryz.prog (62,a0a A62 R62 K62 G62):=
 a6P (N:=N62) f7C (a2W ⟨c4E e1I,a9e e1J,trivial⟩) g5f a1C (Q:=fun x y=>FEq .f64 (a1R ((x.1:Nat):Int)) y.1)
  (fun x y hq β K v hv=>by
   obtain⟨b,rfl,hb⟩:=hv;refine⟨b,rfl,?_⟩;have hb:FEq .f64 y.1 b:=hb;show FEq .f64 (a1R ((x.1:Nat):Int)) b;rcases hq with e|⟨h1,h2⟩
   ·rw[e];exact hb
   ·exact .inr ⟨h1,FEq.nan_left hb h2⟩)
  (fun x _ k hk=>by
   rw[f7A]
   haveI:=d7X
   refine a0B fun z=>f7B _ _ (hk _ ?_)
   cases hn:a1O .f64 x.1 with
   | true =>
     have key:∀b:Nat,a1O .f64 b=true->a1R (b:Int)=b:=fun b hb=>by
      unfold a1R;rw[e9V hb];rfl
     refine .inr ⟨by rw[key _ hn];exact hn,?_⟩;show a1O .f64 (a1R ((bif true then z.1 else x.1:Nat):Int))=true;rw[cond_true,key _ z.2];exact z.2
   |false=>exact .inl rfl)
abbrev d6r:Ty := .cons (.slice (.flt .f32)) (.nil)
abbrev e5k:Ty := .cons (.slice (.flt .f32)) (.nil)
noncomputable def e5l:Env:=a0m tab eqs [] 8 [.tmp 2] [] [] [] [] [.nil 2,.frz 2]
theorem e9W (h:Den e5k->Option Unit) (x:Den d6r):a6p e5l (mkN [] []) (a0b Tryz.f199) (a6q e5k h) (a0M d6r x) [] =
 a3z fun(z:Bool)=>bif List.isEmpty x.1&&z then h ([],())else bif a0D (0+length x.1)then h (x.1,())else none:=by kernel_rfl
def e1M (x:Den d6r):Bool:=a0D (0+length x.1)
def e1N (x:Den d6r):Den e5k:=x
theorem e9X:a1F Tryz.prog e5l:=a0v mixed a0x a0w .nil
theorem f7E:a6z Tryz.prog 199 e5l (a0b Tryz.f199):=a1H Tryz.func199 rfl rfl rfl (by kernel_rfl) (a0O (by kernel_rfl))
theorem e9Y:a0k Tryz.prog (199,a0a d6r e5k e1M e1N):=
 a6P (N:=mkN [] []) e9X (a2W trivial) f7E a1C (Q:=fun x y=>y=x) (fun x y hq β K v hv=>by rw[hq]at hv;exact hv)
  (fun x hx k hk=>by
   obtain⟨l,_⟩:=x;rw[e9W];refine a0B fun z=>?_
   have hk:=hk (l,()) rfl;have hx:a0D (0+length l)=true:=hx;cases l with
   |nil=>cases z<;>exact hk
   |cons a r=>dsimp only[List.isEmpty,Bool.false_and,cond_false];rw[hx];exact hk)
abbrev c7O:Ty := .cons (.slice (.int .i64)) (.nil)
abbrev d8a:Ty := .cons (.slice (.int .i64)) (.nil)
noncomputable def e5m:Env:=a0m tab eqs [] 8 [.tmp 2] [] [] [] [] [.nil 2,.frz 2]
theorem e9Z (h:Den d8a->Option Unit) (x:Den c7O):a6p e5m (mkN [] []) (a0b Tryz.f200) (a6q d8a h) (a0M c7O x) [] =
 a3z fun(z:Bool)=>bif List.isEmpty x.1&&z then h ([],())else bif a0D (0+length x.1)then h (x.1,())else none:=by kernel_rfl
def d6s (x:Den c7O):Bool:=a0D (0+length x.1)
def d6t (x:Den c7O):Den d8a:=x
theorem f0a:a1F Tryz.prog e5m:=a0v mixed a0x a0w .nil
theorem f7F:a6z Tryz.prog 200 e5m (a0b Tryz.f200):=a1H Tryz.func200 rfl rfl rfl (by kernel_rfl) (a0O (by kernel_rfl))
theorem e1O:a0k Tryz.prog (200,a0a c7O d8a d6s d6t):=
 a6P (N:=mkN [] []) f0a (a2W trivial) f7F a1C (Q:=fun x y=>y=x) (fun x y hq β K v hv=>by rw[hq]at hv;exact hv)
  (fun x hx k hk=>by
   obtain⟨l,_⟩:=x;rw[e9Z];refine a0B fun z=>?_
   have hk:=hk (l,()) rfl;have hx:a0D (0+length l)=true:=hx;cases l with
   |nil=>cases z<;>exact hk
   |cons a r=>dsimp only[List.isEmpty,Bool.false_and,cond_false];rw[hx];exact hk)
abbrev e1P:Ty := .cons (.slice (a0Y)) (.nil)
abbrev e8Q:Ty := .cons (.slice (a0Y)) (.nil)
noncomputable def e5n:Env:=a0m tab eqs [] 8 [.tmp 2] [] [] [] [] [.nil 2,.frz 2]
theorem f0b (h:Den e8Q->Option Unit) (x:Den e1P):a6p e5n (mkN [] []) (a0b Tryz.f201) (a6q e8Q h) (a0M e1P x) [] =
 a3z fun(z:Bool)=>bif List.isEmpty x.1&&z then h ([],())else bif a0D (0+length x.1)then h (x.1,())else none:=by kernel_rfl
def f4E (x:Den e1P):Bool:=a0D (0+length x.1)
def f4F (x:Den e1P):Den e8Q:=x
theorem f0c:a1F Tryz.prog e5n:=a0v mixed a0x a0w .nil
theorem f7G:a6z Tryz.prog 201 e5n (a0b Tryz.f201):=a1H Tryz.func201 rfl rfl rfl (by kernel_rfl) (a0O (by kernel_rfl))
theorem f0d:a0k Tryz.prog (201,a0a e1P e8Q f4E f4F):=
 a6P (N:=mkN [] []) f0c (a2W trivial) f7G a1C (Q:=fun x y=>y=x) (fun x y hq β K v hv=>by rw[hq]at hv;exact hv)
  (fun x hx k hk=>by
   obtain⟨l,_⟩:=x;rw[f0b];refine a0B fun z=>?_
   have hk:=hk (l,()) rfl;have hx:a0D (0+length l)=true:=hx;cases l with
   |nil=>cases z<;>exact hk
   |cons a r=>dsimp only[List.isEmpty,Bool.false_and,cond_false];rw[hx];exact hk)
abbrev e1Q:Ty := .cons (.slice (S68)) (.nil)
abbrev e8R:Ty := .cons (.slice (S68)) (.nil)
noncomputable def e5o:Env:=a0m tab eqs [] 8 [.tmp 2] [] [] [] [] [.nil 2,.frz 2]
theorem f0e (h:Den e8R->Option Unit) (x:Den e1Q):a6p e5o (mkN [] []) (a0b Tryz.f149) (a6q e8R h) (a0M e1Q x) [] =
 a3z fun(z:Bool)=>bif List.isEmpty x.1&&z then h ([],())else bif a0D (0+length x.1)then h (x.1,())else none:=by kernel_rfl
def f4G (x:Den e1Q):Bool:=a0D (0+length x.1)
def f4H (x:Den e1Q):Den e8R:=x
theorem f0f:a1F Tryz.prog e5o:=a0v mixed a0x a0w .nil
theorem f7H:a6z Tryz.prog 149 e5o (a0b Tryz.f149):=a1H Tryz.func149 rfl rfl rfl (by kernel_rfl) (a0O (by kernel_rfl))
theorem f0g:a0k Tryz.prog (149,a0a e1Q e8R f4G f4H):=
 a6P (N:=mkN [] []) f0f (a2W trivial) f7H a1C (Q:=fun x y=>y=x) (fun x y hq β K v hv=>by rw[hq]at hv;exact hv)
  (fun x hx k hk=>by
   obtain⟨l,_⟩:=x;rw[f0e];refine a0B fun z=>?_
   have hk:=hk (l,()) rfl;have hx:a0D (0+length l)=true:=hx;cases l with
   |nil=>cases z<;>exact hk
   |cons a r=>dsimp only[List.isEmpty,Bool.false_and,cond_false];rw[hx];exact hk)
abbrev e1R:Ty := .cons (.slice (a1U)) (.nil)
abbrev e8S:Ty := .cons (.slice (a1U)) (.nil)
noncomputable def e5p:Env:=a0m tab eqs [] 8 [.tmp 2] [] [] [] [] [.nil 2,.frz 2]
theorem f0h (h:Den e8S->Option Unit) (x:Den e1R):a6p e5p (mkN [] []) (a0b Tryz.f202) (a6q e8S h) (a0M e1R x) [] =
 a3z fun(z:Bool)=>bif List.isEmpty x.1&&z then h ([],())else bif a0D (0+length x.1)then h (x.1,())else none:=by kernel_rfl
def f4I (x:Den e1R):Bool:=a0D (0+length x.1)
def f4J (x:Den e1R):Den e8S:=x
theorem f0i:a1F Tryz.prog e5p:=a0v mixed a0x a0w .nil
theorem f7I:a6z Tryz.prog 202 e5p (a0b Tryz.f202):=a1H Tryz.func202 rfl rfl rfl (by kernel_rfl) (a0O (by kernel_rfl))
theorem f0j:a0k Tryz.prog (202,a0a e1R e8S f4I f4J):=
 a6P (N:=mkN [] []) f0i (a2W trivial) f7I a1C (Q:=fun x y=>y=x) (fun x y hq β K v hv=>by rw[hq]at hv;exact hv)
  (fun x hx k hk=>by
   obtain⟨l,_⟩:=x;rw[f0h];refine a0B fun z=>?_
   have hk:=hk (l,()) rfl;have hx:a0D (0+length l)=true:=hx;cases l with
   |nil=>cases z<;>exact hk
   |cons a r=>dsimp only[List.isEmpty,Bool.false_and,cond_false];rw[hx];exact hk)
abbrev I85:Sg:=⟨[.val (.slice (S97))],[]⟩
abbrev O85:Sg:=⟨[.own (S97) 0],[.arr (S97)]⟩
noncomputable def f7J:Env:=a0m tab eqs [] 8 [.tmp 2] [] [] [] [] [.nil 2]
theorem f7K (h:O85.den->Option Unit) (x:I85.den):a3A f7J (mkN [] []) (a0b Tryz.f85) I85 O85 h x =
 a3z fun(z:Bool)=>bif List.isEmpty x.1.1&&z then h (((),()),([],()))else bif a0D (0+length x.1.1)then h (((),()),(x.1.1,()))else none:=by kernel_rfl
def K85 (x:I85.den):Bool:=a0D (0+length x.1.1)
def G85 (x:I85.den):O85.den:=(((),()),(x.1.1,()))
theorem f7L:a1F Tryz.prog f7J:=a0v mixed a0x a0w .nil
theorem g5g:a6z Tryz.prog 85 f7J (a0b Tryz.f85):=a1H Tryz.func85 rfl rfl rfl (by kernel_rfl) (a0O (by kernel_rfl))
theorem f7M:a0k Tryz.prog (85,a0j false I85 O85 K85 G85):=
 d0U (N:=mkN [] []) f7L (a2W trivial) g5g a1C
  (fun x hx k hk=>by
   obtain⟨⟨l,_⟩,_⟩:=x;rw[f7K];refine a0B fun z=>?_
   have hk:k (((),()),(l,()))=some ():=hk;have hx:a0D (0+length l)=true:=hx;cases l with
   |nil=>cases z<;>exact hk
   |cons a r=>dsimp only[List.isEmpty,Bool.false_and,cond_false];rw[hx];exact hk)
abbrev I86:Sg:=⟨[.val (.slice (.str))],[]⟩
abbrev O86:Sg:=⟨[.own (.str) 0],[.arr (.str)]⟩
noncomputable def f7N:Env:=a0m tab eqs [] 8 [.tmp 2] [] [] [] [] [.nil 2]
theorem f7O (h:O86.den->Option Unit) (x:I86.den):a3A f7N (mkN [] []) (a0b Tryz.f86) I86 O86 h x =
 a3z fun(z:Bool)=>bif List.isEmpty x.1.1&&z then h (((),()),([],()))else bif a0D (0+length x.1.1)then h (((),()),(x.1.1,()))else none:=by kernel_rfl
def K86 (x:I86.den):Bool:=a0D (0+length x.1.1)
def G86 (x:I86.den):O86.den:=(((),()),(x.1.1,()))
theorem f7P:a1F Tryz.prog f7N:=a0v mixed a0x a0w .nil
theorem g5h:a6z Tryz.prog 86 f7N (a0b Tryz.f86):=a1H Tryz.func86 rfl rfl rfl (by kernel_rfl) (a0O (by kernel_rfl))
theorem f7Q:a0k Tryz.prog (86,a0j false I86 O86 K86 G86):=
 d0U (N:=mkN [] []) f7P (a2W trivial) g5h a1C
  (fun x hx k hk=>by
   obtain⟨⟨l,_⟩,_⟩:=x;rw[f7O];refine a0B fun z=>?_
   have hk:k (((),()),(l,()))=some ():=hk;have hx:a0D (0+length l)=true:=hx;cases l with
   |nil=>cases z<;>exact hk
   |cons a r=>dsimp only[List.isEmpty,Bool.false_and,cond_false];rw[hx];exact hk)
abbrev d8b:Ty:=.cons (.flt .f64) (.nil)
abbrev e1S:Ty:=.cons (.flt .f64) (.nil)
noncomputable def f7R:Env:=a0m tab eqs [] 8 [.tmp 2] [] [] [] [] []
def f7S (x:Den d8b):OD e1S:=bif flt .f64 x.1 0 then some (a3G .f64 x.1,())else some (x)
theorem f7T (x) :a0t (f7R) (a0b Tryz.f165) (a1a e1S) (a0M d8b x) []=f7S x:=by kernel_rfl
def e8T (x:Den d8b):OD e1S:=f7S x
def f4K (x:Den d8b):Bool:=(e8T x).isSome
def f4L (x:Den d8b):Den e1S:=(e8T x).getD (zero e1S)
theorem f0k:a0k Tryz.prog (165,a0a d8b e1S f4K f4L):=fnO .nil Tryz.func165 f7T
abbrev A96:Ty:=.cons (.cpx .f64) (.nil)
abbrev R96:Ty:=.cons (.bool) (.nil)
noncomputable def g5i (a b) :=a0m tab eqs [(165,a0a d8b e1S a b)] 13 [.tmp 2] [] [] [] [] []
def r96 (a:KA d8b) (b:GA d8b e1S) (x:Den A96):OD R96:=bif a (x.1.1,()) then let c:=b (x.1.1,());bif flt .f64 c.1 4726483295884279808||feq .f64 c.1 4726483295884279808 then bif a (x.1.2,()) then let d:=b (x.1.2,());some (flt .f64 d.1 4726483295884279808||feq .f64 d.1 4726483295884279808,())else none else some (false,())else none
theorem g5j (a b x) :a0t (g5i a b) (a0b Tryz.f96) (a1a R96) (a0M A96 x) []=r96 a b x:=by kernel_rfl
def F96 (x:Den A96):OD R96:=r96 f4K f4L x
def K96 (x:Den A96):Bool:=(F96 x).isSome
def G96 (x:Den A96):Den R96:=(F96 x).getD (zero R96)
theorem d8c:a0k Tryz.prog (96,a0a A96 R96 K96 G96):=fnO (.cons f0k .nil) Tryz.func96 (g5j f4K f4L)
abbrev A97:Ty:=.cons (.flt .f64) (.nil)
abbrev R97:Ty:=.cons (.int .i64) (.nil)
noncomputable def g5k:Env:=a0m tab eqs [] 20 [.tmp 2] [] [] [] [] []
def r97 (x:Den A97):OD R97:=bif a7f .f64 x.1 IntKind.i64 then let b:=f2i .f64 x.1;let a:=a0g .sub .f64 x.1 (nearest .f64 b);bif fgt .f64 a 4602678819172646912||feq .f64 a 4602678819172646912 then bif flt .f64 a 13826050856027422720||feq .f64 a 13826050856027422720 then some (wrap .i64 ((wrap .i64 (b+1))-1),())else some (wrap .i64 (b+1),())else bif flt .f64 a 13826050856027422720||feq .f64 a 13826050856027422720 then some (wrap .i64 (b-1),())else some (b,())else none
theorem g5l (x) :a0t (g5k) (a0b Tryz.f97) (a1a R97) (a0M A97 x) []=r97 x:=by kernel_rfl
def F97 (x:Den A97):OD R97:=r97 x
def K97 (x:Den A97):Bool:=(F97 x).isSome
def G97 (x:Den A97):Den R97:=(F97 x).getD (zero R97)
theorem f7U:a0k Tryz.prog (97,a0a A97 R97 K97 G97):=fnO .nil Tryz.func97 g5l
abbrev A51:Ty:=.cons (.int .i64) (.cons (.int .i64) (.cons (.int .i64) (.nil)))
abbrev R51:Ty:=.cons (.bool) (.nil)
noncomputable def g5m:Env:=a0m tab eqs [] 15 [.tmp 6] [] [] [] [] []
def r51 (x:Den A51):OD R51:=bif decide (x.1 ≥ x.2.1) then some (decide (x.1<=x.2.2.1),())else some (false,())
theorem g5n (x) :a0t (g5m) (a0b Tryz.f51) (a1a R51) (a0M A51 x) []=r51 x:=by kernel_rfl
def F51 (x:Den A51):OD R51:=r51 x
def K51 (x:Den A51):Bool:=(F51 x).isSome
def G51 (x:Den A51):Den R51:=(F51 x).getD (zero R51)
theorem a9G:a0k Tryz.prog (51,a0a A51 R51 K51 G51):=fnO .nil Tryz.func51 g5n
abbrev A98:Ty:=.cons (S33) (.nil)
abbrev R98:Ty:=.cons (.bool) (.nil)
noncomputable def g5o (a b) :=a0m tab eqs [(51,a0a A51 R51 a b)] 11 [.tmp 2] [] [] [] [] []
def r98 (a:KA A51) (b:GA A51 R51) (x:Den A98):OD R98:=bif a (x.1.1,-10000,10000,()) then bif (b (x.1.1,-10000,10000,())).1 then bif a (x.1.2.1,-10000,10000,()) then some (b (x.1.2.1,-10000,10000,()))else none else some (false,())else none
theorem g5p (a b x) :a0t (g5o a b) (a0b Tryz.f98) (a1a R98) (a0M A98 x) []=r98 a b x:=by kernel_rfl
def F98 (x:Den A98):OD R98:=r98 K51 G51 x
def K98 (x:Den A98):Bool:=(F98 x).isSome
def G98 (x:Den A98):Den R98:=(F98 x).getD (zero R98)
theorem d8d:a0k Tryz.prog (98,a0a A98 R98 K98 G98):=fnO (.cons a9G .nil) Tryz.func98 (g5p K51 G51)
abbrev A49:Ty:=.cons (.cpx .f64) (.nil)
abbrev R49:Ty:=.cons (S33) (.cons (.bool) (.nil))
noncomputable def g5q (a b c d e g) :=a0m tab eqs [(96,a0a A96 R96 a b),(97,a0a A97 R97 c d),(98,a0a A98 R98 e g)] 21 [.cell 2 34,.tmp 3] [] [] [] [] []
def r49 (c:KA A96) (d:GA A96 R96) (a:KA A97) (b:GA A97 R97) (e:KA A98) (g:GA A98 R98) (x:Den A49):OD R49:=bif c x then bif !(d x).1 then some ((0,0,()),false,())else bif a (x.1.1,()) then bif a (x.1.2,()) then let h:=b (x.1.1,());let i:=b (x.1.2,());bif e ((h.1,i),()) then bif !(g ((h.1,i),())).1 then some ((0,0,()),false,())else some ((h.1,i),true,())else none else none else none else none
theorem g5r (a b c d e g x) :a0t (g5q a b c d e g) (a0b Tryz.f49) (a1a R49) (a0M A49 x) []=r49 a b c d e g x:=by kernel_rfl
def F49 (x:Den A49):OD R49:=r49 K96 G96 K97 G97 K98 G98 x
def K49 (x:Den A49):Bool:=(F49 x).isSome
def G49 (x:Den A49):Den R49:=(F49 x).getD (zero R49)
theorem f0l:a0k Tryz.prog (49,a0a A49 R49 K49 G49):=fnO (.cons d8c (.cons f7U (.cons d8d .nil))) Tryz.func49 (g5r K96 G96 K97 G97 K98 G98)
abbrev A99:Ty:=.cons (S27) (.nil)
abbrev R99:Ty:=.cons (.bool) (.nil)
abbrev a9H:Type:=((Unit×(Int×Unit))×(((List (Den (.flt .f32)))×((List (Den (.int .i64)))×((List (Den (.slice (.flt .f32))))×Unit)))×Unit))
def c4J:ShS:=⟨[(1,.one (.ptr 0 0)),(3,.one (.int .i64))],[(0,.box [.sl (.flt .f32),.sl (.int .i64),.sl (.slice (.flt .f32))])],1,0⟩
abbrev c7P:Type:=((Unit×Unit)×(((List (Den (.flt .f32)))×((List (Den (.int .i64)))×((List (Den (.slice (.flt .f32))))×Unit)))×Unit))
def c2H:ShS:=⟨[(1,.one (.ptr 0 0))],[(0,.box [.sl (.flt .f32),.sl (.int .i64),.sl (.slice (.flt .f32))])],1,0⟩
abbrev c7Q:Type:=((Bool×Unit)×Unit)
def c2I:ShS:=⟨[(2,.one (.bool))],[],0,0⟩
abbrev a6r:Type:=((Unit×(Int×(Int×Unit)))×(((List (Den (.flt .f32)))×((List (Den (.int .i64)))×((List (Den (.slice (.flt .f32))))×Unit)))×Unit))
def c4K:ShS:=⟨[(1,.one (.ptr 0 0)),(3,.one (.int .i64)),(4,.one (.int .i64))],[(0,.box [.sl (.flt .f32),.sl (.int .i64),.sl (.slice (.flt .f32))])],1,0⟩
abbrev c7R:Type:=((Unit×(Int×Unit))×(((List (Den (.flt .f32)))×((List (Den (.int .i64)))×((List (Den (.slice (.flt .f32))))×Unit)))×Unit))
def c2J:ShS:=⟨[(1,.one (.ptr 0 0)),(3,.one (.int .i64))],[(0,.box [.sl (.flt .f32),.sl (.int .i64),.sl (.slice (.flt .f32))])],1,0⟩
abbrev c7S:Type:=((Bool×Unit)×Unit)
def c2K:ShS:=⟨[(2,.one (.bool))],[],0,0⟩
abbrev a4Y:Type:=((Unit×(Int×Unit))×(((List (Den (.flt .f32)))×((List (Den (.int .i64)))×((List (Den (.slice (.flt .f32))))×Unit)))×Unit))
def b4s:ShS:=⟨[(1,.one (.ptr 0 0)),(5,.one (.int .i64))],[(0,.box [.sl (.flt .f32),.sl (.int .i64),.sl (.slice (.flt .f32))])],1,0⟩
abbrev b9h:Type:=((Unit×Unit)×(((List (Den (.flt .f32)))×((List (Den (.int .i64)))×((List (Den (.slice (.flt .f32))))×Unit)))×Unit))
def b4t:ShS:=⟨[(1,.one (.ptr 0 0))],[(0,.box [.sl (.flt .f32),.sl (.int .i64),.sl (.slice (.flt .f32))])],1,0⟩
abbrev b9i:Type:=((Bool×Unit)×Unit)
def b4u:ShS:=⟨[(2,.one (.bool))],[],0,0⟩
noncomputable def f4M (e g h i j k l m n o a b c d) :=a0m tab eqs [(51,a0a A51 R51 e g)] 145 [.tmp 2] [] [] [(4,a2d [1,3] [] 0 [1] [] c4J c2H c2I h j i k),(9,a2d [1,3,4] [] 2 [1,3] [] c4K c2J c2K l n m o),(14,a2d [1,5] [] 4 [1] [] b4s b4t b4u a c b d)] [] []
noncomputable def e1T:Code:=(a0p (a0b Tryz.f99)).getD 0 .skip
noncomputable def e1U:Code:=(a0p (a0b Tryz.f99)).getD 1 .skip
noncomputable def d1a:Code:=(a0p (a0b Tryz.f99)).getD 2 .skip
def b9j (b:KA A51) (c:GA A51 R51) (f:a4Y->Option (b9h⊕b9i)) (v:a4Y):Option (b9h⊕b9i):=bif decide (v.1.2.1<(length v.2.1.2.1:Int)) then bif decide (0<=v.1.2.1)&&decide (v.1.2.1<(length v.2.1.2.1:Int)) then let a:=wrap .i64 (v.1.2.1-1);bif decide (0<=a)&&decide (a<(length v.2.1.2.1:Int)) then bif decide ((getD v.2.1.2.1 (toNat v.1.2.1) (zero (Ty.int IntKind.i64)))<=(getD v.2.1.2.1 (toNat a) (zero (Ty.int IntKind.i64)))) then some (Sum.inr ((false,()),()))else f ((((),wrap .i64 (v.1.2.1+1),()),v.2))else none else none else some (Sum.inl (((),()),v.2))
theorem d8e (a b h i j k l m n o c d e g f v) :EBk (f4M a b h i j k l m n o c d e g) d1a (a0z [1,5] [] 4 [1] [] (atS b4s f) (a6c b4t b4u)) (mkS b4s v)=b9j a b f v:=by kernel_rfl
def d1b (v:a4Y):Nat:=v.1.2.1.natAbs+v.2.1.1.length+v.2.1.2.1.length+v.2.1.2.2.1.length+1000
def b9k (v:a4Y):Option (b9h⊕b9i):=a1t (b9j K51 G51) (d1b v) v
def a8u (v:a4Y):Bool:=(b9k v).isSome
def a8v (v:a4Y):Bool:=isR (b9k v)
def a8w (v:a4Y):b9h:=xOf (((),()),(([],([],([],()))),())) (b9k v)
def a8x (v:a4Y):b9i:=yOf ((false,()),()) (b9k v)
def d1c (c:KA A51) (d:GA A51 R51) (f:a6r->Option (c7R⊕c7S)) (v:a6r):Option (c7R⊕c7S):=bif decide (0<=v.1.2.1)&&decide (v.1.2.1<(length v.2.1.2.2.1:Int)) then let a:=getD v.2.1.2.2.1 (toNat v.1.2.1) (zero (Ty.slice (Ty.flt .f32)));bif decide (v.1.2.2.1<(length a:Int)) then bif decide (0<=v.1.2.1)&&decide (v.1.2.1<(length v.2.1.2.2.1:Int)) then bif decide (0<=v.1.2.2.1)&&decide (v.1.2.2.1<(length a:Int)) then let b:=getD a (toNat v.1.2.2.1) (zero (Ty.flt .f32));bif fgt .f32 b 0||feq .f32 b 0 then bif decide (0<=v.1.2.1)&&decide (v.1.2.1<(length v.2.1.2.2.1:Int)) then bif decide (0<=v.1.2.2.1)&&decide (v.1.2.2.1<(length a:Int)) then bif !(flt .f32 b 1112014848||feq .f32 b 1112014848) then some (Sum.inr ((false,()),()))else f ((((),v.1.2.1,wrap .i64 (v.1.2.2.1+1),()),v.2))else none else none else some (Sum.inr ((false,()),()))else none else none else some (Sum.inl (((),v.1.2.1,()),v.2))else none
theorem e5q (a b h i j k l m n o c d e g f v) :EBk (f4M a b h i j k l m n o c d e g) e1U (a0z [1,3,4] [] 2 [1,3] [] (atS c4K f) (a6c c2J c2K)) (mkS c4K v)=d1c a b f v:=by kernel_rfl
def e5r (v:a6r):Nat:=v.1.2.1.natAbs+v.1.2.2.1.natAbs+v.2.1.1.length+v.2.1.2.1.length+v.2.1.2.2.1.length+1000
def d1d (v:a6r):Option (c7R⊕c7S):=a1t (d1c K51 G51) (e5r v) v
def a4n (v:a6r):Bool:=(d1d v).isSome
def a4o (v:a6r):Bool:=isR (d1d v)
def a3P (v:a6r):c7R:=xOf (((),(0,())),(([],([],([],()))),())) (d1d v)
def a4p (v:a6r):c7S:=yOf ((false,()),()) (d1d v)
def b4v (p:KA A51) (q:GA A51 R51) (a:a6r->Bool) (b:a6r->c7R) (c:a6r->Bool) (d:a6r->c7S) (f:a9H->Option (c7P⊕c7Q)) (v:a9H):Option (c7P⊕c7Q):=let i:=(length v.2.1.1:Int);bif decide (v.1.2.1<i) then let j:=decide (0<=v.1.2.1)&&decide (v.1.2.1<i);bif j then let l:=zero (Ty.flt .f32);let e:=getD v.2.1.1 (toNat v.1.2.1) l;bif fgt .f32 e 0 then bif j then bif !(flt .f32 e 1120403456||feq .f32 e 1120403456) then some (Sum.inr ((false,()),()))else bif decide (v.1.2.1>0) then bif j then let k:=wrap .i64 (v.1.2.1-1);bif decide (0<=k)&&decide (k<i) then let m:=getD v.2.1.1 (toNat k) l;bif flt .f32 e m||feq .f32 e m then some (Sum.inr ((false,()),()))else bif decide (0<=v.1.2.1)&&decide (v.1.2.1<(length v.2.1.2.2.1:Int)) then bif (↑(length (getD v.2.1.2.2.1 (toNat v.1.2.1) (zero (Ty.slice (Ty.flt .f32))))):Int) != (length v.2.1.2.1:Int) then some (Sum.inr ((false,()),()))else let g:=(((),v.1.2.1,0,()),v.2);bif a g then bif c g then some (Sum.inr (d g))else let n:=b g;f ((((),wrap .i64 (n.1.2.1+1),()),n.2))else none else none else none else none else bif decide (0<=v.1.2.1)&&decide (v.1.2.1<(length v.2.1.2.2.1:Int)) then bif (↑(length (getD v.2.1.2.2.1 (toNat v.1.2.1) (zero (Ty.slice (Ty.flt .f32))))):Int) != (length v.2.1.2.1:Int) then some (Sum.inr ((false,()),()))else let h:=(((),v.1.2.1,0,()),v.2);bif a h then bif c h then some (Sum.inr (d h))else let o:=b h;f ((((),wrap .i64 (o.1.2.1+1),()),o.2))else none else none else none else some (Sum.inr ((false,()),()))else none else some (Sum.inl (((),()),v.2))
theorem e5s (a b l m n o c d e g h i j k f v) :EBk (f4M a b l m n o c d e g h i j k) e1T (a0z [1,3] [] 0 [1] [] (atS c4J f) (a6c c2H c2I)) (mkS c4J v)=b4v a b c d e g f v:=by kernel_rfl
def e5t (v:a9H):Nat:=v.1.2.1.natAbs+v.2.1.1.length+v.2.1.2.1.length+v.2.1.2.2.1.length+1000
def d1e (v:a9H):Option (c7P⊕c7Q):=a1t (b4v K51 G51 a4n a3P a4o a4p) (e5t v) v
def b2P (v:a9H):Bool:=(d1e v).isSome
def b2Q (v:a9H):Bool:=isR (d1e v)
def b2R (v:a9H):c7P:=xOf (((),()),(([],([],([],()))),())) (d1e v)
def b2S (v:a9H):c7Q:=yOf ((false,()),()) (d1e v)
def r99 (b:KA A51) (c:GA A51 R51) (k:a9H->Bool) (l:a9H->c7P) (m:a9H->Bool) (n:a9H->c7Q) (o:a6r->Bool) (p:a6r->c7R) (q:a6r->Bool) (r:a6r->c7S) (d:a4Y->Bool) (e:a4Y->b9h) (g:a4Y->Bool) (h:a4Y->b9i) (x:Den A99):OD R99:=bif b ((length x.1.1:Int),1,12,()) then bif !(c ((length x.1.1:Int),1,12,())).1 then some (false,())else bif b ((length x.1.2.1:Int),2,24,()) then bif !(c ((length x.1.2.1:Int),2,24,())).1 then some (false,())else bif (length x.1.2.2.1:Int) != (length x.1.1:Int) then some (false,())else bif k (((),0,()),x) then bif m (((),0,()),x) then some (n (((),0,()),x)).1 else let j:=l (((),0,()),x);bif d (((),1,()),j.2) then bif g (((),1,()),j.2) then some (h (((),1,()),j.2)).1 else let i:=e (((),1,()),j.2);bif decide (0<=0)&&decide (0<(length i.2.1.2.1:Int)) then bif (getD i.2.1.2.1 (toNat 0) (zero (Ty.int IntKind.i64)))==0 then let a:=wrap .i64 ((length i.2.1.2.1:Int)-1);bif decide (0<=a)&&decide (a<(length i.2.1.2.1:Int)) then some ((getD i.2.1.2.1 (toNat a) (zero (Ty.int IntKind.i64)))==180,())else none else some (false,())else none else none else none else none else none
theorem g5s (e g h i j k l m n o a b c d x) :a0t (f4M e g h i j k l m n o a b c d) (a0b Tryz.f99) (a1a R99) (a0M A99 x) []=r99 e g h i j k l m n o a b c d x:=by kernel_rfl
def F99 (x:Den A99):OD R99:=r99 K51 G51 b2P b2R b2Q b2S a4n a3P a4o a4p a8u a8w a8v a8x x
def K99 (x:Den A99):Bool:=(F99 x).isSome
def G99 (x:Den A99):Den R99:=(F99 x).getD (zero R99)
theorem f0m:a0k Tryz.prog (99,a0a A99 R99 K99 G99):=a1d (a0v mixed a0x a0w (.cons a9G .nil)) (a1H Tryz.func99 rfl rfl rfl (by kernel_rfl) (a0y (l:=[e1T,e1U,d1a]) (by kernel_rfl) (.cons (a0o rfl (a0u (sh:=c4J) (shX:=c2H) (shR:=c2I) (fun f v=>e5s K51 G51 b2P b2R b2Q b2S a4n a3P a4o a4p a8u a8w a8v a8x f v) e5t (((),()),(([],([],([],()))),())) ((false,()),()))) (.cons (a0o rfl (a0u (sh:=c4K) (shX:=c2J) (shR:=c2K) (fun f v=>e5q K51 G51 b2P b2R b2Q b2S a4n a3P a4o a4p a8u a8w a8v a8x f v) e5r (((),(0,())),(([],([],([],()))),())) ((false,()),()))) (.cons (a0o rfl (a0u (sh:=b4s) (shX:=b4t) (shR:=b4u) (fun f v=>d8e K51 G51 b2P b2R b2Q b2S a4n a3P a4o a4p a8u a8w a8v a8x f v) d1b (((),()),(([],([],([],()))),())) ((false,()),()))) (.nil)))))) fun x=>g5s K51 G51 b2P b2R b2Q b2S a4n a3P a4o a4p a8u a8w a8v a8x x
abbrev d8f:Ty:=.cons (.flt .f32) (.nil)
abbrev e1V:Ty:=.cons (.flt .f32) (.nil)
noncomputable def f7V:Env:=a0m tab eqs [] 8 [.tmp 2] [] [] [] [] []
def f7W (x:Den d8f):OD e1V:=bif flt .f32 x.1 0 then some (a3G .f32 x.1,())else some (x)
theorem f7X (x) :a0t (f7V) (a0b Tryz.f103) (a1a e1V) (a0M d8f x) []=f7W x:=by kernel_rfl
def e8U (x:Den d8f):OD e1V:=f7W x
def f4N (x:Den d8f):Bool:=(e8U x).isSome
def f4O (x:Den d8f):Den e1V:=(e8U x).getD (zero e1V)
theorem f0n:a0k Tryz.prog (103,a0a d8f e1V f4N f4O):=fnO .nil Tryz.func103 f7X
abbrev A52:Ty:=.cons (.cpx .f32) (.nil)
abbrev R52:Ty:=.cons (.bool) (.nil)
noncomputable def g5t (a b) :=a0m tab eqs [(103,a0a d8f e1V a b)] 13 [.tmp 2] [] [] [] [] []
def r52 (a:KA d8f) (b:GA d8f e1V) (x:Den A52):OD R52:=bif a (x.1.1,()) then let c:=b (x.1.1,());bif flt .f32 c.1 1120403456||feq .f32 c.1 1120403456 then bif a (x.1.2,()) then let d:=b (x.1.2,());some (flt .f32 d.1 1120403456||feq .f32 d.1 1120403456,())else none else some (false,())else none
theorem g5u (a b x) :a0t (g5t a b) (a0b Tryz.f52) (a1a R52) (a0M A52 x) []=r52 a b x:=by kernel_rfl
def F52 (x:Den A52):OD R52:=r52 f4N f4O x
def K52 (x:Den A52):Bool:=(F52 x).isSome
def G52 (x:Den A52):Den R52:=(F52 x).getD (zero R52)
theorem d1f:a0k Tryz.prog (52,a0a A52 R52 K52 G52):=fnO (.cons f0n .nil) Tryz.func52 (g5u f4N f4O)
abbrev c7T:Ty:=.cons (a0Y) (.nil)
abbrev d6u:Ty:=.cons (.bool) (.nil)
abbrev a4Z:Type:=((Unit×(Int×Unit))×(((Nat×Nat)×((Nat×Nat)×((Nat×Nat)×((Nat×Nat)×((Nat×Nat)×((Nat×Nat)×((Nat×Nat)×((Nat×Nat)×((Nat×Nat)×((Nat×Nat)×((Nat×Nat)×((Nat×Nat)×((Nat×Nat)×((Nat×Nat)×Unit))))))))))))))×Unit))
def b4w:ShS:=⟨[(1,.one (.ptr 0 0)),(3,.one (.int .i64))],[(0,.box [.cpx .f64,.cpx .f32,.cpx .f32,.cpx .f32,.cpx .f32,.cpx .f32,.cpx .f32,.cpx .f32,.cpx .f32,.cpx .f32,.cpx .f32,.cpx .f32,.cpx .f32,.cpx .f32])],1,0⟩
abbrev b9l:Type:=(Unit×Unit)
def b4x:ShS:=⟨[],[],0,0⟩
abbrev b9m:Type:=((Bool×Unit)×Unit)
def b4y:ShS:=⟨[(2,.one (.bool))],[],0,0⟩
noncomputable def f0o (a b c d e g) :=a0m tab eqs [(52,a0a A52 R52 a b)] 14 [.tmp 2] [] [] [(2,a2d [1,3] [] 0 [] [] b4w b4x b4y c e d g)] [] []
noncomputable def d1g:Code:=(a0p (a0b Tryz.f166)).getD 0 .skip
def c4L (a:KA A52) (b:GA A52 R52) (f:a4Z->Option (b9l⊕b9m)) (v:a4Z):Option (b9l⊕b9m):=bif decide (v.1.2.1<13) then bif decide (0<=v.1.2.1)&&decide (v.1.2.1<(↑13:Int)) then let c:=getD [v.2.1.2.1,v.2.1.2.2.1,v.2.1.2.2.2.1,v.2.1.2.2.2.2.1,v.2.1.2.2.2.2.2.1,v.2.1.2.2.2.2.2.2.1,v.2.1.2.2.2.2.2.2.2.1,v.2.1.2.2.2.2.2.2.2.2.1,v.2.1.2.2.2.2.2.2.2.2.2.1,v.2.1.2.2.2.2.2.2.2.2.2.2.1,v.2.1.2.2.2.2.2.2.2.2.2.2.2.1,v.2.1.2.2.2.2.2.2.2.2.2.2.2.2.1,v.2.1.2.2.2.2.2.2.2.2.2.2.2.2.2.1] (toNat v.1.2.1) (0,0);bif a (c,()) then bif !(b (c,())).1 then some (Sum.inr ((false,()),()))else f ((((),wrap .i64 (v.1.2.1+1),()),v.2))else none else none else some (Sum.inl ((),()))
theorem d8g (a b c d e g f v) :EBk (f0o a b c d e g) d1g (a0z [1,3] [] 0 [] [] (atS b4w f) (a6c b4x b4y)) (mkS b4w v)=c4L a b f v:=by kernel_rfl
def d1h (v:a4Z):Nat:=v.1.2.1.natAbs+1000
def b9n (v:a4Z):Option (b9l⊕b9m):=a1t (c4L K52 G52) (d1h v) v
def b4z (v:a4Z):Bool:=(b9n v).isSome
def b4A (v:a4Z):Bool:=isR (b9n v)
def c2L (v:a4Z):b9l:=xOf ((),()) (b9n v)
def b4B (v:a4Z):b9m:=yOf ((false,()),()) (b9n v)
def f7Y (e:KA A52) (g:GA A52 R52) (a:a4Z->Bool) (h:a4Z->b9l) (b:a4Z->Bool) (c:a4Z->b9m) (x:Den c7T):OD d6u:=let d:=(((),0,()),(x.1.1,x.1.2.1),());bif a d then bif b d then some (c d).1 else some (true,())else none
theorem f7Z (a b c d e g x) :a0t (f0o a b c d e g) (a0b Tryz.f166) (a1a d6u) (a0M c7T x) []=f7Y a b c d e g x:=by kernel_rfl
def f0p (x:Den c7T):OD d6u:=f7Y K52 G52 b4z c2L b4A b4B x
def d6v (x:Den c7T):Bool:=(f0p x).isSome
def d6w (x:Den c7T):Den d6u:=(f0p x).getD (zero d6u)
theorem f0q:a0k Tryz.prog (166,a0a c7T d6u d6v d6w):=a1d (a0v mixed a0x a0w (.cons d1f .nil)) (a1H Tryz.func166 rfl rfl rfl (by kernel_rfl) (a0y (l:=[d1g]) (by kernel_rfl) (.cons (a0o rfl (a0u (sh:=b4w) (shX:=b4x) (shR:=b4y) (fun f v=>d8g K52 G52 b4z c2L b4A b4B f v) d1h ((),()) ((false,()),()))) (.nil)))) fun x=>f7Z K52 G52 b4z c2L b4A b4B x
abbrev d8h:Ty:=.cons (S30) (.nil)
abbrev e1W:Ty:=.cons (.bool) (.nil)
abbrev a5a:Type:=((Unit×(Int×Unit))×(((List (Den (a0Y)))×((List (Den (.int .i64)))×Unit))×Unit))
def b4C:ShS:=⟨[(1,.one (.ptr 0 0)),(3,.one (.int .i64))],[(0,.box [.sl (a0Y),.sl (.int .i64)])],1,0⟩
abbrev b9o:Type:=((Unit×Unit)×(((List (Den (a0Y)))×((List (Den (.int .i64)))×Unit))×Unit))
def b4D:ShS:=⟨[(1,.one (.ptr 0 0))],[(0,.box [.sl (a0Y),.sl (.int .i64)])],1,0⟩
abbrev b9p:Type:=((Bool×Unit)×Unit)
def b4E:ShS:=⟨[(2,.one (.bool))],[],0,0⟩
abbrev a5b:Type:=((Unit×(Int×Unit))×(((List (Den (a0Y)))×((List (Den (.int .i64)))×Unit))×Unit))
def b4F:ShS:=⟨[(1,.one (.ptr 0 0)),(4,.one (.int .i64))],[(0,.box [.sl (a0Y),.sl (.int .i64)])],1,0⟩
abbrev b9q:Type:=(Unit×Unit)
def b4G:ShS:=⟨[],[],0,0⟩
abbrev b9r:Type:=((Bool×Unit)×Unit)
def b4H:ShS:=⟨[(2,.one (.bool))],[],0,0⟩
noncomputable def e5u (c d e g a b h i j k l m n o) :=a0m tab eqs [(51,a0a A51 R51 c d),(96,a0a A96 R96 e g),(166,a0a c7T d6u a b)] 74 [.tmp 2] [] [] [(4,a2d [1,3] [] 0 [1] [] b4C b4D b4E h j i k),(9,a2d [1,4] [] 2 [] [] b4F b4G b4H l n m o)] [] []
noncomputable def d1i:Code:=(a0p (a0b Tryz.f100)).getD 0 .skip
noncomputable def d1j:Code:=(a0p (a0b Tryz.f100)).getD 1 .skip
def b9s (a:KA A51) (b:GA A51 R51) (h:KA A96) (i:GA A96 R96) (e:KA c7T) (g:GA c7T d6u) (f:a5b->Option (b9q⊕b9r)) (v:a5b):Option (b9q⊕b9r):=bif decide (v.1.2.1<(length v.2.1.2.1:Int)) then bif decide (0<=v.1.2.1)&&decide (v.1.2.1<(length v.2.1.2.1:Int)) then let c:=getD v.2.1.2.1 (toNat v.1.2.1) (zero (Ty.int IntKind.i64));bif a (c,0,10000000,()) then bif !(b (c,0,10000000,())).1 then some (Sum.inr ((false,()),()))else bif decide (v.1.2.1>0) then bif decide (0<=v.1.2.1)&&decide (v.1.2.1<(length v.2.1.2.1:Int)) then let d:=wrap .i64 (v.1.2.1-1);bif decide (0<=d)&&decide (d<(length v.2.1.2.1:Int)) then bif decide (c<(wrap .i64 ((getD v.2.1.2.1 (toNat d) (zero (Ty.int IntKind.i64)))+21600))) then some (Sum.inr ((false,()),()))else f ((((),wrap .i64 (v.1.2.1+1),()),v.2))else none else none else f ((((),wrap .i64 (v.1.2.1+1),()),v.2))else none else none else some (Sum.inl ((),()))
theorem d8i (c d e g a b h i j k l m n o f v) :EBk (e5u c d e g a b h i j k l m n o) d1j (a0z [1,4] [] 2 [] [] (atS b4F f) (a6c b4G b4H)) (mkS b4F v)=b9s c d e g a b f v:=by kernel_rfl
def d1k (v:a5b):Nat:=v.1.2.1.natAbs+v.2.1.1.length+v.2.1.2.1.length+1000
def b9t (v:a5b):Option (b9q⊕b9r):=a1t (b9s K51 G51 K96 G96 d6v d6w) (d1k v) v
def b1a (v:a5b):Bool:=(b9t v).isSome
def b1b (v:a5b):Bool:=isR (b9t v)
def b4I (v:a5b):b9q:=xOf ((),()) (b9t v)
def b1c (v:a5b):b9r:=yOf ((false,()),()) (b9t v)
def b9u (g:KA A51) (h:GA A51 R51) (d:KA A96) (e:GA A96 R96) (a:KA c7T) (b:GA c7T d6u) (f:a5a->Option (b9o⊕b9p)) (v:a5a):Option (b9o⊕b9p):=bif decide (v.1.2.1<(length v.2.1.1:Int)) then bif decide (0<=v.1.2.1)&&decide (v.1.2.1<(length v.2.1.1:Int)) then let c:=getD v.2.1.1 (toNat v.1.2.1) (zero a0Y);bif d (c.1,()) then bif !(e (c.1,())).1 then some (Sum.inr ((false,()),()))else bif decide (0<=v.1.2.1)&&decide (v.1.2.1<(length v.2.1.1:Int)) then bif a (c,()) then bif !(b (c,())).1 then some (Sum.inr ((false,()),()))else f ((((),wrap .i64 (v.1.2.1+1),()),v.2))else none else none else none else none else some (Sum.inl (((),()),v.2))
theorem d8j (c d e g a b h i j k l m n o f v) :EBk (e5u c d e g a b h i j k l m n o) d1i (a0z [1,3] [] 0 [1] [] (atS b4C f) (a6c b4D b4E)) (mkS b4C v)=b9u c d e g a b f v:=by kernel_rfl
def d1l (v:a5a):Nat:=v.1.2.1.natAbs+v.2.1.1.length+v.2.1.2.1.length+1000
def b9v (v:a5a):Option (b9o⊕b9p):=a1t (b9u K51 G51 K96 G96 d6v d6w) (d1l v) v
def b1d (v:a5a):Bool:=(b9v v).isSome
def b1e (v:a5a):Bool:=isR (b9v v)
def b1f (v:a5a):b9o:=xOf (((),()),(([],([],())),())) (b9v v)
def b1g (v:a5a):b9p:=yOf ((false,()),()) (b9v v)
def f8a (a:KA A51) (b:GA A51 R51) (p:KA A96) (q:GA A96 R96) (l:KA c7T) (m:GA c7T d6u) (c:a5a->Bool) (d:a5a->b9o) (e:a5a->Bool) (g:a5a->b9p) (h:a5b->Bool) (r:a5b->b9q) (i:a5b->Bool) (j:a5b->b9r) (x:Den d8h):OD e1W:=let n:=((length x.1.1:Int),1,20,());bif a n then bif !(b n).1 then some (false,())else let o:=((length x.1.2.1:Int),1,60,());bif a o then bif !(b o).1 then some (false,())else bif c (((),0,()),x) then bif e (((),0,()),x) then some (g (((),0,()),x)).1 else let k:=d (((),0,()),x);bif h (((),0,()),k.2) then bif i (((),0,()),k.2) then some (j (((),0,()),k.2)).1 else some (true,())else none else none else none else none
theorem f8b (c d e g a b h i j k l m n o x) :a0t (e5u c d e g a b h i j k l m n o) (a0b Tryz.f100) (a1a e1W) (a0M d8h x) []=f8a c d e g a b h i j k l m n o x:=by kernel_rfl
def f4P (x:Den d8h):OD e1W:=f8a K51 G51 K96 G96 d6v d6w b1d b1f b1e b1g b1a b4I b1b b1c x
def f4Q (x:Den d8h):Bool:=(f4P x).isSome
def f4R (x:Den d8h):Den e1W:=(f4P x).getD (zero e1W)
theorem f0r:a0k Tryz.prog (100,a0a d8h e1W f4Q f4R):=a1d (a0v mixed a0x a0w (.cons a9G (.cons d8c (.cons f0q .nil)))) (a1H Tryz.func100 rfl rfl rfl (by kernel_rfl) (a0y (l:=[d1i,d1j]) (by kernel_rfl) (.cons (a0o rfl (a0u (sh:=b4C) (shX:=b4D) (shR:=b4E) (fun f v=>d8j K51 G51 K96 G96 d6v d6w b1d b1f b1e b1g b1a b4I b1b b1c f v) d1l (((),()),(([],([],())),())) ((false,()),()))) (.cons (a0o rfl (a0u (sh:=b4F) (shX:=b4G) (shR:=b4H) (fun f v=>d8i K51 G51 K96 G96 d6v d6w b1d b1f b1e b1g b1a b4I b1b b1c f v) d1k ((),()) ((false,()),()))) (.nil))))) fun x=>f8b K51 G51 K96 G96 d6v d6w b1d b1f b1e b1g b1a b4I b1b b1c x
abbrev c7U:Ty:=.cons (.str) (.nil)
abbrev d6x:Ty:=.cons (.bool) (.nil)
abbrev a5c:Type:=((ByteArray×(Int×Unit))×Unit)
def b4J:ShS:=⟨[(0,.one (.str)),(3,.one (.int .i64))],[],0,0⟩
abbrev b9w:Type:=((ByteArray×Unit)×Unit)
def b4K:ShS:=⟨[(0,.one (.str))],[],0,0⟩
abbrev b9x:Type:=((Bool×Unit)×Unit)
def b4L:ShS:=⟨[(2,.one (.bool))],[],0,0⟩
noncomputable def f0s (a b c d e g) :=a0m tab eqs [(51,a0a A51 R51 a b)] 27 [.tmp 2] [] [] [(2,a2d [0,3] [] 0 [0] [] b4J b4K b4L c e d g)] [] []
noncomputable def d1m:Code:=(a0p (a0b Tryz.f167)).getD 0 .skip
def b9y (c:KA A51) (d:GA A51 R51) (f:a5c->Option (b9w⊕b9x)) (v:a5c):Option (b9w⊕b9x):=let a:=v.1.2.1<(ByteArray.size v.1.1:Int);bif decide a then let b:=decide (0<=v.1.2.1)&&decide a;bif b then bif decide (a1z v.1.1 v.1.2.1<97) then some (Sum.inr ((false,()),()))else bif b then bif decide (a1z v.1.1 v.1.2.1>122) then some (Sum.inr ((false,()),()))else f (((v.1.1,wrap .i64 (v.1.2.1+1),()),()))else none else none else some (Sum.inl ((v.1.1,()),()))
theorem d8k (a b c d e g f v) :EBk (f0s a b c d e g) d1m (a0z [0,3] [] 0 [0] [] (atS b4J f) (a6c b4K b4L)) (mkS b4J v)=b9y a b f v:=by kernel_rfl
def d1n (v:a5c):Nat:=v.1.1.size+v.1.2.1.natAbs+1000
def b9z (v:a5c):Option (b9w⊕b9x):=a1t (b9y K51 G51) (d1n v) v
def b4M (v:a5c):Bool:=(b9z v).isSome
def b4N (v:a5c):Bool:=isR (b9z v)
def b4O (v:a5c):b9w:=xOf ((ByteArray.empty,()),()) (b9z v)
def b4P (v:a5c):b9x:=yOf ((false,()),()) (b9z v)
def f8c (a:KA A51) (b:GA A51 R51) (c:a5c->Bool) (d:a5c->b9w) (e:a5c->Bool) (g:a5c->b9x) (x:Den c7U):OD d6x:=bif c ((x.1,0,()),()) then bif e ((x.1,0,()),()) then some (g ((x.1,0,()),())).1 else let h:=d ((x.1,0,()),());let i:=((ByteArray.size h.1.1:Int),1,16,());bif a i then bif (b i).1 then some (!a2F h.1.1 { data:=#[110,111,110,101] },())else some (false,())else none else none
theorem f8d (a b c d e g x) :a0t (f0s a b c d e g) (a0b Tryz.f167) (a1a d6x) (a0M c7U x) []=f8c a b c d e g x:=by kernel_rfl
def f4S (x:Den c7U):OD d6x:=f8c K51 G51 b4M b4O b4N b4P x
def d6y (x:Den c7U):Bool:=(f4S x).isSome
def d6z (x:Den c7U):Den d6x:=(f4S x).getD (zero d6x)
theorem f0t:a0k Tryz.prog (167,a0a c7U d6x d6y d6z):=a1d (a0v mixed a0x a0w (.cons a9G .nil)) (a1H Tryz.func167 rfl rfl rfl (by kernel_rfl) (a0y (l:=[d1m]) (by kernel_rfl) (.cons (a0o rfl (a0u (sh:=b4J) (shX:=b4K) (shR:=b4L) (fun f v=>d8k K51 G51 b4M b4O b4N b4P f v) d1n ((ByteArray.empty,()),()) ((false,()),()))) (.nil)))) fun x=>f8d K51 G51 b4M b4O b4N b4P x
abbrev d8l:Ty:=.cons (.slice (S68)) (.nil)
abbrev e1X:Ty:=.cons (.bool) (.nil)
abbrev a5d:Type:=(((List (Den (S68)))×(Int×Unit))×Unit)
def b4Q:ShS:=⟨[(0,.one (.sl (S68))),(3,.one (.int .i64))],[],0,0⟩
abbrev b9A:Type:=(((List (Den (S68)))×Unit)×Unit)
def b4R:ShS:=⟨[(0,.one (.sl (S68)))],[],0,0⟩
abbrev b9B:Type:=((Bool×Unit)×Unit)
def b4S:ShS:=⟨[(2,.one (.bool))],[],0,0⟩
abbrev a3i:Type:=(((List (Den (S68)))×(Int×(Unit×(Int×Unit))))×((ByteArray×(Nat×(Nat×(Int×(Int×Unit)))))×Unit))
def b4T:ShS:=⟨[(0,.one (.sl (S68))),(3,.one (.int .i64)),(4,.one (.ptr 0 0)),(5,.one (.int .i64))],[(0,.box [.str,.flt .f32,.flt .f32,.int .i64,.int .i64])],1,0⟩
abbrev b2T:Type:=(((List (Den (S68)))×(Int×Unit))×Unit)
def b4U:ShS:=⟨[(0,.one (.sl (S68))),(3,.one (.int .i64))],[],0,0⟩
abbrev b2U:Type:=((Bool×Unit)×Unit)
def b4V:ShS:=⟨[(2,.one (.bool))],[],0,0⟩
noncomputable def e5v (a b c d e g h i j k l m) :=a0m tab eqs [(167,a0a c7U d6x a b),(51,a0a A51 R51 c d)] 68 [.tmp 2] [] [] [(2,a2d [0,3] [] 0 [0] [] b4Q b4R b4S e h g i),(8,a2d [0,3,4,5] [] 2 [0,3] [] b4T b4U b4V j l k m)] [] []
noncomputable def d1o:Code:=(a0p (a0b Tryz.f101)).getD 0 .skip
noncomputable def d1p:Code:=(a0p (a0b Tryz.f101)).getD 1 .skip
def b9C (a:KA c7U) (b:GA c7U d6x) (c:KA A51) (d:GA A51 R51) (f:a3i->Option (b2T⊕b2U)) (v:a3i):Option (b2T⊕b2U):=bif decide (v.1.2.2.2.1<v.1.2.1) then bif decide (0<=v.1.2.2.2.1)&&decide (v.1.2.2.2.1<(length v.1.1:Int)) then bif a2F (getD v.1.1 (toNat v.1.2.2.2.1) (zero S68)).1 v.2.1.1 then some (Sum.inr ((false,()),()))else f (((v.1.1,v.1.2.1,(),wrap .i64 (v.1.2.2.2.1+1),()),v.2))else none else some (Sum.inl ((v.1.1,v.1.2.1,()),()))
theorem d8m (a b c d e g h i j k l m f v) :EBk (e5v a b c d e g h i j k l m) d1p (a0z [0,3,4,5] [] 2 [0,3] [] (atS b4T f) (a6c b4U b4V)) (mkS b4T v)=b9C a b c d f v:=by kernel_rfl
def d1q (v:a3i):Nat:=v.1.1.length+v.1.2.1.natAbs+v.1.2.2.2.1.natAbs+v.2.1.1.size+v.2.1.2.2.2.1.natAbs+v.2.1.2.2.2.2.1.natAbs+1000
def b2V (v:a3i):Option (b2T⊕b2U):=a1t (b9C d6y d6z K51 G51) (d1q v) v
def a6Q (v:a3i):Bool:=(b2V v).isSome
def a6R (v:a3i):Bool:=isR (b2V v)
def a6S (v:a3i):b2T:=xOf (([],(0,())),()) (b2V v)
def a6T (v:a3i):b2U:=yOf ((false,()),()) (b2V v)
def b9D (b:KA c7U) (c:GA c7U d6x) (d:KA A51) (e:GA A51 R51) (g:a3i->Bool) (h:a3i->b2T) (i:a3i->Bool) (j:a3i->b2U) (f:a5d->Option (b9A⊕b9B)) (v:a5d):Option (b9A⊕b9B):=bif decide (v.1.2.1<(length v.1.1:Int)) then bif decide (0<=v.1.2.1)&&decide (v.1.2.1<(length v.1.1:Int)) then let a:=getD v.1.1 (toNat v.1.2.1) (zero S68);bif b (a.1,()) then bif !(c (a.1,())).1 then some (Sum.inr ((false,()),()))else bif fgt .f32 a.2.1 0||feq .f32 a.2.1 0 then bif fgt .f32 a.2.2.1 a.2.1 then bif !(flt .f32 a.2.2.1 1128792064||feq .f32 a.2.2.1 1128792064) then some (Sum.inr ((false,()),()))else bif d (a.2.2.2.1,0,180,()) then bif !(e (a.2.2.2.1,0,180,())).1 then some (Sum.inr ((false,()),()))else bif d (a.2.2.2.2.1,a.2.2.2.1,180,()) then bif !(e (a.2.2.2.2.1,a.2.2.2.1,180,())).1 then some (Sum.inr ((false,()),()))else bif g ((v.1.1,v.1.2.1,(),0,()),a,()) then bif i ((v.1.1,v.1.2.1,(),0,()),a,()) then some (Sum.inr (j ((v.1.1,v.1.2.1,(),0,()),a,())))else let k:=h ((v.1.1,v.1.2.1,(),0,()),a,());f (((k.1.1,wrap .i64 (k.1.2.1+1),()),()))else none else none else none else some (Sum.inr ((false,()),()))else some (Sum.inr ((false,()),()))else none else none else some (Sum.inl ((v.1.1,()),()))
theorem d8n (a b c d j k l m e g h i f v) :EBk (e5v a b c d j k l m e g h i) d1o (a0z [0,3] [] 0 [0] [] (atS b4Q f) (a6c b4R b4S)) (mkS b4Q v)=b9D a b c d e g h i f v:=by kernel_rfl
def d1r (v:a5d):Nat:=v.1.1.length+v.1.2.1.natAbs+1000
def b9E (v:a5d):Option (b9A⊕b9B):=a1t (b9D d6y d6z K51 G51 a6Q a6S a6R a6T) (d1r v) v
def b1h (v:a5d):Bool:=(b9E v).isSome
def b1i (v:a5d):Bool:=isR (b9E v)
def b1j (v:a5d):b9A:=xOf (([],()),()) (b9E v)
def b1k (v:a5d):b9B:=yOf ((false,()),()) (b9E v)
def f8e (e:KA c7U) (g:GA c7U d6x) (h:KA A51) (i:GA A51 R51) (a:a5d->Bool) (b:a5d->b9A) (c:a5d->Bool) (d:a5d->b9B) (j:a3i->Bool) (k:a3i->b2T) (l:a3i->Bool) (m:a3i->b2U) (x:Den d8l):OD e1X:=bif a ((x.1,0,()),()) then bif c ((x.1,0,()),()) then some (d ((x.1,0,()),())).1 else some (decide ((↑(length (b ((x.1,0,()),())).1.1):Int)<=12),())else none
theorem f8f (a b c d e g h i j k l m x) :a0t (e5v a b c d e g h i j k l m) (a0b Tryz.f101) (a1a e1X) (a0M d8l x) []=f8e a b c d e g h i j k l m x:=by kernel_rfl
def f4T (x:Den d8l):OD e1X:=f8e d6y d6z K51 G51 b1h b1j b1i b1k a6Q a6S a6R a6T x
def f4U (x:Den d8l):Bool:=(f4T x).isSome
def f4V (x:Den d8l):Den e1X:=(f4T x).getD (zero e1X)
theorem f0u:a0k Tryz.prog (101,a0a d8l e1X f4U f4V):=a1d (a0v mixed a0x a0w (.cons f0t (.cons a9G .nil))) (a1H Tryz.func101 rfl rfl rfl (by kernel_rfl) (a0y (l:=[d1o,d1p]) (by kernel_rfl) (.cons (a0o rfl (a0u (sh:=b4Q) (shX:=b4R) (shR:=b4S) (fun f v=>d8n d6y d6z K51 G51 b1h b1j b1i b1k a6Q a6S a6R a6T f v) d1r (([],()),()) ((false,()),()))) (.cons (a0o rfl (a0u (sh:=b4T) (shX:=b4U) (shR:=b4V) (fun f v=>d8m d6y d6z K51 G51 b1h b1j b1i b1k a6Q a6S a6R a6T f v) d1q (([],(0,())),()) ((false,()),()))) (.nil))))) fun x=>f8f d6y d6z K51 G51 b1h b1j b1i b1k a6Q a6S a6R a6T x
abbrev c9t:Ty:=.cons (S35) (.nil)
abbrev d8o:Ty:=.cons (.bool) (.nil)
noncomputable def f8g (a b) :=a0m tab eqs [(98,a0a A98 R98 a b)] 18 [.tmp 2] [] [] [] [] []
def f8h (a:KA A98) (b:GA A98 R98) (x:Den c9t):OD d8o:=bif a (x.1.1,()) then bif (b (x.1.1,())).1 then bif a x.1.2 then bif (b x.1.2).1 then some (!(x.1.1.1==x.1.2.1.1&&x.1.1.2.1==x.1.2.1.2.1),())else some (false,())else none else some (false,())else none
theorem f8i (a b x) :a0t (f8g a b) (a0b Tryz.f168) (a1a d8o) (a0M c9t x) []=f8h a b x:=by kernel_rfl
def f4W (x:Den c9t):OD d8o:=f8h K98 G98 x
def e5w (x:Den c9t):Bool:=(f4W x).isSome
def e5x (x:Den c9t):Den d8o:=(f4W x).getD (zero d8o)
theorem f0v:a0k Tryz.prog (168,a0a c9t d8o e5w e5x):=fnO (.cons d8d .nil) Tryz.func168 (f8i K98 G98)
abbrev d1s:Ty:=.cons (S38) (.cons (.int .i64) (.nil))
abbrev d8p:Ty:=.cons (S33) (.nil)
noncomputable def f8j:Env:=a0m tab eqs [] 17 [.cell 4 34] [] [] [] [] []
def f8k (x:Den d1s):OD d8p:=bif x.2.1==0 then some (x.1.1.1,())else let a:=wrap .i64 (x.2.1-1);bif decide (0<=a)&&decide (a<(length x.1.2.1:Int)) then some ((getD x.1.2.1 (toNat a) (zero a1U)).1,())else none
theorem f8l (x) :a0t (f8j) (a0b Tryz.f169) (a1a d8p) (a0M d1s x) []=f8k x:=by kernel_rfl
def e8V (x:Den d1s):OD d8p:=f8k x
def e5y (x:Den d1s):Bool:=(e8V x).isSome
def e5z (x:Den d1s):Den d8p:=(e8V x).getD (zero d8p)
theorem f0w:a0k Tryz.prog (169,a0a d1s d8p e5y e5z):=fnO .nil Tryz.func169 f8l
abbrev d8q:Ty:=.cons (S38) (.nil)
abbrev e1Y:Ty:=.cons (.bool) (.nil)
abbrev a5e:Type:=((Unit×(Int×Unit))×((Int×(Int×(Int×(Int×((List (Den (a1U)))×(Int×(Int×(Int×(Int×Unit)))))))))×Unit))
def b4W:ShS:=⟨[(1,.one (.ptr 0 0)),(3,.one (.int .i64))],[(0,.box [.int .i64,.int .i64,.int .i64,.int .i64,.sl (a1U),.int .i64,.int .i64,.int .i64,.int .i64])],1,0⟩
abbrev b9F:Type:=(Unit×Unit)
def b4X:ShS:=⟨[],[],0,0⟩
abbrev b9G:Type:=((Bool×Unit)×Unit)
def b4Y:ShS:=⟨[(2,.one (.bool))],[],0,0⟩
noncomputable def f0x (a b e g h i c d j k l m) :=a0m tab eqs [(168,a0a c9t d8o a b),(51,a0a A51 R51 e g),(98,a0a A98 R98 h i),(169,a0a d1s d8p c d)] 48 [.tmp 2] [] [] [(4,a2d [1,3] [] 0 [] [] b4W b4X b4Y j l k m)] [] []
noncomputable def d1t:Code:=(a0p (a0b Tryz.f102)).getD 0 .skip
def b9H (g:KA c9t) (h:GA c9t d8o) (m:KA A51) (n:GA A51 R51) (d:KA A98) (e:GA A98 R98) (a:KA d1s) (b:GA d1s d8p) (f:a5e->Option (b9F⊕b9G)) (v:a5e):Option (b9F⊕b9G):=let i:=v.1.2.1<(length v.2.1.2.2.2.2.1:Int);bif decide i then let j:=decide (0<=v.1.2.1)&&decide i;bif j then let c:=getD v.2.1.2.2.2.2.1 (toNat v.1.2.1) (zero a1U);bif d (c.1,()) then bif !(e (c.1,())).1 then some (Sum.inr ((false,()),()))else bif j then let k:=((((v.2.1.1,v.2.1.2.1,()),(v.2.1.2.2.1,v.2.1.2.2.2.1,()),()),v.2.1.2.2.2.2.1,((v.2.1.2.2.2.2.2.1,v.2.1.2.2.2.2.2.2.1,()),v.2.1.2.2.2.2.2.2.2,()),()),v.1.2);bif a k then let l:=b k;bif c.1.1==l.1.1&&c.1.2.1==l.1.2.1 then some (Sum.inr ((false,()),()))else f ((((),wrap .i64 (v.1.2.1+1),()),v.2))else none else none else none else none else some (Sum.inl ((),()))
theorem d8r (a b e g h i c d j k l m f v) :EBk (f0x a b e g h i c d j k l m) d1t (a0z [1,3] [] 0 [] [] (atS b4W f) (a6c b4X b4Y)) (mkS b4W v)=b9H a b e g h i c d f v:=by kernel_rfl
def d1u (v:a5e):Nat:=v.1.2.1.natAbs+v.2.1.1.natAbs+v.2.1.2.1.natAbs+v.2.1.2.2.1.natAbs+v.2.1.2.2.2.1.natAbs+v.2.1.2.2.2.2.1.length+v.2.1.2.2.2.2.2.1.natAbs+v.2.1.2.2.2.2.2.2.1.natAbs+v.2.1.2.2.2.2.2.2.2.1.natAbs+v.2.1.2.2.2.2.2.2.2.2.1.natAbs+1000
def b2W (v:a5e):Option (b9F⊕b9G):=a1t (b9H e5w e5x K51 G51 K98 G98 e5y e5z) (d1u v) v
def b4Z (v:a5e):Bool:=(b2W v).isSome
def b5a (v:a5e):Bool:=isR (b2W v)
def c2M (v:a5e):b9F:=xOf ((),()) (b2W v)
def b5b (v:a5e):b9G:=yOf ((false,()),()) (b2W v)
def f8m (a:KA c9t) (b:GA c9t d8o) (c:KA A51) (d:GA A51 R51) (m:KA A98) (n:GA A98 R98) (j:KA d1s) (k:GA d1s d8p) (e:a5e->Bool) (o:a5e->b9F) (g:a5e->Bool) (h:a5e->b9G) (x:Den d8q):OD e1Y:=bif a (x.1.1,()) then bif !(b (x.1.1,())).1 then some (false,())else bif a x.1.2.2 then bif !(b x.1.2.2).1 then some (false,())else let l:=((length x.1.2.1:Int),1,20,());bif c l then bif !(d l).1 then some (false,())else let i:=(((),0,()),(x.1.1.1.1,x.1.1.1.2.1,x.1.1.2.1.1,x.1.1.2.1.2.1,x.1.2.1,x.1.2.2.1.1.1,x.1.2.2.1.1.2.1,x.1.2.2.1.2.1),());bif e i then bif g i then some (h i).1 else some (true,())else none else none else none else none
theorem f8n (a b e g h i c d j k l m x) :a0t (f0x a b e g h i c d j k l m) (a0b Tryz.f102) (a1a e1Y) (a0M d8q x) []=f8m a b e g h i c d j k l m x:=by kernel_rfl
def f4X (x:Den d8q):OD e1Y:=f8m e5w e5x K51 G51 K98 G98 e5y e5z b4Z c2M b5a b5b x
def f4Y (x:Den d8q):Bool:=(f4X x).isSome
def f4Z (x:Den d8q):Den e1Y:=(f4X x).getD (zero e1Y)
theorem f0y:a0k Tryz.prog (102,a0a d8q e1Y f4Y f4Z):=a1d (a0v mixed a0x a0w (.cons f0v (.cons a9G (.cons d8d (.cons f0w .nil))))) (a1H Tryz.func102 rfl rfl rfl (by kernel_rfl) (a0y (l:=[d1t]) (by kernel_rfl) (.cons (a0o rfl (a0u (sh:=b4W) (shX:=b4X) (shR:=b4Y) (fun f v=>d8r e5w e5x K51 G51 K98 G98 e5y e5z b4Z c2M b5a b5b f v) d1u ((),()) ((false,()),()))) (.nil)))) fun x=>f8n e5w e5x K51 G51 K98 G98 e5y e5z b4Z c2M b5a b5b x
abbrev A50:Ty:=.cons (S40) (.nil)
abbrev R50:Ty:=.cons (.bool) (.nil)
noncomputable def g5v (h i a b c d e g) :=a0m tab eqs [(99,a0a A99 R99 h i),(100,a0a d8h e1W a b),(101,a0a d8l e1X c d),(102,a0a d8q e1Y e g)] 27 [.tmp 2] [] [] [] [] []
def r50 (h:KA A99) (i:GA A99 R99) (a:KA d8h) (b:GA d8h e1W) (c:KA d8l) (d:GA d8l e1X) (e:KA d8q) (g:GA d8q e1Y) (x:Den A50):OD R50:=bif h (x.1.1,()) then bif (i (x.1.1,())).1 then bif a (x.1.2.1,()) then bif (b (x.1.2.1,())).1 then bif c (x.1.2.2.1,()) then bif (d (x.1.2.2.1,())).1 then bif decide ((length x.1.2.2.1:Int)>0) then bif e x.1.2.2.2 then some (g x.1.2.2.2)else none else some (false,())else some (false,())else none else some (false,())else none else some (false,())else none
theorem g5w (h i a b c d e g x) :a0t (g5v h i a b c d e g) (a0b Tryz.f50) (a1a R50) (a0M A50 x) []=r50 h i a b c d e g x:=by kernel_rfl
def F50 (x:Den A50):OD R50:=r50 K99 G99 f4Q f4R f4U f4V f4Y f4Z x
def K50 (x:Den A50):Bool:=(F50 x).isSome
def G50 (x:Den A50):Den R50:=(F50 x).getD (zero R50)
theorem f0z:a0k Tryz.prog (50,a0a A50 R50 K50 G50):=fnO (.cons f0m (.cons f0r (.cons f0u (.cons f0y .nil)))) Tryz.func50 (g5w K99 G99 f4Q f4R f4U f4V f4Y f4Z)
abbrev I80:Sg:=⟨[.val (S40)],[]⟩
abbrev O80:Sg:=⟨[.mix [.ref (.flt .f32) 0,.ref (.int .i64) 1,.ref (.slice (.flt .f32)) 2,.ref (a0Y) 3,.ref (.int .i64) 4,.ref (S68) 5,.int .i64,.int .i64,.int .i64,.int .i64,.ref (a1U) 6,.int .i64,.int .i64,.int .i64,.int .i64]],[.arr (.flt .f32),.arr (.int .i64),.arr (.slice (.flt .f32)),.arr (a0Y),.arr (.int .i64),.arr (S68),.arr (a1U)]⟩
abbrev b5c:Type:=((Unit×(Unit×(Unit×(Int×Unit))))×(((List (Den (.flt .f32)))×((List (Den (.int .i64)))×((List (Den (.slice (.flt .f32))))×((List (Den (a0Y)))×((List (Den (.int .i64)))×((List (Den (S68)))×(Int×(Int×(Int×(Int×((List (Den (a1U)))×(Int×(Int×(Int×(Int×Unit)))))))))))))))×((Unit×(Unit×(Unit×(Unit×(Unit×(Unit×(Int×(Int×(Int×(Int×(Unit×(Int×(Int×(Int×(Int×Unit)))))))))))))))×((Unit×(Unit×(Unit×(Unit×(Unit×(Unit×(Int×(Int×(Int×(Int×(Unit×(Int×(Int×(Int×(Int×Unit)))))))))))))))×((List (Den (.flt .f32)))×((List (Den (.int .i64)))×((List (Den (.slice (.flt .f32))))×Unit)))))))
def c4M:ShS:=⟨[(1,.one (.ptr 0 0)),(2,.one (.ptr 1 0)),(3,.one (.ptr 2 0)),(4,.one (.int .i64))],[(0,.box [.sl (.flt .f32),.sl (.int .i64),.sl (.slice (.flt .f32)),.sl (a0Y),.sl (.int .i64),.sl (S68),.int .i64,.int .i64,.int .i64,.int .i64,.sl (a1U),.int .i64,.int .i64,.int .i64,.int .i64]),(1,.box [.nil (.flt .f32),.nil (.int .i64),.nil (.slice (.flt .f32)),.nil (a0Y),.nil (.int .i64),.nil (S68),.int .i64,.int .i64,.int .i64,.int .i64,.nil (a1U),.int .i64,.int .i64,.int .i64,.int .i64]),(2,.box [.ref (.flt .f32) 3,.ref (.int .i64) 4,.ref (.slice (.flt .f32)) 5,.nil (a0Y),.nil (.int .i64),.nil (S68),.int .i64,.int .i64,.int .i64,.int .i64,.nil (a1U),.int .i64,.int .i64,.int .i64,.int .i64]),(3,.arr (.flt .f32)),(4,.arr (.int .i64)),(5,.arr (.slice (.flt .f32)))],6,0⟩
abbrev c7V:Type:=((Unit×(Unit×(Unit×Unit)))×(((List (Den (.flt .f32)))×((List (Den (.int .i64)))×((List (Den (.slice (.flt .f32))))×((List (Den (a0Y)))×((List (Den (.int .i64)))×((List (Den (S68)))×(Int×(Int×(Int×(Int×((List (Den (a1U)))×(Int×(Int×(Int×(Int×Unit)))))))))))))))×((Unit×(Unit×(Unit×(Unit×(Unit×(Unit×(Int×(Int×(Int×(Int×(Unit×(Int×(Int×(Int×(Int×Unit)))))))))))))))×((Unit×(Unit×(Unit×(Unit×(Unit×(Unit×(Int×(Int×(Int×(Int×(Unit×(Int×(Int×(Int×(Int×Unit)))))))))))))))×((List (Den (.flt .f32)))×((List (Den (.int .i64)))×((List (Den (.slice (.flt .f32))))×Unit)))))))
def c2N:ShS:=⟨[(1,.one (.ptr 0 0)),(2,.one (.ptr 1 0)),(3,.one (.ptr 2 0))],[(0,.box [.sl (.flt .f32),.sl (.int .i64),.sl (.slice (.flt .f32)),.sl (a0Y),.sl (.int .i64),.sl (S68),.int .i64,.int .i64,.int .i64,.int .i64,.sl (a1U),.int .i64,.int .i64,.int .i64,.int .i64]),(1,.box [.nil (.flt .f32),.nil (.int .i64),.nil (.slice (.flt .f32)),.nil (a0Y),.nil (.int .i64),.nil (S68),.int .i64,.int .i64,.int .i64,.int .i64,.nil (a1U),.int .i64,.int .i64,.int .i64,.int .i64]),(2,.box [.ref (.flt .f32) 3,.ref (.int .i64) 4,.ref (.slice (.flt .f32)) 5,.nil (a0Y),.nil (.int .i64),.nil (S68),.int .i64,.int .i64,.int .i64,.int .i64,.nil (a1U),.int .i64,.int .i64,.int .i64,.int .i64]),(3,.arr (.flt .f32)),(4,.arr (.int .i64)),(5,.arr (.slice (.flt .f32)))],6,0⟩
noncomputable def g4c (a b) :=a0m tab eqs [] 77 [.cell 2 41] [] [] [(5,a1Q [1,2,3,4] [.boxNil 3 2] 0 [1,2,3] [] c4M c2N a b)] [] []
noncomputable def e1Z:Code:=(a0p (a0b Tryz.f80)).getD 0 .skip
def d1v (f:b5c->Option (c7V)) (v:b5c):Option (c7V):=let a:=v.1.2.2.2.1<(length v.2.1.2.2.1:Int);bif decide a then bif decide (0<=v.1.2.2.2.1)&&decide a then let b:=zero (Ty.slice (Ty.flt .f32));let c:=getD v.2.1.2.2.1 (toNat v.1.2.2.2.1) b;let d:=zero (Ty.flt .f32);bif a0D (length (replicate 0 d)+length c) then let e:=set (replicate 1 b) 0 (replicate 0 d++c);bif a0D (length v.2.2.2.2.2.2.1+length e) then f ((((),(),(),wrap .i64 (v.1.2.2.2.1+1),()),v.2.1,v.2.2.1,v.2.2.2.1,v.2.2.2.2.1,v.2.2.2.2.2.1,v.2.2.2.2.2.2.1++e,()))else none else none else none else some (((),(),(),()),v.2)
theorem e5A (a b f v) :EBk (g4c a b) e1Z (a0z [1,2,3,4] [.boxNil 3 2] 0 [1,2,3] [] (atS c4M f) (a4X c2N)) (mkS c4M v)=d1v f v:=by kernel_rfl
def d8s (v:b5c):Nat:=v.1.2.2.2.1.natAbs+v.2.1.1.length+v.2.1.2.1.length+v.2.1.2.2.1.length+v.2.1.2.2.2.1.length+v.2.1.2.2.2.2.1.length+v.2.1.2.2.2.2.2.1.length+v.2.1.2.2.2.2.2.2.1.natAbs+v.2.1.2.2.2.2.2.2.2.1.natAbs+v.2.1.2.2.2.2.2.2.2.2.1.natAbs+v.2.1.2.2.2.2.2.2.2.2.2.1.natAbs+v.2.1.2.2.2.2.2.2.2.2.2.2.1.length+v.2.1.2.2.2.2.2.2.2.2.2.2.2.1.natAbs+v.2.1.2.2.2.2.2.2.2.2.2.2.2.2.1.natAbs+v.2.1.2.2.2.2.2.2.2.2.2.2.2.2.2.1.natAbs+v.2.1.2.2.2.2.2.2.2.2.2.2.2.2.2.2.1.natAbs+v.2.2.1.2.2.2.2.2.2.1.natAbs+v.2.2.1.2.2.2.2.2.2.2.1.natAbs+v.2.2.1.2.2.2.2.2.2.2.2.1.natAbs+v.2.2.1.2.2.2.2.2.2.2.2.2.1.natAbs+v.2.2.1.2.2.2.2.2.2.2.2.2.2.2.1.natAbs+v.2.2.1.2.2.2.2.2.2.2.2.2.2.2.2.1.natAbs+v.2.2.1.2.2.2.2.2.2.2.2.2.2.2.2.2.1.natAbs+v.2.2.1.2.2.2.2.2.2.2.2.2.2.2.2.2.2.1.natAbs+v.2.2.2.1.2.2.2.2.2.2.1.natAbs+v.2.2.2.1.2.2.2.2.2.2.2.1.natAbs+v.2.2.2.1.2.2.2.2.2.2.2.2.1.natAbs+v.2.2.2.1.2.2.2.2.2.2.2.2.2.1.natAbs+v.2.2.2.1.2.2.2.2.2.2.2.2.2.2.2.1.natAbs+v.2.2.2.1.2.2.2.2.2.2.2.2.2.2.2.2.1.natAbs+v.2.2.2.1.2.2.2.2.2.2.2.2.2.2.2.2.2.1.natAbs+v.2.2.2.1.2.2.2.2.2.2.2.2.2.2.2.2.2.2.1.natAbs+v.2.2.2.2.1.length+v.2.2.2.2.2.1.length+v.2.2.2.2.2.2.1.length+1000
def d8t (v:b5c):Option (c7V):=a1t (d1v) (d8s v) v
def b2X (v:b5c):Bool:=(d8t v).isSome
def b2Y (v:b5c):c7V:=(d8t v).getD (((),((),((),()))),(([],([],([],([],([],([],(0,(0,(0,(0,([],(0,(0,(0,(0,()))))))))))))))),(((),((),((),((),((),((),(0,(0,(0,(0,((),(0,(0,(0,(0,()))))))))))))))),(((),((),((),((),((),((),(0,(0,(0,(0,((),(0,(0,(0,(0,()))))))))))))))),([],([],([],())))))))
def r80 (c:b5c->Bool) (d:b5c->c7V) (x:I80.den):Option (O80.den):=let e:=zero (Ty.flt .f32);bif a0D (length (replicate 0 e)+length x.1.1.1.1) then let b:=zero (Ty.int IntKind.i64);bif a0D (length (replicate 0 b)+length x.1.1.1.2.1) then let h:=replicate 0 e++x.1.1.1.1;let i:=replicate 0 b++x.1.1.1.2.1;let g:=(((),(),(),0,()),(x.1.1.1.1,x.1.1.1.2.1,x.1.1.1.2.2.1,x.1.1.2.1.1,x.1.1.2.1.2.1,x.1.1.2.2.1,x.1.1.2.2.2.1.1.1.1,x.1.1.2.2.2.1.1.1.2.1,x.1.1.2.2.2.1.1.2.1.1,x.1.1.2.2.2.1.1.2.1.2.1,x.1.1.2.2.2.1.2.1,x.1.1.2.2.2.1.2.2.1.1.1,x.1.1.2.2.2.1.2.2.1.1.2.1,x.1.1.2.2.2.1.2.2.1.2.1),((),(),(),(),(),(),0,0,0,0,(),0,0,0,0,()),((),(),(),(),(),(),x.1.1.2.2.2.1.1.1.1,x.1.1.2.2.2.1.1.1.2.1,x.1.1.2.2.2.1.1.2.1.1,x.1.1.2.2.2.1.1.2.1.2.1,(),x.1.1.2.2.2.1.2.2.1.1.1,x.1.1.2.2.2.1.2.2.1.1.2.1,x.1.1.2.2.2.1.2.2.1.2.1),h,i,[],());bif c g then let a:=d g;bif a0D (length (replicate 0 (zero a0Y))+length a.2.1.2.2.2.1) then bif a0D (length (replicate 0 b)+length a.2.1.2.2.2.2.1) then bif a0D (length (replicate 0 (zero S68))+length a.2.1.2.2.2.2.2.1) then bif a0D (length (replicate 0 (zero a1U))+length a.2.1.2.2.2.2.2.2.2.2.2.2.1) then some ((a.2.2.2.1,()),a.2.2.2.2.1,a.2.2.2.2.2.1,a.2.2.2.2.2.2.1,replicate 0 (zero a0Y)++a.2.1.2.2.2.1,replicate 0 b++a.2.1.2.2.2.2.1,replicate 0 (zero S68)++a.2.1.2.2.2.2.2.1,replicate 0 (zero a1U)++a.2.1.2.2.2.2.2.2.2.2.2.2.1,())else none else none else none else none else none else none else none
theorem g5x (a b x) :a1W (g4c a b) (a0b Tryz.f80) I80 O80 x=r80 a b x:=by kernel_rfl
def F80 (x:I80.den):Option (O80.den):=r80 b2X b2Y x
def K80 (x:I80.den):Bool:=(F80 x).isSome
def G80 (x:I80.den):O80.den:=(F80 x).getD (a1l O80)
theorem f8o:a0k Tryz.prog (80,a0j false I80 O80 K80 G80):=a1p (a0v mixed a0x a0w .nil) (a1H Tryz.func80 rfl rfl rfl (by kernel_rfl) (a0y (l:=[e1Z]) (by kernel_rfl) (.cons (a0o rfl (a0q (sh:=c4M) (shX:=c2N) (fun f v=>e5A b2X b2Y f v) d8s (((),((),((),()))),(([],([],([],([],([],([],(0,(0,(0,(0,([],(0,(0,(0,(0,()))))))))))))))),(((),((),((),((),((),((),(0,(0,(0,(0,((),(0,(0,(0,(0,()))))))))))))))),(((),((),((),((),((),((),(0,(0,(0,(0,((),(0,(0,(0,(0,()))))))))))))))),([],([],([],()))))))))) (.nil)))) false fun x=>g5x b2X b2Y x
abbrev I32:Sg:=⟨[.val (S40),.val (.cpx .f64),.val (.int .i64)],[]⟩
abbrev O32:Sg:=⟨[.mix [.ref (.flt .f32) 0,.ref (.int .i64) 1,.ref (.slice (.flt .f32)) 2,.ref (a0Y) 3,.ref (.int .i64) 4,.ref (S68) 5,.int .i64,.int .i64,.int .i64,.int .i64,.ref (a1U) 6,.int .i64,.int .i64,.int .i64,.int .i64,.int .i64,.cpx .f64,.int .i64,.cpx .f32,.int .i64,.sl (S97),.sl (.str)],.val (.bool)],[.arr (.flt .f32),.arr (.int .i64),.arr (.slice (.flt .f32)),.arr (a0Y),.arr (.int .i64),.arr (S68),.arr (a1U)]⟩
noncomputable def g5y (a b c d e g h i) :=a0m tab eqs [(49,a0a A49 R49 a b),(50,a0a A50 R50 c d),(51,a0a A51 R51 e g),(80,a0j false I80 O80 h i)] 33 [.cell 6 47,.tmp 7] [] [] [] [] [.boxNil 6 0,.boxNil 6 1,.boxNil 6 2,.boxNil 6 3,.boxNil 6 4,.boxNil 6 5,.boxNil 6 10]
def r32 (b:KA A49) (c:GA A49 R49) (d:KA A50) (e:GA A50 R50) (g:KA A51) (h:GA A51 R51) (i:KI I80) (j:GI I80 O80) (x:I32.den):Option (O32.den):=bif b (x.1.2.1,()) then bif d (x.1.1,()) then bif !(e (x.1.1,())).1 then some ((((),(),(),(),(),(),0,0,0,0,(),0,0,0,0,0,(0,0),0,(0,0),0,[],[],()),false,()),[],[],[],[],[],[],[],())else bif !(c (x.1.2.1,())).2.1 then some ((((),(),(),(),(),(),0,0,0,0,(),0,0,0,0,0,(0,0),0,(0,0),0,[],[],()),false,()),[],[],[],[],[],[],[],())else bif g (x.1.2.2.1,0,10000000,()) then bif !(h (x.1.2.2.1,0,10000000,())).1 then some ((((),(),(),(),(),(),0,0,0,0,(),0,0,0,0,0,(0,0),0,(0,0),0,[],[],()),false,()),[],[],[],[],[],[],[],())else bif i ((x.1.1,()),()) then let a:=j ((x.1.1,()),());some ((((),(),(),(),(),(),a.1.1.2.2.2.2.2.2.1,a.1.1.2.2.2.2.2.2.2.1,a.1.1.2.2.2.2.2.2.2.2.1,a.1.1.2.2.2.2.2.2.2.2.2.1,(),a.1.1.2.2.2.2.2.2.2.2.2.2.2.1,a.1.1.2.2.2.2.2.2.2.2.2.2.2.2.1,a.1.1.2.2.2.2.2.2.2.2.2.2.2.2.2.1,a.1.1.2.2.2.2.2.2.2.2.2.2.2.2.2.2.1,x.1.2.2.1,x.1.2.1,0,(0,0),-1,[],[],()),true,()),a.2)else none else none else none else none
theorem g5z (a b c d e g h i x) :a1W (g5y a b c d e g h i) (a0b Tryz.f32) I32 O32 x=r32 a b c d e g h i x:=by kernel_rfl
def F32 (x:I32.den):Option (O32.den):=r32 K49 G49 K50 G50 K51 G51 K80 G80 x
def K32 (x:I32.den):Bool:=(F32 x).isSome
def G32 (x:I32.den):O32.den:=(F32 x).getD (a1l O32)
theorem f8p:a0k Tryz.prog (32,a0j false I32 O32 K32 G32):=a1p (a0v mixed a0x a0w (.cons f0l (.cons f0z (.cons a9G (.cons f8o .nil))))) (a1H Tryz.func32 rfl rfl rfl (by kernel_rfl) (a0O (by kernel_rfl))) false fun x=>g5z K49 G49 K50 G50 K51 G51 K80 G80 x
abbrev d1w:Ty:=.cons (.int .i64) (.nil)
abbrev d8u:Ty:=.cons (.int .u8) (.nil)
noncomputable def f8q:Env:=a0m tab eqs [] 12 [.tmp 2] [] [] [] [] []
def f8r (x:Den d1w):OD d8u:=bif decide (x.1<10) then some (wrap .u8 (wrap .i64 (48+x.1)),())else some (wrap .u8 (wrap .i64 ((wrap .i64 (97+x.1))-10)),())
theorem f8s (x) :a0t (f8q) (a0b Tryz.f190) (a1a d8u) (a0M d1w x) []=f8r x:=by kernel_rfl
def f5a (x:Den d1w):OD d8u:=f8r x
def e2a (x:Den d1w):Bool:=(f5a x).isSome
def e2b (x:Den d1w):Den d8u:=(f5a x).getD (zero d8u)
theorem f0A:a0k Tryz.prog (190,a0a d1w d8u e2a e2b):=fnO .nil Tryz.func190 f8s
abbrev c9u:Ty:=.cons (.int .i64) (.nil)
abbrev d6A:Ty:=.cons (.str) (.nil)
abbrev a9f:Type:=((Int×(Bool×(ByteArray×Unit)))×Unit)
def b5d:ShS:=⟨[(0,.one (.int .i64)),(3,.one (.bool)),(4,.one (.str))],[],0,0⟩
abbrev b9I:Type:=((Bool×(ByteArray×Unit))×Unit)
def b5e:ShS:=⟨[(3,.one (.bool)),(4,.one (.str))],[],0,0⟩
noncomputable def f0B (a b c d) :=a0m tab eqs [(190,a0a d1w d8u a b)] 30 [.tmp 2] [] [] [(5,a1Q [0,3,4] [] 0 [3,4] [] b5d b5e c d)] [] []
noncomputable def d1x:Code:=(a0p (a0b Tryz.f130)).getD 0 .skip
def c4N (a:KA d1w) (b:GA d1w d8u) (f:a9f->Option (b9I)) (v:a9f):Option (b9I):=bif v.1.1 != 0 then bif decide (Int.tmod v.1.1 10<0) then let c:=wrap .i64 (0-Int.tmod v.1.1 10);bif a (c,()) then let d:=a9a (set (replicate 1 (zero (Ty.int IntKind.u8))) 0 (b (c,())).1);bif decide (ByteArray.size d+ByteArray.size v.1.2.2.1<=9223372036854775807) then f (((wrap .i64 (Int.tdiv v.1.1 10),v.1.2.1,d++v.1.2.2.1,()),()))else none else none else bif a (Int.tmod v.1.1 10,()) then let e:=a9a (set (replicate 1 (zero (Ty.int IntKind.u8))) 0 (b (Int.tmod v.1.1 10,())).1);bif decide (ByteArray.size e+ByteArray.size v.1.2.2.1<=9223372036854775807) then f (((wrap .i64 (Int.tdiv v.1.1 10),v.1.2.1,e++v.1.2.2.1,()),()))else none else none else some (v.1.2,())
theorem d8v (a b c d f v) :EBk (f0B a b c d) d1x (a0z [0,3,4] [] 0 [3,4] [] (atS b5d f) (a4X b5e)) (mkS b5d v)=c4N a b f v:=by kernel_rfl
def d1y (v:a9f):Nat:=v.1.1.natAbs+v.1.2.2.1.size+1000
def c4O (v:a9f):Option (b9I):=a1t (c4N e2a e2b) (d1y v) v
def b5f (v:a9f):Bool:=(c4O v).isSome
def b5g (v:a9f):b9I:=(c4O v).getD ((false,(ByteArray.empty,())),())
def f8t (d:KA d1w) (e:GA d1w d8u) (b:a9f->Bool) (c:a9f->b9I) (x:Den c9u):OD d6A:=bif x.1==0 then some ({ data:=#[48] },())else let g:=((x.1,decide (x.1<0),{ data:=#[] },()),());bif b g then let a:=c g;bif a.1.1 then bif decide (ByteArray.size { data:=#[45] }+ByteArray.size a.1.2.1<=9223372036854775807) then some ({ data:=#[45] }++a.1.2.1,())else none else some a.1.2 else none
theorem f8u (a b c d x) :a0t (f0B a b c d) (a0b Tryz.f130) (a1a d6A) (a0M c9u x) []=f8t a b c d x:=by kernel_rfl
def f5b (x:Den c9u):OD d6A:=f8t e2a e2b b5f b5g x
def d1z (x:Den c9u):Bool:=(f5b x).isSome
def b2m (x:Den c9u):Den d6A:=(f5b x).getD (zero d6A)
theorem e2c:a0k Tryz.prog (130,a0a c9u d6A d1z b2m):=a1d (a0v mixed a0x a0w (.cons f0A .nil)) (a1H Tryz.func130 rfl rfl rfl (by kernel_rfl) (a0y (l:=[d1x]) (by kernel_rfl) (.cons (a0o rfl (a0q (sh:=b5d) (shX:=b5e) (fun f v=>d8v e2a e2b b5f b5g f v) d1y ((false,(ByteArray.empty,())),()))) (.nil)))) fun x=>f8u e2a e2b b5f b5g x
abbrev A83:Ty:=.cons (.int .i64) (.nil)
abbrev R83:Ty:=.cons (.str) (.nil)
noncomputable def g5A (c d a b) :=a0m tab eqs [(51,a0a A51 R51 c d),(130,a0a c9u d6A a b)] 25 [.tmp 2] [] [] [] [] []
def r83 (i:KA A51) (j:GA A51 R51) (a:KA c9u) (b:GA c9u d6A) (x:Den A83):OD R83:=bif i (x.1,-1000000000,1000000000,()) then bif !(j (x.1,-1000000000,1000000000,())).1 then some ({ data:=#[] },())else bif decide (x.1<0) then let e:=wrap .i64 (0-x.1);let k:=wrap .i64 (1000+Int.tmod e 1000);bif a (k,()) then let l:=wrap .i64 (Int.tdiv e 1000);bif a (l,()) then let g:=b (l,());bif decide (ByteArray.size { data:=#[45] }+ByteArray.size g.1<=9223372036854775807) then let c:={ data:=#[45] }++g.1;bif decide (ByteArray.size c+ByteArray.size { data:=#[46] }<=9223372036854775807) then let d:=b (k,());bif decide (0<=1)&&decide (1<=(ByteArray.size d.1:Int))&&decide ((ByteArray.size d.1:Int)<=(ByteArray.size d.1:Int)) then let h:=c++{ data:=#[46] };bif decide (ByteArray.size h+ByteArray.size (ByteArray.extract d.1 (toNat 1) (toNat (ByteArray.size d.1:Int)))<=9223372036854775807) then some (h++ByteArray.extract d.1 (toNat 1) (toNat (ByteArray.size d.1:Int)),())else none else none else none else none else none else none else let e:=wrap .i64 (1000+Int.tmod x.1 1000);bif a (e,()) then let m:=wrap .i64 (Int.tdiv x.1 1000);bif a (m,()) then let n:=b (m,());bif decide (ByteArray.size { data:=#[] }+ByteArray.size n.1<=9223372036854775807) then let g:={ data:=#[] }++n.1;bif decide (ByteArray.size g+ByteArray.size { data:=#[46] }<=9223372036854775807) then let c:=b (e,());bif decide (0<=1)&&decide (1<=(ByteArray.size c.1:Int))&&decide ((ByteArray.size c.1:Int)<=(ByteArray.size c.1:Int)) then let d:=g++{ data:=#[46] };bif decide (ByteArray.size d+ByteArray.size (ByteArray.extract c.1 (toNat 1) (toNat (ByteArray.size c.1:Int)))<=9223372036854775807) then some (d++ByteArray.extract c.1 (toNat 1) (toNat (ByteArray.size c.1:Int)),())else none else none else none else none else none else none else none
theorem g5B (c d a b x) :a0t (g5A c d a b) (a0b Tryz.f83) (a1a R83) (a0M A83 x) []=r83 c d a b x:=by kernel_rfl
def F83 (x:Den A83):OD R83:=r83 K51 G51 d1z b2m x
def K83 (x:Den A83):Bool:=(F83 x).isSome
def G83 (x:Den A83):Den R83:=(F83 x).getD (zero R83)
theorem f0C:a0k Tryz.prog (83,a0a A83 R83 K83 G83):=fnO (.cons a9G (.cons e2c .nil)) Tryz.func83 (g5B K51 G51 d1z b2m)
abbrev A53:Ty:=.cons (.slice (S97)) (.nil)
abbrev R53:Ty:=.cons (.bool) (.nil)
abbrev a9I:Type:=(((List (Den (S97)))×(Int×Unit))×Unit)
def c4P:ShS:=⟨[(0,.one (.sl (S97))),(3,.one (.int .i64))],[],0,0⟩
abbrev d1A:Type:=(((List (Den (S97)))×Unit)×Unit)
def c2O:ShS:=⟨[(0,.one (.sl (S97)))],[],0,0⟩
abbrev d1B:Type:=((Bool×Unit)×Unit)
def c2P:ShS:=⟨[(2,.one (.bool))],[],0,0⟩
noncomputable def g4d (a b c d e g h i) :=a0m tab eqs [(98,a0a A98 R98 a b),(51,a0a A51 R51 c d)] 47 [.tmp 2] [] [] [(2,a2d [0,3] [] 0 [0] [] c4P c2O c2P e h g i)] [] []
noncomputable def e2d:Code:=(a0p (a0b Tryz.f53)).getD 0 .skip
def d1C (b:KA A98) (c:GA A98 R98) (d:KA A51) (e:GA A51 R51) (f:a9I->Option (d1A⊕d1B)) (v:a9I):Option (d1A⊕d1B):=let g:=(length v.1.1:Int);bif decide (v.1.2.1<g) then let h:=decide (0<=v.1.2.1)&&decide (v.1.2.1<g);bif h then let a:=getD v.1.1 (toNat v.1.2.1) (zero S97);bif b (a.1,()) then bif !(c (a.1,())).1 then some (Sum.inr ((false,()),()))else bif h then bif d (a.2.1,0,10000000,()) then bif !(e (a.2.1,0,10000000,())).1 then some (Sum.inr ((false,()),()))else bif decide (v.1.2.1>0) then bif h then let i:=wrap .i64 (v.1.2.1-1);bif decide (0<=i)&&decide (i<g) then bif decide (a.2.1<=(getD v.1.1 (toNat i) (zero S97)).2.1) then some (Sum.inr ((false,()),()))else f (((v.1.1,wrap .i64 (v.1.2.1+1),()),()))else none else none else f (((v.1.1,wrap .i64 (v.1.2.1+1),()),()))else none else none else none else none else some (Sum.inl ((v.1.1,()),()))
theorem e5B (a b c d e g h i f v) :EBk (g4d a b c d e g h i) e2d (a0z [0,3] [] 0 [0] [] (atS c4P f) (a6c c2O c2P)) (mkS c4P v)=d1C a b c d f v:=by kernel_rfl
def e5C (v:a9I):Nat:=v.1.1.length+v.1.2.1.natAbs+1000
def d1D (v:a9I):Option (d1A⊕d1B):=a1t (d1C K98 G98 K51 G51) (e5C v) v
def c4Q (v:a9I):Bool:=(d1D v).isSome
def c4R (v:a9I):Bool:=isR (d1D v)
def c4S (v:a9I):d1A:=xOf (([],()),()) (d1D v)
def c4T (v:a9I):d1B:=yOf ((false,()),()) (d1D v)
def r53 (e:KA A98) (g:GA A98 R98) (h:KA A51) (i:GA A51 R51) (a:a9I->Bool) (b:a9I->d1A) (c:a9I->Bool) (d:a9I->d1B) (x:Den A53):OD R53:=bif a ((x.1,0,()),()) then bif c ((x.1,0,()),()) then some (d ((x.1,0,()),())).1 else some (decide ((↑(length (b ((x.1,0,()),())).1.1):Int)<=200),())else none
theorem g5C (a b c d e g h i x) :a0t (g4d a b c d e g h i) (a0b Tryz.f53) (a1a R53) (a0M A53 x) []=r53 a b c d e g h i x:=by kernel_rfl
def F53 (x:Den A53):OD R53:=r53 K98 G98 K51 G51 c4Q c4S c4R c4T x
def K53 (x:Den A53):Bool:=(F53 x).isSome
def G53 (x:Den A53):Den R53:=(F53 x).getD (zero R53)
theorem f8v:a0k Tryz.prog (53,a0a A53 R53 K53 G53):=a1d (a0v mixed a0x a0w (.cons d8d (.cons a9G .nil))) (a1H Tryz.func53 rfl rfl rfl (by kernel_rfl) (a0y (l:=[e2d]) (by kernel_rfl) (.cons (a0o rfl (a0u (sh:=c4P) (shX:=c2O) (shR:=c2P) (fun f v=>e5B K98 G98 K51 G51 c4Q c4S c4R c4T f v) e5C (([],()),()) ((false,()),()))) (.nil)))) fun x=>g5C K98 G98 K51 G51 c4Q c4S c4R c4T x
abbrev c9v:Ty:=.cons (.cpx .f32) (.nil)
abbrev d6B:Ty:=.cons (.cpx .f64) (.nil)
noncomputable def f8w:Env:=a0m tab eqs [] 5 [.tmp 2] [] [] [] [] []
def g4e (x:Den c9v):OD d6B:=some (((a0N .f32 .f64 x.1.1).2,(a0N .f32 .f64 x.1.2).2),())
theorem f8x (x) :a0t (f8w) (a0b Tryz.f219) (a1a d6B) (a0M c9v x) []=g4e x:=by kernel_rfl
def f5c (x:Den c9v):OD d6B:=g4e x
def e5D (x:Den c9v):Bool:=(f5c x).isSome
def e5E (x:Den c9v):Den d6B:=(f5c x).getD (zero d6B)
theorem e2e:a0k Tryz.prog (219,a0a c9v d6B e5D e5E):=fnO .nil Tryz.func219 f8x
abbrev c4U:Ty:=.cons (.cpx .f64) (.cons (.cpx .f64) (.nil))
abbrev d1E:Ty:=.cons (.flt .f64) (.nil)
noncomputable def f8y:Env:=a0m tab eqs [] 16 [.tmp 4] [] [] [] [] []
def g4f (x:Den c4U):OD d1E:=some (a0g .add .f64 (a0g .mul .f64 x.1.1 x.2.1.1) (a0g .mul .f64 x.1.2 x.2.1.2),())
theorem f8z (x) :a0t (f8y) (a0b Tryz.f256) (a1a d1E) (a0M c4U x) []=g4f x:=by kernel_rfl
def f0D (x:Den c4U):OD d1E:=g4f x
def d1F (x:Den c4U):Bool:=(f0D x).isSome
def d1G (x:Den c4U):Den d1E:=(f0D x).getD (zero d1E)
theorem e2f:a0k Tryz.prog (256,a0a c4U d1E d1F d1G):=fnO .nil Tryz.func256 f8z
abbrev c1Y:Ty:=.nil
abbrev c9w:Ty:=.cons (.cpx .f64) (.nil)
noncomputable def f8A:Env:=a0m tab eqs [] 1 [.tmp 0] [] [] [] [] []
def g4g (x:Den c1Y):OD c9w:=some ((4607181046959943561,4580687535080594718),())
theorem f8B (x) :a0t (f8A) (a0b Tryz.f217) (a1a c9w) (a0M c1Y x) []=g4g x:=by kernel_rfl
def f5d (x:Den c1Y):OD c9w:=g4g x
def c7W (x:Den c1Y):Bool:=(f5d x).isSome
def c7X (x:Den c1Y):Den c9w:=(f5d x).getD (zero c9w)
theorem e2g:a0k Tryz.prog (217,a0a c1Y c9w c7W c7X):=fnO .nil Tryz.func217 f8B
abbrev c1Z:Ty:=.cons (.cpx .f64) (.cons (.cpx .f64) (.nil))
abbrev c9x:Ty:=.cons (.cpx .f64) (.nil)
noncomputable def f8C:Env:=a0m tab eqs [] 32 [.tmp 4] [] [] [] [] []
def g4h (x:Den c1Z):OD c9x:=some ((a0g .sub .f64 (a0g .mul .f64 x.1.1 x.2.1.1) (a0g .mul .f64 x.1.2 x.2.1.2),a0g .add .f64 (a0g .mul .f64 x.1.1 x.2.1.2) (a0g .mul .f64 x.1.2 x.2.1.1)),())
theorem f8D (x) :a0t (f8C) (a0b Tryz.f216) (a1a c9x) (a0M c1Z x) []=g4h x:=by kernel_rfl
def f0E (x:Den c1Z):OD c9x:=g4h x
def c7Y (x:Den c1Z):Bool:=(f0E x).isSome
def c7Z (x:Den c1Z):Den c9x:=(f0E x).getD (zero c9x)
theorem e2h:a0k Tryz.prog (216,a0a c1Z c9x c7Y c7Z):=fnO .nil Tryz.func216 f8D
abbrev d8w:Ty:=.cons (.cpx .f64) (.nil)
abbrev e2i:Ty:=.cons (.int .i64) (.nil)
abbrev a9g:Type:=(((Nat×Nat)×(Int×((Nat×Nat)×(Nat×(Int×Unit)))))×Unit)
def b5h:ShS:=⟨[(0,.one (.cpx .f64)),(3,.one (.int .i64)),(4,.one (.cpx .f64)),(5,.one (.flt .f64)),(6,.one (.int .i64))],[],0,0⟩
abbrev b9J:Type:=((Int×Unit)×Unit)
def b5i:ShS:=⟨[(3,.one (.int .i64))],[],0,0⟩
noncomputable def f0F (h i a b c d e g j k) :=a0m tab eqs [(96,a0a A96 R96 h i),(256,a0a c4U d1E a b),(217,a0a c1Y c9w c d),(216,a0a c1Z c9x e g)] 34 [.tmp 2] [] [] [(7,a1Q [0,3,4,5,6] [] 0 [3] [] b5h b5i j k)] [] []
noncomputable def d1H:Code:=(a0p (a0b Tryz.f218)).getD 0 .skip
def b9K (k:KA A96) (l:GA A96 R96) (a:KA c4U) (b:GA c4U d1E) (c:KA c1Y) (d:GA c1Y c9w) (e:KA c1Z) (g:GA c1Z c9x) (f:a9g->Option (b9J)) (v:a9g):Option (b9J):=bif decide (v.1.2.2.2.2.1<360) then bif c () then let i:=d ();bif e (v.1.2.2.1,i) then let h:=g (v.1.2.2.1,i);bif a (v.1.1,h) then let j:=b (v.1.1,h);bif fgt .f64 j.1 v.1.2.2.2.1 then f (((v.1.1,v.1.2.2.2.2.1,h.1,j.1,wrap .i64 (v.1.2.2.2.2.1+1),()),()))else f (((v.1.1,v.1.2.1,h.1,v.1.2.2.2.1,wrap .i64 (v.1.2.2.2.2.1+1),()),()))else none else none else none else some ((v.1.2.1,()),())
theorem d8x (h i a b c d e g j k f v) :EBk (f0F h i a b c d e g j k) d1H (a0z [0,3,4,5,6] [] 0 [3] [] (atS b5h f) (a4X b5i)) (mkS b5h v)=b9K h i a b c d e g f v:=by kernel_rfl
def c4V (v:a9g):Nat:=v.1.2.1.natAbs+v.1.2.2.2.2.1.natAbs+1000
def d1I (v:a9g):Option (b9J):=a1t (b9K K96 G96 d1F d1G c7W c7X c7Y c7Z) (c4V v) v
def b5j (v:a9g):Bool:=(d1I v).isSome
def b5k (v:a9g):b9J:=(d1I v).getD ((0,()),())
def f8E (c:KA A96) (d:GA A96 R96) (a:KA c4U) (b:GA c4U d1E) (h:KA c1Y) (i:GA c1Y c9w) (j:KA c1Z) (k:GA c1Z c9x) (e:a9g->Bool) (g:a9g->b9J) (x:Den d8w):OD e2i:=bif c x then bif !(d x).1 then some (-1,())else bif feq .f64 x.1.1 0&&feq .f64 x.1.2 0 then some (-1,())else bif a (x.1,(4607182418800017408,0),()) then let l:=b (x.1,(4607182418800017408,0),());bif e ((x.1,0,(4607182418800017408,0),l.1,1,()),()) then some (g ((x.1,0,(4607182418800017408,0),l.1,1,()),())).1 else none else none else none
theorem f8F (h i a b c d e g j k x) :a0t (f0F h i a b c d e g j k) (a0b Tryz.f218) (a1a e2i) (a0M d8w x) []=f8E h i a b c d e g j k x:=by kernel_rfl
def f0G (x:Den d8w):OD e2i:=f8E K96 G96 d1F d1G c7W c7X c7Y c7Z b5j b5k x
def f5e (x:Den d8w):Bool:=(f0G x).isSome
def f5f (x:Den d8w):Den e2i:=(f0G x).getD (zero e2i)
theorem f0H:a0k Tryz.prog (218,a0a d8w e2i f5e f5f):=a1d (a0v mixed a0x a0w (.cons d8c (.cons e2f (.cons e2g (.cons e2h .nil))))) (a1H Tryz.func218 rfl rfl rfl (by kernel_rfl) (a0y (l:=[d1H]) (by kernel_rfl) (.cons (a0o rfl (a0q (sh:=b5h) (shX:=b5i) (fun f v=>d8x K96 G96 d1F d1G c7W c7X c7Y c7Z b5j b5k f v) c4V ((0,()),()))) (.nil)))) fun x=>f8F K96 G96 d1F d1G c7W c7X c7Y c7Z b5j b5k x
abbrev c9y:Ty:=.cons (.cpx .f32) (.nil)
abbrev d6C:Ty:=.cons (.int .i64) (.nil)
noncomputable def f8G (e g a b c d) :=a0m tab eqs [(52,a0a A52 R52 e g),(219,a0a c9v d6B a b),(218,a0a d8w e2i c d)] 19 [.tmp 2] [] [] [] [] []
def f8H (e:KA A52) (g:GA A52 R52) (a:KA c9v) (b:GA c9v d6B) (c:KA d8w) (d:GA d8w e2i) (x:Den c9y):OD d6C:=bif e x then bif !(g x).1 then some (-1,())else bif feq .f32 x.1.1 0&&feq .f32 x.1.2 0 then some (-1,())else let h:=a3G .f32 x.1.1;let i:=a3G .f32 x.1.2;bif a ((h,i),()) then let j:=b ((h,i),());bif c j then some (d j)else none else none else none
theorem f8I (e g a b c d x) :a0t (f8G e g a b c d) (a0b Tryz.f171) (a1a d6C) (a0M c9y x) []=f8H e g a b c d x:=by kernel_rfl
def f0I (x:Den c9y):OD d6C:=f8H K52 G52 e5D e5E f5e f5f x
def e2j (x:Den c9y):Bool:=(f0I x).isSome
def d1J (x:Den c9y):Den d6C:=(f0I x).getD (zero d6C)
theorem e2k:a0k Tryz.prog (171,a0a c9y d6C e2j d1J):=fnO (.cons d1f (.cons e2e (.cons f0H .nil))) Tryz.func171 (f8I K52 G52 e5D e5E f5e f5f)
abbrev d8y:Ty:=.cons (.flt .f64) (.nil)
abbrev e2l:Ty:=.cons (.flt .f64) (.nil)
abbrev a9h:Type:=((Nat×(Nat×(Int×Unit)))×Unit)
def b5l:ShS:=⟨[(0,.one (.flt .f64)),(3,.one (.flt .f64)),(4,.one (.int .i64))],[],0,0⟩
abbrev b9L:Type:=((Nat×Unit)×Unit)
def b5m:ShS:=⟨[(3,.one (.flt .f64))],[],0,0⟩
noncomputable def f0J (a b) :=a0m tab eqs [] 26 [.tmp 2] [] [] [(7,a1Q [0,3,4] [] 0 [3] [] b5l b5m a b)] [] []
noncomputable def d1K:Code:=(a0p (a0b Tryz.f257)).getD 0 .skip
def b9M (f:a9h->Option (b9L)) (v:a9h):Option (b9L):=bif decide (v.1.2.2.1<60) then f (((v.1.1,a0g .quo .f64 (a0g .add .f64 v.1.2.1 (a0g .quo .f64 v.1.1 v.1.2.1)) 4611686018427387904,wrap .i64 (v.1.2.2.1+1),()),()))else some ((v.1.2.1,()),())
theorem d8z (a b f v) :EBk (f0J a b) d1K (a0z [0,3,4] [] 0 [3] [] (atS b5l f) (a4X b5m)) (mkS b5l v)=b9M f v:=by kernel_rfl
def c4W (v:a9h):Nat:=v.1.2.2.1.natAbs+1000
def d1L (v:a9h):Option (b9L):=a1t (b9M) (c4W v) v
def b5n (v:a9h):Bool:=(d1L v).isSome
def b5o (v:a9h):b9L:=(d1L v).getD ((0,()),())
def f8J (a:a9h->Bool) (b:a9h->b9L) (x:Den d8y):OD e2l:=bif fgt .f64 x.1 4427486594234968593||feq .f64 x.1 4427486594234968593 then bif !(flt .f64 x.1 4861130398305394688||feq .f64 x.1 4861130398305394688) then some (0,())else bif flt .f64 x.1 4607182418800017408 then let c:=((x.1,4607182418800017408,0,()),());bif a c then some (b c).1 else none else bif a ((x.1,x.1,0,()),()) then some (b ((x.1,x.1,0,()),())).1 else none else some (0,())
theorem f8K (a b x) :a0t (f0J a b) (a0b Tryz.f257) (a1a e2l) (a0M d8y x) []=f8J a b x:=by kernel_rfl
def f0K (x:Den d8y):OD e2l:=f8J b5n b5o x
def f5g (x:Den d8y):Bool:=(f0K x).isSome
def f5h (x:Den d8y):Den e2l:=(f0K x).getD (zero e2l)
theorem f0L:a0k Tryz.prog (257,a0a d8y e2l f5g f5h):=a1d (a0v mixed a0x a0w .nil) (a1H Tryz.func257 rfl rfl rfl (by kernel_rfl) (a0y (l:=[d1K]) (by kernel_rfl) (.cons (a0o rfl (a0q (sh:=b5l) (shX:=b5m) (fun f v=>d8z b5n b5o f v) c4W ((0,()),()))) (.nil)))) fun x=>f8K b5n b5o x
abbrev d8A:Ty:=.cons (.cpx .f64) (.nil)
abbrev e2m:Ty:=.cons (.flt .f64) (.nil)
noncomputable def f8L (e g a b c d) :=a0m tab eqs [(96,a0a A96 R96 e g),(256,a0a c4U d1E a b),(257,a0a d8y e2l c d)] 10 [.tmp 2] [] [] [] [] []
def f8M (e:KA A96) (g:GA A96 R96) (a:KA c4U) (b:GA c4U d1E) (c:KA d8y) (d:GA d8y e2l) (x:Den d8A):OD e2m:=bif e x then bif !(g x).1 then some (0,())else bif a (x.1,x) then let h:=b (x.1,x);bif c h then some (d h)else none else none else none
theorem f8N (e g a b c d x) :a0t (f8L e g a b c d) (a0b Tryz.f222) (a1a e2m) (a0M d8A x) []=f8M e g a b c d x:=by kernel_rfl
def f0M (x:Den d8A):OD e2m:=f8M K96 G96 d1F d1G f5g f5h x
def f5i (x:Den d8A):Bool:=(f0M x).isSome
def f5j (x:Den d8A):Den e2m:=(f0M x).getD (zero e2m)
theorem f0N:a0k Tryz.prog (222,a0a d8A e2m f5i f5j):=fnO (.cons d8c (.cons e2f (.cons f0L .nil))) Tryz.func222 (f8N K96 G96 d1F d1G f5g f5h)
abbrev c9z:Ty:=.cons (.cpx .f32) (.nil)
abbrev d6D:Ty:=.cons (.flt .f32) (.nil)
noncomputable def f8O (e g a b c d) :=a0m tab eqs [(52,a0a A52 R52 e g),(219,a0a c9v d6B a b),(222,a0a d8A e2m c d)] 10 [.tmp 2] [] [] [] [] []
def f8P (e:KA A52) (g:GA A52 R52) (a:KA c9v) (b:GA c9v d6B) (c:KA d8A) (d:GA d8A e2m) (x:Den c9z):OD d6D:=bif e x then bif !(g x).1 then some (0,())else bif a x then let h:=b x;bif c h then let i:=d h;bif (a0N .f64 .f32 i.1).1 then some ((a0N .f64 .f32 i.1).2,())else none else none else none else none
theorem f8Q (e g a b c d x) :a0t (f8O e g a b c d) (a0b Tryz.f173) (a1a d6D) (a0M c9z x) []=f8P e g a b c d x:=by kernel_rfl
def f0O (x:Den c9z):OD d6D:=f8P K52 G52 e5D e5E f5i f5j x
def e2n (x:Den c9z):Bool:=(f0O x).isSome
def d8B (x:Den c9z):Den d6D:=(f0O x).getD (zero d6D)
theorem e2o:a0k Tryz.prog (173,a0a c9z d6D e2n d8B):=fnO (.cons d1f (.cons e2e (.cons f0N .nil))) Tryz.func173 (f8Q K52 G52 e5D e5E f5i f5j)
abbrev c4X:Ty:=.cons (.int .i64) (.nil)
abbrev d1M:Ty:=.cons (.int .i64) (.nil)
noncomputable def f8R:Env:=a0m tab eqs [] 7 [.tmp 2] [] [] [] [] []
def g4i (x:Den c4X):OD d1M:=some (Int.tmod (wrap .i64 (Int.tmod x.1 360+360)) 360,())
theorem f8S (x) :a0t (f8R) (a0b Tryz.f215) (a1a d1M) (a0M c4X x) []=g4i x:=by kernel_rfl
def e5F (x:Den c4X):OD d1M:=g4i x
def d6E (x:Den c4X):Bool:=(e5F x).isSome
def d6F (x:Den c4X):Den d1M:=(e5F x).getD (zero d1M)
theorem e2p:a0k Tryz.prog (215,a0a c4X d1M d6E d6F):=fnO .nil Tryz.func215 f8S
abbrev c9A:Ty:=.cons (.int .i64) (.cons (.int .i64) (.nil))
abbrev d6G:Ty:=.cons (.int .i64) (.nil)
noncomputable def f8T (a b) :=a0m tab eqs [(215,a0a c4X d1M a b)] 19 [.tmp 4] [] [] [] [] []
def f8U (a:KA c4X) (b:GA c4X d1M) (x:Den c9A):OD d6G:=bif a x.2 then bif a (x.1,()) then let d:=wrap .i64 ((b x.2).1-(b (x.1,())).1);bif a (d,()) then let c:=b (d,());let e:=wrap .i64 (360-c.1);bif decide (c.1>e) then some (e,())else some c else none else none else none
theorem f8V (a b x) :a0t (f8T a b) (a0b Tryz.f174) (a1a d6G) (a0M c9A x) []=f8U a b x:=by kernel_rfl
def f0P (x:Den c9A):OD d6G:=f8U d6E d6F x
def e2q (x:Den c9A):Bool:=(f0P x).isSome
def d8C (x:Den c9A):Den d6G:=(f0P x).getD (zero d6G)
theorem e2r:a0k Tryz.prog (174,a0a c9A d6G e2q d8C):=fnO (.cons e2p .nil) Tryz.func174 (f8V d6E d6F)
abbrev c2a:Ty:=.cons (.flt .f32) (.cons (.flt .f32) (.cons (.flt .f32) (.nil)))
abbrev c9B:Ty:=.cons (.flt .f32) (.nil)
noncomputable def f8W:Env:=a0m tab eqs [] 16 [.tmp 6] [] [] [] [] []
def g4j (x:Den c2a):OD c9B:=some (a0g .add .f32 x.1 (a0g .mul .f32 (a0g .sub .f32 x.2.1 x.1) x.2.2.1),())
theorem f8X (x) :a0t (f8W) (a0b Tryz.f221) (a1a c9B) (a0M c2a x) []=g4j x:=by kernel_rfl
def g4k (x:Den c2a):OD c9B:=g4j x
def d1N (x:Den c2a):Bool:=(g4k x).isSome
def d1O (x:Den c2a):Den c9B:=(g4k x).getD (zero c9B)
theorem e2s:a0k Tryz.prog (221,a0a c2a c9B d1N d1O):=fnO .nil Tryz.func221 f8X
abbrev d1P:Ty:=.cons (.slice (.int .i64)) (.cons (.slice (.flt .f32)) (.cons (.int .i64) (.nil)))
abbrev d8D:Ty:=.cons (.flt .f32) (.nil)
abbrev a9i:Type:=(((List (Den (.int .i64)))×((List (Den (.flt .f32)))×(Int×(Int×Unit))))×Unit)
def b5p:ShS:=⟨[(0,.one (.sl (.int .i64))),(1,.one (.sl (.flt .f32))),(2,.one (.int .i64)),(7,.one (.int .i64))],[],0,0⟩
abbrev b9N:Type:=(((List (Den (.int .i64)))×((List (Den (.flt .f32)))×(Int×(Int×Unit))))×Unit)
def b5q:ShS:=⟨[(0,.one (.sl (.int .i64))),(1,.one (.sl (.flt .f32))),(2,.one (.int .i64)),(7,.one (.int .i64))],[],0,0⟩
noncomputable def f0Q (a b c d) :=a0m tab eqs [(221,a0a c2a c9B a b)] 58 [.tmp 6] [] [] [(2,a1Q [0,1,2,7] [] 0 [0,1,2,7] [] b5p b5q c d)] [] []
noncomputable def d1Q:Code:=(a0p (a0b Tryz.f220)).getD 0 .skip
def b9O (a:KA c2a) (b:GA c2a c9B) (f:a9i->Option (b9N)) (v:a9i):Option (b9N):=bif decide (0<=v.1.2.2.2.1)&&decide (v.1.2.2.2.1<(length v.1.1:Int)) then bif decide ((getD v.1.1 (toNat v.1.2.2.2.1) (zero (Ty.int IntKind.i64)))<v.1.2.2.1) then f (((v.1.1,v.1.2.1,v.1.2.2.1,wrap .i64 (v.1.2.2.2.1+1),()),()))else some (v)else none
theorem d8E (a b c d f v) :EBk (f0Q a b c d) d1Q (a0z [0,1,2,7] [] 0 [0,1,2,7] [] (atS b5p f) (a4X b5q)) (mkS b5p v)=b9O a b f v:=by kernel_rfl
def c4Y (v:a9i):Nat:=v.1.1.length+v.1.2.1.length+v.1.2.2.1.natAbs+v.1.2.2.2.1.natAbs+1000
def d1R (v:a9i):Option (b9N):=a1t (b9O d1N d1O) (c4Y v) v
def b5r (v:a9i):Bool:=(d1R v).isSome
def b5s (v:a9i):b9N:=(d1R v).getD (([],([],(0,(0,())))),())
def f8Y (c:KA c2a) (d:GA c2a c9B) (e:a9i->Bool) (g:a9i->b9N) (x:Den d1P):OD d8D:=bif e ((x.1,x.2.1,x.2.2.1,0,()),()) then let a:=g ((x.1,x.2.1,x.2.2.1,0,()),());bif decide (0<=a.1.2.2.2.1)&&decide (a.1.2.2.2.1<(length a.1.1:Int)) then let h:=getD a.1.1 (toNat a.1.2.2.2.1) (zero (Ty.int IntKind.i64));bif h==a.1.2.2.1 then bif decide (0<=a.1.2.2.2.1)&&decide (a.1.2.2.2.1<(length a.1.2.1:Int)) then some (getD a.1.2.1 (toNat a.1.2.2.2.1) (zero (Ty.flt .f32)),())else none else let b:=wrap .i64 (a.1.2.2.2.1-1);bif decide (0<=b)&&decide (b<(length a.1.1:Int)) then bif decide (0<=a.1.2.2.2.1)&&decide (a.1.2.2.2.1<(length a.1.1:Int)) then bif decide (0<=b)&&decide (b<(length a.1.1:Int)) then bif decide (0<=b)&&decide (b<(length a.1.2.1:Int)) then bif decide (0<=a.1.2.2.2.1)&&decide (a.1.2.2.2.1<(length a.1.2.1:Int)) then let i:=getD a.1.2.1 (toNat b) (zero (Ty.flt .f32));let j:=getD a.1.2.1 (toNat a.1.2.2.2.1) (zero (Ty.flt .f32));let k:=getD a.1.1 (toNat b) (zero (Ty.int IntKind.i64));let l:=a0g .quo .f32 (nearest .f32 (wrap .i64 (a.1.2.2.1-k))) (nearest .f32 (wrap .i64 (h-k)));bif c (i,j,l,()) then some (d (i,j,l,()))else none else none else none else none else none else none else none else none
theorem f8Z (a b c d x) :a0t (f0Q a b c d) (a0b Tryz.f220) (a1a d8D) (a0M d1P x) []=f8Y a b c d x:=by kernel_rfl
def e2t (x:Den d1P):OD d8D:=f8Y d1N d1O b5r b5s x
def e5G (x:Den d1P):Bool:=(e2t x).isSome
def e5H (x:Den d1P):Den d8D:=(e2t x).getD (zero d8D)
theorem f0R:a0k Tryz.prog (220,a0a d1P d8D e5G e5H):=a1d (a0v mixed a0x a0w (.cons e2s .nil)) (a1H Tryz.func220 rfl rfl rfl (by kernel_rfl) (a0y (l:=[d1Q]) (by kernel_rfl) (.cons (a0o rfl (a0q (sh:=b5p) (shX:=b5q) (fun f v=>d8E d1N d1O b5r b5s f v) c4Y (([],([],(0,(0,())))),()))) (.nil)))) fun x=>f8Z d1N d1O b5r b5s x
abbrev d8F:Ty:=.cons (S27) (.cons (.flt .f32) (.cons (.int .i64) (.nil)))
abbrev e2u:Ty:=.cons (.flt .f32) (.cons (.bool) (.nil))
abbrev a5G:Type:=((Nat×(Int×(Unit×(Int×Unit))))×(((List (Den (.flt .f32)))×((List (Den (.int .i64)))×((List (Den (.slice (.flt .f32))))×Unit)))×Unit))
def b0b:ShS:=⟨[(1,.one (.flt .f32)),(2,.one (.int .i64)),(3,.one (.ptr 0 0)),(10,.one (.int .i64))],[(0,.box [.sl (.flt .f32),.sl (.int .i64),.sl (.slice (.flt .f32))])],1,0⟩
abbrev b1l:Type:=((Nat×(Int×(Unit×(Int×Unit))))×(((List (Den (.flt .f32)))×((List (Den (.int .i64)))×((List (Den (.slice (.flt .f32))))×Unit)))×Unit))
def b1m:ShS:=⟨[(1,.one (.flt .f32)),(2,.one (.int .i64)),(3,.one (.ptr 0 0)),(10,.one (.int .i64))],[(0,.box [.sl (.flt .f32),.sl (.int .i64),.sl (.slice (.flt .f32))])],1,0⟩
noncomputable def f0S (h i j k a b c d e g) :=a0m tab eqs [(99,a0a A99 R99 h i),(51,a0a A51 R51 j k),(220,a0a d1P d8D a b),(221,a0a c2a c9B c d)] 123 [.tmp 6,.tmp 7] [] [] [(10,a1Q [1,2,3,10] [] 0 [1,2,3,10] [] b0b b1m e g)] [] []
noncomputable def c4Z:Code:=(a0p (a0b Tryz.f172)).getD 0 .skip
def b1n (h:KA A99) (i:GA A99 R99) (j:KA A51) (k:GA A51 R51) (b:KA d1P) (c:GA d1P d8D) (d:KA c2a) (e:GA c2a c9B) (f:a5G->Option (b1l)) (v:a5G):Option (b1l):=let a:=wrap .i64 (v.1.2.2.2.1+1);bif decide (0<=a)&&decide (a<(length v.2.1.1:Int)) then let g:=getD v.2.1.1 (toNat a) (zero (Ty.flt .f32));bif flt .f32 g v.1.1||feq .f32 g v.1.1 then f (((v.1.1,v.1.2.1,(),a,()),v.2))else some (v)else none
theorem d1S (e g h i a b c d j k f v) :EBk (f0S e g h i a b c d j k) c4Z (a0z [1,2,3,10] [] 0 [1,2,3,10] [] (atS b0b f) (a4X b1m)) (mkS b0b v)=b1n e g h i a b c d f v:=by kernel_rfl
def b5t (v:a5G):Nat:=v.1.2.1.natAbs+v.1.2.2.2.1.natAbs+v.2.1.1.length+v.2.1.2.1.length+v.2.1.2.2.1.length+1000
def c2Q (v:a5G):Option (b1l):=a1t (b1n K99 G99 K51 G51 e5G e5H d1N d1O) (b5t v) v
def b0c (v:a5G):Bool:=(c2Q v).isSome
def b0d (v:a5G):b1l:=(c2Q v).getD ((0,(0,((),(0,())))),(([],([],([],()))),()))
def f9a (q:KA A99) (r:GA A99 R99) (s:KA A51) (t:GA A51 R51) (b:KA d1P) (c:GA d1P d8D) (g:KA c2a) (h:GA c2a c9B) (i:a5G->Bool) (j:a5G->b1l) (x:Den d8F):OD e2u:=bif q (x.1,()) then bif !(r (x.1,())).1 then some (0,false,())else bif fgt .f32 x.2.1 0||feq .f32 x.2.1 0 then bif !(flt .f32 x.2.1 1120403456||feq .f32 x.2.1 1120403456) then some (0,false,())else bif s (x.2.2.1,0,180,()) then bif !(t (x.2.2.1,0,180,())).1 then some (0,false,())else bif decide (0<=0)&&decide (0<(length x.1.1:Int)) then let u:=getD x.1.1 (toNat 0) (zero (Ty.flt .f32));bif flt .f32 x.2.1 u||feq .f32 x.2.1 u then bif decide (0<=0)&&decide (0<(length x.1.1:Int)) then bif decide (0<=0)&&decide (0<(length x.1.2.2.1:Int)) then let d:=getD x.1.2.2.1 (toNat 0) (zero (Ty.slice (Ty.flt .f32)));bif b (x.1.2.1,d,x.2.2) then some (a0g .mul .f32 (a0g .quo .f32 x.2.1 u) (c (x.1.2.1,d,x.2.2)).1,true,())else none else none else none else let d:=wrap .i64 ((length x.1.1:Int)-1);bif decide (0<=d)&&decide (d<(length x.1.1:Int)) then let w:=getD x.1.1 (toNat d) (zero (Ty.flt .f32));bif fgt .f32 x.2.1 w||feq .f32 x.2.1 w then bif decide (0<=d)&&decide (d<(length x.1.2.2.1:Int)) then let y:=getD x.1.2.2.1 (toNat d) (zero (Ty.slice (Ty.flt .f32)));bif b (x.1.2.1,y,x.2.2) then some ((c (x.1.2.1,y,x.2.2)).1,true,())else none else none else bif i ((x.2.1,x.2.2.1,(),0,()),x.1,()) then let a:=j ((x.2.1,x.2.2.1,(),0,()),x.1,());bif decide (0<=a.1.2.2.2.1)&&decide (a.1.2.2.2.1<(length a.2.1.1:Int)) then let e:=wrap .i64 (a.1.2.2.2.1+1);bif decide (0<=e)&&decide (e<(length a.2.1.1:Int)) then bif decide (0<=a.1.2.2.2.1)&&decide (a.1.2.2.2.1<(length a.2.1.1:Int)) then bif decide (0<=a.1.2.2.2.1)&&decide (a.1.2.2.2.1<(length a.2.1.2.2.1:Int)) then let k:=getD a.2.1.2.2.1 (toNat a.1.2.2.2.1) (zero (Ty.slice (Ty.flt .f32)));bif b (a.2.1.2.1,k,a.1.2.1,()) then bif decide (0<=e)&&decide (e<(length a.2.1.2.2.1:Int)) then let l:=getD a.2.1.2.2.1 (toNat e) (zero (Ty.slice (Ty.flt .f32)));bif b (a.2.1.2.1,l,a.1.2.1,()) then let m:=c (a.2.1.2.1,k,a.1.2.1,());let n:=c (a.2.1.2.1,l,a.1.2.1,());let o:=getD a.2.1.1 (toNat a.1.2.2.2.1) (zero (Ty.flt .f32));let p:=a0g .quo .f32 (a0g .sub .f32 a.1.1 o) (a0g .sub .f32 (getD a.2.1.1 (toNat e) (zero (Ty.flt .f32))) o);bif g (m.1,n.1,p,()) then some ((h (m.1,n.1,p,())).1,true,())else none else none else none else none else none else none else none else none else none else none else none else none else some (0,false,())else none
theorem f9b (h i j k a b c d e g x) :a0t (f0S h i j k a b c d e g) (a0b Tryz.f172) (a1a e2u) (a0M d8F x) []=f9a h i j k a b c d e g x:=by kernel_rfl
def f5k (x:Den d8F):OD e2u:=f9a K99 G99 K51 G51 e5G e5H d1N d1O b0c b0d x
def f0T (x:Den d8F):Bool:=(f5k x).isSome
def f0U (x:Den d8F):Den e2u:=(f5k x).getD (zero e2u)
theorem f0V:a0k Tryz.prog (172,a0a d8F e2u f0T f0U):=a1d (a0v mixed a0x a0w (.cons f0m (.cons a9G (.cons f0R (.cons e2s .nil))))) (a1H Tryz.func172 rfl rfl rfl (by kernel_rfl) (a0y (l:=[c4Z]) (by kernel_rfl) (.cons (a0o rfl (a0q (sh:=b0b) (shX:=b1m) (fun f v=>d1S K99 G99 K51 G51 e5G e5H d1N d1O b0c b0d f v) b5t ((0,(0,((),(0,())))),(([],([],([],()))),())))) (.nil)))) fun x=>f9b K99 G99 K51 G51 e5G e5H d1N d1O b0c b0d x
abbrev d8G:Ty:=.cons (S46) (.nil)
abbrev e2v:Ty:=.cons (.flt .f32) (.nil)
noncomputable def f9c (a b c d e g h i) :=a0m tab eqs [(171,a0a c9y d6C a b),(173,a0a c9z d6D c d),(174,a0a c9A d6G e g),(172,a0a d8F e2u h i)] 26 [.tmp 2] [] [] [] [] []
def f9d (a:KA c9y) (b:GA c9y d6C) (c:KA c9z) (d:GA c9z d6D) (e:KA c9A) (g:GA c9A d6G) (h:KA d8F) (i:GA d8F e2u) (x:Den d8G):OD e2v:=bif a (x.1.2.2.2.2.1,()) then let j:=b (x.1.2.2.2.2.1,());bif decide (j.1<0) then some (0,())else bif c (x.1.2.2.2.2.1,()) then bif e (x.1.2.2.2.1,j) then let k:=d (x.1.2.2.2.2.1,());let l:=g (x.1.2.2.2.1,j);bif h (x.1.1.1,k.1,l) then some ((i (x.1.1.1,k.1,l)).1,())else none else none else none else none
theorem f9e (a b c d e g h i x) :a0t (f9c a b c d e g h i) (a0b Tryz.f105) (a1a e2v) (a0M d8G x) []=f9d a b c d e g h i x:=by kernel_rfl
def f5l (x:Den d8G):OD e2v:=f9d e2j d1J e2n d8B e2q d8C f0T f0U x
def f0W (x:Den d8G):Bool:=(f5l x).isSome
def e5I (x:Den d8G):Den e2v:=(f5l x).getD (zero e2v)
theorem f0X:a0k Tryz.prog (105,a0a d8G e2v f0W e5I):=fnO (.cons e2k (.cons e2o (.cons e2r (.cons f0V .nil)))) Tryz.func105 (f9e e2j d1J e2n d8B e2q d8C f0T f0U)
abbrev d8H:Ty:=.cons (.int .i64) (.nil)
abbrev e2w:Ty:=.cons (.cpx .f64) (.nil)
abbrev a9j:Type:=(((Nat×Nat)×(Int×Unit))×Unit)
def b5u:ShS:=⟨[(3,.one (.cpx .f64)),(4,.one (.int .i64))],[],0,0⟩
abbrev b9P:Type:=(((Nat×Nat)×Unit)×Unit)
def b5v:ShS:=⟨[(3,.one (.cpx .f64))],[],0,0⟩
noncomputable def f0Y (a b c d e g h i) :=a0m tab eqs [(215,a0a c4X d1M a b),(217,a0a c1Y c9w c d),(216,a0a c1Z c9x e g)] 15 [.tmp 2] [] [] [(3,a1Q [3,4] [] 0 [3] [] b5u b5v h i)] [] []
noncomputable def d1T:Code:=(a0p (a0b Tryz.f170)).getD 0 .skip
def b9Q (e:KA c4X) (g:GA c4X d1M) (a:KA c1Y) (b:GA c1Y c9w) (c:KA c1Z) (d:GA c1Z c9x) (f:a9j->Option (b9P)) (v:a9j):Option (b9P):=bif decide (v.1.2.1>0) then bif a () then let h:=b ();bif c (v.1.1,h) then f ((((d (v.1.1,h)).1,wrap .i64 (v.1.2.1-1),()),()))else none else none else some ((v.1.1,()),())
theorem d8I (a b c d e g h i f v) :EBk (f0Y a b c d e g h i) d1T (a0z [3,4] [] 0 [3] [] (atS b5u f) (a4X b5v)) (mkS b5u v)=b9Q a b c d e g f v:=by kernel_rfl
def c5a (v:a9j):Nat:=v.1.2.1.natAbs+1000
def d1U (v:a9j):Option (b9P):=a1t (b9Q d6E d6F c7W c7X c7Y c7Z) (c5a v) v
def b5w (v:a9j):Bool:=(d1U v).isSome
def b5x (v:a9j):b9P:=(d1U v).getD (((0,0),()),())
def f9f (a:KA c4X) (b:GA c4X d1M) (e:KA c1Y) (g:GA c1Y c9w) (h:KA c1Z) (i:GA c1Z c9x) (c:a9j->Bool) (d:a9j->b9P) (x:Den d8H):OD e2w:=bif a x then let k:=b x;let j:=(((4607182418800017408,0),k),());bif c j then some (d j).1 else none else none
theorem f9g (a b c d e g h i x) :a0t (f0Y a b c d e g h i) (a0b Tryz.f170) (a1a e2w) (a0M d8H x) []=f9f a b c d e g h i x:=by kernel_rfl
def f5m (x:Den d8H):OD e2w:=f9f d6E d6F c7W c7X c7Y c7Z b5w b5x x
def f5n (x:Den d8H):Bool:=(f5m x).isSome
def f5o (x:Den d8H):Den e2w:=(f5m x).getD (zero e2w)
theorem f0Z:a0k Tryz.prog (170,a0a d8H e2w f5n f5o):=a1d (a0v mixed a0x a0w (.cons e2p (.cons e2g (.cons e2h .nil)))) (a1H Tryz.func170 rfl rfl rfl (by kernel_rfl) (a0y (l:=[d1T]) (by kernel_rfl) (.cons (a0o rfl (a0q (sh:=b5u) (shX:=b5v) (fun f v=>d8I d6E d6F c7W c7X c7Y c7Z b5w b5x f v) c5a (((0,0),()),()))) (.nil)))) fun x=>f9g d6E d6F c7W c7X c7Y c7Z b5w b5x x
abbrev d8J:Ty:=.cons (.int .i64) (.cons (.flt .f32) (.nil))
abbrev e2x:Ty:=.cons (.cpx .f32) (.cons (.bool) (.nil))
noncomputable def f9h (a b) :=a0m tab eqs [(170,a0a d8H e2w a b)] 27 [.tmp 4,.tmp 5] [] [] [] [] []
def f9i (a:KA d8H) (b:GA d8H e2w) (x:Den d8J):OD e2x:=bif fgt .f32 x.2.1 0||feq .f32 x.2.1 0 then bif !(flt .f32 x.2.1 1112014848||feq .f32 x.2.1 1112014848) then some ((0,0),false,())else bif a (x.1,()) then let c:=b (x.1,());let d:=a0N .f64 .f32 c.1.1;bif d.1 then let e:=a0N .f64 .f32 c.1.2;bif e.1 then some ((a0g .mul .f32 d.2 x.2.1,a0g .mul .f32 e.2 x.2.1),true,())else none else none else none else some ((0,0),false,())
theorem f9j (a b x) :a0t (f9h a b) (a0b Tryz.f104) (a1a e2x) (a0M d8J x) []=f9i a b x:=by kernel_rfl
def f5p (x:Den d8J):OD e2x:=f9i f5n f5o x
def f1a (x:Den d8J):Bool:=(f5p x).isSome
def e8W (x:Den d8J):Den e2x:=(f5p x).getD (zero e2x)
theorem f1b:a0k Tryz.prog (104,a0a d8J e2x f1a e8W):=fnO (.cons f0Z .nil) Tryz.func104 (f9j f5n f5o)
abbrev d8K:Ty:=.cons (.cpx .f32) (.cons (.cpx .f32) (.nil))
abbrev e2y:Ty:=.cons (.cpx .f32) (.cons (.bool) (.nil))
noncomputable def f9k (a b) :=a0m tab eqs [(52,a0a A52 R52 a b)] 25 [.tmp 4,.tmp 5] [] [] [] [] []
def f9l (a:KA A52) (b:GA A52 R52) (x:Den d8K):OD e2y:=bif a (x.1,()) then bif !(b (x.1,())).1 then some ((0,0),false,())else bif a x.2 then bif !(b x.2).1 then some ((0,0),false,())else some ((a0g .sub .f32 x.1.1 x.2.1.1,a0g .sub .f32 x.1.2 x.2.1.2),true,())else none else none
theorem f9m (a b x) :a0t (f9k a b) (a0b Tryz.f175) (a1a e2y) (a0M d8K x) []=f9l a b x:=by kernel_rfl
def f5q (x:Den d8K):OD e2y:=f9l K52 G52 x
def f5r (x:Den d8K):Bool:=(f5q x).isSome
def f5s (x:Den d8K):Den e2y:=(f5q x).getD (zero e2y)
theorem f1c:a0k Tryz.prog (175,a0a d8K e2y f5r f5s):=fnO (.cons d1f .nil) Tryz.func175 (f9m K52 G52)
abbrev d8L:Ty:=.cons (.cpx .f32) (.cons (.cpx .f32) (.cons (.int .i64) (.nil)))
abbrev e2z:Ty:=.cons (S63) (.cons (.bool) (.nil))
noncomputable def f9n (a b c d e g h i) :=a0m tab eqs [(175,a0a d8K e2y a b),(171,a0a c9y d6C c d),(173,a0a c9z d6D e g),(174,a0a c9A d6G h i)] 32 [.cell 6 64,.tmp 7] [] [] [] [] []
def f9o (a:KA d8K) (b:GA d8K e2y) (c:KA c9y) (d:GA c9y d6C) (e:KA c9z) (g:GA c9z d6D) (h:KA c9A) (i:GA c9A d6G) (x:Den d8L):OD e2z:=bif a (x.1,x.2.1,()) then let j:=b (x.1,x.2.1,());bif c (j.1,()) then bif !j.2.1 then some ((0,0,()),false,())else let k:=d (j.1,());bif decide (k.1<0) then some ((0,0,()),false,())else bif e (j.1,()) then bif h (x.2.2.1,k) then some (((g (j.1,())).1,i (x.2.2.1,k)),true,())else none else none else none else none
theorem f9p (a b c d e g h i x) :a0t (f9n a b c d e g h i) (a0b Tryz.f106) (a1a e2z) (a0M d8L x) []=f9o a b c d e g h i x:=by kernel_rfl
def f5t (x:Den d8L):OD e2z:=f9o f5r f5s e2j d1J e2n d8B e2q d8C x
def f1d (x:Den d8L):Bool:=(f5t x).isSome
def f1e (x:Den d8L):Den e2z:=(f5t x).getD (zero e2z)
theorem f1f:a0k Tryz.prog (106,a0a d8L e2z f1d f1e):=fnO (.cons f1c (.cons e2k (.cons e2o (.cons e2r .nil)))) Tryz.func106 (f9p f5r f5s e2j d1J e2n d8B e2q d8C)
abbrev A54:Ty:=.cons (S46) (.nil)
abbrev R54:Ty:=.cons (S63) (.cons (.bool) (.nil))
noncomputable def g5D (a b c d e g) :=a0m tab eqs [(105,a0a d8G e2v a b),(104,a0a d8J e2x c d),(106,a0a d8L e2z e g)] 27 [.cell 2 64,.tmp 3] [] [] [] [] []
def r54 (a:KA d8G) (b:GA d8G e2v) (c:KA d8J) (d:GA d8J e2x) (e:KA d8L) (g:GA d8L e2z) (x:Den A54):OD R54:=bif a x then let h:=b x;bif c (x.1.2.2.2.1,h) then let j:=d (x.1.2.2.2.1,h);let i:=(x.1.2.2.2.2.1,j.1,x.1.2.2.2.1,());bif e i then some (g i)else none else none else none
theorem g5E (a b c d e g x) :a0t (g5D a b c d e g) (a0b Tryz.f54) (a1a R54) (a0M A54 x) []=r54 a b c d e g x:=by kernel_rfl
def F54 (x:Den A54):OD R54:=r54 f0W e5I f1a e8W f1d f1e x
def K54 (x:Den A54):Bool:=(F54 x).isSome
def G54 (x:Den A54):Den R54:=(F54 x).getD (zero R54)
theorem f9q:a0k Tryz.prog (54,a0a A54 R54 K54 G54):=fnO (.cons f0X (.cons f1b (.cons f1f .nil))) Tryz.func54 (g5E f0W e5I f1a e8W f1d f1e)
abbrev A55:Ty:=.cons (S68) (.cons (S63) (.nil))
abbrev R55:Ty:=.cons (.bool) (.nil)
noncomputable def g5F (a b) :=a0m tab eqs [(51,a0a A51 R51 a b)] 47 [.tmp 4] [] [] [] [] []
def r55 (a:KA A51) (b:GA A51 R51) (x:Den A55):OD R55:=let d:=a0g .sub .f32 x.1.2.1 1065353216;bif fgt .f32 x.2.1.1 d||feq .f32 x.2.1.1 d then let e:=a0g .add .f32 x.1.2.2.1 1065353216;bif !(flt .f32 x.2.1.1 e||feq .f32 x.2.1.1 e) then some (false,())else bif decide (x.2.1.2.1<x.1.2.2.2.1) then let c:=wrap .i64 (x.1.2.2.2.1-x.2.1.2.1);bif a (c,0,5,()) then bif !(b (c,0,5,())).1 then some (false,())else bif decide (x.2.1.2.1<=x.1.2.2.2.2.1) then some (true,())else let g:=wrap .i64 (x.2.1.2.1-x.1.2.2.2.2.1);bif a (g,0,5,()) then some (b (g,0,5,()))else none else none else bif decide (x.2.1.2.1<=x.1.2.2.2.2.1) then some (true,())else let c:=wrap .i64 (x.2.1.2.1-x.1.2.2.2.2.1);bif a (c,0,5,()) then some (b (c,0,5,()))else none else some (false,())
theorem g5G (a b x) :a0t (g5F a b) (a0b Tryz.f55) (a1a R55) (a0M A55 x) []=r55 a b x:=by kernel_rfl
def F55 (x:Den A55):OD R55:=r55 K51 G51 x
def K55 (x:Den A55):Bool:=(F55 x).isSome
def G55 (x:Den A55):Den R55:=(F55 x).getD (zero R55)
theorem f9r:a0k Tryz.prog (55,a0a A55 R55 K55 G55):=fnO (.cons a9G .nil) Tryz.func55 (g5G K51 G51)
abbrev A18:Ty:=.cons (S46) (.nil)
abbrev R18:Ty:=.cons (.bool) (.nil)
noncomputable def g5H (a b c d e g h i j k l m n o) :=a0m tab eqs [(49,a0a A49 R49 a b),(50,a0a A50 R50 c d),(51,a0a A51 R51 e g),(52,a0a A52 R52 h i),(53,a0a A53 R53 j k),(54,a0a A54 R54 l m),(55,a0a A55 R55 n o)] 100 [.tmp 2] [] [] [] [] []
def r18 (m:KA A49) (n:GA A49 R49) (o:KA A50) (p:GA A50 R50) (a:KA A51) (b:GA A51 R51) (q:KA A52) (r:GA A52 R52) (s:KA A53) (t:GA A53 R53) (g:KA A54) (h:GA A54 R54) (i:KA A55) (j:GA A55 R55) (x:Den A18):OD R18:=bif m (x.1.2.2.1,()) then bif o (x.1.1,()) then bif !(p (x.1.1,())).1 then some (false,())else bif a (x.1.2.1,0,10000000,()) then bif !(b (x.1.2.1,0,10000000,())).1 then some (false,())else bif !(n (x.1.2.2.1,())).2.1 then some (false,())else bif a (x.1.2.2.2.1,0,359,()) then bif !(b (x.1.2.2.2.1,0,359,())).1 then some (false,())else bif q (x.1.2.2.2.2.1,()) then bif !(r (x.1.2.2.2.2.1,())).1 then some (false,())else let u:=(length x.1.1.2.2.1:Int);let w:=wrap .i64 (u-1);let z:=(x.1.2.2.2.2.2.1,-1,w,());bif a z then bif !(b z).1 then some (false,())else bif s (x.1.2.2.2.2.2.2.1,()) then bif !(t (x.1.2.2.2.2.2.2.1,())).1 then some (false,())else let y:=(length x.1.2.2.2.2.2.2.1:Int);bif decide (y>0) then let c:=wrap .i64 (y-1);bif decide (0<=c)&&decide (c<y) then bif decide ((getD x.1.2.2.2.2.2.2.1 (toNat c) (zero S97)).2.1>x.1.2.1) then some (false,())else bif decide ((length x.1.2.2.2.2.2.2.2.1:Int)>300) then some (false,())else bif decide (x.1.2.2.2.2.2.1 ≥ 0) then bif g x then let d:=h x;bif d.2.1 then bif decide (0<=x.1.2.2.2.2.2.1)&&decide (x.1.2.2.2.2.2.1<u) then let k:=getD x.1.1.2.2.1 (toNat x.1.2.2.2.2.2.1) (zero S68);bif i (k,d.1,()) then some (j (k,d.1,()))else none else none else some (false,())else none else some (true,())else none else bif decide ((length x.1.2.2.2.2.2.2.2.1:Int)>300) then some (false,())else bif decide (x.1.2.2.2.2.2.1 ≥ 0) then bif g x then let e:=h x;bif e.2.1 then bif decide (0<=x.1.2.2.2.2.2.1)&&decide (x.1.2.2.2.2.2.1<u) then let l:=getD x.1.1.2.2.1 (toNat x.1.2.2.2.2.2.1) (zero S68);bif i (l,e.1,()) then some (j (l,e.1,()))else none else none else some (false,())else none else some (true,())else none else none else none else none else none else none else none
theorem g5I (a b c d e g h i j k l m n o x) :a0t (g5H a b c d e g h i j k l m n o) (a0b Tryz.f18) (a1a R18) (a0M A18 x) []=r18 a b c d e g h i j k l m n o x:=by kernel_rfl
def F18 (x:Den A18):OD R18:=r18 K49 G49 K50 G50 K51 G51 K52 G52 K53 G53 K54 G54 K55 G55 x
def K18 (x:Den A18):Bool:=(F18 x).isSome
def G18 (x:Den A18):Den R18:=(F18 x).getD (zero R18)
theorem f9s:a0k Tryz.prog (18,a0a A18 R18 K18 G18):=a1d (a0v mixed a0x a0w (.cons f0l (.cons f0z (.cons a9G (.cons d1f (.cons f8v (.cons f9q (.cons f9r .nil)))))))) (a1H Tryz.func18 rfl rfl rfl (by kernel_rfl) (a0O (by kernel_rfl))) fun x=>g5I K49 G49 K50 G50 K51 G51 K52 G52 K53 G53 K54 G54 K55 G55 x
abbrev I30:Sg:=⟨[.val (.slice (.int .u8))],[]⟩
abbrev O30:Sg:=⟨[.ptr 0],[.box (a2X)]⟩
abbrev b9R:Type:=(((List (Den (.int .u8)))×(Int×(Int×Unit)))×Unit)
def c5b:ShS:=⟨[(0,.one (.sl (.int .u8))),(3,.one (.int .i64)),(4,.one (.int .i64))],[],0,0⟩
abbrev d1V:Type:=(((List (Den (.int .u8)))×(Int×Unit))×Unit)
def c2R:ShS:=⟨[(0,.one (.sl (.int .u8))),(3,.one (.int .i64))],[],0,0⟩
noncomputable def g4l (a b) :=a0m tab eqs [] 32 [.tmp 2] [] [] [(3,a1Q [0,3,4] [] 0 [0,3] [] c5b c2R a b)] [] []
noncomputable def e2A:Code:=(a0p (a0b Tryz.f30)).getD 0 .skip
def d8M (f:b9R->Option (d1V)) (v:b9R):Option (d1V):=bif decide (v.1.2.2.1<(length v.1.1:Int)) then bif decide (v.1.2.2.1<4000) then bif decide (0<=v.1.2.2.1)&&decide (v.1.2.2.1<(length v.1.1:Int)) then f (((v.1.1,a2u BinOp.and IntKind.i64 (wrap .i64 ((wrap .i64 ((wrap .i64 (v.1.2.1*131))+(wrap .i64 (getD v.1.1 (toNat v.1.2.2.1) (zero (Ty.int IntKind.u8))))))+7)) 1073741823,wrap .i64 (v.1.2.2.1+1),()),()))else none else some ((v.1.1,v.1.2.1,()),())else some ((v.1.1,v.1.2.1,()),())
theorem e5J (a b f v) :EBk (g4l a b) e2A (a0z [0,3,4] [] 0 [0,3] [] (atS c5b f) (a4X c2R)) (mkS c5b v)=d8M f v:=by kernel_rfl
def e5K (v:b9R):Nat:=v.1.1.length+v.1.2.1.natAbs+v.1.2.2.1.natAbs+1000
def e5L (v:b9R):Option (d1V):=a1t (d8M) (e5K v) v
def c5c (v:b9R):Bool:=(e5L v).isSome
def c5d (v:b9R):d1V:=(e5L v).getD (([],(0,())),())
def r30 (a:b9R->Bool) (b:b9R->d1V) (x:I30.den):Option (O30.den):=let c:=wrap .i64 (33211+(length x.1.1:Int));bif a ((x.1.1,c,0,()),()) then let d:=b ((x.1.1,c,0,()),());some (((),()),(d.1.1,0,d.1.2),())else none
theorem g5J (a b x) :a1W (g4l a b) (a0b Tryz.f30) I30 O30 x=r30 a b x:=by kernel_rfl
def F30 (x:I30.den):Option (O30.den):=r30 c5c c5d x
def K30 (x:I30.den):Bool:=(F30 x).isSome
def G30 (x:I30.den):O30.den:=(F30 x).getD (a1l O30)
theorem f1g:a0k Tryz.prog (30,a0j false I30 O30 K30 G30):=a1p (a0v mixed a0x a0w .nil) (a1H Tryz.func30 rfl rfl rfl (by kernel_rfl) (a0y (l:=[e2A]) (by kernel_rfl) (.cons (a0o rfl (a0q (sh:=c5b) (shX:=c2R) (fun f v=>e5J c5c c5d f v) e5K (([],(0,())),()))) (.nil)))) false fun x=>g5J c5c c5d x
abbrev I82:Sg:=⟨[.ptr 0],[.box (a2X)]⟩
abbrev O82:Sg:=⟨[.val (.int .i64)],[.box (a2X)]⟩
noncomputable def g5K:Env:=a0m tab eqs [] 58 [.tmp 2] [] [] [] [] []
def r82 (x:I82.den):Option (O82.den):=bif decide (x.2.1.2.1<(length x.2.1.1:Int)) then bif decide (0<=x.2.1.2.1)&&decide (x.2.1.2.1<(length x.2.1.1:Int)) then let a:=wrap .i64 ((wrap .i64 (x.2.1.2.2.1*6364136223846793005))+1442695040888963407);some ((a2u BinOp.and IntKind.i64 (wrap .i64 (a2u BinOp.and IntKind.i64 (a2u BinOp.xor IntKind.i64 (Int.fdiv a (2^min (toNat 33) (IntKind.bits IntKind.i64))) (Int.fdiv a (2^min (toNat 45) (IntKind.bits IntKind.i64)))) 255+(wrap .i64 (getD x.2.1.1 (toNat x.2.1.2.1) (zero (Ty.int IntKind.u8)))))) 255,()),(x.2.1.1,wrap .i64 (x.2.1.2.1+1),a,()),())else none else let a:=wrap .i64 ((wrap .i64 (x.2.1.2.2.1*6364136223846793005))+1442695040888963407);some ((a2u BinOp.and IntKind.i64 (a2u BinOp.xor IntKind.i64 (Int.fdiv a (2^min (toNat 33) (IntKind.bits IntKind.i64))) (Int.fdiv a (2^min (toNat 45) (IntKind.bits IntKind.i64)))) 255,()),(x.2.1.1,x.2.1.2.1,a,()),())
theorem g5L (x) :a1W (g5K) (a0b Tryz.f82) I82 O82 x=r82 x:=by kernel_rfl
def F82 (x:I82.den):Option (O82.den):=r82 x
def K82 (x:I82.den):Bool:=(F82 x).isSome
def G82 (x:I82.den):O82.den:=(F82 x).getD (a1l O82)
theorem f1h:a0k Tryz.prog (82,a0j true I82 O82 K82 G82):=a1p (a0v mixed a0x a0w .nil) (a1H Tryz.func82 rfl rfl rfl (by kernel_rfl) (a0O (by kernel_rfl))) true fun x=>g5L x
abbrev I34:Sg:=⟨[.ptr 0,.val (.int .i64)],[.box (a2X)]⟩
abbrev O34:Sg:=⟨[.val (.int .i64)],[.box (a2X)]⟩
noncomputable def g5M (a b) :=a0m tab eqs [(82,a0j true I82 O82 a b)] 37 [.tmp 4] [] [] [] [] []
def r34 (a:KI I82) (b:GI I82 O82) (x:I34.den):Option (O34.den):=bif decide (x.1.2.1<=0) then some ((0,()),x.2)else bif decide (x.1.2.1<=256) then bif a (((),()),x.2) then bif x.1.2.1 != 0 then let c:=b (((),()),x.2);some ((Int.tmod c.1.1 x.1.2.1,()),c.2)else none else none else bif a (((),()),x.2) then let c:=b (((),()),x.2);bif a (((),()),c.2) then let e:=b (((),()),c.2);bif a (((),()),e.2) then let g:=b (((),()),e.2);bif a (((),()),g.2) then bif x.1.2.1 != 0 then let d:=b (((),()),g.2);some ((Int.tmod (wrap .i64 ((wrap .i64 ((wrap .i64 ((wrap .i64 (c.1.1*16777216))+(wrap .i64 (e.1.1*65536))))+(wrap .i64 (g.1.1*256))))+d.1.1)) x.1.2.1,()),d.2)else none else none else none else none else none
theorem g5N (a b x) :a1W (g5M a b) (a0b Tryz.f34) I34 O34 x=r34 a b x:=by kernel_rfl
def F34 (x:I34.den):Option (O34.den):=r34 K82 G82 x
def K34 (x:I34.den):Bool:=(F34 x).isSome
def G34 (x:I34.den):O34.den:=(F34 x).getD (a1l O34)
theorem a4M:a0k Tryz.prog (34,a0j true I34 O34 K34 G34):=a1p (a0v mixed a0x a0w (.cons f1h .nil)) (a1H Tryz.func34 rfl rfl rfl (by kernel_rfl) (a0O (by kernel_rfl))) true fun x=>g5N K82 G82 x
abbrev I77:Sg:=⟨[.ptr 0,.val (.int .i64)],[.box (a2X)]⟩
abbrev O77:Sg:=⟨[.val (.bool)],[.box (a2X)]⟩
noncomputable def g5O (a b) :=a0m tab eqs [(34,a0j true I34 O34 a b)] 9 [.tmp 4] [] [] [] [] []
def r77 (a:KI I34) (b:GI I34 O34) (x:I77.den):Option (O77.den):=bif a (((),x.1.2),x.2) then let c:=b (((),x.1.2),x.2);some ((c.1.1==0,()),c.2)else none
theorem g5P (a b x) :a1W (g5O a b) (a0b Tryz.f77) I77 O77 x=r77 a b x:=by kernel_rfl
def F77 (x:I77.den):Option (O77.den):=r77 K34 G34 x
def K77 (x:I77.den):Bool:=(F77 x).isSome
def G77 (x:I77.den):O77.den:=(F77 x).getD (a1l O77)
theorem b2n:a0k Tryz.prog (77,a0j true I77 O77 K77 G77):=a1p (a0v mixed a0x a0w (.cons a4M .nil)) (a1H Tryz.func77 rfl rfl rfl (by kernel_rfl) (a0O (by kernel_rfl))) true fun x=>g5P K34 G34 x
abbrev b2o:Sg:=⟨[.ptr 0,.own (.str) 1],[.box (a2X),.arr (.str)]⟩
abbrev c8a:Sg:=⟨[.val (.str)],[.box (a2X),.arr (.str)]⟩
noncomputable def f9t (a b) :=a0m tab eqs [(34,a0j true I34 O34 a b)] 12 [.tmp 4] [] [] [] [] []
def f9u (b:KI I34) (c:GI I34 O34) (x:b2o.den):Option (c8a.den):=bif b (((),(length x.2.2.1:Int),()),x.2.1,()) then let a:=c (((),(length x.2.2.1:Int),()),x.2.1,());bif decide (0<=a.1.1)&&decide (a.1.1<(length x.2.2.1:Int)) then some ((getD x.2.2.1 (toNat a.1.1) (zero Ty.str),()),a.2.1,x.2.2)else none else none
theorem f9v (a b x) :a1W (f9t a b) (a0b Tryz.f131) b2o c8a x=f9u a b x:=by kernel_rfl
def f5u (x:b2o.den):Option (c8a.den):=f9u K34 G34 x
def c2S (x:b2o.den):Bool:=(f5u x).isSome
def b9S (x:b2o.den):c8a.den:=(f5u x).getD (a1l c8a)
theorem e2B:a0k Tryz.prog (131,a0j true b2o c8a c2S b9S):=a1p (a0v mixed a0x a0w (.cons a4M .nil)) (a1H Tryz.func131 rfl rfl rfl (by kernel_rfl) (a0O (by kernel_rfl))) true fun x=>f9v K34 G34 x
abbrev I73:Sg:=⟨[.ptr 0],[.box (a2X)]⟩
abbrev O73:Sg:=⟨[.val (S27)],[.box (a2X)]⟩
abbrev b5y:Type:=((Unit×(Unit×(Unit×(Int×Unit))))×(((List (Den (.int .u8)))×(Int×(Int×Unit)))×((Unit×(Unit×(Unit×Unit)))×((Unit×(Unit×(Unit×Unit)))×((List (Den (.int .i64)))×Unit)))))
def c5e:ShS:=⟨[(0,.one (.ptr 0 0)),(2,.one (.ptr 1 0)),(3,.one (.ptr 2 0)),(5,.one (.int .i64))],[(0,.box [.sl (.int .u8),.int .i64,.int .i64]),(1,.box [.nil (.flt .f32),.nil (.int .i64),.nil (.slice (.flt .f32))]),(2,.box [.nil (.flt .f32),.ref (.int .i64) 3,.nil (.slice (.flt .f32))]),(3,.arr (.int .i64))],4,1⟩
abbrev d1W:Type:=((Unit×(Unit×(Unit×Unit)))×(((List (Den (.int .u8)))×(Int×(Int×Unit)))×((Unit×(Unit×(Unit×Unit)))×((Unit×(Unit×(Unit×Unit)))×((List (Den (.int .i64)))×Unit)))))
def c2T:ShS:=⟨[(0,.one (.ptr 0 0)),(2,.one (.ptr 1 0)),(3,.one (.ptr 2 0))],[(0,.box [.sl (.int .u8),.int .i64,.int .i64]),(1,.box [.nil (.flt .f32),.nil (.int .i64),.nil (.slice (.flt .f32))]),(2,.box [.nil (.flt .f32),.ref (.int .i64) 3,.nil (.slice (.flt .f32))]),(3,.arr (.int .i64))],4,1⟩
abbrev a7G:Type:=((Unit×(Unit×(Unit×(Nat×(Int×Unit)))))×(((List (Den (.int .u8)))×(Int×(Int×Unit)))×((Unit×(Unit×(Unit×Unit)))×((Unit×(Unit×(Unit×Unit)))×((List (Den (.flt .f32)))×((List (Den (.int .i64)))×((List (Den (.slice (.flt .f32))))×Unit)))))))
def b5z:ShS:=⟨[(0,.one (.ptr 0 0)),(2,.one (.ptr 1 0)),(3,.one (.ptr 2 0)),(6,.one (.flt .f32)),(7,.one (.int .i64))],[(0,.box [.sl (.int .u8),.int .i64,.int .i64]),(1,.box [.nil (.flt .f32),.nil (.int .i64),.nil (.slice (.flt .f32))]),(2,.box [.ref (.flt .f32) 3,.ref (.int .i64) 4,.ref (.slice (.flt .f32)) 5]),(3,.arr (.flt .f32)),(4,.arr (.int .i64)),(5,.arr (.slice (.flt .f32)))],6,1⟩
abbrev b9T:Type:=((Unit×(Unit×Unit))×(((List (Den (.int .u8)))×(Int×(Int×Unit)))×((Unit×(Unit×(Unit×Unit)))×((Unit×(Unit×(Unit×Unit)))×((List (Den (.flt .f32)))×((List (Den (.int .i64)))×((List (Den (.slice (.flt .f32))))×Unit)))))))
def b5A:ShS:=⟨[(2,.one (.ptr 1 0)),(3,.one (.ptr 2 0))],[(0,.box [.sl (.int .u8),.int .i64,.int .i64]),(1,.box [.nil (.flt .f32),.nil (.int .i64),.nil (.slice (.flt .f32))]),(2,.box [.ref (.flt .f32) 3,.ref (.int .i64) 4,.ref (.slice (.flt .f32)) 5]),(3,.arr (.flt .f32)),(4,.arr (.int .i64)),(5,.arr (.slice (.flt .f32)))],6,1⟩
abbrev a5H:Type:=((Unit×(Unit×(Unit×(Nat×(Int×(Unit×(Int×Unit)))))))×(((List (Den (.int .u8)))×(Int×(Int×Unit)))×((Unit×(Unit×(Unit×Unit)))×((Unit×(Unit×(Unit×Unit)))×((List (Den (.flt .f32)))×((List (Den (.int .i64)))×((List (Den (.slice (.flt .f32))))×((List (Den (.flt .f32)))×Unit))))))))
def b5B:ShS:=⟨[(0,.one (.ptr 0 0)),(2,.one (.ptr 1 0)),(3,.one (.ptr 2 0)),(6,.one (.flt .f32)),(7,.one (.int .i64)),(8,.one (.ref (.flt .f32) 6)),(9,.one (.int .i64))],[(0,.box [.sl (.int .u8),.int .i64,.int .i64]),(1,.box [.nil (.flt .f32),.nil (.int .i64),.nil (.slice (.flt .f32))]),(2,.box [.ref (.flt .f32) 3,.ref (.int .i64) 4,.ref (.slice (.flt .f32)) 5]),(3,.arr (.flt .f32)),(4,.arr (.int .i64)),(5,.arr (.slice (.flt .f32))),(6,.arr (.flt .f32))],7,1⟩
abbrev b2Z:Type:=((Unit×(Unit×(Unit×(Nat×(Int×(Unit×Unit))))))×(((List (Den (.int .u8)))×(Int×(Int×Unit)))×((Unit×(Unit×(Unit×Unit)))×((Unit×(Unit×(Unit×Unit)))×((List (Den (.flt .f32)))×((List (Den (.int .i64)))×((List (Den (.slice (.flt .f32))))×((List (Den (.flt .f32)))×Unit))))))))
def b5C:ShS:=⟨[(0,.one (.ptr 0 0)),(2,.one (.ptr 1 0)),(3,.one (.ptr 2 0)),(6,.one (.flt .f32)),(7,.one (.int .i64)),(8,.one (.ref (.flt .f32) 6))],[(0,.box [.sl (.int .u8),.int .i64,.int .i64]),(1,.box [.nil (.flt .f32),.nil (.int .i64),.nil (.slice (.flt .f32))]),(2,.box [.ref (.flt .f32) 3,.ref (.int .i64) 4,.ref (.slice (.flt .f32)) 5]),(3,.arr (.flt .f32)),(4,.arr (.int .i64)),(5,.arr (.slice (.flt .f32))),(6,.arr (.flt .f32))],7,1⟩
noncomputable def f5v (e g h i j k a b c d) :=a0m tab eqs [(34,a0j true I34 O34 e g),(77,a0j true I77 O77 h i)] 110 [.cell 2 28] [] [] [(6,a1Q [0,2,3,5] [] 0 [0,2,3] [] c5e c2T j k),(12,a1Q [0,2,3,6,7] [.boxNil 3 0,.boxNil 3 2] 2 [2,3] [] b5z b5A a b),(17,a1Q [0,2,3,6,7,8,9] [] 4 [0,2,3,6,7,8] [] b5B b5C c d)] [] [.frzBox 2]
noncomputable def e2C:Code:=(a0p (a0b Tryz.f73)).getD 0 .skip
noncomputable def d1X:Code:=(a0p (a0b Tryz.f73)).getD 1 .skip
noncomputable def d1Y:Code:=(a0p (a0b Tryz.f73)).getD 2 .skip
def c5f (c:KI I34) (a:GI I34 O34) (j:KI I77) (k:GI I77 O77) (f:a5H->Option (b2Z)) (v:a5H):Option (b2Z):=bif decide (v.1.2.2.2.2.2.2.1<(length v.2.2.2.2.2.1:Int)) then bif c (((),57,()),v.2.1,()) then bif v.1.2.2.2.2.2.2.1==0 then let b:=a (((),57,()),v.2.1,());bif j (((),8,()),b.2) then let d:=k (((),8,()),b.2);bif !d.1.1 then bif fgt .f32 v.1.2.2.2.1 1084227584 then bif c (((),40,()),d.2) then let e:=a (((),40,()),d.2);let g:=set (replicate 1 (zero (Ty.flt .f32))) 0 (a0g .add .f32 0 (a0g .quo .f32 (nearest .f32 e.1.1) 1098907648));bif a0D (length v.2.2.2.2.2.2.2.1+length g) then f ((((),(),(),v.1.2.2.2.1,v.1.2.2.2.2.1,(),wrap .i64 (v.1.2.2.2.2.2.2.1+1),()),e.2.1,((),(),(),()),((),(),(),()),v.2.2.2.2.1,v.2.2.2.2.2.1,v.2.2.2.2.2.2.1,v.2.2.2.2.2.2.2.1++g,()))else none else none else let h:=set (replicate 1 (zero (Ty.flt .f32))) 0 0;bif a0D (length v.2.2.2.2.2.2.2.1+length h) then f ((((),(),(),v.1.2.2.2.1,v.1.2.2.2.2.1,(),wrap .i64 (v.1.2.2.2.2.2.2.1+1),()),d.2.1,((),(),(),()),((),(),(),()),v.2.2.2.2.1,v.2.2.2.2.2.1,v.2.2.2.2.2.2.1,v.2.2.2.2.2.2.2.1++h,()))else none else bif fgt .f32 v.1.2.2.2.1 1084227584 then bif c (((),40,()),d.2) then let l:=a (((),40,()),d.2);let i:=set (replicate 1 (zero (Ty.flt .f32))) 0 (a0g .add .f32 (a0g .quo .f32 (nearest .f32 (wrap .i64 (8+b.1.1))) 1098907648) (a0g .quo .f32 (nearest .f32 l.1.1) 1098907648));bif a0D (length v.2.2.2.2.2.2.2.1+length i) then f ((((),(),(),v.1.2.2.2.1,v.1.2.2.2.2.1,(),wrap .i64 (v.1.2.2.2.2.2.2.1+1),()),l.2.1,((),(),(),()),((),(),(),()),v.2.2.2.2.1,v.2.2.2.2.2.1,v.2.2.2.2.2.2.1,v.2.2.2.2.2.2.2.1++i,()))else none else none else let m:=set (replicate 1 (zero (Ty.flt .f32))) 0 (a0g .quo .f32 (nearest .f32 (wrap .i64 (8+b.1.1))) 1098907648);bif a0D (length v.2.2.2.2.2.2.2.1+length m) then f ((((),(),(),v.1.2.2.2.1,v.1.2.2.2.2.1,(),wrap .i64 (v.1.2.2.2.2.2.2.1+1),()),d.2.1,((),(),(),()),((),(),(),()),v.2.2.2.2.1,v.2.2.2.2.2.1,v.2.2.2.2.2.2.1,v.2.2.2.2.2.2.2.1++m,()))else none else none else bif fgt .f32 v.1.2.2.2.1 1084227584 then let b:=a (((),57,()),v.2.1,());bif c (((),40,()),b.2) then let e:=a (((),40,()),b.2);let g:=set (replicate 1 (zero (Ty.flt .f32))) 0 (a0g .add .f32 (a0g .quo .f32 (nearest .f32 (wrap .i64 (8+b.1.1))) 1098907648) (a0g .quo .f32 (nearest .f32 e.1.1) 1098907648));bif a0D (length v.2.2.2.2.2.2.2.1+length g) then f ((((),(),(),v.1.2.2.2.1,v.1.2.2.2.2.1,(),wrap .i64 (v.1.2.2.2.2.2.2.1+1),()),e.2.1,((),(),(),()),((),(),(),()),v.2.2.2.2.1,v.2.2.2.2.2.1,v.2.2.2.2.2.2.1,v.2.2.2.2.2.2.2.1++g,()))else none else none else let b:=a (((),57,()),v.2.1,());let h:=set (replicate 1 (zero (Ty.flt .f32))) 0 (a0g .quo .f32 (nearest .f32 (wrap .i64 (8+b.1.1))) 1098907648);bif a0D (length v.2.2.2.2.2.2.2.1+length h) then f ((((),(),(),v.1.2.2.2.1,v.1.2.2.2.2.1,(),wrap .i64 (v.1.2.2.2.2.2.2.1+1),()),b.2.1,((),(),(),()),((),(),(),()),v.2.2.2.2.1,v.2.2.2.2.2.1,v.2.2.2.2.2.2.1,v.2.2.2.2.2.2.2.1++h,()))else none else none else some (((),(),(),v.1.2.2.2.1,v.1.2.2.2.2.1,(),()),v.2.1,((),(),(),()),((),(),(),()),v.2.2.2.2)
theorem d8N (a b c d j k e g h i f v) :EBk (f5v a b c d j k e g h i) d1Y (a0z [0,2,3,6,7,8,9] [] 4 [0,2,3,6,7,8] [] (atS b5B f) (a4X b5C)) (mkS b5B v)=c5f a b c d f v:=by kernel_rfl
def d1Z (v:a5H):Nat:=v.1.2.2.2.2.1.natAbs+v.1.2.2.2.2.2.2.1.natAbs+v.2.1.1.length+v.2.1.2.1.natAbs+v.2.1.2.2.1.natAbs+v.2.2.2.2.1.length+v.2.2.2.2.2.1.length+v.2.2.2.2.2.2.1.length+v.2.2.2.2.2.2.2.1.length+1000
def c5g (v:a5H):Option (b2Z):=a1t (c5f K34 G34 K77 G77) (d1Z v) v
def a6U (v:a5H):Bool:=(c5g v).isSome
def a2B (v:a5H):b2Z:=(c5g v).getD (((),((),((),(0,(0,((),())))))),(([],(0,(0,()))),(((),((),((),()))),(((),((),((),()))),([],([],([],([],()))))))))
def c5h (d:KI I34) (e:GI I34 O34) (l:KI I77) (m:GI I77 O77) (b:a5H->Bool) (c:a5H->b2Z) (f:a7G->Option (b9T)) (v:a7G):Option (b9T):=bif decide (v.1.2.2.2.2.1>0) then let g:=zero (Ty.flt .f32);let h:=set (replicate 1 g) 0 v.1.2.2.2.1;bif a0D (length v.2.2.2.2.1+length h) then let n:=v.2.2.2.2.1++h;let i:=(((),(),(),v.1.2.2.2.1,v.1.2.2.2.2.1,(),0,()),v.2.1,((),(),(),()),((),(),(),()),n,v.2.2.2.2.2.1,v.2.2.2.2.2.2.1,replicate 0 g,());bif b i then let a:=c i;let j:=set (replicate 1 (zero (Ty.slice (Ty.flt .f32)))) 0 a.2.2.2.2.2.2.2.1;bif a0D (length a.2.2.2.2.2.2.1+length j) then bif d (((),40,()),a.2.1,()) then let k:=e (((),40,()),a.2.1,());f ((((),(),(),a0g .add .f32 a.1.2.2.2.1 (a0g .quo .f32 (nearest .f32 (wrap .i64 (1+k.1.1))) 1090519040),wrap .i64 (a.1.2.2.2.2.1-1),()),k.2.1,((),(),(),()),((),(),(),()),a.2.2.2.2.1,a.2.2.2.2.2.1,a.2.2.2.2.2.2.1++j,()))else none else none else none else none else some (((),(),()),v.2.1,((),(),(),()),((),(),(),()),v.2.2.2.2)
theorem d8O (c d e g j k h i a b f v) :EBk (f5v c d e g j k h i a b) d1X (a0z [0,2,3,6,7] [.boxNil 3 0,.boxNil 3 2] 2 [2,3] [] (atS b5z f) (a4X b5A)) (mkS b5z v)=c5h c d e g a b f v:=by kernel_rfl
def d2a (v:a7G):Nat:=v.1.2.2.2.2.1.natAbs+v.2.1.1.length+v.2.1.2.1.natAbs+v.2.1.2.2.1.natAbs+v.2.2.2.2.1.length+v.2.2.2.2.2.1.length+v.2.2.2.2.2.2.1.length+1000
def c5i (v:a7G):Option (b9T):=a1t (c5h K34 G34 K77 G77 a6U a2B) (d2a v) v
def a8y (v:a7G):Bool:=(c5i v).isSome
def a3C (v:a7G):b9T:=(c5i v).getD (((),((),())),(([],(0,(0,()))),(((),((),((),()))),(((),((),((),()))),([],([],([],())))))))
def d8P (a:KI I34) (b:GI I34 O34) (e:KI I77) (g:GI I77 O77) (f:b5y->Option (d1W)) (v:b5y):Option (d1W):=bif decide (v.1.2.2.2.1>0) then bif decide (v.1.2.2.2.1<180) then bif decide ((length v.2.2.2.2.1:Int)<20) then let c:=set (replicate 1 (zero (Ty.int IntKind.i64))) 0 v.1.2.2.2.1;bif a0D (length v.2.2.2.2.1+length c) then bif a (((),50,()),v.2.1,()) then let d:=b (((),50,()),v.2.1,());f ((((),(),(),wrap .i64 ((wrap .i64 (v.1.2.2.2.1+5))+d.1.1),()),d.2.1,((),(),(),()),((),(),(),()),v.2.2.2.2.1++c,()))else none else none else some (((),(),(),()),v.2.1,((),(),(),()),((),(),(),()),v.2.2.2.2)else some (((),(),(),()),v.2.1,((),(),(),()),((),(),(),()),v.2.2.2.2)else some (((),(),(),()),v.2.1,((),(),(),()),((),(),(),()),v.2.2.2.2)
theorem e5M (a b c d j k e g h i f v) :EBk (f5v a b c d j k e g h i) e2C (a0z [0,2,3,5] [] 0 [0,2,3] [] (atS c5e f) (a4X c2T)) (mkS c5e v)=d8P a b c d f v:=by kernel_rfl
def e5N (v:b5y):Nat:=v.1.2.2.2.1.natAbs+v.2.1.1.length+v.2.1.2.1.natAbs+v.2.1.2.2.1.natAbs+v.2.2.2.2.1.length+1000
def d8Q (v:b5y):Option (d1W):=a1t (d8P K34 G34 K77 G77) (e5N v) v
def b3a (v:b5y):Bool:=(d8Q v).isSome
def a6C (v:b5y):d1W:=(d8Q v).getD (((),((),((),()))),(([],(0,(0,()))),(((),((),((),()))),(((),((),((),()))),([],())))))
def r73 (a:KI I34) (b:GI I34 O34) (p:KI I77) (q:GI I77 O77) (k:b5y->Bool) (l:b5y->d1W) (e:a7G->Bool) (g:a7G->b9T) (z:a5H->Bool) (A:a5H->b2Z) (x:I73.den):Option (O73.den):=bif a (((),25,()),x.2) then let r:=b (((),25,()),x.2);bif p (((),6,()),r.2) then let s:=q (((),6,()),r.2);bif s.1.1 then let B:=replicate 1 (zero (Ty.int IntKind.i64));let t:=set B 0 0;let D:=(((),(),(),0,()),s.2.1,((),(),(),()),((),(),(),()),t,());bif k D then let o:=l D;let h:=set B 0 180;bif a0D (length o.2.2.2.2.1+length h) then bif a (((),4,()),o.2.1,()) then let u:=b (((),4,()),o.2.1,());bif a (((),4,()),u.2) then let w:=wrap .i64 (1+u.1.1);let c:=b (((),4,()),u.2);let d:=wrap .i64 (1+c.1.1);let i:=o.2.2.2.2.1++h;let E:=(((),(),(),nearest .f32 w,d,()),c.2.1,((),(),(),()),((),(),(),()),[],i,[],());bif e E then let m:=g E;some ((m.2.2.2.2,()),m.2.1,())else none else none else none else none else none else let t:=wrap .i64 (20+r.1.1);let F:=replicate 1 (zero (Ty.int IntKind.i64));let J:=set F 0 0;let G:=(((),(),(),t,()),s.2.1,((),(),(),()),((),(),(),()),J,());bif k G then let h:=l G;let H:=set F 0 180;bif a0D (length h.2.2.2.2.1+length H) then bif a (((),4,()),h.2.1,()) then let j:=b (((),4,()),h.2.1,());bif a (((),4,()),j.2) then let c:=wrap .i64 (1+j.1.1);let d:=b (((),4,()),j.2);let i:=wrap .i64 (1+d.1.1);let y:=h.2.2.2.2.1++H;let I:=(((),(),(),nearest .f32 c,i,()),d.2.1,((),(),(),()),((),(),(),()),[],y,[],());bif e I then let n:=g I;some ((n.2.2.2.2,()),n.2.1,())else none else none else none else none else none else none else none
theorem g5Q (e g h i j k a b c d x) :a1W (f5v e g h i j k a b c d) (a0b Tryz.f73) I73 O73 x=r73 e g h i j k a b c d x:=by kernel_rfl
def F73 (x:I73.den):Option (O73.den):=r73 K34 G34 K77 G77 b3a a6C a8y a3C a6U a2B x
def K73 (x:I73.den):Bool:=(F73 x).isSome
def G73 (x:I73.den):O73.den:=(F73 x).getD (a1l O73)
theorem f9w:a0k Tryz.prog (73,a0j true I73 O73 K73 G73):=a1p (a0v mixed a0x a0w (.cons a4M (.cons b2n .nil))) (a1H Tryz.func73 rfl rfl rfl (by kernel_rfl) (a0y (l:=[e2C,d1X,d1Y]) (by kernel_rfl) (.cons (a0o rfl (a0q (sh:=c5e) (shX:=c2T) (fun f v=>e5M K34 G34 K77 G77 b3a a6C a8y a3C a6U a2B f v) e5N (((),((),((),()))),(([],(0,(0,()))),(((),((),((),()))),(((),((),((),()))),([],()))))))) (.cons (a0o rfl (a0q (sh:=b5z) (shX:=b5A) (fun f v=>d8O K34 G34 K77 G77 b3a a6C a8y a3C a6U a2B f v) d2a (((),((),())),(([],(0,(0,()))),(((),((),((),()))),(((),((),((),()))),([],([],([],()))))))))) (.cons (a0o rfl (a0q (sh:=b5B) (shX:=b5C) (fun f v=>d8N K34 G34 K77 G77 b3a a6C a8y a3C a6U a2B f v) d1Z (((),((),((),(0,(0,((),())))))),(([],(0,(0,()))),(((),((),((),()))),(((),((),((),()))),([],([],([],([],())))))))))) (.nil)))))) true fun x=>g5Q K34 G34 K77 G77 b3a a6C a8y a3C a6U a2B x
abbrev I74:Sg:=⟨[.ptr 0],[.box (a2X)]⟩
abbrev O74:Sg:=⟨[.mix [.ref (a0Y) 1,.ref (.int .i64) 2]],[.box (a2X),.arr (a0Y),.arr (.int .i64)]⟩
abbrev b5D:Type:=((Unit×(Unit×(Unit×(Int×Unit))))×(((List (Den (.int .u8)))×(Int×(Int×Unit)))×((Unit×(Unit×Unit))×((Unit×(Unit×Unit))×((List (Den (a0Y)))×Unit)))))
def c5j:ShS:=⟨[(0,.one (.ptr 0 0)),(2,.one (.ptr 1 0)),(3,.one (.ptr 2 0)),(4,.one (.int .i64))],[(0,.box [.sl (.int .u8),.int .i64,.int .i64]),(1,.box [.nil (a0Y),.nil (.int .i64)]),(2,.box [.ref (a0Y) 3,.nil (.int .i64)]),(3,.arr (a0Y))],4,1⟩
abbrev d2b:Type:=((Unit×(Unit×(Unit×Unit)))×(((List (Den (.int .u8)))×(Int×(Int×Unit)))×((Unit×(Unit×Unit))×((Unit×(Unit×Unit))×((List (Den (a0Y)))×Unit)))))
def c2U:ShS:=⟨[(0,.one (.ptr 0 0)),(2,.one (.ptr 1 0)),(3,.one (.ptr 2 0))],[(0,.box [.sl (.int .u8),.int .i64,.int .i64]),(1,.box [.nil (a0Y),.nil (.int .i64)]),(2,.box [.ref (a0Y) 3,.nil (.int .i64)]),(3,.arr (a0Y))],4,1⟩
abbrev b1o:Type:=((Unit×(Unit×(Unit×(Int×(Unit×(Int×Unit))))))×(((List (Den (.int .u8)))×(Int×(Int×Unit)))×((Unit×(Unit×Unit))×((Unit×(Unit×Unit))×((List (Den (a0Y)))×(((Nat×Nat)×((Nat×Nat)×((Nat×Nat)×((Nat×Nat)×((Nat×Nat)×((Nat×Nat)×((Nat×Nat)×((Nat×Nat)×((Nat×Nat)×((Nat×Nat)×((Nat×Nat)×((Nat×Nat)×((Nat×Nat)×((Nat×Nat)×Unit))))))))))))))×Unit))))))
def c5k:ShS:=⟨[(0,.one (.ptr 0 0)),(2,.one (.ptr 1 0)),(3,.one (.ptr 2 0)),(4,.one (.int .i64)),(6,.one (.ptr 4 0)),(7,.one (.int .i64))],[(0,.box [.sl (.int .u8),.int .i64,.int .i64]),(1,.box [.nil (a0Y),.nil (.int .i64)]),(2,.box [.ref (a0Y) 3,.nil (.int .i64)]),(3,.arr (a0Y)),(4,.box [.cpx .f64,.cpx .f32,.cpx .f32,.cpx .f32,.cpx .f32,.cpx .f32,.cpx .f32,.cpx .f32,.cpx .f32,.cpx .f32,.cpx .f32,.cpx .f32,.cpx .f32,.cpx .f32])],5,1⟩
abbrev c8b:Type:=((Unit×(Unit×(Unit×(Int×(Unit×Unit)))))×(((List (Den (.int .u8)))×(Int×(Int×Unit)))×((Unit×(Unit×Unit))×((Unit×(Unit×Unit))×((List (Den (a0Y)))×(((Nat×Nat)×((Nat×Nat)×((Nat×Nat)×((Nat×Nat)×((Nat×Nat)×((Nat×Nat)×((Nat×Nat)×((Nat×Nat)×((Nat×Nat)×((Nat×Nat)×((Nat×Nat)×((Nat×Nat)×((Nat×Nat)×((Nat×Nat)×Unit))))))))))))))×Unit))))))
def c2V:ShS:=⟨[(0,.one (.ptr 0 0)),(2,.one (.ptr 1 0)),(3,.one (.ptr 2 0)),(4,.one (.int .i64)),(6,.one (.ptr 4 0))],[(0,.box [.sl (.int .u8),.int .i64,.int .i64]),(1,.box [.nil (a0Y),.nil (.int .i64)]),(2,.box [.ref (a0Y) 3,.nil (.int .i64)]),(3,.arr (a0Y)),(4,.box [.cpx .f64,.cpx .f32,.cpx .f32,.cpx .f32,.cpx .f32,.cpx .f32,.cpx .f32,.cpx .f32,.cpx .f32,.cpx .f32,.cpx .f32,.cpx .f32,.cpx .f32,.cpx .f32])],5,1⟩
abbrev a7H:Type:=((Unit×(Unit×(Unit×(Int×(Int×Unit)))))×(((List (Den (.int .u8)))×(Int×(Int×Unit)))×((Unit×(Unit×Unit))×((Unit×(Unit×Unit))×((List (Den (a0Y)))×((List (Den (.int .i64)))×Unit))))))
def b5E:ShS:=⟨[(0,.one (.ptr 0 0)),(2,.one (.ptr 1 0)),(3,.one (.ptr 2 0)),(9,.one (.int .i64)),(10,.one (.int .i64))],[(0,.box [.sl (.int .u8),.int .i64,.int .i64]),(1,.box [.nil (a0Y),.nil (.int .i64)]),(2,.box [.ref (a0Y) 3,.ref (.int .i64) 4]),(3,.arr (a0Y)),(4,.arr (.int .i64))],5,1⟩
abbrev b9U:Type:=((Unit×(Unit×Unit))×(((List (Den (.int .u8)))×(Int×(Int×Unit)))×((Unit×(Unit×Unit))×((Unit×(Unit×Unit))×((List (Den (a0Y)))×((List (Den (.int .i64)))×Unit))))))
def b5F:ShS:=⟨[(2,.one (.ptr 1 0)),(3,.one (.ptr 2 0))],[(0,.box [.sl (.int .u8),.int .i64,.int .i64]),(1,.box [.nil (a0Y),.nil (.int .i64)]),(2,.box [.ref (a0Y) 3,.ref (.int .i64) 4]),(3,.arr (a0Y)),(4,.arr (.int .i64))],5,1⟩
noncomputable def f5w (c d e g h i j k a b) :=a0m tab eqs [(34,a0j true I34 O34 c d),(77,a0j true I77 O77 e g)] 83 [.cell 2 31] [] [] [(3,a1Q [0,2,3,4] [.boxNil 3 0] 0 [0,2,3] [] c5j c2U h i),(8,a1Q [0,2,3,4,6,7] [] 2 [0,2,3,4,6] [] c5k c2V j k),(17,a1Q [0,2,3,9,10] [.boxNil 3 1] 4 [2,3] [] b5E b5F a b)] [] []
noncomputable def e2D:Code:=(a0p (a0b Tryz.f74)).getD 0 .skip
noncomputable def e2E:Code:=(a0p (a0b Tryz.f74)).getD 1 .skip
noncomputable def d2c:Code:=(a0p (a0b Tryz.f74)).getD 2 .skip
def c5l (a:KI I34) (b:GI I34 O34) (g:KI I77) (h:GI I77 O77) (f:a7H->Option (b9U)) (v:a7H):Option (b9U):=bif decide (v.1.2.2.2.2.1>0) then let d:=set (replicate 1 (zero (Ty.int IntKind.i64))) 0 v.1.2.2.2.1;bif a0D (length v.2.2.2.2.2.1+length d) then bif a (((),3,()),v.2.1,()) then let c:=b (((),3,()),v.2.1,());bif a (((),20000,()),c.2) then let e:=b (((),20000,()),c.2);f ((((),(),(),wrap .i64 ((wrap .i64 (v.1.2.2.2.1+21600))+(wrap .i64 (c.1.1*e.1.1))),wrap .i64 (v.1.2.2.2.2.1-1),()),e.2.1,((),(),()),((),(),()),v.2.2.2.2.1,v.2.2.2.2.2.1++d,()))else none else none else none else some (((),(),()),v.2.1,((),(),()),((),(),()),v.2.2.2.2)
theorem d8R (a b c d h i j k e g f v) :EBk (f5w a b c d h i j k e g) d2c (a0z [0,2,3,9,10] [.boxNil 3 1] 4 [2,3] [] (atS b5E f) (a4X b5F)) (mkS b5E v)=c5l a b c d f v:=by kernel_rfl
def d2d (v:a7H):Nat:=v.1.2.2.2.1.natAbs+v.1.2.2.2.2.1.natAbs+v.2.1.1.length+v.2.1.2.1.natAbs+v.2.1.2.2.1.natAbs+v.2.2.2.2.1.length+v.2.2.2.2.2.1.length+1000
def d2e (v:a7H):Option (b9U):=a1t (c5l K34 G34 K77 G77) (d2d v) v
def a6V (v:a7H):Bool:=(d2e v).isSome
def a6W (v:a7H):b9U:=(d2e v).getD (((),((),())),(([],(0,(0,()))),(((),((),())),(((),((),())),([],([],()))))))
def d8S (d:KI I34) (e:GI I34 O34) (p:KI I77) (q:GI I77 O77) (f:b1o->Option (c8b)) (v:b1o):Option (c8b):=bif decide (v.1.2.2.2.2.2.1<13) then bif d (((),33,()),v.2.1,()) then let g:=e (((),33,()),v.2.1,());bif d (((),33,()),g.2) then bif decide (0<=v.1.2.2.2.2.2.1)&&decide (v.1.2.2.2.2.2.1<(↑13:Int)) then let h:=e (((),33,()),g.2);let b:=a0g .quo .f32 (nearest .f32 (wrap .i64 (g.1.1-16))) 1098907648;let c:=a0g .quo .f32 (nearest .f32 (wrap .i64 (h.1.1-16))) 1098907648;let a:=toNat v.1.2.2.2.2.2.1;let i:=0+1+1+1+1+1+1+1+1+1+1+1+1;let j:=0+1+1+1+1+1+1+1+1+1+1+1;let k:=0+1+1+1+1+1+1+1+1+1+1;let l:=0+1+1+1+1+1+1+1+1+1;let m:=0+1+1+1+1+1+1+1+1;let n:=0+1+1+1+1+1+1+1;let o:=0+1+1+1+1+1+1;f ((((),(),(),v.1.2.2.2.1,(),wrap .i64 (v.1.2.2.2.2.2.1+1),()),h.2.1,((),(),()),((),(),()),v.2.2.2.2.1,(v.2.2.2.2.2.1.1,(bif beq 0 a then b else v.2.2.2.2.2.1.2.1.1,bif beq 0 a then c else v.2.2.2.2.2.1.2.1.2),(bif beq (0+1) a then b else v.2.2.2.2.2.1.2.2.1.1,bif beq (0+1) a then c else v.2.2.2.2.2.1.2.2.1.2),(bif beq (0+1+1) a then b else v.2.2.2.2.2.1.2.2.2.1.1,bif beq (0+1+1) a then c else v.2.2.2.2.2.1.2.2.2.1.2),(bif beq (0+1+1+1) a then b else v.2.2.2.2.2.1.2.2.2.2.1.1,bif beq (0+1+1+1) a then c else v.2.2.2.2.2.1.2.2.2.2.1.2),(bif beq (0+1+1+1+1) a then b else v.2.2.2.2.2.1.2.2.2.2.2.1.1,bif beq (0+1+1+1+1) a then c else v.2.2.2.2.2.1.2.2.2.2.2.1.2),(bif beq (0+1+1+1+1+1) a then b else v.2.2.2.2.2.1.2.2.2.2.2.2.1.1,bif beq (0+1+1+1+1+1) a then c else v.2.2.2.2.2.1.2.2.2.2.2.2.1.2),(bif beq o a then b else v.2.2.2.2.2.1.2.2.2.2.2.2.2.1.1,bif beq o a then c else v.2.2.2.2.2.1.2.2.2.2.2.2.2.1.2),(bif beq n a then b else v.2.2.2.2.2.1.2.2.2.2.2.2.2.2.1.1,bif beq n a then c else v.2.2.2.2.2.1.2.2.2.2.2.2.2.2.1.2),(bif beq m a then b else v.2.2.2.2.2.1.2.2.2.2.2.2.2.2.2.1.1,bif beq m a then c else v.2.2.2.2.2.1.2.2.2.2.2.2.2.2.2.1.2),(bif beq l a then b else v.2.2.2.2.2.1.2.2.2.2.2.2.2.2.2.2.1.1,bif beq l a then c else v.2.2.2.2.2.1.2.2.2.2.2.2.2.2.2.2.1.2),(bif beq k a then b else v.2.2.2.2.2.1.2.2.2.2.2.2.2.2.2.2.2.1.1,bif beq k a then c else v.2.2.2.2.2.1.2.2.2.2.2.2.2.2.2.2.2.1.2),(bif beq j a then b else v.2.2.2.2.2.1.2.2.2.2.2.2.2.2.2.2.2.2.1.1,bif beq j a then c else v.2.2.2.2.2.1.2.2.2.2.2.2.2.2.2.2.2.2.1.2),(bif beq i a then b else v.2.2.2.2.2.1.2.2.2.2.2.2.2.2.2.2.2.2.2.1.1,bif beq i a then c else v.2.2.2.2.2.1.2.2.2.2.2.2.2.2.2.2.2.2.2.1.2),()),()))else none else none else none else some (((),(),(),v.1.2.2.2.1,(),()),v.2.1,((),(),()),((),(),()),v.2.2.2.2)
theorem e5O (a b c d h i j k e g f v) :EBk (f5w a b c d h i j k e g) e2E (a0z [0,2,3,4,6,7] [] 2 [0,2,3,4,6] [] (atS c5k f) (a4X c2V)) (mkS c5k v)=d8S a b c d f v:=by kernel_rfl
def f1i (v:b1o):Nat:=v.1.2.2.2.1.natAbs+v.1.2.2.2.2.2.1.natAbs+v.2.1.1.length+v.2.1.2.1.natAbs+v.2.1.2.2.1.natAbs+v.2.2.2.2.1.length+1000
def e5P (v:b1o):Option (c8b):=a1t (d8S K34 G34 K77 G77) (f1i v) v
def a7I (v:b1o):Bool:=(e5P v).isSome
def a7J (v:b1o):c8b:=(e5P v).getD (((),((),((),(0,((),()))))),(([],(0,(0,()))),(((),((),())),(((),((),())),([],(((0,0),((0,0),((0,0),((0,0),((0,0),((0,0),((0,0),((0,0),((0,0),((0,0),((0,0),((0,0),((0,0),((0,0),())))))))))))))),()))))))
def d8T (c:KI I34) (d:GI I34 O34) (e:KI I77) (g:GI I77 O77) (h:b1o->Bool) (i:b1o->c8b) (f:b5D->Option (d2b)) (v:b5D):Option (d2b):=bif decide (v.1.2.2.2.1>0) then bif c (((),8001,()),v.2.1,()) then let j:=d (((),8001,()),v.2.1,());bif c (((),8001,()),j.2) then let l:=d (((),8001,()),j.2);let n:=wrap .i64 (j.1.1-4000);let o:=wrap .i64 (l.1.1-4000);let m:=(((),(),(),v.1.2.2.2.1,(),0,()),l.2.1,((),(),()),((),(),()),v.2.2.2.2.1,((nearest .f64 n,nearest .f64 o),(0,0),(0,0),(0,0),(0,0),(0,0),(0,0),(0,0),(0,0),(0,0),(0,0),(0,0),(0,0),(0,0),()),());bif h m then let a:=i m;bif e (((),5,()),a.2.1,()) then let k:=g (((),5,()),a.2.1,());bif k.1.1 then let b:=set (replicate 1 (zero a0Y)) 0 (a.2.2.2.2.2.1.1,((0,0),(0,0),(0,0),(0,0),(0,0),(0,0),(0,0),(0,0),(0,0),(0,0),(0,0),(0,0),(0,0),()),());bif a0D (length a.2.2.2.2.1+length b) then f ((((),(),(),wrap .i64 (a.1.2.2.2.1-1),()),k.2.1,((),(),()),((),(),()),a.2.2.2.2.1++b,()))else none else let b:=set (replicate 1 (zero a0Y)) 0 (a.2.2.2.2.2.1.1,a.2.2.2.2.2.1.2,());bif a0D (length a.2.2.2.2.1+length b) then f ((((),(),(),wrap .i64 (a.1.2.2.2.1-1),()),k.2.1,((),(),()),((),(),()),a.2.2.2.2.1++b,()))else none else none else none else none else none else some (((),(),(),()),v.2.1,((),(),()),((),(),()),v.2.2.2.2)
theorem e5Q (a b c d j k e g h i f v) :EBk (f5w a b c d j k e g h i) e2D (a0z [0,2,3,4] [.boxNil 3 0] 0 [0,2,3] [] (atS c5j f) (a4X c2U)) (mkS c5j v)=d8T a b c d e g f v:=by kernel_rfl
def e5R (v:b5D):Nat:=v.1.2.2.2.1.natAbs+v.2.1.1.length+v.2.1.2.1.natAbs+v.2.1.2.2.1.natAbs+v.2.2.2.2.1.length+1000
def e5S (v:b5D):Option (d2b):=a1t (d8T K34 G34 K77 G77 a7I a7J) (e5R v) v
def b1p (v:b5D):Bool:=(e5S v).isSome
def b1q (v:b5D):d2b:=(e5S v).getD (((),((),((),()))),(([],(0,(0,()))),(((),((),())),(((),((),())),([],())))))
def r74 (a:KI I34) (b:GI I34 O34) (o:KI I77) (p:GI I77 O77) (g:b5D->Bool) (h:b5D->d2b) (q:b1o->Bool) (r:b1o->c8b) (c:a7H->Bool) (d:a7H->b9U) (x:I74.den):Option (O74.den):=bif a (((),3,()),x.2) then let k:=b (((),3,()),x.2);let s:=wrap .i64 (1+k.1.1);let l:=(((),(),(),s,()),k.2.1,((),(),()),((),(),()),[],());bif g l then let i:=h l;bif a (((),30000,()),i.2.1,()) then let j:=b (((),30000,()),i.2.1,());bif a (((),5,()),j.2) then let m:=b (((),5,()),j.2);let t:=wrap .i64 (1+m.1.1);let n:=(((),(),(),j.1.1,t,()),m.2.1,((),(),()),((),(),()),i.2.2.2.2.1,[],());bif c n then let e:=d n;some ((((),(),()),()),e.2.1,e.2.2.2.2)else none else none else none else none else none
theorem g5R (c d e g h i j k a b x) :a1W (f5w c d e g h i j k a b) (a0b Tryz.f74) I74 O74 x=r74 c d e g h i j k a b x:=by kernel_rfl
def F74 (x:I74.den):Option (O74.den):=r74 K34 G34 K77 G77 b1p b1q a7I a7J a6V a6W x
def K74 (x:I74.den):Bool:=(F74 x).isSome
def G74 (x:I74.den):O74.den:=(F74 x).getD (a1l O74)
theorem f1j:a0k Tryz.prog (74,a0j true I74 O74 K74 G74):=a1p (a0v mixed a0x a0w (.cons a4M (.cons b2n .nil))) (a1H Tryz.func74 rfl rfl rfl (by kernel_rfl) (a0y (l:=[e2D,e2E,d2c]) (by kernel_rfl) (.cons (a0o rfl (a0q (sh:=c5j) (shX:=c2U) (fun f v=>e5Q K34 G34 K77 G77 b1p b1q a7I a7J a6V a6W f v) e5R (((),((),((),()))),(([],(0,(0,()))),(((),((),())),(((),((),())),([],()))))))) (.cons (a0o rfl (a0q (sh:=c5k) (shX:=c2V) (fun f v=>e5O K34 G34 K77 G77 b1p b1q a7I a7J a6V a6W f v) f1i (((),((),((),(0,((),()))))),(([],(0,(0,()))),(((),((),())),(((),((),())),([],(((0,0),((0,0),((0,0),((0,0),((0,0),((0,0),((0,0),((0,0),((0,0),((0,0),((0,0),((0,0),((0,0),((0,0),())))))))))))))),())))))))) (.cons (a0o rfl (a0q (sh:=b5E) (shX:=b5F) (fun f v=>d8R K34 G34 K77 G77 b1p b1q a7I a7J a6V a6W f v) d2d (((),((),())),(([],(0,(0,()))),(((),((),())),(((),((),())),([],([],())))))))) (.nil)))))) true fun x=>g5R K34 G34 K77 G77 b1p b1q a7I a7J a6V a6W x
abbrev b3b:Sg:=⟨[.ptr 0],[.box (a2X)]⟩
abbrev c8c:Sg:=⟨[.val (.flt .f64)],[.box (a2X)]⟩
noncomputable def f9x (a b) :=a0m tab eqs [(34,a0j true I34 O34 a b)] 34 [.tmp 2] [] [] [] [] []
def f9y (c:KI I34) (d:GI I34 O34) (x:b3b.den):Option (c8c.den):=bif c (((),2,()),x.2) then let b:=d (((),2,()),x.2);bif c (((),8,()),b.2) then let a:=d (((),8,()),b.2);bif a.1.1==0 then let g:=wrap .i64 (b.1.1*0);let e:=nearest .f64 g;some ((a0g .quo .f64 e e,()),a.2)else bif a.1.1==1 then some ((a0g .quo .f64 4607182418800017408 (nearest .f64 (wrap .i64 (b.1.1*0))),()),a.2)else bif a.1.1==2 then some ((a0g .quo .f64 13830554455654793216 (nearest .f64 (wrap .i64 (b.1.1*0))),()),a.2)else bif a.1.1==3 then some ((a3G .f64 (nearest .f64 (wrap .i64 (b.1.1*0))),()),a.2)else bif a.1.1==4 then some ((9094988921128908188,()),a.2)else bif a.1.1==5 then some ((9223372036854775809,()),a.2)else bif a.1.1==6 then some ((4412443251819771522,()),a.2)else some ((nearest .f64 (wrap .i64 (b.1.1*0)),()),a.2)else none else none
theorem f9z (a b x) :a1W (f9x a b) (a0b Tryz.f146) b3b c8c x=f9y a b x:=by kernel_rfl
def f5x (x:b3b.den):Option (c8c.den):=f9y K34 G34 x
def d6H (x:b3b.den):Bool:=(f5x x).isSome
def d6I (x:b3b.den):c8c.den:=(f5x x).getD (a1l c8c)
theorem d2f:a0k Tryz.prog (146,a0j true b3b c8c d6H d6I):=a1p (a0v mixed a0x a0w (.cons a4M .nil)) (a1H Tryz.func146 rfl rfl rfl (by kernel_rfl) (a0O (by kernel_rfl))) true fun x=>f9z K34 G34 x
abbrev I81:Sg:=⟨[.ptr 0,.val (.int .i64)],[.box (a2X)]⟩
abbrev O81:Sg:=⟨[.val (.flt .f64)],[.box (a2X)]⟩
noncomputable def g5S (c d a b e g) :=a0m tab eqs [(77,a0j true I77 O77 c d),(146,a0j true b3b c8c a b),(34,a0j true I34 O34 e g)] 31 [.tmp 4] [] [] [] [] []
def r81 (a:KI I77) (b:GI I77 O77) (g:KI b3b) (h:GI b3b c8c) (i:KI I34) (j:GI I34 O34) (x:I81.den):Option (O81.den):=bif a (((),40,()),x.2) then let k:=b (((),40,()),x.2);bif k.1.1 then bif g (((),()),k.2) then some (h (((),()),k.2))else none else let n:=wrap .i64 ((wrap .i64 (x.1.2.1*8))+1);bif i (((),n,()),k.2) then let m:=j (((),n,()),k.2);bif a (((),2,()),m.2) then let l:=b (((),2,()),m.2);bif l.1.1 then let e:=wrap .i64 ((wrap .i64 (x.1.2.1*1000))+1);bif i (((),e,()),l.2) then let c:=j (((),e,()),l.2);bif a (((),2,()),c.2) then let d:=b (((),2,()),c.2);bif d.1.1 then some ((a3G .f64 (a0g .quo .f64 (nearest .f64 c.1.1) 4652007308841189376),()),d.2)else some ((a0g .quo .f64 (nearest .f64 c.1.1) 4652007308841189376,()),d.2)else none else none else bif a (((),2,()),l.2) then let e:=b (((),2,()),l.2);bif e.1.1 then some ((a3G .f64 (a0g .quo .f64 (nearest .f64 m.1.1) 4620693217682128896),()),e.2)else some ((a0g .quo .f64 (nearest .f64 m.1.1) 4620693217682128896,()),e.2)else none else none else none else none
theorem g5T (c d a b e g x) :a1W (g5S c d a b e g) (a0b Tryz.f81) I81 O81 x=r81 c d a b e g x:=by kernel_rfl
def F81 (x:I81.den):Option (O81.den):=r81 K77 G77 d6H d6I K34 G34 x
def K81 (x:I81.den):Bool:=(F81 x).isSome
def G81 (x:I81.den):O81.den:=(F81 x).getD (a1l O81)
theorem f1k:a0k Tryz.prog (81,a0j true I81 O81 K81 G81):=a1p (a0v mixed a0x a0w (.cons b2n (.cons d2f (.cons a4M .nil)))) (a1H Tryz.func81 rfl rfl rfl (by kernel_rfl) (a0O (by kernel_rfl))) true fun x=>g5T K77 G77 d6H d6I K34 G34 x
abbrev a2s:Sg:=⟨[.ptr 0,.val (.int .i64)],[.box (a2X)]⟩
abbrev a3J:Sg:=⟨[.val (.flt .f32)],[.box (a2X)]⟩
noncomputable def d8U (a b) :=a0m tab eqs [(81,a0j true I81 O81 a b)] 9 [.tmp 4] [] [] [] [] []
def g4m (a:KI I81) (b:GI I81 O81) (x:a2s.den):Option (a3J.den):=bif a (((),x.1.2),x.2) then let c:=b (((),x.1.2),x.2);let d:=a0N .f64 .f32 c.1.1;bif d.1 then some ((d.2,()),c.2)else none else none
theorem f9A (a b x) :a1W (d8U a b) (a0b Tryz.f141) a2s a3J x=g4m a b x:=by kernel_rfl
def g4n (x:a2s.den):Option (a3J.den):=g4m K81 G81 x
def b0e (x:a2s.den):Bool:=(g4n x).isSome
def b0f (x:a2s.den):a3J.den:=(g4n x).getD (a1l a3J)
theorem e2F:a1F Tryz.prog (d8U K81 G81):=a0v mixed a0x a0w (.cons f1k .nil)
theorem f1l:a6z Tryz.prog 141 (d8U K81 G81) (a0b Tryz.f141):=a1H Tryz.func141 rfl rfl rfl (by kernel_rfl) (a0O (by kernel_rfl))
theorem d2g:a0k Tryz.prog (141,a0j true a2s a3J b0e b0f):=a1p e2F f1l true fun x=>f9A K81 G81 x
abbrev b3c:Sg:=⟨[.ptr 0,.own (.int .i64) 1],[.box (a2X),.arr (.int .i64)]⟩
abbrev c8d:Sg:=⟨[.val (.int .i64)],[.box (a2X),.arr (.int .i64)]⟩
noncomputable def f9B (a b) :=a0m tab eqs [(34,a0j true I34 O34 a b)] 12 [.tmp 4] [] [] [] [] []
def f9C (b:KI I34) (c:GI I34 O34) (x:b3c.den):Option (c8d.den):=bif b (((),(length x.2.2.1:Int),()),x.2.1,()) then let a:=c (((),(length x.2.2.1:Int),()),x.2.1,());bif decide (0<=a.1.1)&&decide (a.1.1<(length x.2.2.1:Int)) then some ((getD x.2.2.1 (toNat a.1.1) (zero (Ty.int IntKind.i64)),()),a.2.1,x.2.2)else none else none
theorem f9D (a b x) :a1W (f9B a b) (a0b Tryz.f125) b3c c8d x=f9C a b x:=by kernel_rfl
def f1m (x:b3c.den):Option (c8d.den):=f9C K34 G34 x
def d2h (x:b3c.den):Bool:=(f1m x).isSome
def c2b (x:b3c.den):c8d.den:=(f1m x).getD (a1l c8d)
theorem d2i:a0k Tryz.prog (125,a0j true b3c c8d d2h c2b):=a1p (a0v mixed a0x a0w (.cons a4M .nil)) (a1H Tryz.func125 rfl rfl rfl (by kernel_rfl) (a0O (by kernel_rfl))) true fun x=>f9D K34 G34 x
abbrev a6D:Sg:=⟨[.ptr 0],[.box (a2X)]⟩
abbrev b5G:Sg:=⟨[.val (.int .i64)],[.box (a2X)]⟩
noncomputable def f9E (c d a b) :=a0m tab eqs [(34,a0j true I34 O34 c d),(125,a0j true b3c c8d a b)] 16 [.tmp 2] [] [] [] [] []
def f9F (a:KI I34) (b:GI I34 O34) (d:KI b3c) (e:GI b3c c8d) (x:a6D.den):Option (b5G.den):=bif a (((),4,()),x.2) then let c:=b (((),4,()),x.2);bif c.1.1==0 then let h:=set (set (set (set (set (set (set (set (set (set (replicate 10 (zero (Ty.int IntKind.i64))) 0 (-1)) 1 0) 2 127) 3 128) 4 16383) 5 16384) 6 1000000000) 7 1000000001) 8 9223372036854775807) 9 (-9223372036854775808);let i:=(((),(),()),c.2.1,h,());bif d i then let g:=e i;some (g.1,g.2.1,())else none else bif c.1.1==1 then bif a (((),1000000000,()),c.2) then some (b (((),1000000000,()),c.2))else none else bif a (((),400,()),c.2) then some (b (((),400,()),c.2))else none else none
theorem f9G (c d a b x) :a1W (f9E c d a b) (a0b Tryz.f142) a6D b5G x=f9F c d a b x:=by kernel_rfl
def f5y (x:a6D.den):Option (b5G.den):=f9F K34 G34 d2h c2b x
def a8i (x:a6D.den):Bool:=(f5y x).isSome
def a8j (x:a6D.den):b5G.den:=(f5y x).getD (a1l b5G)
theorem d2j:a0k Tryz.prog (142,a0j true a6D b5G a8i a8j):=a1p (a0v mixed a0x a0w (.cons a4M (.cons d2i .nil))) (a1H Tryz.func142 rfl rfl rfl (by kernel_rfl) (a0O (by kernel_rfl))) true fun x=>f9G K34 G34 d2h c2b x
abbrev I75:Sg:=⟨[.ptr 0],[.box (a2X)]⟩
abbrev O75:Sg:=⟨[.own (S68) 1],[.box (a2X),.arr (S68)]⟩
abbrev a9J:Type:=((Unit×(Unit×(Unit×(Int×Unit))))×(((List (Den (.int .u8)))×(Int×(Int×Unit)))×((List (Den (.str)))×((List (Den (S68)))×Unit))))
def c5m:ShS:=⟨[(0,.one (.ptr 0 0)),(3,.one (.ref (.str) 1)),(4,.one (.ref (S68) 2)),(5,.one (.int .i64))],[(0,.box [.sl (.int .u8),.int .i64,.int .i64]),(1,.arr (.str)),(2,.arr (S68))],3,1⟩
abbrev c8e:Type:=((Unit×(Unit×Unit))×(((List (Den (.int .u8)))×(Int×(Int×Unit)))×((List (Den (S68)))×Unit)))
def c2W:ShS:=⟨[(0,.one (.ptr 0 0)),(4,.one (.ref (S68) 1))],[(0,.box [.sl (.int .u8),.int .i64,.int .i64]),(1,.arr (S68))],2,1⟩
abbrev a5f:Type:=((Unit×(Unit×Unit))×(((List (Den (.int .u8)))×(Int×(Int×Unit)))×((List (Den (S68)))×Unit)))
def b5H:ShS:=⟨[(0,.one (.ptr 0 0)),(4,.one (.ref (S68) 1))],[(0,.box [.sl (.int .u8),.int .i64,.int .i64]),(1,.arr (S68))],2,1⟩
abbrev b3d:Type:=((Unit×Unit)×(((List (Den (.int .u8)))×(Int×(Int×Unit)))×((List (Den (S68)))×Unit)))
def b5I:ShS:=⟨[(4,.one (.ref (S68) 1))],[(0,.box [.sl (.int .u8),.int .i64,.int .i64]),(1,.arr (S68))],2,1⟩
noncomputable def e8X (j k l m a b c d e g n o h i) :=a0m tab eqs [(34,a0j true I34 O34 j k),(77,a0j true I77 O77 l m),(131,a0j true b2o c8a a b),(141,a0j true a2s a3J c d),(142,a0j true a6D b5G e g)] 132 [.tmp 2] [] [] [(4,a1Q [0,3,4,5] [] 0 [0,4] [] c5m c2W n o),(29,a1Q [0,4] [] 3 [4] [] b5H b5I h i)] [] []
noncomputable def e2G:Code:=(a0p (a0b Tryz.f75)).getD 0 .skip
noncomputable def d2k:Code:=(a0p (a0b Tryz.f75)).getD 1 .skip
def c5n (a:KI I34) (b:GI I34 O34) (m:KI I77) (n:GI I77 O77) (e:KI b2o) (g:GI b2o c8a) (h:KI a2s) (i:GI a2s a3J) (j:KI a6D) (k:GI a6D b5G) (f:a5f->Option (b3d)) (v:a5f):Option (b3d):=bif a (((),2,()),v.2.1,()) then let c:=b (((),2,()),v.2.1,());let d:=(length v.2.2.1:Int);bif decide (d<(wrap .i64 (12+c.1.1))) then bif decide (0<=0)&&decide (0<d) then let l:=set (replicate 1 (zero S68)) 0 ({ data:=#[115] }++(a9a (set (replicate 1 (zero (Ty.int IntKind.u8))) 0 (wrap .u8 (wrap .i64 (97+d))))),(getD v.2.2.1 (toNat 0) (zero S68)).2);bif a0D (length v.2.2.1+length l) then f ((((),(),()),c.2.1,v.2.2.1++l,()))else none else none else some (((),()),c.2.1,v.2.2)else none
theorem d8V (h i j k a b c d e g n o l m f v) :EBk (e8X h i j k a b c d e g n o l m) d2k (a0z [0,4] [] 3 [4] [] (atS b5H f) (a4X b5I)) (mkS b5H v)=c5n h i j k a b c d e g f v:=by kernel_rfl
def e2H (v:a5f):Nat:=v.2.1.1.length+v.2.1.2.1.natAbs+v.2.1.2.2.1.natAbs+v.2.2.1.length+1000
def d2l (v:a5f):Option (b3d):=a1t (c5n K34 G34 K77 G77 c2S b9S b0e b0f a8i a8j) (e2H v) v
def a6X (v:a5f):Bool:=(d2l v).isSome
def a4N (v:a5f):b3d:=(d2l v).getD (((),()),(([],(0,(0,()))),([],())))
def d8W (a:KI I34) (b:GI I34 O34) (j:KI I77) (k:GI I77 O77) (n:KI b2o) (o:GI b2o c8a) (p:KI a2s) (q:GI a2s a3J) (r:KI a6D) (s:GI a6D b5G) (f:a9J->Option (c8e)) (v:a9J):Option (c8e):=bif decide (v.1.2.2.2.1>0) then bif a (((),16,()),v.2.1,()) then let c:=b (((),16,()),v.2.1,());bif a (((),100,()),c.2) then let g:=(length v.2.2.2.1:Int);bif decide (0<=g)&&decide (g<(length v.2.2.1:Int)) then let h:=b (((),100,()),c.2);bif a (((),14,()),h.2) then let i:=b (((),14,()),h.2);bif a (((),81,()),i.2) then let l:=b (((),81,()),i.2);bif j (((),4,()),l.2) then let m:=k (((),4,()),l.2);bif m.1.1 then let d:=set (replicate 1 (zero S68)) 0 (getD v.2.2.1 (toNat g) (zero Ty.str),0,a0g .add .f32 (nearest .f32 c.1.1) (nearest .f32 (wrap .i64 (2+i.1.1))),0,180,());bif a0D (length v.2.2.2.1+length d) then f ((((),(),(),wrap .i64 (v.1.2.2.2.1-1),()),m.2.1,v.2.2.1,v.2.2.2.1++d,()))else none else let e:=set (replicate 1 (zero S68)) 0 (getD v.2.2.1 (toNat g) (zero Ty.str),nearest .f32 c.1.1,a0g .add .f32 (nearest .f32 c.1.1) (nearest .f32 (wrap .i64 (2+i.1.1))),h.1.1,wrap .i64 (h.1.1+l.1.1),());bif a0D (length v.2.2.2.1+length e) then f ((((),(),(),wrap .i64 (v.1.2.2.2.1-1),()),m.2.1,v.2.2.1,v.2.2.2.1++e,()))else none else none else none else none else none else none else none else some (((),(),()),v.2.1,v.2.2.2)
theorem e5T (h i j k a b c d e g n o l m f v) :EBk (e8X h i j k a b c d e g n o l m) e2G (a0z [0,3,4,5] [] 0 [0,4] [] (atS c5m f) (a4X c2W)) (mkS c5m v)=d8W h i j k a b c d e g f v:=by kernel_rfl
def f1n (v:a9J):Nat:=v.1.2.2.2.1.natAbs+v.2.1.1.length+v.2.1.2.1.natAbs+v.2.1.2.2.1.natAbs+v.2.2.1.length+v.2.2.2.1.length+1000
def e5U (v:a9J):Option (c8e):=a1t (d8W K34 G34 K77 G77 c2S b9S b0e b0f a8i a8j) (f1n v) v
def b1r (v:a9J):Bool:=(e5U v).isSome
def a5I (v:a9J):c8e:=(e5U v).getD (((),((),())),(([],(0,(0,()))),([],())))
def r75 (l:KI I34) (m:GI I34 O34) (B:KI I77) (D:GI I77 O77) (n:KI b2o) (o:GI b2o c8a) (g:KI a2s) (h:GI a2s a3J) (i:KI a6D) (j:GI a6D b5G) (s:a9J->Bool) (t:a9J->c8e) (p:a5f->Bool) (q:a5f->b3d) (x:I75.den):Option (O75.den):=bif l (((),5,()),x.2) then let w:=m (((),5,()),x.2);let E:=wrap .i64 (1+w.1.1);let F:=set (set (set (set (set (set (replicate 6 (zero Ty.str)) 0 { data:=#[109,97,105,110] }) 1 { data:=#[106,105,98] }) 2 { data:=#[103,101,110,111,97] }) 3 { data:=#[115,116,111,114,109] }) 4 { data:=#[99,111,100,101] }) 5 { data:=#[107,105,116,101] };let y:=(((),(),(),E,()),w.2.1,F,replicate 0 (zero S68),());bif s y then let c:=t y;let k:=(length c.2.2.1:Int);bif l (((),k,()),c.2.1,()) then let a:=m (((),k,()),c.2.1,());bif l (((),24,()),a.2) then let b:=m (((),24,()),a.2);bif b.1.1==0 then bif decide (0<=0)&&decide (0<k) then let u:=set (set (set (set (set (replicate 5 (zero Ty.str)) 0 { data:=#[] }) 1 { data:=#[74,105,98] }) 2 { data:=#[97,98,99,100,101,102,103,104,105,106,107,108,109,110,111,112,113] }) 3 { data:=#[97,98,99,100,101,102,103,104,105,106,107,108,109,110,111,112] }) 4 (getD c.2.2.1 (toNat 0) (zero S68)).1;let z:=(((),(),()),b.2.1,u,());bif n z then bif decide (0<=a.1.1)&&decide (a.1.1<k) then let r:=o z;some (((),()),r.2.1,set c.2.2.1 (toNat a.1.1) (r.1.1,(getD c.2.2.1 (toNat a.1.1) (zero S68)).2),())else none else none else none else bif b.1.1==1 then bif g (((),300,()),b.2) then bif decide (0<=a.1.1)&&decide (a.1.1<k) then let e:=h (((),300,()),b.2);let d:=getD c.2.2.1 (toNat a.1.1) (zero S68);some (((),()),e.2.1,set c.2.2.1 (toNat a.1.1) (d.1,e.1.1,d.2.2),())else none else none else bif b.1.1==2 then bif g (((),300,()),b.2) then bif decide (0<=a.1.1)&&decide (a.1.1<k) then let e:=h (((),300,()),b.2);let d:=getD c.2.2.1 (toNat a.1.1) (zero S68);some (((),()),e.2.1,set c.2.2.1 (toNat a.1.1) (d.1,d.2.1,e.1.1,d.2.2.2),())else none else none else bif b.1.1==3 then bif i (((),()),b.2) then bif decide (0<=a.1.1)&&decide (a.1.1<k) then let e:=j (((),()),b.2);let d:=getD c.2.2.1 (toNat a.1.1) (zero S68);some (((),()),e.2.1,set c.2.2.1 (toNat a.1.1) (d.1,d.2.1,d.2.2.1,d.2.2.2.1,wrap .i64 (e.1.1-2),()),())else none else none else bif b.1.1==4 then bif i (((),()),b.2) then bif decide (0<=a.1.1)&&decide (a.1.1<k) then let e:=j (((),()),b.2);let d:=getD c.2.2.1 (toNat a.1.1) (zero S68);some (((),()),e.2.1,set c.2.2.1 (toNat a.1.1) (d.1,d.2.1,d.2.2.1,wrap .i64 (e.1.1-2),d.2.2.2.2),())else none else none else bif b.1.1==5 then some (((),()),b.2.1,replicate 0 (zero S68),())else bif b.1.1==6 then let A:=(((),(),()),b.2.1,c.2.2);bif p A then some (((),()),(q A).2)else none else some (((),()),b.2.1,c.2.2)else none else none else none else none
theorem g5U (j k l m a b c d e g n o h i x) :a1W (e8X j k l m a b c d e g n o h i) (a0b Tryz.f75) I75 O75 x=r75 j k l m a b c d e g n o h i x:=by kernel_rfl
def F75 (x:I75.den):Option (O75.den):=r75 K34 G34 K77 G77 c2S b9S b0e b0f a8i a8j b1r a5I a6X a4N x
def K75 (x:I75.den):Bool:=(F75 x).isSome
def G75 (x:I75.den):O75.den:=(F75 x).getD (a1l O75)
theorem f1o:a1F Tryz.prog (e8X K34 G34 K77 G77 c2S b9S b0e b0f a8i a8j b1r a5I a6X a4N):=a0v mixed a0x a0w (.cons a4M (.cons b2n (.cons e2B (.cons d2g (.cons d2j .nil)))))
theorem g4o:a6z Tryz.prog 75 (e8X K34 G34 K77 G77 c2S b9S b0e b0f a8i a8j b1r a5I a6X a4N) (a0b Tryz.f75):=a1H Tryz.func75 rfl rfl rfl (by kernel_rfl) (a0y (l:=[e2G,d2k]) (by kernel_rfl) (.cons (a0o rfl (a0q (sh:=c5m) (shX:=c2W) (fun f v=>e5T K34 G34 K77 G77 c2S b9S b0e b0f a8i a8j b1r a5I a6X a4N f v) f1n (((),((),())),(([],(0,(0,()))),([],()))))) (.cons (a0o rfl (a0q (sh:=b5H) (shX:=b5I) (fun f v=>d8V K34 G34 K77 G77 c2S b9S b0e b0f a8i a8j b1r a5I a6X a4N f v) e2H (((),()),(([],(0,(0,()))),([],()))))) (.nil))))
theorem f9H:a0k Tryz.prog (75,a0j true I75 O75 K75 G75):=a1p f1o g4o true fun x=>g5U K34 G34 K77 G77 c2S b9S b0e b0f a8i a8j b1r a5I a6X a4N x
abbrev c2c:Sg:=⟨[.ptr 0,.val (S33),.val (.int .i64)],[.box (a2X)]⟩
abbrev d6J:Sg:=⟨[.val (S33)],[.box (a2X)]⟩
noncomputable def f9I (a b) :=a0m tab eqs [(34,a0j true I34 O34 a b)] 30 [.cell 6 34] [] [] [] [] []
def f9J (a:KI I34) (b:GI I34 O34) (x:c2c.den):Option (d6J.den):=let c:=wrap .i64 ((wrap .i64 (2*x.1.2.2.1))+1);bif a (((),c,()),x.2) then let d:=b (((),c,()),x.2);bif a (((),c,()),d.2) then let e:=b (((),c,()),d.2);some (((wrap .i64 ((wrap .i64 (x.1.2.1.1+d.1.1))-x.1.2.2.1),wrap .i64 ((wrap .i64 (x.1.2.1.2.1+e.1.1))-x.1.2.2.1),()),()),e.2)else none else none
theorem f9K (a b x) :a1W (f9I a b) (a0b Tryz.f143) c2c d6J x=f9J a b x:=by kernel_rfl
def f5z (x:c2c.den):Option (d6J.den):=f9J K34 G34 x
def d6K (x:c2c.den):Bool:=(f5z x).isSome
def c5o (x:c2c.den):d6J.den:=(f5z x).getD (a1l d6J)
theorem f1p:a0k Tryz.prog (143,a0j true c2c d6J d6K c5o):=a1p (a0v mixed a0x a0w (.cons a4M .nil)) (a1H Tryz.func143 rfl rfl rfl (by kernel_rfl) (a0O (by kernel_rfl))) true fun x=>f9K K34 G34 x
abbrev c9C:Sg:=⟨[.ptr 0],[.box (a2X)]⟩
abbrev e2I:Sg:=⟨[.val (S33)],[.box (a2X)]⟩
noncomputable def f9L (c d a b e g) :=a0m tab eqs [(77,a0j true I77 O77 c d),(125,a0j true b3c c8d a b),(34,a0j true I34 O34 e g)] 35 [.cell 2 34] [] [] [] [] []
def f9M (l:KI I77) (m:GI I77 O77) (b:KI b3c) (c:GI b3c c8d) (d:KI I34) (e:GI I34 O34) (x:c9C.den):Option (e2I.den):=bif l (((),40,()),x.2) then let g:=m (((),40,()),x.2);bif g.1.1 then let o:=set (set (set (set (replicate 4 (zero (Ty.int IntKind.i64))) 0 10000) 1 (-10000)) 2 10001) 3 9223372036854775807;bif b (((),(),()),g.2.1,o,()) then let n:=c (((),(),()),g.2.1,o,());let a:=set (set (set (replicate 3 (zero (Ty.int IntKind.i64))) 0 10000) 1 0) 2 (-10001);bif b (((),(),()),n.2.1,a,()) then let h:=c (((),(),()),n.2.1,a,());some (((n.1.1,h.1),()),h.2.1,())else none else none else let p:=set (set (set (replicate 3 (zero (Ty.int IntKind.i64))) 0 4) 1 20) 2 400;bif b (((),(),()),g.2.1,p,()) then let i:=c (((),(),()),g.2.1,p,());let k:=wrap .i64 ((wrap .i64 (2*i.1.1))+1);bif d (((),k,()),i.2.1,()) then let a:=e (((),k,()),i.2.1,());bif d (((),k,()),a.2) then let j:=e (((),k,()),a.2);some (((wrap .i64 (a.1.1-i.1.1),wrap .i64 (j.1.1-i.1.1),()),()),j.2)else none else none else none else none
theorem f9N (c d a b e g x) :a1W (f9L c d a b e g) (a0b Tryz.f189) c9C e2I x=f9M c d a b e g x:=by kernel_rfl
def f9O (x:c9C.den):Option (e2I.den):=f9M K77 G77 d2h c2b K34 G34 x
def e8Y (x:c9C.den):Bool:=(f9O x).isSome
def e8Z (x:c9C.den):e2I.den:=(f9O x).getD (a1l e2I)
theorem f1q:a0k Tryz.prog (189,a0j true c9C e2I e8Y e8Z):=a1p (a0v mixed a0x a0w (.cons b2n (.cons d2i (.cons a4M .nil)))) (a1H Tryz.func189 rfl rfl rfl (by kernel_rfl) (a0O (by kernel_rfl))) true fun x=>f9N K77 G77 d2h c2b K34 G34 x
abbrev c2d:Sg:=⟨[.ptr 0],[.box (a2X)]⟩
abbrev d6L:Sg:=⟨[.val (S35)],[.box (a2X)]⟩
noncomputable def f9P (a b) :=a0m tab eqs [(189,a0j true c9C e2I a b)] 10 [.cell 2 36] [] [] [] [] []
def f9Q (a:KI c9C) (b:GI c9C e2I) (x:c2d.den):Option (d6L.den):=bif a (((),()),x.2) then let c:=b (((),()),x.2);bif a (((),()),c.2) then let d:=b (((),()),c.2);some (((c.1.1,d.1),()),d.2)else none else none
theorem f9R (a b x) :a1W (f9P a b) (a0b Tryz.f144) c2d d6L x=f9Q a b x:=by kernel_rfl
def f5A (x:c2d.den):Option (d6L.den):=f9Q e8Y e8Z x
def d6M (x:c2d.den):Bool:=(f5A x).isSome
def d6N (x:c2d.den):d6L.den:=(f5A x).getD (a1l d6L)
theorem f1r:a0k Tryz.prog (144,a0j true c2d d6L d6M d6N):=a1p (a0v mixed a0x a0w (.cons f1q .nil)) (a1H Tryz.func144 rfl rfl rfl (by kernel_rfl) (a0O (by kernel_rfl))) true fun x=>f9R e8Y e8Z x
abbrev I76:Sg:=⟨[.ptr 0],[.box (a2X)]⟩
abbrev O76:Sg:=⟨[.val (S38)],[.box (a2X)]⟩
abbrev b5J:Type:=((Unit×(Unit×(Unit×(Int×Unit))))×(((List (Den (.int .u8)))×(Int×(Int×Unit)))×((Int×(Int×(Int×(Int×(Unit×(Int×(Int×(Int×(Int×Unit)))))))))×((Int×(Int×(Int×(Int×(Unit×(Int×(Int×(Int×(Int×Unit)))))))))×((List (Den (a1U)))×Unit)))))
def c5p:ShS:=⟨[(0,.one (.ptr 0 0)),(2,.one (.ptr 1 0)),(3,.one (.ptr 2 0)),(4,.one (.int .i64))],[(0,.box [.sl (.int .u8),.int .i64,.int .i64]),(1,.box [.int .i64,.int .i64,.int .i64,.int .i64,.nil (a1U),.int .i64,.int .i64,.int .i64,.int .i64]),(2,.box [.int .i64,.int .i64,.int .i64,.int .i64,.ref (a1U) 3,.int .i64,.int .i64,.int .i64,.int .i64]),(3,.arr (a1U))],4,1⟩
abbrev d2m:Type:=((Unit×(Unit×(Unit×Unit)))×(((List (Den (.int .u8)))×(Int×(Int×Unit)))×((Int×(Int×(Int×(Int×(Unit×(Int×(Int×(Int×(Int×Unit)))))))))×((Int×(Int×(Int×(Int×(Unit×(Int×(Int×(Int×(Int×Unit)))))))))×((List (Den (a1U)))×Unit)))))
def c2X:ShS:=⟨[(0,.one (.ptr 0 0)),(2,.one (.ptr 1 0)),(3,.one (.ptr 2 0))],[(0,.box [.sl (.int .u8),.int .i64,.int .i64]),(1,.box [.int .i64,.int .i64,.int .i64,.int .i64,.nil (a1U),.int .i64,.int .i64,.int .i64,.int .i64]),(2,.box [.int .i64,.int .i64,.int .i64,.int .i64,.ref (a1U) 3,.int .i64,.int .i64,.int .i64,.int .i64]),(3,.arr (a1U))],4,1⟩
abbrev a5J:Type:=((Unit×(Unit×(Unit×Unit)))×(((List (Den (.int .u8)))×(Int×(Int×Unit)))×((Int×(Int×(Int×(Int×(Unit×(Int×(Int×(Int×(Int×Unit)))))))))×((Int×(Int×(Int×(Int×(Unit×(Int×(Int×(Int×(Int×Unit)))))))))×((List (Den (a1U)))×Unit)))))
def b5K:ShS:=⟨[(0,.one (.ptr 0 0)),(2,.one (.ptr 1 0)),(3,.one (.ptr 2 0))],[(0,.box [.sl (.int .u8),.int .i64,.int .i64]),(1,.box [.int .i64,.int .i64,.int .i64,.int .i64,.nil (a1U),.int .i64,.int .i64,.int .i64,.int .i64]),(2,.box [.int .i64,.int .i64,.int .i64,.int .i64,.ref (a1U) 3,.int .i64,.int .i64,.int .i64,.int .i64]),(3,.arr (a1U))],4,1⟩
abbrev b9V:Type:=((Unit×(Unit×Unit))×(((List (Den (.int .u8)))×(Int×(Int×Unit)))×((Int×(Int×(Int×(Int×(Unit×(Int×(Int×(Int×(Int×Unit)))))))))×((Int×(Int×(Int×(Int×(Unit×(Int×(Int×(Int×(Int×Unit)))))))))×((List (Den (a1U)))×Unit)))))
def b5L:ShS:=⟨[(2,.one (.ptr 1 0)),(3,.one (.ptr 2 0))],[(0,.box [.sl (.int .u8),.int .i64,.int .i64]),(1,.box [.int .i64,.int .i64,.int .i64,.int .i64,.nil (a1U),.int .i64,.int .i64,.int .i64,.int .i64]),(2,.box [.int .i64,.int .i64,.int .i64,.int .i64,.ref (a1U) 3,.int .i64,.int .i64,.int .i64,.int .i64]),(3,.arr (a1U))],4,1⟩
noncomputable def f9S (h i a b j k c d l m e g) :=a0m tab eqs [(34,a0j true I34 O34 h i),(143,a0j true c2c d6J a b),(77,a0j true I77 O77 j k),(144,a0j true c2d d6L c d)] 92 [.cell 2 39] [] [] [(3,a1Q [0,2,3,4] [.boxNil 3 4] 0 [0,2,3] [] c5p c2X l m),(18,a1Q [0,2,3] [] 3 [2,3] [] b5K b5L e g)] [] [.frzBox 2]
noncomputable def e2J:Code:=(a0p (a0b Tryz.f76)).getD 0 .skip
noncomputable def d2n:Code:=(a0p (a0b Tryz.f76)).getD 1 .skip
def c5q (a:KI I34) (b:GI I34 O34) (d:KI c2c) (e:GI c2c d6J) (k:KI I77) (l:GI I77 O77) (g:KI c2d) (h:GI c2d d6L) (f:a5J->Option (b9V)) (v:a5J):Option (b9V):=bif a (((),2,()),v.2.1,()) then let c:=b (((),2,()),v.2.1,());let i:=(length v.2.2.2.2.1:Int);bif decide (i<(wrap .i64 (20+c.1.1))) then let j:=set (replicate 1 (zero a1U)) 0 ((i,1000,()),false,());bif a0D (length v.2.2.2.2.1+length j) then f ((((),(),(),()),c.2.1,v.2.2.1,v.2.2.2.1,v.2.2.2.2.1++j,()))else none else some (((),(),()),c.2.1,v.2.2)else none
theorem d8X (e g a b h i c d l m j k f v) :EBk (f9S e g a b h i c d l m j k) d2n (a0z [0,2,3] [] 3 [2,3] [] (atS b5K f) (a4X b5L)) (mkS b5K v)=c5q e g a b h i c d f v:=by kernel_rfl
def e2K (v:a5J):Nat:=v.2.1.1.length+v.2.1.2.1.natAbs+v.2.1.2.2.1.natAbs+v.2.2.1.1.natAbs+v.2.2.1.2.1.natAbs+v.2.2.1.2.2.1.natAbs+v.2.2.1.2.2.2.1.natAbs+v.2.2.1.2.2.2.2.2.1.natAbs+v.2.2.1.2.2.2.2.2.2.1.natAbs+v.2.2.1.2.2.2.2.2.2.2.1.natAbs+v.2.2.1.2.2.2.2.2.2.2.2.1.natAbs+v.2.2.2.1.1.natAbs+v.2.2.2.1.2.1.natAbs+v.2.2.2.1.2.2.1.natAbs+v.2.2.2.1.2.2.2.1.natAbs+v.2.2.2.1.2.2.2.2.2.1.natAbs+v.2.2.2.1.2.2.2.2.2.2.1.natAbs+v.2.2.2.1.2.2.2.2.2.2.2.1.natAbs+v.2.2.2.1.2.2.2.2.2.2.2.2.1.natAbs+v.2.2.2.2.1.length+1000
def d2o (v:a5J):Option (b9V):=a1t (c5q K34 G34 d6K c5o K77 G77 d6M d6N) (e2K v) v
def b1s (v:a5J):Bool:=(d2o v).isSome
def a8z (v:a5J):b9V:=(d2o v).getD (((),((),())),(([],(0,(0,()))),((0,(0,(0,(0,((),(0,(0,(0,(0,()))))))))),((0,(0,(0,(0,((),(0,(0,(0,(0,()))))))))),([],())))))
def d8Y (l:KI I34) (m:GI I34 O34) (a:KI c2c) (b:GI c2c d6J) (c:KI I77) (d:GI I77 O77) (g:KI c2d) (h:GI c2d d6L) (f:b5J->Option (d2m)) (v:b5J):Option (d2m):=bif decide (v.1.2.2.2.1>0) then let n:=wrap .i64 (100*Int.tmod (length v.2.2.2.2.1:Int) 2);let i:=(((),(n,0,()),40,()),v.2.1,());bif a i then let e:=b i;bif c (((),2,()),e.2) then let j:=d (((),2,()),e.2);let k:=set (replicate 1 (zero a1U)) 0 (e.1.1,j.1);bif a0D (length v.2.2.2.2.1+length k) then f ((((),(),(),wrap .i64 (v.1.2.2.2.1-1),()),j.2.1,v.2.2.1,v.2.2.2.1,v.2.2.2.2.1++k,()))else none else none else none else some (((),(),(),()),v.2)
theorem e5V (e g a b h i c d l m j k f v) :EBk (f9S e g a b h i c d l m j k) e2J (a0z [0,2,3,4] [.boxNil 3 4] 0 [0,2,3] [] (atS c5p f) (a4X c2X)) (mkS c5p v)=d8Y e g a b h i c d f v:=by kernel_rfl
def f1s (v:b5J):Nat:=v.1.2.2.2.1.natAbs+v.2.1.1.length+v.2.1.2.1.natAbs+v.2.1.2.2.1.natAbs+v.2.2.1.1.natAbs+v.2.2.1.2.1.natAbs+v.2.2.1.2.2.1.natAbs+v.2.2.1.2.2.2.1.natAbs+v.2.2.1.2.2.2.2.2.1.natAbs+v.2.2.1.2.2.2.2.2.2.1.natAbs+v.2.2.1.2.2.2.2.2.2.2.1.natAbs+v.2.2.1.2.2.2.2.2.2.2.2.1.natAbs+v.2.2.2.1.1.natAbs+v.2.2.2.1.2.1.natAbs+v.2.2.2.1.2.2.1.natAbs+v.2.2.2.1.2.2.2.1.natAbs+v.2.2.2.1.2.2.2.2.2.1.natAbs+v.2.2.2.1.2.2.2.2.2.2.1.natAbs+v.2.2.2.1.2.2.2.2.2.2.2.1.natAbs+v.2.2.2.1.2.2.2.2.2.2.2.2.1.natAbs+v.2.2.2.2.1.length+1000
def e5W (v:b5J):Option (d2m):=a1t (d8Y K34 G34 d6K c5o K77 G77 d6M d6N) (f1s v) v
def c5r (v:b5J):Bool:=(e5W v).isSome
def b3e (v:b5J):d2m:=(e5W v).getD (((),((),((),()))),(([],(0,(0,()))),((0,(0,(0,(0,((),(0,(0,(0,(0,()))))))))),((0,(0,(0,(0,((),(0,(0,(0,(0,()))))))))),([],())))))
def r76 (h:KI I34) (i:GI I34 O34) (e:KI c2c) (g:GI c2c d6J) (z:KI I77) (A:GI I77 O77) (k:KI c2d) (l:GI c2d d6L) (o:b5J->Bool) (p:b5J->d2m) (m:a5J->Bool) (n:a5J->b9V) (x:I76.den):Option (O76.den):=bif h (((),9,()),x.2) then let q:=i (((),9,()),x.2);bif h (((),3,()),q.2) then let r:=i (((),3,()),q.2);let B:=wrap .i64 (1+r.1.1);let D:=wrap .i64 (q.1.1-4);let s:=(((),(),(),B,()),r.2.1,(0,0,0,0,(),0,0,0,0,()),(0,-20,D,20,(),0,0,0,0,()),[],());bif o s then let a:=p s;let t:=(((),(50,-20,()),20,()),a.2.1,());bif e t then let j:=g t;let u:=(((),(50,20,()),20,()),j.2);bif e u then let d:=g u;bif h (((),20,()),d.2) then let b:=i (((),20,()),d.2);bif b.1.1==0 then some (((((a.2.2.2.1.1,a.2.2.2.1.2.1,()),(a.2.2.2.1.2.2.1,a.2.2.2.1.2.2.2.1,()),()),replicate 0 (zero a1U),(j.1.1,d.1),()),()),b.2)else bif b.1.1==1 then bif decide (0<=0)&&decide (0<(length a.2.2.2.2.1:Int)) then let w:=(a.2.2.2.1.1,a.2.2.2.1.2.1,());some ((((w,(a.2.2.2.1.2.2.1,a.2.2.2.1.2.2.2.1,()),()),set a.2.2.2.2.1 (toNat 0) (w,(getD a.2.2.2.2.1 (toNat 0) (zero a1U)).2),(j.1.1,d.1),()),()),b.2)else none else bif b.1.1==2 then bif k (((),()),b.2) then let c:=l (((),()),b.2);some (((c.1.1,a.2.2.2.2.1,(j.1.1,d.1),()),()),c.2)else none else bif b.1.1==3 then some (((((a.2.2.2.1.1,a.2.2.2.1.2.1,()),(a.2.2.2.1.2.2.1,a.2.2.2.1.2.2.2.1,()),()),a.2.2.2.2.1,(d.1.1,d.1),()),()),b.2)else bif b.1.1==4 then let y:=(((),(),(),()),b.2.1,(a.2.2.1.1,a.2.2.1.2.1,a.2.2.1.2.2.1,a.2.2.1.2.2.2.1,(),a.2.2.1.2.2.2.2.2),(a.2.2.2.1.1,a.2.2.2.1.2.1,a.2.2.2.1.2.2.1,a.2.2.2.1.2.2.2.1,(),j.1.1.1,j.1.1.2.1,d.1.1),a.2.2.2.2);bif m y then let c:=n y;some (((((c.2.2.2.1.1,c.2.2.2.1.2.1,()),(c.2.2.2.1.2.2.1,c.2.2.2.1.2.2.2.1,()),()),c.2.2.2.2.1,((c.2.2.2.1.2.2.2.2.2.1,c.2.2.2.1.2.2.2.2.2.2.1,()),c.2.2.2.1.2.2.2.2.2.2.2,()),()),()),c.2.1,())else none else some (((((a.2.2.2.1.1,a.2.2.2.1.2.1,()),(a.2.2.2.1.2.2.1,a.2.2.2.1.2.2.2.1,()),()),a.2.2.2.2.1,(j.1.1,d.1),()),()),b.2)else none else none else none else none else none else none
theorem g5V (h i a b j k c d l m e g x) :a1W (f9S h i a b j k c d l m e g) (a0b Tryz.f76) I76 O76 x=r76 h i a b j k c d l m e g x:=by kernel_rfl
def F76 (x:I76.den):Option (O76.den):=r76 K34 G34 d6K c5o K77 G77 d6M d6N c5r b3e b1s a8z x
def K76 (x:I76.den):Bool:=(F76 x).isSome
def G76 (x:I76.den):O76.den:=(F76 x).getD (a1l O76)
theorem f9T:a0k Tryz.prog (76,a0j true I76 O76 K76 G76):=a1p (a0v mixed a0x a0w (.cons a4M (.cons f1p (.cons b2n (.cons f1r .nil))))) (a1H Tryz.func76 rfl rfl rfl (by kernel_rfl) (a0y (l:=[e2J,d2n]) (by kernel_rfl) (.cons (a0o rfl (a0q (sh:=c5p) (shX:=c2X) (fun f v=>e5V K34 G34 d6K c5o K77 G77 d6M d6N c5r b3e b1s a8z f v) f1s (((),((),((),()))),(([],(0,(0,()))),((0,(0,(0,(0,((),(0,(0,(0,(0,()))))))))),((0,(0,(0,(0,((),(0,(0,(0,(0,()))))))))),([],()))))))) (.cons (a0o rfl (a0q (sh:=b5K) (shX:=b5L) (fun f v=>d8X K34 G34 d6K c5o K77 G77 d6M d6N c5r b3e b1s a8z f v) e2K (((),((),())),(([],(0,(0,()))),((0,(0,(0,(0,((),(0,(0,(0,(0,()))))))))),((0,(0,(0,(0,((),(0,(0,(0,(0,()))))))))),([],()))))))) (.nil))))) true fun x=>g5V K34 G34 d6K c5o K77 G77 d6M d6N c5r b3e b1s a8z x
abbrev I33:Sg:=⟨[.ptr 0,.val (.int .i64)],[.box (a2X)]⟩
abbrev O33:Sg:=⟨[.val (.cpx .f64)],[.box (a2X)]⟩
noncomputable def g5W (a b) :=a0m tab eqs [(81,a0j true I81 O81 a b)] 12 [.tmp 4] [] [] [] [] []
def r33 (a:KI I81) (b:GI I81 O81) (x:I33.den):Option (O33.den):=bif a (((),x.1.2),x.2) then let c:=b (((),x.1.2),x.2);bif a (((),x.1.2),c.2) then let d:=b (((),x.1.2),c.2);some (((c.1.1,d.1.1),()),d.2)else none else none
theorem g5X (a b x) :a1W (g5W a b) (a0b Tryz.f33) I33 O33 x=r33 a b x:=by kernel_rfl
def F33 (x:I33.den):Option (O33.den):=r33 K81 G81 x
def K33 (x:I33.den):Bool:=(F33 x).isSome
def G33 (x:I33.den):O33.den:=(F33 x).getD (a1l O33)
theorem f1t:a0k Tryz.prog (33,a0j true I33 O33 K33 G33):=a1p (a0v mixed a0x a0w (.cons f1k .nil)) (a1H Tryz.func33 rfl rfl rfl (by kernel_rfl) (a0O (by kernel_rfl))) true fun x=>g5X K81 G81 x
abbrev c2Y:Ty:=.cons (.slice (.int .u8)) (.nil)
abbrev d6O:Ty:=.cons (.cpx .f64) (.nil)
noncomputable def f9U (c d e g h i a b) :=a0m tab eqs [(30,a0j false I30 O30 c d),(33,a0j true I33 O33 e g),(34,a0j true I34 O34 h i),(146,a0j true b3b c8c a b)] 26 [.tmp 2] [] [] [] [] []
def f9V (e:KI I30) (g:GI I30 O30) (h:KI I33) (i:GI I33 O33) (j:KI I34) (k:GI I34 O34) (a:KI b3b) (b:GI b3b c8c) (x:Den c2Y):OD d6O:=bif e (x,()) then let m:=g (x,());bif h (((),1000,()),m.2) then let d:=i (((),1000,()),m.2);bif j (((),6,()),d.2) then let c:=k (((),6,()),d.2);bif c.1.1==0 then some ((4726483295884279808,13949855332739055616),())else bif c.1.1==1 then some ((d.1.1.1,4726483295884279809),())else bif c.1.1==2 then bif a (((),()),c.2) then let l:=b (((),()),c.2);bif a (((),()),l.2) then some ((l.1.1,(b (((),()),l.2)).1.1),())else none else none else some d.1 else none else none else none
theorem f9W (c d e g h i a b x) :a0t (f9U c d e g h i a b) (a0b Tryz.f145) (a1a d6O) (a0M c2Y x) []=f9V c d e g h i a b x:=by kernel_rfl
def f5B (x:Den c2Y):OD d6O:=f9V K30 G30 K33 G33 K34 G34 d6H d6I x
def d8Z (x:Den c2Y):Bool:=(f5B x).isSome
def e2L (x:Den c2Y):Den d6O:=(f5B x).getD (zero d6O)
theorem f1u:a0k Tryz.prog (145,a0a c2Y d6O d8Z e2L):=fnO (.cons f1g (.cons f1t (.cons a4M (.cons d2f .nil)))) Tryz.func145 (f9W K30 G30 K33 G33 K34 G34 d6H d6I)
abbrev a8A:Sg:=⟨[.ptr 0],[.box (a2X)]⟩
abbrev b2d:Sg:=⟨[.val (.cpx .f32)],[.box (a2X)]⟩
noncomputable def d9a (h i a b c d e g) :=a0m tab eqs [(77,a0j true I77 O77 h i),(146,a0j true b3b c8c a b),(125,a0j true b3c c8d c d),(141,a0j true a2s a3J e g)] 30 [.tmp 2] [] [] [] [] []
def g4p (h:KI I77) (i:GI I77 O77) (d:KI b3b) (e:GI b3b c8c) (j:KI b3c) (k:GI b3c c8d) (a:KI a2s) (b:GI a2s a3J) (x:a8A.den):Option (b2d.den):=bif h (((),30,()),x.2) then let l:=i (((),30,()),x.2);bif l.1.1 then bif d (((),()),l.2) then let c:=e (((),()),l.2);let p:=a0N .f64 .f32 c.1.1;bif p.1 then bif d (((),()),c.2) then let g:=e (((),()),c.2);let q:=a0N .f64 .f32 g.1.1;bif q.1 then some (((p.2,q.2),()),g.2)else none else none else none else none else bif h (((),20,()),l.2) then let c:=i (((),20,()),l.2);bif c.1.1 then let m:=set (set (set (set (replicate 4 (zero (Ty.int IntKind.i64))) 0 100) 1 (-100)) 2 101) 3 0;bif j (((),(),()),c.2.1,m,()) then let o:=k (((),(),()),c.2.1,m,());bif a (((),100,()),o.2.1,()) then let n:=b (((),100,()),o.2.1,());some (((nearest .f32 o.1.1,n.1.1),()),n.2)else none else none else bif a (((),15,()),c.2) then let g:=b (((),15,()),c.2);bif a (((),15,()),g.2) then let m:=b (((),15,()),g.2);some (((g.1.1,m.1.1),()),m.2)else none else none else none else none
theorem f9X (h i a b c d e g x) :a1W (d9a h i a b c d e g) (a0b Tryz.f128) a8A b2d x=g4p h i a b c d e g x:=by kernel_rfl
def g4q (x:a8A.den):Option (b2d.den):=g4p K77 G77 d6H d6I d2h c2b b0e b0f x
def e2M (x:a8A.den):Bool:=(g4q x).isSome
def e2N (x:a8A.den):b2d.den:=(g4q x).getD (a1l b2d)
theorem e2O:a1F Tryz.prog (d9a K77 G77 d6H d6I d2h c2b b0e b0f):=a0v mixed a0x a0w (.cons b2n (.cons d2f (.cons d2i (.cons d2g .nil))))
theorem f1v:a6z Tryz.prog 128 (d9a K77 G77 d6H d6I d2h c2b b0e b0f) (a0b Tryz.f128):=a1H Tryz.func128 rfl rfl rfl (by kernel_rfl) (a0O (by kernel_rfl))
theorem f1w:a0k Tryz.prog (128,a0j true a8A b2d e2M e2N):=a1p e2O f1v true fun x=>f9X K77 G77 d6H d6I d2h c2b b0e b0f x
abbrev I79:Sg:=⟨[.ptr 0],[.box (a2X)]⟩
abbrev O79:Sg:=⟨[.val (S30)],[.box (a2X)]⟩
abbrev a5K:Type:=((Unit×(Unit×(Unit×Unit)))×(((List (Den (.int .u8)))×(Int×(Int×Unit)))×((Unit×(Unit×Unit))×((Unit×(Unit×Unit))×((List (Den (a0Y)))×((List (Den (.int .i64)))×Unit))))))
def b5M:ShS:=⟨[(0,.one (.ptr 0 0)),(2,.one (.ptr 1 0)),(3,.one (.ptr 2 0))],[(0,.box [.sl (.int .u8),.int .i64,.int .i64]),(1,.box [.nil (a0Y),.nil (.int .i64)]),(2,.box [.ref (a0Y) 3,.ref (.int .i64) 4]),(3,.arr (a0Y)),(4,.arr (.int .i64))],5,1⟩
abbrev b3f:Type:=((Unit×(Unit×Unit))×(((List (Den (.int .u8)))×(Int×(Int×Unit)))×((Unit×(Unit×Unit))×((Unit×(Unit×Unit))×((List (Den (a0Y)))×((List (Den (.int .i64)))×Unit))))))
def b5N:ShS:=⟨[(2,.one (.ptr 1 0)),(3,.one (.ptr 2 0))],[(0,.box [.sl (.int .u8),.int .i64,.int .i64]),(1,.box [.nil (a0Y),.nil (.int .i64)]),(2,.box [.ref (a0Y) 3,.ref (.int .i64) 4]),(3,.arr (a0Y)),(4,.arr (.int .i64))],5,1⟩
noncomputable def f1x (j k l m n o a b c d e g h i) :=a0m tab eqs [(74,a0j true I74 O74 j k),(34,a0j true I34 O34 l m),(82,a0j true I82 O82 n o),(145,a0a c2Y d6O a b),(128,a0j true a8A b2d c d),(142,a0j true a6D b5G e g)] 94 [.cell 2 31] [] [] [(15,a1Q [0,2,3] [] 1 [2,3] [] b5M b5N h i)] [] [.frzBox 2]
noncomputable def d2p:Code:=(a0p (a0b Tryz.f79)).getD 0 .skip
def c5s (m:KI I74) (n:GI I74 O74) (a:KI I34) (b:GI I34 O34) (o:KI I82) (p:GI I82 O82) (d:KA c2Y) (e:GA c2Y d6O) (g:KI a8A) (h:GI a8A b2d) (i:KI a6D) (j:GI a6D b5G) (f:a5K->Option (b3f)) (v:a5K):Option (b3f):=bif a (((),2,()),v.2.1,()) then let c:=b (((),2,()),v.2.1,());let k:=(length v.2.2.2.2.1:Int);bif decide (k<(wrap .i64 (20+c.1.1))) then bif decide (0<=0)&&decide (0<k) then let l:=set (replicate 1 (zero a0Y)) 0 (getD v.2.2.2.2.1 (toNat 0) (zero a0Y));bif a0D (length v.2.2.2.2.1+length l) then f ((((),(),(),()),c.2.1,((),(),()),((),(),()),v.2.2.2.2.1++l,v.2.2.2.2.2))else none else none else some (((),(),()),c.2.1,((),(),()),((),(),()),v.2.2.2.2)else none
theorem d9b (h i j k l m a b c d e g n o f v) :EBk (f1x h i j k l m a b c d e g n o) d2p (a0z [0,2,3] [] 1 [2,3] [] (atS b5M f) (a4X b5N)) (mkS b5M v)=c5s h i j k l m a b c d e g f v:=by kernel_rfl
def d2q (v:a5K):Nat:=v.2.1.1.length+v.2.1.2.1.natAbs+v.2.1.2.2.1.natAbs+v.2.2.2.2.1.length+v.2.2.2.2.2.1.length+1000
def d2r (v:a5K):Option (b3f):=a1t (c5s K74 G74 K34 G34 K82 G82 d8Z e2L e2M e2N a8i a8j) (d2q v) v
def a6Y (v:a5K):Bool:=(d2r v).isSome
def a6Z (v:a5K):b3f:=(d2r v).getD (((),((),())),(([],(0,(0,()))),(((),((),())),(((),((),())),([],([],()))))))
def r79 (u:KI I74) (w:GI I74 O74) (h:KI I34) (i:GI I34 O34) (y:KI I82) (z:GI I82 O82) (j:KA c2Y) (k:GA c2Y d6O) (l:KI a8A) (m:GI a8A b2d) (n:KI a6D) (o:GI a6D b5G) (p:a5K->Bool) (q:a5K->b3f) (x:I79.den):Option (O79.den):=bif u (((),()),x.2) then let d:=w (((),()),x.2);let t:=(length d.2.2.1:Int);bif h (((),t,()),d.2.1,()) then let g:=i (((),t,()),d.2.1,());bif h (((),24,()),g.2) then let e:=i (((),24,()),g.2);bif e.1.1==0 then bif y (((),()),e.2) then let b:=z (((),()),e.2);let c:=set (replicate 1 (zero (Ty.int IntKind.u8))) 0 (wrap .u8 b.1.1);bif j (c,()) then bif decide (0<=g.1.1)&&decide (g.1.1<t) then some (((set d.2.2.1 (toNat g.1.1) ((k (c,())).1,(getD d.2.2.1 (toNat g.1.1) (zero a0Y)).2),d.2.2.2),()),b.2)else none else none else none else bif e.1.1==1 then bif h (((),13,()),e.2) then let b:=i (((),13,()),e.2);bif l (((),()),b.2) then bif decide (0<=g.1.1)&&decide (g.1.1<t) then bif decide (0<=b.1.1)&&decide (b.1.1<(↑13:Int)) then let c:=getD d.2.2.1 (toNat g.1.1) (zero a0Y);let a:=m (((),()),b.2);let D:=0+1+1+1+1+1+1+1+1+1+1+1+1;let E:=0+1+1+1+1+1+1+1+1+1+1+1;let F:=0+1+1+1+1+1+1+1+1+1+1;let G:=0+1+1+1+1+1+1+1+1+1;let H:=0+1+1+1+1+1+1+1+1;let I:=0+1+1+1+1+1+1+1;let r:=0+1+1+1+1+1+1;some (((set d.2.2.1 (toNat g.1.1) (c.1,((bif beq 0 (toNat b.1.1)then a.1.1.1 else c.2.1.1.1,bif beq 0 (toNat b.1.1)then a.1.1.2 else c.2.1.1.2),(bif beq (0+1) (toNat b.1.1)then a.1.1.1 else c.2.1.2.1.1,bif beq (0+1) (toNat b.1.1)then a.1.1.2 else c.2.1.2.1.2),(bif beq (0+1+1) (toNat b.1.1)then a.1.1.1 else c.2.1.2.2.1.1,bif beq (0+1+1) (toNat b.1.1)then a.1.1.2 else c.2.1.2.2.1.2),(bif beq (0+1+1+1) (toNat b.1.1)then a.1.1.1 else c.2.1.2.2.2.1.1,bif beq (0+1+1+1) (toNat b.1.1)then a.1.1.2 else c.2.1.2.2.2.1.2),(bif beq (0+1+1+1+1) (toNat b.1.1)then a.1.1.1 else c.2.1.2.2.2.2.1.1,bif beq (0+1+1+1+1) (toNat b.1.1)then a.1.1.2 else c.2.1.2.2.2.2.1.2),(bif beq (0+1+1+1+1+1) (toNat b.1.1)then a.1.1.1 else c.2.1.2.2.2.2.2.1.1,bif beq (0+1+1+1+1+1) (toNat b.1.1)then a.1.1.2 else c.2.1.2.2.2.2.2.1.2),(bif beq r (toNat b.1.1)then a.1.1.1 else c.2.1.2.2.2.2.2.2.1.1,bif beq r (toNat b.1.1)then a.1.1.2 else c.2.1.2.2.2.2.2.2.1.2),(bif beq I (toNat b.1.1)then a.1.1.1 else c.2.1.2.2.2.2.2.2.2.1.1,bif beq I (toNat b.1.1)then a.1.1.2 else c.2.1.2.2.2.2.2.2.2.1.2),(bif beq H (toNat b.1.1)then a.1.1.1 else c.2.1.2.2.2.2.2.2.2.2.1.1,bif beq H (toNat b.1.1)then a.1.1.2 else c.2.1.2.2.2.2.2.2.2.2.1.2),(bif beq G (toNat b.1.1)then a.1.1.1 else c.2.1.2.2.2.2.2.2.2.2.2.1.1,bif beq G (toNat b.1.1)then a.1.1.2 else c.2.1.2.2.2.2.2.2.2.2.2.1.2),(bif beq F (toNat b.1.1)then a.1.1.1 else c.2.1.2.2.2.2.2.2.2.2.2.2.1.1,bif beq F (toNat b.1.1)then a.1.1.2 else c.2.1.2.2.2.2.2.2.2.2.2.2.1.2),(bif beq E (toNat b.1.1)then a.1.1.1 else c.2.1.2.2.2.2.2.2.2.2.2.2.2.1.1,bif beq E (toNat b.1.1)then a.1.1.2 else c.2.1.2.2.2.2.2.2.2.2.2.2.2.1.2),(bif beq D (toNat b.1.1)then a.1.1.1 else c.2.1.2.2.2.2.2.2.2.2.2.2.2.2.1.1,bif beq D (toNat b.1.1)then a.1.1.2 else c.2.1.2.2.2.2.2.2.2.2.2.2.2.2.1.2),()),()),d.2.2.2),()),a.2)else none else none else none else none else bif e.1.1==2 then let A:=(length d.2.2.2.1:Int);bif h (((),A,()),e.2) then let b:=i (((),A,()),e.2);bif n (((),()),b.2) then bif decide (0<=b.1.1)&&decide (b.1.1<A) then let c:=o (((),()),b.2);some (((d.2.2.1,set d.2.2.2.1 (toNat b.1.1) c.1.1,()),()),c.2)else none else none else none else bif e.1.1==3 then some (((d.2.2.1,replicate 0 (zero (Ty.int IntKind.i64)),()),()),e.2)else bif e.1.1==4 then some (((replicate 0 (zero a0Y),d.2.2.2),()),e.2)else bif e.1.1==5 then let J:=(((),(),(),()),e.2.1,((),(),()),((),(),()),d.2.2);bif p J then let b:=q J;some ((b.2.2.2.2,()),b.2.1,())else none else bif e.1.1==6 then let K:=(length d.2.2.2.1:Int);let B:=wrap .i64 (K-1);bif decide (0<=B)&&decide (B<K) then let s:=zero (Ty.int IntKind.i64);let a:=set (replicate 1 s) 0 (wrap .i64 ((wrap .i64 ((getD d.2.2.2.1 (toNat B) s)+21600))-1));bif a0D (length d.2.2.2.1+length a) then some (((d.2.2.1,d.2.2.2.1++a,()),()),e.2)else none else none else some ((d.2.2,()),e.2)else none else none else none
theorem g5Y (j k l m n o a b c d e g h i x) :a1W (f1x j k l m n o a b c d e g h i) (a0b Tryz.f79) I79 O79 x=r79 j k l m n o a b c d e g h i x:=by kernel_rfl
def F79 (x:I79.den):Option (O79.den):=r79 K74 G74 K34 G34 K82 G82 d8Z e2L e2M e2N a8i a8j a6Y a6Z x
def K79 (x:I79.den):Bool:=(F79 x).isSome
def G79 (x:I79.den):O79.den:=(F79 x).getD (a1l O79)
theorem f1y:a1F Tryz.prog (f1x K74 G74 K34 G34 K82 G82 d8Z e2L e2M e2N a8i a8j a6Y a6Z):=a0v mixed a0x a0w (.cons f1j (.cons a4M (.cons f1h (.cons f1u (.cons f1w (.cons d2j .nil))))))
theorem g4r:a6z Tryz.prog 79 (f1x K74 G74 K34 G34 K82 G82 d8Z e2L e2M e2N a8i a8j a6Y a6Z) (a0b Tryz.f79):=a1H Tryz.func79 rfl rfl rfl (by kernel_rfl) (a0y (l:=[d2p]) (by kernel_rfl) (.cons (a0o rfl (a0q (sh:=b5M) (shX:=b5N) (fun f v=>d9b K74 G74 K34 G34 K82 G82 d8Z e2L e2M e2N a8i a8j a6Y a6Z f v) d2q (((),((),())),(([],(0,(0,()))),(((),((),())),(((),((),())),([],([],())))))))) (.nil)))
theorem f9Y:a0k Tryz.prog (79,a0j true I79 O79 K79 G79):=a1p f1y g4r true fun x=>g5Y K74 G74 K34 G34 K82 G82 d8Z e2L e2M e2N a8i a8j a6Y a6Z x
abbrev I67:Sg:=⟨[.ptr 0,.val (S40)],[.box (a2X)]⟩
abbrev O67:Sg:=⟨[.val (.str)],[.box (a2X)]⟩
noncomputable def g5Z (e g a b h i j k c d) :=a0m tab eqs [(34,a0j true I34 O34 e g),(130,a0a c9u d6A a b),(83,a0a A83 R83 h i),(77,a0j true I77 O77 j k),(131,a0j true b2o c8a c d)] 81 [.tmp 4] [] [] [] [] []
def r67 (b:KI I34) (c:GI I34 O34) (l:KA c9u) (m:GA c9u d6A) (j:KA A83) (k:GA A83 R83) (q:KI I77) (r:GI I77 O77) (s:KI b2o) (t:GI b2o c8a) (x:I67.den):Option (O67.den):=bif b (((),12,()),x.2) then let d:=c (((),12,()),x.2);bif d.1.1==0 then bif b (((),365,()),d.2) then let a:=c (((),365,()),d.2);bif l a.1 then let e:=m a.1;bif decide (ByteArray.size { data:=#[115,116,101,101,114,32] }+ByteArray.size e.1<=9223372036854775807) then some (({ data:=#[115,116,101,101,114,32] }++e.1,()),a.2)else none else none else none else bif d.1.1==1 then bif b (((),365,()),d.2) then let a:=c (((),365,()),d.2);bif l a.1 then let e:=m a.1;bif decide (ByteArray.size { data:=#[115,116,101,101,114,32] }+ByteArray.size e.1<=9223372036854775807) then some (({ data:=#[115,116,101,101,114,32] }++e.1,()),a.2)else none else none else none else bif d.1.1==2 then bif b (((),25,()),d.2) then let a:=c (((),25,()),d.2);let e:=wrap .i64 ((wrap .i64 (1000*a.1.1))-12000);bif j (e,()) then let n:=k (e,());bif decide (ByteArray.size { data:=#[119,105,110,100,32] }+ByteArray.size n.1<=9223372036854775807) then let u:={ data:=#[119,105,110,100,32] }++n.1;bif decide (ByteArray.size u+ByteArray.size { data:=#[32] }<=9223372036854775807) then bif b (((),49,()),a.2) then let g:=c (((),49,()),a.2);let h:=wrap .i64 ((wrap .i64 (500*g.1.1))-12000);bif j (h,()) then let o:=u++{ data:=#[32] };let i:=k (h,());bif decide (ByteArray.size o+ByteArray.size i.1<=9223372036854775807) then some ((o++i.1,()),g.2)else none else none else none else none else none else none else none else bif d.1.1==3 then bif b (((),25,()),d.2) then let a:=c (((),25,()),d.2);let e:=wrap .i64 ((wrap .i64 (1000*a.1.1))-12000);bif j (e,()) then let n:=k (e,());bif decide (ByteArray.size { data:=#[119,105,110,100,32] }+ByteArray.size n.1<=9223372036854775807) then let u:={ data:=#[119,105,110,100,32] }++n.1;bif decide (ByteArray.size u+ByteArray.size { data:=#[32] }<=9223372036854775807) then bif b (((),49,()),a.2) then let g:=c (((),49,()),a.2);let h:=wrap .i64 ((wrap .i64 (500*g.1.1))-12000);bif j (h,()) then let o:=u++{ data:=#[32] };let i:=k (h,());bif decide (ByteArray.size o+ByteArray.size i.1<=9223372036854775807) then some ((o++i.1,()),g.2)else none else none else none else none else none else none else none else bif d.1.1==4 then let A:=(length x.1.2.1.2.2.1:Int);bif decide (A>0) then bif q (((),5,()),d.2) then let a:=r (((),5,()),d.2);bif !a.1.1 then bif b (((),A,()),a.2) then let e:=c (((),A,()),a.2);bif decide (0<=e.1.1)&&decide (e.1.1<A) then let p:=getD x.1.2.1.2.2.1 (toNat e.1.1) (zero S68);bif decide (ByteArray.size { data:=#[115,97,105,108,32] }+ByteArray.size p.1<=9223372036854775807) then some (({ data:=#[115,97,105,108,32] }++p.1,()),e.2)else none else none else none else some (({ data:=#[115,97,105,108,32] }++{ data:=#[110,111,110,101] },()),a.2)else none else some (({ data:=#[115,97,105,108,32] }++{ data:=#[110,111,110,101] },()),d.2)else bif d.1.1==5 then let B:=(length x.1.2.1.2.2.1:Int);bif decide (B>0) then bif q (((),5,()),d.2) then let a:=r (((),5,()),d.2);bif !a.1.1 then bif b (((),B,()),a.2) then let e:=c (((),B,()),a.2);bif decide (0<=e.1.1)&&decide (e.1.1<B) then let p:=getD x.1.2.1.2.2.1 (toNat e.1.1) (zero S68);bif decide (ByteArray.size { data:=#[115,97,105,108,32] }+ByteArray.size p.1<=9223372036854775807) then some (({ data:=#[115,97,105,108,32] }++p.1,()),e.2)else none else none else none else some (({ data:=#[115,97,105,108,32] }++{ data:=#[110,111,110,101] },()),a.2)else none else some (({ data:=#[115,97,105,108,32] }++{ data:=#[110,111,110,101] },()),d.2)else bif d.1.1==6 then bif b (((),200000,()),d.2) then let a:=c (((),200000,()),d.2);let D:=wrap .i64 (a.1.1-100000);bif j (D,()) then let p:=k (D,());bif decide (ByteArray.size { data:=#[102,105,120,32] }+ByteArray.size p.1<=9223372036854775807) then let n:={ data:=#[102,105,120,32] }++p.1;bif decide (ByteArray.size n+ByteArray.size { data:=#[32,32] }<=9223372036854775807) then bif b (((),200000,()),a.2) then let w:=c (((),200000,()),a.2);let g:=wrap .i64 (w.1.1-100000);bif j (g,()) then let h:=n++{ data:=#[32,32] };let y:=k (g,());bif decide (ByteArray.size h+ByteArray.size y.1<=9223372036854775807) then some ((h++y.1,()),w.2)else none else none else none else none else none else none else none else bif d.1.1==7 then let i:=set (set (set (set (set (set (set (set (set (set (set (set (set (set (replicate 14 (zero Ty.str)) 0 { data:=#[] }) 1 { data:=#[103,111] }) 2 { data:=#[103,111,32,48] }) 3 { data:=#[103,111,32,51,54,48,49] }) 4 { data:=#[103,111,32,49,32,50] }) 5 { data:=#[115,116,101,101,114,32,51,54,48] }) 6 { data:=#[115,116,101,101,114,32,48,48] }) 7 { data:=#[115,97,105,108] }) 8 { data:=#[119,105,110,100,32,49,32,50] }) 9 { data:=#[119,105,110,100,32,49,48,49,46,48,48,48,32,48,46,48,48,48] }) 10 { data:=#[102,105,120,32,49,48,48,48,48,46,53,48,48,32,48,46,48,48,48] }) 11 { data:=#[116,97,99,107,32,49] }) 12 { data:=#[32,115,97,105,108,32,32,110,111,110,101,32] }) 13 { data:=#[115,116,101,101,114,32,45,49] };let E:=(((),(),()),d.2.1,i,());bif s E then let z:=t E;some (z.1,z.2.1,())else none else bif b (((),40,()),d.2) then let a:=c (((),40,()),d.2);bif b (((),40,()),a.2) then let e:=c (((),40,()),a.2);let n:=wrap .i64 (1+(wrap .i64 (a.1.1*e.1.1)));bif l (n,()) then let w:=m (n,());bif decide (ByteArray.size { data:=#[103,111,32] }+ByteArray.size w.1<=9223372036854775807) then some (({ data:=#[103,111,32] }++w.1,()),e.2)else none else none else none else none else none
theorem g6a (e g a b h i j k c d x) :a1W (g5Z e g a b h i j k c d) (a0b Tryz.f67) I67 O67 x=r67 e g a b h i j k c d x:=by kernel_rfl
def F67 (x:I67.den):Option (O67.den):=r67 K34 G34 d1z b2m K83 G83 K77 G77 c2S b9S x
def K67 (x:I67.den):Bool:=(F67 x).isSome
def G67 (x:I67.den):O67.den:=(F67 x).getD (a1l O67)
theorem f9Z:a0k Tryz.prog (67,a0j true I67 O67 K67 G67):=a1p (a0v mixed a0x a0w (.cons a4M (.cons e2c (.cons f0C (.cons b2n (.cons e2B .nil)))))) (a1H Tryz.func67 rfl rfl rfl (by kernel_rfl) (a0O (by kernel_rfl))) true fun x=>g6a K34 G34 d1z b2m K83 G83 K77 G77 c2S b9S x
abbrev I35:Sg:=⟨[.ptr 0,.val (S40)],[.box (a2X)]⟩
abbrev O35:Sg:=⟨[.own (.str) 1],[.box (a2X),.arr (.str)]⟩
abbrev a9K:Type:=((Unit×(Unit×(Unit×(Int×Unit))))×(((List (Den (.int .u8)))×(Int×(Int×Unit)))×(((List (Den (.flt .f32)))×((List (Den (.int .i64)))×((List (Den (.slice (.flt .f32))))×((List (Den (a0Y)))×((List (Den (.int .i64)))×((List (Den (S68)))×(Int×(Int×(Int×(Int×((List (Den (a1U)))×(Int×(Int×(Int×(Int×Unit)))))))))))))))×((List (Den (.str)))×Unit))))
def c5t:ShS:=⟨[(0,.one (.ptr 0 0)),(3,.one (.ptr 1 0)),(5,.one (.ref (.str) 2)),(6,.one (.int .i64))],[(0,.box [.sl (.int .u8),.int .i64,.int .i64]),(1,.box [.sl (.flt .f32),.sl (.int .i64),.sl (.slice (.flt .f32)),.sl (a0Y),.sl (.int .i64),.sl (S68),.int .i64,.int .i64,.int .i64,.int .i64,.sl (a1U),.int .i64,.int .i64,.int .i64,.int .i64]),(2,.arr (.str))],3,1⟩
abbrev d2s:Type:=((Unit×Unit)×(((List (Den (.int .u8)))×(Int×(Int×Unit)))×((List (Den (.str)))×Unit)))
def c2Z:ShS:=⟨[(5,.one (.ref (.str) 1))],[(0,.box [.sl (.int .u8),.int .i64,.int .i64]),(1,.arr (.str))],2,1⟩
noncomputable def g4s (a b c d e g h i) :=a0m tab eqs [(34,a0j true I34 O34 a b),(83,a0a A83 R83 c d),(67,a0j true I67 O67 e g)] 47 [.tmp 4] [] [] [(5,a1Q [0,3,5,6] [] 0 [5] [] c5t c2Z h i)] [] []
noncomputable def e2P:Code:=(a0p (a0b Tryz.f35)).getD 0 .skip
def d9c (g:KI I34) (h:GI I34 O34) (i:KA A83) (j:GA A83 R83) (a:KI I67) (b:GI I67 O67) (f:a9K->Option (d2s)) (v:a9K):Option (d2s):=bif decide (v.1.2.2.2.1>0) then let c:=(((),((v.2.2.1.1,v.2.2.1.2.1,v.2.2.1.2.2.1,()),(v.2.2.1.2.2.2.1,v.2.2.1.2.2.2.2.1,()),v.2.2.1.2.2.2.2.2.1,(((v.2.2.1.2.2.2.2.2.2.1,v.2.2.1.2.2.2.2.2.2.2.1,()),(v.2.2.1.2.2.2.2.2.2.2.2.1,v.2.2.1.2.2.2.2.2.2.2.2.2.1,()),()),v.2.2.1.2.2.2.2.2.2.2.2.2.2.1,((v.2.2.1.2.2.2.2.2.2.2.2.2.2.2.1,v.2.2.1.2.2.2.2.2.2.2.2.2.2.2.2.1,()),v.2.2.1.2.2.2.2.2.2.2.2.2.2.2.2.2,()),()),()),()),v.2.1,());bif a c then let d:=b c;let e:=set (replicate 1 (zero Ty.str)) 0 d.1.1;bif a0D (length v.2.2.2.1+length e) then f ((((),(),(),wrap .i64 (v.1.2.2.2.1-1),()),d.2.1,v.2.2.1,v.2.2.2.1++e,()))else none else none else some (((),()),v.2.1,v.2.2.2)
theorem e5X (a b c d e g h i f v) :EBk (g4s a b c d e g h i) e2P (a0z [0,3,5,6] [] 0 [5] [] (atS c5t f) (a4X c2Z)) (mkS c5t v)=d9c a b c d e g f v:=by kernel_rfl
def f1z (v:a9K):Nat:=v.1.2.2.2.1.natAbs+v.2.1.1.length+v.2.1.2.1.natAbs+v.2.1.2.2.1.natAbs+v.2.2.1.1.length+v.2.2.1.2.1.length+v.2.2.1.2.2.1.length+v.2.2.1.2.2.2.1.length+v.2.2.1.2.2.2.2.1.length+v.2.2.1.2.2.2.2.2.1.length+v.2.2.1.2.2.2.2.2.2.1.natAbs+v.2.2.1.2.2.2.2.2.2.2.1.natAbs+v.2.2.1.2.2.2.2.2.2.2.2.1.natAbs+v.2.2.1.2.2.2.2.2.2.2.2.2.1.natAbs+v.2.2.1.2.2.2.2.2.2.2.2.2.2.1.length+v.2.2.1.2.2.2.2.2.2.2.2.2.2.2.1.natAbs+v.2.2.1.2.2.2.2.2.2.2.2.2.2.2.2.1.natAbs+v.2.2.1.2.2.2.2.2.2.2.2.2.2.2.2.2.1.natAbs+v.2.2.1.2.2.2.2.2.2.2.2.2.2.2.2.2.2.1.natAbs+v.2.2.2.1.length+1000
def e5Y (v:a9K):Option (d2s):=a1t (d9c K34 G34 K83 G83 K67 G67) (f1z v) v
def b3g (v:a9K):Bool:=(e5Y v).isSome
def b1t (v:a9K):d2s:=(e5Y v).getD (((),()),(([],(0,(0,()))),([],())))
def r35 (a:KI I34) (b:GI I34 O34) (e:KA A83) (g:GA A83 R83) (A:KI I67) (B:GI I67 O67) (h:a9K->Bool) (i:a9K->d2s) (x:I35.den):Option (O35.den):=bif a (((),33,()),x.2) then let o:=b (((),33,()),x.2);let r:=wrap .i64 ((wrap .i64 (500*o.1.1))-8000);bif e (r,()) then let s:=g (r,());bif decide (ByteArray.size { data:=#[119,105,110,100,32] }+ByteArray.size s.1<=9223372036854775807) then let t:={ data:=#[119,105,110,100,32] }++s.1;bif decide (ByteArray.size t+ByteArray.size { data:=#[32] }<=9223372036854775807) then bif a (((),33,()),o.2) then let j:=b (((),33,()),o.2);let k:=wrap .i64 ((wrap .i64 (500*j.1.1))-8000);bif e (k,()) then let c:=t++{ data:=#[32] };let d:=g (k,());bif decide (ByteArray.size c+ByteArray.size d.1<=9223372036854775807) then let u:=(length x.1.2.1.2.2.1:Int);bif decide (u>0) then bif decide (0<=0)&&decide (0<u) then let l:=getD x.1.2.1.2.2.1 (toNat 0) (zero S68);bif decide (ByteArray.size { data:=#[115,97,105,108,32] }+ByteArray.size l.1<=9223372036854775807) then bif a (((),9,()),j.2) then let m:=b (((),9,()),j.2);let w:=replicate 1 (zero Ty.str);let p:=(set w 0 (c++d.1))++(set w 0 ({ data:=#[115,97,105,108,32] }++l.1));let y:=(((),(),(),m.1),m.2.1,(x.1.2.1.1.1,x.1.2.1.1.2.1,x.1.2.1.1.2.2.1,x.1.2.1.2.1.1,x.1.2.1.2.1.2.1,x.1.2.1.2.2.1,x.1.2.1.2.2.2.1.1.1.1,x.1.2.1.2.2.2.1.1.1.2.1,x.1.2.1.2.2.2.1.1.2.1.1,x.1.2.1.2.2.2.1.1.2.1.2.1,x.1.2.1.2.2.2.1.2.1,x.1.2.1.2.2.2.1.2.2.1.1.1,x.1.2.1.2.2.2.1.2.2.1.1.2.1,x.1.2.1.2.2.2.1.2.2.1.2.1),p,());bif h y then some (((),()),(i y).2)else none else none else none else none else bif a (((),9,()),j.2) then let n:=b (((),9,()),j.2);let q:=set (replicate 1 (zero Ty.str)) 0 (c++d.1);let z:=(((),(),(),n.1),n.2.1,(x.1.2.1.1.1,x.1.2.1.1.2.1,x.1.2.1.1.2.2.1,x.1.2.1.2.1.1,x.1.2.1.2.1.2.1,x.1.2.1.2.2.1,x.1.2.1.2.2.2.1.1.1.1,x.1.2.1.2.2.2.1.1.1.2.1,x.1.2.1.2.2.2.1.1.2.1.1,x.1.2.1.2.2.2.1.1.2.1.2.1,x.1.2.1.2.2.2.1.2.1,x.1.2.1.2.2.2.1.2.2.1.1.1,x.1.2.1.2.2.2.1.2.2.1.1.2.1,x.1.2.1.2.2.2.1.2.2.1.2.1),q,());bif h z then some (((),()),(i z).2)else none else none else none else none else none else none else none else none else none
theorem g6b (a b c d e g h i x) :a1W (g4s a b c d e g h i) (a0b Tryz.f35) I35 O35 x=r35 a b c d e g h i x:=by kernel_rfl
def F35 (x:I35.den):Option (O35.den):=r35 K34 G34 K83 G83 K67 G67 b3g b1t x
def K35 (x:I35.den):Bool:=(F35 x).isSome
def G35 (x:I35.den):O35.den:=(F35 x).getD (a1l O35)
theorem g0a:a0k Tryz.prog (35,a0j true I35 O35 K35 G35):=a1p (a0v mixed a0x a0w (.cons a4M (.cons f0C (.cons f9Z .nil)))) (a1H Tryz.func35 rfl rfl rfl (by kernel_rfl) (a0y (l:=[e2P]) (by kernel_rfl) (.cons (a0o rfl (a0q (sh:=c5t) (shX:=c2Z) (fun f v=>e5X K34 G34 K83 G83 K67 G67 b3g b1t f v) f1z (((),()),(([],(0,(0,()))),([],()))))) (.nil)))) true fun x=>g6b K34 G34 K83 G83 K67 G67 b3g b1t x
def a0h (c:List Int×Int×Int×Unit):Prop:=0<=c.2.1 /\ c.1.length<=1048576
theorem c5u (a:Int):0<=a2u .and .i64 a 255 /\ a2u .and .i64 a 255<=255:=by
 have h:(BitVec.ofInt IntKind.i64.bits a &&& BitVec.ofInt IntKind.i64.bits 255).toNat<=255:=by
  rw[BitVec.toNat_and];exact Nat.and_le_right
 have e:a2u .and .i64 a 255=IntKind.i64.wrap ((BitVec.ofInt IntKind.i64.bits a &&& BitVec.ofInt IntKind.i64.bits 255).toNat:Int):=rfl;rw[e,w64 (by omega) (by omega)];omega
theorem b9W (x:I82.den) (h:a0h x.2.1):K82 x=true:=by
 unfold K82 F82 r82;have h1:decide (0<=x.2.1.2.1)=true:=decide_eq_true h.1;cases hc:decide (x.2.1.2.1<(x.2.1.1.length:Int))<;>simp only[h1,Bool.and_self,cond_true,cond_false,isSome_some]
theorem b9X (x:I82.den) (h:a0h x.2.1):a0h (G82 x).2.1 /\ 0<=(G82 x).1.1 /\ (G82 x).1.1<=255:=by
 unfold G82 F82 r82;have h1:decide (0<=x.2.1.2.1)=true:=decide_eq_true h.1;have hl:=h.2;have hi:0<=x.2.1.2.1:=h.1;by_cases hlt:x.2.1.2.1<(x.2.1.1.length:Int)
 ·have hlt2:x.2.1.2.1<1048576:=by
   have:((x.2.1.1.length:Nat):Int)<=1048576:=by omega
   exact Int.lt_of_lt_of_le hlt this
  have hc:decide (x.2.1.2.1<(x.2.1.1.length:Int))=true:=decide_eq_true hlt;simp only[hc,h1,Bool.and_self,cond_true,getD_some];refine⟨⟨?_,hl⟩,(c5u _).1,(c5u _).2⟩;have hn:∀n:Int,0<=n->n<1048576->0<=IntKind.i64.wrap (n+1):=fun n h1 h2=>by rw[w64 (by omega) (by omega)];omega
  exact hn _ hi hlt2
 ·have hc:decide (x.2.1.2.1<(x.2.1.1.length:Int))=false:=decide_eq_false hlt;simp only[hc,cond_false,getD_some];exact⟨⟨hi,hl⟩,(c5u _).1,(c5u _).2⟩
theorem e5Z (x:I82.den) (h:a0h x.2.1):a0h (G82 x).2.1:=(b9X x h).1
theorem b5O {a n:Int} (h:0<=a) (hn:0<n):0<=Int.tmod a n /\ Int.tmod a n<n:=by
 rw[Int.tmod_eq_emod_of_nonneg h];exact⟨Int.emod_nonneg _ (by omega),Int.emod_lt_of_pos _ hn⟩
theorem b0g (n:Int) (c:List Int×Int×Int×Unit) (h:a0h c):∃(m:Int) (c':List Int×Int×Int×Unit),F34 (((),n,()),(c,()))=some ((m,()),(c',())) /\ a0h c' /\ 0<=m /\ (0<n->m<n):=by
 unfold F34 r34;by_cases h0:n<=0
 ·have:decide (n<=0)=true:=decide_eq_true h0;simp only[this,cond_true];exact⟨0,c,rfl,h,by omega,fun h=>by omega⟩
 ·have e0:decide (n<=0)=false:=decide_eq_false h0;have e1:(n != 0)=true:=by simp;omega
  have k1:=b9W (((),()),(c,())) h;obtain⟨c1,l1,u1⟩:=b9X (((),()),(c,())) h;simp only[e0,cond_false,k1,cond_true,e1];generalize G82 (((),()),(c,()))=g1 at *;by_cases h2:n<=256
  ·have:decide (n<=256)=true:=decide_eq_true h2;simp only[this,cond_true];exact⟨_,g1.2.1,rfl,c1,(b5O l1 (by omega)).1,fun _=>(b5O l1 (by omega)).2⟩
  ·have:decide (n<=256)=false:=decide_eq_false h2;simp only[this,cond_false];have k2:=b9W (((),()),g1.2) c1;obtain⟨c2,l2,u2⟩:=b9X (((),()),g1.2) c1;simp only[k2,cond_true];generalize G82 (((),()),g1.2)=g2 at *;have k3:=b9W (((),()),g2.2) c2;obtain⟨c3,l3,u3⟩:=b9X (((),()),g2.2) c2;simp only[k3,cond_true];generalize G82 (((),()),g2.2)=g3 at *;have k4:=b9W (((),()),g3.2) c3;obtain⟨c4,l4,u4⟩:=b9X (((),()),g3.2) c3;simp only[k4,cond_true];generalize G82 (((),()),g3.2)=g4 at *;have big:∀x y z w:Int,0<=x->x<=255->0<=y->y<=255->0<=z->z<=255->0<=w->w<=255 ->
    0<=IntKind.i64.wrap (IntKind.i64.wrap (IntKind.i64.wrap (IntKind.i64.wrap (x*16777216)+IntKind.i64.wrap (y*65536))+IntKind.i64.wrap (z*256))+w):=by
    intro x y z w h1 h2 h3 h4 h5 h6 h7 h8;have w1:IntKind.i64.wrap (x*16777216)=x*16777216:=w64 (by omega) (by omega);have w2:IntKind.i64.wrap (y*65536)=y*65536:=w64 (by omega) (by omega);have w3:IntKind.i64.wrap (z*256)=z*256:=w64 (by omega) (by omega);have w4:IntKind.i64.wrap (x*16777216+y*65536)=x*16777216+y*65536:=w64 (by omega) (by omega);have w5:IntKind.i64.wrap (x*16777216+y*65536+z*256)=x*16777216+y*65536+z*256:=w64 (by omega) (by omega);rw[w1,w2,w3,w4,w5,w64 (by omega) (by omega)];omega
   have hb:=big g1.1.1 g2.1.1 g3.1.1 g4.1.1 l1 u1 l2 u2 l3 u3 l4 u4;exact⟨_,g4.2.1,rfl,c4,(b5O hb (by omega)).1,fun _=>(b5O hb (by omega)).2⟩
theorem a0C (x:I34.den) (h:a0h x.2.1):K34 x=true:=by
 obtain⟨m,c,he,_⟩:=b0g x.1.2.1 x.2.1 h;unfold K34;rw[show x=(((),x.1.2.1,()),(x.2.1,()))from rfl,he];rfl
theorem e2Q (x:I34.den) (h:a0h x.2.1):a0h (G34 x).2.1 /\ 0<=((G34 x).1.1:Int) /\ ((0:Int)<x.1.2.1->((G34 x).1.1:Int)<x.1.2.1):=by
 obtain⟨m,c,he,h1,h2,h3⟩:=b0g x.1.2.1 x.2.1 h;unfold G34;rw[show F34 x=_ from he];exact⟨h1,h2,h3⟩
theorem a0d (x:I34.den) (h:a0h x.2.1):a0h (G34 x).2.1:=(e2Q x h).1
theorem a2i (x:I77.den) (h:a0h x.2.1):K77 x=true:=by
 unfold K77 F77 r77;simp only[a0C (((),x.1.2),x.2) h,cond_true,isSome_some]
theorem a0f (x:I77.den) (h:a0h x.2.1):a0h (G77 x).2.1:=by
 unfold G77 F77 r77;simp only[a0C (((),x.1.2),x.2) h,cond_true,getD_some];exact a0d (((),x.1.2),x.2) h
theorem d2t (l:List Int) (c:List Int×Int×Int×Unit) (h:a0h c) (hl:0<l.length):∃(m:Int) (c':List Int×Int×Int×Unit),f1m (((),(),()),(c,l,()))=some ((m,()),(c',l,())) /\ a0h c' /\ m∈l:=by
 obtain⟨m,c1,he,h1,h2,h3⟩:=b0g (l.length:Int) c h;unfold f1m f9C;have e1:decide (0<=m)=true:=decide_eq_true h2;have h4:m<(l.length:Int):=h3 (by omega);have e2:decide (m<(l.length:Int))=true:=decide_eq_true h4;simp only[K34,G34,he,isSome_some,getD_some,cond_true,e1,e2,Bool.and_self];refine⟨_,c1,rfl,h1,?_⟩;rw[a5E _ _ _ (by omega)];exact List.getElem_mem _
theorem b1u (x:b3c.den) (h:a0h x.2.1) (hl:0<x.2.2.1.length):d2h x=true:=by
 obtain⟨m,c,he,_⟩:=d2t x.2.2.1 x.2.1 h hl;unfold d2h;rw[show x=(((),(),()),(x.2.1,x.2.2.1,()))from rfl,he];rfl
theorem e6a (x:b3c.den) (h:a0h x.2.1) (hl:0<x.2.2.1.length):a0h (c2b x).2.1 /\ (c2b x).1.1∈x.2.2.1:=by
 obtain⟨m,c,he,h1,h2⟩:=d2t x.2.2.1 x.2.1 h hl;unfold c2b;rw[show f1m x=_ from he];exact⟨h1,h2⟩
theorem a7K (x:b3c.den) (h:a0h x.2.1) (hl:0<x.2.2.1.length):a0h (c2b x).2.1:=(e6a x h hl).1
theorem e2R (code:List Int) (h:code.length<=1048576):∃c,F30 ((code,()),())=some (((),()),(c,())) /\ a0h c:=by
 have hl:∃y,e5L ((code,IntKind.i64.wrap (33211+(code.length:Int)),(0:Int),()),())=some y /\ y.1.1=code:=by
  refine a0V (q:=d8M) (fun v=>v.1.1=code /\ 0<=v.1.2.2.1 /\ v.1.2.2.1<=code.length) (fun _ r=>∃y,r=some y /\ y.1.1=code) (fun v=>((code.length:Int)-v.1.2.2.1).toNat) ?_ _ _ ⟨rfl,by simp only;omega,by simp only;omega⟩ (by simp only[e5K];omega);rintro⟨⟨l,hh,i,_⟩,_⟩ f ⟨h0,h1,h2⟩ ih;simp only at h0 h1 h2 ih;subst h0;unfold d8M;by_cases hi:i<(l.length:Int)
  ·have a1:decide (0<=i)=true:=by simp;omega
   have a2:decide (i<(l.length:Int))=true:=by simpa using hi
   have e1:IntKind.i64.wrap (i+1)=i+1:=w64 (by omega) (by omega);simp only[a1,a2,e1,Bool.and_self,cond_true];cases decide (i<4000)
   ·exact⟨_,rfl,rfl⟩
   ·exact ih ((l,_,i+1,()),()) ⟨rfl,by simp only;omega,by simp only;omega⟩ (by simp only;omega)
  ·have a2:decide (i<(l.length:Int))=false:=by simpa using hi
   simp only[a2,cond_false];exact⟨_,rfl,rfl⟩
 obtain⟨y,hy,hc⟩:=hl;unfold F30 r30;simp only[c5c,c5d,hy,isSome_some,getD_some,cond_true];refine⟨_,rfl,?_,?_⟩
 ·exact Int.le_refl 0
 ·rw[hc];exact h
theorem e2S (x:I30.den) (h:x.1.1.length<=1048576):K30 x=true:=by
 obtain⟨c,he,_⟩:=e2R x.1.1 h;unfold K30;rw[show x=((x.1.1,()),())from rfl,he];rfl
theorem d2u (x:I30.den) (h:x.1.1.length<=1048576):a0h (G30 x).2.1:=by
 obtain⟨c,he,h1⟩:=e2R x.1.1 h;unfold G30;rw[show F30 x=_ from he];exact h1
noncomputable def g4t:a9F:=mkN [] []
noncomputable def f1A (b:KI I81) (c:GI I81 O81) (h:a3J.den->Option Unit) (x:a2s.den):Option Unit:=bif b (((),x.1.2),x.2) then let a:=c (((),x.1.2),x.2);bif a2k a.1.1 then let d:=a0N .f64 .f32 a.1.1;bif d.1 then h (((d.2,()),a.2))else none else a3z fun(z6:b0U)=>h (((z6.1,()),a.2))else none
theorem f1B (a b h x) :a3A (d8U a b) (g4t) (a0b Tryz.f141) a2s a3J h x=f1A a b h x:=by kernel_rfl
noncomputable def g4u (p141:KI a2s) (Q141:QI a2s a3J) (e141:Nonempty (Ch a2s a3J p141 Q141)):a9F:=mkN [(141,a3B true a2s a3J p141 Q141 e141)] []
noncomputable def f1C (e:KI I77) (g:GI I77 O77) (c:KI b3b) (d:GI b3b c8c) (i:KI b3c) (j:GI b3c c8d) (p:KI a2s) (q:GI a2s a3J) (p141:KI a2s) (Q141:QI a2s a3J) (e141:Nonempty (Ch a2s a3J p141 Q141)) (h:b2d.den->Option Unit) (x:a8A.den):Option Unit:=bif e (((),30,()),x.2) then let k:=g (((),30,()),x.2);bif k.1.1 then bif c (((),()),k.2) then let b:=d (((),()),k.2);bif a2k b.1.1 then let n:=a0N .f64 .f32 b.1.1;bif n.1 then bif c (((),()),b.2) then let a:=d (((),()),b.2);bif a2k a.1.1 then let r:=a0N .f64 .f32 a.1.1;bif r.1 then h ((((n.2,r.2),()),a.2))else none else a3z fun(z16:b0U)=>h ((((n.2,z16.1),()),a.2))else none else none else a3z fun(z10:b0U)=>bif c (((),()),b.2) then let a:=d (((),()),b.2);bif a2k a.1.1 then let s:=a0N .f64 .f32 a.1.1;bif s.1 then h ((((z10.1,s.2),()),a.2))else none else a3z fun(z16:b0U)=>h ((((z10.1,z16.1),()),a.2))else none else none else bif e (((),20,()),k.2) then let b:=g (((),20,()),k.2);bif b.1.1 then let l:=set (set (set (set (replicate 4 (zero (Ty.int IntKind.i64))) 0 100) 1 (-100)) 2 101) 3 0;bif i (((),(),()),b.2.1,l,()) then a3z fun(c141_12:Ch a2s a3J p141 Q141)=>let o:=j (((),(),()),b.2.1,l,());bif p141 (((),100,()),o.2.1,()) then let m:=c141_12.val (((),100,()),o.2.1,());h ((((nearest .f32 o.1.1,m.1.1),()),m.2))else none else none else a3z fun(c141_10:Ch a2s a3J p141 Q141)=>bif p141 (((),15,()),b.2) then a3z fun(c141_14:Ch a2s a3J p141 Q141)=>let a:=c141_10.val (((),15,()),b.2);bif p141 (((),15,()),a.2) then let l:=c141_14.val (((),15,()),a.2);h ((((a.1.1,l.1.1),()),l.2))else none else none else none else none
theorem f1D (i j a b c d e g p141 Q141 e141 h x) :a3A (d9a i j a b c d e g) (g4u p141 Q141 e141) (a0b Tryz.f128) a8A b2d h x=f1C i j a b c d e g p141 Q141 e141 h x:=by kernel_rfl
noncomputable def N75 (p141:KI a2s) (Q141:QI a2s a3J) (e141:Nonempty (Ch a2s a3J p141 Q141)):a9F:=mkN [(141,a3B true a2s a3J p141 Q141 e141)] []
noncomputable def g4v (k:KI I34) (l:GI I34 O34) (D:KI I77) (E:GI I77 O77) (m:KI b2o) (n:GI b2o c8a) (u:KI a2s) (w:GI a2s a3J) (g:KI a6D) (i:GI a6D b5G) (r:a9J->Bool) (s:a9J->c8e) (o:a5f->Bool) (p:a5f->b3d) (p141:KI a2s) (Q141:QI a2s a3J) (e141:Nonempty (Ch a2s a3J p141 Q141)) (h:O75.den->Option Unit) (x:I75.den):Option Unit:=bif k (((),5,()),x.2) then let y:=l (((),5,()),x.2);let F:=wrap .i64 (1+y.1.1);let G:=set (set (set (set (set (set (replicate 6 (zero Ty.str)) 0 { data:=#[109,97,105,110] }) 1 { data:=#[106,105,98] }) 2 { data:=#[103,101,110,111,97] }) 3 { data:=#[115,116,111,114,109] }) 4 { data:=#[99,111,100,101] }) 5 { data:=#[107,105,116,101] };let z:=(((),(),(),F,()),y.2.1,G,replicate 0 (zero S68),());bif r z then let c:=s z;let j:=(length c.2.2.1:Int);bif k (((),j,()),c.2.1,()) then let a:=l (((),j,()),c.2.1,());bif k (((),24,()),a.2) then let b:=l (((),24,()),a.2);bif b.1.1==0 then bif decide (0<=0)&&decide (0<j) then let t:=set (set (set (set (set (replicate 5 (zero Ty.str)) 0 { data:=#[] }) 1 { data:=#[74,105,98] }) 2 { data:=#[97,98,99,100,101,102,103,104,105,106,107,108,109,110,111,112,113] }) 3 { data:=#[97,98,99,100,101,102,103,104,105,106,107,108,109,110,111,112] }) 4 (getD c.2.2.1 (toNat 0) (zero S68)).1;let A:=(((),(),()),b.2.1,t,());bif m A then bif decide (0<=a.1.1)&&decide (a.1.1<j) then let q:=n A;h ((((),()),q.2.1,set c.2.2.1 (toNat a.1.1) (q.1.1,(getD c.2.2.1 (toNat a.1.1) (zero S68)).2),()))else none else none else none else bif b.1.1==1 then a3z fun(c141_14:Ch a2s a3J p141 Q141)=>bif p141 (((),300,()),b.2) then bif decide (0<=a.1.1)&&decide (a.1.1<j) then let e:=c141_14.val (((),300,()),b.2);let d:=getD c.2.2.1 (toNat a.1.1) (zero S68);h ((((),()),e.2.1,set c.2.2.1 (toNat a.1.1) (d.1,e.1.1,d.2.2),()))else none else none else bif b.1.1==2 then a3z fun(c141_16:Ch a2s a3J p141 Q141)=>bif p141 (((),300,()),b.2) then bif decide (0<=a.1.1)&&decide (a.1.1<j) then let e:=c141_16.val (((),300,()),b.2);let d:=getD c.2.2.1 (toNat a.1.1) (zero S68);h ((((),()),e.2.1,set c.2.2.1 (toNat a.1.1) (d.1,d.2.1,e.1.1,d.2.2.2),()))else none else none else bif b.1.1==3 then bif g (((),()),b.2) then bif decide (0<=a.1.1)&&decide (a.1.1<j) then let e:=i (((),()),b.2);let d:=getD c.2.2.1 (toNat a.1.1) (zero S68);h ((((),()),e.2.1,set c.2.2.1 (toNat a.1.1) (d.1,d.2.1,d.2.2.1,d.2.2.2.1,wrap .i64 (e.1.1-2),()),()))else none else none else bif b.1.1==4 then bif g (((),()),b.2) then bif decide (0<=a.1.1)&&decide (a.1.1<j) then let e:=i (((),()),b.2);let d:=getD c.2.2.1 (toNat a.1.1) (zero S68);h ((((),()),e.2.1,set c.2.2.1 (toNat a.1.1) (d.1,d.2.1,d.2.2.1,wrap .i64 (e.1.1-2),d.2.2.2.2),()))else none else none else bif b.1.1==5 then h ((((),()),b.2.1,replicate 0 (zero S68),()))else bif b.1.1==6 then let B:=(((),(),()),b.2.1,c.2.2);bif o B then h ((((),()),(p B).2))else none else h ((((),()),b.2.1,c.2.2))else none else none else none else none
theorem g0b (k l m n a b c d e g o p i j p141 Q141 e141 h x) :a3A (e8X k l m n a b c d e g o p i j) (N75 p141 Q141 e141) (a0b Tryz.f75) I75 O75 h x=g4v k l m n a b c d e g o p i j p141 Q141 e141 h x:=by kernel_rfl
noncomputable def N79 (p128:KI a8A) (Q128:QI a8A b2d) (e128:Nonempty (Ch a8A b2d p128 Q128)):a9F:=mkN [(128,a3B true a8A b2d p128 Q128 e128)] []
noncomputable def g4w (t:KI I74) (u:GI I74 O74) (i:KI I34) (j:GI I34 O34) (w:KI I82) (y:GI I82 O82) (k:KA c2Y) (l:GA c2Y d6O) (B:KI a8A) (D:GI a8A b2d) (m:KI a6D) (n:GI a6D b5G) (o:a5K->Bool) (p:a5K->b3f) (p128:KI a8A) (Q128:QI a8A b2d) (e128:Nonempty (Ch a8A b2d p128 Q128)) (h:O79.den->Option Unit) (x:I79.den):Option Unit:=bif t (((),()),x.2) then let d:=u (((),()),x.2);let s:=(length d.2.2.1:Int);bif i (((),s,()),d.2.1,()) then let g:=j (((),s,()),d.2.1,());bif i (((),24,()),g.2) then let e:=j (((),24,()),g.2);bif e.1.1==0 then bif w (((),()),e.2) then let b:=y (((),()),e.2);let c:=set (replicate 1 (zero (Ty.int IntKind.u8))) 0 (wrap .u8 b.1.1);bif k (c,()) then bif decide (0<=g.1.1)&&decide (g.1.1<s) then h ((((set d.2.2.1 (toNat g.1.1) ((l (c,())).1,(getD d.2.2.1 (toNat g.1.1) (zero a0Y)).2),d.2.2.2),()),b.2))else none else none else none else bif e.1.1==1 then a3z fun(c128_12:Ch a8A b2d p128 Q128)=>bif i (((),13,()),e.2) then let b:=j (((),13,()),e.2);bif p128 (((),()),b.2) then bif decide (0<=g.1.1)&&decide (g.1.1<s) then bif decide (0<=b.1.1)&&decide (b.1.1<(↑13:Int)) then let c:=getD d.2.2.1 (toNat g.1.1) (zero a0Y);let a:=c128_12.val (((),()),b.2);let E:=0+1+1+1+1+1+1+1+1+1+1+1+1;let F:=0+1+1+1+1+1+1+1+1+1+1+1;let G:=0+1+1+1+1+1+1+1+1+1+1;let H:=0+1+1+1+1+1+1+1+1+1;let I:=0+1+1+1+1+1+1+1+1;let J:=0+1+1+1+1+1+1+1;let q:=0+1+1+1+1+1+1;h ((((set d.2.2.1 (toNat g.1.1) (c.1,((bif beq 0 (toNat b.1.1)then a.1.1.1 else c.2.1.1.1,bif beq 0 (toNat b.1.1)then a.1.1.2 else c.2.1.1.2),(bif beq (0+1) (toNat b.1.1)then a.1.1.1 else c.2.1.2.1.1,bif beq (0+1) (toNat b.1.1)then a.1.1.2 else c.2.1.2.1.2),(bif beq (0+1+1) (toNat b.1.1)then a.1.1.1 else c.2.1.2.2.1.1,bif beq (0+1+1) (toNat b.1.1)then a.1.1.2 else c.2.1.2.2.1.2),(bif beq (0+1+1+1) (toNat b.1.1)then a.1.1.1 else c.2.1.2.2.2.1.1,bif beq (0+1+1+1) (toNat b.1.1)then a.1.1.2 else c.2.1.2.2.2.1.2),(bif beq (0+1+1+1+1) (toNat b.1.1)then a.1.1.1 else c.2.1.2.2.2.2.1.1,bif beq (0+1+1+1+1) (toNat b.1.1)then a.1.1.2 else c.2.1.2.2.2.2.1.2),(bif beq (0+1+1+1+1+1) (toNat b.1.1)then a.1.1.1 else c.2.1.2.2.2.2.2.1.1,bif beq (0+1+1+1+1+1) (toNat b.1.1)then a.1.1.2 else c.2.1.2.2.2.2.2.1.2),(bif beq q (toNat b.1.1)then a.1.1.1 else c.2.1.2.2.2.2.2.2.1.1,bif beq q (toNat b.1.1)then a.1.1.2 else c.2.1.2.2.2.2.2.2.1.2),(bif beq J (toNat b.1.1)then a.1.1.1 else c.2.1.2.2.2.2.2.2.2.1.1,bif beq J (toNat b.1.1)then a.1.1.2 else c.2.1.2.2.2.2.2.2.2.1.2),(bif beq I (toNat b.1.1)then a.1.1.1 else c.2.1.2.2.2.2.2.2.2.2.1.1,bif beq I (toNat b.1.1)then a.1.1.2 else c.2.1.2.2.2.2.2.2.2.2.1.2),(bif beq H (toNat b.1.1)then a.1.1.1 else c.2.1.2.2.2.2.2.2.2.2.2.1.1,bif beq H (toNat b.1.1)then a.1.1.2 else c.2.1.2.2.2.2.2.2.2.2.2.1.2),(bif beq G (toNat b.1.1)then a.1.1.1 else c.2.1.2.2.2.2.2.2.2.2.2.2.1.1,bif beq G (toNat b.1.1)then a.1.1.2 else c.2.1.2.2.2.2.2.2.2.2.2.2.1.2),(bif beq F (toNat b.1.1)then a.1.1.1 else c.2.1.2.2.2.2.2.2.2.2.2.2.2.1.1,bif beq F (toNat b.1.1)then a.1.1.2 else c.2.1.2.2.2.2.2.2.2.2.2.2.2.1.2),(bif beq E (toNat b.1.1)then a.1.1.1 else c.2.1.2.2.2.2.2.2.2.2.2.2.2.2.1.1,bif beq E (toNat b.1.1)then a.1.1.2 else c.2.1.2.2.2.2.2.2.2.2.2.2.2.2.1.2),()),()),d.2.2.2),()),a.2))else none else none else none else none else bif e.1.1==2 then let z:=(length d.2.2.2.1:Int);bif i (((),z,()),e.2) then let b:=j (((),z,()),e.2);bif m (((),()),b.2) then bif decide (0<=b.1.1)&&decide (b.1.1<z) then let c:=n (((),()),b.2);h ((((d.2.2.1,set d.2.2.2.1 (toNat b.1.1) c.1.1,()),()),c.2))else none else none else none else bif e.1.1==3 then h ((((d.2.2.1,replicate 0 (zero (Ty.int IntKind.i64)),()),()),e.2))else bif e.1.1==4 then h ((((replicate 0 (zero a0Y),d.2.2.2),()),e.2))else bif e.1.1==5 then let K:=(((),(),(),()),e.2.1,((),(),()),((),(),()),d.2.2);bif o K then let b:=p K;h (((b.2.2.2.2,()),b.2.1,()))else none else bif e.1.1==6 then let L:=(length d.2.2.2.1:Int);let A:=wrap .i64 (L-1);bif decide (0<=A)&&decide (A<L) then let r:=zero (Ty.int IntKind.i64);let a:=set (replicate 1 r) 0 (wrap .i64 ((wrap .i64 ((getD d.2.2.2.1 (toNat A) r)+21600))-1));bif a0D (length d.2.2.2.1+length a) then h ((((d.2.2.1,d.2.2.2.1++a,()),()),e.2))else none else none else h (((d.2.2,()),e.2))else none else none else none
theorem g0c (k l m n o p a b c d e g i j p128 Q128 e128 h x) :a3A (f1x k l m n o p a b c d e g i j) (N79 p128 Q128 e128) (a0b Tryz.f79) I79 O79 h x=g4w k l m n o p a b c d e g i j p128 Q128 e128 h x:=by kernel_rfl
end Go.Proofs.YtjomnmoekchfeaaGreatDoor.AM
