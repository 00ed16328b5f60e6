/- Texts of one proof, joined: an abstract machine for the program, its functions evaluated, plain lemmas. Conditions: those that each lemma names. -/
import Derived.Test.YtjomnmoekchfeaaGreatDoorM2
import Derived.Test.YtjomnmoekchfeaaGreatDoorProg
import Derived.Test.YtjomnmoekchfeaaGreatDoorChecked
import Derived.Shelf.Strings.Builder1
import Derived.Shelf.Strings.Builder2
import Derived.Shelf.Strings.OnBuilder
import Derived.Shelf.Small.Strs
import Derived.Shelf.Utf8.RuneCount
import Derived.Shelf.Strconv.Itoa0
import Derived.Shelf.Strconv.Itoa1
import Derived.Shelf.LaysM
import Derived.Shelf.Strconv.Itoa2
import Derived.Shelf.Strconv.Itoa3
import Derived.Shelf.Strings.Search1
import Derived.Shelf.Strings.Search2
import Derived.Shelf.Strings.Search3
import Derived.Shelf.Strings.Count
import Derived.Shelf.Strings.Shaped
import Derived.Shelf.Strings.Split
import Derived.Shelf.Strings.SplitShaped
import Derived.Shelf.Unicode.Decode
import Derived.Shelf.Strings.RuneCount
import Derived.Shelf.Strings.Explode
import Derived.Shelf.Unicode.DecodeSlow
import Derived.Shelf.Unicode.DecodeAny
import Derived.Ground.Names2Prog
import Derived.Shelf.Slices.Clone
import Derived.Ground.SlgnProg
import Derived.Shelf.SlicesE.Clone
set_option linter.unusedVariables false
set_option linter.unusedSimpArgs false
namespace Go.Proofs.YtjomnmoekchfeaaGreatDoor.AM
open Go Go.Proofs
abbrev S7:Ty := .cons (.int .i64) (.cons (.int .i64) (.cons (.bool) (.cons (.int .u8) (.nil))))
abbrev S13:Ty := .cons (.str) (.cons (.int .u64) (.nil))
abbrev S27:Ty := .cons (.slice (.flt .f32)) (.cons (.slice (.int .i64)) (.cons (.slice (.slice (.flt .f32))) (.nil)))
abbrev a0S:Ty := .cons (.cpx .f64) (.cons (.cons (.cpx .f32) (.cons (.cpx .f32) (.cons (.cpx .f32) (.cons (.cpx .f32) (.cons (.cpx .f32) (.cons (.cpx .f32) (.cons (.cpx .f32) (.cons (.cpx .f32) (.cons (.cpx .f32) (.cons (.cpx .f32) (.cons (.cpx .f32) (.cons (.cpx .f32) (.cons (.cpx .f32) (.nil)))))))))))))) (.nil))
abbrev S30:Ty := .cons (.slice (a0S)) (.cons (.slice (.int .i64)) (.nil))
abbrev S68:Ty := .cons (.str) (.cons (.flt .f32) (.cons (.flt .f32) (.cons (.int .i64) (.cons (.int .i64) (.nil)))))
abbrev S33:Ty := .cons (.int .i64) (.cons (.int .i64) (.nil))
abbrev S35:Ty := .cons (S33) (.cons (S33) (.nil))
abbrev a1E:Ty := .cons (S33) (.cons (.bool) (.nil))
abbrev S38:Ty := .cons (S35) (.cons (.slice (a1E)) (.cons (S35) (.nil)))
abbrev S40:Ty := .cons (S27) (.cons (S30) (.cons (.slice (S68)) (.cons (S38) (.nil))))
abbrev S97:Ty := .cons (S33) (.cons (.int .i64) (.nil))
abbrev S46:Ty := .cons (S40) (.cons (.int .i64) (.cons (.cpx .f64) (.cons (.int .i64) (.cons (.cpx .f32) (.cons (.int .i64) (.cons (.slice (S97)) (.cons (.slice (.str)) (.nil))))))))
abbrev S63:Ty := .cons (.flt .f32) (.cons (.int .i64) (.nil))
abbrev a2O:Ty := .cons (.slice (.int .u8)) (.cons (.int .i64) (.cons (.int .i64) (.nil)))
abbrev a3L:Ty := .cons (.int .i64) (.cons (.flt .f32) (.cons (.int .i64) (.nil)))
def tab:List (Nat×TI):=[
 (1,⟨1,8,false,.nil,[.pois],[],0,.other⟩),
 (2,⟨1,8,false,.int .i64,[.int .i64 0],[],0,.int .i64⟩),
 (3,⟨1,8,false,.int .i64,[.int .i64 0],[],0,.int .i64⟩),
 (4,⟨1,1,false,.bool,[.bool false],[],0,.bool⟩),
 (5,⟨1,1,false,.int .u8,[.int .u8 0],[],0,.int .u8⟩),
 (6,⟨1,1,false,.int .u8,[.int .u8 0],[],0,.int .u8⟩),
 (7,⟨4,24,true,S7,[.int .i64 0,.int .i64 0,.bool false,.int .u8 0],[(0,1,false),(1,1,false),(2,1,false),(3,1,false)],0,.struct⟩),
 (9,⟨1,16,false,.str,[.str ByteArray.empty],[],0,.string⟩),
 (10,⟨1,16,false,.str,[.str ByteArray.empty],[],0,.string⟩),
 (14,⟨2,24,true,S13,[.str ByteArray.empty,.int .u64 0],[(0,1,false),(1,1,false)],0,.struct⟩),
 (22,⟨1,24,false,.slice (.int .u8),[.nil (.int .u8)],[],5,.slice⟩),
 (24,⟨1,24,false,.slice (.flt .f32),[.nil (.flt .f32)],[],62,.slice⟩),
 (25,⟨1,24,false,.slice (.int .i64),[.nil (.int .i64)],[],3,.slice⟩),
 (26,⟨1,24,false,.slice (.slice (.flt .f32)),[.nil (.slice (.flt .f32))],[],24,.slice⟩),
 (28,⟨3,72,true,S27,[.nil (.flt .f32),.nil (.int .i64),.nil (.slice (.flt .f32))],[(0,1,false),(1,1,false),(2,1,false)],0,.struct⟩),
 (29,⟨1,24,false,.slice (a0S),[.nil (a0S)],[],186,.slice⟩),
 (31,⟨2,48,true,S30,[.nil (a0S),.nil (.int .i64)],[(0,1,false),(1,1,false)],0,.struct⟩),
 (32,⟨1,24,false,.slice (S68),[.nil (S68)],[],69,.slice⟩),
 (34,⟨2,16,true,S33,[.int .i64 0,.int .i64 0],[(0,1,false),(1,1,false)],0,.struct⟩),
 (36,⟨4,32,true,S35,[.int .i64 0,.int .i64 0,.int .i64 0,.int .i64 0],[(0,2,true),(2,2,true)],0,.struct⟩),
 (37,⟨1,24,false,.slice (a1E),[.nil (a1E)],[],165,.slice⟩),
 (39,⟨9,88,true,S38,[.int .i64 0,.int .i64 0,.int .i64 0,.int .i64 0,.nil (a1E),.int .i64 0,.int .i64 0,.int .i64 0,.int .i64 0],[(0,4,true),(4,1,false),(5,4,true)],0,.struct⟩),
 (41,⟨15,232,true,S40,[.nil (.flt .f32),.nil (.int .i64),.nil (.slice (.flt .f32)),.nil (a0S),.nil (.int .i64),.nil (S68),.int .i64 0,.int .i64 0,.int .i64 0,.int .i64 0,.nil (a1E),.int .i64 0,.int .i64 0,.int .i64 0,.int .i64 0],[(0,3,true),(3,2,true),(5,1,false),(6,9,true)],0,.struct⟩),
 (42,⟨1,16,false,.cpx .f64,[.cpx .f64 0 0],[],0,.complex .f64⟩),
 (43,⟨1,8,false,.cpx .f32,[.cpx .f32 0 0],[],0,.complex .f32⟩),
 (44,⟨1,24,false,.slice (S97),[.nil (S97)],[],98,.slice⟩),
 (45,⟨1,24,false,.slice (.str),[.nil (.str)],[],9,.slice⟩),
 (47,⟨22,328,true,S46,[.nil (.flt .f32),.nil (.int .i64),.nil (.slice (.flt .f32)),.nil (a0S),.nil (.int .i64),.nil (S68),.int .i64 0,.int .i64 0,.int .i64 0,.int .i64 0,.nil (a1E),.int .i64 0,.int .i64 0,.int .i64 0,.int .i64 0,.int .i64 0,.cpx .f64 0 0,.int .i64 0,.cpx .f32 0 0,.int .i64 0,.nil (S97),.nil (.str)],[(0,15,true),(15,1,false),(16,1,false),(17,1,false),(18,1,false),(19,1,false),(20,1,false),(21,1,false)],0,.struct⟩),
 (50,⟨1,24,false,.slice (.bool),[.nil (.bool)],[],4,.slice⟩),
 (62,⟨1,4,false,.flt .f32,[.flt .f32 0],[],0,.float .f32⟩),
 (64,⟨2,16,true,S63,[.flt .f32 0,.int .i64 0],[(0,1,false),(1,1,false)],0,.struct⟩),
 (69,⟨5,40,true,S68,[.str ByteArray.empty,.flt .f32 0,.flt .f32 0,.int .i64 0,.int .i64 0],[(0,1,false),(1,1,false),(2,1,false),(3,1,false),(4,1,false)],0,.struct⟩),
 (98,⟨3,24,true,S97,[.int .i64 0,.int .i64 0,.int .i64 0],[(0,2,true),(2,1,false)],0,.struct⟩),
 (104,⟨1,8,false,.int .u64,[.int .u64 0],[],0,.int .u64⟩),
 (109,⟨1,8,false,.flt .f64,[.flt .f64 0],[],0,.float .f64⟩),
 (122,⟨3,40,true,a2O,[.nil (.int .u8),.int .i64 0,.int .i64 0],[(0,1,false),(1,1,false),(2,1,false)],0,.struct⟩),
 (142,⟨1,8,false,.nil,[.pois],[],0,.other⟩),
 (165,⟨3,24,true,a1E,[.int .i64 0,.int .i64 0,.bool false],[(0,2,true),(2,1,false)],0,.struct⟩),
 (179,⟨3,24,true,a3L,[.int .i64 0,.flt .f32 0,.int .i64 0],[(0,1,false),(1,1,false),(2,1,false)],0,.struct⟩),
 (180,⟨1,24,false,.slice (a3L),[.nil (a3L)],[],179,.slice⟩),
 (184,⟨13,104,true,.cons (.cpx .f32) (.cons (.cpx .f32) (.cons (.cpx .f32) (.cons (.cpx .f32) (.cons (.cpx .f32) (.cons (.cpx .f32) (.cons (.cpx .f32) (.cons (.cpx .f32) (.cons (.cpx .f32) (.cons (.cpx .f32) (.cons (.cpx .f32) (.cons (.cpx .f32) (.cons (.cpx .f32) (.nil))))))))))))),[.cpx .f32 0 0,.cpx .f32 0 0,.cpx .f32 0 0,.cpx .f32 0 0,.cpx .f32 0 0,.cpx .f32 0 0,.cpx .f32 0 0,.cpx .f32 0 0,.cpx .f32 0 0,.cpx .f32 0 0,.cpx .f32 0 0,.cpx .f32 0 0,.cpx .f32 0 0],[],43,.array 13⟩),
 (186,⟨14,120,true,a0S,[.cpx .f64 0 0,.cpx .f32 0 0,.cpx .f32 0 0,.cpx .f32 0 0,.cpx .f32 0 0,.cpx .f32 0 0,.cpx .f32 0 0,.cpx .f32 0 0,.cpx .f32 0 0,.cpx .f32 0 0,.cpx .f32 0 0,.cpx .f32 0 0,.cpx .f32 0 0,.cpx .f32 0 0],[(0,1,false),(1,13,true)],0,.struct⟩),
 (201,⟨1,24,false,.slice (.cpx .f32),[.nil (.cpx .f32)],[],43,.slice⟩),
 (208,⟨1,8,false,.nil,[.pois],[],0,.other⟩),
 (240,⟨1,8,false,.nil,[.pois],[],0,.other⟩)]
def eqs:List Nat:=[34]
theorem a0k:c6a (e5F Tryz.prog) eqs:=c8H (by kernel_rfl)
theorem a0l:f0e Tryz.prog tab=true:=by kernel_rfl
theorem mixed:Tryz.prog.follows .mixedOrders=true:=Tryz.checked.mixed
def a0e (f:Func):Code:=match f.body with
 |some c=>c
 |none => .skip
theorem a0O {f:Nat} {fn:Func} {Γ:Env} (h:Tryz.prog.funcs[f]?=some fn) (hb:fn.body=some (a0e fn)) (hr:fn.results.toList=Γ.res) (hn:fn.ntmps=Γ.nt) (hname:(fn.name == "runtime.NumGoroutine")=false) (hl:a7Z Γ (a0e fn)):a6i Tryz.prog f Γ (a0e fn):=
 ⟨hl,fn,h,hb,hr,hn,hname⟩
theorem a0m {Γ:Env} {c:Code} (h:a0u c=[]):a7Z Γ c:=fun c' hc=>by rw[h]at hc;cases hc
abbrev KI (I:Sg):Type:=I.den->Bool
abbrev GI (I O:Sg):Type:=I.den->O.den
abbrev KA (A:Ty):Type:=Den A->Bool
abbrev GA (A R:Ty):Type:=Den A->Den R
abbrev QI (I O:Sg):Type:=I.den->O.den->Prop
set_option maxRecDepth 100000
set_option maxHeartbeats 0
theorem d8I:c1o Tryz.prog 120 Extern.MathFloatBits.float64bits:=⟨_,Tryz.func120,rfl,rfl,by kernel_rfl,by kernel_rfl⟩
theorem d8J:c1o Tryz.prog 121 Extern.MathFloatBits.float64frombits:=⟨_,Tryz.func121,rfl,rfl,by kernel_rfl,by kernel_rfl⟩
abbrev c8Y:Type:={ z:Nat // a1F .f64 z=true }
theorem d5m:Nonempty c8Y:=⟨⟨qn .f64,a5z _⟩⟩
abbrev d8K:Ty := .cons (.flt .f64) (.nil)
abbrev e5d:Ty := .cons (.flt .f64) (.nil)
noncomputable def f8y:a9j:=mkN [(120,a6k (.cons (.flt .f64) .nil) (.cons (.int .u64) .nil) c8Y d5m (fun z x=>((((bif a1F .f64 x.1 then z.1 else x.1:Nat):Int)),()))),(121,a6k (.cons (.int .u64) .nil) (.cons (.flt .f64) .nil) Unit ⟨()⟩ (fun _ x=>((x.1:Int).toNat,())))] []
noncomputable def e1I:Env:=a0t tab eqs [] 7 [.tmp 2] [] [] [] [] []
theorem e6b (h:Den e5d->Option Unit) (x:Den d8K):a5Y e1I f8y (a0e Tryz.f119) (a5Z e5d h) (a0V d8K x) [] =
 a3n fun(z:c8Y)=>a3n fun(_:Unit)=>h ((Int.toNat (a2l BinOp.andNot IntKind.u64 (((bif a1F FloatKind.f64 x.fst then z.1 else x.fst:Nat):Int)) 9223372036854775808)),()):=by kernel_rfl
theorem d5n (n:Nat):(a2l .andNot .u64 (n:Int) 9223372036854775808).toNat=n%2^63:=by
 have e:a2l .andNot .u64 (n:Int) 9223372036854775808=IntKind.u64.wrap ((BitVec.ofInt 64 (n:Int) &&& ~~~(BitVec.ofInt 64 9223372036854775808)).toNat:Int):=rfl
 have hy : ~~~(BitVec.ofInt 64 9223372036854775808)=9223372036854775807#64:=by decide
 rw[e,hy,BitVec.toNat_and]
 have hx:(BitVec.ofInt 64 (n:Int)).toNat=n%2^64:=by
  rw[BitVec.toNat_ofInt]
  omega
 have h7:(9223372036854775807#64).toNat=2^63-1:=by decide
 rw[hx,h7,Nat.and_two_pow_sub_one_eq_mod,IntKind.wrap_u64]
 omega
theorem b7Y {n:Nat}:a1F .f64 (n%2^63)=a1F .f64 n:=by
 have hs:FloatKind.f64.format.signWeight=2^63:=by decide
 rw[Bool.eq_iff_iff,a3S,a3S,hs,Nat.mod_mod]
def f0m (x:Den d8K):Bool:=true
def f0n (x:Den d8K):Den e5d:=(x.1%2^63,())
theorem e6c:a1y Tryz.prog e1I:=a0j mixed a0l a0k .nil
theorem f2P:a6i Tryz.prog 119 e1I (a0e Tryz.f119):=a0O Tryz.func119 rfl rfl rfl (by kernel_rfl) (a0m (by kernel_rfl))
theorem e6d:a0q Tryz.prog (119,a0a d8K e5d f0m f0n):=
 a6y (N:=f8y) e6c (a2N ⟨c3q d8I,a8P d8J,trivial⟩) f2P a1w (Q:=fun x y=>FEq .f64 (x.1%2^63) y.1)
  (fun x y hq β K v hv=>by
   obtain⟨b,rfl,hb⟩:=hv
   refine⟨b,rfl,?_⟩
   have hb:FEq .f64 y.1 b:=hb
   show FEq .f64 (x.1%2^63) b
   rcases hq with e|⟨h1,h2⟩
   ·rw[e];exact hb
   ·exact .inr ⟨h1,FEq.nan_left hb h2⟩)
  (fun x _ k hk=>by
   rw[e6b]
   haveI:=d5m
   refine a0A fun z=>a0A fun _=>hk _ ?_
   rw[d5n]
   cases hn:a1F .f64 x.1 with
   |true=>exact .inr ⟨by rw[b7Y];exact hn,by show a1F .f64 (z.1%2^63)=true;rw[b7Y];exact z.2⟩
   |false=>exact .inl rfl)
end Go.Proofs.YtjomnmoekchfeaaGreatDoor.AM
namespace Go.Proofs
open Go.Shelf
def Tryz.lays156_ren:Go.Shelf.Ren:=⟨fun|156=>60|165=>116|166=>117|169=>118|240=>183|241=>184|276=>229|277=>230|n=>n,fun|31=>45|9=>9|3=>3|4=>4|0=>0|20=>20|72=>154|76=>158|70=>152|37=>22|75=>157|127=>215|164=>242|5=>5|80=>160|n=>n,fun|n=>n⟩
theorem Tryz.lays156:Go.Proofs.Lays.n156 Tryz.prog Tryz.lays156_ren:={
 mixed:=by kernel_rfl
 f156:=Tryz.func60.trans (congrArg some (by kernel_rfl))
 f165:=Tryz.func116.trans (congrArg some (by kernel_rfl))
 f166:=Tryz.func117.trans (congrArg some (by kernel_rfl))
 f169:=Tryz.func118.trans (congrArg some (by kernel_rfl))
 f240:=Tryz.func183.trans (congrArg some (by kernel_rfl))
 f241:=Tryz.func184.trans (congrArg some (by kernel_rfl))
 f276:=Tryz.func229.trans (congrArg some (by kernel_rfl))
 f277:=Tryz.func230.trans (congrArg some (by kernel_rfl))
 t0:=Tryz.underlying0
 a0:=Tryz.isAgg0
 z0:=Tryz.sizeOf0
 v0:=Tryz.zeroValue0
 t3:=Tryz.underlying3
 a3:=Tryz.isAgg3
 z3:=Tryz.sizeOf3
 v3:=Tryz.zeroValue3
 t4:=Tryz.underlying4
 a4:=Tryz.isAgg4
 z4:=Tryz.sizeOf4
 v4:=Tryz.zeroValue4
 t9:=Tryz.underlying9
 a9:=Tryz.isAgg9
 z9:=Tryz.sizeOf9
 v9:=Tryz.zeroValue9
 t20:=Tryz.underlying20
 a20:=Tryz.isAgg20
 z20:=Tryz.sizeOf20
 v20:=Tryz.zeroValue20
 t31:=Tryz.underlying45
 a31:=Tryz.isAgg45
 z31:=Tryz.sizeOf45
 v31:=Tryz.zeroValue45
 t37:=Tryz.underlying22
 a37:=Tryz.isAgg22
 z37:=Tryz.sizeOf22
 v37:=Tryz.zeroValue22
 t70:=Tryz.underlying152
 a70:=Tryz.isAgg152
 z70:=Tryz.sizeOf152
 v70:=Tryz.zeroValue152
 t72:=Tryz.underlying154
 a72:=Tryz.isAgg154
 z72:=Tryz.sizeOf154
 v72:=Tryz.zeroValue154
 t75:=Tryz.underlying157
 a75:=Tryz.isAgg157
 z75:=Tryz.sizeOf157
 v75:=Tryz.zeroValue157
 t76:=Tryz.underlying158
 a76:=Tryz.isAgg158
 z76:=Tryz.sizeOf158
 v76:=Tryz.zeroValue158
 t127:=Tryz.underlying215
 a127:=Tryz.isAgg215
 z127:=Tryz.sizeOf215
 v127:=Tryz.zeroValue215
 t164:=Tryz.underlying242
 a164:=Tryz.isAgg242
 z164:=Tryz.sizeOf242
 v164:=Tryz.zeroValue242 }
theorem Tryz.Builder_Extra_156:Builder.Extra Tryz.prog Tryz.lays156_ren:={
 sizeBuilder:=by kernel_rfl
 liesBuilder:=by kernel_rfl
 t5:=Tryz.underlying5
 a5:=Tryz.isAgg5
 z5:=Tryz.sizeOf5
 v5:=Tryz.zeroValue5
 infoByte:=by kernel_rfl
 cellsByte:=by kernel_rfl
 sizeByte:=by kernel_rfl
 neB5:=by decide }
open Go.RowKit in
theorem Tryz.strings_Join_none (a:Option Addr) (c:Nat) (sep:ByteArray) (w:World) :
 Calls Tryz.prog 60 #[.slice a 0 c,.string sep] w fun e w'=>e = .returned (.string ⟨#[]⟩) /\ w'=w:=Any.strings_Join_none Tryz.lays156 Tryz.Builder_Extra_156 a c sep w
open Go.RowKit in
theorem Tryz.strings_Join (bk o c:Nat) (xs:List ByteArray) (sep:ByteArray) (w:World) (hcells:∀(j:Nat) x,xs[j]?=some x->w.cell? ⟨bk,o+j,none⟩=some (.string x)) (hbk:bk<w.heap.size) (hN:xs.length<=140737488355328) (hcap:xs.length<=c) (hlen:(Lib.join (xs.map (·.data.toList)) sep.data.toList).length<=140737488355328) :
 Calls Tryz.prog 60 #[.slice (some ⟨bk,o,none⟩) xs.length c,.string sep] w fun e w'=>e = .returned (.string ⟨(Lib.join (xs.map (·.data.toList)) sep.data.toList).toArray⟩) /\ Below w.heap.size w w':=Any.strings_Join Tryz.lays156 Tryz.Builder_Extra_156 bk o c xs sep w hcells hbk hN hcap hlen
def Tryz.lays137_ren:Go.Shelf.Ren:=⟨fun|137=>235|217=>252|266=>271|n=>n,fun|9=>9|5=>5|3=>3|n=>n,fun|n=>n⟩
theorem Tryz.lays137:Go.Proofs.Lays.n137 Tryz.prog Tryz.lays137_ren:={
 mixed:=by kernel_rfl
 f137:=Tryz.func235.trans (congrArg some (by kernel_rfl))
 f217:=Tryz.func252.trans (congrArg some (by kernel_rfl))
 f266:=Tryz.func271.trans (congrArg some (by kernel_rfl))
 t3:=Tryz.underlying3
 a3:=Tryz.isAgg3
 z3:=Tryz.sizeOf3
 v3:=Tryz.zeroValue3
 t5:=Tryz.underlying5
 a5:=Tryz.isAgg5
 z5:=Tryz.sizeOf5
 v5:=Tryz.zeroValue5
 t9:=Tryz.underlying9
 a9:=Tryz.isAgg9
 z9:=Tryz.sizeOf9
 v9:=Tryz.zeroValue9 }
open Go.RowKit in
theorem Tryz.strings_IndexByte (s:ByteArray) (c:Int) (w:World) :
 Calls Tryz.prog 235 #[.string s,.int .u8 c] w fun e w'=>e = .returned (.int .i64 (Lib.indexByte s.data.toList c.toNat.toUInt8)) /\ w'=w:=Any.strings_IndexByte Tryz.lays137 s c w
def Tryz.laysM171_ren:Go.Shelf.Ren:=⟨fun|171=>65|243=>124|246=>188|283=>231|284=>232|285=>233|286=>234|129=>259|317=>258|318=>260|319=>261|320=>262|337=>273|338=>274|n=>n,fun|3=>3|9=>9|2=>2|4=>4|171=>245|0=>0|53=>104|37=>22|5=>5|173=>248|212=>257|51=>258|20=>20|213=>259|46=>162|232=>269|233=>270|n=>n,fun|17=>2|18=>5|19=>6|n=>n⟩
theorem Tryz.laysM171:Go.Proofs.LaysM.n171 Tryz.prog Tryz.laysM171_ren:={
 mixed:=by kernel_rfl
 f129:=Tryz.func259.trans (congrArg some (by kernel_rfl))
 f171:=Tryz.func65.trans (congrArg some (by kernel_rfl))
 f243:=Tryz.func124.trans (congrArg some (by kernel_rfl))
 f246:=Tryz.func188.trans (congrArg some (by kernel_rfl))
 f283:=Tryz.func231.trans (congrArg some (by kernel_rfl))
 f284:=Tryz.func232.trans (congrArg some (by kernel_rfl))
 f285:=Tryz.func233.trans (congrArg some (by kernel_rfl))
 f286:=Tryz.func234.trans (congrArg some (by kernel_rfl))
 f317:=Tryz.func258.trans (congrArg some (by kernel_rfl))
 f318:=Tryz.func260.trans (congrArg some (by kernel_rfl))
 f319:=Tryz.func261.trans (congrArg some (by kernel_rfl))
 f320:=Tryz.func262.trans (congrArg some (by kernel_rfl))
 f337:=Tryz.func273.trans (congrArg some (by kernel_rfl))
 f338:=Tryz.func274.trans (congrArg some (by kernel_rfl))
 t0:=Tryz.underlying0
 a0:=Tryz.isAgg0
 z0:=Tryz.sizeOf0
 v0:=Tryz.zeroValue0
 t2:=Tryz.underlying2
 a2:=Tryz.isAgg2
 z2:=Tryz.sizeOf2
 v2:=Tryz.zeroValue2
 t3:=Tryz.underlying3
 a3:=Tryz.isAgg3
 z3:=Tryz.sizeOf3
 v3:=Tryz.zeroValue3
 t4:=Tryz.underlying4
 a4:=Tryz.isAgg4
 z4:=Tryz.sizeOf4
 v4:=Tryz.zeroValue4
 t5:=Tryz.underlying5
 a5:=Tryz.isAgg5
 z5:=Tryz.sizeOf5
 v5:=Tryz.zeroValue5
 t9:=Tryz.underlying9
 a9:=Tryz.isAgg9
 z9:=Tryz.sizeOf9
 v9:=Tryz.zeroValue9
 t20:=Tryz.underlying20
 a20:=Tryz.isAgg20
 z20:=Tryz.sizeOf20
 v20:=Tryz.zeroValue20
 t37:=Tryz.underlying22
 a37:=Tryz.isAgg22
 z37:=Tryz.sizeOf22
 v37:=Tryz.zeroValue22
 t46:=Tryz.underlying162
 a46:=Tryz.isAgg162
 z46:=Tryz.sizeOf162
 v46:=Tryz.zeroValue162
 t51:=Tryz.underlying258
 a51:=Tryz.isAgg258
 z51:=Tryz.sizeOf258
 v51:=Tryz.zeroValue258
 t53:=Tryz.underlying104
 a53:=Tryz.isAgg104
 z53:=Tryz.sizeOf104
 v53:=Tryz.zeroValue104
 t171:=Tryz.underlying245
 a171:=Tryz.isAgg245
 z171:=Tryz.sizeOf245
 v171:=Tryz.zeroValue245
 t173:=Tryz.underlying248
 a173:=Tryz.isAgg248
 z173:=Tryz.sizeOf248
 v173:=Tryz.zeroValue248
 t212:=Tryz.underlying257
 a212:=Tryz.isAgg257
 z212:=Tryz.sizeOf257
 v212:=Tryz.zeroValue257
 t213:=Tryz.underlying259
 a213:=Tryz.isAgg259
 z213:=Tryz.sizeOf259
 t232:=Tryz.underlying269
 a232:=Tryz.isAgg269
 z232:=Tryz.sizeOf269
 v232:=Tryz.zeroValue269
 t233:=Tryz.underlying270
 a233:=Tryz.isAgg270
 z233:=Tryz.sizeOf270
 v233:=Tryz.zeroValue270
 g17:=by kernel_rfl
 g18:=by kernel_rfl
 g19:=by kernel_rfl
 i0:=by kernel_rfl
 i2:=by kernel_rfl
 i3:=by kernel_rfl
 i4:=by kernel_rfl
 i5:=by kernel_rfl
 i9:=by kernel_rfl
 i20:=by kernel_rfl
 i37:=by kernel_rfl
 i46:=by kernel_rfl
 i51:=by kernel_rfl
 i53:=by kernel_rfl
 i171:=by kernel_rfl
 i173:=by kernel_rfl
 i212:=by kernel_rfl
 i232:=by kernel_rfl
 i233:=by kernel_rfl
 m17:=by kernel_rfl
 m18:=by kernel_rfl
 m19:=by kernel_rfl }
open Go.RowKit Go.Sort Go.Lib in
theorem Tryz.strconv_Itoa (n:Int) (h0:-9223372036854775808<=n) (h1:n<=9223372036854775807) (w:World) (htab:Lib.TabIs Tryz.prog w "internal/strconv.uint64pow10" .u64 Lib.pow10Tab) :
 Calls Tryz.prog 65 #[.int .i64 n] w fun e w'=>e = .returned (.string ⟨(Lib.itoa n).toArray⟩) /\ ∃k os,w'=grow (w.drewN k) os:=Any.strconv_Itoa Tryz.laysM171 n h0 h1 w htab
def Tryz.lays146_ren:Go.Shelf.Ren:=⟨fun|146=>48|221=>95|268=>162|138=>163|143=>164|195=>211|197=>212|218=>213|219=>214|260=>251|217=>252|225=>253|224=>254|267=>255|266=>271|314=>272|n=>n,fun|9=>9|31=>45|3=>3|4=>4|0=>0|105=>233|21=>21|5=>5|46=>162|119=>262|139=>265|138=>264|146=>266|51=>258|n=>n,fun|1=>1|3=>3|4=>4|n=>n⟩
theorem Tryz.lays146:Go.Proofs.Lays.n146 Tryz.prog Tryz.lays146_ren:={
 mixed:=by kernel_rfl
 f138:=Tryz.func163.trans (congrArg some (by kernel_rfl))
 f143:=Tryz.func164.trans (congrArg some (by kernel_rfl))
 f146:=Tryz.func48.trans (congrArg some (by kernel_rfl))
 f195:=Tryz.func211.trans (congrArg some (by kernel_rfl))
 f197:=Tryz.func212.trans (congrArg some (by kernel_rfl))
 f217:=Tryz.func252.trans (congrArg some (by kernel_rfl))
 f218:=Tryz.func213.trans (congrArg some (by kernel_rfl))
 f219:=Tryz.func214.trans (congrArg some (by kernel_rfl))
 f221:=Tryz.func95.trans (congrArg some (by kernel_rfl))
 f224:=Tryz.func254.trans (congrArg some (by kernel_rfl))
 f225:=Tryz.func253.trans (congrArg some (by kernel_rfl))
 f260:=Tryz.func251.trans (congrArg some (by kernel_rfl))
 f266:=Tryz.func271.trans (congrArg some (by kernel_rfl))
 f267:=Tryz.func255.trans (congrArg some (by kernel_rfl))
 f268:=Tryz.func162.trans (congrArg some (by kernel_rfl))
 f314:=Tryz.func272.trans (congrArg some (by kernel_rfl))
 t0:=Tryz.underlying0
 a0:=Tryz.isAgg0
 z0:=Tryz.sizeOf0
 v0:=Tryz.zeroValue0
 t3:=Tryz.underlying3
 a3:=Tryz.isAgg3
 z3:=Tryz.sizeOf3
 v3:=Tryz.zeroValue3
 t4:=Tryz.underlying4
 a4:=Tryz.isAgg4
 z4:=Tryz.sizeOf4
 v4:=Tryz.zeroValue4
 t5:=Tryz.underlying5
 a5:=Tryz.isAgg5
 z5:=Tryz.sizeOf5
 v5:=Tryz.zeroValue5
 t9:=Tryz.underlying9
 a9:=Tryz.isAgg9
 z9:=Tryz.sizeOf9
 v9:=Tryz.zeroValue9
 t21:=Tryz.underlying21
 a21:=Tryz.isAgg21
 z21:=Tryz.sizeOf21
 v21:=Tryz.zeroValue21
 t31:=Tryz.underlying45
 a31:=Tryz.isAgg45
 z31:=Tryz.sizeOf45
 v31:=Tryz.zeroValue45
 t46:=Tryz.underlying162
 a46:=Tryz.isAgg162
 z46:=Tryz.sizeOf162
 v46:=Tryz.zeroValue162
 t51:=Tryz.underlying258
 a51:=Tryz.isAgg258
 z51:=Tryz.sizeOf258
 v51:=Tryz.zeroValue258
 t105:=Tryz.underlying233
 a105:=Tryz.isAgg233
 z105:=Tryz.sizeOf233
 v105:=Tryz.zeroValue233
 t119:=Tryz.underlying262
 a119:=Tryz.isAgg262
 z119:=Tryz.sizeOf262
 t138:=Tryz.underlying264
 a138:=Tryz.isAgg264
 z138:=Tryz.sizeOf264
 v138:=Tryz.zeroValue264
 t139:=Tryz.underlying265
 a139:=Tryz.isAgg265
 z139:=Tryz.sizeOf265
 v139:=Tryz.zeroValue265
 t146:=Tryz.underlying266
 a146:=Tryz.isAgg266
 z146:=Tryz.sizeOf266
 v146:=Tryz.zeroValue266
 g1:=by kernel_rfl
 g3:=by kernel_rfl
 g4:=by kernel_rfl }
open Go.RowKit Go.Lib in
theorem Tryz.strings_Split (s sep:ByteArray) (m:Int) (w:World) (hs:s.size<4294967281) (hm:w.cell? ⟨1,0,none⟩=some (.int .i64 m)) (h1:1<=sep.size) :
 Calls Tryz.prog 48 #[.string s,.string sep] w fun e w'=>
  e = .returned (.slice (some ⟨w.heap.size,0,none⟩) (Lib.countB s sep+1) (Lib.countB s sep+1)) /\ w'=w.alloc (.cells ((Lib.splitB sep 0 (Lib.countB s sep) s).map Value.string).toArray 9):=Any.strings_Split Tryz.lays146 (by kernel_rfl) s sep m w hs hm h1
end Go.Proofs
namespace Go.Proofs.YtjomnmoekchfeaaGreatDoor.AM
open Go Go.Proofs Go.RowKit
set_option maxRecDepth 100000
set_option maxHeartbeats 0
theorem c8Z {β0:Bt} {K0:Ks} {w0 w':World} {rs:List W} {v:Value} (hk:KOK K0 w0) (hfr:∀k,0<=k->β0 k=none) (hb:Below w0.heap.size w0 w') (ho:a7S β0 K0 rs v):Ret [] [] rs β0 K0 w0 v w' β0 K0:=
 ⟨KLe.refl _,⟨fun b arr e=>by
  obtain⟨cur,T,fz,h1,h2⟩:=hk.ato b arr e
  exact⟨cur,T,fz,by rw[hb.block b (hk.lt e)];exact h1,h2⟩,hk.gk⟩,fun _ _ e => .inl e,
  ⟨fun k b e=>by simp[a2i]at e,fun k k' b b' _ _ _ e=>by simp[a2i]at e,fun k b _ _ e=>by simp[a2i]at e⟩,fun k _=>hfr k (Nat.zero_le _),ho,
  ⟨hb.os,hb.tape,hb.output,hb.size,fun b h _=>hb.block b h⟩,fun x hx=>by
   obtain⟨k,b,y,e,_⟩:=hx
   simp[a2i]at e,BLe.refl _,Nat.le_refl _⟩
theorem c1p {f:Nat} (hf:e1a Tryz.prog f) {A R:Ty} {ok:Den A->Bool} {g:Den A->Den R}
 (h:∀(x:Den A),ok x=true->∀(vs:Array Value) (β:Bt) (K:Ks) (w:World),KOK K w->All2 (WR β K) (a0V A x) vs.toList->Calls Tryz.prog f vs w fun e w'=>∃v,e = .returned v /\ a7S β K (a0V R (g x)) v /\ Below w.heap.size w w') :
 a0q Tryz.prog (f,a0a A R ok g):=by
 refine⟨?_,hf⟩
 intro args ins rs outs hrun β0 K0 w0 vs hk hm hfr hv
 cases ins with
 |cons _ _=>simp[a0a]at hrun
 | nil =>
   simp only[a0a]at hrun
   split at hrun
   ·rename_i x hx
    simp only[Option.some.injEq,Prod.mk.injEq]at hrun
    obtain⟨hok,rfl,rfl⟩:=hrun
    refine(h x hok vs β0 K0 w0 hk (a6u hx hv)).mono ?_
    rintro e w' ⟨v,rfl,ho,hb⟩
    exact⟨v,β0,K0,rfl,c8Z hk hfr hb ho⟩
   ·cases hrun
theorem d5o {β:Bt} {K:Ks} {a:W} {vs:Array Value} (h:All2 (WR β K) [a] vs.toList):∃v,vs=#[v] /\ WR β K a v:=by
 rcases vs with⟨l⟩
 cases l with
 |nil=>exact h.elim
 | cons v r=>cases r with
   |nil=>exact⟨v,rfl,h.1⟩
   |cons _ _=>exact h.2.elim
theorem b3G {β:Bt} {K:Ks} {a b:W} {vs:Array Value} (h:All2 (WR β K) [a,b] vs.toList):∃v u,vs=#[v,u] /\ WR β K a v /\ WR β K b u:=by
 rcases vs with⟨l⟩
 cases l with
 |nil=>exact h.elim
 | cons v r=>cases r with
   |nil=>exact h.2.elim
   | cons u r=>cases r with
     |nil=>exact⟨v,u,rfl,h.1,h.2.1⟩
     |cons _ _=>exact h.2.2.elim
theorem c9a {K:Ks} {w:World} (h:KOK K w):∃m:Int,(∃T fz,w.heap[1]?=some (.cells #[.int .i64 m] T fz)) /\ ∃T fz,w.heap[2]?=some (.cells ((List.range 20).map fun i=>Value.int .u64 ((10^i:Nat):Int)).toArray T fz):=by
 obtain⟨m,hm⟩:=h.gk
 refine⟨m,?_,?_⟩
 ·obtain⟨cur,T,fz,h1,h2,_⟩:=h.ato 1 _ (hm (1,#[.int .i64 m]) (List.mem_cons_self ..))
  have:=h2 rfl
  subst this
  exact⟨T,fz,h1⟩
 ·obtain⟨cur,T,fz,h1,h2,_⟩:=h.ato 2 _ (hm (2,_) (List.mem_cons_of_mem _ (List.mem_cons_self ..)))
  have:=h2 rfl
  subst this
  exact⟨T,fz,h1⟩
theorem e6e {K:Ks} {w:World} (h:KOK K w):Lib.TabIs Tryz.prog w "internal/strconv.uint64pow10" .u64 Lib.pow10Tab:=by
 obtain⟨m,_,T,fz,h2⟩:=c9a h
 unfold Lib.TabIs World.var?
 rw[show Tryz.prog.globalNamed "internal/strconv.uint64pow10" = some 2 by kernel_rfl]
 simp only[Option.bind_some,h2,Lib.pow10Tab,List.map_map]
 rfl
theorem c9b {K:Ks} {w:World} (h:KOK K w):∃m,w.cell? ⟨1,0,none⟩=some (.int .i64 m):=by
 obtain⟨m,⟨T,fz,h1⟩,_⟩:=c9a h
 exact⟨m,by simp[World.cell?,h1]⟩
abbrev A65:Ty := .cons (.int .i64) (.nil)
abbrev R65:Ty := .cons .str (.nil)
def K65 (x:Den A65):Bool:=decide ((-9223372036854775808:Int)<=x.1)&&decide ((x.1:Int)<=9223372036854775807)
def G65 (x:Den A65):Den R65:=(⟨(Lib.itoa x.1).toArray⟩,())
theorem f2Q:a0q Tryz.prog (65,a0a A65 R65 K65 G65):=
 c1p ⟨_,Tryz.func65,by kernel_rfl,by kernel_rfl⟩ fun x hok vs β K w hk hv=>by
  obtain⟨n,_⟩:=x
  obtain⟨v,rfl,hv1⟩:=d5o hv
  have hv1:v = .int .i64 n:=hv1
  subst hv1
  simp only[K65,Bool.and_eq_true,decide_eq_true_eq]at hok
  refine(Tryz.strconv_Itoa n hok.1 hok.2 w (e6e hk)).mono ?_
  rintro e w' ⟨rfl,k,os,rfl⟩
  exact⟨_,rfl,rfl,⟨rfl,rfl,rfl,by simp[Go.Sort.grow],fun b hb=>by simp[Go.Sort.grow,Array.getElem?_append,hb]⟩⟩
abbrev d8L:Ty := .cons .str (.cons (.int .u8) (.nil))
abbrev e6f:Ty := .cons (.int .i64) (.nil)
def e1J (x:Den d8L):Bool:=true
def b2j (x:Den d8L):Den e6f:=(Lib.indexByte (x.1:ByteArray).data.toList (x.2.1:Int).toNat.toUInt8,())
theorem e6g:a0q Tryz.prog (235,a0a d8L e6f e1J b2j):=
 c1p ⟨_,Tryz.func235,by kernel_rfl,by kernel_rfl⟩ fun x hok vs β K w hk hv=>by
  obtain⟨s,c,_⟩:=x
  obtain⟨v,u,rfl,hv1,hu⟩:=b3G hv
  have hv1:v = .string s:=hv1
  have hu:u = .int .u8 c:=hu
  subst hv1;subst hu
  refine(Tryz.strings_IndexByte s c w).mono ?_
  rintro e w' ⟨rfl,rfl⟩
  exact⟨_,rfl,rfl,Below.refl _ _⟩
abbrev A60:Ty := .cons (.slice .str) (.cons .str (.nil))
abbrev R60:Ty := .cons .str (.nil)
def c1q (l:List ByteArray) (sep:ByteArray):List UInt8:=Lib.join (l.map (·.data.toList)) sep.data.toList
def K60 (x:Den A60):Bool:=decide ((x.1:List ByteArray).length<=140737488355328)&&decide ((c1q x.1 x.2.1).length<=140737488355328)
def G60 (x:Den A60):Den R60:=(⟨(c1q x.1 x.2.1).toArray⟩,())
theorem f2R:a0q Tryz.prog (60,a0a A60 R60 K60 G60):=
 c1p ⟨_,Tryz.func60,by kernel_rfl,by kernel_rfl⟩ fun x hok vs β K w hk hv=>by
  obtain⟨l,sep,_⟩:=x
  obtain⟨v,u,rfl,hv1,hu⟩:=b3G hv
  have hu:u = .string sep:=hu
  subst hu
  obtain⟨a,n,c,e,hn,hc,hr⟩:=(show DR K (.slice .str) l [v]from hv1)
  have e:v = .slice a n c:=by simpa using e
  subst e
  simp only[K60,Bool.and_eq_true,decide_eq_true_eq]at hok
  have hl:n=List.length (α:=ByteArray) l:=hn
  have key:∀(l:List ByteArray),n=l.length->l.length<=140737488355328->(c1q l sep).length<=140737488355328 ->
   (n=0∨∃b o arr,a=some ⟨b,o,none⟩ /\ K b=some (false,arr) /\ ∀i (h:i<l.length),DR K .str l[i] (sub arr.toList (o+i*1) 1)) ->
   Calls Tryz.prog 60 #[.slice a n c,.string sep] w fun e w'=>∃v,e = .returned v /\ a7S β K (a0V R60 (⟨(c1q l sep).toArray⟩,())) v /\ Below w.heap.size w w':=by
   intro l hl h1 h2 hr
   by_cases h0:n=0
   ·subst h0
    have:l=[]:=by
     cases l with
     |nil=>rfl
     |cons _ _=>simp at hl
    subst this
    refine(Tryz.strings_Join_none a c sep w).mono ?_
    rintro e w' ⟨rfl,rfl⟩
    exact⟨_,rfl,rfl,Below.refl _ _⟩
   ·obtain⟨b,o,arr,rfl,hb,hi⟩:=hr.resolve_left h0
    obtain⟨cur,T,fz,hh,hcur,_⟩:=hk.ato b _ hb
    have hcur:=hcur rfl
    subst hcur
    subst hl
    refine(Tryz.strings_Join b o c l sep w ?_ (hk.lt hb) h1 hc h2).mono ?_
    ·intro j x hj
     obtain⟨hjl,hx⟩:=List.getElem?_eq_some_iff.1 hj
     have h3:=hi j hjl
     have h3:sub cur.toList (o+j*1) 1=[.string l[j]]:=h3
     rw[hx]at h3
     unfold sub at h3
     rw[Nat.mul_one]at h3
     simp only[World.cell?,hh,Option.isSome_none,Bool.false_eq_true,if_false]
     have:(cur.toList.drop (o+j))[0]?=some (.string x):=by
      have:=congrArg (fun l=>l[0]?) h3
      simpa[List.getElem?_take]using this
     rw[List.getElem?_drop,Nat.add_zero,Array.getElem?_toList]at this
     exact this
    ·rintro e w' ⟨rfl,hbl⟩
     exact⟨_,rfl,rfl,hbl⟩
  exact key l hl hok.1 hok.2 hr
abbrev A48:Ty := .cons .str (.cons .str (.nil))
abbrev R48:Ty := .cons (.slice .str) (.nil)
def a3Z (s sep:ByteArray):List ByteArray:=Lib.splitB sep 0 (Lib.countB s sep) s
def K48 (x:Den A48):Bool:=decide ((x.1:ByteArray).size<4294967281)&&decide (1<=(x.2.1:ByteArray).size)
def G48 (x:Den A48):Den R48:=(a3Z x.1 x.2.1,())
theorem f2S:a0q Tryz.prog (48,a0a A48 R48 K48 G48):=by
 refine⟨?_,⟨_,Tryz.func48,by kernel_rfl,by kernel_rfl⟩⟩
 intro args ins rs outs hrun β0 K0 w0 vs hk hm hfr hv
 cases ins with
 |cons _ _=>simp[a0a]at hrun
 | nil =>
   simp only[a0a]at hrun
   split at hrun
   case h_2=>cases hrun
   rename_i x hx
   simp only[Option.some.injEq,Prod.mk.injEq]at hrun
   obtain⟨hok,rfl,rfl⟩:=hrun
   have hv:=a6u hx hv
   obtain⟨s,sep,_⟩:=x
   obtain⟨v,u,rfl,hv1,hu⟩:=b3G hv
   have hv1:v = .string s:=hv1
   have hu:u = .string sep:=hu
   subst hv1;subst hu
   simp only[K48,Bool.and_eq_true,decide_eq_true_eq]at hok
   obtain⟨m,hm1⟩:=c9b hk
   refine(Tryz.strings_Split s sep m w0 hok.1 hm1 hok.2).mono ?_
   rintro e w' ⟨rfl,rfl⟩
   have hlen:(a3Z s sep).length=Lib.countB s sep+1:=Lib.splitB_all sep hok.2 0 _ s rfl
   have hnone:∀arr,K0 w0.heap.size=some arr->False:=fun arr e=>Nat.lt_irrefl _ (hk.lt e)
   let arr:Array Value:=((a3Z s sep).map Value.string).toArray
   refine⟨_,β0,fun b=>if b=w0.heap.size then some (false,arr)else K0 b,rfl,⟨?_,⟨?_,?_⟩,?_,⟨fun k b e=>by simp[a2i]at e,fun k k' b b' _ _ _ e=>by simp[a2i]at e,fun k b _ _ e=>by simp[a2i]at e⟩,fun k _=>hfr k (Nat.zero_le _),?_,Fr.alloc _ _ _,fun x hx=>by
    obtain⟨k,b,y,e,_⟩:=hx
    simp[a2i]at e,BLe.refl _,Nat.le_refl _⟩⟩
   ·intro b a e
    show(if b=w0.heap.size then some (false,arr)else K0 b)=_
    rw[if_neg (by rintro rfl;exact hnone _ e)]
    exact e
   ·intro b a e
    split at e
    ·rename_i hb
     cases e
     subst hb
     exact⟨_,9,(0,0),a1S _ _,fun _=>rfl,fun h=>by cases h⟩
    ·exact(hk.alloc _).ato b a e
   ·refine GK.mono (K:=K0) (fun b a e=>?_) hk.gk
    show(if b=w0.heap.size then some (false,arr)else K0 b)=_
    rw[if_neg (by rintro rfl;exact hnone _ e)]
    exact e
   ·intro b a e
    split at e
    ·rename_i hb
     right;right
     rw[hb]
     exact Nat.le_refl _
    ·exact .inl e
   ·show DR _ (.slice .str) (a3Z s sep) [_]
    refine⟨_,_,_,rfl,hlen.symm,Nat.le_refl _,.inr ⟨w0.heap.size,0,arr,rfl,if_pos rfl,fun i hi=>?_⟩⟩
    show sub arr.toList (0+i*1) 1=[.string (a3Z s sep)[i]]
    have hi:i<(a3Z s sep).length:=hi
    unfold sub
    rw[Nat.mul_one,Nat.zero_add]
    simp only[arr]
    rw[List.drop_eq_getElem_cons (by simpa using hi)]
    simp
open Go Go.Proofs
abbrev A62:Ty := .cons (.flt .f64) (.nil)
abbrev R62:Ty := .cons (.flt .f64) (.nil)
noncomputable def N62:a9j:=mkN [(120,a6k (.cons (.flt .f64) .nil) (.cons (.int .u64) .nil) c8Y d5m (fun z x=>((((bif a1F .f64 x.1 then z.1 else x.1:Nat):Int)),()))),(121,a6k (.cons (.int .u64) .nil) (.cons (.flt .f64) .nil) Unit ⟨()⟩ (fun _ x=>((x.1:Int).toNat,())))] []
noncomputable def f2T:Env:=a0t tab eqs [] 32 [.tmp 2] [] [] [] [] []
def rE (n:Int):Int:=a2l .and .u64 (Int.fdiv n (2^min (Int.toNat 52) (IntKind.bits .u64))) 2047
noncomputable def rR (n:Int) (h:Nat->Option Unit):Option Unit:=
 bif decide (rE n<1023)then
  bif rE n==1022 then
   a3n fun(_:Unit)=>h (Int.toNat (a2l .or .u64 (a2l .and .u64 n 9223372036854775808) 4607182418800017408))
  else a3n fun(_:Unit)=>h (Int.toNat (a2l .and .u64 n 9223372036854775808))
 else bif decide (rE n<1075)then
  let v0:=IntKind.wrap .u64 (rE n-1023)
  bif decide (0<=v0)then
   bif decide (0<=v0)then
    a3n fun(_:Unit)=>h (Int.toNat (a2l .andNot .u64 (IntKind.wrap .u64 (n+Int.fdiv 2251799813685248 (2^min (Int.toNat v0) (IntKind.bits .u64)))) (Int.fdiv 4503599627370495 (2^min (Int.toNat v0) (IntKind.bits .u64)))))
   else none
  else none
 else a3n fun(_:Unit)=>h (Int.toNat n)
theorem f2U (h:Den R62->Option Unit) (x:Den A62):a5Y f2T N62 (a0e Tryz.f62) (a5Z R62 h) (a0V A62 x) [] =
 a3n fun(z:c8Y)=>rR (((bif a1F FloatKind.f64 x.fst then z.1 else x.fst:Nat):Int)) (fun y=>h (y,())):=by kernel_rfl
def a1H (n:Int):Nat:=
 bif decide (rE n<1023)then
  bif rE n==1022 then Int.toNat (a2l .or .u64 (a2l .and .u64 n 9223372036854775808) 4607182418800017408)
  else Int.toNat (a2l .and .u64 n 9223372036854775808)
 else bif decide (rE n<1075)then
  Int.toNat (a2l .andNot .u64 (IntKind.wrap .u64 (n+Int.fdiv 2251799813685248 (2^min (Int.toNat (IntKind.wrap .u64 (rE n-1023))) (IntKind.bits .u64)))) (Int.fdiv 4503599627370495 (2^min (Int.toNat (IntKind.wrap .u64 (rE n-1023))) (IntKind.bits .u64))))
 else Int.toNat n
theorem c1r (n:Int):0<=IntKind.wrap .u64 n:=by rw[IntKind.wrap_u64];omega
theorem f2V (n:Int) (h:Nat->Option Unit) (hh:h (a1H n)=some ()):rR n h=some ():=by
 unfold rR
 unfold a1H at hh
 cases h1:decide (rE n<1023)with
 | true =>
   rw[h1]at hh
   cases h2:rE n==1022 with
   |true=>rw[h2]at hh;exact a0A fun _=>hh
   |false=>rw[h2]at hh;exact a0A fun _=>hh
 | false =>
   rw[h1]at hh
   cases h2:decide (rE n<1075)with
   | true =>
     rw[h2]at hh
     simp only[c1r,decide_true,cond_true]
     exact a0A fun _=>hh
   |false=>rw[h2]at hh;exact a0A fun _=>hh
theorem c3u (b:Nat):rE (b:Int)=((b/2^52%2048:Nat):Int):=by
 unfold rE
 have e1:Int.fdiv (b:Int) (2^min (Int.toNat 52) (IntKind.bits .u64))=((b/2^52:Nat):Int):=by
  have e:min (Int.toNat 52) (IntKind.bits .u64)=52:=by decide
  rw[e,Int.fdiv_eq_ediv_of_nonneg _ (by decide)]
  rfl
 rw[e1]
 show IntKind.u64.wrap (((BitVec.ofInt 64 ((b/2^52:Nat):Int) &&& BitVec.ofInt 64 2047).toNat:Nat):Int)=_
 rw[BitVec.toNat_and]
 have hx:(BitVec.ofInt 64 ((b/2^52:Nat):Int)).toNat=b/2^52%2^64:=by
  rw[BitVec.toNat_ofInt]
  omega
 have h7:(BitVec.ofInt 64 2047).toNat=2^11-1:=by decide
 rw[hx,h7,Nat.and_two_pow_sub_one_eq_mod,IntKind.wrap_u64]
 omega
theorem e6h {b:Nat} (h:a1F .f64 b=true):rE (b:Int)=2047:=by
 rw[c3u]
 rw[a3S]at h
 have h2:FloatKind.f64.format.signWeight=2^63:=by decide
 have h3:FloatKind.f64.format.infRung=2047*2^52:=by decide
 rw[h2,h3]at h
 omega
def K62 (x:Den A62):Bool:=true
def G62 (x:Den A62):Den R62:=(a1H ((x.1:Nat):Int),())
theorem f2W:a1y Tryz.prog f2T:=a0j mixed a0l a0k .nil
theorem f9t:a6i Tryz.prog 62 f2T (a0e Tryz.f62):=a0O Tryz.func62 rfl rfl rfl (by kernel_rfl) (a0m (by kernel_rfl))
theorem f2X:a0q Tryz.prog (62,a0a A62 R62 K62 G62):=
 a6y (N:=N62) f2W (a2N ⟨c3q d8I,a8P d8J,trivial⟩) f9t a1w (Q:=fun x y=>FEq .f64 (a1H ((x.1:Nat):Int)) y.1)
  (fun x y hq β K v hv=>by
   obtain⟨b,rfl,hb⟩:=hv
   refine⟨b,rfl,?_⟩
   have hb:FEq .f64 y.1 b:=hb
   show FEq .f64 (a1H ((x.1:Nat):Int)) b
   rcases hq with e|⟨h1,h2⟩
   ·rw[e];exact hb
   ·exact .inr ⟨h1,FEq.nan_left hb h2⟩)
  (fun x _ k hk=>by
   rw[f2U]
   haveI:=d5m
   refine a0A fun z=>f2V _ _ (hk _ ?_)
   cases hn:a1F .f64 x.1 with
   | true =>
     have key:∀b:Nat,a1F .f64 b=true->a1H (b:Int)=b:=fun b hb=>by
      unfold a1H
      rw[e6h hb]
      rfl
     refine .inr ⟨by rw[key _ hn];exact hn,?_⟩
     show a1F .f64 (a1H ((bif true then z.1 else x.1:Nat):Int))=true
     rw[cond_true,key _ z.2]
     exact z.2
   |false=>exact .inl rfl)
abbrev d3K:Ty := .cons (.slice (.flt .f32)) (.nil)
abbrev e1K:Ty := .cons (.slice (.flt .f32)) (.nil)
noncomputable def e1L:Env:=a0t tab eqs [] 8 [.tmp 2] [] [] [] [] [.nil 2,.frz 2]
theorem e6i (h:Den e1K->Option Unit) (x:Den d3K):a5Y e1L (mkN [] []) (a0e Tryz.f199) (a5Z e1K h) (a0V d3K x) [] =
 a3n fun(z:Bool)=>bif List.isEmpty x.1&&z then h ([],())else bif a0F (0+List.length x.1)then h (x.1,())else none:=by kernel_rfl
def d8M (x:Den d3K):Bool:=a0F (0+List.length x.1)
def d8N (x:Den d3K):Den e1K:=x
theorem e6j:a1y Tryz.prog e1L:=a0j mixed a0l a0k .nil
theorem f2Y:a6i Tryz.prog 199 e1L (a0e Tryz.f199):=a0O Tryz.func199 rfl rfl rfl (by kernel_rfl) (a0m (by kernel_rfl))
theorem e6k:a0q Tryz.prog (199,a0a d3K e1K d8M d8N):=
 a6y (N:=mkN [] []) e6j (a2N trivial) f2Y a1w (Q:=fun x y=>y=x) (fun x y hq β K v hv=>by rw[hq]at hv;exact hv)
  (fun x hx k hk=>by
   obtain⟨l,_⟩:=x
   rw[e6i]
   refine a0A fun z=>?_
   have hk:=hk (l,()) rfl
   have hx:a0F (0+List.length l)=true:=hx
   cases l with
   |nil=>cases z<;>exact hk
   |cons a r=>dsimp only[List.isEmpty,Bool.false_and,cond_false];rw[hx];exact hk)
abbrev c6k:Ty := .cons (.slice (.int .i64)) (.nil)
abbrev d5p:Ty := .cons (.slice (.int .i64)) (.nil)
noncomputable def e1M:Env:=a0t tab eqs [] 8 [.tmp 2] [] [] [] [] [.nil 2,.frz 2]
theorem e6l (h:Den d5p->Option Unit) (x:Den c6k):a5Y e1M (mkN [] []) (a0e Tryz.f200) (a5Z d5p h) (a0V c6k x) [] =
 a3n fun(z:Bool)=>bif List.isEmpty x.1&&z then h ([],())else bif a0F (0+List.length x.1)then h (x.1,())else none:=by kernel_rfl
def d3L (x:Den c6k):Bool:=a0F (0+List.length x.1)
def d3M (x:Den c6k):Den d5p:=x
theorem e6m:a1y Tryz.prog e1M:=a0j mixed a0l a0k .nil
theorem f2Z:a6i Tryz.prog 200 e1M (a0e Tryz.f200):=a0O Tryz.func200 rfl rfl rfl (by kernel_rfl) (a0m (by kernel_rfl))
theorem d8O:a0q Tryz.prog (200,a0a c6k d5p d3L d3M):=
 a6y (N:=mkN [] []) e6m (a2N trivial) f2Z a1w (Q:=fun x y=>y=x) (fun x y hq β K v hv=>by rw[hq]at hv;exact hv)
  (fun x hx k hk=>by
   obtain⟨l,_⟩:=x
   rw[e6l]
   refine a0A fun z=>?_
   have hk:=hk (l,()) rfl
   have hx:a0F (0+List.length l)=true:=hx
   cases l with
   |nil=>cases z<;>exact hk
   |cons a r=>dsimp only[List.isEmpty,Bool.false_and,cond_false];rw[hx];exact hk)
abbrev d8P:Ty := .cons (.slice (a0S)) (.nil)
abbrev e5e:Ty := .cons (.slice (a0S)) (.nil)
noncomputable def e1N:Env:=a0t tab eqs [] 8 [.tmp 2] [] [] [] [] [.nil 2,.frz 2]
theorem e6n (h:Den e5e->Option Unit) (x:Den d8P):a5Y e1N (mkN [] []) (a0e Tryz.f201) (a5Z e5e h) (a0V d8P x) [] =
 a3n fun(z:Bool)=>bif List.isEmpty x.1&&z then h ([],())else bif a0F (0+List.length x.1)then h (x.1,())else none:=by kernel_rfl
def f0o (x:Den d8P):Bool:=a0F (0+List.length x.1)
def f0p (x:Den d8P):Den e5e:=x
theorem e6o:a1y Tryz.prog e1N:=a0j mixed a0l a0k .nil
theorem f3a:a6i Tryz.prog 201 e1N (a0e Tryz.f201):=a0O Tryz.func201 rfl rfl rfl (by kernel_rfl) (a0m (by kernel_rfl))
theorem e6p:a0q Tryz.prog (201,a0a d8P e5e f0o f0p):=
 a6y (N:=mkN [] []) e6o (a2N trivial) f3a a1w (Q:=fun x y=>y=x) (fun x y hq β K v hv=>by rw[hq]at hv;exact hv)
  (fun x hx k hk=>by
   obtain⟨l,_⟩:=x
   rw[e6n]
   refine a0A fun z=>?_
   have hk:=hk (l,()) rfl
   have hx:a0F (0+List.length l)=true:=hx
   cases l with
   |nil=>cases z<;>exact hk
   |cons a r=>dsimp only[List.isEmpty,Bool.false_and,cond_false];rw[hx];exact hk)
abbrev d8Q:Ty := .cons (.slice (S68)) (.nil)
abbrev e5f:Ty := .cons (.slice (S68)) (.nil)
noncomputable def e1O:Env:=a0t tab eqs [] 8 [.tmp 2] [] [] [] [] [.nil 2,.frz 2]
theorem e6q (h:Den e5f->Option Unit) (x:Den d8Q):a5Y e1O (mkN [] []) (a0e Tryz.f149) (a5Z e5f h) (a0V d8Q x) [] =
 a3n fun(z:Bool)=>bif List.isEmpty x.1&&z then h ([],())else bif a0F (0+List.length x.1)then h (x.1,())else none:=by kernel_rfl
def f0q (x:Den d8Q):Bool:=a0F (0+List.length x.1)
def f0r (x:Den d8Q):Den e5f:=x
theorem e6r:a1y Tryz.prog e1O:=a0j mixed a0l a0k .nil
theorem f3b:a6i Tryz.prog 149 e1O (a0e Tryz.f149):=a0O Tryz.func149 rfl rfl rfl (by kernel_rfl) (a0m (by kernel_rfl))
theorem e6s:a0q Tryz.prog (149,a0a d8Q e5f f0q f0r):=
 a6y (N:=mkN [] []) e6r (a2N trivial) f3b a1w (Q:=fun x y=>y=x) (fun x y hq β K v hv=>by rw[hq]at hv;exact hv)
  (fun x hx k hk=>by
   obtain⟨l,_⟩:=x
   rw[e6q]
   refine a0A fun z=>?_
   have hk:=hk (l,()) rfl
   have hx:a0F (0+List.length l)=true:=hx
   cases l with
   |nil=>cases z<;>exact hk
   |cons a r=>dsimp only[List.isEmpty,Bool.false_and,cond_false];rw[hx];exact hk)
abbrev d8R:Ty := .cons (.slice (a1E)) (.nil)
abbrev e5g:Ty := .cons (.slice (a1E)) (.nil)
noncomputable def e1P:Env:=a0t tab eqs [] 8 [.tmp 2] [] [] [] [] [.nil 2,.frz 2]
theorem e6t (h:Den e5g->Option Unit) (x:Den d8R):a5Y e1P (mkN [] []) (a0e Tryz.f202) (a5Z e5g h) (a0V d8R x) [] =
 a3n fun(z:Bool)=>bif List.isEmpty x.1&&z then h ([],())else bif a0F (0+List.length x.1)then h (x.1,())else none:=by kernel_rfl
def f0s (x:Den d8R):Bool:=a0F (0+List.length x.1)
def f0t (x:Den d8R):Den e5g:=x
theorem e6u:a1y Tryz.prog e1P:=a0j mixed a0l a0k .nil
theorem f3c:a6i Tryz.prog 202 e1P (a0e Tryz.f202):=a0O Tryz.func202 rfl rfl rfl (by kernel_rfl) (a0m (by kernel_rfl))
theorem e6v:a0q Tryz.prog (202,a0a d8R e5g f0s f0t):=
 a6y (N:=mkN [] []) e6u (a2N trivial) f3c a1w (Q:=fun x y=>y=x) (fun x y hq β K v hv=>by rw[hq]at hv;exact hv)
  (fun x hx k hk=>by
   obtain⟨l,_⟩:=x
   rw[e6t]
   refine a0A fun z=>?_
   have hk:=hk (l,()) rfl
   have hx:a0F (0+List.length l)=true:=hx
   cases l with
   |nil=>cases z<;>exact hk
   |cons a r=>dsimp only[List.isEmpty,Bool.false_and,cond_false];rw[hx];exact hk)
abbrev I85:Sg:=⟨[.val (.slice (S97))],[]⟩
abbrev O85:Sg:=⟨[.own (S97) 0],[.arr (S97)]⟩
noncomputable def f3d:Env:=a0t tab eqs [] 8 [.tmp 2] [] [] [] [] [.nil 2]
theorem f3e (h:O85.den->Option Unit) (x:I85.den):a3o f3d (mkN [] []) (a0e Tryz.f85) I85 O85 h x =
 a3n fun(z:Bool)=>bif List.isEmpty x.1.1&&z then h (((),()),([],()))else bif a0F (0+List.length x.1.1)then h (((),()),(x.1.1,()))else none:=by kernel_rfl
def K85 (x:I85.den):Bool:=a0F (0+List.length x.1.1)
def G85 (x:I85.den):O85.den:=(((),()),(x.1.1,()))
theorem f3f:a1y Tryz.prog f3d:=a0j mixed a0l a0k .nil
theorem f9u:a6i Tryz.prog 85 f3d (a0e Tryz.f85):=a0O Tryz.func85 rfl rfl rfl (by kernel_rfl) (a0m (by kernel_rfl))
theorem f3g:a0q Tryz.prog (85,a0n false I85 O85 K85 G85):=
 c8W (N:=mkN [] []) f3f (a2N trivial) f9u a1w
  (fun x hx k hk=>by
   obtain⟨⟨l,_⟩,_⟩:=x
   rw[f3e]
   refine a0A fun z=>?_
   have hk:k (((),()),(l,()))=some ():=hk
   have hx:a0F (0+List.length l)=true:=hx
   cases l with
   |nil=>cases z<;>exact hk
   |cons a r=>dsimp only[List.isEmpty,Bool.false_and,cond_false];rw[hx];exact hk)
abbrev I86:Sg:=⟨[.val (.slice (.str))],[]⟩
abbrev O86:Sg:=⟨[.own (.str) 0],[.arr (.str)]⟩
noncomputable def f3h:Env:=a0t tab eqs [] 8 [.tmp 2] [] [] [] [] [.nil 2]
theorem f3i (h:O86.den->Option Unit) (x:I86.den):a3o f3h (mkN [] []) (a0e Tryz.f86) I86 O86 h x =
 a3n fun(z:Bool)=>bif List.isEmpty x.1.1&&z then h (((),()),([],()))else bif a0F (0+List.length x.1.1)then h (((),()),(x.1.1,()))else none:=by kernel_rfl
def K86 (x:I86.den):Bool:=a0F (0+List.length x.1.1)
def G86 (x:I86.den):O86.den:=(((),()),(x.1.1,()))
theorem f3j:a1y Tryz.prog f3h:=a0j mixed a0l a0k .nil
theorem f9v:a6i Tryz.prog 86 f3h (a0e Tryz.f86):=a0O Tryz.func86 rfl rfl rfl (by kernel_rfl) (a0m (by kernel_rfl))
theorem f3k:a0q Tryz.prog (86,a0n false I86 O86 K86 G86):=
 c8W (N:=mkN [] []) f3j (a2N trivial) f9v a1w
  (fun x hx k hk=>by
   obtain⟨⟨l,_⟩,_⟩:=x
   rw[f3i]
   refine a0A fun z=>?_
   have hk:k (((),()),(l,()))=some ():=hk
   have hx:a0F (0+List.length l)=true:=hx
   cases l with
   |nil=>cases z<;>exact hk
   |cons a r=>dsimp only[List.isEmpty,Bool.false_and,cond_false];rw[hx];exact hk)
abbrev d5q:Ty:=.cons (.flt .f64) (.nil)
abbrev d8S:Ty:=.cons (.flt .f64) (.nil)
noncomputable def f3l:Env:=a0t tab eqs [] 8 [.tmp 2] [] [] [] [] []
def f3m (x:Den d5q):Option (Den d8S):=
 bif (flt .f64 x.1 0)then
 some (((a5T .f64 x.1),()))
 else
 some (x)
theorem f3n (x) :a0E (f3l) (a0e Tryz.f165) (a1f d8S) (a0V d5q x) []=f3m x:=by kernel_rfl
def e5h (x:Den d5q):Option (Den d8S):=f3m x
def f0u (x:Den d5q):Bool:=(e5h x).isSome
def f0v (x:Den d5q):Den d8S:=(e5h x).getD (zero d8S)
theorem e6w:a0q Tryz.prog (165,a0a d5q d8S f0u f0v):=a0s (a0j mixed a0l a0k .nil) (a0O Tryz.func165 rfl rfl rfl (by kernel_rfl) (a0m (by kernel_rfl))) fun x=>f3n x
abbrev A96:Ty:=.cons (.cpx .f64) (.nil)
abbrev R96:Ty:=.cons (.bool) (.nil)
noncomputable def f9w (k165 g165) :=a0t tab eqs [(165,a0a d5q d8S k165 g165)] 13 [.tmp 2] [] [] [] [] []
def r96 (k165:KA d5q) (g165:GA d5q d8S) (x:Den A96):Option (Den R96):=
 bif (k165 (x.1.1,()))then
 let v1:=(g165 (x.1.1,()))
 bif (flt .f64 v1.1 4726483295884279808||feq .f64 v1.1 4726483295884279808)then
 bif (k165 (x.1.2,()))then
 let v3:=(g165 (x.1.2,()))
 some ((flt .f64 v3.1 4726483295884279808||feq .f64 v3.1 4726483295884279808,()))
 else
 none
 else
 some ((false,()))
 else
 none
theorem f9x (k165 g165 x) :a0E (f9w k165 g165) (a0e Tryz.f96) (a1f R96) (a0V A96 x) []=r96 k165 g165 x:=by kernel_rfl
def F96 (x:Den A96):Option (Den R96):=r96 f0u f0v x
def K96 (x:Den A96):Bool:=(F96 x).isSome
def G96 (x:Den A96):Den R96:=(F96 x).getD (zero R96)
theorem e6x:a0q Tryz.prog (96,a0a A96 R96 K96 G96):=a0s (a0j mixed a0l a0k (.cons e6w .nil)) (a0O Tryz.func96 rfl rfl rfl (by kernel_rfl) (a0m (by kernel_rfl))) fun x=>f9x f0u f0v x
abbrev A97:Ty:=.cons (.flt .f64) (.nil)
abbrev R97:Ty:=.cons (.int .i64) (.nil)
noncomputable def f9y:Env:=a0t tab eqs [] 20 [.tmp 2] [] [] [] [] []
def r97 (x:Den A97):Option (Den R97):=
 bif (a6R .f64 x.1 IntKind.i64)then
 let v0:=(f2i .f64 x.1)
 let v1:=(a0i .sub .f64 x.1 (FloatKind.nearest .f64 v0))
 bif (fgt .f64 v1 4602678819172646912||feq .f64 v1 4602678819172646912)then
 bif (flt .f64 v1 13826050856027422720||feq .f64 v1 13826050856027422720)then
 some (((IntKind.wrap .i64 ((IntKind.wrap .i64 (v0+1))-1)),()))
 else
 some (((IntKind.wrap .i64 (v0+1)),()))
 else
 bif (flt .f64 v1 13826050856027422720||feq .f64 v1 13826050856027422720)then
 some (((IntKind.wrap .i64 (v0-1)),()))
 else
 some ((v0,()))
 else
 none
theorem f9z (x) :a0E (f9y) (a0e Tryz.f97) (a1f R97) (a0V A97 x) []=r97 x:=by kernel_rfl
def F97 (x:Den A97):Option (Den R97):=r97 x
def K97 (x:Den A97):Bool:=(F97 x).isSome
def G97 (x:Den A97):Den R97:=(F97 x).getD (zero R97)
theorem f3o:a0q Tryz.prog (97,a0a A97 R97 K97 G97):=a0s (a0j mixed a0l a0k .nil) (a0O Tryz.func97 rfl rfl rfl (by kernel_rfl) (a0m (by kernel_rfl))) fun x=>f9z x
abbrev A51:Ty:=.cons (.int .i64) (.cons (.int .i64) (.cons (.int .i64) (.nil)))
abbrev R51:Ty:=.cons (.bool) (.nil)
noncomputable def f9A:Env:=a0t tab eqs [] 15 [.tmp 6] [] [] [] [] []
def r51 (x:Den A51):Option (Den R51):=
 bif (decide (x.1 ≥ x.2.1))then
 some ((decide (x.1<=x.2.2.1),()))
 else
 some ((false,()))
theorem f9B (x) :a0E (f9A) (a0e Tryz.f51) (a1f R51) (a0V A51 x) []=r51 x:=by kernel_rfl
def F51 (x:Den A51):Option (Den R51):=r51 x
def K51 (x:Den A51):Bool:=(F51 x).isSome
def G51 (x:Den A51):Den R51:=(F51 x).getD (zero R51)
theorem b7Z:a0q Tryz.prog (51,a0a A51 R51 K51 G51):=a0s (a0j mixed a0l a0k .nil) (a0O Tryz.func51 rfl rfl rfl (by kernel_rfl) (a0m (by kernel_rfl))) fun x=>f9B x
abbrev A98:Ty:=.cons (S33) (.nil)
abbrev R98:Ty:=.cons (.bool) (.nil)
noncomputable def f9C (k51 g51) :=a0t tab eqs [(51,a0a A51 R51 k51 g51)] 11 [.tmp 2] [] [] [] [] []
def r98 (k51:KA A51) (g51:GA A51 R51) (x:Den A98):Option (Den R98):=
 bif (k51 (x.1.1,-10000,10000,()))then
 bif (g51 (x.1.1,-10000,10000,())).1 then
 bif (k51 (x.1.2.1,-10000,10000,()))then
 some (g51 (x.1.2.1,-10000,10000,()))
 else
 none
 else
 some ((false,()))
 else
 none
theorem f9D (k51 g51 x) :a0E (f9C k51 g51) (a0e Tryz.f98) (a1f R98) (a0V A98 x) []=r98 k51 g51 x:=by kernel_rfl
def F98 (x:Den A98):Option (Den R98):=r98 K51 G51 x
def K98 (x:Den A98):Bool:=(F98 x).isSome
def G98 (x:Den A98):Den R98:=(F98 x).getD (zero R98)
theorem e1Q:a0q Tryz.prog (98,a0a A98 R98 K98 G98):=a0s (a0j mixed a0l a0k (.cons b7Z .nil)) (a0O Tryz.func98 rfl rfl rfl (by kernel_rfl) (a0m (by kernel_rfl))) fun x=>f9D K51 G51 x
abbrev A49:Ty:=.cons (.cpx .f64) (.nil)
abbrev R49:Ty:=.cons (S33) (.cons (.bool) (.nil))
noncomputable def f9E (k96 g96 k97 g97 k98 g98) :=a0t tab eqs [(96,a0a A96 R96 k96 g96),(97,a0a A97 R97 k97 g97),(98,a0a A98 R98 k98 g98)] 21 [.cell 2 34,.tmp 3] [] [] [] [] []
def r49 (k96:KA A96) (g96:GA A96 R96) (k97:KA A97) (g97:GA A97 R97) (k98:KA A98) (g98:GA A98 R98) (x:Den A49):Option (Den R49):=
 bif (k96 x)then
 bif (!(g96 x).1)then
 some (((0,0,()),false,()))
 else
 bif (k97 (x.1.1,()))then
 bif (k97 (x.1.2,()))then
 let v4:=(g97 (x.1.1,()))
 let v5:=(g97 (x.1.2,()))
 bif (k98 ((v4.1,v5),()))then
 bif (!(g98 ((v4.1,v5),())).1)then
 some (((0,0,()),false,()))
 else
 some (((v4.1,v5),true,()))
 else
 none
 else
 none
 else
 none
 else
 none
theorem f9F (k96 g96 k97 g97 k98 g98 x) :a0E (f9E k96 g96 k97 g97 k98 g98) (a0e Tryz.f49) (a1f R49) (a0V A49 x) []=r49 k96 g96 k97 g97 k98 g98 x:=by kernel_rfl
def F49 (x:Den A49):Option (Den R49):=r49 K96 G96 K97 G97 K98 G98 x
def K49 (x:Den A49):Bool:=(F49 x).isSome
def G49 (x:Den A49):Den R49:=(F49 x).getD (zero R49)
theorem f3p:a0q Tryz.prog (49,a0a A49 R49 K49 G49):=a0s (a0j mixed a0l a0k (.cons e6x (.cons f3o (.cons e1Q .nil)))) (a0O Tryz.func49 rfl rfl rfl (by kernel_rfl) (a0m (by kernel_rfl))) fun x=>f9F K96 G96 K97 G97 K98 G98 x
abbrev A99:Ty:=.cons (S27) (.nil)
abbrev R99:Ty:=.cons (.bool) (.nil)
abbrev a9k:Type:=((Unit×(Int×Unit))×(((List (Den (.flt .f32)))×((List (Den (.int .i64)))×((List (Den (.slice (.flt .f32))))×Unit)))×Unit))
def c3v:ShS:=⟨[(1,.one (.ptr 0 0)),(3,.one (.int .i64))],[(0,.box [.sl (.flt .f32),.sl (.int .i64),.sl (.slice (.flt .f32))])],1,0⟩
abbrev c6l:Type:=((Unit×Unit)×(((List (Den (.flt .f32)))×((List (Den (.int .i64)))×((List (Den (.slice (.flt .f32))))×Unit)))×Unit))
def c1s:ShS:=⟨[(1,.one (.ptr 0 0))],[(0,.box [.sl (.flt .f32),.sl (.int .i64),.sl (.slice (.flt .f32))])],1,0⟩
abbrev c6m:Type:=((Bool×Unit)×Unit)
def c1t:ShS:=⟨[(2,.one (.bool))],[],0,0⟩
abbrev a6a:Type:=((Unit×(Int×(Int×Unit)))×(((List (Den (.flt .f32)))×((List (Den (.int .i64)))×((List (Den (.slice (.flt .f32))))×Unit)))×Unit))
def c3w:ShS:=⟨[(1,.one (.ptr 0 0)),(3,.one (.int .i64)),(4,.one (.int .i64))],[(0,.box [.sl (.flt .f32),.sl (.int .i64),.sl (.slice (.flt .f32))])],1,0⟩
abbrev c6n:Type:=((Unit×(Int×Unit))×(((List (Den (.flt .f32)))×((List (Den (.int .i64)))×((List (Den (.slice (.flt .f32))))×Unit)))×Unit))
def c1u:ShS:=⟨[(1,.one (.ptr 0 0)),(3,.one (.int .i64))],[(0,.box [.sl (.flt .f32),.sl (.int .i64),.sl (.slice (.flt .f32))])],1,0⟩
abbrev c6o:Type:=((Bool×Unit)×Unit)
def c1v:ShS:=⟨[(2,.one (.bool))],[],0,0⟩
abbrev a4G:Type:=((Unit×(Int×Unit))×(((List (Den (.flt .f32)))×((List (Den (.int .i64)))×((List (Den (.slice (.flt .f32))))×Unit)))×Unit))
def b3H:ShS:=⟨[(1,.one (.ptr 0 0)),(5,.one (.int .i64))],[(0,.box [.sl (.flt .f32),.sl (.int .i64),.sl (.slice (.flt .f32))])],1,0⟩
abbrev b8a:Type:=((Unit×Unit)×(((List (Den (.flt .f32)))×((List (Den (.int .i64)))×((List (Den (.slice (.flt .f32))))×Unit)))×Unit))
def b3I:ShS:=⟨[(1,.one (.ptr 0 0))],[(0,.box [.sl (.flt .f32),.sl (.int .i64),.sl (.slice (.flt .f32))])],1,0⟩
abbrev b8b:Type:=((Bool×Unit)×Unit)
def b3J:ShS:=⟨[(2,.one (.bool))],[],0,0⟩
noncomputable def f0w (k51 g51 kl4 xl4 tl4 yl4 kl9 xl9 tl9 yl9 kl14 xl14 tl14 yl14) :=a0t tab eqs [(51,a0a A51 R51 k51 g51)] 145 [.tmp 2] [] [] [(4,a1U [1,3] [] 0 [1] [] c3v c1s c1t kl4 tl4 xl4 yl4),(9,a1U [1,3,4] [] 2 [1,3] [] c3w c1u c1v kl9 tl9 xl9 yl9),(14,a1U [1,5] [] 4 [1] [] b3H b3I b3J kl14 tl14 xl14 yl14)] [] []
noncomputable def d8T:Code:=(a0u (a0e Tryz.f99)).getD 0 .skip
noncomputable def d8U:Code:=(a0u (a0e Tryz.f99)).getD 1 .skip
noncomputable def c9c:Code:=(a0u (a0e Tryz.f99)).getD 2 .skip
def b8c (k51:KA A51) (g51:GA A51 R51) (f:a4G->Option (b8a⊕b8b)) (v:a4G):Option (b8a⊕b8b):=
 bif (decide (v.1.2.1<(↑(List.length v.2.1.2.1):Int)))then
 bif (decide (0<=v.1.2.1)&&decide (v.1.2.1<(↑(List.length v.2.1.2.1):Int)))then
 let v0:=(IntKind.wrap .i64 (v.1.2.1-1))
 bif (decide (0<=v0)&&decide (v0<(↑(List.length v.2.1.2.1):Int)))then
 bif (decide ((List.getD v.2.1.2.1 (Int.toNat v.1.2.1) (zero (Ty.int IntKind.i64)))<=(List.getD v.2.1.2.1 (Int.toNat v0) (zero (Ty.int IntKind.i64)))))then
 some (Sum.inr (((false,()),())))
 else
 f ((((),(IntKind.wrap .i64 (v.1.2.1+1)),()),v.2))
 else
 none
 else
 none
 else
 some (Sum.inl ((((),()),v.2)))
theorem d5r (k51 g51 kl4 xl4 tl4 yl4 kl9 xl9 tl9 yl9 kl14 xl14 tl14 yl14 f v) :EBk (f0w k51 g51 kl4 xl4 tl4 yl4 kl9 xl9 tl9 yl9 kl14 xl14 tl14 yl14) c9c (a0B [1,5] [] 4 [1] [] (atS b3H f) (a5J b3I b3J)) (mkS b3H v)=b8c k51 g51 f v:=by kernel_rfl
def c9d (v:a4G):Nat:=v.1.2.1.natAbs+v.2.1.1.length+v.2.1.2.1.length+v.2.1.2.2.1.length+1000
def b8d (v:a4G):Option (b8a⊕b8b):=a1u (b8c K51 G51) (c9d v) v
def a8g (v:a4G):Bool:=(b8d v).isSome
def a8h (v:a4G):Bool:=isR (b8d v)
def a8i (v:a4G):b8a:=xOf (((),()),(([],([],([],()))),())) (b8d v)
def a8j (v:a4G):b8b:=yOf ((false,()),()) (b8d v)
def c9e (k51:KA A51) (g51:GA A51 R51) (f:a6a->Option (c6n⊕c6o)) (v:a6a):Option (c6n⊕c6o):=
 bif (decide (0<=v.1.2.1)&&decide (v.1.2.1<(↑(List.length v.2.1.2.2.1):Int)))then
 let v0:=(List.getD v.2.1.2.2.1 (Int.toNat v.1.2.1) (zero (Ty.slice (Ty.flt .f32))))
 bif (decide (v.1.2.2.1<(↑(List.length v0):Int)))then
 bif (decide (0<=v.1.2.1)&&decide (v.1.2.1<(↑(List.length v.2.1.2.2.1):Int)))then
 bif (decide (0<=v.1.2.2.1)&&decide (v.1.2.2.1<(↑(List.length v0):Int)))then
 let v1:=(List.getD v0 (Int.toNat v.1.2.2.1) (zero (Ty.flt .f32)))
 bif (fgt .f32 v1 0||feq .f32 v1 0)then
 bif (decide (0<=v.1.2.1)&&decide (v.1.2.1<(↑(List.length v.2.1.2.2.1):Int)))then
 bif (decide (0<=v.1.2.2.1)&&decide (v.1.2.2.1<(↑(List.length v0):Int)))then
 bif (!(flt .f32 v1 1112014848||feq .f32 v1 1112014848))then
 some (Sum.inr (((false,()),())))
 else
 f ((((),v.1.2.1,(IntKind.wrap .i64 (v.1.2.2.1+1)),()),v.2))
 else
 none
 else
 none
 else
 some (Sum.inr (((false,()),())))
 else
 none
 else
 none
 else
 some (Sum.inl ((((),v.1.2.1,()),v.2)))
 else
 none
theorem e1R (k51 g51 kl4 xl4 tl4 yl4 kl9 xl9 tl9 yl9 kl14 xl14 tl14 yl14 f v) :EBk (f0w k51 g51 kl4 xl4 tl4 yl4 kl9 xl9 tl9 yl9 kl14 xl14 tl14 yl14) d8U (a0B [1,3,4] [] 2 [1,3] [] (atS c3w f) (a5J c1u c1v)) (mkS c3w v)=c9e k51 g51 f v:=by kernel_rfl
def e1S (v:a6a):Nat:=v.1.2.1.natAbs+v.1.2.2.1.natAbs+v.2.1.1.length+v.2.1.2.1.length+v.2.1.2.2.1.length+1000
def c9f (v:a6a):Option (c6n⊕c6o):=a1u (c9e K51 G51) (e1S v) v
def a4a (v:a6a):Bool:=(c9f v).isSome
def a4b (v:a6a):Bool:=isR (c9f v)
def a3D (v:a6a):c6n:=xOf (((),(0,())),(([],([],([],()))),())) (c9f v)
def a4c (v:a6a):c6o:=yOf ((false,()),()) (c9f v)
def b3K (k51:KA A51) (g51:GA A51 R51) (kl9:a6a->Bool) (xl9:a6a->c6n) (tl9:a6a->Bool) (yl9:a6a->c6o) (f:a9k->Option (c6l⊕c6m)) (v:a9k):Option (c6l⊕c6m):=
 let w3:=(↑(List.length v.2.1.1):Int)
 bif (decide (v.1.2.1<w3))then
 let w0:=(decide (0<=v.1.2.1)&&decide (v.1.2.1<w3))
 bif w0 then
 let w4:=(zero (Ty.flt .f32))
 let v0:=(List.getD v.2.1.1 (Int.toNat v.1.2.1) w4)
 bif (fgt .f32 v0 0)then
 bif w0 then
 bif (!(flt .f32 v0 1120403456||feq .f32 v0 1120403456))then
 some (Sum.inr (((false,()),())))
 else
 bif (decide (v.1.2.1>0))then
 bif w0 then
 let v1:=(IntKind.wrap .i64 (v.1.2.1-1))
 bif (decide (0<=v1)&&decide (v1<w3))then
 let v2:=(List.getD v.2.1.1 (Int.toNat v1) w4)
 bif (flt .f32 v0 v2||feq .f32 v0 v2)then
 some (Sum.inr (((false,()),())))
 else
 bif (decide (0<=v.1.2.1)&&decide (v.1.2.1<(↑(List.length v.2.1.2.2.1):Int)))then
 bif ((↑(List.length (List.getD v.2.1.2.2.1 (Int.toNat v.1.2.1) (zero (Ty.slice (Ty.flt .f32))))):Int) != (↑(List.length v.2.1.2.1):Int))then
 some (Sum.inr (((false,()),())))
 else
 let w1:=(((),v.1.2.1,0,()),v.2)
 bif (kl9 w1)then
 bif (tl9 w1)then
 some (Sum.inr (yl9 w1))
 else
 let v6:=(xl9 w1)
 f ((((),(IntKind.wrap .i64 (v6.1.2.1+1)),()),v6.2))
 else
 none
 else
 none
 else
 none
 else
 none
 else
 bif (decide (0<=v.1.2.1)&&decide (v.1.2.1<(↑(List.length v.2.1.2.2.1):Int)))then
 bif ((↑(List.length (List.getD v.2.1.2.2.1 (Int.toNat v.1.2.1) (zero (Ty.slice (Ty.flt .f32))))):Int) != (↑(List.length v.2.1.2.1):Int))then
 some (Sum.inr (((false,()),())))
 else
 let w2:=(((),v.1.2.1,0,()),v.2)
 bif (kl9 w2)then
 bif (tl9 w2)then
 some (Sum.inr (yl9 w2))
 else
 let v4:=(xl9 w2)
 f ((((),(IntKind.wrap .i64 (v4.1.2.1+1)),()),v4.2))
 else
 none
 else
 none
 else
 none
 else
 some (Sum.inr (((false,()),())))
 else
 none
 else
 some (Sum.inl ((((),()),v.2)))
theorem e1T (k51 g51 kl4 xl4 tl4 yl4 kl9 xl9 tl9 yl9 kl14 xl14 tl14 yl14 f v) :EBk (f0w k51 g51 kl4 xl4 tl4 yl4 kl9 xl9 tl9 yl9 kl14 xl14 tl14 yl14) d8T (a0B [1,3] [] 0 [1] [] (atS c3v f) (a5J c1s c1t)) (mkS c3v v)=b3K k51 g51 kl9 xl9 tl9 yl9 f v:=by kernel_rfl
def e1U (v:a9k):Nat:=v.1.2.1.natAbs+v.2.1.1.length+v.2.1.2.1.length+v.2.1.2.2.1.length+1000
def c9g (v:a9k):Option (c6l⊕c6m):=a1u (b3K K51 G51 a4a a3D a4b a4c) (e1U v) v
def b2k (v:a9k):Bool:=(c9g v).isSome
def b2l (v:a9k):Bool:=isR (c9g v)
def b2m (v:a9k):c6l:=xOf (((),()),(([],([],([],()))),())) (c9g v)
def b2n (v:a9k):c6m:=yOf ((false,()),()) (c9g v)
def r99 (k51:KA A51) (g51:GA A51 R51) (kl4:a9k->Bool) (xl4:a9k->c6l) (tl4:a9k->Bool) (yl4:a9k->c6m) (kl9:a6a->Bool) (xl9:a6a->c6n) (tl9:a6a->Bool) (yl9:a6a->c6o) (kl14:a4G->Bool) (xl14:a4G->b8a) (tl14:a4G->Bool) (yl14:a4G->b8b) (x:Den A99):Option (Den R99):=
 bif (k51 ((↑(List.length x.1.1):Int),1,12,()))then
 bif (!(g51 ((↑(List.length x.1.1):Int),1,12,())).1)then
 some ((false,()))
 else
 bif (k51 ((↑(List.length x.1.2.1):Int),2,24,()))then
 bif (!(g51 ((↑(List.length x.1.2.1):Int),2,24,())).1)then
 some ((false,()))
 else
 bif ((↑(List.length x.1.2.2.1):Int) != (↑(List.length x.1.1):Int))then
 some ((false,()))
 else
 bif (kl4 (((),0,()),x))then
 bif (tl4 (((),0,()),x))then
 some (yl4 (((),0,()),x)).1
 else
 let v6:=(xl4 (((),0,()),x))
 bif (kl14 (((),1,()),v6.2))then
 bif (tl14 (((),1,()),v6.2))then
 some (yl14 (((),1,()),v6.2)).1
 else
 let v9:=(xl14 (((),1,()),v6.2))
 bif (decide (0<=0)&&decide (0<(↑(List.length v9.2.1.2.1):Int)))then
 bif ((List.getD v9.2.1.2.1 (Int.toNat 0) (zero (Ty.int IntKind.i64)))==0)then
 let v11:=(IntKind.wrap .i64 ((↑(List.length v9.2.1.2.1):Int)-1))
 bif (decide (0<=v11)&&decide (v11<(↑(List.length v9.2.1.2.1):Int)))then
 some (((List.getD v9.2.1.2.1 (Int.toNat v11) (zero (Ty.int IntKind.i64)))==180,()))
 else
 none
 else
 some ((false,()))
 else
 none
 else
 none
 else
 none
 else
 none
 else
 none
theorem f9G (k51 g51 kl4 xl4 tl4 yl4 kl9 xl9 tl9 yl9 kl14 xl14 tl14 yl14 x) :a0E (f0w k51 g51 kl4 xl4 tl4 yl4 kl9 xl9 tl9 yl9 kl14 xl14 tl14 yl14) (a0e Tryz.f99) (a1f R99) (a0V A99 x) []=r99 k51 g51 kl4 xl4 tl4 yl4 kl9 xl9 tl9 yl9 kl14 xl14 tl14 yl14 x:=by kernel_rfl
def F99 (x:Den A99):Option (Den R99):=r99 K51 G51 b2k b2m b2l b2n a4a a3D a4b a4c a8g a8i a8h a8j x
def K99 (x:Den A99):Bool:=(F99 x).isSome
def G99 (x:Den A99):Den R99:=(F99 x).getD (zero R99)
theorem f3q:a0q Tryz.prog (99,a0a A99 R99 K99 G99):=a0s (a0j mixed a0l a0k (.cons b7Z .nil)) (a0O Tryz.func99 rfl rfl rfl (by kernel_rfl) (a0D (l:=[d8T,d8U,c9c]) (by kernel_rfl) (.cons (a0r rfl (a0x (sh:=c3v) (shX:=c1s) (shR:=c1t) (fun f v=>e1T K51 G51 b2k b2m b2l b2n a4a a3D a4b a4c a8g a8i a8h a8j f v) e1U (((),()),(([],([],([],()))),())) ((false,()),()))) (.cons (a0r rfl (a0x (sh:=c3w) (shX:=c1u) (shR:=c1v) (fun f v=>e1R K51 G51 b2k b2m b2l b2n a4a a3D a4b a4c a8g a8i a8h a8j f v) e1S (((),(0,())),(([],([],([],()))),())) ((false,()),()))) (.cons (a0r rfl (a0x (sh:=b3H) (shX:=b3I) (shR:=b3J) (fun f v=>d5r K51 G51 b2k b2m b2l b2n a4a a3D a4b a4c a8g a8i a8h a8j f v) c9d (((),()),(([],([],([],()))),())) ((false,()),()))) (.nil)))))) fun x=>f9G K51 G51 b2k b2m b2l b2n a4a a3D a4b a4c a8g a8i a8h a8j x
abbrev d5s:Ty:=.cons (.flt .f32) (.nil)
abbrev d8V:Ty:=.cons (.flt .f32) (.nil)
noncomputable def f3r:Env:=a0t tab eqs [] 8 [.tmp 2] [] [] [] [] []
def f3s (x:Den d5s):Option (Den d8V):=
 bif (flt .f32 x.1 0)then
 some (((a5T .f32 x.1),()))
 else
 some (x)
theorem f3t (x) :a0E (f3r) (a0e Tryz.f103) (a1f d8V) (a0V d5s x) []=f3s x:=by kernel_rfl
def e5i (x:Den d5s):Option (Den d8V):=f3s x
def f0x (x:Den d5s):Bool:=(e5i x).isSome
def f0y (x:Den d5s):Den d8V:=(e5i x).getD (zero d8V)
theorem e6y:a0q Tryz.prog (103,a0a d5s d8V f0x f0y):=a0s (a0j mixed a0l a0k .nil) (a0O Tryz.func103 rfl rfl rfl (by kernel_rfl) (a0m (by kernel_rfl))) fun x=>f3t x
abbrev A52:Ty:=.cons (.cpx .f32) (.nil)
abbrev R52:Ty:=.cons (.bool) (.nil)
noncomputable def f9H (k103 g103) :=a0t tab eqs [(103,a0a d5s d8V k103 g103)] 13 [.tmp 2] [] [] [] [] []
def r52 (k103:KA d5s) (g103:GA d5s d8V) (x:Den A52):Option (Den R52):=
 bif (k103 (x.1.1,()))then
 let v1:=(g103 (x.1.1,()))
 bif (flt .f32 v1.1 1120403456||feq .f32 v1.1 1120403456)then
 bif (k103 (x.1.2,()))then
 let v3:=(g103 (x.1.2,()))
 some ((flt .f32 v3.1 1120403456||feq .f32 v3.1 1120403456,()))
 else
 none
 else
 some ((false,()))
 else
 none
theorem f9I (k103 g103 x) :a0E (f9H k103 g103) (a0e Tryz.f52) (a1f R52) (a0V A52 x) []=r52 k103 g103 x:=by kernel_rfl
def F52 (x:Den A52):Option (Den R52):=r52 f0x f0y x
def K52 (x:Den A52):Bool:=(F52 x).isSome
def G52 (x:Den A52):Den R52:=(F52 x).getD (zero R52)
theorem f3u:a0q Tryz.prog (52,a0a A52 R52 K52 G52):=a0s (a0j mixed a0l a0k (.cons e6y .nil)) (a0O Tryz.func52 rfl rfl rfl (by kernel_rfl) (a0m (by kernel_rfl))) fun x=>f9I f0x f0y x
abbrev c6p:Ty:=.cons (a0S) (.nil)
abbrev d3N:Ty:=.cons (.bool) (.nil)
abbrev a4H:Type:=((Unit×(Int×Unit))×(((Nat×Nat)×((Nat×Nat)×((Nat×Nat)×((Nat×Nat)×((Nat×Nat)×((Nat×Nat)×((Nat×Nat)×((Nat×Nat)×((Nat×Nat)×((Nat×Nat)×((Nat×Nat)×((Nat×Nat)×((Nat×Nat)×((Nat×Nat)×Unit))))))))))))))×Unit))
def b3L:ShS:=⟨[(1,.one (.ptr 0 0)),(3,.one (.int .i64))],[(0,.box [.cpx .f64,.cpx .f32,.cpx .f32,.cpx .f32,.cpx .f32,.cpx .f32,.cpx .f32,.cpx .f32,.cpx .f32,.cpx .f32,.cpx .f32,.cpx .f32,.cpx .f32,.cpx .f32])],1,0⟩
abbrev b8e:Type:=(Unit×Unit)
def b3M:ShS:=⟨[],[],0,0⟩
abbrev b8f:Type:=((Bool×Unit)×Unit)
def b3N:ShS:=⟨[(2,.one (.bool))],[],0,0⟩
noncomputable def e6z (k52 g52 kl2 xl2 tl2 yl2) :=a0t tab eqs [(52,a0a A52 R52 k52 g52)] 14 [.tmp 2] [] [] [(2,a1U [1,3] [] 0 [] [] b3L b3M b3N kl2 tl2 xl2 yl2)] [] []
noncomputable def c9h:Code:=(a0u (a0e Tryz.f166)).getD 0 .skip
def c3x (k52:KA A52) (g52:GA A52 R52) (f:a4H->Option (b8e⊕b8f)) (v:a4H):Option (b8e⊕b8f):=
 bif (decide (v.1.2.1<13))then
 bif (decide (0<=v.1.2.1)&&decide (v.1.2.1<(↑13:Int)))then
 let v0:=(List.getD [v.2.1.2.1,v.2.1.2.2.1,v.2.1.2.2.2.1,v.2.1.2.2.2.2.1,v.2.1.2.2.2.2.2.1,v.2.1.2.2.2.2.2.2.1,v.2.1.2.2.2.2.2.2.2.1,v.2.1.2.2.2.2.2.2.2.2.1,v.2.1.2.2.2.2.2.2.2.2.2.1,v.2.1.2.2.2.2.2.2.2.2.2.2.1,v.2.1.2.2.2.2.2.2.2.2.2.2.2.1,v.2.1.2.2.2.2.2.2.2.2.2.2.2.2.1,v.2.1.2.2.2.2.2.2.2.2.2.2.2.2.2.1] (Int.toNat v.1.2.1) (0,0))
 bif (k52 (v0,()))then
 bif (!(g52 (v0,())).1)then
 some (Sum.inr (((false,()),())))
 else
 f ((((),(IntKind.wrap .i64 (v.1.2.1+1)),()),v.2))
 else
 none
 else
 none
 else
 some (Sum.inl (((),())))
theorem d5t (k52 g52 kl2 xl2 tl2 yl2 f v) :EBk (e6z k52 g52 kl2 xl2 tl2 yl2) c9h (a0B [1,3] [] 0 [] [] (atS b3L f) (a5J b3M b3N)) (mkS b3L v)=c3x k52 g52 f v:=by kernel_rfl
def c9i (v:a4H):Nat:=v.1.2.1.natAbs+1000
def b8g (v:a4H):Option (b8e⊕b8f):=a1u (c3x K52 G52) (c9i v) v
def b3O (v:a4H):Bool:=(b8g v).isSome
def b3P (v:a4H):Bool:=isR (b8g v)
def c1w (v:a4H):b8e:=xOf ((),()) (b8g v)
def b3Q (v:a4H):b8f:=yOf ((false,()),()) (b8g v)
def f3v (k52:KA A52) (g52:GA A52 R52) (kl2:a4H->Bool) (xl2:a4H->b8e) (tl2:a4H->Bool) (yl2:a4H->b8f) (x:Den c6p):Option (Den d3N):=
 let w0:=(((),0,()),(x.1.1,x.1.2.1),())
 bif (kl2 w0)then
 bif (tl2 w0)then
 some (yl2 w0).1
 else
 some ((true,()))
 else
 none
theorem f3w (k52 g52 kl2 xl2 tl2 yl2 x) :a0E (e6z k52 g52 kl2 xl2 tl2 yl2) (a0e Tryz.f166) (a1f d3N) (a0V c6p x) []=f3v k52 g52 kl2 xl2 tl2 yl2 x:=by kernel_rfl
def e6A (x:Den c6p):Option (Den d3N):=f3v K52 G52 b3O c1w b3P b3Q x
def d3O (x:Den c6p):Bool:=(e6A x).isSome
def d3P (x:Den c6p):Den d3N:=(e6A x).getD (zero d3N)
theorem e6B:a0q Tryz.prog (166,a0a c6p d3N d3O d3P):=a0s (a0j mixed a0l a0k (.cons f3u .nil)) (a0O Tryz.func166 rfl rfl rfl (by kernel_rfl) (a0D (l:=[c9h]) (by kernel_rfl) (.cons (a0r rfl (a0x (sh:=b3L) (shX:=b3M) (shR:=b3N) (fun f v=>d5t K52 G52 b3O c1w b3P b3Q f v) c9i ((),()) ((false,()),()))) (.nil)))) fun x=>f3w K52 G52 b3O c1w b3P b3Q x
abbrev d5u:Ty:=.cons (S30) (.nil)
abbrev d8W:Ty:=.cons (.bool) (.nil)
abbrev a4I:Type:=((Unit×(Int×Unit))×(((List (Den (a0S)))×((List (Den (.int .i64)))×Unit))×Unit))
def b3R:ShS:=⟨[(1,.one (.ptr 0 0)),(3,.one (.int .i64))],[(0,.box [.sl (a0S),.sl (.int .i64)])],1,0⟩
abbrev b8h:Type:=((Unit×Unit)×(((List (Den (a0S)))×((List (Den (.int .i64)))×Unit))×Unit))
def b3S:ShS:=⟨[(1,.one (.ptr 0 0))],[(0,.box [.sl (a0S),.sl (.int .i64)])],1,0⟩
abbrev b8i:Type:=((Bool×Unit)×Unit)
def b3T:ShS:=⟨[(2,.one (.bool))],[],0,0⟩
abbrev a4J:Type:=((Unit×(Int×Unit))×(((List (Den (a0S)))×((List (Den (.int .i64)))×Unit))×Unit))
def b3U:ShS:=⟨[(1,.one (.ptr 0 0)),(4,.one (.int .i64))],[(0,.box [.sl (a0S),.sl (.int .i64)])],1,0⟩
abbrev b8j:Type:=(Unit×Unit)
def b3V:ShS:=⟨[],[],0,0⟩
abbrev b8k:Type:=((Bool×Unit)×Unit)
def b3W:ShS:=⟨[(2,.one (.bool))],[],0,0⟩
noncomputable def e1V (k51 g51 k96 g96 k166 g166 kl4 xl4 tl4 yl4 kl9 xl9 tl9 yl9) :=a0t tab eqs [(51,a0a A51 R51 k51 g51),(96,a0a A96 R96 k96 g96),(166,a0a c6p d3N k166 g166)] 74 [.tmp 2] [] [] [(4,a1U [1,3] [] 0 [1] [] b3R b3S b3T kl4 tl4 xl4 yl4),(9,a1U [1,4] [] 2 [] [] b3U b3V b3W kl9 tl9 xl9 yl9)] [] []
noncomputable def c9j:Code:=(a0u (a0e Tryz.f100)).getD 0 .skip
noncomputable def c9k:Code:=(a0u (a0e Tryz.f100)).getD 1 .skip
def b8l (k51:KA A51) (g51:GA A51 R51) (k96:KA A96) (g96:GA A96 R96) (k166:KA c6p) (g166:GA c6p d3N) (f:a4J->Option (b8j⊕b8k)) (v:a4J):Option (b8j⊕b8k):=
 bif (decide (v.1.2.1<(↑(List.length v.2.1.2.1):Int)))then
 bif (decide (0<=v.1.2.1)&&decide (v.1.2.1<(↑(List.length v.2.1.2.1):Int)))then
 let v0:=(List.getD v.2.1.2.1 (Int.toNat v.1.2.1) (zero (Ty.int IntKind.i64)))
 bif (k51 (v0,0,10000000,()))then
 bif (!(g51 (v0,0,10000000,())).1)then
 some (Sum.inr (((false,()),())))
 else
 bif (decide (v.1.2.1>0))then
 bif (decide (0<=v.1.2.1)&&decide (v.1.2.1<(↑(List.length v.2.1.2.1):Int)))then
 let v3:=(IntKind.wrap .i64 (v.1.2.1-1))
 bif (decide (0<=v3)&&decide (v3<(↑(List.length v.2.1.2.1):Int)))then
 bif (decide (v0<(IntKind.wrap .i64 ((List.getD v.2.1.2.1 (Int.toNat v3) (zero (Ty.int IntKind.i64)))+21600))))then
 some (Sum.inr (((false,()),())))
 else
 f ((((),(IntKind.wrap .i64 (v.1.2.1+1)),()),v.2))
 else
 none
 else
 none
 else
 f ((((),(IntKind.wrap .i64 (v.1.2.1+1)),()),v.2))
 else
 none
 else
 none
 else
 some (Sum.inl (((),())))
theorem d5v (k51 g51 k96 g96 k166 g166 kl4 xl4 tl4 yl4 kl9 xl9 tl9 yl9 f v) :EBk (e1V k51 g51 k96 g96 k166 g166 kl4 xl4 tl4 yl4 kl9 xl9 tl9 yl9) c9k (a0B [1,4] [] 2 [] [] (atS b3U f) (a5J b3V b3W)) (mkS b3U v)=b8l k51 g51 k96 g96 k166 g166 f v:=by kernel_rfl
def c9l (v:a4J):Nat:=v.1.2.1.natAbs+v.2.1.1.length+v.2.1.2.1.length+1000
def b8m (v:a4J):Option (b8j⊕b8k):=a1u (b8l K51 G51 K96 G96 d3O d3P) (c9l v) v
def b0z (v:a4J):Bool:=(b8m v).isSome
def b0A (v:a4J):Bool:=isR (b8m v)
def b3X (v:a4J):b8j:=xOf ((),()) (b8m v)
def b0B (v:a4J):b8k:=yOf ((false,()),()) (b8m v)
def b8n (k51:KA A51) (g51:GA A51 R51) (k96:KA A96) (g96:GA A96 R96) (k166:KA c6p) (g166:GA c6p d3N) (f:a4I->Option (b8h⊕b8i)) (v:a4I):Option (b8h⊕b8i):=
 bif (decide (v.1.2.1<(↑(List.length v.2.1.1):Int)))then
 bif (decide (0<=v.1.2.1)&&decide (v.1.2.1<(↑(List.length v.2.1.1):Int)))then
 let v0:=(List.getD v.2.1.1 (Int.toNat v.1.2.1) (zero a0S))
 bif (k96 (v0.1,()))then
 bif (!(g96 (v0.1,())).1)then
 some (Sum.inr (((false,()),())))
 else
 bif (decide (0<=v.1.2.1)&&decide (v.1.2.1<(↑(List.length v.2.1.1):Int)))then
 bif (k166 (v0,()))then
 bif (!(g166 (v0,())).1)then
 some (Sum.inr (((false,()),())))
 else
 f ((((),(IntKind.wrap .i64 (v.1.2.1+1)),()),v.2))
 else
 none
 else
 none
 else
 none
 else
 none
 else
 some (Sum.inl ((((),()),v.2)))
theorem d5w (k51 g51 k96 g96 k166 g166 kl4 xl4 tl4 yl4 kl9 xl9 tl9 yl9 f v) :EBk (e1V k51 g51 k96 g96 k166 g166 kl4 xl4 tl4 yl4 kl9 xl9 tl9 yl9) c9j (a0B [1,3] [] 0 [1] [] (atS b3R f) (a5J b3S b3T)) (mkS b3R v)=b8n k51 g51 k96 g96 k166 g166 f v:=by kernel_rfl
def c9m (v:a4I):Nat:=v.1.2.1.natAbs+v.2.1.1.length+v.2.1.2.1.length+1000
def b8o (v:a4I):Option (b8h⊕b8i):=a1u (b8n K51 G51 K96 G96 d3O d3P) (c9m v) v
def b0C (v:a4I):Bool:=(b8o v).isSome
def b0D (v:a4I):Bool:=isR (b8o v)
def b0E (v:a4I):b8h:=xOf (((),()),(([],([],())),())) (b8o v)
def b0F (v:a4I):b8i:=yOf ((false,()),()) (b8o v)
def f3x (k51:KA A51) (g51:GA A51 R51) (k96:KA A96) (g96:GA A96 R96) (k166:KA c6p) (g166:GA c6p d3N) (kl4:a4I->Bool) (xl4:a4I->b8h) (tl4:a4I->Bool) (yl4:a4I->b8i) (kl9:a4J->Bool) (xl9:a4J->b8j) (tl9:a4J->Bool) (yl9:a4J->b8k) (x:Den d5u):Option (Den d8W):=
 let w1:=((↑(List.length x.1.1):Int),1,20,())
 bif (k51 w1)then
 bif (!(g51 w1).1)then
 some ((false,()))
 else
 let w0:=((↑(List.length x.1.2.1):Int),1,60,())
 bif (k51 w0)then
 bif (!(g51 w0).1)then
 some ((false,()))
 else
 bif (kl4 (((),0,()),x))then
 bif (tl4 (((),0,()),x))then
 some (yl4 (((),0,()),x)).1
 else
 let v6:=(xl4 (((),0,()),x))
 bif (kl9 (((),0,()),v6.2))then
 bif (tl9 (((),0,()),v6.2))then
 some (yl9 (((),0,()),v6.2)).1
 else
 some ((true,()))
 else
 none
 else
 none
 else
 none
 else
 none
theorem f3y (k51 g51 k96 g96 k166 g166 kl4 xl4 tl4 yl4 kl9 xl9 tl9 yl9 x) :a0E (e1V k51 g51 k96 g96 k166 g166 kl4 xl4 tl4 yl4 kl9 xl9 tl9 yl9) (a0e Tryz.f100) (a1f d8W) (a0V d5u x) []=f3x k51 g51 k96 g96 k166 g166 kl4 xl4 tl4 yl4 kl9 xl9 tl9 yl9 x:=by kernel_rfl
def f0z (x:Den d5u):Option (Den d8W):=f3x K51 G51 K96 G96 d3O d3P b0C b0E b0D b0F b0z b3X b0A b0B x
def f0A (x:Den d5u):Bool:=(f0z x).isSome
def f0B (x:Den d5u):Den d8W:=(f0z x).getD (zero d8W)
theorem e6C:a0q Tryz.prog (100,a0a d5u d8W f0A f0B):=a0s (a0j mixed a0l a0k (.cons b7Z (.cons e6x (.cons e6B .nil)))) (a0O Tryz.func100 rfl rfl rfl (by kernel_rfl) (a0D (l:=[c9j,c9k]) (by kernel_rfl) (.cons (a0r rfl (a0x (sh:=b3R) (shX:=b3S) (shR:=b3T) (fun f v=>d5w K51 G51 K96 G96 d3O d3P b0C b0E b0D b0F b0z b3X b0A b0B f v) c9m (((),()),(([],([],())),())) ((false,()),()))) (.cons (a0r rfl (a0x (sh:=b3U) (shX:=b3V) (shR:=b3W) (fun f v=>d5v K51 G51 K96 G96 d3O d3P b0C b0E b0D b0F b0z b3X b0A b0B f v) c9l ((),()) ((false,()),()))) (.nil))))) fun x=>f3y K51 G51 K96 G96 d3O d3P b0C b0E b0D b0F b0z b3X b0A b0B x
abbrev c6q:Ty:=.cons (.str) (.nil)
abbrev d3Q:Ty:=.cons (.bool) (.nil)
abbrev a4K:Type:=((ByteArray×(Int×Unit))×Unit)
def b3Y:ShS:=⟨[(0,.one (.str)),(3,.one (.int .i64))],[],0,0⟩
abbrev b8p:Type:=((ByteArray×Unit)×Unit)
def b3Z:ShS:=⟨[(0,.one (.str))],[],0,0⟩
abbrev b8q:Type:=((Bool×Unit)×Unit)
def b4a:ShS:=⟨[(2,.one (.bool))],[],0,0⟩
noncomputable def e6D (k51 g51 kl2 xl2 tl2 yl2) :=a0t tab eqs [(51,a0a A51 R51 k51 g51)] 27 [.tmp 2] [] [] [(2,a1U [0,3] [] 0 [0] [] b3Y b3Z b4a kl2 tl2 xl2 yl2)] [] []
noncomputable def c9n:Code:=(a0u (a0e Tryz.f167)).getD 0 .skip
def b8r (k51:KA A51) (g51:GA A51 R51) (f:a4K->Option (b8p⊕b8q)) (v:a4K):Option (b8p⊕b8q):=
 let w0:=(v.1.2.1<(↑(ByteArray.size v.1.1):Int))
 bif (decide w0)then
 let w1:=(decide (0<=v.1.2.1)&&decide w0)
 bif w1 then
 bif (decide (a1z v.1.1 v.1.2.1<97))then
 some (Sum.inr (((false,()),())))
 else
 bif w1 then
 bif (decide (a1z v.1.1 v.1.2.1>122))then
 some (Sum.inr (((false,()),())))
 else
 f (((v.1.1,(IntKind.wrap .i64 (v.1.2.1+1)),()),()))
 else
 none
 else
 none
 else
 some (Sum.inl (((v.1.1,()),())))
theorem d5x (k51 g51 kl2 xl2 tl2 yl2 f v) :EBk (e6D k51 g51 kl2 xl2 tl2 yl2) c9n (a0B [0,3] [] 0 [0] [] (atS b3Y f) (a5J b3Z b4a)) (mkS b3Y v)=b8r k51 g51 f v:=by kernel_rfl
def c9o (v:a4K):Nat:=v.1.1.size+v.1.2.1.natAbs+1000
def b8s (v:a4K):Option (b8p⊕b8q):=a1u (b8r K51 G51) (c9o v) v
def b4b (v:a4K):Bool:=(b8s v).isSome
def b4c (v:a4K):Bool:=isR (b8s v)
def b4d (v:a4K):b8p:=xOf ((ByteArray.empty,()),()) (b8s v)
def b4e (v:a4K):b8q:=yOf ((false,()),()) (b8s v)
def f3z (k51:KA A51) (g51:GA A51 R51) (kl2:a4K->Bool) (xl2:a4K->b8p) (tl2:a4K->Bool) (yl2:a4K->b8q) (x:Den c6q):Option (Den d3Q):=
 bif (kl2 ((x.1,0,()),()))then
 bif (tl2 ((x.1,0,()),()))then
 some (yl2 ((x.1,0,()),())).1
 else
 let v2:=(xl2 ((x.1,0,()),()))
 let w0:=((↑(ByteArray.size v2.1.1):Int),1,16,())
 bif (k51 w0)then
 bif (g51 w0).1 then
 some ((!a2w v2.1.1 { data:=#[110,111,110,101] },()))
 else
 some ((false,()))
 else
 none
 else
 none
theorem f3A (k51 g51 kl2 xl2 tl2 yl2 x) :a0E (e6D k51 g51 kl2 xl2 tl2 yl2) (a0e Tryz.f167) (a1f d3Q) (a0V c6q x) []=f3z k51 g51 kl2 xl2 tl2 yl2 x:=by kernel_rfl
def f0C (x:Den c6q):Option (Den d3Q):=f3z K51 G51 b4b b4d b4c b4e x
def d3R (x:Den c6q):Bool:=(f0C x).isSome
def d3S (x:Den c6q):Den d3Q:=(f0C x).getD (zero d3Q)
theorem e6E:a0q Tryz.prog (167,a0a c6q d3Q d3R d3S):=a0s (a0j mixed a0l a0k (.cons b7Z .nil)) (a0O Tryz.func167 rfl rfl rfl (by kernel_rfl) (a0D (l:=[c9n]) (by kernel_rfl) (.cons (a0r rfl (a0x (sh:=b3Y) (shX:=b3Z) (shR:=b4a) (fun f v=>d5x K51 G51 b4b b4d b4c b4e f v) c9o ((ByteArray.empty,()),()) ((false,()),()))) (.nil)))) fun x=>f3A K51 G51 b4b b4d b4c b4e x
abbrev d5y:Ty:=.cons (.slice (S68)) (.nil)
abbrev d8X:Ty:=.cons (.bool) (.nil)
abbrev a4L:Type:=(((List (Den (S68)))×(Int×Unit))×Unit)
def b4f:ShS:=⟨[(0,.one (.sl (S68))),(3,.one (.int .i64))],[],0,0⟩
abbrev b8t:Type:=(((List (Den (S68)))×Unit)×Unit)
def b4g:ShS:=⟨[(0,.one (.sl (S68)))],[],0,0⟩
abbrev b8u:Type:=((Bool×Unit)×Unit)
def b4h:ShS:=⟨[(2,.one (.bool))],[],0,0⟩
abbrev a2V:Type:=(((List (Den (S68)))×(Int×(Unit×(Int×Unit))))×((ByteArray×(Nat×(Nat×(Int×(Int×Unit)))))×Unit))
def b4i:ShS:=⟨[(0,.one (.sl (S68))),(3,.one (.int .i64)),(4,.one (.ptr 0 0)),(5,.one (.int .i64))],[(0,.box [.str,.flt .f32,.flt .f32,.int .i64,.int .i64])],1,0⟩
abbrev b2o:Type:=(((List (Den (S68)))×(Int×Unit))×Unit)
def b4j:ShS:=⟨[(0,.one (.sl (S68))),(3,.one (.int .i64))],[],0,0⟩
abbrev b2p:Type:=((Bool×Unit)×Unit)
def b4k:ShS:=⟨[(2,.one (.bool))],[],0,0⟩
noncomputable def e1W (k167 g167 k51 g51 kl2 xl2 tl2 yl2 kl8 xl8 tl8 yl8) :=a0t tab eqs [(167,a0a c6q d3Q k167 g167),(51,a0a A51 R51 k51 g51)] 68 [.tmp 2] [] [] [(2,a1U [0,3] [] 0 [0] [] b4f b4g b4h kl2 tl2 xl2 yl2),(8,a1U [0,3,4,5] [] 2 [0,3] [] b4i b4j b4k kl8 tl8 xl8 yl8)] [] []
noncomputable def c9p:Code:=(a0u (a0e Tryz.f101)).getD 0 .skip
noncomputable def c9q:Code:=(a0u (a0e Tryz.f101)).getD 1 .skip
def b8v (k167:KA c6q) (g167:GA c6q d3Q) (k51:KA A51) (g51:GA A51 R51) (f:a2V->Option (b2o⊕b2p)) (v:a2V):Option (b2o⊕b2p):=
 bif (decide (v.1.2.2.2.1<v.1.2.1))then
 bif (decide (0<=v.1.2.2.2.1)&&decide (v.1.2.2.2.1<(↑(List.length v.1.1):Int)))then
 bif (a2w (List.getD v.1.1 (Int.toNat v.1.2.2.2.1) (zero S68)).1 v.2.1.1)then
 some (Sum.inr (((false,()),())))
 else
 f (((v.1.1,v.1.2.1,(),(IntKind.wrap .i64 (v.1.2.2.2.1+1)),()),v.2))
 else
 none
 else
 some (Sum.inl (((v.1.1,v.1.2.1,()),())))
theorem d5z (k167 g167 k51 g51 kl2 xl2 tl2 yl2 kl8 xl8 tl8 yl8 f v) :EBk (e1W k167 g167 k51 g51 kl2 xl2 tl2 yl2 kl8 xl8 tl8 yl8) c9q (a0B [0,3,4,5] [] 2 [0,3] [] (atS b4i f) (a5J b4j b4k)) (mkS b4i v)=b8v k167 g167 k51 g51 f v:=by kernel_rfl
def c9r (v:a2V):Nat:=v.1.1.length+v.1.2.1.natAbs+v.1.2.2.2.1.natAbs+v.2.1.1.size+v.2.1.2.2.2.1.natAbs+v.2.1.2.2.2.2.1.natAbs+1000
def b2q (v:a2V):Option (b2o⊕b2p):=a1u (b8v d3R d3S K51 G51) (c9r v) v
def a6z (v:a2V):Bool:=(b2q v).isSome
def a6A (v:a2V):Bool:=isR (b2q v)
def a6B (v:a2V):b2o:=xOf (([],(0,())),()) (b2q v)
def a6C (v:a2V):b2p:=yOf ((false,()),()) (b2q v)
def b8w (k167:KA c6q) (g167:GA c6q d3Q) (k51:KA A51) (g51:GA A51 R51) (kl8:a2V->Bool) (xl8:a2V->b2o) (tl8:a2V->Bool) (yl8:a2V->b2p) (f:a4L->Option (b8t⊕b8u)) (v:a4L):Option (b8t⊕b8u):=
 bif (decide (v.1.2.1<(↑(List.length v.1.1):Int)))then
 bif (decide (0<=v.1.2.1)&&decide (v.1.2.1<(↑(List.length v.1.1):Int)))then
 let v0:=(List.getD v.1.1 (Int.toNat v.1.2.1) (zero S68))
 bif (k167 (v0.1,()))then
 bif (!(g167 (v0.1,())).1)then
 some (Sum.inr (((false,()),())))
 else
 bif (fgt .f32 v0.2.1 0||feq .f32 v0.2.1 0)then
 bif (fgt .f32 v0.2.2.1 v0.2.1)then
 bif (!(flt .f32 v0.2.2.1 1128792064||feq .f32 v0.2.2.1 1128792064))then
 some (Sum.inr (((false,()),())))
 else
 bif (k51 (v0.2.2.2.1,0,180,()))then
 bif (!(g51 (v0.2.2.2.1,0,180,())).1)then
 some (Sum.inr (((false,()),())))
 else
 bif (k51 (v0.2.2.2.2.1,v0.2.2.2.1,180,()))then
 bif (!(g51 (v0.2.2.2.2.1,v0.2.2.2.1,180,())).1)then
 some (Sum.inr (((false,()),())))
 else
 bif (kl8 ((v.1.1,v.1.2.1,(),0,()),v0,()))then
 bif (tl8 ((v.1.1,v.1.2.1,(),0,()),v0,()))then
 some (Sum.inr (yl8 ((v.1.1,v.1.2.1,(),0,()),v0,())))
 else
 let v9:=(xl8 ((v.1.1,v.1.2.1,(),0,()),v0,()))
 f (((v9.1.1,(IntKind.wrap .i64 (v9.1.2.1+1)),()),()))
 else
 none
 else
 none
 else
 none
 else
 some (Sum.inr (((false,()),())))
 else
 some (Sum.inr (((false,()),())))
 else
 none
 else
 none
 else
 some (Sum.inl (((v.1.1,()),())))
theorem d5A (k167 g167 k51 g51 kl2 xl2 tl2 yl2 kl8 xl8 tl8 yl8 f v) :EBk (e1W k167 g167 k51 g51 kl2 xl2 tl2 yl2 kl8 xl8 tl8 yl8) c9p (a0B [0,3] [] 0 [0] [] (atS b4f f) (a5J b4g b4h)) (mkS b4f v)=b8w k167 g167 k51 g51 kl8 xl8 tl8 yl8 f v:=by kernel_rfl
def c9s (v:a4L):Nat:=v.1.1.length+v.1.2.1.natAbs+1000
def b8x (v:a4L):Option (b8t⊕b8u):=a1u (b8w d3R d3S K51 G51 a6z a6B a6A a6C) (c9s v) v
def b0G (v:a4L):Bool:=(b8x v).isSome
def b0H (v:a4L):Bool:=isR (b8x v)
def b0I (v:a4L):b8t:=xOf (([],()),()) (b8x v)
def b0J (v:a4L):b8u:=yOf ((false,()),()) (b8x v)
def f3B (k167:KA c6q) (g167:GA c6q d3Q) (k51:KA A51) (g51:GA A51 R51) (kl2:a4L->Bool) (xl2:a4L->b8t) (tl2:a4L->Bool) (yl2:a4L->b8u) (kl8:a2V->Bool) (xl8:a2V->b2o) (tl8:a2V->Bool) (yl8:a2V->b2p) (x:Den d5y):Option (Den d8X):=
 bif (kl2 ((x.1,0,()),()))then
 bif (tl2 ((x.1,0,()),()))then
 some (yl2 ((x.1,0,()),())).1
 else
 some ((decide ((↑(List.length (xl2 ((x.1,0,()),())).1.1):Int)<=12),()))
 else
 none
theorem f3C (k167 g167 k51 g51 kl2 xl2 tl2 yl2 kl8 xl8 tl8 yl8 x) :a0E (e1W k167 g167 k51 g51 kl2 xl2 tl2 yl2 kl8 xl8 tl8 yl8) (a0e Tryz.f101) (a1f d8X) (a0V d5y x) []=f3B k167 g167 k51 g51 kl2 xl2 tl2 yl2 kl8 xl8 tl8 yl8 x:=by kernel_rfl
def f0D (x:Den d5y):Option (Den d8X):=f3B d3R d3S K51 G51 b0G b0I b0H b0J a6z a6B a6A a6C x
def f0E (x:Den d5y):Bool:=(f0D x).isSome
def f0F (x:Den d5y):Den d8X:=(f0D x).getD (zero d8X)
theorem e6F:a0q Tryz.prog (101,a0a d5y d8X f0E f0F):=a0s (a0j mixed a0l a0k (.cons e6E (.cons b7Z .nil))) (a0O Tryz.func101 rfl rfl rfl (by kernel_rfl) (a0D (l:=[c9p,c9q]) (by kernel_rfl) (.cons (a0r rfl (a0x (sh:=b4f) (shX:=b4g) (shR:=b4h) (fun f v=>d5A d3R d3S K51 G51 b0G b0I b0H b0J a6z a6B a6A a6C f v) c9s (([],()),()) ((false,()),()))) (.cons (a0r rfl (a0x (sh:=b4i) (shX:=b4j) (shR:=b4k) (fun f v=>d5z d3R d3S K51 G51 b0G b0I b0H b0J a6z a6B a6A a6C f v) c9r (([],(0,())),()) ((false,()),()))) (.nil))))) fun x=>f3C d3R d3S K51 G51 b0G b0I b0H b0J a6z a6B a6A a6C x
abbrev c7C:Ty:=.cons (S35) (.nil)
abbrev d5B:Ty:=.cons (.bool) (.nil)
noncomputable def f3D (k98 g98) :=a0t tab eqs [(98,a0a A98 R98 k98 g98)] 18 [.tmp 2] [] [] [] [] []
def f3E (k98:KA A98) (g98:GA A98 R98) (x:Den c7C):Option (Den d5B):=
 bif (k98 (x.1.1,()))then
 bif (g98 (x.1.1,())).1 then
 bif (k98 x.1.2)then
 bif (g98 x.1.2).1 then
 some ((!(x.1.1.1==x.1.2.1.1&&x.1.1.2.1==x.1.2.1.2.1),()))
 else
 some ((false,()))
 else
 none
 else
 some ((false,()))
 else
 none
theorem f3F (k98 g98 x) :a0E (f3D k98 g98) (a0e Tryz.f168) (a1f d5B) (a0V c7C x) []=f3E k98 g98 x:=by kernel_rfl
def f0G (x:Den c7C):Option (Den d5B):=f3E K98 G98 x
def e1X (x:Den c7C):Bool:=(f0G x).isSome
def e1Y (x:Den c7C):Den d5B:=(f0G x).getD (zero d5B)
theorem e6G:a0q Tryz.prog (168,a0a c7C d5B e1X e1Y):=a0s (a0j mixed a0l a0k (.cons e1Q .nil)) (a0O Tryz.func168 rfl rfl rfl (by kernel_rfl) (a0m (by kernel_rfl))) fun x=>f3F K98 G98 x
abbrev c9t:Ty:=.cons (S38) (.cons (.int .i64) (.nil))
abbrev d5C:Ty:=.cons (S33) (.nil)
noncomputable def f3G:Env:=a0t tab eqs [] 17 [.cell 4 34] [] [] [] [] []
def f3H (x:Den c9t):Option (Den d5C):=
 bif (x.2.1==0)then
 some ((x.1.1.1,()))
 else
 let v0:=(IntKind.wrap .i64 (x.2.1-1))
 bif (decide (0<=v0)&&decide (v0<(↑(List.length x.1.2.1):Int)))then
 some (((List.getD x.1.2.1 (Int.toNat v0) (zero a1E)).1,()))
 else
 none
theorem f3I (x) :a0E (f3G) (a0e Tryz.f169) (a1f d5C) (a0V c9t x) []=f3H x:=by kernel_rfl
def e5j (x:Den c9t):Option (Den d5C):=f3H x
def e1Z (x:Den c9t):Bool:=(e5j x).isSome
def e2a (x:Den c9t):Den d5C:=(e5j x).getD (zero d5C)
theorem e6H:a0q Tryz.prog (169,a0a c9t d5C e1Z e2a):=a0s (a0j mixed a0l a0k .nil) (a0O Tryz.func169 rfl rfl rfl (by kernel_rfl) (a0m (by kernel_rfl))) fun x=>f3I x
abbrev d5D:Ty:=.cons (S38) (.nil)
abbrev d8Y:Ty:=.cons (.bool) (.nil)
abbrev a4M:Type:=((Unit×(Int×Unit))×((Int×(Int×(Int×(Int×((List (Den (a1E)))×(Int×(Int×(Int×(Int×Unit)))))))))×Unit))
def b4l:ShS:=⟨[(1,.one (.ptr 0 0)),(3,.one (.int .i64))],[(0,.box [.int .i64,.int .i64,.int .i64,.int .i64,.sl (a1E),.int .i64,.int .i64,.int .i64,.int .i64])],1,0⟩
abbrev b8y:Type:=(Unit×Unit)
def b4m:ShS:=⟨[],[],0,0⟩
abbrev b8z:Type:=((Bool×Unit)×Unit)
def b4n:ShS:=⟨[(2,.one (.bool))],[],0,0⟩
noncomputable def e6I (k168 g168 k51 g51 k98 g98 k169 g169 kl4 xl4 tl4 yl4) :=a0t tab eqs [(168,a0a c7C d5B k168 g168),(51,a0a A51 R51 k51 g51),(98,a0a A98 R98 k98 g98),(169,a0a c9t d5C k169 g169)] 48 [.tmp 2] [] [] [(4,a1U [1,3] [] 0 [] [] b4l b4m b4n kl4 tl4 xl4 yl4)] [] []
noncomputable def c9u:Code:=(a0u (a0e Tryz.f102)).getD 0 .skip
def b8A (k168:KA c7C) (g168:GA c7C d5B) (k51:KA A51) (g51:GA A51 R51) (k98:KA A98) (g98:GA A98 R98) (k169:KA c9t) (g169:GA c9t d5C) (f:a4M->Option (b8y⊕b8z)) (v:a4M):Option (b8y⊕b8z):=
 let w1:=(v.1.2.1<(↑(List.length v.2.1.2.2.2.2.1):Int))
 bif (decide w1)then
 let w2:=(decide (0<=v.1.2.1)&&decide w1)
 bif w2 then
 let v0:=(List.getD v.2.1.2.2.2.2.1 (Int.toNat v.1.2.1) (zero a1E))
 bif (k98 (v0.1,()))then
 bif (!(g98 (v0.1,())).1)then
 some (Sum.inr (((false,()),())))
 else
 bif w2 then
 let w0:=((((v.2.1.1,v.2.1.2.1,()),(v.2.1.2.2.1,v.2.1.2.2.2.1,()),()),v.2.1.2.2.2.2.1,((v.2.1.2.2.2.2.2.1,v.2.1.2.2.2.2.2.2.1,()),v.2.1.2.2.2.2.2.2.2,()),()),v.1.2)
 bif (k169 w0)then
 let v4:=(g169 w0)
 bif (v0.1.1==v4.1.1&&v0.1.2.1==v4.1.2.1)then
 some (Sum.inr (((false,()),())))
 else
 f ((((),(IntKind.wrap .i64 (v.1.2.1+1)),()),v.2))
 else
 none
 else
 none
 else
 none
 else
 none
 else
 some (Sum.inl (((),())))
theorem d5E (k168 g168 k51 g51 k98 g98 k169 g169 kl4 xl4 tl4 yl4 f v) :EBk (e6I k168 g168 k51 g51 k98 g98 k169 g169 kl4 xl4 tl4 yl4) c9u (a0B [1,3] [] 0 [] [] (atS b4l f) (a5J b4m b4n)) (mkS b4l v)=b8A k168 g168 k51 g51 k98 g98 k169 g169 f v:=by kernel_rfl
def c9v (v:a4M):Nat:=v.1.2.1.natAbs+v.2.1.1.natAbs+v.2.1.2.1.natAbs+v.2.1.2.2.1.natAbs+v.2.1.2.2.2.1.natAbs+v.2.1.2.2.2.2.1.length+v.2.1.2.2.2.2.2.1.natAbs+v.2.1.2.2.2.2.2.2.1.natAbs+v.2.1.2.2.2.2.2.2.2.1.natAbs+v.2.1.2.2.2.2.2.2.2.2.1.natAbs+1000
def b2r (v:a4M):Option (b8y⊕b8z):=a1u (b8A e1X e1Y K51 G51 K98 G98 e1Z e2a) (c9v v) v
def b4o (v:a4M):Bool:=(b2r v).isSome
def b4p (v:a4M):Bool:=isR (b2r v)
def c1x (v:a4M):b8y:=xOf ((),()) (b2r v)
def b4q (v:a4M):b8z:=yOf ((false,()),()) (b2r v)
def f3J (k168:KA c7C) (g168:GA c7C d5B) (k51:KA A51) (g51:GA A51 R51) (k98:KA A98) (g98:GA A98 R98) (k169:KA c9t) (g169:GA c9t d5C) (kl4:a4M->Bool) (xl4:a4M->b8y) (tl4:a4M->Bool) (yl4:a4M->b8z) (x:Den d5D):Option (Den d8Y):=
 bif (k168 (x.1.1,()))then
 bif (!(g168 (x.1.1,())).1)then
 some ((false,()))
 else
 bif (k168 x.1.2.2)then
 bif (!(g168 x.1.2.2).1)then
 some ((false,()))
 else
 let w1:=((↑(List.length x.1.2.1):Int),1,20,())
 bif (k51 w1)then
 bif (!(g51 w1).1)then
 some ((false,()))
 else
 let w0:=(((),0,()),(x.1.1.1.1,x.1.1.1.2.1,x.1.1.2.1.1,x.1.1.2.1.2.1,x.1.2.1,x.1.2.2.1.1.1,x.1.2.2.1.1.2.1,x.1.2.2.1.2.1),())
 bif (kl4 w0)then
 bif (tl4 w0)then
 some (yl4 w0).1
 else
 some ((true,()))
 else
 none
 else
 none
 else
 none
 else
 none
theorem f3K (k168 g168 k51 g51 k98 g98 k169 g169 kl4 xl4 tl4 yl4 x) :a0E (e6I k168 g168 k51 g51 k98 g98 k169 g169 kl4 xl4 tl4 yl4) (a0e Tryz.f102) (a1f d8Y) (a0V d5D x) []=f3J k168 g168 k51 g51 k98 g98 k169 g169 kl4 xl4 tl4 yl4 x:=by kernel_rfl
def f0H (x:Den d5D):Option (Den d8Y):=f3J e1X e1Y K51 G51 K98 G98 e1Z e2a b4o c1x b4p b4q x
def f0I (x:Den d5D):Bool:=(f0H x).isSome
def f0J (x:Den d5D):Den d8Y:=(f0H x).getD (zero d8Y)
theorem e6J:a0q Tryz.prog (102,a0a d5D d8Y f0I f0J):=a0s (a0j mixed a0l a0k (.cons e6G (.cons b7Z (.cons e1Q (.cons e6H .nil))))) (a0O Tryz.func102 rfl rfl rfl (by kernel_rfl) (a0D (l:=[c9u]) (by kernel_rfl) (.cons (a0r rfl (a0x (sh:=b4l) (shX:=b4m) (shR:=b4n) (fun f v=>d5E e1X e1Y K51 G51 K98 G98 e1Z e2a b4o c1x b4p b4q f v) c9v ((),()) ((false,()),()))) (.nil)))) fun x=>f3K e1X e1Y K51 G51 K98 G98 e1Z e2a b4o c1x b4p b4q x
abbrev A50:Ty:=.cons (S40) (.nil)
abbrev R50:Ty:=.cons (.bool) (.nil)
noncomputable def f9J (k99 g99 k100 g100 k101 g101 k102 g102) :=a0t tab eqs [(99,a0a A99 R99 k99 g99),(100,a0a d5u d8W k100 g100),(101,a0a d5y d8X k101 g101),(102,a0a d5D d8Y k102 g102)] 27 [.tmp 2] [] [] [] [] []
def r50 (k99:KA A99) (g99:GA A99 R99) (k100:KA d5u) (g100:GA d5u d8W) (k101:KA d5y) (g101:GA d5y d8X) (k102:KA d5D) (g102:GA d5D d8Y) (x:Den A50):Option (Den R50):=
 bif (k99 (x.1.1,()))then
 bif (g99 (x.1.1,())).1 then
 bif (k100 (x.1.2.1,()))then
 bif (g100 (x.1.2.1,())).1 then
 bif (k101 (x.1.2.2.1,()))then
 bif (g101 (x.1.2.2.1,())).1 then
 bif (decide ((↑(List.length x.1.2.2.1):Int)>0))then
 bif (k102 x.1.2.2.2)then
 some (g102 x.1.2.2.2)
 else
 none
 else
 some ((false,()))
 else
 some ((false,()))
 else
 none
 else
 some ((false,()))
 else
 none
 else
 some ((false,()))
 else
 none
theorem f9K (k99 g99 k100 g100 k101 g101 k102 g102 x) :a0E (f9J k99 g99 k100 g100 k101 g101 k102 g102) (a0e Tryz.f50) (a1f R50) (a0V A50 x) []=r50 k99 g99 k100 g100 k101 g101 k102 g102 x:=by kernel_rfl
def F50 (x:Den A50):Option (Den R50):=r50 K99 G99 f0A f0B f0E f0F f0I f0J x
def K50 (x:Den A50):Bool:=(F50 x).isSome
def G50 (x:Den A50):Den R50:=(F50 x).getD (zero R50)
theorem f3L:a0q Tryz.prog (50,a0a A50 R50 K50 G50):=a0s (a0j mixed a0l a0k (.cons f3q (.cons e6C (.cons e6F (.cons e6J .nil))))) (a0O Tryz.func50 rfl rfl rfl (by kernel_rfl) (a0m (by kernel_rfl))) fun x=>f9K K99 G99 f0A f0B f0E f0F f0I f0J x
abbrev I80:Sg:=⟨[.val (S40)],[]⟩
abbrev O80:Sg:=⟨[.mix [.ref (.flt .f32) 0,.ref (.int .i64) 1,.ref (.slice (.flt .f32)) 2,.ref (a0S) 3,.ref (.int .i64) 4,.ref (S68) 5,.int .i64,.int .i64,.int .i64,.int .i64,.ref (a1E) 6,.int .i64,.int .i64,.int .i64,.int .i64]],[.arr (.flt .f32),.arr (.int .i64),.arr (.slice (.flt .f32)),.arr (a0S),.arr (.int .i64),.arr (S68),.arr (a1E)]⟩
abbrev b4r:Type:=((Unit×(Unit×(Unit×(Int×Unit))))×(((List (Den (.flt .f32)))×((List (Den (.int .i64)))×((List (Den (.slice (.flt .f32))))×((List (Den (a0S)))×((List (Den (.int .i64)))×((List (Den (S68)))×(Int×(Int×(Int×(Int×((List (Den (a1E)))×(Int×(Int×(Int×(Int×Unit)))))))))))))))×((Unit×(Unit×(Unit×(Unit×(Unit×(Unit×(Int×(Int×(Int×(Int×(Unit×(Int×(Int×(Int×(Int×Unit)))))))))))))))×((Unit×(Unit×(Unit×(Unit×(Unit×(Unit×(Int×(Int×(Int×(Int×(Unit×(Int×(Int×(Int×(Int×Unit)))))))))))))))×((List (Den (.flt .f32)))×((List (Den (.int .i64)))×((List (Den (.slice (.flt .f32))))×Unit)))))))
def c3y:ShS:=⟨[(1,.one (.ptr 0 0)),(2,.one (.ptr 1 0)),(3,.one (.ptr 2 0)),(4,.one (.int .i64))],[(0,.box [.sl (.flt .f32),.sl (.int .i64),.sl (.slice (.flt .f32)),.sl (a0S),.sl (.int .i64),.sl (S68),.int .i64,.int .i64,.int .i64,.int .i64,.sl (a1E),.int .i64,.int .i64,.int .i64,.int .i64]),(1,.box [.nil (.flt .f32),.nil (.int .i64),.nil (.slice (.flt .f32)),.nil (a0S),.nil (.int .i64),.nil (S68),.int .i64,.int .i64,.int .i64,.int .i64,.nil (a1E),.int .i64,.int .i64,.int .i64,.int .i64]),(2,.box [.ref (.flt .f32) 3,.ref (.int .i64) 4,.ref (.slice (.flt .f32)) 5,.nil (a0S),.nil (.int .i64),.nil (S68),.int .i64,.int .i64,.int .i64,.int .i64,.nil (a1E),.int .i64,.int .i64,.int .i64,.int .i64]),(3,.arr (.flt .f32)),(4,.arr (.int .i64)),(5,.arr (.slice (.flt .f32)))],6,0⟩
abbrev c6r:Type:=((Unit×(Unit×(Unit×Unit)))×(((List (Den (.flt .f32)))×((List (Den (.int .i64)))×((List (Den (.slice (.flt .f32))))×((List (Den (a0S)))×((List (Den (.int .i64)))×((List (Den (S68)))×(Int×(Int×(Int×(Int×((List (Den (a1E)))×(Int×(Int×(Int×(Int×Unit)))))))))))))))×((Unit×(Unit×(Unit×(Unit×(Unit×(Unit×(Int×(Int×(Int×(Int×(Unit×(Int×(Int×(Int×(Int×Unit)))))))))))))))×((Unit×(Unit×(Unit×(Unit×(Unit×(Unit×(Int×(Int×(Int×(Int×(Unit×(Int×(Int×(Int×(Int×Unit)))))))))))))))×((List (Den (.flt .f32)))×((List (Den (.int .i64)))×((List (Den (.slice (.flt .f32))))×Unit)))))))
def c1y:ShS:=⟨[(1,.one (.ptr 0 0)),(2,.one (.ptr 1 0)),(3,.one (.ptr 2 0))],[(0,.box [.sl (.flt .f32),.sl (.int .i64),.sl (.slice (.flt .f32)),.sl (a0S),.sl (.int .i64),.sl (S68),.int .i64,.int .i64,.int .i64,.int .i64,.sl (a1E),.int .i64,.int .i64,.int .i64,.int .i64]),(1,.box [.nil (.flt .f32),.nil (.int .i64),.nil (.slice (.flt .f32)),.nil (a0S),.nil (.int .i64),.nil (S68),.int .i64,.int .i64,.int .i64,.int .i64,.nil (a1E),.int .i64,.int .i64,.int .i64,.int .i64]),(2,.box [.ref (.flt .f32) 3,.ref (.int .i64) 4,.ref (.slice (.flt .f32)) 5,.nil (a0S),.nil (.int .i64),.nil (S68),.int .i64,.int .i64,.int .i64,.int .i64,.nil (a1E),.int .i64,.int .i64,.int .i64,.int .i64]),(3,.arr (.flt .f32)),(4,.arr (.int .i64)),(5,.arr (.slice (.flt .f32)))],6,0⟩
noncomputable def f8z (kl5 xl5) :=a0t tab eqs [] 77 [.cell 2 41] [] [] [(5,a1X [1,2,3,4] [.boxNil 3 2] 0 [1,2,3] [] c3y c1y kl5 xl5)] [] []
noncomputable def d8Z:Code:=(a0u (a0e Tryz.f80)).getD 0 .skip
def c9w (f:b4r->Option (c6r)) (v:b4r):Option (c6r):=
 let w0:=(v.1.2.2.2.1<(↑(List.length v.2.1.2.2.1):Int))
 bif (decide w0)then
 bif (decide (0<=v.1.2.2.2.1)&&decide w0)then
 let w1:=(zero (Ty.slice (Ty.flt .f32)))
 let v0:=(List.getD v.2.1.2.2.1 (Int.toNat v.1.2.2.2.1) w1)
 let w2:=(zero (Ty.flt .f32))
 bif (a0F (List.length (List.replicate 0 w2)+List.length v0))then
 let v2:=(List.set (List.replicate 1 w1) 0 (List.replicate 0 w2++v0))
 bif (a0F (List.length v.2.2.2.2.2.2.1+List.length v2))then
 f ((((),(),(),(IntKind.wrap .i64 (v.1.2.2.2.1+1)),()),v.2.1,v.2.2.1,v.2.2.2.1,v.2.2.2.2.1,v.2.2.2.2.2.1,(v.2.2.2.2.2.2.1++v2),()))
 else
 none
 else
 none
 else
 none
 else
 some ((((),(),(),()),v.2))
theorem e2b (kl5 xl5 f v) :EBk (f8z kl5 xl5) d8Z (a0B [1,2,3,4] [.boxNil 3 2] 0 [1,2,3] [] (atS c3y f) (a5W c1y)) (mkS c3y v)=c9w f v:=by kernel_rfl
def d5F (v:b4r):Nat:=v.1.2.2.2.1.natAbs+v.2.1.1.length+v.2.1.2.1.length+v.2.1.2.2.1.length+v.2.1.2.2.2.1.length+v.2.1.2.2.2.2.1.length+v.2.1.2.2.2.2.2.1.length+v.2.1.2.2.2.2.2.2.1.natAbs+v.2.1.2.2.2.2.2.2.2.1.natAbs+v.2.1.2.2.2.2.2.2.2.2.1.natAbs+v.2.1.2.2.2.2.2.2.2.2.2.1.natAbs+v.2.1.2.2.2.2.2.2.2.2.2.2.1.length+v.2.1.2.2.2.2.2.2.2.2.2.2.2.1.natAbs+v.2.1.2.2.2.2.2.2.2.2.2.2.2.2.1.natAbs+v.2.1.2.2.2.2.2.2.2.2.2.2.2.2.2.1.natAbs+v.2.1.2.2.2.2.2.2.2.2.2.2.2.2.2.2.1.natAbs+v.2.2.1.2.2.2.2.2.2.1.natAbs+v.2.2.1.2.2.2.2.2.2.2.1.natAbs+v.2.2.1.2.2.2.2.2.2.2.2.1.natAbs+v.2.2.1.2.2.2.2.2.2.2.2.2.1.natAbs+v.2.2.1.2.2.2.2.2.2.2.2.2.2.2.1.natAbs+v.2.2.1.2.2.2.2.2.2.2.2.2.2.2.2.1.natAbs+v.2.2.1.2.2.2.2.2.2.2.2.2.2.2.2.2.1.natAbs+v.2.2.1.2.2.2.2.2.2.2.2.2.2.2.2.2.2.1.natAbs+v.2.2.2.1.2.2.2.2.2.2.1.natAbs+v.2.2.2.1.2.2.2.2.2.2.2.1.natAbs+v.2.2.2.1.2.2.2.2.2.2.2.2.1.natAbs+v.2.2.2.1.2.2.2.2.2.2.2.2.2.1.natAbs+v.2.2.2.1.2.2.2.2.2.2.2.2.2.2.2.1.natAbs+v.2.2.2.1.2.2.2.2.2.2.2.2.2.2.2.2.1.natAbs+v.2.2.2.1.2.2.2.2.2.2.2.2.2.2.2.2.2.1.natAbs+v.2.2.2.1.2.2.2.2.2.2.2.2.2.2.2.2.2.2.1.natAbs+v.2.2.2.2.1.length+v.2.2.2.2.2.1.length+v.2.2.2.2.2.2.1.length+1000
def d5G (v:b4r):Option (c6r):=a1u (c9w) (d5F v) v
def b2s (v:b4r):Bool:=(d5G v).isSome
def b2t (v:b4r):c6r:=(d5G v).getD (((),((),((),()))),(([],([],([],([],([],([],(0,(0,(0,(0,([],(0,(0,(0,(0,()))))))))))))))),(((),((),((),((),((),((),(0,(0,(0,(0,((),(0,(0,(0,(0,()))))))))))))))),(((),((),((),((),((),((),(0,(0,(0,(0,((),(0,(0,(0,(0,()))))))))))))))),([],([],([],())))))))
def r80 (kl5:b4r->Bool) (xl5:b4r->c6r) (x:I80.den):Option (O80.den):=
 let w2:=(zero (Ty.flt .f32))
 bif (a0F (List.length (List.replicate 0 w2)+List.length x.1.1.1.1))then
 let w1:=(zero (Ty.int IntKind.i64))
 bif (a0F (List.length (List.replicate 0 w1)+List.length x.1.1.1.2.1))then
 let v0:=(List.replicate 0 w2++x.1.1.1.1)
 let v1:=(List.replicate 0 w1++x.1.1.1.2.1)
 let w0:=(((),(),(),0,()),(x.1.1.1.1,x.1.1.1.2.1,x.1.1.1.2.2.1,x.1.1.2.1.1,x.1.1.2.1.2.1,x.1.1.2.2.1,x.1.1.2.2.2.1.1.1.1,x.1.1.2.2.2.1.1.1.2.1,x.1.1.2.2.2.1.1.2.1.1,x.1.1.2.2.2.1.1.2.1.2.1,x.1.1.2.2.2.1.2.1,x.1.1.2.2.2.1.2.2.1.1.1,x.1.1.2.2.2.1.2.2.1.1.2.1,x.1.1.2.2.2.1.2.2.1.2.1),((),(),(),(),(),(),0,0,0,0,(),0,0,0,0,()),((),(),(),(),(),(),x.1.1.2.2.2.1.1.1.1,x.1.1.2.2.2.1.1.1.2.1,x.1.1.2.2.2.1.1.2.1.1,x.1.1.2.2.2.1.1.2.1.2.1,(),x.1.1.2.2.2.1.2.2.1.1.1,x.1.1.2.2.2.1.2.2.1.1.2.1,x.1.1.2.2.2.1.2.2.1.2.1),v0,v1,[],())
 bif (kl5 w0)then
 let v3:=(xl5 w0)
 bif (a0F (List.length (List.replicate 0 (zero a0S))+List.length v3.2.1.2.2.2.1))then
 bif (a0F (List.length (List.replicate 0 w1)+List.length v3.2.1.2.2.2.2.1))then
 bif (a0F (List.length (List.replicate 0 (zero S68))+List.length v3.2.1.2.2.2.2.2.1))then
 bif (a0F (List.length (List.replicate 0 (zero a1E))+List.length v3.2.1.2.2.2.2.2.2.2.2.2.2.1))then
 some (((v3.2.2.2.1,()),v3.2.2.2.2.1,v3.2.2.2.2.2.1,v3.2.2.2.2.2.2.1,(List.replicate 0 (zero a0S)++v3.2.1.2.2.2.1),(List.replicate 0 w1++v3.2.1.2.2.2.2.1),(List.replicate 0 (zero S68)++v3.2.1.2.2.2.2.2.1),(List.replicate 0 (zero a1E)++v3.2.1.2.2.2.2.2.2.2.2.2.2.1),()))
 else
 none
 else
 none
 else
 none
 else
 none
 else
 none
 else
 none
 else
 none
theorem f9L (kl5 xl5 x) :a1N (f8z kl5 xl5) (a0e Tryz.f80) I80 O80 x=r80 kl5 xl5 x:=by kernel_rfl
def F80 (x:I80.den):Option (O80.den):=r80 b2s b2t x
def K80 (x:I80.den):Bool:=(F80 x).isSome
def G80 (x:I80.den):O80.den:=(F80 x).getD (a1d O80)
theorem f3M:a0q Tryz.prog (80,a0n false I80 O80 K80 G80):=a1k (a0j mixed a0l a0k .nil) (a0O Tryz.func80 rfl rfl rfl (by kernel_rfl) (a0D (l:=[d8Z]) (by kernel_rfl) (.cons (a0r rfl (a0y (sh:=c3y) (shX:=c1y) (fun f v=>e2b b2s b2t f v) d5F (((),((),((),()))),(([],([],([],([],([],([],(0,(0,(0,(0,([],(0,(0,(0,(0,()))))))))))))))),(((),((),((),((),((),((),(0,(0,(0,(0,((),(0,(0,(0,(0,()))))))))))))))),(((),((),((),((),((),((),(0,(0,(0,(0,((),(0,(0,(0,(0,()))))))))))))))),([],([],([],()))))))))) (.nil)))) false fun x=>f9L b2s b2t x
abbrev I32:Sg:=⟨[.val (S40),.val (.cpx .f64),.val (.int .i64)],[]⟩
abbrev O32:Sg:=⟨[.mix [.ref (.flt .f32) 0,.ref (.int .i64) 1,.ref (.slice (.flt .f32)) 2,.ref (a0S) 3,.ref (.int .i64) 4,.ref (S68) 5,.int .i64,.int .i64,.int .i64,.int .i64,.ref (a1E) 6,.int .i64,.int .i64,.int .i64,.int .i64,.int .i64,.cpx .f64,.int .i64,.cpx .f32,.int .i64,.sl (S97),.sl (.str)],.val (.bool)],[.arr (.flt .f32),.arr (.int .i64),.arr (.slice (.flt .f32)),.arr (a0S),.arr (.int .i64),.arr (S68),.arr (a1E)]⟩
noncomputable def f9M (k49 g49 k50 g50 k51 g51 k80 g80) :=a0t tab eqs [(49,a0a A49 R49 k49 g49),(50,a0a A50 R50 k50 g50),(51,a0a A51 R51 k51 g51),(80,a0n false I80 O80 k80 g80)] 33 [.cell 6 47,.tmp 7] [] [] [] [] [.boxNil 6 0,.boxNil 6 1,.boxNil 6 2,.boxNil 6 3,.boxNil 6 4,.boxNil 6 5,.boxNil 6 10]
def r32 (k49:KA A49) (g49:GA A49 R49) (k50:KA A50) (g50:GA A50 R50) (k51:KA A51) (g51:GA A51 R51) (k80:KI I80) (g80:GI I80 O80) (x:I32.den):Option (O32.den):=
 bif (k49 (x.1.2.1,()))then
 bif (k50 (x.1.1,()))then
 bif (!(g50 (x.1.1,())).1)then
 some (((((),(),(),(),(),(),0,0,0,0,(),0,0,0,0,0,(0,0),0,(0,0),0,[],[],()),false,()),[],[],[],[],[],[],[],()))
 else
 bif (!(g49 (x.1.2.1,())).2.1)then
 some (((((),(),(),(),(),(),0,0,0,0,(),0,0,0,0,0,(0,0),0,(0,0),0,[],[],()),false,()),[],[],[],[],[],[],[],()))
 else
 bif (k51 (x.1.2.2.1,0,10000000,()))then
 bif (!(g51 (x.1.2.2.1,0,10000000,())).1)then
 some (((((),(),(),(),(),(),0,0,0,0,(),0,0,0,0,0,(0,0),0,(0,0),0,[],[],()),false,()),[],[],[],[],[],[],[],()))
 else
 bif (k80 ((x.1.1,()),()))then
 let v7:=(g80 ((x.1.1,()),()))
 some (((((),(),(),(),(),(),v7.1.1.2.2.2.2.2.2.1,v7.1.1.2.2.2.2.2.2.2.1,v7.1.1.2.2.2.2.2.2.2.2.1,v7.1.1.2.2.2.2.2.2.2.2.2.1,(),v7.1.1.2.2.2.2.2.2.2.2.2.2.2.1,v7.1.1.2.2.2.2.2.2.2.2.2.2.2.2.1,v7.1.1.2.2.2.2.2.2.2.2.2.2.2.2.2.1,v7.1.1.2.2.2.2.2.2.2.2.2.2.2.2.2.2.1,x.1.2.2.1,x.1.2.1,0,(0,0),-1,[],[],()),true,()),v7.2))
 else
 none
 else
 none
 else
 none
 else
 none
theorem f9N (k49 g49 k50 g50 k51 g51 k80 g80 x) :a1N (f9M k49 g49 k50 g50 k51 g51 k80 g80) (a0e Tryz.f32) I32 O32 x=r32 k49 g49 k50 g50 k51 g51 k80 g80 x:=by kernel_rfl
def F32 (x:I32.den):Option (O32.den):=r32 K49 G49 K50 G50 K51 G51 K80 G80 x
def K32 (x:I32.den):Bool:=(F32 x).isSome
def G32 (x:I32.den):O32.den:=(F32 x).getD (a1d O32)
theorem f3N:a0q Tryz.prog (32,a0n false I32 O32 K32 G32):=a1k (a0j mixed a0l a0k (.cons f3p (.cons f3L (.cons b7Z (.cons f3M .nil))))) (a0O Tryz.func32 rfl rfl rfl (by kernel_rfl) (a0m (by kernel_rfl))) false fun x=>f9N K49 G49 K50 G50 K51 G51 K80 G80 x
abbrev c9x:Ty:=.cons (.int .i64) (.nil)
abbrev d5H:Ty:=.cons (.int .u8) (.nil)
noncomputable def f3O:Env:=a0t tab eqs [] 12 [.tmp 2] [] [] [] [] []
def f3P (x:Den c9x):Option (Den d5H):=
 bif (decide (x.1<10))then
 some (((IntKind.wrap .u8 (IntKind.wrap .i64 (48+x.1))),()))
 else
 some (((IntKind.wrap .u8 (IntKind.wrap .i64 ((IntKind.wrap .i64 (97+x.1))-10))),()))
theorem f3Q (x) :a0E (f3O) (a0e Tryz.f190) (a1f d5H) (a0V c9x x) []=f3P x:=by kernel_rfl
def f0K (x:Den c9x):Option (Den d5H):=f3P x
def d9a (x:Den c9x):Bool:=(f0K x).isSome
def d9b (x:Den c9x):Den d5H:=(f0K x).getD (zero d5H)
theorem e6K:a0q Tryz.prog (190,a0a c9x d5H d9a d9b):=a0s (a0j mixed a0l a0k .nil) (a0O Tryz.func190 rfl rfl rfl (by kernel_rfl) (a0m (by kernel_rfl))) fun x=>f3Q x
abbrev c7D:Ty:=.cons (.int .i64) (.nil)
abbrev d3T:Ty:=.cons (.str) (.nil)
abbrev a8Q:Type:=((Int×(Bool×(ByteArray×Unit)))×Unit)
def b4s:ShS:=⟨[(0,.one (.int .i64)),(3,.one (.bool)),(4,.one (.str))],[],0,0⟩
abbrev b8B:Type:=((Bool×(ByteArray×Unit))×Unit)
def b4t:ShS:=⟨[(3,.one (.bool)),(4,.one (.str))],[],0,0⟩
noncomputable def e6L (k190 g190 kl5 xl5) :=a0t tab eqs [(190,a0a c9x d5H k190 g190)] 30 [.tmp 2] [] [] [(5,a1X [0,3,4] [] 0 [3,4] [] b4s b4t kl5 xl5)] [] []
noncomputable def c9y:Code:=(a0u (a0e Tryz.f130)).getD 0 .skip
def c3z (k190:KA c9x) (g190:GA c9x d5H) (f:a8Q->Option (b8B)) (v:a8Q):Option (b8B):=
 bif (v.1.1 != 0)then
 bif (decide (Int.tmod v.1.1 10<0))then
 let v0:=(IntKind.wrap .i64 (0-Int.tmod v.1.1 10))
 bif (k190 (v0,()))then
 let v4:=(a8L (List.set (List.replicate 1 (zero (Ty.int IntKind.u8))) 0 (g190 (v0,())).1))
 bif (decide (ByteArray.size v4+ByteArray.size v.1.2.2.1<=9223372036854775807))then
 f ((((IntKind.wrap .i64 (Int.tdiv v.1.1 10)),v.1.2.1,(v4++v.1.2.2.1),()),()))
 else
 none
 else
 none
 else
 bif (k190 (Int.tmod v.1.1 10,()))then
 let v3:=(a8L (List.set (List.replicate 1 (zero (Ty.int IntKind.u8))) 0 (g190 (Int.tmod v.1.1 10,())).1))
 bif (decide (ByteArray.size v3+ByteArray.size v.1.2.2.1<=9223372036854775807))then
 f ((((IntKind.wrap .i64 (Int.tdiv v.1.1 10)),v.1.2.1,(v3++v.1.2.2.1),()),()))
 else
 none
 else
 none
 else
 some ((v.1.2,()))
theorem d5I (k190 g190 kl5 xl5 f v) :EBk (e6L k190 g190 kl5 xl5) c9y (a0B [0,3,4] [] 0 [3,4] [] (atS b4s f) (a5W b4t)) (mkS b4s v)=c3z k190 g190 f v:=by kernel_rfl
def c9z (v:a8Q):Nat:=v.1.1.natAbs+v.1.2.2.1.size+1000
def c3A (v:a8Q):Option (b8B):=a1u (c3z d9a d9b) (c9z v) v
def b4u (v:a8Q):Bool:=(c3A v).isSome
def b4v (v:a8Q):b8B:=(c3A v).getD ((false,(ByteArray.empty,())),())
def f3R (k190:KA c9x) (g190:GA c9x d5H) (kl5:a8Q->Bool) (xl5:a8Q->b8B) (x:Den c7D):Option (Den d3T):=
 bif (x.1==0)then
 some (({ data:=#[48] },()))
 else
 let w0:=((x.1,decide (x.1<0),{ data:=#[] },()),())
 bif (kl5 w0)then
 let v1:=(xl5 w0)
 bif v1.1.1 then
 bif (decide (ByteArray.size { data:=#[45] }+ByteArray.size v1.1.2.1<=9223372036854775807))then
 some ((({ data:=#[45] }++v1.1.2.1),()))
 else
 none
 else
 some v1.1.2
 else
 none
theorem f3S (k190 g190 kl5 xl5 x) :a0E (e6L k190 g190 kl5 xl5) (a0e Tryz.f130) (a1f d3T) (a0V c7D x) []=f3R k190 g190 kl5 xl5 x:=by kernel_rfl
def f0L (x:Den c7D):Option (Den d3T):=f3R d9a d9b b4u b4v x
def c9A (x:Den c7D):Bool:=(f0L x).isSome
def b1L (x:Den c7D):Den d3T:=(f0L x).getD (zero d3T)
theorem d9c:a0q Tryz.prog (130,a0a c7D d3T c9A b1L):=a0s (a0j mixed a0l a0k (.cons e6K .nil)) (a0O Tryz.func130 rfl rfl rfl (by kernel_rfl) (a0D (l:=[c9y]) (by kernel_rfl) (.cons (a0r rfl (a0y (sh:=b4s) (shX:=b4t) (fun f v=>d5I d9a d9b b4u b4v f v) c9z ((false,(ByteArray.empty,())),()))) (.nil)))) fun x=>f3S d9a d9b b4u b4v x
abbrev A83:Ty:=.cons (.int .i64) (.nil)
abbrev R83:Ty:=.cons (.str) (.nil)
noncomputable def f9O (k51 g51 k130 g130) :=a0t tab eqs [(51,a0a A51 R51 k51 g51),(130,a0a c7D d3T k130 g130)] 25 [.tmp 2] [] [] [] [] []
def r83 (k51:KA A51) (g51:GA A51 R51) (k130:KA c7D) (g130:GA c7D d3T) (x:Den A83):Option (Den R83):=
 bif (k51 (x.1,-1000000000,1000000000,()))then
 bif (!(g51 (x.1,-1000000000,1000000000,())).1)then
 some (({ data:=#[] },()))
 else
 bif (decide (x.1<0))then
 let v2:=(IntKind.wrap .i64 (0-x.1))
 let v3:=(IntKind.wrap .i64 (1000+Int.tmod v2 1000))
 bif (k130 (v3,()))then
 let v5:=(IntKind.wrap .i64 (Int.tdiv v2 1000))
 bif (k130 (v5,()))then
 let v7:=(g130 (v5,()))
 bif (decide (ByteArray.size { data:=#[45] }+ByteArray.size v7.1<=9223372036854775807))then
 let v8:=({ data:=#[45] }++v7.1)
 bif (decide (ByteArray.size v8+ByteArray.size { data:=#[46] }<=9223372036854775807))then
 let v9:=(g130 (v3,()))
 bif (decide (0<=1)&&decide (1<=(↑(ByteArray.size v9.1):Int))&&decide ((↑(ByteArray.size v9.1):Int)<=(↑(ByteArray.size v9.1):Int)))then
 let v10:=(v8++{ data:=#[46] })
 bif (decide (ByteArray.size v10+ByteArray.size (ByteArray.extract v9.1 (Int.toNat 1) (Int.toNat (↑(ByteArray.size v9.1):Int)))<=9223372036854775807))then
 some (((v10++ByteArray.extract v9.1 (Int.toNat 1) (Int.toNat (↑(ByteArray.size v9.1):Int))),()))
 else
 none
 else
 none
 else
 none
 else
 none
 else
 none
 else
 none
 else
 let v2:=(IntKind.wrap .i64 (1000+Int.tmod x.1 1000))
 bif (k130 (v2,()))then
 let v4:=(IntKind.wrap .i64 (Int.tdiv x.1 1000))
 bif (k130 (v4,()))then
 let v6:=(g130 (v4,()))
 bif (decide (ByteArray.size { data:=#[] }+ByteArray.size v6.1<=9223372036854775807))then
 let v7:=({ data:=#[] }++v6.1)
 bif (decide (ByteArray.size v7+ByteArray.size { data:=#[46] }<=9223372036854775807))then
 let v8:=(g130 (v2,()))
 bif (decide (0<=1)&&decide (1<=(↑(ByteArray.size v8.1):Int))&&decide ((↑(ByteArray.size v8.1):Int)<=(↑(ByteArray.size v8.1):Int)))then
 let v9:=(v7++{ data:=#[46] })
 bif (decide (ByteArray.size v9+ByteArray.size (ByteArray.extract v8.1 (Int.toNat 1) (Int.toNat (↑(ByteArray.size v8.1):Int)))<=9223372036854775807))then
 some (((v9++ByteArray.extract v8.1 (Int.toNat 1) (Int.toNat (↑(ByteArray.size v8.1):Int))),()))
 else
 none
 else
 none
 else
 none
 else
 none
 else
 none
 else
 none
 else
 none
theorem f9P (k51 g51 k130 g130 x) :a0E (f9O k51 g51 k130 g130) (a0e Tryz.f83) (a1f R83) (a0V A83 x) []=r83 k51 g51 k130 g130 x:=by kernel_rfl
def F83 (x:Den A83):Option (Den R83):=r83 K51 G51 c9A b1L x
def K83 (x:Den A83):Bool:=(F83 x).isSome
def G83 (x:Den A83):Den R83:=(F83 x).getD (zero R83)
theorem e6M:a0q Tryz.prog (83,a0a A83 R83 K83 G83):=a0s (a0j mixed a0l a0k (.cons b7Z (.cons d9c .nil))) (a0O Tryz.func83 rfl rfl rfl (by kernel_rfl) (a0m (by kernel_rfl))) fun x=>f9P K51 G51 c9A b1L x
abbrev I30:Sg:=⟨[.val (.slice (.int .u8))],[]⟩
abbrev O30:Sg:=⟨[.ptr 0],[.box (a2O)]⟩
abbrev b8C:Type:=(((List (Den (.int .u8)))×(Int×(Int×Unit)))×Unit)
def c3B:ShS:=⟨[(0,.one (.sl (.int .u8))),(3,.one (.int .i64)),(4,.one (.int .i64))],[],0,0⟩
abbrev c9B:Type:=(((List (Den (.int .u8)))×(Int×Unit))×Unit)
def c1z:ShS:=⟨[(0,.one (.sl (.int .u8))),(3,.one (.int .i64))],[],0,0⟩
noncomputable def f8A (kl3 xl3) :=a0t tab eqs [] 32 [.tmp 2] [] [] [(3,a1X [0,3,4] [] 0 [0,3] [] c3B c1z kl3 xl3)] [] []
noncomputable def d9d:Code:=(a0u (a0e Tryz.f30)).getD 0 .skip
def d5J (f:b8C->Option (c9B)) (v:b8C):Option (c9B):=
 bif (decide (v.1.2.2.1<(↑(List.length v.1.1):Int)))then
 bif (decide (v.1.2.2.1<4000))then
 bif (decide (0<=v.1.2.2.1)&&decide (v.1.2.2.1<(↑(List.length v.1.1):Int)))then
 f (((v.1.1,a2l BinOp.and IntKind.i64 (IntKind.wrap .i64 ((IntKind.wrap .i64 ((IntKind.wrap .i64 (v.1.2.1*131))+(IntKind.wrap .i64 (List.getD v.1.1 (Int.toNat v.1.2.2.1) (zero (Ty.int IntKind.u8))))))+7)) 1073741823,(IntKind.wrap .i64 (v.1.2.2.1+1)),()),()))
 else
 none
 else
 some (((v.1.1,v.1.2.1,()),()))
 else
 some (((v.1.1,v.1.2.1,()),()))
theorem e2c (kl3 xl3 f v) :EBk (f8A kl3 xl3) d9d (a0B [0,3,4] [] 0 [0,3] [] (atS c3B f) (a5W c1z)) (mkS c3B v)=d5J f v:=by kernel_rfl
def e2d (v:b8C):Nat:=v.1.1.length+v.1.2.1.natAbs+v.1.2.2.1.natAbs+1000
def e2e (v:b8C):Option (c9B):=a1u (d5J) (e2d v) v
def c3C (v:b8C):Bool:=(e2e v).isSome
def c3D (v:b8C):c9B:=(e2e v).getD (([],(0,())),())
def r30 (kl3:b8C->Bool) (xl3:b8C->c9B) (x:I30.den):Option (O30.den):=
 let v0:=(IntKind.wrap .i64 (33211+(↑(List.length x.1.1):Int)))
 bif (kl3 ((x.1.1,v0,0,()),()))then
 let v2:=(xl3 ((x.1.1,v0,0,()),()))
 some ((((),()),(v2.1.1,0,v2.1.2),()))
 else
 none
theorem f9Q (kl3 xl3 x) :a1N (f8A kl3 xl3) (a0e Tryz.f30) I30 O30 x=r30 kl3 xl3 x:=by kernel_rfl
def F30 (x:I30.den):Option (O30.den):=r30 c3C c3D x
def K30 (x:I30.den):Bool:=(F30 x).isSome
def G30 (x:I30.den):O30.den:=(F30 x).getD (a1d O30)
theorem e6N:a0q Tryz.prog (30,a0n false I30 O30 K30 G30):=a1k (a0j mixed a0l a0k .nil) (a0O Tryz.func30 rfl rfl rfl (by kernel_rfl) (a0D (l:=[d9d]) (by kernel_rfl) (.cons (a0r rfl (a0y (sh:=c3B) (shX:=c1z) (fun f v=>e2c c3C c3D f v) e2d (([],(0,())),()))) (.nil)))) false fun x=>f9Q c3C c3D x
abbrev I82:Sg:=⟨[.ptr 0],[.box (a2O)]⟩
abbrev O82:Sg:=⟨[.val (.int .i64)],[.box (a2O)]⟩
noncomputable def f9R:Env:=a0t tab eqs [] 58 [.tmp 2] [] [] [] [] []
def r82 (x:I82.den):Option (O82.den):=
 bif (decide (x.2.1.2.1<(↑(List.length x.2.1.1):Int)))then
 bif (decide (0<=x.2.1.2.1)&&decide (x.2.1.2.1<(↑(List.length x.2.1.1):Int)))then
 let v1:=(IntKind.wrap .i64 ((IntKind.wrap .i64 (x.2.1.2.2.1*6364136223846793005))+1442695040888963407))
 some (((a2l BinOp.and IntKind.i64 (IntKind.wrap .i64 (a2l BinOp.and IntKind.i64 (a2l BinOp.xor IntKind.i64 (Int.fdiv v1 (2^min (Int.toNat 33) (IntKind.bits IntKind.i64))) (Int.fdiv v1 (2^min (Int.toNat 45) (IntKind.bits IntKind.i64)))) 255+(IntKind.wrap .i64 (List.getD x.2.1.1 (Int.toNat x.2.1.2.1) (zero (Ty.int IntKind.u8)))))) 255,()),(x.2.1.1,(IntKind.wrap .i64 (x.2.1.2.1+1)),v1,()),()))
 else
 none
 else
 let v1:=(IntKind.wrap .i64 ((IntKind.wrap .i64 (x.2.1.2.2.1*6364136223846793005))+1442695040888963407))
 some (((a2l BinOp.and IntKind.i64 (a2l BinOp.xor IntKind.i64 (Int.fdiv v1 (2^min (Int.toNat 33) (IntKind.bits IntKind.i64))) (Int.fdiv v1 (2^min (Int.toNat 45) (IntKind.bits IntKind.i64)))) 255,()),(x.2.1.1,x.2.1.2.1,v1,()),()))
theorem f9S (x) :a1N (f9R) (a0e Tryz.f82) I82 O82 x=r82 x:=by kernel_rfl
def F82 (x:I82.den):Option (O82.den):=r82 x
def K82 (x:I82.den):Bool:=(F82 x).isSome
def G82 (x:I82.den):O82.den:=(F82 x).getD (a1d O82)
theorem e6O:a0q Tryz.prog (82,a0n true I82 O82 K82 G82):=a1k (a0j mixed a0l a0k .nil) (a0O Tryz.func82 rfl rfl rfl (by kernel_rfl) (a0m (by kernel_rfl))) true fun x=>f9S x
abbrev I34:Sg:=⟨[.ptr 0,.val (.int .i64)],[.box (a2O)]⟩
abbrev O34:Sg:=⟨[.val (.int .i64)],[.box (a2O)]⟩
noncomputable def f9T (k82 g82) :=a0t tab eqs [(82,a0n true I82 O82 k82 g82)] 37 [.tmp 4] [] [] [] [] []
def r34 (k82:KI I82) (g82:GI I82 O82) (x:I34.den):Option (O34.den):=
 bif (decide (x.1.2.1<=0))then
 some (((0,()),x.2))
 else
 bif (decide (x.1.2.1<=256))then
 bif (k82 (((),()),x.2))then
 bif (x.1.2.1 != 0)then
 let v1:=(g82 (((),()),x.2))
 some (((Int.tmod v1.1.1 x.1.2.1,()),v1.2))
 else
 none
 else
 none
 else
 bif (k82 (((),()),x.2))then
 let v1:=(g82 (((),()),x.2))
 bif (k82 (((),()),v1.2))then
 let v3:=(g82 (((),()),v1.2))
 bif (k82 (((),()),v3.2))then
 let v5:=(g82 (((),()),v3.2))
 bif (k82 (((),()),v5.2))then
 bif (x.1.2.1 != 0)then
 let v12:=(g82 (((),()),v5.2))
 some (((Int.tmod (IntKind.wrap .i64 ((IntKind.wrap .i64 ((IntKind.wrap .i64 ((IntKind.wrap .i64 (v1.1.1*16777216))+(IntKind.wrap .i64 (v3.1.1*65536))))+(IntKind.wrap .i64 (v5.1.1*256))))+v12.1.1)) x.1.2.1,()),v12.2))
 else
 none
 else
 none
 else
 none
 else
 none
 else
 none
theorem f9U (k82 g82 x) :a1N (f9T k82 g82) (a0e Tryz.f34) I34 O34 x=r34 k82 g82 x:=by kernel_rfl
def F34 (x:I34.den):Option (O34.den):=r34 K82 G82 x
def K34 (x:I34.den):Bool:=(F34 x).isSome
def G34 (x:I34.den):O34.den:=(F34 x).getD (a1d O34)
theorem a4z:a0q Tryz.prog (34,a0n true I34 O34 K34 G34):=a1k (a0j mixed a0l a0k (.cons e6O .nil)) (a0O Tryz.func34 rfl rfl rfl (by kernel_rfl) (a0m (by kernel_rfl))) true fun x=>f9U K82 G82 x
abbrev I77:Sg:=⟨[.ptr 0,.val (.int .i64)],[.box (a2O)]⟩
abbrev O77:Sg:=⟨[.val (.bool)],[.box (a2O)]⟩
noncomputable def f9V (k34 g34) :=a0t tab eqs [(34,a0n true I34 O34 k34 g34)] 9 [.tmp 4] [] [] [] [] []
def r77 (k34:KI I34) (g34:GI I34 O34) (x:I77.den):Option (O77.den):=
 bif (k34 (((),x.1.2),x.2))then
 let v1:=(g34 (((),x.1.2),x.2))
 some (((v1.1.1==0,()),v1.2))
 else
 none
theorem f9W (k34 g34 x) :a1N (f9V k34 g34) (a0e Tryz.f77) I77 O77 x=r77 k34 g34 x:=by kernel_rfl
def F77 (x:I77.den):Option (O77.den):=r77 K34 G34 x
def K77 (x:I77.den):Bool:=(F77 x).isSome
def G77 (x:I77.den):O77.den:=(F77 x).getD (a1d O77)
theorem b1M:a0q Tryz.prog (77,a0n true I77 O77 K77 G77):=a1k (a0j mixed a0l a0k (.cons a4z .nil)) (a0O Tryz.func77 rfl rfl rfl (by kernel_rfl) (a0m (by kernel_rfl))) true fun x=>f9W K34 G34 x
abbrev b1N:Sg:=⟨[.ptr 0,.own (.str) 1],[.box (a2O),.arr (.str)]⟩
abbrev c6s:Sg:=⟨[.val (.str)],[.box (a2O),.arr (.str)]⟩
noncomputable def f3T (k34 g34) :=a0t tab eqs [(34,a0n true I34 O34 k34 g34)] 12 [.tmp 4] [] [] [] [] []
def f3U (k34:KI I34) (g34:GI I34 O34) (x:b1N.den):Option (c6s.den):=
 bif (k34 (((),(↑(List.length x.2.2.1):Int),()),x.2.1,()))then
 let v1:=(g34 (((),(↑(List.length x.2.2.1):Int),()),x.2.1,()))
 bif (decide (0<=v1.1.1)&&decide (v1.1.1<(↑(List.length x.2.2.1):Int)))then
 some ((((List.getD x.2.2.1 (Int.toNat v1.1.1) (zero Ty.str)),()),v1.2.1,x.2.2))
 else
 none
 else
 none
theorem f3V (k34 g34 x) :a1N (f3T k34 g34) (a0e Tryz.f131) b1N c6s x=f3U k34 g34 x:=by kernel_rfl
def f0M (x:b1N.den):Option (c6s.den):=f3U K34 G34 x
def c1A (x:b1N.den):Bool:=(f0M x).isSome
def b8D (x:b1N.den):c6s.den:=(f0M x).getD (a1d c6s)
theorem d9e:a0q Tryz.prog (131,a0n true b1N c6s c1A b8D):=a1k (a0j mixed a0l a0k (.cons a4z .nil)) (a0O Tryz.func131 rfl rfl rfl (by kernel_rfl) (a0m (by kernel_rfl))) true fun x=>f3V K34 G34 x
abbrev I73:Sg:=⟨[.ptr 0],[.box (a2O)]⟩
abbrev O73:Sg:=⟨[.val (S27)],[.box (a2O)]⟩
abbrev b4w:Type:=((Unit×(Unit×(Unit×(Int×Unit))))×(((List (Den (.int .u8)))×(Int×(Int×Unit)))×((Unit×(Unit×(Unit×Unit)))×((Unit×(Unit×(Unit×Unit)))×((List (Den (.int .i64)))×Unit)))))
def c3E:ShS:=⟨[(0,.one (.ptr 0 0)),(2,.one (.ptr 1 0)),(3,.one (.ptr 2 0)),(5,.one (.int .i64))],[(0,.box [.sl (.int .u8),.int .i64,.int .i64]),(1,.box [.nil (.flt .f32),.nil (.int .i64),.nil (.slice (.flt .f32))]),(2,.box [.nil (.flt .f32),.ref (.int .i64) 3,.nil (.slice (.flt .f32))]),(3,.arr (.int .i64))],4,1⟩
abbrev c9C:Type:=((Unit×(Unit×(Unit×Unit)))×(((List (Den (.int .u8)))×(Int×(Int×Unit)))×((Unit×(Unit×(Unit×Unit)))×((Unit×(Unit×(Unit×Unit)))×((List (Den (.int .i64)))×Unit)))))
def c1B:ShS:=⟨[(0,.one (.ptr 0 0)),(2,.one (.ptr 1 0)),(3,.one (.ptr 2 0))],[(0,.box [.sl (.int .u8),.int .i64,.int .i64]),(1,.box [.nil (.flt .f32),.nil (.int .i64),.nil (.slice (.flt .f32))]),(2,.box [.nil (.flt .f32),.ref (.int .i64) 3,.nil (.slice (.flt .f32))]),(3,.arr (.int .i64))],4,1⟩
abbrev a7s:Type:=((Unit×(Unit×(Unit×(Nat×(Int×Unit)))))×(((List (Den (.int .u8)))×(Int×(Int×Unit)))×((Unit×(Unit×(Unit×Unit)))×((Unit×(Unit×(Unit×Unit)))×((List (Den (.flt .f32)))×((List (Den (.int .i64)))×((List (Den (.slice (.flt .f32))))×Unit)))))))
def b4x:ShS:=⟨[(0,.one (.ptr 0 0)),(2,.one (.ptr 1 0)),(3,.one (.ptr 2 0)),(6,.one (.flt .f32)),(7,.one (.int .i64))],[(0,.box [.sl (.int .u8),.int .i64,.int .i64]),(1,.box [.nil (.flt .f32),.nil (.int .i64),.nil (.slice (.flt .f32))]),(2,.box [.ref (.flt .f32) 3,.ref (.int .i64) 4,.ref (.slice (.flt .f32)) 5]),(3,.arr (.flt .f32)),(4,.arr (.int .i64)),(5,.arr (.slice (.flt .f32)))],6,1⟩
abbrev b8E:Type:=((Unit×(Unit×Unit))×(((List (Den (.int .u8)))×(Int×(Int×Unit)))×((Unit×(Unit×(Unit×Unit)))×((Unit×(Unit×(Unit×Unit)))×((List (Den (.flt .f32)))×((List (Den (.int .i64)))×((List (Den (.slice (.flt .f32))))×Unit)))))))
def b4y:ShS:=⟨[(2,.one (.ptr 1 0)),(3,.one (.ptr 2 0))],[(0,.box [.sl (.int .u8),.int .i64,.int .i64]),(1,.box [.nil (.flt .f32),.nil (.int .i64),.nil (.slice (.flt .f32))]),(2,.box [.ref (.flt .f32) 3,.ref (.int .i64) 4,.ref (.slice (.flt .f32)) 5]),(3,.arr (.flt .f32)),(4,.arr (.int .i64)),(5,.arr (.slice (.flt .f32)))],6,1⟩
abbrev a5q:Type:=((Unit×(Unit×(Unit×(Nat×(Int×(Unit×(Int×Unit)))))))×(((List (Den (.int .u8)))×(Int×(Int×Unit)))×((Unit×(Unit×(Unit×Unit)))×((Unit×(Unit×(Unit×Unit)))×((List (Den (.flt .f32)))×((List (Den (.int .i64)))×((List (Den (.slice (.flt .f32))))×((List (Den (.flt .f32)))×Unit))))))))
def b4z:ShS:=⟨[(0,.one (.ptr 0 0)),(2,.one (.ptr 1 0)),(3,.one (.ptr 2 0)),(6,.one (.flt .f32)),(7,.one (.int .i64)),(8,.one (.ref (.flt .f32) 6)),(9,.one (.int .i64))],[(0,.box [.sl (.int .u8),.int .i64,.int .i64]),(1,.box [.nil (.flt .f32),.nil (.int .i64),.nil (.slice (.flt .f32))]),(2,.box [.ref (.flt .f32) 3,.ref (.int .i64) 4,.ref (.slice (.flt .f32)) 5]),(3,.arr (.flt .f32)),(4,.arr (.int .i64)),(5,.arr (.slice (.flt .f32))),(6,.arr (.flt .f32))],7,1⟩
abbrev b2u:Type:=((Unit×(Unit×(Unit×(Nat×(Int×(Unit×Unit))))))×(((List (Den (.int .u8)))×(Int×(Int×Unit)))×((Unit×(Unit×(Unit×Unit)))×((Unit×(Unit×(Unit×Unit)))×((List (Den (.flt .f32)))×((List (Den (.int .i64)))×((List (Den (.slice (.flt .f32))))×((List (Den (.flt .f32)))×Unit))))))))
def b4A:ShS:=⟨[(0,.one (.ptr 0 0)),(2,.one (.ptr 1 0)),(3,.one (.ptr 2 0)),(6,.one (.flt .f32)),(7,.one (.int .i64)),(8,.one (.ref (.flt .f32) 6))],[(0,.box [.sl (.int .u8),.int .i64,.int .i64]),(1,.box [.nil (.flt .f32),.nil (.int .i64),.nil (.slice (.flt .f32))]),(2,.box [.ref (.flt .f32) 3,.ref (.int .i64) 4,.ref (.slice (.flt .f32)) 5]),(3,.arr (.flt .f32)),(4,.arr (.int .i64)),(5,.arr (.slice (.flt .f32))),(6,.arr (.flt .f32))],7,1⟩
noncomputable def f0N (k34 g34 k77 g77 kl6 xl6 kl12 xl12 kl17 xl17) :=a0t tab eqs [(34,a0n true I34 O34 k34 g34),(77,a0n true I77 O77 k77 g77)] 110 [.cell 2 28] [] [] [(6,a1X [0,2,3,5] [] 0 [0,2,3] [] c3E c1B kl6 xl6),(12,a1X [0,2,3,6,7] [.boxNil 3 0,.boxNil 3 2] 2 [2,3] [] b4x b4y kl12 xl12),(17,a1X [0,2,3,6,7,8,9] [] 4 [0,2,3,6,7,8] [] b4z b4A kl17 xl17)] [] [.frzBox 2]
noncomputable def d9f:Code:=(a0u (a0e Tryz.f73)).getD 0 .skip
noncomputable def c9D:Code:=(a0u (a0e Tryz.f73)).getD 1 .skip
noncomputable def c9E:Code:=(a0u (a0e Tryz.f73)).getD 2 .skip
def c3F (k34:KI I34) (g34:GI I34 O34) (k77:KI I77) (g77:GI I77 O77) (f:a5q->Option (b2u)) (v:a5q):Option (b2u):=
 bif (decide (v.1.2.2.2.2.2.2.1<(↑(List.length v.2.2.2.2.2.1):Int)))then
 bif (k34 (((),57,()),v.2.1,()))then
 bif (v.1.2.2.2.2.2.2.1==0)then
 let v1:=(g34 (((),57,()),v.2.1,()))
 bif (k77 (((),8,()),v1.2))then
 let v3:=(g77 (((),8,()),v1.2))
 bif (!v3.1.1)then
 bif (fgt .f32 v.1.2.2.2.1 1084227584)then
 bif (k34 (((),40,()),v3.2))then
 let v5:=(g34 (((),40,()),v3.2))
 let v8:=(List.set (List.replicate 1 (zero (Ty.flt .f32))) 0 (a0i .add .f32 0 (a0i .quo .f32 (FloatKind.nearest .f32 v5.1.1) 1098907648)))
 bif (a0F (List.length v.2.2.2.2.2.2.2.1+List.length v8))then
 f ((((),(),(),v.1.2.2.2.1,v.1.2.2.2.2.1,(),(IntKind.wrap .i64 (v.1.2.2.2.2.2.2.1+1)),()),v5.2.1,((),(),(),()),((),(),(),()),v.2.2.2.2.1,v.2.2.2.2.2.1,v.2.2.2.2.2.2.1,(v.2.2.2.2.2.2.2.1++v8),()))
 else
 none
 else
 none
 else
 let v4:=(List.set (List.replicate 1 (zero (Ty.flt .f32))) 0 0)
 bif (a0F (List.length v.2.2.2.2.2.2.2.1+List.length v4))then
 f ((((),(),(),v.1.2.2.2.1,v.1.2.2.2.2.1,(),(IntKind.wrap .i64 (v.1.2.2.2.2.2.2.1+1)),()),v3.2.1,((),(),(),()),((),(),(),()),v.2.2.2.2.1,v.2.2.2.2.2.1,v.2.2.2.2.2.2.1,(v.2.2.2.2.2.2.2.1++v4),()))
 else
 none
 else
 bif (fgt .f32 v.1.2.2.2.1 1084227584)then
 bif (k34 (((),40,()),v3.2))then
 let v7:=(g34 (((),40,()),v3.2))
 let v10:=(List.set (List.replicate 1 (zero (Ty.flt .f32))) 0 (a0i .add .f32 (a0i .quo .f32 (FloatKind.nearest .f32 (IntKind.wrap .i64 (8+v1.1.1))) 1098907648) (a0i .quo .f32 (FloatKind.nearest .f32 v7.1.1) 1098907648)))
 bif (a0F (List.length v.2.2.2.2.2.2.2.1+List.length v10))then
 f ((((),(),(),v.1.2.2.2.1,v.1.2.2.2.2.1,(),(IntKind.wrap .i64 (v.1.2.2.2.2.2.2.1+1)),()),v7.2.1,((),(),(),()),((),(),(),()),v.2.2.2.2.1,v.2.2.2.2.2.1,v.2.2.2.2.2.2.1,(v.2.2.2.2.2.2.2.1++v10),()))
 else
 none
 else
 none
 else
 let v6:=(List.set (List.replicate 1 (zero (Ty.flt .f32))) 0 (a0i .quo .f32 (FloatKind.nearest .f32 (IntKind.wrap .i64 (8+v1.1.1))) 1098907648))
 bif (a0F (List.length v.2.2.2.2.2.2.2.1+List.length v6))then
 f ((((),(),(),v.1.2.2.2.1,v.1.2.2.2.2.1,(),(IntKind.wrap .i64 (v.1.2.2.2.2.2.2.1+1)),()),v3.2.1,((),(),(),()),((),(),(),()),v.2.2.2.2.1,v.2.2.2.2.2.1,v.2.2.2.2.2.2.1,(v.2.2.2.2.2.2.2.1++v6),()))
 else
 none
 else
 none
 else
 bif (fgt .f32 v.1.2.2.2.1 1084227584)then
 let v1:=(g34 (((),57,()),v.2.1,()))
 bif (k34 (((),40,()),v1.2))then
 let v5:=(g34 (((),40,()),v1.2))
 let v8:=(List.set (List.replicate 1 (zero (Ty.flt .f32))) 0 (a0i .add .f32 (a0i .quo .f32 (FloatKind.nearest .f32 (IntKind.wrap .i64 (8+v1.1.1))) 1098907648) (a0i .quo .f32 (FloatKind.nearest .f32 v5.1.1) 1098907648)))
 bif (a0F (List.length v.2.2.2.2.2.2.2.1+List.length v8))then
 f ((((),(),(),v.1.2.2.2.1,v.1.2.2.2.2.1,(),(IntKind.wrap .i64 (v.1.2.2.2.2.2.2.1+1)),()),v5.2.1,((),(),(),()),((),(),(),()),v.2.2.2.2.1,v.2.2.2.2.2.1,v.2.2.2.2.2.2.1,(v.2.2.2.2.2.2.2.1++v8),()))
 else
 none
 else
 none
 else
 let v1:=(g34 (((),57,()),v.2.1,()))
 let v4:=(List.set (List.replicate 1 (zero (Ty.flt .f32))) 0 (a0i .quo .f32 (FloatKind.nearest .f32 (IntKind.wrap .i64 (8+v1.1.1))) 1098907648))
 bif (a0F (List.length v.2.2.2.2.2.2.2.1+List.length v4))then
 f ((((),(),(),v.1.2.2.2.1,v.1.2.2.2.2.1,(),(IntKind.wrap .i64 (v.1.2.2.2.2.2.2.1+1)),()),v1.2.1,((),(),(),()),((),(),(),()),v.2.2.2.2.1,v.2.2.2.2.2.1,v.2.2.2.2.2.2.1,(v.2.2.2.2.2.2.2.1++v4),()))
 else
 none
 else
 none
 else
 some ((((),(),(),v.1.2.2.2.1,v.1.2.2.2.2.1,(),()),v.2.1,((),(),(),()),((),(),(),()),v.2.2.2.2))
theorem d5K (k34 g34 k77 g77 kl6 xl6 kl12 xl12 kl17 xl17 f v) :EBk (f0N k34 g34 k77 g77 kl6 xl6 kl12 xl12 kl17 xl17) c9E (a0B [0,2,3,6,7,8,9] [] 4 [0,2,3,6,7,8] [] (atS b4z f) (a5W b4A)) (mkS b4z v)=c3F k34 g34 k77 g77 f v:=by kernel_rfl
def c9F (v:a5q):Nat:=v.1.2.2.2.2.1.natAbs+v.1.2.2.2.2.2.2.1.natAbs+v.2.1.1.length+v.2.1.2.1.natAbs+v.2.1.2.2.1.natAbs+v.2.2.2.2.1.length+v.2.2.2.2.2.1.length+v.2.2.2.2.2.2.1.length+v.2.2.2.2.2.2.2.1.length+1000
def c3G (v:a5q):Option (b2u):=a1u (c3F K34 G34 K77 G77) (c9F v) v
def a6D (v:a5q):Bool:=(c3G v).isSome
def a2r (v:a5q):b2u:=(c3G v).getD (((),((),((),(0,(0,((),())))))),(([],(0,(0,()))),(((),((),((),()))),(((),((),((),()))),([],([],([],([],()))))))))
def c3H (k34:KI I34) (g34:GI I34 O34) (k77:KI I77) (g77:GI I77 O77) (kl17:a5q->Bool) (xl17:a5q->b2u) (f:a7s->Option (b8E)) (v:a7s):Option (b8E):=
 bif (decide (v.1.2.2.2.2.1>0))then
 let w1:=(zero (Ty.flt .f32))
 let v0:=(List.set (List.replicate 1 w1) 0 v.1.2.2.2.1)
 bif (a0F (List.length v.2.2.2.2.1+List.length v0))then
 let v1:=(v.2.2.2.2.1++v0)
 let w0:=(((),(),(),v.1.2.2.2.1,v.1.2.2.2.2.1,(),0,()),v.2.1,((),(),(),()),((),(),(),()),v1,v.2.2.2.2.2.1,v.2.2.2.2.2.2.1,List.replicate 0 w1,())
 bif (kl17 w0)then
 let v3:=(xl17 w0)
 let v4:=(List.set (List.replicate 1 (zero (Ty.slice (Ty.flt .f32)))) 0 v3.2.2.2.2.2.2.2.1)
 bif (a0F (List.length v3.2.2.2.2.2.2.1+List.length v4))then
 bif (k34 (((),40,()),v3.2.1,()))then
 let v6:=(g34 (((),40,()),v3.2.1,()))
 f ((((),(),(),(a0i .add .f32 v3.1.2.2.2.1 (a0i .quo .f32 (FloatKind.nearest .f32 (IntKind.wrap .i64 (1+v6.1.1))) 1090519040)),(IntKind.wrap .i64 (v3.1.2.2.2.2.1-1)),()),v6.2.1,((),(),(),()),((),(),(),()),v3.2.2.2.2.1,v3.2.2.2.2.2.1,(v3.2.2.2.2.2.2.1++v4),()))
 else
 none
 else
 none
 else
 none
 else
 none
 else
 some ((((),(),()),v.2.1,((),(),(),()),((),(),(),()),v.2.2.2.2))
theorem d5L (k34 g34 k77 g77 kl6 xl6 kl12 xl12 kl17 xl17 f v) :EBk (f0N k34 g34 k77 g77 kl6 xl6 kl12 xl12 kl17 xl17) c9D (a0B [0,2,3,6,7] [.boxNil 3 0,.boxNil 3 2] 2 [2,3] [] (atS b4x f) (a5W b4y)) (mkS b4x v)=c3H k34 g34 k77 g77 kl17 xl17 f v:=by kernel_rfl
def c9G (v:a7s):Nat:=v.1.2.2.2.2.1.natAbs+v.2.1.1.length+v.2.1.2.1.natAbs+v.2.1.2.2.1.natAbs+v.2.2.2.2.1.length+v.2.2.2.2.2.1.length+v.2.2.2.2.2.2.1.length+1000
def c3I (v:a7s):Option (b8E):=a1u (c3H K34 G34 K77 G77 a6D a2r) (c9G v) v
def a8k (v:a7s):Bool:=(c3I v).isSome
def a3q (v:a7s):b8E:=(c3I v).getD (((),((),())),(([],(0,(0,()))),(((),((),((),()))),(((),((),((),()))),([],([],([],())))))))
def d5M (k34:KI I34) (g34:GI I34 O34) (k77:KI I77) (g77:GI I77 O77) (f:b4w->Option (c9C)) (v:b4w):Option (c9C):=
 bif (decide (v.1.2.2.2.1>0))then
 bif (decide (v.1.2.2.2.1<180))then
 bif (decide ((↑(List.length v.2.2.2.2.1):Int)<20))then
 let v0:=(List.set (List.replicate 1 (zero (Ty.int IntKind.i64))) 0 v.1.2.2.2.1)
 bif (a0F (List.length v.2.2.2.2.1+List.length v0))then
 bif (k34 (((),50,()),v.2.1,()))then
 let v3:=(g34 (((),50,()),v.2.1,()))
 f ((((),(),(),(IntKind.wrap .i64 ((IntKind.wrap .i64 (v.1.2.2.2.1+5))+v3.1.1)),()),v3.2.1,((),(),(),()),((),(),(),()),(v.2.2.2.2.1++v0),()))
 else
 none
 else
 none
 else
 some ((((),(),(),()),v.2.1,((),(),(),()),((),(),(),()),v.2.2.2.2))
 else
 some ((((),(),(),()),v.2.1,((),(),(),()),((),(),(),()),v.2.2.2.2))
 else
 some ((((),(),(),()),v.2.1,((),(),(),()),((),(),(),()),v.2.2.2.2))
theorem e2f (k34 g34 k77 g77 kl6 xl6 kl12 xl12 kl17 xl17 f v) :EBk (f0N k34 g34 k77 g77 kl6 xl6 kl12 xl12 kl17 xl17) d9f (a0B [0,2,3,5] [] 0 [0,2,3] [] (atS c3E f) (a5W c1B)) (mkS c3E v)=d5M k34 g34 k77 g77 f v:=by kernel_rfl
def e2g (v:b4w):Nat:=v.1.2.2.2.1.natAbs+v.2.1.1.length+v.2.1.2.1.natAbs+v.2.1.2.2.1.natAbs+v.2.2.2.2.1.length+1000
def d5N (v:b4w):Option (c9C):=a1u (d5M K34 G34 K77 G77) (e2g v) v
def b2v (v:b4w):Bool:=(d5N v).isSome
def a6l (v:b4w):c9C:=(d5N v).getD (((),((),((),()))),(([],(0,(0,()))),(((),((),((),()))),(((),((),((),()))),([],())))))
def r73 (k34:KI I34) (g34:GI I34 O34) (k77:KI I77) (g77:GI I77 O77) (kl6:b4w->Bool) (xl6:b4w->c9C) (kl12:a7s->Bool) (xl12:a7s->b8E) (kl17:a5q->Bool) (xl17:a5q->b2u) (x:I73.den):Option (O73.den):=
 bif (k34 (((),25,()),x.2))then
 let v1:=(g34 (((),25,()),x.2))
 bif (k77 (((),6,()),v1.2))then
 let v3:=(g77 (((),6,()),v1.2))
 bif v3.1.1 then
 let w4:=(List.replicate 1 (zero (Ty.int IntKind.i64)))
 let v4:=(List.set w4 0 0)
 let w3:=(((),(),(),0,()),v3.2.1,((),(),(),()),((),(),(),()),v4,())
 bif (kl6 w3)then
 let v6:=(xl6 w3)
 let v7:=(List.set w4 0 180)
 bif (a0F (List.length v6.2.2.2.2.1+List.length v7))then
 bif (k34 (((),4,()),v6.2.1,()))then
 let v9:=(g34 (((),4,()),v6.2.1,()))
 bif (k34 (((),4,()),v9.2))then
 let v11:=(IntKind.wrap .i64 (1+v9.1.1))
 let v12:=(g34 (((),4,()),v9.2))
 let v13:=(IntKind.wrap .i64 (1+v12.1.1))
 let v14:=(v6.2.2.2.2.1++v7)
 let w0:=(((),(),(),FloatKind.nearest .f32 v11,v13,()),v12.2.1,((),(),(),()),((),(),(),()),[],v14,[],())
 bif (kl12 w0)then
 let v16:=(xl12 w0)
 some (((v16.2.2.2.2,()),v16.2.1,()))
 else
 none
 else
 none
 else
 none
 else
 none
 else
 none
 else
 let v4:=(IntKind.wrap .i64 (20+v1.1.1))
 let w5:=(List.replicate 1 (zero (Ty.int IntKind.i64)))
 let v5:=(List.set w5 0 0)
 let w2:=(((),(),(),v4,()),v3.2.1,((),(),(),()),((),(),(),()),v5,())
 bif (kl6 w2)then
 let v7:=(xl6 w2)
 let v8:=(List.set w5 0 180)
 bif (a0F (List.length v7.2.2.2.2.1+List.length v8))then
 bif (k34 (((),4,()),v7.2.1,()))then
 let v10:=(g34 (((),4,()),v7.2.1,()))
 bif (k34 (((),4,()),v10.2))then
 let v12:=(IntKind.wrap .i64 (1+v10.1.1))
 let v13:=(g34 (((),4,()),v10.2))
 let v14:=(IntKind.wrap .i64 (1+v13.1.1))
 let v15:=(v7.2.2.2.2.1++v8)
 let w1:=(((),(),(),FloatKind.nearest .f32 v12,v14,()),v13.2.1,((),(),(),()),((),(),(),()),[],v15,[],())
 bif (kl12 w1)then
 let v17:=(xl12 w1)
 some (((v17.2.2.2.2,()),v17.2.1,()))
 else
 none
 else
 none
 else
 none
 else
 none
 else
 none
 else
 none
 else
 none
theorem f9X (k34 g34 k77 g77 kl6 xl6 kl12 xl12 kl17 xl17 x) :a1N (f0N k34 g34 k77 g77 kl6 xl6 kl12 xl12 kl17 xl17) (a0e Tryz.f73) I73 O73 x=r73 k34 g34 k77 g77 kl6 xl6 kl12 xl12 kl17 xl17 x:=by kernel_rfl
def F73 (x:I73.den):Option (O73.den):=r73 K34 G34 K77 G77 b2v a6l a8k a3q a6D a2r x
def K73 (x:I73.den):Bool:=(F73 x).isSome
def G73 (x:I73.den):O73.den:=(F73 x).getD (a1d O73)
theorem f3W:a0q Tryz.prog (73,a0n true I73 O73 K73 G73):=a1k (a0j mixed a0l a0k (.cons a4z (.cons b1M .nil))) (a0O Tryz.func73 rfl rfl rfl (by kernel_rfl) (a0D (l:=[d9f,c9D,c9E]) (by kernel_rfl) (.cons (a0r rfl (a0y (sh:=c3E) (shX:=c1B) (fun f v=>e2f K34 G34 K77 G77 b2v a6l a8k a3q a6D a2r f v) e2g (((),((),((),()))),(([],(0,(0,()))),(((),((),((),()))),(((),((),((),()))),([],()))))))) (.cons (a0r rfl (a0y (sh:=b4x) (shX:=b4y) (fun f v=>d5L K34 G34 K77 G77 b2v a6l a8k a3q a6D a2r f v) c9G (((),((),())),(([],(0,(0,()))),(((),((),((),()))),(((),((),((),()))),([],([],([],()))))))))) (.cons (a0r rfl (a0y (sh:=b4z) (shX:=b4A) (fun f v=>d5K K34 G34 K77 G77 b2v a6l a8k a3q a6D a2r f v) c9F (((),((),((),(0,(0,((),())))))),(([],(0,(0,()))),(((),((),((),()))),(((),((),((),()))),([],([],([],([],())))))))))) (.nil)))))) true fun x=>f9X K34 G34 K77 G77 b2v a6l a8k a3q a6D a2r x
abbrev I74:Sg:=⟨[.ptr 0],[.box (a2O)]⟩
abbrev O74:Sg:=⟨[.mix [.ref (a0S) 1,.ref (.int .i64) 2]],[.box (a2O),.arr (a0S),.arr (.int .i64)]⟩
abbrev b4B:Type:=((Unit×(Unit×(Unit×(Int×Unit))))×(((List (Den (.int .u8)))×(Int×(Int×Unit)))×((Unit×(Unit×Unit))×((Unit×(Unit×Unit))×((List (Den (a0S)))×Unit)))))
def c3J:ShS:=⟨[(0,.one (.ptr 0 0)),(2,.one (.ptr 1 0)),(3,.one (.ptr 2 0)),(4,.one (.int .i64))],[(0,.box [.sl (.int .u8),.int .i64,.int .i64]),(1,.box [.nil (a0S),.nil (.int .i64)]),(2,.box [.ref (a0S) 3,.nil (.int .i64)]),(3,.arr (a0S))],4,1⟩
abbrev c9H:Type:=((Unit×(Unit×(Unit×Unit)))×(((List (Den (.int .u8)))×(Int×(Int×Unit)))×((Unit×(Unit×Unit))×((Unit×(Unit×Unit))×((List (Den (a0S)))×Unit)))))
def c1C:ShS:=⟨[(0,.one (.ptr 0 0)),(2,.one (.ptr 1 0)),(3,.one (.ptr 2 0))],[(0,.box [.sl (.int .u8),.int .i64,.int .i64]),(1,.box [.nil (a0S),.nil (.int .i64)]),(2,.box [.ref (a0S) 3,.nil (.int .i64)]),(3,.arr (a0S))],4,1⟩
abbrev b0K:Type:=((Unit×(Unit×(Unit×(Int×(Unit×(Int×Unit))))))×(((List (Den (.int .u8)))×(Int×(Int×Unit)))×((Unit×(Unit×Unit))×((Unit×(Unit×Unit))×((List (Den (a0S)))×(((Nat×Nat)×((Nat×Nat)×((Nat×Nat)×((Nat×Nat)×((Nat×Nat)×((Nat×Nat)×((Nat×Nat)×((Nat×Nat)×((Nat×Nat)×((Nat×Nat)×((Nat×Nat)×((Nat×Nat)×((Nat×Nat)×((Nat×Nat)×Unit))))))))))))))×Unit))))))
def c3K:ShS:=⟨[(0,.one (.ptr 0 0)),(2,.one (.ptr 1 0)),(3,.one (.ptr 2 0)),(4,.one (.int .i64)),(6,.one (.ptr 4 0)),(7,.one (.int .i64))],[(0,.box [.sl (.int .u8),.int .i64,.int .i64]),(1,.box [.nil (a0S),.nil (.int .i64)]),(2,.box [.ref (a0S) 3,.nil (.int .i64)]),(3,.arr (a0S)),(4,.box [.cpx .f64,.cpx .f32,.cpx .f32,.cpx .f32,.cpx .f32,.cpx .f32,.cpx .f32,.cpx .f32,.cpx .f32,.cpx .f32,.cpx .f32,.cpx .f32,.cpx .f32,.cpx .f32])],5,1⟩
abbrev c6t:Type:=((Unit×(Unit×(Unit×(Int×(Unit×Unit)))))×(((List (Den (.int .u8)))×(Int×(Int×Unit)))×((Unit×(Unit×Unit))×((Unit×(Unit×Unit))×((List (Den (a0S)))×(((Nat×Nat)×((Nat×Nat)×((Nat×Nat)×((Nat×Nat)×((Nat×Nat)×((Nat×Nat)×((Nat×Nat)×((Nat×Nat)×((Nat×Nat)×((Nat×Nat)×((Nat×Nat)×((Nat×Nat)×((Nat×Nat)×((Nat×Nat)×Unit))))))))))))))×Unit))))))
def c1D:ShS:=⟨[(0,.one (.ptr 0 0)),(2,.one (.ptr 1 0)),(3,.one (.ptr 2 0)),(4,.one (.int .i64)),(6,.one (.ptr 4 0))],[(0,.box [.sl (.int .u8),.int .i64,.int .i64]),(1,.box [.nil (a0S),.nil (.int .i64)]),(2,.box [.ref (a0S) 3,.nil (.int .i64)]),(3,.arr (a0S)),(4,.box [.cpx .f64,.cpx .f32,.cpx .f32,.cpx .f32,.cpx .f32,.cpx .f32,.cpx .f32,.cpx .f32,.cpx .f32,.cpx .f32,.cpx .f32,.cpx .f32,.cpx .f32,.cpx .f32])],5,1⟩
abbrev a7t:Type:=((Unit×(Unit×(Unit×(Int×(Int×Unit)))))×(((List (Den (.int .u8)))×(Int×(Int×Unit)))×((Unit×(Unit×Unit))×((Unit×(Unit×Unit))×((List (Den (a0S)))×((List (Den (.int .i64)))×Unit))))))
def b4C:ShS:=⟨[(0,.one (.ptr 0 0)),(2,.one (.ptr 1 0)),(3,.one (.ptr 2 0)),(9,.one (.int .i64)),(10,.one (.int .i64))],[(0,.box [.sl (.int .u8),.int .i64,.int .i64]),(1,.box [.nil (a0S),.nil (.int .i64)]),(2,.box [.ref (a0S) 3,.ref (.int .i64) 4]),(3,.arr (a0S)),(4,.arr (.int .i64))],5,1⟩
abbrev b8F:Type:=((Unit×(Unit×Unit))×(((List (Den (.int .u8)))×(Int×(Int×Unit)))×((Unit×(Unit×Unit))×((Unit×(Unit×Unit))×((List (Den (a0S)))×((List (Den (.int .i64)))×Unit))))))
def b4D:ShS:=⟨[(2,.one (.ptr 1 0)),(3,.one (.ptr 2 0))],[(0,.box [.sl (.int .u8),.int .i64,.int .i64]),(1,.box [.nil (a0S),.nil (.int .i64)]),(2,.box [.ref (a0S) 3,.ref (.int .i64) 4]),(3,.arr (a0S)),(4,.arr (.int .i64))],5,1⟩
noncomputable def f0O (k34 g34 k77 g77 kl3 xl3 kl8 xl8 kl17 xl17) :=a0t tab eqs [(34,a0n true I34 O34 k34 g34),(77,a0n true I77 O77 k77 g77)] 83 [.cell 2 31] [] [] [(3,a1X [0,2,3,4] [.boxNil 3 0] 0 [0,2,3] [] c3J c1C kl3 xl3),(8,a1X [0,2,3,4,6,7] [] 2 [0,2,3,4,6] [] c3K c1D kl8 xl8),(17,a1X [0,2,3,9,10] [.boxNil 3 1] 4 [2,3] [] b4C b4D kl17 xl17)] [] []
noncomputable def d9g:Code:=(a0u (a0e Tryz.f74)).getD 0 .skip
noncomputable def d9h:Code:=(a0u (a0e Tryz.f74)).getD 1 .skip
noncomputable def c9I:Code:=(a0u (a0e Tryz.f74)).getD 2 .skip
def c3L (k34:KI I34) (g34:GI I34 O34) (k77:KI I77) (g77:GI I77 O77) (f:a7t->Option (b8F)) (v:a7t):Option (b8F):=
 bif (decide (v.1.2.2.2.2.1>0))then
 let v0:=(List.set (List.replicate 1 (zero (Ty.int IntKind.i64))) 0 v.1.2.2.2.1)
 bif (a0F (List.length v.2.2.2.2.2.1+List.length v0))then
 bif (k34 (((),3,()),v.2.1,()))then
 let v2:=(g34 (((),3,()),v.2.1,()))
 bif (k34 (((),20000,()),v2.2))then
 let v5:=(g34 (((),20000,()),v2.2))
 f ((((),(),(),(IntKind.wrap .i64 ((IntKind.wrap .i64 (v.1.2.2.2.1+21600))+(IntKind.wrap .i64 (v2.1.1*v5.1.1)))),(IntKind.wrap .i64 (v.1.2.2.2.2.1-1)),()),v5.2.1,((),(),()),((),(),()),v.2.2.2.2.1,(v.2.2.2.2.2.1++v0),()))
 else
 none
 else
 none
 else
 none
 else
 some ((((),(),()),v.2.1,((),(),()),((),(),()),v.2.2.2.2))
theorem d5O (k34 g34 k77 g77 kl3 xl3 kl8 xl8 kl17 xl17 f v) :EBk (f0O k34 g34 k77 g77 kl3 xl3 kl8 xl8 kl17 xl17) c9I (a0B [0,2,3,9,10] [.boxNil 3 1] 4 [2,3] [] (atS b4C f) (a5W b4D)) (mkS b4C v)=c3L k34 g34 k77 g77 f v:=by kernel_rfl
def c9J (v:a7t):Nat:=v.1.2.2.2.1.natAbs+v.1.2.2.2.2.1.natAbs+v.2.1.1.length+v.2.1.2.1.natAbs+v.2.1.2.2.1.natAbs+v.2.2.2.2.1.length+v.2.2.2.2.2.1.length+1000
def c9K (v:a7t):Option (b8F):=a1u (c3L K34 G34 K77 G77) (c9J v) v
def a6E (v:a7t):Bool:=(c9K v).isSome
def a6F (v:a7t):b8F:=(c9K v).getD (((),((),())),(([],(0,(0,()))),(((),((),())),(((),((),())),([],([],()))))))
def d5P (k34:KI I34) (g34:GI I34 O34) (k77:KI I77) (g77:GI I77 O77) (f:b0K->Option (c6t)) (v:b0K):Option (c6t):=
 bif (decide (v.1.2.2.2.2.2.1<13))then
 bif (k34 (((),33,()),v.2.1,()))then
 let v1:=(g34 (((),33,()),v.2.1,()))
 bif (k34 (((),33,()),v1.2))then
 bif (decide (0<=v.1.2.2.2.2.2.1)&&decide (v.1.2.2.2.2.2.1<(↑13:Int)))then
 let v4:=(g34 (((),33,()),v1.2))
 let v6:=(a0i .quo .f32 (FloatKind.nearest .f32 (IntKind.wrap .i64 (v1.1.1-16))) 1098907648)
 let v8:=(a0i .quo .f32 (FloatKind.nearest .f32 (IntKind.wrap .i64 (v4.1.1-16))) 1098907648)
 let w0:=(Int.toNat v.1.2.2.2.2.2.1)
 let w1:=(0+1+1+1+1+1+1+1+1+1+1+1+1)
 let w2:=(0+1+1+1+1+1+1+1+1+1+1+1)
 let w3:=(0+1+1+1+1+1+1+1+1+1+1)
 let w4:=(0+1+1+1+1+1+1+1+1+1)
 let w5:=(0+1+1+1+1+1+1+1+1)
 let w6:=(0+1+1+1+1+1+1+1)
 let w7:=(0+1+1+1+1+1+1)
 f ((((),(),(),v.1.2.2.2.1,(),(IntKind.wrap .i64 (v.1.2.2.2.2.2.1+1)),()),v4.2.1,((),(),()),((),(),()),v.2.2.2.2.1,(v.2.2.2.2.2.1.1,(bif Nat.beq 0 w0 then v6 else v.2.2.2.2.2.1.2.1.1,bif Nat.beq 0 w0 then v8 else v.2.2.2.2.2.1.2.1.2),(bif Nat.beq (0+1) w0 then v6 else v.2.2.2.2.2.1.2.2.1.1,bif Nat.beq (0+1) w0 then v8 else v.2.2.2.2.2.1.2.2.1.2),(bif Nat.beq (0+1+1) w0 then v6 else v.2.2.2.2.2.1.2.2.2.1.1,bif Nat.beq (0+1+1) w0 then v8 else v.2.2.2.2.2.1.2.2.2.1.2),(bif Nat.beq (0+1+1+1) w0 then v6 else v.2.2.2.2.2.1.2.2.2.2.1.1,bif Nat.beq (0+1+1+1) w0 then v8 else v.2.2.2.2.2.1.2.2.2.2.1.2),(bif Nat.beq (0+1+1+1+1) w0 then v6 else v.2.2.2.2.2.1.2.2.2.2.2.1.1,bif Nat.beq (0+1+1+1+1) w0 then v8 else v.2.2.2.2.2.1.2.2.2.2.2.1.2),(bif Nat.beq (0+1+1+1+1+1) w0 then v6 else v.2.2.2.2.2.1.2.2.2.2.2.2.1.1,bif Nat.beq (0+1+1+1+1+1) w0 then v8 else v.2.2.2.2.2.1.2.2.2.2.2.2.1.2),(bif Nat.beq w7 w0 then v6 else v.2.2.2.2.2.1.2.2.2.2.2.2.2.1.1,bif Nat.beq w7 w0 then v8 else v.2.2.2.2.2.1.2.2.2.2.2.2.2.1.2),(bif Nat.beq w6 w0 then v6 else v.2.2.2.2.2.1.2.2.2.2.2.2.2.2.1.1,bif Nat.beq w6 w0 then v8 else v.2.2.2.2.2.1.2.2.2.2.2.2.2.2.1.2),(bif Nat.beq w5 w0 then v6 else v.2.2.2.2.2.1.2.2.2.2.2.2.2.2.2.1.1,bif Nat.beq w5 w0 then v8 else v.2.2.2.2.2.1.2.2.2.2.2.2.2.2.2.1.2),(bif Nat.beq w4 w0 then v6 else v.2.2.2.2.2.1.2.2.2.2.2.2.2.2.2.2.1.1,bif Nat.beq w4 w0 then v8 else v.2.2.2.2.2.1.2.2.2.2.2.2.2.2.2.2.1.2),(bif Nat.beq w3 w0 then v6 else v.2.2.2.2.2.1.2.2.2.2.2.2.2.2.2.2.2.1.1,bif Nat.beq w3 w0 then v8 else v.2.2.2.2.2.1.2.2.2.2.2.2.2.2.2.2.2.1.2),(bif Nat.beq w2 w0 then v6 else v.2.2.2.2.2.1.2.2.2.2.2.2.2.2.2.2.2.2.1.1,bif Nat.beq w2 w0 then v8 else v.2.2.2.2.2.1.2.2.2.2.2.2.2.2.2.2.2.2.1.2),(bif Nat.beq w1 w0 then v6 else v.2.2.2.2.2.1.2.2.2.2.2.2.2.2.2.2.2.2.2.1.1,bif Nat.beq w1 w0 then v8 else v.2.2.2.2.2.1.2.2.2.2.2.2.2.2.2.2.2.2.2.1.2),()),()))
 else
 none
 else
 none
 else
 none
 else
 some ((((),(),(),v.1.2.2.2.1,(),()),v.2.1,((),(),()),((),(),()),v.2.2.2.2))
theorem e2h (k34 g34 k77 g77 kl3 xl3 kl8 xl8 kl17 xl17 f v) :EBk (f0O k34 g34 k77 g77 kl3 xl3 kl8 xl8 kl17 xl17) d9h (a0B [0,2,3,4,6,7] [] 2 [0,2,3,4,6] [] (atS c3K f) (a5W c1D)) (mkS c3K v)=d5P k34 g34 k77 g77 f v:=by kernel_rfl
def e6P (v:b0K):Nat:=v.1.2.2.2.1.natAbs+v.1.2.2.2.2.2.1.natAbs+v.2.1.1.length+v.2.1.2.1.natAbs+v.2.1.2.2.1.natAbs+v.2.2.2.2.1.length+1000
def e2i (v:b0K):Option (c6t):=a1u (d5P K34 G34 K77 G77) (e6P v) v
def a7u (v:b0K):Bool:=(e2i v).isSome
def a7v (v:b0K):c6t:=(e2i v).getD (((),((),((),(0,((),()))))),(([],(0,(0,()))),(((),((),())),(((),((),())),([],(((0,0),((0,0),((0,0),((0,0),((0,0),((0,0),((0,0),((0,0),((0,0),((0,0),((0,0),((0,0),((0,0),((0,0),())))))))))))))),()))))))
def d5Q (k34:KI I34) (g34:GI I34 O34) (k77:KI I77) (g77:GI I77 O77) (kl8:b0K->Bool) (xl8:b0K->c6t) (f:b4B->Option (c9H)) (v:b4B):Option (c9H):=
 bif (decide (v.1.2.2.2.1>0))then
 bif (k34 (((),8001,()),v.2.1,()))then
 let v1:=(g34 (((),8001,()),v.2.1,()))
 bif (k34 (((),8001,()),v1.2))then
 let v3:=(g34 (((),8001,()),v1.2))
 let v4:=(IntKind.wrap .i64 (v1.1.1-4000))
 let v5:=(IntKind.wrap .i64 (v3.1.1-4000))
 let w0:=(((),(),(),v.1.2.2.2.1,(),0,()),v3.2.1,((),(),()),((),(),()),v.2.2.2.2.1,((FloatKind.nearest .f64 v4,FloatKind.nearest .f64 v5),(0,0),(0,0),(0,0),(0,0),(0,0),(0,0),(0,0),(0,0),(0,0),(0,0),(0,0),(0,0),(0,0),()),())
 bif (kl8 w0)then
 let v7:=(xl8 w0)
 bif (k77 (((),5,()),v7.2.1,()))then
 let v9:=(g77 (((),5,()),v7.2.1,()))
 bif v9.1.1 then
 let v10:=(List.set (List.replicate 1 (zero a0S)) 0 (v7.2.2.2.2.2.1.1,((0,0),(0,0),(0,0),(0,0),(0,0),(0,0),(0,0),(0,0),(0,0),(0,0),(0,0),(0,0),(0,0),()),()))
 bif (a0F (List.length v7.2.2.2.2.1+List.length v10))then
 f ((((),(),(),(IntKind.wrap .i64 (v7.1.2.2.2.1-1)),()),v9.2.1,((),(),()),((),(),()),(v7.2.2.2.2.1++v10),()))
 else
 none
 else
 let v10:=(List.set (List.replicate 1 (zero a0S)) 0 (v7.2.2.2.2.2.1.1,v7.2.2.2.2.2.1.2,()))
 bif (a0F (List.length v7.2.2.2.2.1+List.length v10))then
 f ((((),(),(),(IntKind.wrap .i64 (v7.1.2.2.2.1-1)),()),v9.2.1,((),(),()),((),(),()),(v7.2.2.2.2.1++v10),()))
 else
 none
 else
 none
 else
 none
 else
 none
 else
 none
 else
 some ((((),(),(),()),v.2.1,((),(),()),((),(),()),v.2.2.2.2))
theorem e2j (k34 g34 k77 g77 kl3 xl3 kl8 xl8 kl17 xl17 f v) :EBk (f0O k34 g34 k77 g77 kl3 xl3 kl8 xl8 kl17 xl17) d9g (a0B [0,2,3,4] [.boxNil 3 0] 0 [0,2,3] [] (atS c3J f) (a5W c1C)) (mkS c3J v)=d5Q k34 g34 k77 g77 kl8 xl8 f v:=by kernel_rfl
def e2k (v:b4B):Nat:=v.1.2.2.2.1.natAbs+v.2.1.1.length+v.2.1.2.1.natAbs+v.2.1.2.2.1.natAbs+v.2.2.2.2.1.length+1000
def e2l (v:b4B):Option (c9H):=a1u (d5Q K34 G34 K77 G77 a7u a7v) (e2k v) v
def b0L (v:b4B):Bool:=(e2l v).isSome
def b0M (v:b4B):c9H:=(e2l v).getD (((),((),((),()))),(([],(0,(0,()))),(((),((),())),(((),((),())),([],())))))
def r74 (k34:KI I34) (g34:GI I34 O34) (k77:KI I77) (g77:GI I77 O77) (kl3:b4B->Bool) (xl3:b4B->c9H) (kl8:b0K->Bool) (xl8:b0K->c6t) (kl17:a7t->Bool) (xl17:a7t->b8F) (x:I74.den):Option (O74.den):=
 bif (k34 (((),3,()),x.2))then
 let v1:=(g34 (((),3,()),x.2))
 let v2:=(IntKind.wrap .i64 (1+v1.1.1))
 let w1:=(((),(),(),v2,()),v1.2.1,((),(),()),((),(),()),[],())
 bif (kl3 w1)then
 let v4:=(xl3 w1)
 bif (k34 (((),30000,()),v4.2.1,()))then
 let v6:=(g34 (((),30000,()),v4.2.1,()))
 bif (k34 (((),5,()),v6.2))then
 let v8:=(g34 (((),5,()),v6.2))
 let v9:=(IntKind.wrap .i64 (1+v8.1.1))
 let w0:=(((),(),(),v6.1.1,v9,()),v8.2.1,((),(),()),((),(),()),v4.2.2.2.2.1,[],())
 bif (kl17 w0)then
 let v11:=(xl17 w0)
 some (((((),(),()),()),v11.2.1,v11.2.2.2.2))
 else
 none
 else
 none
 else
 none
 else
 none
 else
 none
theorem f9Y (k34 g34 k77 g77 kl3 xl3 kl8 xl8 kl17 xl17 x) :a1N (f0O k34 g34 k77 g77 kl3 xl3 kl8 xl8 kl17 xl17) (a0e Tryz.f74) I74 O74 x=r74 k34 g34 k77 g77 kl3 xl3 kl8 xl8 kl17 xl17 x:=by kernel_rfl
def F74 (x:I74.den):Option (O74.den):=r74 K34 G34 K77 G77 b0L b0M a7u a7v a6E a6F x
def K74 (x:I74.den):Bool:=(F74 x).isSome
def G74 (x:I74.den):O74.den:=(F74 x).getD (a1d O74)
theorem e6Q:a0q Tryz.prog (74,a0n true I74 O74 K74 G74):=a1k (a0j mixed a0l a0k (.cons a4z (.cons b1M .nil))) (a0O Tryz.func74 rfl rfl rfl (by kernel_rfl) (a0D (l:=[d9g,d9h,c9I]) (by kernel_rfl) (.cons (a0r rfl (a0y (sh:=c3J) (shX:=c1C) (fun f v=>e2j K34 G34 K77 G77 b0L b0M a7u a7v a6E a6F f v) e2k (((),((),((),()))),(([],(0,(0,()))),(((),((),())),(((),((),())),([],()))))))) (.cons (a0r rfl (a0y (sh:=c3K) (shX:=c1D) (fun f v=>e2h K34 G34 K77 G77 b0L b0M a7u a7v a6E a6F f v) e6P (((),((),((),(0,((),()))))),(([],(0,(0,()))),(((),((),())),(((),((),())),([],(((0,0),((0,0),((0,0),((0,0),((0,0),((0,0),((0,0),((0,0),((0,0),((0,0),((0,0),((0,0),((0,0),((0,0),())))))))))))))),())))))))) (.cons (a0r rfl (a0y (sh:=b4C) (shX:=b4D) (fun f v=>d5O K34 G34 K77 G77 b0L b0M a7u a7v a6E a6F f v) c9J (((),((),())),(([],(0,(0,()))),(((),((),())),(((),((),())),([],([],())))))))) (.nil)))))) true fun x=>f9Y K34 G34 K77 G77 b0L b0M a7u a7v a6E a6F x
abbrev b2w:Sg:=⟨[.ptr 0],[.box (a2O)]⟩
abbrev c6u:Sg:=⟨[.val (.flt .f64)],[.box (a2O)]⟩
noncomputable def f3X (k34 g34) :=a0t tab eqs [(34,a0n true I34 O34 k34 g34)] 34 [.tmp 2] [] [] [] [] []
def f3Y (k34:KI I34) (g34:GI I34 O34) (x:b2w.den):Option (c6u.den):=
 bif (k34 (((),2,()),x.2))then
 let v1:=(g34 (((),2,()),x.2))
 bif (k34 (((),8,()),v1.2))then
 let v3:=(g34 (((),8,()),v1.2))
 bif (v3.1.1==0)then
 let v4:=(IntKind.wrap .i64 (v1.1.1*0))
 let w0:=(FloatKind.nearest .f64 v4)
 some ((((a0i .quo .f64 w0 w0),()),v3.2))
 else
 bif (v3.1.1==1)then
 some ((((a0i .quo .f64 4607182418800017408 (FloatKind.nearest .f64 (IntKind.wrap .i64 (v1.1.1*0)))),()),v3.2))
 else
 bif (v3.1.1==2)then
 some ((((a0i .quo .f64 13830554455654793216 (FloatKind.nearest .f64 (IntKind.wrap .i64 (v1.1.1*0)))),()),v3.2))
 else
 bif (v3.1.1==3)then
 some ((((a5T .f64 (FloatKind.nearest .f64 (IntKind.wrap .i64 (v1.1.1*0)))),()),v3.2))
 else
 bif (v3.1.1==4)then
 some (((9094988921128908188,()),v3.2))
 else
 bif (v3.1.1==5)then
 some (((9223372036854775809,()),v3.2))
 else
 bif (v3.1.1==6)then
 some (((4412443251819771522,()),v3.2))
 else
 some (((FloatKind.nearest .f64 (IntKind.wrap .i64 (v1.1.1*0)),()),v3.2))
 else
 none
 else
 none
theorem f3Z (k34 g34 x) :a1N (f3X k34 g34) (a0e Tryz.f146) b2w c6u x=f3Y k34 g34 x:=by kernel_rfl
def f0P (x:b2w.den):Option (c6u.den):=f3Y K34 G34 x
def d3U (x:b2w.den):Bool:=(f0P x).isSome
def d3V (x:b2w.den):c6u.den:=(f0P x).getD (a1d c6u)
theorem c9L:a0q Tryz.prog (146,a0n true b2w c6u d3U d3V):=a1k (a0j mixed a0l a0k (.cons a4z .nil)) (a0O Tryz.func146 rfl rfl rfl (by kernel_rfl) (a0m (by kernel_rfl))) true fun x=>f3Z K34 G34 x
abbrev I81:Sg:=⟨[.ptr 0,.val (.int .i64)],[.box (a2O)]⟩
abbrev O81:Sg:=⟨[.val (.flt .f64)],[.box (a2O)]⟩
noncomputable def f9Z (k77 g77 k146 g146 k34 g34) :=a0t tab eqs [(77,a0n true I77 O77 k77 g77),(146,a0n true b2w c6u k146 g146),(34,a0n true I34 O34 k34 g34)] 31 [.tmp 4] [] [] [] [] []
def r81 (k77:KI I77) (g77:GI I77 O77) (k146:KI b2w) (g146:GI b2w c6u) (k34:KI I34) (g34:GI I34 O34) (x:I81.den):Option (O81.den):=
 bif (k77 (((),40,()),x.2))then
 let v1:=(g77 (((),40,()),x.2))
 bif v1.1.1 then
 bif (k146 (((),()),v1.2))then
 some (g146 (((),()),v1.2))
 else
 none
 else
 let v3:=(IntKind.wrap .i64 ((IntKind.wrap .i64 (x.1.2.1*8))+1))
 bif (k34 (((),v3,()),v1.2))then
 let v5:=(g34 (((),v3,()),v1.2))
 bif (k77 (((),2,()),v5.2))then
 let v7:=(g77 (((),2,()),v5.2))
 bif v7.1.1 then
 let v9:=(IntKind.wrap .i64 ((IntKind.wrap .i64 (x.1.2.1*1000))+1))
 bif (k34 (((),v9,()),v7.2))then
 let v11:=(g34 (((),v9,()),v7.2))
 bif (k77 (((),2,()),v11.2))then
 let v13:=(g77 (((),2,()),v11.2))
 bif v13.1.1 then
 some ((((a5T .f64 (a0i .quo .f64 (FloatKind.nearest .f64 v11.1.1) 4652007308841189376)),()),v13.2))
 else
 some ((((a0i .quo .f64 (FloatKind.nearest .f64 v11.1.1) 4652007308841189376),()),v13.2))
 else
 none
 else
 none
 else
 bif (k77 (((),2,()),v7.2))then
 let v9:=(g77 (((),2,()),v7.2))
 bif v9.1.1 then
 some ((((a5T .f64 (a0i .quo .f64 (FloatKind.nearest .f64 v5.1.1) 4620693217682128896)),()),v9.2))
 else
 some ((((a0i .quo .f64 (FloatKind.nearest .f64 v5.1.1) 4620693217682128896),()),v9.2))
 else
 none
 else
 none
 else
 none
 else
 none
theorem g0a (k77 g77 k146 g146 k34 g34 x) :a1N (f9Z k77 g77 k146 g146 k34 g34) (a0e Tryz.f81) I81 O81 x=r81 k77 g77 k146 g146 k34 g34 x:=by kernel_rfl
def F81 (x:I81.den):Option (O81.den):=r81 K77 G77 d3U d3V K34 G34 x
def K81 (x:I81.den):Bool:=(F81 x).isSome
def G81 (x:I81.den):O81.den:=(F81 x).getD (a1d O81)
theorem e6R:a0q Tryz.prog (81,a0n true I81 O81 K81 G81):=a1k (a0j mixed a0l a0k (.cons b1M (.cons c9L (.cons a4z .nil)))) (a0O Tryz.func81 rfl rfl rfl (by kernel_rfl) (a0m (by kernel_rfl))) true fun x=>g0a K77 G77 d3U d3V K34 G34 x
abbrev a2j:Sg:=⟨[.ptr 0,.val (.int .i64)],[.box (a2O)]⟩
abbrev a3y:Sg:=⟨[.val (.flt .f32)],[.box (a2O)]⟩
noncomputable def d5R (k81 g81) :=a0t tab eqs [(81,a0n true I81 O81 k81 g81)] 9 [.tmp 4] [] [] [] [] []
def f8B (k81:KI I81) (g81:GI I81 O81) (x:a2j.den):Option (a3y.den):=
 bif (k81 (((),x.1.2),x.2))then
 let v1:=(g81 (((),x.1.2),x.2))
 let w0:=(a0Z .f64 .f32 v1.1.1)
 bif (w0.1)then
 some (((w0.2,()),v1.2))
 else
 none
 else
 none
theorem f4a (k81 g81 x) :a1N (d5R k81 g81) (a0e Tryz.f141) a2j a3y x=f8B k81 g81 x:=by kernel_rfl
def f8C (x:a2j.den):Option (a3y.den):=f8B K81 G81 x
def a9C (x:a2j.den):Bool:=(f8C x).isSome
def a9D (x:a2j.den):a3y.den:=(f8C x).getD (a1d a3y)
theorem d9i:a1y Tryz.prog (d5R K81 G81):=a0j mixed a0l a0k (.cons e6R .nil)
theorem e6S:a6i Tryz.prog 141 (d5R K81 G81) (a0e Tryz.f141):=a0O Tryz.func141 rfl rfl rfl (by kernel_rfl) (a0m (by kernel_rfl))
theorem c9M:a0q Tryz.prog (141,a0n true a2j a3y a9C a9D):=a1k d9i e6S true fun x=>f4a K81 G81 x
abbrev b2x:Sg:=⟨[.ptr 0,.own (.int .i64) 1],[.box (a2O),.arr (.int .i64)]⟩
abbrev c6v:Sg:=⟨[.val (.int .i64)],[.box (a2O),.arr (.int .i64)]⟩
noncomputable def f4b (k34 g34) :=a0t tab eqs [(34,a0n true I34 O34 k34 g34)] 12 [.tmp 4] [] [] [] [] []
def f4c (k34:KI I34) (g34:GI I34 O34) (x:b2x.den):Option (c6v.den):=
 bif (k34 (((),(↑(List.length x.2.2.1):Int),()),x.2.1,()))then
 let v1:=(g34 (((),(↑(List.length x.2.2.1):Int),()),x.2.1,()))
 bif (decide (0<=v1.1.1)&&decide (v1.1.1<(↑(List.length x.2.2.1):Int)))then
 some ((((List.getD x.2.2.1 (Int.toNat v1.1.1) (zero (Ty.int IntKind.i64))),()),v1.2.1,x.2.2))
 else
 none
 else
 none
theorem f4d (k34 g34 x) :a1N (f4b k34 g34) (a0e Tryz.f125) b2x c6v x=f4c k34 g34 x:=by kernel_rfl
def e6T (x:b2x.den):Option (c6v.den):=f4c K34 G34 x
def c9N (x:b2x.den):Bool:=(e6T x).isSome
def c0M (x:b2x.den):c6v.den:=(e6T x).getD (a1d c6v)
theorem c9O:a0q Tryz.prog (125,a0n true b2x c6v c9N c0M):=a1k (a0j mixed a0l a0k (.cons a4z .nil)) (a0O Tryz.func125 rfl rfl rfl (by kernel_rfl) (a0m (by kernel_rfl))) true fun x=>f4d K34 G34 x
abbrev a6m:Sg:=⟨[.ptr 0],[.box (a2O)]⟩
abbrev b4E:Sg:=⟨[.val (.int .i64)],[.box (a2O)]⟩
noncomputable def f4e (k34 g34 k125 g125) :=a0t tab eqs [(34,a0n true I34 O34 k34 g34),(125,a0n true b2x c6v k125 g125)] 16 [.tmp 2] [] [] [] [] []
def f4f (k34:KI I34) (g34:GI I34 O34) (k125:KI b2x) (g125:GI b2x c6v) (x:a6m.den):Option (b4E.den):=
 bif (k34 (((),4,()),x.2))then
 let v1:=(g34 (((),4,()),x.2))
 bif (v1.1.1==0)then
 let v11:=(List.set (List.set (List.set (List.set (List.set (List.set (List.set (List.set (List.set (List.set (List.replicate 10 (zero (Ty.int IntKind.i64))) 0 (-1)) 1 0) 2 127) 3 128) 4 16383) 5 16384) 6 1000000000) 7 1000000001) 8 9223372036854775807) 9 (-9223372036854775808))
 let w0:=(((),(),()),v1.2.1,v11,())
 bif (k125 w0)then
 let v13:=(g125 w0)
 some ((v13.1,v13.2.1,()))
 else
 none
 else
 bif (v1.1.1==1)then
 bif (k34 (((),1000000000,()),v1.2))then
 some (g34 (((),1000000000,()),v1.2))
 else
 none
 else
 bif (k34 (((),400,()),v1.2))then
 some (g34 (((),400,()),v1.2))
 else
 none
 else
 none
theorem f4g (k34 g34 k125 g125 x) :a1N (f4e k34 g34 k125 g125) (a0e Tryz.f142) a6m b4E x=f4f k34 g34 k125 g125 x:=by kernel_rfl
def f0Q (x:a6m.den):Option (b4E.den):=f4f K34 G34 c9N c0M x
def a7T (x:a6m.den):Bool:=(f0Q x).isSome
def a7U (x:a6m.den):b4E.den:=(f0Q x).getD (a1d b4E)
theorem c9P:a0q Tryz.prog (142,a0n true a6m b4E a7T a7U):=a1k (a0j mixed a0l a0k (.cons a4z (.cons c9O .nil))) (a0O Tryz.func142 rfl rfl rfl (by kernel_rfl) (a0m (by kernel_rfl))) true fun x=>f4g K34 G34 c9N c0M x
abbrev I75:Sg:=⟨[.ptr 0],[.box (a2O)]⟩
abbrev O75:Sg:=⟨[.own (S68) 1],[.box (a2O),.arr (S68)]⟩
abbrev a9l:Type:=((Unit×(Unit×(Unit×(Int×Unit))))×(((List (Den (.int .u8)))×(Int×(Int×Unit)))×((List (Den (.str)))×((List (Den (S68)))×Unit))))
def c3M:ShS:=⟨[(0,.one (.ptr 0 0)),(3,.one (.ref (.str) 1)),(4,.one (.ref (S68) 2)),(5,.one (.int .i64))],[(0,.box [.sl (.int .u8),.int .i64,.int .i64]),(1,.arr (.str)),(2,.arr (S68))],3,1⟩
abbrev c6w:Type:=((Unit×(Unit×Unit))×(((List (Den (.int .u8)))×(Int×(Int×Unit)))×((List (Den (S68)))×Unit)))
def c1E:ShS:=⟨[(0,.one (.ptr 0 0)),(4,.one (.ref (S68) 1))],[(0,.box [.sl (.int .u8),.int .i64,.int .i64]),(1,.arr (S68))],2,1⟩
abbrev a4N:Type:=((Unit×(Unit×Unit))×(((List (Den (.int .u8)))×(Int×(Int×Unit)))×((List (Den (S68)))×Unit)))
def b4F:ShS:=⟨[(0,.one (.ptr 0 0)),(4,.one (.ref (S68) 1))],[(0,.box [.sl (.int .u8),.int .i64,.int .i64]),(1,.arr (S68))],2,1⟩
abbrev b2y:Type:=((Unit×Unit)×(((List (Den (.int .u8)))×(Int×(Int×Unit)))×((List (Den (S68)))×Unit)))
def b4G:ShS:=⟨[(4,.one (.ref (S68) 1))],[(0,.box [.sl (.int .u8),.int .i64,.int .i64]),(1,.arr (S68))],2,1⟩
noncomputable def e5k (k34 g34 k77 g77 k131 g131 k141 g141 k142 g142 kl4 xl4 kl29 xl29) :=a0t tab eqs [(34,a0n true I34 O34 k34 g34),(77,a0n true I77 O77 k77 g77),(131,a0n true b1N c6s k131 g131),(141,a0n true a2j a3y k141 g141),(142,a0n true a6m b4E k142 g142)] 132 [.tmp 2] [] [] [(4,a1X [0,3,4,5] [] 0 [0,4] [] c3M c1E kl4 xl4),(29,a1X [0,4] [] 3 [4] [] b4F b4G kl29 xl29)] [] []
noncomputable def d9j:Code:=(a0u (a0e Tryz.f75)).getD 0 .skip
noncomputable def c9Q:Code:=(a0u (a0e Tryz.f75)).getD 1 .skip
def c3N (k34:KI I34) (g34:GI I34 O34) (k77:KI I77) (g77:GI I77 O77) (k131:KI b1N) (g131:GI b1N c6s) (k141:KI a2j) (g141:GI a2j a3y) (k142:KI a6m) (g142:GI a6m b4E) (f:a4N->Option (b2y)) (v:a4N):Option (b2y):=
 bif (k34 (((),2,()),v.2.1,()))then
 let v1:=(g34 (((),2,()),v.2.1,()))
 let w0:=(↑(List.length v.2.2.1):Int)
 bif (decide (w0<(IntKind.wrap .i64 (12+v1.1.1))))then
 bif (decide (0<=0)&&decide (0<w0))then
 let v9:=(List.set (List.replicate 1 (zero S68)) 0 (({ data:=#[115] }++(a8L (List.set (List.replicate 1 (zero (Ty.int IntKind.u8))) 0 (IntKind.wrap .u8 (IntKind.wrap .i64 (97+w0)))))),(List.getD v.2.2.1 (Int.toNat 0) (zero S68)).2))
 bif (a0F (List.length v.2.2.1+List.length v9))then
 f ((((),(),()),v1.2.1,(v.2.2.1++v9),()))
 else
 none
 else
 none
 else
 some ((((),()),v1.2.1,v.2.2))
 else
 none
theorem d5S (k34 g34 k77 g77 k131 g131 k141 g141 k142 g142 kl4 xl4 kl29 xl29 f v) :EBk (e5k k34 g34 k77 g77 k131 g131 k141 g141 k142 g142 kl4 xl4 kl29 xl29) c9Q (a0B [0,4] [] 3 [4] [] (atS b4F f) (a5W b4G)) (mkS b4F v)=c3N k34 g34 k77 g77 k131 g131 k141 g141 k142 g142 f v:=by kernel_rfl
def d9k (v:a4N):Nat:=v.2.1.1.length+v.2.1.2.1.natAbs+v.2.1.2.2.1.natAbs+v.2.2.1.length+1000
def c9R (v:a4N):Option (b2y):=a1u (c3N K34 G34 K77 G77 c1A b8D a9C a9D a7T a7U) (d9k v) v
def a6G (v:a4N):Bool:=(c9R v).isSome
def a4A (v:a4N):b2y:=(c9R v).getD (((),()),(([],(0,(0,()))),([],())))
def d5T (k34:KI I34) (g34:GI I34 O34) (k77:KI I77) (g77:GI I77 O77) (k131:KI b1N) (g131:GI b1N c6s) (k141:KI a2j) (g141:GI a2j a3y) (k142:KI a6m) (g142:GI a6m b4E) (f:a9l->Option (c6w)) (v:a9l):Option (c6w):=
 bif (decide (v.1.2.2.2.1>0))then
 bif (k34 (((),16,()),v.2.1,()))then
 let v1:=(g34 (((),16,()),v.2.1,()))
 bif (k34 (((),100,()),v1.2))then
 let w0:=(↑(List.length v.2.2.2.1):Int)
 bif (decide (0<=w0)&&decide (w0<(↑(List.length v.2.2.1):Int)))then
 let v3:=(g34 (((),100,()),v1.2))
 bif (k34 (((),14,()),v3.2))then
 let v5:=(g34 (((),14,()),v3.2))
 bif (k34 (((),81,()),v5.2))then
 let v7:=(g34 (((),81,()),v5.2))
 bif (k77 (((),4,()),v7.2))then
 let v9:=(g77 (((),4,()),v7.2))
 bif v9.1.1 then
 let v13:=(List.set (List.replicate 1 (zero S68)) 0 ((List.getD v.2.2.1 (Int.toNat w0) (zero Ty.str)),0,(a0i .add .f32 (FloatKind.nearest .f32 v1.1.1) (FloatKind.nearest .f32 (IntKind.wrap .i64 (2+v5.1.1)))),0,180,()))
 bif (a0F (List.length v.2.2.2.1+List.length v13))then
 f ((((),(),(),(IntKind.wrap .i64 (v.1.2.2.2.1-1)),()),v9.2.1,v.2.2.1,(v.2.2.2.1++v13),()))
 else
 none
 else
 let v14:=(List.set (List.replicate 1 (zero S68)) 0 ((List.getD v.2.2.1 (Int.toNat w0) (zero Ty.str)),FloatKind.nearest .f32 v1.1.1,(a0i .add .f32 (FloatKind.nearest .f32 v1.1.1) (FloatKind.nearest .f32 (IntKind.wrap .i64 (2+v5.1.1)))),v3.1.1,(IntKind.wrap .i64 (v3.1.1+v7.1.1)),()))
 bif (a0F (List.length v.2.2.2.1+List.length v14))then
 f ((((),(),(),(IntKind.wrap .i64 (v.1.2.2.2.1-1)),()),v9.2.1,v.2.2.1,(v.2.2.2.1++v14),()))
 else
 none
 else
 none
 else
 none
 else
 none
 else
 none
 else
 none
 else
 none
 else
 some ((((),(),()),v.2.1,v.2.2.2))
theorem e2m (k34 g34 k77 g77 k131 g131 k141 g141 k142 g142 kl4 xl4 kl29 xl29 f v) :EBk (e5k k34 g34 k77 g77 k131 g131 k141 g141 k142 g142 kl4 xl4 kl29 xl29) d9j (a0B [0,3,4,5] [] 0 [0,4] [] (atS c3M f) (a5W c1E)) (mkS c3M v)=d5T k34 g34 k77 g77 k131 g131 k141 g141 k142 g142 f v:=by kernel_rfl
def e6U (v:a9l):Nat:=v.1.2.2.2.1.natAbs+v.2.1.1.length+v.2.1.2.1.natAbs+v.2.1.2.2.1.natAbs+v.2.2.1.length+v.2.2.2.1.length+1000
def e2n (v:a9l):Option (c6w):=a1u (d5T K34 G34 K77 G77 c1A b8D a9C a9D a7T a7U) (e6U v) v
def b0N (v:a9l):Bool:=(e2n v).isSome
def a5r (v:a9l):c6w:=(e2n v).getD (((),((),())),(([],(0,(0,()))),([],())))
def r75 (k34:KI I34) (g34:GI I34 O34) (k77:KI I77) (g77:GI I77 O77) (k131:KI b1N) (g131:GI b1N c6s) (k141:KI a2j) (g141:GI a2j a3y) (k142:KI a6m) (g142:GI a6m b4E) (kl4:a9l->Bool) (xl4:a9l->c6w) (kl29:a4N->Bool) (xl29:a4N->b2y) (x:I75.den):Option (O75.den):=
 bif (k34 (((),5,()),x.2))then
 let v1:=(g34 (((),5,()),x.2))
 let v2:=(IntKind.wrap .i64 (1+v1.1.1))
 let v8:=(List.set (List.set (List.set (List.set (List.set (List.set (List.replicate 6 (zero Ty.str)) 0 { data:=#[109,97,105,110] }) 1 { data:=#[106,105,98] }) 2 { data:=#[103,101,110,111,97] }) 3 { data:=#[115,116,111,114,109] }) 4 { data:=#[99,111,100,101] }) 5 { data:=#[107,105,116,101] })
 let w1:=(((),(),(),v2,()),v1.2.1,v8,List.replicate 0 (zero S68),())
 bif (kl4 w1)then
 let v10:=(xl4 w1)
 let w0:=(↑(List.length v10.2.2.1):Int)
 bif (k34 (((),w0,()),v10.2.1,()))then
 let v12:=(g34 (((),w0,()),v10.2.1,()))
 bif (k34 (((),24,()),v12.2))then
 let v14:=(g34 (((),24,()),v12.2))
 bif (v14.1.1==0)then
 bif (decide (0<=0)&&decide (0<w0))then
 let v20:=(List.set (List.set (List.set (List.set (List.set (List.replicate 5 (zero Ty.str)) 0 { data:=#[] }) 1 { data:=#[74,105,98] }) 2 { data:=#[97,98,99,100,101,102,103,104,105,106,107,108,109,110,111,112,113] }) 3 { data:=#[97,98,99,100,101,102,103,104,105,106,107,108,109,110,111,112] }) 4 (List.getD v10.2.2.1 (Int.toNat 0) (zero S68)).1)
 let w3:=(((),(),()),v14.2.1,v20,())
 bif (k131 w3)then
 bif (decide (0<=v12.1.1)&&decide (v12.1.1<w0))then
 let v22:=(g131 w3)
 some ((((),()),v22.2.1,(List.set v10.2.2.1 (Int.toNat v12.1.1) (v22.1.1,(List.getD v10.2.2.1 (Int.toNat v12.1.1) (zero S68)).2)),()))
 else
 none
 else
 none
 else
 none
 else
 bif (v14.1.1==1)then
 bif (k141 (((),300,()),v14.2))then
 bif (decide (0<=v12.1.1)&&decide (v12.1.1<w0))then
 let v16:=(g141 (((),300,()),v14.2))
 let v17:=(List.getD v10.2.2.1 (Int.toNat v12.1.1) (zero S68))
 some ((((),()),v16.2.1,(List.set v10.2.2.1 (Int.toNat v12.1.1) (v17.1,v16.1.1,v17.2.2)),()))
 else
 none
 else
 none
 else
 bif (v14.1.1==2)then
 bif (k141 (((),300,()),v14.2))then
 bif (decide (0<=v12.1.1)&&decide (v12.1.1<w0))then
 let v16:=(g141 (((),300,()),v14.2))
 let v17:=(List.getD v10.2.2.1 (Int.toNat v12.1.1) (zero S68))
 some ((((),()),v16.2.1,(List.set v10.2.2.1 (Int.toNat v12.1.1) (v17.1,v17.2.1,v16.1.1,v17.2.2.2)),()))
 else
 none
 else
 none
 else
 bif (v14.1.1==3)then
 bif (k142 (((),()),v14.2))then
 bif (decide (0<=v12.1.1)&&decide (v12.1.1<w0))then
 let v16:=(g142 (((),()),v14.2))
 let v17:=(List.getD v10.2.2.1 (Int.toNat v12.1.1) (zero S68))
 some ((((),()),v16.2.1,(List.set v10.2.2.1 (Int.toNat v12.1.1) (v17.1,v17.2.1,v17.2.2.1,v17.2.2.2.1,(IntKind.wrap .i64 (v16.1.1-2)),())),()))
 else
 none
 else
 none
 else
 bif (v14.1.1==4)then
 bif (k142 (((),()),v14.2))then
 bif (decide (0<=v12.1.1)&&decide (v12.1.1<w0))then
 let v16:=(g142 (((),()),v14.2))
 let v17:=(List.getD v10.2.2.1 (Int.toNat v12.1.1) (zero S68))
 some ((((),()),v16.2.1,(List.set v10.2.2.1 (Int.toNat v12.1.1) (v17.1,v17.2.1,v17.2.2.1,(IntKind.wrap .i64 (v16.1.1-2)),v17.2.2.2.2)),()))
 else
 none
 else
 none
 else
 bif (v14.1.1==5)then
 some ((((),()),v14.2.1,List.replicate 0 (zero S68),()))
 else
 bif (v14.1.1==6)then
 let w2:=(((),(),()),v14.2.1,v10.2.2)
 bif (kl29 w2)then
 some ((((),()),(xl29 w2).2))
 else
 none
 else
 some ((((),()),v14.2.1,v10.2.2))
 else
 none
 else
 none
 else
 none
 else
 none
theorem g0b (k34 g34 k77 g77 k131 g131 k141 g141 k142 g142 kl4 xl4 kl29 xl29 x) :a1N (e5k k34 g34 k77 g77 k131 g131 k141 g141 k142 g142 kl4 xl4 kl29 xl29) (a0e Tryz.f75) I75 O75 x=r75 k34 g34 k77 g77 k131 g131 k141 g141 k142 g142 kl4 xl4 kl29 xl29 x:=by kernel_rfl
def F75 (x:I75.den):Option (O75.den):=r75 K34 G34 K77 G77 c1A b8D a9C a9D a7T a7U b0N a5r a6G a4A x
def K75 (x:I75.den):Bool:=(F75 x).isSome
def G75 (x:I75.den):O75.den:=(F75 x).getD (a1d O75)
theorem e6V:a1y Tryz.prog (e5k K34 G34 K77 G77 c1A b8D a9C a9D a7T a7U b0N a5r a6G a4A):=a0j mixed a0l a0k (.cons a4z (.cons b1M (.cons d9e (.cons c9M (.cons c9P .nil)))))
theorem f8D:a6i Tryz.prog 75 (e5k K34 G34 K77 G77 c1A b8D a9C a9D a7T a7U b0N a5r a6G a4A) (a0e Tryz.f75):=a0O Tryz.func75 rfl rfl rfl (by kernel_rfl) (a0D (l:=[d9j,c9Q]) (by kernel_rfl) (.cons (a0r rfl (a0y (sh:=c3M) (shX:=c1E) (fun f v=>e2m K34 G34 K77 G77 c1A b8D a9C a9D a7T a7U b0N a5r a6G a4A f v) e6U (((),((),())),(([],(0,(0,()))),([],()))))) (.cons (a0r rfl (a0y (sh:=b4F) (shX:=b4G) (fun f v=>d5S K34 G34 K77 G77 c1A b8D a9C a9D a7T a7U b0N a5r a6G a4A f v) d9k (((),()),(([],(0,(0,()))),([],()))))) (.nil))))
theorem f4h:a0q Tryz.prog (75,a0n true I75 O75 K75 G75):=a1k e6V f8D true fun x=>g0b K34 G34 K77 G77 c1A b8D a9C a9D a7T a7U b0N a5r a6G a4A x
abbrev c0N:Sg:=⟨[.ptr 0,.val (S33),.val (.int .i64)],[.box (a2O)]⟩
abbrev d3W:Sg:=⟨[.val (S33)],[.box (a2O)]⟩
noncomputable def f4i (k34 g34) :=a0t tab eqs [(34,a0n true I34 O34 k34 g34)] 30 [.cell 6 34] [] [] [] [] []
def f4j (k34:KI I34) (g34:GI I34 O34) (x:c0N.den):Option (d3W.den):=
 let v1:=(IntKind.wrap .i64 ((IntKind.wrap .i64 (2*x.1.2.2.1))+1))
 bif (k34 (((),v1,()),x.2))then
 let v3:=(g34 (((),v1,()),x.2))
 bif (k34 (((),v1,()),v3.2))then
 let v7:=(g34 (((),v1,()),v3.2))
 some (((((IntKind.wrap .i64 ((IntKind.wrap .i64 (x.1.2.1.1+v3.1.1))-x.1.2.2.1)),(IntKind.wrap .i64 ((IntKind.wrap .i64 (x.1.2.1.2.1+v7.1.1))-x.1.2.2.1)),()),()),v7.2))
 else
 none
 else
 none
theorem f4k (k34 g34 x) :a1N (f4i k34 g34) (a0e Tryz.f143) c0N d3W x=f4j k34 g34 x:=by kernel_rfl
def f0R (x:c0N.den):Option (d3W.den):=f4j K34 G34 x
def d3X (x:c0N.den):Bool:=(f0R x).isSome
def c3O (x:c0N.den):d3W.den:=(f0R x).getD (a1d d3W)
theorem e6W:a0q Tryz.prog (143,a0n true c0N d3W d3X c3O):=a1k (a0j mixed a0l a0k (.cons a4z .nil)) (a0O Tryz.func143 rfl rfl rfl (by kernel_rfl) (a0m (by kernel_rfl))) true fun x=>f4k K34 G34 x
abbrev c7E:Sg:=⟨[.ptr 0],[.box (a2O)]⟩
abbrev d9l:Sg:=⟨[.val (S33)],[.box (a2O)]⟩
noncomputable def f4l (k77 g77 k125 g125 k34 g34) :=a0t tab eqs [(77,a0n true I77 O77 k77 g77),(125,a0n true b2x c6v k125 g125),(34,a0n true I34 O34 k34 g34)] 35 [.cell 2 34] [] [] [] [] []
def f4m (k77:KI I77) (g77:GI I77 O77) (k125:KI b2x) (g125:GI b2x c6v) (k34:KI I34) (g34:GI I34 O34) (x:c7E.den):Option (d9l.den):=
 bif (k77 (((),40,()),x.2))then
 let v1:=(g77 (((),40,()),x.2))
 bif v1.1.1 then
 let v5:=(List.set (List.set (List.set (List.set (List.replicate 4 (zero (Ty.int IntKind.i64))) 0 10000) 1 (-10000)) 2 10001) 3 9223372036854775807)
 bif (k125 (((),(),()),v1.2.1,v5,()))then
 let v7:=(g125 (((),(),()),v1.2.1,v5,()))
 let v10:=(List.set (List.set (List.set (List.replicate 3 (zero (Ty.int IntKind.i64))) 0 10000) 1 0) 2 (-10001))
 bif (k125 (((),(),()),v7.2.1,v10,()))then
 let v12:=(g125 (((),(),()),v7.2.1,v10,()))
 some ((((v7.1.1,v12.1),()),v12.2.1,()))
 else
 none
 else
 none
 else
 let v4:=(List.set (List.set (List.set (List.replicate 3 (zero (Ty.int IntKind.i64))) 0 4) 1 20) 2 400)
 bif (k125 (((),(),()),v1.2.1,v4,()))then
 let v6:=(g125 (((),(),()),v1.2.1,v4,()))
 let v8:=(IntKind.wrap .i64 ((IntKind.wrap .i64 (2*v6.1.1))+1))
 bif (k34 (((),v8,()),v6.2.1,()))then
 let v10:=(g34 (((),v8,()),v6.2.1,()))
 bif (k34 (((),v8,()),v10.2))then
 let v13:=(g34 (((),v8,()),v10.2))
 some (((((IntKind.wrap .i64 (v10.1.1-v6.1.1)),(IntKind.wrap .i64 (v13.1.1-v6.1.1)),()),()),v13.2))
 else
 none
 else
 none
 else
 none
 else
 none
theorem f4n (k77 g77 k125 g125 k34 g34 x) :a1N (f4l k77 g77 k125 g125 k34 g34) (a0e Tryz.f189) c7E d9l x=f4m k77 g77 k125 g125 k34 g34 x:=by kernel_rfl
def f4o (x:c7E.den):Option (d9l.den):=f4m K77 G77 c9N c0M K34 G34 x
def e5l (x:c7E.den):Bool:=(f4o x).isSome
def e5m (x:c7E.den):d9l.den:=(f4o x).getD (a1d d9l)
theorem e6X:a0q Tryz.prog (189,a0n true c7E d9l e5l e5m):=a1k (a0j mixed a0l a0k (.cons b1M (.cons c9O (.cons a4z .nil)))) (a0O Tryz.func189 rfl rfl rfl (by kernel_rfl) (a0m (by kernel_rfl))) true fun x=>f4n K77 G77 c9N c0M K34 G34 x
abbrev c0O:Sg:=⟨[.ptr 0],[.box (a2O)]⟩
abbrev d3Y:Sg:=⟨[.val (S35)],[.box (a2O)]⟩
noncomputable def f4p (k189 g189) :=a0t tab eqs [(189,a0n true c7E d9l k189 g189)] 10 [.cell 2 36] [] [] [] [] []
def f4q (k189:KI c7E) (g189:GI c7E d9l) (x:c0O.den):Option (d3Y.den):=
 bif (k189 (((),()),x.2))then
 let v1:=(g189 (((),()),x.2))
 bif (k189 (((),()),v1.2))then
 let v3:=(g189 (((),()),v1.2))
 some ((((v1.1.1,v3.1),()),v3.2))
 else
 none
 else
 none
theorem f4r (k189 g189 x) :a1N (f4p k189 g189) (a0e Tryz.f144) c0O d3Y x=f4q k189 g189 x:=by kernel_rfl
def f0S (x:c0O.den):Option (d3Y.den):=f4q e5l e5m x
def d3Z (x:c0O.den):Bool:=(f0S x).isSome
def d4a (x:c0O.den):d3Y.den:=(f0S x).getD (a1d d3Y)
theorem e6Y:a0q Tryz.prog (144,a0n true c0O d3Y d3Z d4a):=a1k (a0j mixed a0l a0k (.cons e6X .nil)) (a0O Tryz.func144 rfl rfl rfl (by kernel_rfl) (a0m (by kernel_rfl))) true fun x=>f4r e5l e5m x
abbrev I76:Sg:=⟨[.ptr 0],[.box (a2O)]⟩
abbrev O76:Sg:=⟨[.val (S38)],[.box (a2O)]⟩
abbrev b4H:Type:=((Unit×(Unit×(Unit×(Int×Unit))))×(((List (Den (.int .u8)))×(Int×(Int×Unit)))×((Int×(Int×(Int×(Int×(Unit×(Int×(Int×(Int×(Int×Unit)))))))))×((Int×(Int×(Int×(Int×(Unit×(Int×(Int×(Int×(Int×Unit)))))))))×((List (Den (a1E)))×Unit)))))
def c3P:ShS:=⟨[(0,.one (.ptr 0 0)),(2,.one (.ptr 1 0)),(3,.one (.ptr 2 0)),(4,.one (.int .i64))],[(0,.box [.sl (.int .u8),.int .i64,.int .i64]),(1,.box [.int .i64,.int .i64,.int .i64,.int .i64,.nil (a1E),.int .i64,.int .i64,.int .i64,.int .i64]),(2,.box [.int .i64,.int .i64,.int .i64,.int .i64,.ref (a1E) 3,.int .i64,.int .i64,.int .i64,.int .i64]),(3,.arr (a1E))],4,1⟩
abbrev c9S:Type:=((Unit×(Unit×(Unit×Unit)))×(((List (Den (.int .u8)))×(Int×(Int×Unit)))×((Int×(Int×(Int×(Int×(Unit×(Int×(Int×(Int×(Int×Unit)))))))))×((Int×(Int×(Int×(Int×(Unit×(Int×(Int×(Int×(Int×Unit)))))))))×((List (Den (a1E)))×Unit)))))
def c1F:ShS:=⟨[(0,.one (.ptr 0 0)),(2,.one (.ptr 1 0)),(3,.one (.ptr 2 0))],[(0,.box [.sl (.int .u8),.int .i64,.int .i64]),(1,.box [.int .i64,.int .i64,.int .i64,.int .i64,.nil (a1E),.int .i64,.int .i64,.int .i64,.int .i64]),(2,.box [.int .i64,.int .i64,.int .i64,.int .i64,.ref (a1E) 3,.int .i64,.int .i64,.int .i64,.int .i64]),(3,.arr (a1E))],4,1⟩
abbrev a5s:Type:=((Unit×(Unit×(Unit×Unit)))×(((List (Den (.int .u8)))×(Int×(Int×Unit)))×((Int×(Int×(Int×(Int×(Unit×(Int×(Int×(Int×(Int×Unit)))))))))×((Int×(Int×(Int×(Int×(Unit×(Int×(Int×(Int×(Int×Unit)))))))))×((List (Den (a1E)))×Unit)))))
def b4I:ShS:=⟨[(0,.one (.ptr 0 0)),(2,.one (.ptr 1 0)),(3,.one (.ptr 2 0))],[(0,.box [.sl (.int .u8),.int .i64,.int .i64]),(1,.box [.int .i64,.int .i64,.int .i64,.int .i64,.nil (a1E),.int .i64,.int .i64,.int .i64,.int .i64]),(2,.box [.int .i64,.int .i64,.int .i64,.int .i64,.ref (a1E) 3,.int .i64,.int .i64,.int .i64,.int .i64]),(3,.arr (a1E))],4,1⟩
abbrev b8G:Type:=((Unit×(Unit×Unit))×(((List (Den (.int .u8)))×(Int×(Int×Unit)))×((Int×(Int×(Int×(Int×(Unit×(Int×(Int×(Int×(Int×Unit)))))))))×((Int×(Int×(Int×(Int×(Unit×(Int×(Int×(Int×(Int×Unit)))))))))×((List (Den (a1E)))×Unit)))))
def b4J:ShS:=⟨[(2,.one (.ptr 1 0)),(3,.one (.ptr 2 0))],[(0,.box [.sl (.int .u8),.int .i64,.int .i64]),(1,.box [.int .i64,.int .i64,.int .i64,.int .i64,.nil (a1E),.int .i64,.int .i64,.int .i64,.int .i64]),(2,.box [.int .i64,.int .i64,.int .i64,.int .i64,.ref (a1E) 3,.int .i64,.int .i64,.int .i64,.int .i64]),(3,.arr (a1E))],4,1⟩
noncomputable def f4s (k34 g34 k143 g143 k77 g77 k144 g144 kl3 xl3 kl18 xl18) :=a0t tab eqs [(34,a0n true I34 O34 k34 g34),(143,a0n true c0N d3W k143 g143),(77,a0n true I77 O77 k77 g77),(144,a0n true c0O d3Y k144 g144)] 92 [.cell 2 39] [] [] [(3,a1X [0,2,3,4] [.boxNil 3 4] 0 [0,2,3] [] c3P c1F kl3 xl3),(18,a1X [0,2,3] [] 3 [2,3] [] b4I b4J kl18 xl18)] [] [.frzBox 2]
noncomputable def d9m:Code:=(a0u (a0e Tryz.f76)).getD 0 .skip
noncomputable def c9T:Code:=(a0u (a0e Tryz.f76)).getD 1 .skip
def c3Q (k34:KI I34) (g34:GI I34 O34) (k143:KI c0N) (g143:GI c0N d3W) (k77:KI I77) (g77:GI I77 O77) (k144:KI c0O) (g144:GI c0O d3Y) (f:a5s->Option (b8G)) (v:a5s):Option (b8G):=
 bif (k34 (((),2,()),v.2.1,()))then
 let v1:=(g34 (((),2,()),v.2.1,()))
 let w0:=(↑(List.length v.2.2.2.2.1):Int)
 bif (decide (w0<(IntKind.wrap .i64 (20+v1.1.1))))then
 let v3:=(List.set (List.replicate 1 (zero a1E)) 0 ((w0,1000,()),false,()))
 bif (a0F (List.length v.2.2.2.2.1+List.length v3))then
 f ((((),(),(),()),v1.2.1,v.2.2.1,v.2.2.2.1,(v.2.2.2.2.1++v3),()))
 else
 none
 else
 some ((((),(),()),v1.2.1,v.2.2))
 else
 none
theorem d5U (k34 g34 k143 g143 k77 g77 k144 g144 kl3 xl3 kl18 xl18 f v) :EBk (f4s k34 g34 k143 g143 k77 g77 k144 g144 kl3 xl3 kl18 xl18) c9T (a0B [0,2,3] [] 3 [2,3] [] (atS b4I f) (a5W b4J)) (mkS b4I v)=c3Q k34 g34 k143 g143 k77 g77 k144 g144 f v:=by kernel_rfl
def d9n (v:a5s):Nat:=v.2.1.1.length+v.2.1.2.1.natAbs+v.2.1.2.2.1.natAbs+v.2.2.1.1.natAbs+v.2.2.1.2.1.natAbs+v.2.2.1.2.2.1.natAbs+v.2.2.1.2.2.2.1.natAbs+v.2.2.1.2.2.2.2.2.1.natAbs+v.2.2.1.2.2.2.2.2.2.1.natAbs+v.2.2.1.2.2.2.2.2.2.2.1.natAbs+v.2.2.1.2.2.2.2.2.2.2.2.1.natAbs+v.2.2.2.1.1.natAbs+v.2.2.2.1.2.1.natAbs+v.2.2.2.1.2.2.1.natAbs+v.2.2.2.1.2.2.2.1.natAbs+v.2.2.2.1.2.2.2.2.2.1.natAbs+v.2.2.2.1.2.2.2.2.2.2.1.natAbs+v.2.2.2.1.2.2.2.2.2.2.2.1.natAbs+v.2.2.2.1.2.2.2.2.2.2.2.2.1.natAbs+v.2.2.2.2.1.length+1000
def c9U (v:a5s):Option (b8G):=a1u (c3Q K34 G34 d3X c3O K77 G77 d3Z d4a) (d9n v) v
def b0O (v:a5s):Bool:=(c9U v).isSome
def a8l (v:a5s):b8G:=(c9U v).getD (((),((),())),(([],(0,(0,()))),((0,(0,(0,(0,((),(0,(0,(0,(0,()))))))))),((0,(0,(0,(0,((),(0,(0,(0,(0,()))))))))),([],())))))
def d5V (k34:KI I34) (g34:GI I34 O34) (k143:KI c0N) (g143:GI c0N d3W) (k77:KI I77) (g77:GI I77 O77) (k144:KI c0O) (g144:GI c0O d3Y) (f:b4H->Option (c9S)) (v:b4H):Option (c9S):=
 bif (decide (v.1.2.2.2.1>0))then
 let v0:=(IntKind.wrap .i64 (100*Int.tmod (↑(List.length v.2.2.2.2.1):Int) 2))
 let w0:=(((),(v0,0,()),40,()),v.2.1,())
 bif (k143 w0)then
 let v2:=(g143 w0)
 bif (k77 (((),2,()),v2.2))then
 let v4:=(g77 (((),2,()),v2.2))
 let v5:=(List.set (List.replicate 1 (zero a1E)) 0 (v2.1.1,v4.1))
 bif (a0F (List.length v.2.2.2.2.1+List.length v5))then
 f ((((),(),(),(IntKind.wrap .i64 (v.1.2.2.2.1-1)),()),v4.2.1,v.2.2.1,v.2.2.2.1,(v.2.2.2.2.1++v5),()))
 else
 none
 else
 none
 else
 none
 else
 some ((((),(),(),()),v.2))
theorem e2o (k34 g34 k143 g143 k77 g77 k144 g144 kl3 xl3 kl18 xl18 f v) :EBk (f4s k34 g34 k143 g143 k77 g77 k144 g144 kl3 xl3 kl18 xl18) d9m (a0B [0,2,3,4] [.boxNil 3 4] 0 [0,2,3] [] (atS c3P f) (a5W c1F)) (mkS c3P v)=d5V k34 g34 k143 g143 k77 g77 k144 g144 f v:=by kernel_rfl
def e6Z (v:b4H):Nat:=v.1.2.2.2.1.natAbs+v.2.1.1.length+v.2.1.2.1.natAbs+v.2.1.2.2.1.natAbs+v.2.2.1.1.natAbs+v.2.2.1.2.1.natAbs+v.2.2.1.2.2.1.natAbs+v.2.2.1.2.2.2.1.natAbs+v.2.2.1.2.2.2.2.2.1.natAbs+v.2.2.1.2.2.2.2.2.2.1.natAbs+v.2.2.1.2.2.2.2.2.2.2.1.natAbs+v.2.2.1.2.2.2.2.2.2.2.2.1.natAbs+v.2.2.2.1.1.natAbs+v.2.2.2.1.2.1.natAbs+v.2.2.2.1.2.2.1.natAbs+v.2.2.2.1.2.2.2.1.natAbs+v.2.2.2.1.2.2.2.2.2.1.natAbs+v.2.2.2.1.2.2.2.2.2.2.1.natAbs+v.2.2.2.1.2.2.2.2.2.2.2.1.natAbs+v.2.2.2.1.2.2.2.2.2.2.2.2.1.natAbs+v.2.2.2.2.1.length+1000
def e2p (v:b4H):Option (c9S):=a1u (d5V K34 G34 d3X c3O K77 G77 d3Z d4a) (e6Z v) v
def c3R (v:b4H):Bool:=(e2p v).isSome
def b2z (v:b4H):c9S:=(e2p v).getD (((),((),((),()))),(([],(0,(0,()))),((0,(0,(0,(0,((),(0,(0,(0,(0,()))))))))),((0,(0,(0,(0,((),(0,(0,(0,(0,()))))))))),([],())))))
def r76 (k34:KI I34) (g34:GI I34 O34) (k143:KI c0N) (g143:GI c0N d3W) (k77:KI I77) (g77:GI I77 O77) (k144:KI c0O) (g144:GI c0O d3Y) (kl3:b4H->Bool) (xl3:b4H->c9S) (kl18:a5s->Bool) (xl18:a5s->b8G) (x:I76.den):Option (O76.den):=
 bif (k34 (((),9,()),x.2))then
 let v1:=(g34 (((),9,()),x.2))
 bif (k34 (((),3,()),v1.2))then
 let v3:=(g34 (((),3,()),v1.2))
 let v4:=(IntKind.wrap .i64 (1+v3.1.1))
 let v5:=(IntKind.wrap .i64 (v1.1.1-4))
 let w1:=(((),(),(),v4,()),v3.2.1,(0,0,0,0,(),0,0,0,0,()),(0,-20,v5,20,(),0,0,0,0,()),[],())
 bif (kl3 w1)then
 let v7:=(xl3 w1)
 let w2:=(((),(50,-20,()),20,()),v7.2.1,())
 bif (k143 w2)then
 let v9:=(g143 w2)
 let w4:=(((),(50,20,()),20,()),v9.2)
 bif (k143 w4)then
 let v11:=(g143 w4)
 bif (k34 (((),20,()),v11.2))then
 let v13:=(g34 (((),20,()),v11.2))
 bif (v13.1.1==0)then
 some ((((((v7.2.2.2.1.1,v7.2.2.2.1.2.1,()),(v7.2.2.2.1.2.2.1,v7.2.2.2.1.2.2.2.1,()),()),List.replicate 0 (zero a1E),(v9.1.1,v11.1),()),()),v13.2))
 else
 bif (v13.1.1==1)then
 bif (decide (0<=0)&&decide (0<(↑(List.length v7.2.2.2.2.1):Int)))then
 let w3:=(v7.2.2.2.1.1,v7.2.2.2.1.2.1,())
 some (((((w3,(v7.2.2.2.1.2.2.1,v7.2.2.2.1.2.2.2.1,()),()),(List.set v7.2.2.2.2.1 (Int.toNat 0) (w3,(List.getD v7.2.2.2.2.1 (Int.toNat 0) (zero a1E)).2)),(v9.1.1,v11.1),()),()),v13.2))
 else
 none
 else
 bif (v13.1.1==2)then
 bif (k144 (((),()),v13.2))then
 let v15:=(g144 (((),()),v13.2))
 some ((((v15.1.1,v7.2.2.2.2.1,(v9.1.1,v11.1),()),()),v15.2))
 else
 none
 else
 bif (v13.1.1==3)then
 some ((((((v7.2.2.2.1.1,v7.2.2.2.1.2.1,()),(v7.2.2.2.1.2.2.1,v7.2.2.2.1.2.2.2.1,()),()),v7.2.2.2.2.1,(v11.1.1,v11.1),()),()),v13.2))
 else
 bif (v13.1.1==4)then
 let w0:=(((),(),(),()),v13.2.1,(v7.2.2.1.1,v7.2.2.1.2.1,v7.2.2.1.2.2.1,v7.2.2.1.2.2.2.1,(),v7.2.2.1.2.2.2.2.2),(v7.2.2.2.1.1,v7.2.2.2.1.2.1,v7.2.2.2.1.2.2.1,v7.2.2.2.1.2.2.2.1,(),v9.1.1.1,v9.1.1.2.1,v11.1.1),v7.2.2.2.2)
 bif (kl18 w0)then
 let v15:=(xl18 w0)
 some ((((((v15.2.2.2.1.1,v15.2.2.2.1.2.1,()),(v15.2.2.2.1.2.2.1,v15.2.2.2.1.2.2.2.1,()),()),v15.2.2.2.2.1,((v15.2.2.2.1.2.2.2.2.2.1,v15.2.2.2.1.2.2.2.2.2.2.1,()),v15.2.2.2.1.2.2.2.2.2.2.2,()),()),()),v15.2.1,()))
 else
 none
 else
 some ((((((v7.2.2.2.1.1,v7.2.2.2.1.2.1,()),(v7.2.2.2.1.2.2.1,v7.2.2.2.1.2.2.2.1,()),()),v7.2.2.2.2.1,(v9.1.1,v11.1),()),()),v13.2))
 else
 none
 else
 none
 else
 none
 else
 none
 else
 none
 else
 none
theorem g0c (k34 g34 k143 g143 k77 g77 k144 g144 kl3 xl3 kl18 xl18 x) :a1N (f4s k34 g34 k143 g143 k77 g77 k144 g144 kl3 xl3 kl18 xl18) (a0e Tryz.f76) I76 O76 x=r76 k34 g34 k143 g143 k77 g77 k144 g144 kl3 xl3 kl18 xl18 x:=by kernel_rfl
def F76 (x:I76.den):Option (O76.den):=r76 K34 G34 d3X c3O K77 G77 d3Z d4a c3R b2z b0O a8l x
def K76 (x:I76.den):Bool:=(F76 x).isSome
def G76 (x:I76.den):O76.den:=(F76 x).getD (a1d O76)
theorem f4t:a0q Tryz.prog (76,a0n true I76 O76 K76 G76):=a1k (a0j mixed a0l a0k (.cons a4z (.cons e6W (.cons b1M (.cons e6Y .nil))))) (a0O Tryz.func76 rfl rfl rfl (by kernel_rfl) (a0D (l:=[d9m,c9T]) (by kernel_rfl) (.cons (a0r rfl (a0y (sh:=c3P) (shX:=c1F) (fun f v=>e2o K34 G34 d3X c3O K77 G77 d3Z d4a c3R b2z b0O a8l f v) e6Z (((),((),((),()))),(([],(0,(0,()))),((0,(0,(0,(0,((),(0,(0,(0,(0,()))))))))),((0,(0,(0,(0,((),(0,(0,(0,(0,()))))))))),([],()))))))) (.cons (a0r rfl (a0y (sh:=b4I) (shX:=b4J) (fun f v=>d5U K34 G34 d3X c3O K77 G77 d3Z d4a c3R b2z b0O a8l f v) d9n (((),((),())),(([],(0,(0,()))),((0,(0,(0,(0,((),(0,(0,(0,(0,()))))))))),((0,(0,(0,(0,((),(0,(0,(0,(0,()))))))))),([],()))))))) (.nil))))) true fun x=>g0c K34 G34 d3X c3O K77 G77 d3Z d4a c3R b2z b0O a8l x
abbrev I33:Sg:=⟨[.ptr 0,.val (.int .i64)],[.box (a2O)]⟩
abbrev O33:Sg:=⟨[.val (.cpx .f64)],[.box (a2O)]⟩
noncomputable def g0d (k81 g81) :=a0t tab eqs [(81,a0n true I81 O81 k81 g81)] 12 [.tmp 4] [] [] [] [] []
def r33 (k81:KI I81) (g81:GI I81 O81) (x:I33.den):Option (O33.den):=
 bif (k81 (((),x.1.2),x.2))then
 let v1:=(g81 (((),x.1.2),x.2))
 bif (k81 (((),x.1.2),v1.2))then
 let v3:=(g81 (((),x.1.2),v1.2))
 some ((((v1.1.1,v3.1.1),()),v3.2))
 else
 none
 else
 none
theorem g0e (k81 g81 x) :a1N (g0d k81 g81) (a0e Tryz.f33) I33 O33 x=r33 k81 g81 x:=by kernel_rfl
def F33 (x:I33.den):Option (O33.den):=r33 K81 G81 x
def K33 (x:I33.den):Bool:=(F33 x).isSome
def G33 (x:I33.den):O33.den:=(F33 x).getD (a1d O33)
theorem e7a:a0q Tryz.prog (33,a0n true I33 O33 K33 G33):=a1k (a0j mixed a0l a0k (.cons e6R .nil)) (a0O Tryz.func33 rfl rfl rfl (by kernel_rfl) (a0m (by kernel_rfl))) true fun x=>g0e K81 G81 x
abbrev c1G:Ty:=.cons (.slice (.int .u8)) (.nil)
abbrev d4b:Ty:=.cons (.cpx .f64) (.nil)
noncomputable def f4u (k30 g30 k33 g33 k34 g34 k146 g146) :=a0t tab eqs [(30,a0n false I30 O30 k30 g30),(33,a0n true I33 O33 k33 g33),(34,a0n true I34 O34 k34 g34),(146,a0n true b2w c6u k146 g146)] 26 [.tmp 2] [] [] [] [] []
def f4v (k30:KI I30) (g30:GI I30 O30) (k33:KI I33) (g33:GI I33 O33) (k34:KI I34) (g34:GI I34 O34) (k146:KI b2w) (g146:GI b2w c6u) (x:Den c1G):Option (Den d4b):=
 bif (k30 (x,()))then
 let v1:=(g30 (x,()))
 bif (k33 (((),1000,()),v1.2))then
 let v3:=(g33 (((),1000,()),v1.2))
 bif (k34 (((),6,()),v3.2))then
 let v5:=(g34 (((),6,()),v3.2))
 bif (v5.1.1==0)then
 some (((4726483295884279808,13949855332739055616),()))
 else
 bif (v5.1.1==1)then
 some (((v3.1.1.1,4726483295884279809),()))
 else
 bif (v5.1.1==2)then
 bif (k146 (((),()),v5.2))then
 let v7:=(g146 (((),()),v5.2))
 bif (k146 (((),()),v7.2))then
 some (((v7.1.1,(g146 (((),()),v7.2)).1.1),()))
 else
 none
 else
 none
 else
 some v3.1
 else
 none
 else
 none
 else
 none
theorem f4w (k30 g30 k33 g33 k34 g34 k146 g146 x) :a0E (f4u k30 g30 k33 g33 k34 g34 k146 g146) (a0e Tryz.f145) (a1f d4b) (a0V c1G x) []=f4v k30 g30 k33 g33 k34 g34 k146 g146 x:=by kernel_rfl
def f0T (x:Den c1G):Option (Den d4b):=f4v K30 G30 K33 G33 K34 G34 d3U d3V x
def d5W (x:Den c1G):Bool:=(f0T x).isSome
def d9o (x:Den c1G):Den d4b:=(f0T x).getD (zero d4b)
theorem e7b:a0q Tryz.prog (145,a0a c1G d4b d5W d9o):=a0s (a0j mixed a0l a0k (.cons e6N (.cons e7a (.cons a4z (.cons c9L .nil))))) (a0O Tryz.func145 rfl rfl rfl (by kernel_rfl) (a0m (by kernel_rfl))) fun x=>f4w K30 G30 K33 G33 K34 G34 d3U d3V x
abbrev a8m:Sg:=⟨[.ptr 0],[.box (a2O)]⟩
abbrev b1C:Sg:=⟨[.val (.cpx .f32)],[.box (a2O)]⟩
noncomputable def d5X (k77 g77 k146 g146 k125 g125 k141 g141) :=a0t tab eqs [(77,a0n true I77 O77 k77 g77),(146,a0n true b2w c6u k146 g146),(125,a0n true b2x c6v k125 g125),(141,a0n true a2j a3y k141 g141)] 30 [.tmp 2] [] [] [] [] []
def f8E (k77:KI I77) (g77:GI I77 O77) (k146:KI b2w) (g146:GI b2w c6u) (k125:KI b2x) (g125:GI b2x c6v) (k141:KI a2j) (g141:GI a2j a3y) (x:a8m.den):Option (b1C.den):=
 bif (k77 (((),30,()),x.2))then
 let v1:=(g77 (((),30,()),x.2))
 bif v1.1.1 then
 bif (k146 (((),()),v1.2))then
 let v3:=(g146 (((),()),v1.2))
 let w0:=(a0Z .f64 .f32 v3.1.1)
 bif (w0.1)then
 bif (k146 (((),()),v3.2))then
 let v5:=(g146 (((),()),v3.2))
 let w1:=(a0Z .f64 .f32 v5.1.1)
 bif (w1.1)then
 some ((((w0.2,w1.2),()),v5.2))
 else
 none
 else
 none
 else
 none
 else
 none
 else
 bif (k77 (((),20,()),v1.2))then
 let v3:=(g77 (((),20,()),v1.2))
 bif v3.1.1 then
 let v7:=(List.set (List.set (List.set (List.set (List.replicate 4 (zero (Ty.int IntKind.i64))) 0 100) 1 (-100)) 2 101) 3 0)
 bif (k125 (((),(),()),v3.2.1,v7,()))then
 let v9:=(g125 (((),(),()),v3.2.1,v7,()))
 bif (k141 (((),100,()),v9.2.1,()))then
 let v11:=(g141 (((),100,()),v9.2.1,()))
 some ((((FloatKind.nearest .f32 v9.1.1,v11.1.1),()),v11.2))
 else
 none
 else
 none
 else
 bif (k141 (((),15,()),v3.2))then
 let v5:=(g141 (((),15,()),v3.2))
 bif (k141 (((),15,()),v5.2))then
 let v7:=(g141 (((),15,()),v5.2))
 some ((((v5.1.1,v7.1.1),()),v7.2))
 else
 none
 else
 none
 else
 none
 else
 none
theorem f4x (k77 g77 k146 g146 k125 g125 k141 g141 x) :a1N (d5X k77 g77 k146 g146 k125 g125 k141 g141) (a0e Tryz.f128) a8m b1C x=f8E k77 g77 k146 g146 k125 g125 k141 g141 x:=by kernel_rfl
def f8F (x:a8m.den):Option (b1C.den):=f8E K77 G77 d3U d3V c9N c0M a9C a9D x
def d9p (x:a8m.den):Bool:=(f8F x).isSome
def d9q (x:a8m.den):b1C.den:=(f8F x).getD (a1d b1C)
theorem d9r:a1y Tryz.prog (d5X K77 G77 d3U d3V c9N c0M a9C a9D):=a0j mixed a0l a0k (.cons b1M (.cons c9L (.cons c9O (.cons c9M .nil))))
theorem e7c:a6i Tryz.prog 128 (d5X K77 G77 d3U d3V c9N c0M a9C a9D) (a0e Tryz.f128):=a0O Tryz.func128 rfl rfl rfl (by kernel_rfl) (a0m (by kernel_rfl))
theorem e7d:a0q Tryz.prog (128,a0n true a8m b1C d9p d9q):=a1k d9r e7c true fun x=>f4x K77 G77 d3U d3V c9N c0M a9C a9D x
abbrev I79:Sg:=⟨[.ptr 0],[.box (a2O)]⟩
abbrev O79:Sg:=⟨[.val (S30)],[.box (a2O)]⟩
abbrev a5t:Type:=((Unit×(Unit×(Unit×Unit)))×(((List (Den (.int .u8)))×(Int×(Int×Unit)))×((Unit×(Unit×Unit))×((Unit×(Unit×Unit))×((List (Den (a0S)))×((List (Den (.int .i64)))×Unit))))))
def b4K:ShS:=⟨[(0,.one (.ptr 0 0)),(2,.one (.ptr 1 0)),(3,.one (.ptr 2 0))],[(0,.box [.sl (.int .u8),.int .i64,.int .i64]),(1,.box [.nil (a0S),.nil (.int .i64)]),(2,.box [.ref (a0S) 3,.ref (.int .i64) 4]),(3,.arr (a0S)),(4,.arr (.int .i64))],5,1⟩
abbrev b2A:Type:=((Unit×(Unit×Unit))×(((List (Den (.int .u8)))×(Int×(Int×Unit)))×((Unit×(Unit×Unit))×((Unit×(Unit×Unit))×((List (Den (a0S)))×((List (Den (.int .i64)))×Unit))))))
def b4L:ShS:=⟨[(2,.one (.ptr 1 0)),(3,.one (.ptr 2 0))],[(0,.box [.sl (.int .u8),.int .i64,.int .i64]),(1,.box [.nil (a0S),.nil (.int .i64)]),(2,.box [.ref (a0S) 3,.ref (.int .i64) 4]),(3,.arr (a0S)),(4,.arr (.int .i64))],5,1⟩
noncomputable def e7e (k74 g74 k34 g34 k82 g82 k145 g145 k128 g128 k142 g142 kl15 xl15) :=a0t tab eqs [(74,a0n true I74 O74 k74 g74),(34,a0n true I34 O34 k34 g34),(82,a0n true I82 O82 k82 g82),(145,a0a c1G d4b k145 g145),(128,a0n true a8m b1C k128 g128),(142,a0n true a6m b4E k142 g142)] 94 [.cell 2 31] [] [] [(15,a1X [0,2,3] [] 1 [2,3] [] b4K b4L kl15 xl15)] [] [.frzBox 2]
noncomputable def c9V:Code:=(a0u (a0e Tryz.f79)).getD 0 .skip
def c3S (k74:KI I74) (g74:GI I74 O74) (k34:KI I34) (g34:GI I34 O34) (k82:KI I82) (g82:GI I82 O82) (k145:KA c1G) (g145:GA c1G d4b) (k128:KI a8m) (g128:GI a8m b1C) (k142:KI a6m) (g142:GI a6m b4E) (f:a5t->Option (b2A)) (v:a5t):Option (b2A):=
 bif (k34 (((),2,()),v.2.1,()))then
 let v1:=(g34 (((),2,()),v.2.1,()))
 let w0:=(↑(List.length v.2.2.2.2.1):Int)
 bif (decide (w0<(IntKind.wrap .i64 (20+v1.1.1))))then
 bif (decide (0<=0)&&decide (0<w0))then
 let v4:=(List.set (List.replicate 1 (zero a0S)) 0 (List.getD v.2.2.2.2.1 (Int.toNat 0) (zero a0S)))
 bif (a0F (List.length v.2.2.2.2.1+List.length v4))then
 f ((((),(),(),()),v1.2.1,((),(),()),((),(),()),(v.2.2.2.2.1++v4),v.2.2.2.2.2))
 else
 none
 else
 none
 else
 some ((((),(),()),v1.2.1,((),(),()),((),(),()),v.2.2.2.2))
 else
 none
theorem d5Y (k74 g74 k34 g34 k82 g82 k145 g145 k128 g128 k142 g142 kl15 xl15 f v) :EBk (e7e k74 g74 k34 g34 k82 g82 k145 g145 k128 g128 k142 g142 kl15 xl15) c9V (a0B [0,2,3] [] 1 [2,3] [] (atS b4K f) (a5W b4L)) (mkS b4K v)=c3S k74 g74 k34 g34 k82 g82 k145 g145 k128 g128 k142 g142 f v:=by kernel_rfl
def c9W (v:a5t):Nat:=v.2.1.1.length+v.2.1.2.1.natAbs+v.2.1.2.2.1.natAbs+v.2.2.2.2.1.length+v.2.2.2.2.2.1.length+1000
def c9X (v:a5t):Option (b2A):=a1u (c3S K74 G74 K34 G34 K82 G82 d5W d9o d9p d9q a7T a7U) (c9W v) v
def a6H (v:a5t):Bool:=(c9X v).isSome
def a6I (v:a5t):b2A:=(c9X v).getD (((),((),())),(([],(0,(0,()))),(((),((),())),(((),((),())),([],([],()))))))
def r79 (k74:KI I74) (g74:GI I74 O74) (k34:KI I34) (g34:GI I34 O34) (k82:KI I82) (g82:GI I82 O82) (k145:KA c1G) (g145:GA c1G d4b) (k128:KI a8m) (g128:GI a8m b1C) (k142:KI a6m) (g142:GI a6m b4E) (kl15:a5t->Bool) (xl15:a5t->b2A) (x:I79.den):Option (O79.den):=
 bif (k74 (((),()),x.2))then
 let v1:=(g74 (((),()),x.2))
 let w0:=(↑(List.length v1.2.2.1):Int)
 bif (k34 (((),w0,()),v1.2.1,()))then
 let v3:=(g34 (((),w0,()),v1.2.1,()))
 bif (k34 (((),24,()),v3.2))then
 let v5:=(g34 (((),24,()),v3.2))
 bif (v5.1.1==0)then
 bif (k82 (((),()),v5.2))then
 let v7:=(g82 (((),()),v5.2))
 let v9:=(List.set (List.replicate 1 (zero (Ty.int IntKind.u8))) 0 (IntKind.wrap .u8 v7.1.1))
 bif (k145 (v9,()))then
 bif (decide (0<=v3.1.1)&&decide (v3.1.1<w0))then
 some (((((List.set v1.2.2.1 (Int.toNat v3.1.1) ((g145 (v9,())).1,(List.getD v1.2.2.1 (Int.toNat v3.1.1) (zero a0S)).2)),v1.2.2.2),()),v7.2))
 else
 none
 else
 none
 else
 none
 else
 bif (v5.1.1==1)then
 bif (k34 (((),13,()),v5.2))then
 let v7:=(g34 (((),13,()),v5.2))
 bif (k128 (((),()),v7.2))then
 bif (decide (0<=v3.1.1)&&decide (v3.1.1<w0))then
 bif (decide (0<=v7.1.1)&&decide (v7.1.1<(↑13:Int)))then
 let v9:=(List.getD v1.2.2.1 (Int.toNat v3.1.1) (zero a0S))
 let v10:=(g128 (((),()),v7.2))
 let w2:=(0+1+1+1+1+1+1+1+1+1+1+1+1)
 let w4:=(0+1+1+1+1+1+1+1+1+1+1+1)
 let w5:=(0+1+1+1+1+1+1+1+1+1+1)
 let w6:=(0+1+1+1+1+1+1+1+1+1)
 let w7:=(0+1+1+1+1+1+1+1+1)
 let w8:=(0+1+1+1+1+1+1+1)
 let w10:=(0+1+1+1+1+1+1)
 some (((((List.set v1.2.2.1 (Int.toNat v3.1.1) (v9.1,((bif Nat.beq 0 (Int.toNat v7.1.1)then v10.1.1.1 else v9.2.1.1.1,bif Nat.beq 0 (Int.toNat v7.1.1)then v10.1.1.2 else v9.2.1.1.2),(bif Nat.beq (0+1) (Int.toNat v7.1.1)then v10.1.1.1 else v9.2.1.2.1.1,bif Nat.beq (0+1) (Int.toNat v7.1.1)then v10.1.1.2 else v9.2.1.2.1.2),(bif Nat.beq (0+1+1) (Int.toNat v7.1.1)then v10.1.1.1 else v9.2.1.2.2.1.1,bif Nat.beq (0+1+1) (Int.toNat v7.1.1)then v10.1.1.2 else v9.2.1.2.2.1.2),(bif Nat.beq (0+1+1+1) (Int.toNat v7.1.1)then v10.1.1.1 else v9.2.1.2.2.2.1.1,bif Nat.beq (0+1+1+1) (Int.toNat v7.1.1)then v10.1.1.2 else v9.2.1.2.2.2.1.2),(bif Nat.beq (0+1+1+1+1) (Int.toNat v7.1.1)then v10.1.1.1 else v9.2.1.2.2.2.2.1.1,bif Nat.beq (0+1+1+1+1) (Int.toNat v7.1.1)then v10.1.1.2 else v9.2.1.2.2.2.2.1.2),(bif Nat.beq (0+1+1+1+1+1) (Int.toNat v7.1.1)then v10.1.1.1 else v9.2.1.2.2.2.2.2.1.1,bif Nat.beq (0+1+1+1+1+1) (Int.toNat v7.1.1)then v10.1.1.2 else v9.2.1.2.2.2.2.2.1.2),(bif Nat.beq w10 (Int.toNat v7.1.1)then v10.1.1.1 else v9.2.1.2.2.2.2.2.2.1.1,bif Nat.beq w10 (Int.toNat v7.1.1)then v10.1.1.2 else v9.2.1.2.2.2.2.2.2.1.2),(bif Nat.beq w8 (Int.toNat v7.1.1)then v10.1.1.1 else v9.2.1.2.2.2.2.2.2.2.1.1,bif Nat.beq w8 (Int.toNat v7.1.1)then v10.1.1.2 else v9.2.1.2.2.2.2.2.2.2.1.2),(bif Nat.beq w7 (Int.toNat v7.1.1)then v10.1.1.1 else v9.2.1.2.2.2.2.2.2.2.2.1.1,bif Nat.beq w7 (Int.toNat v7.1.1)then v10.1.1.2 else v9.2.1.2.2.2.2.2.2.2.2.1.2),(bif Nat.beq w6 (Int.toNat v7.1.1)then v10.1.1.1 else v9.2.1.2.2.2.2.2.2.2.2.2.1.1,bif Nat.beq w6 (Int.toNat v7.1.1)then v10.1.1.2 else v9.2.1.2.2.2.2.2.2.2.2.2.1.2),(bif Nat.beq w5 (Int.toNat v7.1.1)then v10.1.1.1 else v9.2.1.2.2.2.2.2.2.2.2.2.2.1.1,bif Nat.beq w5 (Int.toNat v7.1.1)then v10.1.1.2 else v9.2.1.2.2.2.2.2.2.2.2.2.2.1.2),(bif Nat.beq w4 (Int.toNat v7.1.1)then v10.1.1.1 else v9.2.1.2.2.2.2.2.2.2.2.2.2.2.1.1,bif Nat.beq w4 (Int.toNat v7.1.1)then v10.1.1.2 else v9.2.1.2.2.2.2.2.2.2.2.2.2.2.1.2),(bif Nat.beq w2 (Int.toNat v7.1.1)then v10.1.1.1 else v9.2.1.2.2.2.2.2.2.2.2.2.2.2.2.1.1,bif Nat.beq w2 (Int.toNat v7.1.1)then v10.1.1.2 else v9.2.1.2.2.2.2.2.2.2.2.2.2.2.2.1.2),()),())),v1.2.2.2),()),v10.2))
 else
 none
 else
 none
 else
 none
 else
 none
 else
 bif (v5.1.1==2)then
 let w1:=(↑(List.length v1.2.2.2.1):Int)
 bif (k34 (((),w1,()),v5.2))then
 let v7:=(g34 (((),w1,()),v5.2))
 bif (k142 (((),()),v7.2))then
 bif (decide (0<=v7.1.1)&&decide (v7.1.1<w1))then
 let v9:=(g142 (((),()),v7.2))
 some ((((v1.2.2.1,(List.set v1.2.2.2.1 (Int.toNat v7.1.1) v9.1.1),()),()),v9.2))
 else
 none
 else
 none
 else
 none
 else
 bif (v5.1.1==3)then
 some ((((v1.2.2.1,List.replicate 0 (zero (Ty.int IntKind.i64)),()),()),v5.2))
 else
 bif (v5.1.1==4)then
 some ((((List.replicate 0 (zero a0S),v1.2.2.2),()),v5.2))
 else
 bif (v5.1.1==5)then
 let w3:=(((),(),(),()),v5.2.1,((),(),()),((),(),()),v1.2.2)
 bif (kl15 w3)then
 let v7:=(xl15 w3)
 some (((v7.2.2.2.2,()),v7.2.1,()))
 else
 none
 else
 bif (v5.1.1==6)then
 let w9:=(↑(List.length v1.2.2.2.1):Int)
 let v6:=(IntKind.wrap .i64 (w9-1))
 bif (decide (0<=v6)&&decide (v6<w9))then
 let w11:=(zero (Ty.int IntKind.i64))
 let v10:=(List.set (List.replicate 1 w11) 0 (IntKind.wrap .i64 ((IntKind.wrap .i64 ((List.getD v1.2.2.2.1 (Int.toNat v6) w11)+21600))-1)))
 bif (a0F (List.length v1.2.2.2.1+List.length v10))then
 some ((((v1.2.2.1,(v1.2.2.2.1++v10),()),()),v5.2))
 else
 none
 else
 none
 else
 some (((v1.2.2,()),v5.2))
 else
 none
 else
 none
 else
 none
theorem g0f (k74 g74 k34 g34 k82 g82 k145 g145 k128 g128 k142 g142 kl15 xl15 x) :a1N (e7e k74 g74 k34 g34 k82 g82 k145 g145 k128 g128 k142 g142 kl15 xl15) (a0e Tryz.f79) I79 O79 x=r79 k74 g74 k34 g34 k82 g82 k145 g145 k128 g128 k142 g142 kl15 xl15 x:=by kernel_rfl
def F79 (x:I79.den):Option (O79.den):=r79 K74 G74 K34 G34 K82 G82 d5W d9o d9p d9q a7T a7U a6H a6I x
def K79 (x:I79.den):Bool:=(F79 x).isSome
def G79 (x:I79.den):O79.den:=(F79 x).getD (a1d O79)
theorem e7f:a1y Tryz.prog (e7e K74 G74 K34 G34 K82 G82 d5W d9o d9p d9q a7T a7U a6H a6I):=a0j mixed a0l a0k (.cons e6Q (.cons a4z (.cons e6O (.cons e7b (.cons e7d (.cons c9P .nil))))))
theorem f8G:a6i Tryz.prog 79 (e7e K74 G74 K34 G34 K82 G82 d5W d9o d9p d9q a7T a7U a6H a6I) (a0e Tryz.f79):=a0O Tryz.func79 rfl rfl rfl (by kernel_rfl) (a0D (l:=[c9V]) (by kernel_rfl) (.cons (a0r rfl (a0y (sh:=b4K) (shX:=b4L) (fun f v=>d5Y K74 G74 K34 G34 K82 G82 d5W d9o d9p d9q a7T a7U a6H a6I f v) c9W (((),((),())),(([],(0,(0,()))),(((),((),())),(((),((),())),([],([],())))))))) (.nil)))
theorem f4y:a0q Tryz.prog (79,a0n true I79 O79 K79 G79):=a1k e7f f8G true fun x=>g0f K74 G74 K34 G34 K82 G82 d5W d9o d9p d9q a7T a7U a6H a6I x
abbrev I67:Sg:=⟨[.ptr 0,.val (S40)],[.box (a2O)]⟩
abbrev O67:Sg:=⟨[.val (.str)],[.box (a2O)]⟩
noncomputable def g0g (k34 g34 k130 g130 k83 g83 k77 g77 k131 g131) :=a0t tab eqs [(34,a0n true I34 O34 k34 g34),(130,a0a c7D d3T k130 g130),(83,a0a A83 R83 k83 g83),(77,a0n true I77 O77 k77 g77),(131,a0n true b1N c6s k131 g131)] 81 [.tmp 4] [] [] [] [] []
def r67 (k34:KI I34) (g34:GI I34 O34) (k130:KA c7D) (g130:GA c7D d3T) (k83:KA A83) (g83:GA A83 R83) (k77:KI I77) (g77:GI I77 O77) (k131:KI b1N) (g131:GI b1N c6s) (x:I67.den):Option (O67.den):=
 bif (k34 (((),12,()),x.2))then
 let v1:=(g34 (((),12,()),x.2))
 bif (v1.1.1==0)then
 bif (k34 (((),365,()),v1.2))then
 let v3:=(g34 (((),365,()),v1.2))
 bif (k130 v3.1)then
 let v5:=(g130 v3.1)
 bif (decide (ByteArray.size { data:=#[115,116,101,101,114,32] }+ByteArray.size v5.1<=9223372036854775807))then
 some (((({ data:=#[115,116,101,101,114,32] }++v5.1),()),v3.2))
 else
 none
 else
 none
 else
 none
 else
 bif (v1.1.1==1)then
 bif (k34 (((),365,()),v1.2))then
 let v3:=(g34 (((),365,()),v1.2))
 bif (k130 v3.1)then
 let v5:=(g130 v3.1)
 bif (decide (ByteArray.size { data:=#[115,116,101,101,114,32] }+ByteArray.size v5.1<=9223372036854775807))then
 some (((({ data:=#[115,116,101,101,114,32] }++v5.1),()),v3.2))
 else
 none
 else
 none
 else
 none
 else
 bif (v1.1.1==2)then
 bif (k34 (((),25,()),v1.2))then
 let v3:=(g34 (((),25,()),v1.2))
 let v5:=(IntKind.wrap .i64 ((IntKind.wrap .i64 (1000*v3.1.1))-12000))
 bif (k83 (v5,()))then
 let v7:=(g83 (v5,()))
 bif (decide (ByteArray.size { data:=#[119,105,110,100,32] }+ByteArray.size v7.1<=9223372036854775807))then
 let v8:=({ data:=#[119,105,110,100,32] }++v7.1)
 bif (decide (ByteArray.size v8+ByteArray.size { data:=#[32] }<=9223372036854775807))then
 bif (k34 (((),49,()),v3.2))then
 let v10:=(g34 (((),49,()),v3.2))
 let v12:=(IntKind.wrap .i64 ((IntKind.wrap .i64 (500*v10.1.1))-12000))
 bif (k83 (v12,()))then
 let v14:=(v8++{ data:=#[32] })
 let v15:=(g83 (v12,()))
 bif (decide (ByteArray.size v14+ByteArray.size v15.1<=9223372036854775807))then
 some ((((v14++v15.1),()),v10.2))
 else
 none
 else
 none
 else
 none
 else
 none
 else
 none
 else
 none
 else
 none
 else
 bif (v1.1.1==3)then
 bif (k34 (((),25,()),v1.2))then
 let v3:=(g34 (((),25,()),v1.2))
 let v5:=(IntKind.wrap .i64 ((IntKind.wrap .i64 (1000*v3.1.1))-12000))
 bif (k83 (v5,()))then
 let v7:=(g83 (v5,()))
 bif (decide (ByteArray.size { data:=#[119,105,110,100,32] }+ByteArray.size v7.1<=9223372036854775807))then
 let v8:=({ data:=#[119,105,110,100,32] }++v7.1)
 bif (decide (ByteArray.size v8+ByteArray.size { data:=#[32] }<=9223372036854775807))then
 bif (k34 (((),49,()),v3.2))then
 let v10:=(g34 (((),49,()),v3.2))
 let v12:=(IntKind.wrap .i64 ((IntKind.wrap .i64 (500*v10.1.1))-12000))
 bif (k83 (v12,()))then
 let v14:=(v8++{ data:=#[32] })
 let v15:=(g83 (v12,()))
 bif (decide (ByteArray.size v14+ByteArray.size v15.1<=9223372036854775807))then
 some ((((v14++v15.1),()),v10.2))
 else
 none
 else
 none
 else
 none
 else
 none
 else
 none
 else
 none
 else
 none
 else
 bif (v1.1.1==4)then
 let w0:=(↑(List.length x.1.2.1.2.2.1):Int)
 bif (decide (w0>0))then
 bif (k77 (((),5,()),v1.2))then
 let v3:=(g77 (((),5,()),v1.2))
 bif (!v3.1.1)then
 bif (k34 (((),w0,()),v3.2))then
 let v5:=(g34 (((),w0,()),v3.2))
 bif (decide (0<=v5.1.1)&&decide (v5.1.1<w0))then
 let v6:=(List.getD x.1.2.1.2.2.1 (Int.toNat v5.1.1) (zero S68))
 bif (decide (ByteArray.size { data:=#[115,97,105,108,32] }+ByteArray.size v6.1<=9223372036854775807))then
 some (((({ data:=#[115,97,105,108,32] }++v6.1),()),v5.2))
 else
 none
 else
 none
 else
 none
 else
 some (((({ data:=#[115,97,105,108,32] }++{ data:=#[110,111,110,101] }),()),v3.2))
 else
 none
 else
 some (((({ data:=#[115,97,105,108,32] }++{ data:=#[110,111,110,101] }),()),v1.2))
 else
 bif (v1.1.1==5)then
 let w1:=(↑(List.length x.1.2.1.2.2.1):Int)
 bif (decide (w1>0))then
 bif (k77 (((),5,()),v1.2))then
 let v3:=(g77 (((),5,()),v1.2))
 bif (!v3.1.1)then
 bif (k34 (((),w1,()),v3.2))then
 let v5:=(g34 (((),w1,()),v3.2))
 bif (decide (0<=v5.1.1)&&decide (v5.1.1<w1))then
 let v6:=(List.getD x.1.2.1.2.2.1 (Int.toNat v5.1.1) (zero S68))
 bif (decide (ByteArray.size { data:=#[115,97,105,108,32] }+ByteArray.size v6.1<=9223372036854775807))then
 some (((({ data:=#[115,97,105,108,32] }++v6.1),()),v5.2))
 else
 none
 else
 none
 else
 none
 else
 some (((({ data:=#[115,97,105,108,32] }++{ data:=#[110,111,110,101] }),()),v3.2))
 else
 none
 else
 some (((({ data:=#[115,97,105,108,32] }++{ data:=#[110,111,110,101] }),()),v1.2))
 else
 bif (v1.1.1==6)then
 bif (k34 (((),200000,()),v1.2))then
 let v3:=(g34 (((),200000,()),v1.2))
 let v4:=(IntKind.wrap .i64 (v3.1.1-100000))
 bif (k83 (v4,()))then
 let v6:=(g83 (v4,()))
 bif (decide (ByteArray.size { data:=#[102,105,120,32] }+ByteArray.size v6.1<=9223372036854775807))then
 let v7:=({ data:=#[102,105,120,32] }++v6.1)
 bif (decide (ByteArray.size v7+ByteArray.size { data:=#[32,32] }<=9223372036854775807))then
 bif (k34 (((),200000,()),v3.2))then
 let v9:=(g34 (((),200000,()),v3.2))
 let v10:=(IntKind.wrap .i64 (v9.1.1-100000))
 bif (k83 (v10,()))then
 let v12:=(v7++{ data:=#[32,32] })
 let v13:=(g83 (v10,()))
 bif (decide (ByteArray.size v12+ByteArray.size v13.1<=9223372036854775807))then
 some ((((v12++v13.1),()),v9.2))
 else
 none
 else
 none
 else
 none
 else
 none
 else
 none
 else
 none
 else
 none
 else
 bif (v1.1.1==7)then
 let v15:=(List.set (List.set (List.set (List.set (List.set (List.set (List.set (List.set (List.set (List.set (List.set (List.set (List.set (List.set (List.replicate 14 (zero Ty.str)) 0 { data:=#[] }) 1 { data:=#[103,111] }) 2 { data:=#[103,111,32,48] }) 3 { data:=#[103,111,32,51,54,48,49] }) 4 { data:=#[103,111,32,49,32,50] }) 5 { data:=#[115,116,101,101,114,32,51,54,48] }) 6 { data:=#[115,116,101,101,114,32,48,48] }) 7 { data:=#[115,97,105,108] }) 8 { data:=#[119,105,110,100,32,49,32,50] }) 9 { data:=#[119,105,110,100,32,49,48,49,46,48,48,48,32,48,46,48,48,48] }) 10 { data:=#[102,105,120,32,49,48,48,48,48,46,53,48,48,32,48,46,48,48,48] }) 11 { data:=#[116,97,99,107,32,49] }) 12 { data:=#[32,115,97,105,108,32,32,110,111,110,101,32] }) 13 { data:=#[115,116,101,101,114,32,45,49] })
 let w2:=(((),(),()),v1.2.1,v15,())
 bif (k131 w2)then
 let v17:=(g131 w2)
 some ((v17.1,v17.2.1,()))
 else
 none
 else
 bif (k34 (((),40,()),v1.2))then
 let v3:=(g34 (((),40,()),v1.2))
 bif (k34 (((),40,()),v3.2))then
 let v5:=(g34 (((),40,()),v3.2))
 let v7:=(IntKind.wrap .i64 (1+(IntKind.wrap .i64 (v3.1.1*v5.1.1))))
 bif (k130 (v7,()))then
 let v9:=(g130 (v7,()))
 bif (decide (ByteArray.size { data:=#[103,111,32] }+ByteArray.size v9.1<=9223372036854775807))then
 some (((({ data:=#[103,111,32] }++v9.1),()),v5.2))
 else
 none
 else
 none
 else
 none
 else
 none
 else
 none
theorem g0h (k34 g34 k130 g130 k83 g83 k77 g77 k131 g131 x) :a1N (g0g k34 g34 k130 g130 k83 g83 k77 g77 k131 g131) (a0e Tryz.f67) I67 O67 x=r67 k34 g34 k130 g130 k83 g83 k77 g77 k131 g131 x:=by kernel_rfl
def F67 (x:I67.den):Option (O67.den):=r67 K34 G34 c9A b1L K83 G83 K77 G77 c1A b8D x
def K67 (x:I67.den):Bool:=(F67 x).isSome
def G67 (x:I67.den):O67.den:=(F67 x).getD (a1d O67)
theorem f4z:a0q Tryz.prog (67,a0n true I67 O67 K67 G67):=a1k (a0j mixed a0l a0k (.cons a4z (.cons d9c (.cons e6M (.cons b1M (.cons d9e .nil)))))) (a0O Tryz.func67 rfl rfl rfl (by kernel_rfl) (a0m (by kernel_rfl))) true fun x=>g0h K34 G34 c9A b1L K83 G83 K77 G77 c1A b8D x
abbrev I35:Sg:=⟨[.ptr 0,.val (S40)],[.box (a2O)]⟩
abbrev O35:Sg:=⟨[.own (.str) 1],[.box (a2O),.arr (.str)]⟩
abbrev a9m:Type:=((Unit×(Unit×(Unit×(Int×Unit))))×(((List (Den (.int .u8)))×(Int×(Int×Unit)))×(((List (Den (.flt .f32)))×((List (Den (.int .i64)))×((List (Den (.slice (.flt .f32))))×((List (Den (a0S)))×((List (Den (.int .i64)))×((List (Den (S68)))×(Int×(Int×(Int×(Int×((List (Den (a1E)))×(Int×(Int×(Int×(Int×Unit)))))))))))))))×((List (Den (.str)))×Unit))))
def c3T:ShS:=⟨[(0,.one (.ptr 0 0)),(3,.one (.ptr 1 0)),(5,.one (.ref (.str) 2)),(6,.one (.int .i64))],[(0,.box [.sl (.int .u8),.int .i64,.int .i64]),(1,.box [.sl (.flt .f32),.sl (.int .i64),.sl (.slice (.flt .f32)),.sl (a0S),.sl (.int .i64),.sl (S68),.int .i64,.int .i64,.int .i64,.int .i64,.sl (a1E),.int .i64,.int .i64,.int .i64,.int .i64]),(2,.arr (.str))],3,1⟩
abbrev c9Y:Type:=((Unit×Unit)×(((List (Den (.int .u8)))×(Int×(Int×Unit)))×((List (Den (.str)))×Unit)))
def c1H:ShS:=⟨[(5,.one (.ref (.str) 1))],[(0,.box [.sl (.int .u8),.int .i64,.int .i64]),(1,.arr (.str))],2,1⟩
noncomputable def f8H (k34 g34 k83 g83 k67 g67 kl5 xl5) :=a0t tab eqs [(34,a0n true I34 O34 k34 g34),(83,a0a A83 R83 k83 g83),(67,a0n true I67 O67 k67 g67)] 47 [.tmp 4] [] [] [(5,a1X [0,3,5,6] [] 0 [5] [] c3T c1H kl5 xl5)] [] []
noncomputable def d9s:Code:=(a0u (a0e Tryz.f35)).getD 0 .skip
def d5Z (k34:KI I34) (g34:GI I34 O34) (k83:KA A83) (g83:GA A83 R83) (k67:KI I67) (g67:GI I67 O67) (f:a9m->Option (c9Y)) (v:a9m):Option (c9Y):=
 bif (decide (v.1.2.2.2.1>0))then
 let w0:=(((),((v.2.2.1.1,v.2.2.1.2.1,v.2.2.1.2.2.1,()),(v.2.2.1.2.2.2.1,v.2.2.1.2.2.2.2.1,()),v.2.2.1.2.2.2.2.2.1,(((v.2.2.1.2.2.2.2.2.2.1,v.2.2.1.2.2.2.2.2.2.2.1,()),(v.2.2.1.2.2.2.2.2.2.2.2.1,v.2.2.1.2.2.2.2.2.2.2.2.2.1,()),()),v.2.2.1.2.2.2.2.2.2.2.2.2.2.1,((v.2.2.1.2.2.2.2.2.2.2.2.2.2.2.1,v.2.2.1.2.2.2.2.2.2.2.2.2.2.2.2.1,()),v.2.2.1.2.2.2.2.2.2.2.2.2.2.2.2.2,()),()),()),()),v.2.1,())
 bif (k67 w0)then
 let v1:=(g67 w0)
 let v2:=(List.set (List.replicate 1 (zero Ty.str)) 0 v1.1.1)
 bif (a0F (List.length v.2.2.2.1+List.length v2))then
 f ((((),(),(),(IntKind.wrap .i64 (v.1.2.2.2.1-1)),()),v1.2.1,v.2.2.1,(v.2.2.2.1++v2),()))
 else
 none
 else
 none
 else
 some ((((),()),v.2.1,v.2.2.2))
theorem e2q (k34 g34 k83 g83 k67 g67 kl5 xl5 f v) :EBk (f8H k34 g34 k83 g83 k67 g67 kl5 xl5) d9s (a0B [0,3,5,6] [] 0 [5] [] (atS c3T f) (a5W c1H)) (mkS c3T v)=d5Z k34 g34 k83 g83 k67 g67 f v:=by kernel_rfl
def e7g (v:a9m):Nat:=v.1.2.2.2.1.natAbs+v.2.1.1.length+v.2.1.2.1.natAbs+v.2.1.2.2.1.natAbs+v.2.2.1.1.length+v.2.2.1.2.1.length+v.2.2.1.2.2.1.length+v.2.2.1.2.2.2.1.length+v.2.2.1.2.2.2.2.1.length+v.2.2.1.2.2.2.2.2.1.length+v.2.2.1.2.2.2.2.2.2.1.natAbs+v.2.2.1.2.2.2.2.2.2.2.1.natAbs+v.2.2.1.2.2.2.2.2.2.2.2.1.natAbs+v.2.2.1.2.2.2.2.2.2.2.2.2.1.natAbs+v.2.2.1.2.2.2.2.2.2.2.2.2.2.1.length+v.2.2.1.2.2.2.2.2.2.2.2.2.2.2.1.natAbs+v.2.2.1.2.2.2.2.2.2.2.2.2.2.2.2.1.natAbs+v.2.2.1.2.2.2.2.2.2.2.2.2.2.2.2.2.1.natAbs+v.2.2.1.2.2.2.2.2.2.2.2.2.2.2.2.2.2.1.natAbs+v.2.2.2.1.length+1000
def e2r (v:a9m):Option (c9Y):=a1u (d5Z K34 G34 K83 G83 K67 G67) (e7g v) v
def b2B (v:a9m):Bool:=(e2r v).isSome
def b0P (v:a9m):c9Y:=(e2r v).getD (((),()),(([],(0,(0,()))),([],())))
def r35 (k34:KI I34) (g34:GI I34 O34) (k83:KA A83) (g83:GA A83 R83) (k67:KI I67) (g67:GI I67 O67) (kl5:a9m->Bool) (xl5:a9m->c9Y) (x:I35.den):Option (O35.den):=
 bif (k34 (((),33,()),x.2))then
 let v1:=(g34 (((),33,()),x.2))
 let v3:=(IntKind.wrap .i64 ((IntKind.wrap .i64 (500*v1.1.1))-8000))
 bif (k83 (v3,()))then
 let v5:=(g83 (v3,()))
 bif (decide (ByteArray.size { data:=#[119,105,110,100,32] }+ByteArray.size v5.1<=9223372036854775807))then
 let v6:=({ data:=#[119,105,110,100,32] }++v5.1)
 bif (decide (ByteArray.size v6+ByteArray.size { data:=#[32] }<=9223372036854775807))then
 bif (k34 (((),33,()),v1.2))then
 let v8:=(g34 (((),33,()),v1.2))
 let v10:=(IntKind.wrap .i64 ((IntKind.wrap .i64 (500*v8.1.1))-8000))
 bif (k83 (v10,()))then
 let v12:=(v6++{ data:=#[32] })
 let v13:=(g83 (v10,()))
 bif (decide (ByteArray.size v12+ByteArray.size v13.1<=9223372036854775807))then
 let w2:=(↑(List.length x.1.2.1.2.2.1):Int)
 bif (decide (w2>0))then
 bif (decide (0<=0)&&decide (0<w2))then
 let v14:=(List.getD x.1.2.1.2.2.1 (Int.toNat 0) (zero S68))
 bif (decide (ByteArray.size { data:=#[115,97,105,108,32] }+ByteArray.size v14.1<=9223372036854775807))then
 bif (k34 (((),9,()),v8.2))then
 let v16:=(g34 (((),9,()),v8.2))
 let w3:=(List.replicate 1 (zero Ty.str))
 let v21:=((List.set w3 0 (v12++v13.1))++(List.set w3 0 ({ data:=#[115,97,105,108,32] }++v14.1)))
 let w0:=(((),(),(),v16.1),v16.2.1,(x.1.2.1.1.1,x.1.2.1.1.2.1,x.1.2.1.1.2.2.1,x.1.2.1.2.1.1,x.1.2.1.2.1.2.1,x.1.2.1.2.2.1,x.1.2.1.2.2.2.1.1.1.1,x.1.2.1.2.2.2.1.1.1.2.1,x.1.2.1.2.2.2.1.1.2.1.1,x.1.2.1.2.2.2.1.1.2.1.2.1,x.1.2.1.2.2.2.1.2.1,x.1.2.1.2.2.2.1.2.2.1.1.1,x.1.2.1.2.2.2.1.2.2.1.1.2.1,x.1.2.1.2.2.2.1.2.2.1.2.1),v21,())
 bif (kl5 w0)then
 some ((((),()),(xl5 w0).2))
 else
 none
 else
 none
 else
 none
 else
 none
 else
 bif (k34 (((),9,()),v8.2))then
 let v15:=(g34 (((),9,()),v8.2))
 let v17:=(List.set (List.replicate 1 (zero Ty.str)) 0 (v12++v13.1))
 let w1:=(((),(),(),v15.1),v15.2.1,(x.1.2.1.1.1,x.1.2.1.1.2.1,x.1.2.1.1.2.2.1,x.1.2.1.2.1.1,x.1.2.1.2.1.2.1,x.1.2.1.2.2.1,x.1.2.1.2.2.2.1.1.1.1,x.1.2.1.2.2.2.1.1.1.2.1,x.1.2.1.2.2.2.1.1.2.1.1,x.1.2.1.2.2.2.1.1.2.1.2.1,x.1.2.1.2.2.2.1.2.1,x.1.2.1.2.2.2.1.2.2.1.1.1,x.1.2.1.2.2.2.1.2.2.1.1.2.1,x.1.2.1.2.2.2.1.2.2.1.2.1),v17,())
 bif (kl5 w1)then
 some ((((),()),(xl5 w1).2))
 else
 none
 else
 none
 else
 none
 else
 none
 else
 none
 else
 none
 else
 none
 else
 none
 else
 none
theorem g0i (k34 g34 k83 g83 k67 g67 kl5 xl5 x) :a1N (f8H k34 g34 k83 g83 k67 g67 kl5 xl5) (a0e Tryz.f35) I35 O35 x=r35 k34 g34 k83 g83 k67 g67 kl5 xl5 x:=by kernel_rfl
def F35 (x:I35.den):Option (O35.den):=r35 K34 G34 K83 G83 K67 G67 b2B b0P x
def K35 (x:I35.den):Bool:=(F35 x).isSome
def G35 (x:I35.den):O35.den:=(F35 x).getD (a1d O35)
theorem f4A:a0q Tryz.prog (35,a0n true I35 O35 K35 G35):=a1k (a0j mixed a0l a0k (.cons a4z (.cons e6M (.cons f4z .nil)))) (a0O Tryz.func35 rfl rfl rfl (by kernel_rfl) (a0D (l:=[d9s]) (by kernel_rfl) (.cons (a0r rfl (a0y (sh:=c3T) (shX:=c1H) (fun f v=>e2q K34 G34 K83 G83 K67 G67 b2B b0P f v) e7g (((),()),(([],(0,(0,()))),([],()))))) (.nil)))) true fun x=>g0i K34 G34 K83 G83 K67 G67 b2B b0P x
def a0g (c:List Int×Int×Int×Unit):Prop:=0<=c.2.1 /\ c.1.length<=1048576
theorem c3U (a:Int):0<=a2l .and .i64 a 255 /\ a2l .and .i64 a 255<=255:=by
 have h:(BitVec.ofInt IntKind.i64.bits a &&& BitVec.ofInt IntKind.i64.bits 255).toNat<=255:=by
  rw[BitVec.toNat_and]
  exact Nat.and_le_right
 have e:a2l .and .i64 a 255=IntKind.i64.wrap ((BitVec.ofInt IntKind.i64.bits a &&& BitVec.ofInt IntKind.i64.bits 255).toNat:Int):=rfl
 rw[e,w64 (by omega) (by omega)]
 omega
theorem b8H (x:I82.den) (h:a0g x.2.1):K82 x=true:=by
 unfold K82 F82 r82
 have h1:decide (0<=x.2.1.2.1)=true:=decide_eq_true h.1
 cases hc:decide (x.2.1.2.1<(x.2.1.1.length:Int))<;>simp only[h1,Bool.and_self,cond_true,cond_false,Option.isSome_some]
theorem b8I (x:I82.den) (h:a0g x.2.1):a0g (G82 x).2.1 /\ 0<=(G82 x).1.1 /\ (G82 x).1.1<=255:=by
 unfold G82 F82 r82
 have h1:decide (0<=x.2.1.2.1)=true:=decide_eq_true h.1
 have hl:=h.2
 have hi:0<=x.2.1.2.1:=h.1
 by_cases hlt:x.2.1.2.1<(x.2.1.1.length:Int)
 ·have hlt2:x.2.1.2.1<1048576:=by
   have:((x.2.1.1.length:Nat):Int)<=1048576:=by omega
   exact Int.lt_of_lt_of_le hlt this
  have hc:decide (x.2.1.2.1<(x.2.1.1.length:Int))=true:=decide_eq_true hlt
  simp only[hc,h1,Bool.and_self,cond_true,Option.getD_some]
  refine⟨⟨?_,hl⟩,(c3U _).1,(c3U _).2⟩
  have hn:∀n:Int,0<=n->n<1048576->0<=IntKind.i64.wrap (n+1):=fun n h1 h2=>by rw[w64 (by omega) (by omega)];omega
  exact hn _ hi hlt2
 ·have hc:decide (x.2.1.2.1<(x.2.1.1.length:Int))=false:=decide_eq_false hlt
  simp only[hc,cond_false,Option.getD_some]
  exact⟨⟨hi,hl⟩,(c3U _).1,(c3U _).2⟩
theorem e2s (x:I82.den) (h:a0g x.2.1):a0g (G82 x).2.1:=(b8I x h).1
theorem b4M {a n:Int} (h:0<=a) (hn:0<n):0<=Int.tmod a n /\ Int.tmod a n<n:=by
 rw[Int.tmod_eq_emod_of_nonneg h]
 exact⟨Int.emod_nonneg _ (by omega),Int.emod_lt_of_pos _ hn⟩
theorem a9E (n:Int) (c:List Int×Int×Int×Unit) (h:a0g c):∃(m:Int) (c':List Int×Int×Int×Unit),F34 (((),n,()),(c,()))=some ((m,()),(c',())) /\ a0g c' /\ 0<=m /\ (0<n->m<n):=by
 unfold F34 r34
 by_cases h0:n<=0
 ·have:decide (n<=0)=true:=decide_eq_true h0
  simp only[this,cond_true]
  exact⟨0,c,rfl,h,by omega,fun h=>by omega⟩
 ·have e0:decide (n<=0)=false:=decide_eq_false h0
  have e1:(n != 0)=true:=by simp;omega
  have k1:=b8H (((),()),(c,())) h
  obtain⟨c1,l1,u1⟩:=b8I (((),()),(c,())) h
  simp only[e0,cond_false,k1,cond_true,e1]
  generalize G82 (((),()),(c,()))=g1 at *
  by_cases h2:n<=256
  ·have:decide (n<=256)=true:=decide_eq_true h2
   simp only[this,cond_true]
   exact⟨_,g1.2.1,rfl,c1,(b4M l1 (by omega)).1,fun _=>(b4M l1 (by omega)).2⟩
  ·have:decide (n<=256)=false:=decide_eq_false h2
   simp only[this,cond_false]
   have k2:=b8H (((),()),g1.2) c1
   obtain⟨c2,l2,u2⟩:=b8I (((),()),g1.2) c1
   simp only[k2,cond_true]
   generalize G82 (((),()),g1.2)=g2 at *
   have k3:=b8H (((),()),g2.2) c2
   obtain⟨c3,l3,u3⟩:=b8I (((),()),g2.2) c2
   simp only[k3,cond_true]
   generalize G82 (((),()),g2.2)=g3 at *
   have k4:=b8H (((),()),g3.2) c3
   obtain⟨c4,l4,u4⟩:=b8I (((),()),g3.2) c3
   simp only[k4,cond_true]
   generalize G82 (((),()),g3.2)=g4 at *
   have big:∀x y z w:Int,0<=x->x<=255->0<=y->y<=255->0<=z->z<=255->0<=w->w<=255 ->
    0<=IntKind.i64.wrap (IntKind.i64.wrap (IntKind.i64.wrap (IntKind.i64.wrap (x*16777216)+IntKind.i64.wrap (y*65536))+IntKind.i64.wrap (z*256))+w):=by
    intro x y z w h1 h2 h3 h4 h5 h6 h7 h8
    have w1:IntKind.i64.wrap (x*16777216)=x*16777216:=w64 (by omega) (by omega)
    have w2:IntKind.i64.wrap (y*65536)=y*65536:=w64 (by omega) (by omega)
    have w3:IntKind.i64.wrap (z*256)=z*256:=w64 (by omega) (by omega)
    have w4:IntKind.i64.wrap (x*16777216+y*65536)=x*16777216+y*65536:=w64 (by omega) (by omega)
    have w5:IntKind.i64.wrap (x*16777216+y*65536+z*256)=x*16777216+y*65536+z*256:=w64 (by omega) (by omega)
    rw[w1,w2,w3,w4,w5,w64 (by omega) (by omega)]
    omega
   have hb:=big g1.1.1 g2.1.1 g3.1.1 g4.1.1 l1 u1 l2 u2 l3 u3 l4 u4
   exact⟨_,g4.2.1,rfl,c4,(b4M hb (by omega)).1,fun _=>(b4M hb (by omega)).2⟩
theorem a0C (x:I34.den) (h:a0g x.2.1):K34 x=true:=by
 obtain⟨m,c,he,_⟩:=a9E x.1.2.1 x.2.1 h
 unfold K34
 rw[show x=(((),x.1.2.1,()),(x.2.1,()))from rfl,he]
 rfl
theorem d9t (x:I34.den) (h:a0g x.2.1):a0g (G34 x).2.1 /\ 0<=((G34 x).1.1:Int) /\ ((0:Int)<x.1.2.1->((G34 x).1.1:Int)<x.1.2.1):=by
 obtain⟨m,c,he,h1,h2,h3⟩:=a9E x.1.2.1 x.2.1 h
 unfold G34
 rw[show F34 x=_ from he]
 exact⟨h1,h2,h3⟩
theorem a0c (x:I34.den) (h:a0g x.2.1):a0g (G34 x).2.1:=(d9t x h).1
theorem a2b (x:I77.den) (h:a0g x.2.1):K77 x=true:=by
 unfold K77 F77 r77
 simp only[a0C (((),x.1.2),x.2) h,cond_true,Option.isSome_some]
theorem a0f (x:I77.den) (h:a0g x.2.1):a0g (G77 x).2.1:=by
 unfold G77 F77 r77
 simp only[a0C (((),x.1.2),x.2) h,cond_true,Option.getD_some]
 exact a0c (((),x.1.2),x.2) h
theorem c9Z (l:List Int) (c:List Int×Int×Int×Unit) (h:a0g c) (hl:0<l.length):∃(m:Int) (c':List Int×Int×Int×Unit),e6T (((),(),()),(c,l,()))=some ((m,()),(c',l,())) /\ a0g c' /\ m∈l:=by
 obtain⟨m,c1,he,h1,h2,h3⟩:=a9E (l.length:Int) c h
 unfold e6T f4c
 have e1:decide (0<=m)=true:=decide_eq_true h2
 have h4:m<(l.length:Int):=h3 (by omega)
 have e2:decide (m<(l.length:Int))=true:=decide_eq_true h4
 simp only[K34,G34,he,Option.isSome_some,Option.getD_some,cond_true,e1,e2,Bool.and_self]
 refine⟨_,c1,rfl,h1,?_⟩
 rw[a5o _ _ _ (by omega)]
 exact List.getElem_mem _
theorem b0Q (x:b2x.den) (h:a0g x.2.1) (hl:0<x.2.2.1.length):c9N x=true:=by
 obtain⟨m,c,he,_⟩:=c9Z x.2.2.1 x.2.1 h hl
 unfold c9N
 rw[show x=(((),(),()),(x.2.1,x.2.2.1,()))from rfl,he]
 rfl
theorem e2t (x:b2x.den) (h:a0g x.2.1) (hl:0<x.2.2.1.length):a0g (c0M x).2.1 /\ (c0M x).1.1∈x.2.2.1:=by
 obtain⟨m,c,he,h1,h2⟩:=c9Z x.2.2.1 x.2.1 h hl
 unfold c0M
 rw[show e6T x=_ from he]
 exact⟨h1,h2⟩
theorem a7w (x:b2x.den) (h:a0g x.2.1) (hl:0<x.2.2.1.length):a0g (c0M x).2.1:=(e2t x h hl).1
theorem d9u (code:List Int) (h:code.length<=1048576):∃c,F30 ((code,()),())=some (((),()),(c,())) /\ a0g c:=by
 have hl:∃y,e2e ((code,IntKind.i64.wrap (33211+(code.length:Int)),(0:Int),()),())=some y /\ y.1.1=code:=by
  refine a0W (q:=d5J) (fun v=>v.1.1=code /\ 0<=v.1.2.2.1 /\ v.1.2.2.1<=code.length) (fun _ r=>∃y,r=some y /\ y.1.1=code) (fun v=>((code.length:Int)-v.1.2.2.1).toNat) ?_ _ _ ⟨rfl,by simp only;omega,by simp only;omega⟩ (by simp only[e2d];omega)
  rintro⟨⟨l,hh,i,_⟩,_⟩ f ⟨h0,h1,h2⟩ ih
  simp only at h0 h1 h2 ih
  subst h0
  unfold d5J
  by_cases hi:i<(l.length:Int)
  ·have a1:decide (0<=i)=true:=by simp;omega
   have a2:decide (i<(l.length:Int))=true:=by simpa using hi
   have e1:IntKind.i64.wrap (i+1)=i+1:=w64 (by omega) (by omega)
   simp only[a1,a2,e1,Bool.and_self,cond_true]
   cases decide (i<4000)
   ·exact⟨_,rfl,rfl⟩
   ·exact ih ((l,_,i+1,()),()) ⟨rfl,by simp only;omega,by simp only;omega⟩ (by simp only;omega)
  ·have a2:decide (i<(l.length:Int))=false:=by simpa using hi
   simp only[a2,cond_false]
   exact⟨_,rfl,rfl⟩
 obtain⟨y,hy,hc⟩:=hl
 unfold F30 r30
 simp only[c3C,c3D,hy,Option.isSome_some,Option.getD_some,cond_true]
 refine⟨_,rfl,?_,?_⟩
 ·exact Int.le_refl 0
 ·rw[hc];exact h
theorem d9v (x:I30.den) (h:x.1.1.length<=1048576):K30 x=true:=by
 obtain⟨c,he,_⟩:=d9u x.1.1 h
 unfold K30
 rw[show x=((x.1.1,()),())from rfl,he]
 rfl
theorem d0a (x:I30.den) (h:x.1.1.length<=1048576):a0g (G30 x).2.1:=by
 obtain⟨c,he,h1⟩:=d9u x.1.1 h
 unfold G30
 rw[show F30 x=_ from he]
 exact h1
noncomputable def f8I:a9j:=mkN [] []
noncomputable def e7h (k81:KI I81) (g81:GI I81 O81) (h:a3y.den->Option Unit) (x:a2j.den):Option Unit:=
 bif (k81 (((),x.1.2),x.2))then
 let v1:=(g81 (((),x.1.2),x.2))
 bif (a2d v1.1.1)then
 let w0:=(a0Z .f64 .f32 v1.1.1)
 bif (w0.1)then
 h (((w0.2,()),v1.2))
 else
 none
 else
 a3n fun(z6:b0t)=>
 h (((z6.1,()),v1.2))
 else
 none
theorem e7i (k81 g81 h x) :a3o (d5R k81 g81) (f8I) (a0e Tryz.f141) a2j a3y h x=e7h k81 g81 h x:=by kernel_rfl
noncomputable def f8J (p141:KI a2j) (Q141:QI a2j a3y) (e141:Nonempty (Ch a2j a3y p141 Q141)):a9j:=mkN [(141,a3p true a2j a3y p141 Q141 e141)] []
noncomputable def e7j (k77:KI I77) (g77:GI I77 O77) (k146:KI b2w) (g146:GI b2w c6u) (k125:KI b2x) (g125:GI b2x c6v) (k141:KI a2j) (g141:GI a2j a3y) (p141:KI a2j) (Q141:QI a2j a3y) (e141:Nonempty (Ch a2j a3y p141 Q141)) (h:b1C.den->Option Unit) (x:a8m.den):Option Unit:=
 bif (k77 (((),30,()),x.2))then
 let v1:=(g77 (((),30,()),x.2))
 bif v1.1.1 then
 bif (k146 (((),()),v1.2))then
 let v3:=(g146 (((),()),v1.2))
 bif (a2d v3.1.1)then
 let w0:=(a0Z .f64 .f32 v3.1.1)
 bif (w0.1)then
 bif (k146 (((),()),v3.2))then
 let v5:=(g146 (((),()),v3.2))
 bif (a2d v5.1.1)then
 let w1:=(a0Z .f64 .f32 v5.1.1)
 bif (w1.1)then
 h ((((w0.2,w1.2),()),v5.2))
 else
 none
 else
 a3n fun(z16:b0t)=>
 h ((((w0.2,z16.1),()),v5.2))
 else
 none
 else
 none
 else
 a3n fun(z10:b0t)=>
 bif (k146 (((),()),v3.2))then
 let v5:=(g146 (((),()),v3.2))
 bif (a2d v5.1.1)then
 let w2:=(a0Z .f64 .f32 v5.1.1)
 bif (w2.1)then
 h ((((z10.1,w2.2),()),v5.2))
 else
 none
 else
 a3n fun(z16:b0t)=>
 h ((((z10.1,z16.1),()),v5.2))
 else
 none
 else
 none
 else
 bif (k77 (((),20,()),v1.2))then
 let v3:=(g77 (((),20,()),v1.2))
 bif v3.1.1 then
 let v7:=(List.set (List.set (List.set (List.set (List.replicate 4 (zero (Ty.int IntKind.i64))) 0 100) 1 (-100)) 2 101) 3 0)
 bif (k125 (((),(),()),v3.2.1,v7,()))then
 a3n fun(c141_12:Ch a2j a3y p141 Q141)=>
 let v9:=(g125 (((),(),()),v3.2.1,v7,()))
 bif (p141 (((),100,()),v9.2.1,()))then
 let v11:=(c141_12.val (((),100,()),v9.2.1,()))
 h ((((FloatKind.nearest .f32 v9.1.1,v11.1.1),()),v11.2))
 else
 none
 else
 none
 else
 a3n fun(c141_10:Ch a2j a3y p141 Q141)=>
 bif (p141 (((),15,()),v3.2))then
 a3n fun(c141_14:Ch a2j a3y p141 Q141)=>
 let v5:=(c141_10.val (((),15,()),v3.2))
 bif (p141 (((),15,()),v5.2))then
 let v7:=(c141_14.val (((),15,()),v5.2))
 h ((((v5.1.1,v7.1.1),()),v7.2))
 else
 none
 else
 none
 else
 none
 else
 none
theorem e7k (k77 g77 k146 g146 k125 g125 k141 g141 p141 Q141 e141 h x) :a3o (d5X k77 g77 k146 g146 k125 g125 k141 g141) (f8J p141 Q141 e141) (a0e Tryz.f128) a8m b1C h x=e7j k77 g77 k146 g146 k125 g125 k141 g141 p141 Q141 e141 h x:=by kernel_rfl
noncomputable def N75 (p141:KI a2j) (Q141:QI a2j a3y) (e141:Nonempty (Ch a2j a3y p141 Q141)):a9j:=mkN [(141,a3p true a2j a3y p141 Q141 e141)] []
noncomputable def f8K (k34:KI I34) (g34:GI I34 O34) (k77:KI I77) (g77:GI I77 O77) (k131:KI b1N) (g131:GI b1N c6s) (k141:KI a2j) (g141:GI a2j a3y) (k142:KI a6m) (g142:GI a6m b4E) (kl4:a9l->Bool) (xl4:a9l->c6w) (kl29:a4N->Bool) (xl29:a4N->b2y) (p141:KI a2j) (Q141:QI a2j a3y) (e141:Nonempty (Ch a2j a3y p141 Q141)) (h:O75.den->Option Unit) (x:I75.den):Option Unit:=
 bif (k34 (((),5,()),x.2))then
 let v1:=(g34 (((),5,()),x.2))
 let v2:=(IntKind.wrap .i64 (1+v1.1.1))
 let v8:=(List.set (List.set (List.set (List.set (List.set (List.set (List.replicate 6 (zero Ty.str)) 0 { data:=#[109,97,105,110] }) 1 { data:=#[106,105,98] }) 2 { data:=#[103,101,110,111,97] }) 3 { data:=#[115,116,111,114,109] }) 4 { data:=#[99,111,100,101] }) 5 { data:=#[107,105,116,101] })
 let w1:=(((),(),(),v2,()),v1.2.1,v8,List.replicate 0 (zero S68),())
 bif (kl4 w1)then
 let v10:=(xl4 w1)
 let w0:=(↑(List.length v10.2.2.1):Int)
 bif (k34 (((),w0,()),v10.2.1,()))then
 let v12:=(g34 (((),w0,()),v10.2.1,()))
 bif (k34 (((),24,()),v12.2))then
 let v14:=(g34 (((),24,()),v12.2))
 bif (v14.1.1==0)then
 bif (decide (0<=0)&&decide (0<w0))then
 let v20:=(List.set (List.set (List.set (List.set (List.set (List.replicate 5 (zero Ty.str)) 0 { data:=#[] }) 1 { data:=#[74,105,98] }) 2 { data:=#[97,98,99,100,101,102,103,104,105,106,107,108,109,110,111,112,113] }) 3 { data:=#[97,98,99,100,101,102,103,104,105,106,107,108,109,110,111,112] }) 4 (List.getD v10.2.2.1 (Int.toNat 0) (zero S68)).1)
 let w3:=(((),(),()),v14.2.1,v20,())
 bif (k131 w3)then
 bif (decide (0<=v12.1.1)&&decide (v12.1.1<w0))then
 let v22:=(g131 w3)
 h ((((),()),v22.2.1,(List.set v10.2.2.1 (Int.toNat v12.1.1) (v22.1.1,(List.getD v10.2.2.1 (Int.toNat v12.1.1) (zero S68)).2)),()))
 else
 none
 else
 none
 else
 none
 else
 bif (v14.1.1==1)then
 a3n fun(c141_14:Ch a2j a3y p141 Q141)=>
 bif (p141 (((),300,()),v14.2))then
 bif (decide (0<=v12.1.1)&&decide (v12.1.1<w0))then
 let v16:=(c141_14.val (((),300,()),v14.2))
 let v17:=(List.getD v10.2.2.1 (Int.toNat v12.1.1) (zero S68))
 h ((((),()),v16.2.1,(List.set v10.2.2.1 (Int.toNat v12.1.1) (v17.1,v16.1.1,v17.2.2)),()))
 else
 none
 else
 none
 else
 bif (v14.1.1==2)then
 a3n fun(c141_16:Ch a2j a3y p141 Q141)=>
 bif (p141 (((),300,()),v14.2))then
 bif (decide (0<=v12.1.1)&&decide (v12.1.1<w0))then
 let v16:=(c141_16.val (((),300,()),v14.2))
 let v17:=(List.getD v10.2.2.1 (Int.toNat v12.1.1) (zero S68))
 h ((((),()),v16.2.1,(List.set v10.2.2.1 (Int.toNat v12.1.1) (v17.1,v17.2.1,v16.1.1,v17.2.2.2)),()))
 else
 none
 else
 none
 else
 bif (v14.1.1==3)then
 bif (k142 (((),()),v14.2))then
 bif (decide (0<=v12.1.1)&&decide (v12.1.1<w0))then
 let v16:=(g142 (((),()),v14.2))
 let v17:=(List.getD v10.2.2.1 (Int.toNat v12.1.1) (zero S68))
 h ((((),()),v16.2.1,(List.set v10.2.2.1 (Int.toNat v12.1.1) (v17.1,v17.2.1,v17.2.2.1,v17.2.2.2.1,(IntKind.wrap .i64 (v16.1.1-2)),())),()))
 else
 none
 else
 none
 else
 bif (v14.1.1==4)then
 bif (k142 (((),()),v14.2))then
 bif (decide (0<=v12.1.1)&&decide (v12.1.1<w0))then
 let v16:=(g142 (((),()),v14.2))
 let v17:=(List.getD v10.2.2.1 (Int.toNat v12.1.1) (zero S68))
 h ((((),()),v16.2.1,(List.set v10.2.2.1 (Int.toNat v12.1.1) (v17.1,v17.2.1,v17.2.2.1,(IntKind.wrap .i64 (v16.1.1-2)),v17.2.2.2.2)),()))
 else
 none
 else
 none
 else
 bif (v14.1.1==5)then
 h ((((),()),v14.2.1,List.replicate 0 (zero S68),()))
 else
 bif (v14.1.1==6)then
 let w2:=(((),(),()),v14.2.1,v10.2.2)
 bif (kl29 w2)then
 h ((((),()),(xl29 w2).2))
 else
 none
 else
 h ((((),()),v14.2.1,v10.2.2))
 else
 none
 else
 none
 else
 none
 else
 none
theorem f4B (k34 g34 k77 g77 k131 g131 k141 g141 k142 g142 kl4 xl4 kl29 xl29 p141 Q141 e141 h x) :a3o (e5k k34 g34 k77 g77 k131 g131 k141 g141 k142 g142 kl4 xl4 kl29 xl29) (N75 p141 Q141 e141) (a0e Tryz.f75) I75 O75 h x=f8K k34 g34 k77 g77 k131 g131 k141 g141 k142 g142 kl4 xl4 kl29 xl29 p141 Q141 e141 h x:=by kernel_rfl
noncomputable def N79 (p128:KI a8m) (Q128:QI a8m b1C) (e128:Nonempty (Ch a8m b1C p128 Q128)):a9j:=mkN [(128,a3p true a8m b1C p128 Q128 e128)] []
noncomputable def f8L (k74:KI I74) (g74:GI I74 O74) (k34:KI I34) (g34:GI I34 O34) (k82:KI I82) (g82:GI I82 O82) (k145:KA c1G) (g145:GA c1G d4b) (k128:KI a8m) (g128:GI a8m b1C) (k142:KI a6m) (g142:GI a6m b4E) (kl15:a5t->Bool) (xl15:a5t->b2A) (p128:KI a8m) (Q128:QI a8m b1C) (e128:Nonempty (Ch a8m b1C p128 Q128)) (h:O79.den->Option Unit) (x:I79.den):Option Unit:=
 bif (k74 (((),()),x.2))then
 let v1:=(g74 (((),()),x.2))
 let w0:=(↑(List.length v1.2.2.1):Int)
 bif (k34 (((),w0,()),v1.2.1,()))then
 let v3:=(g34 (((),w0,()),v1.2.1,()))
 bif (k34 (((),24,()),v3.2))then
 let v5:=(g34 (((),24,()),v3.2))
 bif (v5.1.1==0)then
 bif (k82 (((),()),v5.2))then
 let v7:=(g82 (((),()),v5.2))
 let v9:=(List.set (List.replicate 1 (zero (Ty.int IntKind.u8))) 0 (IntKind.wrap .u8 v7.1.1))
 bif (k145 (v9,()))then
 bif (decide (0<=v3.1.1)&&decide (v3.1.1<w0))then
 h (((((List.set v1.2.2.1 (Int.toNat v3.1.1) ((g145 (v9,())).1,(List.getD v1.2.2.1 (Int.toNat v3.1.1) (zero a0S)).2)),v1.2.2.2),()),v7.2))
 else
 none
 else
 none
 else
 none
 else
 bif (v5.1.1==1)then
 a3n fun(c128_12:Ch a8m b1C p128 Q128)=>
 bif (k34 (((),13,()),v5.2))then
 let v7:=(g34 (((),13,()),v5.2))
 bif (p128 (((),()),v7.2))then
 bif (decide (0<=v3.1.1)&&decide (v3.1.1<w0))then
 bif (decide (0<=v7.1.1)&&decide (v7.1.1<(↑13:Int)))then
 let v9:=(List.getD v1.2.2.1 (Int.toNat v3.1.1) (zero a0S))
 let v10:=(c128_12.val (((),()),v7.2))
 let w2:=(0+1+1+1+1+1+1+1+1+1+1+1+1)
 let w4:=(0+1+1+1+1+1+1+1+1+1+1+1)
 let w5:=(0+1+1+1+1+1+1+1+1+1+1)
 let w6:=(0+1+1+1+1+1+1+1+1+1)
 let w7:=(0+1+1+1+1+1+1+1+1)
 let w8:=(0+1+1+1+1+1+1+1)
 let w10:=(0+1+1+1+1+1+1)
 h (((((List.set v1.2.2.1 (Int.toNat v3.1.1) (v9.1,((bif Nat.beq 0 (Int.toNat v7.1.1)then v10.1.1.1 else v9.2.1.1.1,bif Nat.beq 0 (Int.toNat v7.1.1)then v10.1.1.2 else v9.2.1.1.2),(bif Nat.beq (0+1) (Int.toNat v7.1.1)then v10.1.1.1 else v9.2.1.2.1.1,bif Nat.beq (0+1) (Int.toNat v7.1.1)then v10.1.1.2 else v9.2.1.2.1.2),(bif Nat.beq (0+1+1) (Int.toNat v7.1.1)then v10.1.1.1 else v9.2.1.2.2.1.1,bif Nat.beq (0+1+1) (Int.toNat v7.1.1)then v10.1.1.2 else v9.2.1.2.2.1.2),(bif Nat.beq (0+1+1+1) (Int.toNat v7.1.1)then v10.1.1.1 else v9.2.1.2.2.2.1.1,bif Nat.beq (0+1+1+1) (Int.toNat v7.1.1)then v10.1.1.2 else v9.2.1.2.2.2.1.2),(bif Nat.beq (0+1+1+1+1) (Int.toNat v7.1.1)then v10.1.1.1 else v9.2.1.2.2.2.2.1.1,bif Nat.beq (0+1+1+1+1) (Int.toNat v7.1.1)then v10.1.1.2 else v9.2.1.2.2.2.2.1.2),(bif Nat.beq (0+1+1+1+1+1) (Int.toNat v7.1.1)then v10.1.1.1 else v9.2.1.2.2.2.2.2.1.1,bif Nat.beq (0+1+1+1+1+1) (Int.toNat v7.1.1)then v10.1.1.2 else v9.2.1.2.2.2.2.2.1.2),(bif Nat.beq w10 (Int.toNat v7.1.1)then v10.1.1.1 else v9.2.1.2.2.2.2.2.2.1.1,bif Nat.beq w10 (Int.toNat v7.1.1)then v10.1.1.2 else v9.2.1.2.2.2.2.2.2.1.2),(bif Nat.beq w8 (Int.toNat v7.1.1)then v10.1.1.1 else v9.2.1.2.2.2.2.2.2.2.1.1,bif Nat.beq w8 (Int.toNat v7.1.1)then v10.1.1.2 else v9.2.1.2.2.2.2.2.2.2.1.2),(bif Nat.beq w7 (Int.toNat v7.1.1)then v10.1.1.1 else v9.2.1.2.2.2.2.2.2.2.2.1.1,bif Nat.beq w7 (Int.toNat v7.1.1)then v10.1.1.2 else v9.2.1.2.2.2.2.2.2.2.2.1.2),(bif Nat.beq w6 (Int.toNat v7.1.1)then v10.1.1.1 else v9.2.1.2.2.2.2.2.2.2.2.2.1.1,bif Nat.beq w6 (Int.toNat v7.1.1)then v10.1.1.2 else v9.2.1.2.2.2.2.2.2.2.2.2.1.2),(bif Nat.beq w5 (Int.toNat v7.1.1)then v10.1.1.1 else v9.2.1.2.2.2.2.2.2.2.2.2.2.1.1,bif Nat.beq w5 (Int.toNat v7.1.1)then v10.1.1.2 else v9.2.1.2.2.2.2.2.2.2.2.2.2.1.2),(bif Nat.beq w4 (Int.toNat v7.1.1)then v10.1.1.1 else v9.2.1.2.2.2.2.2.2.2.2.2.2.2.1.1,bif Nat.beq w4 (Int.toNat v7.1.1)then v10.1.1.2 else v9.2.1.2.2.2.2.2.2.2.2.2.2.2.1.2),(bif Nat.beq w2 (Int.toNat v7.1.1)then v10.1.1.1 else v9.2.1.2.2.2.2.2.2.2.2.2.2.2.2.1.1,bif Nat.beq w2 (Int.toNat v7.1.1)then v10.1.1.2 else v9.2.1.2.2.2.2.2.2.2.2.2.2.2.2.1.2),()),())),v1.2.2.2),()),v10.2))
 else
 none
 else
 none
 else
 none
 else
 none
 else
 bif (v5.1.1==2)then
 let w1:=(↑(List.length v1.2.2.2.1):Int)
 bif (k34 (((),w1,()),v5.2))then
 let v7:=(g34 (((),w1,()),v5.2))
 bif (k142 (((),()),v7.2))then
 bif (decide (0<=v7.1.1)&&decide (v7.1.1<w1))then
 let v9:=(g142 (((),()),v7.2))
 h ((((v1.2.2.1,(List.set v1.2.2.2.1 (Int.toNat v7.1.1) v9.1.1),()),()),v9.2))
 else
 none
 else
 none
 else
 none
 else
 bif (v5.1.1==3)then
 h ((((v1.2.2.1,List.replicate 0 (zero (Ty.int IntKind.i64)),()),()),v5.2))
 else
 bif (v5.1.1==4)then
 h ((((List.replicate 0 (zero a0S),v1.2.2.2),()),v5.2))
 else
 bif (v5.1.1==5)then
 let w3:=(((),(),(),()),v5.2.1,((),(),()),((),(),()),v1.2.2)
 bif (kl15 w3)then
 let v7:=(xl15 w3)
 h (((v7.2.2.2.2,()),v7.2.1,()))
 else
 none
 else
 bif (v5.1.1==6)then
 let w9:=(↑(List.length v1.2.2.2.1):Int)
 let v6:=(IntKind.wrap .i64 (w9-1))
 bif (decide (0<=v6)&&decide (v6<w9))then
 let w11:=(zero (Ty.int IntKind.i64))
 let v10:=(List.set (List.replicate 1 w11) 0 (IntKind.wrap .i64 ((IntKind.wrap .i64 ((List.getD v1.2.2.2.1 (Int.toNat v6) w11)+21600))-1)))
 bif (a0F (List.length v1.2.2.2.1+List.length v10))then
 h ((((v1.2.2.1,(v1.2.2.2.1++v10),()),()),v5.2))
 else
 none
 else
 none
 else
 h (((v1.2.2,()),v5.2))
 else
 none
 else
 none
 else
 none
theorem f4C (k74 g74 k34 g34 k82 g82 k145 g145 k128 g128 k142 g142 kl15 xl15 p128 Q128 e128 h x) :a3o (e7e k74 g74 k34 g34 k82 g82 k145 g145 k128 g128 k142 g142 kl15 xl15) (N79 p128 Q128 e128) (a0e Tryz.f79) I79 O79 h x=f8L k74 g74 k34 g34 k82 g82 k145 g145 k128 g128 k142 g142 kl15 xl15 p128 Q128 e128 h x:=by kernel_rfl
end Go.Proofs.YtjomnmoekchfeaaGreatDoor.AM
