/- Texts of one proof, joined: an abstract machine for the program, its functions evaluated, plain lemmas. Conditions: those that each lemma names. -/
import Derived.Test.YteieioehigacmaaGreatM2
import Derived.Test.YteieioehigacmaaGreatProg
import Derived.Test.YteieioehigacmaaGreatChecked
import Derived.Test.YteieioehigacmaaGreatM3
set_option linter.unusedVariables false
set_option linter.unusedSimpArgs false
namespace Go.Proofs.YteieioehigacmaaGreat.AM
open Go Go.Proofs
abbrev S25 : Ty := .cons (.int .i64) (.cons (.int .i64) (.cons (.int .i64) (.cons (.slice (.slice (.cpx .f32))) (.nil))))
abbrev S30 : Ty := .cons (.slice (.flt .f32)) (.cons (.slice (.int .i64)) (.cons (.slice (.slice (.flt .f32))) (.nil)))
abbrev S72 : Ty := .cons (.slice (.int .u8)) (.cons (.int .i64) (.cons (.int .i64) (.nil)))
def tab : List (Nat × TI) := [
 (1, ⟨1, 8, false, .nil, [.pois], [], 0, .other⟩),
 (2, ⟨1, 8, false, .int .i64, [.int .i64 0], [], 0, .int .i64⟩),
 (3, ⟨1, 8, false, .int .i64, [.int .i64 0], [], 0, .int .i64⟩),
 (4, ⟨1, 1, false, .bool, [.bool false], [], 0, .bool⟩),
 (5, ⟨1, 1, false, .int .u8, [.int .u8 0], [], 0, .int .u8⟩),
 (10, ⟨1, 16, false, .str, [.str ByteArray.empty], [], 0, .string⟩),
 (22, ⟨1, 24, false, .slice (.int .u8), [.nil (.int .u8)], [], 5, .slice⟩),
 (24, ⟨1, 24, false, .slice (.slice (.cpx .f32)), [.nil (.slice (.cpx .f32))], [], 58, .slice⟩),
 (26, ⟨4, 48, true, S25, [.int .i64 0, .int .i64 0, .int .i64 0, .nil (.slice (.cpx .f32))], [(0, 1, false), (1, 1, false), (2, 1, false), (3, 1, false)], 0, .struct⟩),
 (27, ⟨1, 24, false, .slice (.flt .f32), [.nil (.flt .f32)], [], 61, .slice⟩),
 (28, ⟨1, 24, false, .slice (.int .i64), [.nil (.int .i64)], [], 3, .slice⟩),
 (29, ⟨1, 24, false, .slice (.slice (.flt .f32)), [.nil (.slice (.flt .f32))], [], 27, .slice⟩),
 (31, ⟨3, 72, true, S30, [.nil (.flt .f32), .nil (.int .i64), .nil (.slice (.flt .f32))], [(0, 1, false), (1, 1, false), (2, 1, false)], 0, .struct⟩),
 (57, ⟨1, 24, false, .slice (.bool), [.nil (.bool)], [], 4, .slice⟩),
 (58, ⟨1, 24, false, .slice (.cpx .f32), [.nil (.cpx .f32)], [], 60, .slice⟩),
 (60, ⟨1, 8, false, .cpx .f32, [.cpx .f32 0 0], [], 0, .complex .f32⟩),
 (61, ⟨1, 4, false, .flt .f32, [.flt .f32 0], [], 0, .float .f32⟩),
 (64, ⟨1, 8, false, .nil, [.pois], [], 0, .other⟩),
 (69, ⟨1, 16, false, .cpx .f64, [.cpx .f64 0 0], [], 0, .complex .f64⟩),
 (73, ⟨3, 40, true, S72, [.nil (.int .u8), .int .i64 0, .int .i64 0], [(0, 1, false), (1, 1, false), (2, 1, false)], 0, .struct⟩),
 (86, ⟨1, 8, false, .flt .f64, [.flt .f64 0], [], 0, .float .f64⟩),
 (106, ⟨1, 8, false, .nil, [.pois], [], 0, .other⟩),
 (110, ⟨1, 8, false, .nil, [.pois], [], 0, .other⟩)]
def eqs : List Nat := []
theorem eqs_ok : AllP (EqOK Tryz.prog) eqs := eqsB_ok (by kernel_rfl)
theorem tab_ok : tabB Tryz.prog tab = true := by kernel_rfl
theorem mixed : Tryz.prog.follows .mixedOrders = true := Tryz.checked.mixed
def bodyOf (f : Func) : Code := match f.body with
 | some c => c
 | none => .skip
theorem fnIs {f : Nat} {fn : Func} {Γ : Env} (h : Tryz.prog.funcs[f]? = some fn) (hb : fn.body = some (bodyOf fn)) (hr : fn.results.toList = Γ.res) (hn : fn.ntmps = Γ.nt) (hname : (fn.name == "runtime.NumGoroutine") = false) (hl : LoopsOK Γ (bodyOf fn)) : FnIs Tryz.prog f Γ (bodyOf fn) :=
 ⟨hl, fn, h, hb, hr, hn, hname⟩
theorem noLoops {Γ : Env} {c : Code} (h : loopsOf c = []) : LoopsOK Γ c := fun c' hc => by rw [h] at hc; cases hc
abbrev KI (I : Sg) : Type := I.den -> Bool
abbrev GI (I O : Sg) : Type := I.den -> O.den
abbrev KA (A : Ty) : Type := Den A -> Bool
abbrev GA (A R : Ty) : Type := Den A -> Den R
abbrev QI (I O : Sg) : Type := I.den -> O.den -> Prop
set_option maxRecDepth 100000
set_option maxHeartbeats 0
theorem ext128 : ExtIs Tryz.prog 128 Extern.MathFloatBits.float64bits := ⟨_, Tryz.func128, rfl, rfl, by kernel_rfl, by kernel_rfl⟩
theorem ext127 : ExtIs Tryz.prog 127 Extern.MathFloatBits.float64frombits := ⟨_, Tryz.func127, rfl, rfl, by kernel_rfl, by kernel_rfl⟩
abbrev NaN64 : Type := { z : Nat // isNaN .f64 z = true }
theorem nan64 : Nonempty NaN64 := ⟨⟨qn .f64, isNaN_qn _⟩⟩
abbrev A116 : Ty := .cons (.flt .f64) (.nil)
abbrev R116 : Ty := .cons (.flt .f64) (.nil)
noncomputable def N116 : NEnv := mkN [(128, extFam (.cons (.flt .f64) .nil) (.cons (.int .u64) .nil) NaN64 nan64 (fun z x => ((((bif isNaN .f64 x.1 then z.1 else x.1 : Nat) : Int)), ()))), (127, extFam (.cons (.int .u64) .nil) (.cons (.flt .f64) .nil) Unit ⟨()⟩ (fun _ x => ((x.1 : Int).toNat, ())))] []
noncomputable def Γ116 : Env := mkEnv tab eqs [] 7 [.tmp 2] [] [] [] [] []
theorem evN116 (h : Den R116 -> Option Unit) (x : Den A116) : callN Γ116 N116 (bodyOf Tryz.f116) (decRH R116 h) (encA A116 x) [] =
 allK fun (z : NaN64) => allK fun (_ : Unit) => h ((Int.toNat (ibits BinOp.andNot IntKind.u64 (((bif isNaN FloatKind.f64 x.fst then z.1 else x.fst : Nat) : Int)) 9223372036854775808)), ()) := by kernel_rfl
theorem abs_bits (n : Nat) : (ibits .andNot .u64 (n : Int) 9223372036854775808).toNat = n % 2 ^ 63 := by
 have e : ibits .andNot .u64 (n : Int) 9223372036854775808 = IntKind.u64.wrap ((BitVec.ofInt 64 (n : Int) &&& ~~~(BitVec.ofInt 64 9223372036854775808)).toNat : Int) := rfl
 have hy : ~~~(BitVec.ofInt 64 9223372036854775808) = 9223372036854775807#64 := by decide
 rw [e, hy, BitVec.toNat_and]
 have hx : (BitVec.ofInt 64 (n : Int)).toNat = n % 2 ^ 64 := by
  rw [BitVec.toNat_ofInt]
  omega
 have h7 : (9223372036854775807#64).toNat = 2 ^ 63 - 1 := by decide
 rw [hx, h7, Nat.and_two_pow_sub_one_eq_mod, IntKind.wrap_u64]
 omega
theorem isNaN_mod {n : Nat} : isNaN .f64 (n % 2 ^ 63) = isNaN .f64 n := by
 have hs : FloatKind.f64.format.signWeight = 2 ^ 63 := by decide
 rw [Bool.eq_iff_iff, isNaN_iff, isNaN_iff, hs, Nat.mod_mod]
def K116 (x : Den A116) : Bool := true
def G116 (x : Den A116) : Den R116 := (x.1 % 2 ^ 63, ())
theorem env116 : EnvOK Tryz.prog Γ116 := env_ok mixed tab_ok eqs_ok .nil
theorem is116 : FnIs Tryz.prog 116 Γ116 (bodyOf Tryz.f116) := fnIs Tryz.func116 rfl rfl rfl (by kernel_rfl) (noLoops (by kernel_rfl))
theorem sem116 : SemOK Tryz.prog (116, fnMean A116 R116 K116 G116) :=
 fnN_sem (N := N116) env116 (mkN_ok ⟨ext_bits ext128, ext_frombits ext127, trivial⟩) is116 noNLoops (Q := fun x y => FEq .f64 (x.1 % 2 ^ 63) y.1)
  (fun x y hq β K v hv => by
   obtain ⟨b, rfl, hb⟩ := hv
   refine ⟨b, rfl, ?_⟩
   have hb : FEq .f64 y.1 b := hb
   show FEq .f64 (x.1 % 2 ^ 63) b
   rcases hq with e | ⟨h1, h2⟩
   ·rw [e]; exact hb
   ·exact .inr ⟨h1, FEq.nan_left hb h2⟩)
  (fun x _ k hk => by
   rw [evN116]
   haveI := nan64
   refine allK_intro fun z => allK_intro fun _ => hk _ ?_
   rw [abs_bits]
   cases hn : isNaN .f64 x.1 with
   | true => exact .inr ⟨by rw [isNaN_mod]; exact hn, by show isNaN .f64 (z.1 % 2 ^ 63) = true; rw [isNaN_mod]; exact z.2⟩
   | false => exact .inl rfl)
abbrev A5:Ty:=.cons (.slice (.int .u8)) (.nil)
abbrev R5:Ty:=.cons (.bool) (.nil)
noncomputable def Γ5:Env:=mkEnv tab eqs [] 6 [.tmp 2] [] [] [] [] []
def r5 (x:Den A5):Option (Den R5):=
 some ((decide ((↑(List.length x.1):Int) > 1048576)),())
theorem ev5 (x:Den A5):callK (Γ5) (bodyOf Tryz.f5) (decR R5) (encA A5 x) [] = r5 x:=by kernel_rfl
def F5 (x:Den A5):Option (Den R5):=r5 x
def K5 (x:Den A5):Bool:=(F5 x).isSome
def G5 (x:Den A5):Den R5:=(F5 x).getD (zero R5)
theorem sem5:SemOK Tryz.prog (5,fnMean A5 R5 K5 G5):=fn_opt (env_ok mixed tab_ok eqs_ok .nil) (fnIs Tryz.func5 rfl rfl rfl (by kernel_rfl) (noLoops (by kernel_rfl))) fun x => ev5 x
abbrev I49:Sg:=⟨[.ptr 0],[.box (S72)]⟩
abbrev O49:Sg:=⟨[.val (.int .i64)],[.box (S72)]⟩
noncomputable def Γ49:Env:=mkEnv tab eqs [] 58 [.tmp 2] [] [] [] [] []
def r49 (x:I49.den):Option (O49.den):=
 bif (decide (x.2.1.2.1 < (↑(List.length x.2.1.1):Int))) then
 bif (decide (0 <= x.2.1.2.1) && decide (x.2.1.2.1 < (↑(List.length x.2.1.1):Int))) then
 let v0:=(IntKind.wrap IntKind.i64 (x.2.1.2.2.1 * 6364136223846793005))
 let v1:=(IntKind.wrap IntKind.i64 (v0 + 1442695040888963407))
 let v2:=(List.getD x.2.1.1 (Int.toNat x.2.1.2.1) (zero (Ty.int IntKind.u8)))
 let v3:=(IntKind.wrap IntKind.i64 v2)
 let v4:=(IntKind.wrap IntKind.i64 (ibits BinOp.and IntKind.i64 (ibits BinOp.xor IntKind.i64 (Int.fdiv v1 (2 ^ min (Int.toNat 33) (IntKind.bits IntKind.i64))) (Int.fdiv v1 (2 ^ min (Int.toNat 45) (IntKind.bits IntKind.i64)))) 255 + v3))
 let v5:=(IntKind.wrap IntKind.i64 (x.2.1.2.1 + 1))
 some (((ibits BinOp.and IntKind.i64 v4 255),()),(((x.2.1.1),(v5,(v1,()))),()))
 else
 none
 else
 let v0:=(IntKind.wrap IntKind.i64 (x.2.1.2.2.1 * 6364136223846793005))
 let v1:=(IntKind.wrap IntKind.i64 (v0 + 1442695040888963407))
 some (((ibits BinOp.and IntKind.i64 (ibits BinOp.xor IntKind.i64 (Int.fdiv v1 (2 ^ min (Int.toNat 33) (IntKind.bits IntKind.i64))) (Int.fdiv v1 (2 ^ min (Int.toNat 45) (IntKind.bits IntKind.i64)))) 255),()),(((x.2.1.1),((x.2.1.2.1),(v1,()))),()))
theorem ev49 (x:I49.den):callS (Γ49) (bodyOf Tryz.f49) I49 O49 x = r49 x:=by kernel_rfl
def F49 (x:I49.den):Option (O49.den):=r49 x
def K49 (x:I49.den):Bool:=(F49 x).isSome
def G49 (x:I49.den):O49.den:=(F49 x).getD (zeroSg O49)
theorem sem49:SemOK Tryz.prog (49,sgMean true I49 O49 K49 G49):=sg_opt (env_ok mixed tab_ok eqs_ok .nil) (fnIs Tryz.func49 rfl rfl rfl (by kernel_rfl) (noLoops (by kernel_rfl))) true fun x => ev49 x
abbrev I28:Sg:=⟨[.ptr 0,.val (.int .i64)],[.box (S72)]⟩
abbrev O28:Sg:=⟨[.val (.int .i64)],[.box (S72)]⟩
noncomputable def Γ28 (k49:KI I49) (g49:GI I49 O49):Env:=mkEnv tab eqs [(49,sgMean true I49 O49 k49 g49)] 37 [.tmp 4] [] [] [] [] []
def r28 (k49:KI I49) (g49:GI I49 O49) (x:I28.den):Option (O28.den):=
 bif (decide (x.1.2.1 <= 0)) then
 some (((0),()),(((x.2.1.1),((x.2.1.2.1),((x.2.1.2.2.1),()))),()))
 else
 bif (decide (x.1.2.1 <= 256)) then
 let v0:=(k49 (((),()),x.2))
 bif v0 then
 bif (x.1.2.1 != 0) then
 let v1:=(g49 (((),()),x.2))
 some (((Int.tmod v1.1.1 x.1.2.1),()),((v1.2.1.1,(v1.2.1.2.1,(v1.2.1.2.2.1,()))),()))
 else
 none
 else
 none
 else
 let v0:=(k49 (((),()),x.2))
 bif v0 then
 let v1:=(g49 (((),()),x.2))
 let v2:=(k49 (((),()),v1.2))
 bif v2 then
 let v3:=(g49 (((),()),v1.2))
 let v4:=(k49 (((),()),v3.2))
 bif v4 then
 let v5:=(g49 (((),()),v3.2))
 let v6:=(k49 (((),()),v5.2))
 bif v6 then
 bif (x.1.2.1 != 0) then
 let v7:=(IntKind.wrap IntKind.i64 (v1.1.1 * 16777216))
 let v8:=(IntKind.wrap IntKind.i64 (v3.1.1 * 65536))
 let v9:=(IntKind.wrap IntKind.i64 (v7 + v8))
 let v10:=(IntKind.wrap IntKind.i64 (v5.1.1 * 256))
 let v11:=(IntKind.wrap IntKind.i64 (v9 + v10))
 let v12:=(g49 (((),()),v5.2))
 let v13:=(IntKind.wrap IntKind.i64 (v11 + v12.1.1))
 some (((Int.tmod v13 x.1.2.1),()),((v12.2.1.1,(v12.2.1.2.1,(v12.2.1.2.2.1,()))),()))
 else
 none
 else
 none
 else
 none
 else
 none
 else
 none
theorem ev28 (k49:KI I49) (g49:GI I49 O49) (x:I28.den):callS (Γ28 k49 g49) (bodyOf Tryz.f28) I28 O28 x = r28 k49 g49 x:=by kernel_rfl
def F28 (x:I28.den):Option (O28.den):=r28 K49 G49 x
def K28 (x:I28.den):Bool:=(F28 x).isSome
def G28 (x:I28.den):O28.den:=(F28 x).getD (zeroSg O28)
theorem sem28:SemOK Tryz.prog (28,sgMean true I28 O28 K28 G28):=sg_opt (env_ok mixed tab_ok eqs_ok (.cons sem49 .nil)) (fnIs Tryz.func28 rfl rfl rfl (by kernel_rfl) (noLoops (by kernel_rfl))) true fun x => ev28 K49 G49 x
abbrev I25:Sg:=⟨[.val (.slice (.int .u8))],[]⟩
abbrev O25:Sg:=⟨[.ptr 0],[.box (S72)]⟩
abbrev V25_3:Type:=(((List (Den (.int .u8))) × (Int × (Int × Unit))) × Unit)
def sh25_3:ShS:=⟨[(0,.one (.sl (.int .u8))),(3,.one (.int .i64)),(4,.one (.int .i64))],[],0,0⟩
abbrev X25_3:Type:=(((List (Den (.int .u8))) × (Int × Unit)) × Unit)
def shX25_3:ShS:=⟨[(0,.one (.sl (.int .u8))),(3,.one (.int .i64))],[],0,0⟩
noncomputable def Γ25 (kl3:V25_3 -> Bool) (xl3:V25_3 -> X25_3):Env:=mkEnv tab eqs [] 32 [.tmp 2] [] [] [(3,loopX [0,3,4] [] 0 [0,3] [] sh25_3 shX25_3 kl3 xl3)] [] []
noncomputable def lc25_3:Code:=(loopsOf (bodyOf Tryz.f25)).getD 0 .skip
def q25_3 (f:V25_3 -> Option (X25_3)) (v:V25_3):Option (X25_3):=
 bif (decide (v.1.2.2.1 < (↑(List.length v.1.1):Int))) then
 bif (decide (v.1.2.2.1 < 4000)) then
 bif (decide (0 <= v.1.2.2.1) && decide (v.1.2.2.1 < (↑(List.length v.1.1):Int))) then
 let v0:=(IntKind.wrap IntKind.i64 (v.1.2.1 * 131))
 let v1:=(List.getD v.1.1 (Int.toNat v.1.2.2.1) (zero (Ty.int IntKind.u8)))
 let v2:=(IntKind.wrap IntKind.i64 v1)
 let v3:=(IntKind.wrap IntKind.i64 (v0 + v2))
 let v4:=(IntKind.wrap IntKind.i64 (v3 + 7))
 let v5:=(IntKind.wrap IntKind.i64 (v.1.2.2.1 + 1))
 f (((v.1.1),((ibits BinOp.and IntKind.i64 v4 1073741823),(v5,()))),())
 else
 none
 else
 some (((v.1.1),((v.1.2.1),())),())
 else
 some (((v.1.1),((v.1.2.1),())),())
theorem evl25_3 (kl3:V25_3 -> Bool) (xl3:V25_3 -> X25_3) (f:V25_3 -> Option (X25_3)) (v:V25_3):EBk (Γ25 kl3 xl3) lc25_3 (roundK [0,3,4] [] 0 [0,3] [] (atS sh25_3 f) (endX shX25_3)) (mkS sh25_3 v) = q25_3 f v:=by kernel_rfl
def b25_3 (v:V25_3):Nat:=v.1.1.length + v.1.2.1.natAbs + v.1.2.2.1.natAbs + 1000
def l25_3 (v:V25_3):Option (X25_3):=iter (q25_3) (b25_3 v) v
def kL25_3 (v:V25_3):Bool:=(l25_3 v).isSome
def xL25_3 (v:V25_3):X25_3:=(l25_3 v).getD (([],(0,())),())
def r25 (kl3:V25_3 -> Bool) (xl3:V25_3 -> X25_3) (x:I25.den):Option (O25.den):=
 let v0:=(IntKind.wrap IntKind.i64 (33211 + (↑(List.length x.1.1):Int)))
 let v1:=(kl3 ((x.1.1,v0,0,()),()))
 bif v1 then
 let v2:=(xl3 ((x.1.1,v0,0,()),()))
 some (((),()),((v2.1.1,((0),(v2.1.2.1,()))),()))
 else
 none
theorem ev25 (kl3:V25_3 -> Bool) (xl3:V25_3 -> X25_3) (x:I25.den):callS (Γ25 kl3 xl3) (bodyOf Tryz.f25) I25 O25 x = r25 kl3 xl3 x:=by kernel_rfl
def F25 (x:I25.den):Option (O25.den):=r25 kL25_3 xL25_3 x
def K25 (x:I25.den):Bool:=(F25 x).isSome
def G25 (x:I25.den):O25.den:=(F25 x).getD (zeroSg O25)
theorem sem25:SemOK Tryz.prog (25,sgMean false I25 O25 K25 G25):=sg_opt (env_ok mixed tab_ok eqs_ok .nil) (fnIs Tryz.func25 rfl rfl rfl (by kernel_rfl) (loops_ok (l:=[lc25_3]) (by kernel_rfl) (.cons (one_loop rfl (loopX_sound (sh:=sh25_3) (shX:=shX25_3) (fun f v => evl25_3 kL25_3 xL25_3 f v) b25_3 (([],(0,())),()))) (.nil)))) false fun x => ev25 kL25_3 xL25_3 x
abbrev I30:Sg:=⟨[.ptr 0,.val (.int .i64)],[.box (S72)]⟩
abbrev O30:Sg:=⟨[.val (.bool)],[.box (S72)]⟩
noncomputable def Γ30 (k28:KI I28) (g28:GI I28 O28):Env:=mkEnv tab eqs [(28,sgMean true I28 O28 k28 g28)] 9 [.tmp 4] [] [] [] [] []
def r30 (k28:KI I28) (g28:GI I28 O28) (x:I30.den):Option (O30.den):=
 let v0:=(k28 (((),x.1.2),x.2))
 bif v0 then
 let v1:=(g28 (((),x.1.2),x.2))
 some (((v1.1.1 == 0),()),((v1.2.1.1,(v1.2.1.2.1,(v1.2.1.2.2.1,()))),()))
 else
 none
theorem ev30 (k28:KI I28) (g28:GI I28 O28) (x:I30.den):callS (Γ30 k28 g28) (bodyOf Tryz.f30) I30 O30 x = r30 k28 g28 x:=by kernel_rfl
def F30 (x:I30.den):Option (O30.den):=r30 K28 G28 x
def K30 (x:I30.den):Bool:=(F30 x).isSome
def G30 (x:I30.den):O30.den:=(F30 x).getD (zeroSg O30)
theorem sem30:SemOK Tryz.prog (30,sgMean true I30 O30 K30 G30):=sg_opt (env_ok mixed tab_ok eqs_ok (.cons sem28 .nil)) (fnIs Tryz.func30 rfl rfl rfl (by kernel_rfl) (noLoops (by kernel_rfl))) true fun x => ev30 K28 G28 x
abbrev I46:Sg:=⟨[.ptr 0,.own (.int .i64) 1],[.box (S72),.arr (.int .i64)]⟩
abbrev O46:Sg:=⟨[.val (.int .i64)],[.box (S72),.arr (.int .i64)]⟩
noncomputable def Γ46 (k28:KI I28) (g28:GI I28 O28):Env:=mkEnv tab eqs [(28,sgMean true I28 O28 k28 g28)] 12 [.tmp 4] [] [] [] [] []
def r46 (k28:KI I28) (g28:GI I28 O28) (x:I46.den):Option (O46.den):=
 let v0:=(k28 (((),(↑(List.length x.2.2.1):Int),()),x.2.1,()))
 bif v0 then
 let v1:=(g28 (((),(↑(List.length x.2.2.1):Int),()),x.2.1,()))
 bif (decide (0 <= v1.1.1) && decide (v1.1.1 < (↑(List.length x.2.2.1):Int))) then
 let v2:=(List.getD x.2.2.1 (Int.toNat v1.1.1) (zero (Ty.int IntKind.i64)))
 some ((v2,()),((v1.2.1.1,(v1.2.1.2.1,(v1.2.1.2.2.1,()))),((x.2.2.1),())))
 else
 none
 else
 none
theorem ev46 (k28:KI I28) (g28:GI I28 O28) (x:I46.den):callS (Γ46 k28 g28) (bodyOf Tryz.f46) I46 O46 x = r46 k28 g28 x:=by kernel_rfl
def F46 (x:I46.den):Option (O46.den):=r46 K28 G28 x
def K46 (x:I46.den):Bool:=(F46 x).isSome
def G46 (x:I46.den):O46.den:=(F46 x).getD (zeroSg O46)
theorem sem46:SemOK Tryz.prog (46,sgMean true I46 O46 K46 G46):=sg_opt (env_ok mixed tab_ok eqs_ok (.cons sem28 .nil)) (fnIs Tryz.func46 rfl rfl rfl (by kernel_rfl) (noLoops (by kernel_rfl))) true fun x => ev46 K28 G28 x
abbrev I45:Sg:=⟨[.ptr 0],[.box (S72)]⟩
abbrev O45:Sg:=⟨[.val (.int .i64)],[.box (S72)]⟩
noncomputable def Γ45 (k28:KI I28) (g28:GI I28 O28) (k46:KI I46) (g46:GI I46 O46):Env:=mkEnv tab eqs [(28,sgMean true I28 O28 k28 g28),(46,sgMean true I46 O46 k46 g46)] 16 [.tmp 2] [] [] [] [] []
def r45 (k28:KI I28) (g28:GI I28 O28) (k46:KI I46) (g46:GI I46 O46) (x:I45.den):Option (O45.den):=
 let v0:=(k28 (((),4,()),x.2))
 bif v0 then
 let v1:=(g28 (((),4,()),x.2))
 bif (v1.1.1 == 0) then
 let v2:=(List.set (List.replicate 10 (zero (Ty.int IntKind.i64))) 0 (-1))
 let v3:=(List.set v2 1 0)
 let v4:=(List.set v3 2 127)
 let v5:=(List.set v4 3 128)
 let v6:=(List.set v5 4 16383)
 let v7:=(List.set v6 5 16384)
 let v8:=(List.set v7 6 1000000000)
 let v9:=(List.set v8 7 1000000001)
 let v10:=(List.set v9 8 9223372036854775807)
 let v11:=(List.set v10 9 (-9223372036854775808))
 let v12:=(k46 (((),(),()),v1.2.1,v11,()))
 bif v12 then
 let v13:=(g46 (((),(),()),v1.2.1,v11,()))
 some ((v13.1.1,()),((v13.2.1.1,(v13.2.1.2.1,(v13.2.1.2.2.1,()))),()))
 else
 none
 else
 bif (v1.1.1 == 1) then
 let v2:=(k28 (((),1000000000,()),v1.2))
 bif v2 then
 let v3:=(g28 (((),1000000000,()),v1.2))
 some ((v3.1.1,()),((v3.2.1.1,(v3.2.1.2.1,(v3.2.1.2.2.1,()))),()))
 else
 none
 else
 let v2:=(k28 (((),400,()),v1.2))
 bif v2 then
 let v3:=(g28 (((),400,()),v1.2))
 some ((v3.1.1,()),((v3.2.1.1,(v3.2.1.2.1,(v3.2.1.2.2.1,()))),()))
 else
 none
 else
 none
theorem ev45 (k28:KI I28) (g28:GI I28 O28) (k46:KI I46) (g46:GI I46 O46) (x:I45.den):callS (Γ45 k28 g28 k46 g46) (bodyOf Tryz.f45) I45 O45 x = r45 k28 g28 k46 g46 x:=by kernel_rfl
def F45 (x:I45.den):Option (O45.den):=r45 K28 G28 K46 G46 x
def K45 (x:I45.den):Bool:=(F45 x).isSome
def G45 (x:I45.den):O45.den:=(F45 x).getD (zeroSg O45)
theorem sem45:SemOK Tryz.prog (45,sgMean true I45 O45 K45 G45):=sg_opt (env_ok mixed tab_ok eqs_ok (.cons sem28 (.cons sem46 .nil))) (fnIs Tryz.func45 rfl rfl rfl (by kernel_rfl) (noLoops (by kernel_rfl))) true fun x => ev45 K28 G28 K46 G46 x
abbrev I102:Sg:=⟨[.ptr 0],[.box (S72)]⟩
abbrev O102:Sg:=⟨[.val (.flt .f64)],[.box (S72)]⟩
noncomputable def Γ102 (k28:KI I28) (g28:GI I28 O28):Env:=mkEnv tab eqs [(28,sgMean true I28 O28 k28 g28)] 34 [.tmp 2] [] [] [] [] []
def r102 (k28:KI I28) (g28:GI I28 O28) (x:I102.den):Option (O102.den):=
 let v0:=(k28 (((),2,()),x.2))
 bif v0 then
 let v1:=(g28 (((),2,()),x.2))
 let v2:=(k28 (((),8,()),v1.2))
 bif v2 then
 let v3:=(g28 (((),8,()),v1.2))
 bif (v3.1.1 == 0) then
 let v4:=(IntKind.wrap IntKind.i64 (v1.1.1 * 0))
 let v5:=(farith BinOp.quo FloatKind.f64 (FloatKind.nearest FloatKind.f64 v4) (FloatKind.nearest FloatKind.f64 v4))
 some ((v5,()),((v3.2.1.1,(v3.2.1.2.1,(v3.2.1.2.2.1,()))),()))
 else
 bif (v3.1.1 == 1) then
 let v4:=(IntKind.wrap IntKind.i64 (v1.1.1 * 0))
 let v5:=(farith BinOp.quo FloatKind.f64 4607182418800017408 (FloatKind.nearest FloatKind.f64 v4))
 some ((v5,()),((v3.2.1.1,(v3.2.1.2.1,(v3.2.1.2.2.1,()))),()))
 else
 bif (v3.1.1 == 2) then
 let v4:=(IntKind.wrap IntKind.i64 (v1.1.1 * 0))
 let v5:=(farith BinOp.quo FloatKind.f64 13830554455654793216 (FloatKind.nearest FloatKind.f64 v4))
 some ((v5,()),((v3.2.1.1,(v3.2.1.2.1,(v3.2.1.2.2.1,()))),()))
 else
 bif (v3.1.1 == 3) then
 let v4:=(IntKind.wrap IntKind.i64 (v1.1.1 * 0))
 let v5:=(fneg FloatKind.f64 (FloatKind.nearest FloatKind.f64 v4))
 some ((v5,()),((v3.2.1.1,(v3.2.1.2.1,(v3.2.1.2.2.1,()))),()))
 else
 bif (v3.1.1 == 4) then
 some (((9094988921128908188),()),((v3.2.1.1,(v3.2.1.2.1,(v3.2.1.2.2.1,()))),()))
 else
 bif (v3.1.1 == 5) then
 some (((9223372036854775809),()),((v3.2.1.1,(v3.2.1.2.1,(v3.2.1.2.2.1,()))),()))
 else
 bif (v3.1.1 == 6) then
 some (((4412443251819771522),()),((v3.2.1.1,(v3.2.1.2.1,(v3.2.1.2.2.1,()))),()))
 else
 let v4:=(IntKind.wrap IntKind.i64 (v1.1.1 * 0))
 some (((FloatKind.nearest FloatKind.f64 v4),()),((v3.2.1.1,(v3.2.1.2.1,(v3.2.1.2.2.1,()))),()))
 else
 none
 else
 none
theorem ev102 (k28:KI I28) (g28:GI I28 O28) (x:I102.den):callS (Γ102 k28 g28) (bodyOf Tryz.f102) I102 O102 x = r102 k28 g28 x:=by kernel_rfl
def F102 (x:I102.den):Option (O102.den):=r102 K28 G28 x
def K102 (x:I102.den):Bool:=(F102 x).isSome
def G102 (x:I102.den):O102.den:=(F102 x).getD (zeroSg O102)
theorem sem102:SemOK Tryz.prog (102,sgMean true I102 O102 K102 G102):=sg_opt (env_ok mixed tab_ok eqs_ok (.cons sem28 .nil)) (fnIs Tryz.func102 rfl rfl rfl (by kernel_rfl) (noLoops (by kernel_rfl))) true fun x => ev102 K28 G28 x
abbrev I68:Sg:=⟨[.ptr 0,.val (.int .i64)],[.box (S72)]⟩
abbrev O68:Sg:=⟨[.val (.flt .f64)],[.box (S72)]⟩
noncomputable def Γ68 (k30:KI I30) (g30:GI I30 O30) (k102:KI I102) (g102:GI I102 O102) (k28:KI I28) (g28:GI I28 O28):Env:=mkEnv tab eqs [(30,sgMean true I30 O30 k30 g30),(102,sgMean true I102 O102 k102 g102),(28,sgMean true I28 O28 k28 g28)] 31 [.tmp 4] [] [] [] [] []
def r68 (k30:KI I30) (g30:GI I30 O30) (k102:KI I102) (g102:GI I102 O102) (k28:KI I28) (g28:GI I28 O28) (x:I68.den):Option (O68.den):=
 let v0:=(k30 (((),40,()),x.2))
 bif v0 then
 let v1:=(g30 (((),40,()),x.2))
 bif v1.1.1 then
 let v2:=(k102 (((),()),v1.2))
 bif v2 then
 let v3:=(g102 (((),()),v1.2))
 some ((v3.1.1,()),((v3.2.1.1,(v3.2.1.2.1,(v3.2.1.2.2.1,()))),()))
 else
 none
 else
 let v2:=(IntKind.wrap IntKind.i64 (x.1.2.1 * 8))
 let v3:=(IntKind.wrap IntKind.i64 (v2 + 1))
 let v4:=(k28 (((),v3,()),v1.2))
 bif v4 then
 let v5:=(g28 (((),v3,()),v1.2))
 let v6:=(k30 (((),2,()),v5.2))
 bif v6 then
 let v7:=(g30 (((),2,()),v5.2))
 bif v7.1.1 then
 let v8:=(IntKind.wrap IntKind.i64 (x.1.2.1 * 1000))
 let v9:=(IntKind.wrap IntKind.i64 (v8 + 1))
 let v10:=(k28 (((),v9,()),v7.2))
 bif v10 then
 let v11:=(g28 (((),v9,()),v7.2))
 let v12:=(k30 (((),2,()),v11.2))
 bif v12 then
 let v13:=(g30 (((),2,()),v11.2))
 bif v13.1.1 then
 let v14:=(farith BinOp.quo FloatKind.f64 (FloatKind.nearest FloatKind.f64 v11.1.1) 4652007308841189376)
 let v15:=(fneg FloatKind.f64 v14)
 some ((v15,()),((v13.2.1.1,(v13.2.1.2.1,(v13.2.1.2.2.1,()))),()))
 else
 let v14:=(farith BinOp.quo FloatKind.f64 (FloatKind.nearest FloatKind.f64 v11.1.1) 4652007308841189376)
 some ((v14,()),((v13.2.1.1,(v13.2.1.2.1,(v13.2.1.2.2.1,()))),()))
 else
 none
 else
 none
 else
 let v8:=(k30 (((),2,()),v7.2))
 bif v8 then
 let v9:=(g30 (((),2,()),v7.2))
 bif v9.1.1 then
 let v10:=(farith BinOp.quo FloatKind.f64 (FloatKind.nearest FloatKind.f64 v5.1.1) 4620693217682128896)
 let v11:=(fneg FloatKind.f64 v10)
 some ((v11,()),((v9.2.1.1,(v9.2.1.2.1,(v9.2.1.2.2.1,()))),()))
 else
 let v10:=(farith BinOp.quo FloatKind.f64 (FloatKind.nearest FloatKind.f64 v5.1.1) 4620693217682128896)
 some ((v10,()),((v9.2.1.1,(v9.2.1.2.1,(v9.2.1.2.2.1,()))),()))
 else
 none
 else
 none
 else
 none
 else
 none
theorem ev68 (k30:KI I30) (g30:GI I30 O30) (k102:KI I102) (g102:GI I102 O102) (k28:KI I28) (g28:GI I28 O28) (x:I68.den):callS (Γ68 k30 g30 k102 g102 k28 g28) (bodyOf Tryz.f68) I68 O68 x = r68 k30 g30 k102 g102 k28 g28 x:=by kernel_rfl
def F68 (x:I68.den):Option (O68.den):=r68 K30 G30 K102 G102 K28 G28 x
def K68 (x:I68.den):Bool:=(F68 x).isSome
def G68 (x:I68.den):O68.den:=(F68 x).getD (zeroSg O68)
theorem sem68:SemOK Tryz.prog (68,sgMean true I68 O68 K68 G68):=sg_opt (env_ok mixed tab_ok eqs_ok (.cons sem30 (.cons sem102 (.cons sem28 .nil)))) (fnIs Tryz.func68 rfl rfl rfl (by kernel_rfl) (noLoops (by kernel_rfl))) true fun x => ev68 K30 G30 K102 G102 K28 G28 x
abbrev I29:Sg:=⟨[.ptr 0,.val (S25)],[.box (S72)]⟩
abbrev O29:Sg:=⟨[.val (.int .i64)],[.box (S72)]⟩
noncomputable def Γ29 (k30:KI I30) (g30:GI I30 O30) (k46:KI I46) (g46:GI I46 O46) (k28:KI I28) (g28:GI I28 O28):Env:=mkEnv tab eqs [(30,sgMean true I30 O30 k30 g30),(46,sgMean true I46 O46 k46 g46),(28,sgMean true I28 O28 k28 g28)] 17 [.tmp 4] [] [] [] [] []
def r29 (k30:KI I30) (g30:GI I30 O30) (k46:KI I46) (g46:GI I46 O46) (k28:KI I28) (g28:GI I28 O28) (x:I29.den):Option (O29.den):=
 let v0:=(k30 (((),25,()),x.2))
 bif v0 then
 let v1:=(g30 (((),25,()),x.2))
 bif v1.1.1 then
 let v2:=(List.set (List.replicate 5 (zero (Ty.int IntKind.i64))) 0 (-1))
 let v3:=(List.set v2 1 9223372036854775807)
 let v4:=(List.set v3 2 4)
 let v5:=(List.set v4 3 6)
 let v6:=(List.set v5 4 9)
 let v7:=(k46 (((),(),()),v1.2.1,v6,()))
 bif v7 then
 let v8:=(g46 (((),(),()),v1.2.1,v6,()))
 some ((v8.1.1,()),((v8.2.1.1,(v8.2.1.2.1,(v8.2.1.2.2.1,()))),()))
 else
 none
 else
 let v2:=(IntKind.wrap IntKind.i64 ((↑(List.length x.1.2.1.2.2.2.1):Int) * 0))
 let v3:=(IntKind.wrap IntKind.i64 (v2 + 4))
 let v4:=(k28 (((),v3,()),v1.2))
 bif v4 then
 let v5:=(g28 (((),v3,()),v1.2))
 some ((v5.1.1,()),((v5.2.1.1,(v5.2.1.2.1,(v5.2.1.2.2.1,()))),()))
 else
 none
 else
 none
theorem ev29 (k30:KI I30) (g30:GI I30 O30) (k46:KI I46) (g46:GI I46 O46) (k28:KI I28) (g28:GI I28 O28) (x:I29.den):callS (Γ29 k30 g30 k46 g46 k28 g28) (bodyOf Tryz.f29) I29 O29 x = r29 k30 g30 k46 g46 k28 g28 x:=by kernel_rfl
def F29 (x:I29.den):Option (O29.den):=r29 K30 G30 K46 G46 K28 G28 x
def K29 (x:I29.den):Bool:=(F29 x).isSome
def G29 (x:I29.den):O29.den:=(F29 x).getD (zeroSg O29)
theorem sem29:SemOK Tryz.prog (29,sgMean true I29 O29 K29 G29):=sg_opt (env_ok mixed tab_ok eqs_ok (.cons sem30 (.cons sem46 (.cons sem28 .nil)))) (fnIs Tryz.func29 rfl rfl rfl (by kernel_rfl) (noLoops (by kernel_rfl))) true fun x => ev29 K30 G30 K46 G46 K28 G28 x
abbrev I32:Sg:=⟨[.ptr 0],[.box (S72)]⟩
abbrev O32:Sg:=⟨[.val (.int .i64)],[.box (S72)]⟩
noncomputable def Γ32 (k30:KI I30) (g30:GI I30 O30) (k46:KI I46) (g46:GI I46 O46) (k28:KI I28) (g28:GI I28 O28):Env:=mkEnv tab eqs [(30,sgMean true I30 O30 k30 g30),(46,sgMean true I46 O46 k46 g46),(28,sgMean true I28 O28 k28 g28)] 10 [.tmp 2] [] [] [] [] []
def r32 (k30:KI I30) (g30:GI I30 O30) (k46:KI I46) (g46:GI I46 O46) (k28:KI I28) (g28:GI I28 O28) (x:I32.den):Option (O32.den):=
 let v0:=(k30 (((),15,()),x.2))
 bif v0 then
 let v1:=(g30 (((),15,()),x.2))
 bif v1.1.1 then
 let v2:=(List.set (List.replicate 5 (zero (Ty.int IntKind.i64))) 0 (-1))
 let v3:=(List.set v2 1 0)
 let v4:=(List.set v3 2 10000000)
 let v5:=(List.set v4 3 10000001)
 let v6:=(List.set v5 4 9999500)
 let v7:=(k46 (((),(),()),v1.2.1,v6,()))
 bif v7 then
 let v8:=(g46 (((),(),()),v1.2.1,v6,()))
 some ((v8.1.1,()),((v8.2.1.1,(v8.2.1.2.1,(v8.2.1.2.2.1,()))),()))
 else
 none
 else
 let v2:=(k28 (((),9000,()),v1.2))
 bif v2 then
 let v3:=(g28 (((),9000,()),v1.2))
 some ((v3.1.1,()),((v3.2.1.1,(v3.2.1.2.1,(v3.2.1.2.2.1,()))),()))
 else
 none
 else
 none
theorem ev32 (k30:KI I30) (g30:GI I30 O30) (k46:KI I46) (g46:GI I46 O46) (k28:KI I28) (g28:GI I28 O28) (x:I32.den):callS (Γ32 k30 g30 k46 g46 k28 g28) (bodyOf Tryz.f32) I32 O32 x = r32 k30 g30 k46 g46 k28 g28 x:=by kernel_rfl
def F32 (x:I32.den):Option (O32.den):=r32 K30 G30 K46 G46 K28 G28 x
def K32 (x:I32.den):Bool:=(F32 x).isSome
def G32 (x:I32.den):O32.den:=(F32 x).getD (zeroSg O32)
theorem sem32:SemOK Tryz.prog (32,sgMean true I32 O32 K32 G32):=sg_opt (env_ok mixed tab_ok eqs_ok (.cons sem30 (.cons sem46 (.cons sem28 .nil)))) (fnIs Tryz.func32 rfl rfl rfl (by kernel_rfl) (noLoops (by kernel_rfl))) true fun x => ev32 K30 G30 K46 G46 K28 G28 x
abbrev A22:Ty:=.cons (.int .i64) (.cons (.int .i64) (.cons (.int .i64) (.nil)))
abbrev R22:Ty:=.cons (.bool) (.nil)
noncomputable def Γ22:Env:=mkEnv tab eqs [] 15 [.tmp 6] [] [] [] [] []
def r22 (x:Den A22):Option (Den R22):=
 bif (decide (x.1 ≥ x.2.1)) then
 some ((decide (x.1 <= x.2.2.1)),())
 else
 some ((false),())
theorem ev22 (x:Den A22):callK (Γ22) (bodyOf Tryz.f22) (decR R22) (encA A22 x) [] = r22 x:=by kernel_rfl
def F22 (x:Den A22):Option (Den R22):=r22 x
def K22 (x:Den A22):Bool:=(F22 x).isSome
def G22 (x:Den A22):Den R22:=(F22 x).getD (zero R22)
theorem sem22:SemOK Tryz.prog (22,fnMean A22 R22 K22 G22):=fn_opt (env_ok mixed tab_ok eqs_ok .nil) (fnIs Tryz.func22 rfl rfl rfl (by kernel_rfl) (noLoops (by kernel_rfl))) fun x => ev22 x
abbrev A84:Ty:=.cons (.flt .f32) (.nil)
abbrev R84:Ty:=.cons (.flt .f32) (.nil)
noncomputable def Γ84:Env:=mkEnv tab eqs [] 8 [.tmp 2] [] [] [] [] []
def r84 (x:Den A84):Option (Den R84):=
 bif (flt FloatKind.f32 x.1 0) then
 let v0:=(fneg FloatKind.f32 x.1)
 some (v0,())
 else
 some ((x.1),())
theorem ev84 (x:Den A84):callK (Γ84) (bodyOf Tryz.f84) (decR R84) (encA A84 x) [] = r84 x:=by kernel_rfl
def F84 (x:Den A84):Option (Den R84):=r84 x
def K84 (x:Den A84):Bool:=(F84 x).isSome
def G84 (x:Den A84):Den R84:=(F84 x).getD (zero R84)
theorem sem84:SemOK Tryz.prog (84,fnMean A84 R84 K84 G84):=fn_opt (env_ok mixed tab_ok eqs_ok .nil) (fnIs Tryz.func84 rfl rfl rfl (by kernel_rfl) (noLoops (by kernel_rfl))) fun x => ev84 x
abbrev A54:Ty:=.cons (.cpx .f32) (.nil)
abbrev R54:Ty:=.cons (.bool) (.nil)
noncomputable def Γ54 (k84:KA A84) (g84:GA A84 R84):Env:=mkEnv tab eqs [(84,fnMean A84 R84 k84 g84)] 13 [.tmp 2] [] [] [] [] []
def r54 (k84:KA A84) (g84:GA A84 R84) (x:Den A54):Option (Den R54):=
 let v0:=(k84 (x.1.1,()))
 bif v0 then
 let v1:=(g84 (x.1.1,()))
 bif (flt FloatKind.f32 v1.1 1120403456 || feq FloatKind.f32 v1.1 1120403456) then
 let v2:=(k84 (x.1.2,()))
 bif v2 then
 let v3:=(g84 (x.1.2,()))
 some ((flt FloatKind.f32 v3.1 1120403456 || feq FloatKind.f32 v3.1 1120403456),())
 else
 none
 else
 some ((false),())
 else
 none
theorem ev54 (k84:KA A84) (g84:GA A84 R84) (x:Den A54):callK (Γ54 k84 g84) (bodyOf Tryz.f54) (decR R54) (encA A54 x) [] = r54 k84 g84 x:=by kernel_rfl
def F54 (x:Den A54):Option (Den R54):=r54 K84 G84 x
def K54 (x:Den A54):Bool:=(F54 x).isSome
def G54 (x:Den A54):Den R54:=(F54 x).getD (zero R54)
theorem sem54:SemOK Tryz.prog (54,fnMean A54 R54 K54 G54):=fn_opt (env_ok mixed tab_ok eqs_ok (.cons sem84 .nil)) (fnIs Tryz.func54 rfl rfl rfl (by kernel_rfl) (noLoops (by kernel_rfl))) fun x => ev54 K84 G84 x
abbrev A35:Ty:=.cons (.slice (.cpx .f32)) (.nil)
abbrev R35:Ty:=.cons (.bool) (.nil)
abbrev V35_2:Type:=(((List (Den (.cpx .f32))) × (Int × (Int × Unit))) × Unit)
def sh35_2:ShS:=⟨[(5,.one (.sl (.cpx .f32))),(6,.one (.int .i64)),(7,.one (.int .i64))],[],0,0⟩
abbrev X35_2:Type:=(Unit × Unit)
def shX35_2:ShS:=⟨[],[],0,0⟩
abbrev Y35_2:Type:=((Bool × Unit) × Unit)
def shY35_2:ShS:=⟨[(2,.one (.bool))],[],0,0⟩
noncomputable def Γ35 (k54:KA A54) (g54:GA A54 R54) (kl2:V35_2 -> Bool) (xl2:V35_2 -> X35_2) (tl2:V35_2 -> Bool) (yl2:V35_2 -> Y35_2):Env:=mkEnv tab eqs [(54,fnMean A54 R54 k54 g54)] 15 [.tmp 2] [] [] [(2,loopR [5,6,7] [] 0 [] [] sh35_2 shX35_2 shY35_2 kl2 tl2 xl2 yl2)] [] []
noncomputable def lc35_2:Code:=(loopsOf (bodyOf Tryz.f35)).getD 0 .skip
def q35_2 (k54:KA A54) (g54:GA A54 R54) (f:V35_2 -> Option (X35_2 ⊕ Y35_2)) (v:V35_2):Option (X35_2 ⊕ Y35_2):=
 bif (decide (v.1.2.2.1 < v.1.2.1)) then
 bif (decide (0 <= v.1.2.2.1) && decide (v.1.2.2.1 < (↑(List.length v.1.1):Int))) then
 let v0:=(List.getD v.1.1 (Int.toNat v.1.2.2.1) (zero (Ty.cpx FloatKind.f32)))
 let v1:=(k54 (v0,()))
 bif v1 then
 let v2:=(g54 (v0,()))
 bif (!v2.1) then
 some (Sum.inr (((false),()),()))
 else
 let v3:=(IntKind.wrap IntKind.i64 (v.1.2.2.1 + 1))
 f (((v.1.1),((v.1.2.1),(v3,()))),())
 else
 none
 else
 none
 else
 some (Sum.inl ((),()))
theorem evl35_2 (k54:KA A54) (g54:GA A54 R54) (kl2:V35_2 -> Bool) (xl2:V35_2 -> X35_2) (tl2:V35_2 -> Bool) (yl2:V35_2 -> Y35_2) (f:V35_2 -> Option (X35_2 ⊕ Y35_2)) (v:V35_2):EBk (Γ35 k54 g54 kl2 xl2 tl2 yl2) lc35_2 (roundK [5,6,7] [] 0 [] [] (atS sh35_2 f) (endS shX35_2 shY35_2)) (mkS sh35_2 v) = q35_2 k54 g54 f v:=by kernel_rfl
def b35_2 (v:V35_2):Nat:=v.1.1.length + v.1.2.1.natAbs + v.1.2.2.1.natAbs + 1000
def l35_2 (v:V35_2):Option (X35_2 ⊕ Y35_2):=iter (q35_2 K54 G54) (b35_2 v) v
def kL35_2 (v:V35_2):Bool:=(l35_2 v).isSome
def tL35_2 (v:V35_2):Bool:=isR (l35_2 v)
def xL35_2 (v:V35_2):X35_2:=xOf ((),()) (l35_2 v)
def yL35_2 (v:V35_2):Y35_2:=yOf ((false,()),()) (l35_2 v)
def r35 (k54:KA A54) (g54:GA A54 R54) (kl2:V35_2 -> Bool) (xl2:V35_2 -> X35_2) (tl2:V35_2 -> Bool) (yl2:V35_2 -> Y35_2) (x:Den A35):Option (Den R35):=
 let v0:=(kl2 ((x.1,(↑(List.length x.1):Int),0,()),()))
 bif v0 then
 let v1:=(tl2 ((x.1,(↑(List.length x.1):Int),0,()),()))
 bif v1 then
 let v2:=(yl2 ((x.1,(↑(List.length x.1):Int),0,()),()))
 some (v2.1.1,())
 else
 some ((true),())
 else
 none
theorem ev35 (k54:KA A54) (g54:GA A54 R54) (kl2:V35_2 -> Bool) (xl2:V35_2 -> X35_2) (tl2:V35_2 -> Bool) (yl2:V35_2 -> Y35_2) (x:Den A35):callK (Γ35 k54 g54 kl2 xl2 tl2 yl2) (bodyOf Tryz.f35) (decR R35) (encA A35 x) [] = r35 k54 g54 kl2 xl2 tl2 yl2 x:=by kernel_rfl
def F35 (x:Den A35):Option (Den R35):=r35 K54 G54 kL35_2 xL35_2 tL35_2 yL35_2 x
def K35 (x:Den A35):Bool:=(F35 x).isSome
def G35 (x:Den A35):Den R35:=(F35 x).getD (zero R35)
theorem sem35:SemOK Tryz.prog (35,fnMean A35 R35 K35 G35):=fn_opt (env_ok mixed tab_ok eqs_ok (.cons sem54 .nil)) (fnIs Tryz.func35 rfl rfl rfl (by kernel_rfl) (loops_ok (l:=[lc35_2]) (by kernel_rfl) (.cons (one_loop rfl (loopR_sound (sh:=sh35_2) (shX:=shX35_2) (shR:=shY35_2) (fun f v => evl35_2 K54 G54 kL35_2 xL35_2 tL35_2 yL35_2 f v) b35_2 ((),()) ((false,()),()))) (.nil)))) fun x => ev35 K54 G54 kL35_2 xL35_2 tL35_2 yL35_2 x
abbrev A20:Ty:=.cons (S25) (.nil)
abbrev R20:Ty:=.cons (.bool) (.nil)
abbrev V20_4:Type:=((Unit × ((List (Den (.slice (.cpx .f32)))) × (Int × (Int × Unit)))) × ((Int × (Int × (Int × ((List (Den (.slice (.cpx .f32)))) × Unit)))) × Unit))
def sh20_4:ShS:=⟨[(1,.one (.ptr 0 0)),(29,.one (.sl (.slice (.cpx .f32)))),(30,.one (.int .i64)),(31,.one (.int .i64))],[(0,.box [.int .i64,.int .i64,.int .i64,.sl (.slice (.cpx .f32))])],1,0⟩
abbrev X20_4:Type:=(Unit × Unit)
def shX20_4:ShS:=⟨[],[],0,0⟩
abbrev Y20_4:Type:=((Bool × Unit) × Unit)
def shY20_4:ShS:=⟨[(2,.one (.bool))],[],0,0⟩
noncomputable def Γ20 (k22:KA A22) (g22:GA A22 R22) (k35:KA A35) (g35:GA A35 R35) (kl4:V20_4 -> Bool) (xl4:V20_4 -> X20_4) (tl4:V20_4 -> Bool) (yl4:V20_4 -> Y20_4):Env:=mkEnv tab eqs [(22,fnMean A22 R22 k22 g22),(35,fnMean A35 R35 k35 g35)] 49 [.tmp 2] [] [] [(4,loopR [1,29,30,31] [] 0 [] [] sh20_4 shX20_4 shY20_4 kl4 tl4 xl4 yl4)] [] []
noncomputable def lc20_4:Code:=(loopsOf (bodyOf Tryz.f20)).getD 0 .skip
def q20_4 (k22:KA A22) (g22:GA A22 R22) (k35:KA A35) (g35:GA A35 R35) (f:V20_4 -> Option (X20_4 ⊕ Y20_4)) (v:V20_4):Option (X20_4 ⊕ Y20_4):=
 bif (decide (v.1.2.2.2.1 < v.1.2.2.1)) then
 bif (decide (0 <= v.1.2.2.2.1) && decide (v.1.2.2.2.1 < (↑(List.length v.1.2.1):Int))) then
 let v0:=(List.getD v.1.2.1 (Int.toNat v.1.2.2.2.1) (zero (Ty.slice (Ty.cpx FloatKind.f32))))
 let v1:=(IntKind.wrap IntKind.i64 (v.2.1.1 * v.2.1.2.1))
 bif ((↑(List.length v0):Int) != v1) then
 some (Sum.inr (((false),()),()))
 else
 let v2:=(k35 (v0,()))
 bif v2 then
 let v3:=(g35 (v0,()))
 bif (!v3.1) then
 some (Sum.inr (((false),()),()))
 else
 let v4:=(IntKind.wrap IntKind.i64 (v.1.2.2.2.1 + 1))
 f (((),((v.1.2.1),((v.1.2.2.1),(v4,())))),(((v.2.1.1),((v.2.1.2.1),((v.2.1.2.2.1),((v.2.1.2.2.2.1),())))),()))
 else
 none
 else
 none
 else
 some (Sum.inl ((),()))
theorem evl20_4 (k22:KA A22) (g22:GA A22 R22) (k35:KA A35) (g35:GA A35 R35) (kl4:V20_4 -> Bool) (xl4:V20_4 -> X20_4) (tl4:V20_4 -> Bool) (yl4:V20_4 -> Y20_4) (f:V20_4 -> Option (X20_4 ⊕ Y20_4)) (v:V20_4):EBk (Γ20 k22 g22 k35 g35 kl4 xl4 tl4 yl4) lc20_4 (roundK [1,29,30,31] [] 0 [] [] (atS sh20_4 f) (endS shX20_4 shY20_4)) (mkS sh20_4 v) = q20_4 k22 g22 k35 g35 f v:=by kernel_rfl
def b20_4 (v:V20_4):Nat:=v.1.2.1.length + v.1.2.2.1.natAbs + v.1.2.2.2.1.natAbs + v.2.1.1.natAbs + v.2.1.2.1.natAbs + v.2.1.2.2.1.natAbs + v.2.1.2.2.2.1.length + 1000
def l20_4 (v:V20_4):Option (X20_4 ⊕ Y20_4):=iter (q20_4 K22 G22 K35 G35) (b20_4 v) v
def kL20_4 (v:V20_4):Bool:=(l20_4 v).isSome
def tL20_4 (v:V20_4):Bool:=isR (l20_4 v)
def xL20_4 (v:V20_4):X20_4:=xOf ((),()) (l20_4 v)
def yL20_4 (v:V20_4):Y20_4:=yOf ((false,()),()) (l20_4 v)
def r20 (k22:KA A22) (g22:GA A22 R22) (k35:KA A35) (g35:GA A35 R35) (kl4:V20_4 -> Bool) (xl4:V20_4 -> X20_4) (tl4:V20_4 -> Bool) (yl4:V20_4 -> Y20_4) (x:Den A20):Option (Den R20):=
 let v0:=(k22 (x.1.1,2,12,()))
 bif v0 then
 let v1:=(g22 (x.1.1,2,12,()))
 bif (!v1.1) then
 some ((false),())
 else
 let v2:=(k22 (x.1.2.1,2,12,()))
 bif v2 then
 let v3:=(g22 (x.1.2.1,2,12,()))
 bif (!v3.1) then
 some ((false),())
 else
 let v4:=(k22 (x.1.2.2.1,10,100000,()))
 bif v4 then
 let v5:=(g22 (x.1.2.2.1,10,100000,()))
 bif (!v5.1) then
 some ((false),())
 else
 let v6:=(k22 ((↑(List.length x.1.2.2.2.1):Int),1,24,()))
 bif v6 then
 let v7:=(g22 ((↑(List.length x.1.2.2.2.1):Int),1,24,()))
 bif (!v7.1) then
 some ((false),())
 else
 let v8:=(kl4 (((),x.1.2.2.2.1,(↑(List.length x.1.2.2.2.1):Int),0,()),x))
 bif v8 then
 let v9:=(tl4 (((),x.1.2.2.2.1,(↑(List.length x.1.2.2.2.1):Int),0,()),x))
 bif v9 then
 let v10:=(yl4 (((),x.1.2.2.2.1,(↑(List.length x.1.2.2.2.1):Int),0,()),x))
 some (v10.1.1,())
 else
 some ((true),())
 else
 none
 else
 none
 else
 none
 else
 none
 else
 none
theorem ev20 (k22:KA A22) (g22:GA A22 R22) (k35:KA A35) (g35:GA A35 R35) (kl4:V20_4 -> Bool) (xl4:V20_4 -> X20_4) (tl4:V20_4 -> Bool) (yl4:V20_4 -> Y20_4) (x:Den A20):callK (Γ20 k22 g22 k35 g35 kl4 xl4 tl4 yl4) (bodyOf Tryz.f20) (decR R20) (encA A20 x) [] = r20 k22 g22 k35 g35 kl4 xl4 tl4 yl4 x:=by kernel_rfl
def F20 (x:Den A20):Option (Den R20):=r20 K22 G22 K35 G35 kL20_4 xL20_4 tL20_4 yL20_4 x
def K20 (x:Den A20):Bool:=(F20 x).isSome
def G20 (x:Den A20):Den R20:=(F20 x).getD (zero R20)
theorem sem20:SemOK Tryz.prog (20,fnMean A20 R20 K20 G20):=fn_opt (env_ok mixed tab_ok eqs_ok (.cons sem22 (.cons sem35 .nil))) (fnIs Tryz.func20 rfl rfl rfl (by kernel_rfl) (loops_ok (l:=[lc20_4]) (by kernel_rfl) (.cons (one_loop rfl (loopR_sound (sh:=sh20_4) (shX:=shX20_4) (shR:=shY20_4) (fun f v => evl20_4 K22 G22 K35 G35 kL20_4 xL20_4 tL20_4 yL20_4 f v) b20_4 ((),()) ((false,()),()))) (.nil)))) fun x => ev20 K22 G22 K35 G35 kL20_4 xL20_4 tL20_4 yL20_4 x
abbrev A15:Ty:=.cons (S25) (.cons (.int .i64) (.nil))
abbrev R15:Ty:=.cons (.bool) (.nil)
noncomputable def Γ15 (k22:KA A22) (g22:GA A22 R22):Env:=mkEnv tab eqs [(22,fnMean A22 R22 k22 g22)] 13 [.tmp 4] [] [] [] [] []
def r15 (k22:KA A22) (g22:GA A22 R22) (x:Den A15):Option (Den R15):=
 let v0:=(IntKind.wrap IntKind.i64 (x.1.1 * x.1.2.1))
 let v1:=(IntKind.wrap IntKind.i64 (v0 - 1))
 let v2:=(k22 (x.2.1,0,v1,()))
 bif v2 then
 let v3:=(g22 (x.2.1,0,v1,()))
 some (v3.1,())
 else
 none
theorem ev15 (k22:KA A22) (g22:GA A22 R22) (x:Den A15):callK (Γ15 k22 g22) (bodyOf Tryz.f15) (decR R15) (encA A15 x) [] = r15 k22 g22 x:=by kernel_rfl
def F15 (x:Den A15):Option (Den R15):=r15 K22 G22 x
def K15 (x:Den A15):Bool:=(F15 x).isSome
def G15 (x:Den A15):Den R15:=(F15 x).getD (zero R15)
theorem sem15:SemOK Tryz.prog (15,fnMean A15 R15 K15 G15):=fn_opt (env_ok mixed tab_ok eqs_ok (.cons sem22 .nil)) (fnIs Tryz.func15 rfl rfl rfl (by kernel_rfl) (noLoops (by kernel_rfl))) fun x => ev15 K22 G22 x
abbrev A23:Ty:=.cons (.int .i64) (.nil)
abbrev R23:Ty:=.cons (.bool) (.nil)
noncomputable def Γ23 (k22:KA A22) (g22:GA A22 R22):Env:=mkEnv tab eqs [(22,fnMean A22 R22 k22 g22)] 5 [.tmp 2] [] [] [] [] []
def r23 (k22:KA A22) (g22:GA A22 R22) (x:Den A23):Option (Den R23):=
 let v0:=(k22 (x.1,0,10000000,()))
 bif v0 then
 let v1:=(g22 (x.1,0,10000000,()))
 some (v1.1,())
 else
 none
theorem ev23 (k22:KA A22) (g22:GA A22 R22) (x:Den A23):callK (Γ23 k22 g22) (bodyOf Tryz.f23) (decR R23) (encA A23 x) [] = r23 k22 g22 x:=by kernel_rfl
def F23 (x:Den A23):Option (Den R23):=r23 K22 G22 x
def K23 (x:Den A23):Bool:=(F23 x).isSome
def G23 (x:Den A23):Den R23:=(F23 x).getD (zero R23)
theorem sem23:SemOK Tryz.prog (23,fnMean A23 R23 K23 G23):=fn_opt (env_ok mixed tab_ok eqs_ok (.cons sem22 .nil)) (fnIs Tryz.func23 rfl rfl rfl (by kernel_rfl) (noLoops (by kernel_rfl))) fun x => ev23 K22 G22 x
abbrev A40:Ty:=.cons (.int .i64) (.cons (.int .i64) (.nil))
abbrev R40:Ty:=.cons (.bool) (.nil)
noncomputable def Γ40 (k22:KA A22) (g22:GA A22 R22):Env:=mkEnv tab eqs [(22,fnMean A22 R22 k22 g22)] 9 [.tmp 4] [] [] [] [] []
def r40 (k22:KA A22) (g22:GA A22 R22) (x:Den A40):Option (Den R40):=
 let v0:=(IntKind.wrap IntKind.i64 (x.1 - x.2.1))
 let v1:=(k22 (v0,-1,1,()))
 bif v1 then
 let v2:=(g22 (v0,-1,1,()))
 some (v2.1,())
 else
 none
theorem ev40 (k22:KA A22) (g22:GA A22 R22) (x:Den A40):callK (Γ40 k22 g22) (bodyOf Tryz.f40) (decR R40) (encA A40 x) [] = r40 k22 g22 x:=by kernel_rfl
def F40 (x:Den A40):Option (Den R40):=r40 K22 G22 x
def K40 (x:Den A40):Bool:=(F40 x).isSome
def G40 (x:Den A40):Den R40:=(F40 x).getD (zero R40)
theorem sem40:SemOK Tryz.prog (40,fnMean A40 R40 K40 G40):=fn_opt (env_ok mixed tab_ok eqs_ok (.cons sem22 .nil)) (fnIs Tryz.func40 rfl rfl rfl (by kernel_rfl) (noLoops (by kernel_rfl))) fun x => ev40 K22 G22 x
abbrev A43:Ty:=.cons (S25) (.cons (.int .i64) (.nil))
abbrev R43:Ty:=.cons (.cpx .f64) (.nil)
noncomputable def Γ43:Env:=mkEnv tab eqs [] 22 [.tmp 4] [] [] [] [] []
def r43 (x:Den A43):Option (Den R43):=
 bif (x.1.1 != 0) then
 bif (x.1.1 != 0) then
 let v0:=(IntKind.wrap IntKind.i64 (Int.tdiv x.2.1 x.1.1))
 let v1:=(IntKind.wrap IntKind.i64 (v0 * x.1.2.2.1))
 let v2:=(IntKind.wrap IntKind.i64 (Int.tmod x.2.1 x.1.1 * x.1.2.2.1))
 some (((FloatKind.nearest FloatKind.f64 v1),(FloatKind.nearest FloatKind.f64 v2)),())
 else
 none
 else
 none
theorem ev43 (x:Den A43):callK (Γ43) (bodyOf Tryz.f43) (decR R43) (encA A43 x) [] = r43 x:=by kernel_rfl
def F43 (x:Den A43):Option (Den R43):=r43 x
def K43 (x:Den A43):Bool:=(F43 x).isSome
def G43 (x:Den A43):Den R43:=(F43 x).getD (zero R43)
theorem sem43:SemOK Tryz.prog (43,fnMean A43 R43 K43 G43):=fn_opt (env_ok mixed tab_ok eqs_ok .nil) (fnIs Tryz.func43 rfl rfl rfl (by kernel_rfl) (noLoops (by kernel_rfl))) fun x => ev43 x
abbrev A42:Ty:=.cons (.cpx .f64) (.cons (.cpx .f64) (.nil))
abbrev R42:Ty:=.cons (.cpx .f64) (.nil)
noncomputable def Γ42:Env:=mkEnv tab eqs [] 16 [.tmp 4] [] [] [] [] []
def r42 (x:Den A42):Option (Den R42):=
 let v0:=(farith BinOp.sub FloatKind.f64 x.1.1 x.2.1.1)
 let v1:=(farith BinOp.sub FloatKind.f64 x.1.2 x.2.1.2)
 some ((v0,v1),())
theorem ev42 (x:Den A42):callK (Γ42) (bodyOf Tryz.f42) (decR R42) (encA A42 x) [] = r42 x:=by kernel_rfl
def F42 (x:Den A42):Option (Den R42):=r42 x
def K42 (x:Den A42):Bool:=(F42 x).isSome
def G42 (x:Den A42):Den R42:=(F42 x).getD (zero R42)
theorem sem42:SemOK Tryz.prog (42,fnMean A42 R42 K42 G42):=fn_opt (env_ok mixed tab_ok eqs_ok .nil) (fnIs Tryz.func42 rfl rfl rfl (by kernel_rfl) (noLoops (by kernel_rfl))) fun x => ev42 x
abbrev A39:Ty:=.cons (S25) (.cons (.int .i64) (.cons (.int .i64) (.nil)))
abbrev R39:Ty:=.cons (.cpx .f32) (.cons (.bool) (.nil))
noncomputable def Γ39 (k20:KA A20) (g20:GA A20 R20) (k15:KA A15) (g15:GA A15 R15) (k23:KA A23) (g23:GA A23 R23):Env:=mkEnv tab eqs [(20,fnMean A20 R20 k20 g20),(15,fnMean A15 R15 k15 g15),(23,fnMean A23 R23 k23 g23)] 36 [.tmp 6,.tmp 7] [] [] [] [] []
def r39 (k20:KA A20) (g20:GA A20 R20) (k15:KA A15) (g15:GA A15 R15) (k23:KA A23) (g23:GA A23 R23) (x:Den A39):Option (Den R39):=
 let v0:=(k20 (x.1,()))
 bif v0 then
 let v1:=(g20 (x.1,()))
 bif (!v1.1) then
 some (((0),(0)),((false),()))
 else
 let v2:=(k15 (x.1,x.2.1,()))
 bif v2 then
 let v3:=(g15 (x.1,x.2.1,()))
 bif (!v3.1) then
 some (((0),(0)),((false),()))
 else
 let v4:=(k23 x.2.2)
 bif v4 then
 let v5:=(g23 x.2.2)
 bif (!v5.1) then
 some (((0),(0)),((false),()))
 else
 let v6:=(IntKind.wrap IntKind.i64 (Int.tdiv x.2.2.1 3600))
 let v7:=(IntKind.wrap IntKind.i64 ((↑(List.length x.1.2.2.2.1):Int) - 1))
 bif (decide (0 <= imin v6 v7) && decide (imin v6 v7 < (↑(List.length x.1.2.2.2.1):Int))) then
 let v8:=(List.getD x.1.2.2.2.1 (Int.toNat (imin v6 v7)) (zero (Ty.slice (Ty.cpx FloatKind.f32))))
 bif (decide (0 <= x.2.1) && decide (x.2.1 < (↑(List.length v8):Int))) then
 let v9:=(List.getD v8 (Int.toNat x.2.1) (zero (Ty.cpx FloatKind.f32)))
 some ((v9.1,v9.2),((true),()))
 else
 none
 else
 none
 else
 none
 else
 none
 else
 none
theorem ev39 (k20:KA A20) (g20:GA A20 R20) (k15:KA A15) (g15:GA A15 R15) (k23:KA A23) (g23:GA A23 R23) (x:Den A39):callK (Γ39 k20 g20 k15 g15 k23 g23) (bodyOf Tryz.f39) (decR R39) (encA A39 x) [] = r39 k20 g20 k15 g15 k23 g23 x:=by kernel_rfl
def F39 (x:Den A39):Option (Den R39):=r39 K20 G20 K15 G15 K23 G23 x
def K39 (x:Den A39):Bool:=(F39 x).isSome
def G39 (x:Den A39):Den R39:=(F39 x).getD (zero R39)
theorem sem39:SemOK Tryz.prog (39,fnMean A39 R39 K39 G39):=fn_opt (env_ok mixed tab_ok eqs_ok (.cons sem20 (.cons sem15 (.cons sem23 .nil)))) (fnIs Tryz.func39 rfl rfl rfl (by kernel_rfl) (noLoops (by kernel_rfl))) fun x => ev39 K20 G20 K15 G15 K23 G23 x
abbrev A85:Ty:=.cons (.cpx .f32) (.nil)
abbrev R85:Ty:=.cons (.cpx .f64) (.nil)
noncomputable def Γ85:Env:=mkEnv tab eqs [] 10 [.tmp 2] [] [] [] [] []
def r85 (x:Den A85):Option (Den R85):=
 some ((((convF FloatKind.f32 FloatKind.f64 x.1.1).2),((convF FloatKind.f32 FloatKind.f64 x.1.2).2)),())
theorem ev85 (x:Den A85):callK (Γ85) (bodyOf Tryz.f85) (decR R85) (encA A85 x) [] = r85 x:=by kernel_rfl
def F85 (x:Den A85):Option (Den R85):=r85 x
def K85 (x:Den A85):Bool:=(F85 x).isSome
def G85 (x:Den A85):Den R85:=(F85 x).getD (zero R85)
theorem sem85:SemOK Tryz.prog (85,fnMean A85 R85 K85 G85):=fn_opt (env_ok mixed tab_ok eqs_ok .nil) (fnIs Tryz.func85 rfl rfl rfl (by kernel_rfl) (noLoops (by kernel_rfl))) fun x => ev85 x
abbrev A91:Ty:=.cons (.cpx .f64) (.nil)
abbrev R91:Ty:=.cons (.bool) (.nil)
noncomputable def Γ91 (k116:KA A116) (g116:GA A116 R116):Env:=mkEnv tab eqs [(116,fnMean A116 R116 k116 g116)] 13 [.tmp 2] [] [] [] [] []
def r91 (k116:KA A116) (g116:GA A116 R116) (x:Den A91):Option (Den R91):=
 let v0:=(k116 (x.1.1,()))
 bif v0 then
 let v1:=(g116 (x.1.1,()))
 bif (flt FloatKind.f64 v1.1 4726483295884279808 || feq FloatKind.f64 v1.1 4726483295884279808) then
 let v2:=(k116 (x.1.2,()))
 bif v2 then
 let v3:=(g116 (x.1.2,()))
 some ((flt FloatKind.f64 v3.1 4726483295884279808 || feq FloatKind.f64 v3.1 4726483295884279808),())
 else
 none
 else
 some ((false),())
 else
 none
theorem ev91 (k116:KA A116) (g116:GA A116 R116) (x:Den A91):callK (Γ91 k116 g116) (bodyOf Tryz.f91) (decR R91) (encA A91 x) [] = r91 k116 g116 x:=by kernel_rfl
def F91 (x:Den A91):Option (Den R91):=r91 K116 G116 x
def K91 (x:Den A91):Bool:=(F91 x).isSome
def G91 (x:Den A91):Den R91:=(F91 x).getD (zero R91)
theorem sem91:SemOK Tryz.prog (91,fnMean A91 R91 K91 G91):=fn_opt (env_ok mixed tab_ok eqs_ok (.cons sem116 .nil)) (fnIs Tryz.func91 rfl rfl rfl (by kernel_rfl) (noLoops (by kernel_rfl))) fun x => ev91 K116 G116 x
abbrev A94:Ty:=.cons (.cpx .f64) (.cons (.cpx .f64) (.nil))
abbrev R94:Ty:=.cons (.flt .f64) (.nil)
noncomputable def Γ94:Env:=mkEnv tab eqs [] 16 [.tmp 4] [] [] [] [] []
def r94 (x:Den A94):Option (Den R94):=
 let v0:=(farith BinOp.mul FloatKind.f64 x.1.1 x.2.1.1)
 let v1:=(farith BinOp.mul FloatKind.f64 x.1.2 x.2.1.2)
 let v2:=(farith BinOp.add FloatKind.f64 v0 v1)
 some (v2,())
theorem ev94 (x:Den A94):callK (Γ94) (bodyOf Tryz.f94) (decR R94) (encA A94 x) [] = r94 x:=by kernel_rfl
def F94 (x:Den A94):Option (Den R94):=r94 x
def K94 (x:Den A94):Bool:=(F94 x).isSome
def G94 (x:Den A94):Den R94:=(F94 x).getD (zero R94)
theorem sem94:SemOK Tryz.prog (94,fnMean A94 R94 K94 G94):=fn_opt (env_ok mixed tab_ok eqs_ok .nil) (fnIs Tryz.func94 rfl rfl rfl (by kernel_rfl) (noLoops (by kernel_rfl))) fun x => ev94 x
abbrev A96:Ty:=.cons (.flt .f64) (.nil)
abbrev R96:Ty:=.cons (.flt .f64) (.nil)
abbrev V96_5:Type:=((Nat × (Nat × (Int × Unit))) × Unit)
def sh96_5:ShS:=⟨[(0,.one (.flt .f64)),(3,.one (.flt .f64)),(4,.one (.int .i64))],[],0,0⟩
abbrev X96_5:Type:=((Nat × Unit) × Unit)
def shX96_5:ShS:=⟨[(3,.one (.flt .f64))],[],0,0⟩
noncomputable def Γ96 (kl5:V96_5 -> Bool) (xl5:V96_5 -> X96_5):Env:=mkEnv tab eqs [] 25 [.tmp 2] [] [] [(5,loopX [0,3,4] [] 0 [3] [] sh96_5 shX96_5 kl5 xl5)] [] []
noncomputable def lc96_5:Code:=(loopsOf (bodyOf Tryz.f96)).getD 0 .skip
def q96_5 (f:V96_5 -> Option (X96_5)) (v:V96_5):Option (X96_5):=
 bif (decide (v.1.2.2.1 < 60)) then
 let v0:=(farith BinOp.quo FloatKind.f64 v.1.1 v.1.2.1)
 let v1:=(farith BinOp.add FloatKind.f64 v.1.2.1 v0)
 let v2:=(farith BinOp.quo FloatKind.f64 v1 4611686018427387904)
 let v3:=(IntKind.wrap IntKind.i64 (v.1.2.2.1 + 1))
 f (((v.1.1),(v2,(v3,()))),())
 else
 some (((v.1.2.1),()),())
theorem evl96_5 (kl5:V96_5 -> Bool) (xl5:V96_5 -> X96_5) (f:V96_5 -> Option (X96_5)) (v:V96_5):EBk (Γ96 kl5 xl5) lc96_5 (roundK [0,3,4] [] 0 [3] [] (atS sh96_5 f) (endX shX96_5)) (mkS sh96_5 v) = q96_5 f v:=by kernel_rfl
def b96_5 (v:V96_5):Nat:=v.1.2.2.1.natAbs + 1000
def l96_5 (v:V96_5):Option (X96_5):=iter (q96_5) (b96_5 v) v
def kL96_5 (v:V96_5):Bool:=(l96_5 v).isSome
def xL96_5 (v:V96_5):X96_5:=(l96_5 v).getD ((0,()),())
def r96 (kl5:V96_5 -> Bool) (xl5:V96_5 -> X96_5) (x:Den A96):Option (Den R96):=
 bif (fgt FloatKind.f64 x.1 4427486594234968593 || feq FloatKind.f64 x.1 4427486594234968593) then
 bif (!(flt FloatKind.f64 x.1 4861130398305394688 || feq FloatKind.f64 x.1 4861130398305394688)) then
 some ((0),())
 else
 let v0:=(fmax FloatKind.f64 x.1 4607182418800017408)
 let v1:=(kl5 ((x.1,v0,0,()),()))
 bif v1 then
 let v2:=(xl5 ((x.1,v0,0,()),()))
 some (v2.1.1,())
 else
 none
 else
 some ((0),())
theorem ev96 (kl5:V96_5 -> Bool) (xl5:V96_5 -> X96_5) (x:Den A96):callK (Γ96 kl5 xl5) (bodyOf Tryz.f96) (decR R96) (encA A96 x) [] = r96 kl5 xl5 x:=by kernel_rfl
def F96 (x:Den A96):Option (Den R96):=r96 kL96_5 xL96_5 x
def K96 (x:Den A96):Bool:=(F96 x).isSome
def G96 (x:Den A96):Den R96:=(F96 x).getD (zero R96)
theorem sem96:SemOK Tryz.prog (96,fnMean A96 R96 K96 G96):=fn_opt (env_ok mixed tab_ok eqs_ok .nil) (fnIs Tryz.func96 rfl rfl rfl (by kernel_rfl) (loops_ok (l:=[lc96_5]) (by kernel_rfl) (.cons (one_loop rfl (loopX_sound (sh:=sh96_5) (shX:=shX96_5) (fun f v => evl96_5 kL96_5 xL96_5 f v) b96_5 ((0,()),()))) (.nil)))) fun x => ev96 kL96_5 xL96_5 x
abbrev A62:Ty:=.cons (.cpx .f64) (.nil)
abbrev R62:Ty:=.cons (.flt .f64) (.nil)
noncomputable def Γ62 (k91:KA A91) (g91:GA A91 R91) (k94:KA A94) (g94:GA A94 R94) (k96:KA A96) (g96:GA A96 R96):Env:=mkEnv tab eqs [(91,fnMean A91 R91 k91 g91),(94,fnMean A94 R94 k94 g94),(96,fnMean A96 R96 k96 g96)] 10 [.tmp 2] [] [] [] [] []
def r62 (k91:KA A91) (g91:GA A91 R91) (k94:KA A94) (g94:GA A94 R94) (k96:KA A96) (g96:GA A96 R96) (x:Den A62):Option (Den R62):=
 let v0:=(k91 x)
 bif v0 then
 let v1:=(g91 x)
 bif (!v1.1) then
 some ((0),())
 else
 let v2:=(k94 (x.1,x))
 bif v2 then
 let v3:=(g94 (x.1,x))
 let v4:=(k96 v3)
 bif v4 then
 let v5:=(g96 v3)
 some (v5.1,())
 else
 none
 else
 none
 else
 none
theorem ev62 (k91:KA A91) (g91:GA A91 R91) (k94:KA A94) (g94:GA A94 R94) (k96:KA A96) (g96:GA A96 R96) (x:Den A62):callK (Γ62 k91 g91 k94 g94 k96 g96) (bodyOf Tryz.f62) (decR R62) (encA A62 x) [] = r62 k91 g91 k94 g94 k96 g96 x:=by kernel_rfl
def F62 (x:Den A62):Option (Den R62):=r62 K91 G91 K94 G94 K96 G96 x
def K62 (x:Den A62):Bool:=(F62 x).isSome
def G62 (x:Den A62):Den R62:=(F62 x).getD (zero R62)
theorem sem62:SemOK Tryz.prog (62,fnMean A62 R62 K62 G62):=fn_opt (env_ok mixed tab_ok eqs_ok (.cons sem91 (.cons sem94 (.cons sem96 .nil)))) (fnIs Tryz.func62 rfl rfl rfl (by kernel_rfl) (noLoops (by kernel_rfl))) fun x => ev62 K91 G91 K94 G94 K96 G96 x
abbrev A56:Ty:=.cons (.cpx .f32) (.nil)
abbrev R56:Ty:=.cons (.flt .f32) (.nil)
noncomputable def Γ56 (k54:KA A54) (g54:GA A54 R54) (k85:KA A85) (g85:GA A85 R85) (k62:KA A62) (g62:GA A62 R62):Env:=mkEnv tab eqs [(54,fnMean A54 R54 k54 g54),(85,fnMean A85 R85 k85 g85),(62,fnMean A62 R62 k62 g62)] 10 [.tmp 2] [] [] [] [] []
def r56 (k54:KA A54) (g54:GA A54 R54) (k85:KA A85) (g85:GA A85 R85) (k62:KA A62) (g62:GA A62 R62) (x:Den A56):Option (Den R56):=
 let v0:=(k54 x)
 bif v0 then
 let v1:=(g54 x)
 bif (!v1.1) then
 some ((0),())
 else
 let v2:=(k85 x)
 bif v2 then
 let v3:=(g85 x)
 let v4:=(k62 v3)
 bif v4 then
 let v5:=(g62 v3)
 bif ((convF FloatKind.f64 FloatKind.f32 v5.1).1) then
 some (((convF FloatKind.f64 FloatKind.f32 v5.1).2),())
 else
 none
 else
 none
 else
 none
 else
 none
theorem ev56 (k54:KA A54) (g54:GA A54 R54) (k85:KA A85) (g85:GA A85 R85) (k62:KA A62) (g62:GA A62 R62) (x:Den A56):callK (Γ56 k54 g54 k85 g85 k62 g62) (bodyOf Tryz.f56) (decR R56) (encA A56 x) [] = r56 k54 g54 k85 g85 k62 g62 x:=by kernel_rfl
def F56 (x:Den A56):Option (Den R56):=r56 K54 G54 K85 G85 K62 G62 x
def K56 (x:Den A56):Bool:=(F56 x).isSome
def G56 (x:Den A56):Den R56:=(F56 x).getD (zero R56)
theorem sem56:SemOK Tryz.prog (56,fnMean A56 R56 K56 G56):=fn_opt (env_ok mixed tab_ok eqs_ok (.cons sem54 (.cons sem85 (.cons sem62 .nil)))) (fnIs Tryz.func56 rfl rfl rfl (by kernel_rfl) (noLoops (by kernel_rfl))) fun x => ev56 K54 G54 K85 G85 K62 G62 x
abbrev A119:Ty:=.cons (.flt .f32) (.cons (.flt .f32) (.cons (.flt .f32) (.nil)))
abbrev R119:Ty:=.cons (.flt .f32) (.nil)
noncomputable def Γ119:Env:=mkEnv tab eqs [] 16 [.tmp 6] [] [] [] [] []
def r119 (x:Den A119):Option (Den R119):=
 let v0:=(farith BinOp.sub FloatKind.f32 x.2.1 x.1)
 let v1:=(farith BinOp.mul FloatKind.f32 v0 x.2.2.1)
 let v2:=(farith BinOp.add FloatKind.f32 x.1 v1)
 some (v2,())
theorem ev119 (x:Den A119):callK (Γ119) (bodyOf Tryz.f119) (decR R119) (encA A119 x) [] = r119 x:=by kernel_rfl
def F119 (x:Den A119):Option (Den R119):=r119 x
def K119 (x:Den A119):Bool:=(F119 x).isSome
def G119 (x:Den A119):Den R119:=(F119 x).getD (zero R119)
theorem sem119:SemOK Tryz.prog (119,fnMean A119 R119 K119 G119):=fn_opt (env_ok mixed tab_ok eqs_ok .nil) (fnIs Tryz.func119 rfl rfl rfl (by kernel_rfl) (noLoops (by kernel_rfl))) fun x => ev119 x
abbrev A118:Ty:=.cons (S30) (.cons (.slice (.flt .f32)) (.cons (.int .i64) (.nil)))
abbrev R118:Ty:=.cons (.flt .f32) (.nil)
abbrev V118_2:Type:=(((List (Den (.flt .f32))) × (Int × (Unit × ((List (Den (.int .i64))) × (Int × (Int × Unit)))))) × (((List (Den (.flt .f32))) × ((List (Den (.int .i64))) × ((List (Den (.slice (.flt .f32)))) × Unit))) × Unit))
def sh118_2:ShS:=⟨[(1,.one (.sl (.flt .f32))),(2,.one (.int .i64)),(3,.one (.ptr 0 0)),(11,.one (.sl (.int .i64))),(12,.one (.int .i64)),(13,.one (.int .i64))],[(0,.box [.sl (.flt .f32),.sl (.int .i64),.sl (.slice (.flt .f32))])],1,0⟩
abbrev X118_2:Type:=(Unit × Unit)
def shX118_2:ShS:=⟨[],[],0,0⟩
abbrev Y118_2:Type:=((Nat × Unit) × Unit)
def shY118_2:ShS:=⟨[(6,.one (.flt .f32))],[],0,0⟩
noncomputable def Γ118 (k119:KA A119) (g119:GA A119 R119) (kl2:V118_2 -> Bool) (xl2:V118_2 -> X118_2) (tl2:V118_2 -> Bool) (yl2:V118_2 -> Y118_2):Env:=mkEnv tab eqs [(119,fnMean A119 R119 k119 g119)] 54 [.tmp 6] [] [] [(2,loopR [1,2,3,11,12,13] [] 0 [] [] sh118_2 shX118_2 shY118_2 kl2 tl2 xl2 yl2)] [] []
noncomputable def lc118_2:Code:=(loopsOf (bodyOf Tryz.f118)).getD 0 .skip
def q118_2 (k119:KA A119) (g119:GA A119 R119) (f:V118_2 -> Option (X118_2 ⊕ Y118_2)) (v:V118_2):Option (X118_2 ⊕ Y118_2):=
 bif (decide (v.1.2.2.2.2.2.1 < v.1.2.2.2.2.1)) then
 bif (decide (0 <= v.1.2.2.2.2.2.1) && decide (v.1.2.2.2.2.2.1 < (↑(List.length v.1.2.2.2.1):Int))) then
 let v0:=(List.getD v.1.2.2.2.1 (Int.toNat v.1.2.2.2.2.2.1) (zero (Ty.int IntKind.i64)))
 bif (v0 == v.1.2.1) then
 bif (decide (0 <= v.1.2.2.2.2.2.1) && decide (v.1.2.2.2.2.2.1 < (↑(List.length v.1.1):Int))) then
 let v1:=(List.getD v.1.1 (Int.toNat v.1.2.2.2.2.2.1) (zero (Ty.flt FloatKind.f32)))
 some (Sum.inr ((v1,()),()))
 else
 none
 else
 bif (decide (v0 > v.1.2.1)) then
 let v1:=(IntKind.wrap IntKind.i64 (v.1.2.2.2.2.2.1 - 1))
 bif (decide (0 <= v1) && decide (v1 < (↑(List.length v.2.1.2.1):Int))) then
 bif (decide (0 <= v1) && decide (v1 < (↑(List.length v.1.1):Int))) then
 bif (decide (0 <= v.1.2.2.2.2.2.1) && decide (v.1.2.2.2.2.2.1 < (↑(List.length v.1.1):Int))) then
 let v2:=(List.getD v.1.1 (Int.toNat v1) (zero (Ty.flt FloatKind.f32)))
 let v3:=(List.getD v.1.1 (Int.toNat v.1.2.2.2.2.2.1) (zero (Ty.flt FloatKind.f32)))
 let v4:=(List.getD v.2.1.2.1 (Int.toNat v1) (zero (Ty.int IntKind.i64)))
 let v5:=(IntKind.wrap IntKind.i64 (v.1.2.1 - v4))
 let v6:=(IntKind.wrap IntKind.i64 (v0 - v4))
 let v7:=(farith BinOp.quo FloatKind.f32 (FloatKind.nearest FloatKind.f32 v5) (FloatKind.nearest FloatKind.f32 v6))
 let v8:=(k119 (v2,v3,v7,()))
 bif v8 then
 let v9:=(g119 (v2,v3,v7,()))
 some (Sum.inr ((v9.1,()),()))
 else
 none
 else
 none
 else
 none
 else
 none
 else
 let v1:=(IntKind.wrap IntKind.i64 (v.1.2.2.2.2.2.1 + 1))
 f (((v.1.1),((v.1.2.1),((),((v.1.2.2.2.1),((v.1.2.2.2.2.1),(v1,())))))),(((v.2.1.1),((v.2.1.2.1),((v.2.1.2.2.1),()))),()))
 else
 none
 else
 some (Sum.inl ((),()))
theorem evl118_2 (k119:KA A119) (g119:GA A119 R119) (kl2:V118_2 -> Bool) (xl2:V118_2 -> X118_2) (tl2:V118_2 -> Bool) (yl2:V118_2 -> Y118_2) (f:V118_2 -> Option (X118_2 ⊕ Y118_2)) (v:V118_2):EBk (Γ118 k119 g119 kl2 xl2 tl2 yl2) lc118_2 (roundK [1,2,3,11,12,13] [] 0 [] [] (atS sh118_2 f) (endS shX118_2 shY118_2)) (mkS sh118_2 v) = q118_2 k119 g119 f v:=by kernel_rfl
def b118_2 (v:V118_2):Nat:=v.1.1.length + v.1.2.1.natAbs + v.1.2.2.2.1.length + v.1.2.2.2.2.1.natAbs + v.1.2.2.2.2.2.1.natAbs + v.2.1.1.length + v.2.1.2.1.length + v.2.1.2.2.1.length + 1000
def l118_2 (v:V118_2):Option (X118_2 ⊕ Y118_2):=iter (q118_2 K119 G119) (b118_2 v) v
def kL118_2 (v:V118_2):Bool:=(l118_2 v).isSome
def tL118_2 (v:V118_2):Bool:=isR (l118_2 v)
def xL118_2 (v:V118_2):X118_2:=xOf ((),()) (l118_2 v)
def yL118_2 (v:V118_2):Y118_2:=yOf ((0,()),()) (l118_2 v)
def r118 (k119:KA A119) (g119:GA A119 R119) (kl2:V118_2 -> Bool) (xl2:V118_2 -> X118_2) (tl2:V118_2 -> Bool) (yl2:V118_2 -> Y118_2) (x:Den A118):Option (Den R118):=
 let v0:=(kl2 ((x.2.1,x.2.2.1,(),x.1.2.1,(↑(List.length x.1.2.1):Int),0,()),x.1,()))
 bif v0 then
 let v1:=(tl2 ((x.2.1,x.2.2.1,(),x.1.2.1,(↑(List.length x.1.2.1):Int),0,()),x.1,()))
 bif v1 then
 let v2:=(yl2 ((x.2.1,x.2.2.1,(),x.1.2.1,(↑(List.length x.1.2.1):Int),0,()),x.1,()))
 some (v2.1.1,())
 else
 some ((0),())
 else
 none
theorem ev118 (k119:KA A119) (g119:GA A119 R119) (kl2:V118_2 -> Bool) (xl2:V118_2 -> X118_2) (tl2:V118_2 -> Bool) (yl2:V118_2 -> Y118_2) (x:Den A118):callK (Γ118 k119 g119 kl2 xl2 tl2 yl2) (bodyOf Tryz.f118) (decR R118) (encA A118 x) [] = r118 k119 g119 kl2 xl2 tl2 yl2 x:=by kernel_rfl
def F118 (x:Den A118):Option (Den R118):=r118 K119 G119 kL118_2 xL118_2 tL118_2 yL118_2 x
def K118 (x:Den A118):Bool:=(F118 x).isSome
def G118 (x:Den A118):Den R118:=(F118 x).getD (zero R118)
theorem sem118:SemOK Tryz.prog (118,fnMean A118 R118 K118 G118):=fn_opt (env_ok mixed tab_ok eqs_ok (.cons sem119 .nil)) (fnIs Tryz.func118 rfl rfl rfl (by kernel_rfl) (loops_ok (l:=[lc118_2]) (by kernel_rfl) (.cons (one_loop rfl (loopR_sound (sh:=sh118_2) (shX:=shX118_2) (shR:=shY118_2) (fun f v => evl118_2 K119 G119 kL118_2 xL118_2 tL118_2 yL118_2 f v) b118_2 ((),()) ((0,()),()))) (.nil)))) fun x => ev118 K119 G119 kL118_2 xL118_2 tL118_2 yL118_2 x
abbrev A99:Ty:=.cons (S30) (.cons (.flt .f32) (.cons (.int .i64) (.nil)))
abbrev R99:Ty:=.cons (.flt .f32) (.nil)
abbrev V99_7:Type:=((Nat × (Int × (Unit × (Int × Unit)))) × (((List (Den (.flt .f32))) × ((List (Den (.int .i64))) × ((List (Den (.slice (.flt .f32)))) × Unit))) × Unit))
def sh99_7:ShS:=⟨[(1,.one (.flt .f32)),(2,.one (.int .i64)),(3,.one (.ptr 0 0)),(8,.one (.int .i64))],[(0,.box [.sl (.flt .f32),.sl (.int .i64),.sl (.slice (.flt .f32))])],1,0⟩
abbrev X99_7:Type:=((Nat × (Int × (Unit × (Int × Unit)))) × (((List (Den (.flt .f32))) × ((List (Den (.int .i64))) × ((List (Den (.slice (.flt .f32)))) × Unit))) × Unit))
def shX99_7:ShS:=⟨[(1,.one (.flt .f32)),(2,.one (.int .i64)),(3,.one (.ptr 0 0)),(8,.one (.int .i64))],[(0,.box [.sl (.flt .f32),.sl (.int .i64),.sl (.slice (.flt .f32))])],1,0⟩
noncomputable def Γ99 (k118:KA A118) (g118:GA A118 R118) (k119:KA A119) (g119:GA A119 R119) (kl7:V99_7 -> Bool) (xl7:V99_7 -> X99_7):Env:=mkEnv tab eqs [(118,fnMean A118 R118 k118 g118),(119,fnMean A119 R119 k119 g119)] 98 [.tmp 6] [] [] [(7,loopX [1,2,3,8] [] 0 [1,2,3,8] [] sh99_7 shX99_7 kl7 xl7)] [] []
noncomputable def lc99_7:Code:=(loopsOf (bodyOf Tryz.f99)).getD 0 .skip
def q99_7 (k118:KA A118) (g118:GA A118 R118) (k119:KA A119) (g119:GA A119 R119) (f:V99_7 -> Option (X99_7)) (v:V99_7):Option (X99_7):=
 let v0:=(IntKind.wrap IntKind.i64 (v.1.2.2.2.1 + 1))
 bif (decide (0 <= v0) && decide (v0 < (↑(List.length v.2.1.1):Int))) then
 let v1:=(List.getD v.2.1.1 (Int.toNat v0) (zero (Ty.flt FloatKind.f32)))
 bif (flt FloatKind.f32 v1 v.1.1 || feq FloatKind.f32 v1 v.1.1) then
 f (((v.1.1),((v.1.2.1),((),(v0,())))),(((v.2.1.1),((v.2.1.2.1),((v.2.1.2.2.1),()))),()))
 else
 some (((v.1.1),((v.1.2.1),((),((v.1.2.2.2.1),())))),(((v.2.1.1),((v.2.1.2.1),((v.2.1.2.2.1),()))),()))
 else
 none
theorem evl99_7 (k118:KA A118) (g118:GA A118 R118) (k119:KA A119) (g119:GA A119 R119) (kl7:V99_7 -> Bool) (xl7:V99_7 -> X99_7) (f:V99_7 -> Option (X99_7)) (v:V99_7):EBk (Γ99 k118 g118 k119 g119 kl7 xl7) lc99_7 (roundK [1,2,3,8] [] 0 [1,2,3,8] [] (atS sh99_7 f) (endX shX99_7)) (mkS sh99_7 v) = q99_7 k118 g118 k119 g119 f v:=by kernel_rfl
def b99_7 (v:V99_7):Nat:=v.1.2.1.natAbs + v.1.2.2.2.1.natAbs + v.2.1.1.length + v.2.1.2.1.length + v.2.1.2.2.1.length + 1000
def l99_7 (v:V99_7):Option (X99_7):=iter (q99_7 K118 G118 K119 G119) (b99_7 v) v
def kL99_7 (v:V99_7):Bool:=(l99_7 v).isSome
def xL99_7 (v:V99_7):X99_7:=(l99_7 v).getD ((0,(0,((),(0,())))),(([],([],([],()))),()))
def r99 (k118:KA A118) (g118:GA A118 R118) (k119:KA A119) (g119:GA A119 R119) (kl7:V99_7 -> Bool) (xl7:V99_7 -> X99_7) (x:Den A99):Option (Den R99):=
 bif (decide (0 <= 0) && decide (0 < (↑(List.length x.1.1):Int))) then
 let v0:=(List.getD x.1.1 (Int.toNat 0) (zero (Ty.flt FloatKind.f32)))
 bif (flt FloatKind.f32 x.2.1 v0 || feq FloatKind.f32 x.2.1 v0) then
 bif (decide (0 <= 0) && decide (0 < (↑(List.length x.1.1):Int))) then
 bif (decide (0 <= 0) && decide (0 < (↑(List.length x.1.2.2.1):Int))) then
 let v1:=(List.getD x.1.2.2.1 (Int.toNat 0) (zero (Ty.slice (Ty.flt FloatKind.f32))))
 let v2:=(k118 (x.1,v1,x.2.2))
 bif v2 then
 let v3:=(farith BinOp.quo FloatKind.f32 x.2.1 v0)
 let v4:=(g118 (x.1,v1,x.2.2))
 let v5:=(farith BinOp.mul FloatKind.f32 v3 v4.1)
 some (v5,())
 else
 none
 else
 none
 else
 none
 else
 let v1:=(IntKind.wrap IntKind.i64 ((↑(List.length x.1.1):Int) - 1))
 bif (decide (0 <= v1) && decide (v1 < (↑(List.length x.1.1):Int))) then
 let v2:=(List.getD x.1.1 (Int.toNat v1) (zero (Ty.flt FloatKind.f32)))
 bif (fgt FloatKind.f32 x.2.1 v2 || feq FloatKind.f32 x.2.1 v2) then
 bif (decide (0 <= v1) && decide (v1 < (↑(List.length x.1.2.2.1):Int))) then
 let v3:=(List.getD x.1.2.2.1 (Int.toNat v1) (zero (Ty.slice (Ty.flt FloatKind.f32))))
 let v4:=(k118 (x.1,v3,x.2.2))
 bif v4 then
 let v5:=(g118 (x.1,v3,x.2.2))
 some (v5.1,())
 else
 none
 else
 none
 else
 let v3:=(kl7 ((x.2.1,x.2.2.1,(),0,()),x.1,()))
 bif v3 then
 let v4:=(xl7 ((x.2.1,x.2.2.1,(),0,()),x.1,()))
 bif (decide (0 <= v4.1.2.2.2.1) && decide (v4.1.2.2.2.1 < (↑(List.length v4.2.1.1):Int))) then
 let v5:=(IntKind.wrap IntKind.i64 (v4.1.2.2.2.1 + 1))
 bif (decide (0 <= v5) && decide (v5 < (↑(List.length v4.2.1.1):Int))) then
 bif (decide (0 <= v4.1.2.2.2.1) && decide (v4.1.2.2.2.1 < (↑(List.length v4.2.1.2.2.1):Int))) then
 let v6:=(List.getD v4.2.1.2.2.1 (Int.toNat v4.1.2.2.2.1) (zero (Ty.slice (Ty.flt FloatKind.f32))))
 let v7:=(k118 (v4.2.1,v6,v4.1.2.1,()))
 bif v7 then
 bif (decide (0 <= v5) && decide (v5 < (↑(List.length v4.2.1.2.2.1):Int))) then
 let v8:=(List.getD v4.2.1.2.2.1 (Int.toNat v5) (zero (Ty.slice (Ty.flt FloatKind.f32))))
 let v9:=(k118 (v4.2.1,v8,v4.1.2.1,()))
 bif v9 then
 let v10:=(g118 (v4.2.1,v6,v4.1.2.1,()))
 let v11:=(g118 (v4.2.1,v8,v4.1.2.1,()))
 let v12:=(List.getD v4.2.1.1 (Int.toNat v4.1.2.2.2.1) (zero (Ty.flt FloatKind.f32)))
 let v13:=(farith BinOp.sub FloatKind.f32 v4.1.1 v12)
 let v14:=(List.getD v4.2.1.1 (Int.toNat v5) (zero (Ty.flt FloatKind.f32)))
 let v15:=(farith BinOp.sub FloatKind.f32 v14 v12)
 let v16:=(farith BinOp.quo FloatKind.f32 v13 v15)
 let v17:=(k119 (v10.1,v11.1,v16,()))
 bif v17 then
 let v18:=(g119 (v10.1,v11.1,v16,()))
 some (v18.1,())
 else
 none
 else
 none
 else
 none
 else
 none
 else
 none
 else
 none
 else
 none
 else
 none
 else
 none
 else
 none
theorem ev99 (k118:KA A118) (g118:GA A118 R118) (k119:KA A119) (g119:GA A119 R119) (kl7:V99_7 -> Bool) (xl7:V99_7 -> X99_7) (x:Den A99):callK (Γ99 k118 g118 k119 g119 kl7 xl7) (bodyOf Tryz.f99) (decR R99) (encA A99 x) [] = r99 k118 g118 k119 g119 kl7 xl7 x:=by kernel_rfl
def F99 (x:Den A99):Option (Den R99):=r99 K118 G118 K119 G119 kL99_7 xL99_7 x
def K99 (x:Den A99):Bool:=(F99 x).isSome
def G99 (x:Den A99):Den R99:=(F99 x).getD (zero R99)
theorem sem99:SemOK Tryz.prog (99,fnMean A99 R99 K99 G99):=fn_opt (env_ok mixed tab_ok eqs_ok (.cons sem118 (.cons sem119 .nil))) (fnIs Tryz.func99 rfl rfl rfl (by kernel_rfl) (loops_ok (l:=[lc99_7]) (by kernel_rfl) (.cons (one_loop rfl (loopX_sound (sh:=sh99_7) (shX:=shX99_7) (fun f v => evl99_7 K118 G118 K119 G119 kL99_7 xL99_7 f v) b99_7 ((0,(0,((),(0,())))),(([],([],([],()))),())))) (.nil)))) fun x => ev99 K118 G118 K119 G119 kL99_7 xL99_7 x
abbrev A95:Ty:=.cons (.int .i64) (.nil)
abbrev R95:Ty:=.cons (.int .i64) (.nil)
noncomputable def Γ95:Env:=mkEnv tab eqs [] 7 [.tmp 2] [] [] [] [] []
def r95 (x:Den A95):Option (Den R95):=
 let v0:=(IntKind.wrap IntKind.i64 (Int.tmod x.1 360 + 360))
 some ((Int.tmod v0 360),())
theorem ev95 (x:Den A95):callK (Γ95) (bodyOf Tryz.f95) (decR R95) (encA A95 x) [] = r95 x:=by kernel_rfl
def F95 (x:Den A95):Option (Den R95):=r95 x
def K95 (x:Den A95):Bool:=(F95 x).isSome
def G95 (x:Den A95):Den R95:=(F95 x).getD (zero R95)
theorem sem95:SemOK Tryz.prog (95,fnMean A95 R95 K95 G95):=fn_opt (env_ok mixed tab_ok eqs_ok .nil) (fnIs Tryz.func95 rfl rfl rfl (by kernel_rfl) (noLoops (by kernel_rfl))) fun x => ev95 x
abbrev A117:Ty:=.cons (.cpx .f64) (.cons (.cpx .f64) (.nil))
abbrev R117:Ty:=.cons (.cpx .f64) (.nil)
noncomputable def Γ117:Env:=mkEnv tab eqs [] 32 [.tmp 4] [] [] [] [] []
def r117 (x:Den A117):Option (Den R117):=
 let v0:=(farith BinOp.mul FloatKind.f64 x.1.1 x.2.1.1)
 let v1:=(farith BinOp.mul FloatKind.f64 x.1.2 x.2.1.2)
 let v2:=(farith BinOp.sub FloatKind.f64 v0 v1)
 let v3:=(farith BinOp.mul FloatKind.f64 x.1.1 x.2.1.2)
 let v4:=(farith BinOp.mul FloatKind.f64 x.1.2 x.2.1.1)
 let v5:=(farith BinOp.add FloatKind.f64 v3 v4)
 some ((v2,v5),())
theorem ev117 (x:Den A117):callK (Γ117) (bodyOf Tryz.f117) (decR R117) (encA A117 x) [] = r117 x:=by kernel_rfl
def F117 (x:Den A117):Option (Den R117):=r117 x
def K117 (x:Den A117):Bool:=(F117 x).isSome
def G117 (x:Den A117):Den R117:=(F117 x).getD (zero R117)
theorem sem117:SemOK Tryz.prog (117,fnMean A117 R117 K117 G117):=fn_opt (env_ok mixed tab_ok eqs_ok .nil) (fnIs Tryz.func117 rfl rfl rfl (by kernel_rfl) (noLoops (by kernel_rfl))) fun x => ev117 x
abbrev A97:Ty:=.cons (.int .i64) (.nil)
abbrev R97:Ty:=.cons (.cpx .f64) (.nil)
abbrev V97_3:Type:=(((Nat × Nat) × (Int × Unit)) × Unit)
def sh97_3:ShS:=⟨[(3,.one (.cpx .f64)),(4,.one (.int .i64))],[],0,0⟩
abbrev X97_3:Type:=(((Nat × Nat) × Unit) × Unit)
def shX97_3:ShS:=⟨[(3,.one (.cpx .f64))],[],0,0⟩
noncomputable def Γ97 (k95:KA A95) (g95:GA A95 R95) (k117:KA A117) (g117:GA A117 R117) (kl3:V97_3 -> Bool) (xl3:V97_3 -> X97_3):Env:=mkEnv tab eqs [(95,fnMean A95 R95 k95 g95),(117,fnMean A117 R117 k117 g117)] 14 [.tmp 2] [] [] [(3,loopX [3,4] [] 0 [3] [] sh97_3 shX97_3 kl3 xl3)] [] []
noncomputable def lc97_3:Code:=(loopsOf (bodyOf Tryz.f97)).getD 0 .skip
def q97_3 (k95:KA A95) (g95:GA A95 R95) (k117:KA A117) (g117:GA A117 R117) (f:V97_3 -> Option (X97_3)) (v:V97_3):Option (X97_3):=
 bif (decide (v.1.2.1 > 0)) then
 let v0:=(k117 (v.1.1,(4607181046959943561,4580687535080594718),()))
 bif v0 then
 let v1:=(g117 (v.1.1,(4607181046959943561,4580687535080594718),()))
 let v2:=(IntKind.wrap IntKind.i64 (v.1.2.1 - 1))
 f (((v1.1.1,v1.1.2),(v2,())),())
 else
 none
 else
 some ((((v.1.1.1),(v.1.1.2)),()),())
theorem evl97_3 (k95:KA A95) (g95:GA A95 R95) (k117:KA A117) (g117:GA A117 R117) (kl3:V97_3 -> Bool) (xl3:V97_3 -> X97_3) (f:V97_3 -> Option (X97_3)) (v:V97_3):EBk (Γ97 k95 g95 k117 g117 kl3 xl3) lc97_3 (roundK [3,4] [] 0 [3] [] (atS sh97_3 f) (endX shX97_3)) (mkS sh97_3 v) = q97_3 k95 g95 k117 g117 f v:=by kernel_rfl
def b97_3 (v:V97_3):Nat:=v.1.2.1.natAbs + 1000
def l97_3 (v:V97_3):Option (X97_3):=iter (q97_3 K95 G95 K117 G117) (b97_3 v) v
def kL97_3 (v:V97_3):Bool:=(l97_3 v).isSome
def xL97_3 (v:V97_3):X97_3:=(l97_3 v).getD (((0,0),()),())
def r97 (k95:KA A95) (g95:GA A95 R95) (k117:KA A117) (g117:GA A117 R117) (kl3:V97_3 -> Bool) (xl3:V97_3 -> X97_3) (x:Den A97):Option (Den R97):=
 let v0:=(k95 x)
 bif v0 then
 let v1:=(g95 x)
 let v2:=(kl3 (((4607182418800017408,0),v1),()))
 bif v2 then
 let v3:=(xl3 (((4607182418800017408,0),v1),()))
 some ((v3.1.1.1,v3.1.1.2),())
 else
 none
 else
 none
theorem ev97 (k95:KA A95) (g95:GA A95 R95) (k117:KA A117) (g117:GA A117 R117) (kl3:V97_3 -> Bool) (xl3:V97_3 -> X97_3) (x:Den A97):callK (Γ97 k95 g95 k117 g117 kl3 xl3) (bodyOf Tryz.f97) (decR R97) (encA A97 x) [] = r97 k95 g95 k117 g117 kl3 xl3 x:=by kernel_rfl
def F97 (x:Den A97):Option (Den R97):=r97 K95 G95 K117 G117 kL97_3 xL97_3 x
def K97 (x:Den A97):Bool:=(F97 x).isSome
def G97 (x:Den A97):Den R97:=(F97 x).getD (zero R97)
theorem sem97:SemOK Tryz.prog (97,fnMean A97 R97 K97 G97):=fn_opt (env_ok mixed tab_ok eqs_ok (.cons sem95 (.cons sem117 .nil))) (fnIs Tryz.func97 rfl rfl rfl (by kernel_rfl) (loops_ok (l:=[lc97_3]) (by kernel_rfl) (.cons (one_loop rfl (loopX_sound (sh:=sh97_3) (shX:=shX97_3) (fun f v => evl97_3 K95 G95 K117 G117 kL97_3 xL97_3 f v) b97_3 (((0,0),()),()))) (.nil)))) fun x => ev97 K95 G95 K117 G117 kL97_3 xL97_3 x
abbrev A89:Ty:=.cons (S30) (.cons (.flt .f32) (.cons (.int .i64) (.cons (.cpx .f64) (.nil))))
abbrev R89:Ty:=.cons (.flt .f32) (.nil)
noncomputable def Γ89 (k99:KA A99) (g99:GA A99 R99):Env:=mkEnv tab eqs [(99,fnMean A99 R99 k99 g99)] 17 [.tmp 8] [] [] [] [] []
def r89 (k99:KA A99) (g99:GA A99 R99) (x:Den A89):Option (Den R89):=
 let v0:=(k99 (x.1,x.2.1,x.2.2.1,()))
 bif v0 then
 bif ((convF FloatKind.f64 FloatKind.f32 x.2.2.2.1.1).1) then
 let v1:=(g99 (x.1,x.2.1,x.2.2.1,()))
 let v2:=(farith BinOp.mul FloatKind.f32 v1.1 (convF FloatKind.f64 FloatKind.f32 x.2.2.2.1.1).2)
 some (v2,())
 else
 none
 else
 none
theorem ev89 (k99:KA A99) (g99:GA A99 R99) (x:Den A89):callK (Γ89 k99 g99) (bodyOf Tryz.f89) (decR R89) (encA A89 x) [] = r89 k99 g99 x:=by kernel_rfl
def F89 (x:Den A89):Option (Den R89):=r89 K99 G99 x
def K89 (x:Den A89):Bool:=(F89 x).isSome
def G89 (x:Den A89):Den R89:=(F89 x).getD (zero R89)
theorem sem89:SemOK Tryz.prog (89,fnMean A89 R89 K89 G89):=fn_opt (env_ok mixed tab_ok eqs_ok (.cons sem99 .nil)) (fnIs Tryz.func89 rfl rfl rfl (by kernel_rfl) (noLoops (by kernel_rfl))) fun x => ev89 K99 G99 x
abbrev A61:Ty:=.cons (.int .i64) (.cons (.int .i64) (.nil))
abbrev R61:Ty:=.cons (.int .i64) (.nil)
noncomputable def Γ61 (k95:KA A95) (g95:GA A95 R95):Env:=mkEnv tab eqs [(95,fnMean A95 R95 k95 g95)] 17 [.tmp 4] [] [] [] [] []
def r61 (k95:KA A95) (g95:GA A95 R95) (x:Den A61):Option (Den R61):=
 let v0:=(k95 x.2)
 bif v0 then
 let v1:=(k95 (x.1,()))
 bif v1 then
 let v2:=(g95 x.2)
 let v3:=(g95 (x.1,()))
 let v4:=(IntKind.wrap IntKind.i64 (v2.1 - v3.1))
 let v5:=(k95 (v4,()))
 bif v5 then
 let v6:=(g95 (v4,()))
 let v7:=(IntKind.wrap IntKind.i64 (0 - v6.1))
 let v8:=(k95 (v7,()))
 bif v8 then
 let v9:=(g95 (v7,()))
 some ((imin v6.1 v9.1),())
 else
 none
 else
 none
 else
 none
 else
 none
theorem ev61 (k95:KA A95) (g95:GA A95 R95) (x:Den A61):callK (Γ61 k95 g95) (bodyOf Tryz.f61) (decR R61) (encA A61 x) [] = r61 k95 g95 x:=by kernel_rfl
def F61 (x:Den A61):Option (Den R61):=r61 K95 G95 x
def K61 (x:Den A61):Bool:=(F61 x).isSome
def G61 (x:Den A61):Den R61:=(F61 x).getD (zero R61)
theorem sem61:SemOK Tryz.prog (61,fnMean A61 R61 K61 G61):=fn_opt (env_ok mixed tab_ok eqs_ok (.cons sem95 .nil)) (fnIs Tryz.func61 rfl rfl rfl (by kernel_rfl) (noLoops (by kernel_rfl))) fun x => ev61 K95 G95 x
abbrev A98:Ty:=.cons (.cpx .f64) (.cons (.cpx .f64) (.nil))
abbrev R98:Ty:=.cons (.flt .f64) (.nil)
noncomputable def Γ98:Env:=mkEnv tab eqs [] 16 [.tmp 4] [] [] [] [] []
def r98 (x:Den A98):Option (Den R98):=
 let v0:=(farith BinOp.mul FloatKind.f64 x.1.1 x.2.1.2)
 let v1:=(farith BinOp.mul FloatKind.f64 x.1.2 x.2.1.1)
 let v2:=(farith BinOp.sub FloatKind.f64 v0 v1)
 some (v2,())
theorem ev98 (x:Den A98):callK (Γ98) (bodyOf Tryz.f98) (decR R98) (encA A98 x) [] = r98 x:=by kernel_rfl
def F98 (x:Den A98):Option (Den R98):=r98 x
def K98 (x:Den A98):Bool:=(F98 x).isSome
def G98 (x:Den A98):Den R98:=(F98 x).getD (zero R98)
theorem sem98:SemOK Tryz.prog (98,fnMean A98 R98 K98 G98):=fn_opt (env_ok mixed tab_ok eqs_ok .nil) (fnIs Tryz.func98 rfl rfl rfl (by kernel_rfl) (noLoops (by kernel_rfl))) fun x => ev98 x
abbrev A64:Ty:=.cons (.cpx .f64) (.cons (.int .i64) (.cons (.int .i64) (.nil)))
abbrev R64:Ty:=.cons (.flt .f64) (.cons (.flt .f64) (.cons (.bool) (.nil)))
noncomputable def Γ64 (k91:KA A91) (g91:GA A91 R91) (k61:KA A61) (g61:GA A61 R61) (k22:KA A22) (g22:GA A22 R22) (k97:KA A97) (g97:GA A97 R97) (k98:KA A98) (g98:GA A98 R98):Env:=mkEnv tab eqs [(91,fnMean A91 R91 k91 g91),(61,fnMean A61 R61 k61 g61),(22,fnMean A22 R22 k22 g22),(97,fnMean A97 R97 k97 g97),(98,fnMean A98 R98 k98 g98)] 39 [.tmp 6,.tmp 7,.tmp 8] [] [] [] [] []
def r64 (k91:KA A91) (g91:GA A91 R91) (k61:KA A61) (g61:GA A61 R61) (k22:KA A22) (g22:GA A22 R22) (k97:KA A97) (g97:GA A97 R97) (k98:KA A98) (g98:GA A98 R98) (x:Den A64):Option (Den R64):=
 let v0:=(k91 (x.1,()))
 bif v0 then
 let v1:=(g91 (x.1,()))
 bif (!v1.1) then
 some ((0),((0),((false),())))
 else
 let v2:=(k61 x.2)
 bif v2 then
 let v3:=(g61 x.2)
 let v4:=(k22 (v3.1,5,175,()))
 bif v4 then
 let v5:=(g22 (v3.1,5,175,()))
 bif (!v5.1) then
 some ((0),((0),((false),())))
 else
 let v6:=(k97 (x.2.1,()))
 bif v6 then
 let v7:=(k97 x.2.2)
 bif v7 then
 let v8:=(g97 (x.2.1,()))
 let v9:=(g97 x.2.2)
 let v10:=(k98 (v8.1,v9))
 bif v10 then
 let v11:=(k98 (x.1,v9))
 bif v11 then
 let v12:=(k98 (v8.1,x.1,()))
 bif v12 then
 let v13:=(g98 (x.1,v9))
 let v14:=(g98 (v8.1,v9))
 let v15:=(farith BinOp.quo FloatKind.f64 v13.1 v14.1)
 let v16:=(g98 (v8.1,x.1,()))
 let v17:=(farith BinOp.quo FloatKind.f64 v16.1 v14.1)
 some (v15,(v17,((true),())))
 else
 none
 else
 none
 else
 none
 else
 none
 else
 none
 else
 none
 else
 none
 else
 none
theorem ev64 (k91:KA A91) (g91:GA A91 R91) (k61:KA A61) (g61:GA A61 R61) (k22:KA A22) (g22:GA A22 R22) (k97:KA A97) (g97:GA A97 R97) (k98:KA A98) (g98:GA A98 R98) (x:Den A64):callK (Γ64 k91 g91 k61 g61 k22 g22 k97 g97 k98 g98) (bodyOf Tryz.f64) (decR R64) (encA A64 x) [] = r64 k91 g91 k61 g61 k22 g22 k97 g97 k98 g98 x:=by kernel_rfl
def F64 (x:Den A64):Option (Den R64):=r64 K91 G91 K61 G61 K22 G22 K97 G97 K98 G98 x
def K64 (x:Den A64):Bool:=(F64 x).isSome
def G64 (x:Den A64):Den R64:=(F64 x).getD (zero R64)
theorem sem64:SemOK Tryz.prog (64,fnMean A64 R64 K64 G64):=fn_opt (env_ok mixed tab_ok eqs_ok (.cons sem91 (.cons sem61 (.cons sem22 (.cons sem97 (.cons sem98 .nil)))))) (fnIs Tryz.func64 rfl rfl rfl (by kernel_rfl) (noLoops (by kernel_rfl))) fun x => ev64 K91 G91 K61 G61 K22 G22 K97 G97 K98 G98 x
abbrev A120:Ty:=.cons (.flt .f64) (.nil)
abbrev R120:Ty:=.cons (.bool) (.nil)
noncomputable def Γ120:Env:=mkEnv tab eqs [] 6 [.tmp 2] [] [] [] [] []
def r120 (x:Den A120):Option (Den R120):=
 some ((!feq FloatKind.f64 x.1 x.1),())
theorem ev120 (x:Den A120):callK (Γ120) (bodyOf Tryz.f120) (decR R120) (encA A120 x) [] = r120 x:=by kernel_rfl
def F120 (x:Den A120):Option (Den R120):=r120 x
def K120 (x:Den A120):Bool:=(F120 x).isSome
def G120 (x:Den A120):Den R120:=(F120 x).getD (zero R120)
theorem sem120:SemOK Tryz.prog (120,fnMean A120 R120 K120 G120):=fn_opt (env_ok mixed tab_ok eqs_ok .nil) (fnIs Tryz.func120 rfl rfl rfl (by kernel_rfl) (noLoops (by kernel_rfl))) fun x => ev120 x
abbrev A121:Ty:=.cons (.flt .f64) (.cons (.int .i64) (.nil))
abbrev R121:Ty:=.cons (.bool) (.nil)
noncomputable def Γ121 (k116:KA A116) (g116:GA A116 R116):Env:=mkEnv tab eqs [(116,fnMean A116 R116 k116 g116)] 15 [.tmp 4] [] [] [] [] []
def r121 (k116:KA A116) (g116:GA A116 R116) (x:Den A121):Option (Den R121):=
 bif (x.2.1 == 0) then
 let v0:=(k116 (x.1,()))
 bif v0 then
 let v1:=(g116 (x.1,()))
 some ((fgt FloatKind.f64 v1.1 9218868437227405311),())
 else
 none
 else
 bif (decide (x.2.1 < 0)) then
 let v0:=(fneg FloatKind.f64 x.1)
 some ((fgt FloatKind.f64 v0 9218868437227405311),())
 else
 some ((fgt FloatKind.f64 x.1 9218868437227405311),())
theorem ev121 (k116:KA A116) (g116:GA A116 R116) (x:Den A121):callK (Γ121 k116 g116) (bodyOf Tryz.f121) (decR R121) (encA A121 x) [] = r121 k116 g116 x:=by kernel_rfl
def F121 (x:Den A121):Option (Den R121):=r121 K116 G116 x
def K121 (x:Den A121):Bool:=(F121 x).isSome
def G121 (x:Den A121):Den R121:=(F121 x).getD (zero R121)
theorem sem121:SemOK Tryz.prog (121,fnMean A121 R121 K121 G121):=fn_opt (env_ok mixed tab_ok eqs_ok (.cons sem116 .nil)) (fnIs Tryz.func121 rfl rfl rfl (by kernel_rfl) (noLoops (by kernel_rfl))) fun x => ev121 K116 G116 x
abbrev A100:Ty:=.cons (.flt .f64) (.nil)
abbrev R100:Ty:=.cons (.bool) (.nil)
noncomputable def Γ100 (k120:KA A120) (g120:GA A120 R120) (k121:KA A121) (g121:GA A121 R121):Env:=mkEnv tab eqs [(120,fnMean A120 R120 k120 g120),(121,fnMean A121 R121 k121 g121)] 11 [.tmp 2] [] [] [] [] []
def r100 (k120:KA A120) (g120:GA A120 R120) (k121:KA A121) (g121:GA A121 R121) (x:Den A100):Option (Den R100):=
 let v0:=(k120 x)
 bif v0 then
 let v1:=(g120 x)
 bif (!v1.1) then
 let v2:=(k121 (x.1,0,()))
 bif v2 then
 let v3:=(g121 (x.1,0,()))
 some ((!v3.1),())
 else
 none
 else
 some ((false),())
 else
 none
theorem ev100 (k120:KA A120) (g120:GA A120 R120) (k121:KA A121) (g121:GA A121 R121) (x:Den A100):callK (Γ100 k120 g120 k121 g121) (bodyOf Tryz.f100) (decR R100) (encA A100 x) [] = r100 k120 g120 k121 g121 x:=by kernel_rfl
def F100 (x:Den A100):Option (Den R100):=r100 K120 G120 K121 G121 x
def K100 (x:Den A100):Bool:=(F100 x).isSome
def G100 (x:Den A100):Den R100:=(F100 x).getD (zero R100)
theorem sem100:SemOK Tryz.prog (100,fnMean A100 R100 K100 G100):=fn_opt (env_ok mixed tab_ok eqs_ok (.cons sem120 (.cons sem121 .nil))) (fnIs Tryz.func100 rfl rfl rfl (by kernel_rfl) (noLoops (by kernel_rfl))) fun x => ev100 K120 G120 K121 G121 x
abbrev A18:Ty:=.cons (.int .i64) (.cons (.int .i64) (.cons (.int .i64) (.nil)))
abbrev R18:Ty:=.cons (.bool) (.nil)
noncomputable def Γ18:Env:=mkEnv tab eqs [] 15 [.tmp 6] [] [] [] [] []
def r18 (x:Den A18):Option (Den R18):=
 bif (decide (x.1 ≥ x.2.1)) then
 some ((decide (x.1 <= x.2.2.1)),())
 else
 some ((false),())
theorem ev18 (x:Den A18):callK (Γ18) (bodyOf Tryz.f18) (decR R18) (encA A18 x) [] = r18 x:=by kernel_rfl
def F18 (x:Den A18):Option (Den R18):=r18 x
def K18 (x:Den A18):Bool:=(F18 x).isSome
def G18 (x:Den A18):Den R18:=(F18 x).getD (zero R18)
theorem sem18:SemOK Tryz.prog (18,fnMean A18 R18 K18 G18):=fn_opt (env_ok mixed tab_ok eqs_ok .nil) (fnIs Tryz.func18 rfl rfl rfl (by kernel_rfl) (noLoops (by kernel_rfl))) fun x => ev18 x
abbrev A53:Ty:=.cons (.flt .f32) (.nil)
abbrev R53:Ty:=.cons (.flt .f32) (.nil)
noncomputable def Γ53:Env:=mkEnv tab eqs [] 8 [.tmp 2] [] [] [] [] []
def r53 (x:Den A53):Option (Den R53):=
 bif (flt FloatKind.f32 x.1 0) then
 let v0:=(fneg FloatKind.f32 x.1)
 some (v0,())
 else
 some ((x.1),())
theorem ev53 (x:Den A53):callK (Γ53) (bodyOf Tryz.f53) (decR R53) (encA A53 x) [] = r53 x:=by kernel_rfl
def F53 (x:Den A53):Option (Den R53):=r53 x
def K53 (x:Den A53):Bool:=(F53 x).isSome
def G53 (x:Den A53):Den R53:=(F53 x).getD (zero R53)
theorem sem53:SemOK Tryz.prog (53,fnMean A53 R53 K53 G53):=fn_opt (env_ok mixed tab_ok eqs_ok .nil) (fnIs Tryz.func53 rfl rfl rfl (by kernel_rfl) (noLoops (by kernel_rfl))) fun x => ev53 x
abbrev A34:Ty:=.cons (.cpx .f32) (.nil)
abbrev R34:Ty:=.cons (.bool) (.nil)
noncomputable def Γ34 (k53:KA A53) (g53:GA A53 R53):Env:=mkEnv tab eqs [(53,fnMean A53 R53 k53 g53)] 13 [.tmp 2] [] [] [] [] []
def r34 (k53:KA A53) (g53:GA A53 R53) (x:Den A34):Option (Den R34):=
 let v0:=(k53 (x.1.1,()))
 bif v0 then
 let v1:=(g53 (x.1.1,()))
 bif (flt FloatKind.f32 v1.1 1120403456 || feq FloatKind.f32 v1.1 1120403456) then
 let v2:=(k53 (x.1.2,()))
 bif v2 then
 let v3:=(g53 (x.1.2,()))
 some ((flt FloatKind.f32 v3.1 1120403456 || feq FloatKind.f32 v3.1 1120403456),())
 else
 none
 else
 some ((false),())
 else
 none
theorem ev34 (k53:KA A53) (g53:GA A53 R53) (x:Den A34):callK (Γ34 k53 g53) (bodyOf Tryz.f34) (decR R34) (encA A34 x) [] = r34 k53 g53 x:=by kernel_rfl
def F34 (x:Den A34):Option (Den R34):=r34 K53 G53 x
def K34 (x:Den A34):Bool:=(F34 x).isSome
def G34 (x:Den A34):Den R34:=(F34 x).getD (zero R34)
theorem sem34:SemOK Tryz.prog (34,fnMean A34 R34 K34 G34):=fn_opt (env_ok mixed tab_ok eqs_ok (.cons sem53 .nil)) (fnIs Tryz.func34 rfl rfl rfl (by kernel_rfl) (noLoops (by kernel_rfl))) fun x => ev34 K53 G53 x
abbrev A16:Ty:=.cons (S25) (.nil)
abbrev R16:Ty:=.cons (.bool) (.nil)
abbrev V16_4:Type:=((Unit × (Int × Unit)) × ((Int × (Int × (Int × ((List (Den (.slice (.cpx .f32)))) × Unit)))) × Unit))
def sh16_4:ShS:=⟨[(1,.one (.ptr 0 0)),(3,.one (.int .i64))],[(0,.box [.int .i64,.int .i64,.int .i64,.sl (.slice (.cpx .f32))])],1,0⟩
abbrev X16_4:Type:=(Unit × Unit)
def shX16_4:ShS:=⟨[],[],0,0⟩
abbrev Y16_4:Type:=((Bool × Unit) × Unit)
def shY16_4:ShS:=⟨[(2,.one (.bool))],[],0,0⟩
abbrev V16_9:Type:=((Unit × (Int × (Int × Unit))) × ((Int × (Int × (Int × ((List (Den (.slice (.cpx .f32)))) × Unit)))) × Unit))
def sh16_9:ShS:=⟨[(1,.one (.ptr 0 0)),(3,.one (.int .i64)),(4,.one (.int .i64))],[(0,.box [.int .i64,.int .i64,.int .i64,.sl (.slice (.cpx .f32))])],1,0⟩
abbrev X16_9:Type:=((Unit × (Int × Unit)) × ((Int × (Int × (Int × ((List (Den (.slice (.cpx .f32)))) × Unit)))) × Unit))
def shX16_9:ShS:=⟨[(1,.one (.ptr 0 0)),(3,.one (.int .i64))],[(0,.box [.int .i64,.int .i64,.int .i64,.sl (.slice (.cpx .f32))])],1,0⟩
abbrev Y16_9:Type:=((Bool × Unit) × Unit)
def shY16_9:ShS:=⟨[(2,.one (.bool))],[],0,0⟩
noncomputable def Γ16 (k18:KA A18) (g18:GA A18 R18) (k34:KA A34) (g34:GA A34 R34) (kl4:V16_4 -> Bool) (xl4:V16_4 -> X16_4) (tl4:V16_4 -> Bool) (yl4:V16_4 -> Y16_4) (kl9:V16_9 -> Bool) (xl9:V16_9 -> X16_9) (tl9:V16_9 -> Bool) (yl9:V16_9 -> Y16_9):Env:=mkEnv tab eqs [(18,fnMean A18 R18 k18 g18),(34,fnMean A34 R34 k34 g34)] 67 [.tmp 2] [] [] [(4,loopR [1,3] [] 0 [] [] sh16_4 shX16_4 shY16_4 kl4 tl4 xl4 yl4),(9,loopR [1,3,4] [] 2 [1,3] [] sh16_9 shX16_9 shY16_9 kl9 tl9 xl9 yl9)] [] []
noncomputable def lc16_4:Code:=(loopsOf (bodyOf Tryz.f16)).getD 0 .skip
noncomputable def lc16_9:Code:=(loopsOf (bodyOf Tryz.f16)).getD 1 .skip
def q16_9 (k18:KA A18) (g18:GA A18 R18) (k34:KA A34) (g34:GA A34 R34) (f:V16_9 -> Option (X16_9 ⊕ Y16_9)) (v:V16_9):Option (X16_9 ⊕ Y16_9):=
 bif (decide (0 <= v.1.2.1) && decide (v.1.2.1 < (↑(List.length v.2.1.2.2.2.1):Int))) then
 let v0:=(List.getD v.2.1.2.2.2.1 (Int.toNat v.1.2.1) (zero (Ty.slice (Ty.cpx FloatKind.f32))))
 bif (decide (v.1.2.2.1 < (↑(List.length v0):Int))) then
 bif (decide (0 <= v.1.2.1) && decide (v.1.2.1 < (↑(List.length v.2.1.2.2.2.1):Int))) then
 bif (decide (0 <= v.1.2.2.1) && decide (v.1.2.2.1 < (↑(List.length v0):Int))) then
 let v1:=(List.getD v0 (Int.toNat v.1.2.2.1) (zero (Ty.cpx FloatKind.f32)))
 let v2:=(k34 (v1,()))
 bif v2 then
 let v3:=(g34 (v1,()))
 bif (!v3.1) then
 some (Sum.inr (((false),()),()))
 else
 let v4:=(IntKind.wrap IntKind.i64 (v.1.2.2.1 + 1))
 f (((),((v.1.2.1),(v4,()))),(((v.2.1.1),((v.2.1.2.1),((v.2.1.2.2.1),((v.2.1.2.2.2.1),())))),()))
 else
 none
 else
 none
 else
 none
 else
 some (Sum.inl (((),((v.1.2.1),())),(((v.2.1.1),((v.2.1.2.1),((v.2.1.2.2.1),((v.2.1.2.2.2.1),())))),())))
 else
 none
theorem evl16_9 (k18:KA A18) (g18:GA A18 R18) (k34:KA A34) (g34:GA A34 R34) (kl4:V16_4 -> Bool) (xl4:V16_4 -> X16_4) (tl4:V16_4 -> Bool) (yl4:V16_4 -> Y16_4) (kl9:V16_9 -> Bool) (xl9:V16_9 -> X16_9) (tl9:V16_9 -> Bool) (yl9:V16_9 -> Y16_9) (f:V16_9 -> Option (X16_9 ⊕ Y16_9)) (v:V16_9):EBk (Γ16 k18 g18 k34 g34 kl4 xl4 tl4 yl4 kl9 xl9 tl9 yl9) lc16_9 (roundK [1,3,4] [] 2 [1,3] [] (atS sh16_9 f) (endS shX16_9 shY16_9)) (mkS sh16_9 v) = q16_9 k18 g18 k34 g34 f v:=by kernel_rfl
def b16_9 (v:V16_9):Nat:=v.1.2.1.natAbs + v.1.2.2.1.natAbs + v.2.1.1.natAbs + v.2.1.2.1.natAbs + v.2.1.2.2.1.natAbs + v.2.1.2.2.2.1.length + 1000
def l16_9 (v:V16_9):Option (X16_9 ⊕ Y16_9):=iter (q16_9 K18 G18 K34 G34) (b16_9 v) v
def kL16_9 (v:V16_9):Bool:=(l16_9 v).isSome
def tL16_9 (v:V16_9):Bool:=isR (l16_9 v)
def xL16_9 (v:V16_9):X16_9:=xOf (((),(0,())),((0,(0,(0,([],())))),())) (l16_9 v)
def yL16_9 (v:V16_9):Y16_9:=yOf ((false,()),()) (l16_9 v)
def q16_4 (k18:KA A18) (g18:GA A18 R18) (k34:KA A34) (g34:GA A34 R34) (kl9:V16_9 -> Bool) (xl9:V16_9 -> X16_9) (tl9:V16_9 -> Bool) (yl9:V16_9 -> Y16_9) (f:V16_4 -> Option (X16_4 ⊕ Y16_4)) (v:V16_4):Option (X16_4 ⊕ Y16_4):=
 bif (decide (v.1.2.1 < (↑(List.length v.2.1.2.2.2.1):Int))) then
 bif (decide (0 <= v.1.2.1) && decide (v.1.2.1 < (↑(List.length v.2.1.2.2.2.1):Int))) then
 let v0:=(List.getD v.2.1.2.2.2.1 (Int.toNat v.1.2.1) (zero (Ty.slice (Ty.cpx FloatKind.f32))))
 let v1:=(IntKind.wrap IntKind.i64 (v.2.1.1 * v.2.1.2.1))
 bif ((↑(List.length v0):Int) != v1) then
 some (Sum.inr (((false),()),()))
 else
 let v2:=(kl9 (((),v.1.2.1,0,()),v.2))
 bif v2 then
 let v3:=(tl9 (((),v.1.2.1,0,()),v.2))
 bif v3 then
 let v4:=(yl9 (((),v.1.2.1,0,()),v.2))
 some (Sum.inr ((v4.1.1,()),()))
 else
 let v4:=(xl9 (((),v.1.2.1,0,()),v.2))
 let v5:=(IntKind.wrap IntKind.i64 (v4.1.2.1 + 1))
 f (((),(v5,())),((v4.2.1.1,(v4.2.1.2.1,(v4.2.1.2.2.1,(v4.2.1.2.2.2.1,())))),()))
 else
 none
 else
 none
 else
 some (Sum.inl ((),()))
theorem evl16_4 (k18:KA A18) (g18:GA A18 R18) (k34:KA A34) (g34:GA A34 R34) (kl4:V16_4 -> Bool) (xl4:V16_4 -> X16_4) (tl4:V16_4 -> Bool) (yl4:V16_4 -> Y16_4) (kl9:V16_9 -> Bool) (xl9:V16_9 -> X16_9) (tl9:V16_9 -> Bool) (yl9:V16_9 -> Y16_9) (f:V16_4 -> Option (X16_4 ⊕ Y16_4)) (v:V16_4):EBk (Γ16 k18 g18 k34 g34 kl4 xl4 tl4 yl4 kl9 xl9 tl9 yl9) lc16_4 (roundK [1,3] [] 0 [] [] (atS sh16_4 f) (endS shX16_4 shY16_4)) (mkS sh16_4 v) = q16_4 k18 g18 k34 g34 kl9 xl9 tl9 yl9 f v:=by kernel_rfl
def b16_4 (v:V16_4):Nat:=v.1.2.1.natAbs + v.2.1.1.natAbs + v.2.1.2.1.natAbs + v.2.1.2.2.1.natAbs + v.2.1.2.2.2.1.length + 1000
def l16_4 (v:V16_4):Option (X16_4 ⊕ Y16_4):=iter (q16_4 K18 G18 K34 G34 kL16_9 xL16_9 tL16_9 yL16_9) (b16_4 v) v
def kL16_4 (v:V16_4):Bool:=(l16_4 v).isSome
def tL16_4 (v:V16_4):Bool:=isR (l16_4 v)
def xL16_4 (v:V16_4):X16_4:=xOf ((),()) (l16_4 v)
def yL16_4 (v:V16_4):Y16_4:=yOf ((false,()),()) (l16_4 v)
def r16 (k18:KA A18) (g18:GA A18 R18) (k34:KA A34) (g34:GA A34 R34) (kl4:V16_4 -> Bool) (xl4:V16_4 -> X16_4) (tl4:V16_4 -> Bool) (yl4:V16_4 -> Y16_4) (kl9:V16_9 -> Bool) (xl9:V16_9 -> X16_9) (tl9:V16_9 -> Bool) (yl9:V16_9 -> Y16_9) (x:Den A16):Option (Den R16):=
 let v0:=(k18 (x.1.1,2,12,()))
 bif v0 then
 let v1:=(g18 (x.1.1,2,12,()))
 bif (!v1.1) then
 some ((false),())
 else
 let v2:=(k18 (x.1.2.1,2,12,()))
 bif v2 then
 let v3:=(g18 (x.1.2.1,2,12,()))
 bif (!v3.1) then
 some ((false),())
 else
 let v4:=(k18 (x.1.2.2.1,10,100000,()))
 bif v4 then
 let v5:=(g18 (x.1.2.2.1,10,100000,()))
 bif (!v5.1) then
 some ((false),())
 else
 let v6:=(k18 ((↑(List.length x.1.2.2.2.1):Int),1,24,()))
 bif v6 then
 let v7:=(g18 ((↑(List.length x.1.2.2.2.1):Int),1,24,()))
 bif (!v7.1) then
 some ((false),())
 else
 let v8:=(kl4 (((),0,()),x))
 bif v8 then
 let v9:=(tl4 (((),0,()),x))
 bif v9 then
 let v10:=(yl4 (((),0,()),x))
 some (v10.1.1,())
 else
 some ((true),())
 else
 none
 else
 none
 else
 none
 else
 none
 else
 none
theorem ev16 (k18:KA A18) (g18:GA A18 R18) (k34:KA A34) (g34:GA A34 R34) (kl4:V16_4 -> Bool) (xl4:V16_4 -> X16_4) (tl4:V16_4 -> Bool) (yl4:V16_4 -> Y16_4) (kl9:V16_9 -> Bool) (xl9:V16_9 -> X16_9) (tl9:V16_9 -> Bool) (yl9:V16_9 -> Y16_9) (x:Den A16):callK (Γ16 k18 g18 k34 g34 kl4 xl4 tl4 yl4 kl9 xl9 tl9 yl9) (bodyOf Tryz.f16) (decR R16) (encA A16 x) [] = r16 k18 g18 k34 g34 kl4 xl4 tl4 yl4 kl9 xl9 tl9 yl9 x:=by kernel_rfl
def F16 (x:Den A16):Option (Den R16):=r16 K18 G18 K34 G34 kL16_4 xL16_4 tL16_4 yL16_4 kL16_9 xL16_9 tL16_9 yL16_9 x
def K16 (x:Den A16):Bool:=(F16 x).isSome
def G16 (x:Den A16):Den R16:=(F16 x).getD (zero R16)
theorem sem16:SemOK Tryz.prog (16,fnMean A16 R16 K16 G16):=fn_opt (env_ok mixed tab_ok eqs_ok (.cons sem18 (.cons sem34 .nil))) (fnIs Tryz.func16 rfl rfl rfl (by kernel_rfl) (loops_ok (l:=[lc16_4,lc16_9]) (by kernel_rfl) (.cons (one_loop rfl (loopR_sound (sh:=sh16_4) (shX:=shX16_4) (shR:=shY16_4) (fun f v => evl16_4 K18 G18 K34 G34 kL16_4 xL16_4 tL16_4 yL16_4 kL16_9 xL16_9 tL16_9 yL16_9 f v) b16_4 ((),()) ((false,()),()))) (.cons (one_loop rfl (loopR_sound (sh:=sh16_9) (shX:=shX16_9) (shR:=shY16_9) (fun f v => evl16_9 K18 G18 K34 G34 kL16_4 xL16_4 tL16_4 yL16_4 kL16_9 xL16_9 tL16_9 yL16_9 f v) b16_9 (((),(0,())),((0,(0,(0,([],())))),())) ((false,()),()))) (.nil))))) fun x => ev16 K18 G18 K34 G34 kL16_4 xL16_4 tL16_4 yL16_4 kL16_9 xL16_9 tL16_9 yL16_9 x
abbrev A17:Ty:=.cons (S30) (.nil)
abbrev R17:Ty:=.cons (.bool) (.nil)
abbrev V17_4:Type:=((Unit × (Int × Unit)) × (((List (Den (.flt .f32))) × ((List (Den (.int .i64))) × ((List (Den (.slice (.flt .f32)))) × Unit))) × Unit))
def sh17_4:ShS:=⟨[(1,.one (.ptr 0 0)),(3,.one (.int .i64))],[(0,.box [.sl (.flt .f32),.sl (.int .i64),.sl (.slice (.flt .f32))])],1,0⟩
abbrev X17_4:Type:=((Unit × Unit) × (((List (Den (.flt .f32))) × ((List (Den (.int .i64))) × ((List (Den (.slice (.flt .f32)))) × Unit))) × Unit))
def shX17_4:ShS:=⟨[(1,.one (.ptr 0 0))],[(0,.box [.sl (.flt .f32),.sl (.int .i64),.sl (.slice (.flt .f32))])],1,0⟩
abbrev Y17_4:Type:=((Bool × Unit) × Unit)
def shY17_4:ShS:=⟨[(2,.one (.bool))],[],0,0⟩
abbrev V17_9:Type:=((Unit × (Int × (Int × Unit))) × (((List (Den (.flt .f32))) × ((List (Den (.int .i64))) × ((List (Den (.slice (.flt .f32)))) × Unit))) × Unit))
def sh17_9:ShS:=⟨[(1,.one (.ptr 0 0)),(3,.one (.int .i64)),(4,.one (.int .i64))],[(0,.box [.sl (.flt .f32),.sl (.int .i64),.sl (.slice (.flt .f32))])],1,0⟩
abbrev X17_9:Type:=((Unit × (Int × Unit)) × (((List (Den (.flt .f32))) × ((List (Den (.int .i64))) × ((List (Den (.slice (.flt .f32)))) × Unit))) × Unit))
def shX17_9:ShS:=⟨[(1,.one (.ptr 0 0)),(3,.one (.int .i64))],[(0,.box [.sl (.flt .f32),.sl (.int .i64),.sl (.slice (.flt .f32))])],1,0⟩
abbrev Y17_9:Type:=((Bool × Unit) × Unit)
def shY17_9:ShS:=⟨[(2,.one (.bool))],[],0,0⟩
abbrev V17_14:Type:=((Unit × (Int × Unit)) × (((List (Den (.flt .f32))) × ((List (Den (.int .i64))) × ((List (Den (.slice (.flt .f32)))) × Unit))) × Unit))
def sh17_14:ShS:=⟨[(1,.one (.ptr 0 0)),(5,.one (.int .i64))],[(0,.box [.sl (.flt .f32),.sl (.int .i64),.sl (.slice (.flt .f32))])],1,0⟩
abbrev X17_14:Type:=((Unit × Unit) × (((List (Den (.flt .f32))) × ((List (Den (.int .i64))) × ((List (Den (.slice (.flt .f32)))) × Unit))) × Unit))
def shX17_14:ShS:=⟨[(1,.one (.ptr 0 0))],[(0,.box [.sl (.flt .f32),.sl (.int .i64),.sl (.slice (.flt .f32))])],1,0⟩
abbrev Y17_14:Type:=((Bool × Unit) × Unit)
def shY17_14:ShS:=⟨[(2,.one (.bool))],[],0,0⟩
noncomputable def Γ17 (k18:KA A18) (g18:GA A18 R18) (kl4:V17_4 -> Bool) (xl4:V17_4 -> X17_4) (tl4:V17_4 -> Bool) (yl4:V17_4 -> Y17_4) (kl9:V17_9 -> Bool) (xl9:V17_9 -> X17_9) (tl9:V17_9 -> Bool) (yl9:V17_9 -> Y17_9) (kl14:V17_14 -> Bool) (xl14:V17_14 -> X17_14) (tl14:V17_14 -> Bool) (yl14:V17_14 -> Y17_14):Env:=mkEnv tab eqs [(18,fnMean A18 R18 k18 g18)] 145 [.tmp 2] [] [] [(4,loopR [1,3] [] 0 [1] [] sh17_4 shX17_4 shY17_4 kl4 tl4 xl4 yl4),(9,loopR [1,3,4] [] 2 [1,3] [] sh17_9 shX17_9 shY17_9 kl9 tl9 xl9 yl9),(14,loopR [1,5] [] 4 [1] [] sh17_14 shX17_14 shY17_14 kl14 tl14 xl14 yl14)] [] []
noncomputable def lc17_4:Code:=(loopsOf (bodyOf Tryz.f17)).getD 0 .skip
noncomputable def lc17_9:Code:=(loopsOf (bodyOf Tryz.f17)).getD 1 .skip
noncomputable def lc17_14:Code:=(loopsOf (bodyOf Tryz.f17)).getD 2 .skip
def q17_14 (k18:KA A18) (g18:GA A18 R18) (f:V17_14 -> Option (X17_14 ⊕ Y17_14)) (v:V17_14):Option (X17_14 ⊕ Y17_14):=
 bif (decide (v.1.2.1 < (↑(List.length v.2.1.2.1):Int))) then
 bif (decide (0 <= v.1.2.1) && decide (v.1.2.1 < (↑(List.length v.2.1.2.1):Int))) then
 let v0:=(IntKind.wrap IntKind.i64 (v.1.2.1 - 1))
 bif (decide (0 <= v0) && decide (v0 < (↑(List.length v.2.1.2.1):Int))) then
 let v1:=(List.getD v.2.1.2.1 (Int.toNat v.1.2.1) (zero (Ty.int IntKind.i64)))
 let v2:=(List.getD v.2.1.2.1 (Int.toNat v0) (zero (Ty.int IntKind.i64)))
 bif (decide (v1 <= v2)) then
 some (Sum.inr (((false),()),()))
 else
 let v3:=(IntKind.wrap IntKind.i64 (v.1.2.1 + 1))
 f (((),(v3,())),(((v.2.1.1),((v.2.1.2.1),((v.2.1.2.2.1),()))),()))
 else
 none
 else
 none
 else
 some (Sum.inl (((),()),(((v.2.1.1),((v.2.1.2.1),((v.2.1.2.2.1),()))),())))
theorem evl17_14 (k18:KA A18) (g18:GA A18 R18) (kl4:V17_4 -> Bool) (xl4:V17_4 -> X17_4) (tl4:V17_4 -> Bool) (yl4:V17_4 -> Y17_4) (kl9:V17_9 -> Bool) (xl9:V17_9 -> X17_9) (tl9:V17_9 -> Bool) (yl9:V17_9 -> Y17_9) (kl14:V17_14 -> Bool) (xl14:V17_14 -> X17_14) (tl14:V17_14 -> Bool) (yl14:V17_14 -> Y17_14) (f:V17_14 -> Option (X17_14 ⊕ Y17_14)) (v:V17_14):EBk (Γ17 k18 g18 kl4 xl4 tl4 yl4 kl9 xl9 tl9 yl9 kl14 xl14 tl14 yl14) lc17_14 (roundK [1,5] [] 4 [1] [] (atS sh17_14 f) (endS shX17_14 shY17_14)) (mkS sh17_14 v) = q17_14 k18 g18 f v:=by kernel_rfl
def b17_14 (v:V17_14):Nat:=v.1.2.1.natAbs + v.2.1.1.length + v.2.1.2.1.length + v.2.1.2.2.1.length + 1000
def l17_14 (v:V17_14):Option (X17_14 ⊕ Y17_14):=iter (q17_14 K18 G18) (b17_14 v) v
def kL17_14 (v:V17_14):Bool:=(l17_14 v).isSome
def tL17_14 (v:V17_14):Bool:=isR (l17_14 v)
def xL17_14 (v:V17_14):X17_14:=xOf (((),()),(([],([],([],()))),())) (l17_14 v)
def yL17_14 (v:V17_14):Y17_14:=yOf ((false,()),()) (l17_14 v)
def q17_9 (k18:KA A18) (g18:GA A18 R18) (f:V17_9 -> Option (X17_9 ⊕ Y17_9)) (v:V17_9):Option (X17_9 ⊕ Y17_9):=
 bif (decide (0 <= v.1.2.1) && decide (v.1.2.1 < (↑(List.length v.2.1.2.2.1):Int))) then
 let v0:=(List.getD v.2.1.2.2.1 (Int.toNat v.1.2.1) (zero (Ty.slice (Ty.flt FloatKind.f32))))
 bif (decide (v.1.2.2.1 < (↑(List.length v0):Int))) then
 bif (decide (0 <= v.1.2.1) && decide (v.1.2.1 < (↑(List.length v.2.1.2.2.1):Int))) then
 bif (decide (0 <= v.1.2.2.1) && decide (v.1.2.2.1 < (↑(List.length v0):Int))) then
 let v1:=(List.getD v0 (Int.toNat v.1.2.2.1) (zero (Ty.flt FloatKind.f32)))
 bif (fgt FloatKind.f32 v1 0 || feq FloatKind.f32 v1 0) then
 bif (decide (0 <= v.1.2.1) && decide (v.1.2.1 < (↑(List.length v.2.1.2.2.1):Int))) then
 bif (decide (0 <= v.1.2.2.1) && decide (v.1.2.2.1 < (↑(List.length v0):Int))) then
 bif (!(flt FloatKind.f32 v1 1112014848 || feq FloatKind.f32 v1 1112014848)) then
 some (Sum.inr (((false),()),()))
 else
 let v2:=(IntKind.wrap IntKind.i64 (v.1.2.2.1 + 1))
 f (((),((v.1.2.1),(v2,()))),(((v.2.1.1),((v.2.1.2.1),((v.2.1.2.2.1),()))),()))
 else
 none
 else
 none
 else
 some (Sum.inr (((false),()),()))
 else
 none
 else
 none
 else
 some (Sum.inl (((),((v.1.2.1),())),(((v.2.1.1),((v.2.1.2.1),((v.2.1.2.2.1),()))),())))
 else
 none
theorem evl17_9 (k18:KA A18) (g18:GA A18 R18) (kl4:V17_4 -> Bool) (xl4:V17_4 -> X17_4) (tl4:V17_4 -> Bool) (yl4:V17_4 -> Y17_4) (kl9:V17_9 -> Bool) (xl9:V17_9 -> X17_9) (tl9:V17_9 -> Bool) (yl9:V17_9 -> Y17_9) (kl14:V17_14 -> Bool) (xl14:V17_14 -> X17_14) (tl14:V17_14 -> Bool) (yl14:V17_14 -> Y17_14) (f:V17_9 -> Option (X17_9 ⊕ Y17_9)) (v:V17_9):EBk (Γ17 k18 g18 kl4 xl4 tl4 yl4 kl9 xl9 tl9 yl9 kl14 xl14 tl14 yl14) lc17_9 (roundK [1,3,4] [] 2 [1,3] [] (atS sh17_9 f) (endS shX17_9 shY17_9)) (mkS sh17_9 v) = q17_9 k18 g18 f v:=by kernel_rfl
def b17_9 (v:V17_9):Nat:=v.1.2.1.natAbs + v.1.2.2.1.natAbs + v.2.1.1.length + v.2.1.2.1.length + v.2.1.2.2.1.length + 1000
def l17_9 (v:V17_9):Option (X17_9 ⊕ Y17_9):=iter (q17_9 K18 G18) (b17_9 v) v
def kL17_9 (v:V17_9):Bool:=(l17_9 v).isSome
def tL17_9 (v:V17_9):Bool:=isR (l17_9 v)
def xL17_9 (v:V17_9):X17_9:=xOf (((),(0,())),(([],([],([],()))),())) (l17_9 v)
def yL17_9 (v:V17_9):Y17_9:=yOf ((false,()),()) (l17_9 v)
def q17_4 (k18:KA A18) (g18:GA A18 R18) (kl9:V17_9 -> Bool) (xl9:V17_9 -> X17_9) (tl9:V17_9 -> Bool) (yl9:V17_9 -> Y17_9) (f:V17_4 -> Option (X17_4 ⊕ Y17_4)) (v:V17_4):Option (X17_4 ⊕ Y17_4):=
 bif (decide (v.1.2.1 < (↑(List.length v.2.1.1):Int))) then
 bif (decide (0 <= v.1.2.1) && decide (v.1.2.1 < (↑(List.length v.2.1.1):Int))) then
 let v0:=(List.getD v.2.1.1 (Int.toNat v.1.2.1) (zero (Ty.flt FloatKind.f32)))
 bif (fgt FloatKind.f32 v0 0) then
 bif (decide (0 <= v.1.2.1) && decide (v.1.2.1 < (↑(List.length v.2.1.1):Int))) then
 bif (!(flt FloatKind.f32 v0 1120403456 || feq FloatKind.f32 v0 1120403456)) then
 some (Sum.inr (((false),()),()))
 else
 bif (decide (v.1.2.1 > 0)) then
 bif (decide (0 <= v.1.2.1) && decide (v.1.2.1 < (↑(List.length v.2.1.1):Int))) then
 let v1:=(IntKind.wrap IntKind.i64 (v.1.2.1 - 1))
 bif (decide (0 <= v1) && decide (v1 < (↑(List.length v.2.1.1):Int))) then
 let v2:=(List.getD v.2.1.1 (Int.toNat v1) (zero (Ty.flt FloatKind.f32)))
 bif (flt FloatKind.f32 v0 v2 || feq FloatKind.f32 v0 v2) then
 some (Sum.inr (((false),()),()))
 else
 bif (decide (0 <= v.1.2.1) && decide (v.1.2.1 < (↑(List.length v.2.1.2.2.1):Int))) then
 let v3:=(List.getD v.2.1.2.2.1 (Int.toNat v.1.2.1) (zero (Ty.slice (Ty.flt FloatKind.f32))))
 bif ((↑(List.length v3):Int) != (↑(List.length v.2.1.2.1):Int)) then
 some (Sum.inr (((false),()),()))
 else
 let v4:=(kl9 (((),v.1.2.1,0,()),v.2))
 bif v4 then
 let v5:=(tl9 (((),v.1.2.1,0,()),v.2))
 bif v5 then
 let v6:=(yl9 (((),v.1.2.1,0,()),v.2))
 some (Sum.inr ((v6.1.1,()),()))
 else
 let v6:=(xl9 (((),v.1.2.1,0,()),v.2))
 let v7:=(IntKind.wrap IntKind.i64 (v6.1.2.1 + 1))
 f (((),(v7,())),((v6.2.1.1,(v6.2.1.2.1,(v6.2.1.2.2.1,()))),()))
 else
 none
 else
 none
 else
 none
 else
 none
 else
 bif (decide (0 <= v.1.2.1) && decide (v.1.2.1 < (↑(List.length v.2.1.2.2.1):Int))) then
 let v1:=(List.getD v.2.1.2.2.1 (Int.toNat v.1.2.1) (zero (Ty.slice (Ty.flt FloatKind.f32))))
 bif ((↑(List.length v1):Int) != (↑(List.length v.2.1.2.1):Int)) then
 some (Sum.inr (((false),()),()))
 else
 let v2:=(kl9 (((),v.1.2.1,0,()),v.2))
 bif v2 then
 let v3:=(tl9 (((),v.1.2.1,0,()),v.2))
 bif v3 then
 let v4:=(yl9 (((),v.1.2.1,0,()),v.2))
 some (Sum.inr ((v4.1.1,()),()))
 else
 let v4:=(xl9 (((),v.1.2.1,0,()),v.2))
 let v5:=(IntKind.wrap IntKind.i64 (v4.1.2.1 + 1))
 f (((),(v5,())),((v4.2.1.1,(v4.2.1.2.1,(v4.2.1.2.2.1,()))),()))
 else
 none
 else
 none
 else
 none
 else
 some (Sum.inr (((false),()),()))
 else
 none
 else
 some (Sum.inl (((),()),(((v.2.1.1),((v.2.1.2.1),((v.2.1.2.2.1),()))),())))
theorem evl17_4 (k18:KA A18) (g18:GA A18 R18) (kl4:V17_4 -> Bool) (xl4:V17_4 -> X17_4) (tl4:V17_4 -> Bool) (yl4:V17_4 -> Y17_4) (kl9:V17_9 -> Bool) (xl9:V17_9 -> X17_9) (tl9:V17_9 -> Bool) (yl9:V17_9 -> Y17_9) (kl14:V17_14 -> Bool) (xl14:V17_14 -> X17_14) (tl14:V17_14 -> Bool) (yl14:V17_14 -> Y17_14) (f:V17_4 -> Option (X17_4 ⊕ Y17_4)) (v:V17_4):EBk (Γ17 k18 g18 kl4 xl4 tl4 yl4 kl9 xl9 tl9 yl9 kl14 xl14 tl14 yl14) lc17_4 (roundK [1,3] [] 0 [1] [] (atS sh17_4 f) (endS shX17_4 shY17_4)) (mkS sh17_4 v) = q17_4 k18 g18 kl9 xl9 tl9 yl9 f v:=by kernel_rfl
def b17_4 (v:V17_4):Nat:=v.1.2.1.natAbs + v.2.1.1.length + v.2.1.2.1.length + v.2.1.2.2.1.length + 1000
def l17_4 (v:V17_4):Option (X17_4 ⊕ Y17_4):=iter (q17_4 K18 G18 kL17_9 xL17_9 tL17_9 yL17_9) (b17_4 v) v
def kL17_4 (v:V17_4):Bool:=(l17_4 v).isSome
def tL17_4 (v:V17_4):Bool:=isR (l17_4 v)
def xL17_4 (v:V17_4):X17_4:=xOf (((),()),(([],([],([],()))),())) (l17_4 v)
def yL17_4 (v:V17_4):Y17_4:=yOf ((false,()),()) (l17_4 v)
def r17 (k18:KA A18) (g18:GA A18 R18) (kl4:V17_4 -> Bool) (xl4:V17_4 -> X17_4) (tl4:V17_4 -> Bool) (yl4:V17_4 -> Y17_4) (kl9:V17_9 -> Bool) (xl9:V17_9 -> X17_9) (tl9:V17_9 -> Bool) (yl9:V17_9 -> Y17_9) (kl14:V17_14 -> Bool) (xl14:V17_14 -> X17_14) (tl14:V17_14 -> Bool) (yl14:V17_14 -> Y17_14) (x:Den A17):Option (Den R17):=
 let v0:=(k18 ((↑(List.length x.1.1):Int),1,12,()))
 bif v0 then
 let v1:=(g18 ((↑(List.length x.1.1):Int),1,12,()))
 bif (!v1.1) then
 some ((false),())
 else
 let v2:=(k18 ((↑(List.length x.1.2.1):Int),2,24,()))
 bif v2 then
 let v3:=(g18 ((↑(List.length x.1.2.1):Int),2,24,()))
 bif (!v3.1) then
 some ((false),())
 else
 bif ((↑(List.length x.1.2.2.1):Int) != (↑(List.length x.1.1):Int)) then
 some ((false),())
 else
 let v4:=(kl4 (((),0,()),x))
 bif v4 then
 let v5:=(tl4 (((),0,()),x))
 bif v5 then
 let v6:=(yl4 (((),0,()),x))
 some (v6.1.1,())
 else
 let v6:=(xl4 (((),0,()),x))
 let v7:=(kl14 (((),1,()),v6.2))
 bif v7 then
 let v8:=(tl14 (((),1,()),v6.2))
 bif v8 then
 let v9:=(yl14 (((),1,()),v6.2))
 some (v9.1.1,())
 else
 let v9:=(xl14 (((),1,()),v6.2))
 bif (decide (0 <= 0) && decide (0 < (↑(List.length v9.2.1.2.1):Int))) then
 let v10:=(List.getD v9.2.1.2.1 (Int.toNat 0) (zero (Ty.int IntKind.i64)))
 bif (v10 == 0) then
 let v11:=(IntKind.wrap IntKind.i64 ((↑(List.length v9.2.1.2.1):Int) - 1))
 bif (decide (0 <= v11) && decide (v11 < (↑(List.length v9.2.1.2.1):Int))) then
 let v12:=(List.getD v9.2.1.2.1 (Int.toNat v11) (zero (Ty.int IntKind.i64)))
 some ((v12 == 180),())
 else
 none
 else
 some ((false),())
 else
 none
 else
 none
 else
 none
 else
 none
 else
 none
theorem ev17 (k18:KA A18) (g18:GA A18 R18) (kl4:V17_4 -> Bool) (xl4:V17_4 -> X17_4) (tl4:V17_4 -> Bool) (yl4:V17_4 -> Y17_4) (kl9:V17_9 -> Bool) (xl9:V17_9 -> X17_9) (tl9:V17_9 -> Bool) (yl9:V17_9 -> Y17_9) (kl14:V17_14 -> Bool) (xl14:V17_14 -> X17_14) (tl14:V17_14 -> Bool) (yl14:V17_14 -> Y17_14) (x:Den A17):callK (Γ17 k18 g18 kl4 xl4 tl4 yl4 kl9 xl9 tl9 yl9 kl14 xl14 tl14 yl14) (bodyOf Tryz.f17) (decR R17) (encA A17 x) [] = r17 k18 g18 kl4 xl4 tl4 yl4 kl9 xl9 tl9 yl9 kl14 xl14 tl14 yl14 x:=by kernel_rfl
def F17 (x:Den A17):Option (Den R17):=r17 K18 G18 kL17_4 xL17_4 tL17_4 yL17_4 kL17_9 xL17_9 tL17_9 yL17_9 kL17_14 xL17_14 tL17_14 yL17_14 x
def K17 (x:Den A17):Bool:=(F17 x).isSome
def G17 (x:Den A17):Den R17:=(F17 x).getD (zero R17)
theorem sem17:SemOK Tryz.prog (17,fnMean A17 R17 K17 G17):=fn_opt (env_ok mixed tab_ok eqs_ok (.cons sem18 .nil)) (fnIs Tryz.func17 rfl rfl rfl (by kernel_rfl) (loops_ok (l:=[lc17_4,lc17_9,lc17_14]) (by kernel_rfl) (.cons (one_loop rfl (loopR_sound (sh:=sh17_4) (shX:=shX17_4) (shR:=shY17_4) (fun f v => evl17_4 K18 G18 kL17_4 xL17_4 tL17_4 yL17_4 kL17_9 xL17_9 tL17_9 yL17_9 kL17_14 xL17_14 tL17_14 yL17_14 f v) b17_4 (((),()),(([],([],([],()))),())) ((false,()),()))) (.cons (one_loop rfl (loopR_sound (sh:=sh17_9) (shX:=shX17_9) (shR:=shY17_9) (fun f v => evl17_9 K18 G18 kL17_4 xL17_4 tL17_4 yL17_4 kL17_9 xL17_9 tL17_9 yL17_9 kL17_14 xL17_14 tL17_14 yL17_14 f v) b17_9 (((),(0,())),(([],([],([],()))),())) ((false,()),()))) (.cons (one_loop rfl (loopR_sound (sh:=sh17_14) (shX:=shX17_14) (shR:=shY17_14) (fun f v => evl17_14 K18 G18 kL17_4 xL17_4 tL17_4 yL17_4 kL17_9 xL17_9 tL17_9 yL17_9 kL17_14 xL17_14 tL17_14 yL17_14 f v) b17_14 (((),()),(([],([],([],()))),())) ((false,()),()))) (.nil)))))) fun x => ev17 K18 G18 kL17_4 xL17_4 tL17_4 yL17_4 kL17_9 xL17_9 tL17_9 yL17_9 kL17_14 xL17_14 tL17_14 yL17_14 x
abbrev A69:Ty:=.cons (.int .i64) (.cons (.int .i64) (.cons (.int .i64) (.nil)))
abbrev R69:Ty:=.cons (.int .i64) (.nil)
noncomputable def Γ69:Env:=mkEnv tab eqs [] 21 [.tmp 6] [] [] [] [] []
def r69 (x:Den A69):Option (Den R69):=
 bif (decide (x.2.2.1 < x.2.1)) then
 some ((x.2.1),())
 else
 bif (decide (x.1 < x.2.1)) then
 some ((x.2.1),())
 else
 bif (decide (x.1 > x.2.2.1)) then
 some ((x.2.2.1),())
 else
 some ((x.1),())
theorem ev69 (x:Den A69):callK (Γ69) (bodyOf Tryz.f69) (decR R69) (encA A69 x) [] = r69 x:=by kernel_rfl
def F69 (x:Den A69):Option (Den R69):=r69 x
def K69 (x:Den A69):Bool:=(F69 x).isSome
def G69 (x:Den A69):Den R69:=(F69 x).getD (zero R69)
theorem sem69:SemOK Tryz.prog (69,fnMean A69 R69 K69 G69):=fn_opt (env_ok mixed tab_ok eqs_ok .nil) (fnIs Tryz.func69 rfl rfl rfl (by kernel_rfl) (noLoops (by kernel_rfl))) fun x => ev69 x
abbrev A50:Ty:=.cons (S25) (.cons (.int .i64) (.cons (.int .i64) (.nil)))
abbrev R50:Ty:=.cons (.cpx .f32) (.cons (.bool) (.nil))
noncomputable def Γ50 (k16:KA A16) (g16:GA A16 R16) (k18:KA A18) (g18:GA A18 R18) (k69:KA A69) (g69:GA A69 R69):Env:=mkEnv tab eqs [(16,fnMean A16 R16 k16 g16),(18,fnMean A18 R18 k18 g18),(69,fnMean A69 R69 k69 g69)] 41 [.tmp 6,.tmp 7] [] [] [] [] []
def r50 (k16:KA A16) (g16:GA A16 R16) (k18:KA A18) (g18:GA A18 R18) (k69:KA A69) (g69:GA A69 R69) (x:Den A50):Option (Den R50):=
 let v0:=(k16 (x.1,()))
 bif v0 then
 let v1:=(g16 (x.1,()))
 bif (!v1.1) then
 some (((0),(0)),((false),()))
 else
 let v2:=(IntKind.wrap IntKind.i64 (x.1.1 * x.1.2.1))
 let v3:=(IntKind.wrap IntKind.i64 (v2 - 1))
 let v4:=(k18 (x.2.1,0,v3,()))
 bif v4 then
 let v5:=(g18 (x.2.1,0,v3,()))
 bif (!v5.1) then
 some (((0),(0)),((false),()))
 else
 let v6:=(k18 (x.2.2.1,0,10000000,()))
 bif v6 then
 let v7:=(g18 (x.2.2.1,0,10000000,()))
 bif (!v7.1) then
 some (((0),(0)),((false),()))
 else
 let v8:=(IntKind.wrap IntKind.i64 (Int.tdiv x.2.2.1 3600))
 let v9:=(IntKind.wrap IntKind.i64 ((↑(List.length x.1.2.2.2.1):Int) - 1))
 let v10:=(k69 (v8,0,v9,()))
 bif v10 then
 let v11:=(g69 (v8,0,v9,()))
 bif (decide (0 <= v11.1) && decide (v11.1 < (↑(List.length x.1.2.2.2.1):Int))) then
 let v12:=(List.getD x.1.2.2.2.1 (Int.toNat v11.1) (zero (Ty.slice (Ty.cpx FloatKind.f32))))
 bif (decide (0 <= x.2.1) && decide (x.2.1 < (↑(List.length v12):Int))) then
 let v13:=(List.getD v12 (Int.toNat x.2.1) (zero (Ty.cpx FloatKind.f32)))
 some ((v13.1,v13.2),((true),()))
 else
 none
 else
 none
 else
 none
 else
 none
 else
 none
 else
 none
theorem ev50 (k16:KA A16) (g16:GA A16 R16) (k18:KA A18) (g18:GA A18 R18) (k69:KA A69) (g69:GA A69 R69) (x:Den A50):callK (Γ50 k16 g16 k18 g18 k69 g69) (bodyOf Tryz.f50) (decR R50) (encA A50 x) [] = r50 k16 g16 k18 g18 k69 g69 x:=by kernel_rfl
def F50 (x:Den A50):Option (Den R50):=r50 K16 G16 K18 G18 K69 G69 x
def K50 (x:Den A50):Bool:=(F50 x).isSome
def G50 (x:Den A50):Den R50:=(F50 x).getD (zero R50)
theorem sem50:SemOK Tryz.prog (50,fnMean A50 R50 K50 G50):=fn_opt (env_ok mixed tab_ok eqs_ok (.cons sem16 (.cons sem18 (.cons sem69 .nil)))) (fnIs Tryz.func50 rfl rfl rfl (by kernel_rfl) (noLoops (by kernel_rfl))) fun x => ev50 K16 G16 K18 G18 K69 G69 x
abbrev A70:Ty:=.cons (S25) (.cons (.int .i64) (.nil))
abbrev R70:Ty:=.cons (.cpx .f64) (.nil)
noncomputable def Γ70:Env:=mkEnv tab eqs [] 22 [.tmp 4] [] [] [] [] []
def r70 (x:Den A70):Option (Den R70):=
 bif (x.1.1 != 0) then
 bif (x.1.1 != 0) then
 let v0:=(IntKind.wrap IntKind.i64 (Int.tdiv x.2.1 x.1.1))
 let v1:=(IntKind.wrap IntKind.i64 (v0 * x.1.2.2.1))
 let v2:=(IntKind.wrap IntKind.i64 (Int.tmod x.2.1 x.1.1 * x.1.2.2.1))
 some (((FloatKind.nearest FloatKind.f64 v1),(FloatKind.nearest FloatKind.f64 v2)),())
 else
 none
 else
 none
theorem ev70 (x:Den A70):callK (Γ70) (bodyOf Tryz.f70) (decR R70) (encA A70 x) [] = r70 x:=by kernel_rfl
def F70 (x:Den A70):Option (Den R70):=r70 x
def K70 (x:Den A70):Bool:=(F70 x).isSome
def G70 (x:Den A70):Den R70:=(F70 x).getD (zero R70)
theorem sem70:SemOK Tryz.prog (70,fnMean A70 R70 K70 G70):=fn_opt (env_ok mixed tab_ok eqs_ok .nil) (fnIs Tryz.func70 rfl rfl rfl (by kernel_rfl) (noLoops (by kernel_rfl))) fun x => ev70 x
abbrev A51:Ty:=.cons (S25) (.cons (.int .i64) (.nil))
abbrev R51:Ty:=.cons (.cpx .f64) (.cons (.bool) (.nil))
noncomputable def Γ51 (k16:KA A16) (g16:GA A16 R16) (k18:KA A18) (g18:GA A18 R18) (k70:KA A70) (g70:GA A70 R70):Env:=mkEnv tab eqs [(16,fnMean A16 R16 k16 g16),(18,fnMean A18 R18 k18 g18),(70,fnMean A70 R70 k70 g70)] 23 [.tmp 4,.tmp 5] [] [] [] [] []
def r51 (k16:KA A16) (g16:GA A16 R16) (k18:KA A18) (g18:GA A18 R18) (k70:KA A70) (g70:GA A70 R70) (x:Den A51):Option (Den R51):=
 let v0:=(k16 (x.1,()))
 bif v0 then
 let v1:=(g16 (x.1,()))
 bif (!v1.1) then
 some (((0),(0)),((false),()))
 else
 let v2:=(IntKind.wrap IntKind.i64 (x.1.1 * x.1.2.1))
 let v3:=(IntKind.wrap IntKind.i64 (v2 - 1))
 let v4:=(k18 (x.2.1,0,v3,()))
 bif v4 then
 let v5:=(g18 (x.2.1,0,v3,()))
 bif (!v5.1) then
 some (((0),(0)),((false),()))
 else
 let v6:=(k70 x)
 bif v6 then
 let v7:=(g70 x)
 some ((v7.1.1,v7.1.2),((true),()))
 else
 none
 else
 none
 else
 none
theorem ev51 (k16:KA A16) (g16:GA A16 R16) (k18:KA A18) (g18:GA A18 R18) (k70:KA A70) (g70:GA A70 R70) (x:Den A51):callK (Γ51 k16 g16 k18 g18 k70 g70) (bodyOf Tryz.f51) (decR R51) (encA A51 x) [] = r51 k16 g16 k18 g18 k70 g70 x:=by kernel_rfl
def F51 (x:Den A51):Option (Den R51):=r51 K16 G16 K18 G18 K70 G70 x
def K51 (x:Den A51):Bool:=(F51 x).isSome
def G51 (x:Den A51):Den R51:=(F51 x).getD (zero R51)
theorem sem51:SemOK Tryz.prog (51,fnMean A51 R51 K51 G51):=fn_opt (env_ok mixed tab_ok eqs_ok (.cons sem16 (.cons sem18 (.cons sem70 .nil)))) (fnIs Tryz.func51 rfl rfl rfl (by kernel_rfl) (noLoops (by kernel_rfl))) fun x => ev51 K16 G16 K18 G18 K70 G70 x
abbrev A103:Ty:=.cons (.cpx .f32) (.nil)
abbrev R103:Ty:=.cons (.cpx .f64) (.nil)
noncomputable def Γ103:Env:=mkEnv tab eqs [] 5 [.tmp 2] [] [] [] [] []
def r103 (x:Den A103):Option (Den R103):=
 some ((((convF FloatKind.f32 FloatKind.f64 x.1.1).2),((convF FloatKind.f32 FloatKind.f64 x.1.2).2)),())
theorem ev103 (x:Den A103):callK (Γ103) (bodyOf Tryz.f103) (decR R103) (encA A103 x) [] = r103 x:=by kernel_rfl
def F103 (x:Den A103):Option (Den R103):=r103 x
def K103 (x:Den A103):Bool:=(F103 x).isSome
def G103 (x:Den A103):Den R103:=(F103 x).getD (zero R103)
theorem sem103:SemOK Tryz.prog (103,fnMean A103 R103 K103 G103):=fn_opt (env_ok mixed tab_ok eqs_ok .nil) (fnIs Tryz.func103 rfl rfl rfl (by kernel_rfl) (noLoops (by kernel_rfl))) fun x => ev103 x
abbrev A124:Ty:=.cons (.flt .f64) (.nil)
abbrev R124:Ty:=.cons (.flt .f64) (.nil)
noncomputable def Γ124:Env:=mkEnv tab eqs [] 8 [.tmp 2] [] [] [] [] []
def r124 (x:Den A124):Option (Den R124):=
 bif (flt FloatKind.f64 x.1 0) then
 let v0:=(fneg FloatKind.f64 x.1)
 some (v0,())
 else
 some ((x.1),())
theorem ev124 (x:Den A124):callK (Γ124) (bodyOf Tryz.f124) (decR R124) (encA A124 x) [] = r124 x:=by kernel_rfl
def F124 (x:Den A124):Option (Den R124):=r124 x
def K124 (x:Den A124):Bool:=(F124 x).isSome
def G124 (x:Den A124):Den R124:=(F124 x).getD (zero R124)
theorem sem124:SemOK Tryz.prog (124,fnMean A124 R124 K124 G124):=fn_opt (env_ok mixed tab_ok eqs_ok .nil) (fnIs Tryz.func124 rfl rfl rfl (by kernel_rfl) (noLoops (by kernel_rfl))) fun x => ev124 x
abbrev A104:Ty:=.cons (.cpx .f64) (.nil)
abbrev R104:Ty:=.cons (.bool) (.nil)
noncomputable def Γ104 (k124:KA A124) (g124:GA A124 R124):Env:=mkEnv tab eqs [(124,fnMean A124 R124 k124 g124)] 13 [.tmp 2] [] [] [] [] []
def r104 (k124:KA A124) (g124:GA A124 R124) (x:Den A104):Option (Den R104):=
 let v0:=(k124 (x.1.1,()))
 bif v0 then
 let v1:=(g124 (x.1.1,()))
 bif (flt FloatKind.f64 v1.1 4726483295884279808 || feq FloatKind.f64 v1.1 4726483295884279808) then
 let v2:=(k124 (x.1.2,()))
 bif v2 then
 let v3:=(g124 (x.1.2,()))
 some ((flt FloatKind.f64 v3.1 4726483295884279808 || feq FloatKind.f64 v3.1 4726483295884279808),())
 else
 none
 else
 some ((false),())
 else
 none
theorem ev104 (k124:KA A124) (g124:GA A124 R124) (x:Den A104):callK (Γ104 k124 g124) (bodyOf Tryz.f104) (decR R104) (encA A104 x) [] = r104 k124 g124 x:=by kernel_rfl
def F104 (x:Den A104):Option (Den R104):=r104 K124 G124 x
def K104 (x:Den A104):Bool:=(F104 x).isSome
def G104 (x:Den A104):Den R104:=(F104 x).getD (zero R104)
theorem sem104:SemOK Tryz.prog (104,fnMean A104 R104 K104 G104):=fn_opt (env_ok mixed tab_ok eqs_ok (.cons sem124 .nil)) (fnIs Tryz.func104 rfl rfl rfl (by kernel_rfl) (noLoops (by kernel_rfl))) fun x => ev104 K124 G124 x
abbrev A105:Ty:=.cons (.cpx .f64) (.cons (.cpx .f64) (.nil))
abbrev R105:Ty:=.cons (.flt .f64) (.nil)
noncomputable def Γ105:Env:=mkEnv tab eqs [] 16 [.tmp 4] [] [] [] [] []
def r105 (x:Den A105):Option (Den R105):=
 let v0:=(farith BinOp.mul FloatKind.f64 x.1.1 x.2.1.1)
 let v1:=(farith BinOp.mul FloatKind.f64 x.1.2 x.2.1.2)
 let v2:=(farith BinOp.add FloatKind.f64 v0 v1)
 some (v2,())
theorem ev105 (x:Den A105):callK (Γ105) (bodyOf Tryz.f105) (decR R105) (encA A105 x) [] = r105 x:=by kernel_rfl
def F105 (x:Den A105):Option (Den R105):=r105 x
def K105 (x:Den A105):Bool:=(F105 x).isSome
def G105 (x:Den A105):Den R105:=(F105 x).getD (zero R105)
theorem sem105:SemOK Tryz.prog (105,fnMean A105 R105 K105 G105):=fn_opt (env_ok mixed tab_ok eqs_ok .nil) (fnIs Tryz.func105 rfl rfl rfl (by kernel_rfl) (noLoops (by kernel_rfl))) fun x => ev105 x
abbrev A107:Ty:=.nil
abbrev R107:Ty:=.cons (.cpx .f64) (.nil)
noncomputable def Γ107:Env:=mkEnv tab eqs [] 1 [.tmp 0] [] [] [] [] []
def r107 (x:Den A107):Option (Den R107):=
 some (((4607181046959943561),(4580687535080594718)),())
theorem ev107 (x:Den A107):callK (Γ107) (bodyOf Tryz.f107) (decR R107) (encA A107 x) [] = r107 x:=by kernel_rfl
def F107 (x:Den A107):Option (Den R107):=r107 x
def K107 (x:Den A107):Bool:=(F107 x).isSome
def G107 (x:Den A107):Den R107:=(F107 x).getD (zero R107)
theorem sem107:SemOK Tryz.prog (107,fnMean A107 R107 K107 G107):=fn_opt (env_ok mixed tab_ok eqs_ok .nil) (fnIs Tryz.func107 rfl rfl rfl (by kernel_rfl) (noLoops (by kernel_rfl))) fun x => ev107 x
abbrev A106:Ty:=.cons (.cpx .f64) (.cons (.cpx .f64) (.nil))
abbrev R106:Ty:=.cons (.cpx .f64) (.nil)
noncomputable def Γ106:Env:=mkEnv tab eqs [] 32 [.tmp 4] [] [] [] [] []
def r106 (x:Den A106):Option (Den R106):=
 let v0:=(farith BinOp.mul FloatKind.f64 x.1.1 x.2.1.1)
 let v1:=(farith BinOp.mul FloatKind.f64 x.1.2 x.2.1.2)
 let v2:=(farith BinOp.sub FloatKind.f64 v0 v1)
 let v3:=(farith BinOp.mul FloatKind.f64 x.1.1 x.2.1.2)
 let v4:=(farith BinOp.mul FloatKind.f64 x.1.2 x.2.1.1)
 let v5:=(farith BinOp.add FloatKind.f64 v3 v4)
 some ((v2,v5),())
theorem ev106 (x:Den A106):callK (Γ106) (bodyOf Tryz.f106) (decR R106) (encA A106 x) [] = r106 x:=by kernel_rfl
def F106 (x:Den A106):Option (Den R106):=r106 x
def K106 (x:Den A106):Bool:=(F106 x).isSome
def G106 (x:Den A106):Den R106:=(F106 x).getD (zero R106)
theorem sem106:SemOK Tryz.prog (106,fnMean A106 R106 K106 G106):=fn_opt (env_ok mixed tab_ok eqs_ok .nil) (fnIs Tryz.func106 rfl rfl rfl (by kernel_rfl) (noLoops (by kernel_rfl))) fun x => ev106 x
abbrev A72:Ty:=.cons (.cpx .f64) (.nil)
abbrev R72:Ty:=.cons (.int .i64) (.nil)
abbrev V72_7:Type:=(((Nat × Nat) × (Int × ((Nat × Nat) × (Nat × (Int × Unit))))) × Unit)
def sh72_7:ShS:=⟨[(0,.one (.cpx .f64)),(3,.one (.int .i64)),(4,.one (.cpx .f64)),(5,.one (.flt .f64)),(6,.one (.int .i64))],[],0,0⟩
abbrev X72_7:Type:=((Int × Unit) × Unit)
def shX72_7:ShS:=⟨[(3,.one (.int .i64))],[],0,0⟩
noncomputable def Γ72 (k104:KA A104) (g104:GA A104 R104) (k105:KA A105) (g105:GA A105 R105) (k107:KA A107) (g107:GA A107 R107) (k106:KA A106) (g106:GA A106 R106) (kl7:V72_7 -> Bool) (xl7:V72_7 -> X72_7):Env:=mkEnv tab eqs [(104,fnMean A104 R104 k104 g104),(105,fnMean A105 R105 k105 g105),(107,fnMean A107 R107 k107 g107),(106,fnMean A106 R106 k106 g106)] 34 [.tmp 2] [] [] [(7,loopX [0,3,4,5,6] [] 0 [3] [] sh72_7 shX72_7 kl7 xl7)] [] []
noncomputable def lc72_7:Code:=(loopsOf (bodyOf Tryz.f72)).getD 0 .skip
def q72_7 (k104:KA A104) (g104:GA A104 R104) (k105:KA A105) (g105:GA A105 R105) (k107:KA A107) (g107:GA A107 R107) (k106:KA A106) (g106:GA A106 R106) (f:V72_7 -> Option (X72_7)) (v:V72_7):Option (X72_7):=
 bif (decide (v.1.2.2.2.2.1 < 360)) then
 let v0:=(k107 ())
 bif v0 then
 let v1:=(g107 ())
 let v2:=(k106 (v.1.2.2.1,v1))
 bif v2 then
 let v3:=(g106 (v.1.2.2.1,v1))
 let v4:=(k105 (v.1.1,v3))
 bif v4 then
 let v5:=(g105 (v.1.1,v3))
 bif (fgt FloatKind.f64 v5.1 v.1.2.2.2.1) then
 let v6:=(IntKind.wrap IntKind.i64 (v.1.2.2.2.2.1 + 1))
 f ((((v.1.1.1),(v.1.1.2)),((v.1.2.2.2.2.1),((v3.1.1,v3.1.2),(v5.1,(v6,()))))),())
 else
 let v6:=(IntKind.wrap IntKind.i64 (v.1.2.2.2.2.1 + 1))
 f ((((v.1.1.1),(v.1.1.2)),((v.1.2.1),((v3.1.1,v3.1.2),((v.1.2.2.2.1),(v6,()))))),())
 else
 none
 else
 none
 else
 none
 else
 some (((v.1.2.1),()),())
theorem evl72_7 (k104:KA A104) (g104:GA A104 R104) (k105:KA A105) (g105:GA A105 R105) (k107:KA A107) (g107:GA A107 R107) (k106:KA A106) (g106:GA A106 R106) (kl7:V72_7 -> Bool) (xl7:V72_7 -> X72_7) (f:V72_7 -> Option (X72_7)) (v:V72_7):EBk (Γ72 k104 g104 k105 g105 k107 g107 k106 g106 kl7 xl7) lc72_7 (roundK [0,3,4,5,6] [] 0 [3] [] (atS sh72_7 f) (endX shX72_7)) (mkS sh72_7 v) = q72_7 k104 g104 k105 g105 k107 g107 k106 g106 f v:=by kernel_rfl
def b72_7 (v:V72_7):Nat:=v.1.2.1.natAbs + v.1.2.2.2.2.1.natAbs + 1000
def l72_7 (v:V72_7):Option (X72_7):=iter (q72_7 K104 G104 K105 G105 K107 G107 K106 G106) (b72_7 v) v
def kL72_7 (v:V72_7):Bool:=(l72_7 v).isSome
def xL72_7 (v:V72_7):X72_7:=(l72_7 v).getD ((0,()),())
def r72 (k104:KA A104) (g104:GA A104 R104) (k105:KA A105) (g105:GA A105 R105) (k107:KA A107) (g107:GA A107 R107) (k106:KA A106) (g106:GA A106 R106) (kl7:V72_7 -> Bool) (xl7:V72_7 -> X72_7) (x:Den A72):Option (Den R72):=
 let v0:=(k104 x)
 bif v0 then
 let v1:=(g104 x)
 bif (!v1.1) then
 some ((-1),())
 else
 bif (feq FloatKind.f64 x.1.1 0 && feq FloatKind.f64 x.1.2 0) then
 some ((-1),())
 else
 let v2:=(k105 (x.1,(4607182418800017408,0),()))
 bif v2 then
 let v3:=(g105 (x.1,(4607182418800017408,0),()))
 let v4:=(kl7 ((x.1,0,(4607182418800017408,0),v3.1,1,()),()))
 bif v4 then
 let v5:=(xl7 ((x.1,0,(4607182418800017408,0),v3.1,1,()),()))
 some (v5.1.1,())
 else
 none
 else
 none
 else
 none
theorem ev72 (k104:KA A104) (g104:GA A104 R104) (k105:KA A105) (g105:GA A105 R105) (k107:KA A107) (g107:GA A107 R107) (k106:KA A106) (g106:GA A106 R106) (kl7:V72_7 -> Bool) (xl7:V72_7 -> X72_7) (x:Den A72):callK (Γ72 k104 g104 k105 g105 k107 g107 k106 g106 kl7 xl7) (bodyOf Tryz.f72) (decR R72) (encA A72 x) [] = r72 k104 g104 k105 g105 k107 g107 k106 g106 kl7 xl7 x:=by kernel_rfl
def F72 (x:Den A72):Option (Den R72):=r72 K104 G104 K105 G105 K107 G107 K106 G106 kL72_7 xL72_7 x
def K72 (x:Den A72):Bool:=(F72 x).isSome
def G72 (x:Den A72):Den R72:=(F72 x).getD (zero R72)
theorem sem72:SemOK Tryz.prog (72,fnMean A72 R72 K72 G72):=fn_opt (env_ok mixed tab_ok eqs_ok (.cons sem104 (.cons sem105 (.cons sem107 (.cons sem106 .nil))))) (fnIs Tryz.func72 rfl rfl rfl (by kernel_rfl) (loops_ok (l:=[lc72_7]) (by kernel_rfl) (.cons (one_loop rfl (loopX_sound (sh:=sh72_7) (shX:=shX72_7) (fun f v => evl72_7 K104 G104 K105 G105 K107 G107 K106 G106 kL72_7 xL72_7 f v) b72_7 ((0,()),()))) (.nil)))) fun x => ev72 K104 G104 K105 G105 K107 G107 K106 G106 kL72_7 xL72_7 x
abbrev A71:Ty:=.cons (.cpx .f32) (.nil)
abbrev R71:Ty:=.cons (.int .i64) (.nil)
noncomputable def Γ71 (k34:KA A34) (g34:GA A34 R34) (k103:KA A103) (g103:GA A103 R103) (k72:KA A72) (g72:GA A72 R72):Env:=mkEnv tab eqs [(34,fnMean A34 R34 k34 g34),(103,fnMean A103 R103 k103 g103),(72,fnMean A72 R72 k72 g72)] 19 [.tmp 2] [] [] [] [] []
def r71 (k34:KA A34) (g34:GA A34 R34) (k103:KA A103) (g103:GA A103 R103) (k72:KA A72) (g72:GA A72 R72) (x:Den A71):Option (Den R71):=
 let v0:=(k34 x)
 bif v0 then
 let v1:=(g34 x)
 bif (!v1.1) then
 some ((-1),())
 else
 bif (feq FloatKind.f32 x.1.1 0 && feq FloatKind.f32 x.1.2 0) then
 some ((-1),())
 else
 let v2:=(fneg FloatKind.f32 x.1.1)
 let v3:=(fneg FloatKind.f32 x.1.2)
 let v4:=(k103 ((v2,v3),()))
 bif v4 then
 let v5:=(g103 ((v2,v3),()))
 let v6:=(k72 v5)
 bif v6 then
 let v7:=(g72 v5)
 some (v7.1,())
 else
 none
 else
 none
 else
 none
theorem ev71 (k34:KA A34) (g34:GA A34 R34) (k103:KA A103) (g103:GA A103 R103) (k72:KA A72) (g72:GA A72 R72) (x:Den A71):callK (Γ71 k34 g34 k103 g103 k72 g72) (bodyOf Tryz.f71) (decR R71) (encA A71 x) [] = r71 k34 g34 k103 g103 k72 g72 x:=by kernel_rfl
def F71 (x:Den A71):Option (Den R71):=r71 K34 G34 K103 G103 K72 G72 x
def K71 (x:Den A71):Bool:=(F71 x).isSome
def G71 (x:Den A71):Den R71:=(F71 x).getD (zero R71)
theorem sem71:SemOK Tryz.prog (71,fnMean A71 R71 K71 G71):=fn_opt (env_ok mixed tab_ok eqs_ok (.cons sem34 (.cons sem103 (.cons sem72 .nil)))) (fnIs Tryz.func71 rfl rfl rfl (by kernel_rfl) (noLoops (by kernel_rfl))) fun x => ev71 K34 G34 K103 G103 K72 G72 x
abbrev A113:Ty:=.cons (.flt .f64) (.nil)
abbrev R113:Ty:=.cons (.flt .f64) (.nil)
abbrev V113_7:Type:=((Nat × (Nat × (Int × Unit))) × Unit)
def sh113_7:ShS:=⟨[(0,.one (.flt .f64)),(3,.one (.flt .f64)),(4,.one (.int .i64))],[],0,0⟩
abbrev X113_7:Type:=((Nat × Unit) × Unit)
def shX113_7:ShS:=⟨[(3,.one (.flt .f64))],[],0,0⟩
noncomputable def Γ113 (kl7:V113_7 -> Bool) (xl7:V113_7 -> X113_7):Env:=mkEnv tab eqs [] 26 [.tmp 2] [] [] [(7,loopX [0,3,4] [] 0 [3] [] sh113_7 shX113_7 kl7 xl7)] [] []
noncomputable def lc113_7:Code:=(loopsOf (bodyOf Tryz.f113)).getD 0 .skip
def q113_7 (f:V113_7 -> Option (X113_7)) (v:V113_7):Option (X113_7):=
 bif (decide (v.1.2.2.1 < 60)) then
 let v0:=(farith BinOp.quo FloatKind.f64 v.1.1 v.1.2.1)
 let v1:=(farith BinOp.add FloatKind.f64 v.1.2.1 v0)
 let v2:=(farith BinOp.quo FloatKind.f64 v1 4611686018427387904)
 let v3:=(IntKind.wrap IntKind.i64 (v.1.2.2.1 + 1))
 f (((v.1.1),(v2,(v3,()))),())
 else
 some (((v.1.2.1),()),())
theorem evl113_7 (kl7:V113_7 -> Bool) (xl7:V113_7 -> X113_7) (f:V113_7 -> Option (X113_7)) (v:V113_7):EBk (Γ113 kl7 xl7) lc113_7 (roundK [0,3,4] [] 0 [3] [] (atS sh113_7 f) (endX shX113_7)) (mkS sh113_7 v) = q113_7 f v:=by kernel_rfl
def b113_7 (v:V113_7):Nat:=v.1.2.2.1.natAbs + 1000
def l113_7 (v:V113_7):Option (X113_7):=iter (q113_7) (b113_7 v) v
def kL113_7 (v:V113_7):Bool:=(l113_7 v).isSome
def xL113_7 (v:V113_7):X113_7:=(l113_7 v).getD ((0,()),())
def r113 (kl7:V113_7 -> Bool) (xl7:V113_7 -> X113_7) (x:Den A113):Option (Den R113):=
 bif (fgt FloatKind.f64 x.1 4427486594234968593 || feq FloatKind.f64 x.1 4427486594234968593) then
 bif (!(flt FloatKind.f64 x.1 4861130398305394688 || feq FloatKind.f64 x.1 4861130398305394688)) then
 some ((0),())
 else
 bif (flt FloatKind.f64 x.1 4607182418800017408) then
 let v0:=(kl7 ((x.1,4607182418800017408,0,()),()))
 bif v0 then
 let v1:=(xl7 ((x.1,4607182418800017408,0,()),()))
 some (v1.1.1,())
 else
 none
 else
 let v0:=(kl7 ((x.1,x.1,0,()),()))
 bif v0 then
 let v1:=(xl7 ((x.1,x.1,0,()),()))
 some (v1.1.1,())
 else
 none
 else
 some ((0),())
theorem ev113 (kl7:V113_7 -> Bool) (xl7:V113_7 -> X113_7) (x:Den A113):callK (Γ113 kl7 xl7) (bodyOf Tryz.f113) (decR R113) (encA A113 x) [] = r113 kl7 xl7 x:=by kernel_rfl
def F113 (x:Den A113):Option (Den R113):=r113 kL113_7 xL113_7 x
def K113 (x:Den A113):Bool:=(F113 x).isSome
def G113 (x:Den A113):Den R113:=(F113 x).getD (zero R113)
theorem sem113:SemOK Tryz.prog (113,fnMean A113 R113 K113 G113):=fn_opt (env_ok mixed tab_ok eqs_ok .nil) (fnIs Tryz.func113 rfl rfl rfl (by kernel_rfl) (loops_ok (l:=[lc113_7]) (by kernel_rfl) (.cons (one_loop rfl (loopX_sound (sh:=sh113_7) (shX:=shX113_7) (fun f v => evl113_7 kL113_7 xL113_7 f v) b113_7 ((0,()),()))) (.nil)))) fun x => ev113 kL113_7 xL113_7 x
abbrev A80:Ty:=.cons (.cpx .f64) (.nil)
abbrev R80:Ty:=.cons (.flt .f64) (.nil)
noncomputable def Γ80 (k104:KA A104) (g104:GA A104 R104) (k105:KA A105) (g105:GA A105 R105) (k113:KA A113) (g113:GA A113 R113):Env:=mkEnv tab eqs [(104,fnMean A104 R104 k104 g104),(105,fnMean A105 R105 k105 g105),(113,fnMean A113 R113 k113 g113)] 10 [.tmp 2] [] [] [] [] []
def r80 (k104:KA A104) (g104:GA A104 R104) (k105:KA A105) (g105:GA A105 R105) (k113:KA A113) (g113:GA A113 R113) (x:Den A80):Option (Den R80):=
 let v0:=(k104 x)
 bif v0 then
 let v1:=(g104 x)
 bif (!v1.1) then
 some ((0),())
 else
 let v2:=(k105 (x.1,x))
 bif v2 then
 let v3:=(g105 (x.1,x))
 let v4:=(k113 v3)
 bif v4 then
 let v5:=(g113 v3)
 some (v5.1,())
 else
 none
 else
 none
 else
 none
theorem ev80 (k104:KA A104) (g104:GA A104 R104) (k105:KA A105) (g105:GA A105 R105) (k113:KA A113) (g113:GA A113 R113) (x:Den A80):callK (Γ80 k104 g104 k105 g105 k113 g113) (bodyOf Tryz.f80) (decR R80) (encA A80 x) [] = r80 k104 g104 k105 g105 k113 g113 x:=by kernel_rfl
def F80 (x:Den A80):Option (Den R80):=r80 K104 G104 K105 G105 K113 G113 x
def K80 (x:Den A80):Bool:=(F80 x).isSome
def G80 (x:Den A80):Den R80:=(F80 x).getD (zero R80)
theorem sem80:SemOK Tryz.prog (80,fnMean A80 R80 K80 G80):=fn_opt (env_ok mixed tab_ok eqs_ok (.cons sem104 (.cons sem105 (.cons sem113 .nil)))) (fnIs Tryz.func80 rfl rfl rfl (by kernel_rfl) (noLoops (by kernel_rfl))) fun x => ev80 K104 G104 K105 G105 K113 G113 x
abbrev A73:Ty:=.cons (.cpx .f32) (.nil)
abbrev R73:Ty:=.cons (.flt .f32) (.nil)
noncomputable def Γ73 (k34:KA A34) (g34:GA A34 R34) (k103:KA A103) (g103:GA A103 R103) (k80:KA A80) (g80:GA A80 R80):Env:=mkEnv tab eqs [(34,fnMean A34 R34 k34 g34),(103,fnMean A103 R103 k103 g103),(80,fnMean A80 R80 k80 g80)] 10 [.tmp 2] [] [] [] [] []
def r73 (k34:KA A34) (g34:GA A34 R34) (k103:KA A103) (g103:GA A103 R103) (k80:KA A80) (g80:GA A80 R80) (x:Den A73):Option (Den R73):=
 let v0:=(k34 x)
 bif v0 then
 let v1:=(g34 x)
 bif (!v1.1) then
 some ((0),())
 else
 let v2:=(k103 x)
 bif v2 then
 let v3:=(g103 x)
 let v4:=(k80 v3)
 bif v4 then
 let v5:=(g80 v3)
 bif ((convF FloatKind.f64 FloatKind.f32 v5.1).1) then
 some (((convF FloatKind.f64 FloatKind.f32 v5.1).2),())
 else
 none
 else
 none
 else
 none
 else
 none
theorem ev73 (k34:KA A34) (g34:GA A34 R34) (k103:KA A103) (g103:GA A103 R103) (k80:KA A80) (g80:GA A80 R80) (x:Den A73):callK (Γ73 k34 g34 k103 g103 k80 g80) (bodyOf Tryz.f73) (decR R73) (encA A73 x) [] = r73 k34 g34 k103 g103 k80 g80 x:=by kernel_rfl
def F73 (x:Den A73):Option (Den R73):=r73 K34 G34 K103 G103 K80 G80 x
def K73 (x:Den A73):Bool:=(F73 x).isSome
def G73 (x:Den A73):Den R73:=(F73 x).getD (zero R73)
theorem sem73:SemOK Tryz.prog (73,fnMean A73 R73 K73 G73):=fn_opt (env_ok mixed tab_ok eqs_ok (.cons sem34 (.cons sem103 (.cons sem80 .nil)))) (fnIs Tryz.func73 rfl rfl rfl (by kernel_rfl) (noLoops (by kernel_rfl))) fun x => ev73 K34 G34 K103 G103 K80 G80 x
abbrev A110:Ty:=.cons (.flt .f32) (.cons (.flt .f32) (.cons (.flt .f32) (.nil)))
abbrev R110:Ty:=.cons (.flt .f32) (.nil)
noncomputable def Γ110:Env:=mkEnv tab eqs [] 16 [.tmp 6] [] [] [] [] []
def r110 (x:Den A110):Option (Den R110):=
 let v0:=(farith BinOp.sub FloatKind.f32 x.2.1 x.1)
 let v1:=(farith BinOp.mul FloatKind.f32 v0 x.2.2.1)
 let v2:=(farith BinOp.add FloatKind.f32 x.1 v1)
 some (v2,())
theorem ev110 (x:Den A110):callK (Γ110) (bodyOf Tryz.f110) (decR R110) (encA A110 x) [] = r110 x:=by kernel_rfl
def F110 (x:Den A110):Option (Den R110):=r110 x
def K110 (x:Den A110):Bool:=(F110 x).isSome
def G110 (x:Den A110):Den R110:=(F110 x).getD (zero R110)
theorem sem110:SemOK Tryz.prog (110,fnMean A110 R110 K110 G110):=fn_opt (env_ok mixed tab_ok eqs_ok .nil) (fnIs Tryz.func110 rfl rfl rfl (by kernel_rfl) (noLoops (by kernel_rfl))) fun x => ev110 x
abbrev A109:Ty:=.cons (.slice (.int .i64)) (.cons (.slice (.flt .f32)) (.cons (.int .i64) (.nil)))
abbrev R109:Ty:=.cons (.flt .f32) (.nil)
abbrev V109_2:Type:=(((List (Den (.int .i64))) × ((List (Den (.flt .f32))) × (Int × (Int × Unit)))) × Unit)
def sh109_2:ShS:=⟨[(0,.one (.sl (.int .i64))),(1,.one (.sl (.flt .f32))),(2,.one (.int .i64)),(7,.one (.int .i64))],[],0,0⟩
abbrev X109_2:Type:=(((List (Den (.int .i64))) × ((List (Den (.flt .f32))) × (Int × (Int × Unit)))) × Unit)
def shX109_2:ShS:=⟨[(0,.one (.sl (.int .i64))),(1,.one (.sl (.flt .f32))),(2,.one (.int .i64)),(7,.one (.int .i64))],[],0,0⟩
noncomputable def Γ109 (k110:KA A110) (g110:GA A110 R110) (kl2:V109_2 -> Bool) (xl2:V109_2 -> X109_2):Env:=mkEnv tab eqs [(110,fnMean A110 R110 k110 g110)] 58 [.tmp 6] [] [] [(2,loopX [0,1,2,7] [] 0 [0,1,2,7] [] sh109_2 shX109_2 kl2 xl2)] [] []
noncomputable def lc109_2:Code:=(loopsOf (bodyOf Tryz.f109)).getD 0 .skip
def q109_2 (k110:KA A110) (g110:GA A110 R110) (f:V109_2 -> Option (X109_2)) (v:V109_2):Option (X109_2):=
 bif (decide (0 <= v.1.2.2.2.1) && decide (v.1.2.2.2.1 < (↑(List.length v.1.1):Int))) then
 let v0:=(List.getD v.1.1 (Int.toNat v.1.2.2.2.1) (zero (Ty.int IntKind.i64)))
 bif (decide (v0 < v.1.2.2.1)) then
 let v1:=(IntKind.wrap IntKind.i64 (v.1.2.2.2.1 + 1))
 f (((v.1.1),((v.1.2.1),((v.1.2.2.1),(v1,())))),())
 else
 some (((v.1.1),((v.1.2.1),((v.1.2.2.1),((v.1.2.2.2.1),())))),())
 else
 none
theorem evl109_2 (k110:KA A110) (g110:GA A110 R110) (kl2:V109_2 -> Bool) (xl2:V109_2 -> X109_2) (f:V109_2 -> Option (X109_2)) (v:V109_2):EBk (Γ109 k110 g110 kl2 xl2) lc109_2 (roundK [0,1,2,7] [] 0 [0,1,2,7] [] (atS sh109_2 f) (endX shX109_2)) (mkS sh109_2 v) = q109_2 k110 g110 f v:=by kernel_rfl
def b109_2 (v:V109_2):Nat:=v.1.1.length + v.1.2.1.length + v.1.2.2.1.natAbs + v.1.2.2.2.1.natAbs + 1000
def l109_2 (v:V109_2):Option (X109_2):=iter (q109_2 K110 G110) (b109_2 v) v
def kL109_2 (v:V109_2):Bool:=(l109_2 v).isSome
def xL109_2 (v:V109_2):X109_2:=(l109_2 v).getD (([],([],(0,(0,())))),())
def r109 (k110:KA A110) (g110:GA A110 R110) (kl2:V109_2 -> Bool) (xl2:V109_2 -> X109_2) (x:Den A109):Option (Den R109):=
 let v0:=(kl2 ((x.1,x.2.1,x.2.2.1,0,()),()))
 bif v0 then
 let v1:=(xl2 ((x.1,x.2.1,x.2.2.1,0,()),()))
 bif (decide (0 <= v1.1.2.2.2.1) && decide (v1.1.2.2.2.1 < (↑(List.length v1.1.1):Int))) then
 let v2:=(List.getD v1.1.1 (Int.toNat v1.1.2.2.2.1) (zero (Ty.int IntKind.i64)))
 bif (v2 == v1.1.2.2.1) then
 bif (decide (0 <= v1.1.2.2.2.1) && decide (v1.1.2.2.2.1 < (↑(List.length v1.1.2.1):Int))) then
 let v3:=(List.getD v1.1.2.1 (Int.toNat v1.1.2.2.2.1) (zero (Ty.flt FloatKind.f32)))
 some (v3,())
 else
 none
 else
 let v3:=(IntKind.wrap IntKind.i64 (v1.1.2.2.2.1 - 1))
 bif (decide (0 <= v3) && decide (v3 < (↑(List.length v1.1.1):Int))) then
 bif (decide (0 <= v1.1.2.2.2.1) && decide (v1.1.2.2.2.1 < (↑(List.length v1.1.1):Int))) then
 bif (decide (0 <= v3) && decide (v3 < (↑(List.length v1.1.1):Int))) then
 bif (decide (0 <= v3) && decide (v3 < (↑(List.length v1.1.2.1):Int))) then
 bif (decide (0 <= v1.1.2.2.2.1) && decide (v1.1.2.2.2.1 < (↑(List.length v1.1.2.1):Int))) then
 let v4:=(List.getD v1.1.2.1 (Int.toNat v3) (zero (Ty.flt FloatKind.f32)))
 let v5:=(List.getD v1.1.2.1 (Int.toNat v1.1.2.2.2.1) (zero (Ty.flt FloatKind.f32)))
 let v6:=(List.getD v1.1.1 (Int.toNat v3) (zero (Ty.int IntKind.i64)))
 let v7:=(IntKind.wrap IntKind.i64 (v1.1.2.2.1 - v6))
 let v8:=(IntKind.wrap IntKind.i64 (v2 - v6))
 let v9:=(farith BinOp.quo FloatKind.f32 (FloatKind.nearest FloatKind.f32 v7) (FloatKind.nearest FloatKind.f32 v8))
 let v10:=(k110 (v4,v5,v9,()))
 bif v10 then
 let v11:=(g110 (v4,v5,v9,()))
 some (v11.1,())
 else
 none
 else
 none
 else
 none
 else
 none
 else
 none
 else
 none
 else
 none
 else
 none
theorem ev109 (k110:KA A110) (g110:GA A110 R110) (kl2:V109_2 -> Bool) (xl2:V109_2 -> X109_2) (x:Den A109):callK (Γ109 k110 g110 kl2 xl2) (bodyOf Tryz.f109) (decR R109) (encA A109 x) [] = r109 k110 g110 kl2 xl2 x:=by kernel_rfl
def F109 (x:Den A109):Option (Den R109):=r109 K110 G110 kL109_2 xL109_2 x
def K109 (x:Den A109):Bool:=(F109 x).isSome
def G109 (x:Den A109):Den R109:=(F109 x).getD (zero R109)
theorem sem109:SemOK Tryz.prog (109,fnMean A109 R109 K109 G109):=fn_opt (env_ok mixed tab_ok eqs_ok (.cons sem110 .nil)) (fnIs Tryz.func109 rfl rfl rfl (by kernel_rfl) (loops_ok (l:=[lc109_2]) (by kernel_rfl) (.cons (one_loop rfl (loopX_sound (sh:=sh109_2) (shX:=shX109_2) (fun f v => evl109_2 K110 G110 kL109_2 xL109_2 f v) b109_2 (([],([],(0,(0,())))),()))) (.nil)))) fun x => ev109 K110 G110 kL109_2 xL109_2 x
abbrev A77:Ty:=.cons (S30) (.cons (.flt .f32) (.cons (.int .i64) (.nil)))
abbrev R77:Ty:=.cons (.flt .f32) (.cons (.bool) (.nil))
abbrev V77_10:Type:=((Nat × (Int × (Unit × (Int × Unit)))) × (((List (Den (.flt .f32))) × ((List (Den (.int .i64))) × ((List (Den (.slice (.flt .f32)))) × Unit))) × Unit))
def sh77_10:ShS:=⟨[(1,.one (.flt .f32)),(2,.one (.int .i64)),(3,.one (.ptr 0 0)),(10,.one (.int .i64))],[(0,.box [.sl (.flt .f32),.sl (.int .i64),.sl (.slice (.flt .f32))])],1,0⟩
abbrev X77_10:Type:=((Nat × (Int × (Unit × (Int × Unit)))) × (((List (Den (.flt .f32))) × ((List (Den (.int .i64))) × ((List (Den (.slice (.flt .f32)))) × Unit))) × Unit))
def shX77_10:ShS:=⟨[(1,.one (.flt .f32)),(2,.one (.int .i64)),(3,.one (.ptr 0 0)),(10,.one (.int .i64))],[(0,.box [.sl (.flt .f32),.sl (.int .i64),.sl (.slice (.flt .f32))])],1,0⟩
noncomputable def Γ77 (k17:KA A17) (g17:GA A17 R17) (k18:KA A18) (g18:GA A18 R18) (k109:KA A109) (g109:GA A109 R109) (k110:KA A110) (g110:GA A110 R110) (kl10:V77_10 -> Bool) (xl10:V77_10 -> X77_10):Env:=mkEnv tab eqs [(17,fnMean A17 R17 k17 g17),(18,fnMean A18 R18 k18 g18),(109,fnMean A109 R109 k109 g109),(110,fnMean A110 R110 k110 g110)] 123 [.tmp 6,.tmp 7] [] [] [(10,loopX [1,2,3,10] [] 0 [1,2,3,10] [] sh77_10 shX77_10 kl10 xl10)] [] []
noncomputable def lc77_10:Code:=(loopsOf (bodyOf Tryz.f77)).getD 0 .skip
def q77_10 (k17:KA A17) (g17:GA A17 R17) (k18:KA A18) (g18:GA A18 R18) (k109:KA A109) (g109:GA A109 R109) (k110:KA A110) (g110:GA A110 R110) (f:V77_10 -> Option (X77_10)) (v:V77_10):Option (X77_10):=
 let v0:=(IntKind.wrap IntKind.i64 (v.1.2.2.2.1 + 1))
 bif (decide (0 <= v0) && decide (v0 < (↑(List.length v.2.1.1):Int))) then
 let v1:=(List.getD v.2.1.1 (Int.toNat v0) (zero (Ty.flt FloatKind.f32)))
 bif (flt FloatKind.f32 v1 v.1.1 || feq FloatKind.f32 v1 v.1.1) then
 f (((v.1.1),((v.1.2.1),((),(v0,())))),(((v.2.1.1),((v.2.1.2.1),((v.2.1.2.2.1),()))),()))
 else
 some (((v.1.1),((v.1.2.1),((),((v.1.2.2.2.1),())))),(((v.2.1.1),((v.2.1.2.1),((v.2.1.2.2.1),()))),()))
 else
 none
theorem evl77_10 (k17:KA A17) (g17:GA A17 R17) (k18:KA A18) (g18:GA A18 R18) (k109:KA A109) (g109:GA A109 R109) (k110:KA A110) (g110:GA A110 R110) (kl10:V77_10 -> Bool) (xl10:V77_10 -> X77_10) (f:V77_10 -> Option (X77_10)) (v:V77_10):EBk (Γ77 k17 g17 k18 g18 k109 g109 k110 g110 kl10 xl10) lc77_10 (roundK [1,2,3,10] [] 0 [1,2,3,10] [] (atS sh77_10 f) (endX shX77_10)) (mkS sh77_10 v) = q77_10 k17 g17 k18 g18 k109 g109 k110 g110 f v:=by kernel_rfl
def b77_10 (v:V77_10):Nat:=v.1.2.1.natAbs + v.1.2.2.2.1.natAbs + v.2.1.1.length + v.2.1.2.1.length + v.2.1.2.2.1.length + 1000
def l77_10 (v:V77_10):Option (X77_10):=iter (q77_10 K17 G17 K18 G18 K109 G109 K110 G110) (b77_10 v) v
def kL77_10 (v:V77_10):Bool:=(l77_10 v).isSome
def xL77_10 (v:V77_10):X77_10:=(l77_10 v).getD ((0,(0,((),(0,())))),(([],([],([],()))),()))
def r77 (k17:KA A17) (g17:GA A17 R17) (k18:KA A18) (g18:GA A18 R18) (k109:KA A109) (g109:GA A109 R109) (k110:KA A110) (g110:GA A110 R110) (kl10:V77_10 -> Bool) (xl10:V77_10 -> X77_10) (x:Den A77):Option (Den R77):=
 let v0:=(k17 (x.1,()))
 bif v0 then
 let v1:=(g17 (x.1,()))
 bif (!v1.1) then
 some ((0),((false),()))
 else
 bif (fgt FloatKind.f32 x.2.1 0 || feq FloatKind.f32 x.2.1 0) then
 bif (!(flt FloatKind.f32 x.2.1 1120403456 || feq FloatKind.f32 x.2.1 1120403456)) then
 some ((0),((false),()))
 else
 let v2:=(k18 (x.2.2.1,0,180,()))
 bif v2 then
 let v3:=(g18 (x.2.2.1,0,180,()))
 bif (!v3.1) then
 some ((0),((false),()))
 else
 bif (decide (0 <= 0) && decide (0 < (↑(List.length x.1.1):Int))) then
 let v4:=(List.getD x.1.1 (Int.toNat 0) (zero (Ty.flt FloatKind.f32)))
 bif (flt FloatKind.f32 x.2.1 v4 || feq FloatKind.f32 x.2.1 v4) then
 bif (decide (0 <= 0) && decide (0 < (↑(List.length x.1.1):Int))) then
 bif (decide (0 <= 0) && decide (0 < (↑(List.length x.1.2.2.1):Int))) then
 let v5:=(List.getD x.1.2.2.1 (Int.toNat 0) (zero (Ty.slice (Ty.flt FloatKind.f32))))
 let v6:=(k109 (x.1.2.1,v5,x.2.2))
 bif v6 then
 let v7:=(farith BinOp.quo FloatKind.f32 x.2.1 v4)
 let v8:=(g109 (x.1.2.1,v5,x.2.2))
 let v9:=(farith BinOp.mul FloatKind.f32 v7 v8.1)
 some (v9,((true),()))
 else
 none
 else
 none
 else
 none
 else
 let v5:=(IntKind.wrap IntKind.i64 ((↑(List.length x.1.1):Int) - 1))
 bif (decide (0 <= v5) && decide (v5 < (↑(List.length x.1.1):Int))) then
 let v6:=(List.getD x.1.1 (Int.toNat v5) (zero (Ty.flt FloatKind.f32)))
 bif (fgt FloatKind.f32 x.2.1 v6 || feq FloatKind.f32 x.2.1 v6) then
 bif (decide (0 <= v5) && decide (v5 < (↑(List.length x.1.2.2.1):Int))) then
 let v7:=(List.getD x.1.2.2.1 (Int.toNat v5) (zero (Ty.slice (Ty.flt FloatKind.f32))))
 let v8:=(k109 (x.1.2.1,v7,x.2.2))
 bif v8 then
 let v9:=(g109 (x.1.2.1,v7,x.2.2))
 some (v9.1,((true),()))
 else
 none
 else
 none
 else
 let v7:=(kl10 ((x.2.1,x.2.2.1,(),0,()),x.1,()))
 bif v7 then
 let v8:=(xl10 ((x.2.1,x.2.2.1,(),0,()),x.1,()))
 bif (decide (0 <= v8.1.2.2.2.1) && decide (v8.1.2.2.2.1 < (↑(List.length v8.2.1.1):Int))) then
 let v9:=(IntKind.wrap IntKind.i64 (v8.1.2.2.2.1 + 1))
 bif (decide (0 <= v9) && decide (v9 < (↑(List.length v8.2.1.1):Int))) then
 bif (decide (0 <= v8.1.2.2.2.1) && decide (v8.1.2.2.2.1 < (↑(List.length v8.2.1.1):Int))) then
 bif (decide (0 <= v8.1.2.2.2.1) && decide (v8.1.2.2.2.1 < (↑(List.length v8.2.1.2.2.1):Int))) then
 let v10:=(List.getD v8.2.1.2.2.1 (Int.toNat v8.1.2.2.2.1) (zero (Ty.slice (Ty.flt FloatKind.f32))))
 let v11:=(k109 (v8.2.1.2.1,v10,v8.1.2.1,()))
 bif v11 then
 bif (decide (0 <= v9) && decide (v9 < (↑(List.length v8.2.1.2.2.1):Int))) then
 let v12:=(List.getD v8.2.1.2.2.1 (Int.toNat v9) (zero (Ty.slice (Ty.flt FloatKind.f32))))
 let v13:=(k109 (v8.2.1.2.1,v12,v8.1.2.1,()))
 bif v13 then
 let v14:=(g109 (v8.2.1.2.1,v10,v8.1.2.1,()))
 let v15:=(g109 (v8.2.1.2.1,v12,v8.1.2.1,()))
 let v16:=(List.getD v8.2.1.1 (Int.toNat v8.1.2.2.2.1) (zero (Ty.flt FloatKind.f32)))
 let v17:=(farith BinOp.sub FloatKind.f32 v8.1.1 v16)
 let v18:=(List.getD v8.2.1.1 (Int.toNat v9) (zero (Ty.flt FloatKind.f32)))
 let v19:=(farith BinOp.sub FloatKind.f32 v18 v16)
 let v20:=(farith BinOp.quo FloatKind.f32 v17 v19)
 let v21:=(k110 (v14.1,v15.1,v20,()))
 bif v21 then
 let v22:=(g110 (v14.1,v15.1,v20,()))
 some (v22.1,((true),()))
 else
 none
 else
 none
 else
 none
 else
 none
 else
 none
 else
 none
 else
 none
 else
 none
 else
 none
 else
 none
 else
 none
 else
 none
 else
 some ((0),((false),()))
 else
 none
theorem ev77 (k17:KA A17) (g17:GA A17 R17) (k18:KA A18) (g18:GA A18 R18) (k109:KA A109) (g109:GA A109 R109) (k110:KA A110) (g110:GA A110 R110) (kl10:V77_10 -> Bool) (xl10:V77_10 -> X77_10) (x:Den A77):callK (Γ77 k17 g17 k18 g18 k109 g109 k110 g110 kl10 xl10) (bodyOf Tryz.f77) (decR R77) (encA A77 x) [] = r77 k17 g17 k18 g18 k109 g109 k110 g110 kl10 xl10 x:=by kernel_rfl
def F77 (x:Den A77):Option (Den R77):=r77 K17 G17 K18 G18 K109 G109 K110 G110 kL77_10 xL77_10 x
def K77 (x:Den A77):Bool:=(F77 x).isSome
def G77 (x:Den A77):Den R77:=(F77 x).getD (zero R77)
theorem sem77:SemOK Tryz.prog (77,fnMean A77 R77 K77 G77):=fn_opt (env_ok mixed tab_ok eqs_ok (.cons sem17 (.cons sem18 (.cons sem109 (.cons sem110 .nil))))) (fnIs Tryz.func77 rfl rfl rfl (by kernel_rfl) (loops_ok (l:=[lc77_10]) (by kernel_rfl) (.cons (one_loop rfl (loopX_sound (sh:=sh77_10) (shX:=shX77_10) (fun f v => evl77_10 K17 G17 K18 G18 K109 G109 K110 G110 kL77_10 xL77_10 f v) b77_10 ((0,(0,((),(0,())))),(([],([],([],()))),())))) (.nil)))) fun x => ev77 K17 G17 K18 G18 K109 G109 K110 G110 kL77_10 xL77_10 x
abbrev A111:Ty:=.cons (.int .i64) (.nil)
abbrev R111:Ty:=.cons (.int .i64) (.nil)
noncomputable def Γ111:Env:=mkEnv tab eqs [] 7 [.tmp 2] [] [] [] [] []
def r111 (x:Den A111):Option (Den R111):=
 let v0:=(IntKind.wrap IntKind.i64 (Int.tmod x.1 360 + 360))
 some ((Int.tmod v0 360),())
theorem ev111 (x:Den A111):callK (Γ111) (bodyOf Tryz.f111) (decR R111) (encA A111 x) [] = r111 x:=by kernel_rfl
def F111 (x:Den A111):Option (Den R111):=r111 x
def K111 (x:Den A111):Bool:=(F111 x).isSome
def G111 (x:Den A111):Den R111:=(F111 x).getD (zero R111)
theorem sem111:SemOK Tryz.prog (111,fnMean A111 R111 K111 G111):=fn_opt (env_ok mixed tab_ok eqs_ok .nil) (fnIs Tryz.func111 rfl rfl rfl (by kernel_rfl) (noLoops (by kernel_rfl))) fun x => ev111 x
abbrev A125:Ty:=.cons (.int .i64) (.nil)
abbrev R125:Ty:=.cons (.cpx .f64) (.nil)
abbrev V125_3:Type:=(((Nat × Nat) × (Int × Unit)) × Unit)
def sh125_3:ShS:=⟨[(3,.one (.cpx .f64)),(4,.one (.int .i64))],[],0,0⟩
abbrev X125_3:Type:=(((Nat × Nat) × Unit) × Unit)
def shX125_3:ShS:=⟨[(3,.one (.cpx .f64))],[],0,0⟩
noncomputable def Γ125 (k111:KA A111) (g111:GA A111 R111) (k107:KA A107) (g107:GA A107 R107) (k106:KA A106) (g106:GA A106 R106) (kl3:V125_3 -> Bool) (xl3:V125_3 -> X125_3):Env:=mkEnv tab eqs [(111,fnMean A111 R111 k111 g111),(107,fnMean A107 R107 k107 g107),(106,fnMean A106 R106 k106 g106)] 15 [.tmp 2] [] [] [(3,loopX [3,4] [] 0 [3] [] sh125_3 shX125_3 kl3 xl3)] [] []
noncomputable def lc125_3:Code:=(loopsOf (bodyOf Tryz.f125)).getD 0 .skip
def q125_3 (k111:KA A111) (g111:GA A111 R111) (k107:KA A107) (g107:GA A107 R107) (k106:KA A106) (g106:GA A106 R106) (f:V125_3 -> Option (X125_3)) (v:V125_3):Option (X125_3):=
 bif (decide (v.1.2.1 > 0)) then
 let v0:=(k107 ())
 bif v0 then
 let v1:=(g107 ())
 let v2:=(k106 (v.1.1,v1))
 bif v2 then
 let v3:=(g106 (v.1.1,v1))
 let v4:=(IntKind.wrap IntKind.i64 (v.1.2.1 - 1))
 f (((v3.1.1,v3.1.2),(v4,())),())
 else
 none
 else
 none
 else
 some ((((v.1.1.1),(v.1.1.2)),()),())
theorem evl125_3 (k111:KA A111) (g111:GA A111 R111) (k107:KA A107) (g107:GA A107 R107) (k106:KA A106) (g106:GA A106 R106) (kl3:V125_3 -> Bool) (xl3:V125_3 -> X125_3) (f:V125_3 -> Option (X125_3)) (v:V125_3):EBk (Γ125 k111 g111 k107 g107 k106 g106 kl3 xl3) lc125_3 (roundK [3,4] [] 0 [3] [] (atS sh125_3 f) (endX shX125_3)) (mkS sh125_3 v) = q125_3 k111 g111 k107 g107 k106 g106 f v:=by kernel_rfl
def b125_3 (v:V125_3):Nat:=v.1.2.1.natAbs + 1000
def l125_3 (v:V125_3):Option (X125_3):=iter (q125_3 K111 G111 K107 G107 K106 G106) (b125_3 v) v
def kL125_3 (v:V125_3):Bool:=(l125_3 v).isSome
def xL125_3 (v:V125_3):X125_3:=(l125_3 v).getD (((0,0),()),())
def r125 (k111:KA A111) (g111:GA A111 R111) (k107:KA A107) (g107:GA A107 R107) (k106:KA A106) (g106:GA A106 R106) (kl3:V125_3 -> Bool) (xl3:V125_3 -> X125_3) (x:Den A125):Option (Den R125):=
 let v0:=(k111 x)
 bif v0 then
 let v1:=(g111 x)
 let v2:=(kl3 (((4607182418800017408,0),v1),()))
 bif v2 then
 let v3:=(xl3 (((4607182418800017408,0),v1),()))
 some ((v3.1.1.1,v3.1.1.2),())
 else
 none
 else
 none
theorem ev125 (k111:KA A111) (g111:GA A111 R111) (k107:KA A107) (g107:GA A107 R107) (k106:KA A106) (g106:GA A106 R106) (kl3:V125_3 -> Bool) (xl3:V125_3 -> X125_3) (x:Den A125):callK (Γ125 k111 g111 k107 g107 k106 g106 kl3 xl3) (bodyOf Tryz.f125) (decR R125) (encA A125 x) [] = r125 k111 g111 k107 g107 k106 g106 kl3 xl3 x:=by kernel_rfl
def F125 (x:Den A125):Option (Den R125):=r125 K111 G111 K107 G107 K106 G106 kL125_3 xL125_3 x
def K125 (x:Den A125):Bool:=(F125 x).isSome
def G125 (x:Den A125):Den R125:=(F125 x).getD (zero R125)
theorem sem125:SemOK Tryz.prog (125,fnMean A125 R125 K125 G125):=fn_opt (env_ok mixed tab_ok eqs_ok (.cons sem111 (.cons sem107 (.cons sem106 .nil)))) (fnIs Tryz.func125 rfl rfl rfl (by kernel_rfl) (loops_ok (l:=[lc125_3]) (by kernel_rfl) (.cons (one_loop rfl (loopX_sound (sh:=sh125_3) (shX:=shX125_3) (fun f v => evl125_3 K111 G111 K107 G107 K106 G106 kL125_3 xL125_3 f v) b125_3 (((0,0),()),()))) (.nil)))) fun x => ev125 K111 G111 K107 G107 K106 G106 kL125_3 xL125_3 x
abbrev A108:Ty:=.cons (S30) (.cons (.flt .f32) (.cons (.int .i64) (.nil)))
abbrev R108:Ty:=.cons (.flt .f32) (.cons (.bool) (.nil))
noncomputable def Γ108 (k77:KA A77) (g77:GA A77 R77) (k125:KA A125) (g125:GA A125 R125):Env:=mkEnv tab eqs [(77,fnMean A77 R77 k77 g77),(125,fnMean A125 R125 k125 g125)] 25 [.tmp 6,.tmp 7] [] [] [] [] []
def r108 (k77:KA A77) (g77:GA A77 R77) (k125:KA A125) (g125:GA A125 R125) (x:Den A108):Option (Den R108):=
 let v0:=(k77 x)
 bif v0 then
 let v1:=(g77 x)
 bif (!v1.2.1) then
 some ((0),((false),()))
 else
 let v2:=(k125 x.2.2)
 bif v2 then
 let v3:=(g125 x.2.2)
 bif ((convF FloatKind.f64 FloatKind.f32 v3.1.1).1) then
 let v4:=(farith BinOp.mul FloatKind.f32 v1.1 (convF FloatKind.f64 FloatKind.f32 v3.1.1).2)
 some (v4,((true),()))
 else
 none
 else
 none
 else
 none
theorem ev108 (k77:KA A77) (g77:GA A77 R77) (k125:KA A125) (g125:GA A125 R125) (x:Den A108):callK (Γ108 k77 g77 k125 g125) (bodyOf Tryz.f108) (decR R108) (encA A108 x) [] = r108 k77 g77 k125 g125 x:=by kernel_rfl
def F108 (x:Den A108):Option (Den R108):=r108 K77 G77 K125 G125 x
def K108 (x:Den A108):Bool:=(F108 x).isSome
def G108 (x:Den A108):Den R108:=(F108 x).getD (zero R108)
theorem sem108:SemOK Tryz.prog (108,fnMean A108 R108 K108 G108):=fn_opt (env_ok mixed tab_ok eqs_ok (.cons sem77 (.cons sem125 .nil))) (fnIs Tryz.func108 rfl rfl rfl (by kernel_rfl) (noLoops (by kernel_rfl))) fun x => ev108 K77 G77 K125 G125 x
abbrev A74:Ty:=.cons (S30) (.cons (.flt .f32) (.nil))
abbrev R74:Ty:=.cons (.int .i64) (.cons (.bool) (.nil))
abbrev V74_4:Type:=((Nat × (Unit × (Nat × (Bool × (Int × (Int × Unit)))))) × (((List (Den (.flt .f32))) × ((List (Den (.int .i64))) × ((List (Den (.slice (.flt .f32)))) × Unit))) × Unit))
def sh74_4:ShS:=⟨[(1,.one (.flt .f32)),(2,.one (.ptr 0 0)),(6,.one (.flt .f32)),(7,.one (.bool)),(8,.one (.int .i64)),(9,.one (.int .i64))],[(0,.box [.sl (.flt .f32),.sl (.int .i64),.sl (.slice (.flt .f32))])],1,0⟩
abbrev X74_4:Type:=((Nat × (Bool × (Int × Unit))) × Unit)
def shX74_4:ShS:=⟨[(6,.one (.flt .f32)),(7,.one (.bool)),(8,.one (.int .i64))],[],0,0⟩
noncomputable def Γ74 (k108:KA A108) (g108:GA A108 R108) (kl4:V74_4 -> Bool) (xl4:V74_4 -> X74_4):Env:=mkEnv tab eqs [(108,fnMean A108 R108 k108 g108)] 44 [.tmp 4,.tmp 5] [] [] [(4,loopX [1,2,6,7,8,9] [] 0 [6,7,8] [] sh74_4 shX74_4 kl4 xl4)] [] []
noncomputable def lc74_4:Code:=(loopsOf (bodyOf Tryz.f74)).getD 0 .skip
def q74_4 (k108:KA A108) (g108:GA A108 R108) (f:V74_4 -> Option (X74_4)) (v:V74_4):Option (X74_4):=
 bif (decide (v.1.2.2.2.2.2.1 <= 90)) then
 bif (v.1.2.2.2.1) then
 let v0:=(k108 (v.2.1,v.1.1,v.1.2.2.2.2.2))
 bif v0 then
 let v1:=(g108 (v.2.1,v.1.1,v.1.2.2.2.2.2))
 bif (fgt FloatKind.f32 v1.1 v.1.2.2.1) then
 let v2:=(IntKind.wrap IntKind.i64 (v.1.2.2.2.2.2.1 + 1))
 f (((v.1.1),((),(v1.1,((v.1.2.2.2.1),((v.1.2.2.2.2.2.1),(v2,())))))),(((v.2.1.1),((v.2.1.2.1),((v.2.1.2.2.1),()))),()))
 else
 let v2:=(IntKind.wrap IntKind.i64 (v.1.2.2.2.2.2.1 + 1))
 f (((v.1.1),((),((v.1.2.2.1),((v.1.2.2.2.1),((v.1.2.2.2.2.1),(v2,())))))),(((v.2.1.1),((v.2.1.2.1),((v.2.1.2.2.1),()))),()))
 else
 none
 else
 some (((v.1.2.2.1),((v.1.2.2.2.1),((v.1.2.2.2.2.1),()))),())
 else
 some (((v.1.2.2.1),((v.1.2.2.2.1),((v.1.2.2.2.2.1),()))),())
theorem evl74_4 (k108:KA A108) (g108:GA A108 R108) (kl4:V74_4 -> Bool) (xl4:V74_4 -> X74_4) (f:V74_4 -> Option (X74_4)) (v:V74_4):EBk (Γ74 k108 g108 kl4 xl4) lc74_4 (roundK [1,2,6,7,8,9] [] 0 [6,7,8] [] (atS sh74_4 f) (endX shX74_4)) (mkS sh74_4 v) = q74_4 k108 g108 f v:=by kernel_rfl
def b74_4 (v:V74_4):Nat:=v.1.2.2.2.2.1.natAbs + v.1.2.2.2.2.2.1.natAbs + v.2.1.1.length + v.2.1.2.1.length + v.2.1.2.2.1.length + 1000
def l74_4 (v:V74_4):Option (X74_4):=iter (q74_4 K108 G108) (b74_4 v) v
def kL74_4 (v:V74_4):Bool:=(l74_4 v).isSome
def xL74_4 (v:V74_4):X74_4:=(l74_4 v).getD ((0,(false,(0,()))),())
def r74 (k108:KA A108) (g108:GA A108 R108) (kl4:V74_4 -> Bool) (xl4:V74_4 -> X74_4) (x:Den A74):Option (Den R74):=
 let v0:=(k108 (x.1,x.2.1,0,()))
 bif v0 then
 let v1:=(g108 (x.1,x.2.1,0,()))
 let v2:=(kl4 ((x.2.1,(),v1.1,v1.2.1,0,1,()),x.1,()))
 bif v2 then
 let v3:=(xl4 ((x.2.1,(),v1.1,v1.2.1,0,1,()),x.1,()))
 bif (!v3.1.2.1) then
 some ((0),((false),()))
 else
 bif (flt FloatKind.f32 v3.1.1 0 || feq FloatKind.f32 v3.1.1 0) then
 some ((0),((false),()))
 else
 some (v3.1.2.2.1,((true),()))
 else
 none
 else
 none
theorem ev74 (k108:KA A108) (g108:GA A108 R108) (kl4:V74_4 -> Bool) (xl4:V74_4 -> X74_4) (x:Den A74):callK (Γ74 k108 g108 kl4 xl4) (bodyOf Tryz.f74) (decR R74) (encA A74 x) [] = r74 k108 g108 kl4 xl4 x:=by kernel_rfl
def F74 (x:Den A74):Option (Den R74):=r74 K108 G108 kL74_4 xL74_4 x
def K74 (x:Den A74):Bool:=(F74 x).isSome
def G74 (x:Den A74):Den R74:=(F74 x).getD (zero R74)
theorem sem74:SemOK Tryz.prog (74,fnMean A74 R74 K74 G74):=fn_opt (env_ok mixed tab_ok eqs_ok (.cons sem108 .nil)) (fnIs Tryz.func74 rfl rfl rfl (by kernel_rfl) (loops_ok (l:=[lc74_4]) (by kernel_rfl) (.cons (one_loop rfl (loopX_sound (sh:=sh74_4) (shX:=shX74_4) (fun f v => evl74_4 K108 G108 kL74_4 xL74_4 f v) b74_4 ((0,(false,(0,()))),()))) (.nil)))) fun x => ev74 K108 G108 kL74_4 xL74_4 x
abbrev A75:Ty:=.cons (S30) (.cons (.flt .f32) (.nil))
abbrev R75:Ty:=.cons (.int .i64) (.cons (.bool) (.nil))
abbrev V75_4:Type:=((Nat × (Unit × (Nat × (Bool × (Int × (Int × Unit)))))) × (((List (Den (.flt .f32))) × ((List (Den (.int .i64))) × ((List (Den (.slice (.flt .f32)))) × Unit))) × Unit))
def sh75_4:ShS:=⟨[(1,.one (.flt .f32)),(2,.one (.ptr 0 0)),(6,.one (.flt .f32)),(7,.one (.bool)),(8,.one (.int .i64)),(9,.one (.int .i64))],[(0,.box [.sl (.flt .f32),.sl (.int .i64),.sl (.slice (.flt .f32))])],1,0⟩
abbrev X75_4:Type:=((Nat × (Bool × (Int × Unit))) × Unit)
def shX75_4:ShS:=⟨[(6,.one (.flt .f32)),(7,.one (.bool)),(8,.one (.int .i64))],[],0,0⟩
noncomputable def Γ75 (k108:KA A108) (g108:GA A108 R108) (kl4:V75_4 -> Bool) (xl4:V75_4 -> X75_4):Env:=mkEnv tab eqs [(108,fnMean A108 R108 k108 g108)] 44 [.tmp 4,.tmp 5] [] [] [(4,loopX [1,2,6,7,8,9] [] 0 [6,7,8] [] sh75_4 shX75_4 kl4 xl4)] [] []
noncomputable def lc75_4:Code:=(loopsOf (bodyOf Tryz.f75)).getD 0 .skip
def q75_4 (k108:KA A108) (g108:GA A108 R108) (f:V75_4 -> Option (X75_4)) (v:V75_4):Option (X75_4):=
 bif (decide (v.1.2.2.2.2.2.1 <= 180)) then
 bif (v.1.2.2.2.1) then
 let v0:=(k108 (v.2.1,v.1.1,v.1.2.2.2.2.2))
 bif v0 then
 let v1:=(g108 (v.2.1,v.1.1,v.1.2.2.2.2.2))
 bif (flt FloatKind.f32 v1.1 v.1.2.2.1) then
 let v2:=(IntKind.wrap IntKind.i64 (v.1.2.2.2.2.2.1 + 1))
 f (((v.1.1),((),(v1.1,((v.1.2.2.2.1),((v.1.2.2.2.2.2.1),(v2,())))))),(((v.2.1.1),((v.2.1.2.1),((v.2.1.2.2.1),()))),()))
 else
 let v2:=(IntKind.wrap IntKind.i64 (v.1.2.2.2.2.2.1 + 1))
 f (((v.1.1),((),((v.1.2.2.1),((v.1.2.2.2.1),((v.1.2.2.2.2.1),(v2,())))))),(((v.2.1.1),((v.2.1.2.1),((v.2.1.2.2.1),()))),()))
 else
 none
 else
 some (((v.1.2.2.1),((v.1.2.2.2.1),((v.1.2.2.2.2.1),()))),())
 else
 some (((v.1.2.2.1),((v.1.2.2.2.1),((v.1.2.2.2.2.1),()))),())
theorem evl75_4 (k108:KA A108) (g108:GA A108 R108) (kl4:V75_4 -> Bool) (xl4:V75_4 -> X75_4) (f:V75_4 -> Option (X75_4)) (v:V75_4):EBk (Γ75 k108 g108 kl4 xl4) lc75_4 (roundK [1,2,6,7,8,9] [] 0 [6,7,8] [] (atS sh75_4 f) (endX shX75_4)) (mkS sh75_4 v) = q75_4 k108 g108 f v:=by kernel_rfl
def b75_4 (v:V75_4):Nat:=v.1.2.2.2.2.1.natAbs + v.1.2.2.2.2.2.1.natAbs + v.2.1.1.length + v.2.1.2.1.length + v.2.1.2.2.1.length + 1000
def l75_4 (v:V75_4):Option (X75_4):=iter (q75_4 K108 G108) (b75_4 v) v
def kL75_4 (v:V75_4):Bool:=(l75_4 v).isSome
def xL75_4 (v:V75_4):X75_4:=(l75_4 v).getD ((0,(false,(0,()))),())
def r75 (k108:KA A108) (g108:GA A108 R108) (kl4:V75_4 -> Bool) (xl4:V75_4 -> X75_4) (x:Den A75):Option (Den R75):=
 let v0:=(k108 (x.1,x.2.1,91,()))
 bif v0 then
 let v1:=(g108 (x.1,x.2.1,91,()))
 let v2:=(kl4 ((x.2.1,(),v1.1,v1.2.1,91,92,()),x.1,()))
 bif v2 then
 let v3:=(xl4 ((x.2.1,(),v1.1,v1.2.1,91,92,()),x.1,()))
 bif (!v3.1.2.1) then
 some ((0),((false),()))
 else
 bif (fgt FloatKind.f32 v3.1.1 0 || feq FloatKind.f32 v3.1.1 0) then
 some ((0),((false),()))
 else
 some (v3.1.2.2.1,((true),()))
 else
 none
 else
 none
theorem ev75 (k108:KA A108) (g108:GA A108 R108) (kl4:V75_4 -> Bool) (xl4:V75_4 -> X75_4) (x:Den A75):callK (Γ75 k108 g108 kl4 xl4) (bodyOf Tryz.f75) (decR R75) (encA A75 x) [] = r75 k108 g108 kl4 xl4 x:=by kernel_rfl
def F75 (x:Den A75):Option (Den R75):=r75 K108 G108 kL75_4 xL75_4 x
def K75 (x:Den A75):Bool:=(F75 x).isSome
def G75 (x:Den A75):Den R75:=(F75 x).getD (zero R75)
theorem sem75:SemOK Tryz.prog (75,fnMean A75 R75 K75 G75):=fn_opt (env_ok mixed tab_ok eqs_ok (.cons sem108 .nil)) (fnIs Tryz.func75 rfl rfl rfl (by kernel_rfl) (loops_ok (l:=[lc75_4]) (by kernel_rfl) (.cons (one_loop rfl (loopX_sound (sh:=sh75_4) (shX:=shX75_4) (fun f v => evl75_4 K108 G108 kL75_4 xL75_4 f v) b75_4 ((0,(false,(0,()))),()))) (.nil)))) fun x => ev75 K108 G108 kL75_4 xL75_4 x
abbrev A78:Ty:=.cons (.int .i64) (.cons (.int .i64) (.nil))
abbrev R78:Ty:=.cons (.int .i64) (.nil)
noncomputable def Γ78 (k111:KA A111) (g111:GA A111 R111):Env:=mkEnv tab eqs [(111,fnMean A111 R111 k111 g111)] 19 [.tmp 4] [] [] [] [] []
def r78 (k111:KA A111) (g111:GA A111 R111) (x:Den A78):Option (Den R78):=
 let v0:=(k111 x.2)
 bif v0 then
 let v1:=(k111 (x.1,()))
 bif v1 then
 let v2:=(g111 x.2)
 let v3:=(g111 (x.1,()))
 let v4:=(IntKind.wrap IntKind.i64 (v2.1 - v3.1))
 let v5:=(k111 (v4,()))
 bif v5 then
 let v6:=(g111 (v4,()))
 let v7:=(IntKind.wrap IntKind.i64 (360 - v6.1))
 bif (decide (v6.1 > v7)) then
 some (v7,())
 else
 some (v6.1,())
 else
 none
 else
 none
 else
 none
theorem ev78 (k111:KA A111) (g111:GA A111 R111) (x:Den A78):callK (Γ78 k111 g111) (bodyOf Tryz.f78) (decR R78) (encA A78 x) [] = r78 k111 g111 x:=by kernel_rfl
def F78 (x:Den A78):Option (Den R78):=r78 K111 G111 x
def K78 (x:Den A78):Bool:=(F78 x).isSome
def G78 (x:Den A78):Den R78:=(F78 x).getD (zero R78)
theorem sem78:SemOK Tryz.prog (78,fnMean A78 R78 K78 G78):=fn_opt (env_ok mixed tab_ok eqs_ok (.cons sem111 .nil)) (fnIs Tryz.func78 rfl rfl rfl (by kernel_rfl) (noLoops (by kernel_rfl))) fun x => ev78 K111 G111 x
abbrev A76:Ty:=.cons (S30) (.cons (.cpx .f32) (.cons (.cpx .f64) (.nil)))
abbrev R76:Ty:=.cons (.bool) (.nil)
noncomputable def Γ76 (k71:KA A71) (g71:GA A71 R71) (k72:KA A72) (g72:GA A72 R72) (k73:KA A73) (g73:GA A73 R73) (k74:KA A74) (g74:GA A74 R74) (k75:KA A75) (g75:GA A75 R75) (k78:KA A78) (g78:GA A78 R78) (k18:KA A18) (g18:GA A18 R18):Env:=mkEnv tab eqs [(71,fnMean A71 R71 k71 g71),(72,fnMean A72 R72 k72 g72),(73,fnMean A73 R73 k73 g73),(74,fnMean A74 R74 k74 g74),(75,fnMean A75 R75 k75 g75),(78,fnMean A78 R78 k78 g78),(18,fnMean A18 R18 k18 g18)] 51 [.tmp 6] [] [] [] [] []
def r76 (k71:KA A71) (g71:GA A71 R71) (k72:KA A72) (g72:GA A72 R72) (k73:KA A73) (g73:GA A73 R73) (k74:KA A74) (g74:GA A74 R74) (k75:KA A75) (g75:GA A75 R75) (k78:KA A78) (g78:GA A78 R78) (k18:KA A18) (g18:GA A18 R18) (x:Den A76):Option (Den R76):=
 let v0:=(k71 (x.2.1,()))
 bif v0 then
 let v1:=(k72 x.2.2)
 bif v1 then
 let v2:=(k73 (x.2.1,()))
 bif v2 then
 let v3:=(g73 (x.2.1,()))
 let v4:=(k74 (x.1,v3))
 bif v4 then
 bif v2 then
 let v5:=(k75 (x.1,v3))
 bif v5 then
 let v6:=(g74 (x.1,v3))
 bif v6.2.1 then
 let v7:=(g75 (x.1,v3))
 bif v7.2.1 then
 let v8:=(g71 (x.2.1,()))
 bif (decide (v8.1 ≥ 0)) then
 let v9:=(g72 x.2.2)
 bif (decide (v9.1 ≥ 0)) then
 let v10:=(k78 (v8.1,v9))
 bif v10 then
 let v11:=(g78 (v8.1,v9))
 let v12:=(k18 (v11.1,v6.1,v7.1,()))
 bif v12 then
 let v13:=(g18 (v11.1,v6.1,v7.1,()))
 some (v13.1,())
 else
 none
 else
 none
 else
 some ((false),())
 else
 some ((false),())
 else
 some ((false),())
 else
 some ((false),())
 else
 none
 else
 none
 else
 none
 else
 none
 else
 none
 else
 none
theorem ev76 (k71:KA A71) (g71:GA A71 R71) (k72:KA A72) (g72:GA A72 R72) (k73:KA A73) (g73:GA A73 R73) (k74:KA A74) (g74:GA A74 R74) (k75:KA A75) (g75:GA A75 R75) (k78:KA A78) (g78:GA A78 R78) (k18:KA A18) (g18:GA A18 R18) (x:Den A76):callK (Γ76 k71 g71 k72 g72 k73 g73 k74 g74 k75 g75 k78 g78 k18 g18) (bodyOf Tryz.f76) (decR R76) (encA A76 x) [] = r76 k71 g71 k72 g72 k73 g73 k74 g74 k75 g75 k78 g78 k18 g18 x:=by kernel_rfl
def F76 (x:Den A76):Option (Den R76):=r76 K71 G71 K72 G72 K73 G73 K74 G74 K75 G75 K78 G78 K18 G18 x
def K76 (x:Den A76):Bool:=(F76 x).isSome
def G76 (x:Den A76):Den R76:=(F76 x).getD (zero R76)
theorem sem76:SemOK Tryz.prog (76,fnMean A76 R76 K76 G76):=fn_opt (env_ok mixed tab_ok eqs_ok (.cons sem71 (.cons sem72 (.cons sem73 (.cons sem74 (.cons sem75 (.cons sem78 (.cons sem18 .nil)))))))) (fnIs Tryz.func76 rfl rfl rfl (by kernel_rfl) (noLoops (by kernel_rfl))) fun x => ev76 K71 G71 K72 G72 K73 G73 K74 G74 K75 G75 K78 G78 K18 G18 x
abbrev A81:Ty:=.cons (S30) (.cons (.cpx .f32) (.nil))
abbrev R81:Ty:=.cons (.int .i64) (.cons (.int .i64) (.cons (.bool) (.nil)))
noncomputable def Γ81 (k71:KA A71) (g71:GA A71 R71) (k73:KA A73) (g73:GA A73 R73) (k74:KA A74) (g74:GA A74 R74) (k111:KA A111) (g111:GA A111 R111):Env:=mkEnv tab eqs [(71,fnMean A71 R71 k71 g71),(73,fnMean A73 R73 k73 g73),(74,fnMean A74 R74 k74 g74),(111,fnMean A111 R111 k111 g111)] 33 [.tmp 4,.tmp 5,.tmp 6] [] [] [] [] []
def r81 (k71:KA A71) (g71:GA A71 R71) (k73:KA A73) (g73:GA A73 R73) (k74:KA A74) (g74:GA A74 R74) (k111:KA A111) (g111:GA A111 R111) (x:Den A81):Option (Den R81):=
 let v0:=(k71 x.2)
 bif v0 then
 let v1:=(k73 x.2)
 bif v1 then
 let v2:=(g73 x.2)
 let v3:=(k74 (x.1,v2))
 bif v3 then
 let v4:=(g71 x.2)
 bif (decide (v4.1 < 0)) then
 some ((0),((0),((false),())))
 else
 let v5:=(g74 (x.1,v2))
 bif (!v5.2.1) then
 some ((0),((0),((false),())))
 else
 let v6:=(IntKind.wrap IntKind.i64 (v4.1 - v5.1))
 let v7:=(k111 (v6,()))
 bif v7 then
 let v8:=(IntKind.wrap IntKind.i64 (v4.1 + v5.1))
 let v9:=(k111 (v8,()))
 bif v9 then
 let v10:=(g111 (v6,()))
 let v11:=(g111 (v8,()))
 some (v10.1,(v11.1,((true),())))
 else
 none
 else
 none
 else
 none
 else
 none
 else
 none
theorem ev81 (k71:KA A71) (g71:GA A71 R71) (k73:KA A73) (g73:GA A73 R73) (k74:KA A74) (g74:GA A74 R74) (k111:KA A111) (g111:GA A111 R111) (x:Den A81):callK (Γ81 k71 g71 k73 g73 k74 g74 k111 g111) (bodyOf Tryz.f81) (decR R81) (encA A81 x) [] = r81 k71 g71 k73 g73 k74 g74 k111 g111 x:=by kernel_rfl
def F81 (x:Den A81):Option (Den R81):=r81 K71 G71 K73 G73 K74 G74 K111 G111 x
def K81 (x:Den A81):Bool:=(F81 x).isSome
def G81 (x:Den A81):Den R81:=(F81 x).getD (zero R81)
theorem sem81:SemOK Tryz.prog (81,fnMean A81 R81 K81 G81):=fn_opt (env_ok mixed tab_ok eqs_ok (.cons sem71 (.cons sem73 (.cons sem74 (.cons sem111 .nil))))) (fnIs Tryz.func81 rfl rfl rfl (by kernel_rfl) (noLoops (by kernel_rfl))) fun x => ev81 K71 G71 K73 G73 K74 G74 K111 G111 x
abbrev A83:Ty:=.cons (S30) (.cons (.cpx .f32) (.nil))
abbrev R83:Ty:=.cons (.int .i64) (.cons (.int .i64) (.cons (.bool) (.nil)))
noncomputable def Γ83 (k71:KA A71) (g71:GA A71 R71) (k73:KA A73) (g73:GA A73 R73) (k75:KA A75) (g75:GA A75 R75) (k111:KA A111) (g111:GA A111 R111):Env:=mkEnv tab eqs [(71,fnMean A71 R71 k71 g71),(73,fnMean A73 R73 k73 g73),(75,fnMean A75 R75 k75 g75),(111,fnMean A111 R111 k111 g111)] 33 [.tmp 4,.tmp 5,.tmp 6] [] [] [] [] []
def r83 (k71:KA A71) (g71:GA A71 R71) (k73:KA A73) (g73:GA A73 R73) (k75:KA A75) (g75:GA A75 R75) (k111:KA A111) (g111:GA A111 R111) (x:Den A83):Option (Den R83):=
 let v0:=(k71 x.2)
 bif v0 then
 let v1:=(k73 x.2)
 bif v1 then
 let v2:=(g73 x.2)
 let v3:=(k75 (x.1,v2))
 bif v3 then
 let v4:=(g71 x.2)
 bif (decide (v4.1 < 0)) then
 some ((0),((0),((false),())))
 else
 let v5:=(g75 (x.1,v2))
 bif (!v5.2.1) then
 some ((0),((0),((false),())))
 else
 let v6:=(IntKind.wrap IntKind.i64 (v4.1 - v5.1))
 let v7:=(k111 (v6,()))
 bif v7 then
 let v8:=(IntKind.wrap IntKind.i64 (v4.1 + v5.1))
 let v9:=(k111 (v8,()))
 bif v9 then
 let v10:=(g111 (v6,()))
 let v11:=(g111 (v8,()))
 some (v10.1,(v11.1,((true),())))
 else
 none
 else
 none
 else
 none
 else
 none
 else
 none
theorem ev83 (k71:KA A71) (g71:GA A71 R71) (k73:KA A73) (g73:GA A73 R73) (k75:KA A75) (g75:GA A75 R75) (k111:KA A111) (g111:GA A111 R111) (x:Den A83):callK (Γ83 k71 g71 k73 g73 k75 g75 k111 g111) (bodyOf Tryz.f83) (decR R83) (encA A83 x) [] = r83 k71 g71 k73 g73 k75 g75 k111 g111 x:=by kernel_rfl
def F83 (x:Den A83):Option (Den R83):=r83 K71 G71 K73 G73 K75 G75 K111 G111 x
def K83 (x:Den A83):Bool:=(F83 x).isSome
def G83 (x:Den A83):Den R83:=(F83 x).getD (zero R83)
theorem sem83:SemOK Tryz.prog (83,fnMean A83 R83 K83 G83):=fn_opt (env_ok mixed tab_ok eqs_ok (.cons sem71 (.cons sem73 (.cons sem75 (.cons sem111 .nil))))) (fnIs Tryz.func83 rfl rfl rfl (by kernel_rfl) (noLoops (by kernel_rfl))) fun x => ev83 K71 G71 K73 G73 K75 G75 K111 G111 x
abbrev A112:Ty:=.cons (.flt .f64) (.nil)
abbrev R112:Ty:=.cons (.bool) (.nil)
noncomputable def Γ112:Env:=mkEnv tab eqs [] 7 [.tmp 2] [] [] [] [] []
def r112 (x:Den A112):Option (Den R112):=
 let v0:=(farith BinOp.sub FloatKind.f64 x.1 x.1)
 some ((feq FloatKind.f64 v0 0),())
theorem ev112 (x:Den A112):callK (Γ112) (bodyOf Tryz.f112) (decR R112) (encA A112 x) [] = r112 x:=by kernel_rfl
def F112 (x:Den A112):Option (Den R112):=r112 x
def K112 (x:Den A112):Bool:=(F112 x).isSome
def G112 (x:Den A112):Den R112:=(F112 x).getD (zero R112)
theorem sem112:SemOK Tryz.prog (112,fnMean A112 R112 K112 G112):=fn_opt (env_ok mixed tab_ok eqs_ok .nil) (fnIs Tryz.func112 rfl rfl rfl (by kernel_rfl) (noLoops (by kernel_rfl))) fun x => ev112 x
abbrev A126:Ty:=.cons (.cpx .f64) (.cons (.cpx .f64) (.nil))
abbrev R126:Ty:=.cons (.flt .f64) (.nil)
noncomputable def Γ126:Env:=mkEnv tab eqs [] 16 [.tmp 4] [] [] [] [] []
def r126 (x:Den A126):Option (Den R126):=
 let v0:=(farith BinOp.mul FloatKind.f64 x.1.1 x.2.1.2)
 let v1:=(farith BinOp.mul FloatKind.f64 x.1.2 x.2.1.1)
 let v2:=(farith BinOp.sub FloatKind.f64 v0 v1)
 some (v2,())
theorem ev126 (x:Den A126):callK (Γ126) (bodyOf Tryz.f126) (decR R126) (encA A126 x) [] = r126 x:=by kernel_rfl
def F126 (x:Den A126):Option (Den R126):=r126 x
def K126 (x:Den A126):Bool:=(F126 x).isSome
def G126 (x:Den A126):Den R126:=(F126 x).getD (zero R126)
theorem sem126:SemOK Tryz.prog (126,fnMean A126 R126 K126 G126):=fn_opt (env_ok mixed tab_ok eqs_ok .nil) (fnIs Tryz.func126 rfl rfl rfl (by kernel_rfl) (noLoops (by kernel_rfl))) fun x => ev126 x
abbrev A114:Ty:=.cons (.cpx .f64) (.cons (.int .i64) (.cons (.int .i64) (.nil)))
abbrev R114:Ty:=.cons (.flt .f64) (.cons (.flt .f64) (.cons (.bool) (.nil)))
noncomputable def Γ114 (k104:KA A104) (g104:GA A104 R104) (k78:KA A78) (g78:GA A78 R78) (k18:KA A18) (g18:GA A18 R18) (k125:KA A125) (g125:GA A125 R125) (k126:KA A126) (g126:GA A126 R126):Env:=mkEnv tab eqs [(104,fnMean A104 R104 k104 g104),(78,fnMean A78 R78 k78 g78),(18,fnMean A18 R18 k18 g18),(125,fnMean A125 R125 k125 g125),(126,fnMean A126 R126 k126 g126)] 39 [.tmp 6,.tmp 7,.tmp 8] [] [] [] [] []
def r114 (k104:KA A104) (g104:GA A104 R104) (k78:KA A78) (g78:GA A78 R78) (k18:KA A18) (g18:GA A18 R18) (k125:KA A125) (g125:GA A125 R125) (k126:KA A126) (g126:GA A126 R126) (x:Den A114):Option (Den R114):=
 let v0:=(k104 (x.1,()))
 bif v0 then
 let v1:=(g104 (x.1,()))
 bif (!v1.1) then
 some ((0),((0),((false),())))
 else
 let v2:=(k78 x.2)
 bif v2 then
 let v3:=(g78 x.2)
 let v4:=(k18 (v3.1,5,175,()))
 bif v4 then
 let v5:=(g18 (v3.1,5,175,()))
 bif (!v5.1) then
 some ((0),((0),((false),())))
 else
 let v6:=(k125 (x.2.1,()))
 bif v6 then
 let v7:=(k125 x.2.2)
 bif v7 then
 let v8:=(g125 (x.2.1,()))
 let v9:=(g125 x.2.2)
 let v10:=(k126 (v8.1,v9))
 bif v10 then
 let v11:=(k126 (x.1,v9))
 bif v11 then
 let v12:=(k126 (v8.1,x.1,()))
 bif v12 then
 let v13:=(g126 (x.1,v9))
 let v14:=(g126 (v8.1,v9))
 let v15:=(farith BinOp.quo FloatKind.f64 v13.1 v14.1)
 let v16:=(g126 (v8.1,x.1,()))
 let v17:=(farith BinOp.quo FloatKind.f64 v16.1 v14.1)
 some (v15,(v17,((true),())))
 else
 none
 else
 none
 else
 none
 else
 none
 else
 none
 else
 none
 else
 none
 else
 none
theorem ev114 (k104:KA A104) (g104:GA A104 R104) (k78:KA A78) (g78:GA A78 R78) (k18:KA A18) (g18:GA A18 R18) (k125:KA A125) (g125:GA A125 R125) (k126:KA A126) (g126:GA A126 R126) (x:Den A114):callK (Γ114 k104 g104 k78 g78 k18 g18 k125 g125 k126 g126) (bodyOf Tryz.f114) (decR R114) (encA A114 x) [] = r114 k104 g104 k78 g78 k18 g18 k125 g125 k126 g126 x:=by kernel_rfl
def F114 (x:Den A114):Option (Den R114):=r114 K104 G104 K78 G78 K18 G18 K125 G125 K126 G126 x
def K114 (x:Den A114):Bool:=(F114 x).isSome
def G114 (x:Den A114):Den R114:=(F114 x).getD (zero R114)
theorem sem114:SemOK Tryz.prog (114,fnMean A114 R114 K114 G114):=fn_opt (env_ok mixed tab_ok eqs_ok (.cons sem104 (.cons sem78 (.cons sem18 (.cons sem125 (.cons sem126 .nil)))))) (fnIs Tryz.func114 rfl rfl rfl (by kernel_rfl) (noLoops (by kernel_rfl))) fun x => ev114 K104 G104 K78 G78 K18 G18 K125 G125 K126 G126 x
abbrev A79:Ty:=.cons (.flt .f64) (.cons (.flt .f64) (.nil))
abbrev R79:Ty:=.cons (.int .i64) (.cons (.bool) (.nil))
noncomputable def Γ79 (k112:KA A112) (g112:GA A112 R112):Env:=mkEnv tab eqs [(112,fnMean A112 R112 k112 g112)] 39 [.tmp 4,.tmp 5] [] [] [] [] []
def r79 (k112:KA A112) (g112:GA A112 R112) (x:Den A79):Option (Den R79):=
 bif (fgt FloatKind.f64 x.1 0 || feq FloatKind.f64 x.1 0) then
 bif (!(flt FloatKind.f64 x.1 4726483295884279808 || feq FloatKind.f64 x.1 4726483295884279808)) then
 some ((0),((false),()))
 else
 bif (!fgt FloatKind.f64 x.2.1 0) then
 some ((0),((false),()))
 else
 let v0:=(k112 x.2)
 bif v0 then
 let v1:=(g112 x.2)
 bif (!v1.1) then
 some ((0),((false),()))
 else
 let v2:=(farith BinOp.quo FloatKind.f64 x.1 x.2.1)
 bif (fgt FloatKind.f64 v2 4711630319722168320) then
 some ((0),((false),()))
 else
 bif (f2iOk FloatKind.f64 v2 IntKind.i64) then
 let v3:=(f2i FloatKind.f64 v2)
 bif (flt FloatKind.f64 (FloatKind.nearest FloatKind.f64 v3) v2) then
 let v4:=(IntKind.wrap IntKind.i64 (v3 + 1))
 some (v4,((true),()))
 else
 some (v3,((true),()))
 else
 none
 else
 none
 else
 some ((0),((false),()))
theorem ev79 (k112:KA A112) (g112:GA A112 R112) (x:Den A79):callK (Γ79 k112 g112) (bodyOf Tryz.f79) (decR R79) (encA A79 x) [] = r79 k112 g112 x:=by kernel_rfl
def F79 (x:Den A79):Option (Den R79):=r79 K112 G112 x
def K79 (x:Den A79):Bool:=(F79 x).isSome
def G79 (x:Den A79):Den R79:=(F79 x).getD (zero R79)
theorem sem79:SemOK Tryz.prog (79,fnMean A79 R79 K79 G79):=fn_opt (env_ok mixed tab_ok eqs_ok (.cons sem112 .nil)) (fnIs Tryz.func79 rfl rfl rfl (by kernel_rfl) (noLoops (by kernel_rfl))) fun x => ev79 K112 G112 x
abbrev A82:Ty:=.cons (S30) (.cons (.flt .f32) (.cons (.int .i64) (.cons (.cpx .f64) (.cons (.int .i64) (.cons (.int .i64) (.nil))))))
abbrev R82:Ty:=.cons (.int .i64) (.cons (.bool) (.nil))
noncomputable def Γ82 (k114:KA A114) (g114:GA A114 R114) (k77:KA A77) (g77:GA A77 R77) (k79:KA A79) (g79:GA A79 R79):Env:=mkEnv tab eqs [(114,fnMean A114 R114 k114 g114),(77,fnMean A77 R77 k77 g77),(79,fnMean A79 R79 k79 g79)] 52 [.tmp 12,.tmp 13] [] [] [] [] []
def r82 (k114:KA A114) (g114:GA A114 R114) (k77:KA A77) (g77:GA A77 R77) (k79:KA A79) (g79:GA A79 R79) (x:Den A82):Option (Den R82):=
 let v0:=(k114 x.2.2.2)
 bif v0 then
 let v1:=(g114 x.2.2.2)
 bif (!v1.2.2.1) then
 some ((0),((false),()))
 else
 bif (flt FloatKind.f64 v1.1 0) then
 bif (flt FloatKind.f64 v1.2.1 0) then
 let v2:=(k77 (x.1,x.2.1,x.2.2.1,()))
 bif v2 then
 let v3:=(farith BinOp.add FloatKind.f64 0 0)
 let v4:=(g77 (x.1,x.2.1,x.2.2.1,()))
 let v5:=(k79 (v3,(convF FloatKind.f32 FloatKind.f64 v4.1).2,()))
 bif v5 then
 let v6:=(g79 (v3,(convF FloatKind.f32 FloatKind.f64 v4.1).2,()))
 some (v6.1,(v6.2.1,()))
 else
 none
 else
 none
 else
 let v2:=(k77 (x.1,x.2.1,x.2.2.1,()))
 bif v2 then
 let v3:=(farith BinOp.add FloatKind.f64 0 v1.2.1)
 let v4:=(g77 (x.1,x.2.1,x.2.2.1,()))
 let v5:=(k79 (v3,(convF FloatKind.f32 FloatKind.f64 v4.1).2,()))
 bif v5 then
 let v6:=(g79 (v3,(convF FloatKind.f32 FloatKind.f64 v4.1).2,()))
 some (v6.1,(v6.2.1,()))
 else
 none
 else
 none
 else
 bif (flt FloatKind.f64 v1.2.1 0) then
 let v2:=(k77 (x.1,x.2.1,x.2.2.1,()))
 bif v2 then
 let v3:=(farith BinOp.add FloatKind.f64 v1.1 0)
 let v4:=(g77 (x.1,x.2.1,x.2.2.1,()))
 let v5:=(k79 (v3,(convF FloatKind.f32 FloatKind.f64 v4.1).2,()))
 bif v5 then
 let v6:=(g79 (v3,(convF FloatKind.f32 FloatKind.f64 v4.1).2,()))
 some (v6.1,(v6.2.1,()))
 else
 none
 else
 none
 else
 let v2:=(k77 (x.1,x.2.1,x.2.2.1,()))
 bif v2 then
 let v3:=(farith BinOp.add FloatKind.f64 v1.1 v1.2.1)
 let v4:=(g77 (x.1,x.2.1,x.2.2.1,()))
 let v5:=(k79 (v3,(convF FloatKind.f32 FloatKind.f64 v4.1).2,()))
 bif v5 then
 let v6:=(g79 (v3,(convF FloatKind.f32 FloatKind.f64 v4.1).2,()))
 some (v6.1,(v6.2.1,()))
 else
 none
 else
 none
 else
 none
theorem ev82 (k114:KA A114) (g114:GA A114 R114) (k77:KA A77) (g77:GA A77 R77) (k79:KA A79) (g79:GA A79 R79) (x:Den A82):callK (Γ82 k114 g114 k77 g77 k79 g79) (bodyOf Tryz.f82) (decR R82) (encA A82 x) [] = r82 k114 g114 k77 g77 k79 g79 x:=by kernel_rfl
def F82 (x:Den A82):Option (Den R82):=r82 K114 G114 K77 G77 K79 G79 x
def K82 (x:Den A82):Bool:=(F82 x).isSome
def G82 (x:Den A82):Den R82:=(F82 x).getD (zero R82)
theorem sem82:SemOK Tryz.prog (82,fnMean A82 R82 K82 G82):=fn_opt (env_ok mixed tab_ok eqs_ok (.cons sem114 (.cons sem77 (.cons sem79 .nil)))) (fnIs Tryz.func82 rfl rfl rfl (by kernel_rfl) (noLoops (by kernel_rfl))) fun x => ev82 K114 G114 K77 G77 K79 G79 x
abbrev A52:Ty:=.cons (S30) (.cons (.cpx .f32) (.cons (.cpx .f64) (.nil)))
abbrev R52:Ty:=.cons (.int .i64) (.cons (.bool) (.nil))
noncomputable def Γ52 (k71:KA A71) (g71:GA A71 R71) (k72:KA A72) (g72:GA A72 R72) (k73:KA A73) (g73:GA A73 R73) (k74:KA A74) (g74:GA A74 R74) (k75:KA A75) (g75:GA A75 R75) (k76:KA A76) (g76:GA A76 R76) (k78:KA A78) (g78:GA A78 R78) (k77:KA A77) (g77:GA A77 R77) (k80:KA A80) (g80:GA A80 R80) (k79:KA A79) (g79:GA A79 R79) (k81:KA A81) (g81:GA A81 R81) (k82:KA A82) (g82:GA A82 R82) (k83:KA A83) (g83:GA A83 R83):Env:=mkEnv tab eqs [(71,fnMean A71 R71 k71 g71),(72,fnMean A72 R72 k72 g72),(73,fnMean A73 R73 k73 g73),(74,fnMean A74 R74 k74 g74),(75,fnMean A75 R75 k75 g75),(76,fnMean A76 R76 k76 g76),(78,fnMean A78 R78 k78 g78),(77,fnMean A77 R77 k77 g77),(80,fnMean A80 R80 k80 g80),(79,fnMean A79 R79 k79 g79),(81,fnMean A81 R81 k81 g81),(82,fnMean A82 R82 k82 g82),(83,fnMean A83 R83 k83 g83)] 126 [.tmp 6,.tmp 7] [] [] [] [] []
def r52 (k71:KA A71) (g71:GA A71 R71) (k72:KA A72) (g72:GA A72 R72) (k73:KA A73) (g73:GA A73 R73) (k74:KA A74) (g74:GA A74 R74) (k75:KA A75) (g75:GA A75 R75) (k76:KA A76) (g76:GA A76 R76) (k78:KA A78) (g78:GA A78 R78) (k77:KA A77) (g77:GA A77 R77) (k80:KA A80) (g80:GA A80 R80) (k79:KA A79) (g79:GA A79 R79) (k81:KA A81) (g81:GA A81 R81) (k82:KA A82) (g82:GA A82 R82) (k83:KA A83) (g83:GA A83 R83) (x:Den A52):Option (Den R52):=
 let v0:=(k71 (x.2.1,()))
 bif v0 then
 let v1:=(k72 x.2.2)
 bif v1 then
 let v2:=(k73 (x.2.1,()))
 bif v2 then
 let v3:=(g73 (x.2.1,()))
 let v4:=(k74 (x.1,v3))
 bif v4 then
 let v5:=(k75 (x.1,v3))
 bif v5 then
 let v6:=(g74 (x.1,v3))
 bif (!v6.2.1) then
 some ((0),((false),()))
 else
 let v7:=(g75 (x.1,v3))
 bif (!v7.2.1) then
 some ((0),((false),()))
 else
 let v8:=(g71 (x.2.1,()))
 bif (decide (v8.1 < 0)) then
 some ((0),((false),()))
 else
 let v9:=(g72 x.2.2)
 bif (decide (v9.1 < 0)) then
 some ((0),((false),()))
 else
 let v10:=(k76 x)
 bif v10 then
 let v11:=(g76 x)
 bif v11.1 then
 let v12:=(k78 (v8.1,v9))
 bif v12 then
 let v13:=(g78 (v8.1,v9))
 let v14:=(k77 (x.1,v3.1,v13))
 bif v14 then
 let v15:=(k80 x.2.2)
 bif v15 then
 let v16:=(g80 x.2.2)
 let v17:=(g77 (x.1,v3.1,v13))
 let v18:=(k79 (v16.1,(convF FloatKind.f32 FloatKind.f64 v17.1).2,()))
 bif v18 then
 let v19:=(g79 (v16.1,(convF FloatKind.f32 FloatKind.f64 v17.1).2,()))
 some (v19.1,(v19.2.1,()))
 else
 none
 else
 none
 else
 none
 else
 none
 else
 let v12:=(k78 (v8.1,v9))
 bif v12 then
 let v13:=(g78 (v8.1,v9))
 bif (decide (v13.1 < v6.1)) then
 let v14:=(k81 (x.1,x.2.1,()))
 bif v14 then
 let v15:=(g81 (x.1,x.2.1,()))
 let v16:=(k82 (x.1,v3.1,v6.1,x.2.2.1,v15.1,v15.2.1,()))
 bif v16 then
 let v17:=(g82 (x.1,v3.1,v6.1,x.2.2.1,v15.1,v15.2.1,()))
 some (v17.1,(v17.2.1,()))
 else
 none
 else
 none
 else
 let v14:=(k83 (x.1,x.2.1,()))
 bif v14 then
 let v15:=(g83 (x.1,x.2.1,()))
 let v16:=(k82 (x.1,v3.1,v7.1,x.2.2.1,v15.1,v15.2.1,()))
 bif v16 then
 let v17:=(g82 (x.1,v3.1,v7.1,x.2.2.1,v15.1,v15.2.1,()))
 some (v17.1,(v17.2.1,()))
 else
 none
 else
 none
 else
 none
 else
 none
 else
 none
 else
 none
 else
 none
 else
 none
 else
 none
theorem ev52 (k71:KA A71) (g71:GA A71 R71) (k72:KA A72) (g72:GA A72 R72) (k73:KA A73) (g73:GA A73 R73) (k74:KA A74) (g74:GA A74 R74) (k75:KA A75) (g75:GA A75 R75) (k76:KA A76) (g76:GA A76 R76) (k78:KA A78) (g78:GA A78 R78) (k77:KA A77) (g77:GA A77 R77) (k80:KA A80) (g80:GA A80 R80) (k79:KA A79) (g79:GA A79 R79) (k81:KA A81) (g81:GA A81 R81) (k82:KA A82) (g82:GA A82 R82) (k83:KA A83) (g83:GA A83 R83) (x:Den A52):callK (Γ52 k71 g71 k72 g72 k73 g73 k74 g74 k75 g75 k76 g76 k78 g78 k77 g77 k80 g80 k79 g79 k81 g81 k82 g82 k83 g83) (bodyOf Tryz.f52) (decR R52) (encA A52 x) [] = r52 k71 g71 k72 g72 k73 g73 k74 g74 k75 g75 k76 g76 k78 g78 k77 g77 k80 g80 k79 g79 k81 g81 k82 g82 k83 g83 x:=by kernel_rfl
def F52 (x:Den A52):Option (Den R52):=r52 K71 G71 K72 G72 K73 G73 K74 G74 K75 G75 K76 G76 K78 G78 K77 G77 K80 G80 K79 G79 K81 G81 K82 G82 K83 G83 x
def K52 (x:Den A52):Bool:=(F52 x).isSome
def G52 (x:Den A52):Den R52:=(F52 x).getD (zero R52)
theorem sem52:SemOK Tryz.prog (52,fnMean A52 R52 K52 G52):=fn_opt (env_ok mixed tab_ok eqs_ok (.cons sem71 (.cons sem72 (.cons sem73 (.cons sem74 (.cons sem75 (.cons sem76 (.cons sem78 (.cons sem77 (.cons sem80 (.cons sem79 (.cons sem81 (.cons sem82 (.cons sem83 .nil)))))))))))))) (fnIs Tryz.func52 rfl rfl rfl (by kernel_rfl) (noLoops (by kernel_rfl))) fun x => ev52 K71 G71 K72 G72 K73 G73 K74 G74 K75 G75 K76 G76 K78 G78 K77 G77 K80 G80 K79 G79 K81 G81 K82 G82 K83 G83 x
abbrev A33:Ty:=.cons (S25) (.cons (S30) (.cons (.int .i64) (.cons (.int .i64) (.cons (.int .i64) (.nil)))))
abbrev R33:Ty:=.cons (.int .i64) (.cons (.bool) (.nil))
noncomputable def Γ33 (k50:KA A50) (g50:GA A50 R50) (k51:KA A51) (g51:GA A51 R51) (k18:KA A18) (g18:GA A18 R18) (k52:KA A52) (g52:GA A52 R52):Env:=mkEnv tab eqs [(50,fnMean A50 R50 k50 g50),(51,fnMean A51 R51 k51 g51),(18,fnMean A18 R18 k18 g18),(52,fnMean A52 R52 k52 g52)] 91 [.tmp 10,.tmp 11] [] [] [] [] []
def r33 (k50:KA A50) (g50:GA A50 R50) (k51:KA A51) (g51:GA A51 R51) (k18:KA A18) (g18:GA A18 R18) (k52:KA A52) (g52:GA A52 R52) (x:Den A33):Option (Den R33):=
 let v0:=(k50 (x.1,x.2.2.1,x.2.2.2.2))
 bif v0 then
 let v1:=(k51 (x.1,x.2.2.1,()))
 bif v1 then
 let v2:=(k51 (x.1,x.2.2.2.1,()))
 bif v2 then
 let v3:=(g50 (x.1,x.2.2.1,x.2.2.2.2))
 bif (!v3.2.1) then
 some ((0),((false),()))
 else
 let v4:=(g51 (x.1,x.2.2.1,()))
 bif (!v4.2.1) then
 some ((0),((false),()))
 else
 let v5:=(g51 (x.1,x.2.2.2.1,()))
 bif (!v5.2.1) then
 some ((0),((false),()))
 else
 bif (x.2.2.1 == x.2.2.2.1) then
 some ((0),((false),()))
 else
 bif (x.1.1 != 0) then
 bif (x.1.1 != 0) then
 let v6:=(IntKind.wrap IntKind.i64 (Int.tdiv x.2.2.1 x.1.1))
 let v7:=(IntKind.wrap IntKind.i64 (Int.tdiv x.2.2.2.1 x.1.1))
 let v8:=(IntKind.wrap IntKind.i64 (v6 - v7))
 let v9:=(k18 (v8,-1,1,()))
 bif v9 then
 let v10:=(g18 (v8,-1,1,()))
 bif (!v10.1) then
 some ((0),((false),()))
 else
 bif (x.1.1 != 0) then
 bif (x.1.1 != 0) then
 let v11:=(IntKind.wrap IntKind.i64 (Int.tmod x.2.2.1 x.1.1 - Int.tmod x.2.2.2.1 x.1.1))
 let v12:=(k18 (v11,-1,1,()))
 bif v12 then
 let v13:=(g18 (v11,-1,1,()))
 bif (!v13.1) then
 some ((0),((false),()))
 else
 let v14:=(farith BinOp.sub FloatKind.f64 v5.1.1 v4.1.1)
 let v15:=(farith BinOp.sub FloatKind.f64 v5.1.2 v4.1.2)
 let v16:=(k52 (x.2.1,v3.1,(v14,v15),()))
 bif v16 then
 let v17:=(g52 (x.2.1,v3.1,(v14,v15),()))
 some (v17.1,(v17.2.1,()))
 else
 none
 else
 none
 else
 none
 else
 none
 else
 none
 else
 none
 else
 none
 else
 none
 else
 none
 else
 none
theorem ev33 (k50:KA A50) (g50:GA A50 R50) (k51:KA A51) (g51:GA A51 R51) (k18:KA A18) (g18:GA A18 R18) (k52:KA A52) (g52:GA A52 R52) (x:Den A33):callK (Γ33 k50 g50 k51 g51 k18 g18 k52 g52) (bodyOf Tryz.f33) (decR R33) (encA A33 x) [] = r33 k50 g50 k51 g51 k18 g18 k52 g52 x:=by kernel_rfl
def F33 (x:Den A33):Option (Den R33):=r33 K50 G50 K51 G51 K18 G18 K52 G52 x
def K33 (x:Den A33):Bool:=(F33 x).isSome
def G33 (x:Den A33):Den R33:=(F33 x).getD (zero R33)
theorem sem33:SemOK Tryz.prog (33,fnMean A33 R33 K33 G33):=fn_opt (env_ok mixed tab_ok eqs_ok (.cons sem50 (.cons sem51 (.cons sem18 (.cons sem52 .nil))))) (fnIs Tryz.func33 rfl rfl rfl (by kernel_rfl) (noLoops (by kernel_rfl))) fun x => ev33 K50 G50 K51 G51 K18 G18 K52 G52 x
abbrev I19:Sg:=⟨[.val (S25),.val (S30),.val (.int .i64),.val (.int .i64)],[]⟩
abbrev O19:Sg:=⟨[.own (.int .i64) 0,.own (.int .i64) 1],[.arr (.int .i64),.arr (.int .i64)]⟩
abbrev V19_4:Type:=((Int × (Int × (Unit × (Unit × (Unit × (Unit × (Int × Unit))))))) × ((Int × (Int × (Int × ((List (Den (.slice (.cpx .f32)))) × Unit)))) × (((List (Den (.flt .f32))) × ((List (Den (.int .i64))) × ((List (Den (.slice (.flt .f32)))) × Unit))) × ((List (Den (.int .i64))) × ((List (Den (.int .i64))) × Unit)))))
def sh19_4:ShS:=⟨[(2,.one (.int .i64)),(3,.one (.int .i64)),(4,.one (.ptr 0 0)),(5,.one (.ptr 1 0)),(10,.one (.ref (.int .i64) 2)),(11,.one (.ref (.int .i64) 3)),(12,.one (.int .i64))],[(0,.box [.int .i64,.int .i64,.int .i64,.sl (.slice (.cpx .f32))]),(1,.box [.sl (.flt .f32),.sl (.int .i64),.sl (.slice (.flt .f32))]),(2,.arr (.int .i64)),(3,.arr (.int .i64))],4,0⟩
abbrev X19_4:Type:=((Int × (Int × (Unit × (Unit × (Unit × (Unit × Unit)))))) × ((Int × (Int × (Int × ((List (Den (.slice (.cpx .f32)))) × Unit)))) × (((List (Den (.flt .f32))) × ((List (Den (.int .i64))) × ((List (Den (.slice (.flt .f32)))) × Unit))) × ((List (Den (.int .i64))) × ((List (Den (.int .i64))) × Unit)))))
def shX19_4:ShS:=⟨[(2,.one (.int .i64)),(3,.one (.int .i64)),(4,.one (.ptr 0 0)),(5,.one (.ptr 1 0)),(10,.one (.ref (.int .i64) 2)),(11,.one (.ref (.int .i64) 3))],[(0,.box [.int .i64,.int .i64,.int .i64,.sl (.slice (.cpx .f32))]),(1,.box [.sl (.flt .f32),.sl (.int .i64),.sl (.slice (.flt .f32))]),(2,.arr (.int .i64)),(3,.arr (.int .i64))],4,0⟩
abbrev V19_10:Type:=((Unit × (Unit × (Unit × (Unit × (Unit × Unit))))) × ((Int × (Int × (Int × ((List (Den (.slice (.cpx .f32)))) × Unit)))) × (((List (Den (.flt .f32))) × ((List (Den (.int .i64))) × ((List (Den (.slice (.flt .f32)))) × Unit))) × ((List (Den (.int .i64))) × ((List (Den (.int .i64))) × ((List (Den (.bool))) × Unit))))))
def sh19_10:ShS:=⟨[(4,.one (.ptr 0 0)),(5,.one (.ptr 1 0)),(10,.one (.ref (.int .i64) 2)),(11,.one (.ref (.int .i64) 3)),(13,.one (.ref (.bool) 4))],[(0,.box [.int .i64,.int .i64,.int .i64,.sl (.slice (.cpx .f32))]),(1,.box [.sl (.flt .f32),.sl (.int .i64),.sl (.slice (.flt .f32))]),(2,.arr (.int .i64)),(3,.arr (.int .i64)),(4,.arr (.bool))],5,0⟩
abbrev X19_10:Type:=(Unit × Unit)
def shX19_10:ShS:=⟨[],[],0,0⟩
abbrev Y19_10:Type:=((Unit × (Unit × Unit)) × ((List (Den (.int .i64))) × ((List (Den (.int .i64))) × Unit)))
def shY19_10:ShS:=⟨[(8,.one (.ref (.int .i64) 0)),(9,.one (.ref (.int .i64) 1))],[(0,.arr (.int .i64)),(1,.arr (.int .i64))],2,0⟩
abbrev V19_12:Type:=((Unit × (Unit × (Unit × (Unit × (Unit × (Int × (Int × Unit))))))) × ((Int × (Int × (Int × ((List (Den (.slice (.cpx .f32)))) × Unit)))) × (((List (Den (.flt .f32))) × ((List (Den (.int .i64))) × ((List (Den (.slice (.flt .f32)))) × Unit))) × ((List (Den (.int .i64))) × ((List (Den (.int .i64))) × ((List (Den (.bool))) × Unit))))))
def sh19_12:ShS:=⟨[(4,.one (.ptr 0 0)),(5,.one (.ptr 1 0)),(10,.one (.ref (.int .i64) 2)),(11,.one (.ref (.int .i64) 3)),(13,.one (.ref (.bool) 4)),(14,.one (.int .i64)),(15,.one (.int .i64))],[(0,.box [.int .i64,.int .i64,.int .i64,.sl (.slice (.cpx .f32))]),(1,.box [.sl (.flt .f32),.sl (.int .i64),.sl (.slice (.flt .f32))]),(2,.arr (.int .i64)),(3,.arr (.int .i64)),(4,.arr (.bool))],5,0⟩
abbrev X19_12:Type:=((Unit × (Unit × (Unit × (Unit × (Unit × (Int × Unit)))))) × ((Int × (Int × (Int × ((List (Den (.slice (.cpx .f32)))) × Unit)))) × (((List (Den (.flt .f32))) × ((List (Den (.int .i64))) × ((List (Den (.slice (.flt .f32)))) × Unit))) × ((List (Den (.int .i64))) × ((List (Den (.int .i64))) × ((List (Den (.bool))) × Unit))))))
def shX19_12:ShS:=⟨[(4,.one (.ptr 0 0)),(5,.one (.ptr 1 0)),(10,.one (.ref (.int .i64) 2)),(11,.one (.ref (.int .i64) 3)),(13,.one (.ref (.bool) 4)),(14,.one (.int .i64))],[(0,.box [.int .i64,.int .i64,.int .i64,.sl (.slice (.cpx .f32))]),(1,.box [.sl (.flt .f32),.sl (.int .i64),.sl (.slice (.flt .f32))]),(2,.arr (.int .i64)),(3,.arr (.int .i64)),(4,.arr (.bool))],5,0⟩
abbrev V19_20:Type:=((Unit × (Unit × (Unit × (Unit × (Unit × (Int × (Int × Unit))))))) × ((Int × (Int × (Int × ((List (Den (.slice (.cpx .f32)))) × Unit)))) × (((List (Den (.flt .f32))) × ((List (Den (.int .i64))) × ((List (Den (.slice (.flt .f32)))) × Unit))) × ((List (Den (.int .i64))) × ((List (Den (.int .i64))) × ((List (Den (.bool))) × Unit))))))
def sh19_20:ShS:=⟨[(4,.one (.ptr 0 0)),(5,.one (.ptr 1 0)),(10,.one (.ref (.int .i64) 2)),(11,.one (.ref (.int .i64) 3)),(13,.one (.ref (.bool) 4)),(14,.one (.int .i64)),(16,.one (.int .i64))],[(0,.box [.int .i64,.int .i64,.int .i64,.sl (.slice (.cpx .f32))]),(1,.box [.sl (.flt .f32),.sl (.int .i64),.sl (.slice (.flt .f32))]),(2,.arr (.int .i64)),(3,.arr (.int .i64)),(4,.arr (.bool))],5,0⟩
abbrev X19_20:Type:=((Unit × (Unit × (Unit × (Unit × (Unit × Unit))))) × ((Int × (Int × (Int × ((List (Den (.slice (.cpx .f32)))) × Unit)))) × (((List (Den (.flt .f32))) × ((List (Den (.int .i64))) × ((List (Den (.slice (.flt .f32)))) × Unit))) × ((List (Den (.int .i64))) × ((List (Den (.int .i64))) × ((List (Den (.bool))) × Unit))))))
def shX19_20:ShS:=⟨[(4,.one (.ptr 0 0)),(5,.one (.ptr 1 0)),(10,.one (.ref (.int .i64) 2)),(11,.one (.ref (.int .i64) 3)),(13,.one (.ref (.bool) 4))],[(0,.box [.int .i64,.int .i64,.int .i64,.sl (.slice (.cpx .f32))]),(1,.box [.sl (.flt .f32),.sl (.int .i64),.sl (.slice (.flt .f32))]),(2,.arr (.int .i64)),(3,.arr (.int .i64)),(4,.arr (.bool))],5,0⟩
noncomputable def Γ19 (k33:KA A33) (g33:GA A33 R33) (kl4:V19_4 -> Bool) (xl4:V19_4 -> X19_4) (kl10:V19_10 -> Bool) (xl10:V19_10 -> X19_10) (tl10:V19_10 -> Bool) (yl10:V19_10 -> Y19_10) (kl12:V19_12 -> Bool) (xl12:V19_12 -> X19_12) (kl20:V19_20 -> Bool) (xl20:V19_20 -> X19_20):Env:=mkEnv tab eqs [(33,fnMean A33 R33 k33 g33)] 144 [.tmp 8,.tmp 9] [] [] [(4,loopX [2,3,4,5,10,11,12] [] 0 [2,3,4,5,10,11] [] sh19_4 shX19_4 kl4 xl4),(10,loopR [4,5,10,11,13] [] 9999 [] [] sh19_10 shX19_10 shY19_10 kl10 tl10 xl10 yl10),(12,loopX [4,5,10,11,13,14,15] [] 4 [4,5,10,11,13,14] [] sh19_12 shX19_12 kl12 xl12),(20,loopX [4,5,10,11,13,14,16] [] 6 [4,5,10,11,13] [] sh19_20 shX19_20 kl20 xl20)] [] []
noncomputable def lc19_4:Code:=(loopsOf (bodyOf Tryz.f19)).getD 0 .skip
noncomputable def lc19_10:Code:=(loopsOf (bodyOf Tryz.f19)).getD 1 .skip
noncomputable def lc19_12:Code:=(loopsOf (bodyOf Tryz.f19)).getD 2 .skip
noncomputable def lc19_20:Code:=(loopsOf (bodyOf Tryz.f19)).getD 3 .skip
def q19_20 (k33:KA A33) (g33:GA A33 R33) (f:V19_20 -> Option (X19_20)) (v:V19_20):Option (X19_20):=
 bif (decide (v.1.2.2.2.2.2.2.1 < (↑(List.length v.2.2.2.1):Int))) then
 bif (decide (0 <= v.1.2.2.2.2.2.1) && decide (v.1.2.2.2.2.2.1 < (↑(List.length v.2.2.2.1):Int))) then
 let v0:=(List.getD v.2.2.2.1 (Int.toNat v.1.2.2.2.2.2.1) (zero (Ty.int IntKind.i64)))
 let v1:=(k33 (v.2.1,v.2.2.1,v.1.2.2.2.2.2.1,v.1.2.2.2.2.2.2.1,v0,()))
 bif v1 then
 let v2:=(g33 (v.2.1,v.2.2.1,v.1.2.2.2.2.2.1,v.1.2.2.2.2.2.2.1,v0,()))
 bif (!v2.2.1) then
 let v3:=(IntKind.wrap IntKind.i64 (v.1.2.2.2.2.2.2.1 + 1))
 f (((),((),((),((),((),((v.1.2.2.2.2.2.1),(v3,()))))))),(((v.2.1.1),((v.2.1.2.1),((v.2.1.2.2.1),((v.2.1.2.2.2.1),())))),(((v.2.2.1.1),((v.2.2.1.2.1),((v.2.2.1.2.2.1),()))),((v.2.2.2.1),((v.2.2.2.2.1),((v.2.2.2.2.2.1),()))))))
 else
 bif (decide (0 <= v.1.2.2.2.2.2.1) && decide (v.1.2.2.2.2.2.1 < (↑(List.length v.2.2.2.1):Int))) then
 let v3:=(IntKind.wrap IntKind.i64 (v0 + v2.1))
 bif (decide (v3 > 10000000)) then
 let v4:=(IntKind.wrap IntKind.i64 (v.1.2.2.2.2.2.2.1 + 1))
 f (((),((),((),((),((),((v.1.2.2.2.2.2.1),(v4,()))))))),(((v.2.1.1),((v.2.1.2.1),((v.2.1.2.2.1),((v.2.1.2.2.2.1),())))),(((v.2.2.1.1),((v.2.2.1.2.1),((v.2.2.1.2.2.1),()))),((v.2.2.2.1),((v.2.2.2.2.1),((v.2.2.2.2.2.1),()))))))
 else
 bif (decide (0 <= v.1.2.2.2.2.2.2.1) && decide (v.1.2.2.2.2.2.2.1 < (↑(List.length v.2.2.2.1):Int))) then
 let v4:=(List.getD v.2.2.2.1 (Int.toNat v.1.2.2.2.2.2.2.1) (zero (Ty.int IntKind.i64)))
 bif (decide (v4 < 0)) then
 bif (decide (0 <= v.1.2.2.2.2.2.1) && decide (v.1.2.2.2.2.2.1 < (↑(List.length v.2.2.2.1):Int))) then
 bif (decide (0 <= v.1.2.2.2.2.2.2.1) && decide (v.1.2.2.2.2.2.2.1 < (↑(List.length v.2.2.2.1):Int))) then
 bif (decide (0 <= v.1.2.2.2.2.2.2.1) && decide (v.1.2.2.2.2.2.2.1 < (↑(List.length v.2.2.2.2.1):Int))) then
 let v5:=(IntKind.wrap IntKind.i64 (v.1.2.2.2.2.2.2.1 + 1))
 let v6:=(List.set v.2.2.2.1 (Int.toNat v.1.2.2.2.2.2.2.1) v3)
 let v7:=(List.set v.2.2.2.2.1 (Int.toNat v.1.2.2.2.2.2.2.1) v.1.2.2.2.2.2.1)
 f (((),((),((),((),((),((v.1.2.2.2.2.2.1),(v5,()))))))),(((v.2.1.1),((v.2.1.2.1),((v.2.1.2.2.1),((v.2.1.2.2.2.1),())))),(((v.2.2.1.1),((v.2.2.1.2.1),((v.2.2.1.2.2.1),()))),(v6,(v7,((v.2.2.2.2.2.1),()))))))
 else
 none
 else
 none
 else
 none
 else
 bif (decide (0 <= v.1.2.2.2.2.2.2.1) && decide (v.1.2.2.2.2.2.2.1 < (↑(List.length v.2.2.2.1):Int))) then
 bif (decide (0 <= v.1.2.2.2.2.2.1) && decide (v.1.2.2.2.2.2.1 < (↑(List.length v.2.2.2.1):Int))) then
 bif (decide (v4 > v3)) then
 bif (decide (0 <= v.1.2.2.2.2.2.1) && decide (v.1.2.2.2.2.2.1 < (↑(List.length v.2.2.2.1):Int))) then
 bif (decide (0 <= v.1.2.2.2.2.2.2.1) && decide (v.1.2.2.2.2.2.2.1 < (↑(List.length v.2.2.2.1):Int))) then
 bif (decide (0 <= v.1.2.2.2.2.2.2.1) && decide (v.1.2.2.2.2.2.2.1 < (↑(List.length v.2.2.2.2.1):Int))) then
 let v5:=(IntKind.wrap IntKind.i64 (v.1.2.2.2.2.2.2.1 + 1))
 let v6:=(List.set v.2.2.2.1 (Int.toNat v.1.2.2.2.2.2.2.1) v3)
 let v7:=(List.set v.2.2.2.2.1 (Int.toNat v.1.2.2.2.2.2.2.1) v.1.2.2.2.2.2.1)
 f (((),((),((),((),((),((v.1.2.2.2.2.2.1),(v5,()))))))),(((v.2.1.1),((v.2.1.2.1),((v.2.1.2.2.1),((v.2.1.2.2.2.1),())))),(((v.2.2.1.1),((v.2.2.1.2.1),((v.2.2.1.2.2.1),()))),(v6,(v7,((v.2.2.2.2.2.1),()))))))
 else
 none
 else
 none
 else
 none
 else
 let v5:=(IntKind.wrap IntKind.i64 (v.1.2.2.2.2.2.2.1 + 1))
 f (((),((),((),((),((),((v.1.2.2.2.2.2.1),(v5,()))))))),(((v.2.1.1),((v.2.1.2.1),((v.2.1.2.2.1),((v.2.1.2.2.2.1),())))),(((v.2.2.1.1),((v.2.2.1.2.1),((v.2.2.1.2.2.1),()))),((v.2.2.2.1),((v.2.2.2.2.1),((v.2.2.2.2.2.1),()))))))
 else
 none
 else
 none
 else
 none
 else
 none
 else
 none
 else
 none
 else
 some (((),((),((),((),((),()))))),(((v.2.1.1),((v.2.1.2.1),((v.2.1.2.2.1),((v.2.1.2.2.2.1),())))),(((v.2.2.1.1),((v.2.2.1.2.1),((v.2.2.1.2.2.1),()))),((v.2.2.2.1),((v.2.2.2.2.1),((v.2.2.2.2.2.1),()))))))
theorem evl19_20 (k33:KA A33) (g33:GA A33 R33) (kl4:V19_4 -> Bool) (xl4:V19_4 -> X19_4) (kl10:V19_10 -> Bool) (xl10:V19_10 -> X19_10) (tl10:V19_10 -> Bool) (yl10:V19_10 -> Y19_10) (kl12:V19_12 -> Bool) (xl12:V19_12 -> X19_12) (kl20:V19_20 -> Bool) (xl20:V19_20 -> X19_20) (f:V19_20 -> Option (X19_20)) (v:V19_20):EBk (Γ19 k33 g33 kl4 xl4 kl10 xl10 tl10 yl10 kl12 xl12 kl20 xl20) lc19_20 (roundK [4,5,10,11,13,14,16] [] 6 [4,5,10,11,13] [] (atS sh19_20 f) (endX shX19_20)) (mkS sh19_20 v) = q19_20 k33 g33 f v:=by kernel_rfl
def b19_20 (v:V19_20):Nat:=v.1.2.2.2.2.2.1.natAbs + v.1.2.2.2.2.2.2.1.natAbs + v.2.1.1.natAbs + v.2.1.2.1.natAbs + v.2.1.2.2.1.natAbs + v.2.1.2.2.2.1.length + v.2.2.1.1.length + v.2.2.1.2.1.length + v.2.2.1.2.2.1.length + v.2.2.2.1.length + v.2.2.2.2.1.length + v.2.2.2.2.2.1.length + 1000
def l19_20 (v:V19_20):Option (X19_20):=iter (q19_20 K33 G33) (b19_20 v) v
def kL19_20 (v:V19_20):Bool:=(l19_20 v).isSome
def xL19_20 (v:V19_20):X19_20:=(l19_20 v).getD (((),((),((),((),((),()))))),((0,(0,(0,([],())))),(([],([],([],()))),([],([],([],()))))))
def q19_12 (k33:KA A33) (g33:GA A33 R33) (f:V19_12 -> Option (X19_12)) (v:V19_12):Option (X19_12):=
 bif (decide (v.1.2.2.2.2.2.2.1 < (↑(List.length v.2.2.2.1):Int))) then
 bif (decide (0 <= v.1.2.2.2.2.2.2.1) && decide (v.1.2.2.2.2.2.2.1 < (↑(List.length v.2.2.2.1):Int))) then
 let v0:=(List.getD v.2.2.2.1 (Int.toNat v.1.2.2.2.2.2.2.1) (zero (Ty.int IntKind.i64)))
 bif (decide (v0 ≥ 0)) then
 bif (decide (0 <= v.1.2.2.2.2.2.2.1) && decide (v.1.2.2.2.2.2.2.1 < (↑(List.length v.2.2.2.2.2.1):Int))) then
 let v1:=(List.getD v.2.2.2.2.2.1 (Int.toNat v.1.2.2.2.2.2.2.1) (zero Ty.bool))
 bif (!v1) then
 bif (decide (v.1.2.2.2.2.2.1 < 0)) then
 let v2:=(IntKind.wrap IntKind.i64 (v.1.2.2.2.2.2.2.1 + 1))
 f (((),((),((),((),((),((v.1.2.2.2.2.2.2.1),(v2,()))))))),(((v.2.1.1),((v.2.1.2.1),((v.2.1.2.2.1),((v.2.1.2.2.2.1),())))),(((v.2.2.1.1),((v.2.2.1.2.1),((v.2.2.1.2.2.1),()))),((v.2.2.2.1),((v.2.2.2.2.1),((v.2.2.2.2.2.1),()))))))
 else
 bif (decide (0 <= v.1.2.2.2.2.2.2.1) && decide (v.1.2.2.2.2.2.2.1 < (↑(List.length v.2.2.2.1):Int))) then
 bif (decide (0 <= v.1.2.2.2.2.2.1) && decide (v.1.2.2.2.2.2.1 < (↑(List.length v.2.2.2.1):Int))) then
 let v2:=(List.getD v.2.2.2.1 (Int.toNat v.1.2.2.2.2.2.1) (zero (Ty.int IntKind.i64)))
 bif (decide (v0 < v2)) then
 let v3:=(IntKind.wrap IntKind.i64 (v.1.2.2.2.2.2.2.1 + 1))
 f (((),((),((),((),((),((v.1.2.2.2.2.2.2.1),(v3,()))))))),(((v.2.1.1),((v.2.1.2.1),((v.2.1.2.2.1),((v.2.1.2.2.2.1),())))),(((v.2.2.1.1),((v.2.2.1.2.1),((v.2.2.1.2.2.1),()))),((v.2.2.2.1),((v.2.2.2.2.1),((v.2.2.2.2.2.1),()))))))
 else
 let v3:=(IntKind.wrap IntKind.i64 (v.1.2.2.2.2.2.2.1 + 1))
 f (((),((),((),((),((),((v.1.2.2.2.2.2.1),(v3,()))))))),(((v.2.1.1),((v.2.1.2.1),((v.2.1.2.2.1),((v.2.1.2.2.2.1),())))),(((v.2.2.1.1),((v.2.2.1.2.1),((v.2.2.1.2.2.1),()))),((v.2.2.2.1),((v.2.2.2.2.1),((v.2.2.2.2.2.1),()))))))
 else
 none
 else
 none
 else
 let v2:=(IntKind.wrap IntKind.i64 (v.1.2.2.2.2.2.2.1 + 1))
 f (((),((),((),((),((),((v.1.2.2.2.2.2.1),(v2,()))))))),(((v.2.1.1),((v.2.1.2.1),((v.2.1.2.2.1),((v.2.1.2.2.2.1),())))),(((v.2.2.1.1),((v.2.2.1.2.1),((v.2.2.1.2.2.1),()))),((v.2.2.2.1),((v.2.2.2.2.1),((v.2.2.2.2.2.1),()))))))
 else
 none
 else
 let v1:=(IntKind.wrap IntKind.i64 (v.1.2.2.2.2.2.2.1 + 1))
 f (((),((),((),((),((),((v.1.2.2.2.2.2.1),(v1,()))))))),(((v.2.1.1),((v.2.1.2.1),((v.2.1.2.2.1),((v.2.1.2.2.2.1),())))),(((v.2.2.1.1),((v.2.2.1.2.1),((v.2.2.1.2.2.1),()))),((v.2.2.2.1),((v.2.2.2.2.1),((v.2.2.2.2.2.1),()))))))
 else
 none
 else
 some (((),((),((),((),((),((v.1.2.2.2.2.2.1),())))))),(((v.2.1.1),((v.2.1.2.1),((v.2.1.2.2.1),((v.2.1.2.2.2.1),())))),(((v.2.2.1.1),((v.2.2.1.2.1),((v.2.2.1.2.2.1),()))),((v.2.2.2.1),((v.2.2.2.2.1),((v.2.2.2.2.2.1),()))))))
theorem evl19_12 (k33:KA A33) (g33:GA A33 R33) (kl4:V19_4 -> Bool) (xl4:V19_4 -> X19_4) (kl10:V19_10 -> Bool) (xl10:V19_10 -> X19_10) (tl10:V19_10 -> Bool) (yl10:V19_10 -> Y19_10) (kl12:V19_12 -> Bool) (xl12:V19_12 -> X19_12) (kl20:V19_20 -> Bool) (xl20:V19_20 -> X19_20) (f:V19_12 -> Option (X19_12)) (v:V19_12):EBk (Γ19 k33 g33 kl4 xl4 kl10 xl10 tl10 yl10 kl12 xl12 kl20 xl20) lc19_12 (roundK [4,5,10,11,13,14,15] [] 4 [4,5,10,11,13,14] [] (atS sh19_12 f) (endX shX19_12)) (mkS sh19_12 v) = q19_12 k33 g33 f v:=by kernel_rfl
def b19_12 (v:V19_12):Nat:=v.1.2.2.2.2.2.1.natAbs + v.1.2.2.2.2.2.2.1.natAbs + v.2.1.1.natAbs + v.2.1.2.1.natAbs + v.2.1.2.2.1.natAbs + v.2.1.2.2.2.1.length + v.2.2.1.1.length + v.2.2.1.2.1.length + v.2.2.1.2.2.1.length + v.2.2.2.1.length + v.2.2.2.2.1.length + v.2.2.2.2.2.1.length + 1000
def l19_12 (v:V19_12):Option (X19_12):=iter (q19_12 K33 G33) (b19_12 v) v
def kL19_12 (v:V19_12):Bool:=(l19_12 v).isSome
def xL19_12 (v:V19_12):X19_12:=(l19_12 v).getD (((),((),((),((),((),(0,())))))),((0,(0,(0,([],())))),(([],([],([],()))),([],([],([],()))))))
def q19_10 (k33:KA A33) (g33:GA A33 R33) (kl12:V19_12 -> Bool) (xl12:V19_12 -> X19_12) (kl20:V19_20 -> Bool) (xl20:V19_20 -> X19_20) (f:V19_10 -> Option (X19_10 ⊕ Y19_10)) (v:V19_10):Option (X19_10 ⊕ Y19_10):=
 let v0:=(kl12 (((),(),(),(),(),-1,0,()),v.2))
 bif v0 then
 let v1:=(xl12 (((),(),(),(),(),-1,0,()),v.2))
 bif (decide (v1.1.2.2.2.2.2.1 < 0)) then
 some (Sum.inr (((),((),())),(v1.2.2.2.1,(v1.2.2.2.2.1,()))))
 else
 bif (decide (0 <= v1.1.2.2.2.2.2.1) && decide (v1.1.2.2.2.2.2.1 < (↑(List.length v1.2.2.2.2.2.1):Int))) then
 let v2:=(List.set v1.2.2.2.2.2.1 (Int.toNat v1.1.2.2.2.2.2.1) true)
 let v3:=(kl20 (((),(),(),(),(),v1.1.2.2.2.2.2.1,0,()),v1.2.1,v1.2.2.1,v1.2.2.2.1,v1.2.2.2.2.1,v2,()))
 bif v3 then
 let v4:=(xl20 (((),(),(),(),(),v1.1.2.2.2.2.2.1,0,()),v1.2.1,v1.2.2.1,v1.2.2.2.1,v1.2.2.2.2.1,v2,()))
 f (((),((),((),((),((),()))))),((v4.2.1.1,(v4.2.1.2.1,(v4.2.1.2.2.1,(v4.2.1.2.2.2.1,())))),((v4.2.2.1.1,(v4.2.2.1.2.1,(v4.2.2.1.2.2.1,()))),(v4.2.2.2.1,(v4.2.2.2.2.1,(v4.2.2.2.2.2.1,()))))))
 else
 none
 else
 none
 else
 none
theorem evl19_10 (k33:KA A33) (g33:GA A33 R33) (kl4:V19_4 -> Bool) (xl4:V19_4 -> X19_4) (kl10:V19_10 -> Bool) (xl10:V19_10 -> X19_10) (tl10:V19_10 -> Bool) (yl10:V19_10 -> Y19_10) (kl12:V19_12 -> Bool) (xl12:V19_12 -> X19_12) (kl20:V19_20 -> Bool) (xl20:V19_20 -> X19_20) (f:V19_10 -> Option (X19_10 ⊕ Y19_10)) (v:V19_10):EBk (Γ19 k33 g33 kl4 xl4 kl10 xl10 tl10 yl10 kl12 xl12 kl20 xl20) lc19_10 (roundK [4,5,10,11,13] [] 9999 [] [] (atS sh19_10 f) (endS shX19_10 shY19_10)) (mkS sh19_10 v) = q19_10 k33 g33 kl12 xl12 kl20 xl20 f v:=by kernel_rfl
def b19_10 (v:V19_10):Nat:=v.2.1.1.natAbs + v.2.1.2.1.natAbs + v.2.1.2.2.1.natAbs + v.2.1.2.2.2.1.length + v.2.2.1.1.length + v.2.2.1.2.1.length + v.2.2.1.2.2.1.length + v.2.2.2.1.length + v.2.2.2.2.1.length + v.2.2.2.2.2.1.length + 1000
def l19_10 (v:V19_10):Option (X19_10 ⊕ Y19_10):=iter (q19_10 K33 G33 kL19_12 xL19_12 kL19_20 xL19_20) (b19_10 v) v
def kL19_10 (v:V19_10):Bool:=(l19_10 v).isSome
def tL19_10 (v:V19_10):Bool:=isR (l19_10 v)
def xL19_10 (v:V19_10):X19_10:=xOf ((),()) (l19_10 v)
def yL19_10 (v:V19_10):Y19_10:=yOf (((),((),())),([],([],()))) (l19_10 v)
def q19_4 (k33:KA A33) (g33:GA A33 R33) (f:V19_4 -> Option (X19_4)) (v:V19_4):Option (X19_4):=
 let v0:=(IntKind.wrap IntKind.i64 (v.2.1.1 * v.2.1.2.1))
 bif (decide (v.1.2.2.2.2.2.2.1 < v0)) then
 let v1:=(List.set (List.replicate 1 (zero (Ty.int IntKind.i64))) 0 (-1))
 bif (capOk (List.length v.2.2.2.1 + List.length v1)) then
 bif (capOk (List.length v.2.2.2.2.1 + List.length v1)) then
 let v2:=(IntKind.wrap IntKind.i64 (v.1.2.2.2.2.2.2.1 + 1))
 let v3:=(v.2.2.2.1 ++ v1)
 let v4:=(v.2.2.2.2.1 ++ v1)
 f (((v.1.1),((v.1.2.1),((),((),((),((),(v2,()))))))),(((v.2.1.1),((v.2.1.2.1),((v.2.1.2.2.1),((v.2.1.2.2.2.1),())))),(((v.2.2.1.1),((v.2.2.1.2.1),((v.2.2.1.2.2.1),()))),(v3,(v4,())))))
 else
 none
 else
 none
 else
 some (((v.1.1),((v.1.2.1),((),((),((),((),())))))),(((v.2.1.1),((v.2.1.2.1),((v.2.1.2.2.1),((v.2.1.2.2.2.1),())))),(((v.2.2.1.1),((v.2.2.1.2.1),((v.2.2.1.2.2.1),()))),((v.2.2.2.1),((v.2.2.2.2.1),())))))
theorem evl19_4 (k33:KA A33) (g33:GA A33 R33) (kl4:V19_4 -> Bool) (xl4:V19_4 -> X19_4) (kl10:V19_10 -> Bool) (xl10:V19_10 -> X19_10) (tl10:V19_10 -> Bool) (yl10:V19_10 -> Y19_10) (kl12:V19_12 -> Bool) (xl12:V19_12 -> X19_12) (kl20:V19_20 -> Bool) (xl20:V19_20 -> X19_20) (f:V19_4 -> Option (X19_4)) (v:V19_4):EBk (Γ19 k33 g33 kl4 xl4 kl10 xl10 tl10 yl10 kl12 xl12 kl20 xl20) lc19_4 (roundK [2,3,4,5,10,11,12] [] 0 [2,3,4,5,10,11] [] (atS sh19_4 f) (endX shX19_4)) (mkS sh19_4 v) = q19_4 k33 g33 f v:=by kernel_rfl
def b19_4 (v:V19_4):Nat:=v.1.1.natAbs + v.1.2.1.natAbs + v.1.2.2.2.2.2.2.1.natAbs + v.2.1.1.natAbs + v.2.1.2.1.natAbs + v.2.1.2.2.1.natAbs + v.2.1.2.2.2.1.length + v.2.2.1.1.length + v.2.2.1.2.1.length + v.2.2.1.2.2.1.length + v.2.2.2.1.length + v.2.2.2.2.1.length + 1000
def l19_4 (v:V19_4):Option (X19_4):=iter (q19_4 K33 G33) (b19_4 v) v
def kL19_4 (v:V19_4):Bool:=(l19_4 v).isSome
def xL19_4 (v:V19_4):X19_4:=(l19_4 v).getD ((0,(0,((),((),((),((),())))))),((0,(0,(0,([],())))),(([],([],([],()))),([],([],())))))
def r19 (k33:KA A33) (g33:GA A33 R33) (kl4:V19_4 -> Bool) (xl4:V19_4 -> X19_4) (kl10:V19_10 -> Bool) (xl10:V19_10 -> X19_10) (tl10:V19_10 -> Bool) (yl10:V19_10 -> Y19_10) (kl12:V19_12 -> Bool) (xl12:V19_12 -> X19_12) (kl20:V19_20 -> Bool) (xl20:V19_20 -> X19_20) (x:I19.den):Option (O19.den):=
 let v0:=(kl4 ((x.1.2.2.1,x.1.2.2.2.1,(),(),(),(),0,()),x.1.1,x.1.2.1,List.replicate 0 (zero (Ty.int IntKind.i64)),List.replicate 0 (zero (Ty.int IntKind.i64)),()))
 bif v0 then
 let v1:=(xl4 ((x.1.2.2.1,x.1.2.2.2.1,(),(),(),(),0,()),x.1.1,x.1.2.1,List.replicate 0 (zero (Ty.int IntKind.i64)),List.replicate 0 (zero (Ty.int IntKind.i64)),()))
 bif (decide (0 <= (↑(List.length v1.2.2.2.1):Int)) && capOk (Int.toNat (↑(List.length v1.2.2.2.1):Int)) && (↑(List.length v1.2.2.2.1):Int) == (↑(List.length v1.2.2.2.1):Int)) then
 bif (decide (0 <= v1.1.1) && decide (v1.1.1 < (↑(List.length v1.2.2.2.1):Int))) then
 let v2:=(List.set v1.2.2.2.1 (Int.toNat v1.1.1) v1.1.2.1)
 let v3:=(kl10 (((),(),(),(),(),()),v1.2.1,v1.2.2.1,v2,v1.2.2.2.2.1,List.replicate (Int.toNat (↑(List.length v1.2.2.2.1):Int)) (zero Ty.bool),()))
 bif v3 then
 let v4:=(tl10 (((),(),(),(),(),()),v1.2.1,v1.2.2.1,v2,v1.2.2.2.2.1,List.replicate (Int.toNat (↑(List.length v1.2.2.2.1):Int)) (zero Ty.bool),()))
 bif v4 then
 let v5:=(yl10 (((),(),(),(),(),()),v1.2.1,v1.2.2.1,v2,v1.2.2.2.2.1,List.replicate (Int.toNat (↑(List.length v1.2.2.2.1):Int)) (zero Ty.bool),()))
 some (((),((),())),(v5.2.1,(v5.2.2.1,())))
 else
 none
 else
 none
 else
 none
 else
 none
 else
 none
theorem ev19 (k33:KA A33) (g33:GA A33 R33) (kl4:V19_4 -> Bool) (xl4:V19_4 -> X19_4) (kl10:V19_10 -> Bool) (xl10:V19_10 -> X19_10) (tl10:V19_10 -> Bool) (yl10:V19_10 -> Y19_10) (kl12:V19_12 -> Bool) (xl12:V19_12 -> X19_12) (kl20:V19_20 -> Bool) (xl20:V19_20 -> X19_20) (x:I19.den):callS (Γ19 k33 g33 kl4 xl4 kl10 xl10 tl10 yl10 kl12 xl12 kl20 xl20) (bodyOf Tryz.f19) I19 O19 x = r19 k33 g33 kl4 xl4 kl10 xl10 tl10 yl10 kl12 xl12 kl20 xl20 x:=by kernel_rfl
def F19 (x:I19.den):Option (O19.den):=r19 K33 G33 kL19_4 xL19_4 kL19_10 xL19_10 tL19_10 yL19_10 kL19_12 xL19_12 kL19_20 xL19_20 x
def K19 (x:I19.den):Bool:=(F19 x).isSome
def G19 (x:I19.den):O19.den:=(F19 x).getD (zeroSg O19)
theorem sem19:SemOK Tryz.prog (19,sgMean false I19 O19 K19 G19):=sg_opt (env_ok mixed tab_ok eqs_ok (.cons sem33 .nil)) (fnIs Tryz.func19 rfl rfl rfl (by kernel_rfl) (loops_ok (l:=[lc19_4,lc19_10,lc19_12,lc19_20]) (by kernel_rfl) (.cons (one_loop rfl (loopX_sound (sh:=sh19_4) (shX:=shX19_4) (fun f v => evl19_4 K33 G33 kL19_4 xL19_4 kL19_10 xL19_10 tL19_10 yL19_10 kL19_12 xL19_12 kL19_20 xL19_20 f v) b19_4 ((0,(0,((),((),((),((),())))))),((0,(0,(0,([],())))),(([],([],([],()))),([],([],()))))))) (.cons (one_loop rfl (loopR_sound (sh:=sh19_10) (shX:=shX19_10) (shR:=shY19_10) (fun f v => evl19_10 K33 G33 kL19_4 xL19_4 kL19_10 xL19_10 tL19_10 yL19_10 kL19_12 xL19_12 kL19_20 xL19_20 f v) b19_10 ((),()) (((),((),())),([],([],()))))) (.cons (one_loop rfl (loopX_sound (sh:=sh19_12) (shX:=shX19_12) (fun f v => evl19_12 K33 G33 kL19_4 xL19_4 kL19_10 xL19_10 tL19_10 yL19_10 kL19_12 xL19_12 kL19_20 xL19_20 f v) b19_12 (((),((),((),((),((),(0,())))))),((0,(0,(0,([],())))),(([],([],([],()))),([],([],([],())))))))) (.cons (one_loop rfl (loopX_sound (sh:=sh19_20) (shX:=shX19_20) (fun f v => evl19_20 K33 G33 kL19_4 xL19_4 kL19_10 xL19_10 tL19_10 yL19_10 kL19_12 xL19_12 kL19_20 xL19_20 f v) b19_20 (((),((),((),((),((),()))))),((0,(0,(0,([],())))),(([],([],([],()))),([],([],([],())))))))) (.nil))))))) false fun x => ev19 K33 G33 kL19_4 xL19_4 kL19_10 xL19_10 tL19_10 yL19_10 kL19_12 xL19_12 kL19_20 xL19_20 x
abbrev I9:Sg:=⟨[.val (S25),.val (S30),.val (.int .i64),.val (.int .i64)],[]⟩
abbrev O9:Sg:=⟨[.own (.int .i64) 0],[.arr (.int .i64)]⟩
def r9 (k16:KA A16) (g16:GA A16 R16) (k17:KA A17) (g17:GA A17 R17) (k18:KA A18) (g18:GA A18 R18) (k19:KI I19) (g19:GI I19 O19) (x:I9.den):Option (O9.den):=
 let v0:=(k16 (x.1.1,()))
 bif v0 then
 let v1:=(g16 (x.1.1,()))
 bif (!v1.1) then
 some (((),()),((List.replicate 0 (zero (Ty.int IntKind.i64))),()))
 else
 let v2:=(k17 (x.1.2.1,()))
 bif v2 then
 let v3:=(g17 (x.1.2.1,()))
 bif (!v3.1) then
 some (((),()),((List.replicate 0 (zero (Ty.int IntKind.i64))),()))
 else
 let v4:=(IntKind.wrap IntKind.i64 (x.1.1.1 * x.1.1.2.1))
 let v5:=(IntKind.wrap IntKind.i64 (v4 - 1))
 let v6:=(k18 (x.1.2.2.1,0,v5,()))
 bif v6 then
 let v7:=(g18 (x.1.2.2.1,0,v5,()))
 bif (!v7.1) then
 some (((),()),((List.replicate 0 (zero (Ty.int IntKind.i64))),()))
 else
 let v8:=(k18 (x.1.2.2.2.1,0,10000000,()))
 bif v8 then
 let v9:=(g18 (x.1.2.2.2.1,0,10000000,()))
 bif (!v9.1) then
 some (((),()),((List.replicate 0 (zero (Ty.int IntKind.i64))),()))
 else
 let v10:=(k19 x)
 bif v10 then
 let v11:=(g19 x)
 some (((),()),(v11.2.1,()))
 else
 none
 else
 none
 else
 none
 else
 none
 else
 none
def F9 (x:I9.den):Option (O9.den):=r9 K16 G16 K17 G17 K18 G18 K19 G19 x
def K9 (x:I9.den):Bool:=(F9 x).isSome
def G9 (x:I9.den):O9.den:=(F9 x).getD (zeroSg O9)
abbrev A12:Ty:=.cons (S25) (.cons (S30) (.cons (.slice (.int .i64)) (.cons (.int .i64) (.nil))))
abbrev R12:Ty:=.cons (.int .i64) (.cons (.bool) (.nil))
abbrev V12_4:Type:=(((List (Den (.int .i64))) × (Int × (Unit × (Unit × (Int × Unit))))) × ((Int × (Int × (Int × ((List (Den (.slice (.cpx .f32)))) × Unit)))) × (((List (Den (.flt .f32))) × ((List (Den (.int .i64))) × ((List (Den (.slice (.flt .f32)))) × Unit))) × Unit)))
def sh12_4:ShS:=⟨[(2,.one (.sl (.int .i64))),(3,.one (.int .i64)),(4,.one (.ptr 0 0)),(5,.one (.ptr 1 0)),(10,.one (.int .i64))],[(0,.box [.int .i64,.int .i64,.int .i64,.sl (.slice (.cpx .f32))]),(1,.box [.sl (.flt .f32),.sl (.int .i64),.sl (.slice (.flt .f32))])],2,0⟩
abbrev X12_4:Type:=((Int × Unit) × Unit)
def shX12_4:ShS:=⟨[(3,.one (.int .i64))],[],0,0⟩
abbrev Y12_4:Type:=((Int × (Bool × Unit)) × Unit)
def shY12_4:ShS:=⟨[(8,.one (.int .i64)),(9,.one (.bool))],[],0,0⟩
noncomputable def Γ12 (k16:KA A16) (g16:GA A16 R16) (k17:KA A17) (g17:GA A17 R17) (k18:KA A18) (g18:GA A18 R18) (k33:KA A33) (g33:GA A33 R33) (kl4:V12_4 -> Bool) (xl4:V12_4 -> X12_4) (tl4:V12_4 -> Bool) (yl4:V12_4 -> Y12_4):Env:=mkEnv tab eqs [(16,fnMean A16 R16 k16 g16),(17,fnMean A17 R17 k17 g17),(18,fnMean A18 R18 k18 g18),(33,fnMean A33 R33 k33 g33)] 79 [.tmp 8,.tmp 9] [] [] [(4,loopR [2,3,4,5,10] [] 0 [3] [] sh12_4 shX12_4 shY12_4 kl4 tl4 xl4 yl4)] [] []
noncomputable def lc12_4:Code:=(loopsOf (bodyOf Tryz.f12)).getD 0 .skip
def q12_4 (k16:KA A16) (g16:GA A16 R16) (k17:KA A17) (g17:GA A17 R17) (k18:KA A18) (g18:GA A18 R18) (k33:KA A33) (g33:GA A33 R33) (f:V12_4 -> Option (X12_4 ⊕ Y12_4)) (v:V12_4):Option (X12_4 ⊕ Y12_4):=
 bif (decide (v.1.2.2.2.2.1 < (↑(List.length v.1.1):Int))) then
 let v0:=(IntKind.wrap IntKind.i64 (v.1.2.2.2.2.1 - 1))
 bif (decide (0 <= v0) && decide (v0 < (↑(List.length v.1.1):Int))) then
 bif (decide (0 <= v.1.2.2.2.2.1) && decide (v.1.2.2.2.2.1 < (↑(List.length v.1.1):Int))) then
 let v1:=(List.getD v.1.1 (Int.toNat v0) (zero (Ty.int IntKind.i64)))
 let v2:=(List.getD v.1.1 (Int.toNat v.1.2.2.2.2.1) (zero (Ty.int IntKind.i64)))
 let v3:=(k33 (v.2.1,v.2.2.1,v1,v2,v.1.2.1,()))
 bif v3 then
 let v4:=(g33 (v.2.1,v.2.2.1,v1,v2,v.1.2.1,()))
 bif (!v4.2.1) then
 some (Sum.inr (((0),((false),())),()))
 else
 let v5:=(IntKind.wrap IntKind.i64 (v.1.2.1 + v4.1))
 bif (decide (v5 > 10000000)) then
 some (Sum.inr (((0),((false),())),()))
 else
 let v6:=(IntKind.wrap IntKind.i64 (v.1.2.2.2.2.1 + 1))
 f (((v.1.1),(v5,((),((),(v6,()))))),(((v.2.1.1),((v.2.1.2.1),((v.2.1.2.2.1),((v.2.1.2.2.2.1),())))),(((v.2.2.1.1),((v.2.2.1.2.1),((v.2.2.1.2.2.1),()))),())))
 else
 none
 else
 none
 else
 none
 else
 some (Sum.inl (((v.1.2.1),()),()))
theorem evl12_4 (k16:KA A16) (g16:GA A16 R16) (k17:KA A17) (g17:GA A17 R17) (k18:KA A18) (g18:GA A18 R18) (k33:KA A33) (g33:GA A33 R33) (kl4:V12_4 -> Bool) (xl4:V12_4 -> X12_4) (tl4:V12_4 -> Bool) (yl4:V12_4 -> Y12_4) (f:V12_4 -> Option (X12_4 ⊕ Y12_4)) (v:V12_4):EBk (Γ12 k16 g16 k17 g17 k18 g18 k33 g33 kl4 xl4 tl4 yl4) lc12_4 (roundK [2,3,4,5,10] [] 0 [3] [] (atS sh12_4 f) (endS shX12_4 shY12_4)) (mkS sh12_4 v) = q12_4 k16 g16 k17 g17 k18 g18 k33 g33 f v:=by kernel_rfl
def b12_4 (v:V12_4):Nat:=v.1.1.length + v.1.2.1.natAbs + v.1.2.2.2.2.1.natAbs + v.2.1.1.natAbs + v.2.1.2.1.natAbs + v.2.1.2.2.1.natAbs + v.2.1.2.2.2.1.length + v.2.2.1.1.length + v.2.2.1.2.1.length + v.2.2.1.2.2.1.length + 1000
def l12_4 (v:V12_4):Option (X12_4 ⊕ Y12_4):=iter (q12_4 K16 G16 K17 G17 K18 G18 K33 G33) (b12_4 v) v
def kL12_4 (v:V12_4):Bool:=(l12_4 v).isSome
def tL12_4 (v:V12_4):Bool:=isR (l12_4 v)
def xL12_4 (v:V12_4):X12_4:=xOf ((0,()),()) (l12_4 v)
def yL12_4 (v:V12_4):Y12_4:=yOf ((0,(false,())),()) (l12_4 v)
def r12 (k16:KA A16) (g16:GA A16 R16) (k17:KA A17) (g17:GA A17 R17) (k18:KA A18) (g18:GA A18 R18) (k33:KA A33) (g33:GA A33 R33) (kl4:V12_4 -> Bool) (xl4:V12_4 -> X12_4) (tl4:V12_4 -> Bool) (yl4:V12_4 -> Y12_4) (x:Den A12):Option (Den R12):=
 let v0:=(k16 (x.1,()))
 bif v0 then
 let v1:=(g16 (x.1,()))
 bif (!v1.1) then
 some ((0),((false),()))
 else
 let v2:=(k17 (x.2.1,()))
 bif v2 then
 let v3:=(g17 (x.2.1,()))
 bif (!v3.1) then
 some ((0),((false),()))
 else
 let v4:=(k18 ((↑(List.length x.2.2.1):Int),1,200,()))
 bif v4 then
 let v5:=(g18 ((↑(List.length x.2.2.1):Int),1,200,()))
 bif (!v5.1) then
 some ((0),((false),()))
 else
 bif (decide (0 <= 0) && decide (0 < (↑(List.length x.2.2.1):Int))) then
 let v6:=(List.getD x.2.2.1 (Int.toNat 0) (zero (Ty.int IntKind.i64)))
 let v7:=(IntKind.wrap IntKind.i64 (x.1.1 * x.1.2.1))
 let v8:=(IntKind.wrap IntKind.i64 (v7 - 1))
 let v9:=(k18 (v6,0,v8,()))
 bif v9 then
 let v10:=(g18 (v6,0,v8,()))
 bif (!v10.1) then
 some ((0),((false),()))
 else
 let v11:=(k18 (x.2.2.2.1,0,10000000,()))
 bif v11 then
 let v12:=(g18 (x.2.2.2.1,0,10000000,()))
 bif (!v12.1) then
 some ((0),((false),()))
 else
 let v13:=(kl4 ((x.2.2.1,x.2.2.2.1,(),(),1,()),x.1,x.2.1,()))
 bif v13 then
 let v14:=(tl4 ((x.2.2.1,x.2.2.2.1,(),(),1,()),x.1,x.2.1,()))
 bif v14 then
 let v15:=(yl4 ((x.2.2.1,x.2.2.2.1,(),(),1,()),x.1,x.2.1,()))
 some (v15.1.1,(v15.1.2.1,()))
 else
 let v15:=(xl4 ((x.2.2.1,x.2.2.2.1,(),(),1,()),x.1,x.2.1,()))
 some (v15.1.1,((true),()))
 else
 none
 else
 none
 else
 none
 else
 none
 else
 none
 else
 none
 else
 none
theorem ev12 (k16:KA A16) (g16:GA A16 R16) (k17:KA A17) (g17:GA A17 R17) (k18:KA A18) (g18:GA A18 R18) (k33:KA A33) (g33:GA A33 R33) (kl4:V12_4 -> Bool) (xl4:V12_4 -> X12_4) (tl4:V12_4 -> Bool) (yl4:V12_4 -> Y12_4) (x:Den A12):callK (Γ12 k16 g16 k17 g17 k18 g18 k33 g33 kl4 xl4 tl4 yl4) (bodyOf Tryz.f12) (decR R12) (encA A12 x) [] = r12 k16 g16 k17 g17 k18 g18 k33 g33 kl4 xl4 tl4 yl4 x:=by kernel_rfl
def F12 (x:Den A12):Option (Den R12):=r12 K16 G16 K17 G17 K18 G18 K33 G33 kL12_4 xL12_4 tL12_4 yL12_4 x
def K12 (x:Den A12):Bool:=(F12 x).isSome
def G12 (x:Den A12):Den R12:=(F12 x).getD (zero R12)
theorem sem12:SemOK Tryz.prog (12,fnMean A12 R12 K12 G12):=fn_opt (env_ok mixed tab_ok eqs_ok (.cons sem16 (.cons sem17 (.cons sem18 (.cons sem33 .nil))))) (fnIs Tryz.func12 rfl rfl rfl (by kernel_rfl) (loops_ok (l:=[lc12_4]) (by kernel_rfl) (.cons (one_loop rfl (loopR_sound (sh:=sh12_4) (shX:=shX12_4) (shR:=shY12_4) (fun f v => evl12_4 K16 G16 K17 G17 K18 G18 K33 G33 kL12_4 xL12_4 tL12_4 yL12_4 f v) b12_4 ((0,()),()) ((0,(false,())),()))) (.nil)))) fun x => ev12 K16 G16 K17 G17 K18 G18 K33 G33 kL12_4 xL12_4 tL12_4 yL12_4 x
abbrev A38:Ty:=.cons (.flt .f32) (.nil)
abbrev R38:Ty:=.cons (.bool) (.nil)
noncomputable def Γ38:Env:=mkEnv tab eqs [] 9 [.tmp 2] [] [] [] [] []
def r38 (x:Den A38):Option (Den R38):=
 bif (fgt FloatKind.f32 x.1 0 || feq FloatKind.f32 x.1 0) then
 some ((flt FloatKind.f32 x.1 1112014848 || feq FloatKind.f32 x.1 1112014848),())
 else
 some ((false),())
theorem ev38 (x:Den A38):callK (Γ38) (bodyOf Tryz.f38) (decR R38) (encA A38 x) [] = r38 x:=by kernel_rfl
def F38 (x:Den A38):Option (Den R38):=r38 x
def K38 (x:Den A38):Bool:=(F38 x).isSome
def G38 (x:Den A38):Den R38:=(F38 x).getD (zero R38)
theorem sem38:SemOK Tryz.prog (38,fnMean A38 R38 K38 G38):=fn_opt (env_ok mixed tab_ok eqs_ok .nil) (fnIs Tryz.func38 rfl rfl rfl (by kernel_rfl) (noLoops (by kernel_rfl))) fun x => ev38 x
abbrev A37:Ty:=.cons (.flt .f32) (.nil)
abbrev R37:Ty:=.cons (.bool) (.nil)
noncomputable def Γ37 (k38:KA A38) (g38:GA A38 R38):Env:=mkEnv tab eqs [(38,fnMean A38 R38 k38 g38)] 6 [.tmp 2] [] [] [] [] []
def r37 (k38:KA A38) (g38:GA A38 R38) (x:Den A37):Option (Den R37):=
 let v0:=(k38 x)
 bif v0 then
 let v1:=(g38 x)
 some ((!v1.1),())
 else
 none
theorem ev37 (k38:KA A38) (g38:GA A38 R38) (x:Den A37):callK (Γ37 k38 g38) (bodyOf Tryz.f37) (decR R37) (encA A37 x) [] = r37 k38 g38 x:=by kernel_rfl
def F37 (x:Den A37):Option (Den R37):=r37 K38 G38 x
def K37 (x:Den A37):Bool:=(F37 x).isSome
def G37 (x:Den A37):Den R37:=(F37 x).getD (zero R37)
theorem sem37:SemOK Tryz.prog (37,fnMean A37 R37 K37 G37):=fn_opt (env_ok mixed tab_ok eqs_ok (.cons sem38 .nil)) (fnIs Tryz.func37 rfl rfl rfl (by kernel_rfl) (noLoops (by kernel_rfl))) fun x => ev37 K38 G38 x
abbrev I55:Sg:=⟨[.val (.slice (.flt .f32)),.fnv 37 []],[]⟩
abbrev O55:Sg:=⟨[.val (.int .i64)],[]⟩
abbrev V55_2:Type:=(((List (Den (.flt .f32))) × (Unit × (Int × (Int × Unit)))) × Unit)
def sh55_2:ShS:=⟨[(0,.one (.sl (.flt .f32))),(1,.one (.fn 37 [])),(7,.one (.int .i64)),(8,.one (.int .i64))],[],0,0⟩
abbrev X55_2:Type:=(Unit × Unit)
def shX55_2:ShS:=⟨[],[],0,0⟩
abbrev Y55_2:Type:=((Int × Unit) × Unit)
def shY55_2:ShS:=⟨[(4,.one (.int .i64))],[],0,0⟩
noncomputable def Γ55 (k37:KA A37) (g37:GA A37 R37) (kl2:V55_2 -> Bool) (xl2:V55_2 -> X55_2) (tl2:V55_2 -> Bool) (yl2:V55_2 -> Y55_2):Env:=mkEnv tab eqs [(37,fnMean A37 R37 k37 g37)] 19 [.tmp 4] [] [] [(2,loopR [0,1,7,8] [] 0 [] [] sh55_2 shX55_2 shY55_2 kl2 tl2 xl2 yl2)] [] []
noncomputable def lc55_2:Code:=(loopsOf (bodyOf Tryz.f55)).getD 0 .skip
def q55_2 (k37:KA A37) (g37:GA A37 R37) (f:V55_2 -> Option (X55_2 ⊕ Y55_2)) (v:V55_2):Option (X55_2 ⊕ Y55_2):=
 bif (decide (v.1.2.2.2.1 < v.1.2.2.1)) then
 bif (decide (0 <= v.1.2.2.2.1) && decide (v.1.2.2.2.1 < (↑(List.length v.1.1):Int))) then
 let v0:=(List.getD v.1.1 (Int.toNat v.1.2.2.2.1) (zero (Ty.flt FloatKind.f32)))
 let v1:=(k37 (v0,()))
 bif v1 then
 let v2:=(g37 (v0,()))
 bif v2.1 then
 some (Sum.inr (((v.1.2.2.2.1),()),()))
 else
 let v3:=(IntKind.wrap IntKind.i64 (v.1.2.2.2.1 + 1))
 f (((v.1.1),((),((v.1.2.2.1),(v3,())))),())
 else
 none
 else
 none
 else
 some (Sum.inl ((),()))
theorem evl55_2 (k37:KA A37) (g37:GA A37 R37) (kl2:V55_2 -> Bool) (xl2:V55_2 -> X55_2) (tl2:V55_2 -> Bool) (yl2:V55_2 -> Y55_2) (f:V55_2 -> Option (X55_2 ⊕ Y55_2)) (v:V55_2):EBk (Γ55 k37 g37 kl2 xl2 tl2 yl2) lc55_2 (roundK [0,1,7,8] [] 0 [] [] (atS sh55_2 f) (endS shX55_2 shY55_2)) (mkS sh55_2 v) = q55_2 k37 g37 f v:=by kernel_rfl
def b55_2 (v:V55_2):Nat:=v.1.1.length + v.1.2.2.1.natAbs + v.1.2.2.2.1.natAbs + 1000
def l55_2 (v:V55_2):Option (X55_2 ⊕ Y55_2):=iter (q55_2 K37 G37) (b55_2 v) v
def kL55_2 (v:V55_2):Bool:=(l55_2 v).isSome
def tL55_2 (v:V55_2):Bool:=isR (l55_2 v)
def xL55_2 (v:V55_2):X55_2:=xOf ((),()) (l55_2 v)
def yL55_2 (v:V55_2):Y55_2:=yOf ((0,()),()) (l55_2 v)
def r55 (k37:KA A37) (g37:GA A37 R37) (kl2:V55_2 -> Bool) (xl2:V55_2 -> X55_2) (tl2:V55_2 -> Bool) (yl2:V55_2 -> Y55_2) (x:I55.den):Option (O55.den):=
 let v0:=(kl2 ((x.1.1,(),(↑(List.length x.1.1):Int),0,()),()))
 bif v0 then
 let v1:=(tl2 ((x.1.1,(),(↑(List.length x.1.1):Int),0,()),()))
 bif v1 then
 let v2:=(yl2 ((x.1.1,(),(↑(List.length x.1.1):Int),0,()),()))
 some ((v2.1.1,()),())
 else
 some (((-1),()),())
 else
 none
theorem ev55 (k37:KA A37) (g37:GA A37 R37) (kl2:V55_2 -> Bool) (xl2:V55_2 -> X55_2) (tl2:V55_2 -> Bool) (yl2:V55_2 -> Y55_2) (x:I55.den):callS (Γ55 k37 g37 kl2 xl2 tl2 yl2) (bodyOf Tryz.f55) I55 O55 x = r55 k37 g37 kl2 xl2 tl2 yl2 x:=by kernel_rfl
def F55 (x:I55.den):Option (O55.den):=r55 K37 G37 kL55_2 xL55_2 tL55_2 yL55_2 x
def K55 (x:I55.den):Bool:=(F55 x).isSome
def G55 (x:I55.den):O55.den:=(F55 x).getD (zeroSg O55)
theorem sem55:SemOK Tryz.prog (55,sgMean false I55 O55 K55 G55):=sg_opt (env_ok mixed tab_ok eqs_ok (.cons sem37 .nil)) (fnIs Tryz.func55 rfl rfl rfl (by kernel_rfl) (loops_ok (l:=[lc55_2]) (by kernel_rfl) (.cons (one_loop rfl (loopR_sound (sh:=sh55_2) (shX:=shX55_2) (shR:=shY55_2) (fun f v => evl55_2 K37 G37 kL55_2 xL55_2 tL55_2 yL55_2 f v) b55_2 ((),()) ((0,()),()))) (.nil)))) false fun x => ev55 K37 G37 kL55_2 xL55_2 tL55_2 yL55_2 x
abbrev I36:Sg:=⟨[.val (.slice (.flt .f32)),.fnv 37 []],[]⟩
abbrev O36:Sg:=⟨[.val (.bool)],[]⟩
noncomputable def Γ36 (k55:KI I55) (g55:GI I55 O55) (k37:KA A37) (g37:GA A37 R37):Env:=mkEnv tab eqs [(55,sgMean false I55 O55 k55 g55),(37,fnMean A37 R37 k37 g37)] 9 [.tmp 4] [] [] [] [] []
def r36 (k55:KI I55) (g55:GI I55 O55) (k37:KA A37) (g37:GA A37 R37) (x:I36.den):Option (O36.den):=
 let v0:=(k55 ((x.1.1,(),()),()))
 bif v0 then
 let v1:=(g55 ((x.1.1,(),()),()))
 some (((decide (v1.1.1 ≥ 0)),()),())
 else
 none
theorem ev36 (k55:KI I55) (g55:GI I55 O55) (k37:KA A37) (g37:GA A37 R37) (x:I36.den):callS (Γ36 k55 g55 k37 g37) (bodyOf Tryz.f36) I36 O36 x = r36 k55 g55 k37 g37 x:=by kernel_rfl
def F36 (x:I36.den):Option (O36.den):=r36 K55 G55 K37 G37 x
def K36 (x:I36.den):Bool:=(F36 x).isSome
def G36 (x:I36.den):O36.den:=(F36 x).getD (zeroSg O36)
theorem sem36:SemOK Tryz.prog (36,sgMean false I36 O36 K36 G36):=sg_opt (env_ok mixed tab_ok eqs_ok (.cons sem55 (.cons sem37 .nil))) (fnIs Tryz.func36 rfl rfl rfl (by kernel_rfl) (noLoops (by kernel_rfl))) false fun x => ev36 K55 G55 K37 G37 x
abbrev A21:Ty:=.cons (S30) (.nil)
abbrev R21:Ty:=.cons (.bool) (.nil)
abbrev V21_4:Type:=((Unit × ((List (Den (.flt .f32))) × (Int × (Int × Unit)))) × (((List (Den (.flt .f32))) × ((List (Den (.int .i64))) × ((List (Den (.slice (.flt .f32)))) × Unit))) × Unit))
def sh21_4:ShS:=⟨[(1,.one (.ptr 0 0)),(31,.one (.sl (.flt .f32))),(32,.one (.int .i64)),(33,.one (.int .i64))],[(0,.box [.sl (.flt .f32),.sl (.int .i64),.sl (.slice (.flt .f32))])],1,0⟩
abbrev X21_4:Type:=((Unit × Unit) × (((List (Den (.flt .f32))) × ((List (Den (.int .i64))) × ((List (Den (.slice (.flt .f32)))) × Unit))) × Unit))
def shX21_4:ShS:=⟨[(1,.one (.ptr 0 0))],[(0,.box [.sl (.flt .f32),.sl (.int .i64),.sl (.slice (.flt .f32))])],1,0⟩
abbrev Y21_4:Type:=((Bool × Unit) × Unit)
def shY21_4:ShS:=⟨[(2,.one (.bool))],[],0,0⟩
abbrev V21_10:Type:=((Unit × ((List (Den (.int .i64))) × (Int × (Int × Unit)))) × (((List (Den (.flt .f32))) × ((List (Den (.int .i64))) × ((List (Den (.slice (.flt .f32)))) × Unit))) × Unit))
def sh21_10:ShS:=⟨[(1,.one (.ptr 0 0)),(62,.one (.sl (.int .i64))),(63,.one (.int .i64)),(64,.one (.int .i64))],[(0,.box [.sl (.flt .f32),.sl (.int .i64),.sl (.slice (.flt .f32))])],1,0⟩
abbrev X21_10:Type:=((Unit × Unit) × (((List (Den (.flt .f32))) × ((List (Den (.int .i64))) × ((List (Den (.slice (.flt .f32)))) × Unit))) × Unit))
def shX21_10:ShS:=⟨[(1,.one (.ptr 0 0))],[(0,.box [.sl (.flt .f32),.sl (.int .i64),.sl (.slice (.flt .f32))])],1,0⟩
abbrev Y21_10:Type:=((Bool × Unit) × Unit)
def shY21_10:ShS:=⟨[(2,.one (.bool))],[],0,0⟩
abbrev V21_18:Type:=((Unit × ((List (Den (.slice (.flt .f32)))) × (Int × (Int × Unit)))) × (((List (Den (.flt .f32))) × ((List (Den (.int .i64))) × ((List (Den (.slice (.flt .f32)))) × Unit))) × Unit))
def sh21_18:ShS:=⟨[(1,.one (.ptr 0 0)),(99,.one (.sl (.slice (.flt .f32)))),(100,.one (.int .i64)),(101,.one (.int .i64))],[(0,.box [.sl (.flt .f32),.sl (.int .i64),.sl (.slice (.flt .f32))])],1,0⟩
abbrev X21_18:Type:=(Unit × Unit)
def shX21_18:ShS:=⟨[],[],0,0⟩
abbrev Y21_18:Type:=((Bool × Unit) × Unit)
def shY21_18:ShS:=⟨[(2,.one (.bool))],[],0,0⟩
noncomputable def Γ21 (k22:KA A22) (g22:GA A22 R22) (k36:KI I36) (g36:GI I36 O36) (kl4:V21_4 -> Bool) (xl4:V21_4 -> X21_4) (tl4:V21_4 -> Bool) (yl4:V21_4 -> Y21_4) (kl10:V21_10 -> Bool) (xl10:V21_10 -> X21_10) (tl10:V21_10 -> Bool) (yl10:V21_10 -> Y21_10) (kl18:V21_18 -> Bool) (xl18:V21_18 -> X21_18) (tl18:V21_18 -> Bool) (yl18:V21_18 -> Y21_18):Env:=mkEnv tab eqs [(22,fnMean A22 R22 k22 g22),(36,sgMean false I36 O36 k36 g36)] 116 [.tmp 2] [] [] [(4,loopR [1,31,32,33] [] 0 [1] [] sh21_4 shX21_4 shY21_4 kl4 tl4 xl4 yl4),(10,loopR [1,62,63,64] [] 2 [1] [] sh21_10 shX21_10 shY21_10 kl10 tl10 xl10 yl10),(18,loopR [1,99,100,101] [] 4 [] [] sh21_18 shX21_18 shY21_18 kl18 tl18 xl18 yl18)] [] []
noncomputable def lc21_4:Code:=(loopsOf (bodyOf Tryz.f21)).getD 0 .skip
noncomputable def lc21_10:Code:=(loopsOf (bodyOf Tryz.f21)).getD 1 .skip
noncomputable def lc21_18:Code:=(loopsOf (bodyOf Tryz.f21)).getD 2 .skip
def q21_18 (k22:KA A22) (g22:GA A22 R22) (k36:KI I36) (g36:GI I36 O36) (f:V21_18 -> Option (X21_18 ⊕ Y21_18)) (v:V21_18):Option (X21_18 ⊕ Y21_18):=
 bif (decide (v.1.2.2.2.1 < v.1.2.2.1)) then
 bif (decide (0 <= v.1.2.2.2.1) && decide (v.1.2.2.2.1 < (↑(List.length v.1.2.1):Int))) then
 let v0:=(List.getD v.1.2.1 (Int.toNat v.1.2.2.2.1) (zero (Ty.slice (Ty.flt FloatKind.f32))))
 bif ((↑(List.length v0):Int) != (↑(List.length v.2.1.2.1):Int)) then
 some (Sum.inr (((false),()),()))
 else
 let v1:=(k36 ((v0,(),()),()))
 bif v1 then
 let v2:=(g36 ((v0,(),()),()))
 bif v2.1.1 then
 some (Sum.inr (((false),()),()))
 else
 let v3:=(IntKind.wrap IntKind.i64 (v.1.2.2.2.1 + 1))
 f (((),((v.1.2.1),((v.1.2.2.1),(v3,())))),(((v.2.1.1),((v.2.1.2.1),((v.2.1.2.2.1),()))),()))
 else
 none
 else
 none
 else
 some (Sum.inl ((),()))
theorem evl21_18 (k22:KA A22) (g22:GA A22 R22) (k36:KI I36) (g36:GI I36 O36) (kl4:V21_4 -> Bool) (xl4:V21_4 -> X21_4) (tl4:V21_4 -> Bool) (yl4:V21_4 -> Y21_4) (kl10:V21_10 -> Bool) (xl10:V21_10 -> X21_10) (tl10:V21_10 -> Bool) (yl10:V21_10 -> Y21_10) (kl18:V21_18 -> Bool) (xl18:V21_18 -> X21_18) (tl18:V21_18 -> Bool) (yl18:V21_18 -> Y21_18) (f:V21_18 -> Option (X21_18 ⊕ Y21_18)) (v:V21_18):EBk (Γ21 k22 g22 k36 g36 kl4 xl4 tl4 yl4 kl10 xl10 tl10 yl10 kl18 xl18 tl18 yl18) lc21_18 (roundK [1,99,100,101] [] 4 [] [] (atS sh21_18 f) (endS shX21_18 shY21_18)) (mkS sh21_18 v) = q21_18 k22 g22 k36 g36 f v:=by kernel_rfl
def b21_18 (v:V21_18):Nat:=v.1.2.1.length + v.1.2.2.1.natAbs + v.1.2.2.2.1.natAbs + v.2.1.1.length + v.2.1.2.1.length + v.2.1.2.2.1.length + 1000
def l21_18 (v:V21_18):Option (X21_18 ⊕ Y21_18):=iter (q21_18 K22 G22 K36 G36) (b21_18 v) v
def kL21_18 (v:V21_18):Bool:=(l21_18 v).isSome
def tL21_18 (v:V21_18):Bool:=isR (l21_18 v)
def xL21_18 (v:V21_18):X21_18:=xOf ((),()) (l21_18 v)
def yL21_18 (v:V21_18):Y21_18:=yOf ((false,()),()) (l21_18 v)
def q21_10 (k22:KA A22) (g22:GA A22 R22) (k36:KI I36) (g36:GI I36 O36) (f:V21_10 -> Option (X21_10 ⊕ Y21_10)) (v:V21_10):Option (X21_10 ⊕ Y21_10):=
 bif (decide (v.1.2.2.2.1 < v.1.2.2.1)) then
 bif (decide (0 <= v.1.2.2.2.1) && decide (v.1.2.2.2.1 < (↑(List.length v.1.2.1):Int))) then
 bif (decide (v.1.2.2.2.1 > 0)) then
 let v0:=(IntKind.wrap IntKind.i64 (v.1.2.2.2.1 - 1))
 bif (decide (0 <= v0) && decide (v0 < (↑(List.length v.2.1.2.1):Int))) then
 let v1:=(List.getD v.1.2.1 (Int.toNat v.1.2.2.2.1) (zero (Ty.int IntKind.i64)))
 let v2:=(List.getD v.2.1.2.1 (Int.toNat v0) (zero (Ty.int IntKind.i64)))
 bif (decide (v1 <= v2)) then
 some (Sum.inr (((false),()),()))
 else
 let v3:=(IntKind.wrap IntKind.i64 (v.1.2.2.2.1 + 1))
 f (((),((v.1.2.1),((v.1.2.2.1),(v3,())))),(((v.2.1.1),((v.2.1.2.1),((v.2.1.2.2.1),()))),()))
 else
 none
 else
 let v0:=(IntKind.wrap IntKind.i64 (v.1.2.2.2.1 + 1))
 f (((),((v.1.2.1),((v.1.2.2.1),(v0,())))),(((v.2.1.1),((v.2.1.2.1),((v.2.1.2.2.1),()))),()))
 else
 none
 else
 some (Sum.inl (((),()),(((v.2.1.1),((v.2.1.2.1),((v.2.1.2.2.1),()))),())))
theorem evl21_10 (k22:KA A22) (g22:GA A22 R22) (k36:KI I36) (g36:GI I36 O36) (kl4:V21_4 -> Bool) (xl4:V21_4 -> X21_4) (tl4:V21_4 -> Bool) (yl4:V21_4 -> Y21_4) (kl10:V21_10 -> Bool) (xl10:V21_10 -> X21_10) (tl10:V21_10 -> Bool) (yl10:V21_10 -> Y21_10) (kl18:V21_18 -> Bool) (xl18:V21_18 -> X21_18) (tl18:V21_18 -> Bool) (yl18:V21_18 -> Y21_18) (f:V21_10 -> Option (X21_10 ⊕ Y21_10)) (v:V21_10):EBk (Γ21 k22 g22 k36 g36 kl4 xl4 tl4 yl4 kl10 xl10 tl10 yl10 kl18 xl18 tl18 yl18) lc21_10 (roundK [1,62,63,64] [] 2 [1] [] (atS sh21_10 f) (endS shX21_10 shY21_10)) (mkS sh21_10 v) = q21_10 k22 g22 k36 g36 f v:=by kernel_rfl
def b21_10 (v:V21_10):Nat:=v.1.2.1.length + v.1.2.2.1.natAbs + v.1.2.2.2.1.natAbs + v.2.1.1.length + v.2.1.2.1.length + v.2.1.2.2.1.length + 1000
def l21_10 (v:V21_10):Option (X21_10 ⊕ Y21_10):=iter (q21_10 K22 G22 K36 G36) (b21_10 v) v
def kL21_10 (v:V21_10):Bool:=(l21_10 v).isSome
def tL21_10 (v:V21_10):Bool:=isR (l21_10 v)
def xL21_10 (v:V21_10):X21_10:=xOf (((),()),(([],([],([],()))),())) (l21_10 v)
def yL21_10 (v:V21_10):Y21_10:=yOf ((false,()),()) (l21_10 v)
def q21_4 (k22:KA A22) (g22:GA A22 R22) (k36:KI I36) (g36:GI I36 O36) (f:V21_4 -> Option (X21_4 ⊕ Y21_4)) (v:V21_4):Option (X21_4 ⊕ Y21_4):=
 bif (decide (v.1.2.2.2.1 < v.1.2.2.1)) then
 bif (decide (0 <= v.1.2.2.2.1) && decide (v.1.2.2.2.1 < (↑(List.length v.1.2.1):Int))) then
 let v0:=(List.getD v.1.2.1 (Int.toNat v.1.2.2.2.1) (zero (Ty.flt FloatKind.f32)))
 bif (fgt FloatKind.f32 v0 0) then
 bif (!(flt FloatKind.f32 v0 1120403456 || feq FloatKind.f32 v0 1120403456)) then
 some (Sum.inr (((false),()),()))
 else
 bif (decide (v.1.2.2.2.1 > 0)) then
 let v1:=(IntKind.wrap IntKind.i64 (v.1.2.2.2.1 - 1))
 bif (decide (0 <= v1) && decide (v1 < (↑(List.length v.2.1.1):Int))) then
 let v2:=(List.getD v.2.1.1 (Int.toNat v1) (zero (Ty.flt FloatKind.f32)))
 bif (!fgt FloatKind.f32 v0 v2) then
 some (Sum.inr (((false),()),()))
 else
 let v3:=(IntKind.wrap IntKind.i64 (v.1.2.2.2.1 + 1))
 f (((),((v.1.2.1),((v.1.2.2.1),(v3,())))),(((v.2.1.1),((v.2.1.2.1),((v.2.1.2.2.1),()))),()))
 else
 none
 else
 let v1:=(IntKind.wrap IntKind.i64 (v.1.2.2.2.1 + 1))
 f (((),((v.1.2.1),((v.1.2.2.1),(v1,())))),(((v.2.1.1),((v.2.1.2.1),((v.2.1.2.2.1),()))),()))
 else
 some (Sum.inr (((false),()),()))
 else
 none
 else
 some (Sum.inl (((),()),(((v.2.1.1),((v.2.1.2.1),((v.2.1.2.2.1),()))),())))
theorem evl21_4 (k22:KA A22) (g22:GA A22 R22) (k36:KI I36) (g36:GI I36 O36) (kl4:V21_4 -> Bool) (xl4:V21_4 -> X21_4) (tl4:V21_4 -> Bool) (yl4:V21_4 -> Y21_4) (kl10:V21_10 -> Bool) (xl10:V21_10 -> X21_10) (tl10:V21_10 -> Bool) (yl10:V21_10 -> Y21_10) (kl18:V21_18 -> Bool) (xl18:V21_18 -> X21_18) (tl18:V21_18 -> Bool) (yl18:V21_18 -> Y21_18) (f:V21_4 -> Option (X21_4 ⊕ Y21_4)) (v:V21_4):EBk (Γ21 k22 g22 k36 g36 kl4 xl4 tl4 yl4 kl10 xl10 tl10 yl10 kl18 xl18 tl18 yl18) lc21_4 (roundK [1,31,32,33] [] 0 [1] [] (atS sh21_4 f) (endS shX21_4 shY21_4)) (mkS sh21_4 v) = q21_4 k22 g22 k36 g36 f v:=by kernel_rfl
def b21_4 (v:V21_4):Nat:=v.1.2.1.length + v.1.2.2.1.natAbs + v.1.2.2.2.1.natAbs + v.2.1.1.length + v.2.1.2.1.length + v.2.1.2.2.1.length + 1000
def l21_4 (v:V21_4):Option (X21_4 ⊕ Y21_4):=iter (q21_4 K22 G22 K36 G36) (b21_4 v) v
def kL21_4 (v:V21_4):Bool:=(l21_4 v).isSome
def tL21_4 (v:V21_4):Bool:=isR (l21_4 v)
def xL21_4 (v:V21_4):X21_4:=xOf (((),()),(([],([],([],()))),())) (l21_4 v)
def yL21_4 (v:V21_4):Y21_4:=yOf ((false,()),()) (l21_4 v)
def r21 (k22:KA A22) (g22:GA A22 R22) (k36:KI I36) (g36:GI I36 O36) (kl4:V21_4 -> Bool) (xl4:V21_4 -> X21_4) (tl4:V21_4 -> Bool) (yl4:V21_4 -> Y21_4) (kl10:V21_10 -> Bool) (xl10:V21_10 -> X21_10) (tl10:V21_10 -> Bool) (yl10:V21_10 -> Y21_10) (kl18:V21_18 -> Bool) (xl18:V21_18 -> X21_18) (tl18:V21_18 -> Bool) (yl18:V21_18 -> Y21_18) (x:Den A21):Option (Den R21):=
 let v0:=(k22 ((↑(List.length x.1.1):Int),1,12,()))
 bif v0 then
 let v1:=(g22 ((↑(List.length x.1.1):Int),1,12,()))
 bif (!v1.1) then
 some ((false),())
 else
 let v2:=(k22 ((↑(List.length x.1.2.1):Int),2,24,()))
 bif v2 then
 let v3:=(g22 ((↑(List.length x.1.2.1):Int),2,24,()))
 bif (!v3.1) then
 some ((false),())
 else
 bif ((↑(List.length x.1.2.2.1):Int) != (↑(List.length x.1.1):Int)) then
 some ((false),())
 else
 let v4:=(kl4 (((),x.1.1,(↑(List.length x.1.1):Int),0,()),x))
 bif v4 then
 let v5:=(tl4 (((),x.1.1,(↑(List.length x.1.1):Int),0,()),x))
 bif v5 then
 let v6:=(yl4 (((),x.1.1,(↑(List.length x.1.1):Int),0,()),x))
 some (v6.1.1,())
 else
 let v6:=(xl4 (((),x.1.1,(↑(List.length x.1.1):Int),0,()),x))
 let v7:=(kl10 (((),v6.2.1.2.1,(↑(List.length v6.2.1.2.1):Int),0,()),v6.2))
 bif v7 then
 let v8:=(tl10 (((),v6.2.1.2.1,(↑(List.length v6.2.1.2.1):Int),0,()),v6.2))
 bif v8 then
 let v9:=(yl10 (((),v6.2.1.2.1,(↑(List.length v6.2.1.2.1):Int),0,()),v6.2))
 some (v9.1.1,())
 else
 let v9:=(xl10 (((),v6.2.1.2.1,(↑(List.length v6.2.1.2.1):Int),0,()),v6.2))
 bif (decide (0 <= 0) && decide (0 < (↑(List.length v9.2.1.2.1):Int))) then
 let v10:=(List.getD v9.2.1.2.1 (Int.toNat 0) (zero (Ty.int IntKind.i64)))
 bif (v10 != 0) then
 some ((false),())
 else
 let v11:=(IntKind.wrap IntKind.i64 ((↑(List.length v9.2.1.2.1):Int) - 1))
 bif (decide (0 <= v11) && decide (v11 < (↑(List.length v9.2.1.2.1):Int))) then
 let v12:=(List.getD v9.2.1.2.1 (Int.toNat v11) (zero (Ty.int IntKind.i64)))
 bif (v12 != 180) then
 some ((false),())
 else
 let v13:=(kl18 (((),v9.2.1.2.2.1,(↑(List.length v9.2.1.2.2.1):Int),0,()),v9.2))
 bif v13 then
 let v14:=(tl18 (((),v9.2.1.2.2.1,(↑(List.length v9.2.1.2.2.1):Int),0,()),v9.2))
 bif v14 then
 let v15:=(yl18 (((),v9.2.1.2.2.1,(↑(List.length v9.2.1.2.2.1):Int),0,()),v9.2))
 some (v15.1.1,())
 else
 some ((true),())
 else
 none
 else
 none
 else
 none
 else
 none
 else
 none
 else
 none
 else
 none
theorem ev21 (k22:KA A22) (g22:GA A22 R22) (k36:KI I36) (g36:GI I36 O36) (kl4:V21_4 -> Bool) (xl4:V21_4 -> X21_4) (tl4:V21_4 -> Bool) (yl4:V21_4 -> Y21_4) (kl10:V21_10 -> Bool) (xl10:V21_10 -> X21_10) (tl10:V21_10 -> Bool) (yl10:V21_10 -> Y21_10) (kl18:V21_18 -> Bool) (xl18:V21_18 -> X21_18) (tl18:V21_18 -> Bool) (yl18:V21_18 -> Y21_18) (x:Den A21):callK (Γ21 k22 g22 k36 g36 kl4 xl4 tl4 yl4 kl10 xl10 tl10 yl10 kl18 xl18 tl18 yl18) (bodyOf Tryz.f21) (decR R21) (encA A21 x) [] = r21 k22 g22 k36 g36 kl4 xl4 tl4 yl4 kl10 xl10 tl10 yl10 kl18 xl18 tl18 yl18 x:=by kernel_rfl
def F21 (x:Den A21):Option (Den R21):=r21 K22 G22 K36 G36 kL21_4 xL21_4 tL21_4 yL21_4 kL21_10 xL21_10 tL21_10 yL21_10 kL21_18 xL21_18 tL21_18 yL21_18 x
def K21 (x:Den A21):Bool:=(F21 x).isSome
def G21 (x:Den A21):Den R21:=(F21 x).getD (zero R21)
theorem sem21:SemOK Tryz.prog (21,fnMean A21 R21 K21 G21):=fn_opt (env_ok mixed tab_ok eqs_ok (.cons sem22 (.cons sem36 .nil))) (fnIs Tryz.func21 rfl rfl rfl (by kernel_rfl) (loops_ok (l:=[lc21_4,lc21_10,lc21_18]) (by kernel_rfl) (.cons (one_loop rfl (loopR_sound (sh:=sh21_4) (shX:=shX21_4) (shR:=shY21_4) (fun f v => evl21_4 K22 G22 K36 G36 kL21_4 xL21_4 tL21_4 yL21_4 kL21_10 xL21_10 tL21_10 yL21_10 kL21_18 xL21_18 tL21_18 yL21_18 f v) b21_4 (((),()),(([],([],([],()))),())) ((false,()),()))) (.cons (one_loop rfl (loopR_sound (sh:=sh21_10) (shX:=shX21_10) (shR:=shY21_10) (fun f v => evl21_10 K22 G22 K36 G36 kL21_4 xL21_4 tL21_4 yL21_4 kL21_10 xL21_10 tL21_10 yL21_10 kL21_18 xL21_18 tL21_18 yL21_18 f v) b21_10 (((),()),(([],([],([],()))),())) ((false,()),()))) (.cons (one_loop rfl (loopR_sound (sh:=sh21_18) (shX:=shX21_18) (shR:=shY21_18) (fun f v => evl21_18 K22 G22 K36 G36 kL21_4 xL21_4 tL21_4 yL21_4 kL21_10 xL21_10 tL21_10 yL21_10 kL21_18 xL21_18 tL21_18 yL21_18 f v) b21_18 ((),()) ((false,()),()))) (.nil)))))) fun x => ev21 K22 G22 K36 G36 kL21_4 xL21_4 tL21_4 yL21_4 kL21_10 xL21_10 tL21_10 yL21_10 kL21_18 xL21_18 tL21_18 yL21_18 x
abbrev I93:Sg:=⟨[.val (.int .i64),.val (.cpx .f64),.ptr 0,.ptr 1,.ptr 2],[.box (.cpx .f64),.box (.flt .f64),.box (.int .i64)]⟩
abbrev O93:Sg:=⟨[],[.box (.cpx .f64),.box (.flt .f64),.box (.int .i64)]⟩
noncomputable def Γ93 (k94:KA A94) (g94:GA A94 R94):Env:=mkEnv tab eqs [(94,fnMean A94 R94 k94 g94)] 20 [] [] [] [] [] []
def r93 (k94:KA A94) (g94:GA A94 R94) (x:I93.den):Option (O93.den):=
 let v0:=(k94 (x.2.1,x.1.2.1,()))
 bif v0 then
 bif (x.1.1 == 0) then
 let v1:=(g94 (x.2.1,x.1.2.1,()))
 some ((),(((x.2.1.1),(x.2.1.2)),(v1.1,((x.1.1),()))))
 else
 let v1:=(g94 (x.2.1,x.1.2.1,()))
 bif (fgt FloatKind.f64 v1.1 x.2.2.1) then
 some ((),(((x.2.1.1),(x.2.1.2)),(v1.1,((x.1.1),()))))
 else
 some ((),(((x.2.1.1),(x.2.1.2)),((x.2.2.1),((x.2.2.2.1),()))))
 else
 none
theorem ev93 (k94:KA A94) (g94:GA A94 R94) (x:I93.den):callS (Γ93 k94 g94) (bodyOf Tryz.f93) I93 O93 x = r93 k94 g94 x:=by kernel_rfl
def F93 (x:I93.den):Option (O93.den):=r93 K94 G94 x
def K93 (x:I93.den):Bool:=(F93 x).isSome
def G93 (x:I93.den):O93.den:=(F93 x).getD (zeroSg O93)
theorem sem93:SemOK Tryz.prog (93,sgMean true I93 O93 K93 G93):=sg_opt (env_ok mixed tab_ok eqs_ok (.cons sem94 .nil)) (fnIs Tryz.func93 rfl rfl rfl (by kernel_rfl) (noLoops (by kernel_rfl))) true fun x => ev93 K94 G94 x
abbrev I1092:Sg:=⟨[.fnv 93 [0,1,2]],[.box (.cpx .f64),.box (.flt .f64),.box (.int .i64)]⟩
abbrev O1092:Sg:=⟨[],[.box (.cpx .f64),.box (.flt .f64),.box (.int .i64)]⟩
abbrev V1092_2:Type:=((Unit × ((Nat × Nat) × (Int × Unit))) × (((Nat × Nat) × Unit) × ((Nat × Unit) × ((Int × Unit) × Unit))))
def sh1092_2:ShS:=⟨[(0,.one (.fn 93 [0,1,2])),(2,.one (.cpx .f64)),(3,.one (.int .i64))],[(0,.box [.cpx .f64]),(1,.box [.flt .f64]),(2,.box [.int .i64])],3,3⟩
abbrev X1092_2:Type:=(Unit × (((Nat × Nat) × Unit) × ((Nat × Unit) × ((Int × Unit) × Unit))))
def shX1092_2:ShS:=⟨[],[(0,.box [.cpx .f64]),(1,.box [.flt .f64]),(2,.box [.int .i64])],3,3⟩
noncomputable def Γ1092 (k117:KA A117) (g117:GA A117 R117) (k93:KI I93) (g93:GI I93 O93) (kl2:V1092_2 -> Bool) (xl2:V1092_2 -> X1092_2):Env:=mkEnv tab eqs [(117,fnMean A117 R117 k117 g117),(93,sgMean true I93 O93 k93 g93)] 14 [] [] [] [(2,loopX [0,2,3] [] 0 [] [] sh1092_2 shX1092_2 kl2 xl2)] [] []
noncomputable def lc1092_2:Code:=(loopsOf (bodyOf Tryz.f92)).getD 0 .skip
def q1092_2 (k117:KA A117) (g117:GA A117 R117) (k93:KI I93) (g93:GI I93 O93) (f:V1092_2 -> Option (X1092_2)) (v:V1092_2):Option (X1092_2):=
 bif (decide (v.1.2.2.1 < 360)) then
 let v0:=(k93 ((v.1.2.2.1,v.1.2.1,(),(),(),()),v.2.1.1,v.2.2.1.1,v.2.2.2.1))
 bif v0 then
 let v1:=(k117 (v.1.2.1,(4607181046959943561,4580687535080594718),()))
 bif v1 then
 let v2:=(g117 (v.1.2.1,(4607181046959943561,4580687535080594718),()))
 let v3:=(IntKind.wrap IntKind.i64 (v.1.2.2.1 + 1))
 let v4:=(g93 ((v.1.2.2.1,v.1.2.1,(),(),(),()),v.2.1.1,v.2.2.1.1,v.2.2.2.1))
 f (((),((v2.1.1,v2.1.2),(v3,()))),(((v4.2.1.1,v4.2.1.2),()),((v4.2.2.1,()),((v4.2.2.2.1,()),()))))
 else
 none
 else
 none
 else
 some ((),((((v.2.1.1.1),(v.2.1.1.2)),()),(((v.2.2.1.1),()),(((v.2.2.2.1.1),()),()))))
theorem evl1092_2 (k117:KA A117) (g117:GA A117 R117) (k93:KI I93) (g93:GI I93 O93) (kl2:V1092_2 -> Bool) (xl2:V1092_2 -> X1092_2) (f:V1092_2 -> Option (X1092_2)) (v:V1092_2):EBk (Γ1092 k117 g117 k93 g93 kl2 xl2) lc1092_2 (roundK [0,2,3] [] 0 [] [] (atS sh1092_2 f) (endX shX1092_2)) (mkS sh1092_2 v) = q1092_2 k117 g117 k93 g93 f v:=by kernel_rfl
def b1092_2 (v:V1092_2):Nat:=v.1.2.2.1.natAbs + v.2.2.2.1.1.natAbs + 1000
def l1092_2 (v:V1092_2):Option (X1092_2):=iter (q1092_2 K117 G117 K93 G93) (b1092_2 v) v
def kL1092_2 (v:V1092_2):Bool:=(l1092_2 v).isSome
def xL1092_2 (v:V1092_2):X1092_2:=(l1092_2 v).getD ((),(((0,0),()),((0,()),((0,()),()))))
def r1092 (k117:KA A117) (g117:GA A117 R117) (k93:KI I93) (g93:GI I93 O93) (kl2:V1092_2 -> Bool) (xl2:V1092_2 -> X1092_2) (x:I1092.den):Option (O1092.den):=
 let v0:=(kl2 (((),(4607182418800017408,0),0,()),(x.2.1,()),(x.2.2.1,()),x.2.2.2,()))
 bif v0 then
 let v1:=(xl2 (((),(4607182418800017408,0),0,()),(x.2.1,()),(x.2.2.1,()),x.2.2.2,()))
 some ((),((v1.2.1.1.1,v1.2.1.1.2),(v1.2.2.1.1,(v1.2.2.2.1.1,()))))
 else
 none
theorem ev1092 (k117:KA A117) (g117:GA A117 R117) (k93:KI I93) (g93:GI I93 O93) (kl2:V1092_2 -> Bool) (xl2:V1092_2 -> X1092_2) (x:I1092.den):callS (Γ1092 k117 g117 k93 g93 kl2 xl2) (bodyOf Tryz.f92) I1092 O1092 x = r1092 k117 g117 k93 g93 kl2 xl2 x:=by kernel_rfl
def F1092 (x:I1092.den):Option (O1092.den):=r1092 K117 G117 K93 G93 kL1092_2 xL1092_2 x
def K1092 (x:I1092.den):Bool:=(F1092 x).isSome
def G1092 (x:I1092.den):O1092.den:=(F1092 x).getD (zeroSg O1092)
theorem sem1092:SemOK Tryz.prog (92,sgMean true I1092 O1092 K1092 G1092):=sg_opt (env_ok mixed tab_ok eqs_ok (.cons sem117 (.cons sem93 .nil))) (fnIs Tryz.func92 rfl rfl rfl (by kernel_rfl) (loops_ok (l:=[lc1092_2]) (by kernel_rfl) (.cons (one_loop rfl (loopX_sound (sh:=sh1092_2) (shX:=shX1092_2) (fun f v => evl1092_2 K117 G117 K93 G93 kL1092_2 xL1092_2 f v) b1092_2 ((),(((0,0),()),((0,()),((0,()),())))))) (.nil)))) true fun x => ev1092 K117 G117 K93 G93 kL1092_2 xL1092_2 x
abbrev A59:Ty:=.cons (.cpx .f64) (.nil)
abbrev R59:Ty:=.cons (.int .i64) (.nil)
noncomputable def Γ59 (k91:KA A91) (g91:GA A91 R91) (k93:KI I93) (g93:GI I93 O93) (k1092:KI I1092) (g1092:GI I1092 O1092):Env:=mkEnv tab eqs [(91,fnMean A91 R91 k91 g91),(93,sgMean true I93 O93 k93 g93),(92,sgMean true I1092 O1092 k1092 g1092)] 15 [.tmp 2] [] [] [] [] []
def r59 (k91:KA A91) (g91:GA A91 R91) (k93:KI I93) (g93:GI I93 O93) (k1092:KI I1092) (g1092:GI I1092 O1092) (x:Den A59):Option (Den R59):=
 let v0:=(k91 x)
 bif v0 then
 let v1:=(g91 x)
 bif (!v1.1) then
 some ((-1),())
 else
 bif (feq FloatKind.f64 x.1.1 0 && feq FloatKind.f64 x.1.2 0) then
 some ((-1),())
 else
 let v2:=(k1092 (((),()),x.1,0,0,()))
 bif v2 then
 let v3:=(g1092 (((),()),x.1,0,0,()))
 some (v3.2.2.2.1,())
 else
 none
 else
 none
theorem ev59 (k91:KA A91) (g91:GA A91 R91) (k93:KI I93) (g93:GI I93 O93) (k1092:KI I1092) (g1092:GI I1092 O1092) (x:Den A59):callK (Γ59 k91 g91 k93 g93 k1092 g1092) (bodyOf Tryz.f59) (decR R59) (encA A59 x) [] = r59 k91 g91 k93 g93 k1092 g1092 x:=by kernel_rfl
def F59 (x:Den A59):Option (Den R59):=r59 K91 G91 K93 G93 K1092 G1092 x
def K59 (x:Den A59):Bool:=(F59 x).isSome
def G59 (x:Den A59):Den R59:=(F59 x).getD (zero R59)
theorem sem59:SemOK Tryz.prog (59,fnMean A59 R59 K59 G59):=fn_opt (env_ok mixed tab_ok eqs_ok (.cons sem91 (.cons sem93 (.cons sem1092 .nil)))) (fnIs Tryz.func59 rfl rfl rfl (by kernel_rfl) (noLoops (by kernel_rfl))) fun x => ev59 K91 G91 K93 G93 K1092 G1092 x
abbrev A60:Ty:=.cons (.cpx .f32) (.nil)
abbrev R60:Ty:=.cons (.int .i64) (.nil)
noncomputable def Γ60 (k54:KA A54) (g54:GA A54 R54) (k59:KA A59) (g59:GA A59 R59):Env:=mkEnv tab eqs [(54,fnMean A54 R54 k54 g54),(59,fnMean A59 R59 k59 g59)] 20 [.tmp 2] [] [] [] [] []
def r60 (k54:KA A54) (g54:GA A54 R54) (k59:KA A59) (g59:GA A59 R59) (x:Den A60):Option (Den R60):=
 let v0:=(k54 x)
 bif v0 then
 let v1:=(g54 x)
 bif (!v1.1) then
 some ((-1),())
 else
 bif (feq FloatKind.f32 x.1.1 0 && feq FloatKind.f32 x.1.2 0) then
 some ((-1),())
 else
 let v2:=(fneg FloatKind.f32 x.1.1)
 let v3:=(fneg FloatKind.f32 x.1.2)
 let v4:=(k59 (((convF FloatKind.f32 FloatKind.f64 v2).2,(convF FloatKind.f32 FloatKind.f64 v3).2),()))
 bif v4 then
 let v5:=(g59 (((convF FloatKind.f32 FloatKind.f64 v2).2,(convF FloatKind.f32 FloatKind.f64 v3).2),()))
 some (v5.1,())
 else
 none
 else
 none
theorem ev60 (k54:KA A54) (g54:GA A54 R54) (k59:KA A59) (g59:GA A59 R59) (x:Den A60):callK (Γ60 k54 g54 k59 g59) (bodyOf Tryz.f60) (decR R60) (encA A60 x) [] = r60 k54 g54 k59 g59 x:=by kernel_rfl
def F60 (x:Den A60):Option (Den R60):=r60 K54 G54 K59 G59 x
def K60 (x:Den A60):Bool:=(F60 x).isSome
def G60 (x:Den A60):Den R60:=(F60 x).getD (zero R60)
theorem sem60:SemOK Tryz.prog (60,fnMean A60 R60 K60 G60):=fn_opt (env_ok mixed tab_ok eqs_ok (.cons sem54 (.cons sem59 .nil))) (fnIs Tryz.func60 rfl rfl rfl (by kernel_rfl) (noLoops (by kernel_rfl))) fun x => ev60 K54 G54 K59 G59 x
abbrev A65:Ty:=.cons (S30) (.cons (.flt .f32) (.cons (.int .i64) (.nil)))
abbrev R65:Ty:=.cons (.flt .f32) (.cons (.bool) (.nil))
noncomputable def Γ65 (k21:KA A21) (g21:GA A21 R21) (k22:KA A22) (g22:GA A22 R22) (k99:KA A99) (g99:GA A99 R99):Env:=mkEnv tab eqs [(21,fnMean A21 R21 k21 g21),(22,fnMean A22 R22 k22 g22),(99,fnMean A99 R99 k99 g99)] 29 [.tmp 6,.tmp 7] [] [] [] [] []
def r65 (k21:KA A21) (g21:GA A21 R21) (k22:KA A22) (g22:GA A22 R22) (k99:KA A99) (g99:GA A99 R99) (x:Den A65):Option (Den R65):=
 let v0:=(k21 (x.1,()))
 bif v0 then
 let v1:=(g21 (x.1,()))
 bif (!v1.1) then
 some ((0),((false),()))
 else
 bif (fgt FloatKind.f32 x.2.1 0 || feq FloatKind.f32 x.2.1 0) then
 bif (!(flt FloatKind.f32 x.2.1 1120403456 || feq FloatKind.f32 x.2.1 1120403456)) then
 some ((0),((false),()))
 else
 let v2:=(k22 (x.2.2.1,0,180,()))
 bif v2 then
 let v3:=(g22 (x.2.2.1,0,180,()))
 bif (!v3.1) then
 some ((0),((false),()))
 else
 let v4:=(k99 x)
 bif v4 then
 let v5:=(g99 x)
 some (v5.1,((true),()))
 else
 none
 else
 none
 else
 some ((0),((false),()))
 else
 none
theorem ev65 (k21:KA A21) (g21:GA A21 R21) (k22:KA A22) (g22:GA A22 R22) (k99:KA A99) (g99:GA A99 R99) (x:Den A65):callK (Γ65 k21 g21 k22 g22 k99 g99) (bodyOf Tryz.f65) (decR R65) (encA A65 x) [] = r65 k21 g21 k22 g22 k99 g99 x:=by kernel_rfl
def F65 (x:Den A65):Option (Den R65):=r65 K21 G21 K22 G22 K99 G99 x
def K65 (x:Den A65):Bool:=(F65 x).isSome
def G65 (x:Den A65):Den R65:=(F65 x).getD (zero R65)
theorem sem65:SemOK Tryz.prog (65,fnMean A65 R65 K65 G65):=fn_opt (env_ok mixed tab_ok eqs_ok (.cons sem21 (.cons sem22 (.cons sem99 .nil)))) (fnIs Tryz.func65 rfl rfl rfl (by kernel_rfl) (noLoops (by kernel_rfl))) fun x => ev65 K21 G21 K22 G22 K99 G99 x
abbrev A86:Ty:=.cons (S30) (.cons (.flt .f32) (.cons (.int .i64) (.nil)))
abbrev R86:Ty:=.cons (.flt .f32) (.cons (.bool) (.nil))
noncomputable def Γ86 (k65:KA A65) (g65:GA A65 R65) (k97:KA A97) (g97:GA A97 R97) (k89:KA A89) (g89:GA A89 R89):Env:=mkEnv tab eqs [(65,fnMean A65 R65 k65 g65),(97,fnMean A97 R97 k97 g97),(89,fnMean A89 R89 k89 g89)] 25 [.tmp 6,.tmp 7] [] [] [] [] []
def r86 (k65:KA A65) (g65:GA A65 R65) (k97:KA A97) (g97:GA A97 R97) (k89:KA A89) (g89:GA A89 R89) (x:Den A86):Option (Den R86):=
 let v0:=(k65 x)
 bif v0 then
 let v1:=(g65 x)
 bif (!v1.2.1) then
 some ((0),((false),()))
 else
 let v2:=(k97 x.2.2)
 bif v2 then
 let v3:=(g97 x.2.2)
 let v4:=(k89 (x.1,x.2.1,x.2.2.1,v3))
 bif v4 then
 let v5:=(g89 (x.1,x.2.1,x.2.2.1,v3))
 some (v5.1,((true),()))
 else
 none
 else
 none
 else
 none
theorem ev86 (k65:KA A65) (g65:GA A65 R65) (k97:KA A97) (g97:GA A97 R97) (k89:KA A89) (g89:GA A89 R89) (x:Den A86):callK (Γ86 k65 g65 k97 g97 k89 g89) (bodyOf Tryz.f86) (decR R86) (encA A86 x) [] = r86 k65 g65 k97 g97 k89 g89 x:=by kernel_rfl
def F86 (x:Den A86):Option (Den R86):=r86 K65 G65 K97 G97 K89 G89 x
def K86 (x:Den A86):Bool:=(F86 x).isSome
def G86 (x:Den A86):Den R86:=(F86 x).getD (zero R86)
theorem sem86:SemOK Tryz.prog (86,fnMean A86 R86 K86 G86):=fn_opt (env_ok mixed tab_ok eqs_ok (.cons sem65 (.cons sem97 (.cons sem89 .nil)))) (fnIs Tryz.func86 rfl rfl rfl (by kernel_rfl) (noLoops (by kernel_rfl))) fun x => ev86 K65 G65 K97 G97 K89 G89 x
abbrev I88:Sg:=⟨[.val (.int .i64),.val (.cpx .f64),.ptr 0,.ptr 1],[.box (S30),.box (.flt .f32)]⟩
abbrev O88:Sg:=⟨[.val (.flt .f32)],[.box (S30),.box (.flt .f32)]⟩
noncomputable def Γ88 (k89:KA A89) (g89:GA A89 R89):Env:=mkEnv tab eqs [(89,fnMean A89 R89 k89 g89)] 12 [.tmp 6] [] [] [] [] []
def r88 (k89:KA A89) (g89:GA A89 R89) (x:I88.den):Option (O88.den):=
 let v0:=(k89 (x.2.1,x.2.2.1,x.1.1,x.1.2.1,()))
 bif v0 then
 let v1:=(g89 (x.2.1,x.2.2.1,x.1.1,x.1.2.1,()))
 some ((v1.1,()),(((x.2.1.1),((x.2.1.2.1),((x.2.1.2.2.1),()))),((x.2.2.1),())))
 else
 none
theorem ev88 (k89:KA A89) (g89:GA A89 R89) (x:I88.den):callS (Γ88 k89 g89) (bodyOf Tryz.f88) I88 O88 x = r88 k89 g89 x:=by kernel_rfl
def F88 (x:I88.den):Option (O88.den):=r88 K89 G89 x
def K88 (x:I88.den):Bool:=(F88 x).isSome
def G88 (x:I88.den):O88.den:=(F88 x).getD (zeroSg O88)
theorem sem88:SemOK Tryz.prog (88,sgMean true I88 O88 K88 G88):=sg_opt (env_ok mixed tab_ok eqs_ok (.cons sem89 .nil)) (fnIs Tryz.func88 rfl rfl rfl (by kernel_rfl) (noLoops (by kernel_rfl))) true fun x => ev88 K89 G89 x
abbrev I90:Sg:=⟨[.val (.int .i64),.val (.cpx .f64),.ptr 0,.ptr 1],[.box (S30),.box (.flt .f32)]⟩
abbrev O90:Sg:=⟨[.val (.flt .f32)],[.box (S30),.box (.flt .f32)]⟩
noncomputable def Γ90 (k89:KA A89) (g89:GA A89 R89):Env:=mkEnv tab eqs [(89,fnMean A89 R89 k89 g89)] 13 [.tmp 6] [] [] [] [] []
def r90 (k89:KA A89) (g89:GA A89 R89) (x:I90.den):Option (O90.den):=
 let v0:=(k89 (x.2.1,x.2.2.1,x.1.1,x.1.2.1,()))
 bif v0 then
 let v1:=(g89 (x.2.1,x.2.2.1,x.1.1,x.1.2.1,()))
 let v2:=(fneg FloatKind.f32 v1.1)
 some ((v2,()),(((x.2.1.1),((x.2.1.2.1),((x.2.1.2.2.1),()))),((x.2.2.1),())))
 else
 none
theorem ev90 (k89:KA A89) (g89:GA A89 R89) (x:I90.den):callS (Γ90 k89 g89) (bodyOf Tryz.f90) I90 O90 x = r90 k89 g89 x:=by kernel_rfl
def F90 (x:I90.den):Option (O90.den):=r90 K89 G89 x
def K90 (x:I90.den):Bool:=(F90 x).isSome
def G90 (x:I90.den):O90.den:=(F90 x).getD (zeroSg O90)
theorem sem90:SemOK Tryz.prog (90,sgMean true I90 O90 K90 G90):=sg_opt (env_ok mixed tab_ok eqs_ok (.cons sem89 .nil)) (fnIs Tryz.func90 rfl rfl rfl (by kernel_rfl) (noLoops (by kernel_rfl))) true fun x => ev90 K89 G89 x
abbrev I2115:Sg:=⟨[.val (.int .i64),.val (.cpx .f64),.ptr 0,.ptr 1,.ptr 2,.ptr 5,.ptr 6],[.box (.int .i64),.box (.int .i64),.boxC [.fn 88 [3,4]],.box (S30),.box (.flt .f32),.box (.flt .f32),.box (.int .i64)]⟩
abbrev O2115:Sg:=⟨[],[.box (.int .i64),.box (.int .i64),.boxC [.fn 88 [3,4]],.box (S30),.box (.flt .f32),.box (.flt .f32),.box (.int .i64)]⟩
noncomputable def Γ2115 (k22:KA A22) (g22:GA A22 R22) (k88:KI I88) (g88:GI I88 O88):Env:=mkEnv tab eqs [(22,fnMean A22 R22 k22 g22),(88,sgMean true I88 O88 k88 g88)] 29 [] [] [] [] [] []
def r2115 (k22:KA A22) (g22:GA A22 R22) (k88:KI I88) (g88:GI I88 O88) (x:I2115.den):Option (O2115.den):=
 let v0:=(k22 (x.1.1,x.2.1,x.2.2.1,()))
 bif v0 then
 let v1:=(g22 (x.1.1,x.2.1,x.2.2.1,()))
 bif (!v1.1) then
 some ((),((x.2.1),((x.2.2.1),(((),()),(((x.2.2.2.2.1.1),((x.2.2.2.2.1.2.1),((x.2.2.2.2.1.2.2.1),()))),((x.2.2.2.2.2.1),((x.2.2.2.2.2.2.1),((x.2.2.2.2.2.2.2.1),()))))))))
 else
 let v2:=(k88 ((x.1.1,x.1.2.1,(),(),()),x.2.2.2.2.1,x.2.2.2.2.2.1,()))
 bif v2 then
 bif (x.1.1 == x.2.1) then
 let v3:=(g88 ((x.1.1,x.1.2.1,(),(),()),x.2.2.2.2.1,x.2.2.2.2.2.1,()))
 some ((),((x.2.1),((x.2.2.1),(((),()),((v3.2.1.1,(v3.2.1.2.1,(v3.2.1.2.2.1,()))),(v3.2.2.1,(v3.1.1,((x.1.1),()))))))))
 else
 let v3:=(g88 ((x.1.1,x.1.2.1,(),(),()),x.2.2.2.2.1,x.2.2.2.2.2.1,()))
 bif (fgt FloatKind.f32 v3.1.1 x.2.2.2.2.2.2.1) then
 some ((),((x.2.1),((x.2.2.1),(((),()),((v3.2.1.1,(v3.2.1.2.1,(v3.2.1.2.2.1,()))),(v3.2.2.1,(v3.1.1,((x.1.1),()))))))))
 else
 some ((),((x.2.1),((x.2.2.1),(((),()),((v3.2.1.1,(v3.2.1.2.1,(v3.2.1.2.2.1,()))),(v3.2.2.1,((x.2.2.2.2.2.2.1),((x.2.2.2.2.2.2.2.1),()))))))))
 else
 none
 else
 none
theorem ev2115 (k22:KA A22) (g22:GA A22 R22) (k88:KI I88) (g88:GI I88 O88) (x:I2115.den):callS (Γ2115 k22 g22 k88 g88) (bodyOf Tryz.f115) I2115 O2115 x = r2115 k22 g22 k88 g88 x:=by kernel_rfl
def F2115 (x:I2115.den):Option (O2115.den):=r2115 K22 G22 K88 G88 x
def K2115 (x:I2115.den):Bool:=(F2115 x).isSome
def G2115 (x:I2115.den):O2115.den:=(F2115 x).getD (zeroSg O2115)
theorem sem2115:SemOK Tryz.prog (115,sgMean true I2115 O2115 K2115 G2115):=sg_opt (env_ok mixed tab_ok eqs_ok (.cons sem22 (.cons sem88 .nil))) (fnIs Tryz.func115 rfl rfl rfl (by kernel_rfl) (noLoops (by kernel_rfl))) true fun x => ev2115 K22 G22 K88 G88 x
abbrev I3115:Sg:=⟨[.val (.int .i64),.val (.cpx .f64),.ptr 0,.ptr 1,.ptr 2,.ptr 5,.ptr 6],[.box (.int .i64),.box (.int .i64),.boxC [.fn 90 [3,4]],.box (S30),.box (.flt .f32),.box (.flt .f32),.box (.int .i64)]⟩
abbrev O3115:Sg:=⟨[],[.box (.int .i64),.box (.int .i64),.boxC [.fn 90 [3,4]],.box (S30),.box (.flt .f32),.box (.flt .f32),.box (.int .i64)]⟩
noncomputable def Γ3115 (k22:KA A22) (g22:GA A22 R22) (k90:KI I90) (g90:GI I90 O90):Env:=mkEnv tab eqs [(22,fnMean A22 R22 k22 g22),(90,sgMean true I90 O90 k90 g90)] 29 [] [] [] [] [] []
def r3115 (k22:KA A22) (g22:GA A22 R22) (k90:KI I90) (g90:GI I90 O90) (x:I3115.den):Option (O3115.den):=
 let v0:=(k22 (x.1.1,x.2.1,x.2.2.1,()))
 bif v0 then
 let v1:=(g22 (x.1.1,x.2.1,x.2.2.1,()))
 bif (!v1.1) then
 some ((),((x.2.1),((x.2.2.1),(((),()),(((x.2.2.2.2.1.1),((x.2.2.2.2.1.2.1),((x.2.2.2.2.1.2.2.1),()))),((x.2.2.2.2.2.1),((x.2.2.2.2.2.2.1),((x.2.2.2.2.2.2.2.1),()))))))))
 else
 let v2:=(k90 ((x.1.1,x.1.2.1,(),(),()),x.2.2.2.2.1,x.2.2.2.2.2.1,()))
 bif v2 then
 bif (x.1.1 == x.2.1) then
 let v3:=(g90 ((x.1.1,x.1.2.1,(),(),()),x.2.2.2.2.1,x.2.2.2.2.2.1,()))
 some ((),((x.2.1),((x.2.2.1),(((),()),((v3.2.1.1,(v3.2.1.2.1,(v3.2.1.2.2.1,()))),(v3.2.2.1,(v3.1.1,((x.1.1),()))))))))
 else
 let v3:=(g90 ((x.1.1,x.1.2.1,(),(),()),x.2.2.2.2.1,x.2.2.2.2.2.1,()))
 bif (fgt FloatKind.f32 v3.1.1 x.2.2.2.2.2.2.1) then
 some ((),((x.2.1),((x.2.2.1),(((),()),((v3.2.1.1,(v3.2.1.2.1,(v3.2.1.2.2.1,()))),(v3.2.2.1,(v3.1.1,((x.1.1),()))))))))
 else
 some ((),((x.2.1),((x.2.2.1),(((),()),((v3.2.1.1,(v3.2.1.2.1,(v3.2.1.2.2.1,()))),(v3.2.2.1,((x.2.2.2.2.2.2.1),((x.2.2.2.2.2.2.2.1),()))))))))
 else
 none
 else
 none
theorem ev3115 (k22:KA A22) (g22:GA A22 R22) (k90:KI I90) (g90:GI I90 O90) (x:I3115.den):callS (Γ3115 k22 g22 k90 g90) (bodyOf Tryz.f115) I3115 O3115 x = r3115 k22 g22 k90 g90 x:=by kernel_rfl
def F3115 (x:I3115.den):Option (O3115.den):=r3115 K22 G22 K90 G90 x
def K3115 (x:I3115.den):Bool:=(F3115 x).isSome
def G3115 (x:I3115.den):O3115.den:=(F3115 x).getD (zeroSg O3115)
theorem sem3115:SemOK Tryz.prog (115,sgMean true I3115 O3115 K3115 G3115):=sg_opt (env_ok mixed tab_ok eqs_ok (.cons sem22 (.cons sem90 .nil))) (fnIs Tryz.func115 rfl rfl rfl (by kernel_rfl) (noLoops (by kernel_rfl))) true fun x => ev3115 K22 G22 K90 G90 x
abbrev I2092:Sg:=⟨[.fnv 115 [0,1,2,5,6]],[.box (.int .i64),.box (.int .i64),.boxC [.fn 88 [3,4]],.box (S30),.box (.flt .f32),.box (.flt .f32),.box (.int .i64)]⟩
abbrev O2092:Sg:=⟨[],[.box (.int .i64),.box (.int .i64),.boxC [.fn 88 [3,4]],.box (S30),.box (.flt .f32),.box (.flt .f32),.box (.int .i64)]⟩
abbrev V2092_2:Type:=((Unit × ((Nat × Nat) × (Int × Unit))) × ((Int × Unit) × ((Int × Unit) × ((Unit × Unit) × (((List (Den (.flt .f32))) × ((List (Den (.int .i64))) × ((List (Den (.slice (.flt .f32)))) × Unit))) × ((Nat × Unit) × ((Nat × Unit) × ((Int × Unit) × Unit))))))))
def sh2092_2:ShS:=⟨[(0,.one (.fn 115 [0,1,2,5,6])),(2,.one (.cpx .f64)),(3,.one (.int .i64))],[(0,.box [.int .i64]),(1,.box [.int .i64]),(2,.box [.fn 88 [3,4]]),(3,.box [.sl (.flt .f32),.sl (.int .i64),.sl (.slice (.flt .f32))]),(4,.box [.flt .f32]),(5,.box [.flt .f32]),(6,.box [.int .i64])],7,7⟩
abbrev X2092_2:Type:=(Unit × ((Int × Unit) × ((Int × Unit) × ((Unit × Unit) × (((List (Den (.flt .f32))) × ((List (Den (.int .i64))) × ((List (Den (.slice (.flt .f32)))) × Unit))) × ((Nat × Unit) × ((Nat × Unit) × ((Int × Unit) × Unit))))))))
def shX2092_2:ShS:=⟨[],[(0,.box [.int .i64]),(1,.box [.int .i64]),(2,.box [.fn 88 [3,4]]),(3,.box [.sl (.flt .f32),.sl (.int .i64),.sl (.slice (.flt .f32))]),(4,.box [.flt .f32]),(5,.box [.flt .f32]),(6,.box [.int .i64])],7,7⟩
noncomputable def Γ2092 (k117:KA A117) (g117:GA A117 R117) (k2115:KI I2115) (g2115:GI I2115 O2115) (kl2:V2092_2 -> Bool) (xl2:V2092_2 -> X2092_2):Env:=mkEnv tab eqs [(117,fnMean A117 R117 k117 g117),(115,sgMean true I2115 O2115 k2115 g2115)] 14 [] [] [] [(2,loopX [0,2,3] [] 0 [] [] sh2092_2 shX2092_2 kl2 xl2)] [] []
noncomputable def lc2092_2:Code:=(loopsOf (bodyOf Tryz.f92)).getD 0 .skip
def q2092_2 (k117:KA A117) (g117:GA A117 R117) (k2115:KI I2115) (g2115:GI I2115 O2115) (f:V2092_2 -> Option (X2092_2)) (v:V2092_2):Option (X2092_2):=
 bif (decide (v.1.2.2.1 < 360)) then
 let v0:=(k2115 ((v.1.2.2.1,v.1.2.1,(),(),(),(),(),()),v.2.1.1,v.2.2.1.1,((),()),v.2.2.2.2.1,v.2.2.2.2.2.1.1,v.2.2.2.2.2.2.1.1,v.2.2.2.2.2.2.2.1))
 bif v0 then
 let v1:=(k117 (v.1.2.1,(4607181046959943561,4580687535080594718),()))
 bif v1 then
 let v2:=(g117 (v.1.2.1,(4607181046959943561,4580687535080594718),()))
 let v3:=(IntKind.wrap IntKind.i64 (v.1.2.2.1 + 1))
 let v4:=(g2115 ((v.1.2.2.1,v.1.2.1,(),(),(),(),(),()),v.2.1.1,v.2.2.1.1,((),()),v.2.2.2.2.1,v.2.2.2.2.2.1.1,v.2.2.2.2.2.2.1.1,v.2.2.2.2.2.2.2.1))
 f (((),((v2.1.1,v2.1.2),(v3,()))),((v4.2.1,()),((v4.2.2.1,()),(((),()),((v4.2.2.2.2.1.1,(v4.2.2.2.2.1.2.1,(v4.2.2.2.2.1.2.2.1,()))),((v4.2.2.2.2.2.1,()),((v4.2.2.2.2.2.2.1,()),((v4.2.2.2.2.2.2.2.1,()),()))))))))
 else
 none
 else
 none
 else
 some ((),(((v.2.1.1),()),(((v.2.2.1.1),()),(((),()),(((v.2.2.2.2.1.1),((v.2.2.2.2.1.2.1),((v.2.2.2.2.1.2.2.1),()))),(((v.2.2.2.2.2.1.1),()),(((v.2.2.2.2.2.2.1.1),()),(((v.2.2.2.2.2.2.2.1.1),()),()))))))))
theorem evl2092_2 (k117:KA A117) (g117:GA A117 R117) (k2115:KI I2115) (g2115:GI I2115 O2115) (kl2:V2092_2 -> Bool) (xl2:V2092_2 -> X2092_2) (f:V2092_2 -> Option (X2092_2)) (v:V2092_2):EBk (Γ2092 k117 g117 k2115 g2115 kl2 xl2) lc2092_2 (roundK [0,2,3] [] 0 [] [] (atS sh2092_2 f) (endX shX2092_2)) (mkS sh2092_2 v) = q2092_2 k117 g117 k2115 g2115 f v:=by kernel_rfl
def b2092_2 (v:V2092_2):Nat:=v.1.2.2.1.natAbs + v.2.1.1.natAbs + v.2.2.1.1.natAbs + v.2.2.2.2.1.1.length + v.2.2.2.2.1.2.1.length + v.2.2.2.2.1.2.2.1.length + v.2.2.2.2.2.2.2.1.1.natAbs + 1000
def l2092_2 (v:V2092_2):Option (X2092_2):=iter (q2092_2 K117 G117 K2115 G2115) (b2092_2 v) v
def kL2092_2 (v:V2092_2):Bool:=(l2092_2 v).isSome
def xL2092_2 (v:V2092_2):X2092_2:=(l2092_2 v).getD ((),((0,()),((0,()),(((),()),(([],([],([],()))),((0,()),((0,()),((0,()),()))))))))
def r2092 (k117:KA A117) (g117:GA A117 R117) (k2115:KI I2115) (g2115:GI I2115 O2115) (kl2:V2092_2 -> Bool) (xl2:V2092_2 -> X2092_2) (x:I2092.den):Option (O2092.den):=
 let v0:=(kl2 (((),(4607182418800017408,0),0,()),(x.2.1,()),(x.2.2.1,()),((),()),x.2.2.2.2.1,(x.2.2.2.2.2.1,()),(x.2.2.2.2.2.2.1,()),x.2.2.2.2.2.2.2,()))
 bif v0 then
 let v1:=(xl2 (((),(4607182418800017408,0),0,()),(x.2.1,()),(x.2.2.1,()),((),()),x.2.2.2.2.1,(x.2.2.2.2.2.1,()),(x.2.2.2.2.2.2.1,()),x.2.2.2.2.2.2.2,()))
 some ((),(v1.2.1.1,(v1.2.2.1.1,(((),()),((v1.2.2.2.2.1.1,(v1.2.2.2.2.1.2.1,(v1.2.2.2.2.1.2.2.1,()))),(v1.2.2.2.2.2.1.1,(v1.2.2.2.2.2.2.1.1,(v1.2.2.2.2.2.2.2.1.1,()))))))))
 else
 none
theorem ev2092 (k117:KA A117) (g117:GA A117 R117) (k2115:KI I2115) (g2115:GI I2115 O2115) (kl2:V2092_2 -> Bool) (xl2:V2092_2 -> X2092_2) (x:I2092.den):callS (Γ2092 k117 g117 k2115 g2115 kl2 xl2) (bodyOf Tryz.f92) I2092 O2092 x = r2092 k117 g117 k2115 g2115 kl2 xl2 x:=by kernel_rfl
def F2092 (x:I2092.den):Option (O2092.den):=r2092 K117 G117 K2115 G2115 kL2092_2 xL2092_2 x
def K2092 (x:I2092.den):Bool:=(F2092 x).isSome
def G2092 (x:I2092.den):O2092.den:=(F2092 x).getD (zeroSg O2092)
theorem sem2092:SemOK Tryz.prog (92,sgMean true I2092 O2092 K2092 G2092):=sg_opt (env_ok mixed tab_ok eqs_ok (.cons sem117 (.cons sem2115 .nil))) (fnIs Tryz.func92 rfl rfl rfl (by kernel_rfl) (loops_ok (l:=[lc2092_2]) (by kernel_rfl) (.cons (one_loop rfl (loopX_sound (sh:=sh2092_2) (shX:=shX2092_2) (fun f v => evl2092_2 K117 G117 K2115 G2115 kL2092_2 xL2092_2 f v) b2092_2 ((),((0,()),((0,()),(((),()),(([],([],([],()))),((0,()),((0,()),((0,()),())))))))))) (.nil)))) true fun x => ev2092 K117 G117 K2115 G2115 kL2092_2 xL2092_2 x
abbrev I3092:Sg:=⟨[.fnv 115 [0,1,2,5,6]],[.box (.int .i64),.box (.int .i64),.boxC [.fn 90 [3,4]],.box (S30),.box (.flt .f32),.box (.flt .f32),.box (.int .i64)]⟩
abbrev O3092:Sg:=⟨[],[.box (.int .i64),.box (.int .i64),.boxC [.fn 90 [3,4]],.box (S30),.box (.flt .f32),.box (.flt .f32),.box (.int .i64)]⟩
abbrev V3092_2:Type:=((Unit × ((Nat × Nat) × (Int × Unit))) × ((Int × Unit) × ((Int × Unit) × ((Unit × Unit) × (((List (Den (.flt .f32))) × ((List (Den (.int .i64))) × ((List (Den (.slice (.flt .f32)))) × Unit))) × ((Nat × Unit) × ((Nat × Unit) × ((Int × Unit) × Unit))))))))
def sh3092_2:ShS:=⟨[(0,.one (.fn 115 [0,1,2,5,6])),(2,.one (.cpx .f64)),(3,.one (.int .i64))],[(0,.box [.int .i64]),(1,.box [.int .i64]),(2,.box [.fn 90 [3,4]]),(3,.box [.sl (.flt .f32),.sl (.int .i64),.sl (.slice (.flt .f32))]),(4,.box [.flt .f32]),(5,.box [.flt .f32]),(6,.box [.int .i64])],7,7⟩
abbrev X3092_2:Type:=(Unit × ((Int × Unit) × ((Int × Unit) × ((Unit × Unit) × (((List (Den (.flt .f32))) × ((List (Den (.int .i64))) × ((List (Den (.slice (.flt .f32)))) × Unit))) × ((Nat × Unit) × ((Nat × Unit) × ((Int × Unit) × Unit))))))))
def shX3092_2:ShS:=⟨[],[(0,.box [.int .i64]),(1,.box [.int .i64]),(2,.box [.fn 90 [3,4]]),(3,.box [.sl (.flt .f32),.sl (.int .i64),.sl (.slice (.flt .f32))]),(4,.box [.flt .f32]),(5,.box [.flt .f32]),(6,.box [.int .i64])],7,7⟩
noncomputable def Γ3092 (k117:KA A117) (g117:GA A117 R117) (k3115:KI I3115) (g3115:GI I3115 O3115) (kl2:V3092_2 -> Bool) (xl2:V3092_2 -> X3092_2):Env:=mkEnv tab eqs [(117,fnMean A117 R117 k117 g117),(115,sgMean true I3115 O3115 k3115 g3115)] 14 [] [] [] [(2,loopX [0,2,3] [] 0 [] [] sh3092_2 shX3092_2 kl2 xl2)] [] []
noncomputable def lc3092_2:Code:=(loopsOf (bodyOf Tryz.f92)).getD 0 .skip
def q3092_2 (k117:KA A117) (g117:GA A117 R117) (k3115:KI I3115) (g3115:GI I3115 O3115) (f:V3092_2 -> Option (X3092_2)) (v:V3092_2):Option (X3092_2):=
 bif (decide (v.1.2.2.1 < 360)) then
 let v0:=(k3115 ((v.1.2.2.1,v.1.2.1,(),(),(),(),(),()),v.2.1.1,v.2.2.1.1,((),()),v.2.2.2.2.1,v.2.2.2.2.2.1.1,v.2.2.2.2.2.2.1.1,v.2.2.2.2.2.2.2.1))
 bif v0 then
 let v1:=(k117 (v.1.2.1,(4607181046959943561,4580687535080594718),()))
 bif v1 then
 let v2:=(g117 (v.1.2.1,(4607181046959943561,4580687535080594718),()))
 let v3:=(IntKind.wrap IntKind.i64 (v.1.2.2.1 + 1))
 let v4:=(g3115 ((v.1.2.2.1,v.1.2.1,(),(),(),(),(),()),v.2.1.1,v.2.2.1.1,((),()),v.2.2.2.2.1,v.2.2.2.2.2.1.1,v.2.2.2.2.2.2.1.1,v.2.2.2.2.2.2.2.1))
 f (((),((v2.1.1,v2.1.2),(v3,()))),((v4.2.1,()),((v4.2.2.1,()),(((),()),((v4.2.2.2.2.1.1,(v4.2.2.2.2.1.2.1,(v4.2.2.2.2.1.2.2.1,()))),((v4.2.2.2.2.2.1,()),((v4.2.2.2.2.2.2.1,()),((v4.2.2.2.2.2.2.2.1,()),()))))))))
 else
 none
 else
 none
 else
 some ((),(((v.2.1.1),()),(((v.2.2.1.1),()),(((),()),(((v.2.2.2.2.1.1),((v.2.2.2.2.1.2.1),((v.2.2.2.2.1.2.2.1),()))),(((v.2.2.2.2.2.1.1),()),(((v.2.2.2.2.2.2.1.1),()),(((v.2.2.2.2.2.2.2.1.1),()),()))))))))
theorem evl3092_2 (k117:KA A117) (g117:GA A117 R117) (k3115:KI I3115) (g3115:GI I3115 O3115) (kl2:V3092_2 -> Bool) (xl2:V3092_2 -> X3092_2) (f:V3092_2 -> Option (X3092_2)) (v:V3092_2):EBk (Γ3092 k117 g117 k3115 g3115 kl2 xl2) lc3092_2 (roundK [0,2,3] [] 0 [] [] (atS sh3092_2 f) (endX shX3092_2)) (mkS sh3092_2 v) = q3092_2 k117 g117 k3115 g3115 f v:=by kernel_rfl
def b3092_2 (v:V3092_2):Nat:=v.1.2.2.1.natAbs + v.2.1.1.natAbs + v.2.2.1.1.natAbs + v.2.2.2.2.1.1.length + v.2.2.2.2.1.2.1.length + v.2.2.2.2.1.2.2.1.length + v.2.2.2.2.2.2.2.1.1.natAbs + 1000
def l3092_2 (v:V3092_2):Option (X3092_2):=iter (q3092_2 K117 G117 K3115 G3115) (b3092_2 v) v
def kL3092_2 (v:V3092_2):Bool:=(l3092_2 v).isSome
def xL3092_2 (v:V3092_2):X3092_2:=(l3092_2 v).getD ((),((0,()),((0,()),(((),()),(([],([],([],()))),((0,()),((0,()),((0,()),()))))))))
def r3092 (k117:KA A117) (g117:GA A117 R117) (k3115:KI I3115) (g3115:GI I3115 O3115) (kl2:V3092_2 -> Bool) (xl2:V3092_2 -> X3092_2) (x:I3092.den):Option (O3092.den):=
 let v0:=(kl2 (((),(4607182418800017408,0),0,()),(x.2.1,()),(x.2.2.1,()),((),()),x.2.2.2.2.1,(x.2.2.2.2.2.1,()),(x.2.2.2.2.2.2.1,()),x.2.2.2.2.2.2.2,()))
 bif v0 then
 let v1:=(xl2 (((),(4607182418800017408,0),0,()),(x.2.1,()),(x.2.2.1,()),((),()),x.2.2.2.2.1,(x.2.2.2.2.2.1,()),(x.2.2.2.2.2.2.1,()),x.2.2.2.2.2.2.2,()))
 some ((),(v1.2.1.1,(v1.2.2.1.1,(((),()),((v1.2.2.2.2.1.1,(v1.2.2.2.2.1.2.1,(v1.2.2.2.2.1.2.2.1,()))),(v1.2.2.2.2.2.1.1,(v1.2.2.2.2.2.2.1.1,(v1.2.2.2.2.2.2.2.1.1,()))))))))
 else
 none
theorem ev3092 (k117:KA A117) (g117:GA A117 R117) (k3115:KI I3115) (g3115:GI I3115 O3115) (kl2:V3092_2 -> Bool) (xl2:V3092_2 -> X3092_2) (x:I3092.den):callS (Γ3092 k117 g117 k3115 g3115 kl2 xl2) (bodyOf Tryz.f92) I3092 O3092 x = r3092 k117 g117 k3115 g3115 kl2 xl2 x:=by kernel_rfl
def F3092 (x:I3092.den):Option (O3092.den):=r3092 K117 G117 K3115 G3115 kL3092_2 xL3092_2 x
def K3092 (x:I3092.den):Bool:=(F3092 x).isSome
def G3092 (x:I3092.den):O3092.den:=(F3092 x).getD (zeroSg O3092)
theorem sem3092:SemOK Tryz.prog (92,sgMean true I3092 O3092 K3092 G3092):=sg_opt (env_ok mixed tab_ok eqs_ok (.cons sem117 (.cons sem3115 .nil))) (fnIs Tryz.func92 rfl rfl rfl (by kernel_rfl) (loops_ok (l:=[lc3092_2]) (by kernel_rfl) (.cons (one_loop rfl (loopX_sound (sh:=sh3092_2) (shX:=shX3092_2) (fun f v => evl3092_2 K117 G117 K3115 G3115 kL3092_2 xL3092_2 f v) b3092_2 ((),((0,()),((0,()),(((),()),(([],([],([],()))),((0,()),((0,()),((0,()),())))))))))) (.nil)))) true fun x => ev3092 K117 G117 K3115 G3115 kL3092_2 xL3092_2 x
abbrev I2087:Sg:=⟨[.val (.int .i64),.val (.int .i64),.fnv 88 [0,1]],[.box (S30),.box (.flt .f32)]⟩
abbrev O2087:Sg:=⟨[.val (.int .i64),.val (.flt .f32)],[.box (S30),.box (.flt .f32)]⟩
noncomputable def Γ2087 (k2115:KI I2115) (g2115:GI I2115 O2115) (k2092:KI I2092) (g2092:GI I2092 O2092) (k88:KI I88) (g88:GI I88 O88):Env:=mkEnv tab eqs [(115,sgMean true I2115 O2115 k2115 g2115),(92,sgMean true I2092 O2092 k2092 g2092),(88,sgMean true I88 O88 k88 g88)] 15 [.tmp 6,.tmp 7] [] [] [] [] []
def r2087 (k2115:KI I2115) (g2115:GI I2115 O2115) (k2092:KI I2092) (g2092:GI I2092 O2092) (k88:KI I88) (g88:GI I88 O88) (x:I2087.den):Option (O2087.den):=
 let v0:=(k2092 (((),()),x.1.1,x.1.2.1,((),()),x.2.1,x.2.2.1,0,x.1.1,()))
 bif v0 then
 let v1:=(g2092 (((),()),x.1.1,x.1.2.1,((),()),x.2.1,x.2.2.1,0,x.1.1,()))
 some ((v1.2.2.2.2.2.2.2.1,(v1.2.2.2.2.2.2.1,())),((v1.2.2.2.2.1.1,(v1.2.2.2.2.1.2.1,(v1.2.2.2.2.1.2.2.1,()))),(v1.2.2.2.2.2.1,())))
 else
 none
theorem ev2087 (k2115:KI I2115) (g2115:GI I2115 O2115) (k2092:KI I2092) (g2092:GI I2092 O2092) (k88:KI I88) (g88:GI I88 O88) (x:I2087.den):callS (Γ2087 k2115 g2115 k2092 g2092 k88 g88) (bodyOf Tryz.f87) I2087 O2087 x = r2087 k2115 g2115 k2092 g2092 k88 g88 x:=by kernel_rfl
def F2087 (x:I2087.den):Option (O2087.den):=r2087 K2115 G2115 K2092 G2092 K88 G88 x
def K2087 (x:I2087.den):Bool:=(F2087 x).isSome
def G2087 (x:I2087.den):O2087.den:=(F2087 x).getD (zeroSg O2087)
theorem sem2087:SemOK Tryz.prog (87,sgMean true I2087 O2087 K2087 G2087):=sg_opt (env_ok mixed tab_ok eqs_ok (.cons sem2115 (.cons sem2092 (.cons sem88 .nil)))) (fnIs Tryz.func87 rfl rfl rfl (by kernel_rfl) (noLoops (by kernel_rfl))) true fun x => ev2087 K2115 G2115 K2092 G2092 K88 G88 x
abbrev I3087:Sg:=⟨[.val (.int .i64),.val (.int .i64),.fnv 90 [0,1]],[.box (S30),.box (.flt .f32)]⟩
abbrev O3087:Sg:=⟨[.val (.int .i64),.val (.flt .f32)],[.box (S30),.box (.flt .f32)]⟩
noncomputable def Γ3087 (k3115:KI I3115) (g3115:GI I3115 O3115) (k3092:KI I3092) (g3092:GI I3092 O3092) (k90:KI I90) (g90:GI I90 O90):Env:=mkEnv tab eqs [(115,sgMean true I3115 O3115 k3115 g3115),(92,sgMean true I3092 O3092 k3092 g3092),(90,sgMean true I90 O90 k90 g90)] 15 [.tmp 6,.tmp 7] [] [] [] [] []
def r3087 (k3115:KI I3115) (g3115:GI I3115 O3115) (k3092:KI I3092) (g3092:GI I3092 O3092) (k90:KI I90) (g90:GI I90 O90) (x:I3087.den):Option (O3087.den):=
 let v0:=(k3092 (((),()),x.1.1,x.1.2.1,((),()),x.2.1,x.2.2.1,0,x.1.1,()))
 bif v0 then
 let v1:=(g3092 (((),()),x.1.1,x.1.2.1,((),()),x.2.1,x.2.2.1,0,x.1.1,()))
 some ((v1.2.2.2.2.2.2.2.1,(v1.2.2.2.2.2.2.1,())),((v1.2.2.2.2.1.1,(v1.2.2.2.2.1.2.1,(v1.2.2.2.2.1.2.2.1,()))),(v1.2.2.2.2.2.1,())))
 else
 none
theorem ev3087 (k3115:KI I3115) (g3115:GI I3115 O3115) (k3092:KI I3092) (g3092:GI I3092 O3092) (k90:KI I90) (g90:GI I90 O90) (x:I3087.den):callS (Γ3087 k3115 g3115 k3092 g3092 k90 g90) (bodyOf Tryz.f87) I3087 O3087 x = r3087 k3115 g3115 k3092 g3092 k90 g90 x:=by kernel_rfl
def F3087 (x:I3087.den):Option (O3087.den):=r3087 K3115 G3115 K3092 G3092 K90 G90 x
def K3087 (x:I3087.den):Bool:=(F3087 x).isSome
def G3087 (x:I3087.den):O3087.den:=(F3087 x).getD (zeroSg O3087)
theorem sem3087:SemOK Tryz.prog (87,sgMean true I3087 O3087 K3087 G3087):=sg_opt (env_ok mixed tab_ok eqs_ok (.cons sem3115 (.cons sem3092 (.cons sem90 .nil)))) (fnIs Tryz.func87 rfl rfl rfl (by kernel_rfl) (noLoops (by kernel_rfl))) true fun x => ev3087 K3115 G3115 K3092 G3092 K90 G90 x
abbrev A57:Ty:=.cons (S30) (.cons (.flt .f32) (.nil))
abbrev R57:Ty:=.cons (.int .i64) (.cons (.bool) (.nil))
noncomputable def Γ57 (k86:KA A86) (g86:GA A86 R86) (k88:KI I88) (g88:GI I88 O88) (k2087:KI I2087) (g2087:GI I2087 O2087):Env:=mkEnv tab eqs [(86,fnMean A86 R86 k86 g86),(88,sgMean true I88 O88 k88 g88),(87,sgMean true I2087 O2087 k2087 g2087)] 27 [.tmp 4,.tmp 5] [] [] [] [] []
def r57 (k86:KA A86) (g86:GA A86 R86) (k88:KI I88) (g88:GI I88 O88) (k2087:KI I2087) (g2087:GI I2087 O2087) (x:Den A57):Option (Den R57):=
 let v0:=(k86 (x.1,x.2.1,0,()))
 bif v0 then
 let v1:=(g86 (x.1,x.2.1,0,()))
 bif (!v1.2.1) then
 some ((0),((false),()))
 else
 let v2:=(k2087 ((0,90,(),()),x))
 bif v2 then
 let v3:=(g2087 ((0,90,(),()),x))
 bif (!fgt FloatKind.f32 v3.1.2.1 0) then
 some ((0),((false),()))
 else
 some (v3.1.1,((true),()))
 else
 none
 else
 none
theorem ev57 (k86:KA A86) (g86:GA A86 R86) (k88:KI I88) (g88:GI I88 O88) (k2087:KI I2087) (g2087:GI I2087 O2087) (x:Den A57):callK (Γ57 k86 g86 k88 g88 k2087 g2087) (bodyOf Tryz.f57) (decR R57) (encA A57 x) [] = r57 k86 g86 k88 g88 k2087 g2087 x:=by kernel_rfl
def F57 (x:Den A57):Option (Den R57):=r57 K86 G86 K88 G88 K2087 G2087 x
def K57 (x:Den A57):Bool:=(F57 x).isSome
def G57 (x:Den A57):Den R57:=(F57 x).getD (zero R57)
theorem sem57:SemOK Tryz.prog (57,fnMean A57 R57 K57 G57):=fn_opt (env_ok mixed tab_ok eqs_ok (.cons sem86 (.cons sem88 (.cons sem2087 .nil)))) (fnIs Tryz.func57 rfl rfl rfl (by kernel_rfl) (noLoops (by kernel_rfl))) fun x => ev57 K86 G86 K88 G88 K2087 G2087 x
abbrev A58:Ty:=.cons (S30) (.cons (.flt .f32) (.nil))
abbrev R58:Ty:=.cons (.int .i64) (.cons (.bool) (.nil))
noncomputable def Γ58 (k86:KA A86) (g86:GA A86 R86) (k90:KI I90) (g90:GI I90 O90) (k3087:KI I3087) (g3087:GI I3087 O3087):Env:=mkEnv tab eqs [(86,fnMean A86 R86 k86 g86),(90,sgMean true I90 O90 k90 g90),(87,sgMean true I3087 O3087 k3087 g3087)] 27 [.tmp 4,.tmp 5] [] [] [] [] []
def r58 (k86:KA A86) (g86:GA A86 R86) (k90:KI I90) (g90:GI I90 O90) (k3087:KI I3087) (g3087:GI I3087 O3087) (x:Den A58):Option (Den R58):=
 let v0:=(k86 (x.1,x.2.1,91,()))
 bif v0 then
 let v1:=(g86 (x.1,x.2.1,91,()))
 bif (!v1.2.1) then
 some ((0),((false),()))
 else
 let v2:=(k3087 ((91,180,(),()),x))
 bif v2 then
 let v3:=(g3087 ((91,180,(),()),x))
 bif (!fgt FloatKind.f32 v3.1.2.1 0) then
 some ((0),((false),()))
 else
 some (v3.1.1,((true),()))
 else
 none
 else
 none
theorem ev58 (k86:KA A86) (g86:GA A86 R86) (k90:KI I90) (g90:GI I90 O90) (k3087:KI I3087) (g3087:GI I3087 O3087) (x:Den A58):callK (Γ58 k86 g86 k90 g90 k3087 g3087) (bodyOf Tryz.f58) (decR R58) (encA A58 x) [] = r58 k86 g86 k90 g90 k3087 g3087 x:=by kernel_rfl
def F58 (x:Den A58):Option (Den R58):=r58 K86 G86 K90 G90 K3087 G3087 x
def K58 (x:Den A58):Bool:=(F58 x).isSome
def G58 (x:Den A58):Den R58:=(F58 x).getD (zero R58)
theorem sem58:SemOK Tryz.prog (58,fnMean A58 R58 K58 G58):=fn_opt (env_ok mixed tab_ok eqs_ok (.cons sem86 (.cons sem90 (.cons sem3087 .nil)))) (fnIs Tryz.func58 rfl rfl rfl (by kernel_rfl) (noLoops (by kernel_rfl))) fun x => ev58 K86 G86 K90 G90 K3087 G3087 x
abbrev A63:Ty:=.cons (.cpx .f32) (.cons (.int .i64) (.cons (.bool) (.nil)))
abbrev R63:Ty:=.cons (.int .i64) (.cons (.int .i64) (.cons (.bool) (.nil)))
noncomputable def Γ63 (k60:KA A60) (g60:GA A60 R60) (k95:KA A95) (g95:GA A95 R95):Env:=mkEnv tab eqs [(60,fnMean A60 R60 k60 g60),(95,fnMean A95 R95 k95 g95)] 26 [.tmp 6,.tmp 7,.tmp 8] [] [] [] [] []
def r63 (k60:KA A60) (g60:GA A60 R60) (k95:KA A95) (g95:GA A95 R95) (x:Den A63):Option (Den R63):=
 let v0:=(k60 (x.1,()))
 bif v0 then
 let v1:=(g60 (x.1,()))
 bif (decide (v1.1 < 0)) then
 some ((0),((0),((false),())))
 else
 bif (!x.2.2.1) then
 some ((0),((0),((false),())))
 else
 let v2:=(IntKind.wrap IntKind.i64 (v1.1 - x.2.1))
 let v3:=(k95 (v2,()))
 bif v3 then
 let v4:=(IntKind.wrap IntKind.i64 (v1.1 + x.2.1))
 let v5:=(k95 (v4,()))
 bif v5 then
 let v6:=(g95 (v2,()))
 let v7:=(g95 (v4,()))
 some (v6.1,(v7.1,((true),())))
 else
 none
 else
 none
 else
 none
theorem ev63 (k60:KA A60) (g60:GA A60 R60) (k95:KA A95) (g95:GA A95 R95) (x:Den A63):callK (Γ63 k60 g60 k95 g95) (bodyOf Tryz.f63) (decR R63) (encA A63 x) [] = r63 k60 g60 k95 g95 x:=by kernel_rfl
def F63 (x:Den A63):Option (Den R63):=r63 K60 G60 K95 G95 x
def K63 (x:Den A63):Bool:=(F63 x).isSome
def G63 (x:Den A63):Den R63:=(F63 x).getD (zero R63)
theorem sem63:SemOK Tryz.prog (63,fnMean A63 R63 K63 G63):=fn_opt (env_ok mixed tab_ok eqs_ok (.cons sem60 (.cons sem95 .nil))) (fnIs Tryz.func63 rfl rfl rfl (by kernel_rfl) (noLoops (by kernel_rfl))) fun x => ev63 K60 G60 K95 G95 x
def ceilD (b : Nat) : Nat := match Ieee.double.read b with
 | .nan _ _ => qn .f64
 | d => Ieee.double.write (d.integral .up)
theorem toI (b : Nat) : Extern.MathFloor.toIntegral "math.archCeil" .up #[.float .f64 b] = (match FloatKind.f64.decode b with
 | .nan s t =>
   if FloatKind.f64.format.quiet t = t then pure (.float .f64 b) else do
   let kept <- choose (.extern "math.Floor,Ceil,Trunc,RoundToEven.signallingNaN kept" 2)
   pure (.float .f64 (if kept == 1 then b else FloatKind.f64.encode (.nan s (FloatKind.f64.format.quiet t))))
 | d => pure (.float .f64 (FloatKind.f64.encode (d.integral .up)))) := rfl
theorem ceil_nan {P : Program} {b : Nat} (h : isNaN .f64 b = true) (w : World) : ∃ r w', (Extern.MathFloor.toIntegral "math.archCeil" .up #[.float .f64 b]).run P w = .ok (.float .f64 r) w' /\ Still w w' /\ isNaN .f64 r = true := by
 obtain ⟨s, t, hr⟩ := decode_nan h
 have hd : FloatKind.f64.decode b = .nan s t := hr
 by_cases hq : FloatKind.f64.format.quiet t = t
 ·refine ⟨b, w, ?_, Still.refl w, h⟩
  rw [toI, hd]
  dsimp only
  rw [if_pos hq]
  rfl
 ·have hn : isNaN .f64 (FloatKind.f64.encode (.nan s (FloatKind.f64.format.quiet t))) = true := by
   rw [isNaN_iff]
   have e : FloatKind.f64.encode (.nan s (FloatKind.f64.format.quiet t)) = Ieee.double.word s (Ieee.double.infRung + (t ||| 2 ^ 51) % Ieee.double.binade) := rfl
   have h1 : FloatKind.f64.format.infRung = 2047 * 2 ^ 52 := by decide
   have h2 : FloatKind.f64.format.signWeight = 2 ^ 63 := by decide
   have h3 : Ieee.double.infRung = 2047 * 2 ^ 52 := by decide
   have h4 : Ieee.double.signWeight = 2 ^ 63 := by decide
   have h5 : Ieee.double.binade = 2 ^ 52 := by decide
   rw [e, h1, h2, h3, h5]
   have hlt := Nat.mod_lt (t ||| 2 ^ 51) (show 0 < 2 ^ 52 by decide)
   have hne : (t ||| 2 ^ 51) % 2 ^ 52 ≠ 0 := by
    intro h0
    have : ((t ||| 2 ^ 51) % 2 ^ 52).testBit 51 = true := by
     rw [Nat.testBit_mod_two_pow, Nat.testBit_or, Nat.testBit_two_pow_self]
     simp
    rw [h0] at this
    simp at this
   generalize (t ||| 2 ^ 51) % 2 ^ 52 = x at *
   unfold Ieee.Format.word
   rw [h4]
   cases s
   ·rw [if_neg (by decide), Nat.mod_eq_of_lt (by omega)]; omega
   ·rw [if_pos rfl]; omega
  obtain ⟨v, w1, hc, hs⟩ : ∃ v w1, (choose (.extern "math.Floor,Ceil,Trunc,RoundToEven.signallingNaN kept" 2)).run P w = .ok v w1 /\ Still w w1 := ⟨_, _, by simp only [run_choose, Question.forced]; rfl, drawn_still w⟩
  refine ⟨if v == 1 then b else FloatKind.f64.encode (.nan s (FloatKind.f64.format.quiet t)), w1, ?_, hs, ?_⟩
  ·rw [toI, hd]
   dsimp only
   rw [if_neg hq]
   simp only [Sem.run_bind, hc, Result.andThen_ok, Sem.run_pure]
  ·split
   ·exact h
   ·exact hn
theorem ext_ceil {P : Program} {f : Nat} (he : ExtIs P f (Extern.MathFloor.toIntegral "math.archCeil" .up)) :
 FamOK P f (extFam (.cons (.flt .f64) .nil) (.cons (.flt .f64) .nil) Unit ⟨()⟩ (fun _ x => (ceilD x.1, ()))) := by
 refine ext_ok he fun x vs β K w hv => ?_
 obtain ⟨b, _⟩ := x
 rcases vs with ⟨l⟩
 cases l with
 | nil => exact hv.elim
 | cons v r =>
   cases r with
   | cons _ _ => exact hv.2.elim
   | nil =>
     obtain ⟨b', rfl, hb⟩ := hv.1
     have hb : FEq .f64 b b' := hb
     by_cases hn : isNaN .f64 b' = true
     ·obtain ⟨r, w', h1, h2, h3⟩ := ceil_nan (P := P) hn w
      refine ⟨.float .f64 r, w', (), h1, h2, ⟨r, rfl, .inr ⟨?_, h3⟩⟩⟩
      have hnb : isNaN .f64 b = true := by
       rcases hb with rfl | ⟨h4, _⟩
       ·exact hn
       ·exact h4
      obtain ⟨s, t, hr⟩ := decode_nan hnb
      have hr' : Ieee.double.read b = .nan s t := hr
      show isNaN .f64 (ceilD b) = true
      unfold ceilD
      rw [hr']
      exact isNaN_qn _
     ·rcases hb with rfl | ⟨_, h4⟩
      ·refine ⟨.float .f64 (ceilD b), w, (), ?_, Still.refl w, ⟨_, rfl, .inl rfl⟩⟩
       rw [show (⟨[Value.float .f64 b]⟩ : Array Value) = #[.float .f64 b] from rfl, toI]
       unfold ceilD
       cases hd : FloatKind.f64.decode b with
       | nan s t =>
         exfalso
         apply hn
         unfold isNaN
         rw [hd]; rfl
       | infinity s =>
         have hd' : Ieee.double.read b = .infinity s := hd
         rw [hd']
         rfl
       | number s m e =>
         have hd' : Ieee.double.read b = .number s m e := hd
         rw [hd']
         rfl
      ·exact absurd h4 hn
theorem ext122 : ExtIs Tryz.prog 122 (Extern.MathFloor.toIntegral "math.archCeil" .up) := ⟨_, Tryz.func122, rfl, rfl, by kernel_rfl, by kernel_rfl⟩
abbrev A101 : Ty := .cons (.flt .f64) (.nil)
abbrev R101 : Ty := .cons (.flt .f64) (.nil)
noncomputable def N101 : NEnv := mkN [(122, extFam (.cons (.flt .f64) .nil) (.cons (.flt .f64) .nil) Unit ⟨()⟩ (fun _ x => (ceilD x.1, ())))] []
noncomputable def Γ101 : Env := mkEnv tab eqs [] 7 [.tmp 2] [] [] [] [] []
theorem evN101 (h : Den R101 -> Option Unit) (x : Den A101) : callN Γ101 N101 (bodyOf Tryz.f101) (decRH R101 h) (encA A101 x) [] =
 allK fun (_ : Unit) => h (ceilD x.1, ()) := by kernel_rfl
def K101 (x : Den A101) : Bool := true
def G101 (x : Den A101) : Den R101 := (ceilD x.1, ())
theorem env101 : EnvOK Tryz.prog Γ101 := env_ok mixed tab_ok eqs_ok .nil
theorem is101 : FnIs Tryz.prog 101 Γ101 (bodyOf Tryz.f101) := fnIs Tryz.func101 rfl rfl rfl (by kernel_rfl) (noLoops (by kernel_rfl))
theorem sem101 : SemOK Tryz.prog (101, fnMean A101 R101 K101 G101) :=
 fnN_sem (N := N101) env101 (mkN_ok ⟨ext_ceil ext122, trivial⟩) is101 noNLoops (Q := fun x y => y = (ceilD x.1, ()))
  (fun x y hq β K v hv => by rw [hq] at hv; exact hv)
  (fun x _ k hk => by
   rw [evN101]
   exact allK_intro fun _ => hk _ rfl)
end Go.Proofs.YteieioehigacmaaGreat.AM
