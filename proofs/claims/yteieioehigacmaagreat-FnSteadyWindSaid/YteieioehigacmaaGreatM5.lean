/- Texts of one proof, joined: an abstract machine for the program, its functions evaluated, plain lemmas. Conditions: those that each lemma names. -/
import Derived.Test.YteieioehigacmaaGreatM4
import Derived.Test.YteieioehigacmaaGreatM2
import Derived.Test.YteieioehigacmaaGreatM3
set_option linter.unusedVariables false
set_option linter.unusedSimpArgs false
namespace Go.Proofs.YteieioehigacmaaGreat.AM
open Go Go.Proofs
set_option maxRecDepth 100000
set_option maxHeartbeats 0
abbrev A66:Ty:=.cons (.flt .f64) (.cons (.flt .f64) (.nil))
abbrev R66:Ty:=.cons (.int .i64) (.cons (.bool) (.nil))
noncomputable def Γ66 (k100:KA A100) (g100:GA A100 R100) (k101:KA A101) (g101:GA A101 R101):Env:=mkEnv tab eqs [(100,fnMean A100 R100 k100 g100),(101,fnMean A101 R101 k101 g101)] 32 [.tmp 4,.tmp 5] [] [] [] [] []
def r66 (k100:KA A100) (g100:GA A100 R100) (k101:KA A101) (g101:GA A101 R101) (x:Den A66):Option (Den R66):=
 bif (fgt FloatKind.f64 x.1 0 || feq FloatKind.f64 x.1 0) then
 bif (!(flt FloatKind.f64 x.1 4726483295884279808 || feq FloatKind.f64 x.1 4726483295884279808)) then
 some ((0),((false),()))
 else
 let v0:=(k100 x.2)
 bif v0 then
 let v1:=(g100 x.2)
 bif (!v1.1) then
 some ((0),((false),()))
 else
 bif (!fgt FloatKind.f64 x.2.1 0) then
 some ((0),((false),()))
 else
 let v2:=(farith BinOp.quo FloatKind.f64 x.1 x.2.1)
 bif (fgt FloatKind.f64 v2 4711630319722168320) then
 some ((0),((false),()))
 else
 let v3:=(k101 (v2,()))
 bif v3 then
 let v4:=(g101 (v2,()))
 bif (f2iOk FloatKind.f64 v4.1 IntKind.i64) then
 let v5:=(f2i FloatKind.f64 v4.1)
 some (v5,((true),()))
 else
 none
 else
 none
 else
 none
 else
 some ((0),((false),()))
theorem ev66 (k100:KA A100) (g100:GA A100 R100) (k101:KA A101) (g101:GA A101 R101) (x:Den A66):callK (Γ66 k100 g100 k101 g101) (bodyOf Tryz.f66) (decR R66) (encA A66 x) [] = r66 k100 g100 k101 g101 x:=by kernel_rfl
def F66 (x:Den A66):Option (Den R66):=r66 K100 G100 K101 G101 x
def K66 (x:Den A66):Bool:=(F66 x).isSome
def G66 (x:Den A66):Den R66:=(F66 x).getD (zero R66)
theorem sem66:SemOK Tryz.prog (66,fnMean A66 R66 K66 G66):=fn_opt (env_ok mixed tab_ok eqs_ok (.cons sem100 (.cons sem101 .nil))) (fnIs Tryz.func66 rfl rfl rfl (by kernel_rfl) (noLoops (by kernel_rfl))) fun x => ev66 K100 G100 K101 G101 x
abbrev A41:Ty:=.cons (S30) (.cons (.cpx .f32) (.cons (.cpx .f64) (.nil)))
abbrev R41:Ty:=.cons (.int .i64) (.cons (.bool) (.nil))
noncomputable def Γ41 (k56:KA A56) (g56:GA A56 R56) (k57:KA A57) (g57:GA A57 R57) (k58:KA A58) (g58:GA A58 R58) (k59:KA A59) (g59:GA A59 R59) (k60:KA A60) (g60:GA A60 R60) (k61:KA A61) (g61:GA A61 R61) (k62:KA A62) (g62:GA A62 R62) (k22:KA A22) (g22:GA A22 R22) (k63:KA A63) (g63:GA A63 R63) (k64:KA A64) (g64:GA A64 R64) (k65:KA A65) (g65:GA A65 R65) (k66:KA A66) (g66:GA A66 R66):Env:=mkEnv tab eqs [(56,fnMean A56 R56 k56 g56),(57,fnMean A57 R57 k57 g57),(58,fnMean A58 R58 k58 g58),(59,fnMean A59 R59 k59 g59),(60,fnMean A60 R60 k60 g60),(61,fnMean A61 R61 k61 g61),(62,fnMean A62 R62 k62 g62),(22,fnMean A22 R22 k22 g22),(63,fnMean A63 R63 k63 g63),(64,fnMean A64 R64 k64 g64),(65,fnMean A65 R65 k65 g65),(66,fnMean A66 R66 k66 g66)] 111 [.tmp 6,.tmp 7] [] [] [] [] []
def r41 (k56:KA A56) (g56:GA A56 R56) (k57:KA A57) (g57:GA A57 R57) (k58:KA A58) (g58:GA A58 R58) (k59:KA A59) (g59:GA A59 R59) (k60:KA A60) (g60:GA A60 R60) (k61:KA A61) (g61:GA A61 R61) (k62:KA A62) (g62:GA A62 R62) (k22:KA A22) (g22:GA A22 R22) (k63:KA A63) (g63:GA A63 R63) (k64:KA A64) (g64:GA A64 R64) (k65:KA A65) (g65:GA A65 R65) (k66:KA A66) (g66:GA A66 R66) (x:Den A41):Option (Den R41):=
 let v0:=(k56 (x.2.1,()))
 bif v0 then
 let v1:=(g56 (x.2.1,()))
 let v2:=(k57 (x.1,v1))
 bif v2 then
 let v3:=(k58 (x.1,v1))
 bif v3 then
 let v4:=(k59 x.2.2)
 bif v4 then
 let v5:=(k60 (x.2.1,()))
 bif v5 then
 let v6:=(g59 x.2.2)
 bif (decide (v6.1 < 0)) then
 some ((0),((false),()))
 else
 let v7:=(g60 (x.2.1,()))
 bif (decide (v7.1 < 0)) then
 some ((0),((false),()))
 else
 let v8:=(g57 (x.1,v1))
 bif (!v8.2.1) then
 some ((0),((false),()))
 else
 let v9:=(g58 (x.1,v1))
 bif (!v9.2.1) then
 some ((0),((false),()))
 else
 let v10:=(k61 (v6.1,v7))
 bif v10 then
 let v11:=(k62 x.2.2)
 bif v11 then
 let v12:=(g61 (v6.1,v7))
 let v13:=(k22 (v12.1,v8.1,v9.1,()))
 bif v13 then
 let v14:=(g22 (v12.1,v8.1,v9.1,()))
 bif (!v14.1) then
 bif (decide (v12.1 > v9.1)) then
 let v15:=(k63 (x.2.1,v9.1,true,()))
 bif v15 then
 let v16:=(g63 (x.2.1,v9.1,true,()))
 let v17:=(k64 (x.2.2.1,v16.1,v16.2.1,()))
 bif v17 then
 let v18:=(g64 (x.2.2.1,v16.1,v16.2.1,()))
 bif (!v18.2.2.1) then
 some ((0),((false),()))
 else
 bif (flt FloatKind.f64 v18.1 0) then
 bif (flt FloatKind.f64 v18.2.1 0) then
 let v19:=(k65 (x.1,v1.1,v9.1,()))
 bif v19 then
 let v20:=(farith BinOp.add FloatKind.f64 0 0)
 let v21:=(g65 (x.1,v1.1,v9.1,()))
 let v22:=(k66 (v20,(convF FloatKind.f32 FloatKind.f64 v21.1).2,()))
 bif v22 then
 let v23:=(g66 (v20,(convF FloatKind.f32 FloatKind.f64 v21.1).2,()))
 some (v23.1,(v23.2.1,()))
 else
 none
 else
 none
 else
 let v19:=(k65 (x.1,v1.1,v9.1,()))
 bif v19 then
 let v20:=(farith BinOp.add FloatKind.f64 0 v18.2.1)
 let v21:=(g65 (x.1,v1.1,v9.1,()))
 let v22:=(k66 (v20,(convF FloatKind.f32 FloatKind.f64 v21.1).2,()))
 bif v22 then
 let v23:=(g66 (v20,(convF FloatKind.f32 FloatKind.f64 v21.1).2,()))
 some (v23.1,(v23.2.1,()))
 else
 none
 else
 none
 else
 bif (flt FloatKind.f64 v18.2.1 0) then
 let v19:=(k65 (x.1,v1.1,v9.1,()))
 bif v19 then
 let v20:=(farith BinOp.add FloatKind.f64 v18.1 0)
 let v21:=(g65 (x.1,v1.1,v9.1,()))
 let v22:=(k66 (v20,(convF FloatKind.f32 FloatKind.f64 v21.1).2,()))
 bif v22 then
 let v23:=(g66 (v20,(convF FloatKind.f32 FloatKind.f64 v21.1).2,()))
 some (v23.1,(v23.2.1,()))
 else
 none
 else
 none
 else
 let v19:=(k65 (x.1,v1.1,v9.1,()))
 bif v19 then
 let v20:=(farith BinOp.add FloatKind.f64 v18.1 v18.2.1)
 let v21:=(g65 (x.1,v1.1,v9.1,()))
 let v22:=(k66 (v20,(convF FloatKind.f32 FloatKind.f64 v21.1).2,()))
 bif v22 then
 let v23:=(g66 (v20,(convF FloatKind.f32 FloatKind.f64 v21.1).2,()))
 some (v23.1,(v23.2.1,()))
 else
 none
 else
 none
 else
 none
 else
 none
 else
 let v15:=(k63 (x.2.1,v8.1,true,()))
 bif v15 then
 let v16:=(g63 (x.2.1,v8.1,true,()))
 let v17:=(k64 (x.2.2.1,v16.1,v16.2.1,()))
 bif v17 then
 let v18:=(g64 (x.2.2.1,v16.1,v16.2.1,()))
 bif (!v18.2.2.1) then
 some ((0),((false),()))
 else
 bif (flt FloatKind.f64 v18.1 0) then
 bif (flt FloatKind.f64 v18.2.1 0) then
 let v19:=(k65 (x.1,v1.1,v8.1,()))
 bif v19 then
 let v20:=(farith BinOp.add FloatKind.f64 0 0)
 let v21:=(g65 (x.1,v1.1,v8.1,()))
 let v22:=(k66 (v20,(convF FloatKind.f32 FloatKind.f64 v21.1).2,()))
 bif v22 then
 let v23:=(g66 (v20,(convF FloatKind.f32 FloatKind.f64 v21.1).2,()))
 some (v23.1,(v23.2.1,()))
 else
 none
 else
 none
 else
 let v19:=(k65 (x.1,v1.1,v8.1,()))
 bif v19 then
 let v20:=(farith BinOp.add FloatKind.f64 0 v18.2.1)
 let v21:=(g65 (x.1,v1.1,v8.1,()))
 let v22:=(k66 (v20,(convF FloatKind.f32 FloatKind.f64 v21.1).2,()))
 bif v22 then
 let v23:=(g66 (v20,(convF FloatKind.f32 FloatKind.f64 v21.1).2,()))
 some (v23.1,(v23.2.1,()))
 else
 none
 else
 none
 else
 bif (flt FloatKind.f64 v18.2.1 0) then
 let v19:=(k65 (x.1,v1.1,v8.1,()))
 bif v19 then
 let v20:=(farith BinOp.add FloatKind.f64 v18.1 0)
 let v21:=(g65 (x.1,v1.1,v8.1,()))
 let v22:=(k66 (v20,(convF FloatKind.f32 FloatKind.f64 v21.1).2,()))
 bif v22 then
 let v23:=(g66 (v20,(convF FloatKind.f32 FloatKind.f64 v21.1).2,()))
 some (v23.1,(v23.2.1,()))
 else
 none
 else
 none
 else
 let v19:=(k65 (x.1,v1.1,v8.1,()))
 bif v19 then
 let v20:=(farith BinOp.add FloatKind.f64 v18.1 v18.2.1)
 let v21:=(g65 (x.1,v1.1,v8.1,()))
 let v22:=(k66 (v20,(convF FloatKind.f32 FloatKind.f64 v21.1).2,()))
 bif v22 then
 let v23:=(g66 (v20,(convF FloatKind.f32 FloatKind.f64 v21.1).2,()))
 some (v23.1,(v23.2.1,()))
 else
 none
 else
 none
 else
 none
 else
 none
 else
 let v15:=(k65 (x.1,v1.1,v12))
 bif v15 then
 let v16:=(g62 x.2.2)
 let v17:=(g65 (x.1,v1.1,v12))
 let v18:=(k66 (v16.1,(convF FloatKind.f32 FloatKind.f64 v17.1).2,()))
 bif v18 then
 let v19:=(g66 (v16.1,(convF FloatKind.f32 FloatKind.f64 v17.1).2,()))
 some (v19.1,(v19.2.1,()))
 else
 none
 else
 none
 else
 none
 else
 none
 else
 none
 else
 none
 else
 none
 else
 none
 else
 none
 else
 none
theorem ev41 (k56:KA A56) (g56:GA A56 R56) (k57:KA A57) (g57:GA A57 R57) (k58:KA A58) (g58:GA A58 R58) (k59:KA A59) (g59:GA A59 R59) (k60:KA A60) (g60:GA A60 R60) (k61:KA A61) (g61:GA A61 R61) (k62:KA A62) (g62:GA A62 R62) (k22:KA A22) (g22:GA A22 R22) (k63:KA A63) (g63:GA A63 R63) (k64:KA A64) (g64:GA A64 R64) (k65:KA A65) (g65:GA A65 R65) (k66:KA A66) (g66:GA A66 R66) (x:Den A41):callK (Γ41 k56 g56 k57 g57 k58 g58 k59 g59 k60 g60 k61 g61 k62 g62 k22 g22 k63 g63 k64 g64 k65 g65 k66 g66) (bodyOf Tryz.f41) (decR R41) (encA A41 x) [] = r41 k56 g56 k57 g57 k58 g58 k59 g59 k60 g60 k61 g61 k62 g62 k22 g22 k63 g63 k64 g64 k65 g65 k66 g66 x:=by kernel_rfl
def F41 (x:Den A41):Option (Den R41):=r41 K56 G56 K57 G57 K58 G58 K59 G59 K60 G60 K61 G61 K62 G62 K22 G22 K63 G63 K64 G64 K65 G65 K66 G66 x
def K41 (x:Den A41):Bool:=(F41 x).isSome
def G41 (x:Den A41):Den R41:=(F41 x).getD (zero R41)
theorem sem41:SemOK Tryz.prog (41,fnMean A41 R41 K41 G41):=fn_opt (env_ok mixed tab_ok eqs_ok (.cons sem56 (.cons sem57 (.cons sem58 (.cons sem59 (.cons sem60 (.cons sem61 (.cons sem62 (.cons sem22 (.cons sem63 (.cons sem64 (.cons sem65 (.cons sem66 .nil))))))))))))) (fnIs Tryz.func41 rfl rfl rfl (by kernel_rfl) (noLoops (by kernel_rfl))) fun x => ev41 K56 G56 K57 G57 K58 G58 K59 G59 K60 G60 K61 G61 K62 G62 K22 G22 K63 G63 K64 G64 K65 G65 K66 G66 x
abbrev A24:Ty:=.cons (S25) (.cons (S30) (.cons (.int .i64) (.cons (.int .i64) (.cons (.int .i64) (.nil)))))
abbrev R24:Ty:=.cons (.int .i64) (.cons (.bool) (.nil))
noncomputable def Γ24 (k39:KA A39) (g39:GA A39 R39) (k15:KA A15) (g15:GA A15 R15) (k40:KA A40) (g40:GA A40 R40) (k43:KA A43) (g43:GA A43 R43) (k42:KA A42) (g42:GA A42 R42) (k41:KA A41) (g41:GA A41 R41):Env:=mkEnv tab eqs [(39,fnMean A39 R39 k39 g39),(15,fnMean A15 R15 k15 g15),(40,fnMean A40 R40 k40 g40),(43,fnMean A43 R43 k43 g43),(42,fnMean A42 R42 k42 g42),(41,fnMean A41 R41 k41 g41)] 70 [.tmp 10,.tmp 11] [] [] [] [] []
def r24 (k39:KA A39) (g39:GA A39 R39) (k15:KA A15) (g15:GA A15 R15) (k40:KA A40) (g40:GA A40 R40) (k43:KA A43) (g43:GA A43 R43) (k42:KA A42) (g42:GA A42 R42) (k41:KA A41) (g41:GA A41 R41) (x:Den A24):Option (Den R24):=
 let v0:=(k39 (x.1,x.2.2.1,x.2.2.2.2))
 bif v0 then
 let v1:=(g39 (x.1,x.2.2.1,x.2.2.2.2))
 bif (!v1.2.1) then
 some ((0),((false),()))
 else
 let v2:=(k15 (x.1,x.2.2.2.1,()))
 bif v2 then
 let v3:=(g15 (x.1,x.2.2.2.1,()))
 bif (!v3.1) then
 some ((0),((false),()))
 else
 bif (x.2.2.1 == x.2.2.2.1) then
 some ((0),((false),()))
 else
 bif (x.1.1 != 0) then
 bif (x.1.1 != 0) then
 let v4:=(IntKind.wrap IntKind.i64 (Int.tdiv x.2.2.1 x.1.1))
 let v5:=(IntKind.wrap IntKind.i64 (Int.tdiv x.2.2.2.1 x.1.1))
 let v6:=(k40 (v4,v5,()))
 bif v6 then
 let v7:=(g40 (v4,v5,()))
 bif (!v7.1) then
 some ((0),((false),()))
 else
 bif (x.1.1 != 0) then
 bif (x.1.1 != 0) then
 let v8:=(k40 (Int.tmod x.2.2.1 x.1.1,Int.tmod x.2.2.2.1 x.1.1,()))
 bif v8 then
 let v9:=(g40 (Int.tmod x.2.2.1 x.1.1,Int.tmod x.2.2.2.1 x.1.1,()))
 bif (!v9.1) then
 some ((0),((false),()))
 else
 let v10:=(k43 (x.1,x.2.2.2.1,()))
 bif v10 then
 let v11:=(k43 (x.1,x.2.2.1,()))
 bif v11 then
 let v12:=(g43 (x.1,x.2.2.2.1,()))
 let v13:=(g43 (x.1,x.2.2.1,()))
 let v14:=(k42 (v12.1,v13))
 bif v14 then
 let v15:=(g42 (v12.1,v13))
 let v16:=(k41 (x.2.1,v1.1,v15))
 bif v16 then
 let v17:=(g41 (x.2.1,v1.1,v15))
 some (v17.1,(v17.2.1,()))
 else
 none
 else
 none
 else
 none
 else
 none
 else
 none
 else
 none
 else
 none
 else
 none
 else
 none
 else
 none
 else
 none
 else
 none
theorem ev24 (k39:KA A39) (g39:GA A39 R39) (k15:KA A15) (g15:GA A15 R15) (k40:KA A40) (g40:GA A40 R40) (k43:KA A43) (g43:GA A43 R43) (k42:KA A42) (g42:GA A42 R42) (k41:KA A41) (g41:GA A41 R41) (x:Den A24):callK (Γ24 k39 g39 k15 g15 k40 g40 k43 g43 k42 g42 k41 g41) (bodyOf Tryz.f24) (decR R24) (encA A24 x) [] = r24 k39 g39 k15 g15 k40 g40 k43 g43 k42 g42 k41 g41 x:=by kernel_rfl
def F24 (x:Den A24):Option (Den R24):=r24 K39 G39 K15 G15 K40 G40 K43 G43 K42 G42 K41 G41 x
def K24 (x:Den A24):Bool:=(F24 x).isSome
def G24 (x:Den A24):Den R24:=(F24 x).getD (zero R24)
theorem sem24:SemOK Tryz.prog (24,fnMean A24 R24 K24 G24):=fn_opt (env_ok mixed tab_ok eqs_ok (.cons sem39 (.cons sem15 (.cons sem40 (.cons sem43 (.cons sem42 (.cons sem41 .nil))))))) (fnIs Tryz.func24 rfl rfl rfl (by kernel_rfl) (noLoops (by kernel_rfl))) fun x => ev24 K39 G39 K15 G15 K40 G40 K43 G43 K42 G42 K41 G41 x
abbrev I14:Sg:=⟨[.val (S25),.val (S30),.val (.int .i64),.val (.int .i64)],[]⟩
abbrev O14:Sg:=⟨[.own (.int .i64) 0,.own (.int .i64) 1,.val (.bool)],[.arr (.int .i64),.arr (.int .i64)]⟩
abbrev V14_6:Type:=((Int × (Int × (Unit × (Unit × (Unit × (Unit × (Unit × (Int × (Int × Unit))))))))) × ((Int × (Int × (Int × ((List (Den (.slice (.cpx .f32)))) × Unit)))) × (((List (Den (.flt .f32))) × ((List (Den (.int .i64))) × ((List (Den (.slice (.flt .f32)))) × Unit))) × ((List (Den (.int .i64))) × ((List (Den (.int .i64))) × ((List (Den (.bool))) × Unit))))))
def sh14_6:ShS:=⟨[(2,.one (.int .i64)),(3,.one (.int .i64)),(4,.one (.ptr 0 0)),(5,.one (.ptr 1 0)),(12,.one (.ref (.int .i64) 2)),(13,.one (.ref (.int .i64) 3)),(14,.one (.ref (.bool) 4)),(53,.one (.int .i64)),(54,.one (.int .i64))],[(0,.box [.int .i64,.int .i64,.int .i64,.sl (.slice (.cpx .f32))]),(1,.box [.sl (.flt .f32),.sl (.int .i64),.sl (.slice (.flt .f32))]),(2,.arr (.int .i64)),(3,.arr (.int .i64)),(4,.arr (.bool))],5,0⟩
abbrev X14_6:Type:=((Int × (Int × (Unit × (Unit × (Unit × (Unit × (Unit × Unit))))))) × ((Int × (Int × (Int × ((List (Den (.slice (.cpx .f32)))) × Unit)))) × (((List (Den (.flt .f32))) × ((List (Den (.int .i64))) × ((List (Den (.slice (.flt .f32)))) × Unit))) × ((List (Den (.int .i64))) × ((List (Den (.int .i64))) × ((List (Den (.bool))) × Unit))))))
def shX14_6:ShS:=⟨[(2,.one (.int .i64)),(3,.one (.int .i64)),(4,.one (.ptr 0 0)),(5,.one (.ptr 1 0)),(12,.one (.ref (.int .i64) 2)),(13,.one (.ref (.int .i64) 3)),(14,.one (.ref (.bool) 4))],[(0,.box [.int .i64,.int .i64,.int .i64,.sl (.slice (.cpx .f32))]),(1,.box [.sl (.flt .f32),.sl (.int .i64),.sl (.slice (.flt .f32))]),(2,.arr (.int .i64)),(3,.arr (.int .i64)),(4,.arr (.bool))],5,0⟩
abbrev V14_11:Type:=((Unit × (Unit × (Unit × (Unit × (Unit × Unit))))) × ((Int × (Int × (Int × ((List (Den (.slice (.cpx .f32)))) × Unit)))) × (((List (Den (.flt .f32))) × ((List (Den (.int .i64))) × ((List (Den (.slice (.flt .f32)))) × Unit))) × ((List (Den (.int .i64))) × ((List (Den (.int .i64))) × ((List (Den (.bool))) × Unit))))))
def sh14_11:ShS:=⟨[(4,.one (.ptr 0 0)),(5,.one (.ptr 1 0)),(12,.one (.ref (.int .i64) 2)),(13,.one (.ref (.int .i64) 3)),(14,.one (.ref (.bool) 4))],[(0,.box [.int .i64,.int .i64,.int .i64,.sl (.slice (.cpx .f32))]),(1,.box [.sl (.flt .f32),.sl (.int .i64),.sl (.slice (.flt .f32))]),(2,.arr (.int .i64)),(3,.arr (.int .i64)),(4,.arr (.bool))],5,0⟩
abbrev X14_11:Type:=(Unit × Unit)
def shX14_11:ShS:=⟨[],[],0,0⟩
abbrev Y14_11:Type:=((Unit × (Unit × (Bool × Unit))) × ((List (Den (.int .i64))) × ((List (Den (.int .i64))) × Unit)))
def shY14_11:ShS:=⟨[(8,.one (.ref (.int .i64) 0)),(9,.one (.ref (.int .i64) 1)),(10,.one (.bool))],[(0,.arr (.int .i64)),(1,.arr (.int .i64))],2,0⟩
abbrev V14_13:Type:=((Unit × (Unit × (Unit × (Unit × (Unit × (Int × (Int × (Int × Unit)))))))) × ((Int × (Int × (Int × ((List (Den (.slice (.cpx .f32)))) × Unit)))) × (((List (Den (.flt .f32))) × ((List (Den (.int .i64))) × ((List (Den (.slice (.flt .f32)))) × Unit))) × ((List (Den (.int .i64))) × ((List (Den (.int .i64))) × ((List (Den (.bool))) × Unit))))))
def sh14_13:ShS:=⟨[(4,.one (.ptr 0 0)),(5,.one (.ptr 1 0)),(12,.one (.ref (.int .i64) 2)),(13,.one (.ref (.int .i64) 3)),(14,.one (.ref (.bool) 4)),(16,.one (.int .i64)),(69,.one (.int .i64)),(70,.one (.int .i64))],[(0,.box [.int .i64,.int .i64,.int .i64,.sl (.slice (.cpx .f32))]),(1,.box [.sl (.flt .f32),.sl (.int .i64),.sl (.slice (.flt .f32))]),(2,.arr (.int .i64)),(3,.arr (.int .i64)),(4,.arr (.bool))],5,0⟩
abbrev X14_13:Type:=((Unit × (Unit × (Unit × (Unit × (Unit × (Int × Unit)))))) × ((Int × (Int × (Int × ((List (Den (.slice (.cpx .f32)))) × Unit)))) × (((List (Den (.flt .f32))) × ((List (Den (.int .i64))) × ((List (Den (.slice (.flt .f32)))) × Unit))) × ((List (Den (.int .i64))) × ((List (Den (.int .i64))) × ((List (Den (.bool))) × Unit))))))
def shX14_13:ShS:=⟨[(4,.one (.ptr 0 0)),(5,.one (.ptr 1 0)),(12,.one (.ref (.int .i64) 2)),(13,.one (.ref (.int .i64) 3)),(14,.one (.ref (.bool) 4)),(16,.one (.int .i64))],[(0,.box [.int .i64,.int .i64,.int .i64,.sl (.slice (.cpx .f32))]),(1,.box [.sl (.flt .f32),.sl (.int .i64),.sl (.slice (.flt .f32))]),(2,.arr (.int .i64)),(3,.arr (.int .i64)),(4,.arr (.bool))],5,0⟩
abbrev V14_23:Type:=((Unit × (Unit × (Unit × (Unit × (Unit × (Int × (Int × (Int × (Int × Unit))))))))) × ((Int × (Int × (Int × ((List (Den (.slice (.cpx .f32)))) × Unit)))) × (((List (Den (.flt .f32))) × ((List (Den (.int .i64))) × ((List (Den (.slice (.flt .f32)))) × Unit))) × ((List (Den (.int .i64))) × ((List (Den (.int .i64))) × ((List (Den (.bool))) × Unit))))))
def sh14_23:ShS:=⟨[(4,.one (.ptr 0 0)),(5,.one (.ptr 1 0)),(12,.one (.ref (.int .i64) 2)),(13,.one (.ref (.int .i64) 3)),(14,.one (.ref (.bool) 4)),(16,.one (.int .i64)),(18,.one (.int .i64)),(114,.one (.int .i64)),(115,.one (.int .i64))],[(0,.box [.int .i64,.int .i64,.int .i64,.sl (.slice (.cpx .f32))]),(1,.box [.sl (.flt .f32),.sl (.int .i64),.sl (.slice (.flt .f32))]),(2,.arr (.int .i64)),(3,.arr (.int .i64)),(4,.arr (.bool))],5,0⟩
abbrev X14_23:Type:=((Unit × (Unit × (Unit × (Unit × (Unit × Unit))))) × ((Int × (Int × (Int × ((List (Den (.slice (.cpx .f32)))) × Unit)))) × (((List (Den (.flt .f32))) × ((List (Den (.int .i64))) × ((List (Den (.slice (.flt .f32)))) × Unit))) × ((List (Den (.int .i64))) × ((List (Den (.int .i64))) × ((List (Den (.bool))) × Unit))))))
def shX14_23:ShS:=⟨[(4,.one (.ptr 0 0)),(5,.one (.ptr 1 0)),(12,.one (.ref (.int .i64) 2)),(13,.one (.ref (.int .i64) 3)),(14,.one (.ref (.bool) 4))],[(0,.box [.int .i64,.int .i64,.int .i64,.sl (.slice (.cpx .f32))]),(1,.box [.sl (.flt .f32),.sl (.int .i64),.sl (.slice (.flt .f32))]),(2,.arr (.int .i64)),(3,.arr (.int .i64)),(4,.arr (.bool))],5,0⟩
noncomputable def Γ14 (k20:KA A20) (g20:GA A20 R20) (k21:KA A21) (g21:GA A21 R21) (k15:KA A15) (g15:GA A15 R15) (k23:KA A23) (g23:GA A23 R23) (k24:KA A24) (g24:GA A24 R24) (kl6:V14_6 -> Bool) (xl6:V14_6 -> X14_6) (kl11:V14_11 -> Bool) (xl11:V14_11 -> X14_11) (tl11:V14_11 -> Bool) (yl11:V14_11 -> Y14_11) (kl13:V14_13 -> Bool) (xl13:V14_13 -> X14_13) (kl23:V14_23 -> Bool) (xl23:V14_23 -> X14_23):Env:=mkEnv tab eqs [(20,fnMean A20 R20 k20 g20),(21,fnMean A21 R21 k21 g21),(15,fnMean A15 R15 k15 g15),(23,fnMean A23 R23 k23 g23),(24,fnMean A24 R24 k24 g24)] 162 [.tmp 8,.tmp 9,.tmp 10] [] [] [(6,loopX [2,3,4,5,12,13,14,53,54] [] 0 [2,3,4,5,12,13,14] [] sh14_6 shX14_6 kl6 xl6),(11,loopR [4,5,12,13,14] [] 9999 [] [] sh14_11 shX14_11 shY14_11 kl11 tl11 xl11 yl11),(13,loopX [4,5,12,13,14,16,69,70] [] 4 [4,5,12,13,14,16] [] sh14_13 shX14_13 kl13 xl13),(23,loopX [4,5,12,13,14,16,18,114,115] [] 6 [4,5,12,13,14] [] sh14_23 shX14_23 kl23 xl23)] [] [.nil 8,.nil 9]
noncomputable def lc14_6:Code:=(loopsOf (bodyOf Tryz.f14)).getD 0 .skip
noncomputable def lc14_11:Code:=(loopsOf (bodyOf Tryz.f14)).getD 1 .skip
noncomputable def lc14_13:Code:=(loopsOf (bodyOf Tryz.f14)).getD 2 .skip
noncomputable def lc14_23:Code:=(loopsOf (bodyOf Tryz.f14)).getD 3 .skip
def q14_23 (k20:KA A20) (g20:GA A20 R20) (k21:KA A21) (g21:GA A21 R21) (k15:KA A15) (g15:GA A15 R15) (k23:KA A23) (g23:GA A23 R23) (k24:KA A24) (g24:GA A24 R24) (f:V14_23 -> Option (X14_23)) (v:V14_23):Option (X14_23):=
 bif (decide (v.1.2.2.2.2.2.2.2.2.1 < v.1.2.2.2.2.2.2.2.1)) then
 let v0:=(k24 (v.2.1,v.2.2.1,v.1.2.2.2.2.2.1,v.1.2.2.2.2.2.2.2.2.1,v.1.2.2.2.2.2.2.1,()))
 bif v0 then
 let v1:=(g24 (v.2.1,v.2.2.1,v.1.2.2.2.2.2.1,v.1.2.2.2.2.2.2.2.2.1,v.1.2.2.2.2.2.2.1,()))
 bif v1.2.1 then
 let v2:=(IntKind.wrap IntKind.i64 (v.1.2.2.2.2.2.2.1 + v1.1))
 bif (decide (v2 <= 10000000)) then
 bif (decide (0 <= v.1.2.2.2.2.2.2.2.2.1) && decide (v.1.2.2.2.2.2.2.2.2.1 < (↑(List.length v.2.2.2.1):Int))) then
 let v3:=(List.getD v.2.2.2.1 (Int.toNat v.1.2.2.2.2.2.2.2.2.1) (zero (Ty.int IntKind.i64)))
 bif (decide (v3 < 0)) then
 bif (decide (0 <= v.1.2.2.2.2.2.2.2.2.1) && decide (v.1.2.2.2.2.2.2.2.2.1 < (↑(List.length v.2.2.2.1):Int))) then
 bif (decide (0 <= v.1.2.2.2.2.2.2.2.2.1) && decide (v.1.2.2.2.2.2.2.2.2.1 < (↑(List.length v.2.2.2.2.1):Int))) then
 let v4:=(IntKind.wrap IntKind.i64 (v.1.2.2.2.2.2.2.2.2.1 + 1))
 let v5:=(List.set v.2.2.2.1 (Int.toNat v.1.2.2.2.2.2.2.2.2.1) v2)
 let v6:=(List.set v.2.2.2.2.1 (Int.toNat v.1.2.2.2.2.2.2.2.2.1) v.1.2.2.2.2.2.1)
 f (((),((),((),((),((),((v.1.2.2.2.2.2.1),((v.1.2.2.2.2.2.2.1),((v.1.2.2.2.2.2.2.2.1),(v4,()))))))))),(((v.2.1.1),((v.2.1.2.1),((v.2.1.2.2.1),((v.2.1.2.2.2.1),())))),(((v.2.2.1.1),((v.2.2.1.2.1),((v.2.2.1.2.2.1),()))),(v5,(v6,((v.2.2.2.2.2.1),()))))))
 else
 none
 else
 none
 else
 bif (decide (0 <= v.1.2.2.2.2.2.2.2.2.1) && decide (v.1.2.2.2.2.2.2.2.2.1 < (↑(List.length v.2.2.2.1):Int))) then
 bif (decide (v3 > v2)) then
 bif (decide (0 <= v.1.2.2.2.2.2.2.2.2.1) && decide (v.1.2.2.2.2.2.2.2.2.1 < (↑(List.length v.2.2.2.1):Int))) then
 bif (decide (0 <= v.1.2.2.2.2.2.2.2.2.1) && decide (v.1.2.2.2.2.2.2.2.2.1 < (↑(List.length v.2.2.2.2.1):Int))) then
 let v4:=(IntKind.wrap IntKind.i64 (v.1.2.2.2.2.2.2.2.2.1 + 1))
 let v5:=(List.set v.2.2.2.1 (Int.toNat v.1.2.2.2.2.2.2.2.2.1) v2)
 let v6:=(List.set v.2.2.2.2.1 (Int.toNat v.1.2.2.2.2.2.2.2.2.1) v.1.2.2.2.2.2.1)
 f (((),((),((),((),((),((v.1.2.2.2.2.2.1),((v.1.2.2.2.2.2.2.1),((v.1.2.2.2.2.2.2.2.1),(v4,()))))))))),(((v.2.1.1),((v.2.1.2.1),((v.2.1.2.2.1),((v.2.1.2.2.2.1),())))),(((v.2.2.1.1),((v.2.2.1.2.1),((v.2.2.1.2.2.1),()))),(v5,(v6,((v.2.2.2.2.2.1),()))))))
 else
 none
 else
 none
 else
 let v4:=(IntKind.wrap IntKind.i64 (v.1.2.2.2.2.2.2.2.2.1 + 1))
 f (((),((),((),((),((),((v.1.2.2.2.2.2.1),((v.1.2.2.2.2.2.2.1),((v.1.2.2.2.2.2.2.2.1),(v4,()))))))))),(((v.2.1.1),((v.2.1.2.1),((v.2.1.2.2.1),((v.2.1.2.2.2.1),())))),(((v.2.2.1.1),((v.2.2.1.2.1),((v.2.2.1.2.2.1),()))),((v.2.2.2.1),((v.2.2.2.2.1),((v.2.2.2.2.2.1),()))))))
 else
 none
 else
 none
 else
 let v3:=(IntKind.wrap IntKind.i64 (v.1.2.2.2.2.2.2.2.2.1 + 1))
 f (((),((),((),((),((),((v.1.2.2.2.2.2.1),((v.1.2.2.2.2.2.2.1),((v.1.2.2.2.2.2.2.2.1),(v3,()))))))))),(((v.2.1.1),((v.2.1.2.1),((v.2.1.2.2.1),((v.2.1.2.2.2.1),())))),(((v.2.2.1.1),((v.2.2.1.2.1),((v.2.2.1.2.2.1),()))),((v.2.2.2.1),((v.2.2.2.2.1),((v.2.2.2.2.2.1),()))))))
 else
 let v2:=(IntKind.wrap IntKind.i64 (v.1.2.2.2.2.2.2.2.2.1 + 1))
 f (((),((),((),((),((),((v.1.2.2.2.2.2.1),((v.1.2.2.2.2.2.2.1),((v.1.2.2.2.2.2.2.2.1),(v2,()))))))))),(((v.2.1.1),((v.2.1.2.1),((v.2.1.2.2.1),((v.2.1.2.2.2.1),())))),(((v.2.2.1.1),((v.2.2.1.2.1),((v.2.2.1.2.2.1),()))),((v.2.2.2.1),((v.2.2.2.2.1),((v.2.2.2.2.2.1),()))))))
 else
 none
 else
 some (((),((),((),((),((),()))))),(((v.2.1.1),((v.2.1.2.1),((v.2.1.2.2.1),((v.2.1.2.2.2.1),())))),(((v.2.2.1.1),((v.2.2.1.2.1),((v.2.2.1.2.2.1),()))),((v.2.2.2.1),((v.2.2.2.2.1),((v.2.2.2.2.2.1),()))))))
theorem evl14_23 (k20:KA A20) (g20:GA A20 R20) (k21:KA A21) (g21:GA A21 R21) (k15:KA A15) (g15:GA A15 R15) (k23:KA A23) (g23:GA A23 R23) (k24:KA A24) (g24:GA A24 R24) (kl6:V14_6 -> Bool) (xl6:V14_6 -> X14_6) (kl11:V14_11 -> Bool) (xl11:V14_11 -> X14_11) (tl11:V14_11 -> Bool) (yl11:V14_11 -> Y14_11) (kl13:V14_13 -> Bool) (xl13:V14_13 -> X14_13) (kl23:V14_23 -> Bool) (xl23:V14_23 -> X14_23) (f:V14_23 -> Option (X14_23)) (v:V14_23):EBk (Γ14 k20 g20 k21 g21 k15 g15 k23 g23 k24 g24 kl6 xl6 kl11 xl11 tl11 yl11 kl13 xl13 kl23 xl23) lc14_23 (roundK [4,5,12,13,14,16,18,114,115] [] 6 [4,5,12,13,14] [] (atS sh14_23 f) (endX shX14_23)) (mkS sh14_23 v) = q14_23 k20 g20 k21 g21 k15 g15 k23 g23 k24 g24 f v:=by kernel_rfl
def b14_23 (v:V14_23):Nat:=v.1.2.2.2.2.2.1.natAbs + v.1.2.2.2.2.2.2.1.natAbs + v.1.2.2.2.2.2.2.2.1.natAbs + v.1.2.2.2.2.2.2.2.2.1.natAbs + v.2.1.1.natAbs + v.2.1.2.1.natAbs + v.2.1.2.2.1.natAbs + v.2.1.2.2.2.1.length + v.2.2.1.1.length + v.2.2.1.2.1.length + v.2.2.1.2.2.1.length + v.2.2.2.1.length + v.2.2.2.2.1.length + v.2.2.2.2.2.1.length + 1000
def l14_23 (v:V14_23):Option (X14_23):=iter (q14_23 K20 G20 K21 G21 K15 G15 K23 G23 K24 G24) (b14_23 v) v
def kL14_23 (v:V14_23):Bool:=(l14_23 v).isSome
def xL14_23 (v:V14_23):X14_23:=(l14_23 v).getD (((),((),((),((),((),()))))),((0,(0,(0,([],())))),(([],([],([],()))),([],([],([],()))))))
def q14_13 (k20:KA A20) (g20:GA A20 R20) (k21:KA A21) (g21:GA A21 R21) (k15:KA A15) (g15:GA A15 R15) (k23:KA A23) (g23:GA A23 R23) (k24:KA A24) (g24:GA A24 R24) (f:V14_13 -> Option (X14_13)) (v:V14_13):Option (X14_13):=
 bif (decide (v.1.2.2.2.2.2.2.2.1 < v.1.2.2.2.2.2.2.1)) then
 bif (decide (0 <= v.1.2.2.2.2.2.2.2.1) && decide (v.1.2.2.2.2.2.2.2.1 < (↑(List.length v.2.2.2.1):Int))) then
 let v0:=(List.getD v.2.2.2.1 (Int.toNat v.1.2.2.2.2.2.2.2.1) (zero (Ty.int IntKind.i64)))
 bif (decide (v0 ≥ 0)) then
 bif (decide (0 <= v.1.2.2.2.2.2.2.2.1) && decide (v.1.2.2.2.2.2.2.2.1 < (↑(List.length v.2.2.2.2.2.1):Int))) then
 let v1:=(List.getD v.2.2.2.2.2.1 (Int.toNat v.1.2.2.2.2.2.2.2.1) (zero Ty.bool))
 bif (!v1) then
 bif (decide (v.1.2.2.2.2.2.1 < 0)) then
 let v2:=(IntKind.wrap IntKind.i64 (v.1.2.2.2.2.2.2.2.1 + 1))
 f (((),((),((),((),((),((v.1.2.2.2.2.2.2.2.1),((v.1.2.2.2.2.2.2.1),(v2,())))))))),(((v.2.1.1),((v.2.1.2.1),((v.2.1.2.2.1),((v.2.1.2.2.2.1),())))),(((v.2.2.1.1),((v.2.2.1.2.1),((v.2.2.1.2.2.1),()))),((v.2.2.2.1),((v.2.2.2.2.1),((v.2.2.2.2.2.1),()))))))
 else
 bif (decide (0 <= v.1.2.2.2.2.2.2.2.1) && decide (v.1.2.2.2.2.2.2.2.1 < (↑(List.length v.2.2.2.1):Int))) then
 bif (decide (0 <= v.1.2.2.2.2.2.1) && decide (v.1.2.2.2.2.2.1 < (↑(List.length v.2.2.2.1):Int))) then
 let v2:=(List.getD v.2.2.2.1 (Int.toNat v.1.2.2.2.2.2.1) (zero (Ty.int IntKind.i64)))
 bif (decide (v0 < v2)) then
 let v3:=(IntKind.wrap IntKind.i64 (v.1.2.2.2.2.2.2.2.1 + 1))
 f (((),((),((),((),((),((v.1.2.2.2.2.2.2.2.1),((v.1.2.2.2.2.2.2.1),(v3,())))))))),(((v.2.1.1),((v.2.1.2.1),((v.2.1.2.2.1),((v.2.1.2.2.2.1),())))),(((v.2.2.1.1),((v.2.2.1.2.1),((v.2.2.1.2.2.1),()))),((v.2.2.2.1),((v.2.2.2.2.1),((v.2.2.2.2.2.1),()))))))
 else
 let v3:=(IntKind.wrap IntKind.i64 (v.1.2.2.2.2.2.2.2.1 + 1))
 f (((),((),((),((),((),((v.1.2.2.2.2.2.1),((v.1.2.2.2.2.2.2.1),(v3,())))))))),(((v.2.1.1),((v.2.1.2.1),((v.2.1.2.2.1),((v.2.1.2.2.2.1),())))),(((v.2.2.1.1),((v.2.2.1.2.1),((v.2.2.1.2.2.1),()))),((v.2.2.2.1),((v.2.2.2.2.1),((v.2.2.2.2.2.1),()))))))
 else
 none
 else
 none
 else
 let v2:=(IntKind.wrap IntKind.i64 (v.1.2.2.2.2.2.2.2.1 + 1))
 f (((),((),((),((),((),((v.1.2.2.2.2.2.1),((v.1.2.2.2.2.2.2.1),(v2,())))))))),(((v.2.1.1),((v.2.1.2.1),((v.2.1.2.2.1),((v.2.1.2.2.2.1),())))),(((v.2.2.1.1),((v.2.2.1.2.1),((v.2.2.1.2.2.1),()))),((v.2.2.2.1),((v.2.2.2.2.1),((v.2.2.2.2.2.1),()))))))
 else
 none
 else
 let v1:=(IntKind.wrap IntKind.i64 (v.1.2.2.2.2.2.2.2.1 + 1))
 f (((),((),((),((),((),((v.1.2.2.2.2.2.1),((v.1.2.2.2.2.2.2.1),(v1,())))))))),(((v.2.1.1),((v.2.1.2.1),((v.2.1.2.2.1),((v.2.1.2.2.2.1),())))),(((v.2.2.1.1),((v.2.2.1.2.1),((v.2.2.1.2.2.1),()))),((v.2.2.2.1),((v.2.2.2.2.1),((v.2.2.2.2.2.1),()))))))
 else
 none
 else
 some (((),((),((),((),((),((v.1.2.2.2.2.2.1),())))))),(((v.2.1.1),((v.2.1.2.1),((v.2.1.2.2.1),((v.2.1.2.2.2.1),())))),(((v.2.2.1.1),((v.2.2.1.2.1),((v.2.2.1.2.2.1),()))),((v.2.2.2.1),((v.2.2.2.2.1),((v.2.2.2.2.2.1),()))))))
theorem evl14_13 (k20:KA A20) (g20:GA A20 R20) (k21:KA A21) (g21:GA A21 R21) (k15:KA A15) (g15:GA A15 R15) (k23:KA A23) (g23:GA A23 R23) (k24:KA A24) (g24:GA A24 R24) (kl6:V14_6 -> Bool) (xl6:V14_6 -> X14_6) (kl11:V14_11 -> Bool) (xl11:V14_11 -> X14_11) (tl11:V14_11 -> Bool) (yl11:V14_11 -> Y14_11) (kl13:V14_13 -> Bool) (xl13:V14_13 -> X14_13) (kl23:V14_23 -> Bool) (xl23:V14_23 -> X14_23) (f:V14_13 -> Option (X14_13)) (v:V14_13):EBk (Γ14 k20 g20 k21 g21 k15 g15 k23 g23 k24 g24 kl6 xl6 kl11 xl11 tl11 yl11 kl13 xl13 kl23 xl23) lc14_13 (roundK [4,5,12,13,14,16,69,70] [] 4 [4,5,12,13,14,16] [] (atS sh14_13 f) (endX shX14_13)) (mkS sh14_13 v) = q14_13 k20 g20 k21 g21 k15 g15 k23 g23 k24 g24 f v:=by kernel_rfl
def b14_13 (v:V14_13):Nat:=v.1.2.2.2.2.2.1.natAbs + v.1.2.2.2.2.2.2.1.natAbs + v.1.2.2.2.2.2.2.2.1.natAbs + v.2.1.1.natAbs + v.2.1.2.1.natAbs + v.2.1.2.2.1.natAbs + v.2.1.2.2.2.1.length + v.2.2.1.1.length + v.2.2.1.2.1.length + v.2.2.1.2.2.1.length + v.2.2.2.1.length + v.2.2.2.2.1.length + v.2.2.2.2.2.1.length + 1000
def l14_13 (v:V14_13):Option (X14_13):=iter (q14_13 K20 G20 K21 G21 K15 G15 K23 G23 K24 G24) (b14_13 v) v
def kL14_13 (v:V14_13):Bool:=(l14_13 v).isSome
def xL14_13 (v:V14_13):X14_13:=(l14_13 v).getD (((),((),((),((),((),(0,())))))),((0,(0,(0,([],())))),(([],([],([],()))),([],([],([],()))))))
def q14_11 (k20:KA A20) (g20:GA A20 R20) (k21:KA A21) (g21:GA A21 R21) (k15:KA A15) (g15:GA A15 R15) (k23:KA A23) (g23:GA A23 R23) (k24:KA A24) (g24:GA A24 R24) (kl13:V14_13 -> Bool) (xl13:V14_13 -> X14_13) (kl23:V14_23 -> Bool) (xl23:V14_23 -> X14_23) (f:V14_11 -> Option (X14_11 ⊕ Y14_11)) (v:V14_11):Option (X14_11 ⊕ Y14_11):=
 let v0:=(kl13 (((),(),(),(),(),-1,(↑(List.length v.2.2.2.1):Int),0,()),v.2))
 bif v0 then
 let v1:=(xl13 (((),(),(),(),(),-1,(↑(List.length v.2.2.2.1):Int),0,()),v.2))
 bif (decide (v1.1.2.2.2.2.2.1 < 0)) then
 some (Sum.inr (((),((),((true),()))),(v1.2.2.2.1,(v1.2.2.2.2.1,()))))
 else
 bif (decide (0 <= v1.1.2.2.2.2.2.1) && decide (v1.1.2.2.2.2.2.1 < (↑(List.length v1.2.2.2.2.2.1):Int))) then
 bif (decide (0 <= v1.1.2.2.2.2.2.1) && decide (v1.1.2.2.2.2.2.1 < (↑(List.length v1.2.2.2.1):Int))) then
 let v2:=(List.getD v1.2.2.2.1 (Int.toNat v1.1.2.2.2.2.2.1) (zero (Ty.int IntKind.i64)))
 let v3:=(List.set v1.2.2.2.2.2.1 (Int.toNat v1.1.2.2.2.2.2.1) true)
 let v4:=(kl23 (((),(),(),(),(),v1.1.2.2.2.2.2.1,v2,(↑(List.length v1.2.2.2.1):Int),0,()),v1.2.1,v1.2.2.1,v1.2.2.2.1,v1.2.2.2.2.1,v3,()))
 bif v4 then
 let v5:=(xl23 (((),(),(),(),(),v1.1.2.2.2.2.2.1,v2,(↑(List.length v1.2.2.2.1):Int),0,()),v1.2.1,v1.2.2.1,v1.2.2.2.1,v1.2.2.2.2.1,v3,()))
 f (((),((),((),((),((),()))))),((v5.2.1.1,(v5.2.1.2.1,(v5.2.1.2.2.1,(v5.2.1.2.2.2.1,())))),((v5.2.2.1.1,(v5.2.2.1.2.1,(v5.2.2.1.2.2.1,()))),(v5.2.2.2.1,(v5.2.2.2.2.1,(v5.2.2.2.2.2.1,()))))))
 else
 none
 else
 none
 else
 none
 else
 none
theorem evl14_11 (k20:KA A20) (g20:GA A20 R20) (k21:KA A21) (g21:GA A21 R21) (k15:KA A15) (g15:GA A15 R15) (k23:KA A23) (g23:GA A23 R23) (k24:KA A24) (g24:GA A24 R24) (kl6:V14_6 -> Bool) (xl6:V14_6 -> X14_6) (kl11:V14_11 -> Bool) (xl11:V14_11 -> X14_11) (tl11:V14_11 -> Bool) (yl11:V14_11 -> Y14_11) (kl13:V14_13 -> Bool) (xl13:V14_13 -> X14_13) (kl23:V14_23 -> Bool) (xl23:V14_23 -> X14_23) (f:V14_11 -> Option (X14_11 ⊕ Y14_11)) (v:V14_11):EBk (Γ14 k20 g20 k21 g21 k15 g15 k23 g23 k24 g24 kl6 xl6 kl11 xl11 tl11 yl11 kl13 xl13 kl23 xl23) lc14_11 (roundK [4,5,12,13,14] [] 9999 [] [] (atS sh14_11 f) (endS shX14_11 shY14_11)) (mkS sh14_11 v) = q14_11 k20 g20 k21 g21 k15 g15 k23 g23 k24 g24 kl13 xl13 kl23 xl23 f v:=by kernel_rfl
def b14_11 (v:V14_11):Nat:=v.2.1.1.natAbs + v.2.1.2.1.natAbs + v.2.1.2.2.1.natAbs + v.2.1.2.2.2.1.length + v.2.2.1.1.length + v.2.2.1.2.1.length + v.2.2.1.2.2.1.length + v.2.2.2.1.length + v.2.2.2.2.1.length + v.2.2.2.2.2.1.length + 1000
def l14_11 (v:V14_11):Option (X14_11 ⊕ Y14_11):=iter (q14_11 K20 G20 K21 G21 K15 G15 K23 G23 K24 G24 kL14_13 xL14_13 kL14_23 xL14_23) (b14_11 v) v
def kL14_11 (v:V14_11):Bool:=(l14_11 v).isSome
def tL14_11 (v:V14_11):Bool:=isR (l14_11 v)
def xL14_11 (v:V14_11):X14_11:=xOf ((),()) (l14_11 v)
def yL14_11 (v:V14_11):Y14_11:=yOf (((),((),(false,()))),([],([],()))) (l14_11 v)
def q14_6 (k20:KA A20) (g20:GA A20 R20) (k21:KA A21) (g21:GA A21 R21) (k15:KA A15) (g15:GA A15 R15) (k23:KA A23) (g23:GA A23 R23) (k24:KA A24) (g24:GA A24 R24) (f:V14_6 -> Option (X14_6)) (v:V14_6):Option (X14_6):=
 bif (decide (v.1.2.2.2.2.2.2.2.2.1 < v.1.2.2.2.2.2.2.2.1)) then
 bif (decide (0 <= v.1.2.2.2.2.2.2.2.2.1) && decide (v.1.2.2.2.2.2.2.2.2.1 < (↑(List.length v.2.2.2.1):Int))) then
 bif (decide (0 <= v.1.2.2.2.2.2.2.2.2.1) && decide (v.1.2.2.2.2.2.2.2.2.1 < (↑(List.length v.2.2.2.2.1):Int))) then
 let v0:=(IntKind.wrap IntKind.i64 (v.1.2.2.2.2.2.2.2.2.1 + 1))
 let v1:=(List.set v.2.2.2.1 (Int.toNat v.1.2.2.2.2.2.2.2.2.1) (-1))
 let v2:=(List.set v.2.2.2.2.1 (Int.toNat v.1.2.2.2.2.2.2.2.2.1) (-1))
 f (((v.1.1),((v.1.2.1),((),((),((),((),((),((v.1.2.2.2.2.2.2.2.1),(v0,()))))))))),(((v.2.1.1),((v.2.1.2.1),((v.2.1.2.2.1),((v.2.1.2.2.2.1),())))),(((v.2.2.1.1),((v.2.2.1.2.1),((v.2.2.1.2.2.1),()))),(v1,(v2,((v.2.2.2.2.2.1),()))))))
 else
 none
 else
 none
 else
 some (((v.1.1),((v.1.2.1),((),((),((),((),((),()))))))),(((v.2.1.1),((v.2.1.2.1),((v.2.1.2.2.1),((v.2.1.2.2.2.1),())))),(((v.2.2.1.1),((v.2.2.1.2.1),((v.2.2.1.2.2.1),()))),((v.2.2.2.1),((v.2.2.2.2.1),((v.2.2.2.2.2.1),()))))))
theorem evl14_6 (k20:KA A20) (g20:GA A20 R20) (k21:KA A21) (g21:GA A21 R21) (k15:KA A15) (g15:GA A15 R15) (k23:KA A23) (g23:GA A23 R23) (k24:KA A24) (g24:GA A24 R24) (kl6:V14_6 -> Bool) (xl6:V14_6 -> X14_6) (kl11:V14_11 -> Bool) (xl11:V14_11 -> X14_11) (tl11:V14_11 -> Bool) (yl11:V14_11 -> Y14_11) (kl13:V14_13 -> Bool) (xl13:V14_13 -> X14_13) (kl23:V14_23 -> Bool) (xl23:V14_23 -> X14_23) (f:V14_6 -> Option (X14_6)) (v:V14_6):EBk (Γ14 k20 g20 k21 g21 k15 g15 k23 g23 k24 g24 kl6 xl6 kl11 xl11 tl11 yl11 kl13 xl13 kl23 xl23) lc14_6 (roundK [2,3,4,5,12,13,14,53,54] [] 0 [2,3,4,5,12,13,14] [] (atS sh14_6 f) (endX shX14_6)) (mkS sh14_6 v) = q14_6 k20 g20 k21 g21 k15 g15 k23 g23 k24 g24 f v:=by kernel_rfl
def b14_6 (v:V14_6):Nat:=v.1.1.natAbs + v.1.2.1.natAbs + v.1.2.2.2.2.2.2.2.1.natAbs + v.1.2.2.2.2.2.2.2.2.1.natAbs + v.2.1.1.natAbs + v.2.1.2.1.natAbs + v.2.1.2.2.1.natAbs + v.2.1.2.2.2.1.length + v.2.2.1.1.length + v.2.2.1.2.1.length + v.2.2.1.2.2.1.length + v.2.2.2.1.length + v.2.2.2.2.1.length + v.2.2.2.2.2.1.length + 1000
def l14_6 (v:V14_6):Option (X14_6):=iter (q14_6 K20 G20 K21 G21 K15 G15 K23 G23 K24 G24) (b14_6 v) v
def kL14_6 (v:V14_6):Bool:=(l14_6 v).isSome
def xL14_6 (v:V14_6):X14_6:=(l14_6 v).getD ((0,(0,((),((),((),((),((),()))))))),((0,(0,(0,([],())))),(([],([],([],()))),([],([],([],()))))))
def r14 (k20:KA A20) (g20:GA A20 R20) (k21:KA A21) (g21:GA A21 R21) (k15:KA A15) (g15:GA A15 R15) (k23:KA A23) (g23:GA A23 R23) (k24:KA A24) (g24:GA A24 R24) (kl6:V14_6 -> Bool) (xl6:V14_6 -> X14_6) (kl11:V14_11 -> Bool) (xl11:V14_11 -> X14_11) (tl11:V14_11 -> Bool) (yl11:V14_11 -> Y14_11) (kl13:V14_13 -> Bool) (xl13:V14_13 -> X14_13) (kl23:V14_23 -> Bool) (xl23:V14_23 -> X14_23) (x:I14.den):Option (O14.den):=
 let v0:=(k20 (x.1.1,()))
 bif v0 then
 let v1:=(g20 (x.1.1,()))
 bif (!v1.1) then
 some (((),((),((false),()))),(([]),(([]),())))
 else
 let v2:=(k21 (x.1.2.1,()))
 bif v2 then
 let v3:=(g21 (x.1.2.1,()))
 bif (!v3.1) then
 some (((),((),((false),()))),(([]),(([]),())))
 else
 let v4:=(k15 (x.1.1,x.1.2.2.1,()))
 bif v4 then
 let v5:=(g15 (x.1.1,x.1.2.2.1,()))
 bif (!v5.1) then
 some (((),((),((false),()))),(([]),(([]),())))
 else
 let v6:=(k23 x.1.2.2.2)
 bif v6 then
 let v7:=(g23 x.1.2.2.2)
 bif (!v7.1) then
 some (((),((),((false),()))),(([]),(([]),())))
 else
 let v8:=(IntKind.wrap IntKind.i64 (x.1.1.1 * x.1.1.2.1))
 bif (decide (0 <= v8) && capOk (Int.toNat v8) && v8 == v8) then
 bif (decide (0 <= v8) && capOk (Int.toNat v8) && v8 == v8) then
 bif (decide (0 <= v8) && capOk (Int.toNat v8) && v8 == v8) then
 let v9:=(kl6 ((x.1.2.2.1,x.1.2.2.2.1,(),(),(),(),(),(↑(List.length (List.replicate (Int.toNat v8) (zero (Ty.int IntKind.i64)))):Int),0,()),x.1.1,x.1.2.1,List.replicate (Int.toNat v8) (zero (Ty.int IntKind.i64)),List.replicate (Int.toNat v8) (zero (Ty.int IntKind.i64)),List.replicate (Int.toNat v8) (zero Ty.bool),()))
 bif v9 then
 let v10:=(xl6 ((x.1.2.2.1,x.1.2.2.2.1,(),(),(),(),(),(↑(List.length (List.replicate (Int.toNat v8) (zero (Ty.int IntKind.i64)))):Int),0,()),x.1.1,x.1.2.1,List.replicate (Int.toNat v8) (zero (Ty.int IntKind.i64)),List.replicate (Int.toNat v8) (zero (Ty.int IntKind.i64)),List.replicate (Int.toNat v8) (zero Ty.bool),()))
 bif (decide (0 <= v10.1.1) && decide (v10.1.1 < (↑(List.length v10.2.2.2.1):Int))) then
 let v11:=(List.set v10.2.2.2.1 (Int.toNat v10.1.1) v10.1.2.1)
 let v12:=(kl11 (((),(),(),(),(),()),v10.2.1,v10.2.2.1,v11,v10.2.2.2.2))
 bif v12 then
 let v13:=(tl11 (((),(),(),(),(),()),v10.2.1,v10.2.2.1,v11,v10.2.2.2.2))
 bif v13 then
 let v14:=(yl11 (((),(),(),(),(),()),v10.2.1,v10.2.2.1,v11,v10.2.2.2.2))
 some (((),((),(v14.1.2.2.1,()))),(v14.2.1,(v14.2.2.1,())))
 else
 none
 else
 none
 else
 none
 else
 none
 else
 none
 else
 none
 else
 none
 else
 none
 else
 none
 else
 none
 else
 none
theorem ev14 (k20:KA A20) (g20:GA A20 R20) (k21:KA A21) (g21:GA A21 R21) (k15:KA A15) (g15:GA A15 R15) (k23:KA A23) (g23:GA A23 R23) (k24:KA A24) (g24:GA A24 R24) (kl6:V14_6 -> Bool) (xl6:V14_6 -> X14_6) (kl11:V14_11 -> Bool) (xl11:V14_11 -> X14_11) (tl11:V14_11 -> Bool) (yl11:V14_11 -> Y14_11) (kl13:V14_13 -> Bool) (xl13:V14_13 -> X14_13) (kl23:V14_23 -> Bool) (xl23:V14_23 -> X14_23) (x:I14.den):callS (Γ14 k20 g20 k21 g21 k15 g15 k23 g23 k24 g24 kl6 xl6 kl11 xl11 tl11 yl11 kl13 xl13 kl23 xl23) (bodyOf Tryz.f14) I14 O14 x = r14 k20 g20 k21 g21 k15 g15 k23 g23 k24 g24 kl6 xl6 kl11 xl11 tl11 yl11 kl13 xl13 kl23 xl23 x:=by kernel_rfl
def F14 (x:I14.den):Option (O14.den):=r14 K20 G20 K21 G21 K15 G15 K23 G23 K24 G24 kL14_6 xL14_6 kL14_11 xL14_11 tL14_11 yL14_11 kL14_13 xL14_13 kL14_23 xL14_23 x
def K14 (x:I14.den):Bool:=(F14 x).isSome
def G14 (x:I14.den):O14.den:=(F14 x).getD (zeroSg O14)
theorem sem14:SemOK Tryz.prog (14,sgMean false I14 O14 K14 G14):=sg_opt (env_ok mixed tab_ok eqs_ok (.cons sem20 (.cons sem21 (.cons sem15 (.cons sem23 (.cons sem24 .nil)))))) (fnIs Tryz.func14 rfl rfl rfl (by kernel_rfl) (loops_ok (l:=[lc14_6,lc14_11,lc14_13,lc14_23]) (by kernel_rfl) (.cons (one_loop rfl (loopX_sound (sh:=sh14_6) (shX:=shX14_6) (fun f v => evl14_6 K20 G20 K21 G21 K15 G15 K23 G23 K24 G24 kL14_6 xL14_6 kL14_11 xL14_11 tL14_11 yL14_11 kL14_13 xL14_13 kL14_23 xL14_23 f v) b14_6 ((0,(0,((),((),((),((),((),()))))))),((0,(0,(0,([],())))),(([],([],([],()))),([],([],([],())))))))) (.cons (one_loop rfl (loopR_sound (sh:=sh14_11) (shX:=shX14_11) (shR:=shY14_11) (fun f v => evl14_11 K20 G20 K21 G21 K15 G15 K23 G23 K24 G24 kL14_6 xL14_6 kL14_11 xL14_11 tL14_11 yL14_11 kL14_13 xL14_13 kL14_23 xL14_23 f v) b14_11 ((),()) (((),((),(false,()))),([],([],()))))) (.cons (one_loop rfl (loopX_sound (sh:=sh14_13) (shX:=shX14_13) (fun f v => evl14_13 K20 G20 K21 G21 K15 G15 K23 G23 K24 G24 kL14_6 xL14_6 kL14_11 xL14_11 tL14_11 yL14_11 kL14_13 xL14_13 kL14_23 xL14_23 f v) b14_13 (((),((),((),((),((),(0,())))))),((0,(0,(0,([],())))),(([],([],([],()))),([],([],([],())))))))) (.cons (one_loop rfl (loopX_sound (sh:=sh14_23) (shX:=shX14_23) (fun f v => evl14_23 K20 G20 K21 G21 K15 G15 K23 G23 K24 G24 kL14_6 xL14_6 kL14_11 xL14_11 tL14_11 yL14_11 kL14_13 xL14_13 kL14_23 xL14_23 f v) b14_23 (((),((),((),((),((),()))))),((0,(0,(0,([],())))),(([],([],([],()))),([],([],([],())))))))) (.nil))))))) false fun x => ev14 K20 G20 K21 G21 K15 G15 K23 G23 K24 G24 kL14_6 xL14_6 kL14_11 xL14_11 tL14_11 yL14_11 kL14_13 xL14_13 kL14_23 xL14_23 x
abbrev I7:Sg:=⟨[.val (S25),.val (S30),.val (.int .i64),.val (.int .i64),.val (.int .i64)],[]⟩
abbrev O7:Sg:=⟨[.own (.int .i64) 0],[.arr (.int .i64)]⟩
abbrev V7_6:Type:=((Int × (Unit × (Unit × (Int × Unit)))) × ((List (Den (.int .i64))) × ((List (Den (.int .i64))) × Unit)))
abbrev X7_6:Type:=((Unit × Unit) × ((List (Den (.int .i64))) × Unit))
def q7_6 (k14:KI I14) (g14:GI I14 O14) (k15:KA A15) (g15:GA A15 R15) (f:V7_6 -> Option (X7_6)) (v:V7_6):Option (X7_6):=
 bif (v.1.2.2.2.1 != v.1.1) then
 bif (decide (0 <= v.1.2.2.2.1) && decide (v.1.2.2.2.1 < (↑(List.length v.2.1):Int))) then
 let v0:=(List.getD v.2.1 (Int.toNat v.1.2.2.2.1) (zero (Ty.int IntKind.i64)))
 let v1:=(List.set (List.replicate 1 (zero (Ty.int IntKind.i64))) 0 v0)
 bif (capOk (List.length v1 + List.length v.2.2.1)) then
 let v2:=(v1 ++ v.2.2.1)
 f (((v.1.1),((),((),(v0,())))),((v.2.1),(v2,())))
 else
 none
 else
 none
 else
 some (((),()),((v.2.2.1),()))
def b7_6 (v:V7_6):Nat:=v.1.1.natAbs + v.1.2.2.2.1.natAbs + v.2.1.length + v.2.2.1.length + 1000
def l7_6 (v:V7_6):Option (X7_6):=iter (q7_6 K14 G14 K15 G15) (b7_6 v) v
def kL7_6 (v:V7_6):Bool:=(l7_6 v).isSome
def xL7_6 (v:V7_6):X7_6:=(l7_6 v).getD (((),()),([],()))
def r7 (k14:KI I14) (g14:GI I14 O14) (k15:KA A15) (g15:GA A15 R15) (kl6:V7_6 -> Bool) (xl6:V7_6 -> X7_6) (x:I7.den):Option (O7.den):=
 let v0:=(k14 ((x.1.1,x.1.2.1,x.1.2.2.1,x.1.2.2.2.2),()))
 bif v0 then
 let v1:=(g14 ((x.1.1,x.1.2.1,x.1.2.2.1,x.1.2.2.2.2),()))
 bif (!v1.1.2.2.1) then
 some (((),()),(([]),()))
 else
 let v2:=(k15 (x.1.1,x.1.2.2.2.1,()))
 bif v2 then
 let v3:=(g15 (x.1.1,x.1.2.2.2.1,()))
 bif (!v3.1) then
 some (((),()),(([]),()))
 else
 bif (decide (0 <= x.1.2.2.2.1) && decide (x.1.2.2.2.1 < (↑(List.length v1.2.1):Int))) then
 let v4:=(List.getD v1.2.1 (Int.toNat x.1.2.2.2.1) (zero (Ty.int IntKind.i64)))
 bif (decide (v4 < 0)) then
 some (((),()),(([]),()))
 else
 let v5:=(List.set (List.replicate 1 (zero (Ty.int IntKind.i64))) 0 x.1.2.2.2.1)
 let v6:=(kl6 ((x.1.2.2.1,(),(),x.1.2.2.2.1,()),v1.2.2.1,v5,()))
 bif v6 then
 let v7:=(xl6 ((x.1.2.2.1,(),(),x.1.2.2.2.1,()),v1.2.2.1,v5,()))
 some (((),()),(v7.2.1,()))
 else
 none
 else
 none
 else
 none
 else
 none
def F7 (x:I7.den):Option (O7.den):=r7 K14 G14 K15 G15 kL7_6 xL7_6 x
def K7 (x:I7.den):Bool:=(F7 x).isSome
def G7 (x:I7.den):O7.den:=(F7 x).getD (zeroSg O7)
abbrev I8:Sg:=⟨[.val (S25),.val (S30),.val (.int .i64),.val (.int .i64)],[]⟩
abbrev O8:Sg:=⟨[.own (.int .i64) 0],[.arr (.int .i64)]⟩
noncomputable def Γ8 (k14:KI I14) (g14:GI I14 O14):Env:=mkEnv tab eqs [(14,sgMean false I14 O14 k14 g14)] 22 [.tmp 8] [] [] [] [] []
def r8 (k14:KI I14) (g14:GI I14 O14) (x:I8.den):Option (O8.den):=
 let v0:=(k14 x)
 bif v0 then
 let v1:=(g14 x)
 some (((),()),(v1.2.1,()))
 else
 none
theorem ev8 (k14:KI I14) (g14:GI I14 O14) (x:I8.den):callS (Γ8 k14 g14) (bodyOf Tryz.f8) I8 O8 x = r8 k14 g14 x:=by kernel_rfl
def F8 (x:I8.den):Option (O8.den):=r8 K14 G14 x
def K8 (x:I8.den):Bool:=(F8 x).isSome
def G8 (x:I8.den):O8.den:=(F8 x).getD (zeroSg O8)
theorem sem8:SemOK Tryz.prog (8,sgMean false I8 O8 K8 G8):=sg_opt (env_ok mixed tab_ok eqs_ok (.cons sem14 .nil)) (fnIs Tryz.func8 rfl rfl rfl (by kernel_rfl) (noLoops (by kernel_rfl))) false fun x => ev8 K14 G14 x
abbrev A10:Ty:=.cons (S25) (.cons (S30) (.cons (.slice (.int .i64)) (.cons (.int .i64) (.nil))))
abbrev R10:Ty:=.cons (.int .i64) (.cons (.bool) (.nil))
abbrev V10_4:Type:=(((List (Den (.int .i64))) × (Int × (Unit × (Unit × (Int × Unit))))) × ((Int × (Int × (Int × ((List (Den (.slice (.cpx .f32)))) × Unit)))) × (((List (Den (.flt .f32))) × ((List (Den (.int .i64))) × ((List (Den (.slice (.flt .f32)))) × Unit))) × Unit)))
def sh10_4:ShS:=⟨[(2,.one (.sl (.int .i64))),(3,.one (.int .i64)),(4,.one (.ptr 0 0)),(5,.one (.ptr 1 0)),(10,.one (.int .i64))],[(0,.box [.int .i64,.int .i64,.int .i64,.sl (.slice (.cpx .f32))]),(1,.box [.sl (.flt .f32),.sl (.int .i64),.sl (.slice (.flt .f32))])],2,0⟩
abbrev X10_4:Type:=((Int × Unit) × Unit)
def shX10_4:ShS:=⟨[(3,.one (.int .i64))],[],0,0⟩
abbrev Y10_4:Type:=((Int × (Bool × Unit)) × Unit)
def shY10_4:ShS:=⟨[(8,.one (.int .i64)),(9,.one (.bool))],[],0,0⟩
noncomputable def Γ10 (k20:KA A20) (g20:GA A20 R20) (k21:KA A21) (g21:GA A21 R21) (k22:KA A22) (g22:GA A22 R22) (k15:KA A15) (g15:GA A15 R15) (k23:KA A23) (g23:GA A23 R23) (k24:KA A24) (g24:GA A24 R24) (kl4:V10_4 -> Bool) (xl4:V10_4 -> X10_4) (tl4:V10_4 -> Bool) (yl4:V10_4 -> Y10_4):Env:=mkEnv tab eqs [(20,fnMean A20 R20 k20 g20),(21,fnMean A21 R21 k21 g21),(22,fnMean A22 R22 k22 g22),(15,fnMean A15 R15 k15 g15),(23,fnMean A23 R23 k23 g23),(24,fnMean A24 R24 k24 g24)] 74 [.tmp 8,.tmp 9] [] [] [(4,loopR [2,3,4,5,10] [] 0 [3] [] sh10_4 shX10_4 shY10_4 kl4 tl4 xl4 yl4)] [] []
noncomputable def lc10_4:Code:=(loopsOf (bodyOf Tryz.f10)).getD 0 .skip
def q10_4 (k20:KA A20) (g20:GA A20 R20) (k21:KA A21) (g21:GA A21 R21) (k22:KA A22) (g22:GA A22 R22) (k15:KA A15) (g15:GA A15 R15) (k23:KA A23) (g23:GA A23 R23) (k24:KA A24) (g24:GA A24 R24) (f:V10_4 -> Option (X10_4 ⊕ Y10_4)) (v:V10_4):Option (X10_4 ⊕ Y10_4):=
 bif (decide (v.1.2.2.2.2.1 < (↑(List.length v.1.1):Int))) then
 let v0:=(IntKind.wrap IntKind.i64 (v.1.2.2.2.2.1 - 1))
 bif (decide (0 <= v0) && decide (v0 < (↑(List.length v.1.1):Int))) then
 bif (decide (0 <= v.1.2.2.2.2.1) && decide (v.1.2.2.2.2.1 < (↑(List.length v.1.1):Int))) then
 let v1:=(List.getD v.1.1 (Int.toNat v0) (zero (Ty.int IntKind.i64)))
 let v2:=(List.getD v.1.1 (Int.toNat v.1.2.2.2.2.1) (zero (Ty.int IntKind.i64)))
 let v3:=(k24 (v.2.1,v.2.2.1,v1,v2,v.1.2.1,()))
 bif v3 then
 let v4:=(g24 (v.2.1,v.2.2.1,v1,v2,v.1.2.1,()))
 bif (!v4.2.1) then
 some (Sum.inr (((0),((false),())),()))
 else
 let v5:=(IntKind.wrap IntKind.i64 (v.1.2.1 + v4.1))
 bif (decide (v5 > 10000000)) then
 some (Sum.inr (((0),((false),())),()))
 else
 let v6:=(IntKind.wrap IntKind.i64 (v.1.2.2.2.2.1 + 1))
 f (((v.1.1),(v5,((),((),(v6,()))))),(((v.2.1.1),((v.2.1.2.1),((v.2.1.2.2.1),((v.2.1.2.2.2.1),())))),(((v.2.2.1.1),((v.2.2.1.2.1),((v.2.2.1.2.2.1),()))),())))
 else
 none
 else
 none
 else
 none
 else
 some (Sum.inl (((v.1.2.1),()),()))
theorem evl10_4 (k20:KA A20) (g20:GA A20 R20) (k21:KA A21) (g21:GA A21 R21) (k22:KA A22) (g22:GA A22 R22) (k15:KA A15) (g15:GA A15 R15) (k23:KA A23) (g23:GA A23 R23) (k24:KA A24) (g24:GA A24 R24) (kl4:V10_4 -> Bool) (xl4:V10_4 -> X10_4) (tl4:V10_4 -> Bool) (yl4:V10_4 -> Y10_4) (f:V10_4 -> Option (X10_4 ⊕ Y10_4)) (v:V10_4):EBk (Γ10 k20 g20 k21 g21 k22 g22 k15 g15 k23 g23 k24 g24 kl4 xl4 tl4 yl4) lc10_4 (roundK [2,3,4,5,10] [] 0 [3] [] (atS sh10_4 f) (endS shX10_4 shY10_4)) (mkS sh10_4 v) = q10_4 k20 g20 k21 g21 k22 g22 k15 g15 k23 g23 k24 g24 f v:=by kernel_rfl
def b10_4 (v:V10_4):Nat:=v.1.1.length + v.1.2.1.natAbs + v.1.2.2.2.2.1.natAbs + v.2.1.1.natAbs + v.2.1.2.1.natAbs + v.2.1.2.2.1.natAbs + v.2.1.2.2.2.1.length + v.2.2.1.1.length + v.2.2.1.2.1.length + v.2.2.1.2.2.1.length + 1000
def l10_4 (v:V10_4):Option (X10_4 ⊕ Y10_4):=iter (q10_4 K20 G20 K21 G21 K22 G22 K15 G15 K23 G23 K24 G24) (b10_4 v) v
def kL10_4 (v:V10_4):Bool:=(l10_4 v).isSome
def tL10_4 (v:V10_4):Bool:=isR (l10_4 v)
def xL10_4 (v:V10_4):X10_4:=xOf ((0,()),()) (l10_4 v)
def yL10_4 (v:V10_4):Y10_4:=yOf ((0,(false,())),()) (l10_4 v)
def r10 (k20:KA A20) (g20:GA A20 R20) (k21:KA A21) (g21:GA A21 R21) (k22:KA A22) (g22:GA A22 R22) (k15:KA A15) (g15:GA A15 R15) (k23:KA A23) (g23:GA A23 R23) (k24:KA A24) (g24:GA A24 R24) (kl4:V10_4 -> Bool) (xl4:V10_4 -> X10_4) (tl4:V10_4 -> Bool) (yl4:V10_4 -> Y10_4) (x:Den A10):Option (Den R10):=
 let v0:=(k20 (x.1,()))
 bif v0 then
 let v1:=(g20 (x.1,()))
 bif (!v1.1) then
 some ((0),((false),()))
 else
 let v2:=(k21 (x.2.1,()))
 bif v2 then
 let v3:=(g21 (x.2.1,()))
 bif (!v3.1) then
 some ((0),((false),()))
 else
 let v4:=(k22 ((↑(List.length x.2.2.1):Int),1,200,()))
 bif v4 then
 let v5:=(g22 ((↑(List.length x.2.2.1):Int),1,200,()))
 bif (!v5.1) then
 some ((0),((false),()))
 else
 bif (decide (0 <= 0) && decide (0 < (↑(List.length x.2.2.1):Int))) then
 let v6:=(List.getD x.2.2.1 (Int.toNat 0) (zero (Ty.int IntKind.i64)))
 let v7:=(k15 (x.1,v6,()))
 bif v7 then
 let v8:=(g15 (x.1,v6,()))
 bif (!v8.1) then
 some ((0),((false),()))
 else
 let v9:=(k23 x.2.2.2)
 bif v9 then
 let v10:=(g23 x.2.2.2)
 bif (!v10.1) then
 some ((0),((false),()))
 else
 let v11:=(kl4 ((x.2.2.1,x.2.2.2.1,(),(),1,()),x.1,x.2.1,()))
 bif v11 then
 let v12:=(tl4 ((x.2.2.1,x.2.2.2.1,(),(),1,()),x.1,x.2.1,()))
 bif v12 then
 let v13:=(yl4 ((x.2.2.1,x.2.2.2.1,(),(),1,()),x.1,x.2.1,()))
 some (v13.1.1,(v13.1.2.1,()))
 else
 let v13:=(xl4 ((x.2.2.1,x.2.2.2.1,(),(),1,()),x.1,x.2.1,()))
 some (v13.1.1,((true),()))
 else
 none
 else
 none
 else
 none
 else
 none
 else
 none
 else
 none
 else
 none
theorem ev10 (k20:KA A20) (g20:GA A20 R20) (k21:KA A21) (g21:GA A21 R21) (k22:KA A22) (g22:GA A22 R22) (k15:KA A15) (g15:GA A15 R15) (k23:KA A23) (g23:GA A23 R23) (k24:KA A24) (g24:GA A24 R24) (kl4:V10_4 -> Bool) (xl4:V10_4 -> X10_4) (tl4:V10_4 -> Bool) (yl4:V10_4 -> Y10_4) (x:Den A10):callK (Γ10 k20 g20 k21 g21 k22 g22 k15 g15 k23 g23 k24 g24 kl4 xl4 tl4 yl4) (bodyOf Tryz.f10) (decR R10) (encA A10 x) [] = r10 k20 g20 k21 g21 k22 g22 k15 g15 k23 g23 k24 g24 kl4 xl4 tl4 yl4 x:=by kernel_rfl
def F10 (x:Den A10):Option (Den R10):=r10 K20 G20 K21 G21 K22 G22 K15 G15 K23 G23 K24 G24 kL10_4 xL10_4 tL10_4 yL10_4 x
def K10 (x:Den A10):Bool:=(F10 x).isSome
def G10 (x:Den A10):Den R10:=(F10 x).getD (zero R10)
theorem sem10:SemOK Tryz.prog (10,fnMean A10 R10 K10 G10):=fn_opt (env_ok mixed tab_ok eqs_ok (.cons sem20 (.cons sem21 (.cons sem22 (.cons sem15 (.cons sem23 (.cons sem24 .nil))))))) (fnIs Tryz.func10 rfl rfl rfl (by kernel_rfl) (loops_ok (l:=[lc10_4]) (by kernel_rfl) (.cons (one_loop rfl (loopR_sound (sh:=sh10_4) (shX:=shX10_4) (shR:=shY10_4) (fun f v => evl10_4 K20 G20 K21 G21 K22 G22 K15 G15 K23 G23 K24 G24 kL10_4 xL10_4 tL10_4 yL10_4 f v) b10_4 ((0,()),()) ((0,(false,())),()))) (.nil)))) fun x => ev10 K20 G20 K21 G21 K22 G22 K15 G15 K23 G23 K24 G24 kL10_4 xL10_4 tL10_4 yL10_4 x
def CurOk (c : List Int × Int × Int × Unit) : Prop := 0 <= c.2.1 /\ c.1.length <= 1048576
theorem and255 (a : Int) : 0 <= ibits .and .i64 a 255 /\ ibits .and .i64 a 255 <= 255 := by
 have h : (BitVec.ofInt IntKind.i64.bits a &&& BitVec.ofInt IntKind.i64.bits 255).toNat <= 255 := by
  rw [BitVec.toNat_and]
  exact Nat.and_le_right
 have e : ibits .and .i64 a 255 = IntKind.i64.wrap ((BitVec.ofInt IntKind.i64.bits a &&& BitVec.ofInt IntKind.i64.bits 255).toNat : Int) := rfl
 rw [e, w64 (by omega) (by omega)]
 omega
theorem K49_ok (x : I49.den) (h : CurOk x.2.1) : K49 x = true := by
 unfold K49 F49 r49
 have h1 : decide (0 <= x.2.1.2.1) = true := decide_eq_true h.1
 cases hc : decide (x.2.1.2.1 < (x.2.1.1.length : Int)) <;> simp only [h1, Bool.and_self, cond_true, cond_false, Option.isSome_some]
theorem G49_ok (x : I49.den) (h : CurOk x.2.1) : CurOk (G49 x).2.1 /\ 0 <= (G49 x).1.1 /\ (G49 x).1.1 <= 255 := by
 unfold G49 F49 r49
 have h1 : decide (0 <= x.2.1.2.1) = true := decide_eq_true h.1
 have hl := h.2
 have hi : 0 <= x.2.1.2.1 := h.1
 by_cases hlt : x.2.1.2.1 < (x.2.1.1.length : Int)
 ·have hlt2 : x.2.1.2.1 < 1048576 := by
   have : ((x.2.1.1.length : Nat) : Int) <= 1048576 := by omega
   exact Int.lt_of_lt_of_le hlt this
  have hc : decide (x.2.1.2.1 < (x.2.1.1.length : Int)) = true := decide_eq_true hlt
  simp only [hc, h1, Bool.and_self, cond_true, Option.getD_some]
  refine ⟨⟨?_, hl⟩, (and255 _).1, (and255 _).2⟩
  have hn : ∀ n : Int, 0 <= n -> n < 1048576 -> 0 <= IntKind.i64.wrap (n + 1) := fun n h1 h2 => by rw [w64 (by omega) (by omega)]; omega
  exact hn _ hi hlt2
 ·have hc : decide (x.2.1.2.1 < (x.2.1.1.length : Int)) = false := decide_eq_false hlt
  simp only [hc, cond_false, Option.getD_some]
  exact ⟨⟨hi, hl⟩, (and255 _).1, (and255 _).2⟩
theorem tmod_in {a n : Int} (h : 0 <= a) (hn : 0 < n) : 0 <= Int.tmod a n /\ Int.tmod a n < n := by
 rw [Int.tmod_eq_emod_of_nonneg h]
 exact ⟨Int.emod_nonneg _ (by omega), Int.emod_lt_of_pos _ hn⟩
theorem below_ok (n : Int) (c : List Int × Int × Int × Unit) (h : CurOk c) : ∃ (m : Int) (c' : List Int × Int × Int × Unit), F28 (((), n, ()), (c, ())) = some ((m, ()), (c', ())) /\ CurOk c' /\ 0 <= m /\ (0 < n -> m < n) := by
 unfold F28 r28
 by_cases h0 : n <= 0
 ·have : decide (n <= 0) = true := decide_eq_true h0
  simp only [this, cond_true]
  exact ⟨0, c, rfl, h, by omega, fun h => by omega⟩
 ·have e0 : decide (n <= 0) = false := decide_eq_false h0
  have e1 : (n != 0) = true := by simp; omega
  have k1 := K49_ok (((), ()), (c, ())) h
  obtain ⟨c1, l1, u1⟩ := G49_ok (((), ()), (c, ())) h
  simp only [e0, cond_false, k1, cond_true, e1]
  generalize G49 (((), ()), (c, ())) = g1 at *
  by_cases h2 : n <= 256
  ·have : decide (n <= 256) = true := decide_eq_true h2
   simp only [this, cond_true]
   exact ⟨_, g1.2.1, rfl, c1, (tmod_in l1 (by omega)).1, fun _ => (tmod_in l1 (by omega)).2⟩
  ·have : decide (n <= 256) = false := decide_eq_false h2
   simp only [this, cond_false]
   have k2 := K49_ok (((), ()), g1.2) c1
   obtain ⟨c2, l2, u2⟩ := G49_ok (((), ()), g1.2) c1
   simp only [k2, cond_true]
   generalize G49 (((), ()), g1.2) = g2 at *
   have k3 := K49_ok (((), ()), g2.2) c2
   obtain ⟨c3, l3, u3⟩ := G49_ok (((), ()), g2.2) c2
   simp only [k3, cond_true]
   generalize G49 (((), ()), g2.2) = g3 at *
   have k4 := K49_ok (((), ()), g3.2) c3
   obtain ⟨c4, l4, u4⟩ := G49_ok (((), ()), g3.2) c3
   simp only [k4, cond_true]
   generalize G49 (((), ()), g3.2) = g4 at *
   have big : ∀ x y z w : Int, 0 <= x -> x <= 255 -> 0 <= y -> y <= 255 -> 0 <= z -> z <= 255 -> 0 <= w -> w <= 255 ->
    0 <= IntKind.i64.wrap (IntKind.i64.wrap (IntKind.i64.wrap (IntKind.i64.wrap (x * 16777216) + IntKind.i64.wrap (y * 65536)) + IntKind.i64.wrap (z * 256)) + w) := by
    intro x y z w h1 h2 h3 h4 h5 h6 h7 h8
    have w1 : IntKind.i64.wrap (x * 16777216) = x * 16777216 := w64 (by omega) (by omega)
    have w2 : IntKind.i64.wrap (y * 65536) = y * 65536 := w64 (by omega) (by omega)
    have w3 : IntKind.i64.wrap (z * 256) = z * 256 := w64 (by omega) (by omega)
    have w4 : IntKind.i64.wrap (x * 16777216 + y * 65536) = x * 16777216 + y * 65536 := w64 (by omega) (by omega)
    have w5 : IntKind.i64.wrap (x * 16777216 + y * 65536 + z * 256) = x * 16777216 + y * 65536 + z * 256 := w64 (by omega) (by omega)
    rw [w1, w2, w3, w4, w5, w64 (by omega) (by omega)]
    omega
   have hb := big g1.1.1 g2.1.1 g3.1.1 g4.1.1 l1 u1 l2 u2 l3 u3 l4 u4
   exact ⟨_, g4.2.1, rfl, c4, (tmod_in hb (by omega)).1, fun _ => (tmod_in hb (by omega)).2⟩
theorem K28_ok (x : I28.den) (h : CurOk x.2.1) : K28 x = true := by
 obtain ⟨m, c, he, _⟩ := below_ok x.1.2.1 x.2.1 h
 unfold K28
 rw [show x = (((), x.1.2.1, ()), (x.2.1, ())) from rfl, he]
 rfl
theorem G28_ok (x : I28.den) (h : CurOk x.2.1) : CurOk (G28 x).2.1 /\ 0 <= ((G28 x).1.1 : Int) /\ ((0 : Int) < x.1.2.1 -> ((G28 x).1.1 : Int) < x.1.2.1) := by
 obtain ⟨m, c, he, h1, h2, h3⟩ := below_ok x.1.2.1 x.2.1 h
 unfold G28
 rw [show F28 x = _ from he]
 exact ⟨h1, h2, h3⟩
theorem G28_cur (x : I28.den) (h : CurOk x.2.1) : CurOk (G28 x).2.1 := (G28_ok x h).1
theorem K30_ok (x : I30.den) (h : CurOk x.2.1) : K30 x = true := by
 unfold K30 F30 r30
 simp only [K28_ok (((), x.1.2), x.2) h, cond_true, Option.isSome_some]
theorem G30_cur (x : I30.den) (h : CurOk x.2.1) : CurOk (G30 x).2.1 := by
 unfold G30 F30 r30
 simp only [K28_ok (((), x.1.2), x.2) h, cond_true, Option.getD_some]
 exact G28_cur (((), x.1.2), x.2) h
theorem pick_ok (l : List Int) (c : List Int × Int × Int × Unit) (h : CurOk c) (hl : 0 < l.length) : ∃ (m : Int) (c' : List Int × Int × Int × Unit), F46 (((), (), ()), (c, l, ())) = some ((m, ()), (c', l, ())) /\ CurOk c' /\ m ∈ l := by
 obtain ⟨m, c1, he, h1, h2, h3⟩ := below_ok (l.length : Int) c h
 unfold F46 r46
 have e1 : decide (0 <= m) = true := decide_eq_true h2
 have h4 : m < (l.length : Int) := h3 (by omega)
 have e2 : decide (m < (l.length : Int)) = true := decide_eq_true h4
 simp only [K28, G28, he, Option.isSome_some, Option.getD_some, cond_true, e1, e2, Bool.and_self]
 refine ⟨_, c1, rfl, h1, ?_⟩
 rw [getD_lt _ _ _ (by omega)]
 exact List.getElem_mem _
theorem K46_ok (x : I46.den) (h : CurOk x.2.1) (hl : 0 < x.2.2.1.length) : K46 x = true := by
 obtain ⟨m, c, he, _⟩ := pick_ok x.2.2.1 x.2.1 h hl
 unfold K46
 rw [show x = (((), (), ()), (x.2.1, x.2.2.1, ())) from rfl, he]
 rfl
theorem G46_ok (x : I46.den) (h : CurOk x.2.1) (hl : 0 < x.2.2.1.length) : CurOk (G46 x).2.1 /\ (G46 x).1.1 ∈ x.2.2.1 := by
 obtain ⟨m, c, he, h1, h2⟩ := pick_ok x.2.2.1 x.2.1 h hl
 unfold G46
 rw [show F46 x = _ from he]
 exact ⟨h1, h2⟩
theorem G46_cur (x : I46.den) (h : CurOk x.2.1) (hl : 0 < x.2.2.1.length) : CurOk (G46 x).2.1 := (G46_ok x h hl).1
theorem new_ok (code : List Int) (h : code.length <= 1048576) : ∃ c, F25 ((code, ()), ()) = some (((), ()), (c, ())) /\ CurOk c := by
 have hl : ∃ y, l25_3 ((code, IntKind.i64.wrap (33211 + (code.length : Int)), (0 : Int), ()), ()) = some y /\ y.1.1 = code := by
  refine iter_ind (q := q25_3) (fun v => v.1.1 = code /\ 0 <= v.1.2.2.1 /\ v.1.2.2.1 <= code.length) (fun _ r => ∃ y, r = some y /\ y.1.1 = code) (fun v => ((code.length : Int) - v.1.2.2.1).toNat) ?_ _ _ ⟨rfl, by simp only; omega, by simp only; omega⟩ (by simp only [b25_3]; omega)
  rintro ⟨⟨l, hh, i, _⟩, _⟩ f ⟨h0, h1, h2⟩ ih
  simp only at h0 h1 h2 ih
  subst h0
  unfold q25_3
  by_cases hi : i < (l.length : Int)
  ·have a1 : decide (0 <= i) = true := by simp; omega
   have a2 : decide (i < (l.length : Int)) = true := by simpa using hi
   have e1 : IntKind.i64.wrap (i + 1) = i + 1 := w64 (by omega) (by omega)
   simp only [a1, a2, e1, Bool.and_self, cond_true]
   cases decide (i < 4000)
   ·exact ⟨_, rfl, rfl⟩
   ·exact ih ((l, _, i + 1, ()), ()) ⟨rfl, by simp only; omega, by simp only; omega⟩ (by simp only; omega)
  ·have a2 : decide (i < (l.length : Int)) = false := by simpa using hi
   simp only [a2, cond_false]
   exact ⟨_, rfl, rfl⟩
 obtain ⟨y, hy, hc⟩ := hl
 unfold F25 r25
 simp only [kL25_3, xL25_3, hy, Option.isSome_some, Option.getD_some, cond_true]
 refine ⟨_, rfl, ?_, ?_⟩
 ·exact Int.le_refl 0
 ·rw [hc]; exact h
theorem K25_ok (x : I25.den) (h : x.1.1.length <= 1048576) : K25 x = true := by
 obtain ⟨c, he, _⟩ := new_ok x.1.1 h
 unfold K25
 rw [show x = ((x.1.1, ()), ()) from rfl, he]
 rfl
theorem G25_cur (x : I25.den) (h : x.1.1.length <= 1048576) : CurOk (G25 x).2.1 := by
 obtain ⟨c, he, h1⟩ := new_ok x.1.1 h
 unfold G25
 rw [show F25 x = _ from he]
 exact h1
abbrev I48:Sg:=⟨[.ptr 0,.val (.int .i64)],[.box (S72)]⟩
abbrev O48:Sg:=⟨[.val (.flt .f32)],[.box (S72)]⟩
noncomputable def Γ48 (k68:KI I68) (g68:GI I68 O68):Env:=mkEnv tab eqs [(68,sgMean true I68 O68 k68 g68)] 9 [.tmp 4] [] [] [] [] []
def r48 (k68:KI I68) (g68:GI I68 O68) (x:I48.den):Option (O48.den):=
 let v0:=(k68 (((),x.1.2),x.2))
 bif v0 then
 let v1:=(g68 (((),x.1.2),x.2))
 bif ((convF FloatKind.f64 FloatKind.f32 v1.1.1).1) then
 some ((((convF FloatKind.f64 FloatKind.f32 v1.1.1).2),()),((v1.2.1.1,(v1.2.1.2.1,(v1.2.1.2.2.1,()))),()))
 else
 none
 else
 none
theorem ev48 (k68:KI I68) (g68:GI I68 O68) (x:I48.den):callS (Γ48 k68 g68) (bodyOf Tryz.f48) I48 O48 x = r48 k68 g68 x:=by kernel_rfl
def F48 (x:I48.den):Option (O48.den):=r48 K68 G68 x
def K48 (x:I48.den):Bool:=(F48 x).isSome
def G48 (x:I48.den):O48.den:=(F48 x).getD (zeroSg O48)
theorem env48:EnvOK Tryz.prog (Γ48 K68 G68):=env_ok mixed tab_ok eqs_ok (.cons sem68 .nil)
theorem is48:FnIs Tryz.prog 48 (Γ48 K68 G68) (bodyOf Tryz.f48):=fnIs Tryz.func48 rfl rfl rfl (by kernel_rfl) (noLoops (by kernel_rfl))
theorem sem48:SemOK Tryz.prog (48,sgMean true I48 O48 K48 G48):=sg_opt env48 is48 true fun x => ev48 K68 G68 x
abbrev I67:Sg:=⟨[.ptr 0],[.box (S72)]⟩
abbrev O67:Sg:=⟨[.val (.cpx .f32)],[.box (S72)]⟩
noncomputable def Γ67 (k30:KI I30) (g30:GI I30 O30) (k102:KI I102) (g102:GI I102 O102) (k46:KI I46) (g46:GI I46 O46) (k48:KI I48) (g48:GI I48 O48):Env:=mkEnv tab eqs [(30,sgMean true I30 O30 k30 g30),(102,sgMean true I102 O102 k102 g102),(46,sgMean true I46 O46 k46 g46),(48,sgMean true I48 O48 k48 g48)] 30 [.tmp 2] [] [] [] [] []
def r67 (k30:KI I30) (g30:GI I30 O30) (k102:KI I102) (g102:GI I102 O102) (k46:KI I46) (g46:GI I46 O46) (k48:KI I48) (g48:GI I48 O48) (x:I67.den):Option (O67.den):=
 let v0:=(k30 (((),30,()),x.2))
 bif v0 then
 let v1:=(g30 (((),30,()),x.2))
 bif v1.1.1 then
 let v2:=(k102 (((),()),v1.2))
 bif v2 then
 let v3:=(g102 (((),()),v1.2))
 bif ((convF FloatKind.f64 FloatKind.f32 v3.1.1).1) then
 let v4:=(k102 (((),()),v3.2))
 bif v4 then
 let v5:=(g102 (((),()),v3.2))
 bif ((convF FloatKind.f64 FloatKind.f32 v5.1.1).1) then
 some (((((convF FloatKind.f64 FloatKind.f32 v3.1.1).2),((convF FloatKind.f64 FloatKind.f32 v5.1.1).2)),()),((v5.2.1.1,(v5.2.1.2.1,(v5.2.1.2.2.1,()))),()))
 else
 none
 else
 none
 else
 none
 else
 none
 else
 let v2:=(k30 (((),20,()),v1.2))
 bif v2 then
 let v3:=(g30 (((),20,()),v1.2))
 bif v3.1.1 then
 let v4:=(List.set (List.replicate 4 (zero (Ty.int IntKind.i64))) 0 100)
 let v5:=(List.set v4 1 (-100))
 let v6:=(List.set v5 2 101)
 let v7:=(List.set v6 3 0)
 let v8:=(k46 (((),(),()),v3.2.1,v7,()))
 bif v8 then
 let v9:=(g46 (((),(),()),v3.2.1,v7,()))
 let v10:=(k48 (((),100,()),v9.2.1,()))
 bif v10 then
 let v11:=(g48 (((),100,()),v9.2.1,()))
 some ((((FloatKind.nearest FloatKind.f32 v9.1.1),v11.1.1),()),((v11.2.1.1,(v11.2.1.2.1,(v11.2.1.2.2.1,()))),()))
 else
 none
 else
 none
 else
 let v4:=(k48 (((),15,()),v3.2))
 bif v4 then
 let v5:=(g48 (((),15,()),v3.2))
 let v6:=(k48 (((),15,()),v5.2))
 bif v6 then
 let v7:=(g48 (((),15,()),v5.2))
 some (((v5.1.1,v7.1.1),()),((v7.2.1.1,(v7.2.1.2.1,(v7.2.1.2.2.1,()))),()))
 else
 none
 else
 none
 else
 none
 else
 none
theorem ev67 (k30:KI I30) (g30:GI I30 O30) (k102:KI I102) (g102:GI I102 O102) (k46:KI I46) (g46:GI I46 O46) (k48:KI I48) (g48:GI I48 O48) (x:I67.den):callS (Γ67 k30 g30 k102 g102 k46 g46 k48 g48) (bodyOf Tryz.f67) I67 O67 x = r67 k30 g30 k102 g102 k46 g46 k48 g48 x:=by kernel_rfl
def F67 (x:I67.den):Option (O67.den):=r67 K30 G30 K102 G102 K46 G46 K48 G48 x
def K67 (x:I67.den):Bool:=(F67 x).isSome
def G67 (x:I67.den):O67.den:=(F67 x).getD (zeroSg O67)
theorem env67:EnvOK Tryz.prog (Γ67 K30 G30 K102 G102 K46 G46 K48 G48):=env_ok mixed tab_ok eqs_ok (.cons sem30 (.cons sem102 (.cons sem46 (.cons sem48 .nil))))
theorem is67:FnIs Tryz.prog 67 (Γ67 K30 G30 K102 G102 K46 G46 K48 G48) (bodyOf Tryz.f67):=fnIs Tryz.func67 rfl rfl rfl (by kernel_rfl) (noLoops (by kernel_rfl))
theorem sem67:SemOK Tryz.prog (67,sgMean true I67 O67 K67 G67):=sg_opt env67 is67 true fun x => ev67 K30 G30 K102 G102 K46 G46 K48 G48 x
abbrev I44:Sg:=⟨[.ptr 0],[.box (S72)]⟩
abbrev O44:Sg:=⟨[.val (.cpx .f32)],[.box (S72)]⟩
noncomputable def Γ44 (k30:KI I30) (g30:GI I30 O30) (k67:KI I67) (g67:GI I67 O67) (k28:KI I28) (g28:GI I28 O28):Env:=mkEnv tab eqs [(30,sgMean true I30 O30 k30 g30),(67,sgMean true I67 O67 k67 g67),(28,sgMean true I28 O28 k28 g28)] 20 [.tmp 2] [] [] [] [] []
def r44 (k30:KI I30) (g30:GI I30 O30) (k67:KI I67) (g67:GI I67 O67) (k28:KI I28) (g28:GI I28 O28) (x:I44.den):Option (O44.den):=
 let v0:=(k30 (((),12,()),x.2))
 bif v0 then
 let v1:=(g30 (((),12,()),x.2))
 bif v1.1.1 then
 let v2:=(k67 (((),()),v1.2))
 bif v2 then
 let v3:=(g67 (((),()),v1.2))
 some (((v3.1.1.1,v3.1.1.2),()),((v3.2.1.1,(v3.2.1.2.1,(v3.2.1.2.2.1,()))),()))
 else
 none
 else
 let v2:=(k28 (((),129,()),v1.2))
 bif v2 then
 let v3:=(g28 (((),129,()),v1.2))
 let v4:=(k28 (((),129,()),v3.2))
 bif v4 then
 let v5:=(IntKind.wrap IntKind.i64 (v3.1.1 - 64))
 let v6:=(farith BinOp.quo FloatKind.f32 (FloatKind.nearest FloatKind.f32 v5) 1090519040)
 let v7:=(g28 (((),129,()),v3.2))
 let v8:=(IntKind.wrap IntKind.i64 (v7.1.1 - 64))
 let v9:=(farith BinOp.quo FloatKind.f32 (FloatKind.nearest FloatKind.f32 v8) 1090519040)
 some (((v6,v9),()),((v7.2.1.1,(v7.2.1.2.1,(v7.2.1.2.2.1,()))),()))
 else
 none
 else
 none
 else
 none
theorem ev44 (k30:KI I30) (g30:GI I30 O30) (k67:KI I67) (g67:GI I67 O67) (k28:KI I28) (g28:GI I28 O28) (x:I44.den):callS (Γ44 k30 g30 k67 g67 k28 g28) (bodyOf Tryz.f44) I44 O44 x = r44 k30 g30 k67 g67 k28 g28 x:=by kernel_rfl
def F44 (x:I44.den):Option (O44.den):=r44 K30 G30 K67 G67 K28 G28 x
def K44 (x:I44.den):Bool:=(F44 x).isSome
def G44 (x:I44.den):O44.den:=(F44 x).getD (zeroSg O44)
theorem env44:EnvOK Tryz.prog (Γ44 K30 G30 K67 G67 K28 G28):=env_ok mixed tab_ok eqs_ok (.cons sem30 (.cons sem67 (.cons sem28 .nil)))
theorem is44:FnIs Tryz.prog 44 (Γ44 K30 G30 K67 G67 K28 G28) (bodyOf Tryz.f44):=fnIs Tryz.func44 rfl rfl rfl (by kernel_rfl) (noLoops (by kernel_rfl))
theorem sem44:SemOK Tryz.prog (44,sgMean true I44 O44 K44 G44):=sg_opt env44 is44 true fun x => ev44 K30 G30 K67 G67 K28 G28 x
abbrev I26:Sg:=⟨[.ptr 0],[.box (S72)]⟩
abbrev O26:Sg:=⟨[.val (S25)],[.box (S72)]⟩
abbrev V26_4:Type:=((Unit × (Unit × (Unit × ((Nat × Nat) × (Int × Unit))))) × (((List (Den (.int .u8))) × (Int × (Int × Unit))) × ((Int × (Int × (Int × (Unit × Unit)))) × ((Int × (Int × (Int × (Unit × Unit)))) × ((List (Den (.slice (.cpx .f32)))) × Unit)))))
def sh26_4:ShS:=⟨[(0,.one (.ptr 0 0)),(2,.one (.ptr 1 0)),(3,.one (.ptr 2 0)),(4,.one (.cpx .f32)),(5,.one (.int .i64))],[(0,.box [.sl (.int .u8),.int .i64,.int .i64]),(1,.box [.int .i64,.int .i64,.int .i64,.nil (.slice (.cpx .f32))]),(2,.box [.int .i64,.int .i64,.int .i64,.ref (.slice (.cpx .f32)) 3]),(3,.arr (.slice (.cpx .f32)))],4,1⟩
abbrev X26_4:Type:=((Unit × (Unit × (Unit × Unit))) × (((List (Den (.int .u8))) × (Int × (Int × Unit))) × ((Int × (Int × (Int × (Unit × Unit)))) × ((Int × (Int × (Int × (Unit × Unit)))) × ((List (Den (.slice (.cpx .f32)))) × Unit)))))
def shX26_4:ShS:=⟨[(0,.one (.ptr 0 0)),(2,.one (.ptr 1 0)),(3,.one (.ptr 2 0))],[(0,.box [.sl (.int .u8),.int .i64,.int .i64]),(1,.box [.int .i64,.int .i64,.int .i64,.nil (.slice (.cpx .f32))]),(2,.box [.int .i64,.int .i64,.int .i64,.ref (.slice (.cpx .f32)) 3]),(3,.arr (.slice (.cpx .f32)))],4,1⟩
abbrev V26_8:Type:=((Unit × (Unit × (Unit × ((Nat × Nat) × (Int × (Unit × (Int × Unit))))))) × (((List (Den (.int .u8))) × (Int × (Int × Unit))) × ((Int × (Int × (Int × (Unit × Unit)))) × ((Int × (Int × (Int × (Unit × Unit)))) × ((List (Den (.slice (.cpx .f32)))) × ((List (Den (.cpx .f32))) × Unit))))))
def sh26_8:ShS:=⟨[(0,.one (.ptr 0 0)),(2,.one (.ptr 1 0)),(3,.one (.ptr 2 0)),(4,.one (.cpx .f32)),(5,.one (.int .i64)),(6,.one (.ref (.cpx .f32) 4)),(7,.one (.int .i64))],[(0,.box [.sl (.int .u8),.int .i64,.int .i64]),(1,.box [.int .i64,.int .i64,.int .i64,.nil (.slice (.cpx .f32))]),(2,.box [.int .i64,.int .i64,.int .i64,.ref (.slice (.cpx .f32)) 3]),(3,.arr (.slice (.cpx .f32))),(4,.arr (.cpx .f32))],5,1⟩
abbrev X26_8:Type:=((Unit × (Unit × (Unit × ((Nat × Nat) × (Int × (Unit × Unit)))))) × (((List (Den (.int .u8))) × (Int × (Int × Unit))) × ((Int × (Int × (Int × (Unit × Unit)))) × ((Int × (Int × (Int × (Unit × Unit)))) × ((List (Den (.slice (.cpx .f32)))) × ((List (Den (.cpx .f32))) × Unit))))))
def shX26_8:ShS:=⟨[(0,.one (.ptr 0 0)),(2,.one (.ptr 1 0)),(3,.one (.ptr 2 0)),(4,.one (.cpx .f32)),(5,.one (.int .i64)),(6,.one (.ref (.cpx .f32) 4))],[(0,.box [.sl (.int .u8),.int .i64,.int .i64]),(1,.box [.int .i64,.int .i64,.int .i64,.nil (.slice (.cpx .f32))]),(2,.box [.int .i64,.int .i64,.int .i64,.ref (.slice (.cpx .f32)) 3]),(3,.arr (.slice (.cpx .f32))),(4,.arr (.cpx .f32))],5,1⟩
noncomputable def Γ26 (k28:KI I28) (g28:GI I28 O28) (k44:KI I44) (g44:GI I44 O44) (k30:KI I30) (g30:GI I30 O30) (k45:KI I45) (g45:GI I45 O45) (k46:KI I46) (g46:GI I46 O46) (kl4:V26_4 -> Bool) (xl4:V26_4 -> X26_4) (kl8:V26_8 -> Bool) (xl8:V26_8 -> X26_8):Env:=mkEnv tab eqs [(28,sgMean true I28 O28 k28 g28),(44,sgMean true I44 O44 k44 g44),(30,sgMean true I30 O30 k30 g30),(45,sgMean true I45 O45 k45 g45),(46,sgMean true I46 O46 k46 g46)] 85 [.cell 2 26] [] [] [(4,loopX [0,2,3,4,5] [.boxNil 3 3] 0 [0,2,3] [] sh26_4 shX26_4 kl4 xl4),(8,loopX [0,2,3,4,5,6,7] [] 2 [0,2,3,4,5,6] [] sh26_8 shX26_8 kl8 xl8)] [] [.frzBox 2]
noncomputable def lc26_4:Code:=(loopsOf (bodyOf Tryz.f26)).getD 0 .skip
noncomputable def lc26_8:Code:=(loopsOf (bodyOf Tryz.f26)).getD 1 .skip
def q26_8 (k28:KI I28) (g28:GI I28 O28) (k44:KI I44) (g44:GI I44 O44) (k30:KI I30) (g30:GI I30 O30) (k45:KI I45) (g45:GI I45 O45) (k46:KI I46) (g46:GI I46 O46) (f:V26_8 -> Option (X26_8)) (v:V26_8):Option (X26_8):=
 let v0:=(IntKind.wrap IntKind.i64 (v.2.2.2.1.1 * v.2.2.2.1.2.1))
 bif (decide (v.1.2.2.2.2.2.2.1 < v0)) then
 let v1:=(k30 (((),3,()),v.2.1,()))
 bif v1 then
 let v2:=(g30 (((),3,()),v.2.1,()))
 bif v2.1.1 then
 let v3:=(k44 (((),()),v2.2))
 bif v3 then
 let v4:=(g44 (((),()),v2.2))
 let v5:=(List.set (List.replicate 1 (zero (Ty.cpx FloatKind.f32))) 0 v4.1.1)
 bif (capOk (List.length v.2.2.2.2.2.1 + List.length v5)) then
 let v6:=(IntKind.wrap IntKind.i64 (v.1.2.2.2.2.2.2.1 + 1))
 let v7:=(v.2.2.2.2.2.1 ++ v5)
 f (((),((),((),((v4.1.1.1,v4.1.1.2),((v.1.2.2.2.2.1),((),(v6,()))))))),((v4.2.1.1,(v4.2.1.2.1,(v4.2.1.2.2.1,()))),(((v.2.2.1.1),((v.2.2.1.2.1),((v.2.2.1.2.2.1),((),())))),(((v.2.2.2.1.1),((v.2.2.2.1.2.1),((v.2.2.2.1.2.2.1),((),())))),((v.2.2.2.2.1),(v7,()))))))
 else
 none
 else
 none
 else
 let v3:=(List.set (List.replicate 1 (zero (Ty.cpx FloatKind.f32))) 0 v.1.2.2.2.1)
 bif (capOk (List.length v.2.2.2.2.2.1 + List.length v3)) then
 let v4:=(IntKind.wrap IntKind.i64 (v.1.2.2.2.2.2.2.1 + 1))
 let v5:=(v.2.2.2.2.2.1 ++ v3)
 f (((),((),((),(((v.1.2.2.2.1.1),(v.1.2.2.2.1.2)),((v.1.2.2.2.2.1),((),(v4,()))))))),((v2.2.1.1,(v2.2.1.2.1,(v2.2.1.2.2.1,()))),(((v.2.2.1.1),((v.2.2.1.2.1),((v.2.2.1.2.2.1),((),())))),(((v.2.2.2.1.1),((v.2.2.2.1.2.1),((v.2.2.2.1.2.2.1),((),())))),((v.2.2.2.2.1),(v5,()))))))
 else
 none
 else
 none
 else
 some (((),((),((),(((v.1.2.2.2.1.1),(v.1.2.2.2.1.2)),((v.1.2.2.2.2.1),((),())))))),(((v.2.1.1),((v.2.1.2.1),((v.2.1.2.2.1),()))),(((v.2.2.1.1),((v.2.2.1.2.1),((v.2.2.1.2.2.1),((),())))),(((v.2.2.2.1.1),((v.2.2.2.1.2.1),((v.2.2.2.1.2.2.1),((),())))),((v.2.2.2.2.1),((v.2.2.2.2.2.1),()))))))
theorem evl26_8 (k28:KI I28) (g28:GI I28 O28) (k44:KI I44) (g44:GI I44 O44) (k30:KI I30) (g30:GI I30 O30) (k45:KI I45) (g45:GI I45 O45) (k46:KI I46) (g46:GI I46 O46) (kl4:V26_4 -> Bool) (xl4:V26_4 -> X26_4) (kl8:V26_8 -> Bool) (xl8:V26_8 -> X26_8) (f:V26_8 -> Option (X26_8)) (v:V26_8):EBk (Γ26 k28 g28 k44 g44 k30 g30 k45 g45 k46 g46 kl4 xl4 kl8 xl8) lc26_8 (roundK [0,2,3,4,5,6,7] [] 2 [0,2,3,4,5,6] [] (atS sh26_8 f) (endX shX26_8)) (mkS sh26_8 v) = q26_8 k28 g28 k44 g44 k30 g30 k45 g45 k46 g46 f v:=by kernel_rfl
def b26_8 (v:V26_8):Nat:=v.1.2.2.2.2.1.natAbs + v.1.2.2.2.2.2.2.1.natAbs + v.2.1.1.length + v.2.1.2.1.natAbs + v.2.1.2.2.1.natAbs + v.2.2.1.1.natAbs + v.2.2.1.2.1.natAbs + v.2.2.1.2.2.1.natAbs + v.2.2.2.1.1.natAbs + v.2.2.2.1.2.1.natAbs + v.2.2.2.1.2.2.1.natAbs + v.2.2.2.2.1.length + v.2.2.2.2.2.1.length + 1000
def l26_8 (v:V26_8):Option (X26_8):=iter (q26_8 K28 G28 K44 G44 K30 G30 K45 G45 K46 G46) (b26_8 v) v
def kL26_8 (v:V26_8):Bool:=(l26_8 v).isSome
def xL26_8 (v:V26_8):X26_8:=(l26_8 v).getD (((),((),((),((0,0),(0,((),())))))),(([],(0,(0,()))),((0,(0,(0,((),())))),((0,(0,(0,((),())))),([],([],()))))))
def q26_4 (k28:KI I28) (g28:GI I28 O28) (k44:KI I44) (g44:GI I44 O44) (k30:KI I30) (g30:GI I30 O30) (k45:KI I45) (g45:GI I45 O45) (k46:KI I46) (g46:GI I46 O46) (kl8:V26_8 -> Bool) (xl8:V26_8 -> X26_8) (f:V26_4 -> Option (X26_4)) (v:V26_4):Option (X26_4):=
 bif (decide (v.1.2.2.2.2.1 > 0)) then
 let v0:=(kl8 (((),(),(),v.1.2.2.2.1,v.1.2.2.2.2.1,(),0,()),v.2.1,(v.2.2.1.1,v.2.2.1.2.1,v.2.2.1.2.2.1,(),()),(v.2.2.2.1.1,v.2.2.2.1.2.1,v.2.2.2.1.2.2.1,(),()),v.2.2.2.2.1,List.replicate 0 (zero (Ty.cpx FloatKind.f32)),()))
 bif v0 then
 let v1:=(xl8 (((),(),(),v.1.2.2.2.1,v.1.2.2.2.2.1,(),0,()),v.2.1,(v.2.2.1.1,v.2.2.1.2.1,v.2.2.1.2.2.1,(),()),(v.2.2.2.1.1,v.2.2.2.1.2.1,v.2.2.2.1.2.2.1,(),()),v.2.2.2.2.1,List.replicate 0 (zero (Ty.cpx FloatKind.f32)),()))
 let v2:=(List.set (List.replicate 1 (zero (Ty.slice (Ty.cpx FloatKind.f32)))) 0 v1.2.2.2.2.2.1)
 bif (capOk (List.length v1.2.2.2.2.1 + List.length v2)) then
 let v3:=(IntKind.wrap IntKind.i64 (v1.1.2.2.2.2.1 - 1))
 let v4:=(v1.2.2.2.2.1 ++ v2)
 f (((),((),((),((v1.1.2.2.2.1.1,v1.1.2.2.2.1.2),(v3,()))))),((v1.2.1.1,(v1.2.1.2.1,(v1.2.1.2.2.1,()))),((v1.2.2.1.1,(v1.2.2.1.2.1,(v1.2.2.1.2.2.1,((),())))),((v1.2.2.2.1.1,(v1.2.2.2.1.2.1,(v1.2.2.2.1.2.2.1,((),())))),(v4,())))))
 else
 none
 else
 none
 else
 some (((),((),((),()))),(((v.2.1.1),((v.2.1.2.1),((v.2.1.2.2.1),()))),(((v.2.2.1.1),((v.2.2.1.2.1),((v.2.2.1.2.2.1),((),())))),(((v.2.2.2.1.1),((v.2.2.2.1.2.1),((v.2.2.2.1.2.2.1),((),())))),((v.2.2.2.2.1),())))))
theorem evl26_4 (k28:KI I28) (g28:GI I28 O28) (k44:KI I44) (g44:GI I44 O44) (k30:KI I30) (g30:GI I30 O30) (k45:KI I45) (g45:GI I45 O45) (k46:KI I46) (g46:GI I46 O46) (kl4:V26_4 -> Bool) (xl4:V26_4 -> X26_4) (kl8:V26_8 -> Bool) (xl8:V26_8 -> X26_8) (f:V26_4 -> Option (X26_4)) (v:V26_4):EBk (Γ26 k28 g28 k44 g44 k30 g30 k45 g45 k46 g46 kl4 xl4 kl8 xl8) lc26_4 (roundK [0,2,3,4,5] [.boxNil 3 3] 0 [0,2,3] [] (atS sh26_4 f) (endX shX26_4)) (mkS sh26_4 v) = q26_4 k28 g28 k44 g44 k30 g30 k45 g45 k46 g46 kl8 xl8 f v:=by kernel_rfl
def b26_4 (v:V26_4):Nat:=v.1.2.2.2.2.1.natAbs + v.2.1.1.length + v.2.1.2.1.natAbs + v.2.1.2.2.1.natAbs + v.2.2.1.1.natAbs + v.2.2.1.2.1.natAbs + v.2.2.1.2.2.1.natAbs + v.2.2.2.1.1.natAbs + v.2.2.2.1.2.1.natAbs + v.2.2.2.1.2.2.1.natAbs + v.2.2.2.2.1.length + 1000
def l26_4 (v:V26_4):Option (X26_4):=iter (q26_4 K28 G28 K44 G44 K30 G30 K45 G45 K46 G46 kL26_8 xL26_8) (b26_4 v) v
def kL26_4 (v:V26_4):Bool:=(l26_4 v).isSome
def xL26_4 (v:V26_4):X26_4:=(l26_4 v).getD (((),((),((),()))),(([],(0,(0,()))),((0,(0,(0,((),())))),((0,(0,(0,((),())))),([],())))))
def r26 (k28:KI I28) (g28:GI I28 O28) (k44:KI I44) (g44:GI I44 O44) (k30:KI I30) (g30:GI I30 O30) (k45:KI I45) (g45:GI I45 O45) (k46:KI I46) (g46:GI I46 O46) (kl4:V26_4 -> Bool) (xl4:V26_4 -> X26_4) (kl8:V26_8 -> Bool) (xl8:V26_8 -> X26_8) (x:I26.den):Option (O26.den):=
 let v0:=(k28 (((),2,()),x.2))
 bif v0 then
 let v1:=(g28 (((),2,()),x.2))
 let v2:=(k28 (((),3000,()),v1.2))
 bif v2 then
 let v3:=(g28 (((),3000,()),v1.2))
 let v4:=(k44 (((),()),v3.2))
 bif v4 then
 let v5:=(g44 (((),()),v3.2))
 let v6:=(k28 (((),3,()),v5.2))
 bif v6 then
 let v7:=(g28 (((),3,()),v5.2))
 let v8:=(k28 (((),2,()),v7.2))
 bif v8 then
 let v9:=(g28 (((),2,()),v7.2))
 let v10:=(IntKind.wrap IntKind.i64 (v7.1.1 * v9.1.1))
 let v11:=(IntKind.wrap IntKind.i64 (1 + v10))
 let v12:=(IntKind.wrap IntKind.i64 (2 + v1.1.1))
 let v13:=(IntKind.wrap IntKind.i64 (100 + v3.1.1))
 let v14:=(kl4 (((),(),(),v5.1.1,v11,()),v9.2.1,(0,0,0,(),()),(v12,2,v13,(),()),[],()))
 bif v14 then
 let v15:=(xl4 (((),(),(),v5.1.1,v11,()),v9.2.1,(0,0,0,(),()),(v12,2,v13,(),()),[],()))
 let v16:=(k28 (((),30,()),v15.2.1,()))
 bif v16 then
 let v17:=(g28 (((),30,()),v15.2.1,()))
 bif (v17.1.1 == 0) then
 let v18:=(k45 (((),()),v17.2))
 bif v18 then
 let v19:=(g45 (((),()),v17.2))
 some (((v19.1.1,(v15.2.2.2.1.2.1,(v15.2.2.2.1.2.2.1,(v15.2.2.2.2.1,())))),()),((v19.2.1.1,(v19.2.1.2.1,(v19.2.1.2.2.1,()))),()))
 else
 none
 else
 bif (v17.1.1 == 1) then
 let v18:=(IntKind.wrap IntKind.i64 (v15.2.2.2.1.2.1 + 1))
 some (((v15.2.2.2.1.1,(v18,(v15.2.2.2.1.2.2.1,(v15.2.2.2.2.1,())))),()),((v17.2.1.1,(v17.2.1.2.1,(v17.2.1.2.2.1,()))),()))
 else
 bif (v17.1.1 == 2) then
 let v18:=(List.set (List.replicate 5 (zero (Ty.int IntKind.i64))) 0 9)
 let v19:=(List.set v18 1 10)
 let v20:=(List.set v19 2 100000)
 let v21:=(List.set v20 3 100001)
 let v22:=(List.set v21 4 (-1))
 let v23:=(k46 (((),(),()),v17.2.1,v22,()))
 bif v23 then
 let v24:=(g46 (((),(),()),v17.2.1,v22,()))
 some (((v15.2.2.2.1.1,(v15.2.2.2.1.2.1,(v24.1.1,(v15.2.2.2.2.1,())))),()),((v24.2.1.1,(v24.2.1.2.1,(v24.2.1.2.2.1,()))),()))
 else
 none
 else
 bif (v17.1.1 == 3) then
 some (((v15.2.2.2.1.1,(v15.2.2.2.1.2.1,(v15.2.2.2.1.2.2.1,((List.replicate 0 (zero (Ty.slice (Ty.cpx FloatKind.f32)))),())))),()),((v17.2.1.1,(v17.2.1.2.1,(v17.2.1.2.2.1,()))),()))
 else
 bif (v17.1.1 == 4) then
 bif (decide (0 <= 0) && decide (0 < (↑(List.length v15.2.2.2.2.1):Int))) then
 let v18:=(List.getD v15.2.2.2.2.1 (Int.toNat 0) (zero (Ty.slice (Ty.cpx FloatKind.f32))))
 bif (decide (0 <= 1) && decide (1 <= (↑(List.length v18):Int)) && decide ((↑(List.length v18):Int) <= (↑(List.length v18):Int))) then
 bif (decide (0 <= 0) && decide (0 < (↑(List.length v15.2.2.2.2.1):Int))) then
 let v19:=(List.set v15.2.2.2.2.1 (Int.toNat 0) (List.drop (Int.toNat 1) (List.take (Int.toNat (↑(List.length v18):Int)) v18)))
 some (((v15.2.2.2.1.1,(v15.2.2.2.1.2.1,(v15.2.2.2.1.2.2.1,(v19,())))),()),((v17.2.1.1,(v17.2.1.2.1,(v17.2.1.2.2.1,()))),()))
 else
 none
 else
 none
 else
 none
 else
 some (((v15.2.2.2.1.1,(v15.2.2.2.1.2.1,(v15.2.2.2.1.2.2.1,(v15.2.2.2.2.1,())))),()),((v17.2.1.1,(v17.2.1.2.1,(v17.2.1.2.2.1,()))),()))
 else
 none
 else
 none
 else
 none
 else
 none
 else
 none
 else
 none
 else
 none
theorem ev26 (k28:KI I28) (g28:GI I28 O28) (k44:KI I44) (g44:GI I44 O44) (k30:KI I30) (g30:GI I30 O30) (k45:KI I45) (g45:GI I45 O45) (k46:KI I46) (g46:GI I46 O46) (kl4:V26_4 -> Bool) (xl4:V26_4 -> X26_4) (kl8:V26_8 -> Bool) (xl8:V26_8 -> X26_8) (x:I26.den):callS (Γ26 k28 g28 k44 g44 k30 g30 k45 g45 k46 g46 kl4 xl4 kl8 xl8) (bodyOf Tryz.f26) I26 O26 x = r26 k28 g28 k44 g44 k30 g30 k45 g45 k46 g46 kl4 xl4 kl8 xl8 x:=by kernel_rfl
def F26 (x:I26.den):Option (O26.den):=r26 K28 G28 K44 G44 K30 G30 K45 G45 K46 G46 kL26_4 xL26_4 kL26_8 xL26_8 x
def K26 (x:I26.den):Bool:=(F26 x).isSome
def G26 (x:I26.den):O26.den:=(F26 x).getD (zeroSg O26)
theorem env26:EnvOK Tryz.prog (Γ26 K28 G28 K44 G44 K30 G30 K45 G45 K46 G46 kL26_4 xL26_4 kL26_8 xL26_8):=env_ok mixed tab_ok eqs_ok (.cons sem28 (.cons sem44 (.cons sem30 (.cons sem45 (.cons sem46 .nil)))))
theorem is26:FnIs Tryz.prog 26 (Γ26 K28 G28 K44 G44 K30 G30 K45 G45 K46 G46 kL26_4 xL26_4 kL26_8 xL26_8) (bodyOf Tryz.f26):=fnIs Tryz.func26 rfl rfl rfl (by kernel_rfl) (loops_ok (l:=[lc26_4,lc26_8]) (by kernel_rfl) (.cons (one_loop rfl (loopX_sound (sh:=sh26_4) (shX:=shX26_4) (fun f v => evl26_4 K28 G28 K44 G44 K30 G30 K45 G45 K46 G46 kL26_4 xL26_4 kL26_8 xL26_8 f v) b26_4 (((),((),((),()))),(([],(0,(0,()))),((0,(0,(0,((),())))),((0,(0,(0,((),())))),([],()))))))) (.cons (one_loop rfl (loopX_sound (sh:=sh26_8) (shX:=shX26_8) (fun f v => evl26_8 K28 G28 K44 G44 K30 G30 K45 G45 K46 G46 kL26_4 xL26_4 kL26_8 xL26_8 f v) b26_8 (((),((),((),((0,0),(0,((),())))))),(([],(0,(0,()))),((0,(0,(0,((),())))),((0,(0,(0,((),())))),([],([],())))))))) (.nil))))
theorem sem26:SemOK Tryz.prog (26,sgMean true I26 O26 K26 G26):=sg_opt env26 is26 true fun x => ev26 K28 G28 K44 G44 K30 G30 K45 G45 K46 G46 kL26_4 xL26_4 kL26_8 xL26_8 x
noncomputable def N48:NEnv:=mkN [] []
noncomputable def rN48 (k68:KI I68) (g68:GI I68 O68) (h:O48.den -> Option Unit) (x:I48.den):Option Unit:=
 let v0:=(k68 (((),x.1.2),x.2))
 bif v0 then
 let v1:=(g68 (((),x.1.2),x.2))
 bif (narrowOk v1.1.1) then
 bif ((convF FloatKind.f64 FloatKind.f32 v1.1.1).1) then
 h ((((convF FloatKind.f64 FloatKind.f32 v1.1.1).2),()),((v1.2.1.1,(v1.2.1.2.1,(v1.2.1.2.2.1,()))),()))
 else
 none
 else
 allK fun (z6:Bits32) =>
 h (((z6.1),()),((v1.2.1.1,(v1.2.1.2.1,(v1.2.1.2.2.1,()))),()))
 else
 none
theorem evN48 (k68:KI I68) (g68:GI I68 O68) (h:O48.den -> Option Unit) (x:I48.den):callSN (Γ48 k68 g68) (N48) (bodyOf Tryz.f48) I48 O48 h x = rN48 k68 g68 h x:=by kernel_rfl
noncomputable def N67 (p48:KI I48) (Q48:QI I48 O48) (e48:Nonempty (Ch I48 O48 p48 Q48)):NEnv:=mkN [(48,sgFam true I48 O48 p48 Q48 e48)] []
noncomputable def rN67 (k30:KI I30) (g30:GI I30 O30) (k102:KI I102) (g102:GI I102 O102) (k46:KI I46) (g46:GI I46 O46) (k48:KI I48) (g48:GI I48 O48) (p48:KI I48) (Q48:QI I48 O48) (e48:Nonempty (Ch I48 O48 p48 Q48)) (h:O67.den -> Option Unit) (x:I67.den):Option Unit:=
 let v0:=(k30 (((),30,()),x.2))
 bif v0 then
 let v1:=(g30 (((),30,()),x.2))
 bif v1.1.1 then
 let v2:=(k102 (((),()),v1.2))
 bif v2 then
 let v3:=(g102 (((),()),v1.2))
 bif (narrowOk v3.1.1) then
 bif ((convF FloatKind.f64 FloatKind.f32 v3.1.1).1) then
 let v4:=(k102 (((),()),v3.2))
 bif v4 then
 let v5:=(g102 (((),()),v3.2))
 bif (narrowOk v5.1.1) then
 bif ((convF FloatKind.f64 FloatKind.f32 v5.1.1).1) then
 h (((((convF FloatKind.f64 FloatKind.f32 v3.1.1).2),((convF FloatKind.f64 FloatKind.f32 v5.1.1).2)),()),((v5.2.1.1,(v5.2.1.2.1,(v5.2.1.2.2.1,()))),()))
 else
 none
 else
 allK fun (z16:Bits32) =>
 h (((((convF FloatKind.f64 FloatKind.f32 v3.1.1).2),(z16.1)),()),((v5.2.1.1,(v5.2.1.2.1,(v5.2.1.2.2.1,()))),()))
 else
 none
 else
 none
 else
 allK fun (z10:Bits32) =>
 let v4:=(k102 (((),()),v3.2))
 bif v4 then
 let v5:=(g102 (((),()),v3.2))
 bif (narrowOk v5.1.1) then
 bif ((convF FloatKind.f64 FloatKind.f32 v5.1.1).1) then
 h ((((z10.1),((convF FloatKind.f64 FloatKind.f32 v5.1.1).2)),()),((v5.2.1.1,(v5.2.1.2.1,(v5.2.1.2.2.1,()))),()))
 else
 none
 else
 allK fun (z16:Bits32) =>
 h ((((z10.1),(z16.1)),()),((v5.2.1.1,(v5.2.1.2.1,(v5.2.1.2.2.1,()))),()))
 else
 none
 else
 none
 else
 let v2:=(k30 (((),20,()),v1.2))
 bif v2 then
 let v3:=(g30 (((),20,()),v1.2))
 bif v3.1.1 then
 let v4:=(List.set (List.replicate 4 (zero (Ty.int IntKind.i64))) 0 100)
 let v5:=(List.set v4 1 (-100))
 let v6:=(List.set v5 2 101)
 let v7:=(List.set v6 3 0)
 let v8:=(k46 (((),(),()),v3.2.1,v7,()))
 bif v8 then
 allK fun (c48_12:Ch I48 O48 p48 Q48) =>
 let v9:=(g46 (((),(),()),v3.2.1,v7,()))
 let v10:=(p48 (((),100,()),v9.2.1,()))
 bif v10 then
 let v11:=(c48_12.val (((),100,()),v9.2.1,()))
 h ((((FloatKind.nearest FloatKind.f32 v9.1.1),v11.1.1),()),((v11.2.1.1,(v11.2.1.2.1,(v11.2.1.2.2.1,()))),()))
 else
 none
 else
 none
 else
 allK fun (c48_10:Ch I48 O48 p48 Q48) =>
 let v4:=(p48 (((),15,()),v3.2))
 bif v4 then
 allK fun (c48_14:Ch I48 O48 p48 Q48) =>
 let v5:=(c48_10.val (((),15,()),v3.2))
 let v6:=(p48 (((),15,()),v5.2))
 bif v6 then
 let v7:=(c48_14.val (((),15,()),v5.2))
 h (((v5.1.1,v7.1.1),()),((v7.2.1.1,(v7.2.1.2.1,(v7.2.1.2.2.1,()))),()))
 else
 none
 else
 none
 else
 none
 else
 none
theorem evN67 (k30:KI I30) (g30:GI I30 O30) (k102:KI I102) (g102:GI I102 O102) (k46:KI I46) (g46:GI I46 O46) (k48:KI I48) (g48:GI I48 O48) (p48:KI I48) (Q48:QI I48 O48) (e48:Nonempty (Ch I48 O48 p48 Q48)) (h:O67.den -> Option Unit) (x:I67.den):callSN (Γ67 k30 g30 k102 g102 k46 g46 k48 g48) (N67 p48 Q48 e48) (bodyOf Tryz.f67) I67 O67 h x = rN67 k30 g30 k102 g102 k46 g46 k48 g48 p48 Q48 e48 h x:=by kernel_rfl
noncomputable def N44 (p67:KI I67) (Q67:QI I67 O67) (e67:Nonempty (Ch I67 O67 p67 Q67)):NEnv:=mkN [(67,sgFam true I67 O67 p67 Q67 e67)] []
noncomputable def rN44 (k30:KI I30) (g30:GI I30 O30) (k67:KI I67) (g67:GI I67 O67) (k28:KI I28) (g28:GI I28 O28) (p67:KI I67) (Q67:QI I67 O67) (e67:Nonempty (Ch I67 O67 p67 Q67)) (h:O44.den -> Option Unit) (x:I44.den):Option Unit:=
 let v0:=(k30 (((),12,()),x.2))
 bif v0 then
 let v1:=(g30 (((),12,()),x.2))
 bif v1.1.1 then
 allK fun (c67_6:Ch I67 O67 p67 Q67) =>
 let v2:=(p67 (((),()),v1.2))
 bif v2 then
 let v3:=(c67_6.val (((),()),v1.2))
 h (((v3.1.1.1,v3.1.1.2),()),((v3.2.1.1,(v3.2.1.2.1,(v3.2.1.2.2.1,()))),()))
 else
 none
 else
 let v2:=(k28 (((),129,()),v1.2))
 bif v2 then
 let v3:=(g28 (((),129,()),v1.2))
 let v4:=(k28 (((),129,()),v3.2))
 bif v4 then
 let v5:=(IntKind.wrap IntKind.i64 (v3.1.1 - 64))
 let v6:=(farith BinOp.quo FloatKind.f32 (FloatKind.nearest FloatKind.f32 v5) 1090519040)
 let v7:=(g28 (((),129,()),v3.2))
 let v8:=(IntKind.wrap IntKind.i64 (v7.1.1 - 64))
 let v9:=(farith BinOp.quo FloatKind.f32 (FloatKind.nearest FloatKind.f32 v8) 1090519040)
 h (((v6,v9),()),((v7.2.1.1,(v7.2.1.2.1,(v7.2.1.2.2.1,()))),()))
 else
 none
 else
 none
 else
 none
theorem evN44 (k30:KI I30) (g30:GI I30 O30) (k67:KI I67) (g67:GI I67 O67) (k28:KI I28) (g28:GI I28 O28) (p67:KI I67) (Q67:QI I67 O67) (e67:Nonempty (Ch I67 O67 p67 Q67)) (h:O44.den -> Option Unit) (x:I44.den):callSN (Γ44 k30 g30 k67 g67 k28 g28) (N44 p67 Q67 e67) (bodyOf Tryz.f44) I44 O44 h x = rN44 k30 g30 k67 g67 k28 g28 p67 Q67 e67 h x:=by kernel_rfl
noncomputable def N26 (p44:KI I44) (Q44:QI I44 O44) (e44:Nonempty (Ch I44 O44 p44 Q44)) (pL26_4:V26_4 -> Bool) (QL26_4:V26_4 -> X26_4 -> Prop) (eL26_4:Nonempty (ChL pL26_4 QL26_4)) (pL26_8:V26_8 -> Bool) (QL26_8:V26_8 -> X26_8 -> Prop) (eL26_8:Nonempty (ChL pL26_8 QL26_8)):NEnv:=mkN [(44,sgFam true I44 O44 p44 Q44 e44)] [(4,loopXN [0,2,3,4,5] [.boxNil 3 3] 0 [0,2,3] [] sh26_4 shX26_4 pL26_4 QL26_4 eL26_4),(8,loopXN [0,2,3,4,5,6,7] [] 2 [0,2,3,4,5,6] [] sh26_8 shX26_8 pL26_8 QL26_8 eL26_8)]
noncomputable def qN26_4 (k28:KI I28) (g28:GI I28 O28) (k44:KI I44) (g44:GI I44 O44) (k30:KI I30) (g30:GI I30 O30) (k45:KI I45) (g45:GI I45 O45) (k46:KI I46) (g46:GI I46 O46) (kl4:V26_4 -> Bool) (xl4:V26_4 -> X26_4) (kl8:V26_8 -> Bool) (xl8:V26_8 -> X26_8) (p44:KI I44) (Q44:QI I44 O44) (e44:Nonempty (Ch I44 O44 p44 Q44)) (pL26_4:V26_4 -> Bool) (QL26_4:V26_4 -> X26_4 -> Prop) (eL26_4:Nonempty (ChL pL26_4 QL26_4)) (pL26_8:V26_8 -> Bool) (QL26_8:V26_8 -> X26_8 -> Prop) (eL26_8:Nonempty (ChL pL26_8 QL26_8)) (h:X26_4 -> Option Unit) (f:V26_4 -> Option Unit) (v:V26_4):Option Unit:=
 bif (decide (v.1.2.2.2.2.1 > 0)) then
 let v0:=(pL26_8 (((),(),(),v.1.2.2.2.1,v.1.2.2.2.2.1,(),0,()),v.2.1,(v.2.2.1.1,v.2.2.1.2.1,v.2.2.1.2.2.1,(),()),(v.2.2.2.1.1,v.2.2.2.1.2.1,v.2.2.2.1.2.2.1,(),()),v.2.2.2.2.1,List.replicate 0 (zero (Ty.cpx FloatKind.f32)),()))
 bif v0 then
 allK fun (cL26_8_6:ChL pL26_8 QL26_8) =>
 let v1:=(cL26_8_6.val (((),(),(),v.1.2.2.2.1,v.1.2.2.2.2.1,(),0,()),v.2.1,(v.2.2.1.1,v.2.2.1.2.1,v.2.2.1.2.2.1,(),()),(v.2.2.2.1.1,v.2.2.2.1.2.1,v.2.2.2.1.2.2.1,(),()),v.2.2.2.2.1,List.replicate 0 (zero (Ty.cpx FloatKind.f32)),()))
 let v2:=(List.set (List.replicate 1 (zero (Ty.slice (Ty.cpx FloatKind.f32)))) 0 v1.2.2.2.2.2.1)
 bif (capOk (List.length v1.2.2.2.2.1 + List.length v2)) then
 let v3:=(IntKind.wrap IntKind.i64 (v1.1.2.2.2.2.1 - 1))
 let v4:=(v1.2.2.2.2.1 ++ v2)
 f (((),((),((),((v1.1.2.2.2.1.1,v1.1.2.2.2.1.2),(v3,()))))),((v1.2.1.1,(v1.2.1.2.1,(v1.2.1.2.2.1,()))),((v1.2.2.1.1,(v1.2.2.1.2.1,(v1.2.2.1.2.2.1,((),())))),((v1.2.2.2.1.1,(v1.2.2.2.1.2.1,(v1.2.2.2.1.2.2.1,((),())))),(v4,())))))
 else
 none
 else
 none
 else
 h (((),((),((),()))),(((v.2.1.1),((v.2.1.2.1),((v.2.1.2.2.1),()))),(((v.2.2.1.1),((v.2.2.1.2.1),((v.2.2.1.2.2.1),((),())))),(((v.2.2.2.1.1),((v.2.2.2.1.2.1),((v.2.2.2.1.2.2.1),((),())))),((v.2.2.2.2.1),())))))
theorem evlN26_4 (k28:KI I28) (g28:GI I28 O28) (k44:KI I44) (g44:GI I44 O44) (k30:KI I30) (g30:GI I30 O30) (k45:KI I45) (g45:GI I45 O45) (k46:KI I46) (g46:GI I46 O46) (kl4:V26_4 -> Bool) (xl4:V26_4 -> X26_4) (kl8:V26_8 -> Bool) (xl8:V26_8 -> X26_8) (p44:KI I44) (Q44:QI I44 O44) (e44:Nonempty (Ch I44 O44 p44 Q44)) (pL26_4:V26_4 -> Bool) (QL26_4:V26_4 -> X26_4 -> Prop) (eL26_4:Nonempty (ChL pL26_4 QL26_4)) (pL26_8:V26_8 -> Bool) (QL26_8:V26_8 -> X26_8 -> Prop) (eL26_8:Nonempty (ChL pL26_8 QL26_8)) (h:X26_4 -> Option Unit) (f:V26_4 -> Option Unit) (v:V26_4):EBn (Γ26 k28 g28 k44 g44 k30 g30 k45 g45 k46 g46 kl4 xl4 kl8 xl8) (N26 p44 Q44 e44 pL26_4 QL26_4 eL26_4 pL26_8 QL26_8 eL26_8) lc26_4 (roundK [0,2,3,4,5] [.boxNil 3 3] 0 [0,2,3] [] (atS sh26_4 f) (endH shX26_4 h)) (mkS sh26_4 v) = qN26_4 k28 g28 k44 g44 k30 g30 k45 g45 k46 g46 kl4 xl4 kl8 xl8 p44 Q44 e44 pL26_4 QL26_4 eL26_4 pL26_8 QL26_8 eL26_8 h f v:=by kernel_rfl
noncomputable def qN26_8 (k28:KI I28) (g28:GI I28 O28) (k44:KI I44) (g44:GI I44 O44) (k30:KI I30) (g30:GI I30 O30) (k45:KI I45) (g45:GI I45 O45) (k46:KI I46) (g46:GI I46 O46) (kl4:V26_4 -> Bool) (xl4:V26_4 -> X26_4) (kl8:V26_8 -> Bool) (xl8:V26_8 -> X26_8) (p44:KI I44) (Q44:QI I44 O44) (e44:Nonempty (Ch I44 O44 p44 Q44)) (pL26_4:V26_4 -> Bool) (QL26_4:V26_4 -> X26_4 -> Prop) (eL26_4:Nonempty (ChL pL26_4 QL26_4)) (pL26_8:V26_8 -> Bool) (QL26_8:V26_8 -> X26_8 -> Prop) (eL26_8:Nonempty (ChL pL26_8 QL26_8)) (h:X26_8 -> Option Unit) (f:V26_8 -> Option Unit) (v:V26_8):Option Unit:=
 let v0:=(IntKind.wrap IntKind.i64 (v.2.2.2.1.1 * v.2.2.2.1.2.1))
 bif (decide (v.1.2.2.2.2.2.2.1 < v0)) then
 let v1:=(k30 (((),3,()),v.2.1,()))
 bif v1 then
 let v2:=(g30 (((),3,()),v.2.1,()))
 bif v2.1.1 then
 allK fun (c44_8:Ch I44 O44 p44 Q44) =>
 let v3:=(p44 (((),()),v2.2))
 bif v3 then
 let v4:=(c44_8.val (((),()),v2.2))
 let v5:=(List.set (List.replicate 1 (zero (Ty.cpx FloatKind.f32))) 0 v4.1.1)
 bif (capOk (List.length v.2.2.2.2.2.1 + List.length v5)) then
 let v6:=(IntKind.wrap IntKind.i64 (v.1.2.2.2.2.2.2.1 + 1))
 let v7:=(v.2.2.2.2.2.1 ++ v5)
 f (((),((),((),((v4.1.1.1,v4.1.1.2),((v.1.2.2.2.2.1),((),(v6,()))))))),((v4.2.1.1,(v4.2.1.2.1,(v4.2.1.2.2.1,()))),(((v.2.2.1.1),((v.2.2.1.2.1),((v.2.2.1.2.2.1),((),())))),(((v.2.2.2.1.1),((v.2.2.2.1.2.1),((v.2.2.2.1.2.2.1),((),())))),((v.2.2.2.2.1),(v7,()))))))
 else
 none
 else
 none
 else
 let v3:=(List.set (List.replicate 1 (zero (Ty.cpx FloatKind.f32))) 0 v.1.2.2.2.1)
 bif (capOk (List.length v.2.2.2.2.2.1 + List.length v3)) then
 let v4:=(IntKind.wrap IntKind.i64 (v.1.2.2.2.2.2.2.1 + 1))
 let v5:=(v.2.2.2.2.2.1 ++ v3)
 f (((),((),((),(((v.1.2.2.2.1.1),(v.1.2.2.2.1.2)),((v.1.2.2.2.2.1),((),(v4,()))))))),((v2.2.1.1,(v2.2.1.2.1,(v2.2.1.2.2.1,()))),(((v.2.2.1.1),((v.2.2.1.2.1),((v.2.2.1.2.2.1),((),())))),(((v.2.2.2.1.1),((v.2.2.2.1.2.1),((v.2.2.2.1.2.2.1),((),())))),((v.2.2.2.2.1),(v5,()))))))
 else
 none
 else
 none
 else
 h (((),((),((),(((v.1.2.2.2.1.1),(v.1.2.2.2.1.2)),((v.1.2.2.2.2.1),((),())))))),(((v.2.1.1),((v.2.1.2.1),((v.2.1.2.2.1),()))),(((v.2.2.1.1),((v.2.2.1.2.1),((v.2.2.1.2.2.1),((),())))),(((v.2.2.2.1.1),((v.2.2.2.1.2.1),((v.2.2.2.1.2.2.1),((),())))),((v.2.2.2.2.1),((v.2.2.2.2.2.1),()))))))
theorem evlN26_8 (k28:KI I28) (g28:GI I28 O28) (k44:KI I44) (g44:GI I44 O44) (k30:KI I30) (g30:GI I30 O30) (k45:KI I45) (g45:GI I45 O45) (k46:KI I46) (g46:GI I46 O46) (kl4:V26_4 -> Bool) (xl4:V26_4 -> X26_4) (kl8:V26_8 -> Bool) (xl8:V26_8 -> X26_8) (p44:KI I44) (Q44:QI I44 O44) (e44:Nonempty (Ch I44 O44 p44 Q44)) (pL26_4:V26_4 -> Bool) (QL26_4:V26_4 -> X26_4 -> Prop) (eL26_4:Nonempty (ChL pL26_4 QL26_4)) (pL26_8:V26_8 -> Bool) (QL26_8:V26_8 -> X26_8 -> Prop) (eL26_8:Nonempty (ChL pL26_8 QL26_8)) (h:X26_8 -> Option Unit) (f:V26_8 -> Option Unit) (v:V26_8):EBn (Γ26 k28 g28 k44 g44 k30 g30 k45 g45 k46 g46 kl4 xl4 kl8 xl8) (N26 p44 Q44 e44 pL26_4 QL26_4 eL26_4 pL26_8 QL26_8 eL26_8) lc26_8 (roundK [0,2,3,4,5,6,7] [] 2 [0,2,3,4,5,6] [] (atS sh26_8 f) (endH shX26_8 h)) (mkS sh26_8 v) = qN26_8 k28 g28 k44 g44 k30 g30 k45 g45 k46 g46 kl4 xl4 kl8 xl8 p44 Q44 e44 pL26_4 QL26_4 eL26_4 pL26_8 QL26_8 eL26_8 h f v:=by kernel_rfl
noncomputable def rN26 (k28:KI I28) (g28:GI I28 O28) (k44:KI I44) (g44:GI I44 O44) (k30:KI I30) (g30:GI I30 O30) (k45:KI I45) (g45:GI I45 O45) (k46:KI I46) (g46:GI I46 O46) (kl4:V26_4 -> Bool) (xl4:V26_4 -> X26_4) (kl8:V26_8 -> Bool) (xl8:V26_8 -> X26_8) (p44:KI I44) (Q44:QI I44 O44) (e44:Nonempty (Ch I44 O44 p44 Q44)) (pL26_4:V26_4 -> Bool) (QL26_4:V26_4 -> X26_4 -> Prop) (eL26_4:Nonempty (ChL pL26_4 QL26_4)) (pL26_8:V26_8 -> Bool) (QL26_8:V26_8 -> X26_8 -> Prop) (eL26_8:Nonempty (ChL pL26_8 QL26_8)) (h:O26.den -> Option Unit) (x:I26.den):Option Unit:=
 let v0:=(k28 (((),2,()),x.2))
 bif v0 then
 let v1:=(g28 (((),2,()),x.2))
 let v2:=(k28 (((),3000,()),v1.2))
 bif v2 then
 allK fun (c44_6:Ch I44 O44 p44 Q44) =>
 let v3:=(g28 (((),3000,()),v1.2))
 let v4:=(p44 (((),()),v3.2))
 bif v4 then
 let v5:=(c44_6.val (((),()),v3.2))
 let v6:=(k28 (((),3,()),v5.2))
 bif v6 then
 let v7:=(g28 (((),3,()),v5.2))
 let v8:=(k28 (((),2,()),v7.2))
 bif v8 then
 let v9:=(g28 (((),2,()),v7.2))
 let v10:=(IntKind.wrap IntKind.i64 (v7.1.1 * v9.1.1))
 let v11:=(IntKind.wrap IntKind.i64 (1 + v10))
 let v12:=(IntKind.wrap IntKind.i64 (2 + v1.1.1))
 let v13:=(IntKind.wrap IntKind.i64 (100 + v3.1.1))
 let v14:=(pL26_4 (((),(),(),v5.1.1,v11,()),v9.2.1,(0,0,0,(),()),(v12,2,v13,(),()),[],()))
 bif v14 then
 allK fun (cL26_4_16:ChL pL26_4 QL26_4) =>
 let v15:=(cL26_4_16.val (((),(),(),v5.1.1,v11,()),v9.2.1,(0,0,0,(),()),(v12,2,v13,(),()),[],()))
 let v16:=(k28 (((),30,()),v15.2.1,()))
 bif v16 then
 let v17:=(g28 (((),30,()),v15.2.1,()))
 bif (v17.1.1 == 0) then
 let v18:=(k45 (((),()),v17.2))
 bif v18 then
 let v19:=(g45 (((),()),v17.2))
 h (((v19.1.1,(v15.2.2.2.1.2.1,(v15.2.2.2.1.2.2.1,(v15.2.2.2.2.1,())))),()),((v19.2.1.1,(v19.2.1.2.1,(v19.2.1.2.2.1,()))),()))
 else
 none
 else
 bif (v17.1.1 == 1) then
 let v18:=(IntKind.wrap IntKind.i64 (v15.2.2.2.1.2.1 + 1))
 h (((v15.2.2.2.1.1,(v18,(v15.2.2.2.1.2.2.1,(v15.2.2.2.2.1,())))),()),((v17.2.1.1,(v17.2.1.2.1,(v17.2.1.2.2.1,()))),()))
 else
 bif (v17.1.1 == 2) then
 let v18:=(List.set (List.replicate 5 (zero (Ty.int IntKind.i64))) 0 9)
 let v19:=(List.set v18 1 10)
 let v20:=(List.set v19 2 100000)
 let v21:=(List.set v20 3 100001)
 let v22:=(List.set v21 4 (-1))
 let v23:=(k46 (((),(),()),v17.2.1,v22,()))
 bif v23 then
 let v24:=(g46 (((),(),()),v17.2.1,v22,()))
 h (((v15.2.2.2.1.1,(v15.2.2.2.1.2.1,(v24.1.1,(v15.2.2.2.2.1,())))),()),((v24.2.1.1,(v24.2.1.2.1,(v24.2.1.2.2.1,()))),()))
 else
 none
 else
 bif (v17.1.1 == 3) then
 h (((v15.2.2.2.1.1,(v15.2.2.2.1.2.1,(v15.2.2.2.1.2.2.1,((List.replicate 0 (zero (Ty.slice (Ty.cpx FloatKind.f32)))),())))),()),((v17.2.1.1,(v17.2.1.2.1,(v17.2.1.2.2.1,()))),()))
 else
 bif (v17.1.1 == 4) then
 bif (decide (0 <= 0) && decide (0 < (↑(List.length v15.2.2.2.2.1):Int))) then
 let v18:=(List.getD v15.2.2.2.2.1 (Int.toNat 0) (zero (Ty.slice (Ty.cpx FloatKind.f32))))
 bif (decide (0 <= 1) && decide (1 <= (↑(List.length v18):Int)) && decide ((↑(List.length v18):Int) <= (↑(List.length v18):Int))) then
 bif (decide (0 <= 0) && decide (0 < (↑(List.length v15.2.2.2.2.1):Int))) then
 let v19:=(List.set v15.2.2.2.2.1 (Int.toNat 0) (List.drop (Int.toNat 1) (List.take (Int.toNat (↑(List.length v18):Int)) v18)))
 h (((v15.2.2.2.1.1,(v15.2.2.2.1.2.1,(v15.2.2.2.1.2.2.1,(v19,())))),()),((v17.2.1.1,(v17.2.1.2.1,(v17.2.1.2.2.1,()))),()))
 else
 none
 else
 none
 else
 none
 else
 h (((v15.2.2.2.1.1,(v15.2.2.2.1.2.1,(v15.2.2.2.1.2.2.1,(v15.2.2.2.2.1,())))),()),((v17.2.1.1,(v17.2.1.2.1,(v17.2.1.2.2.1,()))),()))
 else
 none
 else
 none
 else
 none
 else
 none
 else
 none
 else
 none
 else
 none
theorem evN26 (k28:KI I28) (g28:GI I28 O28) (k44:KI I44) (g44:GI I44 O44) (k30:KI I30) (g30:GI I30 O30) (k45:KI I45) (g45:GI I45 O45) (k46:KI I46) (g46:GI I46 O46) (kl4:V26_4 -> Bool) (xl4:V26_4 -> X26_4) (kl8:V26_8 -> Bool) (xl8:V26_8 -> X26_8) (p44:KI I44) (Q44:QI I44 O44) (e44:Nonempty (Ch I44 O44 p44 Q44)) (pL26_4:V26_4 -> Bool) (QL26_4:V26_4 -> X26_4 -> Prop) (eL26_4:Nonempty (ChL pL26_4 QL26_4)) (pL26_8:V26_8 -> Bool) (QL26_8:V26_8 -> X26_8 -> Prop) (eL26_8:Nonempty (ChL pL26_8 QL26_8)) (h:O26.den -> Option Unit) (x:I26.den):callSN (Γ26 k28 g28 k44 g44 k30 g30 k45 g45 k46 g46 kl4 xl4 kl8 xl8) (N26 p44 Q44 e44 pL26_4 QL26_4 eL26_4 pL26_8 QL26_8 eL26_8) (bodyOf Tryz.f26) I26 O26 h x = rN26 k28 g28 k44 g44 k30 g30 k45 g45 k46 g46 kl4 xl4 kl8 xl8 p44 Q44 e44 pL26_4 QL26_4 eL26_4 pL26_8 QL26_8 eL26_8 h x:=by kernel_rfl
def Pst {α : Type} (o : Option α) (P : α -> Prop) : Prop := ∃ y, o = some y /\ P y
theorem pst_some {α : Type} {y : α} {P : α -> Prop} (h : P y) : Pst (some y) P := ⟨y, rfl, h⟩
theorem pst_t {α : Type} {c : Bool} {a b : Option α} {P : α -> Prop} (hc : c = true) (h : Pst a P) : Pst (bif c then a else b) P := by rw [hc]; exact h
theorem pst_b {α : Type} {c : Bool} {a b : Option α} {P : α -> Prop} (h1 : c = true -> Pst a P) (h2 : c = false -> Pst b P) : Pst (bif c then a else b) P := by
 cases c
 ·exact h2 rfl
 ·exact h1 rfl
theorem pst_k {α : Type} {o : Option α} {P : α -> Prop} (h : Pst o P) : o.isSome = true := by obtain ⟨y, e, _⟩ := h; rw [e]; rfl
theorem pst_g {α : Type} {o : Option α} {P : α -> Prop} (z : α) (h : Pst o P) : P (o.getD z) := by obtain ⟨y, e, h⟩ := h; rw [e]; exact h
theorem all_t {c : Bool} {a b : Option Unit} (hc : c = true) (h : a = some ()) : (bif c then a else b) = some () := by rw [hc]; exact h
theorem all_b {c : Bool} {a b : Option Unit} (h1 : c = true -> a = some ()) (h2 : c = false -> b = some ()) : (bif c then a else b) = some () := by
 cases c
 ·exact h2 rfl
 ·exact h1 rfl
theorem odd_ok (x : I102.den) (h : CurOk x.2.1) : Pst (F102 x) fun y => CurOk y.2.1 := by
 unfold F102 r102
 dsimp only
 (repeat' (with_reducible first | refine pst_some ?_ | refine pst_t (K28_ok _ (by (repeat ((try dsimp only); first | assumption | (with_reducible first | apply G28_cur | apply G30_cur))))) ?_ | refine pst_t (K30_ok _ (by (repeat ((try dsimp only); first | assumption | (with_reducible first | apply G28_cur | apply G30_cur))))) ?_ | refine pst_b (fun _ => ?_) (fun _ => ?_))) <;> (repeat ((try dsimp only); first | assumption | (with_reducible first | apply G28_cur | apply G30_cur)))
theorem K102_ok (x : I102.den) (h : CurOk x.2.1) : K102 x = true := pst_k (odd_ok x h)
theorem G102_cur (x : I102.den) (h : CurOk x.2.1) : CurOk (G102 x).2.1 := pst_g _ (odd_ok x h)
theorem real_ok (x : I68.den) (h : CurOk x.2.1) : Pst (F68 x) fun y => CurOk y.2.1 := by
 unfold F68 r68
 dsimp only
 refine pst_t (K30_ok _ (by (repeat ((try dsimp only); first | assumption | (with_reducible first | apply G102_cur | apply G28_cur | apply G30_cur))))) ?_
 refine pst_b (fun _ => ?_) (fun _ => ?_)
 ·refine pst_t (K102_ok _ (by (repeat ((try dsimp only); first | assumption | (with_reducible first | apply G102_cur | apply G28_cur | apply G30_cur))))) ?_
  exact pst_some (by (repeat ((try dsimp only); first | assumption | (with_reducible first | apply G102_cur | apply G28_cur | apply G30_cur))))
 ·(repeat' (with_reducible first | refine pst_some ?_ | refine pst_t (K28_ok _ (by (repeat ((try dsimp only); first | assumption | (with_reducible first | apply G102_cur | apply G28_cur | apply G30_cur))))) ?_ | refine pst_t (K30_ok _ (by (repeat ((try dsimp only); first | assumption | (with_reducible first | apply G102_cur | apply G28_cur | apply G30_cur))))) ?_ | refine pst_b (fun _ => ?_) (fun _ => ?_))) <;> (repeat ((try dsimp only); first | assumption | (with_reducible first | apply G102_cur | apply G28_cur | apply G30_cur)))
theorem K68_ok (x : I68.den) (h : CurOk x.2.1) : K68 x = true := pst_k (real_ok x h)
theorem G68_cur (x : I68.den) (h : CurOk x.2.1) : CurOk (G68 x).2.1 := pst_g _ (real_ok x h)
theorem number_ok (x : I45.den) (h : CurOk x.2.1) : Pst (F45 x) fun y => CurOk y.2.1 := by
 unfold F45 r45
 dsimp only
 refine pst_t (K28_ok _ (by (repeat ((try dsimp only); first | assumption | (with_reducible first | apply G68_cur | apply G102_cur | apply G28_cur | apply G30_cur))))) ?_
 refine pst_b (fun _ => ?_) (fun _ => ?_)
 ·refine pst_t (K46_ok _ (by (repeat ((try dsimp only); first | assumption | (with_reducible first | apply G68_cur | apply G102_cur | apply G28_cur | apply G30_cur)))) (by simp)) ?_
  exact pst_some (G46_cur _ (by (repeat ((try dsimp only); first | assumption | (with_reducible first | apply G68_cur | apply G102_cur | apply G28_cur | apply G30_cur)))) (by simp))
 ·(repeat' (with_reducible first | refine pst_some ?_ | refine pst_t (K28_ok _ (by (repeat ((try dsimp only); first | assumption | (with_reducible first | apply G68_cur | apply G102_cur | apply G28_cur | apply G30_cur))))) ?_ | refine pst_t (K30_ok _ (by (repeat ((try dsimp only); first | assumption | (with_reducible first | apply G68_cur | apply G102_cur | apply G28_cur | apply G30_cur))))) ?_ | refine pst_b (fun _ => ?_) (fun _ => ?_))) <;> (repeat ((try dsimp only); first | assumption | (with_reducible first | apply G68_cur | apply G102_cur | apply G28_cur | apply G30_cur)))
theorem K45_ok (x : I45.den) (h : CurOk x.2.1) : K45 x = true := pst_k (number_ok x h)
theorem G45_cur (x : I45.den) (h : CurOk x.2.1) : CurOk (G45 x).2.1 := pst_g _ (number_ok x h)
def curB (c : List Int × Int × Int × Unit) : Bool := decide (0 <= c.2.1) && decide (c.1.length <= 1048576)
theorem curB_iff {c : List Int × Int × Int × Unit} : curB c = true ↔ CurOk c := by unfold curB CurOk; simp
def curZ : List Int × Int × Int × Unit := ([], 0, 0, ())
theorem curZ_ok : CurOk curZ := ⟨Int.le_refl 0, Nat.zero_le _⟩
def p48 (x : I48.den) : Bool := curB x.2.1
def Q48 (x : I48.den) (y : O48.den) : Prop := CurOk y.2.1
theorem e48 : Nonempty (Ch I48 O48 p48 Q48) := ⟨⟨fun _ => ((0, ()), (curZ, ())), fun _ _ => curZ_ok⟩⟩
theorem fam48 : FamOK Tryz.prog 48 (sgFam true I48 O48 p48 Q48 e48) := sgN_ok env48 (N := N48) (mkN_ok trivial) is48 noNLoops fun x hx k hk => by
 have h : CurOk x.2.1 := curB_iff.1 hx
 refine Eq.trans (evN48 _ _ k x) ?_
 unfold rN48
 dsimp only
 refine all_t (K68_ok _ (by (repeat ((try dsimp only); first | assumption | (with_reducible first | apply G45_cur | apply G68_cur | apply G102_cur | apply G28_cur | apply G30_cur))))) ?_
 refine all_b (fun hb => ?_) (fun _ => ?_)
 ·refine all_t hb ?_
  exact hk _ (by show CurOk _; (repeat ((try dsimp only); first | assumption | (with_reducible first | apply G45_cur | apply G68_cur | apply G102_cur | apply G28_cur | apply G30_cur))))
 ·exact allK_intro fun z => hk _ (by show CurOk _; (repeat ((try dsimp only); first | assumption | (with_reducible first | apply G45_cur | apply G68_cur | apply G102_cur | apply G28_cur | apply G30_cur))))
theorem below_bd (n : Int) (c : List Int × Int × Int × Unit) (h : CurOk c) (hn : 0 < n) : 0 <= ((G28 (((), n, ()), c, ())).1.1 : Int) /\ ((G28 (((), n, ()), c, ())).1.1 : Int) < n := by
 obtain ⟨_, h1, h2⟩ := G28_ok (((), n, ()), c, ()) h
 exact ⟨h1, h2 hn⟩
def p67 (x : I67.den) : Bool := curB x.2.1
def Q67 (x : I67.den) (y : O67.den) : Prop := CurOk y.2.1
theorem e67 : Nonempty (Ch I67 O67 p67 Q67) := ⟨⟨fun _ => (((0, 0), ()), (curZ, ())), fun _ _ => curZ_ok⟩⟩
theorem fam67 : FamOK Tryz.prog 67 (sgFam true I67 O67 p67 Q67 e67) := sgN_ok env67 (N := N67 p48 Q48 e48) (mkN_ok ⟨fam48, trivial⟩) is67 noNLoops fun x hx k hk => by
 have hk : ∀ y : O67.den, CurOk y.2.1 -> k y = some () := hk
 have h : CurOk x.2.1 := curB_iff.1 hx
 refine Eq.trans (evN67 _ _ _ _ _ _ _ _ _ _ _ k x) ?_
 unfold rN67
 dsimp only
 haveI := e48
 refine all_t (K30_ok _ (by (repeat ((try dsimp only); first | assumption | (with_reducible first | apply G45_cur | apply G68_cur | apply G102_cur | apply G28_cur | apply G30_cur))))) ?_
 refine all_b (fun _ => ?_) (fun _ => ?_)
 ·refine all_t (K102_ok _ (by (repeat ((try dsimp only); first | assumption | (with_reducible first | apply G45_cur | apply G68_cur | apply G102_cur | apply G28_cur | apply G30_cur))))) ?_
  refine all_b (fun h1 => ?_) (fun _ => ?_)
  ·refine all_t h1 ?_
   refine all_t (K102_ok _ (by (repeat ((try dsimp only); first | assumption | (with_reducible first | apply G45_cur | apply G68_cur | apply G102_cur | apply G28_cur | apply G30_cur))))) ?_
   refine all_b (fun h2 => ?_) (fun _ => ?_)
   ·refine all_t h2 ?_
    exact hk _ (by (repeat ((try dsimp only); first | assumption | (with_reducible first | apply G45_cur | apply G68_cur | apply G102_cur | apply G28_cur | apply G30_cur))))
   ·exact allK_intro fun z => hk _ (by (repeat ((try dsimp only); first | assumption | (with_reducible first | apply G45_cur | apply G68_cur | apply G102_cur | apply G28_cur | apply G30_cur))))
  ·refine allK_intro fun z => ?_
   refine all_t (K102_ok _ (by (repeat ((try dsimp only); first | assumption | (with_reducible first | apply G45_cur | apply G68_cur | apply G102_cur | apply G28_cur | apply G30_cur))))) ?_
   refine all_b (fun h2 => ?_) (fun _ => ?_)
   ·refine all_t h2 ?_
    exact hk _ (by (repeat ((try dsimp only); first | assumption | (with_reducible first | apply G45_cur | apply G68_cur | apply G102_cur | apply G28_cur | apply G30_cur))))
   ·exact allK_intro fun z => hk _ (by (repeat ((try dsimp only); first | assumption | (with_reducible first | apply G45_cur | apply G68_cur | apply G102_cur | apply G28_cur | apply G30_cur))))
 ·refine all_t (K30_ok _ (by (repeat ((try dsimp only); first | assumption | (with_reducible first | apply G45_cur | apply G68_cur | apply G102_cur | apply G28_cur | apply G30_cur))))) ?_
  have c3 : CurOk (G30 (((), 20, ()), (G30 (((), 30, ()), x.snd)).snd)).snd.fst := by (repeat ((try dsimp only); first | assumption | (with_reducible first | apply G45_cur | apply G68_cur | apply G102_cur | apply G28_cur | apply G30_cur)))
  generalize G30 (((), 20, ()), (G30 (((), 30, ()), x.snd)).snd) = A at *
  refine all_b (fun _ => ?_) (fun _ => ?_)
  ·refine all_t (K46_ok _ c3 (by simp)) ?_
   have c9 := G46_cur (((), (), ()), A.snd.fst, ((((List.replicate 4 (zero (Ty.int IntKind.i64))).set 0 100).set 1 (-100)).set 2 101).set 3 0, ()) c3 (by simp)
   refine allK_intro fun g => ?_
   have hp : p48 (((), 100, ()), (G46 (((), (), ()), A.snd.fst, ((((List.replicate 4 (zero (Ty.int IntKind.i64))).set 0 100).set 1 (-100)).set 2 101).set 3 0, ())).snd.fst, ()) = true := curB_iff.2 c9
   refine all_t hp ?_
   exact hk _ (g.2 _ hp)
  ·refine allK_intro fun g => ?_
   have hp : p48 (((), 15, ()), A.snd) = true := curB_iff.2 c3
   refine all_t hp ?_
   refine allK_intro fun g2 => ?_
   have hp2 : p48 (((), 15, ()), (g.val (((), 15, ()), A.snd)).snd) = true := curB_iff.2 (g.2 _ hp)
   refine all_t hp2 ?_
   exact hk _ (g2.2 _ hp2)
def p44 (x : I44.den) : Bool := curB x.2.1
def Q44 (x : I44.den) (y : O44.den) : Prop := CurOk y.2.1
theorem e44 : Nonempty (Ch I44 O44 p44 Q44) := ⟨⟨fun _ => (((0, 0), ()), (curZ, ())), fun _ _ => curZ_ok⟩⟩
theorem fam44 : FamOK Tryz.prog 44 (sgFam true I44 O44 p44 Q44 e44) := sgN_ok env44 (N := N44 p67 Q67 e67) (mkN_ok ⟨fam67, trivial⟩) is44 noNLoops fun x hx k hk => by
 have hk : ∀ y : O44.den, CurOk y.2.1 -> k y = some () := hk
 have h : CurOk x.2.1 := curB_iff.1 hx
 refine Eq.trans (evN44 _ _ _ _ _ _ _ _ _ k x) ?_
 unfold rN44
 dsimp only
 haveI := e67
 refine all_t (K30_ok _ (by (repeat ((try dsimp only); first | assumption | (with_reducible first | apply G45_cur | apply G68_cur | apply G102_cur | apply G28_cur | apply G30_cur))))) ?_
 have c1 : CurOk (G30 (((), 12, ()), x.snd)).snd.fst := by (repeat ((try dsimp only); first | assumption | (with_reducible first | apply G45_cur | apply G68_cur | apply G102_cur | apply G28_cur | apply G30_cur)))
 generalize G30 (((), 12, ()), x.snd) = A at *
 refine all_b (fun _ => ?_) (fun _ => ?_)
 ·refine allK_intro fun g => ?_
  have hp : p67 (((), ()), A.snd) = true := curB_iff.2 c1
  refine all_t hp ?_
  exact hk _ (g.2 _ hp)
 ·refine all_t (K28_ok _ (by (repeat ((try dsimp only); first | assumption | (with_reducible first | apply G45_cur | apply G68_cur | apply G102_cur | apply G28_cur | apply G30_cur))))) ?_
  refine all_t (K28_ok _ (by (repeat ((try dsimp only); first | assumption | (with_reducible first | apply G45_cur | apply G68_cur | apply G102_cur | apply G28_cur | apply G30_cur))))) ?_
  exact hk _ (by (repeat ((try dsimp only); first | assumption | (with_reducible first | apply G45_cur | apply G68_cur | apply G102_cur | apply G28_cur | apply G30_cur))))
def tabJ : List (Nat × TI) := [
 (1, ⟨1, 8, false, .nil, [.pois], [], 0, .other⟩),
 (2, ⟨1, 8, false, .int .i64, [.int .i64 0], [], 0, .int .i64⟩),
 (3, ⟨1, 8, false, .int .i64, [.int .i64 0], [], 0, .int .i64⟩),
 (4, ⟨1, 1, false, .bool, [.bool false], [], 0, .bool⟩),
 (5, ⟨1, 1, false, .int .u8, [.int .u8 0], [], 0, .int .u8⟩),
 (10, ⟨1, 16, false, .str, [.str ByteArray.empty], [], 0, .string⟩),
 (22, ⟨1, 24, false, .slice (.int .u8), [.nil (.int .u8)], [], 5, .slice⟩),
 (24, ⟨1, 24, false, .slice (.slice (.cpx .f32)), [.nil (.slice (.cpx .f32))], [], 58, .slice⟩),
 (26, ⟨4, 48, true, S25, [.int .i64 0, .int .i64 0, .int .i64 0, .nil (.slice (.cpx .f32))], [(0, 1, false), (1, 1, false), (2, 1, false), (3, 1, false)], 0, .struct⟩),
 (27, ⟨1, 24, false, .slice .jnk, [.nil (.flt .f32)], [], 61, .slice⟩),
 (28, ⟨1, 24, false, .slice (.int .i64), [.nil (.int .i64)], [], 3, .slice⟩),
 (29, ⟨1, 24, false, .slice (.slice .jnk), [.nil (.slice .jnk)], [], 27, .slice⟩),
 (31, ⟨3, 72, true, S30, [.nil (.flt .f32), .nil (.int .i64), .nil (.slice .jnk)], [(0, 1, false), (1, 1, false), (2, 1, false)], 0, .struct⟩),
 (57, ⟨1, 24, false, .slice (.bool), [.nil (.bool)], [], 4, .slice⟩),
 (58, ⟨1, 24, false, .slice (.cpx .f32), [.nil (.cpx .f32)], [], 60, .slice⟩),
 (60, ⟨1, 8, false, .cpx .f32, [.cpx .f32 0 0], [], 0, .complex .f32⟩),
 (61, ⟨1, 4, false, .flt .f32, [.flt .f32 0], [], 0, .float .f32⟩),
 (64, ⟨1, 8, false, .nil, [.pois], [], 0, .other⟩),
 (69, ⟨1, 16, false, .cpx .f64, [.cpx .f64 0 0], [], 0, .complex .f64⟩),
 (73, ⟨3, 40, true, S72, [.nil (.int .u8), .int .i64 0, .int .i64 0], [(0, 1, false), (1, 1, false), (2, 1, false)], 0, .struct⟩),
 (86, ⟨1, 8, false, .flt .f64, [.flt .f64 0], [], 0, .float .f64⟩),
 (106, ⟨1, 8, false, .nil, [.pois], [], 0, .other⟩),
 (110, ⟨1, 8, false, .nil, [.pois], [], 0, .other⟩)]
theorem tabJ_ok : tabB Tryz.prog tabJ = true := by kernel_rfl
abbrev I1047:Sg:=⟨[.ptr 0],[.box (S72)]⟩
abbrev O1047:Sg:=⟨[.mix [.ref (.flt .f32) 1,.ref (.int .i64) 2,.ref (.slice (.jnk)) 3]],[.box (S72),.arr (.flt .f32),.arr (.int .i64),.arr (.slice (.jnk))]⟩
abbrev V1047_6:Type:=((Unit × (Unit × (Unit × (Int × Unit)))) × (((List (Den (.int .u8))) × (Int × (Int × Unit))) × ((Unit × (Unit × (Unit × Unit))) × ((Unit × (Unit × (Unit × Unit))) × ((List (Den (.int .i64))) × Unit)))))
def sh1047_6:ShS:=⟨[(0,.one (.ptr 0 0)),(2,.one (.ptr 1 0)),(3,.one (.ptr 2 0)),(5,.one (.int .i64))],[(0,.box [.sl (.int .u8),.int .i64,.int .i64]),(1,.box [.nil (.flt .f32),.nil (.int .i64),.nil (.slice (.jnk))]),(2,.box [.nil (.flt .f32),.ref (.int .i64) 3,.nil (.slice (.jnk))]),(3,.arr (.int .i64))],4,1⟩
abbrev X1047_6:Type:=((Unit × (Unit × (Unit × Unit))) × (((List (Den (.int .u8))) × (Int × (Int × Unit))) × ((Unit × (Unit × (Unit × Unit))) × ((Unit × (Unit × (Unit × Unit))) × ((List (Den (.int .i64))) × Unit)))))
def shX1047_6:ShS:=⟨[(0,.one (.ptr 0 0)),(2,.one (.ptr 1 0)),(3,.one (.ptr 2 0))],[(0,.box [.sl (.int .u8),.int .i64,.int .i64]),(1,.box [.nil (.flt .f32),.nil (.int .i64),.nil (.slice (.jnk))]),(2,.box [.nil (.flt .f32),.ref (.int .i64) 3,.nil (.slice (.jnk))]),(3,.arr (.int .i64))],4,1⟩
abbrev V1047_12:Type:=((Unit × (Unit × (Unit × (Nat × (Int × Unit))))) × (((List (Den (.int .u8))) × (Int × (Int × Unit))) × ((Unit × (Unit × (Unit × Unit))) × ((Unit × (Unit × (Unit × Unit))) × ((List (Den (.flt .f32))) × ((List (Den (.int .i64))) × ((List (Den (.slice (.jnk)))) × Unit)))))))
def sh1047_12:ShS:=⟨[(0,.one (.ptr 0 0)),(2,.one (.ptr 1 0)),(3,.one (.ptr 2 0)),(6,.one (.flt .f32)),(7,.one (.int .i64))],[(0,.box [.sl (.int .u8),.int .i64,.int .i64]),(1,.box [.nil (.flt .f32),.nil (.int .i64),.nil (.slice (.jnk))]),(2,.box [.ref (.flt .f32) 3,.ref (.int .i64) 4,.ref (.slice (.jnk)) 5]),(3,.arr (.flt .f32)),(4,.arr (.int .i64)),(5,.arr (.slice (.jnk)))],6,1⟩
abbrev X1047_12:Type:=((Unit × (Unit × Unit)) × (((List (Den (.int .u8))) × (Int × (Int × Unit))) × ((Unit × (Unit × (Unit × Unit))) × ((Unit × (Unit × (Unit × Unit))) × ((List (Den (.flt .f32))) × ((List (Den (.int .i64))) × ((List (Den (.slice (.jnk)))) × Unit)))))))
def shX1047_12:ShS:=⟨[(2,.one (.ptr 1 0)),(3,.one (.ptr 2 0))],[(0,.box [.sl (.int .u8),.int .i64,.int .i64]),(1,.box [.nil (.flt .f32),.nil (.int .i64),.nil (.slice (.jnk))]),(2,.box [.ref (.flt .f32) 3,.ref (.int .i64) 4,.ref (.slice (.jnk)) 5]),(3,.arr (.flt .f32)),(4,.arr (.int .i64)),(5,.arr (.slice (.jnk)))],6,1⟩
abbrev V1047_17:Type:=((Unit × (Unit × (Unit × (Nat × (Int × (Unit × (Int × Unit))))))) × (((List (Den (.int .u8))) × (Int × (Int × Unit))) × ((Unit × (Unit × (Unit × Unit))) × ((Unit × (Unit × (Unit × Unit))) × ((List (Den (.flt .f32))) × ((List (Den (.int .i64))) × ((List (Den (.slice (.jnk)))) × ((List (Den (.flt .f32))) × Unit))))))))
def sh1047_17:ShS:=⟨[(0,.one (.ptr 0 0)),(2,.one (.ptr 1 0)),(3,.one (.ptr 2 0)),(6,.one (.flt .f32)),(7,.one (.int .i64)),(8,.one (.ref (.flt .f32) 6)),(9,.one (.int .i64))],[(0,.box [.sl (.int .u8),.int .i64,.int .i64]),(1,.box [.nil (.flt .f32),.nil (.int .i64),.nil (.slice (.jnk))]),(2,.box [.ref (.flt .f32) 3,.ref (.int .i64) 4,.ref (.slice (.jnk)) 5]),(3,.arr (.flt .f32)),(4,.arr (.int .i64)),(5,.arr (.slice (.jnk))),(6,.arr (.flt .f32))],7,1⟩
abbrev X1047_17:Type:=((Unit × (Unit × (Unit × (Nat × (Int × ((List (Den (.jnk))) × Unit)))))) × (((List (Den (.int .u8))) × (Int × (Int × Unit))) × ((Unit × (Unit × (Unit × Unit))) × ((Unit × (Unit × (Unit × Unit))) × ((List (Den (.flt .f32))) × ((List (Den (.int .i64))) × ((List (Den (.slice (.jnk)))) × Unit)))))))
def shX1047_17:ShS:=⟨[(0,.one (.ptr 0 0)),(2,.one (.ptr 1 0)),(3,.one (.ptr 2 0)),(6,.one (.flt .f32)),(7,.one (.int .i64)),(8,.one (.sl (.jnk)))],[(0,.box [.sl (.int .u8),.int .i64,.int .i64]),(1,.box [.nil (.flt .f32),.nil (.int .i64),.nil (.slice (.jnk))]),(2,.box [.ref (.flt .f32) 3,.ref (.int .i64) 4,.ref (.slice (.jnk)) 5]),(3,.arr (.flt .f32)),(4,.arr (.int .i64)),(5,.arr (.slice (.jnk)))],6,1⟩
noncomputable def Γ1047 (k28:KI I28) (g28:GI I28 O28) (k30:KI I30) (g30:GI I30 O30) (kl6:V1047_6 -> Bool) (xl6:V1047_6 -> X1047_6) (kl12:V1047_12 -> Bool) (xl12:V1047_12 -> X1047_12) (kl17:V1047_17 -> Bool) (xl17:V1047_17 -> X1047_17):Env:=mkEnv tabJ eqs [(28,sgMean true I28 O28 k28 g28),(30,sgMean true I30 O30 k30 g30)] 110 [.cell 2 31] [] [] [(6,loopX [0,2,3,5] [] 0 [0,2,3] [] sh1047_6 shX1047_6 kl6 xl6),(12,loopX [0,2,3,6,7] [.boxNil 3 0,.boxNil 3 2] 2 [2,3] [] sh1047_12 shX1047_12 kl12 xl12),(17,loopX [0,2,3,6,7,8,9] [] 4 [0,2,3,6,7,8] [.jnk 8] sh1047_17 shX1047_17 kl17 xl17)] [] []
noncomputable def lc1047_6:Code:=(loopsOf (bodyOf Tryz.f47)).getD 0 .skip
noncomputable def lc1047_12:Code:=(loopsOf (bodyOf Tryz.f47)).getD 1 .skip
noncomputable def lc1047_17:Code:=(loopsOf (bodyOf Tryz.f47)).getD 2 .skip
def q1047_17 (k28:KI I28) (g28:GI I28 O28) (k30:KI I30) (g30:GI I30 O30) (f:V1047_17 -> Option (X1047_17)) (v:V1047_17):Option (X1047_17):=
 bif (decide (v.1.2.2.2.2.2.2.1 < (↑(List.length v.2.2.2.2.2.1):Int))) then
 let v0:=(k28 (((),57,()),v.2.1,()))
 bif v0 then
 bif (v.1.2.2.2.2.2.2.1 == 0) then
 let v1:=(g28 (((),57,()),v.2.1,()))
 let v2:=(k30 (((),8,()),v1.2))
 bif v2 then
 let v3:=(g30 (((),8,()),v1.2))
 bif (!v3.1.1) then
 bif (fgt FloatKind.f32 v.1.2.2.2.1 1084227584) then
 let v4:=(k28 (((),40,()),v3.2))
 bif v4 then
 let v5:=(g28 (((),40,()),v3.2))
 let v6:=(farith BinOp.quo FloatKind.f32 (FloatKind.nearest FloatKind.f32 v5.1.1) 1098907648)
 let v7:=(farith BinOp.add FloatKind.f32 0 v6)
 let v8:=(List.set (List.replicate 1 (zero (Ty.flt FloatKind.f32))) 0 v7)
 bif (capOk (List.length v.2.2.2.2.2.2.2.1 + List.length v8)) then
 let v9:=(IntKind.wrap IntKind.i64 (v.1.2.2.2.2.2.2.1 + 1))
 let v10:=(v.2.2.2.2.2.2.2.1 ++ v8)
 f (((),((),((),((v.1.2.2.2.1),((v.1.2.2.2.2.1),((),(v9,()))))))),((v5.2.1.1,(v5.2.1.2.1,(v5.2.1.2.2.1,()))),(((),((),((),()))),(((),((),((),()))),((v.2.2.2.2.1),((v.2.2.2.2.2.1),((v.2.2.2.2.2.2.1),(v10,()))))))))
 else
 none
 else
 none
 else
 let v4:=(List.set (List.replicate 1 (zero (Ty.flt FloatKind.f32))) 0 0)
 bif (capOk (List.length v.2.2.2.2.2.2.2.1 + List.length v4)) then
 let v5:=(IntKind.wrap IntKind.i64 (v.1.2.2.2.2.2.2.1 + 1))
 let v6:=(v.2.2.2.2.2.2.2.1 ++ v4)
 f (((),((),((),((v.1.2.2.2.1),((v.1.2.2.2.2.1),((),(v5,()))))))),((v3.2.1.1,(v3.2.1.2.1,(v3.2.1.2.2.1,()))),(((),((),((),()))),(((),((),((),()))),((v.2.2.2.2.1),((v.2.2.2.2.2.1),((v.2.2.2.2.2.2.1),(v6,()))))))))
 else
 none
 else
 bif (fgt FloatKind.f32 v.1.2.2.2.1 1084227584) then
 let v4:=(k28 (((),40,()),v3.2))
 bif v4 then
 let v5:=(IntKind.wrap IntKind.i64 (8 + v1.1.1))
 let v6:=(farith BinOp.quo FloatKind.f32 (FloatKind.nearest FloatKind.f32 v5) 1098907648)
 let v7:=(g28 (((),40,()),v3.2))
 let v8:=(farith BinOp.quo FloatKind.f32 (FloatKind.nearest FloatKind.f32 v7.1.1) 1098907648)
 let v9:=(farith BinOp.add FloatKind.f32 v6 v8)
 let v10:=(List.set (List.replicate 1 (zero (Ty.flt FloatKind.f32))) 0 v9)
 bif (capOk (List.length v.2.2.2.2.2.2.2.1 + List.length v10)) then
 let v11:=(IntKind.wrap IntKind.i64 (v.1.2.2.2.2.2.2.1 + 1))
 let v12:=(v.2.2.2.2.2.2.2.1 ++ v10)
 f (((),((),((),((v.1.2.2.2.1),((v.1.2.2.2.2.1),((),(v11,()))))))),((v7.2.1.1,(v7.2.1.2.1,(v7.2.1.2.2.1,()))),(((),((),((),()))),(((),((),((),()))),((v.2.2.2.2.1),((v.2.2.2.2.2.1),((v.2.2.2.2.2.2.1),(v12,()))))))))
 else
 none
 else
 none
 else
 let v4:=(IntKind.wrap IntKind.i64 (8 + v1.1.1))
 let v5:=(farith BinOp.quo FloatKind.f32 (FloatKind.nearest FloatKind.f32 v4) 1098907648)
 let v6:=(List.set (List.replicate 1 (zero (Ty.flt FloatKind.f32))) 0 v5)
 bif (capOk (List.length v.2.2.2.2.2.2.2.1 + List.length v6)) then
 let v7:=(IntKind.wrap IntKind.i64 (v.1.2.2.2.2.2.2.1 + 1))
 let v8:=(v.2.2.2.2.2.2.2.1 ++ v6)
 f (((),((),((),((v.1.2.2.2.1),((v.1.2.2.2.2.1),((),(v7,()))))))),((v3.2.1.1,(v3.2.1.2.1,(v3.2.1.2.2.1,()))),(((),((),((),()))),(((),((),((),()))),((v.2.2.2.2.1),((v.2.2.2.2.2.1),((v.2.2.2.2.2.2.1),(v8,()))))))))
 else
 none
 else
 none
 else
 bif (fgt FloatKind.f32 v.1.2.2.2.1 1084227584) then
 let v1:=(g28 (((),57,()),v.2.1,()))
 let v2:=(k28 (((),40,()),v1.2))
 bif v2 then
 let v3:=(IntKind.wrap IntKind.i64 (8 + v1.1.1))
 let v4:=(farith BinOp.quo FloatKind.f32 (FloatKind.nearest FloatKind.f32 v3) 1098907648)
 let v5:=(g28 (((),40,()),v1.2))
 let v6:=(farith BinOp.quo FloatKind.f32 (FloatKind.nearest FloatKind.f32 v5.1.1) 1098907648)
 let v7:=(farith BinOp.add FloatKind.f32 v4 v6)
 let v8:=(List.set (List.replicate 1 (zero (Ty.flt FloatKind.f32))) 0 v7)
 bif (capOk (List.length v.2.2.2.2.2.2.2.1 + List.length v8)) then
 let v9:=(IntKind.wrap IntKind.i64 (v.1.2.2.2.2.2.2.1 + 1))
 let v10:=(v.2.2.2.2.2.2.2.1 ++ v8)
 f (((),((),((),((v.1.2.2.2.1),((v.1.2.2.2.2.1),((),(v9,()))))))),((v5.2.1.1,(v5.2.1.2.1,(v5.2.1.2.2.1,()))),(((),((),((),()))),(((),((),((),()))),((v.2.2.2.2.1),((v.2.2.2.2.2.1),((v.2.2.2.2.2.2.1),(v10,()))))))))
 else
 none
 else
 none
 else
 let v1:=(g28 (((),57,()),v.2.1,()))
 let v2:=(IntKind.wrap IntKind.i64 (8 + v1.1.1))
 let v3:=(farith BinOp.quo FloatKind.f32 (FloatKind.nearest FloatKind.f32 v2) 1098907648)
 let v4:=(List.set (List.replicate 1 (zero (Ty.flt FloatKind.f32))) 0 v3)
 bif (capOk (List.length v.2.2.2.2.2.2.2.1 + List.length v4)) then
 let v5:=(IntKind.wrap IntKind.i64 (v.1.2.2.2.2.2.2.1 + 1))
 let v6:=(v.2.2.2.2.2.2.2.1 ++ v4)
 f (((),((),((),((v.1.2.2.2.1),((v.1.2.2.2.2.1),((),(v5,()))))))),((v1.2.1.1,(v1.2.1.2.1,(v1.2.1.2.2.1,()))),(((),((),((),()))),(((),((),((),()))),((v.2.2.2.2.1),((v.2.2.2.2.2.1),((v.2.2.2.2.2.2.1),(v6,()))))))))
 else
 none
 else
 none
 else
 some (((),((),((),((v.1.2.2.2.1),((v.1.2.2.2.2.1),((List.map (fun x => ()) v.2.2.2.2.2.2.2.1),())))))),(((v.2.1.1),((v.2.1.2.1),((v.2.1.2.2.1),()))),(((),((),((),()))),(((),((),((),()))),((v.2.2.2.2.1),((v.2.2.2.2.2.1),((v.2.2.2.2.2.2.1),())))))))
theorem evl1047_17 (k28:KI I28) (g28:GI I28 O28) (k30:KI I30) (g30:GI I30 O30) (kl6:V1047_6 -> Bool) (xl6:V1047_6 -> X1047_6) (kl12:V1047_12 -> Bool) (xl12:V1047_12 -> X1047_12) (kl17:V1047_17 -> Bool) (xl17:V1047_17 -> X1047_17) (f:V1047_17 -> Option (X1047_17)) (v:V1047_17):EBk (Γ1047 k28 g28 k30 g30 kl6 xl6 kl12 xl12 kl17 xl17) lc1047_17 (roundK [0,2,3,6,7,8,9] [] 4 [0,2,3,6,7,8] [.jnk 8] (atS sh1047_17 f) (endX shX1047_17)) (mkS sh1047_17 v) = q1047_17 k28 g28 k30 g30 f v:=by kernel_rfl
def b1047_17 (v:V1047_17):Nat:=v.1.2.2.2.2.1.natAbs + v.1.2.2.2.2.2.2.1.natAbs + v.2.1.1.length + v.2.1.2.1.natAbs + v.2.1.2.2.1.natAbs + v.2.2.2.2.1.length + v.2.2.2.2.2.1.length + v.2.2.2.2.2.2.1.length + v.2.2.2.2.2.2.2.1.length + 1000
def l1047_17 (v:V1047_17):Option (X1047_17):=iter (q1047_17 K28 G28 K30 G30) (b1047_17 v) v
def kL1047_17 (v:V1047_17):Bool:=(l1047_17 v).isSome
def xL1047_17 (v:V1047_17):X1047_17:=(l1047_17 v).getD (((),((),((),(0,(0,([],())))))),(([],(0,(0,()))),(((),((),((),()))),(((),((),((),()))),([],([],([],())))))))
def q1047_12 (k28:KI I28) (g28:GI I28 O28) (k30:KI I30) (g30:GI I30 O30) (kl17:V1047_17 -> Bool) (xl17:V1047_17 -> X1047_17) (f:V1047_12 -> Option (X1047_12)) (v:V1047_12):Option (X1047_12):=
 bif (decide (v.1.2.2.2.2.1 > 0)) then
 let v0:=(List.set (List.replicate 1 (zero (Ty.flt FloatKind.f32))) 0 v.1.2.2.2.1)
 bif (capOk (List.length v.2.2.2.2.1 + List.length v0)) then
 let v1:=(v.2.2.2.2.1 ++ v0)
 let v2:=(kl17 (((),(),(),v.1.2.2.2.1,v.1.2.2.2.2.1,(),0,()),v.2.1,((),(),(),()),((),(),(),()),v1,v.2.2.2.2.2.1,v.2.2.2.2.2.2.1,List.replicate 0 (zero (Ty.flt FloatKind.f32)),()))
 bif v2 then
 let v3:=(xl17 (((),(),(),v.1.2.2.2.1,v.1.2.2.2.2.1,(),0,()),v.2.1,((),(),(),()),((),(),(),()),v1,v.2.2.2.2.2.1,v.2.2.2.2.2.2.1,List.replicate 0 (zero (Ty.flt FloatKind.f32)),()))
 let v4:=(List.set (List.replicate 1 (zero (Ty.slice Ty.jnk))) 0 v3.1.2.2.2.2.2.1)
 bif (capOk (List.length v3.2.2.2.2.2.2.1 + List.length v4)) then
 let v5:=(k28 (((),40,()),v3.2.1,()))
 bif v5 then
 let v6:=(g28 (((),40,()),v3.2.1,()))
 let v7:=(IntKind.wrap IntKind.i64 (1 + v6.1.1))
 let v8:=(farith BinOp.quo FloatKind.f32 (FloatKind.nearest FloatKind.f32 v7) 1090519040)
 let v9:=(farith BinOp.add FloatKind.f32 v3.1.2.2.2.1 v8)
 let v10:=(IntKind.wrap IntKind.i64 (v3.1.2.2.2.2.1 - 1))
 let v11:=(v3.2.2.2.2.2.2.1 ++ v4)
 f (((),((),((),(v9,(v10,()))))),((v6.2.1.1,(v6.2.1.2.1,(v6.2.1.2.2.1,()))),(((),((),((),()))),(((),((),((),()))),(v3.2.2.2.2.1,(v3.2.2.2.2.2.1,(v11,())))))))
 else
 none
 else
 none
 else
 none
 else
 none
 else
 some (((),((),())),(((v.2.1.1),((v.2.1.2.1),((v.2.1.2.2.1),()))),(((),((),((),()))),(((),((),((),()))),((v.2.2.2.2.1),((v.2.2.2.2.2.1),((v.2.2.2.2.2.2.1),())))))))
theorem evl1047_12 (k28:KI I28) (g28:GI I28 O28) (k30:KI I30) (g30:GI I30 O30) (kl6:V1047_6 -> Bool) (xl6:V1047_6 -> X1047_6) (kl12:V1047_12 -> Bool) (xl12:V1047_12 -> X1047_12) (kl17:V1047_17 -> Bool) (xl17:V1047_17 -> X1047_17) (f:V1047_12 -> Option (X1047_12)) (v:V1047_12):EBk (Γ1047 k28 g28 k30 g30 kl6 xl6 kl12 xl12 kl17 xl17) lc1047_12 (roundK [0,2,3,6,7] [.boxNil 3 0,.boxNil 3 2] 2 [2,3] [] (atS sh1047_12 f) (endX shX1047_12)) (mkS sh1047_12 v) = q1047_12 k28 g28 k30 g30 kl17 xl17 f v:=by kernel_rfl
def b1047_12 (v:V1047_12):Nat:=v.1.2.2.2.2.1.natAbs + v.2.1.1.length + v.2.1.2.1.natAbs + v.2.1.2.2.1.natAbs + v.2.2.2.2.1.length + v.2.2.2.2.2.1.length + v.2.2.2.2.2.2.1.length + 1000
def l1047_12 (v:V1047_12):Option (X1047_12):=iter (q1047_12 K28 G28 K30 G30 kL1047_17 xL1047_17) (b1047_12 v) v
def kL1047_12 (v:V1047_12):Bool:=(l1047_12 v).isSome
def xL1047_12 (v:V1047_12):X1047_12:=(l1047_12 v).getD (((),((),())),(([],(0,(0,()))),(((),((),((),()))),(((),((),((),()))),([],([],([],())))))))
def q1047_6 (k28:KI I28) (g28:GI I28 O28) (k30:KI I30) (g30:GI I30 O30) (f:V1047_6 -> Option (X1047_6)) (v:V1047_6):Option (X1047_6):=
 bif (decide (v.1.2.2.2.1 > 0)) then
 bif (decide (v.1.2.2.2.1 < 180)) then
 bif (decide ((↑(List.length v.2.2.2.2.1):Int) < 20)) then
 let v0:=(List.set (List.replicate 1 (zero (Ty.int IntKind.i64))) 0 v.1.2.2.2.1)
 bif (capOk (List.length v.2.2.2.2.1 + List.length v0)) then
 let v1:=(k28 (((),50,()),v.2.1,()))
 bif v1 then
 let v2:=(IntKind.wrap IntKind.i64 (v.1.2.2.2.1 + 5))
 let v3:=(g28 (((),50,()),v.2.1,()))
 let v4:=(IntKind.wrap IntKind.i64 (v2 + v3.1.1))
 let v5:=(v.2.2.2.2.1 ++ v0)
 f (((),((),((),(v4,())))),((v3.2.1.1,(v3.2.1.2.1,(v3.2.1.2.2.1,()))),(((),((),((),()))),(((),((),((),()))),(v5,())))))
 else
 none
 else
 none
 else
 some (((),((),((),()))),(((v.2.1.1),((v.2.1.2.1),((v.2.1.2.2.1),()))),(((),((),((),()))),(((),((),((),()))),((v.2.2.2.2.1),())))))
 else
 some (((),((),((),()))),(((v.2.1.1),((v.2.1.2.1),((v.2.1.2.2.1),()))),(((),((),((),()))),(((),((),((),()))),((v.2.2.2.2.1),())))))
 else
 some (((),((),((),()))),(((v.2.1.1),((v.2.1.2.1),((v.2.1.2.2.1),()))),(((),((),((),()))),(((),((),((),()))),((v.2.2.2.2.1),())))))
theorem evl1047_6 (k28:KI I28) (g28:GI I28 O28) (k30:KI I30) (g30:GI I30 O30) (kl6:V1047_6 -> Bool) (xl6:V1047_6 -> X1047_6) (kl12:V1047_12 -> Bool) (xl12:V1047_12 -> X1047_12) (kl17:V1047_17 -> Bool) (xl17:V1047_17 -> X1047_17) (f:V1047_6 -> Option (X1047_6)) (v:V1047_6):EBk (Γ1047 k28 g28 k30 g30 kl6 xl6 kl12 xl12 kl17 xl17) lc1047_6 (roundK [0,2,3,5] [] 0 [0,2,3] [] (atS sh1047_6 f) (endX shX1047_6)) (mkS sh1047_6 v) = q1047_6 k28 g28 k30 g30 f v:=by kernel_rfl
def b1047_6 (v:V1047_6):Nat:=v.1.2.2.2.1.natAbs + v.2.1.1.length + v.2.1.2.1.natAbs + v.2.1.2.2.1.natAbs + v.2.2.2.2.1.length + 1000
def l1047_6 (v:V1047_6):Option (X1047_6):=iter (q1047_6 K28 G28 K30 G30) (b1047_6 v) v
def kL1047_6 (v:V1047_6):Bool:=(l1047_6 v).isSome
def xL1047_6 (v:V1047_6):X1047_6:=(l1047_6 v).getD (((),((),((),()))),(([],(0,(0,()))),(((),((),((),()))),(((),((),((),()))),([],())))))
def r1047 (k28:KI I28) (g28:GI I28 O28) (k30:KI I30) (g30:GI I30 O30) (kl6:V1047_6 -> Bool) (xl6:V1047_6 -> X1047_6) (kl12:V1047_12 -> Bool) (xl12:V1047_12 -> X1047_12) (kl17:V1047_17 -> Bool) (xl17:V1047_17 -> X1047_17) (x:I1047.den):Option (O1047.den):=
 let v0:=(k28 (((),25,()),x.2))
 bif v0 then
 let v1:=(g28 (((),25,()),x.2))
 let v2:=(k30 (((),6,()),v1.2))
 bif v2 then
 let v3:=(g30 (((),6,()),v1.2))
 bif v3.1.1 then
 let v4:=(List.set (List.replicate 1 (zero (Ty.int IntKind.i64))) 0 0)
 let v5:=(kl6 (((),(),(),0,()),v3.2.1,((),(),(),()),((),(),(),()),v4,()))
 bif v5 then
 let v6:=(xl6 (((),(),(),0,()),v3.2.1,((),(),(),()),((),(),(),()),v4,()))
 let v7:=(List.set (List.replicate 1 (zero (Ty.int IntKind.i64))) 0 180)
 bif (capOk (List.length v6.2.2.2.2.1 + List.length v7)) then
 let v8:=(k28 (((),4,()),v6.2.1,()))
 bif v8 then
 let v9:=(g28 (((),4,()),v6.2.1,()))
 let v10:=(k28 (((),4,()),v9.2))
 bif v10 then
 let v11:=(IntKind.wrap IntKind.i64 (1 + v9.1.1))
 let v12:=(g28 (((),4,()),v9.2))
 let v13:=(IntKind.wrap IntKind.i64 (1 + v12.1.1))
 let v14:=(v6.2.2.2.2.1 ++ v7)
 let v15:=(kl12 (((),(),(),FloatKind.nearest FloatKind.f32 v11,v13,()),v12.2.1,((),(),(),()),((),(),(),()),[],v14,[],()))
 bif v15 then
 let v16:=(xl12 (((),(),(),FloatKind.nearest FloatKind.f32 v11,v13,()),v12.2.1,((),(),(),()),((),(),(),()),[],v14,[],()))
 some ((((),((),((),()))),()),((v16.2.1.1,(v16.2.1.2.1,(v16.2.1.2.2.1,()))),(v16.2.2.2.2.1,(v16.2.2.2.2.2.1,(v16.2.2.2.2.2.2.1,())))))
 else
 none
 else
 none
 else
 none
 else
 none
 else
 none
 else
 let v4:=(IntKind.wrap IntKind.i64 (20 + v1.1.1))
 let v5:=(List.set (List.replicate 1 (zero (Ty.int IntKind.i64))) 0 0)
 let v6:=(kl6 (((),(),(),v4,()),v3.2.1,((),(),(),()),((),(),(),()),v5,()))
 bif v6 then
 let v7:=(xl6 (((),(),(),v4,()),v3.2.1,((),(),(),()),((),(),(),()),v5,()))
 let v8:=(List.set (List.replicate 1 (zero (Ty.int IntKind.i64))) 0 180)
 bif (capOk (List.length v7.2.2.2.2.1 + List.length v8)) then
 let v9:=(k28 (((),4,()),v7.2.1,()))
 bif v9 then
 let v10:=(g28 (((),4,()),v7.2.1,()))
 let v11:=(k28 (((),4,()),v10.2))
 bif v11 then
 let v12:=(IntKind.wrap IntKind.i64 (1 + v10.1.1))
 let v13:=(g28 (((),4,()),v10.2))
 let v14:=(IntKind.wrap IntKind.i64 (1 + v13.1.1))
 let v15:=(v7.2.2.2.2.1 ++ v8)
 let v16:=(kl12 (((),(),(),FloatKind.nearest FloatKind.f32 v12,v14,()),v13.2.1,((),(),(),()),((),(),(),()),[],v15,[],()))
 bif v16 then
 let v17:=(xl12 (((),(),(),FloatKind.nearest FloatKind.f32 v12,v14,()),v13.2.1,((),(),(),()),((),(),(),()),[],v15,[],()))
 some ((((),((),((),()))),()),((v17.2.1.1,(v17.2.1.2.1,(v17.2.1.2.2.1,()))),(v17.2.2.2.2.1,(v17.2.2.2.2.2.1,(v17.2.2.2.2.2.2.1,())))))
 else
 none
 else
 none
 else
 none
 else
 none
 else
 none
 else
 none
 else
 none
theorem ev1047 (k28:KI I28) (g28:GI I28 O28) (k30:KI I30) (g30:GI I30 O30) (kl6:V1047_6 -> Bool) (xl6:V1047_6 -> X1047_6) (kl12:V1047_12 -> Bool) (xl12:V1047_12 -> X1047_12) (kl17:V1047_17 -> Bool) (xl17:V1047_17 -> X1047_17) (x:I1047.den):callS (Γ1047 k28 g28 k30 g30 kl6 xl6 kl12 xl12 kl17 xl17) (bodyOf Tryz.f47) I1047 O1047 x = r1047 k28 g28 k30 g30 kl6 xl6 kl12 xl12 kl17 xl17 x:=by kernel_rfl
def F1047 (x:I1047.den):Option (O1047.den):=r1047 K28 G28 K30 G30 kL1047_6 xL1047_6 kL1047_12 xL1047_12 kL1047_17 xL1047_17 x
def K1047 (x:I1047.den):Bool:=(F1047 x).isSome
def G1047 (x:I1047.den):O1047.den:=(F1047 x).getD (zeroSg O1047)
theorem sem1047:SemOK Tryz.prog (47,sgMean true I1047 O1047 K1047 G1047):=sg_opt (env_ok mixed tabJ_ok eqs_ok (.cons sem28 (.cons sem30 .nil))) (fnIs Tryz.func47 rfl rfl rfl (by kernel_rfl) (loops_ok (l:=[lc1047_6,lc1047_12,lc1047_17]) (by kernel_rfl) (.cons (one_loop rfl (loopX_sound (sh:=sh1047_6) (shX:=shX1047_6) (fun f v => evl1047_6 K28 G28 K30 G30 kL1047_6 xL1047_6 kL1047_12 xL1047_12 kL1047_17 xL1047_17 f v) b1047_6 (((),((),((),()))),(([],(0,(0,()))),(((),((),((),()))),(((),((),((),()))),([],()))))))) (.cons (one_loop rfl (loopX_sound (sh:=sh1047_12) (shX:=shX1047_12) (fun f v => evl1047_12 K28 G28 K30 G30 kL1047_6 xL1047_6 kL1047_12 xL1047_12 kL1047_17 xL1047_17 f v) b1047_12 (((),((),())),(([],(0,(0,()))),(((),((),((),()))),(((),((),((),()))),([],([],([],()))))))))) (.cons (one_loop rfl (loopX_sound (sh:=sh1047_17) (shX:=shX1047_17) (fun f v => evl1047_17 K28 G28 K30 G30 kL1047_6 xL1047_6 kL1047_12 xL1047_12 kL1047_17 xL1047_17 f v) b1047_17 (((),((),((),(0,(0,([],())))))),(([],(0,(0,()))),(((),((),((),()))),(((),((),((),()))),([],([],([],()))))))))) (.nil)))))) true fun x => ev1047 K28 G28 K30 G30 kL1047_6 xL1047_6 kL1047_12 xL1047_12 kL1047_17 xL1047_17 x
abbrev I27:Sg:=⟨[.ptr 0],[.box (S72)]⟩
abbrev O27:Sg:=⟨[.val (.cons (.slice (.flt .f32)) (.cons (.slice (.int .i64)) (.cons (.slice (.slice .jnk)) (.nil))))],[.box (S72)]⟩
abbrev V27_18:Type:=((Unit × (Unit × (Unit × Unit))) × (((List (Den (.int .u8))) × (Int × (Int × Unit))) × ((Unit × (Unit × (Unit × Unit))) × ((Unit × (Unit × (Unit × Unit))) × ((List (Den (.flt .f32))) × ((List (Den (.int .i64))) × ((List (Den (.slice (.jnk)))) × Unit)))))))
def sh27_18:ShS:=⟨[(0,.one (.ptr 0 0)),(2,.one (.ptr 1 0)),(3,.one (.ptr 2 0))],[(0,.box [.sl (.int .u8),.int .i64,.int .i64]),(1,.box [.nil (.flt .f32),.nil (.int .i64),.nil (.slice (.jnk))]),(2,.box [.ref (.flt .f32) 3,.ref (.int .i64) 4,.ref (.slice (.jnk)) 5]),(3,.arr (.flt .f32)),(4,.arr (.int .i64)),(5,.arr (.slice (.jnk)))],6,1⟩
abbrev X27_18:Type:=((Unit × (Unit × Unit)) × (((List (Den (.int .u8))) × (Int × (Int × Unit))) × ((Unit × (Unit × (Unit × Unit))) × ((Unit × (Unit × (Unit × Unit))) × ((List (Den (.flt .f32))) × ((List (Den (.int .i64))) × ((List (Den (.slice (.jnk)))) × Unit)))))))
def shX27_18:ShS:=⟨[(2,.one (.ptr 1 0)),(3,.one (.ptr 2 0))],[(0,.box [.sl (.int .u8),.int .i64,.int .i64]),(1,.box [.nil (.flt .f32),.nil (.int .i64),.nil (.slice (.jnk))]),(2,.box [.ref (.flt .f32) 3,.ref (.int .i64) 4,.ref (.slice (.jnk)) 5]),(3,.arr (.flt .f32)),(4,.arr (.int .i64)),(5,.arr (.slice (.jnk)))],6,1⟩
abbrev V27_25:Type:=((Unit × (Unit × (Int × (Int × (Int × Unit))))) × (((List (Den (.int .u8))) × (Int × (Int × Unit))) × ((Unit × (Unit × (Unit × Unit))) × ((Unit × (Unit × (Unit × Unit))) × ((List (Den (.flt .f32))) × ((List (Den (.int .i64))) × ((List (Den (.slice (.jnk)))) × Unit)))))))
def sh27_25:ShS:=⟨[(2,.one (.ptr 1 0)),(3,.one (.ptr 2 0)),(4,.one (.int .i64)),(117,.one (.int .i64)),(118,.one (.int .i64))],[(0,.box [.sl (.int .u8),.int .i64,.int .i64]),(1,.box [.nil (.flt .f32),.nil (.int .i64),.nil (.slice (.jnk))]),(2,.box [.ref (.flt .f32) 3,.ref (.int .i64) 4,.ref (.slice (.jnk)) 5]),(3,.arr (.flt .f32)),(4,.arr (.int .i64)),(5,.arr (.slice (.jnk)))],6,1⟩
abbrev X27_25:Type:=((Unit × (Unit × Unit)) × (((List (Den (.int .u8))) × (Int × (Int × Unit))) × ((Unit × (Unit × (Unit × Unit))) × ((Unit × (Unit × (Unit × Unit))) × ((List (Den (.flt .f32))) × ((List (Den (.int .i64))) × ((List (Den (.slice (.jnk)))) × Unit)))))))
def shX27_25:ShS:=⟨[(2,.one (.ptr 1 0)),(3,.one (.ptr 2 0))],[(0,.box [.sl (.int .u8),.int .i64,.int .i64]),(1,.box [.nil (.flt .f32),.nil (.int .i64),.nil (.slice (.jnk))]),(2,.box [.ref (.flt .f32) 3,.ref (.int .i64) 4,.ref (.slice (.jnk)) 5]),(3,.arr (.flt .f32)),(4,.arr (.int .i64)),(5,.arr (.slice (.jnk)))],6,1⟩
noncomputable def Γ27 (k1047:KI I1047) (g1047:GI I1047 O1047) (k28:KI I28) (g28:GI I28 O28) (k48:KI I48) (g48:GI I48 O48) (k45:KI I45) (g45:GI I45 O45) (kl18:V27_18 -> Bool) (xl18:V27_18 -> X27_18) (kl25:V27_25 -> Bool) (xl25:V27_25 -> X27_25):Env:=mkEnv tabJ eqs [(47,sgMean true I1047 O1047 k1047 g1047),(28,sgMean true I28 O28 k28 g28),(48,sgMean true I48 O48 k48 g48),(45,sgMean true I45 O45 k45 g45)] 130 [.cell 2 31] [] [] [(18,loopX [0,2,3] [] 1 [2,3] [] sh27_18 shX27_18 kl18 xl18),(25,loopX [2,3,4,117,118] [] 3 [2,3] [] sh27_25 shX27_25 kl25 xl25)] [] [.frzBox 2]
noncomputable def lc27_18:Code:=(loopsOf (bodyOf Tryz.f27)).getD 0 .skip
noncomputable def lc27_25:Code:=(loopsOf (bodyOf Tryz.f27)).getD 1 .skip
def q27_25 (k1047:KI I1047) (g1047:GI I1047 O1047) (k28:KI I28) (g28:GI I28 O28) (k48:KI I48) (g48:GI I48 O48) (k45:KI I45) (g45:GI I45 O45) (f:V27_25 -> Option (X27_25)) (v:V27_25):Option (X27_25):=
 bif (decide (v.1.2.2.2.2.1 < v.1.2.2.2.1)) then
 bif (decide (0 <= v.1.2.2.1) && decide (v.1.2.2.1 < (↑(List.length v.2.2.2.2.2.2.1):Int))) then
 let v0:=(List.getD v.2.2.2.2.2.2.1 (Int.toNat v.1.2.2.1) (zero (Ty.slice Ty.jnk)))
 bif (decide (0 <= v.1.2.2.2.2.1) && decide (v.1.2.2.2.2.1 < (↑(List.length v0):Int))) then
 let v1:=(IntKind.wrap IntKind.i64 (v.1.2.2.2.2.1 + 1))
 f (((),((),((v.1.2.2.1),((v.1.2.2.2.1),(v1,()))))),(((v.2.1.1),((v.2.1.2.1),((v.2.1.2.2.1),()))),(((),((),((),()))),(((),((),((),()))),((v.2.2.2.2.1),((v.2.2.2.2.2.1),((v.2.2.2.2.2.2.1),())))))))
 else
 none
 else
 none
 else
 some (((),((),())),(((v.2.1.1),((v.2.1.2.1),((v.2.1.2.2.1),()))),(((),((),((),()))),(((),((),((),()))),((v.2.2.2.2.1),((v.2.2.2.2.2.1),((v.2.2.2.2.2.2.1),())))))))
theorem evl27_25 (k1047:KI I1047) (g1047:GI I1047 O1047) (k28:KI I28) (g28:GI I28 O28) (k48:KI I48) (g48:GI I48 O48) (k45:KI I45) (g45:GI I45 O45) (kl18:V27_18 -> Bool) (xl18:V27_18 -> X27_18) (kl25:V27_25 -> Bool) (xl25:V27_25 -> X27_25) (f:V27_25 -> Option (X27_25)) (v:V27_25):EBk (Γ27 k1047 g1047 k28 g28 k48 g48 k45 g45 kl18 xl18 kl25 xl25) lc27_25 (roundK [2,3,4,117,118] [] 3 [2,3] [] (atS sh27_25 f) (endX shX27_25)) (mkS sh27_25 v) = q27_25 k1047 g1047 k28 g28 k48 g48 k45 g45 f v:=by kernel_rfl
def b27_25 (v:V27_25):Nat:=v.1.2.2.1.natAbs + v.1.2.2.2.1.natAbs + v.1.2.2.2.2.1.natAbs + v.2.1.1.length + v.2.1.2.1.natAbs + v.2.1.2.2.1.natAbs + v.2.2.2.2.1.length + v.2.2.2.2.2.1.length + v.2.2.2.2.2.2.1.length + 1000
def l27_25 (v:V27_25):Option (X27_25):=iter (q27_25 K1047 G1047 K28 G28 K48 G48 K45 G45) (b27_25 v) v
def kL27_25 (v:V27_25):Bool:=(l27_25 v).isSome
def xL27_25 (v:V27_25):X27_25:=(l27_25 v).getD (((),((),())),(([],(0,(0,()))),(((),((),((),()))),(((),((),((),()))),([],([],([],())))))))
def q27_18 (k1047:KI I1047) (g1047:GI I1047 O1047) (k28:KI I28) (g28:GI I28 O28) (k48:KI I48) (g48:GI I48 O48) (k45:KI I45) (g45:GI I45 O45) (f:V27_18 -> Option (X27_18)) (v:V27_18):Option (X27_18):=
 let v0:=(k28 (((),2,()),v.2.1,()))
 bif v0 then
 let v1:=(g28 (((),2,()),v.2.1,()))
 let v2:=(IntKind.wrap IntKind.i64 (12 + v1.1.1))
 bif (decide ((↑(List.length v.2.2.2.2.1):Int) < v2)) then
 let v3:=(IntKind.wrap IntKind.i64 ((↑(List.length v.2.2.2.2.1):Int) - 1))
 bif (decide (0 <= v3) && decide (v3 < (↑(List.length v.2.2.2.2.1):Int))) then
 let v4:=(List.getD v.2.2.2.2.1 (Int.toNat v3) (zero (Ty.flt FloatKind.f32)))
 let v5:=(farith BinOp.add FloatKind.f32 v4 1065353216)
 let v6:=(List.set (List.replicate 1 (zero (Ty.flt FloatKind.f32))) 0 v5)
 bif (capOk (List.length v.2.2.2.2.1 + List.length v6)) then
 bif (decide (0 <= 0) && decide (0 < (↑(List.length v.2.2.2.2.2.2.1):Int))) then
 let v7:=(List.getD v.2.2.2.2.2.2.1 (Int.toNat 0) (zero (Ty.slice Ty.jnk)))
 let v8:=(List.set (List.replicate 1 (zero (Ty.slice Ty.jnk))) 0 v7)
 bif (capOk (List.length v.2.2.2.2.2.2.1 + List.length v8)) then
 let v9:=(v.2.2.2.2.1 ++ v6)
 let v10:=(v.2.2.2.2.2.2.1 ++ v8)
 f (((),((),((),()))),((v1.2.1.1,(v1.2.1.2.1,(v1.2.1.2.2.1,()))),(((),((),((),()))),(((),((),((),()))),(v9,((v.2.2.2.2.2.1),(v10,())))))))
 else
 none
 else
 none
 else
 none
 else
 none
 else
 some (((),((),())),((v1.2.1.1,(v1.2.1.2.1,(v1.2.1.2.2.1,()))),(((),((),((),()))),(((),((),((),()))),((v.2.2.2.2.1),((v.2.2.2.2.2.1),((v.2.2.2.2.2.2.1),())))))))
 else
 none
theorem evl27_18 (k1047:KI I1047) (g1047:GI I1047 O1047) (k28:KI I28) (g28:GI I28 O28) (k48:KI I48) (g48:GI I48 O48) (k45:KI I45) (g45:GI I45 O45) (kl18:V27_18 -> Bool) (xl18:V27_18 -> X27_18) (kl25:V27_25 -> Bool) (xl25:V27_25 -> X27_25) (f:V27_18 -> Option (X27_18)) (v:V27_18):EBk (Γ27 k1047 g1047 k28 g28 k48 g48 k45 g45 kl18 xl18 kl25 xl25) lc27_18 (roundK [0,2,3] [] 1 [2,3] [] (atS sh27_18 f) (endX shX27_18)) (mkS sh27_18 v) = q27_18 k1047 g1047 k28 g28 k48 g48 k45 g45 f v:=by kernel_rfl
def b27_18 (v:V27_18):Nat:=v.2.1.1.length + v.2.1.2.1.natAbs + v.2.1.2.2.1.natAbs + v.2.2.2.2.1.length + v.2.2.2.2.2.1.length + v.2.2.2.2.2.2.1.length + 1000
def l27_18 (v:V27_18):Option (X27_18):=iter (q27_18 K1047 G1047 K28 G28 K48 G48 K45 G45) (b27_18 v) v
def kL27_18 (v:V27_18):Bool:=(l27_18 v).isSome
def xL27_18 (v:V27_18):X27_18:=(l27_18 v).getD (((),((),())),(([],(0,(0,()))),(((),((),((),()))),(((),((),((),()))),([],([],([],())))))))
theorem env27:EnvOK Tryz.prog (Γ27 K1047 G1047 K28 G28 K48 G48 K45 G45 kL27_18 xL27_18 kL27_25 xL27_25):=env_ok mixed tabJ_ok eqs_ok (.cons sem1047 (.cons sem28 (.cons sem48 (.cons sem45 .nil))))
theorem is27:FnIs Tryz.prog 27 (Γ27 K1047 G1047 K28 G28 K48 G48 K45 G45 kL27_18 xL27_18 kL27_25 xL27_25) (bodyOf Tryz.f27):=fnIs Tryz.func27 rfl rfl rfl (by kernel_rfl) (loops_ok (l:=[lc27_18,lc27_25]) (by kernel_rfl) (.cons (one_loop rfl (loopX_sound (sh:=sh27_18) (shX:=shX27_18) (fun f v => evl27_18 K1047 G1047 K28 G28 K48 G48 K45 G45 kL27_18 xL27_18 kL27_25 xL27_25 f v) b27_18 (((),((),())),(([],(0,(0,()))),(((),((),((),()))),(((),((),((),()))),([],([],([],()))))))))) (.cons (one_loop rfl (loopX_sound (sh:=sh27_25) (shX:=shX27_25) (fun f v => evl27_25 K1047 G1047 K28 G28 K48 G48 K45 G45 kL27_18 xL27_18 kL27_25 xL27_25 f v) b27_25 (((),((),())),(([],(0,(0,()))),(((),((),((),()))),(((),((),((),()))),([],([],([],()))))))))) (.nil))))
noncomputable def N27 (p48:KI I48) (Q48:QI I48 O48) (e48:Nonempty (Ch I48 O48 p48 Q48)):NEnv:=mkN [(48,sgFam true I48 O48 p48 Q48 e48)] []
noncomputable def rN27 (k1047:KI I1047) (g1047:GI I1047 O1047) (k28:KI I28) (g28:GI I28 O28) (k48:KI I48) (g48:GI I48 O48) (k45:KI I45) (g45:GI I45 O45) (kl18:V27_18 -> Bool) (xl18:V27_18 -> X27_18) (kl25:V27_25 -> Bool) (xl25:V27_25 -> X27_25) (p48:KI I48) (Q48:QI I48 O48) (e48:Nonempty (Ch I48 O48 p48 Q48)) (h:O27.den -> Option Unit) (x:I27.den):Option Unit:=
 let v0:=(k1047 (((),()),x.2))
 bif v0 then
 let v1:=(g1047 (((),()),x.2))
 let v2:=(k28 (((),(↑(List.length v1.2.2.1):Int),()),v1.2.1,()))
 bif v2 then
 let v3:=(g28 (((),(↑(List.length v1.2.2.1):Int),()),v1.2.1,()))
 let v4:=(k28 (((),(↑(List.length v1.2.2.2.1):Int),()),v3.2))
 bif v4 then
 let v5:=(g28 (((),(↑(List.length v1.2.2.2.1):Int),()),v3.2))
 let v6:=(k28 (((),24,()),v5.2))
 bif v6 then
 let v7:=(g28 (((),24,()),v5.2))
 bif (v7.1.1 == 0) then
 allK fun (c48_12:Ch I48 O48 p48 Q48) =>
 let v8:=(p48 (((),120,()),v7.2))
 bif v8 then
 bif (decide (0 <= v3.1.1) && decide (v3.1.1 < (↑(List.length v1.2.2.1):Int))) then
 let v9:=(c48_12.val (((),120,()),v7.2))
 let v10:=(List.set v1.2.2.1 (Int.toNat v3.1.1) v9.1.1)
 h (((v10,(v1.2.2.2.1,(v1.2.2.2.2.1,()))),()),((v9.2.1.1,(v9.2.1.2.1,(v9.2.1.2.2.1,()))),()))
 else
 none
 else
 none
 else
 bif (v7.1.1 == 1) then
 let v8:=(k45 (((),()),v7.2))
 bif v8 then
 bif (decide (0 <= v5.1.1) && decide (v5.1.1 < (↑(List.length v1.2.2.2.1):Int))) then
 let v9:=(g45 (((),()),v7.2))
 let v10:=(List.set v1.2.2.2.1 (Int.toNat v5.1.1) v9.1.1)
 h (((v1.2.2.1,(v10,(v1.2.2.2.2.1,()))),()),((v9.2.1.1,(v9.2.1.2.1,(v9.2.1.2.2.1,()))),()))
 else
 none
 else
 none
 else
 bif (v7.1.1 == 2) then
 allK fun (c48_16:Ch I48 O48 p48 Q48) =>
 bif (decide (0 <= v3.1.1) && decide (v3.1.1 < (↑(List.length v1.2.2.2.2.1):Int))) then
 let v8:=(p48 (((),60,()),v7.2))
 bif v8 then
 let v9:=(List.getD v1.2.2.2.2.1 (Int.toNat v3.1.1) (zero (Ty.slice Ty.jnk)))
 bif (decide (0 <= v5.1.1) && decide (v5.1.1 < (↑(List.length v9):Int))) then
 let v10:=(c48_16.val (((),60,()),v7.2))
 h (((v1.2.2.1,(v1.2.2.2.1,(v1.2.2.2.2.1,()))),()),((v10.2.1.1,(v10.2.1.2.1,(v10.2.1.2.2.1,()))),()))
 else
 none
 else
 none
 else
 none
 else
 bif (v7.1.1 == 3) then
 bif (decide (0 <= v3.1.1) && decide (v3.1.1 < (↑(List.length v1.2.2.2.2.1):Int))) then
 let v8:=(List.getD v1.2.2.2.2.1 (Int.toNat v3.1.1) (zero (Ty.slice Ty.jnk)))
 bif (decide (0 <= 1) && decide (1 <= (↑(List.length v8):Int)) && decide ((↑(List.length v8):Int) <= (↑(List.length v8):Int))) then
 bif (decide (0 <= v3.1.1) && decide (v3.1.1 < (↑(List.length v1.2.2.2.2.1):Int))) then
 let v9:=(List.set v1.2.2.2.2.1 (Int.toNat v3.1.1) (List.drop (Int.toNat 1) (List.take (Int.toNat (↑(List.length v8):Int)) v8)))
 h (((v1.2.2.1,(v1.2.2.2.1,(v9,()))),()),((v7.2.1.1,(v7.2.1.2.1,(v7.2.1.2.2.1,()))),()))
 else
 none
 else
 none
 else
 none
 else
 bif (v7.1.1 == 4) then
 bif (decide (0 <= 1) && decide (1 <= (↑(List.length v1.2.2.2.2.1):Int)) && decide ((↑(List.length v1.2.2.2.2.1):Int) <= (↑(List.length v1.2.2.2.2.1):Int))) then
 h (((v1.2.2.1,(v1.2.2.2.1,((List.drop (Int.toNat 1) (List.take (Int.toNat (↑(List.length v1.2.2.2.2.1):Int)) v1.2.2.2.2.1)),()))),()),((v7.2.1.1,(v7.2.1.2.1,(v7.2.1.2.2.1,()))),()))
 else
 none
 else
 bif (v7.1.1 == 5) then
 h (((([]),(([]),(([]),()))),()),((v7.2.1.1,(v7.2.1.2.1,(v7.2.1.2.2.1,()))),()))
 else
 bif (v7.1.1 == 6) then
 let v8:=(kl18 (((),(),(),()),v7.2.1,((),(),(),()),((),(),(),()),v1.2.2))
 bif v8 then
 let v9:=(xl18 (((),(),(),()),v7.2.1,((),(),(),()),((),(),(),()),v1.2.2))
 h (((v9.2.2.2.2.1,(v9.2.2.2.2.2.1,(v9.2.2.2.2.2.2.1,()))),()),((v9.2.1.1,(v9.2.1.2.1,(v9.2.1.2.2.1,()))),()))
 else
 none
 else
 bif (v7.1.1 == 7) then
 bif (decide (0 <= v3.1.1) && decide (v3.1.1 < (↑(List.length v1.2.2.2.2.1):Int))) then
 let v8:=(List.getD v1.2.2.2.2.1 (Int.toNat v3.1.1) (zero (Ty.slice Ty.jnk)))
 bif (decide (0 <= v5.1.1) && decide (v5.1.1 < (↑(List.length v8):Int))) then
 h (((v1.2.2.1,(v1.2.2.2.1,(v1.2.2.2.2.1,()))),()),((v7.2.1.1,(v7.2.1.2.1,(v7.2.1.2.2.1,()))),()))
 else
 none
 else
 none
 else
 bif (v7.1.1 == 8) then
 bif (decide (0 <= v3.1.1) && decide (v3.1.1 < (↑(List.length v1.2.2.2.2.1):Int))) then
 let v8:=(List.getD v1.2.2.2.2.1 (Int.toNat v3.1.1) (zero (Ty.slice Ty.jnk)))
 let v9:=(kl25 (((),(),v3.1.1,(↑(List.length v8):Int),0,()),v7.2.1,((),(),(),()),((),(),(),()),v1.2.2))
 bif v9 then
 let v10:=(xl25 (((),(),v3.1.1,(↑(List.length v8):Int),0,()),v7.2.1,((),(),(),()),((),(),(),()),v1.2.2))
 h (((v10.2.2.2.2.1,(v10.2.2.2.2.2.1,(v10.2.2.2.2.2.2.1,()))),()),((v10.2.1.1,(v10.2.1.2.1,(v10.2.1.2.2.1,()))),()))
 else
 none
 else
 none
 else
 h (((v1.2.2.1,(v1.2.2.2.1,(v1.2.2.2.2.1,()))),()),((v7.2.1.1,(v7.2.1.2.1,(v7.2.1.2.2.1,()))),()))
 else
 none
 else
 none
 else
 none
 else
 none
theorem evN27 (k1047:KI I1047) (g1047:GI I1047 O1047) (k28:KI I28) (g28:GI I28 O28) (k48:KI I48) (g48:GI I48 O48) (k45:KI I45) (g45:GI I45 O45) (kl18:V27_18 -> Bool) (xl18:V27_18 -> X27_18) (kl25:V27_25 -> Bool) (xl25:V27_25 -> X27_25) (p48:KI I48) (Q48:QI I48 O48) (e48:Nonempty (Ch I48 O48 p48 Q48)) (h:O27.den -> Option Unit) (x:I27.den):callSN (Γ27 k1047 g1047 k28 g28 k48 g48 k45 g45 kl18 xl18 kl25 xl25) (N27 p48 Q48 e48) (bodyOf Tryz.f27) I27 O27 h x = rN27 k1047 g1047 k28 g28 k48 g48 k45 g45 kl18 xl18 kl25 xl25 p48 Q48 e48 h x:=by kernel_rfl
theorem row_loop (v : V1047_17) (hc : CurOk v.2.1) (hk : v.1.2.2.2.2.2.2.1 = 0) (hr : v.2.2.2.2.2.2.2.1 = []) (ha : v.2.2.2.2.2.1.length <= 30) :
 Pst (l1047_17 v) fun y => CurOk y.2.1 /\ y.1.2.2.2.2.1 = v.1.2.2.2.2.1 /\ y.2.2.2.2.1 = v.2.2.2.2.1 /\ y.2.2.2.2.2.1 = v.2.2.2.2.2.1 /\ y.2.2.2.2.2.2.1 = v.2.2.2.2.2.2.1 /\ y.1.2.2.2.2.2.1.length = v.2.2.2.2.2.1.length := by
 unfold l1047_17
 refine iter_ind (q := q1047_17 K28 G28 K30 G30)
  (fun u => CurOk u.2.1 /\ u.1.2.2.2.2.1 = v.1.2.2.2.2.1 /\ u.2.2.2.2.1 = v.2.2.2.2.1 /\ u.2.2.2.2.2.1 = v.2.2.2.2.2.1 /\ u.2.2.2.2.2.2.1 = v.2.2.2.2.2.2.1 /\ 0 <= (u.1.2.2.2.2.2.2.1 : Int) /\ (u.1.2.2.2.2.2.2.1 : Int) <= (v.2.2.2.2.2.1.length : Int) /\ (u.2.2.2.2.2.2.2.1.length : Int) = u.1.2.2.2.2.2.2.1)
  (fun _ r => Pst r fun y => CurOk y.2.1 /\ y.1.2.2.2.2.1 = v.1.2.2.2.2.1 /\ y.2.2.2.2.1 = v.2.2.2.2.1 /\ y.2.2.2.2.2.1 = v.2.2.2.2.2.1 /\ y.2.2.2.2.2.2.1 = v.2.2.2.2.2.2.1 /\ y.1.2.2.2.2.2.1.length = v.2.2.2.2.2.1.length)
  (fun u => (30 - (u.1.2.2.2.2.2.2.1 : Int)).toNat) ?_ _ _ ⟨hc, rfl, rfl, rfl, rfl, by rw [hk]; exact Int.le_refl 0, by rw [hk]; exact Int.natCast_nonneg _, by rw [hr, hk]; rfl⟩ (by unfold b1047_17; omega)
 clear hk hr hc
 rintro ⟨⟨_, _, _, w, n, _, i, _⟩, ⟨c0, c1, c2, _⟩, _, _, ws, as_, sp, row, _⟩ f ⟨g0, g1, g2, g3, g4, g5, g6, g7⟩ ih
 dsimp only at g0 g1 g2 g3 g4 g5 g6 g7 ih
 subst g1 g2 g4
 have ea : as_.length = v.2.2.2.2.2.1.length := by rw [g3]
 unfold q1047_17
 dsimp only
 by_cases hk : i < (as_.length : Int)
 ·refine pst_t (by simpa using hk) ?_
  have e : IntKind.i64.wrap (i + 1) = i + 1 := w64 (by omega) (by omega)
  rw [e]
  have fin : ∀ (x : Nat) (c : List Int × Int × Int × Unit), CurOk c -> Pst (bif (capOk (List.length row + List.length (List.set (List.replicate 1 (zero (Ty.flt FloatKind.f32))) 0 x))) then f (((), ((), ((), ((w), ((v.1.2.2.2.2.1), ((), ((i + 1), ()))))))), (((c.1), ((c.2.1), ((c.2.2.1), ()))), (((), ((), ((), ()))), (((), ((), ((), ()))), ((v.2.2.2.2.1), ((as_), ((v.2.2.2.2.2.2.1), ((row ++ List.set (List.replicate 1 (zero (Ty.flt FloatKind.f32))) 0 x), ())))))))) else none)
   fun y => CurOk y.2.1 /\ y.1.2.2.2.2.1 = v.1.2.2.2.2.1 /\ y.2.2.2.2.1 = v.2.2.2.2.1 /\ y.2.2.2.2.2.1 = v.2.2.2.2.2.1 /\ y.2.2.2.2.2.2.1 = v.2.2.2.2.2.2.1 /\ y.1.2.2.2.2.2.1.length = v.2.2.2.2.2.1.length := by
   intro x c h
   refine pst_t (capOk_of (by simp only [List.length_set, List.length_replicate]; omega)) ?_
   refine ih _ ⟨h, rfl, rfl, g3, rfl, ?_, ?_, ?_⟩ ?_ <;> simp only [List.length_append, List.length_set, List.length_replicate] <;> omega
  refine pst_t (K28_ok _ (by (repeat ((try dsimp only); first | assumption | (with_reducible first | apply G45_cur | apply G68_cur | apply G102_cur | apply G28_cur | apply G30_cur))))) ?_
  refine pst_b (fun _ => ?_) (fun _ => ?_)
  ·refine pst_t (K30_ok _ (by (repeat ((try dsimp only); first | assumption | (with_reducible first | apply G45_cur | apply G68_cur | apply G102_cur | apply G28_cur | apply G30_cur))))) ?_
   refine pst_b (fun _ => ?_) (fun _ => ?_)
   ·refine pst_b (fun _ => ?_) (fun _ => ?_)
    ·refine pst_t (K28_ok _ (by (repeat ((try dsimp only); first | assumption | (with_reducible first | apply G45_cur | apply G68_cur | apply G102_cur | apply G28_cur | apply G30_cur))))) ?_
     exact fin _ _ (by (repeat ((try dsimp only); first | assumption | (with_reducible first | apply G45_cur | apply G68_cur | apply G102_cur | apply G28_cur | apply G30_cur))))
    ·exact fin _ _ (by (repeat ((try dsimp only); first | assumption | (with_reducible first | apply G45_cur | apply G68_cur | apply G102_cur | apply G28_cur | apply G30_cur))))
   ·refine pst_b (fun _ => ?_) (fun _ => ?_)
    ·refine pst_t (K28_ok _ (by (repeat ((try dsimp only); first | assumption | (with_reducible first | apply G45_cur | apply G68_cur | apply G102_cur | apply G28_cur | apply G30_cur))))) ?_
     exact fin _ _ (by (repeat ((try dsimp only); first | assumption | (with_reducible first | apply G45_cur | apply G68_cur | apply G102_cur | apply G28_cur | apply G30_cur))))
    ·exact fin _ _ (by (repeat ((try dsimp only); first | assumption | (with_reducible first | apply G45_cur | apply G68_cur | apply G102_cur | apply G28_cur | apply G30_cur))))
  ·refine pst_b (fun _ => ?_) (fun _ => ?_)
   ·refine pst_t (K28_ok _ (by (repeat ((try dsimp only); first | assumption | (with_reducible first | apply G45_cur | apply G68_cur | apply G102_cur | apply G28_cur | apply G30_cur))))) ?_
    exact fin _ _ (by (repeat ((try dsimp only); first | assumption | (with_reducible first | apply G45_cur | apply G68_cur | apply G102_cur | apply G28_cur | apply G30_cur))))
   ·exact fin _ _ (by (repeat ((try dsimp only); first | assumption | (with_reducible first | apply G45_cur | apply G68_cur | apply G102_cur | apply G28_cur | apply G30_cur))))
 ·have hd : decide (i < (as_.length : Int)) = false := by simpa using hk
  rw [hd]
  exact pst_some ⟨g0, rfl, rfl, g3, rfl, by show (row.map fun _ => ()).length = _; rw [List.length_map]; omega⟩
def Rows (n : Nat) (a : Nat) (ws : List Nat) (sp : List (List Unit)) : Prop := ws.length = n /\ sp.length = n /\ ∀ r ∈ sp, r.length = a
theorem rows_loop (v : V1047_12) (hc : CurOk v.2.1) (hn : 0 <= (v.1.2.2.2.2.1 : Int) /\ (v.1.2.2.2.2.1 : Int) <= 8) (hw : v.2.2.2.2.1 = []) (hs : v.2.2.2.2.2.2.1 = []) (ha : v.2.2.2.2.2.1.length <= 30) :
 Pst (l1047_12 v) fun y => CurOk y.2.1 /\ y.2.2.2.2.2.1 = v.2.2.2.2.2.1 /\ Rows (v.1.2.2.2.2.1 : Int).toNat v.2.2.2.2.2.1.length y.2.2.2.2.1 y.2.2.2.2.2.2.1 := by
 unfold l1047_12
 refine iter_ind (q := q1047_12 K28 G28 K30 G30 kL1047_17 xL1047_17)
  (fun u => CurOk u.2.1 /\ u.2.2.2.2.2.1 = v.2.2.2.2.2.1 /\ 0 <= (u.1.2.2.2.2.1 : Int) /\ (u.2.2.2.2.1.length : Int) + u.1.2.2.2.2.1 = v.1.2.2.2.2.1 /\ Rows u.2.2.2.2.1.length v.2.2.2.2.2.1.length u.2.2.2.2.1 u.2.2.2.2.2.2.1)
  (fun _ r => Pst r fun y => CurOk y.2.1 /\ y.2.2.2.2.2.1 = v.2.2.2.2.2.1 /\ Rows (v.1.2.2.2.2.1 : Int).toNat v.2.2.2.2.2.1.length y.2.2.2.2.1 y.2.2.2.2.2.2.1)
  (fun u => (u.1.2.2.2.2.1 : Int).toNat) ?_ _ _ ⟨hc, rfl, hn.1, by rw [hw]; exact Int.zero_add _, by rw [hw, hs]; exact ⟨rfl, rfl, fun _ h => by cases h⟩⟩ (by unfold b1047_12; omega)
 clear hc hw hs
 rintro ⟨⟨_, _, _, w, n, _⟩, ⟨c0, c1, c2, _⟩, _, _, ws, as_, sp, _⟩ f ⟨g0, g1, g2, g3, g4⟩ ih
 dsimp only at g0 g1 g2 g3 g4 ih
 obtain ⟨g4, g5, g6⟩ := g4
 have ea : as_.length = v.2.2.2.2.2.1.length := by rw [g1]
 unfold q1047_12
 dsimp only
 by_cases hk : n > 0
 ·refine pst_t (by simpa using hk) ?_
  refine pst_t (capOk_of (by simp only [List.length_set, List.length_replicate]; omega)) ?_
  have hr := row_loop (((), (), (), w, n, (), 0, ()), (c0, c1, c2, ()), ((), (), (), ()), ((), (), (), ()), ws ++ (List.replicate 1 (zero (Ty.flt FloatKind.f32))).set 0 w, as_, sp, List.replicate 0 (zero (Ty.flt FloatKind.f32)), ()) g0 rfl rfl (by show as_.length <= 30; omega)
  refine pst_t (pst_k hr) ?_
  have hx := pst_g (((), ((), ((), (0, (0, ([], ())))))), (([], (0, (0, ()))), (((), ((), ((), ()))), (((), ((), ((), ()))), ([], ([], ([], ()))))))) hr
  change CurOk (xL1047_17 _).2.1 /\ (xL1047_17 _).1.2.2.2.2.1 = n /\ (xL1047_17 _).2.2.2.2.1 = _ /\ (xL1047_17 _).2.2.2.2.2.1 = as_ /\ (xL1047_17 _).2.2.2.2.2.2.1 = sp /\ (xL1047_17 _).1.2.2.2.2.2.1.length = as_.length at hx
  generalize xL1047_17 (((), (), (), w, n, (), 0, ()), (c0, c1, c2, ()), ((), (), (), ()), ((), (), (), ()), ws ++ (List.replicate 1 (zero (Ty.flt FloatKind.f32))).set 0 w, as_, sp, List.replicate 0 (zero (Ty.flt FloatKind.f32)), ()) = y at *
  obtain ⟨⟨_, _, _, w', n', row, _⟩, c', _, _, ws', as', sp', _⟩ := y
  dsimp only at hx
  obtain ⟨h1, h2, h3, h4, h5, h6⟩ := hx
  subst h2 h3 h4 h5
  refine pst_t (capOk_of (by simp only [List.length_set, List.length_replicate]; omega)) ?_
  refine pst_t (K28_ok _ (by (repeat ((try dsimp only); first | assumption | (with_reducible first | apply G45_cur | apply G68_cur | apply G102_cur | apply G28_cur | apply G30_cur))))) ?_
  have e : IntKind.i64.wrap (n' - 1) = n' - 1 := w64 (by omega) (by omega)
  dsimp only
  rw [e]
  refine ih _ ⟨by (repeat ((try dsimp only); first | assumption | (with_reducible first | apply G45_cur | apply G68_cur | apply G102_cur | apply G28_cur | apply G30_cur))), g1, ?_, ?_, ?_, ?_, ?_⟩ ?_
  ·show 0 <= n' - 1; omega
  ·simp only [List.length_append, List.length_set, List.length_replicate]; omega
  ·rfl
  ·simp only [List.length_append, List.length_set, List.length_replicate]; omega
  ·intro r hr
   rcases List.mem_append.1 hr with hr | hr
   ·exact g6 r hr
   ·rw [show r = row from List.mem_singleton.1 hr, h6, ea]
  ·show (n' - 1).toNat < n'.toNat; omega
 ·have hd : decide (n > 0) = false := by simpa using hk
  rw [hd]
  refine pst_some ⟨g0, g1, ?_, ?_, g6⟩
  ·show ws.length = _; omega
  ·show sp.length = _; omega
theorem ang_a (a b : Int) (h1 : a > 0) (h2 : a < 180) (h : 0 <= b /\ b < 50) : IntKind.i64.wrap (IntKind.i64.wrap (a + 5) + b) <= 1000 := by
 rw [w64 (x := a + 5) (by omega) (by omega), w64 (by omega) (by omega)]
 omega
theorem one_a (b : Int) (h : 0 <= b /\ b < 4) : 0 <= IntKind.i64.wrap (1 + b) /\ IntKind.i64.wrap (1 + b) <= 8 /\ 1 <= (IntKind.i64.wrap (1 + b)).toNat /\ (IntKind.i64.wrap (1 + b)).toNat <= 4 := by
 rw [w64 (by omega) (by omega)]
 omega
theorem top_a (b : Int) (h : 0 <= b /\ b < 25) : IntKind.i64.wrap (20 + b) <= 1000 := by
 rw [w64 (by omega) (by omega)]
 omega
theorem angles_loop (v : V1047_6) (hc : CurOk v.2.1) (hn : (v.1.2.2.2.1 : Int) <= 1000) (hw : v.2.2.2.2.1.length = 1) :
 Pst (l1047_6 v) fun y => CurOk y.2.1 /\ 1 <= y.2.2.2.2.1.length /\ y.2.2.2.2.1.length <= 21 := by
 unfold l1047_6
 refine iter_ind (q := q1047_6 K28 G28 K30 G30)
  (fun u => CurOk u.2.1 /\ (u.1.2.2.2.1 : Int) <= 1000 /\ 1 <= u.2.2.2.2.1.length /\ u.2.2.2.2.1.length <= 21)
  (fun _ r => Pst r fun y => CurOk y.2.1 /\ 1 <= y.2.2.2.2.1.length /\ y.2.2.2.2.1.length <= 21)
  (fun u => 21 - u.2.2.2.2.1.length) ?_ _ _ ⟨hc, hn, by omega, by omega⟩ (by unfold b1047_6; omega)
 rintro ⟨⟨_, _, _, a, _⟩, ⟨c0, c1, c2, _⟩, _, _, as_, _⟩ f ⟨g0, g1, g2, g3⟩ ih
 dsimp only at g0 g1 g2 g3 ih
 unfold q1047_6
 dsimp only
 refine pst_b (fun h1 => ?_) (fun _ => pst_some ⟨g0, g2, g3⟩)
 refine pst_b (fun h2 => ?_) (fun _ => pst_some ⟨g0, g2, g3⟩)
 refine pst_b (fun h3 => ?_) (fun _ => pst_some ⟨g0, g2, g3⟩)
 have h1 : a > 0 := by simpa using h1
 have h2 : a < 180 := by simpa using h2
 have h3 : as_.length < 20 := by have : (as_.length : Int) < 20 := by simpa using h3
                                 omega
 refine pst_t (capOk_of (by simp only [List.length_set, List.length_replicate]; omega)) ?_
 refine pst_t (K28_ok _ (by (repeat ((try dsimp only); first | assumption | (with_reducible first | apply G45_cur | apply G68_cur | apply G102_cur | apply G28_cur | apply G30_cur))))) ?_
 have hb := below_bd 50 (c0, c1, c2, ()) g0 (by decide)
 refine ih _ ⟨by (repeat ((try dsimp only); first | assumption | (with_reducible first | apply G45_cur | apply G68_cur | apply G102_cur | apply G28_cur | apply G30_cur))), ang_a _ _ h1 h2 hb, ?_, ?_⟩ ?_
 all_goals simp only [List.length_append, List.length_set, List.length_replicate]; omega
def PolS (ws : List Nat) (as_ : List Int) (sp : List (List Unit)) : Prop := 2 <= as_.length /\ as_.length <= 22 /\ 1 <= ws.length /\ ws.length <= 4 /\ Rows ws.length as_.length ws sp
theorem polar_ok (x : I1047.den) (h : CurOk x.2.1) : Pst (F1047 x) fun y => CurOk y.2.1 /\ PolS y.2.2.1 y.2.2.2.1 y.2.2.2.2.1 := by
 unfold F1047 r1047
 dsimp only
 have below : ∀ (n : Int) (c : List Int × Int × Int × Unit), CurOk c -> 0 < n -> 0 <= ((G28 (((), n, ()), c, ())).1.1 : Int) /\ ((G28 (((), n, ()), c, ())).1.1 : Int) < n := fun n c h hn => below_bd n c h hn
 refine pst_t (K28_ok _ (by (repeat ((try dsimp only); first | assumption | (with_reducible first | apply G45_cur | apply G68_cur | apply G102_cur | apply G28_cur | apply G30_cur))))) ?_
 have b1 : 0 <= ((G28 (((), 25, ()), x.snd)).1.1 : Int) /\ ((G28 (((), 25, ()), x.snd)).1.1 : Int) < 25 := below 25 x.2.1 h (by decide)
 have c1 : CurOk (G28 (((), 25, ()), x.snd)).2.1 := by (repeat ((try dsimp only); first | assumption | (with_reducible first | apply G45_cur | apply G68_cur | apply G102_cur | apply G28_cur | apply G30_cur)))
 generalize G28 (((), 25, ()), x.snd) = A at *
 refine pst_t (K30_ok _ (by (repeat ((try dsimp only); first | assumption | (with_reducible first | apply G45_cur | apply G68_cur | apply G102_cur | apply G28_cur | apply G30_cur))))) ?_
 have c2 : CurOk (G30 (((), 6, ()), A.snd)).2.1 := by (repeat ((try dsimp only); first | assumption | (with_reducible first | apply G45_cur | apply G68_cur | apply G102_cur | apply G28_cur | apply G30_cur)))
 generalize G30 (((), 6, ()), A.snd) = B at *
 have main : ∀ a : Int, a <= 1000 -> Pst (
  let v5 := List.set (List.replicate 1 (zero (Ty.int IntKind.i64))) 0 0
  let v6 := (kL1047_6 (((), (), (), a, ()), B.snd.fst, ((), (), (), ()), ((), (), (), ()), v5, ()))
  bif (v6) then
   let v7 := (xL1047_6 (((), (), (), a, ()), B.snd.fst, ((), (), (), ()), ((), (), (), ()), v5, ()))
   let v8 := (List.set (List.replicate 1 (zero (Ty.int IntKind.i64))) 0 180)
   bif (capOk (List.length v7.snd.snd.snd.snd.fst + List.length v8)) then
    let v9 := (K28 (((), 4, ()), v7.snd.fst, ()))
    bif (v9) then
     let v10 := (G28 (((), 4, ()), v7.snd.fst, ()))
     let v11 := (K28 (((), 4, ()), v10.snd))
     bif (v11) then
      let v12 := (IntKind.wrap IntKind.i64 (1 + v10.fst.fst))
      let v13 := (G28 (((), 4, ()), v10.snd))
      let v14 := (IntKind.wrap IntKind.i64 (1 + v13.fst.fst))
      let v15 := (v7.snd.snd.snd.snd.fst ++ v8)
      let v16 := (kL1047_12 (((), (), (), FloatKind.nearest FloatKind.f32 v12, v14, ()), v13.snd.fst, ((), (), (), ()), ((), (), (), ()), [], v15, [], ()))
      bif (v16) then
       let v17 := (xL1047_12 (((), (), (), FloatKind.nearest FloatKind.f32 v12, v14, ()), v13.snd.fst, ((), (), (), ()), ((), (), (), ()), [], v15, [], ()))
       (some ((((), ((), ((), ()))), ()), (((v17.snd.fst.1), ((v17.snd.fst.snd.1), ((v17.snd.fst.snd.snd.1), ()))), ((v17.snd.snd.snd.snd.1), ((v17.snd.snd.snd.snd.snd.1), ((v17.snd.snd.snd.snd.snd.snd.1), ()))))) : Option O1047.den)
      else none
     else none
    else none
   else none
  else none) fun y => CurOk y.2.1 /\ PolS y.2.2.1 y.2.2.2.1 y.2.2.2.2.1 := by
  intro a ha
  dsimp only
  have hr := angles_loop (((), (), (), a, ()), B.snd.fst, ((), (), (), ()), ((), (), (), ()), List.set (List.replicate 1 (zero (Ty.int IntKind.i64))) 0 0, ()) c2 ha rfl
  refine pst_t (pst_k hr) ?_
  have hx := pst_g (((), ((), ((), ()))), (([], (0, (0, ()))), (((), ((), ((), ()))), (((), ((), ((), ()))), ([], ()))))) hr
  change CurOk (xL1047_6 _).2.1 /\ 1 <= (xL1047_6 _).2.2.2.2.1.length /\ (xL1047_6 _).2.2.2.2.1.length <= 21 at hx
  generalize xL1047_6 (((), (), (), a, ()), B.snd.fst, ((), (), (), ()), ((), (), (), ()), List.set (List.replicate 1 (zero (Ty.int IntKind.i64))) 0 0, ()) = y at *
  obtain ⟨_, c, _, _, as_, _⟩ := y
  dsimp only at hx ⊢
  obtain ⟨h1, h2, h3⟩ := hx
  refine pst_t (capOk_of (by simp only [List.length_set, List.length_replicate]; omega)) ?_
  refine pst_t (K28_ok _ (by (repeat ((try dsimp only); first | assumption | (with_reducible first | apply G45_cur | apply G68_cur | apply G102_cur | apply G28_cur | apply G30_cur))))) ?_
  have c3 : CurOk (G28 (((), 4, ()), c, ())).2.1 := by (repeat ((try dsimp only); first | assumption | (with_reducible first | apply G45_cur | apply G68_cur | apply G102_cur | apply G28_cur | apply G30_cur)))
  generalize G28 (((), 4, ()), c, ()) = D at *
  refine pst_t (K28_ok _ (by (repeat ((try dsimp only); first | assumption | (with_reducible first | apply G45_cur | apply G68_cur | apply G102_cur | apply G28_cur | apply G30_cur))))) ?_
  have b4 : 0 <= ((G28 (((), 4, ()), D.snd)).1.1 : Int) /\ ((G28 (((), 4, ()), D.snd)).1.1 : Int) < 4 := below 4 D.2.1 c3 (by decide)
  have c4 : CurOk (G28 (((), 4, ()), D.snd)).2.1 := by (repeat ((try dsimp only); first | assumption | (with_reducible first | apply G45_cur | apply G68_cur | apply G102_cur | apply G28_cur | apply G30_cur)))
  generalize G28 (((), 4, ()), D.snd) = E at *
  have hn : 0 <= IntKind.i64.wrap (1 + E.fst.fst) /\ IntKind.i64.wrap (1 + E.fst.fst) <= 8 /\ 1 <= (IntKind.i64.wrap (1 + E.fst.fst)).toNat /\ (IntKind.i64.wrap (1 + E.fst.fst)).toNat <= 4 := one_a _ b4
  generalize IntKind.i64.wrap (1 + E.fst.fst) = nn at *
  generalize FloatKind.nearest FloatKind.f32 (IntKind.wrap IntKind.i64 (1 + D.fst.fst)) = w
  have hq := rows_loop (((), (), (), w, nn, ()), E.snd.fst, ((), (), (), ()), ((), (), (), ()), [], as_ ++ List.set (List.replicate 1 (zero (Ty.int IntKind.i64))) 0 180, [], ()) c4 ⟨hn.1, hn.2.1⟩ rfl rfl (by simp only [List.length_append, List.length_set, List.length_replicate]; omega)
  refine pst_t (pst_k hq) ?_
  have hx := pst_g (((), ((), ())), (([], (0, (0, ()))), (((), ((), ((), ()))), (((), ((), ((), ()))), ([], ([], ([], ()))))))) hq
  change CurOk (xL1047_12 _).2.1 /\ (xL1047_12 _).2.2.2.2.2.1 = _ /\ Rows nn.toNat _ (xL1047_12 _).2.2.2.2.1 (xL1047_12 _).2.2.2.2.2.2.1 at hx
  generalize xL1047_12 (((), (), (), w, nn, ()), E.snd.fst, ((), (), (), ()), ((), (), (), ()), [], as_ ++ List.set (List.replicate 1 (zero (Ty.int IntKind.i64))) 0 180, [], ()) = y at *
  obtain ⟨_, c', _, _, ws', as', sp', _⟩ := y
  dsimp only at hx
  obtain ⟨k1, k2, k3, k4, k5⟩ := hx
  subst k2
  refine pst_some ⟨k1, ?_⟩
  dsimp only
  have el : (as_ ++ List.set (List.replicate 1 (zero (Ty.int IntKind.i64))) 0 180).length = as_.length + 1 := by simp only [List.length_append, List.length_set, List.length_replicate]
  refine ⟨by rw [el]; omega, by rw [el]; omega, by rw [k3]; exact hn.2.2.1, by rw [k3]; exact hn.2.2.2, rfl, by rw [k3, k4], k5⟩
 refine pst_b (fun _ => ?_) (fun _ => ?_)
 ·exact main 0 (by decide)
 ·exact main _ (top_a _ b1)
theorem K1047_ok (x : I1047.den) (h : CurOk x.2.1) : K1047 x = true := pst_k (polar_ok x h)
theorem G1047_ok (x : I1047.den) (h : CurOk x.2.1) : CurOk (G1047 x).2.1 /\ PolS (G1047 x).2.2.1 (G1047 x).2.2.2.1 (G1047 x).2.2.2.2.1 := pst_g _ (polar_ok x h)
def PolL (ws : List Nat) (as_ : List Int) (sp : List (List Unit)) : Prop := ws.length <= 14 /\ as_.length <= 22 /\ sp.length <= 14 /\ ∀ r ∈ sp, r.length <= 22
theorem PolS.some {ws : List Nat} {as_ : List Int} {sp : List (List Unit)} (h : PolS ws as_ sp) : PolL ws as_ sp := by
 obtain ⟨h1, h2, h3, h4, h5, h6, h7⟩ := h
 exact ⟨by omega, h2, by omega, fun r hr => by rw [h7 r hr]; exact h2⟩
theorem PolL.nil : PolL [] [] [] := ⟨Nat.zero_le _, Nat.zero_le _, Nat.zero_le _, fun _ h => by cases h⟩
theorem w12 (a : Int) (h : 0 <= a /\ a < 2) : 12 <= IntKind.i64.wrap (12 + a) /\ IntKind.i64.wrap (12 + a) <= 13 := by
 rw [w64 (by omega) (by omega)]
 omega
theorem tn_lt (a : Int) (n : Nat) (h : 0 <= a /\ a < (n : Int)) : a.toNat < n := by omega
theorem more_loop (v : V27_18) (hc : CurOk v.2.1) (hw : 1 <= v.2.2.2.2.1.length /\ v.2.2.2.2.1.length <= 4) (hs : v.2.2.2.2.2.2.1.length = v.2.2.2.2.1.length) (hr : ∀ r ∈ v.2.2.2.2.2.2.1, List.length r <= 22) :
 Pst (l27_18 v) fun y => CurOk y.2.1 /\ y.2.2.2.2.2.1 = v.2.2.2.2.2.1 /\ y.2.2.2.2.1.length <= 14 /\ y.2.2.2.2.2.2.1.length <= 14 /\ ∀ r ∈ y.2.2.2.2.2.2.1, List.length r <= 22 := by
 unfold l27_18
 refine iter_ind (q := q27_18 K1047 G1047 K28 G28 K48 G48 K45 G45)
  (fun u => CurOk u.2.1 /\ u.2.2.2.2.2.1 = v.2.2.2.2.2.1 /\ 1 <= u.2.2.2.2.1.length /\ u.2.2.2.2.1.length <= 13 /\ u.2.2.2.2.2.2.1.length = u.2.2.2.2.1.length /\ ∀ r ∈ u.2.2.2.2.2.2.1, List.length r <= 22)
  (fun _ r => Pst r fun y => CurOk y.2.1 /\ y.2.2.2.2.2.1 = v.2.2.2.2.2.1 /\ y.2.2.2.2.1.length <= 14 /\ y.2.2.2.2.2.2.1.length <= 14 /\ ∀ r ∈ y.2.2.2.2.2.2.1, List.length r <= 22)
  (fun u => 14 - u.2.2.2.2.1.length) ?_ _ _ ⟨hc, rfl, hw.1, by omega, hs, hr⟩ (by unfold b27_18; omega)
 clear hc hw hs hr
 rintro ⟨_, ⟨c0, c1, c2, _⟩, _, _, ws, as_, sp, _⟩ f ⟨g0, g1, g2, g3, g4, g5⟩ ih
 dsimp only at g0 g1 g2 g3 g4 g5 ih
 unfold q27_18
 dsimp only
 refine pst_t (K28_ok _ (by (repeat ((try dsimp only); first | assumption | (with_reducible first | apply G45_cur | apply G68_cur | apply G102_cur | apply G28_cur | apply G30_cur))))) ?_
 have b1 := w12 _ (below_bd 2 (c0, c1, c2, ()) g0 (by decide))
 have c5 : CurOk (G28 (((), 2, ()), (c0, c1, c2, ()), ())).2.1 := by (repeat ((try dsimp only); first | assumption | (with_reducible first | apply G45_cur | apply G68_cur | apply G102_cur | apply G28_cur | apply G30_cur)))
 generalize G28 (((), 2, ()), (c0, c1, c2, ()), ()) = A at *
 generalize IntKind.i64.wrap (12 + A.fst.fst) = n at *
 have e : IntKind.i64.wrap ((ws.length : Int) - 1) = ((ws.length - 1 : Nat) : Int) := by rw [w64 (by omega) (by omega)]; omega
 rw [e]
 by_cases hk : (ws.length : Int) < n
 ·refine pst_t (by simpa using hk) ?_
  refine pst_t (by simp; omega) ?_
  refine pst_t (capOk_of (by simp only [List.length_set, List.length_replicate]; omega)) ?_
  refine pst_t (by simp; omega) ?_
  refine pst_t (capOk_of (by simp only [List.length_set, List.length_replicate]; omega)) ?_
  have hm : List.getD sp (Int.toNat 0) (zero (Ty.slice Ty.jnk)) ∈ sp := by
   have h0 : 0 < sp.length := by omega
   show sp.getD 0 _ ∈ sp
   rw [List.getD_eq_getElem?_getD, List.getElem?_eq_getElem h0]
   exact List.getElem_mem h0
  refine ih _ ⟨c5, g1, ?_, ?_, ?_, ?_⟩ ?_
  ·simp only [List.length_append, List.length_set, List.length_replicate]; omega
  ·simp only [List.length_append, List.length_set, List.length_replicate]; omega
  ·simp only [List.length_append, List.length_set, List.length_replicate]; omega
  ·intro r hr
   rcases List.mem_append.1 hr with hr | hr
   ·exact g5 r hr
   ·rw [show r = _ from List.mem_singleton.1 hr]; exact g5 _ hm
  ·simp only [List.length_append, List.length_set, List.length_replicate]; omega
 ·have hd : decide ((ws.length : Int) < n) = false := by simpa using hk
  rw [hd]
  exact pst_some ⟨c5, g1, by show ws.length <= 14; omega, by show sp.length <= 14; omega, g5⟩
theorem zero_loop (v : V27_25) (hc : CurOk v.2.1) (hi : 0 <= (v.1.2.2.1 : Int) /\ (v.1.2.2.1 : Int) < (v.2.2.2.2.2.2.1.length : Int)) (hn : (v.1.2.2.2.1 : Int) = ((List.getD v.2.2.2.2.2.2.1 (v.1.2.2.1 : Int).toNat (zero (Ty.slice Ty.jnk))).length : Int)) (hs : (v.1.2.2.2.1 : Int) <= 22) (hk : v.1.2.2.2.2.1 = 0) :
 Pst (l27_25 v) fun y => CurOk y.2.1 /\ y.2.2.2.2 = v.2.2.2.2 := by
 unfold l27_25
 refine iter_ind (q := q27_25 K1047 G1047 K28 G28 K48 G48 K45 G45)
  (fun u => CurOk u.2.1 /\ u.2.2.2.2 = v.2.2.2.2 /\ u.1.2.2.1 = v.1.2.2.1 /\ u.1.2.2.2.1 = v.1.2.2.2.1 /\ 0 <= (u.1.2.2.2.2.1 : Int) /\ (u.1.2.2.2.2.1 : Int) <= v.1.2.2.2.1)
  (fun _ r => Pst r fun y => CurOk y.2.1 /\ y.2.2.2.2 = v.2.2.2.2)
  (fun u => (v.1.2.2.2.1 - u.1.2.2.2.2.1 : Int).toNat) ?_ _ _ ⟨hc, rfl, rfl, rfl, by rw [hk]; exact Int.le_refl 0, by rw [hk, hn]; exact Int.natCast_nonneg _⟩ (by rw [hk]; unfold b27_25; omega)
 clear hc hk
 rintro ⟨⟨_, _, i, n, k, _⟩, ⟨c0, c1, c2, _⟩, _, _, ws, as_, sp, _⟩ f ⟨g0, g1, g2, g3, g4, g5⟩ ih
 dsimp only at g0 g1 g2 g3 g4 g5 ih
 have es : sp = v.2.2.2.2.2.2.1 := congrArg (·.2.2.1) g1
 rw [<- g2, <- es] at hi
 rw [<- g2, <- g3, <- es] at hn
 rw [<- g3] at hs g5
 unfold q27_25
 dsimp only
 by_cases hk : k < n
 ·refine pst_t (by simpa using hk) ?_
  refine pst_t (by simp; omega) ?_
  rw [<- hn]
  refine pst_t (by simp; omega) ?_
  have e : IntKind.i64.wrap (k + 1) = k + 1 := w64 (by omega) (by omega)
  rw [e]
  refine ih _ ⟨g0, g1, g2, g3, ?_, ?_⟩ ?_
  ·show 0 <= k + 1; omega
  ·show k + 1 <= v.1.2.2.2.1; rw [<- g3]; omega
  ·show (v.1.2.2.2.1 - (k + 1) : Int).toNat < (v.1.2.2.2.1 - k : Int).toNat; rw [<- g3]; omega
 ·have hd : decide (k < n) = false := by simpa using hk
  rw [hd]
  exact pst_some ⟨g0, g1⟩
def p27 (x : I27.den) : Bool := curB x.2.1
def Q27 (x : I27.den) (y : O27.den) : Prop := CurOk y.2.1 /\ PolL y.1.1.1 y.1.1.2.1 y.1.1.2.2.1
theorem any_ok (x : I27.den) (hx : p27 x = true) (k : O27.den -> Option Unit) (hk : ∀ y, Q27 x y -> k y = some ()) :
 callSN (Γ27 K1047 G1047 K28 G28 K48 G48 K45 G45 kL27_18 xL27_18 kL27_25 xL27_25) (N27 p48 Q48 e48) (bodyOf Tryz.f27) I27 O27 k x = some () := by
 have hk : ∀ y : O27.den, CurOk y.2.1 /\ PolL y.1.1.1 y.1.1.2.1 y.1.1.2.2.1 -> k y = some () := hk
 have h : CurOk x.2.1 := curB_iff.1 hx
 refine Eq.trans (evN27 _ _ _ _ _ _ _ _ _ _ _ _ _ _ _ k x) ?_
 unfold rN27
 dsimp only
 haveI := e48
 have below : ∀ (n : Int) (c : List Int × Int × Int × Unit), CurOk c -> 0 < n -> 0 <= ((G28 (((), n, ()), c, ())).1.1 : Int) /\ ((G28 (((), n, ()), c, ())).1.1 : Int) < n := fun n c h hn => below_bd n c h hn
 refine all_t (K1047_ok (((), ()), x.snd) h) ?_
 obtain ⟨c1, hP⟩ := G1047_ok (((), ()), x.snd) h
 generalize G1047 (((), ()), x.snd) = A at *
 obtain ⟨_, c, ws, as_, sp, _⟩ := A
 dsimp only at c1 hP ⊢
 have hL := hP.some
 obtain ⟨p1, p2, p3, p4, -, p5, p6⟩ := hP
 refine all_t (K28_ok _ (by (repeat ((try dsimp only); first | assumption | (with_reducible first | apply G45_cur | apply G68_cur | apply G102_cur | apply G28_cur | apply G30_cur))))) ?_
 have b2 : 0 <= ((G28 (((), (ws.length : Int), ()), c, ())).1.1 : Int) /\ ((G28 (((), (ws.length : Int), ()), c, ())).1.1 : Int) < (ws.length : Int) := below _ c c1 (by omega)
 have c2 : CurOk (G28 (((), (ws.length : Int), ()), c, ())).2.1 := by (repeat ((try dsimp only); first | assumption | (with_reducible first | apply G45_cur | apply G68_cur | apply G102_cur | apply G28_cur | apply G30_cur)))
 generalize G28 (((), (ws.length : Int), ()), c, ()) = B at *
 refine all_t (K28_ok _ (by (repeat ((try dsimp only); first | assumption | (with_reducible first | apply G45_cur | apply G68_cur | apply G102_cur | apply G28_cur | apply G30_cur))))) ?_
 have b3 : 0 <= ((G28 (((), (as_.length : Int), ()), B.snd)).1.1 : Int) /\ ((G28 (((), (as_.length : Int), ()), B.snd)).1.1 : Int) < (as_.length : Int) := below _ B.2.1 c2 (by omega)
 have c3 : CurOk (G28 (((), (as_.length : Int), ()), B.snd)).2.1 := by (repeat ((try dsimp only); first | assumption | (with_reducible first | apply G45_cur | apply G68_cur | apply G102_cur | apply G28_cur | apply G30_cur)))
 generalize G28 (((), (as_.length : Int), ()), B.snd) = C at *
 refine all_t (K28_ok _ (by (repeat ((try dsimp only); first | assumption | (with_reducible first | apply G45_cur | apply G68_cur | apply G102_cur | apply G28_cur | apply G30_cur))))) ?_
 have c4 : CurOk (G28 (((), 24, ()), C.snd)).2.1 := by (repeat ((try dsimp only); first | assumption | (with_reducible first | apply G45_cur | apply G68_cur | apply G102_cur | apply G28_cur | apply G30_cur)))
 generalize G28 (((), 24, ()), C.snd) = D at *
 have i1 : (decide (0 <= (B.fst.fst : Int)) && decide ((B.fst.fst : Int) < (ws.length : Int))) = true := by simp [b2]
 have i2 : (decide (0 <= (B.fst.fst : Int)) && decide ((B.fst.fst : Int) < (sp.length : Int))) = true := by rw [p5]; exact i1
 have i3 : (decide (0 <= (C.fst.fst : Int)) && decide ((C.fst.fst : Int) < (as_.length : Int))) = true := by simp [b3]
 have hlt : (B.fst.fst : Int).toNat < sp.length := by
  rw [p5]
  exact tn_lt _ _ b2
 have hm : List.getD sp (Int.toNat B.fst.fst) (zero (Ty.slice Ty.jnk)) ∈ sp := by
  rw [List.getD_eq_getElem?_getD, List.getElem?_eq_getElem hlt]
  exact List.getElem_mem hlt
 have hml : (List.getD sp (Int.toNat B.fst.fst) (zero (Ty.slice Ty.jnk))).length = as_.length := p6 _ hm
 have i4 : (decide (0 <= (C.fst.fst : Int)) && decide ((C.fst.fst : Int) < ((List.getD sp (Int.toNat B.fst.fst) (zero (Ty.slice Ty.jnk))).length : Int))) = true := by rw [hml]; exact i3
 have hset : ∀ (i : Nat) (r : List Unit), r.length <= 22 -> PolL ws as_ (sp.set i r) := fun i r hr => ⟨hL.1, hL.2.1, by rw [List.length_set]; exact hL.2.2.1, fun u hu => by
  rcases List.mem_or_eq_of_mem_set hu with h1 | h1
  ·exact hL.2.2.2 u h1
  ·rw [h1]; exact hr⟩
 refine all_b (fun _ => ?_) (fun _ => ?_)
 ·refine allK_intro fun g => ?_
  have hp : p48 (((), 120, ()), D.snd) = true := curB_iff.2 c4
  refine all_t hp ?_
  refine all_t i1 ?_
  exact hk _ ⟨g.2 _ hp, by show (List.set ws _ _).length <= 14; rw [List.length_set]; exact hL.1, hL.2⟩
 refine all_b (fun _ => ?_) (fun _ => ?_)
 ·refine all_t (K45_ok _ (by (repeat ((try dsimp only); first | assumption | (with_reducible first | apply G45_cur | apply G68_cur | apply G102_cur | apply G28_cur | apply G30_cur))))) ?_
  refine all_t i3 ?_
  exact hk _ ⟨by (repeat ((try dsimp only); first | assumption | (with_reducible first | apply G45_cur | apply G68_cur | apply G102_cur | apply G28_cur | apply G30_cur))), hL.1, by show (List.set as_ _ _).length <= 22; rw [List.length_set]; exact hL.2.1, hL.2.2⟩
 refine all_b (fun _ => ?_) (fun _ => ?_)
 ·refine allK_intro fun g => ?_
  refine all_t i2 ?_
  have hp : p48 (((), 60, ()), D.snd) = true := curB_iff.2 c4
  refine all_t hp ?_
  refine all_t i4 ?_
  exact hk _ ⟨g.2 _ hp, hL⟩
 refine all_b (fun _ => ?_) (fun _ => ?_)
 ·refine all_t i2 ?_
  refine all_t (by rw [hml]; simp; omega) ?_
  refine all_t i2 ?_
  refine hk _ ⟨c4, hset _ _ ?_⟩
  simp only [List.length_drop, List.length_take]
  rw [hml]
  omega
 refine all_b (fun _ => ?_) (fun _ => ?_)
 ·refine all_t (by simp; omega) ?_
  refine hk _ ⟨c4, hL.1, hL.2.1, ?_, fun r hr => ?_⟩
  ·simp only [List.length_drop, List.length_take]; have := hL.2.2.1; omega
  ·exact hL.2.2.2 r (List.mem_of_mem_take (List.mem_of_mem_drop hr))
 refine all_b (fun _ => hk _ ⟨c4, PolL.nil⟩) (fun _ => ?_)
 refine all_b (fun _ => ?_) (fun _ => ?_)
 ·have hr := more_loop (((), (), (), ()), D.snd.fst, ((), (), (), ()), ((), (), (), ()), ws, as_, sp, ()) c4 ⟨p3, p4⟩ p5 hL.2.2.2
  refine all_t (pst_k hr) ?_
  have hx := pst_g (((), ((), ())), (([], (0, (0, ()))), (((), ((), ((), ()))), (((), ((), ((), ()))), ([], ([], ([], ()))))))) hr
  change CurOk (xL27_18 _).2.1 /\ (xL27_18 _).2.2.2.2.2.1 = as_ /\ (xL27_18 _).2.2.2.2.1.length <= 14 /\ (xL27_18 _).2.2.2.2.2.2.1.length <= 14 /\ _ at hx
  refine hk _ ⟨hx.1, hx.2.2.1, ?_, hx.2.2.2.1, hx.2.2.2.2⟩
  refine Nat.le_trans (Nat.le_of_eq ?_) hL.2.1
  exact congrArg List.length hx.2.1
 refine all_b (fun _ => ?_) (fun _ => ?_)
 ·refine all_t i2 ?_
  refine all_t i4 ?_
  exact hk _ ⟨c4, hL⟩
 refine all_b (fun _ => ?_) (fun _ => hk _ ⟨c4, hL⟩)
 refine all_t i2 ?_
 have hr := zero_loop (((), (), B.fst.fst, ((List.getD sp (Int.toNat B.fst.fst) (zero (Ty.slice Ty.jnk))).length : Int), 0, ()), D.snd.fst, ((), (), (), ()), ((), (), (), ()), ws, as_, sp, ()) c4
  (by show 0 <= (B.fst.fst : Int) /\ (B.fst.fst : Int) < (sp.length : Int); rw [p5]; exact b2) rfl (by show ((List.getD sp (Int.toNat B.fst.fst) (zero (Ty.slice Ty.jnk))).length : Int) <= 22; rw [hml]; omega) rfl
 refine all_t (pst_k hr) ?_
 have hx := pst_g (((), ((), ())), (([], (0, (0, ()))), (((), ((), ((), ()))), (((), ((), ((), ()))), ([], ([], ([], ()))))))) hr
 change CurOk (xL27_25 _).2.1 /\ (xL27_25 _).2.2.2.2 = (ws, as_, sp, ()) at hx
 have e1 := congrArg (·.1) hx.2
 have e2 := congrArg (·.2.1) hx.2
 have e3 := congrArg (·.2.2.1) hx.2
 dsimp only at e1 e2 e3
 refine hk _ ⟨hx.1, ?_⟩
 dsimp only
 rw [e1, e2, e3]
 exact hL
theorem e2027' : Nonempty (Ch I27 (unO O27) p27 fun x y => Q27 x (shpO O27 y)) := ⟨⟨fun _ => ((([], [], [], ()), ()), (curZ, ())), fun _ _ => ⟨curZ_ok, PolL.nil⟩⟩⟩
theorem fam27 : FamOK Tryz.prog 27 (sgFam true I27 (unO O27) p27 (fun x y => Q27 x (shpO O27 y)) e2027') :=
 sgX_ok env27 (N := N27 p48 Q48 e48) (mkN_ok ⟨fam48, trivial⟩) is27 noNLoops rfl (fun _ => rfl) (fun _ => rfl) (fun _ => rfl) any_ok
def wideB (b : Int × Int × Int × Unit × Unit) : Bool := decide (1 <= b.1) && (decide (b.1 <= 3) && decide (b.2.1 = 2))
def pL26_8 (v : V26_8) : Bool := curB v.2.1 && (wideB v.2.2.2.1 && (decide (0 <= v.1.2.2.2.2.2.2.1) && (decide (v.1.2.2.2.2.2.2.1 <= v.2.2.2.1.1 * 2) && decide ((v.2.2.2.2.2.1.length : Int) = v.1.2.2.2.2.2.2.1))))
def QL26_8 (v : V26_8) (y : X26_8) : Prop := CurOk y.2.1 /\ y.2.2.2.1 = v.2.2.2.1 /\ y.1.2.2.2.2.1 = v.1.2.2.2.2.1 /\ y.2.2.2.2.1 = v.2.2.2.2.1 /\ (y.2.2.2.2.2.1.length : Int) = v.2.2.2.1.1 * 2
theorem pL26_8_iff {v : V26_8} : pL26_8 v = true ↔ CurOk v.2.1 /\ (1 <= v.2.2.2.1.1 /\ v.2.2.2.1.1 <= 3 /\ v.2.2.2.1.2.1 = 2) /\ 0 <= v.1.2.2.2.2.2.2.1 /\ v.1.2.2.2.2.2.2.1 <= v.2.2.2.1.1 * 2 /\ (v.2.2.2.2.2.1.length : Int) = v.1.2.2.2.2.2.2.1 := by
 unfold pL26_8 wideB
 simp only [Bool.and_eq_true, decide_eq_true_eq, curB_iff]
theorem eL26_8 : Nonempty (ChL pL26_8 QL26_8) :=
 ⟨⟨fun v => (((), (), (), (0, 0), v.1.2.2.2.2.1, (), ()), (curZ, (0, 0, 0, (), ()), v.2.2.2.1, v.2.2.2.2.1, List.replicate (v.2.2.2.1.1 * 2).toNat (0, 0), ())),
  fun v hv => ⟨curZ_ok, rfl, rfl, rfl, by
   have h := pL26_8_iff.1 hv
   show ((List.replicate (v.2.2.2.1.1 * 2).toNat ((0 : Nat), (0 : Nat))).length : Int) = v.2.2.2.1.1 * 2
   rw [List.length_replicate]; omega⟩⟩⟩
def pL26_4 (v : V26_4) : Bool := curB v.2.1 && (wideB v.2.2.2.1 && (decide (0 <= v.1.2.2.2.2.1) && (decide ((v.2.2.2.2.1.length : Int) + v.1.2.2.2.2.1 <= 8) && (decide (1 <= (v.2.2.2.2.1.length : Int) + v.1.2.2.2.2.1) && v.2.2.2.2.1.all fun l => decide ((l.length : Int) = v.2.2.2.1.1 * 2)))))
def QL26_4 (v : V26_4) (y : X26_4) : Prop := CurOk y.2.1 /\ y.2.2.2.1 = v.2.2.2.1 /\ 1 <= y.2.2.2.2.1.length /\ y.2.2.2.2.1.length <= 8 /\ ∀ l ∈ y.2.2.2.2.1, (List.length l : Int) = v.2.2.2.1.1 * 2
theorem pL26_4_iff {v : V26_4} : pL26_4 v = true ↔ CurOk v.2.1 /\ (1 <= v.2.2.2.1.1 /\ v.2.2.2.1.1 <= 3 /\ v.2.2.2.1.2.1 = 2) /\ 0 <= v.1.2.2.2.2.1 /\ (v.2.2.2.2.1.length : Int) + v.1.2.2.2.2.1 <= 8 /\ 1 <= (v.2.2.2.2.1.length : Int) + v.1.2.2.2.2.1 /\ ∀ l ∈ v.2.2.2.2.1, (List.length l : Int) = v.2.2.2.1.1 * 2 := by
 unfold pL26_4 wideB
 simp only [Bool.and_eq_true, decide_eq_true_eq, curB_iff, List.all_eq_true]
theorem eL26_4 : Nonempty (ChL pL26_4 QL26_4) :=
 ⟨⟨fun v => (((), (), (), ()), (curZ, (0, 0, 0, (), ()), v.2.2.2.1, [List.replicate (v.2.2.2.1.1 * 2).toNat (0, 0)], ())),
  fun v hv => ⟨curZ_ok, rfl, Nat.le_refl 1, by show 1 <= 8; decide, by
   intro l hl
   have h := pL26_4_iff.1 hv
   rw [List.mem_singleton.1 hl]
   show ((List.replicate (v.2.2.2.1.1 * 2).toNat ((0 : Nat), (0 : Nat))).length : Int) = v.2.2.2.1.1 * 2
   rw [List.length_replicate]; omega⟩⟩⟩
theorem hour_loop (v : V26_8) (hv : pL26_8 v = true) (h : X26_8 -> Option Unit) (hq0 : ∀ y, QL26_8 v y -> h y = some ()) : ∃ n, iter (qN26_8 K28 G28 K44 G44 K30 G30 K45 G45 K46 G46 kL26_4 xL26_4 kL26_8 xL26_8 p44 Q44 e44 pL26_4 QL26_4 eL26_4 pL26_8 QL26_8 eL26_8 h) n v = some () := by
 have hv := pL26_8_iff.1 hv
 refine ⟨7, ?_⟩
 refine iter_ind (q := qN26_8 K28 G28 K44 G44 K30 G30 K45 G45 K46 G46 kL26_4 xL26_4 kL26_8 xL26_8 p44 Q44 e44 pL26_4 QL26_4 eL26_4 pL26_8 QL26_8 eL26_8 h)
  (fun u => CurOk u.2.1 /\ u.2.2.2.1 = v.2.2.2.1 /\ u.1.2.2.2.2.1 = v.1.2.2.2.2.1 /\ u.2.2.2.2.1 = v.2.2.2.2.1 /\ 0 <= u.1.2.2.2.2.2.2.1 /\ u.1.2.2.2.2.2.2.1 <= v.2.2.2.1.1 * 2 /\ (u.2.2.2.2.2.1.length : Int) = u.1.2.2.2.2.2.2.1)
  (fun _ r => r = some ()) (fun u => (6 - u.1.2.2.2.2.2.2.1).toNat) ?_ _ _ ⟨hv.1, rfl, rfl, rfl, hv.2.2.1, hv.2.2.2.1, hv.2.2.2.2⟩ (by omega)
 obtain ⟨-, ⟨w1, w2, w3⟩, -, -, -⟩ := hv
 rintro ⟨⟨_, _, _, ⟨w0, w9⟩, n, _, i, _⟩, ⟨c0, c1, c2, _⟩, ⟨b0, b1, b2, _, _⟩, ⟨a0, a1, a2, _, _⟩, hs, l, _⟩ f ⟨g0, g1, g2, g3, g4, g5, g6⟩ ih
 dsimp only at g0 g1 g2 g3 g4 g5 g6 ih
 have ea : a0 = v.2.2.2.1.1 := congrArg (·.1) g1
 have eb : a1 = 2 := (congrArg (·.2.1) g1).trans w3
 unfold qN26_8
 dsimp only
 have ew : IntKind.i64.wrap (a0 * a1) = v.2.2.2.1.1 * 2 := by rw [eb, ea]; exact w64 (by omega) (by omega)
 rw [ew]
 by_cases hk : i < v.2.2.2.1.1 * 2
 ·refine all_t (by simpa using hk) ?_
  have e : IntKind.i64.wrap (i + 1) = i + 1 := w64 (by omega) (by omega)
  refine all_t (K30_ok _ (by (repeat ((try dsimp only); first | assumption | (with_reducible first | apply G45_cur | apply G80_cur | apply G106_cur | apply G28_cur | apply G30_cur))))) ?_
  have c5 : CurOk (G30 (((), 3, ()), (c0, c1, c2, ()), ())).snd.fst := by (repeat ((try dsimp only); first | assumption | (with_reducible first | apply G45_cur | apply G80_cur | apply G106_cur | apply G28_cur | apply G30_cur)))
  generalize G30 (((), 3, ()), (c0, c1, c2, ()), ()) = A at *
  rw [e]
  refine all_b (fun _ => ?_) (fun _ => ?_)
  ·haveI := e44
   refine allK_intro fun g => ?_
   have hp : p44 (((), ()), A.snd) = true := curB_iff.2 c5
   refine all_t hp ?_
   refine all_t (capOk_of (by simp only [List.length_set, List.length_replicate]; omega)) ?_
   refine ih _ ⟨g.2 _ hp, g1, g2, g3, ?_, ?_, ?_⟩ ?_ <;> simp only [List.length_append, List.length_set, List.length_replicate] <;> omega
  ·refine all_t (capOk_of (by simp only [List.length_set, List.length_replicate]; omega)) ?_
   refine ih _ ⟨c5, g1, g2, g3, ?_, ?_, ?_⟩ ?_ <;> simp only [List.length_append, List.length_set, List.length_replicate] <;> omega
 ·have hd : decide (i < v.2.2.2.1.1 * 2) = false := by simpa using hk
  rw [hd]
  exact hq0 _ ⟨g0, g1, g2, g3, by show (l.length : Int) = _; omega⟩
theorem field_loop (v : V26_4) (hv : pL26_4 v = true) (h : X26_4 -> Option Unit) (hq0 : ∀ y, QL26_4 v y -> h y = some ()) : ∃ n, iter (qN26_4 K28 G28 K44 G44 K30 G30 K45 G45 K46 G46 kL26_4 xL26_4 kL26_8 xL26_8 p44 Q44 e44 pL26_4 QL26_4 eL26_4 pL26_8 QL26_8 eL26_8 h) n v = some () := by
 have hv := pL26_4_iff.1 hv
 refine ⟨9, ?_⟩
 refine iter_ind (q := qN26_4 K28 G28 K44 G44 K30 G30 K45 G45 K46 G46 kL26_4 xL26_4 kL26_8 xL26_8 p44 Q44 e44 pL26_4 QL26_4 eL26_4 pL26_8 QL26_8 eL26_8 h)
  (fun u => CurOk u.2.1 /\ u.2.2.2.1 = v.2.2.2.1 /\ 0 <= u.1.2.2.2.2.1 /\ (u.2.2.2.2.1.length : Int) + u.1.2.2.2.2.1 <= 8 /\ 1 <= (u.2.2.2.2.1.length : Int) + u.1.2.2.2.2.1 /\ ∀ l ∈ u.2.2.2.2.1, (List.length l : Int) = v.2.2.2.1.1 * 2)
  (fun _ r => r = some ()) (fun u => u.1.2.2.2.2.1.toNat) ?_ _ _ ⟨hv.1, rfl, hv.2.2⟩ (by omega)
 obtain ⟨-, ⟨w1, w2, w3⟩, -, -, -⟩ := hv
 rintro ⟨⟨_, _, _, w0, n, _⟩, ⟨c0, c1, c2, _⟩, ⟨b0, b1, b2, _, _⟩, ⟨a0, a1, a2, _, _⟩, hs, _⟩ f ⟨g0, g1, g2, g3, g4, g5⟩ ih
 dsimp only at g0 g1 g2 g3 g4 g5 ih
 have ea : a0 = v.2.2.2.1.1 := congrArg (·.1) g1
 have eb : a1 = 2 := (congrArg (·.2.1) g1).trans w3
 unfold qN26_4
 dsimp only
 have hz : List.replicate 0 (zero (Ty.cpx FloatKind.f32)) = [] := rfl
 rw [hz]
 by_cases hk : n > 0
 ·refine all_t (by simpa using hk) ?_
  have e : IntKind.i64.wrap (n - 1) = n - 1 := w64 (by omega) (by omega)
  have hu : pL26_8 (((), (), (), w0, n, (), 0, ()), (c0, c1, c2, ()), (b0, b1, b2, (), ()), (a0, a1, a2, (), ()), hs, [], ()) = true :=
   pL26_8_iff.2 ⟨g0, ⟨by show 1 <= a0; omega, by show a0 <= 3; omega, eb⟩, Int.le_refl 0, by show 0 <= a0 * 2; omega, rfl⟩
  refine all_t hu ?_
  haveI := eL26_8
  refine allK_intro fun g => ?_
  obtain ⟨q1, q2, q3, q4, q5⟩ := g.2 _ hu
  generalize g.val (((), (), (), w0, n, (), 0, ()), (c0, c1, c2, ()), (b0, b1, b2, (), ()), (a0, a1, a2, (), ()), hs, [], ()) = y at *
  obtain ⟨⟨_, _, _, w, n', _, _⟩, c, b, a, hs', l, _⟩ := y
  dsimp only at q1 q2 q3 q4 q5
  subst q2 q3 q4
  dsimp only
  rw [e]
  refine all_t (capOk_of (by simp only [List.length_set, List.length_replicate]; omega)) ?_
  refine ih _ ⟨q1, g1, ?_, ?_, ?_, ?_⟩ ?_
  ·show 0 <= n' - 1; omega
  ·simp only [List.length_append, List.length_set, List.length_replicate]; omega
  ·simp only [List.length_append, List.length_set, List.length_replicate]; omega
  ·intro t ht
   rcases List.mem_append.1 ht with h1 | h1
   ·exact g5 t h1
   ·rw [show t = l from List.mem_singleton.1 h1, q5, <- ea]
  ·show (n' - 1).toNat < n'.toNat; omega
 ·have hd : decide (n > 0) = false := by simpa using hk
  rw [hd]
  exact hq0 _ ⟨g0, g1, by show 1 <= hs.length; omega, by show hs.length <= 8; omega, g5⟩
theorem loops26 : NLoopsOK (Γ26 K28 G28 K44 G44 K30 G30 K45 G45 K46 G46 kL26_4 xL26_4 kL26_8 xL26_8) (N26 p44 Q44 e44 pL26_4 QL26_4 eL26_4 pL26_8 QL26_8 eL26_8) (bodyOf Tryz.f26) := by
 intro c' hc L hL
 have hl : loopsOf (bodyOf Tryz.f26) = [lc26_4, lc26_8] := by kernel_rfl
 rw [hl] at hc
 rcases List.mem_cons.1 hc with hc | hc
 ·subst hc
  have hr : firstRegion lc26_4 = 4 := by kernel_rfl
  rw [hr] at hL
  have hL' : some (loopXN [0, 2, 3, 4, 5] [.boxNil 3 3] 0 [0, 2, 3] [] sh26_4 shX26_4 pL26_4 QL26_4 eL26_4) = some L := hL
  rw [<- Option.some.inj hL']
  exact loopXN_sound (sh := sh26_4) (shX := shX26_4) (g := fun h f v => qN26_4 K28 G28 K44 G44 K30 G30 K45 G45 K46 G46 kL26_4 xL26_4 kL26_8 xL26_8 p44 Q44 e44 pL26_4 QL26_4 eL26_4 pL26_8 QL26_8 eL26_8 h f v) (fun h f v => evlN26_4 K28 G28 K44 G44 K30 G30 K45 G45 K46 G46 kL26_4 xL26_4 kL26_8 xL26_8 p44 Q44 e44 pL26_4 QL26_4 eL26_4 pL26_8 QL26_8 eL26_8 h f v) field_loop
 ·rw [List.mem_singleton] at hc
  subst hc
  have hr : firstRegion lc26_8 = 8 := by kernel_rfl
  rw [hr] at hL
  have hL' : some (loopXN [0, 2, 3, 4, 5, 6, 7] [] 2 [0, 2, 3, 4, 5, 6] [] sh26_8 shX26_8 pL26_8 QL26_8 eL26_8) = some L := hL
  rw [<- Option.some.inj hL']
  exact loopXN_sound (sh := sh26_8) (shX := shX26_8) (g := fun h f v => qN26_8 K28 G28 K44 G44 K30 G30 K45 G45 K46 G46 kL26_4 xL26_4 kL26_8 xL26_8 p44 Q44 e44 pL26_4 QL26_4 eL26_4 pL26_8 QL26_8 eL26_8 h f v) (fun h f v => evlN26_8 K28 G28 K44 G44 K30 G30 K45 G45 K46 G46 kL26_4 xL26_4 kL26_8 xL26_8 p44 Q44 e44 pL26_4 QL26_4 eL26_4 pL26_8 QL26_8 eL26_8 h f v) hour_loop
def HoursG (l : List (Den (.slice (.cpx .f32)))) : Prop := l.length <= 8 /\ ∀ t ∈ l, List.length t <= 6
theorem HoursG.nil : HoursG [] := ⟨Nat.zero_le _, fun _ h => by cases h⟩
def p26 (x : I26.den) : Bool := curB x.2.1
def Q26 (x : I26.den) (y : O26.den) : Prop := CurOk y.2.1 /\ HoursG y.1.1.2.2.2.1
theorem e26 : Nonempty (Ch I26 O26 p26 Q26) := ⟨⟨fun _ => (((0, 0, 0, [], ()), ()), (curZ, ())), fun _ _ => ⟨curZ_ok, HoursG.nil⟩⟩⟩
theorem field_n (d e : Int) (hd : 0 <= d /\ d < 3) (he : 0 <= e /\ e < 2) : 1 <= IntKind.i64.wrap (1 + IntKind.i64.wrap (d * e)) /\ IntKind.i64.wrap (1 + IntKind.i64.wrap (d * e)) <= 3 := by
 have h1 : 0 <= d * e /\ d * e <= 2 := by
  rcases (by omega : e = 0 ∨ e = 1) with h1 | h1 <;> rw [h1] <;> omega
 rw [w64 (x := d * e) (by omega) (by omega), w64 (by omega) (by omega)]
 omega
theorem field_w (a : Int) (h : 0 <= a /\ a < 2) : 1 <= IntKind.i64.wrap (2 + a) /\ IntKind.i64.wrap (2 + a) <= 3 := by
 rw [w64 (by omega) (by omega)]
 omega
theorem fam26 : FamOK Tryz.prog 26 (sgFam true I26 O26 p26 Q26 e26) := sgN_ok env26 (N := N26 p44 Q44 e44 pL26_4 QL26_4 eL26_4 pL26_8 QL26_8 eL26_8) (mkN_ok ⟨fam44, trivial⟩) is26 loops26 fun x hx k hk => by
 have hk : ∀ y : O26.den, CurOk y.2.1 /\ HoursG y.1.1.2.2.2.1 -> k y = some () := hk
 have h : CurOk x.2.1 := curB_iff.1 hx
 refine Eq.trans (evN26 _ _ _ _ _ _ _ _ _ _ _ _ _ _ _ _ _ _ _ _ _ _ _ k x) ?_
 unfold rN26
 dsimp only
 haveI := e44
 haveI := eL26_4
 have below : ∀ (n : Int) (c : List Int × Int × Int × Unit), CurOk c -> 0 < n -> 0 <= ((G28 (((), n, ()), c, ())).1.1 : Int) /\ ((G28 (((), n, ()), c, ())).1.1 : Int) < n := fun n c h hn => below_bd n c h hn
 refine all_t (K28_ok _ (by (repeat ((try dsimp only); first | assumption | (with_reducible first | apply G45_cur | apply G68_cur | apply G102_cur | apply G28_cur | apply G30_cur))))) ?_
 have b1 := below 2 x.2.1 h (by decide)
 have c1 : CurOk (G28 (((), 2, ()), x.snd)).snd.fst := by (repeat ((try dsimp only); first | assumption | (with_reducible first | apply G45_cur | apply G68_cur | apply G102_cur | apply G28_cur | apply G30_cur)))
 generalize hA : G28 (((), 2, ()), x.snd) = A at *
 have b1' : 0 <= (A.fst.fst : Int) /\ (A.fst.fst : Int) < 2 := by rw [<- hA]; exact below 2 x.2.1 h (by decide)
 clear hA b1
 refine all_t (K28_ok _ (by (repeat ((try dsimp only); first | assumption | (with_reducible first | apply G45_cur | apply G68_cur | apply G102_cur | apply G28_cur | apply G30_cur))))) ?_
 have c2 : CurOk (G28 (((), 3000, ()), A.snd)).snd.fst := by (repeat ((try dsimp only); first | assumption | (with_reducible first | apply G45_cur | apply G68_cur | apply G102_cur | apply G28_cur | apply G30_cur)))
 generalize G28 (((), 3000, ()), A.snd) = B at *
 refine allK_intro fun g => ?_
 have hp : p44 (((), ()), B.snd) = true := curB_iff.2 c2
 have q1 := g.2 _ hp
 have q1 : CurOk (g.val (((), ()), B.snd)).2.1 := q1
 refine all_t hp ?_
 generalize g.val (((), ()), B.snd) = C at *
 refine all_t (K28_ok _ (by (repeat ((try dsimp only); first | assumption | (with_reducible first | apply G45_cur | apply G68_cur | apply G102_cur | apply G28_cur | apply G30_cur))))) ?_
 have b3 : 0 <= ((G28 (((), 3, ()), C.snd)).1.1 : Int) /\ ((G28 (((), 3, ()), C.snd)).1.1 : Int) < 3 := below 3 C.2.1 q1 (by decide)
 have c3 : CurOk (G28 (((), 3, ()), C.snd)).snd.fst := by (repeat ((try dsimp only); first | assumption | (with_reducible first | apply G45_cur | apply G68_cur | apply G102_cur | apply G28_cur | apply G30_cur)))
 generalize G28 (((), 3, ()), C.snd) = D at *
 refine all_t (K28_ok _ (by (repeat ((try dsimp only); first | assumption | (with_reducible first | apply G45_cur | apply G68_cur | apply G102_cur | apply G28_cur | apply G30_cur))))) ?_
 have b4 : 0 <= ((G28 (((), 2, ()), D.snd)).1.1 : Int) /\ ((G28 (((), 2, ()), D.snd)).1.1 : Int) < 2 := below 2 D.2.1 c3 (by decide)
 have c4 : CurOk (G28 (((), 2, ()), D.snd)).snd.fst := by (repeat ((try dsimp only); first | assumption | (with_reducible first | apply G45_cur | apply G68_cur | apply G102_cur | apply G28_cur | apply G30_cur)))
 generalize G28 (((), 2, ()), D.snd) = E at *
 have hn : 1 <= IntKind.i64.wrap (1 + IntKind.i64.wrap (D.fst.fst * E.fst.fst)) /\ IntKind.i64.wrap (1 + IntKind.i64.wrap (D.fst.fst * E.fst.fst)) <= 3 := field_n _ _ b3 b4
 have hw : 1 <= IntKind.i64.wrap (2 + A.fst.fst) /\ IntKind.i64.wrap (2 + A.fst.fst) <= 3 := field_w _ b1'
 generalize IntKind.i64.wrap (1 + IntKind.i64.wrap (D.fst.fst * E.fst.fst)) = n at *
 generalize IntKind.i64.wrap (2 + A.fst.fst) = wd at *
 generalize IntKind.i64.wrap (100 + B.fst.fst) = m at *
 have hu : pL26_4 (((), (), (), C.fst.fst, n, ()), E.snd.fst, (0, 0, 0, (), ()), (wd, 2, m, (), ()), [], ()) = true :=
  pL26_4_iff.2 ⟨c4, ⟨hw.1, hw.2, rfl⟩, by show 0 <= n; omega, by show (0 : Int) + n <= 8; omega, by show 1 <= (0 : Int) + n; omega, fun _ h => by cases h⟩
 refine all_t hu ?_
 refine allK_intro fun g => ?_
 obtain ⟨s1, s2, s3, s4, s5⟩ := g.2 _ hu
 generalize g.val (((), (), (), C.fst.fst, n, ()), E.snd.fst, (0, 0, 0, (), ()), (wd, 2, m, (), ()), [], ()) = y at *
 obtain ⟨_, c, b, w, hs, _⟩ := y
 dsimp only at s1 s2 s3 s4 s5
 subst s2
 dsimp only
 have hg : HoursG hs := ⟨s4, fun t ht => by have := s5 t ht; omega⟩
 have c6 : CurOk (G28 (((), 30, ()), c, ())).snd.fst := by (repeat ((try dsimp only); first | assumption | (with_reducible first | apply G45_cur | apply G68_cur | apply G102_cur | apply G28_cur | apply G30_cur)))
 refine all_t (K28_ok _ (by (repeat ((try dsimp only); first | assumption | (with_reducible first | apply G45_cur | apply G68_cur | apply G102_cur | apply G28_cur | apply G30_cur))))) ?_
 generalize G28 (((), 30, ()), c, ()) = F at *
 refine all_b (fun _ => ?_) (fun _ => ?_)
 ·refine all_t (K45_ok _ (by (repeat ((try dsimp only); first | assumption | (with_reducible first | apply G45_cur | apply G68_cur | apply G102_cur | apply G28_cur | apply G30_cur))))) ?_
  exact hk _ ⟨by (repeat ((try dsimp only); first | assumption | (with_reducible first | apply G45_cur | apply G68_cur | apply G102_cur | apply G28_cur | apply G30_cur))), hg⟩
 refine all_b (fun _ => hk _ ⟨by (repeat ((try dsimp only); first | assumption | (with_reducible first | apply G45_cur | apply G68_cur | apply G102_cur | apply G28_cur | apply G30_cur))), hg⟩) (fun _ => ?_)
 refine all_b (fun _ => ?_) (fun _ => ?_)
 ·refine all_t (K46_ok _ (by (repeat ((try dsimp only); first | assumption | (with_reducible first | apply G45_cur | apply G68_cur | apply G102_cur | apply G28_cur | apply G30_cur)))) (by simp)) ?_
  exact hk _ ⟨G46_cur _ (by (repeat ((try dsimp only); first | assumption | (with_reducible first | apply G45_cur | apply G68_cur | apply G102_cur | apply G28_cur | apply G30_cur)))) (by simp), hg⟩
 refine all_b (fun _ => hk _ ⟨by (repeat ((try dsimp only); first | assumption | (with_reducible first | apply G45_cur | apply G68_cur | apply G102_cur | apply G28_cur | apply G30_cur))), HoursG.nil⟩) (fun _ => ?_)
 refine all_b (fun _ => ?_) (fun _ => hk _ ⟨by (repeat ((try dsimp only); first | assumption | (with_reducible first | apply G45_cur | apply G68_cur | apply G102_cur | apply G28_cur | apply G30_cur))), hg⟩)
 have d0 : (decide ((0 : Int) <= 0) && decide ((0 : Int) < (hs.length : Int))) = true := by simp; omega
 refine all_t d0 ?_
 have hm : List.getD hs (Int.toNat 0) (zero (Ty.slice (Ty.cpx FloatKind.f32))) ∈ hs := by
  have h0 : 0 < hs.length := by omega
  show hs.getD 0 _ ∈ hs
  rw [List.getD_eq_getElem?_getD, List.getElem?_eq_getElem h0]
  exact List.getElem_mem h0
 generalize List.getD hs (Int.toNat 0) (zero (Ty.slice (Ty.cpx FloatKind.f32))) = t at *
 have ht := s5 t hm
 have h6 := hg.2 t hm
 refine all_t (by simp; omega) ?_
 refine all_t d0 ?_
 refine hk _ ⟨c6, ?_, ?_⟩
 ·show (List.set hs _ _).length <= 8
  rw [List.length_set]; exact s4
 ·intro u hu
  rcases List.mem_or_eq_of_mem_set hu with h1 | h1
  ·exact hg.2 u h1
  ·rw [h1]
   simp only [List.length_drop, List.length_take]; omega
abbrev I2027:Sg:=⟨[.ptr 0],[.box (S72)]⟩
abbrev O2027:Sg:=⟨[.val (S30)],[.box (S72)]⟩
def K2027 (x:I2027.den):Bool:=false
def G2027 (x:I2027.den):O2027.den:=zeroSg O2027
theorem sem2027:SemOK Tryz.prog (27,sgMean true I2027 O2027 K2027 G2027):=sg_ok env27 is27 fun x h => by cases h
abbrev A13:Ty:=.cons (.slice (.int .u8)) (.nil)
abbrev R13:Ty:=.cons (S25) (.cons (S30) (.cons (.int .i64) (.cons (.int .i64) (.cons (.int .i64) (.nil)))))
def r13 (k25:KI I25) (g25:GI I25 O25) (k26:KI I26) (g26:GI I26 O26) (k2027:KI I2027) (g2027:GI I2027 O2027) (k29:KI I29) (g29:GI I29 O29) (k32:KI I32) (g32:GI I32 O32) (x:Den A13):Option (Den R13):=
 let v0:=(k25 (x,()))
 bif v0 then
 let v1:=(g25 (x,()))
 let v2:=(k26 (((),()),v1.2))
 bif v2 then
 let v3:=(g26 (((),()),v1.2))
 let v4:=(k2027 (((),()),v3.2))
 bif v4 then
 let v5:=(g2027 (((),()),v3.2))
 let v6:=(k29 (((),v3.1),v5.2))
 bif v6 then
 let v7:=(g29 (((),v3.1),v5.2))
 let v8:=(k29 (((),v3.1),v7.2))
 bif v8 then
 let v9:=(g29 (((),v3.1),v7.2))
 let v10:=(k32 (((),()),v9.2))
 bif v10 then
 let v11:=(g32 (((),()),v9.2))
 some ((v3.1.1.1,(v3.1.1.2.1,(v3.1.1.2.2.1,(v3.1.1.2.2.2.1,())))),((v5.1.1.1,(v5.1.1.2.1,(v5.1.1.2.2.1,()))),(v7.1.1,(v9.1.1,(v11.1.1,())))))
 else
 none
 else
 none
 else
 none
 else
 none
 else
 none
 else
 none
def F13 (x:Den A13):Option (Den R13):=r13 K25 G25 K26 G26 K2027 G2027 K29 G29 K32 G32 x
def K13 (x:Den A13):Bool:=(F13 x).isSome
def G13 (x:Den A13):Den R13:=(F13 x).getD (zero R13)
abbrev A6:Ty:=.cons (.slice (.int .u8)) (.nil)
abbrev R6:Ty:=.cons (S25) (.cons (S30) (.cons (.int .i64) (.cons (.int .i64) (.cons (.int .i64) (.nil)))))
def r6 (k13:KA A13) (g13:GA A13 R13) (x:Den A6):Option (Den R6):=
 let v0:=(k13 x)
 bif v0 then
 let v1:=(g13 x)
 some ((v1.1.1,(v1.1.2.1,(v1.1.2.2.1,(v1.1.2.2.2.1,())))),((v1.2.1.1,(v1.2.1.2.1,(v1.2.1.2.2.1,()))),(v1.2.2.1,(v1.2.2.2.1,(v1.2.2.2.2.1,())))))
 else
 none
def F6 (x:Den A6):Option (Den R6):=r6 K13 G13 x
def K6 (x:Den A6):Bool:=(F6 x).isSome
def G6 (x:Den A6):Den R6:=(F6 x).getD (zero R6)
abbrev A3:Ty:=.cons (.slice (.int .u8)) (.nil)
abbrev R3:Ty:=.cons (.bool) (.nil)
def r3 (k5:KA A5) (g5:GA A5 R5) (k6:KA A6) (g6:GA A6 R6) (k7:KI I7) (g7:GI I7 O7) (k8:KI I8) (g8:GI I8 O8) (k9:KI I9) (g9:GI I9 O9) (k10:KA A10) (g10:GA A10 R10) (x:Den A3):Option (Den R3):=
 let v0:=(k5 x)
 bif v0 then
 let v1:=(g5 x)
 bif v1.1 then
 some ((true),())
 else
 let v2:=(k6 x)
 bif v2 then
 let v3:=(g6 x)
 let v4:=(k7 (v3,()))
 bif v4 then
 let v5:=(k8 ((v3.1,v3.2.1,v3.2.2.1,v3.2.2.2.2),()))
 bif v5 then
 let v6:=(k9 ((v3.1,v3.2.1,v3.2.2.1,v3.2.2.2.2),()))
 bif v6 then
 let v7:=(g8 ((v3.1,v3.2.1,v3.2.2.1,v3.2.2.2.2),()))
 let v8:=(g9 ((v3.1,v3.2.1,v3.2.2.1,v3.2.2.2.2),()))
 bif ((↑(List.length v7.2.1):Int) != (↑(List.length v8.2.1):Int)) then
 some ((false),())
 else
 let v9:=(g7 (v3,()))
 bif ((↑(List.length v9.2.1):Int) == 0) then
 bif (decide (v3.2.2.2.1 < 0)) then
 some ((true),())
 else
 bif (decide (v3.2.2.2.1 ≥ (↑(List.length v7.2.1):Int))) then
 some ((true),())
 else
 bif (decide (0 <= v3.2.2.2.1) && decide (v3.2.2.2.1 < (↑(List.length v7.2.1):Int))) then
 let v10:=(List.getD v7.2.1 (Int.toNat v3.2.2.2.1) (zero (Ty.int IntKind.i64)))
 some ((v10 == -1),())
 else
 none
 else
 bif (decide (v3.2.2.2.1 < 0)) then
 some ((false),())
 else
 bif (decide (v3.2.2.2.1 ≥ (↑(List.length v7.2.1):Int))) then
 some ((false),())
 else
 bif (decide (0 <= 0) && decide (0 < (↑(List.length v9.2.1):Int))) then
 let v10:=(List.getD v9.2.1 (Int.toNat 0) (zero (Ty.int IntKind.i64)))
 bif (v10 != v3.2.2.1) then
 some ((false),())
 else
 let v11:=(IntKind.wrap IntKind.i64 ((↑(List.length v9.2.1):Int) - 1))
 bif (decide (0 <= v11) && decide (v11 < (↑(List.length v9.2.1):Int))) then
 let v12:=(List.getD v9.2.1 (Int.toNat v11) (zero (Ty.int IntKind.i64)))
 bif (v12 != v3.2.2.2.1) then
 some ((false),())
 else
 let v13:=(k10 (v3.1,v3.2.1,v9.2.1,v3.2.2.2.2))
 bif v13 then
 let v14:=(g10 (v3.1,v3.2.1,v9.2.1,v3.2.2.2.2))
 bif v14.2.1 then
 bif (decide (0 <= v3.2.2.2.1) && decide (v3.2.2.2.1 < (↑(List.length v7.2.1):Int))) then
 let v15:=(List.getD v7.2.1 (Int.toNat v3.2.2.2.1) (zero (Ty.int IntKind.i64)))
 some ((v14.1 == v15),())
 else
 none
 else
 some ((false),())
 else
 none
 else
 none
 else
 none
 else
 none
 else
 none
 else
 none
 else
 none
 else
 none
def F3 (x:Den A3):Option (Den R3):=r3 K5 G5 K6 G6 K7 G7 K8 G8 K9 G9 K10 G10 x
def K3 (x:Den A3):Bool:=(F3 x).isSome
def p2027 (x : I2027.den) : Bool := curB x.2.1
def PolM (p : List Nat × List Int × List (List Nat) × Unit) : Prop := p.1.length <= 14 /\ p.2.1.length <= 22 /\ p.2.2.1.length <= 14 /\ ∀ r ∈ p.2.2.1, r.length <= 22
def Q2027 (x : I2027.den) (y : O2027.den) : Prop := CurOk y.2.1 /\ PolM y.1.1
theorem e2027 : Nonempty (Ch I2027 O2027 p2027 Q2027) := ⟨⟨fun _ => ((([], [], [], ()), ()), (curZ, ())), fun _ _ => ⟨curZ_ok, Nat.zero_le _, Nat.zero_le _, Nat.zero_le _, fun _ h => by cases h⟩⟩⟩
theorem q27_iff (x : I27.den) (y : O2027.den) : Q27 x (shpO O27 y) ↔ Q2027 x y := by
 obtain ⟨⟨⟨ws, as_, sp, _⟩, _⟩, c, _⟩ := y
 have e2 : ∀ r : List Nat, List.length (shp (.slice .jnk) r) = r.length := fun r => List.length_map _
 show CurOk c /\ PolL (List.map (shp (.flt .f32)) ws) (List.map (shp (.int .i64)) as_) (List.map (shp (.slice .jnk)) sp) ↔ CurOk c /\ (ws.length <= 14 /\ as_.length <= 22 /\ sp.length <= 14 /\ ∀ r ∈ sp, r.length <= 22)
 unfold PolL
 simp only [List.length_map, List.mem_map, forall_exists_index, and_imp, forall_apply_eq_imp_iff₂, e2]
theorem fam_congr {P : Program} {f : Nat} {own : Bool} {I O : Sg} {ok : I.den -> Bool} {Q Q' : I.den -> O.den -> Prop} (e : ∀ x y, Q x y ↔ Q' x y) {hne : Nonempty (Ch I O ok Q)} {hne' : Nonempty (Ch I O ok Q')} (h : FamOK P f (sgFam own I O ok Q hne)) : FamOK P f (sgFam own I O ok Q' hne') := by
 have e : Q = Q' := funext fun x => funext fun y => propext (e x y)
 subst e
 exact h
theorem fam2027 : FamOK Tryz.prog 27 (sgFam true I2027 O2027 p2027 Q2027 e2027) := fam_congr (O := O2027) q27_iff fam27
set_option maxRecDepth 100000 in
theorem node2_ok (x : I29.den) (h : CurOk x.2.1) : Pst (F29 x) fun y => CurOk y.2.1 := by
 unfold F29 r29
 dsimp only
 refine pst_t (K30_ok _ (by (repeat ((try dsimp only); first | assumption | (with_reducible first | apply G45_cur | apply G68_cur | apply G102_cur | apply G28_cur | apply G30_cur))))) ?_
 refine pst_b (fun _ => ?_) (fun _ => ?_)
 ·refine pst_t (K46_ok _ (by (repeat ((try dsimp only); first | assumption | (with_reducible first | apply G45_cur | apply G68_cur | apply G102_cur | apply G28_cur | apply G30_cur)))) (by simp only [List.length_set, List.length_replicate]; decide)) ?_
  exact pst_some (G46_cur _ (by (repeat ((try dsimp only); first | assumption | (with_reducible first | apply G45_cur | apply G68_cur | apply G102_cur | apply G28_cur | apply G30_cur)))) (by simp only [List.length_set, List.length_replicate]; decide))
 ·refine pst_t (K28_ok _ (by (repeat ((try dsimp only); first | assumption | (with_reducible first | apply G45_cur | apply G68_cur | apply G102_cur | apply G28_cur | apply G30_cur))))) ?_
  exact pst_some (by (repeat ((try dsimp only); first | assumption | (with_reducible first | apply G45_cur | apply G68_cur | apply G102_cur | apply G28_cur | apply G30_cur))))
theorem K29_ok (x : I29.den) (h : CurOk x.2.1) : K29 x = true := pst_k (node2_ok x h)
theorem G29_cur (x : I29.den) (h : CurOk x.2.1) : CurOk (G29 x).2.1 := pst_g _ (node2_ok x h)
set_option maxRecDepth 100000 in
theorem time2_ok (x : I32.den) (h : CurOk x.2.1) : Pst (F32 x) fun y => CurOk y.2.1 := by
 unfold F32 r32
 dsimp only
 refine pst_t (K30_ok _ (by (repeat ((try dsimp only); first | assumption | (with_reducible first | apply G45_cur | apply G68_cur | apply G102_cur | apply G28_cur | apply G30_cur))))) ?_
 refine pst_b (fun _ => ?_) (fun _ => ?_)
 ·refine pst_t (K46_ok _ (by (repeat ((try dsimp only); first | assumption | (with_reducible first | apply G45_cur | apply G68_cur | apply G102_cur | apply G28_cur | apply G30_cur)))) (by simp only [List.length_set, List.length_replicate]; decide)) ?_
  exact pst_some (G46_cur _ (by (repeat ((try dsimp only); first | assumption | (with_reducible first | apply G45_cur | apply G68_cur | apply G102_cur | apply G28_cur | apply G30_cur)))) (by simp only [List.length_set, List.length_replicate]; decide))
 ·refine pst_t (K28_ok _ (by (repeat ((try dsimp only); first | assumption | (with_reducible first | apply G45_cur | apply G68_cur | apply G102_cur | apply G28_cur | apply G30_cur))))) ?_
  exact pst_some (by (repeat ((try dsimp only); first | assumption | (with_reducible first | apply G45_cur | apply G68_cur | apply G102_cur | apply G28_cur | apply G30_cur))))
theorem K32_ok (x : I32.den) (h : CurOk x.2.1) : K32 x = true := pst_k (time2_ok x h)
def codeB (l : List Int) : Bool := decide (l.length <= 1048576)
def amt (s : Nat) : Nat := bif flt .f32 s 0 then fneg .f32 s else s
theorem F84_eq (s : Nat) : F84 (s, ()) = some (amt s, ()) := by
 unfold F84 r84 amt
 cases flt .f32 s 0 <;> rfl
theorem F53_eq (s : Nat) : F53 (s, ()) = some (amt s, ()) := by
 unfold F53 r53 amt
 cases flt .f32 s 0 <;> rfl
def le100 (s : Nat) : Bool := flt .f32 (amt s) 1120403456 || feq .f32 (amt s) 1120403456
def velB (c : Nat × Nat) : Bool := le100 c.1 && le100 c.2
theorem F54_eq (c : Nat × Nat) : F54 (c, ()) = some (velB c, ()) := by
 unfold F54 r54 velB
 have e1 : F84 (c.1, ()) = some (amt c.1, ()) := F84_eq c.1
 have e2 : F84 (c.2, ()) = some (amt c.2, ()) := F84_eq c.2
 simp only [K84, G84, e1, e2, Option.isSome_some, Option.getD_some, cond_true]
 show (bif le100 c.1 then some (le100 c.2, ()) else some (false, ())) = _
 cases le100 c.1 <;> rfl
theorem F34_eq (c : Nat × Nat) : F34 (c, ()) = some (velB c, ()) := by
 unfold F34 r34 velB
 have e1 : F53 (c.1, ()) = some (amt c.1, ()) := F53_eq c.1
 have e2 : F53 (c.2, ()) = some (amt c.2, ()) := F53_eq c.2
 simp only [K53, G53, e1, e2, Option.isSome_some, Option.getD_some, cond_true]
 show (bif le100 c.1 then some (le100 c.2, ()) else some (false, ())) = _
 cases le100 c.1 <;> rfl
def atV (l : List (Nat × Nat)) (i : Nat) : Nat × Nat := l.getD i (0, 0)
def hourB (l : List (Nat × Nat)) : Bool := allFrom (fun i => velB (atV l i)) 0 l.length
theorem F35_eq (l : List (Nat × Nat)) (h : l.length <= 6) : F35 (l, ()) = some (hourB l, ()) := by
 have hl : l35_2 ((l, (l.length : Int), (0 : Int), ()), ()) = some (bif hourB l then .inl ((), ()) else .inr ((false, ()), ())) := by
  refine (iter_allB (q := q35_2 K54 G54) (fun k => ((l, (l.length : Int), (k : Int), ()), ())) l.length (fun i => velB (atV l i)) _ _ ?_ ?_ _ ?_ : _)
  ·intro k f hk
   unfold q35_2
   have e1 : decide ((k : Int) < (l.length : Int)) = true := by simpa using hk
   have e2 : decide (0 <= (k : Int)) = true := by simp
   have ha : List.getD l k (zero (Ty.cpx FloatKind.f32)) = atV l k := rfl
   have e3 : F54 (atV l k, ()) = some (velB (atV l k), ()) := F54_eq _
   simp only [w64n k (by omega), e1, e2, Bool.and_self, cond_true, Int.toNat_natCast, ha, K54, G54, e3, Option.isSome_some, Option.getD_some]
   cases velB (atV l k) <;> rfl
  ·intro f
   simp [q35_2]
  ·simp only [b35_2]; omega
 unfold F35 r35
 simp only [kL35_2, tL35_2, yL35_2, hl, Option.isSome_some, cond_true]
 cases hourB l <;> rfl
def inB (x a b : Int) : Bool := decide (a <= x) && decide (x <= b)
theorem F22_eq (x a b : Int) : F22 (x, a, b, ()) = some (inB x a b, ()) := by
 unfold F22 r22 inB
 show (bif decide (x ≥ a) then some (decide (x <= b), ()) else some (false, ())) = _
 show (bif decide (a <= x) then some (decide (x <= b), ()) else some (false, ())) = _
 cases decide (a <= x) <;> rfl
theorem F18_eq (x a b : Int) : F18 (x, a, b, ()) = some (inB x a b, ()) := F22_eq x a b
abbrev FieldT : Type := Int × Int × Int × List (List (Nat × Nat)) × Unit
def atH (f : FieldT) (i : Nat) : List (Nat × Nat) := f.2.2.2.1.getD i []
def hourOk (f : FieldT) (i : Nat) : Bool := decide (((atH f i).length : Int) = IntKind.i64.wrap (f.1 * f.2.1)) && hourB (atH f i)
def fieldOkB (f : FieldT) : Bool := inB f.1 2 12 && (inB f.2.1 2 12 && (inB f.2.2.1 10 100000 && (inB (f.2.2.2.1.length : Int) 1 24 && allFrom (hourOk f) 0 f.2.2.2.1.length)))
theorem atH_len {f : FieldT} (h : HoursG f.2.2.2.1) (i : Nat) : (atH f i).length <= 6 := by
 unfold atH
 rw [List.getD_eq_getElem?_getD]
 by_cases hi : i < f.2.2.2.1.length
 ·rw [List.getElem?_eq_getElem hi]
  exact h.2 _ (List.getElem_mem hi)
 ·rw [List.getElem?_eq_none (by omega)]
  exact Nat.zero_le _
theorem F20_eq (f : FieldT) (h : HoursG f.2.2.2.1) : F20 (f, ()) = some (fieldOkB f, ()) := by
 obtain ⟨a, b, m, hs, _⟩ := f
 have hlen : hs.length <= 8 := h.1
 have hl : l20_4 (((), hs, (hs.length : Int), (0 : Int), ()), (a, b, m, hs, ()), ()) = some (bif allFrom (hourOk (a, b, m, hs, ())) 0 hs.length then .inl ((), ()) else .inr ((false, ()), ())) := by
  refine (iter_allB (q := q20_4 K22 G22 K35 G35) (fun k => (((), hs, (hs.length : Int), (k : Int), ()), (a, b, m, hs, ()), ())) hs.length (hourOk (a, b, m, hs, ())) _ _ ?_ ?_ _ ?_ : _)
  ·intro k f hk
   unfold q20_4 hourOk
   have e1 : decide ((k : Int) < (hs.length : Int)) = true := by simpa using hk
   have e2 : decide (0 <= (k : Int)) = true := by simp
   have ha : List.getD hs k (zero (Ty.slice (Ty.cpx FloatKind.f32))) = atH (a, b, m, hs, ()) k := rfl
   have e3 : F35 (atH (a, b, m, hs, ()) k, ()) = some (hourB (atH (a, b, m, hs, ()) k), ()) := F35_eq _ (atH_len h k)
   simp only [w64n k (by omega), e1, e2, Bool.and_self, cond_true, Int.toNat_natCast, ha, K35, G35, e3, Option.isSome_some, Option.getD_some]
   by_cases hc : ((atH (a, b, m, hs, ()) k).length : Int) = IntKind.i64.wrap (a * b)
   ·simp only [hc, bne_self_eq_false, cond_false, decide_true, Bool.true_and]
    cases hourB (atH (a, b, m, hs, ()) k) <;> rfl
   ·have : (((atH (a, b, m, hs, ()) k).length : Int) != IntKind.i64.wrap (a * b)) = true := by simpa using hc
    simp only [this, hc, cond_true, decide_false, Bool.false_and, cond_false]
  ·intro f
   simp [q20_4]
  ·simp only [b20_4]; omega
 have i1 : F22 (a, 2, 12, ()) = some (inB a 2 12, ()) := F22_eq _ _ _
 have i2 : F22 (b, 2, 12, ()) = some (inB b 2 12, ()) := F22_eq _ _ _
 have i3 : F22 (m, 10, 100000, ()) = some (inB m 10 100000, ()) := F22_eq _ _ _
 have i4 : F22 ((hs.length : Int), 1, 24, ()) = some (inB (hs.length : Int) 1 24, ()) := F22_eq _ _ _
 unfold F20 r20 fieldOkB
 simp only [K22, G22, i1, i2, i3, i4, kL20_4, tL20_4, yL20_4, hl, Option.isSome_some, Option.getD_some, cond_true]
 cases inB a 2 12 <;> cases inB b 2 12 <;> cases inB m 10 100000 <;> cases inB (hs.length : Int) 1 24 <;> cases allFrom (hourOk (a, b, m, hs, ())) 0 hs.length <;> rfl
theorem hour38 (f : FieldT) (h : HoursG f.2.2.2.1) (k : Nat) (hk : k < f.2.2.2.1.length) : l16_9 (((), (k : Int), (0 : Int), ()), (f, ())) = some (bif hourB (atH f k) then .inl (((), (k : Int), ()), (f, ())) else .inr ((false, ()), ())) := by
 have h6 := atH_len h k
 obtain ⟨a, b, m, hs, _⟩ := f
 have hk : k < hs.length := hk
 have h6 : (atH (a, b, m, hs, ()) k).length <= 6 := h6
 refine (iter_allB (q := q16_9 K18 G18 K34 G34) (fun j => (((), (k : Int), (j : Int), ()), ((a, b, m, hs, ()), ()))) (atH (a, b, m, hs, ()) k).length (fun i => velB (atV (atH (a, b, m, hs, ()) k) i)) _ _ ?_ ?_ _ ?_ : _)
 ·intro j f hj
  unfold q16_9
  have e1 : decide ((k : Int) < (hs.length : Int)) = true := by simpa using hk
  have e2 : decide (0 <= (k : Int)) = true := by simp
  have e4 : decide ((j : Int) < ((atH (a, b, m, hs, ()) k).length : Int)) = true := by simpa using hj
  have e5 : decide (0 <= (j : Int)) = true := by simp
  have ha : List.getD hs k (zero (Ty.slice (Ty.cpx FloatKind.f32))) = atH (a, b, m, hs, ()) k := rfl
  have hb : ∀ l : List (Nat × Nat), List.getD l j (zero (Ty.cpx FloatKind.f32)) = atV l j := fun _ => rfl
  have e3 : F34 (atV (atH (a, b, m, hs, ()) k) j, ()) = some (velB (atV (atH (a, b, m, hs, ()) k) j), ()) := F34_eq _
  simp only [w64n j (by omega), e1, e2, Bool.and_self, cond_true, Int.toNat_natCast, ha]
  have hb' : List.getD (atH (a, b, m, hs, ()) k) j (zero (Ty.cpx FloatKind.f32)) = atV (atH (a, b, m, hs, ()) k) j := rfl
  simp only [e4, e5, Bool.and_self, cond_true, hb', K34, G34, e3, Option.isSome_some, Option.getD_some]
  cases velB (atV (atH (a, b, m, hs, ()) k) j) <;> rfl
 ·intro f
  unfold q16_9
  have e1 : decide ((k : Int) < (hs.length : Int)) = true := by simpa using hk
  have e2 : decide (0 <= (k : Int)) = true := by simp
  have ha : List.getD hs k (zero (Ty.slice (Ty.cpx FloatKind.f32))) = atH (a, b, m, hs, ()) k := rfl
  simp only [e1, e2, Bool.and_self, cond_true, Int.toNat_natCast, ha, Int.lt_irrefl, decide_false, cond_false]
 ·simp only [b16_9]; omega
theorem F16_eq (f : FieldT) (h : HoursG f.2.2.2.1) : F16 (f, ()) = some (fieldOkB f, ()) := by
 have h38 := hour38 f h
 obtain ⟨a, b, m, hs, _⟩ := f
 have hlen : hs.length <= 8 := h.1
 have hl : l16_4 (((), (0 : Int), ()), (a, b, m, hs, ()), ()) = some (bif allFrom (hourOk (a, b, m, hs, ())) 0 hs.length then .inl ((), ()) else .inr ((false, ()), ())) := by
  refine (iter_allB (q := q16_4 K18 G18 K34 G34 kL16_9 xL16_9 tL16_9 yL16_9) (fun k => (((), (k : Int), ()), (a, b, m, hs, ()), ())) hs.length (hourOk (a, b, m, hs, ())) _ _ ?_ ?_ _ ?_ : _)
  ·intro k f hk
   have e3 : l16_9 (((), (k : Int), (0 : Int), ()), ((a, b, m, hs, ()), ())) = some (bif hourB (atH (a, b, m, hs, ()) k) then .inl (((), (k : Int), ()), ((a, b, m, hs, ()), ())) else .inr ((false, ()), ())) := h38 k hk
   unfold q16_4 hourOk
   have e1 : decide ((k : Int) < (hs.length : Int)) = true := by simpa using hk
   have e2 : decide (0 <= (k : Int)) = true := by simp
   have ha : List.getD hs k (zero (Ty.slice (Ty.cpx FloatKind.f32))) = atH (a, b, m, hs, ()) k := rfl
   simp only [e1, e2, Bool.and_self, cond_true, Int.toNat_natCast, ha, kL16_9, tL16_9, xL16_9, yL16_9, e3, Option.isSome_some]
   by_cases hc : ((atH (a, b, m, hs, ()) k).length : Int) = IntKind.i64.wrap (a * b)
   ·simp only [hc, bne_self_eq_false, cond_false, decide_true, Bool.true_and]
    cases hourB (atH (a, b, m, hs, ()) k)
    ·rfl
    ·simp only [cond_true, isR, xOf, cond_false, w64n k (by omega)]
   ·have : (((atH (a, b, m, hs, ()) k).length : Int) != IntKind.i64.wrap (a * b)) = true := by simpa using hc
    simp only [this, hc, cond_true, decide_false, Bool.false_and, cond_false]
  ·intro f
   simp [q16_4]
  ·simp only [b16_4]; omega
 have i1 : F18 (a, 2, 12, ()) = some (inB a 2 12, ()) := F18_eq _ _ _
 have i2 : F18 (b, 2, 12, ()) = some (inB b 2 12, ()) := F18_eq _ _ _
 have i3 : F18 (m, 10, 100000, ()) = some (inB m 10 100000, ()) := F18_eq _ _ _
 have i4 : F18 ((hs.length : Int), 1, 24, ()) = some (inB (hs.length : Int) 1 24, ()) := F18_eq _ _ _
 unfold F16 r16 fieldOkB
 simp only [K18, G18, i1, i2, i3, i4, kL16_4, tL16_4, yL16_4, hl, Option.isSome_some, Option.getD_some, cond_true]
 cases inB a 2 12 <;> cases inB b 2 12 <;> cases inB m 10 100000 <;> cases inB (hs.length : Int) 1 24 <;> cases allFrom (hourOk (a, b, m, hs, ())) 0 hs.length <;> rfl
def pos (f : FieldT) (n : Int) : Nat × Nat := (FloatKind.nearest .f64 (IntKind.i64.wrap (IntKind.i64.wrap (Int.tdiv n f.1) * f.2.2.1)), FloatKind.nearest .f64 (IntKind.i64.wrap (Int.tmod n f.1 * f.2.2.1)))
def hasB (f : FieldT) (n : Int) : Bool := inB n 0 (IntKind.i64.wrap (IntKind.i64.wrap (f.1 * f.2.1) - 1))
def nodeV (f : FieldT) (n : Int) : (Nat × Nat) × Bool × Unit := bif fieldOkB f && hasB f n then (pos f n, true, ()) else ((0, 0), false, ())
theorem okB_wide {f : FieldT} (h : fieldOkB f = true) : inB f.1 2 12 = true /\ inB f.2.1 2 12 = true /\ inB f.2.2.1 10 100000 = true /\ inB (f.2.2.2.1.length : Int) 1 24 = true /\ allFrom (hourOk f) 0 f.2.2.2.1.length = true := by
 unfold fieldOkB at h
 simpa only [Bool.and_eq_true] using h
theorem F43_eq (f : FieldT) (n : Int) (h : f.1 ≠ 0) : F43 (f, n, ()) = some (pos f n, ()) := by
 have : (f.1 != 0) = true := by simpa using h
 unfold F43 r43
 simp only [this, cond_true]
 rfl
theorem F70_eq (f : FieldT) (n : Int) (h : f.1 ≠ 0) : F70 (f, n, ()) = some (pos f n, ()) := F43_eq f n h
theorem F15_eq (f : FieldT) (n : Int) : F15 (f, n, ()) = some (hasB f n, ()) := by
 have e : F22 (n, 0, IntKind.i64.wrap (IntKind.i64.wrap (f.1 * f.2.1) - 1), ()) = some (hasB f n, ()) := F22_eq _ _ _
 unfold F15 r15
 simp only [K22, G22, e, Option.isSome_some, Option.getD_some, cond_true]
theorem wide_ne {f : FieldT} (h : fieldOkB f = true) : f.1 ≠ 0 := by
 have := (okB_wide h).1
 simp only [inB, Bool.and_eq_true, decide_eq_true_eq] at this
 omega
theorem F51_eq (f : FieldT) (n : Int) (h : HoursG f.2.2.2.1) : F51 (f, n, ()) = some (nodeV f n) := by
 have e1 : F16 (f, ()) = some (fieldOkB f, ()) := F16_eq f h
 have e2 : F18 (n, 0, IntKind.i64.wrap (IntKind.i64.wrap (f.1 * f.2.1) - 1), ()) = some (hasB f n, ()) := F18_eq _ _ _
 unfold F51 r51 nodeV
 simp only [K16, G16, e1, K18, G18, e2, Option.isSome_some, Option.getD_some, cond_true]
 cases hb : fieldOkB f with
 | false => rfl
 | true =>
   have e3 := F70_eq f n (wide_ne hb)
   simp only [K70, G70, e3, Option.isSome_some, Option.getD_some, cond_true]
   cases hasB f n <;> rfl
def air (f : FieldT) (i n : Nat) : Nat × Nat := atV (atH f i) n
def hourOf (f : FieldT) (t : Int) : Int := imin (IntKind.i64.wrap (Int.tdiv t 3600)) (IntKind.i64.wrap ((f.2.2.2.1.length : Int) - 1))
def windV (f : FieldT) (n t : Int) : (Nat × Nat) × Bool × Unit := bif fieldOkB f && (hasB f n && inB t 0 10000000) then (air f (hourOf f t).toNat n.toNat, true, ()) else ((0, 0), false, ())
theorem F23_eq (t : Int) : F23 (t, ()) = some (inB t 0 10000000, ()) := by
 have e : F22 (t, 0, 10000000, ()) = some (inB t 0 10000000, ()) := F22_eq _ _ _
 unfold F23 r23
 simp only [K22, G22, e, Option.isSome_some, Option.getD_some, cond_true]
theorem node_in {f : FieldT} (h : fieldOkB f = true) {n : Int} (hn : hasB f n = true) {i : Nat} (hi : i < f.2.2.2.1.length) : 0 <= n /\ n < ((atH f i).length : Int) := by
 obtain ⟨h1, h2, h3, h4, h5⟩ := okB_wide h
 have h6 := allFrom_iff.1 h5 i (Nat.zero_le _) (by omega)
 simp only [hourOk, Bool.and_eq_true, decide_eq_true_eq] at h6
 simp only [inB, Bool.and_eq_true, decide_eq_true_eq] at h1 h2
 simp only [hasB, inB, Bool.and_eq_true, decide_eq_true_eq] at hn
 have ha : 0 <= f.1 * f.2.1 := Int.mul_nonneg (by omega) (by omega)
 have hb : f.1 * f.2.1 <= 12 * 12 := Int.mul_le_mul h1.2 h2.2 (by omega) (by omega)
 have e1 : IntKind.i64.wrap (f.1 * f.2.1) = f.1 * f.2.1 := w64 (by omega) (by omega)
 rw [e1] at h6 hn
 rw [w64 (by omega) (by omega)] at hn
 omega
theorem hour_in {f : FieldT} (h : fieldOkB f = true) {t : Int} (ht : inB t 0 10000000 = true) : 0 <= hourOf f t /\ hourOf f t < (f.2.2.2.1.length : Int) := by
 obtain ⟨h1, h2, h3, h4, h5⟩ := okB_wide h
 simp only [inB, Bool.and_eq_true, decide_eq_true_eq] at h4 ht
 have e : Int.tdiv t 3600 = t / 3600 := Int.tdiv_eq_ediv_of_nonneg ht.1
 unfold hourOf
 rw [e, w64 (x := t / 3600) (by omega) (by omega), w64 (x := (f.2.2.2.1.length : Int) - 1) (by omega) (by omega)]
 unfold imin
 split <;> omega
theorem F39_eq (f : FieldT) (n t : Int) (h : HoursG f.2.2.2.1) : F39 (f, n, t, ()) = some (windV f n t) := by
 have e1 : F20 (f, ()) = some (fieldOkB f, ()) := F20_eq f h
 have e2 : F15 (f, n, ()) = some (hasB f n, ()) := F15_eq f n
 have e3 : F23 (t, ()) = some (inB t 0 10000000, ()) := F23_eq t
 unfold F39 r39 windV
 simp only [K20, G20, e1, K15, G15, e2, K23, G23, e3, Option.isSome_some, Option.getD_some, cond_true]
 cases hb : fieldOkB f with
 | false => rfl
 | true =>
 cases hn : hasB f n with
 | false => rfl
 | true =>
 cases ht : inB t 0 10000000 with
 | false => rfl
 | true =>
   obtain ⟨q1, q2⟩ := hour_in hb ht
   have hi : (hourOf f t).toNat < f.2.2.2.1.length := by omega
   obtain ⟨q3, q4⟩ := node_in hb hn hi
   have d1 : (decide (0 <= hourOf f t) && decide (hourOf f t < (f.2.2.2.1.length : Int))) = true := by simp only [Bool.and_eq_true, decide_eq_true_eq]; exact ⟨q1, q2⟩
   have d2 : (decide (0 <= n) && decide (n < ((atH f (hourOf f t).toNat).length : Int))) = true := by simp only [Bool.and_eq_true, decide_eq_true_eq]; exact ⟨q3, q4⟩
   show (bif (decide (0 <= hourOf f t) && decide (hourOf f t < (f.2.2.2.1.length : Int))) then
    bif (decide (0 <= n) && decide (n < ((atH f (hourOf f t).toNat).length : Int))) then some (air f (hourOf f t).toNat n.toNat, true, ()) else none else none) = _
   rw [d1, cond_true, d2, cond_true]
   rfl
theorem d_sw : Ieee.double.signWeight = 2 ^ 63 := by decide
theorem d_inf : Ieee.double.infRung = 2047 * 2 ^ 52 := by decide
theorem d_bin : Ieee.double.binade = 2 ^ 52 := by decide
theorem d_lp : Ieee.double.leastPlace = -1074 := by decide
theorem d_fb : Ieee.double.fractionBits = 52 := by decide
theorem readD_word (neg : Bool) (K e : Nat) (h1 : e * 2 ^ 52 + K < 2047 * 2 ^ 52) (h2 : (e = 0 /\ K <= 2 ^ 53) ∨ (2 ^ 52 <= K /\ K <= 2 ^ 53)) :
 ∃ (m : Nat) (c : Nat), Ieee.double.read (Ieee.double.word neg (e * 2 ^ 52 + K)) = .number neg m ((c : Int) - 1074) /\ m * 2 ^ c = K * 2 ^ e := by
 have hr : Ieee.double.word neg (e * 2 ^ 52 + K) % Ieee.double.signWeight = e * 2 ^ 52 + K := by
  unfold Ieee.Format.word
  rw [d_sw]
  split <;> omega
 have hn : (Ieee.double.word neg (e * 2 ^ 52 + K) / Ieee.double.signWeight % 2 == 1) = neg := by
  unfold Ieee.Format.word
  rw [d_sw]
  cases neg
  ·rw [if_neg (by decide)]
   have : (e * 2 ^ 52 + K) / 2 ^ 63 = 0 := Nat.div_eq_of_lt (by omega)
   rw [this]; rfl
  ·rw [if_pos rfl]
   have : (2 ^ 63 + (e * 2 ^ 52 + K)) / 2 ^ 63 = 1 := by omega
   rw [this]; rfl
 unfold Ieee.Format.read
 dsimp only
 rw [hr, hn, d_bin, d_inf, d_lp]
 by_cases c1 : e * 2 ^ 52 + K < 2 ^ 52
 ·rw [if_pos c1]
  have : e = 0 := by omega
  subst this
  exact ⟨K, 0, by simp, by simp⟩
 ·rw [if_neg c1, if_pos h1]
  by_cases c2 : K < 2 ^ 52
  ·exfalso; omega
  by_cases c3 : K = 2 ^ 53
  ·have e1 : (e * 2 ^ 52 + K) / 2 ^ 52 = e + 2 := by omega
   have e2 : (e * 2 ^ 52 + K) % 2 ^ 52 = 0 := by omega
   rw [e1, e2]
   refine ⟨2 ^ 52, e + 1, ?_, ?_⟩
   ·rw [show ((-1074 : Int) + ((e + 2 - 1 : Nat) : Int)) = ((e + 1 : Nat) : Int) - 1074 by omega, Nat.add_zero]
   ·rw [c3, <- Nat.pow_add, <- Nat.pow_add]
    congr 1
    omega
  ·have e1 : (e * 2 ^ 52 + K) / 2 ^ 52 = e + 1 := by omega
   have e2 : (e * 2 ^ 52 + K) % 2 ^ 52 = K - 2 ^ 52 := by omega
   rw [e1, e2]
   refine ⟨K, e, ?_, rfl⟩
   rw [show ((-1074 : Int) + ((e + 1 - 1 : Nat) : Int)) = ((e : Nat) : Int) - 1074 by omega, show 2 ^ 52 + (K - 2 ^ 52) = K by omega]
def VU (s : Bool) (m c : Nat) : Int := if s then -((m * 2 ^ c : Nat) : Int) else ((m * 2 ^ c : Nat) : Int)
def isD (b : Nat) (v : Int) : Prop := ∃ (s : Bool) (m c : Nat), Ieee.double.read b = .number s m ((c : Int) - 1074) /\ v = VU s m c
theorem signed_V (s : Bool) (m c d : Nat) (h : d <= c) : Ieee.signed s m (c - d) * ((2 ^ d : Nat) : Int) = VU s m c := by
 have e : m * 2 ^ (c - d) * 2 ^ d = m * 2 ^ c := by rw [Nat.mul_assoc, <- Nat.pow_add]; congr 2; omega
 unfold Ieee.signed VU
 rw [Nat.shiftLeft_eq]
 split
 ·rw [Int.neg_mul, <- Int.natCast_mul, e]
 ·rw [<- Int.natCast_mul, e]
theorem cmp_mul (a b k : Int) (hk : 0 < k) : compare (a * k) (b * k) = compare a b := by
 have h1 : a * k < b * k ↔ a < b := Int.mul_lt_mul_right hk
 have h2 : b * k < a * k ↔ b < a := Int.mul_lt_mul_right hk
 rw [Int.compare_eq_ite_lt, Int.compare_eq_ite_lt]
 simp only [h1, h2]
theorem order_V (s t : Bool) (m n c d : Nat) : Ieee.Datum.order (.number s m ((c : Int) - 1074)) (.number t n ((d : Int) - 1074)) = some (compare (VU s m c) (VU t n d)) := by
 unfold Ieee.Datum.order
 dsimp only
 have e1 : (((c : Int) - 1074) - min ((c : Int) - 1074) ((d : Int) - 1074)).toNat = c - min c d := by omega
 have e2 : (((d : Int) - 1074) - min ((c : Int) - 1074) ((d : Int) - 1074)).toNat = d - min c d := by omega
 rw [e1, e2, <- signed_V s m c (min c d) (Nat.min_le_left _ _), <- signed_V t n d (min c d) (Nat.min_le_right _ _), cmp_mul]
 exact Int.natCast_pos.2 (Nat.two_pow_pos _)
theorem ordD {a b : Nat} {x y : Int} (ha : isD a x) (hb : isD b y) : FloatKind.f64.format.order a b = some (compare x y) := by
 obtain ⟨s, m, c, h1, rfl⟩ := ha
 obtain ⟨t, n, d, h2, rfl⟩ := hb
 show (Ieee.double.read a).order (Ieee.double.read b) = _
 rw [h1, h2]
 exact order_V s t m n c d
set_option exponentiation.threshold 2000
theorem nearD_sg (neg : Bool) (M c v : Nat) (h0 : 0 < M) (h : M * 2 ^ c = v * 2 ^ 1074) (hv53 : v < 2 ^ 53) :
 ∃ K e : Nat, Ieee.double.nearest neg M ((c : Int) - 1074) = Ieee.double.word neg (e * 2 ^ 52 + K) /\ e * 2 ^ 52 + K < 2047 * 2 ^ 52 /\ ((e = 0 /\ K <= 2 ^ 53) ∨ (2 ^ 52 <= K /\ K <= 2 ^ 53)) /\ K * 2 ^ e = M * 2 ^ c := by
 have l1 : 2 ^ M.log2 <= M := Nat.log2_self_le (by omega)
 have l2 : M < 2 ^ (M.log2 + 1) := Nat.lt_log2_self
 have hlc : M.log2 + c < 1127 := by
  have h1 : 2 ^ (M.log2 + c) <= M * 2 ^ c := by rw [Nat.pow_add]; exact Nat.mul_le_mul_right _ l1
  have h2 : v * 2 ^ 1074 < 2 ^ (53 + 1074) := by
   rw [Nat.pow_add 2 53 1074]; exact Nat.mul_lt_mul_of_pos_right hv53 (Nat.two_pow_pos _)
  rw [<- h] at h2
  exact (Nat.pow_lt_pow_iff_right (a := 2) (by decide)).1 (Nat.lt_of_le_of_lt h1 h2)
 unfold Ieee.Format.nearest
 rw [if_neg (by omega), d_fb, d_lp, d_bin, d_inf]
 dsimp only
 generalize hL : M.log2 = L at *
 by_cases hs : L <= 52
 ·
  by_cases hd : L + c < 52
  ·have hlast : max ((c : Int) - 1074 + (L : Int) - (52 : Nat)) (-1074) = -1074 := by omega
   rw [hlast]
   have e1 : ((c : Int) - 1074 - -1074).toNat = c := by omega
   have e2 : (-1074 - ((c : Int) - 1074)).toNat = 0 := by omega
   have e3 : ((-1074 : Int) - -1074).toNat = 0 := by decide
   rw [e1, e2, e3, cut_zero, Nat.shiftLeft_eq]
   have hk : M * 2 ^ c < 2 ^ 53 := by
    calc M * 2 ^ c < 2 ^ (L + 1) * 2 ^ c := Nat.mul_lt_mul_of_pos_right l2 (Nat.two_pow_pos _)
     _ = 2 ^ (L + 1 + c) := by rw [<- Nat.pow_add]
     _ <= 2 ^ 53 := Nat.pow_le_pow_right (by decide) (by omega)
   have hx : 0 * 2 ^ 52 + M * 2 ^ c < 2047 * 2 ^ 52 := by rw [Nat.zero_mul, Nat.zero_add]; exact Nat.lt_trans hk (by decide)
   refine ⟨M * 2 ^ c, 0, ?_, hx, .inl ⟨Eq.refl 0, Nat.le_of_lt hk⟩, ?_⟩
   ·rw [Nat.min_eq_left (Nat.le_of_lt hx)]
   ·rw [Nat.pow_zero, Nat.mul_one]
  ·have hlast : max ((c : Int) - 1074 + (L : Int) - (52 : Nat)) (-1074) = (c : Int) - 1074 + (L : Int) - 52 := by omega
   rw [hlast]
   have e1 : ((c : Int) - 1074 - ((c : Int) - 1074 + (L : Int) - 52)).toNat = 52 - L := by omega
   have e2 : (((c : Int) - 1074 + (L : Int) - 52) - ((c : Int) - 1074)).toNat = 0 := by omega
   have e3 : (((c : Int) - 1074 + (L : Int) - 52) - -1074).toNat = c + L - 52 := by omega
   rw [e1, e2, e3, cut_zero, Nat.shiftLeft_eq]
   have hk1 : M * 2 ^ (52 - L) < 2 ^ 53 := by
    calc M * 2 ^ (52 - L) < 2 ^ (L + 1) * 2 ^ (52 - L) := Nat.mul_lt_mul_of_pos_right l2 (Nat.two_pow_pos _)
     _ = 2 ^ (L + 1 + (52 - L)) := by rw [<- Nat.pow_add]
     _ = 2 ^ 53 := by congr 1; omega
   have hk2 : 2 ^ 52 <= M * 2 ^ (52 - L) := by
    calc 2 ^ 52 = 2 ^ (L + (52 - L)) := by congr 1; omega
     _ = 2 ^ L * 2 ^ (52 - L) := by rw [<- Nat.pow_add]
     _ <= M * 2 ^ (52 - L) := Nat.mul_le_mul_right _ l1
   have hv : M * 2 ^ (52 - L) * 2 ^ (c + L - 52) = M * 2 ^ c := by
    rw [Nat.mul_assoc, <- Nat.pow_add]
    congr 2
    omega
   refine ⟨M * 2 ^ (52 - L), c + L - 52, ?_, by generalize M * 2 ^ (52 - L) = q at *; clear l1 l2; omega, .inr ⟨hk2, Nat.le_of_lt hk1⟩, hv⟩
   rw [Nat.min_eq_left (by omega)]
 ·
  have hlast : max ((c : Int) - 1074 + (L : Int) - (52 : Nat)) (-1074) = (c : Int) - 1074 + (L : Int) - 52 := by omega
  rw [hlast]
  have e1 : ((c : Int) - 1074 - ((c : Int) - 1074 + (L : Int) - 52)).toNat = 0 := by omega
  have e2 : (((c : Int) - 1074 + (L : Int) - 52) - ((c : Int) - 1074)).toNat = L - 52 := by omega
  have e3 : (((c : Int) - 1074 + (L : Int) - 52) - -1074).toNat = c + L - 52 := by omega
  rw [e1, e2, e3, Nat.shiftLeft_zero]
  have hdvd : 2 ^ (L - 52) ∣ M := by
   have h1 : 2 ^ (L - 52) * 2 ^ c ∣ M * 2 ^ c := by
    rw [h, <- Nat.pow_add]
    exact Nat.dvd_trans (Nat.pow_dvd_pow 2 (by omega)) (Nat.dvd_mul_left _ _)
   exact Nat.dvd_of_mul_dvd_mul_right (Nat.two_pow_pos c) h1
  have hm0 : M % 2 ^ (L - 52) = 0 := Nat.mod_eq_zero_of_dvd hdvd
  have hg : 0 < 2 ^ (L - 52) := Nat.two_pow_pos _
  have hcut : Ieee.Toward.even.cut neg M (L - 52) = M / 2 ^ (L - 52) := by
   unfold Ieee.Toward.cut
   dsimp only
   rw [hL, Nat.min_eq_left (by omega), Nat.one_shiftLeft, hm0]
   simp
  rw [hcut]
  have hq1 : M / 2 ^ (L - 52) < 2 ^ 53 := by
   rw [Nat.div_lt_iff_lt_mul hg, <- Nat.pow_add]
   have : 53 + (L - 52) = L + 1 := by omega
   rw [this]; exact l2
  have hq2 : 2 ^ 52 <= M / 2 ^ (L - 52) := by
   rw [Nat.le_div_iff_mul_le hg, <- Nat.pow_add]
   have : 52 + (L - 52) = L := by omega
   rw [this]; exact l1
  have hdm := Nat.div_add_mod M (2 ^ (L - 52))
  rw [hm0, Nat.add_zero] at hdm
  generalize M / 2 ^ (L - 52) = q at *
  have hp : 2 ^ (c + L - 52) = 2 ^ (L - 52) * 2 ^ c := by
   rw [<- Nat.pow_add]
   congr 1
   omega
  refine ⟨q, c + L - 52, ?_, by omega, .inr ⟨by omega, by omega⟩, ?_⟩
  ·rw [Nat.min_eq_left (by omega)]
  ·rw [hp, <- Nat.mul_assoc, Nat.mul_comm q, hdm]
theorem read_zero : Ieee.double.read 0 = .number false 0 (-1074) := by decide
def absD (d : Ieee.Datum) : Ieee.Datum := match d with
 | .number _ m e => .number false m e
 | .infinity _ => .infinity false
 | .nan _ f => .nan false f
theorem read_abs (a : Nat) : Ieee.double.read (a % 2 ^ 63) = absD (Ieee.double.read a) := by
 unfold Ieee.Format.read
 dsimp only
 rw [d_sw]
 have e1 : a % 2 ^ 63 % 2 ^ 63 = a % 2 ^ 63 := Nat.mod_mod _ _
 have e2 : (a % 2 ^ 63 / 2 ^ 63 % 2 == 1) = false := by
  have : a % 2 ^ 63 / 2 ^ 63 = 0 := Nat.div_eq_of_lt (Nat.mod_lt _ (by decide))
  rw [this]; rfl
 rw [e1, e2]
 split
 ·rfl
 ·split
  ·rfl
  ·split <;> rfl
theorem read_neg (a : Nat) : Ieee.double.read (fneg .f64 a) = (Ieee.double.read a).opposite := by
 have hf : fneg .f64 a = a ^^^ 2 ^ 63 := rfl
 rw [hf]
 unfold Ieee.Format.read
 dsimp only
 rw [d_sw]
 have e1 : (a ^^^ 2 ^ 63) % 2 ^ 63 = a % 2 ^ 63 := by rw [Nat.xor_mod_two_pow, Nat.mod_self, Nat.xor_zero]
 have e2 : ((a ^^^ 2 ^ 63) / 2 ^ 63 % 2 == 1) = !(a / 2 ^ 63 % 2 == 1) := by
  rw [Nat.xor_div_two_pow, Nat.div_self (by decide)]
  have h1 : (a / 2 ^ 63 ^^^ 1) % 2 = (a / 2 ^ 63 % 2) ^^^ 1 := by
   have := Nat.xor_mod_two_pow (a := a / 2 ^ 63) (b := 1) (n := 1)
   simpa using this
  rw [h1]
  rcases Nat.mod_two_eq_zero_or_one (a / 2 ^ 63) with h | h <;> rw [h] <;> rfl
 rw [e1, e2]
 split
 ·rfl
 ·split
  ·rfl
  ·split <;> rfl
def amtD (a : Nat) : Nat := bif flt .f64 a 0 then fneg .f64 a else a
theorem amt_order (a c : Nat) : FloatKind.f64.format.order (amtD a) c = FloatKind.f64.format.order (a % 2 ^ 63) c := by
 show (Ieee.double.read (amtD a)).order (Ieee.double.read c) = (Ieee.double.read (a % 2 ^ 63)).order (Ieee.double.read c)
 rw [read_abs]
 have h0 : flt .f64 a 0 = ((Ieee.double.read a).order (Ieee.double.read 0) == some .lt) := rfl
 unfold amtD
 rw [h0, read_zero]
 generalize Ieee.double.read c = d
 cases hr : Ieee.double.read a with
 | nan s f =>
   have : ((Ieee.Datum.nan s f).order (.number false 0 (-1074)) == some Ordering.lt) = false := rfl
   rw [this, cond_false, hr]
   cases d <;> rfl
 | infinity s =>
   cases s with
   | true =>
     have : ((Ieee.Datum.infinity true).order (.number false 0 (-1074)) == some Ordering.lt) = true := rfl
     rw [this, cond_true, read_neg, hr]
     rfl
   | false =>
     have : ((Ieee.Datum.infinity false).order (.number false 0 (-1074)) == some Ordering.lt) = false := rfl
     rw [this, cond_false, hr]
     rfl
 | number s m e =>
   cases s with
   | false =>
     have h1 : ((Ieee.Datum.number false m e).order (.number false 0 (-1074)) == some Ordering.lt) = false := by
      unfold Ieee.Datum.order Ieee.signed
      simp only [Bool.false_eq_true, if_false, Nat.zero_shiftLeft]
      have : ∀ x : Nat, (some (compare ((x : Nat) : Int) ((0 : Nat) : Int)) == some Ordering.lt) = false := by
       intro x
       rw [Int.compare_eq_ite_lt, if_neg (by omega)]
       split <;> rfl
      exact this _
     rw [h1, cond_false, hr]
     rfl
   | true =>
     cases h1 : ((Ieee.Datum.number true m e).order (.number false 0 (-1074)) == some Ordering.lt) with
     | true => rw [cond_true, read_neg, hr]; rfl
     | false =>
       rw [cond_false, hr]
       have hm : m = 0 := by
        unfold Ieee.Datum.order Ieee.signed at h1
        simp only [if_true, Bool.false_eq_true, if_false, Nat.zero_shiftLeft, Nat.shiftLeft_eq] at h1
        rcases Nat.eq_zero_or_pos m with h | h
        ·exact h
        ·exfalso
         have hp := Nat.mul_pos h (Nat.two_pow_pos (e - min e (-1074)).toNat)
         rw [Int.compare_eq_ite_lt, if_pos (by omega)] at h1
         cases h1
       subst hm
       unfold absD
       cases d with
       | number t n j =>
         unfold Ieee.Datum.order Ieee.signed
         simp
       | infinity t => rfl
       | nan t f => rfl
def le8 (a : Nat) : Bool := flt .f64 a 4726483295884279808 || feq .f64 a 4726483295884279808
theorem le8_amt (a : Nat) : le8 (amtD a) = le8 (a % 2 ^ 63) := by
 unfold le8 flt feq
 rw [amt_order]
def vecB (z : Nat × Nat) : Bool := le8 (z.1 % 2 ^ 63) && le8 (z.2 % 2 ^ 63)
theorem F91_eq (z : Nat × Nat) : F91 (z, ()) = some (vecB z, ()) := by
 unfold F91 r91 vecB
 simp only [K116, G116, cond_true]
 show (bif le8 (z.1 % 2 ^ 63) then some (le8 (z.2 % 2 ^ 63), ()) else some (false, ())) = _
 cases le8 (z.1 % 2 ^ 63) <;> rfl
theorem F124_eq (a : Nat) : F124 (a, ()) = some (amtD a, ()) := by
 unfold F124 r124 amtD
 cases flt .f64 a 0 <;> rfl
theorem F104_eq (z : Nat × Nat) : F104 (z, ()) = some (vecB z, ()) := by
 unfold F104 r104 vecB
 have e1 : F124 (z.1, ()) = some (amtD z.1, ()) := F124_eq z.1
 have e2 : F124 (z.2, ()) = some (amtD z.2, ()) := F124_eq z.2
 simp only [K124, G124, e1, e2, Option.isSome_some, Option.getD_some, cond_true]
 show (bif le8 (amtD z.1) then some (le8 (amtD z.2), ()) else some (false, ())) = _
 rw [le8_amt, le8_amt]
 cases le8 (z.1 % 2 ^ 63) <;> rfl
theorem s_sw : Ieee.single.signWeight = 2 ^ 31 := by decide
theorem s_inf : Ieee.single.infRung = 255 * 2 ^ 23 := by decide
theorem s_bin : Ieee.single.binade = 2 ^ 23 := by decide
theorem s_lp : Ieee.single.leastPlace = -149 := by decide
theorem s_fb : Ieee.single.fractionBits = 23 := by decide
def Sz (b : Nat) (N : Int) : Prop := ∃ s m e, Ieee.single.read b = .number s m e /\ (m.log2 : Int) + e <= N /\ -149 <= e
theorem Sz.mono {b : Nat} {N M : Int} (h : Sz b N) (hM : N <= M) : Sz b M := by
 obtain ⟨s, m, e, h1, h2, h3⟩ := h
 exact ⟨s, m, e, h1, by omega, h3⟩
theorem log2_le {M k : Nat} (h : M < 2 ^ (k + 1)) : M.log2 <= k := by
 rcases Nat.eq_zero_or_pos M with h0 | h0
 ·subst h0; simp
 ·have := Nat.log2_self_le (n := M) (by omega)
  have h2 := Nat.lt_of_le_of_lt this h
  have := (Nat.pow_lt_pow_iff_right (a := 2) (by decide)).1 h2
  omega
theorem cut_le (neg : Bool) (M d k : Nat) (h : M < 2 ^ (k + d)) : Ieee.Toward.even.cut neg M d <= 2 ^ k := by
 unfold Ieee.Toward.cut
 dsimp only
 rw [Nat.one_shiftLeft]
 by_cases hd : d <= M.log2 + 2
 ·rw [Nat.min_eq_left hd]
  have h1 : M / 2 ^ d < 2 ^ k := by rw [Nat.div_lt_iff_lt_mul (Nat.two_pow_pos _), <- Nat.pow_add]; exact h
  generalize (decide (2 ^ d < 2 * (M % 2 ^ d)) || (2 ^ d == 2 * (M % 2 ^ d) && M / 2 ^ d % 2 == 1)) = b
  cases b <;> simp <;> omega
 ·rw [Nat.min_eq_right (by omega)]
  have h0 : M < 2 ^ (M.log2 + 2) := Nat.lt_trans Nat.lt_log2_self (Nat.pow_lt_pow_right (by decide) (by omega))
  have h1 : M / 2 ^ (M.log2 + 2) = 0 := Nat.div_eq_of_lt h0
  rw [h1]
  have hk := Nat.two_pow_pos k
  generalize (decide (2 ^ (M.log2 + 2) < 2 * (M % 2 ^ (M.log2 + 2))) || (2 ^ (M.log2 + 2) == 2 * (M % 2 ^ (M.log2 + 2)) && 0 % 2 == 1)) = b
  cases b <;> simp <;> omega
theorem read_rung (neg : Bool) (r : Nat) (h : r < 255 * 2 ^ 23) : Ieee.single.read (Ieee.single.word neg r) = if r < 2 ^ 23 then .number neg r (-149) else .number neg (2 ^ 23 + r % 2 ^ 23) (-149 + ((r / 2 ^ 23 - 1 : Nat) : Int)) := by
 have hr : Ieee.single.word neg r % Ieee.single.signWeight = r := by
  unfold Ieee.Format.word
  rw [s_sw]
  split <;> omega
 have hn : (Ieee.single.word neg r / Ieee.single.signWeight % 2 == 1) = neg := by
  unfold Ieee.Format.word
  rw [s_sw]
  cases neg
  ·rw [if_neg (by decide)]
   have : r / 2 ^ 31 = 0 := Nat.div_eq_of_lt (by omega)
   rw [this]; rfl
  ·rw [if_pos rfl]
   have : (2 ^ 31 + r) / 2 ^ 31 = 1 := by omega
   rw [this]; rfl
 unfold Ieee.Format.read
 dsimp only
 rw [hr, hn, s_bin, s_inf, s_lp]
 by_cases c : r < 2 ^ 23
 ·rw [if_pos c, if_pos c]
 ·rw [if_neg c, if_neg c, if_pos h]
theorem near_sz (neg : Bool) (M : Nat) (p N : Int) (h : (M.log2 : Int) + p <= N) (hN : N <= 126) (hN2 : -126 <= N) : Sz (Ieee.single.nearest neg M p) (N + 1) := by
 have fin : ∀ r : Nat, (r : Int) <= (N + 126) * 2 ^ 23 + 2 ^ 24 -> Sz (Ieee.single.word neg r) (N + 1) := by
  intro r hr
  have hlt : r < 255 * 2 ^ 23 := by omega
  have := read_rung neg r hlt
  by_cases c : r < 2 ^ 23
  ·rw [if_pos c] at this
   refine ⟨_, _, _, this, ?_, Int.le_refl _⟩
   have := log2_le (k := 22) c
   omega
  ·rw [if_neg c] at this
   refine ⟨_, _, _, this, ?_, by omega⟩
   have h1 : (2 ^ 23 + r % 2 ^ 23).log2 <= 23 := log2_le (k := 23) (by have := Nat.mod_lt r (show 2 ^ 23 > 0 by decide); omega)
   have h2 : ((r / 2 ^ 23 : Nat) : Int) <= N + 128 := by omega
   omega
 unfold Ieee.Format.nearest
 by_cases h0 : M = 0
 ·rw [if_pos h0]
  exact fin 0 (by omega)
 ·rw [if_neg h0, s_fb, s_lp, s_bin, s_inf]
  dsimp only
  have l2 : M < 2 ^ (M.log2 + 1) := Nat.lt_log2_self
  generalize hL : M.log2 = L at *
  obtain ⟨last, hlast⟩ : ∃ last, last = max (p + (L : Int) - (23 : Nat)) (-149) := ⟨_, rfl⟩
  rw [<- hlast]
  have hl1 : p + (L : Int) - 23 <= last := by omega
  have hl2 : -149 <= last := by omega
  have hl3 : last <= N - 23 := by omega
  have hcut : Ieee.Toward.even.cut neg (M <<< (p - last).toNat) (last - p).toNat <= 2 ^ 24 := by
   refine cut_le _ _ _ 24 ?_
   rw [Nat.shiftLeft_eq]
   have h1 : M * 2 ^ (p - last).toNat < 2 ^ (L + 1 + (p - last).toNat) := by rw [Nat.pow_add]; exact Nat.mul_lt_mul_of_pos_right l2 (Nat.two_pow_pos _)
   exact Nat.lt_of_lt_of_le h1 (Nat.pow_le_pow_right (by decide) (by omega))
  generalize Ieee.Toward.even.cut neg (M <<< (p - last).toNat) (last - p).toNat = K at hcut
  have hk : (((last - -149).toNat * 2 ^ 23 + K : Nat) : Int) <= (N + 126) * 2 ^ 23 + 2 ^ 24 := by omega
  exact fin _ (Int.le_trans (Int.ofNat_le.2 (Nat.min_le_left _ _)) hk)
def p2 (e : Int) : Rat := (2 : Rat) ^ e
theorem p2_pos (e : Int) : 0 < p2 e := Rat.zpow_pos (by decide)
theorem p2_add (a b : Int) : p2 (a + b) = p2 a * p2 b := Rat.zpow_add (by decide) a b
theorem p2_nat (n : Nat) : p2 (n : Int) = ((2 ^ n : Nat) : Rat) := by
 unfold p2
 rw [Rat.zpow_natCast, Rat.natCast_pow]
 rfl
theorem p2_nat_one (n : Nat) : 1 <= p2 (n : Int) := by
 rw [p2_nat]
 have : 1 <= 2 ^ n := Nat.one_le_two_pow
 exact_mod_cast this
theorem p2_le {a b : Int} (h : a <= b) : p2 a <= p2 b := by
 have e : b = a + ((b - a).toNat : Int) := by omega
 rw [e, p2_add]
 have h1 := p2_nat_one (b - a).toNat
 have h2 := p2_pos a
 generalize p2 ((b - a).toNat : Int) = y at *
 generalize p2 a = x at *
 have := Rat.mul_nonneg (Rat.le_of_lt h2) (show 0 <= y - 1 by grind)
 grind
theorem p2_lt_imp {a b : Int} (h : p2 a < p2 b) : a < b := by
 apply Classical.byContradiction
 intro hn
 have := p2_le (show b <= a by omega)
 grind
theorem p2_succ (a : Int) : p2 (a + 1) = 2 * p2 a := by
 rw [p2_add]
 have : p2 1 = 2 := by unfold p2; rw [Rat.zpow_one]
 rw [this]; grind
theorem natCast_mono {a b : Nat} (h : a <= b) : (a : Rat) <= (b : Rat) := Rat.natCast_le_natCast.2 h
theorem mul_mono {a b c : Rat} (h : a <= b) (hc : 0 <= c) : a * c <= b * c := Rat.mul_le_mul_of_nonneg_right h hc
theorem natCast_nn (a : Nat) : (0 : Rat) <= (a : Rat) := by
 have := natCast_mono (Nat.zero_le a)
 simpa using this
def sgR (s : Bool) : Rat := if s then -1 else 1
def RV (s : Bool) (m : Nat) (e : Int) : Rat := sgR s * (m : Rat) * p2 e
def IsR (w : Nat) (q : Rat) : Prop := ∃ (s : Bool) (m : Nat) (e : Int), Ieee.double.read w = .number s m e /\ -1074 <= e /\ q = RV s m e
def Near (a b ε : Rat) : Prop := a <= b + ε /\ b <= a + ε
theorem cut_near (neg : Bool) (N d : Nat) : 2 * (Ieee.Toward.even.cut neg N d * 2 ^ d) <= 2 * N + 2 ^ d /\ 2 * N <= 2 * (Ieee.Toward.even.cut neg N d * 2 ^ d) + 2 ^ d := by
 unfold Ieee.Toward.cut
 dsimp only
 rw [Nat.one_shiftLeft]
 by_cases hd : d <= N.log2 + 2
 ·rw [Nat.min_eq_left hd]
  have h1 := Nat.div_add_mod N (2 ^ d)
  have h2 := Nat.mod_lt N (Nat.two_pow_pos d)
  generalize hb : (decide (2 ^ d < 2 * (N % 2 ^ d)) || (2 ^ d == 2 * (N % 2 ^ d) && N / 2 ^ d % 2 == 1)) = b
  have hg : b = true -> 2 ^ d <= 2 * (N % 2 ^ d) := by
   intro h
   rw [h] at hb
   simp only [Bool.or_eq_true, decide_eq_true_eq, Bool.and_eq_true, beq_iff_eq] at hb
   omega
  have hl : b = false -> 2 * (N % 2 ^ d) <= 2 ^ d := by
   intro h
   rw [h] at hb
   simp only [Bool.or_eq_false_iff, decide_eq_false_iff_not] at hb
   omega
  generalize 2 ^ d = g at *
  generalize N / g = q at *
  generalize N % g = r at *
  have e1 : q * g = g * q := Nat.mul_comm _ _
  cases b
  ·have := hl rfl
   simp only [Bool.toNat_false, Nat.add_zero]
   omega
  ·have := hg rfl
   simp only [Bool.toNat_true, Nat.add_mul, Nat.one_mul]
   omega
 ·rw [Nat.min_eq_right (by omega)]
  have h0 : N < 2 ^ (N.log2 + 1) := Nat.lt_log2_self
  have h00 : 2 ^ (N.log2 + 2) = 2 * 2 ^ (N.log2 + 1) := by rw [Nat.pow_succ]; omega
  have h1 : N / 2 ^ (N.log2 + 2) = 0 := Nat.div_eq_of_lt (by omega)
  have h2 : N % 2 ^ (N.log2 + 2) = N := Nat.mod_eq_of_lt (by omega)
  have h3 : 2 ^ (N.log2 + 2) <= 2 ^ d := Nat.pow_le_pow_right (by decide) (by omega)
  rw [h1, h2]
  have : (decide (2 ^ (N.log2 + 2) < 2 * N) || (2 ^ (N.log2 + 2) == 2 * N && 0 % 2 == 1)) = false := by
   simp only [Bool.or_eq_false_iff, decide_eq_false_iff_not, Bool.and_eq_false_iff]
   exact ⟨by omega, .inr rfl⟩
  rw [this]
  simp only [Bool.toNat_false, Nat.add_zero, Nat.zero_mul]
  omega
theorem cut_ge (neg : Bool) (N d k : Nat) (h : 2 ^ (k + d) <= N) : 2 ^ k <= Ieee.Toward.even.cut neg N d := by
 unfold Ieee.Toward.cut
 dsimp only
 rw [Nat.one_shiftLeft]
 have hd : d <= N.log2 + 2 := by
  have h1 : N < 2 ^ (N.log2 + 1) := Nat.lt_log2_self
  have := (Nat.pow_lt_pow_iff_right (a := 2) (by decide)).1 (Nat.lt_of_le_of_lt h h1)
  omega
 rw [Nat.min_eq_left hd]
 have h1 : 2 ^ k <= N / 2 ^ d := by rw [Nat.le_div_iff_mul_le (Nat.two_pow_pos _), <- Nat.pow_add]; exact h
 exact Nat.le_trans h1 (Nat.le_add_right _ _)
theorem IsR_zero_word (neg : Bool) : IsR (Ieee.double.word neg 0) 0 := by
 refine ⟨neg, 0, -1074, ?_, Int.le_refl _, ?_⟩
 ·cases neg <;> decide
 ·unfold RV; grind
theorem near_err (neg : Bool) (M : Nat) (p B : Int) (h0 : M ≠ 0) (hB : (M.log2 : Int) + p <= B) (h1 : -1022 <= B) (h2 : B <= 1022) :
 ∃ r, IsR (Ieee.double.nearest neg M p) r /\ Near r (RV neg M p) (p2 (B - 53)) := by
 unfold Ieee.Format.nearest
 rw [if_neg h0, d_fb, d_lp, d_bin, d_inf]
 dsimp only
 have l1 : 2 ^ M.log2 <= M := Nat.log2_self_le h0
 have l2 : M < 2 ^ (M.log2 + 1) := Nat.lt_log2_self
 generalize hL : M.log2 = L at *
 obtain ⟨last, hlast⟩ : ∃ last, last = max (p + (L : Int) - (52 : Nat)) (-1074) := ⟨_, rfl⟩
 rw [<- hlast]
 have hl1 : p + (L : Int) - 52 <= last := by omega
 have hl2 : -1074 <= last := by omega
 have hl3 : last <= B - 52 := by omega
 have hl4 : last = p + (L : Int) - 52 ∨ last = -1074 := by omega
 obtain ⟨up, hup⟩ : ∃ up, up = (p - last).toNat := ⟨_, rfl⟩
 obtain ⟨d, hd⟩ : ∃ d, d = (last - p).toNat := ⟨_, rfl⟩
 rw [<- hup, <- hd, Nat.shiftLeft_eq]
 have hle : Ieee.Toward.even.cut neg (M * 2 ^ up) d <= 2 ^ 53 := by
  refine cut_le _ _ _ 53 ?_
  have : M * 2 ^ up < 2 ^ (L + 1 + up) := by rw [Nat.pow_add]; exact Nat.mul_lt_mul_of_pos_right l2 (Nat.two_pow_pos _)
  exact Nat.lt_of_lt_of_le this (Nat.pow_le_pow_right (by decide) (by omega))
 have hge : last ≠ -1074 -> 2 ^ 52 <= Ieee.Toward.even.cut neg (M * 2 ^ up) d := by
  intro hne
  refine cut_ge _ _ _ 52 ?_
  have : 2 ^ (L + up) <= M * 2 ^ up := by rw [Nat.pow_add]; exact Nat.mul_le_mul_right _ l1
  exact Nat.le_trans (Nat.pow_le_pow_right (by decide) (by omega)) this
 have hnear := cut_near neg (M * 2 ^ up) d
 have hexact : d = 0 -> Ieee.Toward.even.cut neg (M * 2 ^ up) d = M * 2 ^ up := fun e => by rw [e, cut_zero]
 generalize Ieee.Toward.even.cut neg (M * 2 ^ up) d = K at *
 obtain ⟨e, he⟩ : ∃ e, e = (last - -1074).toNat := ⟨_, rfl⟩
 rw [<- he]
 have hrung : e * 2 ^ 52 + K < 2047 * 2 ^ 52 := by omega
 rw [Nat.min_eq_left (Nat.le_of_lt hrung)]
 obtain ⟨m, c, hr, hm⟩ := readD_word neg K e hrung (by
  by_cases h : last = -1074
  ·exact .inl ⟨by omega, hle⟩
  ·exact .inr ⟨hge h, hle⟩)
 refine ⟨RV neg m ((c : Int) - 1074), ⟨neg, m, _, hr, by omega, rfl⟩, ?_⟩
 have hv : RV neg m ((c : Int) - 1074) = sgR neg * (K : Rat) * p2 last := by
  have e1 : (m : Rat) * p2 (c : Int) = (K : Rat) * p2 (e : Int) := by
   rw [p2_nat, p2_nat]
   exact_mod_cast congrArg (fun n : Nat => (n : Rat)) hm
  have e2 : last = (e : Int) + -1074 := by omega
  unfold RV
  rw [e2, Int.sub_eq_add_neg, p2_add, p2_add]
  grind
 rw [hv]
 by_cases hc : last <= p
 ·have hd0 : d = 0 := by omega
  have hK := hexact hd0
  have e1 : RV neg M p = sgR neg * (K : Rat) * p2 last := by
   unfold RV
   have e2 : p = (up : Int) + last := by omega
   rw [hK, e2, p2_add, p2_nat, Rat.natCast_mul]
   grind
  rw [e1]
  have := p2_pos (B - 53)
  constructor <;> grind
 ·have hu0 : up = 0 := by omega
  rw [hu0, Nat.pow_zero, Nat.mul_one] at hnear
  have e1 : p2 last = ((2 ^ d : Nat) : Rat) * p2 p := by
   have : last = (d : Int) + p := by omega
   rw [this, p2_add, p2_nat]
  have hp := p2_pos p
  have n1 : 2 * ((K : Rat) * ((2 ^ d : Nat) : Rat)) <= 2 * (M : Rat) + ((2 ^ d : Nat) : Rat) := by exact_mod_cast natCast_mono hnear.1
  have n2 : 2 * (M : Rat) <= 2 * ((K : Rat) * ((2 ^ d : Nat) : Rat)) + ((2 ^ d : Nat) : Rat) := by exact_mod_cast natCast_mono hnear.2
  have m1 := mul_mono n1 (Rat.le_of_lt hp)
  have m2 := mul_mono n2 (Rat.le_of_lt hp)
  have hle2 : p2 last <= 2 * p2 (B - 53) := by
   rw [<- p2_succ]
   exact p2_le (by omega)
  unfold RV
  rw [e1] at *
  generalize ((2 ^ d : Nat) : Rat) = g at *
  generalize (K : Rat) = k at *
  generalize (M : Rat) = mm at *
  generalize p2 (B - 53) = ε at *
  generalize p2 p = t at *
  cases neg
  ·have : sgR false = 1 := rfl
   rw [this]
   constructor <;> grind
  ·have : sgR true = -1 := rfl
   rw [this]
   constructor <;> grind
theorem RV_zero (s : Bool) (e : Int) : RV s 0 e = 0 := by unfold RV; grind
theorem RV_abs (s : Bool) (m : Nat) (e : Int) {b : Rat} (h1 : RV s m e < b) (h2 : -b < RV s m e) : (m : Rat) * p2 e < b := by
 unfold RV at h1 h2
 cases s
 ·have : sgR false = 1 := rfl
  rw [this] at h1; grind
 ·have : sgR true = -1 := rfl
  rw [this] at h2; grind
theorem near_val (neg : Bool) (M : Nat) (p : Int) (B : Int) (h1 : -1022 <= B) (h2 : B <= 1022) (hlt : RV neg M p < p2 (B + 1)) (hgt : -p2 (B + 1) < RV neg M p) :
 ∃ r, IsR (Ieee.double.nearest neg M p) r /\ Near r (RV neg M p) (p2 (B - 53)) := by
 by_cases h0 : M = 0
 ·subst h0
  refine ⟨0, ?_, ?_⟩
  ·unfold Ieee.Format.nearest
   rw [if_pos rfl]
   exact IsR_zero_word neg
  ·rw [RV_zero]
   have := p2_pos (B - 53)
   constructor <;> grind
 ·refine near_err neg M p B h0 ?_ h1 h2
  have hm := RV_abs neg M p hlt hgt
  have l1 : ((2 ^ M.log2 : Nat) : Rat) <= (M : Rat) := natCast_mono (Nat.log2_self_le h0)
  have l2 := mul_mono l1 (Rat.le_of_lt (p2_pos p))
  have : p2 ((M.log2 : Int) + p) < p2 (B + 1) := by
   rw [p2_add, p2_nat]
   grind
  have := p2_lt_imp this
  omega
theorem sgR_xor (s t : Bool) : sgR (s ^^ t) = sgR s * sgR t := by cases s <;> cases t <;> decide +kernel
theorem sgR_not (s : Bool) : sgR (!s) = -sgR s := by cases s <;> decide +kernel
theorem signed_R (s : Bool) (m : Nat) (e base : Int) (h : base <= e) : ((Ieee.signed s m (e - base).toNat : Int) : Rat) * p2 base = RV s m e := by
 unfold Ieee.signed RV
 have e1 : e = ((e - base).toNat : Int) + base := by omega
 rw [Nat.shiftLeft_eq]
 have e2 : p2 e = ((2 ^ (e - base).toNat : Nat) : Rat) * p2 base := by
  have := p2_add ((e - base).toNat : Int) base
  rw [<- e1, p2_nat] at this
  exact this
 rw [e2]
 cases s
 ·have : sgR false = 1 := rfl
  rw [this, if_neg (by decide), Rat.intCast_natCast, Rat.natCast_mul]
  grind
 ·have : sgR true = -1 := rfl
  rw [this, if_pos rfl, Rat.intCast_neg, Rat.intCast_natCast, Rat.natCast_mul]
  grind
theorem sumR (s t : Bool) (m n : Nat) (e f : Int) (B : Int) (h1 : -1022 <= B) (h2 : B <= 1022) (hlt : RV s m e + RV t n f < p2 (B + 1)) (hgt : -p2 (B + 1) < RV s m e + RV t n f) :
 ∃ w r, (Ieee.Datum.sum (.number s m e) (.number t n f)).map Ieee.double.write = some w /\ IsR w r /\ Near r (RV s m e + RV t n f) (p2 (B - 53)) := by
 unfold Ieee.Datum.sum
 dsimp only
 have hs := signed_R s m e (min e f) (by omega)
 have ht := signed_R t n f (min e f) (by omega)
 generalize hT : Ieee.signed s m (e - min e f).toNat + Ieee.signed t n (f - min e f).toNat = T
 have hT2 : ((T : Int) : Rat) * p2 (min e f) = RV s m e + RV t n f := by
  rw [<- hT, Rat.intCast_add, <- hs, <- ht]
  grind
 have hV : RV (if T = 0 then s && t else decide (T < 0)) T.natAbs (min e f) = RV s m e + RV t n f := by
  rw [<- hT2]
  unfold RV
  by_cases c0 : T = 0
  ·subst c0
   simp [Rat.mul_zero, Rat.zero_mul]
  ·rw [if_neg c0]
   by_cases c1 : T < 0
   ·have e1 : ((T : Int) : Rat) = -((T.natAbs : Nat) : Rat) := by
     rw [<- Rat.intCast_natCast, <- Rat.intCast_neg]
     congr 1
     omega
    rw [e1]
    simp only [c1, decide_true]
    have : sgR true = -1 := rfl
    rw [this]
    grind
   ·have e1 : ((T : Int) : Rat) = ((T.natAbs : Nat) : Rat) := by
     rw [<- Rat.intCast_natCast]
     congr 1
     omega
    rw [e1]
    simp only [c1, decide_false]
    have : sgR false = 1 := rfl
    rw [this]
    grind
 rw [<- hV] at hlt hgt
 obtain ⟨r, h3, h4⟩ := near_val _ _ _ B h1 h2 hlt hgt
 rw [hV] at h4
 exact ⟨_, r, rfl, h3, h4⟩
theorem addR {a b : Nat} {x y : Rat} (ha : IsR a x) (hb : IsR b y) (B : Int) (h1 : -1022 <= B) (h2 : B <= 1022) (hlt : x + y < p2 (B + 1)) (hgt : -p2 (B + 1) < x + y) :
 ∃ r, IsR (farith .add .f64 a b) r /\ Near r (x + y) (p2 (B - 53)) := by
 obtain ⟨s, m, e, hr, he, rfl⟩ := ha
 obtain ⟨t, n, f, hr', hf, rfl⟩ := hb
 obtain ⟨w, r, h3, h4, h5⟩ := sumR s t m n e f B h1 h2 hlt hgt
 have e1 : farith .add .f64 a b = (((Ieee.double.read a).sum (Ieee.double.read b)).map Ieee.double.write).getD (qn .f64) := rfl
 rw [e1, hr, hr', h3]
 exact ⟨r, h4, h5⟩
theorem RV_neg (s : Bool) (m : Nat) (e : Int) : RV (!s) m e = -RV s m e := by
 unfold RV
 rw [sgR_not]
 grind
theorem IsR_isD {w : Nat} {q : Rat} (h : IsR w q) : ∃ v : Int, isD w v /\ q = (v : Rat) * p2 (-1074) := by
 obtain ⟨s, m, e, hr, he, rfl⟩ := h
 obtain ⟨c, hc⟩ : ∃ c : Nat, e = (c : Int) - 1074 := ⟨(e + 1074).toNat, by omega⟩
 subst hc
 refine ⟨VU s m c, ⟨s, m, c, hr, rfl⟩, ?_⟩
 unfold RV VU
 rw [Int.sub_eq_add_neg, p2_add, p2_nat]
 cases s
 ·have : sgR false = 1 := rfl
  rw [this, if_neg (by decide), Rat.intCast_natCast, Rat.natCast_mul]
  grind
 ·have : sgR true = -1 := rfl
  rw [this, if_pos rfl, Rat.intCast_neg, Rat.intCast_natCast, Rat.natCast_mul]
  grind
theorem mulp_lt {v w : Int} : (v : Rat) * p2 (-1074) < (w : Rat) * p2 (-1074) ↔ v < w := by
 have hp := p2_pos (-1074)
 constructor
 ·intro h
  apply Classical.byContradiction
  intro hn
  have : (w : Rat) <= (v : Rat) := Rat.intCast_le_intCast.2 (by omega)
  have := mul_mono this (Rat.le_of_lt hp)
  grind
 ·intro h
  have : (v : Rat) < (w : Rat) := Rat.intCast_lt_intCast.2 h
  exact Rat.mul_lt_mul_of_pos_right this hp
theorem ordR {a b : Nat} {x y : Rat} (ha : IsR a x) (hb : IsR b y) : FloatKind.f64.format.order a b = some (if x < y then .lt else if y < x then .gt else .eq) := by
 obtain ⟨v, h1, rfl⟩ := IsR_isD ha
 obtain ⟨w, h2, rfl⟩ := IsR_isD hb
 rw [ordD h1 h2]
 simp only [mulp_lt]
 congr 1
 rw [Int.compare_eq_ite_lt]
theorem fltR {a b : Nat} {x y : Rat} (ha : IsR a x) (hb : IsR b y) : flt .f64 a b = decide (x < y) := by
 unfold flt
 rw [ordR ha hb]
 by_cases h : x < y
 ·simp [h]
 ·by_cases h2 : y < x <;> simp [h, h2]
theorem fgtR {a b : Nat} {x y : Rat} (ha : IsR a x) (hb : IsR b y) : fgt .f64 a b = decide (y < x) := by
 unfold fgt
 rw [ordR ha hb]
 by_cases h : x < y
 ·have : ¬ y < x := by grind
  simp [h, this]
 ·by_cases h2 : y < x <;> simp [h, h2]
theorem feqR {a b : Nat} {x y : Rat} (ha : IsR a x) (hb : IsR b y) : feq .f64 a b = decide (x = y) := by
 unfold feq
 rw [ordR ha hb]
 by_cases h : x < y
 ·have : ¬ x = y := by grind
  simp [h, this]
 ·by_cases h2 : y < x
  ·have : ¬ x = y := by grind
   simp [h, h2, this]
  ·have : x = y := by grind
   simp [this]
theorem quot_near (m n : Nat) (hn : 0 < n) (more : Nat) : ∀ Q, Q = 2 * (m <<< more / n) + (m <<< more % n != 0).toNat -> Q * n <= 2 * (m * 2 ^ more) + n /\ 2 * (m * 2 ^ more) <= Q * n + n := by
 intro Q hQ
 rw [Nat.shiftLeft_eq] at hQ
 have h1 := Nat.div_add_mod (m * 2 ^ more) n
 have h2 := Nat.mod_lt (m * 2 ^ more) hn
 generalize m * 2 ^ more = x at *
 have h3 : 2 * (x / n) * n = 2 * (n * (x / n)) := by rw [Nat.mul_assoc, Nat.mul_comm (x / n)]
 subst hQ
 rw [Nat.add_mul, h3]
 generalize n * (x / n) = y at *
 by_cases c : x % n = 0
 ·rw [c]
  simp only [bne_self_eq_false, Bool.toNat_false, Nat.zero_mul]
  omega
 ·have : (x % n != 0) = true := by simpa using c
  rw [this]
  simp only [Bool.toNat_true, Nat.one_mul]
  omega
theorem quo_place (m n : Nat) (hm : m ≠ 0) (hn : 0 < n) : 2 ^ 54 * n <= m * 2 ^ (54 + n.log2 - m.log2) * 2 := by
 have l1 : 2 ^ m.log2 <= m := Nat.log2_self_le hm
 have l2 : n < 2 ^ (n.log2 + 1) := Nat.lt_log2_self
 have h1 : 2 ^ (54 + n.log2) <= m * 2 ^ (54 + n.log2 - m.log2) := by
  have : 2 ^ m.log2 * 2 ^ (54 + n.log2 - m.log2) <= m * 2 ^ (54 + n.log2 - m.log2) := Nat.mul_le_mul_right _ l1
  rw [<- Nat.pow_add] at this
  exact Nat.le_trans (Nat.pow_le_pow_right (by decide) (by omega)) this
 have h2 : 2 ^ 54 * n <= 2 ^ 54 * 2 ^ (n.log2 + 1) := Nat.mul_le_mul_left _ (Nat.le_of_lt l2)
 rw [<- Nat.pow_add] at h2
 have h3 : 2 ^ (54 + (n.log2 + 1)) = 2 ^ (54 + n.log2) * 2 := by rw [<- Nat.pow_succ]; congr 1
 omega
theorem quoR {a b : Nat} {x y q : Rat} (ha : IsR a x) (hb : IsR b y) (hy : y ≠ 0) (hq : q * y = x) (B : Int) (h1 : -1022 <= B) (h2 : B <= 1022) (hle : q <= p2 B) (hge : -p2 B <= q) :
 ∃ r, IsR (farith .quo .f64 a b) r /\ Near r q (p2 (B - 52)) := by
 obtain ⟨s, m, e, hr, he, rfl⟩ := ha
 obtain ⟨t, n, f, hr', hf, rfl⟩ := hb
 have e1 : farith .quo .f64 a b = (((Ieee.double.read a).quotient 54 (Ieee.double.read b)).map Ieee.double.write).getD (qn .f64) := rfl
 have hn0 : n ≠ 0 := fun h => hy (by rw [h, RV_zero])
 have hn : 0 < n := Nat.pos_of_ne_zero hn0
 rw [e1, hr, hr']
 unfold Ieee.Datum.quotient
 dsimp only
 rw [if_neg hn0]
 show ∃ r, IsR (Ieee.double.nearest (s ^^ t) (2 * (m <<< (54 + n.log2 - m.log2) / n) + (m <<< (54 + n.log2 - m.log2) % n != 0).toNat) (e - f - ((54 + n.log2 - m.log2 : Nat) : Int) - 1)) r /\ _
 have hN := quot_near m n hn (54 + n.log2 - m.log2) _ rfl
 have hzero : m = 0 -> 2 * (m <<< (54 + n.log2 - m.log2) / n) + (m <<< (54 + n.log2 - m.log2) % n != 0).toNat = 0 := by
  intro h
  subst h
  simp [Nat.shiftLeft_eq]
 have hplace : m ≠ 0 -> _ := fun h => quo_place m n h hn
 generalize hQ : 2 * (m <<< (54 + n.log2 - m.log2) / n) + (m <<< (54 + n.log2 - m.log2) % n != 0).toNat = Q at *
 generalize hM : 54 + n.log2 - m.log2 = more at *
 obtain ⟨pl, hpl⟩ : ∃ pl : Int, pl = e - f - (more : Int) - 1 := ⟨_, rfl⟩
 rw [<- hpl]
 have hnR : (0 : Rat) < (n : Rat) := by
  have : (0 : Rat) < ((n : Nat) : Rat) := by exact_mod_cast Rat.natCast_lt_natCast.2 hn
  exact this
 have hqv : q * (n : Rat) = sgR (s ^^ t) * (2 * ((m : Rat) * ((2 ^ more : Nat) : Rat))) * p2 pl := by
  have e2 : e = f + (more : Int) + 1 + pl := by omega
  have hx : RV s m e = sgR s * (2 * ((m : Rat) * ((2 ^ more : Nat) : Rat))) * p2 pl * p2 f := by
   unfold RV
   rw [e2, p2_add, p2_succ, p2_add, p2_nat]
   grind
  have hf := p2_pos f
  have hy2 : RV t n f = sgR t * (n : Rat) * p2 f := rfl
  rw [hx, hy2] at hq
  have hs : sgR t * sgR t = 1 := by cases t <;> decide +kernel
  have h3 : (q * (n : Rat) - sgR (s ^^ t) * (2 * ((m : Rat) * ((2 ^ more : Nat) : Rat))) * p2 pl) * p2 f = 0 := by
   rw [sgR_xor]
   have : q * (sgR t * (n : Rat) * p2 f) * sgR t = sgR s * (2 * ((m : Rat) * ((2 ^ more : Nat) : Rat))) * p2 pl * p2 f * sgR t := by rw [hq]
   grind
  rcases Rat.mul_eq_zero.1 h3 with h4 | h4
  ·grind
  ·grind
 have hp := p2_pos pl
 have n1 : (Q : Rat) * (n : Rat) <= 2 * ((m : Rat) * ((2 ^ more : Nat) : Rat)) + (n : Rat) := by exact_mod_cast natCast_mono hN.1
 have n2 : 2 * ((m : Rat) * ((2 ^ more : Nat) : Rat)) <= (Q : Rat) * (n : Rat) + (n : Rat) := by exact_mod_cast natCast_mono hN.2
 have m1 := mul_mono n1 (Rat.le_of_lt hp)
 have m2 := mul_mono n2 (Rat.le_of_lt hp)
 have hnear : Near (RV (s ^^ t) Q pl) q (p2 pl) := by
  unfold RV
  have g1 : (sgR (s ^^ t) * (Q : Rat) * p2 pl - q - p2 pl) * (n : Rat) <= 0 := by
   have : sgR (s ^^ t) * (Q : Rat) * p2 pl * (n : Rat) - q * (n : Rat) - p2 pl * (n : Rat) <= 0 := by
    rw [hqv]
    cases (s ^^ t)
    ·have : sgR false = 1 := rfl
     rw [this]; grind
    ·have : sgR true = -1 := rfl
     rw [this]; grind
   grind
  have g2 : (q - sgR (s ^^ t) * (Q : Rat) * p2 pl - p2 pl) * (n : Rat) <= 0 := by
   have : q * (n : Rat) - sgR (s ^^ t) * (Q : Rat) * p2 pl * (n : Rat) - p2 pl * (n : Rat) <= 0 := by
    rw [hqv]
    cases (s ^^ t)
    ·have : sgR false = 1 := rfl
     rw [this]; grind
    ·have : sgR true = -1 := rfl
     rw [this]; grind
   grind
  have neg_of : ∀ z : Rat, z * (n : Rat) <= 0 -> z <= 0 := by
   intro z hz
   apply Classical.byContradiction
   intro hc
   have := Rat.mul_pos (show 0 < z by grind) hnR
   grind
  have k1 := neg_of _ g1
  have k2 := neg_of _ g2
  constructor <;> grind
 by_cases hm0 : m = 0
 ·have hq0 := hzero hm0
  subst hm0
  rw [hq0] at hnear ⊢
  have hqz : q = 0 := by
   have : q * (n : Rat) = 0 := by
    rw [hqv]
    have : ((0 : Nat) : Rat) = 0 := by simp
    rw [this]
    grind
   rcases Rat.mul_eq_zero.1 this with h | h
   ·exact h
   ·grind
  obtain ⟨r, h3, h4⟩ := near_val (s ^^ t) 0 pl B h1 h2 (by rw [RV_zero]; exact p2_pos _) (by rw [RV_zero]; have := p2_pos (B + 1); grind)
  rw [RV_zero] at h4
  have hle2 : p2 (B - 53) <= p2 (B - 52) := p2_le (by omega)
  refine ⟨r, h3, ?_⟩
  rw [hqz]
  exact ⟨by have := h4.1; grind, by have := h4.2; grind⟩
 ·have hpp := hplace hm0
  have h54 : p2 (54 + pl) <= p2 B := by
   have e3 : p2 (54 + pl) = ((2 ^ 54 : Nat) : Rat) * p2 pl := by rw [p2_add, show (54 : Int) = ((54 : Nat) : Int) from rfl, p2_nat]
   have n3 : ((2 ^ 54 : Nat) : Rat) * (n : Rat) <= (m : Rat) * ((2 ^ more : Nat) : Rat) * 2 := by exact_mod_cast natCast_mono hpp
   have m3 := mul_mono n3 (Rat.le_of_lt hp)
   have h5 : (p2 (54 + pl) - p2 B) * (n : Rat) <= 0 := by
    have hle' := mul_mono hle (Rat.le_of_lt hnR)
    have hge' := mul_mono hge (Rat.le_of_lt hnR)
    rw [hqv] at hle' hge'
    rw [e3]
    generalize (s ^^ t) = u at *
    cases u
    ·have : sgR false = 1 := rfl
     rw [this] at hle'; grind
    ·have : sgR true = -1 := rfl
     rw [this] at hge'; grind
   apply Classical.byContradiction
   intro hc
   have := Rat.mul_pos (show 0 < p2 (54 + pl) - p2 B by grind) hnR
   grind
  have hplB : 54 + pl <= B := by
   apply Classical.byContradiction
   intro hc
   have h6 := p2_le (show B + 1 <= 54 + pl by omega)
   have h7 := p2_succ B
   have := p2_pos B
   grind
  have hsm : p2 pl <= p2 (B - 54) := p2_le (by omega)
  have e5 : p2 (B - 53) = 2 * p2 (B - 54) := by rw [<- p2_succ]; congr 1; omega
  have e6 : p2 (B - 52) = 2 * p2 (B - 53) := by rw [<- p2_succ]; congr 1; omega
  have e7 : p2 (B + 1) = 2 * p2 B := p2_succ B
  have hB0 : p2 (B - 54) < p2 B := by
   have h8 : p2 (B - 54 + 1) <= p2 B := p2_le (by omega)
   rw [p2_succ] at h8
   have := p2_pos (B - 54)
   grind
  obtain ⟨r, h3, h4⟩ := near_val (s ^^ t) Q pl B h1 h2 (by have := hnear.1; grind) (by have := hnear.2; grind)
  refine ⟨r, h3, ?_⟩
  have := p2_pos (B - 54)
  exact ⟨by have := h4.1; have := hnear.1; grind, by have := h4.2; have := hnear.2; grind⟩
end Go.Proofs.YteieioehigacmaaGreat.AM
