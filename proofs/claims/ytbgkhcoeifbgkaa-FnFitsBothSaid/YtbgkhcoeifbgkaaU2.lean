/- What functions of the program make of their arguments; each is what its evaluation says. Printed by fx.py. -/
import Derived.Test.YtbgkhcoeifbgkaaT0
import Derived.Test.YtbgkhcoeifbgkaaU0
import Derived.Test.YtbgkhcoeifbgkaaU1
namespace Go.Proofs.Ytbgkhcoeifbgkaa.AM
open Go Go.Proofs
set_option linter.unusedVariables false
set_option maxRecDepth 100000
set_option maxHeartbeats 0

/- "loop.example/g03321/laws.big" -/
abbrev A33 : Ty := .cons (.slice (.int .u8)) (.nil)
abbrev R33 : Ty := .cons (.bool) (.nil)
noncomputable def Γ33 : Env := mkEnv tab eqs [] 6 [.tmp 2] [] [] [] [] []
def r33 (x : Den A33) : Option (Den R33) :=
  some ((decide ((↑(List.length x.fst) : Int) > 1048576)), ())
theorem ev33 (x : Den A33) : callK (Γ33) (bodyOf Try.f33) (decR R33) (encA A33 x) [] = r33 x := by kernel_rfl
def F33 (x : Den A33) : Option (Den R33) := r33 x
def K33 (x : Den A33) : Bool := (F33 x).isSome
def G33 (x : Den A33) : Den R33 := (F33 x).getD (zero R33)
theorem env33 : EnvOK Try.prog (Γ33) := env_ok mixed tab_ok eqs_ok .nil
theorem is33 : FnIs Try.prog 33 (Γ33) (bodyOf Try.f33) := fnIs Try.func33 rfl rfl rfl (by kernel_rfl) (noLoops (by kernel_rfl))
theorem sem33 : SemOK Try.prog (33, fnMean A33 R33 K33 G33) := fn_opt env33 is33 fun x => ev33 x

/- "loop.example/g03321/spec.l01New" mode S false -/
abbrev I58 : Sg := ⟨[.val (.slice (.int .u8))], []⟩
abbrev O58 : Sg := ⟨[.ptr 0], [.box (S89)]⟩
abbrev V58_3 : Type := (((List (Den (.int .u8))) × (Int × (Int × Unit))) × Unit)
def sh58_3 : ShS := ⟨[(0, .one (.sl (.int .u8))), (3, .one (.int .i64)), (4, .one (.int .i64))], [], 0, 0⟩
abbrev X58_3 : Type := (((List (Den (.int .u8))) × (Int × Unit)) × Unit)
def shX58_3 : ShS := ⟨[(0, .one (.sl (.int .u8))), (3, .one (.int .i64))], [], 0, 0⟩
noncomputable def Γ58 (kl3 : V58_3 → Bool) (xl3 : V58_3 → X58_3) : Env := mkEnv tab eqs [] 32 [.tmp 2] [] [] [(3, loopX [0, 3, 4] [] 0 [0, 3] [] sh58_3 shX58_3 kl3 xl3)] [] []
noncomputable def lc58_3 : Code := (loopsOf (bodyOf Try.f58)).getD 0 .skip
def q58_3 (f : V58_3 → Option (X58_3)) (v : V58_3) : Option (X58_3) :=
  bif (decide (v.fst.snd.snd.fst < (↑(List.length v.fst.fst) : Int))) then
    bif (decide (v.fst.snd.snd.fst < 4000)) then
      bif (decide (0 ≤ v.fst.snd.snd.fst) && decide (v.fst.snd.snd.fst < (↑(List.length v.fst.fst) : Int))) then
        let v0 := (IntKind.wrap IntKind.i64 (v.fst.snd.fst * 131))
        let v1 := (List.getD v.fst.fst (Int.toNat v.fst.snd.snd.fst) (zero (Ty.int IntKind.u8)))
        let v2 := (IntKind.wrap IntKind.i64 v1)
        let v3 := (IntKind.wrap IntKind.i64 (v0 + v2))
        let v4 := (IntKind.wrap IntKind.i64 (v3 + 7))
        let v5 := (IntKind.wrap IntKind.i64 (v.fst.snd.snd.fst + 1))
        f (((v.fst.1), ((ibits BinOp.and IntKind.i64 v4 1073741823), ((v5), ()))), ())
      else
        none
    else
      some (((v.fst.1), ((v.fst.snd.1), ())), ())
  else
    some (((v.fst.1), ((v.fst.snd.1), ())), ())
theorem evl58_3 (kl3 : V58_3 → Bool) (xl3 : V58_3 → X58_3) (f : V58_3 → Option (X58_3)) (v : V58_3) : EBk (Γ58 kl3 xl3) lc58_3 (roundK [0, 3, 4] [] 0 [0, 3] [] (atS sh58_3 f) (endX shX58_3)) (mkS sh58_3 v) = q58_3 f v := by kernel_rfl
def b58_3 (v : V58_3) : Nat := v.1.1.length + v.1.2.1.natAbs + v.1.2.2.1.natAbs + 1000
def l58_3 (v : V58_3) : Option (X58_3) := iter (q58_3) (b58_3 v) v
def kL58_3 (v : V58_3) : Bool := (l58_3 v).isSome
def xL58_3 (v : V58_3) : X58_3 := (l58_3 v).getD (([], (0, ())), ())
def r58 (kl3 : V58_3 → Bool) (xl3 : V58_3 → X58_3) (x : I58.den) : Option (O58.den) :=
  let v0 := (IntKind.wrap IntKind.i64 (33211 + (↑(List.length x.fst.fst) : Int)))
  let v1 := (kl3 ((x.fst.fst, v0, 0, ()), ()))
  bif (v1) then
    let v2 := (xl3 ((x.fst.fst, v0, 0, ()), ()))
    some (((), ()), (((v2.fst.1), ((0), ((v2.fst.snd.1), ()))), ()))
  else
    none
theorem ev58 (kl3 : V58_3 → Bool) (xl3 : V58_3 → X58_3) (x : I58.den) : callS (Γ58 kl3 xl3) (bodyOf Try.f58) I58 O58 x = r58 kl3 xl3 x := by kernel_rfl
def F58 (x : I58.den) : Option (O58.den) := r58 kL58_3 xL58_3 x
def K58 (x : I58.den) : Bool := (F58 x).isSome
def G58 (x : I58.den) : O58.den := (F58 x).getD (zeroSg O58)
theorem env58 : EnvOK Try.prog (Γ58 kL58_3 xL58_3) := env_ok mixed tab_ok eqs_ok .nil
theorem is58 : FnIs Try.prog 58 (Γ58 kL58_3 xL58_3) (bodyOf Try.f58) := fnIs Try.func58 rfl rfl rfl (by kernel_rfl) (loops_ok (l := [lc58_3]) (by kernel_rfl) (.cons (one_loop rfl (loopX_sound (sh := sh58_3) (shX := shX58_3) (fun f v => evl58_3 kL58_3 xL58_3 f v) b58_3 (([], (0, ())), ()))) (.nil)))
theorem sem58 : SemOK Try.prog (58, sgMean false I58 O58 K58 G58) := sg_opt env58 is58 false fun x => ev58 kL58_3 xL58_3 x

/- "loop.example/g03321/spec.l01Byte" mode S true -/
abbrev I73 : Sg := ⟨[.ptr 0], [.box (S89)]⟩
abbrev O73 : Sg := ⟨[.val (.int .i64)], [.box (S89)]⟩
noncomputable def Γ73 : Env := mkEnv tab eqs [] 58 [.tmp 2] [] [] [] [] []
def r73 (x : I73.den) : Option (O73.den) :=
  bif (decide (x.snd.fst.snd.fst < (↑(List.length x.snd.fst.fst) : Int))) then
    bif (decide (0 ≤ x.snd.fst.snd.fst) && decide (x.snd.fst.snd.fst < (↑(List.length x.snd.fst.fst) : Int))) then
      let v0 := (IntKind.wrap IntKind.i64 (x.snd.fst.snd.snd.fst * 6364136223846793005))
      let v1 := (IntKind.wrap IntKind.i64 (v0 + 1442695040888963407))
      let v2 := (List.getD x.snd.fst.fst (Int.toNat x.snd.fst.snd.fst) (zero (Ty.int IntKind.u8)))
      let v3 := (IntKind.wrap IntKind.i64 v2)
      let v4 := (IntKind.wrap IntKind.i64 (ibits BinOp.and IntKind.i64 (ibits BinOp.xor IntKind.i64 (Int.fdiv v1 (2 ^ min (Int.toNat 33) (IntKind.bits IntKind.i64))) (Int.fdiv v1 (2 ^ min (Int.toNat 45) (IntKind.bits IntKind.i64)))) 255 + v3))
      let v5 := (IntKind.wrap IntKind.i64 (x.snd.fst.snd.fst + 1))
      some (((ibits BinOp.and IntKind.i64 v4 255), ()), (((x.snd.fst.1), ((v5), ((v1), ()))), ()))
    else
      none
  else
    let v0 := (IntKind.wrap IntKind.i64 (x.snd.fst.snd.snd.fst * 6364136223846793005))
    let v1 := (IntKind.wrap IntKind.i64 (v0 + 1442695040888963407))
    some (((ibits BinOp.and IntKind.i64 (ibits BinOp.xor IntKind.i64 (Int.fdiv v1 (2 ^ min (Int.toNat 33) (IntKind.bits IntKind.i64))) (Int.fdiv v1 (2 ^ min (Int.toNat 45) (IntKind.bits IntKind.i64)))) 255), ()), (((x.snd.fst.1), ((x.snd.fst.snd.1), ((v1), ()))), ()))
theorem ev73 (x : I73.den) : callS (Γ73) (bodyOf Try.f73) I73 O73 x = r73 x := by kernel_rfl
def F73 (x : I73.den) : Option (O73.den) := r73 x
def K73 (x : I73.den) : Bool := (F73 x).isSome
def G73 (x : I73.den) : O73.den := (F73 x).getD (zeroSg O73)
theorem env73 : EnvOK Try.prog (Γ73) := env_ok mixed tab_ok eqs_ok .nil
theorem is73 : FnIs Try.prog 73 (Γ73) (bodyOf Try.f73) := fnIs Try.func73 rfl rfl rfl (by kernel_rfl) (noLoops (by kernel_rfl))
theorem sem73 : SemOK Try.prog (73, sgMean true I73 O73 K73 G73) := sg_opt env73 is73 true fun x => ev73 x

/- "loop.example/g03321/spec.l01Below" mode S true -/
abbrev I67 : Sg := ⟨[.ptr 0, .val (.int .i64)], [.box (S89)]⟩
abbrev O67 : Sg := ⟨[.val (.int .i64)], [.box (S89)]⟩
noncomputable def Γ67 (k73 : I73.den → Bool) (g73 : I73.den → O73.den) : Env := mkEnv tab eqs [(73, sgMean true I73 O73 k73 g73)] 37 [.tmp 4] [] [] [] [] []
def r67 (k73 : I73.den → Bool) (g73 : I73.den → O73.den) (x : I67.den) : Option (O67.den) :=
  bif (decide (x.fst.snd.fst ≤ 0)) then
    some (((0), ()), (((x.snd.fst.1), ((x.snd.fst.snd.1), ((x.snd.fst.snd.snd.1), ()))), ()))
  else
    bif (decide (x.fst.snd.fst ≤ 256)) then
      let v0 := (k73 (((), ()), x.snd))
      bif (v0) then
        bif (x.fst.snd.fst != 0) then
          let v1 := (g73 (((), ()), x.snd))
          some (((Int.tmod v1.fst.fst x.fst.snd.fst), ()), (((v1.snd.fst.1), ((v1.snd.fst.snd.1), ((v1.snd.fst.snd.snd.1), ()))), ()))
        else
          none
      else
        none
    else
      let v0 := (k73 (((), ()), x.snd))
      bif (v0) then
        let v1 := (g73 (((), ()), x.snd))
        let v2 := (k73 (((), ()), v1.snd))
        bif (v2) then
          let v3 := (g73 (((), ()), v1.snd))
          let v4 := (k73 (((), ()), v3.snd))
          bif (v4) then
            let v5 := (g73 (((), ()), v3.snd))
            let v6 := (k73 (((), ()), v5.snd))
            bif (v6) then
              bif (x.fst.snd.fst != 0) then
                let v7 := (IntKind.wrap IntKind.i64 (v1.fst.fst * 16777216))
                let v8 := (IntKind.wrap IntKind.i64 (v3.fst.fst * 65536))
                let v9 := (IntKind.wrap IntKind.i64 (v7 + v8))
                let v10 := (IntKind.wrap IntKind.i64 (v5.fst.fst * 256))
                let v11 := (IntKind.wrap IntKind.i64 (v9 + v10))
                let v12 := (g73 (((), ()), v5.snd))
                let v13 := (IntKind.wrap IntKind.i64 (v11 + v12.fst.fst))
                some (((Int.tmod v13 x.fst.snd.fst), ()), (((v12.snd.fst.1), ((v12.snd.fst.snd.1), ((v12.snd.fst.snd.snd.1), ()))), ()))
              else
                none
            else
              none
          else
            none
        else
          none
      else
        none
theorem ev67 (k73 : I73.den → Bool) (g73 : I73.den → O73.den) (x : I67.den) : callS (Γ67 k73 g73) (bodyOf Try.f67) I67 O67 x = r67 k73 g73 x := by kernel_rfl
def F67 (x : I67.den) : Option (O67.den) := r67 K73 G73 x
def K67 (x : I67.den) : Bool := (F67 x).isSome
def G67 (x : I67.den) : O67.den := (F67 x).getD (zeroSg O67)
theorem env67 : EnvOK Try.prog (Γ67 K73 G73) := env_ok mixed tab_ok eqs_ok (.cons sem73 .nil)
theorem is67 : FnIs Try.prog 67 (Γ67 K73 G73) (bodyOf Try.f67) := fnIs Try.func67 rfl rfl rfl (by kernel_rfl) (noLoops (by kernel_rfl))
theorem sem67 : SemOK Try.prog (67, sgMean true I67 O67 K67 G67) := sg_opt env67 is67 true fun x => ev67 K73 G73 x

/- "loop.example/g03321/spec.l01Once" mode S true -/
abbrev I65 : Sg := ⟨[.ptr 0, .val (.int .i64)], [.box (S89)]⟩
abbrev O65 : Sg := ⟨[.val (.bool)], [.box (S89)]⟩
noncomputable def Γ65 (k67 : I67.den → Bool) (g67 : I67.den → O67.den) : Env := mkEnv tab eqs [(67, sgMean true I67 O67 k67 g67)] 9 [.tmp 4] [] [] [] [] []
def r65 (k67 : I67.den → Bool) (g67 : I67.den → O67.den) (x : I65.den) : Option (O65.den) :=
  let v0 := (k67 (((), x.fst.snd), x.snd))
  bif (v0) then
    let v1 := (g67 (((), x.fst.snd), x.snd))
    some (((v1.fst.fst == 0), ()), (((v1.snd.fst.1), ((v1.snd.fst.snd.1), ((v1.snd.fst.snd.snd.1), ()))), ()))
  else
    none
theorem ev65 (k67 : I67.den → Bool) (g67 : I67.den → O67.den) (x : I65.den) : callS (Γ65 k67 g67) (bodyOf Try.f65) I65 O65 x = r65 k67 g67 x := by kernel_rfl
def F65 (x : I65.den) : Option (O65.den) := r65 K67 G67 x
def K65 (x : I65.den) : Bool := (F65 x).isSome
def G65 (x : I65.den) : O65.den := (F65 x).getD (zeroSg O65)
theorem env65 : EnvOK Try.prog (Γ65 K67 G67) := env_ok mixed tab_ok eqs_ok (.cons sem67 .nil)
theorem is65 : FnIs Try.prog 65 (Γ65 K67 G67) (bodyOf Try.f65) := fnIs Try.func65 rfl rfl rfl (by kernel_rfl) (noLoops (by kernel_rfl))
theorem sem65 : SemOK Try.prog (65, sgMean true I65 O65 K65 G65) := sg_opt env65 is65 true fun x => ev65 K67 G67 x

/- "loop.example/g03321/spec.l01Pick" mode S true -/
abbrev I68 : Sg := ⟨[.ptr 0, .own (.str) 1], [.box (S89), .arr (.str)]⟩
abbrev O68 : Sg := ⟨[.val (.str)], [.box (S89), .arr (.str)]⟩
noncomputable def Γ68 (k67 : I67.den → Bool) (g67 : I67.den → O67.den) : Env := mkEnv tab eqs [(67, sgMean true I67 O67 k67 g67)] 12 [.tmp 4] [] [] [] [] []
def r68 (k67 : I67.den → Bool) (g67 : I67.den → O67.den) (x : I68.den) : Option (O68.den) :=
  let v0 := (k67 (((), (↑(List.length x.snd.snd.fst) : Int), ()), x.snd.fst, ()))
  bif (v0) then
    let v1 := (g67 (((), (↑(List.length x.snd.snd.fst) : Int), ()), x.snd.fst, ()))
    bif (decide (0 ≤ v1.fst.fst) && decide (v1.fst.fst < (↑(List.length x.snd.snd.fst) : Int))) then
      let v2 := (List.getD x.snd.snd.fst (Int.toNat v1.fst.fst) (zero Ty.str))
      some (((v2), ()), (((v1.snd.fst.1), ((v1.snd.fst.snd.1), ((v1.snd.fst.snd.snd.1), ()))), ((x.snd.snd.1), ())))
    else
      none
  else
    none
theorem ev68 (k67 : I67.den → Bool) (g67 : I67.den → O67.den) (x : I68.den) : callS (Γ68 k67 g67) (bodyOf Try.f68) I68 O68 x = r68 k67 g67 x := by kernel_rfl
def F68 (x : I68.den) : Option (O68.den) := r68 K67 G67 x
def K68 (x : I68.den) : Bool := (F68 x).isSome
def G68 (x : I68.den) : O68.den := (F68 x).getD (zeroSg O68)
theorem env68 : EnvOK Try.prog (Γ68 K67 G67) := env_ok mixed tab_ok eqs_ok (.cons sem67 .nil)
theorem is68 : FnIs Try.prog 68 (Γ68 K67 G67) (bodyOf Try.f68) := fnIs Try.func68 rfl rfl rfl (by kernel_rfl) (noLoops (by kernel_rfl))
theorem sem68 : SemOK Try.prog (68, sgMean true I68 O68 K68 G68) := sg_opt env68 is68 true fun x => ev68 K67 G67 x

/- "loop.example/g03321/spec.l01Odd" mode S true -/
abbrev I75 : Sg := ⟨[.ptr 0], [.box (S89)]⟩
abbrev O75 : Sg := ⟨[.val (.flt .f64)], [.box (S89)]⟩
noncomputable def Γ75 (k67 : I67.den → Bool) (g67 : I67.den → O67.den) : Env := mkEnv tab eqs [(67, sgMean true I67 O67 k67 g67)] 34 [.tmp 2] [] [] [] [] []
def r75 (k67 : I67.den → Bool) (g67 : I67.den → O67.den) (x : I75.den) : Option (O75.den) :=
  let v0 := (k67 (((), 2, ()), x.snd))
  bif (v0) then
    let v1 := (g67 (((), 2, ()), x.snd))
    let v2 := (k67 (((), 8, ()), v1.snd))
    bif (v2) then
      let v3 := (g67 (((), 8, ()), v1.snd))
      bif (v3.fst.fst == 0) then
        let v4 := (IntKind.wrap IntKind.i64 (v1.fst.fst * 0))
        let v5 := (farith BinOp.quo FloatKind.f64 (FloatKind.nearest FloatKind.f64 v4) (FloatKind.nearest FloatKind.f64 v4))
        some (((v5), ()), (((v3.snd.fst.1), ((v3.snd.fst.snd.1), ((v3.snd.fst.snd.snd.1), ()))), ()))
      else
        bif (v3.fst.fst == 1) then
          let v4 := (IntKind.wrap IntKind.i64 (v1.fst.fst * 0))
          let v5 := (farith BinOp.quo FloatKind.f64 4607182418800017408 (FloatKind.nearest FloatKind.f64 v4))
          some (((v5), ()), (((v3.snd.fst.1), ((v3.snd.fst.snd.1), ((v3.snd.fst.snd.snd.1), ()))), ()))
        else
          bif (v3.fst.fst == 2) then
            let v4 := (IntKind.wrap IntKind.i64 (v1.fst.fst * 0))
            let v5 := (farith BinOp.quo FloatKind.f64 13830554455654793216 (FloatKind.nearest FloatKind.f64 v4))
            some (((v5), ()), (((v3.snd.fst.1), ((v3.snd.fst.snd.1), ((v3.snd.fst.snd.snd.1), ()))), ()))
          else
            bif (v3.fst.fst == 3) then
              let v4 := (IntKind.wrap IntKind.i64 (v1.fst.fst * 0))
              let v5 := (fneg FloatKind.f64 (FloatKind.nearest FloatKind.f64 v4))
              some (((v5), ()), (((v3.snd.fst.1), ((v3.snd.fst.snd.1), ((v3.snd.fst.snd.snd.1), ()))), ()))
            else
              bif (v3.fst.fst == 4) then
                some (((9094988921128908188), ()), (((v3.snd.fst.1), ((v3.snd.fst.snd.1), ((v3.snd.fst.snd.snd.1), ()))), ()))
              else
                bif (v3.fst.fst == 5) then
                  some (((9223372036854775809), ()), (((v3.snd.fst.1), ((v3.snd.fst.snd.1), ((v3.snd.fst.snd.snd.1), ()))), ()))
                else
                  bif (v3.fst.fst == 6) then
                    some (((4412443251819771522), ()), (((v3.snd.fst.1), ((v3.snd.fst.snd.1), ((v3.snd.fst.snd.snd.1), ()))), ()))
                  else
                    let v4 := (IntKind.wrap IntKind.i64 (v1.fst.fst * 0))
                    some (((FloatKind.nearest FloatKind.f64 v4), ()), (((v3.snd.fst.1), ((v3.snd.fst.snd.1), ((v3.snd.fst.snd.snd.1), ()))), ()))
    else
      none
  else
    none
theorem ev75 (k67 : I67.den → Bool) (g67 : I67.den → O67.den) (x : I75.den) : callS (Γ75 k67 g67) (bodyOf Try.f75) I75 O75 x = r75 k67 g67 x := by kernel_rfl
def F75 (x : I75.den) : Option (O75.den) := r75 K67 G67 x
def K75 (x : I75.den) : Bool := (F75 x).isSome
def G75 (x : I75.den) : O75.den := (F75 x).getD (zeroSg O75)
theorem env75 : EnvOK Try.prog (Γ75 K67 G67) := env_ok mixed tab_ok eqs_ok (.cons sem67 .nil)
theorem is75 : FnIs Try.prog 75 (Γ75 K67 G67) (bodyOf Try.f75) := fnIs Try.func75 rfl rfl rfl (by kernel_rfl) (noLoops (by kernel_rfl))
theorem sem75 : SemOK Try.prog (75, sgMean true I75 O75 K75 G75) := sg_opt env75 is75 true fun x => ev75 K67 G67 x

/- "loop.example/g03321/spec.l01Real" mode S true -/
abbrev I74 : Sg := ⟨[.ptr 0, .val (.int .i64)], [.box (S89)]⟩
abbrev O74 : Sg := ⟨[.val (.flt .f64)], [.box (S89)]⟩
noncomputable def Γ74 (k65 : I65.den → Bool) (g65 : I65.den → O65.den) (k75 : I75.den → Bool) (g75 : I75.den → O75.den) (k67 : I67.den → Bool) (g67 : I67.den → O67.den) : Env := mkEnv tab eqs [(65, sgMean true I65 O65 k65 g65), (75, sgMean true I75 O75 k75 g75), (67, sgMean true I67 O67 k67 g67)] 31 [.tmp 4] [] [] [] [] []
def r74 (k65 : I65.den → Bool) (g65 : I65.den → O65.den) (k75 : I75.den → Bool) (g75 : I75.den → O75.den) (k67 : I67.den → Bool) (g67 : I67.den → O67.den) (x : I74.den) : Option (O74.den) :=
  let v0 := (k65 (((), 40, ()), x.snd))
  bif (v0) then
    let v1 := (g65 (((), 40, ()), x.snd))
    bif (v1.fst.1) then
      let v2 := (k75 (((), ()), v1.snd))
      bif (v2) then
        let v3 := (g75 (((), ()), v1.snd))
        some (((v3.fst.1), ()), (((v3.snd.fst.1), ((v3.snd.fst.snd.1), ((v3.snd.fst.snd.snd.1), ()))), ()))
      else
        none
    else
      let v2 := (IntKind.wrap IntKind.i64 (x.fst.snd.fst * 8))
      let v3 := (IntKind.wrap IntKind.i64 (v2 + 1))
      let v4 := (k67 (((), v3, ()), v1.snd))
      bif (v4) then
        let v5 := (g67 (((), v3, ()), v1.snd))
        let v6 := (k65 (((), 2, ()), v5.snd))
        bif (v6) then
          let v7 := (g65 (((), 2, ()), v5.snd))
          bif (v7.fst.1) then
            let v8 := (IntKind.wrap IntKind.i64 (x.fst.snd.fst * 1000))
            let v9 := (IntKind.wrap IntKind.i64 (v8 + 1))
            let v10 := (k67 (((), v9, ()), v7.snd))
            bif (v10) then
              let v11 := (g67 (((), v9, ()), v7.snd))
              let v12 := (k65 (((), 2, ()), v11.snd))
              bif (v12) then
                let v13 := (g65 (((), 2, ()), v11.snd))
                bif (v13.fst.1) then
                  let v14 := (farith BinOp.quo FloatKind.f64 (FloatKind.nearest FloatKind.f64 v11.fst.fst) 4652007308841189376)
                  let v15 := (fneg FloatKind.f64 v14)
                  some (((v15), ()), (((v13.snd.fst.1), ((v13.snd.fst.snd.1), ((v13.snd.fst.snd.snd.1), ()))), ()))
                else
                  let v14 := (farith BinOp.quo FloatKind.f64 (FloatKind.nearest FloatKind.f64 v11.fst.fst) 4652007308841189376)
                  some (((v14), ()), (((v13.snd.fst.1), ((v13.snd.fst.snd.1), ((v13.snd.fst.snd.snd.1), ()))), ()))
              else
                none
            else
              none
          else
            let v8 := (k65 (((), 2, ()), v7.snd))
            bif (v8) then
              let v9 := (g65 (((), 2, ()), v7.snd))
              bif (v9.fst.1) then
                let v10 := (farith BinOp.quo FloatKind.f64 (FloatKind.nearest FloatKind.f64 v5.fst.fst) 4620693217682128896)
                let v11 := (fneg FloatKind.f64 v10)
                some (((v11), ()), (((v9.snd.fst.1), ((v9.snd.fst.snd.1), ((v9.snd.fst.snd.snd.1), ()))), ()))
              else
                let v10 := (farith BinOp.quo FloatKind.f64 (FloatKind.nearest FloatKind.f64 v5.fst.fst) 4620693217682128896)
                some (((v10), ()), (((v9.snd.fst.1), ((v9.snd.fst.snd.1), ((v9.snd.fst.snd.snd.1), ()))), ()))
            else
              none
        else
          none
      else
        none
  else
    none
theorem ev74 (k65 : I65.den → Bool) (g65 : I65.den → O65.den) (k75 : I75.den → Bool) (g75 : I75.den → O75.den) (k67 : I67.den → Bool) (g67 : I67.den → O67.den) (x : I74.den) : callS (Γ74 k65 g65 k75 g75 k67 g67) (bodyOf Try.f74) I74 O74 x = r74 k65 g65 k75 g75 k67 g67 x := by kernel_rfl
def F74 (x : I74.den) : Option (O74.den) := r74 K65 G65 K75 G75 K67 G67 x
def K74 (x : I74.den) : Bool := (F74 x).isSome
def G74 (x : I74.den) : O74.den := (F74 x).getD (zeroSg O74)
theorem env74 : EnvOK Try.prog (Γ74 K65 G65 K75 G75 K67 G67) := env_ok mixed tab_ok eqs_ok (.cons sem65 (.cons sem75 (.cons sem67 .nil)))
theorem is74 : FnIs Try.prog 74 (Γ74 K65 G65 K75 G75 K67 G67) (bodyOf Try.f74) := fnIs Try.func74 rfl rfl rfl (by kernel_rfl) (noLoops (by kernel_rfl))
theorem sem74 : SemOK Try.prog (74, sgMean true I74 O74 K74 G74) := sg_opt env74 is74 true fun x => ev74 K65 G65 K75 G75 K67 G67 x

/- "loop.example/g03321/spec.l03Single" mode S true -/
abbrev I69 : Sg := ⟨[.ptr 0, .val (.int .i64)], [.box (S89)]⟩
abbrev O69 : Sg := ⟨[.val (.flt .f32)], [.box (S89)]⟩
noncomputable def Γ69 (k74 : I74.den → Bool) (g74 : I74.den → O74.den) : Env := mkEnv tab eqs [(74, sgMean true I74 O74 k74 g74)] 9 [.tmp 4] [] [] [] [] []
def r69 (k74 : I74.den → Bool) (g74 : I74.den → O74.den) (x : I69.den) : Option (O69.den) :=
  let v0 := (k74 (((), x.fst.snd), x.snd))
  bif (v0) then
    let v1 := (g74 (((), x.fst.snd), x.snd))
    bif ((convF FloatKind.f64 FloatKind.f32 v1.fst.fst).1) then
      some ((((convF FloatKind.f64 FloatKind.f32 v1.fst.fst).2), ()), (((v1.snd.fst.1), ((v1.snd.fst.snd.1), ((v1.snd.fst.snd.snd.1), ()))), ()))
    else
      none
  else
    none
theorem ev69 (k74 : I74.den → Bool) (g74 : I74.den → O74.den) (x : I69.den) : callS (Γ69 k74 g74) (bodyOf Try.f69) I69 O69 x = r69 k74 g74 x := by kernel_rfl
def F69 (x : I69.den) : Option (O69.den) := r69 K74 G74 x
def K69 (x : I69.den) : Bool := (F69 x).isSome
def G69 (x : I69.den) : O69.den := (F69 x).getD (zeroSg O69)
theorem env69 : EnvOK Try.prog (Γ69 K74 G74) := env_ok mixed tab_ok eqs_ok (.cons sem74 .nil)
theorem is69 : FnIs Try.prog 69 (Γ69 K74 G74) (bodyOf Try.f69) := fnIs Try.func69 rfl rfl rfl (by kernel_rfl) (noLoops (by kernel_rfl))
theorem sem69 : SemOK Try.prog (69, sgMean true I69 O69 K69 G69) := sg_opt env69 is69 true fun x => ev69 K74 G74 x

/- "loop.example/g03321/spec.l01PickInt" mode S true -/
abbrev I71 : Sg := ⟨[.ptr 0, .own (.int .i64) 1], [.box (S89), .arr (.int .i64)]⟩
abbrev O71 : Sg := ⟨[.val (.int .i64)], [.box (S89), .arr (.int .i64)]⟩
noncomputable def Γ71 (k67 : I67.den → Bool) (g67 : I67.den → O67.den) : Env := mkEnv tab eqs [(67, sgMean true I67 O67 k67 g67)] 12 [.tmp 4] [] [] [] [] []
def r71 (k67 : I67.den → Bool) (g67 : I67.den → O67.den) (x : I71.den) : Option (O71.den) :=
  let v0 := (k67 (((), (↑(List.length x.snd.snd.fst) : Int), ()), x.snd.fst, ()))
  bif (v0) then
    let v1 := (g67 (((), (↑(List.length x.snd.snd.fst) : Int), ()), x.snd.fst, ()))
    bif (decide (0 ≤ v1.fst.fst) && decide (v1.fst.fst < (↑(List.length x.snd.snd.fst) : Int))) then
      let v2 := (List.getD x.snd.snd.fst (Int.toNat v1.fst.fst) (zero (Ty.int IntKind.i64)))
      some (((v2), ()), (((v1.snd.fst.1), ((v1.snd.fst.snd.1), ((v1.snd.fst.snd.snd.1), ()))), ((x.snd.snd.1), ())))
    else
      none
  else
    none
theorem ev71 (k67 : I67.den → Bool) (g67 : I67.den → O67.den) (x : I71.den) : callS (Γ71 k67 g67) (bodyOf Try.f71) I71 O71 x = r71 k67 g67 x := by kernel_rfl
def F71 (x : I71.den) : Option (O71.den) := r71 K67 G67 x
def K71 (x : I71.den) : Bool := (F71 x).isSome
def G71 (x : I71.den) : O71.den := (F71 x).getD (zeroSg O71)
theorem env71 : EnvOK Try.prog (Γ71 K67 G67) := env_ok mixed tab_ok eqs_ok (.cons sem67 .nil)
theorem is71 : FnIs Try.prog 71 (Γ71 K67 G67) (bodyOf Try.f71) := fnIs Try.func71 rfl rfl rfl (by kernel_rfl) (noLoops (by kernel_rfl))
theorem sem71 : SemOK Try.prog (71, sgMean true I71 O71 K71 G71) := sg_opt env71 is71 true fun x => ev71 K67 G67 x

/- "loop.example/g03321/spec.l01Number" mode S true -/
abbrev I70 : Sg := ⟨[.ptr 0], [.box (S89)]⟩
abbrev O70 : Sg := ⟨[.val (.int .i64)], [.box (S89)]⟩
noncomputable def Γ70 (k67 : I67.den → Bool) (g67 : I67.den → O67.den) (k71 : I71.den → Bool) (g71 : I71.den → O71.den) : Env := mkEnv tab eqs [(67, sgMean true I67 O67 k67 g67), (71, sgMean true I71 O71 k71 g71)] 16 [.tmp 2] [] [] [] [] []
def r70 (k67 : I67.den → Bool) (g67 : I67.den → O67.den) (k71 : I71.den → Bool) (g71 : I71.den → O71.den) (x : I70.den) : Option (O70.den) :=
  let v0 := (k67 (((), 4, ()), x.snd))
  bif (v0) then
    let v1 := (g67 (((), 4, ()), x.snd))
    bif (v1.fst.fst == 0) then
      let v2 := (List.set (List.replicate 10 (zero (Ty.int IntKind.i64))) 0 (-1))
      let v3 := (List.set v2 1 0)
      let v4 := (List.set v3 2 127)
      let v5 := (List.set v4 3 128)
      let v6 := (List.set v5 4 16383)
      let v7 := (List.set v6 5 16384)
      let v8 := (List.set v7 6 1000000000)
      let v9 := (List.set v8 7 1000000001)
      let v10 := (List.set v9 8 9223372036854775807)
      let v11 := (List.set v10 9 (-9223372036854775808))
      let v12 := (k71 (((), (), ()), v1.snd.fst, v11, ()))
      bif (v12) then
        let v13 := (g71 (((), (), ()), v1.snd.fst, v11, ()))
        some (((v13.fst.1), ()), (((v13.snd.fst.1), ((v13.snd.fst.snd.1), ((v13.snd.fst.snd.snd.1), ()))), ()))
      else
        none
    else
      bif (v1.fst.fst == 1) then
        let v2 := (k67 (((), 1000000000, ()), v1.snd))
        bif (v2) then
          let v3 := (g67 (((), 1000000000, ()), v1.snd))
          some (((v3.fst.1), ()), (((v3.snd.fst.1), ((v3.snd.fst.snd.1), ((v3.snd.fst.snd.snd.1), ()))), ()))
        else
          none
      else
        let v2 := (k67 (((), 400, ()), v1.snd))
        bif (v2) then
          let v3 := (g67 (((), 400, ()), v1.snd))
          some (((v3.fst.1), ()), (((v3.snd.fst.1), ((v3.snd.fst.snd.1), ((v3.snd.fst.snd.snd.1), ()))), ()))
        else
          none
  else
    none
theorem ev70 (k67 : I67.den → Bool) (g67 : I67.den → O67.den) (k71 : I71.den → Bool) (g71 : I71.den → O71.den) (x : I70.den) : callS (Γ70 k67 g67 k71 g71) (bodyOf Try.f70) I70 O70 x = r70 k67 g67 k71 g71 x := by kernel_rfl
def F70 (x : I70.den) : Option (O70.den) := r70 K67 G67 K71 G71 x
def K70 (x : I70.den) : Bool := (F70 x).isSome
def G70 (x : I70.den) : O70.den := (F70 x).getD (zeroSg O70)
theorem env70 : EnvOK Try.prog (Γ70 K67 G67 K71 G71) := env_ok mixed tab_ok eqs_ok (.cons sem67 (.cons sem71 .nil))
theorem is70 : FnIs Try.prog 70 (Γ70 K67 G67 K71 G71) (bodyOf Try.f70) := fnIs Try.func70 rfl rfl rfl (by kernel_rfl) (noLoops (by kernel_rfl))
theorem sem70 : SemOK Try.prog (70, sgMean true I70 O70 K70 G70) := sg_opt env70 is70 true fun x => ev70 K67 G67 K71 G71 x

/- "loop.example/g03321/spec.l11Sails" mode S true -/
abbrev I59 : Sg := ⟨[.ptr 0], [.box (S89)]⟩
abbrev O59 : Sg := ⟨[.own (S23) 1], [.box (S89), .arr (S23)]⟩
abbrev V59_4 : Type := ((Unit × (Unit × (Unit × (Int × Unit)))) × (((List (Den (.int .u8))) × (Int × (Int × Unit))) × ((List (Den (.str))) × ((List (Den (S23))) × Unit))))
def sh59_4 : ShS := ⟨[(0, .one (.ptr 0 0)), (3, .one (.ref (.str) 1)), (4, .one (.ref (S23) 2)), (5, .one (.int .i64))], [(0, .box [.sl (.int .u8), .int .i64, .int .i64]), (1, .arr (.str)), (2, .arr (S23))], 3, 1⟩
abbrev X59_4 : Type := ((Unit × (Unit × Unit)) × (((List (Den (.int .u8))) × (Int × (Int × Unit))) × ((List (Den (S23))) × Unit)))
def shX59_4 : ShS := ⟨[(0, .one (.ptr 0 0)), (4, .one (.ref (S23) 1))], [(0, .box [.sl (.int .u8), .int .i64, .int .i64]), (1, .arr (S23))], 2, 1⟩
abbrev V59_29 : Type := ((Unit × (Unit × Unit)) × (((List (Den (.int .u8))) × (Int × (Int × Unit))) × ((List (Den (S23))) × Unit)))
def sh59_29 : ShS := ⟨[(0, .one (.ptr 0 0)), (4, .one (.ref (S23) 1))], [(0, .box [.sl (.int .u8), .int .i64, .int .i64]), (1, .arr (S23))], 2, 1⟩
abbrev X59_29 : Type := ((Unit × Unit) × (((List (Den (.int .u8))) × (Int × (Int × Unit))) × ((List (Den (S23))) × Unit)))
def shX59_29 : ShS := ⟨[(4, .one (.ref (S23) 1))], [(0, .box [.sl (.int .u8), .int .i64, .int .i64]), (1, .arr (S23))], 2, 1⟩
noncomputable def Γ59 (k67 : I67.den → Bool) (g67 : I67.den → O67.den) (k65 : I65.den → Bool) (g65 : I65.den → O65.den) (k68 : I68.den → Bool) (g68 : I68.den → O68.den) (k69 : I69.den → Bool) (g69 : I69.den → O69.den) (k70 : I70.den → Bool) (g70 : I70.den → O70.den) (kl4 : V59_4 → Bool) (xl4 : V59_4 → X59_4) (kl29 : V59_29 → Bool) (xl29 : V59_29 → X59_29) : Env := mkEnv tab eqs [(67, sgMean true I67 O67 k67 g67), (65, sgMean true I65 O65 k65 g65), (68, sgMean true I68 O68 k68 g68), (69, sgMean true I69 O69 k69 g69), (70, sgMean true I70 O70 k70 g70)] 132 [.tmp 2] [] [] [(4, loopX [0, 3, 4, 5] [] 0 [0, 4] [] sh59_4 shX59_4 kl4 xl4), (29, loopX [0, 4] [] 3 [4] [] sh59_29 shX59_29 kl29 xl29)] [] []
noncomputable def lc59_4 : Code := (loopsOf (bodyOf Try.f59)).getD 0 .skip
noncomputable def lc59_29 : Code := (loopsOf (bodyOf Try.f59)).getD 1 .skip
def q59_29 (k67 : I67.den → Bool) (g67 : I67.den → O67.den) (k65 : I65.den → Bool) (g65 : I65.den → O65.den) (k68 : I68.den → Bool) (g68 : I68.den → O68.den) (k69 : I69.den → Bool) (g69 : I69.den → O69.den) (k70 : I70.den → Bool) (g70 : I70.den → O70.den) (f : V59_29 → Option (X59_29)) (v : V59_29) : Option (X59_29) :=
  let v0 := (k67 (((), 2, ()), v.snd.fst, ()))
  bif (v0) then
    let v1 := (g67 (((), 2, ()), v.snd.fst, ()))
    let v2 := (IntKind.wrap IntKind.i64 (12 + v1.fst.fst))
    bif (decide ((↑(List.length v.snd.snd.fst) : Int) < v2)) then
      bif (decide (0 ≤ 0) && decide (0 < (↑(List.length v.snd.snd.fst) : Int))) then
        let v3 := (IntKind.wrap IntKind.i64 (97 + (↑(List.length v.snd.snd.fst) : Int)))
        let v4 := (IntKind.wrap IntKind.u8 v3)
        let v5 := (List.set (List.replicate 1 (zero (Ty.int IntKind.u8))) 0 v4)
        let v6 := (bstrOf v5)
        let v7 := ({ data := #[115] } ++ v6)
        let v8 := (List.getD v.snd.snd.fst (Int.toNat 0) (zero S23))
        let v9 := (List.set (List.replicate 1 (zero S23)) 0 (v7, v8.snd))
        bif (capOk (List.length v.snd.snd.fst + List.length v9)) then
          let v10 := (v.snd.snd.fst ++ v9)
          f (((), ((), ())), (((v1.snd.fst.1), ((v1.snd.fst.snd.1), ((v1.snd.fst.snd.snd.1), ()))), ((v10), ())))
        else
          none
      else
        none
    else
      some (((), ()), (((v1.snd.fst.1), ((v1.snd.fst.snd.1), ((v1.snd.fst.snd.snd.1), ()))), ((v.snd.snd.1), ())))
  else
    none
theorem evl59_29 (k67 : I67.den → Bool) (g67 : I67.den → O67.den) (k65 : I65.den → Bool) (g65 : I65.den → O65.den) (k68 : I68.den → Bool) (g68 : I68.den → O68.den) (k69 : I69.den → Bool) (g69 : I69.den → O69.den) (k70 : I70.den → Bool) (g70 : I70.den → O70.den) (kl4 : V59_4 → Bool) (xl4 : V59_4 → X59_4) (kl29 : V59_29 → Bool) (xl29 : V59_29 → X59_29) (f : V59_29 → Option (X59_29)) (v : V59_29) : EBk (Γ59 k67 g67 k65 g65 k68 g68 k69 g69 k70 g70 kl4 xl4 kl29 xl29) lc59_29 (roundK [0, 4] [] 3 [4] [] (atS sh59_29 f) (endX shX59_29)) (mkS sh59_29 v) = q59_29 k67 g67 k65 g65 k68 g68 k69 g69 k70 g70 f v := by kernel_rfl
def b59_29 (v : V59_29) : Nat := v.2.1.1.length + v.2.1.2.1.natAbs + v.2.1.2.2.1.natAbs + v.2.2.1.length + 1000
def l59_29 (v : V59_29) : Option (X59_29) := iter (q59_29 K67 G67 K65 G65 K68 G68 K69 G69 K70 G70) (b59_29 v) v
def kL59_29 (v : V59_29) : Bool := (l59_29 v).isSome
def xL59_29 (v : V59_29) : X59_29 := (l59_29 v).getD (((), ()), (([], (0, (0, ()))), ([], ())))
def q59_4 (k67 : I67.den → Bool) (g67 : I67.den → O67.den) (k65 : I65.den → Bool) (g65 : I65.den → O65.den) (k68 : I68.den → Bool) (g68 : I68.den → O68.den) (k69 : I69.den → Bool) (g69 : I69.den → O69.den) (k70 : I70.den → Bool) (g70 : I70.den → O70.den) (f : V59_4 → Option (X59_4)) (v : V59_4) : Option (X59_4) :=
  bif (decide (v.fst.snd.snd.snd.fst > 0)) then
    let v0 := (k67 (((), 16, ()), v.snd.fst, ()))
    bif (v0) then
      let v1 := (g67 (((), 16, ()), v.snd.fst, ()))
      let v2 := (k67 (((), 100, ()), v1.snd))
      bif (v2) then
        bif (decide (0 ≤ (↑(List.length v.snd.snd.snd.fst) : Int)) && decide ((↑(List.length v.snd.snd.snd.fst) : Int) < (↑(List.length v.snd.snd.fst) : Int))) then
          let v3 := (g67 (((), 100, ()), v1.snd))
          let v4 := (k67 (((), 14, ()), v3.snd))
          bif (v4) then
            let v5 := (g67 (((), 14, ()), v3.snd))
            let v6 := (k67 (((), 81, ()), v5.snd))
            bif (v6) then
              let v7 := (g67 (((), 81, ()), v5.snd))
              let v8 := (k65 (((), 4, ()), v7.snd))
              bif (v8) then
                let v9 := (g65 (((), 4, ()), v7.snd))
                bif (v9.fst.1) then
                  let v10 := (List.getD v.snd.snd.fst (Int.toNat (↑(List.length v.snd.snd.snd.fst) : Int)) (zero Ty.str))
                  let v11 := (IntKind.wrap IntKind.i64 (2 + v5.fst.fst))
                  let v12 := (farith BinOp.add FloatKind.f32 (FloatKind.nearest FloatKind.f32 v1.fst.fst) (FloatKind.nearest FloatKind.f32 v11))
                  let v13 := (List.set (List.replicate 1 (zero S23)) 0 (v10, 0, v12, 0, 180, ()))
                  bif (capOk (List.length v.snd.snd.snd.fst + List.length v13)) then
                    let v14 := (IntKind.wrap IntKind.i64 (v.fst.snd.snd.snd.fst - 1))
                    let v15 := (v.snd.snd.snd.fst ++ v13)
                    f (((), ((), ((), ((v14), ())))), (((v9.snd.fst.1), ((v9.snd.fst.snd.1), ((v9.snd.fst.snd.snd.1), ()))), ((v.snd.snd.1), ((v15), ()))))
                  else
                    none
                else
                  let v10 := (List.getD v.snd.snd.fst (Int.toNat (↑(List.length v.snd.snd.snd.fst) : Int)) (zero Ty.str))
                  let v11 := (IntKind.wrap IntKind.i64 (2 + v5.fst.fst))
                  let v12 := (farith BinOp.add FloatKind.f32 (FloatKind.nearest FloatKind.f32 v1.fst.fst) (FloatKind.nearest FloatKind.f32 v11))
                  let v13 := (IntKind.wrap IntKind.i64 (v3.fst.fst + v7.fst.fst))
                  let v14 := (List.set (List.replicate 1 (zero S23)) 0 (v10, FloatKind.nearest FloatKind.f32 v1.fst.fst, v12, v3.fst.fst, v13, ()))
                  bif (capOk (List.length v.snd.snd.snd.fst + List.length v14)) then
                    let v15 := (IntKind.wrap IntKind.i64 (v.fst.snd.snd.snd.fst - 1))
                    let v16 := (v.snd.snd.snd.fst ++ v14)
                    f (((), ((), ((), ((v15), ())))), (((v9.snd.fst.1), ((v9.snd.fst.snd.1), ((v9.snd.fst.snd.snd.1), ()))), ((v.snd.snd.1), ((v16), ()))))
                  else
                    none
              else
                none
            else
              none
          else
            none
        else
          none
      else
        none
    else
      none
  else
    some (((), ((), ())), (((v.snd.fst.1), ((v.snd.fst.snd.1), ((v.snd.fst.snd.snd.1), ()))), ((v.snd.snd.snd.1), ())))
theorem evl59_4 (k67 : I67.den → Bool) (g67 : I67.den → O67.den) (k65 : I65.den → Bool) (g65 : I65.den → O65.den) (k68 : I68.den → Bool) (g68 : I68.den → O68.den) (k69 : I69.den → Bool) (g69 : I69.den → O69.den) (k70 : I70.den → Bool) (g70 : I70.den → O70.den) (kl4 : V59_4 → Bool) (xl4 : V59_4 → X59_4) (kl29 : V59_29 → Bool) (xl29 : V59_29 → X59_29) (f : V59_4 → Option (X59_4)) (v : V59_4) : EBk (Γ59 k67 g67 k65 g65 k68 g68 k69 g69 k70 g70 kl4 xl4 kl29 xl29) lc59_4 (roundK [0, 3, 4, 5] [] 0 [0, 4] [] (atS sh59_4 f) (endX shX59_4)) (mkS sh59_4 v) = q59_4 k67 g67 k65 g65 k68 g68 k69 g69 k70 g70 f v := by kernel_rfl
def b59_4 (v : V59_4) : Nat := v.1.2.2.2.1.natAbs + v.2.1.1.length + v.2.1.2.1.natAbs + v.2.1.2.2.1.natAbs + v.2.2.1.length + v.2.2.2.1.length + 1000
def l59_4 (v : V59_4) : Option (X59_4) := iter (q59_4 K67 G67 K65 G65 K68 G68 K69 G69 K70 G70) (b59_4 v) v
def kL59_4 (v : V59_4) : Bool := (l59_4 v).isSome
def xL59_4 (v : V59_4) : X59_4 := (l59_4 v).getD (((), ((), ())), (([], (0, (0, ()))), ([], ())))
def r59 (k67 : I67.den → Bool) (g67 : I67.den → O67.den) (k65 : I65.den → Bool) (g65 : I65.den → O65.den) (k68 : I68.den → Bool) (g68 : I68.den → O68.den) (k69 : I69.den → Bool) (g69 : I69.den → O69.den) (k70 : I70.den → Bool) (g70 : I70.den → O70.den) (kl4 : V59_4 → Bool) (xl4 : V59_4 → X59_4) (kl29 : V59_29 → Bool) (xl29 : V59_29 → X59_29) (x : I59.den) : Option (O59.den) :=
  let v0 := (k67 (((), 5, ()), x.snd))
  bif (v0) then
    let v1 := (g67 (((), 5, ()), x.snd))
    let v2 := (IntKind.wrap IntKind.i64 (1 + v1.fst.fst))
    let v3 := (List.set (List.replicate 6 (zero Ty.str)) 0 { data := #[109, 97, 105, 110] })
    let v4 := (List.set v3 1 { data := #[106, 105, 98] })
    let v5 := (List.set v4 2 { data := #[103, 101, 110, 111, 97] })
    let v6 := (List.set v5 3 { data := #[115, 116, 111, 114, 109] })
    let v7 := (List.set v6 4 { data := #[99, 111, 100, 101] })
    let v8 := (List.set v7 5 { data := #[107, 105, 116, 101] })
    let v9 := (kl4 (((), (), (), v2, ()), v1.snd.fst, v8, List.replicate 0 (zero S23), ()))
    bif (v9) then
      let v10 := (xl4 (((), (), (), v2, ()), v1.snd.fst, v8, List.replicate 0 (zero S23), ()))
      let v11 := (k67 (((), (↑(List.length v10.snd.snd.fst) : Int), ()), v10.snd.fst, ()))
      bif (v11) then
        let v12 := (g67 (((), (↑(List.length v10.snd.snd.fst) : Int), ()), v10.snd.fst, ()))
        let v13 := (k67 (((), 24, ()), v12.snd))
        bif (v13) then
          let v14 := (g67 (((), 24, ()), v12.snd))
          bif (v14.fst.fst == 0) then
            bif (decide (0 ≤ 0) && decide (0 < (↑(List.length v10.snd.snd.fst) : Int))) then
              let v15 := (List.set (List.replicate 5 (zero Ty.str)) 0 { data := #[] })
              let v16 := (List.set v15 1 { data := #[74, 105, 98] })
              let v17 := (List.set v16 2 { data := #[97, 98, 99, 100, 101, 102, 103, 104, 105, 106, 107, 108, 109, 110, 111, 112, 113] })
              let v18 := (List.set v17 3 { data := #[97, 98, 99, 100, 101, 102, 103, 104, 105, 106, 107, 108, 109, 110, 111, 112] })
              let v19 := (List.getD v10.snd.snd.fst (Int.toNat 0) (zero S23))
              let v20 := (List.set v18 4 v19.fst)
              let v21 := (k68 (((), (), ()), v14.snd.fst, v20, ()))
              bif (v21) then
                bif (decide (0 ≤ v12.fst.fst) && decide (v12.fst.fst < (↑(List.length v10.snd.snd.fst) : Int))) then
                  let v22 := (g68 (((), (), ()), v14.snd.fst, v20, ()))
                  let v23 := (List.getD v10.snd.snd.fst (Int.toNat v12.fst.fst) (zero S23))
                  let v24 := (List.set v10.snd.snd.fst (Int.toNat v12.fst.fst) (v22.fst.fst, v23.snd))
                  some (((), ()), (((v22.snd.fst.1), ((v22.snd.fst.snd.1), ((v22.snd.fst.snd.snd.1), ()))), ((v24), ())))
                else
                  none
              else
                none
            else
              none
          else
            bif (v14.fst.fst == 1) then
              let v15 := (k69 (((), 300, ()), v14.snd))
              bif (v15) then
                bif (decide (0 ≤ v12.fst.fst) && decide (v12.fst.fst < (↑(List.length v10.snd.snd.fst) : Int))) then
                  let v16 := (g69 (((), 300, ()), v14.snd))
                  let v17 := (List.getD v10.snd.snd.fst (Int.toNat v12.fst.fst) (zero S23))
                  let v18 := (List.set v10.snd.snd.fst (Int.toNat v12.fst.fst) (v17.fst, v16.fst.fst, v17.snd.snd))
                  some (((), ()), (((v16.snd.fst.1), ((v16.snd.fst.snd.1), ((v16.snd.fst.snd.snd.1), ()))), ((v18), ())))
                else
                  none
              else
                none
            else
              bif (v14.fst.fst == 2) then
                let v15 := (k69 (((), 300, ()), v14.snd))
                bif (v15) then
                  bif (decide (0 ≤ v12.fst.fst) && decide (v12.fst.fst < (↑(List.length v10.snd.snd.fst) : Int))) then
                    let v16 := (g69 (((), 300, ()), v14.snd))
                    let v17 := (List.getD v10.snd.snd.fst (Int.toNat v12.fst.fst) (zero S23))
                    let v18 := (List.set v10.snd.snd.fst (Int.toNat v12.fst.fst) (v17.fst, v17.snd.fst, v16.fst.fst, v17.snd.snd.snd))
                    some (((), ()), (((v16.snd.fst.1), ((v16.snd.fst.snd.1), ((v16.snd.fst.snd.snd.1), ()))), ((v18), ())))
                  else
                    none
                else
                  none
              else
                bif (v14.fst.fst == 3) then
                  let v15 := (k70 (((), ()), v14.snd))
                  bif (v15) then
                    bif (decide (0 ≤ v12.fst.fst) && decide (v12.fst.fst < (↑(List.length v10.snd.snd.fst) : Int))) then
                      let v16 := (g70 (((), ()), v14.snd))
                      let v17 := (List.getD v10.snd.snd.fst (Int.toNat v12.fst.fst) (zero S23))
                      let v18 := (IntKind.wrap IntKind.i64 (v16.fst.fst - 2))
                      let v19 := (List.set v10.snd.snd.fst (Int.toNat v12.fst.fst) (v17.fst, v17.snd.fst, v17.snd.snd.fst, v17.snd.snd.snd.fst, v18, ()))
                      some (((), ()), (((v16.snd.fst.1), ((v16.snd.fst.snd.1), ((v16.snd.fst.snd.snd.1), ()))), ((v19), ())))
                    else
                      none
                  else
                    none
                else
                  bif (v14.fst.fst == 4) then
                    let v15 := (k70 (((), ()), v14.snd))
                    bif (v15) then
                      bif (decide (0 ≤ v12.fst.fst) && decide (v12.fst.fst < (↑(List.length v10.snd.snd.fst) : Int))) then
                        let v16 := (g70 (((), ()), v14.snd))
                        let v17 := (List.getD v10.snd.snd.fst (Int.toNat v12.fst.fst) (zero S23))
                        let v18 := (IntKind.wrap IntKind.i64 (v16.fst.fst - 2))
                        let v19 := (List.set v10.snd.snd.fst (Int.toNat v12.fst.fst) (v17.fst, v17.snd.fst, v17.snd.snd.fst, v18, v17.snd.snd.snd.snd))
                        some (((), ()), (((v16.snd.fst.1), ((v16.snd.fst.snd.1), ((v16.snd.fst.snd.snd.1), ()))), ((v19), ())))
                      else
                        none
                    else
                      none
                  else
                    bif (v14.fst.fst == 5) then
                      some (((), ()), (((v14.snd.fst.1), ((v14.snd.fst.snd.1), ((v14.snd.fst.snd.snd.1), ()))), ((List.replicate 0 (zero S23)), ())))
                    else
                      bif (v14.fst.fst == 6) then
                        let v15 := (kl29 (((), (), ()), v14.snd.fst, v10.snd.snd))
                        bif (v15) then
                          let v16 := (xl29 (((), (), ()), v14.snd.fst, v10.snd.snd))
                          some (((), ()), (((v16.snd.fst.1), ((v16.snd.fst.snd.1), ((v16.snd.fst.snd.snd.1), ()))), ((v16.snd.snd.1), ())))
                        else
                          none
                      else
                        some (((), ()), (((v14.snd.fst.1), ((v14.snd.fst.snd.1), ((v14.snd.fst.snd.snd.1), ()))), ((v10.snd.snd.1), ())))
        else
          none
      else
        none
    else
      none
  else
    none
theorem ev59 (k67 : I67.den → Bool) (g67 : I67.den → O67.den) (k65 : I65.den → Bool) (g65 : I65.den → O65.den) (k68 : I68.den → Bool) (g68 : I68.den → O68.den) (k69 : I69.den → Bool) (g69 : I69.den → O69.den) (k70 : I70.den → Bool) (g70 : I70.den → O70.den) (kl4 : V59_4 → Bool) (xl4 : V59_4 → X59_4) (kl29 : V59_29 → Bool) (xl29 : V59_29 → X59_29) (x : I59.den) : callS (Γ59 k67 g67 k65 g65 k68 g68 k69 g69 k70 g70 kl4 xl4 kl29 xl29) (bodyOf Try.f59) I59 O59 x = r59 k67 g67 k65 g65 k68 g68 k69 g69 k70 g70 kl4 xl4 kl29 xl29 x := by kernel_rfl
def F59 (x : I59.den) : Option (O59.den) := r59 K67 G67 K65 G65 K68 G68 K69 G69 K70 G70 kL59_4 xL59_4 kL59_29 xL59_29 x
def K59 (x : I59.den) : Bool := (F59 x).isSome
def G59 (x : I59.den) : O59.den := (F59 x).getD (zeroSg O59)
theorem env59 : EnvOK Try.prog (Γ59 K67 G67 K65 G65 K68 G68 K69 G69 K70 G70 kL59_4 xL59_4 kL59_29 xL59_29) := env_ok mixed tab_ok eqs_ok (.cons sem67 (.cons sem65 (.cons sem68 (.cons sem69 (.cons sem70 .nil)))))
theorem is59 : FnIs Try.prog 59 (Γ59 K67 G67 K65 G65 K68 G68 K69 G69 K70 G70 kL59_4 xL59_4 kL59_29 xL59_29) (bodyOf Try.f59) := fnIs Try.func59 rfl rfl rfl (by kernel_rfl) (loops_ok (l := [lc59_4, lc59_29]) (by kernel_rfl) (.cons (one_loop rfl (loopX_sound (sh := sh59_4) (shX := shX59_4) (fun f v => evl59_4 K67 G67 K65 G65 K68 G68 K69 G69 K70 G70 kL59_4 xL59_4 kL59_29 xL59_29 f v) b59_4 (((), ((), ())), (([], (0, (0, ()))), ([], ()))))) (.cons (one_loop rfl (loopX_sound (sh := sh59_29) (shX := shX59_29) (fun f v => evl59_29 K67 G67 K65 G65 K68 G68 K69 G69 K70 G70 kL59_4 xL59_4 kL59_29 xL59_29 f v) b59_29 (((), ()), (([], (0, (0, ()))), ([], ()))))) (.nil))))
theorem sem59 : SemOK Try.prog (59, sgMean true I59 O59 K59 G59) := sg_opt env59 is59 true fun x => ev59 K67 G67 K65 G65 K68 G68 K69 G69 K70 G70 kL59_4 xL59_4 kL59_29 xL59_29 x

/- "loop.example/g03321/spec.l11Moment" mode S true -/
abbrev I60 : Sg := ⟨[.ptr 0], [.box (S89)]⟩
abbrev O60 : Sg := ⟨[.val (S25)], [.box (S89)]⟩
noncomputable def Γ60 (k67 : I67.den → Bool) (g67 : I67.den → O67.den) (k69 : I69.den → Bool) (g69 : I69.den → O69.den) (k70 : I70.den → Bool) (g70 : I70.den → O70.den) : Env := mkEnv tab eqs [(67, sgMean true I67 O67 k67 g67), (69, sgMean true I69 O69 k69 g69), (70, sgMean true I70 O70 k70 g70)] 25 [.cell 2 31] [] [] [] [] []
def r60 (k67 : I67.den → Bool) (g67 : I67.den → O67.den) (k69 : I69.den → Bool) (g69 : I69.den → O69.den) (k70 : I70.den → Bool) (g70 : I70.den → O70.den) (x : I60.den) : Option (O60.den) :=
  let v0 := (k67 (((), 101, ()), x.snd))
  bif (v0) then
    let v1 := (g67 (((), 101, ()), x.snd))
    let v2 := (k67 (((), 181, ()), v1.snd))
    bif (v2) then
      let v3 := (g67 (((), 181, ()), v1.snd))
      let v4 := (k67 (((), 20, ()), v3.snd))
      bif (v4) then
        let v5 := (g67 (((), 20, ()), v3.snd))
        bif (v5.fst.fst == 0) then
          let v6 := (k69 (((), 300, ()), v5.snd))
          bif (v6) then
            let v7 := (g69 (((), 300, ()), v5.snd))
            some ((((v7.fst.1), ((v3.fst.1), ())), ()), (((v7.snd.fst.1), ((v7.snd.fst.snd.1), ((v7.snd.fst.snd.snd.1), ()))), ()))
          else
            none
        else
          bif (v5.fst.fst == 1) then
            let v6 := (k70 (((), ()), v5.snd))
            bif (v6) then
              let v7 := (farith BinOp.quo FloatKind.f32 (FloatKind.nearest FloatKind.f32 v1.fst.fst) 1082130432)
              let v8 := (g70 (((), ()), v5.snd))
              let v9 := (IntKind.wrap IntKind.i64 (v8.fst.fst - 3))
              some ((((v7), ((v9), ())), ()), (((v8.snd.fst.1), ((v8.snd.fst.snd.1), ((v8.snd.fst.snd.snd.1), ()))), ()))
            else
              none
          else
            let v6 := (farith BinOp.quo FloatKind.f32 (FloatKind.nearest FloatKind.f32 v1.fst.fst) 1082130432)
            some ((((v6), ((v3.fst.1), ())), ()), (((v5.snd.fst.1), ((v5.snd.fst.snd.1), ((v5.snd.fst.snd.snd.1), ()))), ()))
      else
        none
    else
      none
  else
    none
theorem ev60 (k67 : I67.den → Bool) (g67 : I67.den → O67.den) (k69 : I69.den → Bool) (g69 : I69.den → O69.den) (k70 : I70.den → Bool) (g70 : I70.den → O70.den) (x : I60.den) : callS (Γ60 k67 g67 k69 g69 k70 g70) (bodyOf Try.f60) I60 O60 x = r60 k67 g67 k69 g69 k70 g70 x := by kernel_rfl
def F60 (x : I60.den) : Option (O60.den) := r60 K67 G67 K69 G69 K70 G70 x
def K60 (x : I60.den) : Bool := (F60 x).isSome
def G60 (x : I60.den) : O60.den := (F60 x).getD (zeroSg O60)
theorem env60 : EnvOK Try.prog (Γ60 K67 G67 K69 G69 K70 G70) := env_ok mixed tab_ok eqs_ok (.cons sem67 (.cons sem69 (.cons sem70 .nil)))
theorem is60 : FnIs Try.prog 60 (Γ60 K67 G67 K69 G69 K70 G70) (bodyOf Try.f60) := fnIs Try.func60 rfl rfl rfl (by kernel_rfl) (noLoops (by kernel_rfl))
theorem sem60 : SemOK Try.prog (60, sgMean true I60 O60 K60 G60) := sg_opt env60 is60 true fun x => ev60 K67 G67 K69 G69 K70 G70 x

/- "loop.example/g03321/spec.DrawBestSail" mode S false -/
abbrev I34 : Sg := ⟨[.val (.slice (.int .u8))], []⟩
abbrev O34 : Sg := ⟨[.own (S23) 0, .val (S25)], [.arr (S23)]⟩
noncomputable def Γ34 (k58 : I58.den → Bool) (g58 : I58.den → O58.den) (k59 : I59.den → Bool) (g59 : I59.den → O59.den) (k60 : I60.den → Bool) (g60 : I60.den → O60.den) : Env := mkEnv tab eqs [(58, sgMean false I58 O58 k58 g58), (59, sgMean true I59 O59 k59 g59), (60, sgMean true I60 O60 k60 g60)] 13 [.tmp 2, .cell 3 31] [] [] [] [] []
def r34 (k58 : I58.den → Bool) (g58 : I58.den → O58.den) (k59 : I59.den → Bool) (g59 : I59.den → O59.den) (k60 : I60.den → Bool) (g60 : I60.den → O60.den) (x : I34.den) : Option (O34.den) :=
  let v0 := (k58 x)
  bif (v0) then
    let v1 := (g58 x)
    let v2 := (k59 (((), ()), v1.snd))
    bif (v2) then
      let v3 := (g59 (((), ()), v1.snd))
      let v4 := (k60 (((), ()), v3.snd.fst, ()))
      bif (v4) then
        let v5 := (g60 (((), ()), v3.snd.fst, ()))
        some (((), (((v5.fst.fst.1), ((v5.fst.fst.snd.1), ())), ())), ((v3.snd.snd.1), ()))
      else
        none
    else
      none
  else
    none
theorem ev34 (k58 : I58.den → Bool) (g58 : I58.den → O58.den) (k59 : I59.den → Bool) (g59 : I59.den → O59.den) (k60 : I60.den → Bool) (g60 : I60.den → O60.den) (x : I34.den) : callS (Γ34 k58 g58 k59 g59 k60 g60) (bodyOf Try.f34) I34 O34 x = r34 k58 g58 k59 g59 k60 g60 x := by kernel_rfl
def F34 (x : I34.den) : Option (O34.den) := r34 K58 G58 K59 G59 K60 G60 x
def K34 (x : I34.den) : Bool := (F34 x).isSome
def G34 (x : I34.den) : O34.den := (F34 x).getD (zeroSg O34)
theorem env34 : EnvOK Try.prog (Γ34 K58 G58 K59 G59 K60 G60) := env_ok mixed tab_ok eqs_ok (.cons sem58 (.cons sem59 (.cons sem60 .nil)))
theorem is34 : FnIs Try.prog 34 (Γ34 K58 G58 K59 G59 K60 G60) (bodyOf Try.f34) := fnIs Try.func34 rfl rfl rfl (by kernel_rfl) (noLoops (by kernel_rfl))
theorem sem34 : SemOK Try.prog (34, sgMean false I34 O34 K34 G34) := sg_opt env34 is34 false fun x => ev34 K58 G58 K59 G59 K60 G60 x

/- "loop.example/g03321/laws.FnFitsBoth" -/
abbrev A8 : Ty := .cons (.slice (.int .u8)) (.nil)
abbrev R8 : Ty := .cons (.bool) (.nil)
abbrev V8_8 : Type := ((Unit × (Unit × (Int × (Int × Unit)))) × ((List (Den (S23))) × ((Nat × (Int × Unit)) × Unit)))
def sh8_8 : ShS := ⟨[(3, .one (.ref (S23) 0)), (4, .one (.ptr 1 0)), (5, .one (.int .i64)), (6, .one (.int .i64))], [(0, .arr (S23)), (1, .box [.flt .f32, .int .i64])], 2, 0⟩
abbrev X8_8 : Type := ((Int × Unit) × Unit)
def shX8_8 : ShS := ⟨[(5, .one (.int .i64))], [], 0, 0⟩
abbrev Y8_8 : Type := ((Bool × Unit) × Unit)
def shY8_8 : ShS := ⟨[(2, .one (.bool))], [], 0, 0⟩
noncomputable def Γ8 (k33 : Den A33 → Bool) (g33 : Den A33 → Den R33) (k34 : I34.den → Bool) (g34 : I34.den → O34.den) (k32 : Den A32 → Bool) (g32 : Den A32 → Den R32) (k19 : Den A19 → Bool) (g19 : Den A19 → Den R19) (k25 : Den A25 → Bool) (g25 : Den A25 → Den R25) (k29 : Den A29 → Bool) (g29 : Den A29 → Den R29) (kl8 : V8_8 → Bool) (xl8 : V8_8 → X8_8) (tl8 : V8_8 → Bool) (yl8 : V8_8 → Y8_8) : Env := mkEnv tab eqs [(33, fnMean A33 R33 k33 g33), (34, sgMean false I34 O34 k34 g34), (32, fnMean A32 R32 k32 g32), (19, fnMean A19 R19 k19 g19), (25, fnMean A25 R25 k25 g25), (29, fnMean A29 R29 k29 g29)] 70 [.tmp 2] [] [] [(8, loopR [3, 4, 5, 6] [] 0 [5] [] sh8_8 shX8_8 shY8_8 kl8 tl8 xl8 yl8)] [] []
noncomputable def lc8_8 : Code := (loopsOf (bodyOf Try.f8)).getD 0 .skip
def q8_8 (k33 : Den A33 → Bool) (g33 : Den A33 → Den R33) (k34 : I34.den → Bool) (g34 : I34.den → O34.den) (k32 : Den A32 → Bool) (g32 : Den A32 → Den R32) (k19 : Den A19 → Bool) (g19 : Den A19 → Den R19) (k25 : Den A25 → Bool) (g25 : Den A25 → Den R25) (k29 : Den A29 → Bool) (g29 : Den A29 → Den R29) (f : V8_8 → Option (X8_8 ⊕ Y8_8)) (v : V8_8) : Option (X8_8 ⊕ Y8_8) :=
  bif (decide (v.fst.snd.snd.snd.fst < (↑(List.length v.snd.fst) : Int))) then
    let v0 := (k29 (v.snd.fst, ()))
    bif (v0) then
      let v1 := (g29 (v.snd.fst, ()))
      bif (v1.1) then
        bif (decide (0 ≤ v.fst.snd.snd.snd.fst) && decide (v.fst.snd.snd.snd.fst < (↑(List.length v.snd.fst) : Int))) then
          let v2 := (List.getD v.snd.fst (Int.toNat v.fst.snd.snd.snd.fst) (zero S23))
          let v3 := (k19 (v2, v.snd.snd))
          bif (v3) then
            let v4 := (g19 (v2, v.snd.snd))
            bif (v4.1) then
              bif (decide (v.fst.snd.snd.fst < 0)) then
                some (Sum.inr (((false), ()), ()))
              else
                bif (decide (v.fst.snd.snd.snd.fst < v.fst.snd.snd.fst)) then
                  some (Sum.inr (((false), ()), ()))
                else
                  let v5 := (IntKind.wrap IntKind.i64 (v.fst.snd.snd.snd.fst + 1))
                  f (((), ((), ((v.fst.snd.snd.1), ((v5), ())))), ((v.snd.1), (((v.snd.snd.fst.1), ((v.snd.snd.fst.snd.1), ())), ())))
            else
              let v5 := (IntKind.wrap IntKind.i64 (v.fst.snd.snd.snd.fst + 1))
              f (((), ((), ((v.fst.snd.snd.1), ((v5), ())))), ((v.snd.1), (((v.snd.snd.fst.1), ((v.snd.snd.fst.snd.1), ())), ())))
          else
            none
        else
          none
      else
        some (Sum.inl (((v.fst.snd.snd.1), ()), ()))
    else
      none
  else
    some (Sum.inl (((v.fst.snd.snd.1), ()), ()))
theorem evl8_8 (k33 : Den A33 → Bool) (g33 : Den A33 → Den R33) (k34 : I34.den → Bool) (g34 : I34.den → O34.den) (k32 : Den A32 → Bool) (g32 : Den A32 → Den R32) (k19 : Den A19 → Bool) (g19 : Den A19 → Den R19) (k25 : Den A25 → Bool) (g25 : Den A25 → Den R25) (k29 : Den A29 → Bool) (g29 : Den A29 → Den R29) (kl8 : V8_8 → Bool) (xl8 : V8_8 → X8_8) (tl8 : V8_8 → Bool) (yl8 : V8_8 → Y8_8) (f : V8_8 → Option (X8_8 ⊕ Y8_8)) (v : V8_8) : EBk (Γ8 k33 g33 k34 g34 k32 g32 k19 g19 k25 g25 k29 g29 kl8 xl8 tl8 yl8) lc8_8 (roundK [3, 4, 5, 6] [] 0 [5] [] (atS sh8_8 f) (endS shX8_8 shY8_8)) (mkS sh8_8 v) = q8_8 k33 g33 k34 g34 k32 g32 k19 g19 k25 g25 k29 g29 f v := by kernel_rfl
def b8_8 (v : V8_8) : Nat := v.1.2.2.1.natAbs + v.1.2.2.2.1.natAbs + v.2.1.length + v.2.2.1.2.1.natAbs + 1000
def l8_8 (v : V8_8) : Option (X8_8 ⊕ Y8_8) := iter (q8_8 K33 G33 K34 G34 K32 G32 K19 G19 K25 G25 K29 G29) (b8_8 v) v
def kL8_8 (v : V8_8) : Bool := (l8_8 v).isSome
def tL8_8 (v : V8_8) : Bool := isR (l8_8 v)
def xL8_8 (v : V8_8) : X8_8 := xOf ((0, ()), ()) (l8_8 v)
def yL8_8 (v : V8_8) : Y8_8 := yOf ((false, ()), ()) (l8_8 v)
def r8 (k33 : Den A33 → Bool) (g33 : Den A33 → Den R33) (k34 : I34.den → Bool) (g34 : I34.den → O34.den) (k32 : Den A32 → Bool) (g32 : Den A32 → Den R32) (k19 : Den A19 → Bool) (g19 : Den A19 → Den R19) (k25 : Den A25 → Bool) (g25 : Den A25 → Den R25) (k29 : Den A29 → Bool) (g29 : Den A29 → Den R29) (kl8 : V8_8 → Bool) (xl8 : V8_8 → X8_8) (tl8 : V8_8 → Bool) (yl8 : V8_8 → Y8_8) (x : Den A8) : Option (Den R8) :=
  let v0 := (k33 x)
  bif (v0) then
    let v1 := (g33 x)
    bif (v1.1) then
      some ((true), ())
    else
      let v2 := (k34 (x, ()))
      bif (v2) then
        let v3 := (g34 (x, ()))
        let v4 := (k32 (v3.snd.fst, v3.fst.snd))
        bif (v4) then
          let v5 := (g32 (v3.snd.fst, v3.fst.snd))
          bif (decide (v5.fst ≥ (↑(List.length v3.snd.fst) : Int))) then
            some ((false), ())
          else
            bif (decide (v5.fst ≥ 0)) then
              bif (decide (0 ≤ v5.fst) && decide (v5.fst < (↑(List.length v3.snd.fst) : Int))) then
                let v6 := (List.getD v3.snd.fst (Int.toNat v5.fst) (zero S23))
                let v7 := (k19 (v6, v3.fst.snd))
                bif (v7) then
                  let v8 := (g19 (v6, v3.fst.snd))
                  bif (!v8.fst) then
                    some ((false), ())
                  else
                    bif (decide (0 ≤ v5.fst) && decide (v5.fst < (↑(List.length v3.snd.fst) : Int))) then
                      let v9 := (k25 (v6, v3.fst.snd))
                      bif (v9) then
                        let v10 := (g25 (v6, v3.fst.snd))
                        bif (!v10.fst) then
                          some ((false), ())
                        else
                          let v11 := (kl8 (((), (), v5.fst, 0, ()), v3.snd.fst, v3.fst.snd))
                          bif (v11) then
                            let v12 := (tl8 (((), (), v5.fst, 0, ()), v3.snd.fst, v3.fst.snd))
                            bif (v12) then
                              let v13 := (yl8 (((), (), v5.fst, 0, ()), v3.snd.fst, v3.fst.snd))
                              some ((v13.fst.1), ())
                            else
                              let v13 := (xl8 (((), (), v5.fst, 0, ()), v3.snd.fst, v3.fst.snd))
                              some ((decide (v13.fst.fst ≥ -1)), ())
                          else
                            none
                      else
                        none
                    else
                      none
                else
                  none
              else
                none
            else
              let v6 := (kl8 (((), (), v5.fst, 0, ()), v3.snd.fst, v3.fst.snd))
              bif (v6) then
                let v7 := (tl8 (((), (), v5.fst, 0, ()), v3.snd.fst, v3.fst.snd))
                bif (v7) then
                  let v8 := (yl8 (((), (), v5.fst, 0, ()), v3.snd.fst, v3.fst.snd))
                  some ((v8.fst.1), ())
                else
                  let v8 := (xl8 (((), (), v5.fst, 0, ()), v3.snd.fst, v3.fst.snd))
                  some ((decide (v8.fst.fst ≥ -1)), ())
              else
                none
        else
          none
      else
        none
  else
    none
theorem ev8 (k33 : Den A33 → Bool) (g33 : Den A33 → Den R33) (k34 : I34.den → Bool) (g34 : I34.den → O34.den) (k32 : Den A32 → Bool) (g32 : Den A32 → Den R32) (k19 : Den A19 → Bool) (g19 : Den A19 → Den R19) (k25 : Den A25 → Bool) (g25 : Den A25 → Den R25) (k29 : Den A29 → Bool) (g29 : Den A29 → Den R29) (kl8 : V8_8 → Bool) (xl8 : V8_8 → X8_8) (tl8 : V8_8 → Bool) (yl8 : V8_8 → Y8_8) (x : Den A8) : callK (Γ8 k33 g33 k34 g34 k32 g32 k19 g19 k25 g25 k29 g29 kl8 xl8 tl8 yl8) (bodyOf Try.f8) (decR R8) (encA A8 x) [] = r8 k33 g33 k34 g34 k32 g32 k19 g19 k25 g25 k29 g29 kl8 xl8 tl8 yl8 x := by kernel_rfl
def F8 (x : Den A8) : Option (Den R8) := r8 K33 G33 K34 G34 K32 G32 K19 G19 K25 G25 K29 G29 kL8_8 xL8_8 tL8_8 yL8_8 x
def K8 (x : Den A8) : Bool := (F8 x).isSome
def G8 (x : Den A8) : Den R8 := (F8 x).getD (zero R8)
theorem env8 : EnvOK Try.prog (Γ8 K33 G33 K34 G34 K32 G32 K19 G19 K25 G25 K29 G29 kL8_8 xL8_8 tL8_8 yL8_8) := env_ok mixed tab_ok eqs_ok (.cons sem33 (.cons sem34 (.cons sem32 (.cons sem19 (.cons sem25 (.cons sem29 .nil))))))
theorem is8 : FnIs Try.prog 8 (Γ8 K33 G33 K34 G34 K32 G32 K19 G19 K25 G25 K29 G29 kL8_8 xL8_8 tL8_8 yL8_8) (bodyOf Try.f8) := fnIs Try.func8 rfl rfl rfl (by kernel_rfl) (loops_ok (l := [lc8_8]) (by kernel_rfl) (.cons (one_loop rfl (loopR_sound (sh := sh8_8) (shX := shX8_8) (shR := shY8_8) (fun f v => evl8_8 K33 G33 K34 G34 K32 G32 K19 G19 K25 G25 K29 G29 kL8_8 xL8_8 tL8_8 yL8_8 f v) b8_8 ((0, ()), ()) ((false, ()), ()))) (.nil)))
theorem sem8 : SemOK Try.prog (8, fnMean A8 R8 K8 G8) := fn_opt env8 is8 fun x => ev8 K33 G33 K34 G34 K32 G32 K19 G19 K25 G25 K29 G29 kL8_8 xL8_8 tL8_8 yL8_8 x

/- "loop.example/g03321/spec.l01Place" mode S true -/
abbrev I62 : Sg := ⟨[.ptr 0, .val (.int .i64)], [.box (S89)]⟩
abbrev O62 : Sg := ⟨[.val (.int .i64)], [.box (S89)]⟩
noncomputable def Γ62 (k65 : I65.den → Bool) (g65 : I65.den → O65.den) (k71 : I71.den → Bool) (g71 : I71.den → O71.den) (k67 : I67.den → Bool) (g67 : I67.den → O67.den) : Env := mkEnv tab eqs [(65, sgMean true I65 O65 k65 g65), (71, sgMean true I71 O71 k71 g71), (67, sgMean true I67 O67 k67 g67)] 16 [.tmp 4] [] [] [] [] []
def r62 (k65 : I65.den → Bool) (g65 : I65.den → O65.den) (k71 : I71.den → Bool) (g71 : I71.den → O71.den) (k67 : I67.den → Bool) (g67 : I67.den → O67.den) (x : I62.den) : Option (O62.den) :=
  let v0 := (k65 (((), 15, ()), x.snd))
  bif (v0) then
    let v1 := (g65 (((), 15, ()), x.snd))
    bif (v1.fst.1) then
      let v2 := (List.set (List.replicate 5 (zero (Ty.int IntKind.i64))) 0 (-1))
      let v3 := (List.set v2 1 x.fst.snd.fst)
      let v4 := (IntKind.wrap IntKind.i64 (x.fst.snd.fst + 1))
      let v5 := (List.set v3 2 v4)
      let v6 := (List.set v5 3 9223372036854775807)
      let v7 := (List.set v6 4 (-9223372036854775808))
      let v8 := (k71 (((), (), ()), v1.snd.fst, v7, ()))
      bif (v8) then
        let v9 := (g71 (((), (), ()), v1.snd.fst, v7, ()))
        some (((v9.fst.1), ()), (((v9.snd.fst.1), ((v9.snd.fst.snd.1), ((v9.snd.fst.snd.snd.1), ()))), ()))
      else
        none
    else
      let v2 := (k67 (((), x.fst.snd), v1.snd))
      bif (v2) then
        let v3 := (g67 (((), x.fst.snd), v1.snd))
        some (((v3.fst.1), ()), (((v3.snd.fst.1), ((v3.snd.fst.snd.1), ((v3.snd.fst.snd.snd.1), ()))), ()))
      else
        none
  else
    none
theorem ev62 (k65 : I65.den → Bool) (g65 : I65.den → O65.den) (k71 : I71.den → Bool) (g71 : I71.den → O71.den) (k67 : I67.den → Bool) (g67 : I67.den → O67.den) (x : I62.den) : callS (Γ62 k65 g65 k71 g71 k67 g67) (bodyOf Try.f62) I62 O62 x = r62 k65 g65 k71 g71 k67 g67 x := by kernel_rfl
def F62 (x : I62.den) : Option (O62.den) := r62 K65 G65 K71 G71 K67 G67 x
def K62 (x : I62.den) : Bool := (F62 x).isSome
def G62 (x : I62.den) : O62.den := (F62 x).getD (zeroSg O62)
theorem env62 : EnvOK Try.prog (Γ62 K65 G65 K71 G71 K67 G67) := env_ok mixed tab_ok eqs_ok (.cons sem65 (.cons sem71 (.cons sem67 .nil)))
theorem is62 : FnIs Try.prog 62 (Γ62 K65 G65 K71 G71 K67 G67) (bodyOf Try.f62) := fnIs Try.func62 rfl rfl rfl (by kernel_rfl) (noLoops (by kernel_rfl))
theorem sem62 : SemOK Try.prog (62, sgMean true I62 O62 K62 G62) := sg_opt env62 is62 true fun x => ev62 K65 G65 K71 G71 K67 G67 x

/- "loop.example/g03321/spec.Clamp" -/
abbrev A72 : Ty := .cons (.int .i64) (.cons (.int .i64) (.cons (.int .i64) (.nil)))
abbrev R72 : Ty := .cons (.int .i64) (.nil)
noncomputable def Γ72 : Env := mkEnv tab eqs [] 21 [.tmp 6] [] [] [] [] []
def r72 (x : Den A72) : Option (Den R72) :=
  bif (decide (x.snd.snd.fst < x.snd.fst)) then
    some ((x.snd.1), ())
  else
    bif (decide (x.fst < x.snd.fst)) then
      some ((x.snd.1), ())
    else
      bif (decide (x.fst > x.snd.snd.fst)) then
        some ((x.snd.snd.1), ())
      else
        some ((x.1), ())
theorem ev72 (x : Den A72) : callK (Γ72) (bodyOf Try.f72) (decR R72) (encA A72 x) [] = r72 x := by kernel_rfl
def F72 (x : Den A72) : Option (Den R72) := r72 x
def K72 (x : Den A72) : Bool := (F72 x).isSome
def G72 (x : Den A72) : Den R72 := (F72 x).getD (zero R72)
theorem env72 : EnvOK Try.prog (Γ72) := env_ok mixed tab_ok eqs_ok .nil
theorem is72 : FnIs Try.prog 72 (Γ72) (bodyOf Try.f72) := fnIs Try.func72 rfl rfl rfl (by kernel_rfl) (noLoops (by kernel_rfl))
theorem sem72 : SemOK Try.prog (72, fnMean A72 R72 K72 G72) := fn_opt env72 is72 fun x => ev72 x

/- "loop.example/g03321/spec.l11Moments" mode S true -/
abbrev I63 : Sg := ⟨[.ptr 0], [.box (S89)]⟩
abbrev O63 : Sg := ⟨[.own (S25) 1], [.box (S89), .arr (S25)]⟩
abbrev V63_6 : Type := ((Unit × (Unit × (Int × (Unit × Unit)))) × (((List (Den (.int .u8))) × (Int × (Int × Unit))) × ((List (Den (S25))) × ((Nat × (Int × Unit)) × Unit))))
def sh63_6 : ShS := ⟨[(0, .one (.ptr 0 0)), (3, .one (.ref (S25) 1)), (4, .one (.int .i64)), (5, .one (.ptr 2 0))], [(0, .box [.sl (.int .u8), .int .i64, .int .i64]), (1, .arr (S25)), (2, .box [.flt .f32, .int .i64])], 3, 1⟩
abbrev X63_6 : Type := ((Unit × Unit) × (((List (Den (.int .u8))) × (Int × (Int × Unit))) × ((List (Den (S25))) × Unit)))
def shX63_6 : ShS := ⟨[(3, .one (.ref (S25) 1))], [(0, .box [.sl (.int .u8), .int .i64, .int .i64]), (1, .arr (S25))], 2, 1⟩
noncomputable def Γ63 (k67 : I67.den → Bool) (g67 : I67.den → O67.den) (k65 : I65.den → Bool) (g65 : I65.den → O65.den) (k60 : I60.den → Bool) (g60 : I60.den → O60.den) (k72 : Den A72 → Bool) (g72 : Den A72 → Den R72) (kl6 : V63_6 → Bool) (xl6 : V63_6 → X63_6) : Env := mkEnv tab eqs [(67, sgMean true I67 O67 k67 g67), (65, sgMean true I65 O65 k65 g65), (60, sgMean true I60 O60 k60 g60), (72, fnMean A72 R72 k72 g72)] 46 [.tmp 2] [] [] [(6, loopX [0, 3, 4, 5] [] 0 [3] [] sh63_6 shX63_6 kl6 xl6)] [] []
noncomputable def lc63_6 : Code := (loopsOf (bodyOf Try.f63)).getD 0 .skip
def q63_6 (k67 : I67.den → Bool) (g67 : I67.den → O67.den) (k65 : I65.den → Bool) (g65 : I65.den → O65.den) (k60 : I60.den → Bool) (g60 : I60.den → O60.den) (k72 : Den A72 → Bool) (g72 : Den A72 → Den R72) (f : V63_6 → Option (X63_6)) (v : V63_6) : Option (X63_6) :=
  bif (decide (v.fst.snd.snd.fst > 0)) then
    let v0 := (k67 (((), 17, ()), v.snd.fst, ()))
    bif (v0) then
      let v1 := (g67 (((), 17, ()), v.snd.fst, ()))
      let v2 := (k67 (((), 21, ()), v1.snd))
      bif (v2) then
        let v3 := (g67 (((), 21, ()), v1.snd))
        let v4 := (IntKind.wrap IntKind.i64 (v.snd.snd.snd.fst.snd.fst + v3.fst.fst))
        let v5 := (IntKind.wrap IntKind.i64 (v4 - 10))
        let v6 := (k72 (v5, 0, 180, ()))
        bif (v6) then
          let v7 := (k65 (((), 6, ()), v3.snd))
          bif (v7) then
            let v8 := (g65 (((), 6, ()), v3.snd))
            bif (v8.fst.1) then
              let v9 := (k60 (((), ()), v8.snd))
              bif (v9) then
                let v10 := (g60 (((), ()), v8.snd))
                let v11 := (List.set (List.replicate 1 (zero S25)) 0 v10.fst.fst)
                bif (capOk (List.length v.snd.snd.fst + List.length v11)) then
                  let v12 := (IntKind.wrap IntKind.i64 (v.fst.snd.snd.fst - 1))
                  let v13 := (v.snd.snd.fst ++ v11)
                  f (((), ((), ((v12), ((), ())))), (((v10.snd.fst.1), ((v10.snd.fst.snd.1), ((v10.snd.fst.snd.snd.1), ()))), ((v13), (((v10.fst.fst.1), ((v10.fst.fst.snd.1), ())), ()))))
                else
                  none
              else
                none
            else
              let v9 := (IntKind.wrap IntKind.i64 (v1.fst.fst - 8))
              let v10 := (farith BinOp.quo FloatKind.f32 (FloatKind.nearest FloatKind.f32 v9) 1082130432)
              let v11 := (farith BinOp.add FloatKind.f32 v.snd.snd.snd.fst.fst v10)
              let v12 := (g72 (v5, 0, 180, ()))
              let v13 := (List.set (List.replicate 1 (zero S25)) 0 (v11, v12))
              bif (capOk (List.length v.snd.snd.fst + List.length v13)) then
                let v14 := (IntKind.wrap IntKind.i64 (v.fst.snd.snd.fst - 1))
                let v15 := (v.snd.snd.fst ++ v13)
                f (((), ((), ((v14), ((), ())))), (((v8.snd.fst.1), ((v8.snd.fst.snd.1), ((v8.snd.fst.snd.snd.1), ()))), ((v15), (((v11), ((v12.1), ())), ()))))
              else
                none
          else
            none
        else
          none
      else
        none
    else
      none
  else
    some (((), ()), (((v.snd.fst.1), ((v.snd.fst.snd.1), ((v.snd.fst.snd.snd.1), ()))), ((v.snd.snd.1), ())))
theorem evl63_6 (k67 : I67.den → Bool) (g67 : I67.den → O67.den) (k65 : I65.den → Bool) (g65 : I65.den → O65.den) (k60 : I60.den → Bool) (g60 : I60.den → O60.den) (k72 : Den A72 → Bool) (g72 : Den A72 → Den R72) (kl6 : V63_6 → Bool) (xl6 : V63_6 → X63_6) (f : V63_6 → Option (X63_6)) (v : V63_6) : EBk (Γ63 k67 g67 k65 g65 k60 g60 k72 g72 kl6 xl6) lc63_6 (roundK [0, 3, 4, 5] [] 0 [3] [] (atS sh63_6 f) (endX shX63_6)) (mkS sh63_6 v) = q63_6 k67 g67 k65 g65 k60 g60 k72 g72 f v := by kernel_rfl
def b63_6 (v : V63_6) : Nat := v.1.2.2.1.natAbs + v.2.1.1.length + v.2.1.2.1.natAbs + v.2.1.2.2.1.natAbs + v.2.2.1.length + v.2.2.2.1.2.1.natAbs + 1000
def l63_6 (v : V63_6) : Option (X63_6) := iter (q63_6 K67 G67 K65 G65 K60 G60 K72 G72) (b63_6 v) v
def kL63_6 (v : V63_6) : Bool := (l63_6 v).isSome
def xL63_6 (v : V63_6) : X63_6 := (l63_6 v).getD (((), ()), (([], (0, (0, ()))), ([], ())))
def r63 (k67 : I67.den → Bool) (g67 : I67.den → O67.den) (k65 : I65.den → Bool) (g65 : I65.den → O65.den) (k60 : I60.den → Bool) (g60 : I60.den → O60.den) (k72 : Den A72 → Bool) (g72 : Den A72 → Den R72) (kl6 : V63_6 → Bool) (xl6 : V63_6 → X63_6) (x : I63.den) : Option (O63.den) :=
  let v0 := (k67 (((), 9, ()), x.snd))
  bif (v0) then
    let v1 := (g67 (((), 9, ()), x.snd))
    let v2 := (k65 (((), 30, ()), v1.snd))
    bif (v2) then
      let v3 := (g65 (((), 30, ()), v1.snd))
      bif (v3.fst.1) then
        let v4 := (k67 (((), 2, ()), v3.snd))
        bif (v4) then
          let v5 := (g67 (((), 2, ()), v3.snd))
          let v6 := (k60 (((), ()), v5.snd))
          bif (v6) then
            let v7 := (IntKind.wrap IntKind.i64 (60 + v5.fst.fst))
            let v8 := (g60 (((), ()), v5.snd))
            let v9 := (kl6 (((), (), v7, (), ()), v8.snd.fst, List.replicate 0 (zero S25), v8.fst))
            bif (v9) then
              let v10 := (xl6 (((), (), v7, (), ()), v8.snd.fst, List.replicate 0 (zero S25), v8.fst))
              some (((), ()), (((v10.snd.fst.1), ((v10.snd.fst.snd.1), ((v10.snd.fst.snd.snd.1), ()))), ((v10.snd.snd.1), ())))
            else
              none
          else
            none
        else
          none
      else
        let v4 := (k60 (((), ()), v3.snd))
        bif (v4) then
          let v5 := (g60 (((), ()), v3.snd))
          let v6 := (kl6 (((), (), v1.fst.fst, (), ()), v5.snd.fst, List.replicate 0 (zero S25), v5.fst))
          bif (v6) then
            let v7 := (xl6 (((), (), v1.fst.fst, (), ()), v5.snd.fst, List.replicate 0 (zero S25), v5.fst))
            some (((), ()), (((v7.snd.fst.1), ((v7.snd.fst.snd.1), ((v7.snd.fst.snd.snd.1), ()))), ((v7.snd.snd.1), ())))
          else
            none
        else
          none
    else
      none
  else
    none
theorem ev63 (k67 : I67.den → Bool) (g67 : I67.den → O67.den) (k65 : I65.den → Bool) (g65 : I65.den → O65.den) (k60 : I60.den → Bool) (g60 : I60.den → O60.den) (k72 : Den A72 → Bool) (g72 : Den A72 → Den R72) (kl6 : V63_6 → Bool) (xl6 : V63_6 → X63_6) (x : I63.den) : callS (Γ63 k67 g67 k65 g65 k60 g60 k72 g72 kl6 xl6) (bodyOf Try.f63) I63 O63 x = r63 k67 g67 k65 g65 k60 g60 k72 g72 kl6 xl6 x := by kernel_rfl
def F63 (x : I63.den) : Option (O63.den) := r63 K67 G67 K65 G65 K60 G60 K72 G72 kL63_6 xL63_6 x
def K63 (x : I63.den) : Bool := (F63 x).isSome
def G63 (x : I63.den) : O63.den := (F63 x).getD (zeroSg O63)
theorem env63 : EnvOK Try.prog (Γ63 K67 G67 K65 G65 K60 G60 K72 G72 kL63_6 xL63_6) := env_ok mixed tab_ok eqs_ok (.cons sem67 (.cons sem65 (.cons sem60 (.cons sem72 .nil))))
theorem is63 : FnIs Try.prog 63 (Γ63 K67 G67 K65 G65 K60 G60 K72 G72 kL63_6 xL63_6) (bodyOf Try.f63) := fnIs Try.func63 rfl rfl rfl (by kernel_rfl) (loops_ok (l := [lc63_6]) (by kernel_rfl) (.cons (one_loop rfl (loopX_sound (sh := sh63_6) (shX := shX63_6) (fun f v => evl63_6 K67 G67 K65 G65 K60 G60 K72 G72 kL63_6 xL63_6 f v) b63_6 (((), ()), (([], (0, (0, ()))), ([], ()))))) (.nil)))
theorem sem63 : SemOK Try.prog (63, sgMean true I63 O63 K63 G63) := sg_opt env63 is63 true fun x => ev63 K67 G67 K65 G65 K60 G60 K72 G72 kL63_6 xL63_6 x

/- "loop.example/g03321/spec.DrawRunSails" mode S false -/
abbrev I42 : Sg := ⟨[.val (.slice (.int .u8))], []⟩
abbrev O42 : Sg := ⟨[.own (S23) 0, .val (.int .i64), .own (S25) 1], [.arr (S23), .arr (S25)]⟩
noncomputable def Γ42 (k58 : I58.den → Bool) (g58 : I58.den → O58.den) (k59 : I59.den → Bool) (g59 : I59.den → O59.den) (k62 : I62.den → Bool) (g62 : I62.den → O62.den) (k63 : I63.den → Bool) (g63 : I63.den → O63.den) : Env := mkEnv tab eqs [(58, sgMean false I58 O58 k58 g58), (59, sgMean true I59 O59 k59 g59), (62, sgMean true I62 O62 k62 g62), (63, sgMean true I63 O63 k63 g63)] 20 [.tmp 2, .tmp 3, .tmp 4] [] [] [] [] []
def r42 (k58 : I58.den → Bool) (g58 : I58.den → O58.den) (k59 : I59.den → Bool) (g59 : I59.den → O59.den) (k62 : I62.den → Bool) (g62 : I62.den → O62.den) (k63 : I63.den → Bool) (g63 : I63.den → O63.den) (x : I42.den) : Option (O42.den) :=
  let v0 := (k58 x)
  bif (v0) then
    let v1 := (g58 x)
    let v2 := (k59 (((), ()), v1.snd))
    bif (v2) then
      let v3 := (g59 (((), ()), v1.snd))
      let v4 := (k62 (((), (↑(List.length v3.snd.snd.fst) : Int), ()), v3.snd.fst, ()))
      bif (v4) then
        let v5 := (g62 (((), (↑(List.length v3.snd.snd.fst) : Int), ()), v3.snd.fst, ()))
        let v6 := (k63 (((), ()), v5.snd))
        bif (v6) then
          let v7 := (g63 (((), ()), v5.snd))
          some (((), ((v5.fst.1), ((), ()))), ((v3.snd.snd.1), ((v7.snd.snd.1), ())))
        else
          none
      else
        none
    else
      none
  else
    none
theorem ev42 (k58 : I58.den → Bool) (g58 : I58.den → O58.den) (k59 : I59.den → Bool) (g59 : I59.den → O59.den) (k62 : I62.den → Bool) (g62 : I62.den → O62.den) (k63 : I63.den → Bool) (g63 : I63.den → O63.den) (x : I42.den) : callS (Γ42 k58 g58 k59 g59 k62 g62 k63 g63) (bodyOf Try.f42) I42 O42 x = r42 k58 g58 k59 g59 k62 g62 k63 g63 x := by kernel_rfl
def F42 (x : I42.den) : Option (O42.den) := r42 K58 G58 K59 G59 K62 G62 K63 G63 x
def K42 (x : I42.den) : Bool := (F42 x).isSome
def G42 (x : I42.den) : O42.den := (F42 x).getD (zeroSg O42)
theorem env42 : EnvOK Try.prog (Γ42 K58 G58 K59 G59 K62 G62 K63 G63) := env_ok mixed tab_ok eqs_ok (.cons sem58 (.cons sem59 (.cons sem62 (.cons sem63 .nil))))
theorem is42 : FnIs Try.prog 42 (Γ42 K58 G58 K59 G59 K62 G62 K63 G63) (bodyOf Try.f42) := fnIs Try.func42 rfl rfl rfl (by kernel_rfl) (noLoops (by kernel_rfl))
theorem sem42 : SemOK Try.prog (42, sgMean false I42 O42 K42 G42) := sg_opt env42 is42 false fun x => ev42 K58 G58 K59 G59 K62 G62 K63 G63 x

/- "loop.example/g03321/laws.FnKept" -/
abbrev A11 : Ty := .cons (.slice (.int .u8)) (.nil)
abbrev R11 : Ty := .cons (.bool) (.nil)
abbrev V11_10 : Type := ((Unit × (Int × (Unit × (Unit × (Int × Unit))))) × ((List (Den (S23))) × ((List (Den (S25))) × ((List (Den (.int .i64))) × Unit))))
def sh11_10 : ShS := ⟨[(3, .one (.ref (S23) 0)), (4, .one (.int .i64)), (5, .one (.ref (S25) 1)), (6, .one (.ref (.int .i64) 2)), (7, .one (.int .i64))], [(0, .arr (S23)), (1, .arr (S25)), (2, .arr (.int .i64))], 3, 0⟩
abbrev X11_10 : Type := (Unit × Unit)
def shX11_10 : ShS := ⟨[], [], 0, 0⟩
abbrev Y11_10 : Type := ((Bool × Unit) × Unit)
def shY11_10 : ShS := ⟨[(2, .one (.bool))], [], 0, 0⟩
noncomputable def Γ11 (k33 : Den A33 → Bool) (g33 : Den A33 → Den R33) (k42 : I42.den → Bool) (g42 : I42.den → O42.den) (k43 : I43.den → Bool) (g43 : I43.den → O43.den) (k27 : Den A27 → Bool) (g27 : Den A27 → Den R27) (k25 : Den A25 → Bool) (g25 : Den A25 → Den R25) (k32 : Den A32 → Bool) (g32 : Den A32 → Den R32) (kl10 : V11_10 → Bool) (xl10 : V11_10 → X11_10) (tl10 : V11_10 → Bool) (yl10 : V11_10 → Y11_10) : Env := mkEnv tab eqs [(33, fnMean A33 R33 k33 g33), (42, sgMean false I42 O42 k42 g42), (43, sgMean false I43 O43 k43 g43), (27, fnMean A27 R27 k27 g27), (25, fnMean A25 R25 k25 g25), (32, fnMean A32 R32 k32 g32)] 92 [.tmp 2] [] [] [(10, loopR [3, 4, 5, 6, 7] [] 0 [] [] sh11_10 shX11_10 shY11_10 kl10 tl10 xl10 yl10)] [] []
noncomputable def lc11_10 : Code := (loopsOf (bodyOf Try.f11)).getD 0 .skip
def q11_10 (k33 : Den A33 → Bool) (g33 : Den A33 → Den R33) (k42 : I42.den → Bool) (g42 : I42.den → O42.den) (k43 : I43.den → Bool) (g43 : I43.den → O43.den) (k27 : Den A27 → Bool) (g27 : Den A27 → Den R27) (k25 : Den A25 → Bool) (g25 : Den A25 → Den R25) (k32 : Den A32 → Bool) (g32 : Den A32 → Den R32) (f : V11_10 → Option (X11_10 ⊕ Y11_10)) (v : V11_10) : Option (X11_10 ⊕ Y11_10) :=
  bif (decide (v.fst.snd.snd.snd.snd.fst < (↑(List.length v.snd.snd.snd.fst) : Int))) then
    bif (decide (v.fst.snd.fst ≥ 0)) then
      bif (decide (v.fst.snd.fst < (↑(List.length v.snd.fst) : Int))) then
        bif (decide (0 ≤ v.fst.snd.fst) && decide (v.fst.snd.fst < (↑(List.length v.snd.fst) : Int))) then
          bif (decide (0 ≤ v.fst.snd.snd.snd.snd.fst) && decide (v.fst.snd.snd.snd.snd.fst < (↑(List.length v.snd.snd.fst) : Int))) then
            let v0 := (List.getD v.snd.fst (Int.toNat v.fst.snd.fst) (zero S23))
            let v1 := (List.getD v.snd.snd.fst (Int.toNat v.fst.snd.snd.snd.snd.fst) (zero S25))
            let v2 := (k25 (v0, v1, ()))
            bif (v2) then
              let v3 := (g25 (v0, v1, ()))
              bif (v3.1) then
                bif (decide (0 ≤ v.fst.snd.snd.snd.snd.fst) && decide (v.fst.snd.snd.snd.snd.fst < (↑(List.length v.snd.snd.snd.fst) : Int))) then
                  let v4 := (List.getD v.snd.snd.snd.fst (Int.toNat v.fst.snd.snd.snd.snd.fst) (zero (Ty.int IntKind.i64)))
                  bif (v4 != v.fst.snd.fst) then
                    some (Sum.inr (((false), ()), ()))
                  else
                    bif (!v3.fst) then
                      bif (decide (0 ≤ v.fst.snd.snd.snd.snd.fst) && decide (v.fst.snd.snd.snd.snd.fst < (↑(List.length v.snd.snd.snd.fst) : Int))) then
                        bif (decide (0 ≤ v.fst.snd.snd.snd.snd.fst) && decide (v.fst.snd.snd.snd.snd.fst < (↑(List.length v.snd.snd.fst) : Int))) then
                          let v5 := (k32 (v.snd.fst, v1, ()))
                          bif (v5) then
                            let v6 := (g32 (v.snd.fst, v1, ()))
                            bif (v4 != v6.fst) then
                              some (Sum.inr (((false), ()), ()))
                            else
                              bif (decide (0 ≤ v.fst.snd.snd.snd.snd.fst) && decide (v.fst.snd.snd.snd.snd.fst < (↑(List.length v.snd.snd.snd.fst) : Int))) then
                                let v7 := (IntKind.wrap IntKind.i64 (v.fst.snd.snd.snd.snd.fst + 1))
                                f (((), ((v4), ((), ((), ((v7), ()))))), ((v.snd.1), ((v.snd.snd.1), ((v.snd.snd.snd.1), ()))))
                              else
                                none
                          else
                            none
                        else
                          none
                      else
                        none
                    else
                      bif (decide (0 ≤ v.fst.snd.snd.snd.snd.fst) && decide (v.fst.snd.snd.snd.snd.fst < (↑(List.length v.snd.snd.snd.fst) : Int))) then
                        let v5 := (IntKind.wrap IntKind.i64 (v.fst.snd.snd.snd.snd.fst + 1))
                        f (((), ((v4), ((), ((), ((v5), ()))))), ((v.snd.1), ((v.snd.snd.1), ((v.snd.snd.snd.1), ()))))
                      else
                        none
                else
                  none
              else
                bif (!v3.fst) then
                  bif (decide (0 ≤ v.fst.snd.snd.snd.snd.fst) && decide (v.fst.snd.snd.snd.snd.fst < (↑(List.length v.snd.snd.snd.fst) : Int))) then
                    bif (decide (0 ≤ v.fst.snd.snd.snd.snd.fst) && decide (v.fst.snd.snd.snd.snd.fst < (↑(List.length v.snd.snd.fst) : Int))) then
                      let v4 := (k32 (v.snd.fst, v1, ()))
                      bif (v4) then
                        let v5 := (List.getD v.snd.snd.snd.fst (Int.toNat v.fst.snd.snd.snd.snd.fst) (zero (Ty.int IntKind.i64)))
                        let v6 := (g32 (v.snd.fst, v1, ()))
                        bif (v5 != v6.fst) then
                          some (Sum.inr (((false), ()), ()))
                        else
                          bif (decide (0 ≤ v.fst.snd.snd.snd.snd.fst) && decide (v.fst.snd.snd.snd.snd.fst < (↑(List.length v.snd.snd.snd.fst) : Int))) then
                            let v7 := (IntKind.wrap IntKind.i64 (v.fst.snd.snd.snd.snd.fst + 1))
                            f (((), ((v5), ((), ((), ((v7), ()))))), ((v.snd.1), ((v.snd.snd.1), ((v.snd.snd.snd.1), ()))))
                          else
                            none
                      else
                        none
                    else
                      none
                  else
                    none
                else
                  bif (decide (0 ≤ v.fst.snd.snd.snd.snd.fst) && decide (v.fst.snd.snd.snd.snd.fst < (↑(List.length v.snd.snd.snd.fst) : Int))) then
                    let v4 := (List.getD v.snd.snd.snd.fst (Int.toNat v.fst.snd.snd.snd.snd.fst) (zero (Ty.int IntKind.i64)))
                    let v5 := (IntKind.wrap IntKind.i64 (v.fst.snd.snd.snd.snd.fst + 1))
                    f (((), ((v4), ((), ((), ((v5), ()))))), ((v.snd.1), ((v.snd.snd.1), ((v.snd.snd.snd.1), ()))))
                  else
                    none
            else
              none
          else
            none
        else
          none
      else
        bif (decide (0 ≤ v.fst.snd.snd.snd.snd.fst) && decide (v.fst.snd.snd.snd.snd.fst < (↑(List.length v.snd.snd.snd.fst) : Int))) then
          bif (decide (0 ≤ v.fst.snd.snd.snd.snd.fst) && decide (v.fst.snd.snd.snd.snd.fst < (↑(List.length v.snd.snd.fst) : Int))) then
            let v0 := (List.getD v.snd.snd.fst (Int.toNat v.fst.snd.snd.snd.snd.fst) (zero S25))
            let v1 := (k32 (v.snd.fst, v0, ()))
            bif (v1) then
              let v2 := (List.getD v.snd.snd.snd.fst (Int.toNat v.fst.snd.snd.snd.snd.fst) (zero (Ty.int IntKind.i64)))
              let v3 := (g32 (v.snd.fst, v0, ()))
              bif (v2 != v3.fst) then
                some (Sum.inr (((false), ()), ()))
              else
                bif (decide (0 ≤ v.fst.snd.snd.snd.snd.fst) && decide (v.fst.snd.snd.snd.snd.fst < (↑(List.length v.snd.snd.snd.fst) : Int))) then
                  let v4 := (IntKind.wrap IntKind.i64 (v.fst.snd.snd.snd.snd.fst + 1))
                  f (((), ((v2), ((), ((), ((v4), ()))))), ((v.snd.1), ((v.snd.snd.1), ((v.snd.snd.snd.1), ()))))
                else
                  none
            else
              none
          else
            none
        else
          none
    else
      bif (decide (0 ≤ v.fst.snd.snd.snd.snd.fst) && decide (v.fst.snd.snd.snd.snd.fst < (↑(List.length v.snd.snd.snd.fst) : Int))) then
        bif (decide (0 ≤ v.fst.snd.snd.snd.snd.fst) && decide (v.fst.snd.snd.snd.snd.fst < (↑(List.length v.snd.snd.fst) : Int))) then
          let v0 := (List.getD v.snd.snd.fst (Int.toNat v.fst.snd.snd.snd.snd.fst) (zero S25))
          let v1 := (k32 (v.snd.fst, v0, ()))
          bif (v1) then
            let v2 := (List.getD v.snd.snd.snd.fst (Int.toNat v.fst.snd.snd.snd.snd.fst) (zero (Ty.int IntKind.i64)))
            let v3 := (g32 (v.snd.fst, v0, ()))
            bif (v2 != v3.fst) then
              some (Sum.inr (((false), ()), ()))
            else
              bif (decide (0 ≤ v.fst.snd.snd.snd.snd.fst) && decide (v.fst.snd.snd.snd.snd.fst < (↑(List.length v.snd.snd.snd.fst) : Int))) then
                let v4 := (IntKind.wrap IntKind.i64 (v.fst.snd.snd.snd.snd.fst + 1))
                f (((), ((v2), ((), ((), ((v4), ()))))), ((v.snd.1), ((v.snd.snd.1), ((v.snd.snd.snd.1), ()))))
              else
                none
          else
            none
        else
          none
      else
        none
  else
    some (Sum.inl ((), ()))
theorem evl11_10 (k33 : Den A33 → Bool) (g33 : Den A33 → Den R33) (k42 : I42.den → Bool) (g42 : I42.den → O42.den) (k43 : I43.den → Bool) (g43 : I43.den → O43.den) (k27 : Den A27 → Bool) (g27 : Den A27 → Den R27) (k25 : Den A25 → Bool) (g25 : Den A25 → Den R25) (k32 : Den A32 → Bool) (g32 : Den A32 → Den R32) (kl10 : V11_10 → Bool) (xl10 : V11_10 → X11_10) (tl10 : V11_10 → Bool) (yl10 : V11_10 → Y11_10) (f : V11_10 → Option (X11_10 ⊕ Y11_10)) (v : V11_10) : EBk (Γ11 k33 g33 k42 g42 k43 g43 k27 g27 k25 g25 k32 g32 kl10 xl10 tl10 yl10) lc11_10 (roundK [3, 4, 5, 6, 7] [] 0 [] [] (atS sh11_10 f) (endS shX11_10 shY11_10)) (mkS sh11_10 v) = q11_10 k33 g33 k42 g42 k43 g43 k27 g27 k25 g25 k32 g32 f v := by kernel_rfl
def b11_10 (v : V11_10) : Nat := v.1.2.1.natAbs + v.1.2.2.2.2.1.natAbs + v.2.1.length + v.2.2.1.length + v.2.2.2.1.length + 1000
def l11_10 (v : V11_10) : Option (X11_10 ⊕ Y11_10) := iter (q11_10 K33 G33 K42 G42 K43 G43 K27 G27 K25 G25 K32 G32) (b11_10 v) v
def kL11_10 (v : V11_10) : Bool := (l11_10 v).isSome
def tL11_10 (v : V11_10) : Bool := isR (l11_10 v)
def xL11_10 (v : V11_10) : X11_10 := xOf ((), ()) (l11_10 v)
def yL11_10 (v : V11_10) : Y11_10 := yOf ((false, ()), ()) (l11_10 v)
def r11 (k33 : Den A33 → Bool) (g33 : Den A33 → Den R33) (k42 : I42.den → Bool) (g42 : I42.den → O42.den) (k43 : I43.den → Bool) (g43 : I43.den → O43.den) (k27 : Den A27 → Bool) (g27 : Den A27 → Den R27) (k25 : Den A25 → Bool) (g25 : Den A25 → Den R25) (k32 : Den A32 → Bool) (g32 : Den A32 → Den R32) (kl10 : V11_10 → Bool) (xl10 : V11_10 → X11_10) (tl10 : V11_10 → Bool) (yl10 : V11_10 → Y11_10) (x : Den A11) : Option (Den R11) :=
  let v0 := (k33 x)
  bif (v0) then
    let v1 := (g33 x)
    bif (v1.1) then
      some ((true), ())
    else
      let v2 := (k42 (x, ()))
      bif (v2) then
        let v3 := (g42 (x, ()))
        let v4 := (k43 ((v3.snd.fst, v3.fst.snd.fst, v3.snd.snd), ()))
        bif (v4) then
          let v5 := (k27 (v3.snd.fst, ()))
          bif (v5) then
            let v6 := (g27 (v3.snd.fst, ()))
            bif (!v6.fst) then
              let v7 := (g43 ((v3.snd.fst, v3.fst.snd.fst, v3.snd.snd), ()))
              some (((↑(List.length v7.snd.fst) : Int) == 0), ())
            else
              bif (decide ((↑(List.length v3.snd.snd.fst) : Int) > 60)) then
                let v7 := (g43 ((v3.snd.fst, v3.fst.snd.fst, v3.snd.snd), ()))
                some (((↑(List.length v7.snd.fst) : Int) == 0), ())
              else
                let v7 := (g43 ((v3.snd.fst, v3.fst.snd.fst, v3.snd.snd), ()))
                bif ((↑(List.length v7.snd.fst) : Int) != (↑(List.length v3.snd.snd.fst) : Int)) then
                  some ((false), ())
                else
                  let v8 := (kl10 (((), v3.fst.snd.fst, (), (), 0, ()), v3.snd.fst, v3.snd.snd.fst, v7.snd))
                  bif (v8) then
                    let v9 := (tl10 (((), v3.fst.snd.fst, (), (), 0, ()), v3.snd.fst, v3.snd.snd.fst, v7.snd))
                    bif (v9) then
                      let v10 := (yl10 (((), v3.fst.snd.fst, (), (), 0, ()), v3.snd.fst, v3.snd.snd.fst, v7.snd))
                      some ((v10.fst.1), ())
                    else
                      some ((true), ())
                  else
                    none
          else
            none
        else
          none
      else
        none
  else
    none
theorem ev11 (k33 : Den A33 → Bool) (g33 : Den A33 → Den R33) (k42 : I42.den → Bool) (g42 : I42.den → O42.den) (k43 : I43.den → Bool) (g43 : I43.den → O43.den) (k27 : Den A27 → Bool) (g27 : Den A27 → Den R27) (k25 : Den A25 → Bool) (g25 : Den A25 → Den R25) (k32 : Den A32 → Bool) (g32 : Den A32 → Den R32) (kl10 : V11_10 → Bool) (xl10 : V11_10 → X11_10) (tl10 : V11_10 → Bool) (yl10 : V11_10 → Y11_10) (x : Den A11) : callK (Γ11 k33 g33 k42 g42 k43 g43 k27 g27 k25 g25 k32 g32 kl10 xl10 tl10 yl10) (bodyOf Try.f11) (decR R11) (encA A11 x) [] = r11 k33 g33 k42 g42 k43 g43 k27 g27 k25 g25 k32 g32 kl10 xl10 tl10 yl10 x := by kernel_rfl
def F11 (x : Den A11) : Option (Den R11) := r11 K33 G33 K42 G42 K43 G43 K27 G27 K25 G25 K32 G32 kL11_10 xL11_10 tL11_10 yL11_10 x
def K11 (x : Den A11) : Bool := (F11 x).isSome
def G11 (x : Den A11) : Den R11 := (F11 x).getD (zero R11)
theorem env11 : EnvOK Try.prog (Γ11 K33 G33 K42 G42 K43 G43 K27 G27 K25 G25 K32 G32 kL11_10 xL11_10 tL11_10 yL11_10) := env_ok mixed tab_ok eqs_ok (.cons sem33 (.cons sem42 (.cons sem43 (.cons sem27 (.cons sem25 (.cons sem32 .nil))))))
theorem is11 : FnIs Try.prog 11 (Γ11 K33 G33 K42 G42 K43 G43 K27 G27 K25 G25 K32 G32 kL11_10 xL11_10 tL11_10 yL11_10) (bodyOf Try.f11) := fnIs Try.func11 rfl rfl rfl (by kernel_rfl) (loops_ok (l := [lc11_10]) (by kernel_rfl) (.cons (one_loop rfl (loopR_sound (sh := sh11_10) (shX := shX11_10) (shR := shY11_10) (fun f v => evl11_10 K33 G33 K42 G42 K43 G43 K27 G27 K25 G25 K32 G32 kL11_10 xL11_10 tL11_10 yL11_10 f v) b11_10 ((), ()) ((false, ()), ()))) (.nil)))
theorem sem11 : SemOK Try.prog (11, fnMean A11 R11 K11 G11) := fn_opt env11 is11 fun x => ev11 K33 G33 K42 G42 K43 G43 K27 G27 K25 G25 K32 G32 kL11_10 xL11_10 tL11_10 yL11_10 x

/- "loop.example/g03321/spec.DrawPlanOk" mode S false -/
abbrev I51 : Sg := ⟨[.val (.slice (.int .u8))], []⟩
abbrev O51 : Sg := ⟨[.own (S23) 0, .own (S25) 1, .own (.int .i64) 2], [.arr (S23), .arr (S25), .arr (.int .i64)]⟩
abbrev V51_6 : Type := ((Unit × (Unit × (Unit × (Unit × (Int × Unit))))) × (((List (Den (.int .u8))) × (Int × (Int × Unit))) × ((List (Den (S23))) × ((List (Den (S25))) × ((List (Den (.int .i64))) × Unit)))))
def sh51_6 : ShS := ⟨[(5, .one (.ptr 0 0)), (6, .one (.ref (S23) 1)), (7, .one (.ref (S25) 2)), (8, .one (.ref (.int .i64) 3)), (9, .one (.int .i64))], [(0, .box [.sl (.int .u8), .int .i64, .int .i64]), (1, .arr (S23)), (2, .arr (S25)), (3, .arr (.int .i64))], 4, 0⟩
abbrev X51_6 : Type := ((Unit × (Unit × (Unit × (Unit × Unit)))) × (((List (Den (.int .u8))) × (Int × (Int × Unit))) × ((List (Den (S23))) × ((List (Den (S25))) × ((List (Den (.int .i64))) × Unit)))))
def shX51_6 : ShS := ⟨[(5, .one (.ptr 0 0)), (6, .one (.ref (S23) 1)), (7, .one (.ref (S25) 2)), (8, .one (.ref (.int .i64) 3))], [(0, .box [.sl (.int .u8), .int .i64, .int .i64]), (1, .arr (S23)), (2, .arr (S25)), (3, .arr (.int .i64))], 4, 0⟩
abbrev V51_10 : Type := ((Unit × (Unit × (Unit × (Unit × (Int × (Int × Unit)))))) × (((List (Den (.int .u8))) × (Int × (Int × Unit))) × ((List (Den (S23))) × ((List (Den (S25))) × ((List (Den (.int .i64))) × Unit)))))
def sh51_10 : ShS := ⟨[(5, .one (.ptr 0 0)), (6, .one (.ref (S23) 1)), (7, .one (.ref (S25) 2)), (8, .one (.ref (.int .i64) 3)), (9, .one (.int .i64)), (10, .one (.int .i64))], [(0, .box [.sl (.int .u8), .int .i64, .int .i64]), (1, .arr (S23)), (2, .arr (S25)), (3, .arr (.int .i64))], 4, 0⟩
abbrev X51_10 : Type := ((Unit × (Unit × (Unit × (Unit × (Int × Unit))))) × (((List (Den (.int .u8))) × (Int × (Int × Unit))) × ((List (Den (S23))) × ((List (Den (S25))) × ((List (Den (.int .i64))) × Unit)))))
def shX51_10 : ShS := ⟨[(5, .one (.ptr 0 0)), (6, .one (.ref (S23) 1)), (7, .one (.ref (S25) 2)), (8, .one (.ref (.int .i64) 3)), (9, .one (.int .i64))], [(0, .box [.sl (.int .u8), .int .i64, .int .i64]), (1, .arr (S23)), (2, .arr (S25)), (3, .arr (.int .i64))], 4, 0⟩
noncomputable def Γ51 (k58 : I58.den → Bool) (g58 : I58.den → O58.den) (k59 : I59.den → Bool) (g59 : I59.den → O59.den) (k63 : I63.den → Bool) (g63 : I63.den → O63.den) (k50 : I50.den → Bool) (g50 : I50.den → O50.den) (k65 : I65.den → Bool) (g65 : I65.den → O65.den) (k24 : Den A24 → Bool) (g24 : Den A24 → Den R24) (k62 : I62.den → Bool) (g62 : I62.den → O62.den) (kl6 : V51_6 → Bool) (xl6 : V51_6 → X51_6) (kl10 : V51_10 → Bool) (xl10 : V51_10 → X51_10) : Env := mkEnv tab eqs [(58, sgMean false I58 O58 k58 g58), (59, sgMean true I59 O59 k59 g59), (63, sgMean true I63 O63 k63 g63), (50, sgMean false I50 O50 k50 g50), (65, sgMean true I65 O65 k65 g65), (24, fnMean A24 R24 k24 g24), (62, sgMean true I62 O62 k62 g62)] 92 [.tmp 2, .tmp 3, .tmp 4] [] [] [(6, loopX [5, 6, 7, 8, 9] [] 0 [5, 6, 7, 8] [] sh51_6 shX51_6 kl6 xl6), (10, loopX [5, 6, 7, 8, 9, 10] [] 2 [5, 6, 7, 8, 9] [] sh51_10 shX51_10 kl10 xl10)] [] []
noncomputable def lc51_6 : Code := (loopsOf (bodyOf Try.f51)).getD 0 .skip
noncomputable def lc51_10 : Code := (loopsOf (bodyOf Try.f51)).getD 1 .skip
def q51_10 (k58 : I58.den → Bool) (g58 : I58.den → O58.den) (k59 : I59.den → Bool) (g59 : I59.den → O59.den) (k63 : I63.den → Bool) (g63 : I63.den → O63.den) (k50 : I50.den → Bool) (g50 : I50.den → O50.den) (k65 : I65.den → Bool) (g65 : I65.den → O65.den) (k24 : Den A24 → Bool) (g24 : Den A24 → Den R24) (k62 : I62.den → Bool) (g62 : I62.den → O62.den) (f : V51_10 → Option (X51_10)) (v : V51_10) : Option (X51_10) :=
  bif (decide (v.fst.snd.snd.snd.snd.snd.fst < (↑(List.length v.snd.snd.fst) : Int))) then
    bif (decide (0 ≤ v.fst.snd.snd.snd.snd.snd.fst) && decide (v.fst.snd.snd.snd.snd.snd.fst < (↑(List.length v.snd.snd.fst) : Int))) then
      bif (decide (0 ≤ v.fst.snd.snd.snd.snd.fst) && decide (v.fst.snd.snd.snd.snd.fst < (↑(List.length v.snd.snd.snd.fst) : Int))) then
        let v0 := (List.getD v.snd.snd.fst (Int.toNat v.fst.snd.snd.snd.snd.snd.fst) (zero S23))
        let v1 := (List.getD v.snd.snd.snd.fst (Int.toNat v.fst.snd.snd.snd.snd.fst) (zero S25))
        let v2 := (k24 (v0, v1, ()))
        bif (v2) then
          let v3 := (g24 (v0, v1, ()))
          bif (v3.1) then
            bif (decide (0 ≤ v.fst.snd.snd.snd.snd.fst) && decide (v.fst.snd.snd.snd.snd.fst < (↑(List.length v.snd.snd.snd.snd.fst) : Int))) then
              let v4 := (List.getD v.snd.snd.snd.snd.fst (Int.toNat v.fst.snd.snd.snd.snd.fst) (zero (Ty.int IntKind.i64)))
              bif (decide (v4 < 0)) then
                bif (decide (0 ≤ v.fst.snd.snd.snd.snd.fst) && decide (v.fst.snd.snd.snd.snd.fst < (↑(List.length v.snd.snd.snd.snd.fst) : Int))) then
                  let v5 := (IntKind.wrap IntKind.i64 (v.fst.snd.snd.snd.snd.snd.fst + 1))
                  let v6 := (List.set v.snd.snd.snd.snd.fst (Int.toNat v.fst.snd.snd.snd.snd.fst) v.fst.snd.snd.snd.snd.snd.fst)
                  f (((), ((), ((), ((), ((v.fst.snd.snd.snd.snd.1), ((v5), ())))))), (((v.snd.fst.1), ((v.snd.fst.snd.1), ((v.snd.fst.snd.snd.1), ()))), ((v.snd.snd.1), ((v.snd.snd.snd.1), ((v6), ())))))
                else
                  none
              else
                let v5 := (k65 (((), 2, ()), v.snd.fst, ()))
                bif (v5) then
                  let v6 := (g65 (((), 2, ()), v.snd.fst, ()))
                  bif (v6.fst.1) then
                    bif (decide (0 ≤ v.fst.snd.snd.snd.snd.fst) && decide (v.fst.snd.snd.snd.snd.fst < (↑(List.length v.snd.snd.snd.snd.fst) : Int))) then
                      let v7 := (IntKind.wrap IntKind.i64 (v.fst.snd.snd.snd.snd.snd.fst + 1))
                      let v8 := (List.set v.snd.snd.snd.snd.fst (Int.toNat v.fst.snd.snd.snd.snd.fst) v.fst.snd.snd.snd.snd.snd.fst)
                      f (((), ((), ((), ((), ((v.fst.snd.snd.snd.snd.1), ((v7), ())))))), (((v6.snd.fst.1), ((v6.snd.fst.snd.1), ((v6.snd.fst.snd.snd.1), ()))), ((v.snd.snd.1), ((v.snd.snd.snd.1), ((v8), ())))))
                    else
                      none
                  else
                    let v7 := (IntKind.wrap IntKind.i64 (v.fst.snd.snd.snd.snd.snd.fst + 1))
                    f (((), ((), ((), ((), ((v.fst.snd.snd.snd.snd.1), ((v7), ())))))), (((v6.snd.fst.1), ((v6.snd.fst.snd.1), ((v6.snd.fst.snd.snd.1), ()))), ((v.snd.snd.1), ((v.snd.snd.snd.1), ((v.snd.snd.snd.snd.1), ())))))
                else
                  none
            else
              none
          else
            let v4 := (IntKind.wrap IntKind.i64 (v.fst.snd.snd.snd.snd.snd.fst + 1))
            f (((), ((), ((), ((), ((v.fst.snd.snd.snd.snd.1), ((v4), ())))))), (((v.snd.fst.1), ((v.snd.fst.snd.1), ((v.snd.fst.snd.snd.1), ()))), ((v.snd.snd.1), ((v.snd.snd.snd.1), ((v.snd.snd.snd.snd.1), ())))))
        else
          none
      else
        none
    else
      none
  else
    some (((), ((), ((), ((), ((v.fst.snd.snd.snd.snd.1), ()))))), (((v.snd.fst.1), ((v.snd.fst.snd.1), ((v.snd.fst.snd.snd.1), ()))), ((v.snd.snd.1), ((v.snd.snd.snd.1), ((v.snd.snd.snd.snd.1), ())))))
theorem evl51_10 (k58 : I58.den → Bool) (g58 : I58.den → O58.den) (k59 : I59.den → Bool) (g59 : I59.den → O59.den) (k63 : I63.den → Bool) (g63 : I63.den → O63.den) (k50 : I50.den → Bool) (g50 : I50.den → O50.den) (k65 : I65.den → Bool) (g65 : I65.den → O65.den) (k24 : Den A24 → Bool) (g24 : Den A24 → Den R24) (k62 : I62.den → Bool) (g62 : I62.den → O62.den) (kl6 : V51_6 → Bool) (xl6 : V51_6 → X51_6) (kl10 : V51_10 → Bool) (xl10 : V51_10 → X51_10) (f : V51_10 → Option (X51_10)) (v : V51_10) : EBk (Γ51 k58 g58 k59 g59 k63 g63 k50 g50 k65 g65 k24 g24 k62 g62 kl6 xl6 kl10 xl10) lc51_10 (roundK [5, 6, 7, 8, 9, 10] [] 2 [5, 6, 7, 8, 9] [] (atS sh51_10 f) (endX shX51_10)) (mkS sh51_10 v) = q51_10 k58 g58 k59 g59 k63 g63 k50 g50 k65 g65 k24 g24 k62 g62 f v := by kernel_rfl
def b51_10 (v : V51_10) : Nat := v.1.2.2.2.2.1.natAbs + v.1.2.2.2.2.2.1.natAbs + v.2.1.1.length + v.2.1.2.1.natAbs + v.2.1.2.2.1.natAbs + v.2.2.1.length + v.2.2.2.1.length + v.2.2.2.2.1.length + 1000
def l51_10 (v : V51_10) : Option (X51_10) := iter (q51_10 K58 G58 K59 G59 K63 G63 K50 G50 K65 G65 K24 G24 K62 G62) (b51_10 v) v
def kL51_10 (v : V51_10) : Bool := (l51_10 v).isSome
def xL51_10 (v : V51_10) : X51_10 := (l51_10 v).getD (((), ((), ((), ((), (0, ()))))), (([], (0, (0, ()))), ([], ([], ([], ())))))
def q51_6 (k58 : I58.den → Bool) (g58 : I58.den → O58.den) (k59 : I59.den → Bool) (g59 : I59.den → O59.den) (k63 : I63.den → Bool) (g63 : I63.den → O63.den) (k50 : I50.den → Bool) (g50 : I50.den → O50.den) (k65 : I65.den → Bool) (g65 : I65.den → O65.den) (k24 : Den A24 → Bool) (g24 : Den A24 → Den R24) (k62 : I62.den → Bool) (g62 : I62.den → O62.den) (kl10 : V51_10 → Bool) (xl10 : V51_10 → X51_10) (f : V51_6 → Option (X51_6)) (v : V51_6) : Option (X51_6) :=
  bif (decide (v.fst.snd.snd.snd.snd.fst < (↑(List.length v.snd.snd.snd.snd.fst) : Int))) then
    bif (decide (v.fst.snd.snd.snd.snd.fst < (↑(List.length v.snd.snd.snd.fst) : Int))) then
      let v0 := (k65 (((), 2, ()), v.snd.fst, ()))
      bif (v0) then
        let v1 := (g65 (((), 2, ()), v.snd.fst, ()))
        bif (v1.fst.1) then
          let v2 := (kl10 (((), (), (), (), v.fst.snd.snd.snd.snd.fst, 0, ()), v1.snd.fst, v.snd.snd))
          bif (v2) then
            let v3 := (xl10 (((), (), (), (), v.fst.snd.snd.snd.snd.fst, 0, ()), v1.snd.fst, v.snd.snd))
            let v4 := (IntKind.wrap IntKind.i64 (v3.fst.snd.snd.snd.snd.fst + 1))
            f (((), ((), ((), ((), ((v4), ()))))), (((v3.snd.fst.1), ((v3.snd.fst.snd.1), ((v3.snd.fst.snd.snd.1), ()))), ((v3.snd.snd.1), ((v3.snd.snd.snd.1), ((v3.snd.snd.snd.snd.1), ())))))
          else
            none
        else
          bif (decide (0 ≤ v.fst.snd.snd.snd.snd.fst) && decide (v.fst.snd.snd.snd.snd.fst < (↑(List.length v.snd.snd.snd.snd.fst) : Int))) then
            let v2 := (List.getD v.snd.snd.snd.snd.fst (Int.toNat v.fst.snd.snd.snd.snd.fst) (zero (Ty.int IntKind.i64)))
            bif (decide (v2 < 0)) then
              let v3 := (kl10 (((), (), (), (), v.fst.snd.snd.snd.snd.fst, 0, ()), v1.snd.fst, v.snd.snd))
              bif (v3) then
                let v4 := (xl10 (((), (), (), (), v.fst.snd.snd.snd.snd.fst, 0, ()), v1.snd.fst, v.snd.snd))
                let v5 := (IntKind.wrap IntKind.i64 (v4.fst.snd.snd.snd.snd.fst + 1))
                f (((), ((), ((), ((), ((v5), ()))))), (((v4.snd.fst.1), ((v4.snd.fst.snd.1), ((v4.snd.fst.snd.snd.1), ()))), ((v4.snd.snd.1), ((v4.snd.snd.snd.1), ((v4.snd.snd.snd.snd.1), ())))))
              else
                none
            else
              let v3 := (IntKind.wrap IntKind.i64 (v.fst.snd.snd.snd.snd.fst + 1))
              f (((), ((), ((), ((), ((v3), ()))))), (((v1.snd.fst.1), ((v1.snd.fst.snd.1), ((v1.snd.fst.snd.snd.1), ()))), ((v.snd.snd.1), ((v.snd.snd.snd.1), ((v.snd.snd.snd.snd.1), ())))))
          else
            none
      else
        none
    else
      some (((), ((), ((), ((), ())))), (((v.snd.fst.1), ((v.snd.fst.snd.1), ((v.snd.fst.snd.snd.1), ()))), ((v.snd.snd.1), ((v.snd.snd.snd.1), ((v.snd.snd.snd.snd.1), ())))))
  else
    some (((), ((), ((), ((), ())))), (((v.snd.fst.1), ((v.snd.fst.snd.1), ((v.snd.fst.snd.snd.1), ()))), ((v.snd.snd.1), ((v.snd.snd.snd.1), ((v.snd.snd.snd.snd.1), ())))))
theorem evl51_6 (k58 : I58.den → Bool) (g58 : I58.den → O58.den) (k59 : I59.den → Bool) (g59 : I59.den → O59.den) (k63 : I63.den → Bool) (g63 : I63.den → O63.den) (k50 : I50.den → Bool) (g50 : I50.den → O50.den) (k65 : I65.den → Bool) (g65 : I65.den → O65.den) (k24 : Den A24 → Bool) (g24 : Den A24 → Den R24) (k62 : I62.den → Bool) (g62 : I62.den → O62.den) (kl6 : V51_6 → Bool) (xl6 : V51_6 → X51_6) (kl10 : V51_10 → Bool) (xl10 : V51_10 → X51_10) (f : V51_6 → Option (X51_6)) (v : V51_6) : EBk (Γ51 k58 g58 k59 g59 k63 g63 k50 g50 k65 g65 k24 g24 k62 g62 kl6 xl6 kl10 xl10) lc51_6 (roundK [5, 6, 7, 8, 9] [] 0 [5, 6, 7, 8] [] (atS sh51_6 f) (endX shX51_6)) (mkS sh51_6 v) = q51_6 k58 g58 k59 g59 k63 g63 k50 g50 k65 g65 k24 g24 k62 g62 kl10 xl10 f v := by kernel_rfl
def b51_6 (v : V51_6) : Nat := v.1.2.2.2.2.1.natAbs + v.2.1.1.length + v.2.1.2.1.natAbs + v.2.1.2.2.1.natAbs + v.2.2.1.length + v.2.2.2.1.length + v.2.2.2.2.1.length + 1000
def l51_6 (v : V51_6) : Option (X51_6) := iter (q51_6 K58 G58 K59 G59 K63 G63 K50 G50 K65 G65 K24 G24 K62 G62 kL51_10 xL51_10) (b51_6 v) v
def kL51_6 (v : V51_6) : Bool := (l51_6 v).isSome
def xL51_6 (v : V51_6) : X51_6 := (l51_6 v).getD (((), ((), ((), ((), ())))), (([], (0, (0, ()))), ([], ([], ([], ())))))
def r51 (k58 : I58.den → Bool) (g58 : I58.den → O58.den) (k59 : I59.den → Bool) (g59 : I59.den → O59.den) (k63 : I63.den → Bool) (g63 : I63.den → O63.den) (k50 : I50.den → Bool) (g50 : I50.den → O50.den) (k65 : I65.den → Bool) (g65 : I65.den → O65.den) (k24 : Den A24 → Bool) (g24 : Den A24 → Den R24) (k62 : I62.den → Bool) (g62 : I62.den → O62.den) (kl6 : V51_6 → Bool) (xl6 : V51_6 → X51_6) (kl10 : V51_10 → Bool) (xl10 : V51_10 → X51_10) (x : I51.den) : Option (O51.den) :=
  let v0 := (k58 x)
  bif (v0) then
    let v1 := (g58 x)
    let v2 := (k59 (((), ()), v1.snd))
    bif (v2) then
      let v3 := (g59 (((), ()), v1.snd))
      let v4 := (k63 (((), ()), v3.snd.fst, ()))
      bif (v4) then
        let v5 := (g63 (((), ()), v3.snd.fst, ()))
        let v6 := (k50 ((v3.snd.snd.fst, 0, v5.snd.snd), ()))
        bif (v6) then
          let v7 := (g50 ((v3.snd.snd.fst, 0, v5.snd.snd), ()))
          let v8 := (kl6 (((), (), (), (), 0, ()), v5.snd.fst, v3.snd.snd.fst, v5.snd.snd.fst, v7.snd))
          bif (v8) then
            let v9 := (xl6 (((), (), (), (), 0, ()), v5.snd.fst, v3.snd.snd.fst, v5.snd.snd.fst, v7.snd))
            bif (decide ((↑(List.length v9.snd.snd.snd.snd.fst) : Int) > 0)) then
              let v10 := (k65 (((), 8, ()), v9.snd.fst, ()))
              bif (v10) then
                let v11 := (g65 (((), 8, ()), v9.snd.fst, ()))
                bif (v11.fst.1) then
                  let v12 := (k62 (((), (↑(List.length v9.snd.snd.fst) : Int), ()), v11.snd))
                  bif (v12) then
                    bif (decide (0 ≤ 0) && decide (0 < (↑(List.length v9.snd.snd.snd.snd.fst) : Int))) then
                      let v13 := (g62 (((), (↑(List.length v9.snd.snd.fst) : Int), ()), v11.snd))
                      let v14 := (k65 (((), 20, ()), v13.snd))
                      bif (v14) then
                        let v15 := (g65 (((), 20, ()), v13.snd))
                        bif (v15.fst.1) then
                          let v16 := (List.set v9.snd.snd.snd.snd.fst (Int.toNat 0) v13.fst.fst)
                          let v17 := (List.set (List.replicate 1 (zero (Ty.int IntKind.i64))) 0 0)
                          bif (capOk (List.length v16 + List.length v17)) then
                            let v18 := (v16 ++ v17)
                            some (((), ((), ((), ()))), ((v9.snd.snd.1), ((v9.snd.snd.snd.1), ((v18), ()))))
                          else
                            none
                        else
                          let v16 := (List.set v9.snd.snd.snd.snd.fst (Int.toNat 0) v13.fst.fst)
                          some (((), ((), ((), ()))), ((v9.snd.snd.1), ((v9.snd.snd.snd.1), ((v16), ()))))
                      else
                        none
                    else
                      none
                  else
                    none
                else
                  let v12 := (k65 (((), 20, ()), v11.snd))
                  bif (v12) then
                    let v13 := (g65 (((), 20, ()), v11.snd))
                    bif (v13.fst.1) then
                      let v14 := (List.set (List.replicate 1 (zero (Ty.int IntKind.i64))) 0 0)
                      bif (capOk (List.length v9.snd.snd.snd.snd.fst + List.length v14)) then
                        let v15 := (v9.snd.snd.snd.snd.fst ++ v14)
                        some (((), ((), ((), ()))), ((v9.snd.snd.1), ((v9.snd.snd.snd.1), ((v15), ()))))
                      else
                        none
                    else
                      some (((), ((), ((), ()))), ((v9.snd.snd.1), ((v9.snd.snd.snd.1), ((v9.snd.snd.snd.snd.1), ()))))
                  else
                    none
              else
                none
            else
              let v10 := (k65 (((), 20, ()), v9.snd.fst, ()))
              bif (v10) then
                let v11 := (g65 (((), 20, ()), v9.snd.fst, ()))
                bif (v11.fst.1) then
                  let v12 := (List.set (List.replicate 1 (zero (Ty.int IntKind.i64))) 0 0)
                  bif (capOk (List.length v9.snd.snd.snd.snd.fst + List.length v12)) then
                    let v13 := (v9.snd.snd.snd.snd.fst ++ v12)
                    some (((), ((), ((), ()))), ((v9.snd.snd.1), ((v9.snd.snd.snd.1), ((v13), ()))))
                  else
                    none
                else
                  some (((), ((), ((), ()))), ((v9.snd.snd.1), ((v9.snd.snd.snd.1), ((v9.snd.snd.snd.snd.1), ()))))
              else
                none
          else
            none
        else
          none
      else
        none
    else
      none
  else
    none
theorem ev51 (k58 : I58.den → Bool) (g58 : I58.den → O58.den) (k59 : I59.den → Bool) (g59 : I59.den → O59.den) (k63 : I63.den → Bool) (g63 : I63.den → O63.den) (k50 : I50.den → Bool) (g50 : I50.den → O50.den) (k65 : I65.den → Bool) (g65 : I65.den → O65.den) (k24 : Den A24 → Bool) (g24 : Den A24 → Den R24) (k62 : I62.den → Bool) (g62 : I62.den → O62.den) (kl6 : V51_6 → Bool) (xl6 : V51_6 → X51_6) (kl10 : V51_10 → Bool) (xl10 : V51_10 → X51_10) (x : I51.den) : callS (Γ51 k58 g58 k59 g59 k63 g63 k50 g50 k65 g65 k24 g24 k62 g62 kl6 xl6 kl10 xl10) (bodyOf Try.f51) I51 O51 x = r51 k58 g58 k59 g59 k63 g63 k50 g50 k65 g65 k24 g24 k62 g62 kl6 xl6 kl10 xl10 x := by kernel_rfl
def F51 (x : I51.den) : Option (O51.den) := r51 K58 G58 K59 G59 K63 G63 K50 G50 K65 G65 K24 G24 K62 G62 kL51_6 xL51_6 kL51_10 xL51_10 x
def K51 (x : I51.den) : Bool := (F51 x).isSome
def G51 (x : I51.den) : O51.den := (F51 x).getD (zeroSg O51)
theorem env51 : EnvOK Try.prog (Γ51 K58 G58 K59 G59 K63 G63 K50 G50 K65 G65 K24 G24 K62 G62 kL51_6 xL51_6 kL51_10 xL51_10) := env_ok mixed tab_ok eqs_ok (.cons sem58 (.cons sem59 (.cons sem63 (.cons sem50 (.cons sem65 (.cons sem24 (.cons sem62 .nil)))))))
theorem is51 : FnIs Try.prog 51 (Γ51 K58 G58 K59 G59 K63 G63 K50 G50 K65 G65 K24 G24 K62 G62 kL51_6 xL51_6 kL51_10 xL51_10) (bodyOf Try.f51) := fnIs Try.func51 rfl rfl rfl (by kernel_rfl) (loops_ok (l := [lc51_6, lc51_10]) (by kernel_rfl) (.cons (one_loop rfl (loopX_sound (sh := sh51_6) (shX := shX51_6) (fun f v => evl51_6 K58 G58 K59 G59 K63 G63 K50 G50 K65 G65 K24 G24 K62 G62 kL51_6 xL51_6 kL51_10 xL51_10 f v) b51_6 (((), ((), ((), ((), ())))), (([], (0, (0, ()))), ([], ([], ([], ()))))))) (.cons (one_loop rfl (loopX_sound (sh := sh51_10) (shX := shX51_10) (fun f v => evl51_10 K58 G58 K59 G59 K63 G63 K50 G50 K65 G65 K24 G24 K62 G62 kL51_6 xL51_6 kL51_10 xL51_10 f v) b51_10 (((), ((), ((), ((), (0, ()))))), (([], (0, (0, ()))), ([], ([], ([], ()))))))) (.nil))))
theorem sem51 : SemOK Try.prog (51, sgMean false I51 O51 K51 G51) := sg_opt env51 is51 false fun x => ev51 K58 G58 K59 G59 K63 G63 K50 G50 K65 G65 K24 G24 K62 G62 kL51_6 xL51_6 kL51_10 xL51_10 x

/- "loop.example/g03321/laws.FnFewest" -/
abbrev A14 : Ty := .cons (.slice (.int .u8)) (.nil)
abbrev R14 : Ty := .cons (.bool) (.nil)
noncomputable def Γ14 (k33 : Den A33 → Bool) (g33 : Den A33 → Den R33) (k51 : I51.den → Bool) (g51 : I51.den → O51.den) (k45 : I45.den → Bool) (g45 : I45.den → O45.den) (k44 : I44.den → Bool) (g44 : I44.den → O44.den) (k40 : Den A40 → Bool) (g40 : Den A40 → Den R40) (k22 : Den A22 → Bool) (g22 : Den A22 → Den R22) : Env := mkEnv tab eqs [(33, fnMean A33 R33 k33 g33), (51, sgMean false I51 O51 k51 g51), (45, sgMean false I45 O45 k45 g45), (44, sgMean false I44 O44 k44 g44), (40, fnMean A40 R40 k40 g40), (22, fnMean A22 R22 k22 g22)] 62 [.tmp 2] [] [] [] [] []
def r14 (k33 : Den A33 → Bool) (g33 : Den A33 → Den R33) (k51 : I51.den → Bool) (g51 : I51.den → O51.den) (k45 : I45.den → Bool) (g45 : I45.den → O45.den) (k44 : I44.den → Bool) (g44 : I44.den → O44.den) (k40 : Den A40 → Bool) (g40 : Den A40 → Den R40) (k22 : Den A22 → Bool) (g22 : Den A22 → Den R22) (x : Den A14) : Option (Den R14) :=
  let v0 := (k33 x)
  bif (v0) then
    let v1 := (g33 x)
    bif (v1.1) then
      some ((true), ())
    else
      let v2 := (k51 (x, ()))
      bif (v2) then
        let v3 := (g51 (x, ()))
        let v4 := (k45 ((v3.snd.fst, v3.snd.snd.fst, ()), ()))
        bif (v4) then
          let v5 := (k44 ((v3.snd.fst, v3.snd.snd.fst, ()), ()))
          bif (v5) then
            let v6 := (g45 ((v3.snd.fst, v3.snd.snd.fst, ()), ()))
            let v7 := (g44 ((v3.snd.fst, v3.snd.snd.fst, ()), ()))
            bif (!v6.fst.snd.fst == v7.fst.snd.fst) then
              some ((false), ())
            else
              bif (!v6.fst.snd.fst) then
                bif ((↑(List.length v6.snd.fst) : Int) == 0) then
                  let v8 := (k40 v3.snd)
                  bif (v8) then
                    let v9 := (g40 v3.snd)
                    some ((!v9.fst), ())
                  else
                    none
                else
                  some ((false), ())
              else
                let v8 := (k40 (v3.snd.fst, v3.snd.snd.fst, v6.snd))
                bif (v8) then
                  let v9 := (g40 (v3.snd.fst, v3.snd.snd.fst, v6.snd))
                  bif (!v9.fst) then
                    some ((false), ())
                  else
                    let v10 := (k40 v3.snd)
                    bif (v10) then
                      let v11 := (g40 v3.snd)
                      bif (!v11.fst) then
                        some ((true), ())
                      else
                        let v12 := (k22 v6.snd)
                        bif (v12) then
                          let v13 := (k22 v3.snd.snd.snd)
                          bif (v13) then
                            let v14 := (g22 v6.snd)
                            let v15 := (g22 v3.snd.snd.snd)
                            some ((decide (v14.fst ≤ v15.fst)), ())
                          else
                            none
                        else
                          none
                    else
                      none
                else
                  none
          else
            none
        else
          none
      else
        none
  else
    none
theorem ev14 (k33 : Den A33 → Bool) (g33 : Den A33 → Den R33) (k51 : I51.den → Bool) (g51 : I51.den → O51.den) (k45 : I45.den → Bool) (g45 : I45.den → O45.den) (k44 : I44.den → Bool) (g44 : I44.den → O44.den) (k40 : Den A40 → Bool) (g40 : Den A40 → Den R40) (k22 : Den A22 → Bool) (g22 : Den A22 → Den R22) (x : Den A14) : callK (Γ14 k33 g33 k51 g51 k45 g45 k44 g44 k40 g40 k22 g22) (bodyOf Try.f14) (decR R14) (encA A14 x) [] = r14 k33 g33 k51 g51 k45 g45 k44 g44 k40 g40 k22 g22 x := by kernel_rfl
def F14 (x : Den A14) : Option (Den R14) := r14 K33 G33 K51 G51 K45 G45 K44 G44 K40 G40 K22 G22 x
def K14 (x : Den A14) : Bool := (F14 x).isSome
def G14 (x : Den A14) : Den R14 := (F14 x).getD (zero R14)
theorem env14 : EnvOK Try.prog (Γ14 K33 G33 K51 G51 K45 G45 K44 G44 K40 G40 K22 G22) := env_ok mixed tab_ok eqs_ok (.cons sem33 (.cons sem51 (.cons sem45 (.cons sem44 (.cons sem40 (.cons sem22 .nil))))))
theorem is14 : FnIs Try.prog 14 (Γ14 K33 G33 K51 G51 K45 G45 K44 G44 K40 G40 K22 G22) (bodyOf Try.f14) := fnIs Try.func14 rfl rfl rfl (by kernel_rfl) (noLoops (by kernel_rfl))
theorem sem14 : SemOK Try.prog (14, fnMean A14 R14 K14 G14) := fn_opt env14 is14 fun x => ev14 K33 G33 K51 G51 K45 G45 K44 G44 K40 G40 K22 G22 x

end Go.Proofs.Ytbgkhcoeifbgkaa.AM
