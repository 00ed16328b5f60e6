/- What functions of the program make of their arguments; each is what its evaluation says. Printed by fx.py. -/
import Derived.Test.YtbgkhcoeifbgkaaT0
namespace Go.Proofs.Ytbgkhcoeifbgkaa.AM
open Go Go.Proofs
set_option linter.unusedVariables false
set_option maxRecDepth 100000
set_option maxHeartbeats 0

/- "loop.example/g03321/laws.szSail" -/
abbrev A15 : Ty := .cons (S23) (.cons (.int .i64) (.nil))
abbrev R15 : Ty := .cons (.int .i64) (.nil)
noncomputable def Γ15 : Env := mkEnv tab eqs [] 13 [.tmp 4] [] [] [] [] []
def r15 (x : Den A15) : Option (Den R15) :=
  let v0 := (IntKind.wrap IntKind.i64 (x.snd.fst - (↑(ByteArray.size x.fst.fst) : Int)))
  bif (decide (v0 < 0)) then
    some ((-1), ())
  else
    some ((v0), ())
theorem ev15 (x : Den A15) : callK (Γ15) (bodyOf Try.f15) (decR R15) (encA A15 x) [] = r15 x := by kernel_rfl
def F15 (x : Den A15) : Option (Den R15) := r15 x
def K15 (x : Den A15) : Bool := (F15 x).isSome
def G15 (x : Den A15) : Den R15 := (F15 x).getD (zero R15)
theorem env15 : EnvOK Try.prog (Γ15) := env_ok mixed tab_ok eqs_ok .nil
theorem is15 : FnIs Try.prog 15 (Γ15) (bodyOf Try.f15) := fnIs Try.func15 rfl rfl rfl (by kernel_rfl) (noLoops (by kernel_rfl))
theorem sem15 : SemOK Try.prog (15, fnMean A15 R15 K15 G15) := fn_opt env15 is15 fun x => ev15 x

/- "loop.example/g03321/laws.toSail" -/
abbrev A17 : Ty := .cons (S23) (.nil)
abbrev R17 : Ty := .cons (S23) (.nil)
noncomputable def Γ17 : Env := mkEnv tab eqs [] 20 [.cell 2 29] [] [] [] [] []
def r17 (x : Den A17) : Option (Den R17) :=
  some (((x.fst.1), ((x.fst.snd.1), ((x.fst.snd.snd.1), ((x.fst.snd.snd.snd.1), ((x.fst.snd.snd.snd.snd.1), ()))))), ())
theorem ev17 (x : Den A17) : callK (Γ17) (bodyOf Try.f17) (decR R17) (encA A17 x) [] = r17 x := by kernel_rfl
def F17 (x : Den A17) : Option (Den R17) := r17 x
def K17 (x : Den A17) : Bool := (F17 x).isSome
def G17 (x : Den A17) : Den R17 := (F17 x).getD (zero R17)
theorem env17 : EnvOK Try.prog (Γ17) := env_ok mixed tab_ok eqs_ok .nil
theorem is17 : FnIs Try.prog 17 (Γ17) (bodyOf Try.f17) := fnIs Try.func17 rfl rfl rfl (by kernel_rfl) (noLoops (by kernel_rfl))
theorem sem17 : SemOK Try.prog (17, fnMean A17 R17 K17 G17) := fn_opt env17 is17 fun x => ev17 x

/- "loop.example/g03321/laws.toMoment" -/
abbrev A18 : Ty := .cons (S25) (.nil)
abbrev R18 : Ty := .cons (S25) (.nil)
noncomputable def Γ18 : Env := mkEnv tab eqs [] 11 [.cell 2 31] [] [] [] [] []
def r18 (x : Den A18) : Option (Den R18) :=
  some (((x.fst.1), ((x.fst.snd.1), ())), ())
theorem ev18 (x : Den A18) : callK (Γ18) (bodyOf Try.f18) (decR R18) (encA A18 x) [] = r18 x := by kernel_rfl
def F18 (x : Den A18) : Option (Den R18) := r18 x
def K18 (x : Den A18) : Bool := (F18 x).isSome
def G18 (x : Den A18) : Den R18 := (F18 x).getD (zero R18)
theorem env18 : EnvOK Try.prog (Γ18) := env_ok mixed tab_ok eqs_ok .nil
theorem is18 : FnIs Try.prog 18 (Γ18) (bodyOf Try.f18) := fnIs Try.func18 rfl rfl rfl (by kernel_rfl) (noLoops (by kernel_rfl))
theorem sem18 : SemOK Try.prog (18, fnMean A18 R18 K18 G18) := fn_opt env18 is18 fun x => ev18 x

/- "loop.example/g03321/spec.Fits" -/
abbrev A16 : Ty := .cons (S23) (.cons (S25) (.nil))
abbrev R16 : Ty := .cons (.bool) (.nil)
noncomputable def Γ16 : Env := mkEnv tab eqs [] 31 [.tmp 4] [] [] [] [] []
def r16 (x : Den A16) : Option (Den R16) :=
  bif (fgt FloatKind.f32 x.snd.fst.fst x.fst.snd.fst || feq FloatKind.f32 x.snd.fst.fst x.fst.snd.fst) then
    bif (flt FloatKind.f32 x.snd.fst.fst x.fst.snd.snd.fst || feq FloatKind.f32 x.snd.fst.fst x.fst.snd.snd.fst) then
      bif (decide (x.snd.fst.snd.fst ≥ x.fst.snd.snd.snd.fst)) then
        some ((decide (x.snd.fst.snd.fst ≤ x.fst.snd.snd.snd.snd.fst)), ())
      else
        some ((false), ())
    else
      some ((false), ())
  else
    some ((false), ())
theorem ev16 (x : Den A16) : callK (Γ16) (bodyOf Try.f16) (decR R16) (encA A16 x) [] = r16 x := by kernel_rfl
def F16 (x : Den A16) : Option (Den R16) := r16 x
def K16 (x : Den A16) : Bool := (F16 x).isSome
def G16 (x : Den A16) : Den R16 := (F16 x).getD (zero R16)
theorem env16 : EnvOK Try.prog (Γ16) := env_ok mixed tab_ok eqs_ok .nil
theorem is16 : FnIs Try.prog 16 (Γ16) (bodyOf Try.f16) := fnIs Try.func16 rfl rfl rfl (by kernel_rfl) (noLoops (by kernel_rfl))
theorem sem16 : SemOK Try.prog (16, fnMean A16 R16 K16 G16) := fn_opt env16 is16 fun x => ev16 x

/- "loop.example/g03321/impl.within" -/
abbrev A52 : Ty := .cons (.int .i64) (.cons (.int .i64) (.cons (.int .i64) (.nil)))
abbrev R52 : Ty := .cons (.bool) (.nil)
noncomputable def Γ52 : Env := mkEnv tab eqs [] 15 [.tmp 6] [] [] [] [] []
def r52 (x : Den A52) : Option (Den R52) :=
  bif (decide (x.fst ≥ x.snd.fst)) then
    some ((decide (x.fst ≤ x.snd.snd.fst)), ())
  else
    some ((false), ())
theorem ev52 (x : Den A52) : callK (Γ52) (bodyOf Try.f52) (decR R52) (encA A52 x) [] = r52 x := by kernel_rfl
def F52 (x : Den A52) : Option (Den R52) := r52 x
def K52 (x : Den A52) : Bool := (F52 x).isSome
def G52 (x : Den A52) : Den R52 := (F52 x).getD (zero R52)
theorem env52 : EnvOK Try.prog (Γ52) := env_ok mixed tab_ok eqs_ok .nil
theorem is52 : FnIs Try.prog 52 (Γ52) (bodyOf Try.f52) := fnIs Try.func52 rfl rfl rfl (by kernel_rfl) (noLoops (by kernel_rfl))
theorem sem52 : SemOK Try.prog (52, fnMean A52 R52 K52 G52) := fn_opt env52 is52 fun x => ev52 x

/- "loop.example/g03321/impl.Fits" -/
abbrev A19 : Ty := .cons (S23) (.cons (S25) (.nil))
abbrev R19 : Ty := .cons (.bool) (.nil)
noncomputable def Γ19 (k52 : Den A52 → Bool) (g52 : Den A52 → Den R52) : Env := mkEnv tab eqs [(52, fnMean A52 R52 k52 g52)] 26 [.tmp 4] [] [] [] [] []
def r19 (k52 : Den A52 → Bool) (g52 : Den A52 → Den R52) (x : Den A19) : Option (Den R19) :=
  bif (fgt FloatKind.f32 x.snd.fst.fst x.fst.snd.fst || feq FloatKind.f32 x.snd.fst.fst x.fst.snd.fst) then
    bif (flt FloatKind.f32 x.snd.fst.fst x.fst.snd.snd.fst || feq FloatKind.f32 x.snd.fst.fst x.fst.snd.snd.fst) then
      let v0 := (k52 (x.snd.fst.snd.fst, x.fst.snd.snd.snd.fst, x.fst.snd.snd.snd.snd.fst, ()))
      bif (v0) then
        let v1 := (g52 (x.snd.fst.snd.fst, x.fst.snd.snd.snd.fst, x.fst.snd.snd.snd.snd.fst, ()))
        some ((v1.1), ())
      else
        none
    else
      some ((false), ())
  else
    some ((false), ())
theorem ev19 (k52 : Den A52 → Bool) (g52 : Den A52 → Den R52) (x : Den A19) : callK (Γ19 k52 g52) (bodyOf Try.f19) (decR R19) (encA A19 x) [] = r19 k52 g52 x := by kernel_rfl
def F19 (x : Den A19) : Option (Den R19) := r19 K52 G52 x
def K19 (x : Den A19) : Bool := (F19 x).isSome
def G19 (x : Den A19) : Den R19 := (F19 x).getD (zero R19)
theorem env19 : EnvOK Try.prog (Γ19 K52 G52) := env_ok mixed tab_ok eqs_ok (.cons sem52 .nil)
theorem is19 : FnIs Try.prog 19 (Γ19 K52 G52) (bodyOf Try.f19) := fnIs Try.func19 rfl rfl rfl (by kernel_rfl) (noLoops (by kernel_rfl))
theorem sem19 : SemOK Try.prog (19, fnMean A19 R19 K19 G19) := fn_opt env19 is19 fun x => ev19 K52 G52 x

/- "loop.example/g03321/laws.FnExactFits" -/
abbrev A3 : Ty := .cons (S23) (.cons (S25) (.nil))
abbrev R3 : Ty := .cons (.bool) (.nil)
noncomputable def Γ3 (k15 : Den A15 → Bool) (g15 : Den A15 → Den R15) (k17 : Den A17 → Bool) (g17 : Den A17 → Den R17) (k18 : Den A18 → Bool) (g18 : Den A18 → Den R18) (k16 : Den A16 → Bool) (g16 : Den A16 → Den R16) (k19 : Den A19 → Bool) (g19 : Den A19 → Den R19) : Env := mkEnv tab eqs [(15, fnMean A15 R15 k15 g15), (17, fnMean A17 R17 k17 g17), (18, fnMean A18 R18 k18 g18), (16, fnMean A16 R16 k16 g16), (19, fnMean A19 R19 k19 g19)] 26 [.tmp 4] [] [] [] [] []
def r3 (k15 : Den A15 → Bool) (g15 : Den A15 → Den R15) (k17 : Den A17 → Bool) (g17 : Den A17 → Den R17) (k18 : Den A18 → Bool) (g18 : Den A18 → Den R18) (k16 : Den A16 → Bool) (g16 : Den A16 → Den R16) (k19 : Den A19 → Bool) (g19 : Den A19 → Den R19) (x : Den A3) : Option (Den R3) :=
  let v0 := (k15 ((x.fst.fst, x.fst.snd.fst, x.fst.snd.snd.fst, x.fst.snd.snd.snd.fst, x.fst.snd.snd.snd.snd.fst, ()), 1048576, ()))
  bif (v0) then
    let v1 := (g15 ((x.fst.fst, x.fst.snd.fst, x.fst.snd.snd.fst, x.fst.snd.snd.snd.fst, x.fst.snd.snd.snd.snd.fst, ()), 1048576, ()))
    bif (decide (v1.fst < 0)) then
      some ((true), ())
    else
      let v2 := (k17 ((x.fst.fst, x.fst.snd.fst, x.fst.snd.snd.fst, x.fst.snd.snd.snd.fst, x.fst.snd.snd.snd.snd.fst, ()), ()))
      bif (v2) then
        let v3 := (k18 ((x.snd.fst.fst, x.snd.fst.snd.fst, ()), ()))
        bif (v3) then
          let v4 := (g17 ((x.fst.fst, x.fst.snd.fst, x.fst.snd.snd.fst, x.fst.snd.snd.snd.fst, x.fst.snd.snd.snd.snd.fst, ()), ()))
          let v5 := (g18 ((x.snd.fst.fst, x.snd.fst.snd.fst, ()), ()))
          let v6 := (k16 ((v4.fst.fst, v4.fst.snd.fst, v4.fst.snd.snd.fst, v4.fst.snd.snd.snd.fst, v4.fst.snd.snd.snd.snd.fst, ()), (v5.fst.fst, v5.fst.snd.fst, ()), ()))
          bif (v6) then
            bif (v2) then
              bif (v3) then
                let v7 := (k19 ((v4.fst.fst, v4.fst.snd.fst, v4.fst.snd.snd.fst, v4.fst.snd.snd.snd.fst, v4.fst.snd.snd.snd.snd.fst, ()), (v5.fst.fst, v5.fst.snd.fst, ()), ()))
                bif (v7) then
                  let v8 := (g19 ((v4.fst.fst, v4.fst.snd.fst, v4.fst.snd.snd.fst, v4.fst.snd.snd.snd.fst, v4.fst.snd.snd.snd.snd.fst, ()), (v5.fst.fst, v5.fst.snd.fst, ()), ()))
                  let v9 := (g16 ((v4.fst.fst, v4.fst.snd.fst, v4.fst.snd.snd.fst, v4.fst.snd.snd.snd.fst, v4.fst.snd.snd.snd.snd.fst, ()), (v5.fst.fst, v5.fst.snd.fst, ()), ()))
                  bif (!v8.fst == v9.fst) then
                    some ((false), ())
                  else
                    some ((true), ())
                else
                  none
              else
                none
            else
              none
          else
            none
        else
          none
      else
        none
  else
    none
theorem ev3 (k15 : Den A15 → Bool) (g15 : Den A15 → Den R15) (k17 : Den A17 → Bool) (g17 : Den A17 → Den R17) (k18 : Den A18 → Bool) (g18 : Den A18 → Den R18) (k16 : Den A16 → Bool) (g16 : Den A16 → Den R16) (k19 : Den A19 → Bool) (g19 : Den A19 → Den R19) (x : Den A3) : callK (Γ3 k15 g15 k17 g17 k18 g18 k16 g16 k19 g19) (bodyOf Try.f3) (decR R3) (encA A3 x) [] = r3 k15 g15 k17 g17 k18 g18 k16 g16 k19 g19 x := by kernel_rfl
def F3 (x : Den A3) : Option (Den R3) := r3 K15 G15 K17 G17 K18 G18 K16 G16 K19 G19 x
def K3 (x : Den A3) : Bool := (F3 x).isSome
def G3 (x : Den A3) : Den R3 := (F3 x).getD (zero R3)
theorem env3 : EnvOK Try.prog (Γ3 K15 G15 K17 G17 K18 G18 K16 G16 K19 G19) := env_ok mixed tab_ok eqs_ok (.cons sem15 (.cons sem17 (.cons sem18 (.cons sem16 (.cons sem19 .nil)))))
theorem is3 : FnIs Try.prog 3 (Γ3 K15 G15 K17 G17 K18 G18 K16 G16 K19 G19) (bodyOf Try.f3) := fnIs Try.func3 rfl rfl rfl (by kernel_rfl) (noLoops (by kernel_rfl))
theorem sem3 : SemOK Try.prog (3, fnMean A3 R3 K3 G3) := fn_opt env3 is3 fun x => ev3 K15 G15 K17 G17 K18 G18 K16 G16 K19 G19 x

/- "loop.example/g03321/laws.toIntS" mode S false -/
abbrev I21 : Sg := ⟨[.val (.slice (.int .i64))], []⟩
abbrev O21 : Sg := ⟨[.own (.int .i64) 0], [.arr (.int .i64)]⟩
abbrev V21_3 : Type := (((List (Den (.int .i64))) × (Unit × (Int × Unit))) × ((List (Den (.int .i64))) × Unit))
def sh21_3 : ShS := ⟨[(0, .one (.sl (.int .i64))), (3, .one (.ref (.int .i64) 0)), (4, .one (.int .i64))], [(0, .arr (.int .i64))], 1, 0⟩
abbrev X21_3 : Type := ((Unit × Unit) × ((List (Den (.int .i64))) × Unit))
def shX21_3 : ShS := ⟨[(3, .one (.ref (.int .i64) 0))], [(0, .arr (.int .i64))], 1, 0⟩
noncomputable def Γ21 (kl3 : V21_3 → Bool) (xl3 : V21_3 → X21_3) : Env := mkEnv tab eqs [] 22 [.tmp 2] [] [] [(3, loopX [0, 3, 4] [] 0 [3] [] sh21_3 shX21_3 kl3 xl3)] [] []
noncomputable def lc21_3 : Code := (loopsOf (bodyOf Try.f21)).getD 0 .skip
def q21_3 (f : V21_3 → Option (X21_3)) (v : V21_3) : Option (X21_3) :=
  bif (decide (v.fst.snd.snd.fst < (↑(List.length v.fst.fst) : Int))) then
    bif (decide (0 ≤ v.fst.snd.snd.fst) && decide (v.fst.snd.snd.fst < (↑(List.length v.fst.fst) : Int))) then
      bif (decide (0 ≤ v.fst.snd.snd.fst) && decide (v.fst.snd.snd.fst < (↑(List.length v.snd.fst) : Int))) then
        let v0 := (IntKind.wrap IntKind.i64 (v.fst.snd.snd.fst + 1))
        let v1 := (List.getD v.fst.fst (Int.toNat v.fst.snd.snd.fst) (zero (Ty.int IntKind.i64)))
        let v2 := (List.set v.snd.fst (Int.toNat v.fst.snd.snd.fst) v1)
        f (((v.fst.1), ((), ((v0), ()))), ((v2), ()))
      else
        none
    else
      none
  else
    some (((), ()), ((v.snd.1), ()))
theorem evl21_3 (kl3 : V21_3 → Bool) (xl3 : V21_3 → X21_3) (f : V21_3 → Option (X21_3)) (v : V21_3) : EBk (Γ21 kl3 xl3) lc21_3 (roundK [0, 3, 4] [] 0 [3] [] (atS sh21_3 f) (endX shX21_3)) (mkS sh21_3 v) = q21_3 f v := by kernel_rfl
def b21_3 (v : V21_3) : Nat := v.1.1.length + v.1.2.2.1.natAbs + v.2.1.length + 1000
def l21_3 (v : V21_3) : Option (X21_3) := iter (q21_3) (b21_3 v) v
def kL21_3 (v : V21_3) : Bool := (l21_3 v).isSome
def xL21_3 (v : V21_3) : X21_3 := (l21_3 v).getD (((), ()), ([], ()))
def r21 (kl3 : V21_3 → Bool) (xl3 : V21_3 → X21_3) (x : I21.den) : Option (O21.den) :=
  bif (decide (0 ≤ (↑(List.length x.fst.fst) : Int)) && capOk (Int.toNat (↑(List.length x.fst.fst) : Int)) && (↑(List.length x.fst.fst) : Int) == (↑(List.length x.fst.fst) : Int)) then
    let v0 := (kl3 ((x.fst.fst, (), 0, ()), List.replicate (Int.toNat (↑(List.length x.fst.fst) : Int)) (zero (Ty.int IntKind.i64)), ()))
    bif (v0) then
      let v1 := (xl3 ((x.fst.fst, (), 0, ()), List.replicate (Int.toNat (↑(List.length x.fst.fst) : Int)) (zero (Ty.int IntKind.i64)), ()))
      some (((), ()), ((v1.snd.1), ()))
    else
      none
  else
    none
theorem ev21 (kl3 : V21_3 → Bool) (xl3 : V21_3 → X21_3) (x : I21.den) : callS (Γ21 kl3 xl3) (bodyOf Try.f21) I21 O21 x = r21 kl3 xl3 x := by kernel_rfl
def F21 (x : I21.den) : Option (O21.den) := r21 kL21_3 xL21_3 x
def K21 (x : I21.den) : Bool := (F21 x).isSome
def G21 (x : I21.den) : O21.den := (F21 x).getD (zeroSg O21)
theorem env21 : EnvOK Try.prog (Γ21 kL21_3 xL21_3) := env_ok mixed tab_ok eqs_ok .nil
theorem is21 : FnIs Try.prog 21 (Γ21 kL21_3 xL21_3) (bodyOf Try.f21) := fnIs Try.func21 rfl rfl rfl (by kernel_rfl) (loops_ok (l := [lc21_3]) (by kernel_rfl) (.cons (one_loop rfl (loopX_sound (sh := sh21_3) (shX := shX21_3) (fun f v => evl21_3 kL21_3 xL21_3 f v) b21_3 (((), ()), ([], ())))) (.nil)))
theorem sem21 : SemOK Try.prog (21, sgMean false I21 O21 K21 G21) := sg_opt env21 is21 false fun x => ev21 kL21_3 xL21_3 x

/- "loop.example/g03321/spec.Changes" -/
abbrev A20 : Ty := .cons (.slice (.int .i64)) (.nil)
abbrev R20 : Ty := .cons (.int .i64) (.nil)
abbrev V20_3 : Type := (((List (Den (.int .i64))) × (Int × (Int × Unit))) × Unit)
def sh20_3 : ShS := ⟨[(0, .one (.sl (.int .i64))), (3, .one (.int .i64)), (4, .one (.int .i64))], [], 0, 0⟩
abbrev X20_3 : Type := ((Int × Unit) × Unit)
def shX20_3 : ShS := ⟨[(3, .one (.int .i64))], [], 0, 0⟩
noncomputable def Γ20 (kl3 : V20_3 → Bool) (xl3 : V20_3 → X20_3) : Env := mkEnv tab eqs [] 24 [.tmp 2] [] [] [(3, loopX [0, 3, 4] [] 0 [3] [] sh20_3 shX20_3 kl3 xl3)] [] []
noncomputable def lc20_3 : Code := (loopsOf (bodyOf Try.f20)).getD 0 .skip
def q20_3 (f : V20_3 → Option (X20_3)) (v : V20_3) : Option (X20_3) :=
  bif (decide (v.fst.snd.snd.fst < (↑(List.length v.fst.fst) : Int))) then
    bif (decide (0 ≤ v.fst.snd.snd.fst) && decide (v.fst.snd.snd.fst < (↑(List.length v.fst.fst) : Int))) then
      let v0 := (IntKind.wrap IntKind.i64 (v.fst.snd.snd.fst - 1))
      bif (decide (0 ≤ v0) && decide (v0 < (↑(List.length v.fst.fst) : Int))) then
        let v1 := (List.getD v.fst.fst (Int.toNat v.fst.snd.snd.fst) (zero (Ty.int IntKind.i64)))
        let v2 := (List.getD v.fst.fst (Int.toNat v0) (zero (Ty.int IntKind.i64)))
        bif (v1 != v2) then
          let v3 := (IntKind.wrap IntKind.i64 (v.fst.snd.fst + 1))
          let v4 := (IntKind.wrap IntKind.i64 (v.fst.snd.snd.fst + 1))
          f (((v.fst.1), ((v3), ((v4), ()))), ())
        else
          let v3 := (IntKind.wrap IntKind.i64 (v.fst.snd.snd.fst + 1))
          f (((v.fst.1), ((v.fst.snd.1), ((v3), ()))), ())
      else
        none
    else
      none
  else
    some (((v.fst.snd.1), ()), ())
theorem evl20_3 (kl3 : V20_3 → Bool) (xl3 : V20_3 → X20_3) (f : V20_3 → Option (X20_3)) (v : V20_3) : EBk (Γ20 kl3 xl3) lc20_3 (roundK [0, 3, 4] [] 0 [3] [] (atS sh20_3 f) (endX shX20_3)) (mkS sh20_3 v) = q20_3 f v := by kernel_rfl
def b20_3 (v : V20_3) : Nat := v.1.1.length + v.1.2.1.natAbs + v.1.2.2.1.natAbs + 1000
def l20_3 (v : V20_3) : Option (X20_3) := iter (q20_3) (b20_3 v) v
def kL20_3 (v : V20_3) : Bool := (l20_3 v).isSome
def xL20_3 (v : V20_3) : X20_3 := (l20_3 v).getD ((0, ()), ())
def r20 (kl3 : V20_3 → Bool) (xl3 : V20_3 → X20_3) (x : Den A20) : Option (Den R20) :=
  let v0 := (kl3 ((x.fst, 0, 1, ()), ()))
  bif (v0) then
    let v1 := (xl3 ((x.fst, 0, 1, ()), ()))
    some ((v1.fst.1), ())
  else
    none
theorem ev20 (kl3 : V20_3 → Bool) (xl3 : V20_3 → X20_3) (x : Den A20) : callK (Γ20 kl3 xl3) (bodyOf Try.f20) (decR R20) (encA A20 x) [] = r20 kl3 xl3 x := by kernel_rfl
def F20 (x : Den A20) : Option (Den R20) := r20 kL20_3 xL20_3 x
def K20 (x : Den A20) : Bool := (F20 x).isSome
def G20 (x : Den A20) : Den R20 := (F20 x).getD (zero R20)
theorem env20 : EnvOK Try.prog (Γ20 kL20_3 xL20_3) := env_ok mixed tab_ok eqs_ok .nil
theorem is20 : FnIs Try.prog 20 (Γ20 kL20_3 xL20_3) (bodyOf Try.f20) := fnIs Try.func20 rfl rfl rfl (by kernel_rfl) (loops_ok (l := [lc20_3]) (by kernel_rfl) (.cons (one_loop rfl (loopX_sound (sh := sh20_3) (shX := shX20_3) (fun f v => evl20_3 kL20_3 xL20_3 f v) b20_3 ((0, ()), ()))) (.nil)))
theorem sem20 : SemOK Try.prog (20, fnMean A20 R20 K20 G20) := fn_opt env20 is20 fun x => ev20 kL20_3 xL20_3 x

/- "loop.example/g03321/impl.Changes" -/
abbrev A22 : Ty := .cons (.slice (.int .i64)) (.nil)
abbrev R22 : Ty := .cons (.int .i64) (.nil)
abbrev V22_3 : Type := (((List (Den (.int .i64))) × (Int × (Int × Unit))) × Unit)
def sh22_3 : ShS := ⟨[(0, .one (.sl (.int .i64))), (3, .one (.int .i64)), (4, .one (.int .i64))], [], 0, 0⟩
abbrev X22_3 : Type := ((Int × Unit) × Unit)
def shX22_3 : ShS := ⟨[(3, .one (.int .i64))], [], 0, 0⟩
noncomputable def Γ22 (kl3 : V22_3 → Bool) (xl3 : V22_3 → X22_3) : Env := mkEnv tab eqs [] 24 [.tmp 2] [] [] [(3, loopX [0, 3, 4] [] 0 [3] [] sh22_3 shX22_3 kl3 xl3)] [] []
noncomputable def lc22_3 : Code := (loopsOf (bodyOf Try.f22)).getD 0 .skip
def q22_3 (f : V22_3 → Option (X22_3)) (v : V22_3) : Option (X22_3) :=
  bif (decide (v.fst.snd.snd.fst < (↑(List.length v.fst.fst) : Int))) then
    bif (decide (0 ≤ v.fst.snd.snd.fst) && decide (v.fst.snd.snd.fst < (↑(List.length v.fst.fst) : Int))) then
      let v0 := (IntKind.wrap IntKind.i64 (v.fst.snd.snd.fst - 1))
      bif (decide (0 ≤ v0) && decide (v0 < (↑(List.length v.fst.fst) : Int))) then
        let v1 := (List.getD v.fst.fst (Int.toNat v.fst.snd.snd.fst) (zero (Ty.int IntKind.i64)))
        let v2 := (List.getD v.fst.fst (Int.toNat v0) (zero (Ty.int IntKind.i64)))
        bif (v1 != v2) then
          let v3 := (IntKind.wrap IntKind.i64 (v.fst.snd.fst + 1))
          let v4 := (IntKind.wrap IntKind.i64 (v.fst.snd.snd.fst + 1))
          f (((v.fst.1), ((v3), ((v4), ()))), ())
        else
          let v3 := (IntKind.wrap IntKind.i64 (v.fst.snd.snd.fst + 1))
          f (((v.fst.1), ((v.fst.snd.1), ((v3), ()))), ())
      else
        none
    else
      none
  else
    some (((v.fst.snd.1), ()), ())
theorem evl22_3 (kl3 : V22_3 → Bool) (xl3 : V22_3 → X22_3) (f : V22_3 → Option (X22_3)) (v : V22_3) : EBk (Γ22 kl3 xl3) lc22_3 (roundK [0, 3, 4] [] 0 [3] [] (atS sh22_3 f) (endX shX22_3)) (mkS sh22_3 v) = q22_3 f v := by kernel_rfl
def b22_3 (v : V22_3) : Nat := v.1.1.length + v.1.2.1.natAbs + v.1.2.2.1.natAbs + 1000
def l22_3 (v : V22_3) : Option (X22_3) := iter (q22_3) (b22_3 v) v
def kL22_3 (v : V22_3) : Bool := (l22_3 v).isSome
def xL22_3 (v : V22_3) : X22_3 := (l22_3 v).getD ((0, ()), ())
def r22 (kl3 : V22_3 → Bool) (xl3 : V22_3 → X22_3) (x : Den A22) : Option (Den R22) :=
  let v0 := (kl3 ((x.fst, 0, 1, ()), ()))
  bif (v0) then
    let v1 := (xl3 ((x.fst, 0, 1, ()), ()))
    some ((v1.fst.1), ())
  else
    none
theorem ev22 (kl3 : V22_3 → Bool) (xl3 : V22_3 → X22_3) (x : Den A22) : callK (Γ22 kl3 xl3) (bodyOf Try.f22) (decR R22) (encA A22 x) [] = r22 kl3 xl3 x := by kernel_rfl
def F22 (x : Den A22) : Option (Den R22) := r22 kL22_3 xL22_3 x
def K22 (x : Den A22) : Bool := (F22 x).isSome
def G22 (x : Den A22) : Den R22 := (F22 x).getD (zero R22)
theorem env22 : EnvOK Try.prog (Γ22 kL22_3 xL22_3) := env_ok mixed tab_ok eqs_ok .nil
theorem is22 : FnIs Try.prog 22 (Γ22 kL22_3 xL22_3) (bodyOf Try.f22) := fnIs Try.func22 rfl rfl rfl (by kernel_rfl) (loops_ok (l := [lc22_3]) (by kernel_rfl) (.cons (one_loop rfl (loopX_sound (sh := sh22_3) (shX := shX22_3) (fun f v => evl22_3 kL22_3 xL22_3 f v) b22_3 ((0, ()), ()))) (.nil)))
theorem sem22 : SemOK Try.prog (22, fnMean A22 R22 K22 G22) := fn_opt env22 is22 fun x => ev22 kL22_3 xL22_3 x

/- "loop.example/g03321/laws.eqIntS" -/
abbrev A23 : Ty := .cons (.slice (.int .i64)) (.cons (.slice (.int .i64)) (.nil))
abbrev R23 : Ty := .cons (.bool) (.nil)
abbrev V23_4 : Type := (((List (Den (.int .i64))) × ((List (Den (.int .i64))) × (Int × Unit))) × Unit)
def sh23_4 : ShS := ⟨[(0, .one (.sl (.int .i64))), (1, .one (.sl (.int .i64))), (5, .one (.int .i64))], [], 0, 0⟩
abbrev X23_4 : Type := (Unit × Unit)
def shX23_4 : ShS := ⟨[], [], 0, 0⟩
abbrev Y23_4 : Type := ((Bool × Unit) × Unit)
def shY23_4 : ShS := ⟨[(4, .one (.bool))], [], 0, 0⟩
noncomputable def Γ23 (kl4 : V23_4 → Bool) (xl4 : V23_4 → X23_4) (tl4 : V23_4 → Bool) (yl4 : V23_4 → Y23_4) : Env := mkEnv tab eqs [] 26 [.tmp 4] [] [] [(4, loopR [0, 1, 5] [] 0 [] [] sh23_4 shX23_4 shY23_4 kl4 tl4 xl4 yl4)] [] []
noncomputable def lc23_4 : Code := (loopsOf (bodyOf Try.f23)).getD 0 .skip
def q23_4 (f : V23_4 → Option (X23_4 ⊕ Y23_4)) (v : V23_4) : Option (X23_4 ⊕ Y23_4) :=
  bif (decide (v.fst.snd.snd.fst < (↑(List.length v.fst.fst) : Int))) then
    bif (decide (0 ≤ v.fst.snd.snd.fst) && decide (v.fst.snd.snd.fst < (↑(List.length v.fst.fst) : Int))) then
      bif (decide (0 ≤ v.fst.snd.snd.fst) && decide (v.fst.snd.snd.fst < (↑(List.length v.fst.snd.fst) : Int))) then
        let v0 := (List.getD v.fst.fst (Int.toNat v.fst.snd.snd.fst) (zero (Ty.int IntKind.i64)))
        let v1 := (List.getD v.fst.snd.fst (Int.toNat v.fst.snd.snd.fst) (zero (Ty.int IntKind.i64)))
        bif (v0 != v1) then
          some (Sum.inr (((false), ()), ()))
        else
          let v2 := (IntKind.wrap IntKind.i64 (v.fst.snd.snd.fst + 1))
          f (((v.fst.1), ((v.fst.snd.1), ((v2), ()))), ())
      else
        none
    else
      none
  else
    some (Sum.inl ((), ()))
theorem evl23_4 (kl4 : V23_4 → Bool) (xl4 : V23_4 → X23_4) (tl4 : V23_4 → Bool) (yl4 : V23_4 → Y23_4) (f : V23_4 → Option (X23_4 ⊕ Y23_4)) (v : V23_4) : EBk (Γ23 kl4 xl4 tl4 yl4) lc23_4 (roundK [0, 1, 5] [] 0 [] [] (atS sh23_4 f) (endS shX23_4 shY23_4)) (mkS sh23_4 v) = q23_4 f v := by kernel_rfl
def b23_4 (v : V23_4) : Nat := v.1.1.length + v.1.2.1.length + v.1.2.2.1.natAbs + 1000
def l23_4 (v : V23_4) : Option (X23_4 ⊕ Y23_4) := iter (q23_4) (b23_4 v) v
def kL23_4 (v : V23_4) : Bool := (l23_4 v).isSome
def tL23_4 (v : V23_4) : Bool := isR (l23_4 v)
def xL23_4 (v : V23_4) : X23_4 := xOf ((), ()) (l23_4 v)
def yL23_4 (v : V23_4) : Y23_4 := yOf ((false, ()), ()) (l23_4 v)
def r23 (kl4 : V23_4 → Bool) (xl4 : V23_4 → X23_4) (tl4 : V23_4 → Bool) (yl4 : V23_4 → Y23_4) (x : Den A23) : Option (Den R23) :=
  bif ((↑(List.length x.fst) : Int) != (↑(List.length x.snd.fst) : Int)) then
    some ((false), ())
  else
    let v0 := (kl4 ((x.fst, x.snd.fst, 0, ()), ()))
    bif (v0) then
      let v1 := (tl4 ((x.fst, x.snd.fst, 0, ()), ()))
      bif (v1) then
        let v2 := (yl4 ((x.fst, x.snd.fst, 0, ()), ()))
        some ((v2.fst.1), ())
      else
        some ((true), ())
    else
      none
theorem ev23 (kl4 : V23_4 → Bool) (xl4 : V23_4 → X23_4) (tl4 : V23_4 → Bool) (yl4 : V23_4 → Y23_4) (x : Den A23) : callK (Γ23 kl4 xl4 tl4 yl4) (bodyOf Try.f23) (decR R23) (encA A23 x) [] = r23 kl4 xl4 tl4 yl4 x := by kernel_rfl
def F23 (x : Den A23) : Option (Den R23) := r23 kL23_4 xL23_4 tL23_4 yL23_4 x
def K23 (x : Den A23) : Bool := (F23 x).isSome
def G23 (x : Den A23) : Den R23 := (F23 x).getD (zero R23)
theorem env23 : EnvOK Try.prog (Γ23 kL23_4 xL23_4 tL23_4 yL23_4) := env_ok mixed tab_ok eqs_ok .nil
theorem is23 : FnIs Try.prog 23 (Γ23 kL23_4 xL23_4 tL23_4 yL23_4) (bodyOf Try.f23) := fnIs Try.func23 rfl rfl rfl (by kernel_rfl) (loops_ok (l := [lc23_4]) (by kernel_rfl) (.cons (one_loop rfl (loopR_sound (sh := sh23_4) (shX := shX23_4) (shR := shY23_4) (fun f v => evl23_4 kL23_4 xL23_4 tL23_4 yL23_4 f v) b23_4 ((), ()) ((false, ()), ()))) (.nil)))
theorem sem23 : SemOK Try.prog (23, fnMean A23 R23 K23 G23) := fn_opt env23 is23 fun x => ev23 kL23_4 xL23_4 tL23_4 yL23_4 x

/- "loop.example/g03321/laws.FnExactChanges" -/
abbrev A4 : Ty := .cons (.slice (.int .i64)) (.nil)
abbrev R4 : Ty := .cons (.bool) (.nil)
noncomputable def Γ4 (k21 : I21.den → Bool) (g21 : I21.den → O21.den) (k20 : Den A20 → Bool) (g20 : Den A20 → Den R20) (k22 : Den A22 → Bool) (g22 : Den A22 → Den R22) (k23 : Den A23 → Bool) (g23 : Den A23 → Den R23) : Env := mkEnv tab eqs [(21, sgMean false I21 O21 k21 g21), (20, fnMean A20 R20 k20 g20), (22, fnMean A22 R22 k22 g22), (23, fnMean A23 R23 k23 g23)] 24 [.tmp 2] [] [] [] [] []
def r4 (k21 : I21.den → Bool) (g21 : I21.den → O21.den) (k20 : Den A20 → Bool) (g20 : Den A20 → Den R20) (k22 : Den A22 → Bool) (g22 : Den A22 → Den R22) (k23 : Den A23 → Bool) (g23 : Den A23 → Den R23) (x : Den A4) : Option (Den R4) :=
  bif (decide ((↑(List.length x.fst) : Int) > 1048576)) then
    some ((true), ())
  else
    let v0 := (k21 ((x.fst, ()), ()))
    bif (v0) then
      let v1 := (g21 ((x.fst, ()), ()))
      let v2 := (k20 (v1.snd.fst, ()))
      bif (v2) then
        bif (v0) then
          let v3 := (k22 (v1.snd.fst, ()))
          bif (v3) then
            let v4 := (g22 (v1.snd.fst, ()))
            let v5 := (g20 (v1.snd.fst, ()))
            bif (v4.fst != v5.fst) then
              some ((false), ())
            else
              bif (v0) then
                let v6 := (k23 (v1.snd.fst, v1.snd.fst, ()))
                bif (v6) then
                  let v7 := (g23 (v1.snd.fst, v1.snd.fst, ()))
                  bif (!v7.fst) then
                    some ((false), ())
                  else
                    some ((true), ())
                else
                  none
              else
                none
          else
            none
        else
          none
      else
        none
    else
      none
theorem ev4 (k21 : I21.den → Bool) (g21 : I21.den → O21.den) (k20 : Den A20 → Bool) (g20 : Den A20 → Den R20) (k22 : Den A22 → Bool) (g22 : Den A22 → Den R22) (k23 : Den A23 → Bool) (g23 : Den A23 → Den R23) (x : Den A4) : callK (Γ4 k21 g21 k20 g20 k22 g22 k23 g23) (bodyOf Try.f4) (decR R4) (encA A4 x) [] = r4 k21 g21 k20 g20 k22 g22 k23 g23 x := by kernel_rfl
def F4 (x : Den A4) : Option (Den R4) := r4 K21 G21 K20 G20 K22 G22 K23 G23 x
def K4 (x : Den A4) : Bool := (F4 x).isSome
def G4 (x : Den A4) : Den R4 := (F4 x).getD (zero R4)
theorem env4 : EnvOK Try.prog (Γ4 K21 G21 K20 G20 K22 G22 K23 G23) := env_ok mixed tab_ok eqs_ok (.cons sem21 (.cons sem20 (.cons sem22 (.cons sem23 .nil))))
theorem is4 : FnIs Try.prog 4 (Γ4 K21 G21 K20 G20 K22 G22 K23 G23) (bodyOf Try.f4) := fnIs Try.func4 rfl rfl rfl (by kernel_rfl) (noLoops (by kernel_rfl))
theorem sem4 : SemOK Try.prog (4, fnMean A4 R4 K4 G4) := fn_opt env4 is4 fun x => ev4 K21 G21 K20 G20 K22 G22 K23 G23 x

/- "loop.example/g03321/spec.l01In" -/
abbrev A53 : Ty := .cons (.int .i64) (.cons (.int .i64) (.cons (.int .i64) (.nil)))
abbrev R53 : Ty := .cons (.bool) (.nil)
noncomputable def Γ53 : Env := mkEnv tab eqs [] 15 [.tmp 6] [] [] [] [] []
def r53 (x : Den A53) : Option (Den R53) :=
  bif (decide (x.fst ≥ x.snd.fst)) then
    some ((decide (x.fst ≤ x.snd.snd.fst)), ())
  else
    some ((false), ())
theorem ev53 (x : Den A53) : callK (Γ53) (bodyOf Try.f53) (decR R53) (encA A53 x) [] = r53 x := by kernel_rfl
def F53 (x : Den A53) : Option (Den R53) := r53 x
def K53 (x : Den A53) : Bool := (F53 x).isSome
def G53 (x : Den A53) : Den R53 := (F53 x).getD (zero R53)
theorem env53 : EnvOK Try.prog (Γ53) := env_ok mixed tab_ok eqs_ok .nil
theorem is53 : FnIs Try.prog 53 (Γ53) (bodyOf Try.f53) := fnIs Try.func53 rfl rfl rfl (by kernel_rfl) (noLoops (by kernel_rfl))
theorem sem53 : SemOK Try.prog (53, fnMean A53 R53 K53 G53) := fn_opt env53 is53 fun x => ev53 x

/- "loop.example/g03321/spec.FitsWide" -/
abbrev A24 : Ty := .cons (S23) (.cons (S25) (.nil))
abbrev R24 : Ty := .cons (.bool) (.nil)
noncomputable def Γ24 (k53 : Den A53 → Bool) (g53 : Den A53 → Den R53) : Env := mkEnv tab eqs [(53, fnMean A53 R53 k53 g53)] 47 [.tmp 4] [] [] [] [] []
def r24 (k53 : Den A53 → Bool) (g53 : Den A53 → Den R53) (x : Den A24) : Option (Den R24) :=
  let v0 := (farith BinOp.sub FloatKind.f32 x.fst.snd.fst 1065353216)
  bif (fgt FloatKind.f32 x.snd.fst.fst v0 || feq FloatKind.f32 x.snd.fst.fst v0) then
    let v1 := (farith BinOp.add FloatKind.f32 x.fst.snd.snd.fst 1065353216)
    bif (!(flt FloatKind.f32 x.snd.fst.fst v1 || feq FloatKind.f32 x.snd.fst.fst v1)) then
      some ((false), ())
    else
      bif (decide (x.snd.fst.snd.fst < x.fst.snd.snd.snd.fst)) then
        let v2 := (IntKind.wrap IntKind.i64 (x.fst.snd.snd.snd.fst - x.snd.fst.snd.fst))
        let v3 := (k53 (v2, 0, 5, ()))
        bif (v3) then
          let v4 := (g53 (v2, 0, 5, ()))
          bif (!v4.fst) then
            some ((false), ())
          else
            bif (decide (x.snd.fst.snd.fst ≤ x.fst.snd.snd.snd.snd.fst)) then
              some ((true), ())
            else
              let v5 := (IntKind.wrap IntKind.i64 (x.snd.fst.snd.fst - x.fst.snd.snd.snd.snd.fst))
              let v6 := (k53 (v5, 0, 5, ()))
              bif (v6) then
                let v7 := (g53 (v5, 0, 5, ()))
                some ((v7.1), ())
              else
                none
        else
          none
      else
        bif (decide (x.snd.fst.snd.fst ≤ x.fst.snd.snd.snd.snd.fst)) then
          some ((true), ())
        else
          let v2 := (IntKind.wrap IntKind.i64 (x.snd.fst.snd.fst - x.fst.snd.snd.snd.snd.fst))
          let v3 := (k53 (v2, 0, 5, ()))
          bif (v3) then
            let v4 := (g53 (v2, 0, 5, ()))
            some ((v4.1), ())
          else
            none
  else
    some ((false), ())
theorem ev24 (k53 : Den A53 → Bool) (g53 : Den A53 → Den R53) (x : Den A24) : callK (Γ24 k53 g53) (bodyOf Try.f24) (decR R24) (encA A24 x) [] = r24 k53 g53 x := by kernel_rfl
def F24 (x : Den A24) : Option (Den R24) := r24 K53 G53 x
def K24 (x : Den A24) : Bool := (F24 x).isSome
def G24 (x : Den A24) : Den R24 := (F24 x).getD (zero R24)
theorem env24 : EnvOK Try.prog (Γ24 K53 G53) := env_ok mixed tab_ok eqs_ok (.cons sem53 .nil)
theorem is24 : FnIs Try.prog 24 (Γ24 K53 G53) (bodyOf Try.f24) := fnIs Try.func24 rfl rfl rfl (by kernel_rfl) (noLoops (by kernel_rfl))
theorem sem24 : SemOK Try.prog (24, fnMean A24 R24 K24 G24) := fn_opt env24 is24 fun x => ev24 K53 G53 x

/- "loop.example/g03321/impl.FitsWide" -/
abbrev A25 : Ty := .cons (S23) (.cons (S25) (.nil))
abbrev R25 : Ty := .cons (.bool) (.nil)
noncomputable def Γ25 : Env := mkEnv tab eqs [] 57 [.tmp 4] [] [] [] [] []
def r25 (x : Den A25) : Option (Den R25) :=
  bif (decide (x.snd.fst.snd.fst ≥ x.fst.snd.snd.snd.fst)) then
    bif (decide (x.snd.fst.snd.fst ≤ x.fst.snd.snd.snd.snd.fst)) then
      let v0 := (farith BinOp.sub FloatKind.f32 x.fst.snd.fst 1065353216)
      bif (fgt FloatKind.f32 x.snd.fst.fst v0 || feq FloatKind.f32 x.snd.fst.fst v0) then
        let v1 := (farith BinOp.add FloatKind.f32 x.fst.snd.snd.fst 1065353216)
        bif (flt FloatKind.f32 x.snd.fst.fst v1 || feq FloatKind.f32 x.snd.fst.fst v1) then
          some ((true), ())
        else
          some ((false), ())
      else
        some ((false), ())
    else
      let v0 := (farith BinOp.sub FloatKind.f32 x.fst.snd.fst 1065353216)
      bif (fgt FloatKind.f32 x.snd.fst.fst v0 || feq FloatKind.f32 x.snd.fst.fst v0) then
        let v1 := (farith BinOp.add FloatKind.f32 x.fst.snd.snd.fst 1065353216)
        bif (flt FloatKind.f32 x.snd.fst.fst v1 || feq FloatKind.f32 x.snd.fst.fst v1) then
          let v2 := (IntKind.wrap IntKind.u64 x.snd.fst.snd.fst)
          let v3 := (IntKind.wrap IntKind.u64 x.fst.snd.snd.snd.snd.fst)
          let v4 := (IntKind.wrap IntKind.u64 (v2 - v3))
          some ((decide (v4 ≤ 5)), ())
        else
          some ((false), ())
      else
        some ((false), ())
  else
    bif (decide (x.snd.fst.snd.fst ≤ x.fst.snd.snd.snd.snd.fst)) then
      let v0 := (farith BinOp.sub FloatKind.f32 x.fst.snd.fst 1065353216)
      bif (fgt FloatKind.f32 x.snd.fst.fst v0 || feq FloatKind.f32 x.snd.fst.fst v0) then
        let v1 := (farith BinOp.add FloatKind.f32 x.fst.snd.snd.fst 1065353216)
        bif (flt FloatKind.f32 x.snd.fst.fst v1 || feq FloatKind.f32 x.snd.fst.fst v1) then
          let v2 := (IntKind.wrap IntKind.u64 x.fst.snd.snd.snd.fst)
          let v3 := (IntKind.wrap IntKind.u64 x.snd.fst.snd.fst)
          let v4 := (IntKind.wrap IntKind.u64 (v2 - v3))
          bif (decide (v4 ≤ 5)) then
            some ((true), ())
          else
            some ((false), ())
        else
          some ((false), ())
      else
        some ((false), ())
    else
      let v0 := (farith BinOp.sub FloatKind.f32 x.fst.snd.fst 1065353216)
      bif (fgt FloatKind.f32 x.snd.fst.fst v0 || feq FloatKind.f32 x.snd.fst.fst v0) then
        let v1 := (farith BinOp.add FloatKind.f32 x.fst.snd.snd.fst 1065353216)
        bif (flt FloatKind.f32 x.snd.fst.fst v1 || feq FloatKind.f32 x.snd.fst.fst v1) then
          let v2 := (IntKind.wrap IntKind.u64 x.fst.snd.snd.snd.fst)
          let v3 := (IntKind.wrap IntKind.u64 x.snd.fst.snd.fst)
          let v4 := (IntKind.wrap IntKind.u64 (v2 - v3))
          bif (decide (v4 ≤ 5)) then
            let v5 := (IntKind.wrap IntKind.u64 x.fst.snd.snd.snd.snd.fst)
            let v6 := (IntKind.wrap IntKind.u64 (v3 - v5))
            some ((decide (v6 ≤ 5)), ())
          else
            some ((false), ())
        else
          some ((false), ())
      else
        some ((false), ())
theorem ev25 (x : Den A25) : callK (Γ25) (bodyOf Try.f25) (decR R25) (encA A25 x) [] = r25 x := by kernel_rfl
def F25 (x : Den A25) : Option (Den R25) := r25 x
def K25 (x : Den A25) : Bool := (F25 x).isSome
def G25 (x : Den A25) : Den R25 := (F25 x).getD (zero R25)
theorem env25 : EnvOK Try.prog (Γ25) := env_ok mixed tab_ok eqs_ok .nil
theorem is25 : FnIs Try.prog 25 (Γ25) (bodyOf Try.f25) := fnIs Try.func25 rfl rfl rfl (by kernel_rfl) (noLoops (by kernel_rfl))
theorem sem25 : SemOK Try.prog (25, fnMean A25 R25 K25 G25) := fn_opt env25 is25 fun x => ev25 x

/- "loop.example/g03321/laws.FnExactFitsWide" -/
abbrev A5 : Ty := .cons (S23) (.cons (S25) (.nil))
abbrev R5 : Ty := .cons (.bool) (.nil)
noncomputable def Γ5 (k15 : Den A15 → Bool) (g15 : Den A15 → Den R15) (k17 : Den A17 → Bool) (g17 : Den A17 → Den R17) (k18 : Den A18 → Bool) (g18 : Den A18 → Den R18) (k24 : Den A24 → Bool) (g24 : Den A24 → Den R24) (k25 : Den A25 → Bool) (g25 : Den A25 → Den R25) : Env := mkEnv tab eqs [(15, fnMean A15 R15 k15 g15), (17, fnMean A17 R17 k17 g17), (18, fnMean A18 R18 k18 g18), (24, fnMean A24 R24 k24 g24), (25, fnMean A25 R25 k25 g25)] 26 [.tmp 4] [] [] [] [] []
def r5 (k15 : Den A15 → Bool) (g15 : Den A15 → Den R15) (k17 : Den A17 → Bool) (g17 : Den A17 → Den R17) (k18 : Den A18 → Bool) (g18 : Den A18 → Den R18) (k24 : Den A24 → Bool) (g24 : Den A24 → Den R24) (k25 : Den A25 → Bool) (g25 : Den A25 → Den R25) (x : Den A5) : Option (Den R5) :=
  let v0 := (k15 ((x.fst.fst, x.fst.snd.fst, x.fst.snd.snd.fst, x.fst.snd.snd.snd.fst, x.fst.snd.snd.snd.snd.fst, ()), 1048576, ()))
  bif (v0) then
    let v1 := (g15 ((x.fst.fst, x.fst.snd.fst, x.fst.snd.snd.fst, x.fst.snd.snd.snd.fst, x.fst.snd.snd.snd.snd.fst, ()), 1048576, ()))
    bif (decide (v1.fst < 0)) then
      some ((true), ())
    else
      let v2 := (k17 ((x.fst.fst, x.fst.snd.fst, x.fst.snd.snd.fst, x.fst.snd.snd.snd.fst, x.fst.snd.snd.snd.snd.fst, ()), ()))
      bif (v2) then
        let v3 := (k18 ((x.snd.fst.fst, x.snd.fst.snd.fst, ()), ()))
        bif (v3) then
          let v4 := (g17 ((x.fst.fst, x.fst.snd.fst, x.fst.snd.snd.fst, x.fst.snd.snd.snd.fst, x.fst.snd.snd.snd.snd.fst, ()), ()))
          let v5 := (g18 ((x.snd.fst.fst, x.snd.fst.snd.fst, ()), ()))
          let v6 := (k24 ((v4.fst.fst, v4.fst.snd.fst, v4.fst.snd.snd.fst, v4.fst.snd.snd.snd.fst, v4.fst.snd.snd.snd.snd.fst, ()), (v5.fst.fst, v5.fst.snd.fst, ()), ()))
          bif (v6) then
            bif (v2) then
              bif (v3) then
                let v7 := (k25 ((v4.fst.fst, v4.fst.snd.fst, v4.fst.snd.snd.fst, v4.fst.snd.snd.snd.fst, v4.fst.snd.snd.snd.snd.fst, ()), (v5.fst.fst, v5.fst.snd.fst, ()), ()))
                bif (v7) then
                  let v8 := (g25 ((v4.fst.fst, v4.fst.snd.fst, v4.fst.snd.snd.fst, v4.fst.snd.snd.snd.fst, v4.fst.snd.snd.snd.snd.fst, ()), (v5.fst.fst, v5.fst.snd.fst, ()), ()))
                  let v9 := (g24 ((v4.fst.fst, v4.fst.snd.fst, v4.fst.snd.snd.fst, v4.fst.snd.snd.snd.fst, v4.fst.snd.snd.snd.snd.fst, ()), (v5.fst.fst, v5.fst.snd.fst, ()), ()))
                  bif (!v8.fst == v9.fst) then
                    some ((false), ())
                  else
                    some ((true), ())
                else
                  none
              else
                none
            else
              none
          else
            none
        else
          none
      else
        none
  else
    none
theorem ev5 (k15 : Den A15 → Bool) (g15 : Den A15 → Den R15) (k17 : Den A17 → Bool) (g17 : Den A17 → Den R17) (k18 : Den A18 → Bool) (g18 : Den A18 → Den R18) (k24 : Den A24 → Bool) (g24 : Den A24 → Den R24) (k25 : Den A25 → Bool) (g25 : Den A25 → Den R25) (x : Den A5) : callK (Γ5 k15 g15 k17 g17 k18 g18 k24 g24 k25 g25) (bodyOf Try.f5) (decR R5) (encA A5 x) [] = r5 k15 g15 k17 g17 k18 g18 k24 g24 k25 g25 x := by kernel_rfl
def F5 (x : Den A5) : Option (Den R5) := r5 K15 G15 K17 G17 K18 G18 K24 G24 K25 G25 x
def K5 (x : Den A5) : Bool := (F5 x).isSome
def G5 (x : Den A5) : Den R5 := (F5 x).getD (zero R5)
theorem env5 : EnvOK Try.prog (Γ5 K15 G15 K17 G17 K18 G18 K24 G24 K25 G25) := env_ok mixed tab_ok eqs_ok (.cons sem15 (.cons sem17 (.cons sem18 (.cons sem24 (.cons sem25 .nil)))))
theorem is5 : FnIs Try.prog 5 (Γ5 K15 G15 K17 G17 K18 G18 K24 G24 K25 G25) (bodyOf Try.f5) := fnIs Try.func5 rfl rfl rfl (by kernel_rfl) (noLoops (by kernel_rfl))
theorem sem5 : SemOK Try.prog (5, fnMean A5 R5 K5 G5) := fn_opt env5 is5 fun x => ev5 K15 G15 K17 G17 K18 G18 K24 G24 K25 G25 x

end Go.Proofs.Ytbgkhcoeifbgkaa.AM
