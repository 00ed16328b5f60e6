/- What functions of the program make of their arguments; each is what its evaluation says. Printed by fx.py. -/
import Derived.Test.YtibbdoohekjmaaaT0
import Derived.Test.YtibbdoohekjmaaaU0
import Derived.Test.YtibbdoohekjmaaaU1
namespace Go.Proofs.Ytibbdoohekjmaaa.AM
open Go Go.Proofs
set_option linter.unusedVariables false
set_option maxRecDepth 100000
set_option maxHeartbeats 0

/- "loop.example/g03321/laws.big" -/
abbrev A16 : Ty := .cons (.slice (.int .u8)) (.nil)
abbrev R16 : Ty := .cons (.bool) (.nil)
noncomputable def Γ16 : Env := mkEnv tab eqs [] 6 [.tmp 2] [] [] [] [] []
def r16 (x : Den A16) : Option (Den R16) :=
  some ((decide ((↑(List.length x.fst) : Int) > 1048576)), ())
theorem ev16 (x : Den A16) : callK (Γ16) (bodyOf Try.f16) (decR R16) (encA A16 x) [] = r16 x := by kernel_rfl
def F16 (x : Den A16) : Option (Den R16) := r16 x
def K16 (x : Den A16) : Bool := (F16 x).isSome
def G16 (x : Den A16) : Den R16 := (F16 x).getD (zero R16)
theorem env16 : EnvOK Try.prog (Γ16) := env_ok mixed tab_ok eqs_ok .nil
theorem is16 : FnIs Try.prog 16 (Γ16) (bodyOf Try.f16) := fnIs Try.func16 rfl rfl rfl (by kernel_rfl) (noLoops (by kernel_rfl))
theorem sem16 : SemOK Try.prog (16, fnMean A16 R16 K16 G16) := fn_opt env16 is16 fun x => ev16 x

/- "loop.example/g03321/spec.l01New" mode S false -/
abbrev I52 : Sg := ⟨[.val (.slice (.int .u8))], []⟩
abbrev O52 : Sg := ⟨[.ptr 0], [.box (S110)]⟩
abbrev V52_3 : Type := (((List (Den (.int .u8))) × (Int × (Int × Unit))) × Unit)
def sh52_3 : ShS := ⟨[(0, .one (.sl (.int .u8))), (3, .one (.int .i64)), (4, .one (.int .i64))], [], 0, 0⟩
abbrev X52_3 : Type := (((List (Den (.int .u8))) × (Int × Unit)) × Unit)
def shX52_3 : ShS := ⟨[(0, .one (.sl (.int .u8))), (3, .one (.int .i64))], [], 0, 0⟩
noncomputable def Γ52 (kl3 : V52_3 → Bool) (xl3 : V52_3 → X52_3) : Env := mkEnv tab eqs [] 32 [.tmp 2] [] [] [(3, loopX [0, 3, 4] [] 0 [0, 3] [] sh52_3 shX52_3 kl3 xl3)] [] []
noncomputable def lc52_3 : Code := (loopsOf (bodyOf Try.f52)).getD 0 .skip
def q52_3 (f : V52_3 → Option (X52_3)) (v : V52_3) : Option (X52_3) :=
  bif (decide (v.fst.snd.snd.fst < (↑(List.length v.fst.fst) : Int))) then
    bif (decide (v.fst.snd.snd.fst < 4000)) then
      bif (decide (0 ≤ v.fst.snd.snd.fst) && decide (v.fst.snd.snd.fst < (↑(List.length v.fst.fst) : Int))) then
        let v0 := (IntKind.wrap IntKind.i64 (v.fst.snd.fst * 131))
        let v1 := (List.getD v.fst.fst (Int.toNat v.fst.snd.snd.fst) (zero (Ty.int IntKind.u8)))
        let v2 := (IntKind.wrap IntKind.i64 v1)
        let v3 := (IntKind.wrap IntKind.i64 (v0 + v2))
        let v4 := (IntKind.wrap IntKind.i64 (v3 + 7))
        let v5 := (IntKind.wrap IntKind.i64 (v.fst.snd.snd.fst + 1))
        f (((v.fst.1), ((ibits BinOp.and IntKind.i64 v4 1073741823), ((v5), ()))), ())
      else
        none
    else
      some (((v.fst.1), ((v.fst.snd.1), ())), ())
  else
    some (((v.fst.1), ((v.fst.snd.1), ())), ())
theorem evl52_3 (kl3 : V52_3 → Bool) (xl3 : V52_3 → X52_3) (f : V52_3 → Option (X52_3)) (v : V52_3) : EBk (Γ52 kl3 xl3) lc52_3 (roundK [0, 3, 4] [] 0 [0, 3] [] (atS sh52_3 f) (endX shX52_3)) (mkS sh52_3 v) = q52_3 f v := by kernel_rfl
def b52_3 (v : V52_3) : Nat := v.1.1.length + v.1.2.1.natAbs + v.1.2.2.1.natAbs + 1000
def l52_3 (v : V52_3) : Option (X52_3) := iter (q52_3) (b52_3 v) v
def kL52_3 (v : V52_3) : Bool := (l52_3 v).isSome
def xL52_3 (v : V52_3) : X52_3 := (l52_3 v).getD (([], (0, ())), ())
def r52 (kl3 : V52_3 → Bool) (xl3 : V52_3 → X52_3) (x : I52.den) : Option (O52.den) :=
  let v0 := (IntKind.wrap IntKind.i64 (33211 + (↑(List.length x.fst.fst) : Int)))
  let v1 := (kl3 ((x.fst.fst, v0, 0, ()), ()))
  bif (v1) then
    let v2 := (xl3 ((x.fst.fst, v0, 0, ()), ()))
    some (((), ()), (((v2.fst.1), ((0), ((v2.fst.snd.1), ()))), ()))
  else
    none
theorem ev52 (kl3 : V52_3 → Bool) (xl3 : V52_3 → X52_3) (x : I52.den) : callS (Γ52 kl3 xl3) (bodyOf Try.f52) I52 O52 x = r52 kl3 xl3 x := by kernel_rfl
def F52 (x : I52.den) : Option (O52.den) := r52 kL52_3 xL52_3 x
def K52 (x : I52.den) : Bool := (F52 x).isSome
def G52 (x : I52.den) : O52.den := (F52 x).getD (zeroSg O52)
theorem env52 : EnvOK Try.prog (Γ52 kL52_3 xL52_3) := env_ok mixed tab_ok eqs_ok .nil
theorem is52 : FnIs Try.prog 52 (Γ52 kL52_3 xL52_3) (bodyOf Try.f52) := fnIs Try.func52 rfl rfl rfl (by kernel_rfl) (loops_ok (l := [lc52_3]) (by kernel_rfl) (.cons (one_loop rfl (loopX_sound (sh := sh52_3) (shX := shX52_3) (fun f v => evl52_3 kL52_3 xL52_3 f v) b52_3 (([], (0, ())), ()))) (.nil)))
theorem sem52 : SemOK Try.prog (52, sgMean false I52 O52 K52 G52) := sg_opt env52 is52 false fun x => ev52 kL52_3 xL52_3 x

/- "loop.example/g03321/spec.l01Byte" mode S true -/
abbrev I91 : Sg := ⟨[.ptr 0], [.box (S110)]⟩
abbrev O91 : Sg := ⟨[.val (.int .i64)], [.box (S110)]⟩
noncomputable def Γ91 : Env := mkEnv tab eqs [] 58 [.tmp 2] [] [] [] [] []
def r91 (x : I91.den) : Option (O91.den) :=
  bif (decide (x.snd.fst.snd.fst < (↑(List.length x.snd.fst.fst) : Int))) then
    bif (decide (0 ≤ x.snd.fst.snd.fst) && decide (x.snd.fst.snd.fst < (↑(List.length x.snd.fst.fst) : Int))) then
      let v0 := (IntKind.wrap IntKind.i64 (x.snd.fst.snd.snd.fst * 6364136223846793005))
      let v1 := (IntKind.wrap IntKind.i64 (v0 + 1442695040888963407))
      let v2 := (List.getD x.snd.fst.fst (Int.toNat x.snd.fst.snd.fst) (zero (Ty.int IntKind.u8)))
      let v3 := (IntKind.wrap IntKind.i64 v2)
      let v4 := (IntKind.wrap IntKind.i64 (ibits BinOp.and IntKind.i64 (ibits BinOp.xor IntKind.i64 (Int.fdiv v1 (2 ^ min (Int.toNat 33) (IntKind.bits IntKind.i64))) (Int.fdiv v1 (2 ^ min (Int.toNat 45) (IntKind.bits IntKind.i64)))) 255 + v3))
      let v5 := (IntKind.wrap IntKind.i64 (x.snd.fst.snd.fst + 1))
      some (((ibits BinOp.and IntKind.i64 v4 255), ()), (((x.snd.fst.1), ((v5), ((v1), ()))), ()))
    else
      none
  else
    let v0 := (IntKind.wrap IntKind.i64 (x.snd.fst.snd.snd.fst * 6364136223846793005))
    let v1 := (IntKind.wrap IntKind.i64 (v0 + 1442695040888963407))
    some (((ibits BinOp.and IntKind.i64 (ibits BinOp.xor IntKind.i64 (Int.fdiv v1 (2 ^ min (Int.toNat 33) (IntKind.bits IntKind.i64))) (Int.fdiv v1 (2 ^ min (Int.toNat 45) (IntKind.bits IntKind.i64)))) 255), ()), (((x.snd.fst.1), ((x.snd.fst.snd.1), ((v1), ()))), ()))
theorem ev91 (x : I91.den) : callS (Γ91) (bodyOf Try.f91) I91 O91 x = r91 x := by kernel_rfl
def F91 (x : I91.den) : Option (O91.den) := r91 x
def K91 (x : I91.den) : Bool := (F91 x).isSome
def G91 (x : I91.den) : O91.den := (F91 x).getD (zeroSg O91)
theorem env91 : EnvOK Try.prog (Γ91) := env_ok mixed tab_ok eqs_ok .nil
theorem is91 : FnIs Try.prog 91 (Γ91) (bodyOf Try.f91) := fnIs Try.func91 rfl rfl rfl (by kernel_rfl) (noLoops (by kernel_rfl))
theorem sem91 : SemOK Try.prog (91, sgMean true I91 O91 K91 G91) := sg_opt env91 is91 true fun x => ev91 x

/- "loop.example/g03321/spec.l01Below" mode S true -/
abbrev I73 : Sg := ⟨[.ptr 0, .val (.int .i64)], [.box (S110)]⟩
abbrev O73 : Sg := ⟨[.val (.int .i64)], [.box (S110)]⟩
noncomputable def Γ73 (k91 : I91.den → Bool) (g91 : I91.den → O91.den) : Env := mkEnv tab eqs [(91, sgMean true I91 O91 k91 g91)] 37 [.tmp 4] [] [] [] [] []
def r73 (k91 : I91.den → Bool) (g91 : I91.den → O91.den) (x : I73.den) : Option (O73.den) :=
  bif (decide (x.fst.snd.fst ≤ 0)) then
    some (((0), ()), (((x.snd.fst.1), ((x.snd.fst.snd.1), ((x.snd.fst.snd.snd.1), ()))), ()))
  else
    bif (decide (x.fst.snd.fst ≤ 256)) then
      let v0 := (k91 (((), ()), x.snd))
      bif (v0) then
        bif (x.fst.snd.fst != 0) then
          let v1 := (g91 (((), ()), x.snd))
          some (((Int.tmod v1.fst.fst x.fst.snd.fst), ()), (((v1.snd.fst.1), ((v1.snd.fst.snd.1), ((v1.snd.fst.snd.snd.1), ()))), ()))
        else
          none
      else
        none
    else
      let v0 := (k91 (((), ()), x.snd))
      bif (v0) then
        let v1 := (g91 (((), ()), x.snd))
        let v2 := (k91 (((), ()), v1.snd))
        bif (v2) then
          let v3 := (g91 (((), ()), v1.snd))
          let v4 := (k91 (((), ()), v3.snd))
          bif (v4) then
            let v5 := (g91 (((), ()), v3.snd))
            let v6 := (k91 (((), ()), v5.snd))
            bif (v6) then
              bif (x.fst.snd.fst != 0) then
                let v7 := (IntKind.wrap IntKind.i64 (v1.fst.fst * 16777216))
                let v8 := (IntKind.wrap IntKind.i64 (v3.fst.fst * 65536))
                let v9 := (IntKind.wrap IntKind.i64 (v7 + v8))
                let v10 := (IntKind.wrap IntKind.i64 (v5.fst.fst * 256))
                let v11 := (IntKind.wrap IntKind.i64 (v9 + v10))
                let v12 := (g91 (((), ()), v5.snd))
                let v13 := (IntKind.wrap IntKind.i64 (v11 + v12.fst.fst))
                some (((Int.tmod v13 x.fst.snd.fst), ()), (((v12.snd.fst.1), ((v12.snd.fst.snd.1), ((v12.snd.fst.snd.snd.1), ()))), ()))
              else
                none
            else
              none
          else
            none
        else
          none
      else
        none
theorem ev73 (k91 : I91.den → Bool) (g91 : I91.den → O91.den) (x : I73.den) : callS (Γ73 k91 g91) (bodyOf Try.f73) I73 O73 x = r73 k91 g91 x := by kernel_rfl
def F73 (x : I73.den) : Option (O73.den) := r73 K91 G91 x
def K73 (x : I73.den) : Bool := (F73 x).isSome
def G73 (x : I73.den) : O73.den := (F73 x).getD (zeroSg O73)
theorem env73 : EnvOK Try.prog (Γ73 K91 G91) := env_ok mixed tab_ok eqs_ok (.cons sem91 .nil)
theorem is73 : FnIs Try.prog 73 (Γ73 K91 G91) (bodyOf Try.f73) := fnIs Try.func73 rfl rfl rfl (by kernel_rfl) (noLoops (by kernel_rfl))
theorem sem73 : SemOK Try.prog (73, sgMean true I73 O73 K73 G73) := sg_opt env73 is73 true fun x => ev73 K91 G91 x

/- "loop.example/g03321/spec.l01Once" mode S true -/
abbrev I54 : Sg := ⟨[.ptr 0, .val (.int .i64)], [.box (S110)]⟩
abbrev O54 : Sg := ⟨[.val (.bool)], [.box (S110)]⟩
noncomputable def Γ54 (k73 : I73.den → Bool) (g73 : I73.den → O73.den) : Env := mkEnv tab eqs [(73, sgMean true I73 O73 k73 g73)] 9 [.tmp 4] [] [] [] [] []
def r54 (k73 : I73.den → Bool) (g73 : I73.den → O73.den) (x : I54.den) : Option (O54.den) :=
  let v0 := (k73 (((), x.fst.snd), x.snd))
  bif (v0) then
    let v1 := (g73 (((), x.fst.snd), x.snd))
    some (((v1.fst.fst == 0), ()), (((v1.snd.fst.1), ((v1.snd.fst.snd.1), ((v1.snd.fst.snd.snd.1), ()))), ()))
  else
    none
theorem ev54 (k73 : I73.den → Bool) (g73 : I73.den → O73.den) (x : I54.den) : callS (Γ54 k73 g73) (bodyOf Try.f54) I54 O54 x = r54 k73 g73 x := by kernel_rfl
def F54 (x : I54.den) : Option (O54.den) := r54 K73 G73 x
def K54 (x : I54.den) : Bool := (F54 x).isSome
def G54 (x : I54.den) : O54.den := (F54 x).getD (zeroSg O54)
theorem env54 : EnvOK Try.prog (Γ54 K73 G73) := env_ok mixed tab_ok eqs_ok (.cons sem73 .nil)
theorem is54 : FnIs Try.prog 54 (Γ54 K73 G73) (bodyOf Try.f54) := fnIs Try.func54 rfl rfl rfl (by kernel_rfl) (noLoops (by kernel_rfl))
theorem sem54 : SemOK Try.prog (54, sgMean true I54 O54 K54 G54) := sg_opt env54 is54 true fun x => ev54 K73 G73 x

/- "loop.example/g03321/spec.l01PickInt" mode S true -/
abbrev I85 : Sg := ⟨[.ptr 0, .own (.int .i64) 1], [.box (S110), .arr (.int .i64)]⟩
abbrev O85 : Sg := ⟨[.val (.int .i64)], [.box (S110), .arr (.int .i64)]⟩
noncomputable def Γ85 (k73 : I73.den → Bool) (g73 : I73.den → O73.den) : Env := mkEnv tab eqs [(73, sgMean true I73 O73 k73 g73)] 12 [.tmp 4] [] [] [] [] []
def r85 (k73 : I73.den → Bool) (g73 : I73.den → O73.den) (x : I85.den) : Option (O85.den) :=
  let v0 := (k73 (((), (↑(List.length x.snd.snd.fst) : Int), ()), x.snd.fst, ()))
  bif (v0) then
    let v1 := (g73 (((), (↑(List.length x.snd.snd.fst) : Int), ()), x.snd.fst, ()))
    bif (decide (0 ≤ v1.fst.fst) && decide (v1.fst.fst < (↑(List.length x.snd.snd.fst) : Int))) then
      let v2 := (List.getD x.snd.snd.fst (Int.toNat v1.fst.fst) (zero (Ty.int IntKind.i64)))
      some (((v2), ()), (((v1.snd.fst.1), ((v1.snd.fst.snd.1), ((v1.snd.fst.snd.snd.1), ()))), ((x.snd.snd.1), ())))
    else
      none
  else
    none
theorem ev85 (k73 : I73.den → Bool) (g73 : I73.den → O73.den) (x : I85.den) : callS (Γ85 k73 g73) (bodyOf Try.f85) I85 O85 x = r85 k73 g73 x := by kernel_rfl
def F85 (x : I85.den) : Option (O85.den) := r85 K73 G73 x
def K85 (x : I85.den) : Bool := (F85 x).isSome
def G85 (x : I85.den) : O85.den := (F85 x).getD (zeroSg O85)
theorem env85 : EnvOK Try.prog (Γ85 K73 G73) := env_ok mixed tab_ok eqs_ok (.cons sem73 .nil)
theorem is85 : FnIs Try.prog 85 (Γ85 K73 G73) (bodyOf Try.f85) := fnIs Try.func85 rfl rfl rfl (by kernel_rfl) (noLoops (by kernel_rfl))
theorem sem85 : SemOK Try.prog (85, sgMean true I85 O85 K85 G85) := sg_opt env85 is85 true fun x => ev85 K73 G73 x

/- "loop.example/g03321/spec.l09Place" mode S true -/
abbrev I53 : Sg := ⟨[.ptr 0], [.box (S110)]⟩
abbrev O53 : Sg := ⟨[.val (S22)], [.box (S110)]⟩
noncomputable def Γ53 (k54 : I54.den → Bool) (g54 : I54.den → O54.den) (k85 : I85.den → Bool) (g85 : I85.den → O85.den) (k73 : I73.den → Bool) (g73 : I73.den → O73.den) : Env := mkEnv tab eqs [(54, sgMean true I54 O54 k54 g54), (85, sgMean true I85 O85 k85 g85), (73, sgMean true I73 O73 k73 g73)] 35 [.cell 2 25] [] [] [] [] []
def r53 (k54 : I54.den → Bool) (g54 : I54.den → O54.den) (k85 : I85.den → Bool) (g85 : I85.den → O85.den) (k73 : I73.den → Bool) (g73 : I73.den → O73.den) (x : I53.den) : Option (O53.den) :=
  let v0 := (k54 (((), 40, ()), x.snd))
  bif (v0) then
    let v1 := (g54 (((), 40, ()), x.snd))
    bif (v1.fst.1) then
      let v2 := (List.set (List.replicate 4 (zero (Ty.int IntKind.i64))) 0 10000)
      let v3 := (List.set v2 1 (-10000))
      let v4 := (List.set v3 2 10001)
      let v5 := (List.set v4 3 9223372036854775807)
      let v6 := (k85 (((), (), ()), v1.snd.fst, v5, ()))
      bif (v6) then
        let v7 := (g85 (((), (), ()), v1.snd.fst, v5, ()))
        let v8 := (List.set (List.replicate 3 (zero (Ty.int IntKind.i64))) 0 10000)
        let v9 := (List.set v8 1 0)
        let v10 := (List.set v9 2 (-10001))
        let v11 := (k85 (((), (), ()), v7.snd.fst, v10, ()))
        bif (v11) then
          let v12 := (g85 (((), (), ()), v7.snd.fst, v10, ()))
          some ((((v7.fst.1), ((v12.fst.1), ())), ()), (((v12.snd.fst.1), ((v12.snd.fst.snd.1), ((v12.snd.fst.snd.snd.1), ()))), ()))
        else
          none
      else
        none
    else
      let v2 := (List.set (List.replicate 3 (zero (Ty.int IntKind.i64))) 0 4)
      let v3 := (List.set v2 1 20)
      let v4 := (List.set v3 2 400)
      let v5 := (k85 (((), (), ()), v1.snd.fst, v4, ()))
      bif (v5) then
        let v6 := (g85 (((), (), ()), v1.snd.fst, v4, ()))
        let v7 := (IntKind.wrap IntKind.i64 (2 * v6.fst.fst))
        let v8 := (IntKind.wrap IntKind.i64 (v7 + 1))
        let v9 := (k73 (((), v8, ()), v6.snd.fst, ()))
        bif (v9) then
          let v10 := (g73 (((), v8, ()), v6.snd.fst, ()))
          let v11 := (k73 (((), v8, ()), v10.snd))
          bif (v11) then
            let v12 := (IntKind.wrap IntKind.i64 (v10.fst.fst - v6.fst.fst))
            let v13 := (g73 (((), v8, ()), v10.snd))
            let v14 := (IntKind.wrap IntKind.i64 (v13.fst.fst - v6.fst.fst))
            some ((((v12), ((v14), ())), ()), (((v13.snd.fst.1), ((v13.snd.fst.snd.1), ((v13.snd.fst.snd.snd.1), ()))), ()))
          else
            none
        else
          none
      else
        none
  else
    none
theorem ev53 (k54 : I54.den → Bool) (g54 : I54.den → O54.den) (k85 : I85.den → Bool) (g85 : I85.den → O85.den) (k73 : I73.den → Bool) (g73 : I73.den → O73.den) (x : I53.den) : callS (Γ53 k54 g54 k85 g85 k73 g73) (bodyOf Try.f53) I53 O53 x = r53 k54 g54 k85 g85 k73 g73 x := by kernel_rfl
def F53 (x : I53.den) : Option (O53.den) := r53 K54 G54 K85 G85 K73 G73 x
def K53 (x : I53.den) : Bool := (F53 x).isSome
def G53 (x : I53.den) : O53.den := (F53 x).getD (zeroSg O53)
theorem env53 : EnvOK Try.prog (Γ53 K54 G54 K85 G85 K73 G73) := env_ok mixed tab_ok eqs_ok (.cons sem54 (.cons sem85 (.cons sem73 .nil)))
theorem is53 : FnIs Try.prog 53 (Γ53 K54 G54 K85 G85 K73 G73) (bodyOf Try.f53) := fnIs Try.func53 rfl rfl rfl (by kernel_rfl) (noLoops (by kernel_rfl))
theorem sem53 : SemOK Try.prog (53, sgMean true I53 O53 K53 G53) := sg_opt env53 is53 true fun x => ev53 K54 G54 K85 G85 K73 G73 x

/- "loop.example/g03321/spec.DrawPassRay" -/
abbrev A17 : Ty := .cons (.slice (.int .u8)) (.nil)
abbrev R17 : Ty := .cons (S22) (.cons (S22) (.cons (S22) (.cons (S22) (.nil))))
noncomputable def Γ17 (k52 : I52.den → Bool) (g52 : I52.den → O52.den) (k53 : I53.den → Bool) (g53 : I53.den → O53.den) (k54 : I54.den → Bool) (g54 : I54.den → O54.den) : Env := mkEnv tab eqs [(52, sgMean false I52 O52 k52 g52), (53, sgMean true I53 O53 k53 g53), (54, sgMean true I54 O54 k54 g54)] 26 [.cell 2 25, .cell 3 25, .cell 4 25, .cell 5 25] [] [] [] [] []
def r17 (k52 : I52.den → Bool) (g52 : I52.den → O52.den) (k53 : I53.den → Bool) (g53 : I53.den → O53.den) (k54 : I54.den → Bool) (g54 : I54.den → O54.den) (x : Den A17) : Option (Den R17) :=
  let v0 := (k52 (x, ()))
  bif (v0) then
    let v1 := (g52 (x, ()))
    let v2 := (k53 (((), ()), v1.snd))
    bif (v2) then
      let v3 := (g53 (((), ()), v1.snd))
      let v4 := (k53 (((), ()), v3.snd))
      bif (v4) then
        let v5 := (g53 (((), ()), v3.snd))
        let v6 := (k54 (((), 4, ()), v5.snd))
        bif (v6) then
          let v7 := (g54 (((), 4, ()), v5.snd))
          bif (v7.fst.1) then
            let v8 := (k53 (((), ()), v7.snd))
            bif (v8) then
              let v9 := (g53 (((), ()), v7.snd))
              let v10 := (k53 (((), ()), v9.snd))
              bif (v10) then
                let v11 := (g53 (((), ()), v9.snd))
                some (((v3.fst.fst.1), ((v3.fst.fst.snd.1), ())), (((v3.fst.fst.1), ((v3.fst.fst.snd.1), ())), (((v9.fst.fst.1), ((v9.fst.fst.snd.1), ())), (((v11.fst.fst.1), ((v11.fst.fst.snd.1), ())), ()))))
              else
                none
            else
              none
          else
            let v8 := (k53 (((), ()), v7.snd))
            bif (v8) then
              let v9 := (g53 (((), ()), v7.snd))
              let v10 := (k53 (((), ()), v9.snd))
              bif (v10) then
                let v11 := (g53 (((), ()), v9.snd))
                some (((v3.fst.fst.1), ((v3.fst.fst.snd.1), ())), (((v5.fst.fst.1), ((v5.fst.fst.snd.1), ())), (((v9.fst.fst.1), ((v9.fst.fst.snd.1), ())), (((v11.fst.fst.1), ((v11.fst.fst.snd.1), ())), ()))))
              else
                none
            else
              none
        else
          none
      else
        none
    else
      none
  else
    none
theorem ev17 (k52 : I52.den → Bool) (g52 : I52.den → O52.den) (k53 : I53.den → Bool) (g53 : I53.den → O53.den) (k54 : I54.den → Bool) (g54 : I54.den → O54.den) (x : Den A17) : callK (Γ17 k52 g52 k53 g53 k54 g54) (bodyOf Try.f17) (decR R17) (encA A17 x) [] = r17 k52 g52 k53 g53 k54 g54 x := by kernel_rfl
def F17 (x : Den A17) : Option (Den R17) := r17 K52 G52 K53 G53 K54 G54 x
def K17 (x : Den A17) : Bool := (F17 x).isSome
def G17 (x : Den A17) : Den R17 := (F17 x).getD (zero R17)
theorem env17 : EnvOK Try.prog (Γ17 K52 G52 K53 G53 K54 G54) := env_ok mixed tab_ok eqs_ok (.cons sem52 (.cons sem53 (.cons sem54 .nil)))
theorem is17 : FnIs Try.prog 17 (Γ17 K52 G52 K53 G53 K54 G54) (bodyOf Try.f17) := fnIs Try.func17 rfl rfl rfl (by kernel_rfl) (noLoops (by kernel_rfl))
theorem sem17 : SemOK Try.prog (17, fnMean A17 R17 K17 G17) := fn_opt env17 is17 fun x => ev17 K52 G52 K53 G53 K54 G54 x

/- "loop.example/g03321/laws.middle" -/
abbrev A19 : Ty := .cons (S22) (.cons (S22) (.nil))
abbrev R19 : Ty := .cons (S22) (.cons (S22) (.nil))
noncomputable def Γ19 : Env := mkEnv tab eqs [] 40 [.cell 4 25, .cell 5 25] [] [] [] [] []
def r19 (x : Den A19) : Option (Den R19) :=
  let v0 := (IntKind.wrap IntKind.i64 (x.snd.fst.fst - x.fst.fst))
  let v1 := (IntKind.wrap IntKind.i64 (Int.tdiv v0 2))
  let v2 := (IntKind.wrap IntKind.i64 (x.fst.fst + v1))
  let v3 := (IntKind.wrap IntKind.i64 (x.snd.fst.snd.fst - x.fst.snd.fst))
  let v4 := (IntKind.wrap IntKind.i64 (Int.tdiv v3 2))
  let v5 := (IntKind.wrap IntKind.i64 (x.fst.snd.fst + v4))
  let v6 := (IntKind.wrap IntKind.i64 (2 * v1))
  let v7 := (IntKind.wrap IntKind.i64 (x.fst.fst + v6))
  let v8 := (IntKind.wrap IntKind.i64 (2 * v4))
  let v9 := (IntKind.wrap IntKind.i64 (x.fst.snd.fst + v8))
  some (((v2), ((v5), ())), (((v7), ((v9), ())), ()))
theorem ev19 (x : Den A19) : callK (Γ19) (bodyOf Try.f19) (decR R19) (encA A19 x) [] = r19 x := by kernel_rfl
def F19 (x : Den A19) : Option (Den R19) := r19 x
def K19 (x : Den A19) : Bool := (F19 x).isSome
def G19 (x : Den A19) : Den R19 := (F19 x).getD (zero R19)
theorem env19 : EnvOK Try.prog (Γ19) := env_ok mixed tab_ok eqs_ok .nil
theorem is19 : FnIs Try.prog 19 (Γ19) (bodyOf Try.f19) := fnIs Try.func19 rfl rfl rfl (by kernel_rfl) (noLoops (by kernel_rfl))
theorem sem19 : SemOK Try.prog (19, fnMean A19 R19 K19 G19) := fn_opt env19 is19 fun x => ev19 x

/- "loop.example/g03321/laws.FnRayCut" -/
abbrev A4 : Ty := .cons (.slice (.int .u8)) (.nil)
abbrev R4 : Ty := .cons (.bool) (.nil)
noncomputable def Γ4 (k16 : Den A16 → Bool) (g16 : Den A16 → Den R16) (k17 : Den A17 → Bool) (g17 : Den A17 → Den R17) (k18 : Den A18 → Bool) (g18 : Den A18 → Den R18) (k15 : Den A15 → Bool) (g15 : Den A15 → Den R15) (k19 : Den A19 → Bool) (g19 : Den A19 → Den R19) (k13 : Den A13 → Bool) (g13 : Den A13 → Den R13) : Env := mkEnv tab eqs [(16, fnMean A16 R16 k16 g16), (17, fnMean A17 R17 k17 g17), (18, fnMean A18 R18 k18 g18), (15, fnMean A15 R15 k15 g15), (19, fnMean A19 R19 k19 g19), (13, fnMean A13 R13 k13 g13)] 68 [.tmp 2] [] [] [] [] []
def r4 (k16 : Den A16 → Bool) (g16 : Den A16 → Den R16) (k17 : Den A17 → Bool) (g17 : Den A17 → Den R17) (k18 : Den A18 → Bool) (g18 : Den A18 → Den R18) (k15 : Den A15 → Bool) (g15 : Den A15 → Den R15) (k19 : Den A19 → Bool) (g19 : Den A19 → Den R19) (k13 : Den A13 → Bool) (g13 : Den A13 → Den R13) (x : Den A4) : Option (Den R4) :=
  let v0 := (k16 x)
  bif (v0) then
    let v1 := (g16 x)
    bif (v1.1) then
      some ((true), ())
    else
      let v2 := (k17 x)
      bif (v2) then
        let v3 := (g17 x)
        let v4 := (k18 (v3.snd.snd.fst, ()))
        bif (v4) then
          let v5 := (g18 (v3.snd.snd.fst, ()))
          bif (!v5.fst) then
            let v6 := (k15 v3)
            bif (v6) then
              let v7 := (g15 v3)
              some ((v7.fst == 0), ())
            else
              none
          else
            let v6 := (k18 v3.snd.snd.snd)
            bif (v6) then
              let v7 := (g18 v3.snd.snd.snd)
              bif (!v7.fst) then
                let v8 := (k15 v3)
                bif (v8) then
                  let v9 := (g15 v3)
                  some ((v9.fst == 0), ())
                else
                  none
              else
                let v8 := (k19 v3.snd.snd)
                bif (v8) then
                  let v9 := (g19 v3.snd.snd)
                  let v10 := (k15 (v3.fst, v3.snd.fst, v3.snd.snd.fst, v9.snd))
                  bif (v10) then
                    let v11 := (k13 (v3.fst, v3.snd.fst, v3.snd.snd.fst, v9.snd))
                    bif (v11) then
                      let v12 := (g15 (v3.fst, v3.snd.fst, v3.snd.snd.fst, v9.snd))
                      let v13 := (g13 (v3.fst, v3.snd.fst, v3.snd.snd.fst, v9.snd))
                      bif (v12.fst == v13.fst) then
                        bif (v10) then
                          let v14 := (k15 (v3.fst, v3.snd.fst, v3.snd.snd.fst, v9.fst, ()))
                          bif (v14) then
                            let v15 := (k15 (v3.fst, v3.snd.fst, v9))
                            bif (v15) then
                              let v16 := (g15 (v3.fst, v3.snd.fst, v3.snd.snd.fst, v9.fst, ()))
                              let v17 := (g15 (v3.fst, v3.snd.fst, v9))
                              let v18 := (IntKind.wrap IntKind.i64 (v16.fst + v17.fst))
                              some ((v12.fst == v18), ())
                            else
                              none
                          else
                            none
                        else
                          none
                      else
                        some ((false), ())
                    else
                      none
                  else
                    none
                else
                  none
            else
              none
        else
          none
      else
        none
  else
    none
theorem ev4 (k16 : Den A16 → Bool) (g16 : Den A16 → Den R16) (k17 : Den A17 → Bool) (g17 : Den A17 → Den R17) (k18 : Den A18 → Bool) (g18 : Den A18 → Den R18) (k15 : Den A15 → Bool) (g15 : Den A15 → Den R15) (k19 : Den A19 → Bool) (g19 : Den A19 → Den R19) (k13 : Den A13 → Bool) (g13 : Den A13 → Den R13) (x : Den A4) : callK (Γ4 k16 g16 k17 g17 k18 g18 k15 g15 k19 g19 k13 g13) (bodyOf Try.f4) (decR R4) (encA A4 x) [] = r4 k16 g16 k17 g17 k18 g18 k15 g15 k19 g19 k13 g13 x := by kernel_rfl
def F4 (x : Den A4) : Option (Den R4) := r4 K16 G16 K17 G17 K18 G18 K15 G15 K19 G19 K13 G13 x
def K4 (x : Den A4) : Bool := (F4 x).isSome
def G4 (x : Den A4) : Den R4 := (F4 x).getD (zero R4)
theorem env4 : EnvOK Try.prog (Γ4 K16 G16 K17 G17 K18 G18 K15 G15 K19 G19 K13 G13) := env_ok mixed tab_ok eqs_ok (.cons sem16 (.cons sem17 (.cons sem18 (.cons sem15 (.cons sem19 (.cons sem13 .nil))))))
theorem is4 : FnIs Try.prog 4 (Γ4 K16 G16 K17 G17 K18 G18 K15 G15 K19 G19 K13 G13) (bodyOf Try.f4) := fnIs Try.func4 rfl rfl rfl (by kernel_rfl) (noLoops (by kernel_rfl))
theorem sem4 : SemOK Try.prog (4, fnMean A4 R4 K4 G4) := fn_opt env4 is4 fun x => ev4 K16 G16 K17 G17 K18 G18 K15 G15 K19 G19 K13 G13 x

/- "loop.example/g03321/spec.l10Near" mode S true -/
abbrev I89 : Sg := ⟨[.ptr 0, .val (S22), .val (.int .i64)], [.box (S110)]⟩
abbrev O89 : Sg := ⟨[.val (S22)], [.box (S110)]⟩
noncomputable def Γ89 (k73 : I73.den → Bool) (g73 : I73.den → O73.den) : Env := mkEnv tab eqs [(73, sgMean true I73 O73 k73 g73)] 30 [.cell 6 25] [] [] [] [] []
def r89 (k73 : I73.den → Bool) (g73 : I73.den → O73.den) (x : I89.den) : Option (O89.den) :=
  let v0 := (IntKind.wrap IntKind.i64 (2 * x.fst.snd.snd.fst))
  let v1 := (IntKind.wrap IntKind.i64 (v0 + 1))
  let v2 := (k73 (((), v1, ()), x.snd))
  bif (v2) then
    let v3 := (g73 (((), v1, ()), x.snd))
    let v4 := (k73 (((), v1, ()), v3.snd))
    bif (v4) then
      let v5 := (IntKind.wrap IntKind.i64 (x.fst.snd.fst.fst + v3.fst.fst))
      let v6 := (IntKind.wrap IntKind.i64 (v5 - x.fst.snd.snd.fst))
      let v7 := (g73 (((), v1, ()), v3.snd))
      let v8 := (IntKind.wrap IntKind.i64 (x.fst.snd.fst.snd.fst + v7.fst.fst))
      let v9 := (IntKind.wrap IntKind.i64 (v8 - x.fst.snd.snd.fst))
      some ((((v6), ((v9), ())), ()), (((v7.snd.fst.1), ((v7.snd.fst.snd.1), ((v7.snd.fst.snd.snd.1), ()))), ()))
    else
      none
  else
    none
theorem ev89 (k73 : I73.den → Bool) (g73 : I73.den → O73.den) (x : I89.den) : callS (Γ89 k73 g73) (bodyOf Try.f89) I89 O89 x = r89 k73 g73 x := by kernel_rfl
def F89 (x : I89.den) : Option (O89.den) := r89 K73 G73 x
def K89 (x : I89.den) : Bool := (F89 x).isSome
def G89 (x : I89.den) : O89.den := (F89 x).getD (zeroSg O89)
theorem env89 : EnvOK Try.prog (Γ89 K73 G73) := env_ok mixed tab_ok eqs_ok (.cons sem73 .nil)
theorem is89 : FnIs Try.prog 89 (Γ89 K73 G73) (bodyOf Try.f89) := fnIs Try.func89 rfl rfl rfl (by kernel_rfl) (noLoops (by kernel_rfl))
theorem sem89 : SemOK Try.prog (89, sgMean true I89 O89 K89 G89) := sg_opt env89 is89 true fun x => ev89 K73 G73 x

/- "loop.example/g03321/spec.l09Line" mode S true -/
abbrev I71 : Sg := ⟨[.ptr 0], [.box (S110)]⟩
abbrev O71 : Sg := ⟨[.val (S42)], [.box (S110)]⟩
noncomputable def Γ71 (k53 : I53.den → Bool) (g53 : I53.den → O53.den) : Env := mkEnv tab eqs [(53, sgMean true I53 O53 k53 g53)] 10 [.cell 2 43] [] [] [] [] []
def r71 (k53 : I53.den → Bool) (g53 : I53.den → O53.den) (x : I71.den) : Option (O71.den) :=
  let v0 := (k53 (((), ()), x.snd))
  bif (v0) then
    let v1 := (g53 (((), ()), x.snd))
    let v2 := (k53 (((), ()), v1.snd))
    bif (v2) then
      let v3 := (g53 (((), ()), v1.snd))
      some (((((v1.fst.fst.1), ((v1.fst.fst.snd.1), ())), (((v3.fst.fst.1), ((v3.fst.fst.snd.1), ())), ())), ()), (((v3.snd.fst.1), ((v3.snd.fst.snd.1), ((v3.snd.fst.snd.snd.1), ()))), ()))
    else
      none
  else
    none
theorem ev71 (k53 : I53.den → Bool) (g53 : I53.den → O53.den) (x : I71.den) : callS (Γ71 k53 g53) (bodyOf Try.f71) I71 O71 x = r71 k53 g53 x := by kernel_rfl
def F71 (x : I71.den) : Option (O71.den) := r71 K53 G53 x
def K71 (x : I71.den) : Bool := (F71 x).isSome
def G71 (x : I71.den) : O71.den := (F71 x).getD (zeroSg O71)
theorem env71 : EnvOK Try.prog (Γ71 K53 G53) := env_ok mixed tab_ok eqs_ok (.cons sem53 .nil)
theorem is71 : FnIs Try.prog 71 (Γ71 K53 G53) (bodyOf Try.f71) := fnIs Try.func71 rfl rfl rfl (by kernel_rfl) (noLoops (by kernel_rfl))
theorem sem71 : SemOK Try.prog (71, sgMean true I71 O71 K71 G71) := sg_opt env71 is71 true fun x => ev71 K53 G53 x

/- "loop.example/g03321/spec.l10Course" mode S true -/
abbrev I66 : Sg := ⟨[.ptr 0], [.box (S110)]⟩
abbrev O66 : Sg := ⟨[.val (S45)], [.box (S110)]⟩
abbrev V66_3 : Type := ((Unit × (Unit × (Unit × (Int × Unit)))) × (((List (Den (.int .u8))) × (Int × (Int × Unit))) × ((Int × (Int × (Int × (Int × (Unit × (Int × (Int × (Int × (Int × Unit))))))))) × ((Int × (Int × (Int × (Int × (Unit × (Int × (Int × (Int × (Int × Unit))))))))) × ((List (Den (S82))) × Unit)))))
def sh66_3 : ShS := ⟨[(0, .one (.ptr 0 0)), (2, .one (.ptr 1 0)), (3, .one (.ptr 2 0)), (4, .one (.int .i64))], [(0, .box [.sl (.int .u8), .int .i64, .int .i64]), (1, .box [.int .i64, .int .i64, .int .i64, .int .i64, .nil (S82), .int .i64, .int .i64, .int .i64, .int .i64]), (2, .box [.int .i64, .int .i64, .int .i64, .int .i64, .ref (S82) 3, .int .i64, .int .i64, .int .i64, .int .i64]), (3, .arr (S82))], 4, 1⟩
abbrev X66_3 : Type := ((Unit × (Unit × (Unit × Unit))) × (((List (Den (.int .u8))) × (Int × (Int × Unit))) × ((Int × (Int × (Int × (Int × (Unit × (Int × (Int × (Int × (Int × Unit))))))))) × ((Int × (Int × (Int × (Int × (Unit × (Int × (Int × (Int × (Int × Unit))))))))) × ((List (Den (S82))) × Unit)))))
def shX66_3 : ShS := ⟨[(0, .one (.ptr 0 0)), (2, .one (.ptr 1 0)), (3, .one (.ptr 2 0))], [(0, .box [.sl (.int .u8), .int .i64, .int .i64]), (1, .box [.int .i64, .int .i64, .int .i64, .int .i64, .nil (S82), .int .i64, .int .i64, .int .i64, .int .i64]), (2, .box [.int .i64, .int .i64, .int .i64, .int .i64, .ref (S82) 3, .int .i64, .int .i64, .int .i64, .int .i64]), (3, .arr (S82))], 4, 1⟩
abbrev V66_18 : Type := ((Unit × (Unit × (Unit × Unit))) × (((List (Den (.int .u8))) × (Int × (Int × Unit))) × ((Int × (Int × (Int × (Int × (Unit × (Int × (Int × (Int × (Int × Unit))))))))) × ((Int × (Int × (Int × (Int × (Unit × (Int × (Int × (Int × (Int × Unit))))))))) × ((List (Den (S82))) × Unit)))))
def sh66_18 : ShS := ⟨[(0, .one (.ptr 0 0)), (2, .one (.ptr 1 0)), (3, .one (.ptr 2 0))], [(0, .box [.sl (.int .u8), .int .i64, .int .i64]), (1, .box [.int .i64, .int .i64, .int .i64, .int .i64, .nil (S82), .int .i64, .int .i64, .int .i64, .int .i64]), (2, .box [.int .i64, .int .i64, .int .i64, .int .i64, .ref (S82) 3, .int .i64, .int .i64, .int .i64, .int .i64]), (3, .arr (S82))], 4, 1⟩
abbrev X66_18 : Type := ((Unit × (Unit × Unit)) × (((List (Den (.int .u8))) × (Int × (Int × Unit))) × ((Int × (Int × (Int × (Int × (Unit × (Int × (Int × (Int × (Int × Unit))))))))) × ((Int × (Int × (Int × (Int × (Unit × (Int × (Int × (Int × (Int × Unit))))))))) × ((List (Den (S82))) × Unit)))))
def shX66_18 : ShS := ⟨[(2, .one (.ptr 1 0)), (3, .one (.ptr 2 0))], [(0, .box [.sl (.int .u8), .int .i64, .int .i64]), (1, .box [.int .i64, .int .i64, .int .i64, .int .i64, .nil (S82), .int .i64, .int .i64, .int .i64, .int .i64]), (2, .box [.int .i64, .int .i64, .int .i64, .int .i64, .ref (S82) 3, .int .i64, .int .i64, .int .i64, .int .i64]), (3, .arr (S82))], 4, 1⟩
noncomputable def Γ66 (k73 : I73.den → Bool) (g73 : I73.den → O73.den) (k89 : I89.den → Bool) (g89 : I89.den → O89.den) (k54 : I54.den → Bool) (g54 : I54.den → O54.den) (k71 : I71.den → Bool) (g71 : I71.den → O71.den) (kl3 : V66_3 → Bool) (xl3 : V66_3 → X66_3) (kl18 : V66_18 → Bool) (xl18 : V66_18 → X66_18) : Env := mkEnv tab eqs [(73, sgMean true I73 O73 k73 g73), (89, sgMean true I89 O89 k89 g89), (54, sgMean true I54 O54 k54 g54), (71, sgMean true I71 O71 k71 g71)] 92 [.cell 2 46] [] [] [(3, loopX [0, 2, 3, 4] [.boxNil 3 4] 0 [0, 2, 3] [] sh66_3 shX66_3 kl3 xl3), (18, loopX [0, 2, 3] [] 3 [2, 3] [] sh66_18 shX66_18 kl18 xl18)] [] [.frzBox 2]
noncomputable def lc66_3 : Code := (loopsOf (bodyOf Try.f66)).getD 0 .skip
noncomputable def lc66_18 : Code := (loopsOf (bodyOf Try.f66)).getD 1 .skip
def q66_18 (k73 : I73.den → Bool) (g73 : I73.den → O73.den) (k89 : I89.den → Bool) (g89 : I89.den → O89.den) (k54 : I54.den → Bool) (g54 : I54.den → O54.den) (k71 : I71.den → Bool) (g71 : I71.den → O71.den) (f : V66_18 → Option (X66_18)) (v : V66_18) : Option (X66_18) :=
  let v0 := (k73 (((), 2, ()), v.snd.fst, ()))
  bif (v0) then
    let v1 := (g73 (((), 2, ()), v.snd.fst, ()))
    let v2 := (IntKind.wrap IntKind.i64 (20 + v1.fst.fst))
    bif (decide ((↑(List.length v.snd.snd.snd.snd.fst) : Int) < v2)) then
      let v3 := (List.set (List.replicate 1 (zero S82)) 0 (((↑(List.length v.snd.snd.snd.snd.fst) : Int), 1000, ()), false, ()))
      bif (capOk (List.length v.snd.snd.snd.snd.fst + List.length v3)) then
        let v4 := (v.snd.snd.snd.snd.fst ++ v3)
        f (((), ((), ((), ()))), (((v1.snd.fst.1), ((v1.snd.fst.snd.1), ((v1.snd.fst.snd.snd.1), ()))), (((v.snd.snd.fst.1), ((v.snd.snd.fst.snd.1), ((v.snd.snd.fst.snd.snd.1), ((v.snd.snd.fst.snd.snd.snd.1), ((), ((v.snd.snd.fst.snd.snd.snd.snd.snd.1), ((v.snd.snd.fst.snd.snd.snd.snd.snd.snd.1), ((v.snd.snd.fst.snd.snd.snd.snd.snd.snd.snd.1), ((v.snd.snd.fst.snd.snd.snd.snd.snd.snd.snd.snd.1), ()))))))))), (((v.snd.snd.snd.fst.1), ((v.snd.snd.snd.fst.snd.1), ((v.snd.snd.snd.fst.snd.snd.1), ((v.snd.snd.snd.fst.snd.snd.snd.1), ((), ((v.snd.snd.snd.fst.snd.snd.snd.snd.snd.1), ((v.snd.snd.snd.fst.snd.snd.snd.snd.snd.snd.1), ((v.snd.snd.snd.fst.snd.snd.snd.snd.snd.snd.snd.1), ((v.snd.snd.snd.fst.snd.snd.snd.snd.snd.snd.snd.snd.1), ()))))))))), ((v4), ())))))
      else
        none
    else
      some (((), ((), ())), (((v1.snd.fst.1), ((v1.snd.fst.snd.1), ((v1.snd.fst.snd.snd.1), ()))), (((v.snd.snd.fst.1), ((v.snd.snd.fst.snd.1), ((v.snd.snd.fst.snd.snd.1), ((v.snd.snd.fst.snd.snd.snd.1), ((), ((v.snd.snd.fst.snd.snd.snd.snd.snd.1), ((v.snd.snd.fst.snd.snd.snd.snd.snd.snd.1), ((v.snd.snd.fst.snd.snd.snd.snd.snd.snd.snd.1), ((v.snd.snd.fst.snd.snd.snd.snd.snd.snd.snd.snd.1), ()))))))))), (((v.snd.snd.snd.fst.1), ((v.snd.snd.snd.fst.snd.1), ((v.snd.snd.snd.fst.snd.snd.1), ((v.snd.snd.snd.fst.snd.snd.snd.1), ((), ((v.snd.snd.snd.fst.snd.snd.snd.snd.snd.1), ((v.snd.snd.snd.fst.snd.snd.snd.snd.snd.snd.1), ((v.snd.snd.snd.fst.snd.snd.snd.snd.snd.snd.snd.1), ((v.snd.snd.snd.fst.snd.snd.snd.snd.snd.snd.snd.snd.1), ()))))))))), ((v.snd.snd.snd.snd.1), ())))))
  else
    none
theorem evl66_18 (k73 : I73.den → Bool) (g73 : I73.den → O73.den) (k89 : I89.den → Bool) (g89 : I89.den → O89.den) (k54 : I54.den → Bool) (g54 : I54.den → O54.den) (k71 : I71.den → Bool) (g71 : I71.den → O71.den) (kl3 : V66_3 → Bool) (xl3 : V66_3 → X66_3) (kl18 : V66_18 → Bool) (xl18 : V66_18 → X66_18) (f : V66_18 → Option (X66_18)) (v : V66_18) : EBk (Γ66 k73 g73 k89 g89 k54 g54 k71 g71 kl3 xl3 kl18 xl18) lc66_18 (roundK [0, 2, 3] [] 3 [2, 3] [] (atS sh66_18 f) (endX shX66_18)) (mkS sh66_18 v) = q66_18 k73 g73 k89 g89 k54 g54 k71 g71 f v := by kernel_rfl
def b66_18 (v : V66_18) : Nat := v.2.1.1.length + v.2.1.2.1.natAbs + v.2.1.2.2.1.natAbs + v.2.2.1.1.natAbs + v.2.2.1.2.1.natAbs + v.2.2.1.2.2.1.natAbs + v.2.2.1.2.2.2.1.natAbs + v.2.2.1.2.2.2.2.2.1.natAbs + v.2.2.1.2.2.2.2.2.2.1.natAbs + v.2.2.1.2.2.2.2.2.2.2.1.natAbs + v.2.2.1.2.2.2.2.2.2.2.2.1.natAbs + v.2.2.2.1.1.natAbs + v.2.2.2.1.2.1.natAbs + v.2.2.2.1.2.2.1.natAbs + v.2.2.2.1.2.2.2.1.natAbs + v.2.2.2.1.2.2.2.2.2.1.natAbs + v.2.2.2.1.2.2.2.2.2.2.1.natAbs + v.2.2.2.1.2.2.2.2.2.2.2.1.natAbs + v.2.2.2.1.2.2.2.2.2.2.2.2.1.natAbs + v.2.2.2.2.1.length + 1000
def l66_18 (v : V66_18) : Option (X66_18) := iter (q66_18 K73 G73 K89 G89 K54 G54 K71 G71) (b66_18 v) v
def kL66_18 (v : V66_18) : Bool := (l66_18 v).isSome
def xL66_18 (v : V66_18) : X66_18 := (l66_18 v).getD (((), ((), ())), (([], (0, (0, ()))), ((0, (0, (0, (0, ((), (0, (0, (0, (0, ()))))))))), ((0, (0, (0, (0, ((), (0, (0, (0, (0, ()))))))))), ([], ())))))
def q66_3 (k73 : I73.den → Bool) (g73 : I73.den → O73.den) (k89 : I89.den → Bool) (g89 : I89.den → O89.den) (k54 : I54.den → Bool) (g54 : I54.den → O54.den) (k71 : I71.den → Bool) (g71 : I71.den → O71.den) (f : V66_3 → Option (X66_3)) (v : V66_3) : Option (X66_3) :=
  bif (decide (v.fst.snd.snd.snd.fst > 0)) then
    let v0 := (IntKind.wrap IntKind.i64 (100 * Int.tmod (↑(List.length v.snd.snd.snd.snd.fst) : Int) 2))
    let v1 := (k89 (((), (v0, 0, ()), 40, ()), v.snd.fst, ()))
    bif (v1) then
      let v2 := (g89 (((), (v0, 0, ()), 40, ()), v.snd.fst, ()))
      let v3 := (k54 (((), 2, ()), v2.snd))
      bif (v3) then
        let v4 := (g54 (((), 2, ()), v2.snd))
        let v5 := (List.set (List.replicate 1 (zero S82)) 0 (v2.fst.fst, v4.fst))
        bif (capOk (List.length v.snd.snd.snd.snd.fst + List.length v5)) then
          let v6 := (IntKind.wrap IntKind.i64 (v.fst.snd.snd.snd.fst - 1))
          let v7 := (v.snd.snd.snd.snd.fst ++ v5)
          f (((), ((), ((), ((v6), ())))), (((v4.snd.fst.1), ((v4.snd.fst.snd.1), ((v4.snd.fst.snd.snd.1), ()))), (((v.snd.snd.fst.1), ((v.snd.snd.fst.snd.1), ((v.snd.snd.fst.snd.snd.1), ((v.snd.snd.fst.snd.snd.snd.1), ((), ((v.snd.snd.fst.snd.snd.snd.snd.snd.1), ((v.snd.snd.fst.snd.snd.snd.snd.snd.snd.1), ((v.snd.snd.fst.snd.snd.snd.snd.snd.snd.snd.1), ((v.snd.snd.fst.snd.snd.snd.snd.snd.snd.snd.snd.1), ()))))))))), (((v.snd.snd.snd.fst.1), ((v.snd.snd.snd.fst.snd.1), ((v.snd.snd.snd.fst.snd.snd.1), ((v.snd.snd.snd.fst.snd.snd.snd.1), ((), ((v.snd.snd.snd.fst.snd.snd.snd.snd.snd.1), ((v.snd.snd.snd.fst.snd.snd.snd.snd.snd.snd.1), ((v.snd.snd.snd.fst.snd.snd.snd.snd.snd.snd.snd.1), ((v.snd.snd.snd.fst.snd.snd.snd.snd.snd.snd.snd.snd.1), ()))))))))), ((v7), ())))))
        else
          none
      else
        none
    else
      none
  else
    some (((), ((), ((), ()))), (((v.snd.fst.1), ((v.snd.fst.snd.1), ((v.snd.fst.snd.snd.1), ()))), (((v.snd.snd.fst.1), ((v.snd.snd.fst.snd.1), ((v.snd.snd.fst.snd.snd.1), ((v.snd.snd.fst.snd.snd.snd.1), ((), ((v.snd.snd.fst.snd.snd.snd.snd.snd.1), ((v.snd.snd.fst.snd.snd.snd.snd.snd.snd.1), ((v.snd.snd.fst.snd.snd.snd.snd.snd.snd.snd.1), ((v.snd.snd.fst.snd.snd.snd.snd.snd.snd.snd.snd.1), ()))))))))), (((v.snd.snd.snd.fst.1), ((v.snd.snd.snd.fst.snd.1), ((v.snd.snd.snd.fst.snd.snd.1), ((v.snd.snd.snd.fst.snd.snd.snd.1), ((), ((v.snd.snd.snd.fst.snd.snd.snd.snd.snd.1), ((v.snd.snd.snd.fst.snd.snd.snd.snd.snd.snd.1), ((v.snd.snd.snd.fst.snd.snd.snd.snd.snd.snd.snd.1), ((v.snd.snd.snd.fst.snd.snd.snd.snd.snd.snd.snd.snd.1), ()))))))))), ((v.snd.snd.snd.snd.1), ())))))
theorem evl66_3 (k73 : I73.den → Bool) (g73 : I73.den → O73.den) (k89 : I89.den → Bool) (g89 : I89.den → O89.den) (k54 : I54.den → Bool) (g54 : I54.den → O54.den) (k71 : I71.den → Bool) (g71 : I71.den → O71.den) (kl3 : V66_3 → Bool) (xl3 : V66_3 → X66_3) (kl18 : V66_18 → Bool) (xl18 : V66_18 → X66_18) (f : V66_3 → Option (X66_3)) (v : V66_3) : EBk (Γ66 k73 g73 k89 g89 k54 g54 k71 g71 kl3 xl3 kl18 xl18) lc66_3 (roundK [0, 2, 3, 4] [.boxNil 3 4] 0 [0, 2, 3] [] (atS sh66_3 f) (endX shX66_3)) (mkS sh66_3 v) = q66_3 k73 g73 k89 g89 k54 g54 k71 g71 f v := by kernel_rfl
def b66_3 (v : V66_3) : Nat := v.1.2.2.2.1.natAbs + v.2.1.1.length + v.2.1.2.1.natAbs + v.2.1.2.2.1.natAbs + v.2.2.1.1.natAbs + v.2.2.1.2.1.natAbs + v.2.2.1.2.2.1.natAbs + v.2.2.1.2.2.2.1.natAbs + v.2.2.1.2.2.2.2.2.1.natAbs + v.2.2.1.2.2.2.2.2.2.1.natAbs + v.2.2.1.2.2.2.2.2.2.2.1.natAbs + v.2.2.1.2.2.2.2.2.2.2.2.1.natAbs + v.2.2.2.1.1.natAbs + v.2.2.2.1.2.1.natAbs + v.2.2.2.1.2.2.1.natAbs + v.2.2.2.1.2.2.2.1.natAbs + v.2.2.2.1.2.2.2.2.2.1.natAbs + v.2.2.2.1.2.2.2.2.2.2.1.natAbs + v.2.2.2.1.2.2.2.2.2.2.2.1.natAbs + v.2.2.2.1.2.2.2.2.2.2.2.2.1.natAbs + v.2.2.2.2.1.length + 1000
def l66_3 (v : V66_3) : Option (X66_3) := iter (q66_3 K73 G73 K89 G89 K54 G54 K71 G71) (b66_3 v) v
def kL66_3 (v : V66_3) : Bool := (l66_3 v).isSome
def xL66_3 (v : V66_3) : X66_3 := (l66_3 v).getD (((), ((), ((), ()))), (([], (0, (0, ()))), ((0, (0, (0, (0, ((), (0, (0, (0, (0, ()))))))))), ((0, (0, (0, (0, ((), (0, (0, (0, (0, ()))))))))), ([], ())))))
def r66 (k73 : I73.den → Bool) (g73 : I73.den → O73.den) (k89 : I89.den → Bool) (g89 : I89.den → O89.den) (k54 : I54.den → Bool) (g54 : I54.den → O54.den) (k71 : I71.den → Bool) (g71 : I71.den → O71.den) (kl3 : V66_3 → Bool) (xl3 : V66_3 → X66_3) (kl18 : V66_18 → Bool) (xl18 : V66_18 → X66_18) (x : I66.den) : Option (O66.den) :=
  let v0 := (k73 (((), 9, ()), x.snd))
  bif (v0) then
    let v1 := (g73 (((), 9, ()), x.snd))
    let v2 := (k73 (((), 3, ()), v1.snd))
    bif (v2) then
      let v3 := (g73 (((), 3, ()), v1.snd))
      let v4 := (IntKind.wrap IntKind.i64 (1 + v3.fst.fst))
      let v5 := (IntKind.wrap IntKind.i64 (v1.fst.fst - 4))
      let v6 := (kl3 (((), (), (), v4, ()), v3.snd.fst, (0, 0, 0, 0, (), 0, 0, 0, 0, ()), (0, -20, v5, 20, (), 0, 0, 0, 0, ()), [], ()))
      bif (v6) then
        let v7 := (xl3 (((), (), (), v4, ()), v3.snd.fst, (0, 0, 0, 0, (), 0, 0, 0, 0, ()), (0, -20, v5, 20, (), 0, 0, 0, 0, ()), [], ()))
        let v8 := (k89 (((), (50, -20, ()), 20, ()), v7.snd.fst, ()))
        bif (v8) then
          let v9 := (g89 (((), (50, -20, ()), 20, ()), v7.snd.fst, ()))
          let v10 := (k89 (((), (50, 20, ()), 20, ()), v9.snd))
          bif (v10) then
            let v11 := (g89 (((), (50, 20, ()), 20, ()), v9.snd))
            let v12 := (k73 (((), 20, ()), v11.snd))
            bif (v12) then
              let v13 := (g73 (((), 20, ()), v11.snd))
              bif (v13.fst.fst == 0) then
                some ((((((v7.snd.snd.snd.fst.1), ((v7.snd.snd.snd.fst.snd.1), ())), (((v7.snd.snd.snd.fst.snd.snd.1), ((v7.snd.snd.snd.fst.snd.snd.snd.1), ())), ())), ((List.replicate 0 (zero S82)), ((((v9.fst.fst.1), ((v9.fst.fst.snd.1), ())), (((v11.fst.fst.1), ((v11.fst.fst.snd.1), ())), ())), ()))), ()), (((v13.snd.fst.1), ((v13.snd.fst.snd.1), ((v13.snd.fst.snd.snd.1), ()))), ()))
              else
                bif (v13.fst.fst == 1) then
                  bif (decide (0 ≤ 0) && decide (0 < (↑(List.length v7.snd.snd.snd.snd.fst) : Int))) then
                    let v14 := (List.getD v7.snd.snd.snd.snd.fst (Int.toNat 0) (zero S82))
                    let v15 := (List.set v7.snd.snd.snd.snd.fst (Int.toNat 0) ((v7.snd.snd.snd.fst.fst, v7.snd.snd.snd.fst.snd.fst, ()), v14.snd))
                    some ((((((v7.snd.snd.snd.fst.1), ((v7.snd.snd.snd.fst.snd.1), ())), (((v7.snd.snd.snd.fst.snd.snd.1), ((v7.snd.snd.snd.fst.snd.snd.snd.1), ())), ())), ((v15), ((((v9.fst.fst.1), ((v9.fst.fst.snd.1), ())), (((v11.fst.fst.1), ((v11.fst.fst.snd.1), ())), ())), ()))), ()), (((v13.snd.fst.1), ((v13.snd.fst.snd.1), ((v13.snd.fst.snd.snd.1), ()))), ()))
                  else
                    none
                else
                  bif (v13.fst.fst == 2) then
                    let v14 := (k71 (((), ()), v13.snd))
                    bif (v14) then
                      let v15 := (g71 (((), ()), v13.snd))
                      some ((((((v15.fst.fst.fst.1), ((v15.fst.fst.fst.snd.1), ())), (((v15.fst.fst.snd.fst.1), ((v15.fst.fst.snd.fst.snd.1), ())), ())), ((v7.snd.snd.snd.snd.1), ((((v9.fst.fst.1), ((v9.fst.fst.snd.1), ())), (((v11.fst.fst.1), ((v11.fst.fst.snd.1), ())), ())), ()))), ()), (((v15.snd.fst.1), ((v15.snd.fst.snd.1), ((v15.snd.fst.snd.snd.1), ()))), ()))
                    else
                      none
                  else
                    bif (v13.fst.fst == 3) then
                      some ((((((v7.snd.snd.snd.fst.1), ((v7.snd.snd.snd.fst.snd.1), ())), (((v7.snd.snd.snd.fst.snd.snd.1), ((v7.snd.snd.snd.fst.snd.snd.snd.1), ())), ())), ((v7.snd.snd.snd.snd.1), ((((v11.fst.fst.1), ((v11.fst.fst.snd.1), ())), (((v11.fst.fst.1), ((v11.fst.fst.snd.1), ())), ())), ()))), ()), (((v13.snd.fst.1), ((v13.snd.fst.snd.1), ((v13.snd.fst.snd.snd.1), ()))), ()))
                    else
                      bif (v13.fst.fst == 4) then
                        let v14 := (kl18 (((), (), (), ()), v13.snd.fst, (v7.snd.snd.fst.fst, v7.snd.snd.fst.snd.fst, v7.snd.snd.fst.snd.snd.fst, v7.snd.snd.fst.snd.snd.snd.fst, (), v7.snd.snd.fst.snd.snd.snd.snd.snd), (v7.snd.snd.snd.fst.fst, v7.snd.snd.snd.fst.snd.fst, v7.snd.snd.snd.fst.snd.snd.fst, v7.snd.snd.snd.fst.snd.snd.snd.fst, (), v9.fst.fst.fst, v9.fst.fst.snd.fst, v11.fst.fst), v7.snd.snd.snd.snd))
                        bif (v14) then
                          let v15 := (xl18 (((), (), (), ()), v13.snd.fst, (v7.snd.snd.fst.fst, v7.snd.snd.fst.snd.fst, v7.snd.snd.fst.snd.snd.fst, v7.snd.snd.fst.snd.snd.snd.fst, (), v7.snd.snd.fst.snd.snd.snd.snd.snd), (v7.snd.snd.snd.fst.fst, v7.snd.snd.snd.fst.snd.fst, v7.snd.snd.snd.fst.snd.snd.fst, v7.snd.snd.snd.fst.snd.snd.snd.fst, (), v9.fst.fst.fst, v9.fst.fst.snd.fst, v11.fst.fst), v7.snd.snd.snd.snd))
                          some ((((((v15.snd.snd.snd.fst.1), ((v15.snd.snd.snd.fst.snd.1), ())), (((v15.snd.snd.snd.fst.snd.snd.1), ((v15.snd.snd.snd.fst.snd.snd.snd.1), ())), ())), ((v15.snd.snd.snd.snd.1), ((((v15.snd.snd.snd.fst.snd.snd.snd.snd.snd.1), ((v15.snd.snd.snd.fst.snd.snd.snd.snd.snd.snd.1), ())), (((v15.snd.snd.snd.fst.snd.snd.snd.snd.snd.snd.snd.1), ((v15.snd.snd.snd.fst.snd.snd.snd.snd.snd.snd.snd.snd.1), ())), ())), ()))), ()), (((v15.snd.fst.1), ((v15.snd.fst.snd.1), ((v15.snd.fst.snd.snd.1), ()))), ()))
                        else
                          none
                      else
                        some ((((((v7.snd.snd.snd.fst.1), ((v7.snd.snd.snd.fst.snd.1), ())), (((v7.snd.snd.snd.fst.snd.snd.1), ((v7.snd.snd.snd.fst.snd.snd.snd.1), ())), ())), ((v7.snd.snd.snd.snd.1), ((((v9.fst.fst.1), ((v9.fst.fst.snd.1), ())), (((v11.fst.fst.1), ((v11.fst.fst.snd.1), ())), ())), ()))), ()), (((v13.snd.fst.1), ((v13.snd.fst.snd.1), ((v13.snd.fst.snd.snd.1), ()))), ()))
            else
              none
          else
            none
        else
          none
      else
        none
    else
      none
  else
    none
theorem ev66 (k73 : I73.den → Bool) (g73 : I73.den → O73.den) (k89 : I89.den → Bool) (g89 : I89.den → O89.den) (k54 : I54.den → Bool) (g54 : I54.den → O54.den) (k71 : I71.den → Bool) (g71 : I71.den → O71.den) (kl3 : V66_3 → Bool) (xl3 : V66_3 → X66_3) (kl18 : V66_18 → Bool) (xl18 : V66_18 → X66_18) (x : I66.den) : callS (Γ66 k73 g73 k89 g89 k54 g54 k71 g71 kl3 xl3 kl18 xl18) (bodyOf Try.f66) I66 O66 x = r66 k73 g73 k89 g89 k54 g54 k71 g71 kl3 xl3 kl18 xl18 x := by kernel_rfl
def F66 (x : I66.den) : Option (O66.den) := r66 K73 G73 K89 G89 K54 G54 K71 G71 kL66_3 xL66_3 kL66_18 xL66_18 x
def K66 (x : I66.den) : Bool := (F66 x).isSome
def G66 (x : I66.den) : O66.den := (F66 x).getD (zeroSg O66)
theorem env66 : EnvOK Try.prog (Γ66 K73 G73 K89 G89 K54 G54 K71 G71 kL66_3 xL66_3 kL66_18 xL66_18) := env_ok mixed tab_ok eqs_ok (.cons sem73 (.cons sem89 (.cons sem54 (.cons sem71 .nil))))
theorem is66 : FnIs Try.prog 66 (Γ66 K73 G73 K89 G89 K54 G54 K71 G71 kL66_3 xL66_3 kL66_18 xL66_18) (bodyOf Try.f66) := fnIs Try.func66 rfl rfl rfl (by kernel_rfl) (loops_ok (l := [lc66_3, lc66_18]) (by kernel_rfl) (.cons (one_loop rfl (loopX_sound (sh := sh66_3) (shX := shX66_3) (fun f v => evl66_3 K73 G73 K89 G89 K54 G54 K71 G71 kL66_3 xL66_3 kL66_18 xL66_18 f v) b66_3 (((), ((), ((), ()))), (([], (0, (0, ()))), ((0, (0, (0, (0, ((), (0, (0, (0, (0, ()))))))))), ((0, (0, (0, (0, ((), (0, (0, (0, (0, ()))))))))), ([], ()))))))) (.cons (one_loop rfl (loopX_sound (sh := sh66_18) (shX := shX66_18) (fun f v => evl66_18 K73 G73 K89 G89 K54 G54 K71 G71 kL66_3 xL66_3 kL66_18 xL66_18 f v) b66_18 (((), ((), ())), (([], (0, (0, ()))), ((0, (0, (0, (0, ((), (0, (0, (0, (0, ()))))))))), ((0, (0, (0, (0, ((), (0, (0, (0, (0, ()))))))))), ([], ()))))))) (.nil))))
theorem sem66 : SemOK Try.prog (66, sgMean true I66 O66 K66 G66) := sg_opt env66 is66 true fun x => ev66 K73 G73 K89 G89 K54 G54 K71 G71 kL66_3 xL66_3 kL66_18 xL66_18 x

/- "loop.example/g03321/spec.Clamp" -/
abbrev A90 : Ty := .cons (.int .i64) (.cons (.int .i64) (.cons (.int .i64) (.nil)))
abbrev R90 : Ty := .cons (.int .i64) (.nil)
noncomputable def Γ90 : Env := mkEnv tab eqs [] 21 [.tmp 6] [] [] [] [] []
def r90 (x : Den A90) : Option (Den R90) :=
  bif (decide (x.snd.snd.fst < x.snd.fst)) then
    some ((x.snd.1), ())
  else
    bif (decide (x.fst < x.snd.fst)) then
      some ((x.snd.1), ())
    else
      bif (decide (x.fst > x.snd.snd.fst)) then
        some ((x.snd.snd.1), ())
      else
        some ((x.1), ())
theorem ev90 (x : Den A90) : callK (Γ90) (bodyOf Try.f90) (decR R90) (encA A90 x) [] = r90 x := by kernel_rfl
def F90 (x : Den A90) : Option (Den R90) := r90 x
def K90 (x : Den A90) : Bool := (F90 x).isSome
def G90 (x : Den A90) : Den R90 := (F90 x).getD (zero R90)
theorem env90 : EnvOK Try.prog (Γ90) := env_ok mixed tab_ok eqs_ok .nil
theorem is90 : FnIs Try.prog 90 (Γ90) (bodyOf Try.f90) := fnIs Try.func90 rfl rfl rfl (by kernel_rfl) (noLoops (by kernel_rfl))
theorem sem90 : SemOK Try.prog (90, fnMean A90 R90 K90 G90) := fn_opt env90 is90 fun x => ev90 x

/- "loop.example/g03321/spec.l10Sail" mode S true -/
abbrev I67 : Sg := ⟨[.ptr 0, .val (S45)], [.box (S110)]⟩
abbrev O67 : Sg := ⟨[.own (S95) 1], [.box (S110), .arr (S95)]⟩
abbrev V67_5 : Type := ((Unit × (Unit × (Unit × (Int × (Unit × (Int × Unit)))))) × (((List (Den (.int .u8))) × (Int × (Int × Unit))) × ((Int × (Int × (Int × (Int × ((List (Den (S82))) × (Int × (Int × (Int × (Int × Unit))))))))) × ((List (Den (S95))) × ((Int × (Int × Unit)) × Unit)))))
def sh67_5 : ShS := ⟨[(0, .one (.ptr 0 0)), (3, .one (.ptr 1 0)), (5, .one (.ref (S95) 2)), (6, .one (.int .i64)), (7, .one (.ptr 3 0)), (8, .one (.int .i64))], [(0, .box [.sl (.int .u8), .int .i64, .int .i64]), (1, .box [.int .i64, .int .i64, .int .i64, .int .i64, .sl (S82), .int .i64, .int .i64, .int .i64, .int .i64]), (2, .arr (S95)), (3, .box [.int .i64, .int .i64])], 4, 1⟩
abbrev X67_5 : Type := ((Unit × Unit) × (((List (Den (.int .u8))) × (Int × (Int × Unit))) × ((List (Den (S95))) × Unit)))
def shX67_5 : ShS := ⟨[(5, .one (.ref (S95) 1))], [(0, .box [.sl (.int .u8), .int .i64, .int .i64]), (1, .arr (S95))], 2, 1⟩
noncomputable def Γ67 (k73 : I73.den → Bool) (g73 : I73.den → O73.den) (k89 : I89.den → Bool) (g89 : I89.den → O89.den) (k58 : Den A58 → Bool) (g58 : Den A58 → Den R58) (k90 : Den A90 → Bool) (g90 : Den A90 → Den R90) (k54 : I54.den → Bool) (g54 : I54.den → O54.den) (kl5 : V67_5 → Bool) (xl5 : V67_5 → X67_5) : Env := mkEnv tab eqs [(73, sgMean true I73 O73 k73 g73), (89, sgMean true I89 O89 k89 g89), (58, fnMean A58 R58 k58 g58), (90, fnMean A90 R90 k90 g90), (54, sgMean true I54 O54 k54 g54)] 129 [.tmp 4] [] [] [(5, loopX [0, 3, 5, 6, 7, 8] [] 0 [5] [] sh67_5 shX67_5 kl5 xl5)] [] []
noncomputable def lc67_5 : Code := (loopsOf (bodyOf Try.f67)).getD 0 .skip
def q67_5 (k73 : I73.den → Bool) (g73 : I73.den → O73.den) (k89 : I89.den → Bool) (g89 : I89.den → O89.den) (k58 : Den A58 → Bool) (g58 : Den A58 → Den R58) (k90 : Den A90 → Bool) (g90 : Den A90 → Den R90) (k54 : I54.den → Bool) (g54 : I54.den → O54.den) (f : V67_5 → Option (X67_5)) (v : V67_5) : Option (X67_5) :=
  let v0 := (IntKind.wrap IntKind.i64 ((↑(List.length v.snd.snd.fst.snd.snd.snd.snd.fst) : Int) * 5))
  let v1 := (IntKind.wrap IntKind.i64 (3 + v0))
  bif (decide (v.fst.snd.snd.snd.snd.snd.fst < v1)) then
    bif (decide (v.fst.snd.snd.snd.snd.snd.fst < 60)) then
      let v2 := (List.set (List.replicate 1 (zero S95)) 0 (v.snd.snd.snd.snd.fst, v.fst.snd.snd.snd.fst, ()))
      bif (capOk (List.length v.snd.snd.snd.fst + List.length v2)) then
        let v3 := (k73 (((), 30, ()), v.snd.fst, ()))
        bif (v3) then
          let v4 := (IntKind.wrap IntKind.i64 (Int.tdiv v.fst.snd.snd.snd.snd.snd.fst 5))
          bif (decide (v4 < (↑(List.length v.snd.snd.fst.snd.snd.snd.snd.fst) : Int))) then
            let v5 := (k58 ((((v.snd.snd.fst.fst, v.snd.snd.fst.snd.fst, ()), (v.snd.snd.fst.snd.snd.fst, v.snd.snd.fst.snd.snd.snd.fst, ()), ()), v.snd.snd.fst.snd.snd.snd.snd.fst, ((v.snd.snd.fst.snd.snd.snd.snd.snd.fst, v.snd.snd.fst.snd.snd.snd.snd.snd.snd.fst, ()), v.snd.snd.fst.snd.snd.snd.snd.snd.snd.snd, ()), ()), v4, ()))
            bif (v5) then
              bif (decide (0 ≤ v4) && decide (v4 < (↑(List.length v.snd.snd.fst.snd.snd.snd.snd.fst) : Int))) then
                bif (decide (0 ≤ v4) && decide (v4 < (↑(List.length v.snd.snd.fst.snd.snd.snd.snd.fst) : Int))) then
                  let v6 := (List.getD v.snd.snd.fst.snd.snd.snd.snd.fst (Int.toNat v4) (zero S82))
                  bif (v6.snd.1) then
                    let v7 := (g58 ((((v.snd.snd.fst.fst, v.snd.snd.fst.snd.fst, ()), (v.snd.snd.fst.snd.snd.fst, v.snd.snd.fst.snd.snd.snd.fst, ()), ()), v.snd.snd.fst.snd.snd.snd.snd.fst, ((v.snd.snd.fst.snd.snd.snd.snd.snd.fst, v.snd.snd.fst.snd.snd.snd.snd.snd.snd.fst, ()), v.snd.snd.fst.snd.snd.snd.snd.snd.snd.snd, ()), ()), v4, ()))
                    let v8 := (IntKind.wrap IntKind.i64 (v6.fst.fst - v7.fst.fst))
                    let v9 := (k90 (v8, -30, 30, ()))
                    bif (v9) then
                      let v10 := (IntKind.wrap IntKind.i64 (v6.fst.snd.fst - v7.fst.snd.fst))
                      let v11 := (k90 (v10, -30, 30, ()))
                      bif (v11) then
                        bif (Int.tmod v.fst.snd.snd.snd.snd.snd.fst 5 == 4) then
                          let v12 := (g73 (((), 30, ()), v.snd.fst, ()))
                          let v13 := (k54 (((), 8, ()), v12.snd))
                          bif (v13) then
                            let v14 := (g54 (((), 8, ()), v12.snd))
                            bif (v14.fst.1) then
                              let v15 := (k89 (((), v6.fst, 40, ()), v14.snd))
                              bif (v15) then
                                let v16 := (IntKind.wrap IntKind.i64 (v.fst.snd.snd.snd.fst + 1))
                                let v17 := (IntKind.wrap IntKind.i64 (v16 + v12.fst.fst))
                                let v18 := (IntKind.wrap IntKind.i64 (v.fst.snd.snd.snd.snd.snd.fst + 1))
                                let v19 := (g89 (((), v6.fst, 40, ()), v14.snd))
                                let v20 := (v.snd.snd.snd.fst ++ v2)
                                f (((), ((), ((), ((v17), ((), ((v18), ())))))), (((v19.snd.fst.1), ((v19.snd.fst.snd.1), ((v19.snd.fst.snd.snd.1), ()))), (((v.snd.snd.fst.1), ((v.snd.snd.fst.snd.1), ((v.snd.snd.fst.snd.snd.1), ((v.snd.snd.fst.snd.snd.snd.1), ((v.snd.snd.fst.snd.snd.snd.snd.1), ((v.snd.snd.fst.snd.snd.snd.snd.snd.1), ((v.snd.snd.fst.snd.snd.snd.snd.snd.snd.1), ((v.snd.snd.fst.snd.snd.snd.snd.snd.snd.snd.1), ((v.snd.snd.fst.snd.snd.snd.snd.snd.snd.snd.snd.1), ()))))))))), ((v20), (((v19.fst.fst.1), ((v19.fst.fst.snd.1), ())), ())))))
                              else
                                none
                            else
                              let v15 := (IntKind.wrap IntKind.i64 (v.fst.snd.snd.snd.fst + 1))
                              let v16 := (IntKind.wrap IntKind.i64 (v15 + v12.fst.fst))
                              let v17 := (IntKind.wrap IntKind.i64 (v.fst.snd.snd.snd.snd.snd.fst + 1))
                              let v18 := (v.snd.snd.snd.fst ++ v2)
                              let v19 := (g90 (v8, -30, 30, ()))
                              let v20 := (IntKind.wrap IntKind.i64 (v6.fst.fst - v19.fst))
                              let v21 := (g90 (v10, -30, 30, ()))
                              let v22 := (IntKind.wrap IntKind.i64 (v6.fst.snd.fst - v21.fst))
                              f (((), ((), ((), ((v16), ((), ((v17), ())))))), (((v14.snd.fst.1), ((v14.snd.fst.snd.1), ((v14.snd.fst.snd.snd.1), ()))), (((v.snd.snd.fst.1), ((v.snd.snd.fst.snd.1), ((v.snd.snd.fst.snd.snd.1), ((v.snd.snd.fst.snd.snd.snd.1), ((v.snd.snd.fst.snd.snd.snd.snd.1), ((v.snd.snd.fst.snd.snd.snd.snd.snd.1), ((v.snd.snd.fst.snd.snd.snd.snd.snd.snd.1), ((v.snd.snd.fst.snd.snd.snd.snd.snd.snd.snd.1), ((v.snd.snd.fst.snd.snd.snd.snd.snd.snd.snd.snd.1), ()))))))))), ((v18), (((v20), ((v22), ())), ())))))
                          else
                            none
                        else
                          let v12 := (g73 (((), 30, ()), v.snd.fst, ()))
                          let v13 := (k54 (((), 8, ()), v12.snd))
                          bif (v13) then
                            let v14 := (g54 (((), 8, ()), v12.snd))
                            bif (v14.fst.1) then
                              let v15 := (k89 (((), v6.fst, 40, ()), v14.snd))
                              bif (v15) then
                                let v16 := (IntKind.wrap IntKind.i64 (v.fst.snd.snd.snd.fst + 1))
                                let v17 := (IntKind.wrap IntKind.i64 (v16 + v12.fst.fst))
                                let v18 := (IntKind.wrap IntKind.i64 (v.fst.snd.snd.snd.snd.snd.fst + 1))
                                let v19 := (g89 (((), v6.fst, 40, ()), v14.snd))
                                let v20 := (v.snd.snd.snd.fst ++ v2)
                                f (((), ((), ((), ((v17), ((), ((v18), ())))))), (((v19.snd.fst.1), ((v19.snd.fst.snd.1), ((v19.snd.fst.snd.snd.1), ()))), (((v.snd.snd.fst.1), ((v.snd.snd.fst.snd.1), ((v.snd.snd.fst.snd.snd.1), ((v.snd.snd.fst.snd.snd.snd.1), ((v.snd.snd.fst.snd.snd.snd.snd.1), ((v.snd.snd.fst.snd.snd.snd.snd.snd.1), ((v.snd.snd.fst.snd.snd.snd.snd.snd.snd.1), ((v.snd.snd.fst.snd.snd.snd.snd.snd.snd.snd.1), ((v.snd.snd.fst.snd.snd.snd.snd.snd.snd.snd.snd.1), ()))))))))), ((v20), (((v19.fst.fst.1), ((v19.fst.fst.snd.1), ())), ())))))
                              else
                                none
                            else
                              let v15 := (IntKind.wrap IntKind.i64 (v.fst.snd.snd.snd.fst + 1))
                              let v16 := (IntKind.wrap IntKind.i64 (v15 + v12.fst.fst))
                              let v17 := (IntKind.wrap IntKind.i64 (v.fst.snd.snd.snd.snd.snd.fst + 1))
                              let v18 := (v.snd.snd.snd.fst ++ v2)
                              let v19 := (g90 (v8, -30, 30, ()))
                              let v20 := (IntKind.wrap IntKind.i64 (v6.fst.fst + v19.fst))
                              let v21 := (g90 (v10, -30, 30, ()))
                              let v22 := (IntKind.wrap IntKind.i64 (-1 * v21.fst))
                              let v23 := (IntKind.wrap IntKind.i64 (2 - Int.tmod v.fst.snd.snd.snd.snd.snd.fst 5))
                              let v24 := (IntKind.wrap IntKind.i64 (v22 * v23))
                              let v25 := (IntKind.wrap IntKind.i64 (v20 - v24))
                              let v26 := (IntKind.wrap IntKind.i64 (v6.fst.snd.fst + v21.fst))
                              let v27 := (IntKind.wrap IntKind.i64 (-1 * v19.fst))
                              let v28 := (IntKind.wrap IntKind.i64 (v27 * v23))
                              let v29 := (IntKind.wrap IntKind.i64 (v26 + v28))
                              f (((), ((), ((), ((v16), ((), ((v17), ())))))), (((v14.snd.fst.1), ((v14.snd.fst.snd.1), ((v14.snd.fst.snd.snd.1), ()))), (((v.snd.snd.fst.1), ((v.snd.snd.fst.snd.1), ((v.snd.snd.fst.snd.snd.1), ((v.snd.snd.fst.snd.snd.snd.1), ((v.snd.snd.fst.snd.snd.snd.snd.1), ((v.snd.snd.fst.snd.snd.snd.snd.snd.1), ((v.snd.snd.fst.snd.snd.snd.snd.snd.snd.1), ((v.snd.snd.fst.snd.snd.snd.snd.snd.snd.snd.1), ((v.snd.snd.fst.snd.snd.snd.snd.snd.snd.snd.snd.1), ()))))))))), ((v18), (((v25), ((v29), ())), ())))))
                          else
                            none
                      else
                        none
                    else
                      none
                  else
                    let v7 := (g58 ((((v.snd.snd.fst.fst, v.snd.snd.fst.snd.fst, ()), (v.snd.snd.fst.snd.snd.fst, v.snd.snd.fst.snd.snd.snd.fst, ()), ()), v.snd.snd.fst.snd.snd.snd.snd.fst, ((v.snd.snd.fst.snd.snd.snd.snd.snd.fst, v.snd.snd.fst.snd.snd.snd.snd.snd.snd.fst, ()), v.snd.snd.fst.snd.snd.snd.snd.snd.snd.snd, ()), ()), v4, ()))
                    let v8 := (IntKind.wrap IntKind.i64 (v6.fst.fst - v7.fst.fst))
                    let v9 := (k90 (v8, -30, 30, ()))
                    bif (v9) then
                      let v10 := (IntKind.wrap IntKind.i64 (v6.fst.snd.fst - v7.fst.snd.fst))
                      let v11 := (k90 (v10, -30, 30, ()))
                      bif (v11) then
                        bif (Int.tmod v.fst.snd.snd.snd.snd.snd.fst 5 == 4) then
                          let v12 := (g73 (((), 30, ()), v.snd.fst, ()))
                          let v13 := (k54 (((), 8, ()), v12.snd))
                          bif (v13) then
                            let v14 := (g54 (((), 8, ()), v12.snd))
                            bif (v14.fst.1) then
                              let v15 := (k89 (((), v6.fst, 40, ()), v14.snd))
                              bif (v15) then
                                let v16 := (IntKind.wrap IntKind.i64 (v.fst.snd.snd.snd.fst + 1))
                                let v17 := (IntKind.wrap IntKind.i64 (v16 + v12.fst.fst))
                                let v18 := (IntKind.wrap IntKind.i64 (v.fst.snd.snd.snd.snd.snd.fst + 1))
                                let v19 := (g89 (((), v6.fst, 40, ()), v14.snd))
                                let v20 := (v.snd.snd.snd.fst ++ v2)
                                f (((), ((), ((), ((v17), ((), ((v18), ())))))), (((v19.snd.fst.1), ((v19.snd.fst.snd.1), ((v19.snd.fst.snd.snd.1), ()))), (((v.snd.snd.fst.1), ((v.snd.snd.fst.snd.1), ((v.snd.snd.fst.snd.snd.1), ((v.snd.snd.fst.snd.snd.snd.1), ((v.snd.snd.fst.snd.snd.snd.snd.1), ((v.snd.snd.fst.snd.snd.snd.snd.snd.1), ((v.snd.snd.fst.snd.snd.snd.snd.snd.snd.1), ((v.snd.snd.fst.snd.snd.snd.snd.snd.snd.snd.1), ((v.snd.snd.fst.snd.snd.snd.snd.snd.snd.snd.snd.1), ()))))))))), ((v20), (((v19.fst.fst.1), ((v19.fst.fst.snd.1), ())), ())))))
                              else
                                none
                            else
                              let v15 := (IntKind.wrap IntKind.i64 (v.fst.snd.snd.snd.fst + 1))
                              let v16 := (IntKind.wrap IntKind.i64 (v15 + v12.fst.fst))
                              let v17 := (IntKind.wrap IntKind.i64 (v.fst.snd.snd.snd.snd.snd.fst + 1))
                              let v18 := (v.snd.snd.snd.fst ++ v2)
                              let v19 := (g90 (v8, -30, 30, ()))
                              let v20 := (IntKind.wrap IntKind.i64 (v6.fst.fst - v19.fst))
                              let v21 := (g90 (v10, -30, 30, ()))
                              let v22 := (IntKind.wrap IntKind.i64 (v6.fst.snd.fst - v21.fst))
                              f (((), ((), ((), ((v16), ((), ((v17), ())))))), (((v14.snd.fst.1), ((v14.snd.fst.snd.1), ((v14.snd.fst.snd.snd.1), ()))), (((v.snd.snd.fst.1), ((v.snd.snd.fst.snd.1), ((v.snd.snd.fst.snd.snd.1), ((v.snd.snd.fst.snd.snd.snd.1), ((v.snd.snd.fst.snd.snd.snd.snd.1), ((v.snd.snd.fst.snd.snd.snd.snd.snd.1), ((v.snd.snd.fst.snd.snd.snd.snd.snd.snd.1), ((v.snd.snd.fst.snd.snd.snd.snd.snd.snd.snd.1), ((v.snd.snd.fst.snd.snd.snd.snd.snd.snd.snd.snd.1), ()))))))))), ((v18), (((v20), ((v22), ())), ())))))
                          else
                            none
                        else
                          let v12 := (g73 (((), 30, ()), v.snd.fst, ()))
                          let v13 := (k54 (((), 8, ()), v12.snd))
                          bif (v13) then
                            let v14 := (g54 (((), 8, ()), v12.snd))
                            bif (v14.fst.1) then
                              let v15 := (k89 (((), v6.fst, 40, ()), v14.snd))
                              bif (v15) then
                                let v16 := (IntKind.wrap IntKind.i64 (v.fst.snd.snd.snd.fst + 1))
                                let v17 := (IntKind.wrap IntKind.i64 (v16 + v12.fst.fst))
                                let v18 := (IntKind.wrap IntKind.i64 (v.fst.snd.snd.snd.snd.snd.fst + 1))
                                let v19 := (g89 (((), v6.fst, 40, ()), v14.snd))
                                let v20 := (v.snd.snd.snd.fst ++ v2)
                                f (((), ((), ((), ((v17), ((), ((v18), ())))))), (((v19.snd.fst.1), ((v19.snd.fst.snd.1), ((v19.snd.fst.snd.snd.1), ()))), (((v.snd.snd.fst.1), ((v.snd.snd.fst.snd.1), ((v.snd.snd.fst.snd.snd.1), ((v.snd.snd.fst.snd.snd.snd.1), ((v.snd.snd.fst.snd.snd.snd.snd.1), ((v.snd.snd.fst.snd.snd.snd.snd.snd.1), ((v.snd.snd.fst.snd.snd.snd.snd.snd.snd.1), ((v.snd.snd.fst.snd.snd.snd.snd.snd.snd.snd.1), ((v.snd.snd.fst.snd.snd.snd.snd.snd.snd.snd.snd.1), ()))))))))), ((v20), (((v19.fst.fst.1), ((v19.fst.fst.snd.1), ())), ())))))
                              else
                                none
                            else
                              let v15 := (IntKind.wrap IntKind.i64 (v.fst.snd.snd.snd.fst + 1))
                              let v16 := (IntKind.wrap IntKind.i64 (v15 + v12.fst.fst))
                              let v17 := (IntKind.wrap IntKind.i64 (v.fst.snd.snd.snd.snd.snd.fst + 1))
                              let v18 := (v.snd.snd.snd.fst ++ v2)
                              let v19 := (g90 (v8, -30, 30, ()))
                              let v20 := (IntKind.wrap IntKind.i64 (v6.fst.fst + v19.fst))
                              let v21 := (g90 (v10, -30, 30, ()))
                              let v22 := (IntKind.wrap IntKind.i64 (1 * v21.fst))
                              let v23 := (IntKind.wrap IntKind.i64 (2 - Int.tmod v.fst.snd.snd.snd.snd.snd.fst 5))
                              let v24 := (IntKind.wrap IntKind.i64 (v22 * v23))
                              let v25 := (IntKind.wrap IntKind.i64 (v20 - v24))
                              let v26 := (IntKind.wrap IntKind.i64 (v6.fst.snd.fst + v21.fst))
                              let v27 := (IntKind.wrap IntKind.i64 (1 * v19.fst))
                              let v28 := (IntKind.wrap IntKind.i64 (v27 * v23))
                              let v29 := (IntKind.wrap IntKind.i64 (v26 + v28))
                              f (((), ((), ((), ((v16), ((), ((v17), ())))))), (((v14.snd.fst.1), ((v14.snd.fst.snd.1), ((v14.snd.fst.snd.snd.1), ()))), (((v.snd.snd.fst.1), ((v.snd.snd.fst.snd.1), ((v.snd.snd.fst.snd.snd.1), ((v.snd.snd.fst.snd.snd.snd.1), ((v.snd.snd.fst.snd.snd.snd.snd.1), ((v.snd.snd.fst.snd.snd.snd.snd.snd.1), ((v.snd.snd.fst.snd.snd.snd.snd.snd.snd.1), ((v.snd.snd.fst.snd.snd.snd.snd.snd.snd.snd.1), ((v.snd.snd.fst.snd.snd.snd.snd.snd.snd.snd.snd.1), ()))))))))), ((v18), (((v25), ((v29), ())), ())))))
                          else
                            none
                      else
                        none
                    else
                      none
                else
                  none
              else
                none
            else
              none
          else
            let v5 := (IntKind.wrap IntKind.i64 (40 * Int.tmod v.fst.snd.snd.snd.snd.snd.fst 3))
            let v6 := (IntKind.wrap IntKind.i64 (30 + v5))
            let v7 := (g73 (((), 30, ()), v.snd.fst, ()))
            let v8 := (k89 (((), (v6, 0, ()), 25, ()), v7.snd))
            bif (v8) then
              let v9 := (IntKind.wrap IntKind.i64 (v.fst.snd.snd.snd.fst + 1))
              let v10 := (IntKind.wrap IntKind.i64 (v9 + v7.fst.fst))
              let v11 := (IntKind.wrap IntKind.i64 (v.fst.snd.snd.snd.snd.snd.fst + 1))
              let v12 := (g89 (((), (v6, 0, ()), 25, ()), v7.snd))
              let v13 := (v.snd.snd.snd.fst ++ v2)
              f (((), ((), ((), ((v10), ((), ((v11), ())))))), (((v12.snd.fst.1), ((v12.snd.fst.snd.1), ((v12.snd.fst.snd.snd.1), ()))), (((v.snd.snd.fst.1), ((v.snd.snd.fst.snd.1), ((v.snd.snd.fst.snd.snd.1), ((v.snd.snd.fst.snd.snd.snd.1), ((v.snd.snd.fst.snd.snd.snd.snd.1), ((v.snd.snd.fst.snd.snd.snd.snd.snd.1), ((v.snd.snd.fst.snd.snd.snd.snd.snd.snd.1), ((v.snd.snd.fst.snd.snd.snd.snd.snd.snd.snd.1), ((v.snd.snd.fst.snd.snd.snd.snd.snd.snd.snd.snd.1), ()))))))))), ((v13), (((v12.fst.fst.1), ((v12.fst.fst.snd.1), ())), ())))))
            else
              none
        else
          none
      else
        none
    else
      some (((), ()), (((v.snd.fst.1), ((v.snd.fst.snd.1), ((v.snd.fst.snd.snd.1), ()))), ((v.snd.snd.snd.1), ())))
  else
    some (((), ()), (((v.snd.fst.1), ((v.snd.fst.snd.1), ((v.snd.fst.snd.snd.1), ()))), ((v.snd.snd.snd.1), ())))
theorem evl67_5 (k73 : I73.den → Bool) (g73 : I73.den → O73.den) (k89 : I89.den → Bool) (g89 : I89.den → O89.den) (k58 : Den A58 → Bool) (g58 : Den A58 → Den R58) (k90 : Den A90 → Bool) (g90 : Den A90 → Den R90) (k54 : I54.den → Bool) (g54 : I54.den → O54.den) (kl5 : V67_5 → Bool) (xl5 : V67_5 → X67_5) (f : V67_5 → Option (X67_5)) (v : V67_5) : EBk (Γ67 k73 g73 k89 g89 k58 g58 k90 g90 k54 g54 kl5 xl5) lc67_5 (roundK [0, 3, 5, 6, 7, 8] [] 0 [5] [] (atS sh67_5 f) (endX shX67_5)) (mkS sh67_5 v) = q67_5 k73 g73 k89 g89 k58 g58 k90 g90 k54 g54 f v := by kernel_rfl
def b67_5 (v : V67_5) : Nat := v.1.2.2.2.1.natAbs + v.1.2.2.2.2.2.1.natAbs + v.2.1.1.length + v.2.1.2.1.natAbs + v.2.1.2.2.1.natAbs + v.2.2.1.1.natAbs + v.2.2.1.2.1.natAbs + v.2.2.1.2.2.1.natAbs + v.2.2.1.2.2.2.1.natAbs + v.2.2.1.2.2.2.2.1.length + v.2.2.1.2.2.2.2.2.1.natAbs + v.2.2.1.2.2.2.2.2.2.1.natAbs + v.2.2.1.2.2.2.2.2.2.2.1.natAbs + v.2.2.1.2.2.2.2.2.2.2.2.1.natAbs + v.2.2.2.1.length + v.2.2.2.2.1.1.natAbs + v.2.2.2.2.1.2.1.natAbs + 1000
def l67_5 (v : V67_5) : Option (X67_5) := iter (q67_5 K73 G73 K89 G89 K58 G58 K90 G90 K54 G54) (b67_5 v) v
def kL67_5 (v : V67_5) : Bool := (l67_5 v).isSome
def xL67_5 (v : V67_5) : X67_5 := (l67_5 v).getD (((), ()), (([], (0, (0, ()))), ([], ())))
def r67 (k73 : I73.den → Bool) (g73 : I73.den → O73.den) (k89 : I89.den → Bool) (g89 : I89.den → O89.den) (k58 : Den A58 → Bool) (g58 : Den A58 → Den R58) (k90 : Den A90 → Bool) (g90 : Den A90 → Den R90) (k54 : I54.den → Bool) (g54 : I54.den → O54.den) (kl5 : V67_5 → Bool) (xl5 : V67_5 → X67_5) (x : I67.den) : Option (O67.den) :=
  let v0 := (k73 (((), 50, ()), x.snd))
  bif (v0) then
    let v1 := (g73 (((), 50, ()), x.snd))
    let v2 := (k89 (((), (-20, 0, ()), 15, ()), v1.snd))
    bif (v2) then
      let v3 := (g89 (((), (-20, 0, ()), 15, ()), v1.snd))
      let v4 := (kl5 (((), (), (), v1.fst.fst, (), 0, ()), v3.snd.fst, (x.fst.snd.fst.fst.fst.fst, x.fst.snd.fst.fst.fst.snd.fst, x.fst.snd.fst.fst.snd.fst.fst, x.fst.snd.fst.fst.snd.fst.snd.fst, x.fst.snd.fst.snd.fst, x.fst.snd.fst.snd.snd.fst.fst.fst, x.fst.snd.fst.snd.snd.fst.fst.snd.fst, x.fst.snd.fst.snd.snd.fst.snd.fst), List.replicate 0 (zero S95), v3.fst))
      bif (v4) then
        let v5 := (xl5 (((), (), (), v1.fst.fst, (), 0, ()), v3.snd.fst, (x.fst.snd.fst.fst.fst.fst, x.fst.snd.fst.fst.fst.snd.fst, x.fst.snd.fst.fst.snd.fst.fst, x.fst.snd.fst.fst.snd.fst.snd.fst, x.fst.snd.fst.snd.fst, x.fst.snd.fst.snd.snd.fst.fst.fst, x.fst.snd.fst.snd.snd.fst.fst.snd.fst, x.fst.snd.fst.snd.snd.fst.snd.fst), List.replicate 0 (zero S95), v3.fst))
        some (((), ()), (((v5.snd.fst.1), ((v5.snd.fst.snd.1), ((v5.snd.fst.snd.snd.1), ()))), ((v5.snd.snd.1), ())))
      else
        none
    else
      none
  else
    none
theorem ev67 (k73 : I73.den → Bool) (g73 : I73.den → O73.den) (k89 : I89.den → Bool) (g89 : I89.den → O89.den) (k58 : Den A58 → Bool) (g58 : Den A58 → Den R58) (k90 : Den A90 → Bool) (g90 : Den A90 → Den R90) (k54 : I54.den → Bool) (g54 : I54.den → O54.den) (kl5 : V67_5 → Bool) (xl5 : V67_5 → X67_5) (x : I67.den) : callS (Γ67 k73 g73 k89 g89 k58 g58 k90 g90 k54 g54 kl5 xl5) (bodyOf Try.f67) I67 O67 x = r67 k73 g73 k89 g89 k58 g58 k90 g90 k54 g54 kl5 xl5 x := by kernel_rfl
def F67 (x : I67.den) : Option (O67.den) := r67 K73 G73 K89 G89 K58 G58 K90 G90 K54 G54 kL67_5 xL67_5 x
def K67 (x : I67.den) : Bool := (F67 x).isSome
def G67 (x : I67.den) : O67.den := (F67 x).getD (zeroSg O67)
theorem env67 : EnvOK Try.prog (Γ67 K73 G73 K89 G89 K58 G58 K90 G90 K54 G54 kL67_5 xL67_5) := env_ok mixed tab_ok eqs_ok (.cons sem73 (.cons sem89 (.cons sem58 (.cons sem90 (.cons sem54 .nil)))))
theorem is67 : FnIs Try.prog 67 (Γ67 K73 G73 K89 G89 K58 G58 K90 G90 K54 G54 kL67_5 xL67_5) (bodyOf Try.f67) := fnIs Try.func67 rfl rfl rfl (by kernel_rfl) (loops_ok (l := [lc67_5]) (by kernel_rfl) (.cons (one_loop rfl (loopX_sound (sh := sh67_5) (shX := shX67_5) (fun f v => evl67_5 K73 G73 K89 G89 K58 G58 K90 G90 K54 G54 kL67_5 xL67_5 f v) b67_5 (((), ()), (([], (0, (0, ()))), ([], ()))))) (.nil)))
theorem sem67 : SemOK Try.prog (67, sgMean true I67 O67 K67 G67) := sg_opt env67 is67 true fun x => ev67 K73 G73 K89 G89 K58 G58 K90 G90 K54 G54 kL67_5 xL67_5 x

/- "loop.example/g03321/spec.l01Number" mode S true -/
abbrev I72 : Sg := ⟨[.ptr 0], [.box (S110)]⟩
abbrev O72 : Sg := ⟨[.val (.int .i64)], [.box (S110)]⟩
noncomputable def Γ72 (k73 : I73.den → Bool) (g73 : I73.den → O73.den) (k85 : I85.den → Bool) (g85 : I85.den → O85.den) : Env := mkEnv tab eqs [(73, sgMean true I73 O73 k73 g73), (85, sgMean true I85 O85 k85 g85)] 16 [.tmp 2] [] [] [] [] []
def r72 (k73 : I73.den → Bool) (g73 : I73.den → O73.den) (k85 : I85.den → Bool) (g85 : I85.den → O85.den) (x : I72.den) : Option (O72.den) :=
  let v0 := (k73 (((), 4, ()), x.snd))
  bif (v0) then
    let v1 := (g73 (((), 4, ()), x.snd))
    bif (v1.fst.fst == 0) then
      let v2 := (List.set (List.replicate 10 (zero (Ty.int IntKind.i64))) 0 (-1))
      let v3 := (List.set v2 1 0)
      let v4 := (List.set v3 2 127)
      let v5 := (List.set v4 3 128)
      let v6 := (List.set v5 4 16383)
      let v7 := (List.set v6 5 16384)
      let v8 := (List.set v7 6 1000000000)
      let v9 := (List.set v8 7 1000000001)
      let v10 := (List.set v9 8 9223372036854775807)
      let v11 := (List.set v10 9 (-9223372036854775808))
      let v12 := (k85 (((), (), ()), v1.snd.fst, v11, ()))
      bif (v12) then
        let v13 := (g85 (((), (), ()), v1.snd.fst, v11, ()))
        some (((v13.fst.1), ()), (((v13.snd.fst.1), ((v13.snd.fst.snd.1), ((v13.snd.fst.snd.snd.1), ()))), ()))
      else
        none
    else
      bif (v1.fst.fst == 1) then
        let v2 := (k73 (((), 1000000000, ()), v1.snd))
        bif (v2) then
          let v3 := (g73 (((), 1000000000, ()), v1.snd))
          some (((v3.fst.1), ()), (((v3.snd.fst.1), ((v3.snd.fst.snd.1), ((v3.snd.fst.snd.snd.1), ()))), ()))
        else
          none
      else
        let v2 := (k73 (((), 400, ()), v1.snd))
        bif (v2) then
          let v3 := (g73 (((), 400, ()), v1.snd))
          some (((v3.fst.1), ()), (((v3.snd.fst.1), ((v3.snd.fst.snd.1), ((v3.snd.fst.snd.snd.1), ()))), ()))
        else
          none
  else
    none
theorem ev72 (k73 : I73.den → Bool) (g73 : I73.den → O73.den) (k85 : I85.den → Bool) (g85 : I85.den → O85.den) (x : I72.den) : callS (Γ72 k73 g73 k85 g85) (bodyOf Try.f72) I72 O72 x = r72 k73 g73 k85 g85 x := by kernel_rfl
def F72 (x : I72.den) : Option (O72.den) := r72 K73 G73 K85 G85 x
def K72 (x : I72.den) : Bool := (F72 x).isSome
def G72 (x : I72.den) : O72.den := (F72 x).getD (zeroSg O72)
theorem env72 : EnvOK Try.prog (Γ72 K73 G73 K85 G85) := env_ok mixed tab_ok eqs_ok (.cons sem73 (.cons sem85 .nil))
theorem is72 : FnIs Try.prog 72 (Γ72 K73 G73 K85 G85) (bodyOf Try.f72) := fnIs Try.func72 rfl rfl rfl (by kernel_rfl) (noLoops (by kernel_rfl))
theorem sem72 : SemOK Try.prog (72, sgMean true I72 O72 K72 G72) := sg_opt env72 is72 true fun x => ev72 K73 G73 K85 G85 x

/- "loop.example/g03321/spec.l09Track" mode S true -/
abbrev I68 : Sg := ⟨[.ptr 0], [.box (S110)]⟩
abbrev O68 : Sg := ⟨[.own (S95) 1], [.box (S110), .arr (S95)]⟩
abbrev V68_6 : Type := ((Unit × (Unit × (Int × (Int × Unit)))) × (((List (Den (.int .u8))) × (Int × (Int × Unit))) × ((List (Den (S95))) × Unit)))
def sh68_6 : ShS := ⟨[(0, .one (.ptr 0 0)), (3, .one (.ref (S95) 1)), (4, .one (.int .i64)), (5, .one (.int .i64))], [(0, .box [.sl (.int .u8), .int .i64, .int .i64]), (1, .arr (S95))], 2, 1⟩
abbrev X68_6 : Type := ((Unit × Unit) × (((List (Den (.int .u8))) × (Int × (Int × Unit))) × ((List (Den (S95))) × Unit)))
def shX68_6 : ShS := ⟨[(3, .one (.ref (S95) 1))], [(0, .box [.sl (.int .u8), .int .i64, .int .i64]), (1, .arr (S95))], 2, 1⟩
noncomputable def Γ68 (k73 : I73.den → Bool) (g73 : I73.den → O73.den) (k54 : I54.den → Bool) (g54 : I54.den → O54.den) (k53 : I53.den → Bool) (g53 : I53.den → O53.den) (k72 : I72.den → Bool) (g72 : I72.den → O72.den) (kl6 : V68_6 → Bool) (xl6 : V68_6 → X68_6) : Env := mkEnv tab eqs [(73, sgMean true I73 O73 k73 g73), (54, sgMean true I54 O54 k54 g54), (53, sgMean true I53 O53 k53 g53), (72, sgMean true I72 O72 k72 g72)] 37 [.tmp 2] [] [] [(6, loopX [0, 3, 4, 5] [] 0 [3] [] sh68_6 shX68_6 kl6 xl6)] [] []
noncomputable def lc68_6 : Code := (loopsOf (bodyOf Try.f68)).getD 0 .skip
def q68_6 (k73 : I73.den → Bool) (g73 : I73.den → O73.den) (k54 : I54.den → Bool) (g54 : I54.den → O54.den) (k53 : I53.den → Bool) (g53 : I53.den → O53.den) (k72 : I72.den → Bool) (g72 : I72.den → O72.den) (f : V68_6 → Option (X68_6)) (v : V68_6) : Option (X68_6) :=
  bif (decide (v.fst.snd.snd.fst > 0)) then
    let v0 := (k53 (((), ()), v.snd.fst, ()))
    bif (v0) then
      let v1 := (g53 (((), ()), v.snd.fst, ()))
      let v2 := (List.set (List.replicate 1 (zero S95)) 0 (v1.fst.fst, v.fst.snd.snd.snd))
      bif (capOk (List.length v.snd.snd.fst + List.length v2)) then
        let v3 := (k73 (((), 40, ()), v1.snd))
        bif (v3) then
          let v4 := (g73 (((), 40, ()), v1.snd))
          let v5 := (k54 (((), 60, ()), v4.snd))
          bif (v5) then
            let v6 := (g54 (((), 60, ()), v4.snd))
            bif (v6.fst.1) then
              let v7 := (k72 (((), ()), v6.snd))
              bif (v7) then
                let v8 := (IntKind.wrap IntKind.i64 (v.fst.snd.snd.fst - 1))
                let v9 := (g72 (((), ()), v6.snd))
                let v10 := (v.snd.snd.fst ++ v2)
                f (((), ((), ((v8), ((v9.fst.1), ())))), (((v9.snd.fst.1), ((v9.snd.fst.snd.1), ((v9.snd.fst.snd.snd.1), ()))), ((v10), ())))
              else
                none
            else
              let v7 := (IntKind.wrap IntKind.i64 (v.fst.snd.snd.fst - 1))
              let v8 := (IntKind.wrap IntKind.i64 (v.fst.snd.snd.snd.fst + 1))
              let v9 := (IntKind.wrap IntKind.i64 (v8 + v4.fst.fst))
              let v10 := (v.snd.snd.fst ++ v2)
              f (((), ((), ((v7), ((v9), ())))), (((v6.snd.fst.1), ((v6.snd.fst.snd.1), ((v6.snd.fst.snd.snd.1), ()))), ((v10), ())))
          else
            none
        else
          none
      else
        none
    else
      none
  else
    some (((), ()), (((v.snd.fst.1), ((v.snd.fst.snd.1), ((v.snd.fst.snd.snd.1), ()))), ((v.snd.snd.1), ())))
theorem evl68_6 (k73 : I73.den → Bool) (g73 : I73.den → O73.den) (k54 : I54.den → Bool) (g54 : I54.den → O54.den) (k53 : I53.den → Bool) (g53 : I53.den → O53.den) (k72 : I72.den → Bool) (g72 : I72.den → O72.den) (kl6 : V68_6 → Bool) (xl6 : V68_6 → X68_6) (f : V68_6 → Option (X68_6)) (v : V68_6) : EBk (Γ68 k73 g73 k54 g54 k53 g53 k72 g72 kl6 xl6) lc68_6 (roundK [0, 3, 4, 5] [] 0 [3] [] (atS sh68_6 f) (endX shX68_6)) (mkS sh68_6 v) = q68_6 k73 g73 k54 g54 k53 g53 k72 g72 f v := by kernel_rfl
def b68_6 (v : V68_6) : Nat := v.1.2.2.1.natAbs + v.1.2.2.2.1.natAbs + v.2.1.1.length + v.2.1.2.1.natAbs + v.2.1.2.2.1.natAbs + v.2.2.1.length + 1000
def l68_6 (v : V68_6) : Option (X68_6) := iter (q68_6 K73 G73 K54 G54 K53 G53 K72 G72) (b68_6 v) v
def kL68_6 (v : V68_6) : Bool := (l68_6 v).isSome
def xL68_6 (v : V68_6) : X68_6 := (l68_6 v).getD (((), ()), (([], (0, (0, ()))), ([], ())))
def r68 (k73 : I73.den → Bool) (g73 : I73.den → O73.den) (k54 : I54.den → Bool) (g54 : I54.den → O54.den) (k53 : I53.den → Bool) (g53 : I53.den → O53.den) (k72 : I72.den → Bool) (g72 : I72.den → O72.den) (kl6 : V68_6 → Bool) (xl6 : V68_6 → X68_6) (x : I68.den) : Option (O68.den) :=
  let v0 := (k73 (((), 9, ()), x.snd))
  bif (v0) then
    let v1 := (g73 (((), 9, ()), x.snd))
    let v2 := (k54 (((), 40, ()), v1.snd))
    bif (v2) then
      let v3 := (g54 (((), 40, ()), v1.snd))
      bif (v3.fst.1) then
        let v4 := (k73 (((), 2, ()), v3.snd))
        bif (v4) then
          let v5 := (g73 (((), 2, ()), v3.snd))
          let v6 := (k73 (((), 300, ()), v5.snd))
          bif (v6) then
            let v7 := (IntKind.wrap IntKind.i64 (200 + v5.fst.fst))
            let v8 := (g73 (((), 300, ()), v5.snd))
            let v9 := (kl6 (((), (), v7, v8.fst), v8.snd.fst, List.replicate 0 (zero S95), ()))
            bif (v9) then
              let v10 := (xl6 (((), (), v7, v8.fst), v8.snd.fst, List.replicate 0 (zero S95), ()))
              some (((), ()), (((v10.snd.fst.1), ((v10.snd.fst.snd.1), ((v10.snd.fst.snd.snd.1), ()))), ((v10.snd.snd.1), ())))
            else
              none
          else
            none
        else
          none
      else
        let v4 := (k73 (((), 300, ()), v3.snd))
        bif (v4) then
          let v5 := (g73 (((), 300, ()), v3.snd))
          let v6 := (kl6 (((), (), v1.fst.fst, v5.fst), v5.snd.fst, List.replicate 0 (zero S95), ()))
          bif (v6) then
            let v7 := (xl6 (((), (), v1.fst.fst, v5.fst), v5.snd.fst, List.replicate 0 (zero S95), ()))
            some (((), ()), (((v7.snd.fst.1), ((v7.snd.fst.snd.1), ((v7.snd.fst.snd.snd.1), ()))), ((v7.snd.snd.1), ())))
          else
            none
        else
          none
    else
      none
  else
    none
theorem ev68 (k73 : I73.den → Bool) (g73 : I73.den → O73.den) (k54 : I54.den → Bool) (g54 : I54.den → O54.den) (k53 : I53.den → Bool) (g53 : I53.den → O53.den) (k72 : I72.den → Bool) (g72 : I72.den → O72.den) (kl6 : V68_6 → Bool) (xl6 : V68_6 → X68_6) (x : I68.den) : callS (Γ68 k73 g73 k54 g54 k53 g53 k72 g72 kl6 xl6) (bodyOf Try.f68) I68 O68 x = r68 k73 g73 k54 g54 k53 g53 k72 g72 kl6 xl6 x := by kernel_rfl
def F68 (x : I68.den) : Option (O68.den) := r68 K73 G73 K54 G54 K53 G53 K72 G72 kL68_6 xL68_6 x
def K68 (x : I68.den) : Bool := (F68 x).isSome
def G68 (x : I68.den) : O68.den := (F68 x).getD (zeroSg O68)
theorem env68 : EnvOK Try.prog (Γ68 K73 G73 K54 G54 K53 G53 K72 G72 kL68_6 xL68_6) := env_ok mixed tab_ok eqs_ok (.cons sem73 (.cons sem54 (.cons sem53 (.cons sem72 .nil))))
theorem is68 : FnIs Try.prog 68 (Γ68 K73 G73 K54 G54 K53 G53 K72 G72 kL68_6 xL68_6) (bodyOf Try.f68) := fnIs Try.func68 rfl rfl rfl (by kernel_rfl) (loops_ok (l := [lc68_6]) (by kernel_rfl) (.cons (one_loop rfl (loopX_sound (sh := sh68_6) (shX := shX68_6) (fun f v => evl68_6 K73 G73 K54 G54 K53 G53 K72 G72 kL68_6 xL68_6 f v) b68_6 (((), ()), (([], (0, (0, ()))), ([], ()))))) (.nil)))
theorem sem68 : SemOK Try.prog (68, sgMean true I68 O68 K68 G68) := sg_opt env68 is68 true fun x => ev68 K73 G73 K54 G54 K53 G53 K72 G72 kL68_6 xL68_6 x

/- "loop.example/g03321/spec.l01Place" mode S true -/
abbrev I69 : Sg := ⟨[.ptr 0, .val (.int .i64)], [.box (S110)]⟩
abbrev O69 : Sg := ⟨[.val (.int .i64)], [.box (S110)]⟩
noncomputable def Γ69 (k54 : I54.den → Bool) (g54 : I54.den → O54.den) (k85 : I85.den → Bool) (g85 : I85.den → O85.den) (k73 : I73.den → Bool) (g73 : I73.den → O73.den) : Env := mkEnv tab eqs [(54, sgMean true I54 O54 k54 g54), (85, sgMean true I85 O85 k85 g85), (73, sgMean true I73 O73 k73 g73)] 16 [.tmp 4] [] [] [] [] []
def r69 (k54 : I54.den → Bool) (g54 : I54.den → O54.den) (k85 : I85.den → Bool) (g85 : I85.den → O85.den) (k73 : I73.den → Bool) (g73 : I73.den → O73.den) (x : I69.den) : Option (O69.den) :=
  let v0 := (k54 (((), 15, ()), x.snd))
  bif (v0) then
    let v1 := (g54 (((), 15, ()), x.snd))
    bif (v1.fst.1) then
      let v2 := (List.set (List.replicate 5 (zero (Ty.int IntKind.i64))) 0 (-1))
      let v3 := (List.set v2 1 x.fst.snd.fst)
      let v4 := (IntKind.wrap IntKind.i64 (x.fst.snd.fst + 1))
      let v5 := (List.set v3 2 v4)
      let v6 := (List.set v5 3 9223372036854775807)
      let v7 := (List.set v6 4 (-9223372036854775808))
      let v8 := (k85 (((), (), ()), v1.snd.fst, v7, ()))
      bif (v8) then
        let v9 := (g85 (((), (), ()), v1.snd.fst, v7, ()))
        some (((v9.fst.1), ()), (((v9.snd.fst.1), ((v9.snd.fst.snd.1), ((v9.snd.fst.snd.snd.1), ()))), ()))
      else
        none
    else
      let v2 := (k73 (((), x.fst.snd), v1.snd))
      bif (v2) then
        let v3 := (g73 (((), x.fst.snd), v1.snd))
        some (((v3.fst.1), ()), (((v3.snd.fst.1), ((v3.snd.fst.snd.1), ((v3.snd.fst.snd.snd.1), ()))), ()))
      else
        none
  else
    none
theorem ev69 (k54 : I54.den → Bool) (g54 : I54.den → O54.den) (k85 : I85.den → Bool) (g85 : I85.den → O85.den) (k73 : I73.den → Bool) (g73 : I73.den → O73.den) (x : I69.den) : callS (Γ69 k54 g54 k85 g85 k73 g73) (bodyOf Try.f69) I69 O69 x = r69 k54 g54 k85 g85 k73 g73 x := by kernel_rfl
def F69 (x : I69.den) : Option (O69.den) := r69 K54 G54 K85 G85 K73 G73 x
def K69 (x : I69.den) : Bool := (F69 x).isSome
def G69 (x : I69.den) : O69.den := (F69 x).getD (zeroSg O69)
theorem env69 : EnvOK Try.prog (Γ69 K54 G54 K85 G85 K73 G73) := env_ok mixed tab_ok eqs_ok (.cons sem54 (.cons sem85 (.cons sem73 .nil)))
theorem is69 : FnIs Try.prog 69 (Γ69 K54 G54 K85 G85 K73 G73) (bodyOf Try.f69) := fnIs Try.func69 rfl rfl rfl (by kernel_rfl) (noLoops (by kernel_rfl))
theorem sem69 : SemOK Try.prog (69, sgMean true I69 O69 K69 G69) := sg_opt env69 is69 true fun x => ev69 K54 G54 K85 G85 K73 G73 x

/- "loop.example/g03321/spec.DrawRoundedAt" -/
abbrev A25 : Ty := .cons (.slice (.int .u8)) (.nil)
abbrev R25 : Ty := .cons (S45) (.cons (.int .i64) (.cons (.slice (S95)) (.cons (.int .i64) (.nil))))
noncomputable def Γ25 (k52 : I52.den → Bool) (g52 : I52.den → O52.den) (k66 : I66.den → Bool) (g66 : I66.den → O66.den) (k67 : I67.den → Bool) (g67 : I67.den → O67.den) (k54 : I54.den → Bool) (g54 : I54.den → O54.den) (k68 : I68.den → Bool) (g68 : I68.den → O68.den) (k69 : I69.den → Bool) (g69 : I69.den → O69.den) : Env := mkEnv tab eqs [(52, sgMean false I52 O52 k52 g52), (66, sgMean true I66 O66 k66 g66), (67, sgMean true I67 O67 k67 g67), (54, sgMean true I54 O54 k54 g54), (68, sgMean true I68 O68 k68 g68), (69, sgMean true I69 O69 k69 g69)] 38 [.cell 2 46, .tmp 3, .tmp 4, .tmp 5] [] [] [] [] [.frz 4]
def r25 (k52 : I52.den → Bool) (g52 : I52.den → O52.den) (k66 : I66.den → Bool) (g66 : I66.den → O66.den) (k67 : I67.den → Bool) (g67 : I67.den → O67.den) (k54 : I54.den → Bool) (g54 : I54.den → O54.den) (k68 : I68.den → Bool) (g68 : I68.den → O68.den) (k69 : I69.den → Bool) (g69 : I69.den → O69.den) (x : Den A25) : Option (Den R25) :=
  let v0 := (k52 (x, ()))
  bif (v0) then
    let v1 := (g52 (x, ()))
    let v2 := (k66 (((), ()), v1.snd))
    bif (v2) then
      let v3 := (g66 (((), ()), v1.snd))
      let v4 := (k67 (((), v3.fst), v3.snd))
      bif (v4) then
        let v5 := (g67 (((), v3.fst), v3.snd))
        let v6 := (k54 (((), 6, ()), v5.snd.fst, ()))
        bif (v6) then
          let v7 := (g54 (((), 6, ()), v5.snd.fst, ()))
          bif (v7.fst.1) then
            let v8 := (k68 (((), ()), v7.snd))
            bif (v8) then
              let v9 := (g68 (((), ()), v7.snd))
              let v10 := (k69 (((), (↑(List.length v3.fst.fst.snd.fst) : Int), ()), v9.snd.fst, ()))
              bif (v10) then
                let v11 := (g69 (((), (↑(List.length v3.fst.fst.snd.fst) : Int), ()), v9.snd.fst, ()))
                let v12 := (k54 (((), 3, ()), v11.snd))
                bif (v12) then
                  let v13 := (g54 (((), 3, ()), v11.snd))
                  bif (v13.fst.1) then
                    some (((((v3.fst.fst.fst.fst.1), ((v3.fst.fst.fst.fst.snd.1), ())), (((v3.fst.fst.fst.snd.fst.1), ((v3.fst.fst.fst.snd.fst.snd.1), ())), ())), ((v3.fst.fst.snd.1), ((((v3.fst.fst.snd.snd.fst.fst.1), ((v3.fst.fst.snd.snd.fst.fst.snd.1), ())), (((v3.fst.fst.snd.snd.fst.snd.fst.1), ((v3.fst.fst.snd.snd.fst.snd.fst.snd.1), ())), ())), ()))), ((v11.fst.1), ((v9.snd.snd.1), ((0), ()))))
                  else
                    let v14 := (k69 (((), (↑(List.length v9.snd.snd.fst) : Int), ()), v13.snd))
                    bif (v14) then
                      let v15 := (g69 (((), (↑(List.length v9.snd.snd.fst) : Int), ()), v13.snd))
                      some (((((v3.fst.fst.fst.fst.1), ((v3.fst.fst.fst.fst.snd.1), ())), (((v3.fst.fst.fst.snd.fst.1), ((v3.fst.fst.fst.snd.fst.snd.1), ())), ())), ((v3.fst.fst.snd.1), ((((v3.fst.fst.snd.snd.fst.fst.1), ((v3.fst.fst.snd.snd.fst.fst.snd.1), ())), (((v3.fst.fst.snd.snd.fst.snd.fst.1), ((v3.fst.fst.snd.snd.fst.snd.fst.snd.1), ())), ())), ()))), ((v11.fst.1), ((v9.snd.snd.1), ((v15.fst.1), ()))))
                    else
                      none
                else
                  none
              else
                none
            else
              none
          else
            let v8 := (k69 (((), (↑(List.length v3.fst.fst.snd.fst) : Int), ()), v7.snd))
            bif (v8) then
              let v9 := (g69 (((), (↑(List.length v3.fst.fst.snd.fst) : Int), ()), v7.snd))
              let v10 := (k54 (((), 3, ()), v9.snd))
              bif (v10) then
                let v11 := (g54 (((), 3, ()), v9.snd))
                bif (v11.fst.1) then
                  some (((((v3.fst.fst.fst.fst.1), ((v3.fst.fst.fst.fst.snd.1), ())), (((v3.fst.fst.fst.snd.fst.1), ((v3.fst.fst.fst.snd.fst.snd.1), ())), ())), ((v3.fst.fst.snd.1), ((((v3.fst.fst.snd.snd.fst.fst.1), ((v3.fst.fst.snd.snd.fst.fst.snd.1), ())), (((v3.fst.fst.snd.snd.fst.snd.fst.1), ((v3.fst.fst.snd.snd.fst.snd.fst.snd.1), ())), ())), ()))), ((v9.fst.1), ((v5.snd.snd.1), ((0), ()))))
                else
                  let v12 := (k69 (((), (↑(List.length v5.snd.snd.fst) : Int), ()), v11.snd))
                  bif (v12) then
                    let v13 := (g69 (((), (↑(List.length v5.snd.snd.fst) : Int), ()), v11.snd))
                    some (((((v3.fst.fst.fst.fst.1), ((v3.fst.fst.fst.fst.snd.1), ())), (((v3.fst.fst.fst.snd.fst.1), ((v3.fst.fst.fst.snd.fst.snd.1), ())), ())), ((v3.fst.fst.snd.1), ((((v3.fst.fst.snd.snd.fst.fst.1), ((v3.fst.fst.snd.snd.fst.fst.snd.1), ())), (((v3.fst.fst.snd.snd.fst.snd.fst.1), ((v3.fst.fst.snd.snd.fst.snd.fst.snd.1), ())), ())), ()))), ((v9.fst.1), ((v5.snd.snd.1), ((v13.fst.1), ()))))
                  else
                    none
              else
                none
            else
              none
        else
          none
      else
        none
    else
      none
  else
    none
theorem ev25 (k52 : I52.den → Bool) (g52 : I52.den → O52.den) (k66 : I66.den → Bool) (g66 : I66.den → O66.den) (k67 : I67.den → Bool) (g67 : I67.den → O67.den) (k54 : I54.den → Bool) (g54 : I54.den → O54.den) (k68 : I68.den → Bool) (g68 : I68.den → O68.den) (k69 : I69.den → Bool) (g69 : I69.den → O69.den) (x : Den A25) : callK (Γ25 k52 g52 k66 g66 k67 g67 k54 g54 k68 g68 k69 g69) (bodyOf Try.f25) (decR R25) (encA A25 x) [] = r25 k52 g52 k66 g66 k67 g67 k54 g54 k68 g68 k69 g69 x := by kernel_rfl
def F25 (x : Den A25) : Option (Den R25) := r25 K52 G52 K66 G66 K67 G67 K54 G54 K68 G68 K69 G69 x
def K25 (x : Den A25) : Bool := (F25 x).isSome
def G25 (x : Den A25) : Den R25 := (F25 x).getD (zero R25)
theorem env25 : EnvOK Try.prog (Γ25 K52 G52 K66 G66 K67 G67 K54 G54 K68 G68 K69 G69) := env_ok mixed tab_ok eqs_ok (.cons sem52 (.cons sem66 (.cons sem67 (.cons sem54 (.cons sem68 (.cons sem69 .nil))))))
theorem is25 : FnIs Try.prog 25 (Γ25 K52 G52 K66 G66 K67 G67 K54 G54 K68 G68 K69 G69) (bodyOf Try.f25) := fnIs Try.func25 rfl rfl rfl (by kernel_rfl) (noLoops (by kernel_rfl))
theorem sem25 : SemOK Try.prog (25, fnMean A25 R25 K25 G25) := fn_opt env25 is25 fun x => ev25 K52 G52 K66 G66 K67 G67 K54 G54 K68 G68 K69 G69 x

/- "loop.example/g03321/laws.FnLongerTrack" -/
abbrev A6 : Ty := .cons (.slice (.int .u8)) (.nil)
abbrev R6 : Ty := .cons (.bool) (.nil)
noncomputable def Γ6 (k16 : Den A16 → Bool) (g16 : Den A16 → Den R16) (k25 : Den A25 → Bool) (g25 : Den A25 → Den R25) (k26 : Den A26 → Bool) (g26 : Den A26 → Den R26) : Env := mkEnv tab eqs [(16, fnMean A16 R16 k16 g16), (25, fnMean A25 R25 k25 g25), (26, fnMean A26 R26 k26 g26)] 55 [.tmp 2] [] [] [] [] []
def r6 (k16 : Den A16 → Bool) (g16 : Den A16 → Den R16) (k25 : Den A25 → Bool) (g25 : Den A25 → Den R25) (k26 : Den A26 → Bool) (g26 : Den A26 → Den R26) (x : Den A6) : Option (Den R6) :=
  let v0 := (k16 x)
  bif (v0) then
    let v1 := (g16 x)
    bif (v1.1) then
      some ((true), ())
    else
      let v2 := (k25 x)
      bif (v2) then
        let v3 := (g25 x)
        let v4 := (k26 v3)
        bif (v4) then
          let v5 := (g26 v3)
          bif (decide (v5.fst < 0)) then
            some ((v5.fst == -1), ())
          else
            bif (decide (v5.fst ≥ (↑(List.length v3.snd.snd.fst) : Int))) then
              some ((false), ())
            else
              bif (decide (v5.fst ≤ v3.snd.snd.snd.fst)) then
                some ((false), ())
              else
                let v6 := (IntKind.wrap IntKind.i64 (v5.fst + 1))
                bif (decide (0 ≤ 0) && decide (0 ≤ v6) && decide (v6 ≤ (↑(List.length v3.snd.snd.fst) : Int))) then
                  let v7 := (k26 (v3.fst, v3.snd.fst, List.drop (Int.toNat 0) (List.take (Int.toNat v6) v3.snd.snd.fst), v3.snd.snd.snd))
                  bif (v7) then
                    let v8 := (g26 (v3.fst, v3.snd.fst, List.drop (Int.toNat 0) (List.take (Int.toNat v6) v3.snd.snd.fst), v3.snd.snd.snd))
                    bif (v8.fst == v5.fst) then
                      bif (decide (0 ≤ 0) && decide (0 ≤ v5.fst) && decide (v5.fst ≤ (↑(List.length v3.snd.snd.fst) : Int))) then
                        let v9 := (k26 (v3.fst, v3.snd.fst, List.drop (Int.toNat 0) (List.take (Int.toNat v5.fst) v3.snd.snd.fst), v3.snd.snd.snd))
                        bif (v9) then
                          let v10 := (g26 (v3.fst, v3.snd.fst, List.drop (Int.toNat 0) (List.take (Int.toNat v5.fst) v3.snd.snd.fst), v3.snd.snd.snd))
                          some ((v10.fst == -1), ())
                        else
                          none
                      else
                        none
                    else
                      some ((false), ())
                  else
                    none
                else
                  none
        else
          none
      else
        none
  else
    none
theorem ev6 (k16 : Den A16 → Bool) (g16 : Den A16 → Den R16) (k25 : Den A25 → Bool) (g25 : Den A25 → Den R25) (k26 : Den A26 → Bool) (g26 : Den A26 → Den R26) (x : Den A6) : callK (Γ6 k16 g16 k25 g25 k26 g26) (bodyOf Try.f6) (decR R6) (encA A6 x) [] = r6 k16 g16 k25 g25 k26 g26 x := by kernel_rfl
def F6 (x : Den A6) : Option (Den R6) := r6 K16 G16 K25 G25 K26 G26 x
def K6 (x : Den A6) : Bool := (F6 x).isSome
def G6 (x : Den A6) : Den R6 := (F6 x).getD (zero R6)
theorem env6 : EnvOK Try.prog (Γ6 K16 G16 K25 G25 K26 G26) := env_ok mixed tab_ok eqs_ok (.cons sem16 (.cons sem25 (.cons sem26 .nil)))
theorem is6 : FnIs Try.prog 6 (Γ6 K16 G16 K25 G25 K26 G26) (bodyOf Try.f6) := fnIs Try.func6 rfl rfl rfl (by kernel_rfl) (noLoops (by kernel_rfl))
theorem sem6 : SemOK Try.prog (6, fnMean A6 R6 K6 G6) := fn_opt env6 is6 fun x => ev6 K16 G16 K25 G25 K26 G26 x

/- "loop.example/g03321/spec.DrawStartTime" mode S false -/
abbrev I27 : Sg := ⟨[.val (.slice (.int .u8))], []⟩
abbrev O27 : Sg := ⟨[.val (S42), .own (S95) 0, .val (.int .i64)], [.arr (S95)]⟩
noncomputable def Γ27 (k52 : I52.den → Bool) (g52 : I52.den → O52.den) (k71 : I71.den → Bool) (g71 : I71.den → O71.den) (k68 : I68.den → Bool) (g68 : I68.den → O68.den) (k54 : I54.den → Bool) (g54 : I54.den → O54.den) (k72 : I72.den → Bool) (g72 : I72.den → O72.den) (k73 : I73.den → Bool) (g73 : I73.den → O73.den) : Env := mkEnv tab eqs [(52, sgMean false I52 O52 k52 g52), (71, sgMean true I71 O71 k71 g71), (68, sgMean true I68 O68 k68 g68), (54, sgMean true I54 O54 k54 g54), (72, sgMean true I72 O72 k72 g72), (73, sgMean true I73 O73 k73 g73)] 25 [.cell 2 43, .tmp 3, .tmp 4] [] [] [] [] []
def r27 (k52 : I52.den → Bool) (g52 : I52.den → O52.den) (k71 : I71.den → Bool) (g71 : I71.den → O71.den) (k68 : I68.den → Bool) (g68 : I68.den → O68.den) (k54 : I54.den → Bool) (g54 : I54.den → O54.den) (k72 : I72.den → Bool) (g72 : I72.den → O72.den) (k73 : I73.den → Bool) (g73 : I73.den → O73.den) (x : I27.den) : Option (O27.den) :=
  let v0 := (k52 x)
  bif (v0) then
    let v1 := (g52 x)
    let v2 := (k71 (((), ()), v1.snd))
    bif (v2) then
      let v3 := (g71 (((), ()), v1.snd))
      let v4 := (k68 (((), ()), v3.snd))
      bif (v4) then
        let v5 := (g68 (((), ()), v3.snd))
        let v6 := (k54 (((), 15, ()), v5.snd.fst, ()))
        bif (v6) then
          let v7 := (g54 (((), 15, ()), v5.snd.fst, ()))
          bif (v7.fst.1) then
            let v8 := (k72 (((), ()), v7.snd))
            bif (v8) then
              let v9 := (g72 (((), ()), v7.snd))
              let v10 := (IntKind.wrap IntKind.i64 (v9.fst.fst - 500))
              some (((((v3.fst.fst.fst.1), ((v3.fst.fst.fst.snd.1), ())), (((v3.fst.fst.snd.fst.1), ((v3.fst.fst.snd.fst.snd.1), ())), ())), ((), ((v10), ()))), ((v5.snd.snd.1), ()))
            else
              none
          else
            let v8 := (k73 (((), 500, ()), v7.snd))
            bif (v8) then
              let v9 := (g73 (((), 500, ()), v7.snd))
              some (((((v3.fst.fst.fst.1), ((v3.fst.fst.fst.snd.1), ())), (((v3.fst.fst.snd.fst.1), ((v3.fst.fst.snd.fst.snd.1), ())), ())), ((), ((v9.fst.1), ()))), ((v5.snd.snd.1), ()))
            else
              none
        else
          none
      else
        none
    else
      none
  else
    none
theorem ev27 (k52 : I52.den → Bool) (g52 : I52.den → O52.den) (k71 : I71.den → Bool) (g71 : I71.den → O71.den) (k68 : I68.den → Bool) (g68 : I68.den → O68.den) (k54 : I54.den → Bool) (g54 : I54.den → O54.den) (k72 : I72.den → Bool) (g72 : I72.den → O72.den) (k73 : I73.den → Bool) (g73 : I73.den → O73.den) (x : I27.den) : callS (Γ27 k52 g52 k71 g71 k68 g68 k54 g54 k72 g72 k73 g73) (bodyOf Try.f27) I27 O27 x = r27 k52 g52 k71 g71 k68 g68 k54 g54 k72 g72 k73 g73 x := by kernel_rfl
def F27 (x : I27.den) : Option (O27.den) := r27 K52 G52 K71 G71 K68 G68 K54 G54 K72 G72 K73 G73 x
def K27 (x : I27.den) : Bool := (F27 x).isSome
def G27 (x : I27.den) : O27.den := (F27 x).getD (zeroSg O27)
theorem env27 : EnvOK Try.prog (Γ27 K52 G52 K71 G71 K68 G68 K54 G54 K72 G72 K73 G73) := env_ok mixed tab_ok eqs_ok (.cons sem52 (.cons sem71 (.cons sem68 (.cons sem54 (.cons sem72 (.cons sem73 .nil))))))
theorem is27 : FnIs Try.prog 27 (Γ27 K52 G52 K71 G71 K68 G68 K54 G54 K72 G72 K73 G73) (bodyOf Try.f27) := fnIs Try.func27 rfl rfl rfl (by kernel_rfl) (noLoops (by kernel_rfl))
theorem sem27 : SemOK Try.prog (27, sgMean false I27 O27 K27 G27) := sg_opt env27 is27 false fun x => ev27 K52 G52 K71 G71 K68 G68 K54 G54 K72 G72 K73 G73 x

/- "loop.example/g03321/impl.StartTime" -/
abbrev A28 : Ty := .cons (S42) (.cons (.slice (S95)) (.cons (.int .i64) (.nil)))
abbrev R28 : Ty := .cons (.int .i64) (.cons (.bool) (.nil))
noncomputable def Γ28 (k70 : Den A70 → Bool) (g70 : Den A70 → Den R70) (k74 : Den A74 → Bool) (g74 : Den A74 → Den R74) : Env := mkEnv tab eqs [(70, fnMean A70 R70 k70 g70), (74, fnMean A74 R74 k74 g74)] 23 [.tmp 6, .tmp 7] [] [] [] [] []
def r28 (k70 : Den A70 → Bool) (g70 : Den A70 → Den R70) (k74 : Den A74 → Bool) (g74 : Den A74 → Den R74) (x : Den A28) : Option (Den R28) :=
  let v0 := (k70 (x.snd.fst, ()))
  bif (v0) then
    let v1 := (g70 (x.snd.fst, ()))
    bif (!v1.fst) then
      some ((0), ((false), ()))
    else
      let v2 := (k74 (x.fst, x.snd.fst, 0, x.snd.snd))
      bif (v2) then
        let v3 := (g74 (x.fst, x.snd.fst, 0, x.snd.snd))
        some ((v3.snd.1), ((decide (v3.fst ≥ 0)), ()))
      else
        none
  else
    none
theorem ev28 (k70 : Den A70 → Bool) (g70 : Den A70 → Den R70) (k74 : Den A74 → Bool) (g74 : Den A74 → Den R74) (x : Den A28) : callK (Γ28 k70 g70 k74 g74) (bodyOf Try.f28) (decR R28) (encA A28 x) [] = r28 k70 g70 k74 g74 x := by kernel_rfl
def F28 (x : Den A28) : Option (Den R28) := r28 K70 G70 K74 G74 x
def K28 (x : Den A28) : Bool := (F28 x).isSome
def G28 (x : Den A28) : Den R28 := (F28 x).getD (zero R28)
theorem env28 : EnvOK Try.prog (Γ28 K70 G70 K74 G74) := env_ok mixed tab_ok eqs_ok (.cons sem70 (.cons sem74 .nil))
theorem is28 : FnIs Try.prog 28 (Γ28 K70 G70 K74 G74) (bodyOf Try.f28) := fnIs Try.func28 rfl rfl rfl (by kernel_rfl) (noLoops (by kernel_rfl))
theorem sem28 : SemOK Try.prog (28, fnMean A28 R28 K28 G28) := fn_opt env28 is28 fun x => ev28 K70 G70 K74 G74 x

/- "loop.example/g03321/spec.StartTime" -/
abbrev A29 : Ty := .cons (S42) (.cons (.slice (S95)) (.cons (.int .i64) (.nil)))
abbrev R29 : Ty := .cons (.int .i64) (.cons (.bool) (.nil))
abbrev V29_4 : Type := (((List (Den (S95))) × (Int × (Unit × (Int × Unit)))) × ((Int × (Int × (Int × (Int × Unit)))) × Unit))
def sh29_4 : ShS := ⟨[(1, .one (.sl (S95))), (2, .one (.int .i64)), (3, .one (.ptr 0 0)), (8, .one (.int .i64))], [(0, .box [.int .i64, .int .i64, .int .i64, .int .i64])], 1, 0⟩
abbrev X29_4 : Type := (Unit × Unit)
def shX29_4 : ShS := ⟨[], [], 0, 0⟩
abbrev Y29_4 : Type := ((Int × (Bool × Unit)) × Unit)
def shY29_4 : ShS := ⟨[(6, .one (.int .i64)), (7, .one (.bool))], [], 0, 0⟩
noncomputable def Γ29 (k75 : Den A75 → Bool) (g75 : Den A75 → Den R75) (k76 : Den A76 → Bool) (g76 : Den A76 → Den R76) (k77 : Den A77 → Bool) (g77 : Den A77 → Den R77) (kl4 : V29_4 → Bool) (xl4 : V29_4 → X29_4) (tl4 : V29_4 → Bool) (yl4 : V29_4 → Y29_4) : Env := mkEnv tab eqs [(75, fnMean A75 R75 k75 g75), (76, fnMean A76 R76 k76 g76), (77, fnMean A77 R77 k77 g77)] 58 [.tmp 6, .tmp 7] [] [] [(4, loopR [1, 2, 3, 8] [] 0 [] [] sh29_4 shX29_4 shY29_4 kl4 tl4 xl4 yl4)] [] []
noncomputable def lc29_4 : Code := (loopsOf (bodyOf Try.f29)).getD 0 .skip
def q29_4 (k75 : Den A75 → Bool) (g75 : Den A75 → Den R75) (k76 : Den A76 → Bool) (g76 : Den A76 → Den R76) (k77 : Den A77 → Bool) (g77 : Den A77 → Den R77) (f : V29_4 → Option (X29_4 ⊕ Y29_4)) (v : V29_4) : Option (X29_4 ⊕ Y29_4) :=
  let v0 := (IntKind.wrap IntKind.i64 (v.fst.snd.snd.snd.fst + 1))
  bif (decide (v0 < (↑(List.length v.fst.fst) : Int))) then
    bif (decide (0 ≤ v.fst.snd.snd.snd.fst) && decide (v.fst.snd.snd.snd.fst < (↑(List.length v.fst.fst) : Int))) then
      bif (decide (0 ≤ v0) && decide (v0 < (↑(List.length v.fst.fst) : Int))) then
        let v1 := (List.getD v.fst.fst (Int.toNat v.fst.snd.snd.snd.fst) (zero S95))
        let v2 := (List.getD v.fst.fst (Int.toNat v0) (zero S95))
        let v3 := (k76 (((v.snd.fst.fst, v.snd.fst.snd.fst, ()), v.snd.fst.snd.snd, ()), v1, v2, ()))
        bif (v3) then
          let v4 := (g76 (((v.snd.fst.fst, v.snd.fst.snd.fst, ()), v.snd.fst.snd.snd, ()), v1, v2, ()))
          bif (v4.snd.1) then
            bif (decide (v4.fst ≥ v.fst.snd.fst)) then
              bif (decide (0 ≤ v.fst.snd.snd.snd.fst) && decide (v.fst.snd.snd.snd.fst < (↑(List.length v.fst.fst) : Int))) then
                bif (decide (0 ≤ v0) && decide (v0 < (↑(List.length v.fst.fst) : Int))) then
                  let v5 := (k77 (((v.snd.fst.fst, v.snd.fst.snd.fst, ()), v.snd.fst.snd.snd, ()), v1.fst, v2.fst, ()))
                  bif (v5) then
                    let v6 := (g77 (((v.snd.fst.fst, v.snd.fst.snd.fst, ()), v.snd.fst.snd.snd, ()), v1.fst, v2.fst, ()))
                    bif (v6.fst == 1) then
                      some (Sum.inr (((v4.1), ((true), ())), ()))
                    else
                      f (((v.fst.1), ((v.fst.snd.1), ((), ((v0), ())))), (((v.snd.fst.1), ((v.snd.fst.snd.1), ((v.snd.fst.snd.snd.1), ((v.snd.fst.snd.snd.snd.1), ())))), ()))
                  else
                    none
                else
                  none
              else
                none
            else
              f (((v.fst.1), ((v.fst.snd.1), ((), ((v0), ())))), (((v.snd.fst.1), ((v.snd.fst.snd.1), ((v.snd.fst.snd.snd.1), ((v.snd.fst.snd.snd.snd.1), ())))), ()))
          else
            f (((v.fst.1), ((v.fst.snd.1), ((), ((v0), ())))), (((v.snd.fst.1), ((v.snd.fst.snd.1), ((v.snd.fst.snd.snd.1), ((v.snd.fst.snd.snd.snd.1), ())))), ()))
        else
          none
      else
        none
    else
      none
  else
    some (Sum.inl ((), ()))
theorem evl29_4 (k75 : Den A75 → Bool) (g75 : Den A75 → Den R75) (k76 : Den A76 → Bool) (g76 : Den A76 → Den R76) (k77 : Den A77 → Bool) (g77 : Den A77 → Den R77) (kl4 : V29_4 → Bool) (xl4 : V29_4 → X29_4) (tl4 : V29_4 → Bool) (yl4 : V29_4 → Y29_4) (f : V29_4 → Option (X29_4 ⊕ Y29_4)) (v : V29_4) : EBk (Γ29 k75 g75 k76 g76 k77 g77 kl4 xl4 tl4 yl4) lc29_4 (roundK [1, 2, 3, 8] [] 0 [] [] (atS sh29_4 f) (endS shX29_4 shY29_4)) (mkS sh29_4 v) = q29_4 k75 g75 k76 g76 k77 g77 f v := by kernel_rfl
def b29_4 (v : V29_4) : Nat := v.1.1.length + v.1.2.1.natAbs + v.1.2.2.2.1.natAbs + v.2.1.1.natAbs + v.2.1.2.1.natAbs + v.2.1.2.2.1.natAbs + v.2.1.2.2.2.1.natAbs + 1000
def l29_4 (v : V29_4) : Option (X29_4 ⊕ Y29_4) := iter (q29_4 K75 G75 K76 G76 K77 G77) (b29_4 v) v
def kL29_4 (v : V29_4) : Bool := (l29_4 v).isSome
def tL29_4 (v : V29_4) : Bool := isR (l29_4 v)
def xL29_4 (v : V29_4) : X29_4 := xOf ((), ()) (l29_4 v)
def yL29_4 (v : V29_4) : Y29_4 := yOf ((0, (false, ())), ()) (l29_4 v)
def r29 (k75 : Den A75 → Bool) (g75 : Den A75 → Den R75) (k76 : Den A76 → Bool) (g76 : Den A76 → Den R76) (k77 : Den A77 → Bool) (g77 : Den A77 → Den R77) (kl4 : V29_4 → Bool) (xl4 : V29_4 → X29_4) (tl4 : V29_4 → Bool) (yl4 : V29_4 → Y29_4) (x : Den A29) : Option (Den R29) :=
  let v0 := (k75 (x.snd.fst, ()))
  bif (v0) then
    let v1 := (g75 (x.snd.fst, ()))
    bif (!v1.fst) then
      some ((0), ((false), ()))
    else
      let v2 := (kl4 ((x.snd.fst, x.snd.snd.fst, (), 0, ()), (x.fst.fst.fst, x.fst.fst.snd.fst, x.fst.snd.fst), ()))
      bif (v2) then
        let v3 := (tl4 ((x.snd.fst, x.snd.snd.fst, (), 0, ()), (x.fst.fst.fst, x.fst.fst.snd.fst, x.fst.snd.fst), ()))
        bif (v3) then
          let v4 := (yl4 ((x.snd.fst, x.snd.snd.fst, (), 0, ()), (x.fst.fst.fst, x.fst.fst.snd.fst, x.fst.snd.fst), ()))
          some ((v4.fst.1), ((v4.fst.snd.1), ()))
        else
          some ((0), ((false), ()))
      else
        none
  else
    none
theorem ev29 (k75 : Den A75 → Bool) (g75 : Den A75 → Den R75) (k76 : Den A76 → Bool) (g76 : Den A76 → Den R76) (k77 : Den A77 → Bool) (g77 : Den A77 → Den R77) (kl4 : V29_4 → Bool) (xl4 : V29_4 → X29_4) (tl4 : V29_4 → Bool) (yl4 : V29_4 → Y29_4) (x : Den A29) : callK (Γ29 k75 g75 k76 g76 k77 g77 kl4 xl4 tl4 yl4) (bodyOf Try.f29) (decR R29) (encA A29 x) [] = r29 k75 g75 k76 g76 k77 g77 kl4 xl4 tl4 yl4 x := by kernel_rfl
def F29 (x : Den A29) : Option (Den R29) := r29 K75 G75 K76 G76 K77 G77 kL29_4 xL29_4 tL29_4 yL29_4 x
def K29 (x : Den A29) : Bool := (F29 x).isSome
def G29 (x : Den A29) : Den R29 := (F29 x).getD (zero R29)
theorem env29 : EnvOK Try.prog (Γ29 K75 G75 K76 G76 K77 G77 kL29_4 xL29_4 tL29_4 yL29_4) := env_ok mixed tab_ok eqs_ok (.cons sem75 (.cons sem76 (.cons sem77 .nil)))
theorem is29 : FnIs Try.prog 29 (Γ29 K75 G75 K76 G76 K77 G77 kL29_4 xL29_4 tL29_4 yL29_4) (bodyOf Try.f29) := fnIs Try.func29 rfl rfl rfl (by kernel_rfl) (loops_ok (l := [lc29_4]) (by kernel_rfl) (.cons (one_loop rfl (loopR_sound (sh := sh29_4) (shX := shX29_4) (shR := shY29_4) (fun f v => evl29_4 K75 G75 K76 G76 K77 G77 kL29_4 xL29_4 tL29_4 yL29_4 f v) b29_4 ((), ()) ((0, (false, ())), ()))) (.nil)))
theorem sem29 : SemOK Try.prog (29, fnMean A29 R29 K29 G29) := fn_opt env29 is29 fun x => ev29 K75 G75 K76 G76 K77 G77 kL29_4 xL29_4 tL29_4 yL29_4 x

/- "loop.example/g03321/laws.FnStartLater" -/
abbrev A7 : Ty := .cons (.slice (.int .u8)) (.nil)
abbrev R7 : Ty := .cons (.bool) (.nil)
noncomputable def Γ7 (k16 : Den A16 → Bool) (g16 : Den A16 → Den R16) (k27 : I27.den → Bool) (g27 : I27.den → O27.den) (k28 : Den A28 → Bool) (g28 : Den A28 → Den R28) (k29 : Den A29 → Bool) (g29 : Den A29 → Den R29) : Env := mkEnv tab eqs [(16, fnMean A16 R16 k16 g16), (27, sgMean false I27 O27 k27 g27), (28, fnMean A28 R28 k28 g28), (29, fnMean A29 R29 k29 g29)] 69 [.tmp 2] [] [] [] [] []
def r7 (k16 : Den A16 → Bool) (g16 : Den A16 → Den R16) (k27 : I27.den → Bool) (g27 : I27.den → O27.den) (k28 : Den A28 → Bool) (g28 : Den A28 → Den R28) (k29 : Den A29 → Bool) (g29 : Den A29 → Den R29) (x : Den A7) : Option (Den R7) :=
  let v0 := (k16 x)
  bif (v0) then
    let v1 := (g16 x)
    bif (v1.1) then
      some ((true), ())
    else
      let v2 := (k27 (x, ()))
      bif (v2) then
        let v3 := (g27 (x, ()))
        let v4 := (k28 (v3.fst.fst, v3.snd.fst, v3.fst.snd.snd))
        bif (v4) then
          let v5 := (k29 (v3.fst.fst, v3.snd.fst, v3.fst.snd.snd))
          bif (v5) then
            let v6 := (g28 (v3.fst.fst, v3.snd.fst, v3.fst.snd.snd))
            let v7 := (g29 (v3.fst.fst, v3.snd.fst, v3.fst.snd.snd))
            bif (!v6.snd.fst == v7.snd.fst) then
              some ((false), ())
            else
              bif (!v6.snd.fst) then
                some ((v6.fst == 0), ())
              else
                let v8 := (IntKind.wrap IntKind.i64 (v6.fst + 1))
                let v9 := (k28 (v3.fst.fst, v3.snd.fst, v8, ()))
                bif (v9) then
                  bif (decide (v6.fst ≥ v3.fst.snd.snd.fst)) then
                    bif (decide (v6.fst ≥ 0)) then
                      bif (decide (v6.fst ≤ 10000000)) then
                        let v10 := (g28 (v3.fst.fst, v3.snd.fst, v8, ()))
                        bif (!v10.snd.fst) then
                          some ((true), ())
                        else
                          some ((decide (v10.fst > v6.fst)), ())
                      else
                        some ((false), ())
                    else
                      some ((false), ())
                  else
                    some ((false), ())
                else
                  none
          else
            none
        else
          none
      else
        none
  else
    none
theorem ev7 (k16 : Den A16 → Bool) (g16 : Den A16 → Den R16) (k27 : I27.den → Bool) (g27 : I27.den → O27.den) (k28 : Den A28 → Bool) (g28 : Den A28 → Den R28) (k29 : Den A29 → Bool) (g29 : Den A29 → Den R29) (x : Den A7) : callK (Γ7 k16 g16 k27 g27 k28 g28 k29 g29) (bodyOf Try.f7) (decR R7) (encA A7 x) [] = r7 k16 g16 k27 g27 k28 g28 k29 g29 x := by kernel_rfl
def F7 (x : Den A7) : Option (Den R7) := r7 K16 G16 K27 G27 K28 G28 K29 G29 x
def K7 (x : Den A7) : Bool := (F7 x).isSome
def G7 (x : Den A7) : Den R7 := (F7 x).getD (zero R7)
theorem env7 : EnvOK Try.prog (Γ7 K16 G16 K27 G27 K28 G28 K29 G29) := env_ok mixed tab_ok eqs_ok (.cons sem16 (.cons sem27 (.cons sem28 (.cons sem29 .nil))))
theorem is7 : FnIs Try.prog 7 (Γ7 K16 G16 K27 G27 K28 G28 K29 G29) (bodyOf Try.f7) := fnIs Try.func7 rfl rfl rfl (by kernel_rfl) (noLoops (by kernel_rfl))
theorem sem7 : SemOK Try.prog (7, fnMean A7 R7 K7 G7) := fn_opt env7 is7 fun x => ev7 K16 G16 K27 G27 K28 G28 K29 G29 x

/- "loop.example/g03321/spec.DrawProgress" -/
abbrev A30 : Ty := .cons (.slice (.int .u8)) (.nil)
abbrev R30 : Ty := .cons (S45) (.cons (.slice (S95)) (.cons (.int .i64) (.nil)))
noncomputable def Γ30 (k25 : Den A25 → Bool) (g25 : Den A25 → Den R25) : Env := mkEnv tab eqs [(25, fnMean A25 R25 k25 g25)] 25 [.cell 2 46, .tmp 3, .tmp 4] [] [] [] [] []
def r30 (k25 : Den A25 → Bool) (g25 : Den A25 → Den R25) (x : Den A30) : Option (Den R30) :=
  let v0 := (k25 x)
  bif (v0) then
    bif (Int.tmod (↑(List.length x.fst) : Int) 2 == 0) then
      let v1 := (g25 x)
      some (((((v1.fst.fst.fst.1), ((v1.fst.fst.fst.snd.1), ())), (((v1.fst.fst.snd.fst.1), ((v1.fst.fst.snd.fst.snd.1), ())), ())), ((v1.fst.snd.1), ((((v1.fst.snd.snd.fst.fst.1), ((v1.fst.snd.snd.fst.fst.snd.1), ())), (((v1.fst.snd.snd.fst.snd.fst.1), ((v1.fst.snd.snd.fst.snd.fst.snd.1), ())), ())), ()))), ((v1.snd.snd.1), ((0), ())))
    else
      let v1 := (g25 x)
      some (((((v1.fst.fst.fst.1), ((v1.fst.fst.fst.snd.1), ())), (((v1.fst.fst.snd.fst.1), ((v1.fst.fst.snd.fst.snd.1), ())), ())), ((v1.fst.snd.1), ((((v1.fst.snd.snd.fst.fst.1), ((v1.fst.snd.snd.fst.fst.snd.1), ())), (((v1.fst.snd.snd.fst.snd.fst.1), ((v1.fst.snd.snd.fst.snd.fst.snd.1), ())), ())), ()))), ((v1.snd.snd.1), ((v1.snd.snd.snd.1), ())))
  else
    none
theorem ev30 (k25 : Den A25 → Bool) (g25 : Den A25 → Den R25) (x : Den A30) : callK (Γ30 k25 g25) (bodyOf Try.f30) (decR R30) (encA A30 x) [] = r30 k25 g25 x := by kernel_rfl
def F30 (x : Den A30) : Option (Den R30) := r30 K25 G25 x
def K30 (x : Den A30) : Bool := (F30 x).isSome
def G30 (x : Den A30) : Den R30 := (F30 x).getD (zero R30)
theorem env30 : EnvOK Try.prog (Γ30 K25 G25) := env_ok mixed tab_ok eqs_ok (.cons sem25 .nil)
theorem is30 : FnIs Try.prog 30 (Γ30 K25 G25) (bodyOf Try.f30) := fnIs Try.func30 rfl rfl rfl (by kernel_rfl) (noLoops (by kernel_rfl))
theorem sem30 : SemOK Try.prog (30, fnMean A30 R30 K30 G30) := fn_opt env30 is30 fun x => ev30 K25 G25 x

/- "loop.example/g03321/laws.FnProgressRises" -/
abbrev A8 : Ty := .cons (.slice (.int .u8)) (.nil)
abbrev R8 : Ty := .cons (.bool) (.nil)
abbrev V8_8 : Type := ((Unit × ((List (Den (S95))) × (Int × (Unit × (Int × Unit))))) × ((Int × (Int × (Int × (Int × ((List (Den (S82))) × (Int × (Int × (Int × (Int × Unit))))))))) × ((List (Den (.int .i64))) × Unit)))
def sh8_8 : ShS := ⟨[(3, .one (.ptr 0 0)), (4, .one (.sl (S95))), (5, .one (.int .i64)), (6, .one (.ref (.int .i64) 1)), (7, .one (.int .i64))], [(0, .box [.int .i64, .int .i64, .int .i64, .int .i64, .sl (S82), .int .i64, .int .i64, .int .i64, .int .i64]), (1, .arr (.int .i64))], 2, 0⟩
abbrev X8_8 : Type := ((Unit × ((List (Den (S95))) × (Int × (Unit × Unit)))) × ((Int × (Int × (Int × (Int × ((List (Den (S82))) × (Int × (Int × (Int × (Int × Unit))))))))) × ((List (Den (.int .i64))) × Unit)))
def shX8_8 : ShS := ⟨[(3, .one (.ptr 0 0)), (4, .one (.sl (S95))), (5, .one (.int .i64)), (6, .one (.ref (.int .i64) 1))], [(0, .box [.int .i64, .int .i64, .int .i64, .int .i64, .sl (S82), .int .i64, .int .i64, .int .i64, .int .i64]), (1, .arr (.int .i64))], 2, 0⟩
abbrev Y8_8 : Type := ((Bool × Unit) × Unit)
def shY8_8 : ShS := ⟨[(2, .one (.bool))], [], 0, 0⟩
noncomputable def Γ8 (k16 : Den A16 → Bool) (g16 : Den A16 → Den R16) (k30 : Den A30 → Bool) (g30 : Den A30 → Den R30) (k31 : I31.den → Bool) (g31 : I31.den → O31.den) (k26 : Den A26 → Bool) (g26 : Den A26 → Den R26) (kl8 : V8_8 → Bool) (xl8 : V8_8 → X8_8) (tl8 : V8_8 → Bool) (yl8 : V8_8 → Y8_8) : Env := mkEnv tab eqs [(16, fnMean A16 R16 k16 g16), (30, fnMean A30 R30 k30 g30), (31, sgMean false I31 O31 k31 g31), (26, fnMean A26 R26 k26 g26)] 69 [.tmp 2] [] [] [(8, loopR [3, 4, 5, 6, 7] [] 0 [3, 4, 5, 6] [] sh8_8 shX8_8 shY8_8 kl8 tl8 xl8 yl8)] [] []
noncomputable def lc8_8 : Code := (loopsOf (bodyOf Try.f8)).getD 0 .skip
def q8_8 (k16 : Den A16 → Bool) (g16 : Den A16 → Den R16) (k30 : Den A30 → Bool) (g30 : Den A30 → Den R30) (k31 : I31.den → Bool) (g31 : I31.den → O31.den) (k26 : Den A26 → Bool) (g26 : Den A26 → Den R26) (f : V8_8 → Option (X8_8 ⊕ Y8_8)) (v : V8_8) : Option (X8_8 ⊕ Y8_8) :=
  bif (decide (v.fst.snd.snd.snd.snd.fst < (↑(List.length v.snd.snd.fst) : Int))) then
    let v0 := (k26 ((((v.snd.fst.fst, v.snd.fst.snd.fst, ()), (v.snd.fst.snd.snd.fst, v.snd.fst.snd.snd.snd.fst, ()), ()), v.snd.fst.snd.snd.snd.snd.fst, ((v.snd.fst.snd.snd.snd.snd.snd.fst, v.snd.fst.snd.snd.snd.snd.snd.snd.fst, ()), v.snd.fst.snd.snd.snd.snd.snd.snd.snd, ()), ()), v.fst.snd.snd.snd.snd.fst, v.fst.snd.fst, v.fst.snd.snd.fst, ()))
    bif (v0) then
      bif (decide (0 ≤ v.fst.snd.snd.snd.snd.fst) && decide (v.fst.snd.snd.snd.snd.fst < (↑(List.length v.snd.snd.fst) : Int))) then
        let v1 := (g26 ((((v.snd.fst.fst, v.snd.fst.snd.fst, ()), (v.snd.fst.snd.snd.fst, v.snd.fst.snd.snd.snd.fst, ()), ()), v.snd.fst.snd.snd.snd.snd.fst, ((v.snd.fst.snd.snd.snd.snd.snd.fst, v.snd.fst.snd.snd.snd.snd.snd.snd.fst, ()), v.snd.fst.snd.snd.snd.snd.snd.snd.snd, ()), ()), v.fst.snd.snd.snd.snd.fst, v.fst.snd.fst, v.fst.snd.snd.fst, ()))
        let v2 := (List.getD v.snd.snd.fst (Int.toNat v.fst.snd.snd.snd.snd.fst) (zero (Ty.int IntKind.i64)))
        bif (v1.fst != v2) then
          some (Sum.inr (((false), ()), ()))
        else
          bif (decide (0 ≤ v.fst.snd.snd.snd.snd.fst) && decide (v.fst.snd.snd.snd.snd.fst < (↑(List.length v.snd.snd.fst) : Int))) then
            bif (decide (v2 ≤ v.fst.snd.snd.fst)) then
              some (Sum.inr (((false), ()), ()))
            else
              bif (decide (0 ≤ v.fst.snd.snd.snd.snd.fst) && decide (v.fst.snd.snd.snd.snd.fst < (↑(List.length v.snd.snd.fst) : Int))) then
                let v3 := (IntKind.wrap IntKind.i64 (v.fst.snd.snd.snd.snd.fst + 1))
                f (((), ((v.fst.snd.1), ((v2), ((), ((v3), ()))))), (((v.snd.fst.1), ((v.snd.fst.snd.1), ((v.snd.fst.snd.snd.1), ((v.snd.fst.snd.snd.snd.1), ((v.snd.fst.snd.snd.snd.snd.1), ((v.snd.fst.snd.snd.snd.snd.snd.1), ((v.snd.fst.snd.snd.snd.snd.snd.snd.1), ((v.snd.fst.snd.snd.snd.snd.snd.snd.snd.1), ((v.snd.fst.snd.snd.snd.snd.snd.snd.snd.snd.1), ()))))))))), ((v.snd.snd.1), ())))
              else
                none
          else
            none
      else
        none
    else
      none
  else
    some (Sum.inl (((), ((v.fst.snd.1), ((v.fst.snd.snd.1), ((), ())))), (((v.snd.fst.1), ((v.snd.fst.snd.1), ((v.snd.fst.snd.snd.1), ((v.snd.fst.snd.snd.snd.1), ((v.snd.fst.snd.snd.snd.snd.1), ((v.snd.fst.snd.snd.snd.snd.snd.1), ((v.snd.fst.snd.snd.snd.snd.snd.snd.1), ((v.snd.fst.snd.snd.snd.snd.snd.snd.snd.1), ((v.snd.fst.snd.snd.snd.snd.snd.snd.snd.snd.1), ()))))))))), ((v.snd.snd.1), ()))))
theorem evl8_8 (k16 : Den A16 → Bool) (g16 : Den A16 → Den R16) (k30 : Den A30 → Bool) (g30 : Den A30 → Den R30) (k31 : I31.den → Bool) (g31 : I31.den → O31.den) (k26 : Den A26 → Bool) (g26 : Den A26 → Den R26) (kl8 : V8_8 → Bool) (xl8 : V8_8 → X8_8) (tl8 : V8_8 → Bool) (yl8 : V8_8 → Y8_8) (f : V8_8 → Option (X8_8 ⊕ Y8_8)) (v : V8_8) : EBk (Γ8 k16 g16 k30 g30 k31 g31 k26 g26 kl8 xl8 tl8 yl8) lc8_8 (roundK [3, 4, 5, 6, 7] [] 0 [3, 4, 5, 6] [] (atS sh8_8 f) (endS shX8_8 shY8_8)) (mkS sh8_8 v) = q8_8 k16 g16 k30 g30 k31 g31 k26 g26 f v := by kernel_rfl
def b8_8 (v : V8_8) : Nat := v.1.2.1.length + v.1.2.2.1.natAbs + v.1.2.2.2.2.1.natAbs + v.2.1.1.natAbs + v.2.1.2.1.natAbs + v.2.1.2.2.1.natAbs + v.2.1.2.2.2.1.natAbs + v.2.1.2.2.2.2.1.length + v.2.1.2.2.2.2.2.1.natAbs + v.2.1.2.2.2.2.2.2.1.natAbs + v.2.1.2.2.2.2.2.2.2.1.natAbs + v.2.1.2.2.2.2.2.2.2.2.1.natAbs + v.2.2.1.length + 1000
def l8_8 (v : V8_8) : Option (X8_8 ⊕ Y8_8) := iter (q8_8 K16 G16 K30 G30 K31 G31 K26 G26) (b8_8 v) v
def kL8_8 (v : V8_8) : Bool := (l8_8 v).isSome
def tL8_8 (v : V8_8) : Bool := isR (l8_8 v)
def xL8_8 (v : V8_8) : X8_8 := xOf (((), ([], (0, ((), ())))), ((0, (0, (0, (0, ([], (0, (0, (0, (0, ()))))))))), ([], ()))) (l8_8 v)
def yL8_8 (v : V8_8) : Y8_8 := yOf ((false, ()), ()) (l8_8 v)
def r8 (k16 : Den A16 → Bool) (g16 : Den A16 → Den R16) (k30 : Den A30 → Bool) (g30 : Den A30 → Den R30) (k31 : I31.den → Bool) (g31 : I31.den → O31.den) (k26 : Den A26 → Bool) (g26 : Den A26 → Den R26) (kl8 : V8_8 → Bool) (xl8 : V8_8 → X8_8) (tl8 : V8_8 → Bool) (yl8 : V8_8 → Y8_8) (x : Den A8) : Option (Den R8) :=
  let v0 := (k16 x)
  bif (v0) then
    let v1 := (g16 x)
    bif (v1.1) then
      some ((true), ())
    else
      let v2 := (k30 x)
      bif (v2) then
        let v3 := (g30 x)
        let v4 := (k31 (v3, ()))
        bif (v4) then
          let v5 := (g31 (v3, ()))
          bif (decide ((↑(List.length v5.snd.fst) : Int) > (↑(List.length v3.fst.snd.fst) : Int))) then
            some ((false), ())
          else
            let v6 := (kl8 (((), v3.snd.fst, v3.snd.snd.fst, (), 0, ()), (v3.fst.fst.fst.fst, v3.fst.fst.fst.snd.fst, v3.fst.fst.snd.fst.fst, v3.fst.fst.snd.fst.snd.fst, v3.fst.snd.fst, v3.fst.snd.snd.fst.fst.fst, v3.fst.snd.snd.fst.fst.snd.fst, v3.fst.snd.snd.fst.snd.fst), v5.snd))
            bif (v6) then
              let v7 := (tl8 (((), v3.snd.fst, v3.snd.snd.fst, (), 0, ()), (v3.fst.fst.fst.fst, v3.fst.fst.fst.snd.fst, v3.fst.fst.snd.fst.fst, v3.fst.fst.snd.fst.snd.fst, v3.fst.snd.fst, v3.fst.snd.snd.fst.fst.fst, v3.fst.snd.snd.fst.fst.snd.fst, v3.fst.snd.snd.fst.snd.fst), v5.snd))
              bif (v7) then
                let v8 := (yl8 (((), v3.snd.fst, v3.snd.snd.fst, (), 0, ()), (v3.fst.fst.fst.fst, v3.fst.fst.fst.snd.fst, v3.fst.fst.snd.fst.fst, v3.fst.fst.snd.fst.snd.fst, v3.fst.snd.fst, v3.fst.snd.snd.fst.fst.fst, v3.fst.snd.snd.fst.fst.snd.fst, v3.fst.snd.snd.fst.snd.fst), v5.snd))
                some ((v8.fst.1), ())
              else
                let v8 := (xl8 (((), v3.snd.fst, v3.snd.snd.fst, (), 0, ()), (v3.fst.fst.fst.fst, v3.fst.fst.fst.snd.fst, v3.fst.fst.snd.fst.fst, v3.fst.fst.snd.fst.snd.fst, v3.fst.snd.fst, v3.fst.snd.snd.fst.fst.fst, v3.fst.snd.snd.fst.fst.snd.fst, v3.fst.snd.snd.fst.snd.fst), v5.snd))
                bif ((↑(List.length v8.snd.snd.fst) : Int) == (↑(List.length v8.snd.fst.snd.snd.snd.snd.fst) : Int)) then
                  some ((true), ())
                else
                  let v9 := (k26 ((((v8.snd.fst.fst, v8.snd.fst.snd.fst, ()), (v8.snd.fst.snd.snd.fst, v8.snd.fst.snd.snd.snd.fst, ()), ()), v8.snd.fst.snd.snd.snd.snd.fst, ((v8.snd.fst.snd.snd.snd.snd.snd.fst, v8.snd.fst.snd.snd.snd.snd.snd.snd.fst, ()), v8.snd.fst.snd.snd.snd.snd.snd.snd.snd, ()), ()), (↑(List.length v8.snd.snd.fst) : Int), v8.fst.snd.fst, v8.fst.snd.snd.fst, ()))
                  bif (v9) then
                    let v10 := (g26 ((((v8.snd.fst.fst, v8.snd.fst.snd.fst, ()), (v8.snd.fst.snd.snd.fst, v8.snd.fst.snd.snd.snd.fst, ()), ()), v8.snd.fst.snd.snd.snd.snd.fst, ((v8.snd.fst.snd.snd.snd.snd.snd.fst, v8.snd.fst.snd.snd.snd.snd.snd.snd.fst, ()), v8.snd.fst.snd.snd.snd.snd.snd.snd.snd, ()), ()), (↑(List.length v8.snd.snd.fst) : Int), v8.fst.snd.fst, v8.fst.snd.snd.fst, ()))
                    some ((v10.fst == -1), ())
                  else
                    none
            else
              none
        else
          none
      else
        none
  else
    none
theorem ev8 (k16 : Den A16 → Bool) (g16 : Den A16 → Den R16) (k30 : Den A30 → Bool) (g30 : Den A30 → Den R30) (k31 : I31.den → Bool) (g31 : I31.den → O31.den) (k26 : Den A26 → Bool) (g26 : Den A26 → Den R26) (kl8 : V8_8 → Bool) (xl8 : V8_8 → X8_8) (tl8 : V8_8 → Bool) (yl8 : V8_8 → Y8_8) (x : Den A8) : callK (Γ8 k16 g16 k30 g30 k31 g31 k26 g26 kl8 xl8 tl8 yl8) (bodyOf Try.f8) (decR R8) (encA A8 x) [] = r8 k16 g16 k30 g30 k31 g31 k26 g26 kl8 xl8 tl8 yl8 x := by kernel_rfl
def F8 (x : Den A8) : Option (Den R8) := r8 K16 G16 K30 G30 K31 G31 K26 G26 kL8_8 xL8_8 tL8_8 yL8_8 x
def K8 (x : Den A8) : Bool := (F8 x).isSome
def G8 (x : Den A8) : Den R8 := (F8 x).getD (zero R8)
theorem env8 : EnvOK Try.prog (Γ8 K16 G16 K30 G30 K31 G31 K26 G26 kL8_8 xL8_8 tL8_8 yL8_8) := env_ok mixed tab_ok eqs_ok (.cons sem16 (.cons sem30 (.cons sem31 (.cons sem26 .nil))))
theorem is8 : FnIs Try.prog 8 (Γ8 K16 G16 K30 G30 K31 G31 K26 G26 kL8_8 xL8_8 tL8_8 yL8_8) (bodyOf Try.f8) := fnIs Try.func8 rfl rfl rfl (by kernel_rfl) (loops_ok (l := [lc8_8]) (by kernel_rfl) (.cons (one_loop rfl (loopR_sound (sh := sh8_8) (shX := shX8_8) (shR := shY8_8) (fun f v => evl8_8 K16 G16 K30 G30 K31 G31 K26 G26 kL8_8 xL8_8 tL8_8 yL8_8 f v) b8_8 (((), ([], (0, ((), ())))), ((0, (0, (0, (0, ([], (0, (0, (0, (0, ()))))))))), ([], ()))) ((false, ()), ()))) (.nil)))
theorem sem8 : SemOK Try.prog (8, fnMean A8 R8 K8 G8) := fn_opt env8 is8 fun x => ev8 K16 G16 K30 G30 K31 G31 K26 G26 kL8_8 xL8_8 tL8_8 yL8_8 x

end Go.Proofs.Ytibbdoohekjmaaa.AM
