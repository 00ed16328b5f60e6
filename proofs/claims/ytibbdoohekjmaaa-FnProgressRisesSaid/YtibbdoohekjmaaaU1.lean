/- What functions of the program make of their arguments; each is what its evaluation says. Printed by fx.py. -/
import Derived.Test.YtibbdoohekjmaaaT0
import Derived.Test.YtibbdoohekjmaaaU0
namespace Go.Proofs.Ytibbdoohekjmaaa.AM
open Go Go.Proofs
set_option linter.unusedVariables false
set_option maxRecDepth 100000
set_option maxHeartbeats 0

/- "loop.example/g03321/laws.szSightS" -/
abbrev A32 : Ty := .cons (.slice (S104)) (.cons (.int .i64) (.nil))
abbrev R32 : Ty := .cons (.int .i64) (.nil)
noncomputable def Γ32 : Env := mkEnv tab eqs [] 12 [.tmp 4] [] [] [] [] []
def r32 (x : Den A32) : Option (Den R32) :=
  let v0 := (IntKind.wrap IntKind.i64 (x.snd.fst - (↑(List.length x.fst) : Int)))
  bif (decide (v0 < 0)) then
    some ((-1), ())
  else
    some ((v0), ())
theorem ev32 (x : Den A32) : callK (Γ32) (bodyOf Try.f32) (decR R32) (encA A32 x) [] = r32 x := by kernel_rfl
def F32 (x : Den A32) : Option (Den R32) := r32 x
def K32 (x : Den A32) : Bool := (F32 x).isSome
def G32 (x : Den A32) : Den R32 := (F32 x).getD (zero R32)
theorem env32 : EnvOK Try.prog (Γ32) := env_ok mixed tab_ok eqs_ok .nil
theorem is32 : FnIs Try.prog 32 (Γ32) (bodyOf Try.f32) := fnIs Try.func32 rfl rfl rfl (by kernel_rfl) (noLoops (by kernel_rfl))
theorem sem32 : SemOK Try.prog (32, fnMean A32 R32 K32 G32) := fn_opt env32 is32 fun x => ev32 x

/- "loop.example/g03321/laws.toSight" -/
abbrev A78 : Ty := .cons (S104) (.nil)
abbrev R78 : Ty := .cons (S95) (.nil)
noncomputable def Γ78 (k14 : Den A14 → Bool) (g14 : Den A14 → Den R14) : Env := mkEnv tab eqs [(14, fnMean A14 R14 k14 g14)] 12 [.cell 2 96] [] [] [] [] []
def r78 (k14 : Den A14 → Bool) (g14 : Den A14 → Den R14) (x : Den A78) : Option (Den R78) :=
  let v0 := (k14 (x.fst.fst, ()))
  bif (v0) then
    let v1 := (g14 (x.fst.fst, ()))
    some ((((v1.fst.1), ((v1.fst.snd.1), ())), ((x.fst.snd.1), ())), ())
  else
    none
theorem ev78 (k14 : Den A14 → Bool) (g14 : Den A14 → Den R14) (x : Den A78) : callK (Γ78 k14 g14) (bodyOf Try.f78) (decR R78) (encA A78 x) [] = r78 k14 g14 x := by kernel_rfl
def F78 (x : Den A78) : Option (Den R78) := r78 K14 G14 x
def K78 (x : Den A78) : Bool := (F78 x).isSome
def G78 (x : Den A78) : Den R78 := (F78 x).getD (zero R78)
theorem env78 : EnvOK Try.prog (Γ78 K14 G14) := env_ok mixed tab_ok eqs_ok (.cons sem14 .nil)
theorem is78 : FnIs Try.prog 78 (Γ78 K14 G14) (bodyOf Try.f78) := fnIs Try.func78 rfl rfl rfl (by kernel_rfl) (noLoops (by kernel_rfl))
theorem sem78 : SemOK Try.prog (78, fnMean A78 R78 K78 G78) := fn_opt env78 is78 fun x => ev78 K14 G14 x

/- "loop.example/g03321/laws.toSightS" mode S false -/
abbrev I34 : Sg := ⟨[.val (.slice (S104))], []⟩
abbrev O34 : Sg := ⟨[.own (S95) 0], [.arr (S95)]⟩
abbrev V34_3 : Type := (((List (Den (S95))) × (Unit × (Int × Unit))) × ((List (Den (S95))) × Unit))
def sh34_3 : ShS := ⟨[(0, .one (.sl (S95))), (3, .one (.ref (S95) 0)), (4, .one (.int .i64))], [(0, .arr (S95))], 1, 0⟩
abbrev X34_3 : Type := ((Unit × Unit) × ((List (Den (S95))) × Unit))
def shX34_3 : ShS := ⟨[(3, .one (.ref (S95) 0))], [(0, .arr (S95))], 1, 0⟩
noncomputable def Γ34 (k78 : Den A78 → Bool) (g78 : Den A78 → Den R78) (kl3 : V34_3 → Bool) (xl3 : V34_3 → X34_3) : Env := mkEnv tab eqs [(78, fnMean A78 R78 k78 g78)] 23 [.tmp 2] [] [] [(3, loopX [0, 3, 4] [] 0 [3] [] sh34_3 shX34_3 kl3 xl3)] [] []
noncomputable def lc34_3 : Code := (loopsOf (bodyOf Try.f34)).getD 0 .skip
def q34_3 (k78 : Den A78 → Bool) (g78 : Den A78 → Den R78) (f : V34_3 → Option (X34_3)) (v : V34_3) : Option (X34_3) :=
  bif (decide (v.fst.snd.snd.fst < (↑(List.length v.fst.fst) : Int))) then
    bif (decide (0 ≤ v.fst.snd.snd.fst) && decide (v.fst.snd.snd.fst < (↑(List.length v.fst.fst) : Int))) then
      let v0 := (List.getD v.fst.fst (Int.toNat v.fst.snd.snd.fst) (zero S95))
      let v1 := (k78 (v0, ()))
      bif (v1) then
        bif (decide (0 ≤ v.fst.snd.snd.fst) && decide (v.fst.snd.snd.fst < (↑(List.length v.snd.fst) : Int))) then
          let v2 := (IntKind.wrap IntKind.i64 (v.fst.snd.snd.fst + 1))
          let v3 := (g78 (v0, ()))
          let v4 := (List.set v.snd.fst (Int.toNat v.fst.snd.snd.fst) v3.fst)
          f (((v.fst.1), ((), ((v2), ()))), ((v4), ()))
        else
          none
      else
        none
    else
      none
  else
    some (((), ()), ((v.snd.1), ()))
theorem evl34_3 (k78 : Den A78 → Bool) (g78 : Den A78 → Den R78) (kl3 : V34_3 → Bool) (xl3 : V34_3 → X34_3) (f : V34_3 → Option (X34_3)) (v : V34_3) : EBk (Γ34 k78 g78 kl3 xl3) lc34_3 (roundK [0, 3, 4] [] 0 [3] [] (atS sh34_3 f) (endX shX34_3)) (mkS sh34_3 v) = q34_3 k78 g78 f v := by kernel_rfl
def b34_3 (v : V34_3) : Nat := v.1.1.length + v.1.2.2.1.natAbs + v.2.1.length + 1000
def l34_3 (v : V34_3) : Option (X34_3) := iter (q34_3 K78 G78) (b34_3 v) v
def kL34_3 (v : V34_3) : Bool := (l34_3 v).isSome
def xL34_3 (v : V34_3) : X34_3 := (l34_3 v).getD (((), ()), ([], ()))
def r34 (k78 : Den A78 → Bool) (g78 : Den A78 → Den R78) (kl3 : V34_3 → Bool) (xl3 : V34_3 → X34_3) (x : I34.den) : Option (O34.den) :=
  bif (decide (0 ≤ (↑(List.length x.fst.fst) : Int)) && capOk (Int.toNat (↑(List.length x.fst.fst) : Int)) && (↑(List.length x.fst.fst) : Int) == (↑(List.length x.fst.fst) : Int)) then
    let v0 := (kl3 ((x.fst.fst, (), 0, ()), List.replicate (Int.toNat (↑(List.length x.fst.fst) : Int)) (zero S95), ()))
    bif (v0) then
      let v1 := (xl3 ((x.fst.fst, (), 0, ()), List.replicate (Int.toNat (↑(List.length x.fst.fst) : Int)) (zero S95), ()))
      some (((), ()), ((v1.snd.1), ()))
    else
      none
  else
    none
theorem ev34 (k78 : Den A78 → Bool) (g78 : Den A78 → Den R78) (kl3 : V34_3 → Bool) (xl3 : V34_3 → X34_3) (x : I34.den) : callS (Γ34 k78 g78 kl3 xl3) (bodyOf Try.f34) I34 O34 x = r34 k78 g78 kl3 xl3 x := by kernel_rfl
def F34 (x : I34.den) : Option (O34.den) := r34 K78 G78 kL34_3 xL34_3 x
def K34 (x : I34.den) : Bool := (F34 x).isSome
def G34 (x : I34.den) : O34.den := (F34 x).getD (zeroSg O34)
theorem env34 : EnvOK Try.prog (Γ34 K78 G78 kL34_3 xL34_3) := env_ok mixed tab_ok eqs_ok (.cons sem78 .nil)
theorem is34 : FnIs Try.prog 34 (Γ34 K78 G78 kL34_3 xL34_3) (bodyOf Try.f34) := fnIs Try.func34 rfl rfl rfl (by kernel_rfl) (loops_ok (l := [lc34_3]) (by kernel_rfl) (.cons (one_loop rfl (loopX_sound (sh := sh34_3) (shX := shX34_3) (fun f v => evl34_3 K78 G78 kL34_3 xL34_3 f v) b34_3 (((), ()), ([], ())))) (.nil)))
theorem sem34 : SemOK Try.prog (34, sgMean false I34 O34 K34 G34) := sg_opt env34 is34 false fun x => ev34 K78 G78 kL34_3 xL34_3 x

/- "loop.example/g03321/spec.TrackOk" -/
abbrev A75 : Ty := .cons (.slice (S95)) (.nil)
abbrev R75 : Ty := .cons (.bool) (.nil)
abbrev V75_2 : Type := (((List (Den (S95))) × (Int × Unit)) × Unit)
def sh75_2 : ShS := ⟨[(0, .one (.sl (S95))), (3, .one (.int .i64))], [], 0, 0⟩
abbrev X75_2 : Type := (((List (Den (S95))) × Unit) × Unit)
def shX75_2 : ShS := ⟨[(0, .one (.sl (S95)))], [], 0, 0⟩
abbrev Y75_2 : Type := ((Bool × Unit) × Unit)
def shY75_2 : ShS := ⟨[(2, .one (.bool))], [], 0, 0⟩
noncomputable def Γ75 (k18 : Den A18 → Bool) (g18 : Den A18 → Den R18) (k55 : Den A55 → Bool) (g55 : Den A55 → Den R55) (kl2 : V75_2 → Bool) (xl2 : V75_2 → X75_2) (tl2 : V75_2 → Bool) (yl2 : V75_2 → Y75_2) : Env := mkEnv tab eqs [(18, fnMean A18 R18 k18 g18), (55, fnMean A55 R55 k55 g55)] 47 [.tmp 2] [] [] [(2, loopR [0, 3] [] 0 [0] [] sh75_2 shX75_2 shY75_2 kl2 tl2 xl2 yl2)] [] []
noncomputable def lc75_2 : Code := (loopsOf (bodyOf Try.f75)).getD 0 .skip
def q75_2 (k18 : Den A18 → Bool) (g18 : Den A18 → Den R18) (k55 : Den A55 → Bool) (g55 : Den A55 → Den R55) (f : V75_2 → Option (X75_2 ⊕ Y75_2)) (v : V75_2) : Option (X75_2 ⊕ Y75_2) :=
  bif (decide (v.fst.snd.fst < (↑(List.length v.fst.fst) : Int))) then
    bif (decide (0 ≤ v.fst.snd.fst) && decide (v.fst.snd.fst < (↑(List.length v.fst.fst) : Int))) then
      let v0 := (List.getD v.fst.fst (Int.toNat v.fst.snd.fst) (zero S95))
      let v1 := (k18 (v0.fst, ()))
      bif (v1) then
        let v2 := (g18 (v0.fst, ()))
        bif (!v2.fst) then
          some (Sum.inr (((false), ()), ()))
        else
          bif (decide (0 ≤ v.fst.snd.fst) && decide (v.fst.snd.fst < (↑(List.length v.fst.fst) : Int))) then
            let v3 := (k55 (v0.snd.fst, 0, 10000000, ()))
            bif (v3) then
              let v4 := (g55 (v0.snd.fst, 0, 10000000, ()))
              bif (!v4.fst) then
                some (Sum.inr (((false), ()), ()))
              else
                bif (decide (v.fst.snd.fst > 0)) then
                  bif (decide (0 ≤ v.fst.snd.fst) && decide (v.fst.snd.fst < (↑(List.length v.fst.fst) : Int))) then
                    let v5 := (IntKind.wrap IntKind.i64 (v.fst.snd.fst - 1))
                    bif (decide (0 ≤ v5) && decide (v5 < (↑(List.length v.fst.fst) : Int))) then
                      let v6 := (List.getD v.fst.fst (Int.toNat v5) (zero S95))
                      bif (decide (v0.snd.fst ≤ v6.snd.fst)) then
                        some (Sum.inr (((false), ()), ()))
                      else
                        let v7 := (IntKind.wrap IntKind.i64 (v.fst.snd.fst + 1))
                        f (((v.fst.1), ((v7), ())), ())
                    else
                      none
                  else
                    none
                else
                  let v5 := (IntKind.wrap IntKind.i64 (v.fst.snd.fst + 1))
                  f (((v.fst.1), ((v5), ())), ())
            else
              none
          else
            none
      else
        none
    else
      none
  else
    some (Sum.inl (((v.fst.1), ()), ()))
theorem evl75_2 (k18 : Den A18 → Bool) (g18 : Den A18 → Den R18) (k55 : Den A55 → Bool) (g55 : Den A55 → Den R55) (kl2 : V75_2 → Bool) (xl2 : V75_2 → X75_2) (tl2 : V75_2 → Bool) (yl2 : V75_2 → Y75_2) (f : V75_2 → Option (X75_2 ⊕ Y75_2)) (v : V75_2) : EBk (Γ75 k18 g18 k55 g55 kl2 xl2 tl2 yl2) lc75_2 (roundK [0, 3] [] 0 [0] [] (atS sh75_2 f) (endS shX75_2 shY75_2)) (mkS sh75_2 v) = q75_2 k18 g18 k55 g55 f v := by kernel_rfl
def b75_2 (v : V75_2) : Nat := v.1.1.length + v.1.2.1.natAbs + 1000
def l75_2 (v : V75_2) : Option (X75_2 ⊕ Y75_2) := iter (q75_2 K18 G18 K55 G55) (b75_2 v) v
def kL75_2 (v : V75_2) : Bool := (l75_2 v).isSome
def tL75_2 (v : V75_2) : Bool := isR (l75_2 v)
def xL75_2 (v : V75_2) : X75_2 := xOf (([], ()), ()) (l75_2 v)
def yL75_2 (v : V75_2) : Y75_2 := yOf ((false, ()), ()) (l75_2 v)
def r75 (k18 : Den A18 → Bool) (g18 : Den A18 → Den R18) (k55 : Den A55 → Bool) (g55 : Den A55 → Den R55) (kl2 : V75_2 → Bool) (xl2 : V75_2 → X75_2) (tl2 : V75_2 → Bool) (yl2 : V75_2 → Y75_2) (x : Den A75) : Option (Den R75) :=
  let v0 := (kl2 ((x.fst, 0, ()), ()))
  bif (v0) then
    let v1 := (tl2 ((x.fst, 0, ()), ()))
    bif (v1) then
      let v2 := (yl2 ((x.fst, 0, ()), ()))
      some ((v2.fst.1), ())
    else
      let v2 := (xl2 ((x.fst, 0, ()), ()))
      some ((decide ((↑(List.length v2.fst.fst) : Int) ≤ 200)), ())
  else
    none
theorem ev75 (k18 : Den A18 → Bool) (g18 : Den A18 → Den R18) (k55 : Den A55 → Bool) (g55 : Den A55 → Den R55) (kl2 : V75_2 → Bool) (xl2 : V75_2 → X75_2) (tl2 : V75_2 → Bool) (yl2 : V75_2 → Y75_2) (x : Den A75) : callK (Γ75 k18 g18 k55 g55 kl2 xl2 tl2 yl2) (bodyOf Try.f75) (decR R75) (encA A75 x) [] = r75 k18 g18 k55 g55 kl2 xl2 tl2 yl2 x := by kernel_rfl
def F75 (x : Den A75) : Option (Den R75) := r75 K18 G18 K55 G55 kL75_2 xL75_2 tL75_2 yL75_2 x
def K75 (x : Den A75) : Bool := (F75 x).isSome
def G75 (x : Den A75) : Den R75 := (F75 x).getD (zero R75)
theorem env75 : EnvOK Try.prog (Γ75 K18 G18 K55 G55 kL75_2 xL75_2 tL75_2 yL75_2) := env_ok mixed tab_ok eqs_ok (.cons sem18 (.cons sem55 .nil))
theorem is75 : FnIs Try.prog 75 (Γ75 K18 G18 K55 G55 kL75_2 xL75_2 tL75_2 yL75_2) (bodyOf Try.f75) := fnIs Try.func75 rfl rfl rfl (by kernel_rfl) (loops_ok (l := [lc75_2]) (by kernel_rfl) (.cons (one_loop rfl (loopR_sound (sh := sh75_2) (shX := shX75_2) (shR := shY75_2) (fun f v => evl75_2 K18 G18 K55 G55 kL75_2 xL75_2 tL75_2 yL75_2 f v) b75_2 (([], ()), ()) ((false, ()), ()))) (.nil)))
theorem sem75 : SemOK Try.prog (75, fnMean A75 R75 K75 G75) := fn_opt env75 is75 fun x => ev75 K18 G18 K55 G55 kL75_2 xL75_2 tL75_2 yL75_2 x

/- "loop.example/g03321/spec.RoundedAt" -/
abbrev A33 : Ty := .cons (S45) (.cons (.int .i64) (.cons (.slice (S95)) (.cons (.int .i64) (.nil))))
abbrev R33 : Ty := .cons (.int .i64) (.nil)
abbrev V33_5 : Type := ((Int × ((List (Den (S95))) × (Unit × (Int × (Int × Unit))))) × ((Int × (Int × (Int × (Int × ((List (Den (S82))) × (Int × (Int × (Int × (Int × Unit))))))))) × Unit))
def sh33_5 : ShS := ⟨[(1, .one (.int .i64)), (2, .one (.sl (S95))), (4, .one (.ptr 0 0)), (9, .one (.int .i64)), (10, .one (.int .i64))], [(0, .box [.int .i64, .int .i64, .int .i64, .int .i64, .sl (S82), .int .i64, .int .i64, .int .i64, .int .i64])], 1, 0⟩
abbrev X33_5 : Type := (Unit × Unit)
def shX33_5 : ShS := ⟨[], [], 0, 0⟩
abbrev Y33_5 : Type := ((Int × Unit) × Unit)
def shY33_5 : ShS := ⟨[(8, .one (.int .i64))], [], 0, 0⟩
noncomputable def Γ33 (k21 : Den A21 → Bool) (g21 : Den A21 → Den R21) (k75 : Den A75 → Bool) (g75 : Den A75 → Den R75) (k55 : Den A55 → Bool) (g55 : Den A55 → Den R55) (k58 : Den A58 → Bool) (g58 : Den A58 → Den R58) (k13 : Den A13 → Bool) (g13 : Den A13 → Den R13) (kl5 : V33_5 → Bool) (xl5 : V33_5 → X33_5) (tl5 : V33_5 → Bool) (yl5 : V33_5 → Y33_5) : Env := mkEnv tab eqs [(21, fnMean A21 R21 k21 g21), (75, fnMean A75 R75 k75 g75), (55, fnMean A55 R55 k55 g55), (58, fnMean A58 R58 k58 g58), (13, fnMean A13 R13 k13 g13)] 92 [.tmp 8] [] [] [(5, loopR [1, 2, 4, 9, 10] [] 0 [] [] sh33_5 shX33_5 shY33_5 kl5 tl5 xl5 yl5)] [] []
noncomputable def lc33_5 : Code := (loopsOf (bodyOf Try.f33)).getD 0 .skip
def q33_5 (k21 : Den A21 → Bool) (g21 : Den A21 → Den R21) (k75 : Den A75 → Bool) (g75 : Den A75 → Den R75) (k55 : Den A55 → Bool) (g55 : Den A55 → Den R55) (k58 : Den A58 → Bool) (g58 : Den A58 → Den R58) (k13 : Den A13 → Bool) (g13 : Den A13 → Den R13) (f : V33_5 → Option (X33_5 ⊕ Y33_5)) (v : V33_5) : Option (X33_5 ⊕ Y33_5) :=
  let v0 := (IntKind.wrap IntKind.i64 (v.fst.snd.snd.snd.snd.fst + 1))
  bif (decide (v0 < (↑(List.length v.fst.snd.fst) : Int))) then
    let v1 := (k58 ((((v.snd.fst.fst, v.snd.fst.snd.fst, ()), (v.snd.fst.snd.snd.fst, v.snd.fst.snd.snd.snd.fst, ()), ()), v.snd.fst.snd.snd.snd.snd.fst, ((v.snd.fst.snd.snd.snd.snd.snd.fst, v.snd.fst.snd.snd.snd.snd.snd.snd.fst, ()), v.snd.fst.snd.snd.snd.snd.snd.snd.snd, ()), ()), v.fst.fst, ()))
    bif (v1) then
      bif (decide (0 ≤ v.fst.fst) && decide (v.fst.fst < (↑(List.length v.snd.fst.snd.snd.snd.snd.fst) : Int))) then
        bif (decide (0 ≤ v.fst.snd.snd.snd.snd.fst) && decide (v.fst.snd.snd.snd.snd.fst < (↑(List.length v.fst.snd.fst) : Int))) then
          bif (decide (0 ≤ v0) && decide (v0 < (↑(List.length v.fst.snd.fst) : Int))) then
            let v2 := (g58 ((((v.snd.fst.fst, v.snd.fst.snd.fst, ()), (v.snd.fst.snd.snd.fst, v.snd.fst.snd.snd.snd.fst, ()), ()), v.snd.fst.snd.snd.snd.snd.fst, ((v.snd.fst.snd.snd.snd.snd.snd.fst, v.snd.fst.snd.snd.snd.snd.snd.snd.fst, ()), v.snd.fst.snd.snd.snd.snd.snd.snd.snd, ()), ()), v.fst.fst, ()))
            let v3 := (List.getD v.snd.fst.snd.snd.snd.snd.fst (Int.toNat v.fst.fst) (zero S82))
            let v4 := (List.getD v.fst.snd.fst (Int.toNat v.fst.snd.snd.snd.snd.fst) (zero S95))
            let v5 := (List.getD v.fst.snd.fst (Int.toNat v0) (zero S95))
            let v6 := (k13 (v2.fst, v3.fst, v4.fst, v5.fst, ()))
            bif (v6) then
              let v7 := (g13 (v2.fst, v3.fst, v4.fst, v5.fst, ()))
              let v8 := (IntKind.wrap IntKind.i64 (v.fst.snd.snd.snd.fst + v7.fst))
              bif (v8 == 1) then
                bif (decide (0 ≤ v.fst.fst) && decide (v.fst.fst < (↑(List.length v.snd.fst.snd.snd.snd.snd.fst) : Int))) then
                  bif (!v3.snd.fst) then
                    some (Sum.inr (((v0), ()), ()))
                  else
                    bif (v8 == -1) then
                      bif (decide (0 ≤ v.fst.fst) && decide (v.fst.fst < (↑(List.length v.snd.fst.snd.snd.snd.snd.fst) : Int))) then
                        bif (v3.snd.1) then
                          some (Sum.inr (((v0), ()), ()))
                        else
                          f (((v.fst.1), ((v.fst.snd.1), ((), ((v8), ((v0), ()))))), (((v.snd.fst.1), ((v.snd.fst.snd.1), ((v.snd.fst.snd.snd.1), ((v.snd.fst.snd.snd.snd.1), ((v.snd.fst.snd.snd.snd.snd.1), ((v.snd.fst.snd.snd.snd.snd.snd.1), ((v.snd.fst.snd.snd.snd.snd.snd.snd.1), ((v.snd.fst.snd.snd.snd.snd.snd.snd.snd.1), ((v.snd.fst.snd.snd.snd.snd.snd.snd.snd.snd.1), ()))))))))), ()))
                      else
                        none
                    else
                      f (((v.fst.1), ((v.fst.snd.1), ((), ((v8), ((v0), ()))))), (((v.snd.fst.1), ((v.snd.fst.snd.1), ((v.snd.fst.snd.snd.1), ((v.snd.fst.snd.snd.snd.1), ((v.snd.fst.snd.snd.snd.snd.1), ((v.snd.fst.snd.snd.snd.snd.snd.1), ((v.snd.fst.snd.snd.snd.snd.snd.snd.1), ((v.snd.fst.snd.snd.snd.snd.snd.snd.snd.1), ((v.snd.fst.snd.snd.snd.snd.snd.snd.snd.snd.1), ()))))))))), ()))
                else
                  none
              else
                bif (v8 == -1) then
                  bif (decide (0 ≤ v.fst.fst) && decide (v.fst.fst < (↑(List.length v.snd.fst.snd.snd.snd.snd.fst) : Int))) then
                    bif (v3.snd.1) then
                      some (Sum.inr (((v0), ()), ()))
                    else
                      f (((v.fst.1), ((v.fst.snd.1), ((), ((v8), ((v0), ()))))), (((v.snd.fst.1), ((v.snd.fst.snd.1), ((v.snd.fst.snd.snd.1), ((v.snd.fst.snd.snd.snd.1), ((v.snd.fst.snd.snd.snd.snd.1), ((v.snd.fst.snd.snd.snd.snd.snd.1), ((v.snd.fst.snd.snd.snd.snd.snd.snd.1), ((v.snd.fst.snd.snd.snd.snd.snd.snd.snd.1), ((v.snd.fst.snd.snd.snd.snd.snd.snd.snd.snd.1), ()))))))))), ()))
                  else
                    none
                else
                  f (((v.fst.1), ((v.fst.snd.1), ((), ((v8), ((v0), ()))))), (((v.snd.fst.1), ((v.snd.fst.snd.1), ((v.snd.fst.snd.snd.1), ((v.snd.fst.snd.snd.snd.1), ((v.snd.fst.snd.snd.snd.snd.1), ((v.snd.fst.snd.snd.snd.snd.snd.1), ((v.snd.fst.snd.snd.snd.snd.snd.snd.1), ((v.snd.fst.snd.snd.snd.snd.snd.snd.snd.1), ((v.snd.fst.snd.snd.snd.snd.snd.snd.snd.snd.1), ()))))))))), ()))
            else
              none
          else
            none
        else
          none
      else
        none
    else
      none
  else
    some (Sum.inl ((), ()))
theorem evl33_5 (k21 : Den A21 → Bool) (g21 : Den A21 → Den R21) (k75 : Den A75 → Bool) (g75 : Den A75 → Den R75) (k55 : Den A55 → Bool) (g55 : Den A55 → Den R55) (k58 : Den A58 → Bool) (g58 : Den A58 → Den R58) (k13 : Den A13 → Bool) (g13 : Den A13 → Den R13) (kl5 : V33_5 → Bool) (xl5 : V33_5 → X33_5) (tl5 : V33_5 → Bool) (yl5 : V33_5 → Y33_5) (f : V33_5 → Option (X33_5 ⊕ Y33_5)) (v : V33_5) : EBk (Γ33 k21 g21 k75 g75 k55 g55 k58 g58 k13 g13 kl5 xl5 tl5 yl5) lc33_5 (roundK [1, 2, 4, 9, 10] [] 0 [] [] (atS sh33_5 f) (endS shX33_5 shY33_5)) (mkS sh33_5 v) = q33_5 k21 g21 k75 g75 k55 g55 k58 g58 k13 g13 f v := by kernel_rfl
def b33_5 (v : V33_5) : Nat := v.1.1.natAbs + v.1.2.1.length + v.1.2.2.2.1.natAbs + v.1.2.2.2.2.1.natAbs + v.2.1.1.natAbs + v.2.1.2.1.natAbs + v.2.1.2.2.1.natAbs + v.2.1.2.2.2.1.natAbs + v.2.1.2.2.2.2.1.length + v.2.1.2.2.2.2.2.1.natAbs + v.2.1.2.2.2.2.2.2.1.natAbs + v.2.1.2.2.2.2.2.2.2.1.natAbs + v.2.1.2.2.2.2.2.2.2.2.1.natAbs + 1000
def l33_5 (v : V33_5) : Option (X33_5 ⊕ Y33_5) := iter (q33_5 K21 G21 K75 G75 K55 G55 K58 G58 K13 G13) (b33_5 v) v
def kL33_5 (v : V33_5) : Bool := (l33_5 v).isSome
def tL33_5 (v : V33_5) : Bool := isR (l33_5 v)
def xL33_5 (v : V33_5) : X33_5 := xOf ((), ()) (l33_5 v)
def yL33_5 (v : V33_5) : Y33_5 := yOf ((0, ()), ()) (l33_5 v)
def r33 (k21 : Den A21 → Bool) (g21 : Den A21 → Den R21) (k75 : Den A75 → Bool) (g75 : Den A75 → Den R75) (k55 : Den A55 → Bool) (g55 : Den A55 → Den R55) (k58 : Den A58 → Bool) (g58 : Den A58 → Den R58) (k13 : Den A13 → Bool) (g13 : Den A13 → Den R13) (kl5 : V33_5 → Bool) (xl5 : V33_5 → X33_5) (tl5 : V33_5 → Bool) (yl5 : V33_5 → Y33_5) (x : Den A33) : Option (Den R33) :=
  let v0 := (k21 (x.fst, ()))
  bif (v0) then
    let v1 := (g21 (x.fst, ()))
    bif (!v1.fst) then
      some ((-1), ())
    else
      let v2 := (k75 (x.snd.snd.fst, ()))
      bif (v2) then
        let v3 := (g75 (x.snd.snd.fst, ()))
        bif (!v3.fst) then
          some ((-1), ())
        else
          let v4 := (IntKind.wrap IntKind.i64 ((↑(List.length x.fst.snd.fst) : Int) - 1))
          let v5 := (k55 (x.snd.fst, 0, v4, ()))
          bif (v5) then
            let v6 := (g55 (x.snd.fst, 0, v4, ()))
            bif (!v6.fst) then
              some ((-1), ())
            else
              let v7 := (IntKind.wrap IntKind.i64 ((↑(List.length x.snd.snd.fst) : Int) - 1))
              let v8 := (k55 (x.snd.snd.snd.fst, 0, v7, ()))
              bif (v8) then
                let v9 := (g55 (x.snd.snd.snd.fst, 0, v7, ()))
                bif (!v9.fst) then
                  some ((-1), ())
                else
                  let v10 := (kl5 ((x.snd.fst, x.snd.snd.fst, (), 0, x.snd.snd.snd), (x.fst.fst.fst.fst, x.fst.fst.fst.snd.fst, x.fst.fst.snd.fst.fst, x.fst.fst.snd.fst.snd.fst, x.fst.snd.fst, x.fst.snd.snd.fst.fst.fst, x.fst.snd.snd.fst.fst.snd.fst, x.fst.snd.snd.fst.snd.fst), ()))
                  bif (v10) then
                    let v11 := (tl5 ((x.snd.fst, x.snd.snd.fst, (), 0, x.snd.snd.snd), (x.fst.fst.fst.fst, x.fst.fst.fst.snd.fst, x.fst.fst.snd.fst.fst, x.fst.fst.snd.fst.snd.fst, x.fst.snd.fst, x.fst.snd.snd.fst.fst.fst, x.fst.snd.snd.fst.fst.snd.fst, x.fst.snd.snd.fst.snd.fst), ()))
                    bif (v11) then
                      let v12 := (yl5 ((x.snd.fst, x.snd.snd.fst, (), 0, x.snd.snd.snd), (x.fst.fst.fst.fst, x.fst.fst.fst.snd.fst, x.fst.fst.snd.fst.fst, x.fst.fst.snd.fst.snd.fst, x.fst.snd.fst, x.fst.snd.snd.fst.fst.fst, x.fst.snd.snd.fst.fst.snd.fst, x.fst.snd.snd.fst.snd.fst), ()))
                      some ((v12.fst.1), ())
                    else
                      some ((-1), ())
                  else
                    none
              else
                none
          else
            none
      else
        none
  else
    none
theorem ev33 (k21 : Den A21 → Bool) (g21 : Den A21 → Den R21) (k75 : Den A75 → Bool) (g75 : Den A75 → Den R75) (k55 : Den A55 → Bool) (g55 : Den A55 → Den R55) (k58 : Den A58 → Bool) (g58 : Den A58 → Den R58) (k13 : Den A13 → Bool) (g13 : Den A13 → Den R13) (kl5 : V33_5 → Bool) (xl5 : V33_5 → X33_5) (tl5 : V33_5 → Bool) (yl5 : V33_5 → Y33_5) (x : Den A33) : callK (Γ33 k21 g21 k75 g75 k55 g55 k58 g58 k13 g13 kl5 xl5 tl5 yl5) (bodyOf Try.f33) (decR R33) (encA A33 x) [] = r33 k21 g21 k75 g75 k55 g55 k58 g58 k13 g13 kl5 xl5 tl5 yl5 x := by kernel_rfl
def F33 (x : Den A33) : Option (Den R33) := r33 K21 G21 K75 G75 K55 G55 K58 G58 K13 G13 kL33_5 xL33_5 tL33_5 yL33_5 x
def K33 (x : Den A33) : Bool := (F33 x).isSome
def G33 (x : Den A33) : Den R33 := (F33 x).getD (zero R33)
theorem env33 : EnvOK Try.prog (Γ33 K21 G21 K75 G75 K55 G55 K58 G58 K13 G13 kL33_5 xL33_5 tL33_5 yL33_5) := env_ok mixed tab_ok eqs_ok (.cons sem21 (.cons sem75 (.cons sem55 (.cons sem58 (.cons sem13 .nil)))))
theorem is33 : FnIs Try.prog 33 (Γ33 K21 G21 K75 G75 K55 G55 K58 G58 K13 G13 kL33_5 xL33_5 tL33_5 yL33_5) (bodyOf Try.f33) := fnIs Try.func33 rfl rfl rfl (by kernel_rfl) (loops_ok (l := [lc33_5]) (by kernel_rfl) (.cons (one_loop rfl (loopR_sound (sh := sh33_5) (shX := shX33_5) (shR := shY33_5) (fun f v => evl33_5 K21 G21 K75 G75 K55 G55 K58 G58 K13 G13 kL33_5 xL33_5 tL33_5 yL33_5 f v) b33_5 ((), ()) ((0, ()), ()))) (.nil)))
theorem sem33 : SemOK Try.prog (33, fnMean A33 R33 K33 G33) := fn_opt env33 is33 fun x => ev33 K21 G21 K75 G75 K55 G55 K58 G58 K13 G13 kL33_5 xL33_5 tL33_5 yL33_5 x

/- "loop.example/g03321/impl.timeOk" -/
abbrev A84 : Ty := .cons (.int .i64) (.nil)
abbrev R84 : Ty := .cons (.bool) (.nil)
noncomputable def Γ84 (k62 : Den A62 → Bool) (g62 : Den A62 → Den R62) : Env := mkEnv tab eqs [(62, fnMean A62 R62 k62 g62)] 5 [.tmp 2] [] [] [] [] []
def r84 (k62 : Den A62 → Bool) (g62 : Den A62 → Den R62) (x : Den A84) : Option (Den R84) :=
  let v0 := (k62 (x.fst, 0, 10000000, ()))
  bif (v0) then
    let v1 := (g62 (x.fst, 0, 10000000, ()))
    some ((v1.1), ())
  else
    none
theorem ev84 (k62 : Den A62 → Bool) (g62 : Den A62 → Den R62) (x : Den A84) : callK (Γ84 k62 g62) (bodyOf Try.f84) (decR R84) (encA A84 x) [] = r84 k62 g62 x := by kernel_rfl
def F84 (x : Den A84) : Option (Den R84) := r84 K62 G62 x
def K84 (x : Den A84) : Bool := (F84 x).isSome
def G84 (x : Den A84) : Den R84 := (F84 x).getD (zero R84)
theorem env84 : EnvOK Try.prog (Γ84 K62 G62) := env_ok mixed tab_ok eqs_ok (.cons sem62 .nil)
theorem is84 : FnIs Try.prog 84 (Γ84 K62 G62) (bodyOf Try.f84) := fnIs Try.func84 rfl rfl rfl (by kernel_rfl) (noLoops (by kernel_rfl))
theorem sem84 : SemOK Try.prog (84, fnMean A84 R84 K84 G84) := fn_opt env84 is84 fun x => ev84 K62 G62 x

/- "loop.example/g03321/impl.TrackOk" -/
abbrev A70 : Ty := .cons (.slice (S95)) (.nil)
abbrev R70 : Ty := .cons (.bool) (.nil)
abbrev V70_4 : Type := (((List (Den (S95))) × ((List (Den (S95))) × (Int × (Int × Unit)))) × Unit)
def sh70_4 : ShS := ⟨[(0, .one (.sl (S95))), (8, .one (.sl (S95))), (9, .one (.int .i64)), (10, .one (.int .i64))], [], 0, 0⟩
abbrev X70_4 : Type := (Unit × Unit)
def shX70_4 : ShS := ⟨[], [], 0, 0⟩
abbrev Y70_4 : Type := ((Bool × Unit) × Unit)
def shY70_4 : ShS := ⟨[(2, .one (.bool))], [], 0, 0⟩
noncomputable def Γ70 (k48 : Den A48 → Bool) (g48 : Den A48 → Den R48) (k84 : Den A84 → Bool) (g84 : Den A84 → Den R84) (kl4 : V70_4 → Bool) (xl4 : V70_4 → X70_4) (tl4 : V70_4 → Bool) (yl4 : V70_4 → Y70_4) : Env := mkEnv tab eqs [(48, fnMean A48 R48 k48 g48), (84, fnMean A84 R84 k84 g84)] 41 [.tmp 2] [] [] [(4, loopR [0, 8, 9, 10] [] 0 [] [] sh70_4 shX70_4 shY70_4 kl4 tl4 xl4 yl4)] [] []
noncomputable def lc70_4 : Code := (loopsOf (bodyOf Try.f70)).getD 0 .skip
def q70_4 (k48 : Den A48 → Bool) (g48 : Den A48 → Den R48) (k84 : Den A84 → Bool) (g84 : Den A84 → Den R84) (f : V70_4 → Option (X70_4 ⊕ Y70_4)) (v : V70_4) : Option (X70_4 ⊕ Y70_4) :=
  bif (decide (v.fst.snd.snd.snd.fst < v.fst.snd.snd.fst)) then
    bif (decide (0 ≤ v.fst.snd.snd.snd.fst) && decide (v.fst.snd.snd.snd.fst < (↑(List.length v.fst.snd.fst) : Int))) then
      let v0 := (List.getD v.fst.snd.fst (Int.toNat v.fst.snd.snd.snd.fst) (zero S95))
      let v1 := (k48 (v0.fst, ()))
      bif (v1) then
        let v2 := (g48 (v0.fst, ()))
        bif (!v2.fst) then
          some (Sum.inr (((false), ()), ()))
        else
          let v3 := (k84 v0.snd)
          bif (v3) then
            let v4 := (g84 v0.snd)
            bif (!v4.fst) then
              some (Sum.inr (((false), ()), ()))
            else
              bif (decide (v.fst.snd.snd.snd.fst > 0)) then
                let v5 := (IntKind.wrap IntKind.i64 (v.fst.snd.snd.snd.fst - 1))
                bif (decide (0 ≤ v5) && decide (v5 < (↑(List.length v.fst.fst) : Int))) then
                  let v6 := (List.getD v.fst.fst (Int.toNat v5) (zero S95))
                  bif (decide (v0.snd.fst ≤ v6.snd.fst)) then
                    some (Sum.inr (((false), ()), ()))
                  else
                    let v7 := (IntKind.wrap IntKind.i64 (v.fst.snd.snd.snd.fst + 1))
                    f (((v.fst.1), ((v.fst.snd.1), ((v.fst.snd.snd.1), ((v7), ())))), ())
                else
                  none
              else
                let v5 := (IntKind.wrap IntKind.i64 (v.fst.snd.snd.snd.fst + 1))
                f (((v.fst.1), ((v.fst.snd.1), ((v.fst.snd.snd.1), ((v5), ())))), ())
          else
            none
      else
        none
    else
      none
  else
    some (Sum.inl ((), ()))
theorem evl70_4 (k48 : Den A48 → Bool) (g48 : Den A48 → Den R48) (k84 : Den A84 → Bool) (g84 : Den A84 → Den R84) (kl4 : V70_4 → Bool) (xl4 : V70_4 → X70_4) (tl4 : V70_4 → Bool) (yl4 : V70_4 → Y70_4) (f : V70_4 → Option (X70_4 ⊕ Y70_4)) (v : V70_4) : EBk (Γ70 k48 g48 k84 g84 kl4 xl4 tl4 yl4) lc70_4 (roundK [0, 8, 9, 10] [] 0 [] [] (atS sh70_4 f) (endS shX70_4 shY70_4)) (mkS sh70_4 v) = q70_4 k48 g48 k84 g84 f v := by kernel_rfl
def b70_4 (v : V70_4) : Nat := v.1.1.length + v.1.2.1.length + v.1.2.2.1.natAbs + v.1.2.2.2.1.natAbs + 1000
def l70_4 (v : V70_4) : Option (X70_4 ⊕ Y70_4) := iter (q70_4 K48 G48 K84 G84) (b70_4 v) v
def kL70_4 (v : V70_4) : Bool := (l70_4 v).isSome
def tL70_4 (v : V70_4) : Bool := isR (l70_4 v)
def xL70_4 (v : V70_4) : X70_4 := xOf ((), ()) (l70_4 v)
def yL70_4 (v : V70_4) : Y70_4 := yOf ((false, ()), ()) (l70_4 v)
def r70 (k48 : Den A48 → Bool) (g48 : Den A48 → Den R48) (k84 : Den A84 → Bool) (g84 : Den A84 → Den R84) (kl4 : V70_4 → Bool) (xl4 : V70_4 → X70_4) (tl4 : V70_4 → Bool) (yl4 : V70_4 → Y70_4) (x : Den A70) : Option (Den R70) :=
  bif (decide ((↑(List.length x.fst) : Int) > 200)) then
    some ((false), ())
  else
    let v0 := (kl4 ((x.fst, x.fst, (↑(List.length x.fst) : Int), 0, ()), ()))
    bif (v0) then
      let v1 := (tl4 ((x.fst, x.fst, (↑(List.length x.fst) : Int), 0, ()), ()))
      bif (v1) then
        let v2 := (yl4 ((x.fst, x.fst, (↑(List.length x.fst) : Int), 0, ()), ()))
        some ((v2.fst.1), ())
      else
        some ((true), ())
    else
      none
theorem ev70 (k48 : Den A48 → Bool) (g48 : Den A48 → Den R48) (k84 : Den A84 → Bool) (g84 : Den A84 → Den R84) (kl4 : V70_4 → Bool) (xl4 : V70_4 → X70_4) (tl4 : V70_4 → Bool) (yl4 : V70_4 → Y70_4) (x : Den A70) : callK (Γ70 k48 g48 k84 g84 kl4 xl4 tl4 yl4) (bodyOf Try.f70) (decR R70) (encA A70 x) [] = r70 k48 g48 k84 g84 kl4 xl4 tl4 yl4 x := by kernel_rfl
def F70 (x : Den A70) : Option (Den R70) := r70 K48 G48 K84 G84 kL70_4 xL70_4 tL70_4 yL70_4 x
def K70 (x : Den A70) : Bool := (F70 x).isSome
def G70 (x : Den A70) : Den R70 := (F70 x).getD (zero R70)
theorem env70 : EnvOK Try.prog (Γ70 K48 G48 K84 G84 kL70_4 xL70_4 tL70_4 yL70_4) := env_ok mixed tab_ok eqs_ok (.cons sem48 (.cons sem84 .nil))
theorem is70 : FnIs Try.prog 70 (Γ70 K48 G48 K84 G84 kL70_4 xL70_4 tL70_4 yL70_4) (bodyOf Try.f70) := fnIs Try.func70 rfl rfl rfl (by kernel_rfl) (loops_ok (l := [lc70_4]) (by kernel_rfl) (.cons (one_loop rfl (loopR_sound (sh := sh70_4) (shX := shX70_4) (shR := shY70_4) (fun f v => evl70_4 K48 G48 K84 G84 kL70_4 xL70_4 tL70_4 yL70_4 f v) b70_4 ((), ()) ((false, ()), ()))) (.nil)))
theorem sem70 : SemOK Try.prog (70, fnMean A70 R70 K70 G70) := fn_opt env70 is70 fun x => ev70 K48 G48 K84 G84 kL70_4 xL70_4 tL70_4 yL70_4 x

/- "loop.example/g03321/impl.RoundedAt" -/
abbrev A26 : Ty := .cons (S45) (.cons (.int .i64) (.cons (.slice (S95)) (.cons (.int .i64) (.nil))))
abbrev R26 : Ty := .cons (.int .i64) (.nil)
abbrev V26_8 : Type := ((Int × ((List (Den (S95))) × (Unit × (Int × (Int × (Int × Unit)))))) × ((Int × (Int × (Int × (Int × ((List (Den (S82))) × (Int × (Int × (Int × (Int × Unit))))))))) × Unit))
def sh26_8 : ShS := ⟨[(1, .one (.int .i64)), (2, .one (.sl (S95))), (4, .one (.ptr 0 0)), (9, .one (.int .i64)), (10, .one (.int .i64)), (11, .one (.int .i64))], [(0, .box [.int .i64, .int .i64, .int .i64, .int .i64, .sl (S82), .int .i64, .int .i64, .int .i64, .int .i64])], 1, 0⟩
abbrev X26_8 : Type := (Unit × Unit)
def shX26_8 : ShS := ⟨[], [], 0, 0⟩
abbrev Y26_8 : Type := ((Int × Unit) × Unit)
def shY26_8 : ShS := ⟨[(8, .one (.int .i64))], [], 0, 0⟩
noncomputable def Γ26 (k23 : Den A23 → Bool) (g23 : Den A23 → Den R23) (k70 : Den A70 → Bool) (g70 : Den A70 → Den R70) (k62 : Den A62 → Bool) (g62 : Den A62 → Den R62) (k63 : Den A63 → Bool) (g63 : Den A63 → Den R63) (k15 : Den A15 → Bool) (g15 : Den A15 → Den R15) (kl8 : V26_8 → Bool) (xl8 : V26_8 → X26_8) (tl8 : V26_8 → Bool) (yl8 : V26_8 → Y26_8) : Env := mkEnv tab eqs [(23, fnMean A23 R23 k23 g23), (70, fnMean A70 R70 k70 g70), (62, fnMean A62 R62 k62 g62), (63, fnMean A63 R63 k63 g63), (15, fnMean A15 R15 k15 g15)] 79 [.tmp 8] [] [] [(8, loopR [1, 2, 4, 9, 10, 11] [] 0 [] [] sh26_8 shX26_8 shY26_8 kl8 tl8 xl8 yl8)] [] []
noncomputable def lc26_8 : Code := (loopsOf (bodyOf Try.f26)).getD 0 .skip
def q26_8 (k23 : Den A23 → Bool) (g23 : Den A23 → Den R23) (k70 : Den A70 → Bool) (g70 : Den A70 → Den R70) (k62 : Den A62 → Bool) (g62 : Den A62 → Den R62) (k63 : Den A63 → Bool) (g63 : Den A63 → Den R63) (k15 : Den A15 → Bool) (g15 : Den A15 → Den R15) (f : V26_8 → Option (X26_8 ⊕ Y26_8)) (v : V26_8) : Option (X26_8 ⊕ Y26_8) :=
  let v0 := (IntKind.wrap IntKind.i64 (v.fst.snd.snd.snd.snd.snd.fst + 1))
  bif (decide (v0 < (↑(List.length v.fst.snd.fst) : Int))) then
    let v1 := (k63 ((((v.snd.fst.fst, v.snd.fst.snd.fst, ()), (v.snd.fst.snd.snd.fst, v.snd.fst.snd.snd.snd.fst, ()), ()), v.snd.fst.snd.snd.snd.snd.fst, ((v.snd.fst.snd.snd.snd.snd.snd.fst, v.snd.fst.snd.snd.snd.snd.snd.snd.fst, ()), v.snd.fst.snd.snd.snd.snd.snd.snd.snd, ()), ()), v.fst.fst, ()))
    bif (v1) then
      bif (decide (0 ≤ v.fst.fst) && decide (v.fst.fst < (↑(List.length v.snd.fst.snd.snd.snd.snd.fst) : Int))) then
        bif (decide (0 ≤ v.fst.snd.snd.snd.snd.snd.fst) && decide (v.fst.snd.snd.snd.snd.snd.fst < (↑(List.length v.fst.snd.fst) : Int))) then
          bif (decide (0 ≤ v0) && decide (v0 < (↑(List.length v.fst.snd.fst) : Int))) then
            let v2 := (g63 ((((v.snd.fst.fst, v.snd.fst.snd.fst, ()), (v.snd.fst.snd.snd.fst, v.snd.fst.snd.snd.snd.fst, ()), ()), v.snd.fst.snd.snd.snd.snd.fst, ((v.snd.fst.snd.snd.snd.snd.snd.fst, v.snd.fst.snd.snd.snd.snd.snd.snd.fst, ()), v.snd.fst.snd.snd.snd.snd.snd.snd.snd, ()), ()), v.fst.fst, ()))
            let v3 := (List.getD v.snd.fst.snd.snd.snd.snd.fst (Int.toNat v.fst.fst) (zero S82))
            let v4 := (List.getD v.fst.snd.fst (Int.toNat v.fst.snd.snd.snd.snd.snd.fst) (zero S95))
            let v5 := (List.getD v.fst.snd.fst (Int.toNat v0) (zero S95))
            let v6 := (k15 (v2.fst, v3.fst, v4.fst, v5.fst, ()))
            bif (v6) then
              let v7 := (g15 (v2.fst, v3.fst, v4.fst, v5.fst, ()))
              let v8 := (IntKind.wrap IntKind.i64 (v.fst.snd.snd.snd.snd.fst + v7.fst))
              bif (v8 == v.fst.snd.snd.snd.fst) then
                some (Sum.inr (((v0), ()), ()))
              else
                f (((v.fst.1), ((v.fst.snd.1), ((), ((v.fst.snd.snd.snd.1), ((v8), ((v0), ())))))), (((v.snd.fst.1), ((v.snd.fst.snd.1), ((v.snd.fst.snd.snd.1), ((v.snd.fst.snd.snd.snd.1), ((v.snd.fst.snd.snd.snd.snd.1), ((v.snd.fst.snd.snd.snd.snd.snd.1), ((v.snd.fst.snd.snd.snd.snd.snd.snd.1), ((v.snd.fst.snd.snd.snd.snd.snd.snd.snd.1), ((v.snd.fst.snd.snd.snd.snd.snd.snd.snd.snd.1), ()))))))))), ()))
            else
              none
          else
            none
        else
          none
      else
        none
    else
      none
  else
    some (Sum.inl ((), ()))
theorem evl26_8 (k23 : Den A23 → Bool) (g23 : Den A23 → Den R23) (k70 : Den A70 → Bool) (g70 : Den A70 → Den R70) (k62 : Den A62 → Bool) (g62 : Den A62 → Den R62) (k63 : Den A63 → Bool) (g63 : Den A63 → Den R63) (k15 : Den A15 → Bool) (g15 : Den A15 → Den R15) (kl8 : V26_8 → Bool) (xl8 : V26_8 → X26_8) (tl8 : V26_8 → Bool) (yl8 : V26_8 → Y26_8) (f : V26_8 → Option (X26_8 ⊕ Y26_8)) (v : V26_8) : EBk (Γ26 k23 g23 k70 g70 k62 g62 k63 g63 k15 g15 kl8 xl8 tl8 yl8) lc26_8 (roundK [1, 2, 4, 9, 10, 11] [] 0 [] [] (atS sh26_8 f) (endS shX26_8 shY26_8)) (mkS sh26_8 v) = q26_8 k23 g23 k70 g70 k62 g62 k63 g63 k15 g15 f v := by kernel_rfl
def b26_8 (v : V26_8) : Nat := v.1.1.natAbs + v.1.2.1.length + v.1.2.2.2.1.natAbs + v.1.2.2.2.2.1.natAbs + v.1.2.2.2.2.2.1.natAbs + v.2.1.1.natAbs + v.2.1.2.1.natAbs + v.2.1.2.2.1.natAbs + v.2.1.2.2.2.1.natAbs + v.2.1.2.2.2.2.1.length + v.2.1.2.2.2.2.2.1.natAbs + v.2.1.2.2.2.2.2.2.1.natAbs + v.2.1.2.2.2.2.2.2.2.1.natAbs + v.2.1.2.2.2.2.2.2.2.2.1.natAbs + 1000
def l26_8 (v : V26_8) : Option (X26_8 ⊕ Y26_8) := iter (q26_8 K23 G23 K70 G70 K62 G62 K63 G63 K15 G15) (b26_8 v) v
def kL26_8 (v : V26_8) : Bool := (l26_8 v).isSome
def tL26_8 (v : V26_8) : Bool := isR (l26_8 v)
def xL26_8 (v : V26_8) : X26_8 := xOf ((), ()) (l26_8 v)
def yL26_8 (v : V26_8) : Y26_8 := yOf ((0, ()), ()) (l26_8 v)
def r26 (k23 : Den A23 → Bool) (g23 : Den A23 → Den R23) (k70 : Den A70 → Bool) (g70 : Den A70 → Den R70) (k62 : Den A62 → Bool) (g62 : Den A62 → Den R62) (k63 : Den A63 → Bool) (g63 : Den A63 → Den R63) (k15 : Den A15 → Bool) (g15 : Den A15 → Den R15) (kl8 : V26_8 → Bool) (xl8 : V26_8 → X26_8) (tl8 : V26_8 → Bool) (yl8 : V26_8 → Y26_8) (x : Den A26) : Option (Den R26) :=
  let v0 := (k23 (x.fst, ()))
  bif (v0) then
    let v1 := (g23 (x.fst, ()))
    bif (!v1.fst) then
      some ((-1), ())
    else
      let v2 := (k70 (x.snd.snd.fst, ()))
      bif (v2) then
        let v3 := (g70 (x.snd.snd.fst, ()))
        bif (!v3.fst) then
          some ((-1), ())
        else
          let v4 := (IntKind.wrap IntKind.i64 ((↑(List.length x.fst.snd.fst) : Int) - 1))
          let v5 := (k62 (x.snd.fst, 0, v4, ()))
          bif (v5) then
            let v6 := (g62 (x.snd.fst, 0, v4, ()))
            bif (!v6.fst) then
              some ((-1), ())
            else
              let v7 := (IntKind.wrap IntKind.i64 ((↑(List.length x.snd.snd.fst) : Int) - 1))
              let v8 := (k62 (x.snd.snd.snd.fst, 0, v7, ()))
              bif (v8) then
                let v9 := (g62 (x.snd.snd.snd.fst, 0, v7, ()))
                bif (!v9.fst) then
                  some ((-1), ())
                else
                  bif (decide (0 ≤ x.snd.fst) && decide (x.snd.fst < (↑(List.length x.fst.snd.fst) : Int))) then
                    let v10 := (List.getD x.fst.snd.fst (Int.toNat x.snd.fst) (zero S82))
                    bif (v10.snd.1) then
                      let v11 := (kl8 ((x.snd.fst, x.snd.snd.fst, (), -1, 0, x.snd.snd.snd), (x.fst.fst.fst.fst, x.fst.fst.fst.snd.fst, x.fst.fst.snd.fst.fst, x.fst.fst.snd.fst.snd.fst, x.fst.snd.fst, x.fst.snd.snd.fst.fst.fst, x.fst.snd.snd.fst.fst.snd.fst, x.fst.snd.snd.fst.snd.fst), ()))
                      bif (v11) then
                        let v12 := (tl8 ((x.snd.fst, x.snd.snd.fst, (), -1, 0, x.snd.snd.snd), (x.fst.fst.fst.fst, x.fst.fst.fst.snd.fst, x.fst.fst.snd.fst.fst, x.fst.fst.snd.fst.snd.fst, x.fst.snd.fst, x.fst.snd.snd.fst.fst.fst, x.fst.snd.snd.fst.fst.snd.fst, x.fst.snd.snd.fst.snd.fst), ()))
                        bif (v12) then
                          let v13 := (yl8 ((x.snd.fst, x.snd.snd.fst, (), -1, 0, x.snd.snd.snd), (x.fst.fst.fst.fst, x.fst.fst.fst.snd.fst, x.fst.fst.snd.fst.fst, x.fst.fst.snd.fst.snd.fst, x.fst.snd.fst, x.fst.snd.snd.fst.fst.fst, x.fst.snd.snd.fst.fst.snd.fst, x.fst.snd.snd.fst.snd.fst), ()))
                          some ((v13.fst.1), ())
                        else
                          some ((-1), ())
                      else
                        none
                    else
                      let v11 := (kl8 ((x.snd.fst, x.snd.snd.fst, (), 1, 0, x.snd.snd.snd), (x.fst.fst.fst.fst, x.fst.fst.fst.snd.fst, x.fst.fst.snd.fst.fst, x.fst.fst.snd.fst.snd.fst, x.fst.snd.fst, x.fst.snd.snd.fst.fst.fst, x.fst.snd.snd.fst.fst.snd.fst, x.fst.snd.snd.fst.snd.fst), ()))
                      bif (v11) then
                        let v12 := (tl8 ((x.snd.fst, x.snd.snd.fst, (), 1, 0, x.snd.snd.snd), (x.fst.fst.fst.fst, x.fst.fst.fst.snd.fst, x.fst.fst.snd.fst.fst, x.fst.fst.snd.fst.snd.fst, x.fst.snd.fst, x.fst.snd.snd.fst.fst.fst, x.fst.snd.snd.fst.fst.snd.fst, x.fst.snd.snd.fst.snd.fst), ()))
                        bif (v12) then
                          let v13 := (yl8 ((x.snd.fst, x.snd.snd.fst, (), 1, 0, x.snd.snd.snd), (x.fst.fst.fst.fst, x.fst.fst.fst.snd.fst, x.fst.fst.snd.fst.fst, x.fst.fst.snd.fst.snd.fst, x.fst.snd.fst, x.fst.snd.snd.fst.fst.fst, x.fst.snd.snd.fst.fst.snd.fst, x.fst.snd.snd.fst.snd.fst), ()))
                          some ((v13.fst.1), ())
                        else
                          some ((-1), ())
                      else
                        none
                  else
                    none
              else
                none
          else
            none
      else
        none
  else
    none
theorem ev26 (k23 : Den A23 → Bool) (g23 : Den A23 → Den R23) (k70 : Den A70 → Bool) (g70 : Den A70 → Den R70) (k62 : Den A62 → Bool) (g62 : Den A62 → Den R62) (k63 : Den A63 → Bool) (g63 : Den A63 → Den R63) (k15 : Den A15 → Bool) (g15 : Den A15 → Den R15) (kl8 : V26_8 → Bool) (xl8 : V26_8 → X26_8) (tl8 : V26_8 → Bool) (yl8 : V26_8 → Y26_8) (x : Den A26) : callK (Γ26 k23 g23 k70 g70 k62 g62 k63 g63 k15 g15 kl8 xl8 tl8 yl8) (bodyOf Try.f26) (decR R26) (encA A26 x) [] = r26 k23 g23 k70 g70 k62 g62 k63 g63 k15 g15 kl8 xl8 tl8 yl8 x := by kernel_rfl
def F26 (x : Den A26) : Option (Den R26) := r26 K23 G23 K70 G70 K62 G62 K63 G63 K15 G15 kL26_8 xL26_8 tL26_8 yL26_8 x
def K26 (x : Den A26) : Bool := (F26 x).isSome
def G26 (x : Den A26) : Den R26 := (F26 x).getD (zero R26)
theorem env26 : EnvOK Try.prog (Γ26 K23 G23 K70 G70 K62 G62 K63 G63 K15 G15 kL26_8 xL26_8 tL26_8 yL26_8) := env_ok mixed tab_ok eqs_ok (.cons sem23 (.cons sem70 (.cons sem62 (.cons sem63 (.cons sem15 .nil)))))
theorem is26 : FnIs Try.prog 26 (Γ26 K23 G23 K70 G70 K62 G62 K63 G63 K15 G15 kL26_8 xL26_8 tL26_8 yL26_8) (bodyOf Try.f26) := fnIs Try.func26 rfl rfl rfl (by kernel_rfl) (loops_ok (l := [lc26_8]) (by kernel_rfl) (.cons (one_loop rfl (loopR_sound (sh := sh26_8) (shX := shX26_8) (shR := shY26_8) (fun f v => evl26_8 K23 G23 K70 G70 K62 G62 K63 G63 K15 G15 kL26_8 xL26_8 tL26_8 yL26_8 f v) b26_8 ((), ()) ((0, ()), ()))) (.nil)))
theorem sem26 : SemOK Try.prog (26, fnMean A26 R26 K26 G26) := fn_opt env26 is26 fun x => ev26 K23 G23 K70 G70 K62 G62 K63 G63 K15 G15 kL26_8 xL26_8 tL26_8 yL26_8 x

/- "loop.example/g03321/laws.eqSight" -/
abbrev A79 : Ty := .cons (S95) (.cons (S95) (.nil))
abbrev R79 : Ty := .cons (.bool) (.nil)
noncomputable def Γ79 (k87 : Den A87 → Bool) (g87 : Den A87 → Den R87) : Env := mkEnv tab eqs [(87, fnMean A87 R87 k87 g87)] 16 [.tmp 4] [] [] [] [] []
def r79 (k87 : Den A87 → Bool) (g87 : Den A87 → Den R87) (x : Den A79) : Option (Den R79) :=
  let v0 := (k87 (x.fst.fst, x.snd.fst.fst, ()))
  bif (v0) then
    let v1 := (g87 (x.fst.fst, x.snd.fst.fst, ()))
    bif (!v1.fst) then
      some ((false), ())
    else
      bif (x.fst.snd.fst != x.snd.fst.snd.fst) then
        some ((false), ())
      else
        some ((true), ())
  else
    none
theorem ev79 (k87 : Den A87 → Bool) (g87 : Den A87 → Den R87) (x : Den A79) : callK (Γ79 k87 g87) (bodyOf Try.f79) (decR R79) (encA A79 x) [] = r79 k87 g87 x := by kernel_rfl
def F79 (x : Den A79) : Option (Den R79) := r79 K87 G87 x
def K79 (x : Den A79) : Bool := (F79 x).isSome
def G79 (x : Den A79) : Den R79 := (F79 x).getD (zero R79)
theorem env79 : EnvOK Try.prog (Γ79 K87 G87) := env_ok mixed tab_ok eqs_ok (.cons sem87 .nil)
theorem is79 : FnIs Try.prog 79 (Γ79 K87 G87) (bodyOf Try.f79) := fnIs Try.func79 rfl rfl rfl (by kernel_rfl) (noLoops (by kernel_rfl))
theorem sem79 : SemOK Try.prog (79, fnMean A79 R79 K79 G79) := fn_opt env79 is79 fun x => ev79 K87 G87 x

/- "loop.example/g03321/laws.eqSightS" -/
abbrev A35 : Ty := .cons (.slice (S95)) (.cons (.slice (S95)) (.nil))
abbrev R35 : Ty := .cons (.bool) (.nil)
abbrev V35_4 : Type := (((List (Den (S95))) × ((List (Den (S95))) × (Int × Unit))) × Unit)
def sh35_4 : ShS := ⟨[(0, .one (.sl (S95))), (1, .one (.sl (S95))), (5, .one (.int .i64))], [], 0, 0⟩
abbrev X35_4 : Type := (Unit × Unit)
def shX35_4 : ShS := ⟨[], [], 0, 0⟩
abbrev Y35_4 : Type := ((Bool × Unit) × Unit)
def shY35_4 : ShS := ⟨[(4, .one (.bool))], [], 0, 0⟩
noncomputable def Γ35 (k79 : Den A79 → Bool) (g79 : Den A79 → Den R79) (kl4 : V35_4 → Bool) (xl4 : V35_4 → X35_4) (tl4 : V35_4 → Bool) (yl4 : V35_4 → Y35_4) : Env := mkEnv tab eqs [(79, fnMean A79 R79 k79 g79)] 27 [.tmp 4] [] [] [(4, loopR [0, 1, 5] [] 0 [] [] sh35_4 shX35_4 shY35_4 kl4 tl4 xl4 yl4)] [] []
noncomputable def lc35_4 : Code := (loopsOf (bodyOf Try.f35)).getD 0 .skip
def q35_4 (k79 : Den A79 → Bool) (g79 : Den A79 → Den R79) (f : V35_4 → Option (X35_4 ⊕ Y35_4)) (v : V35_4) : Option (X35_4 ⊕ Y35_4) :=
  bif (decide (v.fst.snd.snd.fst < (↑(List.length v.fst.fst) : Int))) then
    bif (decide (0 ≤ v.fst.snd.snd.fst) && decide (v.fst.snd.snd.fst < (↑(List.length v.fst.fst) : Int))) then
      bif (decide (0 ≤ v.fst.snd.snd.fst) && decide (v.fst.snd.snd.fst < (↑(List.length v.fst.snd.fst) : Int))) then
        let v0 := (List.getD v.fst.fst (Int.toNat v.fst.snd.snd.fst) (zero S95))
        let v1 := (List.getD v.fst.snd.fst (Int.toNat v.fst.snd.snd.fst) (zero S95))
        let v2 := (k79 (v0, v1, ()))
        bif (v2) then
          let v3 := (g79 (v0, v1, ()))
          bif (!v3.fst) then
            some (Sum.inr (((false), ()), ()))
          else
            let v4 := (IntKind.wrap IntKind.i64 (v.fst.snd.snd.fst + 1))
            f (((v.fst.1), ((v.fst.snd.1), ((v4), ()))), ())
        else
          none
      else
        none
    else
      none
  else
    some (Sum.inl ((), ()))
theorem evl35_4 (k79 : Den A79 → Bool) (g79 : Den A79 → Den R79) (kl4 : V35_4 → Bool) (xl4 : V35_4 → X35_4) (tl4 : V35_4 → Bool) (yl4 : V35_4 → Y35_4) (f : V35_4 → Option (X35_4 ⊕ Y35_4)) (v : V35_4) : EBk (Γ35 k79 g79 kl4 xl4 tl4 yl4) lc35_4 (roundK [0, 1, 5] [] 0 [] [] (atS sh35_4 f) (endS shX35_4 shY35_4)) (mkS sh35_4 v) = q35_4 k79 g79 f v := by kernel_rfl
def b35_4 (v : V35_4) : Nat := v.1.1.length + v.1.2.1.length + v.1.2.2.1.natAbs + 1000
def l35_4 (v : V35_4) : Option (X35_4 ⊕ Y35_4) := iter (q35_4 K79 G79) (b35_4 v) v
def kL35_4 (v : V35_4) : Bool := (l35_4 v).isSome
def tL35_4 (v : V35_4) : Bool := isR (l35_4 v)
def xL35_4 (v : V35_4) : X35_4 := xOf ((), ()) (l35_4 v)
def yL35_4 (v : V35_4) : Y35_4 := yOf ((false, ()), ()) (l35_4 v)
def r35 (k79 : Den A79 → Bool) (g79 : Den A79 → Den R79) (kl4 : V35_4 → Bool) (xl4 : V35_4 → X35_4) (tl4 : V35_4 → Bool) (yl4 : V35_4 → Y35_4) (x : Den A35) : Option (Den R35) :=
  bif ((↑(List.length x.fst) : Int) != (↑(List.length x.snd.fst) : Int)) then
    some ((false), ())
  else
    let v0 := (kl4 ((x.fst, x.snd.fst, 0, ()), ()))
    bif (v0) then
      let v1 := (tl4 ((x.fst, x.snd.fst, 0, ()), ()))
      bif (v1) then
        let v2 := (yl4 ((x.fst, x.snd.fst, 0, ()), ()))
        some ((v2.fst.1), ())
      else
        some ((true), ())
    else
      none
theorem ev35 (k79 : Den A79 → Bool) (g79 : Den A79 → Den R79) (kl4 : V35_4 → Bool) (xl4 : V35_4 → X35_4) (tl4 : V35_4 → Bool) (yl4 : V35_4 → Y35_4) (x : Den A35) : callK (Γ35 k79 g79 kl4 xl4 tl4 yl4) (bodyOf Try.f35) (decR R35) (encA A35 x) [] = r35 k79 g79 kl4 xl4 tl4 yl4 x := by kernel_rfl
def F35 (x : Den A35) : Option (Den R35) := r35 K79 G79 kL35_4 xL35_4 tL35_4 yL35_4 x
def K35 (x : Den A35) : Bool := (F35 x).isSome
def G35 (x : Den A35) : Den R35 := (F35 x).getD (zero R35)
theorem env35 : EnvOK Try.prog (Γ35 K79 G79 kL35_4 xL35_4 tL35_4 yL35_4) := env_ok mixed tab_ok eqs_ok (.cons sem79 .nil)
theorem is35 : FnIs Try.prog 35 (Γ35 K79 G79 kL35_4 xL35_4 tL35_4 yL35_4) (bodyOf Try.f35) := fnIs Try.func35 rfl rfl rfl (by kernel_rfl) (loops_ok (l := [lc35_4]) (by kernel_rfl) (.cons (one_loop rfl (loopR_sound (sh := sh35_4) (shX := shX35_4) (shR := shY35_4) (fun f v => evl35_4 K79 G79 kL35_4 xL35_4 tL35_4 yL35_4 f v) b35_4 ((), ()) ((false, ()), ()))) (.nil)))
theorem sem35 : SemOK Try.prog (35, fnMean A35 R35 K35 G35) := fn_opt env35 is35 fun x => ev35 K79 G79 kL35_4 xL35_4 tL35_4 yL35_4 x

/- "loop.example/g03321/laws.FnExactRoundedAt" -/
abbrev A9 : Ty := .cons (S38) (.cons (.int .i64) (.cons (.slice (S104)) (.cons (.int .i64) (.nil))))
abbrev R9 : Ty := .cons (.bool) (.nil)
noncomputable def Γ9 (k20 : Den A20 → Bool) (g20 : Den A20 → Den R20) (k32 : Den A32 → Bool) (g32 : Den A32 → Den R32) (k22 : I22.den → Bool) (g22 : I22.den → O22.den) (k34 : I34.den → Bool) (g34 : I34.den → O34.den) (k33 : Den A33 → Bool) (g33 : Den A33 → Den R33) (k26 : Den A26 → Bool) (g26 : Den A26 → Den R26) (k24 : Den A24 → Bool) (g24 : Den A24 → Den R24) (k35 : Den A35 → Bool) (g35 : Den A35 → Den R35) : Env := mkEnv tab eqs [(20, fnMean A20 R20 k20 g20), (32, fnMean A32 R32 k32 g32), (22, sgMean false I22 O22 k22 g22), (34, sgMean false I34 O34 k34 g34), (33, fnMean A33 R33 k33 g33), (26, fnMean A26 R26 k26 g26), (24, fnMean A24 R24 k24 g24), (35, fnMean A35 R35 k35 g35)] 53 [.tmp 8] [] [] [] [] []
def r9 (k20 : Den A20 → Bool) (g20 : Den A20 → Den R20) (k32 : Den A32 → Bool) (g32 : Den A32 → Den R32) (k22 : I22.den → Bool) (g22 : I22.den → O22.den) (k34 : I34.den → Bool) (g34 : I34.den → O34.den) (k33 : Den A33 → Bool) (g33 : Den A33 → Den R33) (k26 : Den A26 → Bool) (g26 : Den A26 → Den R26) (k24 : Den A24 → Bool) (g24 : Den A24 → Den R24) (k35 : Den A35 → Bool) (g35 : Den A35 → Den R35) (x : Den A9) : Option (Den R9) :=
  let v0 := (k20 (x.fst, 1048576, ()))
  bif (v0) then
    let v1 := (g20 (x.fst, 1048576, ()))
    bif (decide (v1.fst < 0)) then
      some ((true), ())
    else
      let v2 := (k32 (x.snd.snd.fst, v1))
      bif (v2) then
        let v3 := (g32 (x.snd.snd.fst, v1))
        bif (decide (v3.fst < 0)) then
          some ((true), ())
        else
          let v4 := (k22 ((x.fst, ()), ()))
          bif (v4) then
            let v5 := (k34 ((x.snd.snd.fst, ()), ()))
            bif (v5) then
              let v6 := (g22 ((x.fst, ()), ()))
              let v7 := (g34 ((x.snd.snd.fst, ()), ()))
              let v8 := (k33 ((((v6.fst.fst.fst, v6.fst.fst.snd.fst, ()), (v6.fst.fst.snd.snd.fst, v6.fst.fst.snd.snd.snd.fst, ()), ()), v6.snd.fst, ((v6.fst.fst.snd.snd.snd.snd.snd.fst, v6.fst.fst.snd.snd.snd.snd.snd.snd.fst, ()), v6.fst.fst.snd.snd.snd.snd.snd.snd.snd, ()), ()), x.snd.fst, v7.snd.fst, x.snd.snd.snd))
              bif (v8) then
                bif (v4) then
                  bif (v5) then
                    let v9 := (k26 ((((v6.fst.fst.fst, v6.fst.fst.snd.fst, ()), (v6.fst.fst.snd.snd.fst, v6.fst.fst.snd.snd.snd.fst, ()), ()), v6.snd.fst, ((v6.fst.fst.snd.snd.snd.snd.snd.fst, v6.fst.fst.snd.snd.snd.snd.snd.snd.fst, ()), v6.fst.fst.snd.snd.snd.snd.snd.snd.snd, ()), ()), x.snd.fst, v7.snd.fst, x.snd.snd.snd))
                    bif (v9) then
                      let v10 := (g26 ((((v6.fst.fst.fst, v6.fst.fst.snd.fst, ()), (v6.fst.fst.snd.snd.fst, v6.fst.fst.snd.snd.snd.fst, ()), ()), v6.snd.fst, ((v6.fst.fst.snd.snd.snd.snd.snd.fst, v6.fst.fst.snd.snd.snd.snd.snd.snd.fst, ()), v6.fst.fst.snd.snd.snd.snd.snd.snd.snd, ()), ()), x.snd.fst, v7.snd.fst, x.snd.snd.snd))
                      let v11 := (g33 ((((v6.fst.fst.fst, v6.fst.fst.snd.fst, ()), (v6.fst.fst.snd.snd.fst, v6.fst.fst.snd.snd.snd.fst, ()), ()), v6.snd.fst, ((v6.fst.fst.snd.snd.snd.snd.snd.fst, v6.fst.fst.snd.snd.snd.snd.snd.snd.fst, ()), v6.fst.fst.snd.snd.snd.snd.snd.snd.snd, ()), ()), x.snd.fst, v7.snd.fst, x.snd.snd.snd))
                      bif (v10.fst != v11.fst) then
                        some ((false), ())
                      else
                        bif (v4) then
                          let v12 := (k24 ((((v6.fst.fst.fst, v6.fst.fst.snd.fst, ()), (v6.fst.fst.snd.snd.fst, v6.fst.fst.snd.snd.snd.fst, ()), ()), v6.snd.fst, ((v6.fst.fst.snd.snd.snd.snd.snd.fst, v6.fst.fst.snd.snd.snd.snd.snd.snd.fst, ()), v6.fst.fst.snd.snd.snd.snd.snd.snd.snd, ()), ()), (((v6.fst.fst.fst, v6.fst.fst.snd.fst, ()), (v6.fst.fst.snd.snd.fst, v6.fst.fst.snd.snd.snd.fst, ()), ()), v6.snd.fst, ((v6.fst.fst.snd.snd.snd.snd.snd.fst, v6.fst.fst.snd.snd.snd.snd.snd.snd.fst, ()), v6.fst.fst.snd.snd.snd.snd.snd.snd.snd, ()), ()), ()))
                          bif (v12) then
                            let v13 := (g24 ((((v6.fst.fst.fst, v6.fst.fst.snd.fst, ()), (v6.fst.fst.snd.snd.fst, v6.fst.fst.snd.snd.snd.fst, ()), ()), v6.snd.fst, ((v6.fst.fst.snd.snd.snd.snd.snd.fst, v6.fst.fst.snd.snd.snd.snd.snd.snd.fst, ()), v6.fst.fst.snd.snd.snd.snd.snd.snd.snd, ()), ()), (((v6.fst.fst.fst, v6.fst.fst.snd.fst, ()), (v6.fst.fst.snd.snd.fst, v6.fst.fst.snd.snd.snd.fst, ()), ()), v6.snd.fst, ((v6.fst.fst.snd.snd.snd.snd.snd.fst, v6.fst.fst.snd.snd.snd.snd.snd.snd.fst, ()), v6.fst.fst.snd.snd.snd.snd.snd.snd.snd, ()), ()), ()))
                            bif (!v13.fst) then
                              some ((false), ())
                            else
                              bif (v5) then
                                let v14 := (k35 (v7.snd.fst, v7.snd))
                                bif (v14) then
                                  let v15 := (g35 (v7.snd.fst, v7.snd))
                                  bif (!v15.fst) then
                                    some ((false), ())
                                  else
                                    some ((true), ())
                                else
                                  none
                              else
                                none
                          else
                            none
                        else
                          none
                    else
                      none
                  else
                    none
                else
                  none
              else
                none
            else
              none
          else
            none
      else
        none
  else
    none
theorem ev9 (k20 : Den A20 → Bool) (g20 : Den A20 → Den R20) (k32 : Den A32 → Bool) (g32 : Den A32 → Den R32) (k22 : I22.den → Bool) (g22 : I22.den → O22.den) (k34 : I34.den → Bool) (g34 : I34.den → O34.den) (k33 : Den A33 → Bool) (g33 : Den A33 → Den R33) (k26 : Den A26 → Bool) (g26 : Den A26 → Den R26) (k24 : Den A24 → Bool) (g24 : Den A24 → Den R24) (k35 : Den A35 → Bool) (g35 : Den A35 → Den R35) (x : Den A9) : callK (Γ9 k20 g20 k32 g32 k22 g22 k34 g34 k33 g33 k26 g26 k24 g24 k35 g35) (bodyOf Try.f9) (decR R9) (encA A9 x) [] = r9 k20 g20 k32 g32 k22 g22 k34 g34 k33 g33 k26 g26 k24 g24 k35 g35 x := by kernel_rfl
def F9 (x : Den A9) : Option (Den R9) := r9 K20 G20 K32 G32 K22 G22 K34 G34 K33 G33 K26 G26 K24 G24 K35 G35 x
def K9 (x : Den A9) : Bool := (F9 x).isSome
def G9 (x : Den A9) : Den R9 := (F9 x).getD (zero R9)
theorem env9 : EnvOK Try.prog (Γ9 K20 G20 K32 G32 K22 G22 K34 G34 K33 G33 K26 G26 K24 G24 K35 G35) := env_ok mixed tab_ok eqs_ok (.cons sem20 (.cons sem32 (.cons sem22 (.cons sem34 (.cons sem33 (.cons sem26 (.cons sem24 (.cons sem35 .nil))))))))
theorem is9 : FnIs Try.prog 9 (Γ9 K20 G20 K32 G32 K22 G22 K34 G34 K33 G33 K26 G26 K24 G24 K35 G35) (bodyOf Try.f9) := fnIs Try.func9 rfl rfl rfl (by kernel_rfl) (noLoops (by kernel_rfl))
theorem sem9 : SemOK Try.prog (9, fnMean A9 R9 K9 G9) := fn_opt env9 is9 fun x => ev9 K20 G20 K32 G32 K22 G22 K34 G34 K33 G33 K26 G26 K24 G24 K35 G35 x

/- "loop.example/g03321/spec.Progress" mode S false -/
abbrev I36 : Sg := ⟨[.val (S45), .val (.slice (S95)), .val (.int .i64)], []⟩
abbrev O36 : Sg := ⟨[.own (.int .i64) 0], [.arr (.int .i64)]⟩
abbrev V36_3 : Type := (((List (Den (S95))) × (Int × (Unit × (Unit × (Int × Unit))))) × ((Int × (Int × (Int × (Int × ((List (Den (S82))) × (Int × (Int × (Int × (Int × Unit))))))))) × ((List (Den (.int .i64))) × Unit)))
def sh36_3 : ShS := ⟨[(1, .one (.sl (S95))), (2, .one (.int .i64)), (3, .one (.ptr 0 0)), (7, .one (.ref (.int .i64) 1)), (8, .one (.int .i64))], [(0, .box [.int .i64, .int .i64, .int .i64, .int .i64, .sl (S82), .int .i64, .int .i64, .int .i64, .int .i64]), (1, .arr (.int .i64))], 2, 0⟩
abbrev X36_3 : Type := ((Unit × Unit) × ((List (Den (.int .i64))) × Unit))
def shX36_3 : ShS := ⟨[(7, .one (.ref (.int .i64) 0))], [(0, .arr (.int .i64))], 1, 0⟩
abbrev Y36_3 : Type := ((Unit × Unit) × ((List (Den (.int .i64))) × Unit))
def shY36_3 : ShS := ⟨[(6, .one (.ref (.int .i64) 0))], [(0, .arr (.int .i64))], 1, 0⟩
noncomputable def Γ36 (k33 : Den A33 → Bool) (g33 : Den A33 → Den R33) (kl3 : V36_3 → Bool) (xl3 : V36_3 → X36_3) (tl3 : V36_3 → Bool) (yl3 : V36_3 → Y36_3) : Env := mkEnv tab eqs [(33, fnMean A33 R33 k33 g33)] 30 [.tmp 6] [] [] [(3, loopR [1, 2, 3, 7, 8] [] 0 [7] [] sh36_3 shX36_3 shY36_3 kl3 tl3 xl3 yl3)] [] []
noncomputable def lc36_3 : Code := (loopsOf (bodyOf Try.f36)).getD 0 .skip
def q36_3 (k33 : Den A33 → Bool) (g33 : Den A33 → Den R33) (f : V36_3 → Option (X36_3 ⊕ Y36_3)) (v : V36_3) : Option (X36_3 ⊕ Y36_3) :=
  bif (decide (v.fst.snd.snd.snd.snd.fst < (↑(List.length v.snd.fst.snd.snd.snd.snd.fst) : Int))) then
    let v0 := (k33 ((((v.snd.fst.fst, v.snd.fst.snd.fst, ()), (v.snd.fst.snd.snd.fst, v.snd.fst.snd.snd.snd.fst, ()), ()), v.snd.fst.snd.snd.snd.snd.fst, ((v.snd.fst.snd.snd.snd.snd.snd.fst, v.snd.fst.snd.snd.snd.snd.snd.snd.fst, ()), v.snd.fst.snd.snd.snd.snd.snd.snd.snd, ()), ()), v.fst.snd.snd.snd.snd.fst, v.fst.fst, v.fst.snd.fst, ()))
    bif (v0) then
      let v1 := (g33 ((((v.snd.fst.fst, v.snd.fst.snd.fst, ()), (v.snd.fst.snd.snd.fst, v.snd.fst.snd.snd.snd.fst, ()), ()), v.snd.fst.snd.snd.snd.snd.fst, ((v.snd.fst.snd.snd.snd.snd.snd.fst, v.snd.fst.snd.snd.snd.snd.snd.snd.fst, ()), v.snd.fst.snd.snd.snd.snd.snd.snd.snd, ()), ()), v.fst.snd.snd.snd.snd.fst, v.fst.fst, v.fst.snd.fst, ()))
      bif (decide (v1.fst < 0)) then
        some (Sum.inr (((), ()), ((v.snd.snd.1), ())))
      else
        let v2 := (List.set (List.replicate 1 (zero (Ty.int IntKind.i64))) 0 v1.fst)
        bif (capOk (List.length v.snd.snd.fst + List.length v2)) then
          let v3 := (IntKind.wrap IntKind.i64 (v.fst.snd.snd.snd.snd.fst + 1))
          let v4 := (v.snd.snd.fst ++ v2)
          f (((v.fst.1), ((v1.1), ((), ((), ((v3), ()))))), (((v.snd.fst.1), ((v.snd.fst.snd.1), ((v.snd.fst.snd.snd.1), ((v.snd.fst.snd.snd.snd.1), ((v.snd.fst.snd.snd.snd.snd.1), ((v.snd.fst.snd.snd.snd.snd.snd.1), ((v.snd.fst.snd.snd.snd.snd.snd.snd.1), ((v.snd.fst.snd.snd.snd.snd.snd.snd.snd.1), ((v.snd.fst.snd.snd.snd.snd.snd.snd.snd.snd.1), ()))))))))), ((v4), ())))
        else
          none
    else
      none
  else
    some (Sum.inl (((), ()), ((v.snd.snd.1), ())))
theorem evl36_3 (k33 : Den A33 → Bool) (g33 : Den A33 → Den R33) (kl3 : V36_3 → Bool) (xl3 : V36_3 → X36_3) (tl3 : V36_3 → Bool) (yl3 : V36_3 → Y36_3) (f : V36_3 → Option (X36_3 ⊕ Y36_3)) (v : V36_3) : EBk (Γ36 k33 g33 kl3 xl3 tl3 yl3) lc36_3 (roundK [1, 2, 3, 7, 8] [] 0 [7] [] (atS sh36_3 f) (endS shX36_3 shY36_3)) (mkS sh36_3 v) = q36_3 k33 g33 f v := by kernel_rfl
def b36_3 (v : V36_3) : Nat := v.1.1.length + v.1.2.1.natAbs + v.1.2.2.2.2.1.natAbs + v.2.1.1.natAbs + v.2.1.2.1.natAbs + v.2.1.2.2.1.natAbs + v.2.1.2.2.2.1.natAbs + v.2.1.2.2.2.2.1.length + v.2.1.2.2.2.2.2.1.natAbs + v.2.1.2.2.2.2.2.2.1.natAbs + v.2.1.2.2.2.2.2.2.2.1.natAbs + v.2.1.2.2.2.2.2.2.2.2.1.natAbs + v.2.2.1.length + 1000
def l36_3 (v : V36_3) : Option (X36_3 ⊕ Y36_3) := iter (q36_3 K33 G33) (b36_3 v) v
def kL36_3 (v : V36_3) : Bool := (l36_3 v).isSome
def tL36_3 (v : V36_3) : Bool := isR (l36_3 v)
def xL36_3 (v : V36_3) : X36_3 := xOf (((), ()), ([], ())) (l36_3 v)
def yL36_3 (v : V36_3) : Y36_3 := yOf (((), ()), ([], ())) (l36_3 v)
def r36 (k33 : Den A33 → Bool) (g33 : Den A33 → Den R33) (kl3 : V36_3 → Bool) (xl3 : V36_3 → X36_3) (tl3 : V36_3 → Bool) (yl3 : V36_3 → Y36_3) (x : I36.den) : Option (O36.den) :=
  let v0 := (kl3 ((x.fst.snd.fst, x.fst.snd.snd.fst, (), (), 0, ()), (x.fst.fst.fst.fst.fst, x.fst.fst.fst.fst.snd.fst, x.fst.fst.fst.snd.fst.fst, x.fst.fst.fst.snd.fst.snd.fst, x.fst.fst.snd.fst, x.fst.fst.snd.snd.fst.fst.fst, x.fst.fst.snd.snd.fst.fst.snd.fst, x.fst.fst.snd.snd.fst.snd.fst), List.replicate 0 (zero (Ty.int IntKind.i64)), ()))
  bif (v0) then
    let v1 := (tl3 ((x.fst.snd.fst, x.fst.snd.snd.fst, (), (), 0, ()), (x.fst.fst.fst.fst.fst, x.fst.fst.fst.fst.snd.fst, x.fst.fst.fst.snd.fst.fst, x.fst.fst.fst.snd.fst.snd.fst, x.fst.fst.snd.fst, x.fst.fst.snd.snd.fst.fst.fst, x.fst.fst.snd.snd.fst.fst.snd.fst, x.fst.fst.snd.snd.fst.snd.fst), List.replicate 0 (zero (Ty.int IntKind.i64)), ()))
    bif (v1) then
      let v2 := (yl3 ((x.fst.snd.fst, x.fst.snd.snd.fst, (), (), 0, ()), (x.fst.fst.fst.fst.fst, x.fst.fst.fst.fst.snd.fst, x.fst.fst.fst.snd.fst.fst, x.fst.fst.fst.snd.fst.snd.fst, x.fst.fst.snd.fst, x.fst.fst.snd.snd.fst.fst.fst, x.fst.fst.snd.snd.fst.fst.snd.fst, x.fst.fst.snd.snd.fst.snd.fst), List.replicate 0 (zero (Ty.int IntKind.i64)), ()))
      some (((), ()), ((v2.snd.1), ()))
    else
      let v2 := (xl3 ((x.fst.snd.fst, x.fst.snd.snd.fst, (), (), 0, ()), (x.fst.fst.fst.fst.fst, x.fst.fst.fst.fst.snd.fst, x.fst.fst.fst.snd.fst.fst, x.fst.fst.fst.snd.fst.snd.fst, x.fst.fst.snd.fst, x.fst.fst.snd.snd.fst.fst.fst, x.fst.fst.snd.snd.fst.fst.snd.fst, x.fst.fst.snd.snd.fst.snd.fst), List.replicate 0 (zero (Ty.int IntKind.i64)), ()))
      some (((), ()), ((v2.snd.1), ()))
  else
    none
theorem ev36 (k33 : Den A33 → Bool) (g33 : Den A33 → Den R33) (kl3 : V36_3 → Bool) (xl3 : V36_3 → X36_3) (tl3 : V36_3 → Bool) (yl3 : V36_3 → Y36_3) (x : I36.den) : callS (Γ36 k33 g33 kl3 xl3 tl3 yl3) (bodyOf Try.f36) I36 O36 x = r36 k33 g33 kl3 xl3 tl3 yl3 x := by kernel_rfl
def F36 (x : I36.den) : Option (O36.den) := r36 K33 G33 kL36_3 xL36_3 tL36_3 yL36_3 x
def K36 (x : I36.den) : Bool := (F36 x).isSome
def G36 (x : I36.den) : O36.den := (F36 x).getD (zeroSg O36)
theorem env36 : EnvOK Try.prog (Γ36 K33 G33 kL36_3 xL36_3 tL36_3 yL36_3) := env_ok mixed tab_ok eqs_ok (.cons sem33 .nil)
theorem is36 : FnIs Try.prog 36 (Γ36 K33 G33 kL36_3 xL36_3 tL36_3 yL36_3) (bodyOf Try.f36) := fnIs Try.func36 rfl rfl rfl (by kernel_rfl) (loops_ok (l := [lc36_3]) (by kernel_rfl) (.cons (one_loop rfl (loopR_sound (sh := sh36_3) (shX := shX36_3) (shR := shY36_3) (fun f v => evl36_3 K33 G33 kL36_3 xL36_3 tL36_3 yL36_3 f v) b36_3 (((), ()), ([], ())) (((), ()), ([], ())))) (.nil)))
theorem sem36 : SemOK Try.prog (36, sgMean false I36 O36 K36 G36) := sg_opt env36 is36 false fun x => ev36 K33 G33 kL36_3 xL36_3 tL36_3 yL36_3 x

/- "loop.example/g03321/impl.Progress" mode S false -/
abbrev I31 : Sg := ⟨[.val (S45), .val (.slice (S95)), .val (.int .i64)], []⟩
abbrev O31 : Sg := ⟨[.own (.int .i64) 0], [.arr (.int .i64)]⟩
abbrev V31_3 : Type := (((List (Den (S95))) × (Int × (Unit × (Unit × (Int × (Int × Unit)))))) × ((Int × (Int × (Int × (Int × ((List (Den (S82))) × (Int × (Int × (Int × (Int × Unit))))))))) × ((List (Den (.int .i64))) × Unit)))
def sh31_3 : ShS := ⟨[(1, .one (.sl (S95))), (2, .one (.int .i64)), (3, .one (.ptr 0 0)), (7, .one (.ref (.int .i64) 1)), (11, .one (.int .i64)), (12, .one (.int .i64))], [(0, .box [.int .i64, .int .i64, .int .i64, .int .i64, .sl (S82), .int .i64, .int .i64, .int .i64, .int .i64]), (1, .arr (.int .i64))], 2, 0⟩
abbrev X31_3 : Type := ((Unit × Unit) × ((List (Den (.int .i64))) × Unit))
def shX31_3 : ShS := ⟨[(7, .one (.ref (.int .i64) 0))], [(0, .arr (.int .i64))], 1, 0⟩
noncomputable def Γ31 (k26 : Den A26 → Bool) (g26 : Den A26 → Den R26) (kl3 : V31_3 → Bool) (xl3 : V31_3 → X31_3) : Env := mkEnv tab eqs [(26, fnMean A26 R26 k26 g26)] 28 [.tmp 6] [] [] [(3, loopX [1, 2, 3, 7, 11, 12] [.nil 7] 0 [7] [] sh31_3 shX31_3 kl3 xl3)] [] []
noncomputable def lc31_3 : Code := (loopsOf (bodyOf Try.f31)).getD 0 .skip
def q31_3 (k26 : Den A26 → Bool) (g26 : Den A26 → Den R26) (f : V31_3 → Option (X31_3)) (v : V31_3) : Option (X31_3) :=
  bif (decide (v.fst.snd.snd.snd.snd.snd.fst < v.fst.snd.snd.snd.snd.fst)) then
    let v0 := (k26 ((((v.snd.fst.fst, v.snd.fst.snd.fst, ()), (v.snd.fst.snd.snd.fst, v.snd.fst.snd.snd.snd.fst, ()), ()), v.snd.fst.snd.snd.snd.snd.fst, ((v.snd.fst.snd.snd.snd.snd.snd.fst, v.snd.fst.snd.snd.snd.snd.snd.snd.fst, ()), v.snd.fst.snd.snd.snd.snd.snd.snd.snd, ()), ()), v.fst.snd.snd.snd.snd.snd.fst, v.fst.fst, v.fst.snd.fst, ()))
    bif (v0) then
      let v1 := (g26 ((((v.snd.fst.fst, v.snd.fst.snd.fst, ()), (v.snd.fst.snd.snd.fst, v.snd.fst.snd.snd.snd.fst, ()), ()), v.snd.fst.snd.snd.snd.snd.fst, ((v.snd.fst.snd.snd.snd.snd.snd.fst, v.snd.fst.snd.snd.snd.snd.snd.snd.fst, ()), v.snd.fst.snd.snd.snd.snd.snd.snd.snd, ()), ()), v.fst.snd.snd.snd.snd.snd.fst, v.fst.fst, v.fst.snd.fst, ()))
      bif (decide (v1.fst < 0)) then
        some (((), ()), ((v.snd.snd.1), ()))
      else
        let v2 := (List.set (List.replicate 1 (zero (Ty.int IntKind.i64))) 0 v1.fst)
        bif (capOk (List.length v.snd.snd.fst + List.length v2)) then
          let v3 := (IntKind.wrap IntKind.i64 (v.fst.snd.snd.snd.snd.snd.fst + 1))
          let v4 := (v.snd.snd.fst ++ v2)
          f (((v.fst.1), ((v1.1), ((), ((), ((v.fst.snd.snd.snd.snd.1), ((v3), ())))))), (((v.snd.fst.1), ((v.snd.fst.snd.1), ((v.snd.fst.snd.snd.1), ((v.snd.fst.snd.snd.snd.1), ((v.snd.fst.snd.snd.snd.snd.1), ((v.snd.fst.snd.snd.snd.snd.snd.1), ((v.snd.fst.snd.snd.snd.snd.snd.snd.1), ((v.snd.fst.snd.snd.snd.snd.snd.snd.snd.1), ((v.snd.fst.snd.snd.snd.snd.snd.snd.snd.snd.1), ()))))))))), ((v4), ())))
        else
          none
    else
      none
  else
    some (((), ()), ((v.snd.snd.1), ()))
theorem evl31_3 (k26 : Den A26 → Bool) (g26 : Den A26 → Den R26) (kl3 : V31_3 → Bool) (xl3 : V31_3 → X31_3) (f : V31_3 → Option (X31_3)) (v : V31_3) : EBk (Γ31 k26 g26 kl3 xl3) lc31_3 (roundK [1, 2, 3, 7, 11, 12] [.nil 7] 0 [7] [] (atS sh31_3 f) (endX shX31_3)) (mkS sh31_3 v) = q31_3 k26 g26 f v := by kernel_rfl
def b31_3 (v : V31_3) : Nat := v.1.1.length + v.1.2.1.natAbs + v.1.2.2.2.2.1.natAbs + v.1.2.2.2.2.2.1.natAbs + v.2.1.1.natAbs + v.2.1.2.1.natAbs + v.2.1.2.2.1.natAbs + v.2.1.2.2.2.1.natAbs + v.2.1.2.2.2.2.1.length + v.2.1.2.2.2.2.2.1.natAbs + v.2.1.2.2.2.2.2.2.1.natAbs + v.2.1.2.2.2.2.2.2.2.1.natAbs + v.2.1.2.2.2.2.2.2.2.2.1.natAbs + v.2.2.1.length + 1000
def l31_3 (v : V31_3) : Option (X31_3) := iter (q31_3 K26 G26) (b31_3 v) v
def kL31_3 (v : V31_3) : Bool := (l31_3 v).isSome
def xL31_3 (v : V31_3) : X31_3 := (l31_3 v).getD (((), ()), ([], ()))
def r31 (k26 : Den A26 → Bool) (g26 : Den A26 → Den R26) (kl3 : V31_3 → Bool) (xl3 : V31_3 → X31_3) (x : I31.den) : Option (O31.den) :=
  let v0 := (kl3 ((x.fst.snd.fst, x.fst.snd.snd.fst, (), (), (↑(List.length x.fst.fst.snd.fst) : Int), 0, ()), (x.fst.fst.fst.fst.fst, x.fst.fst.fst.fst.snd.fst, x.fst.fst.fst.snd.fst.fst, x.fst.fst.fst.snd.fst.snd.fst, x.fst.fst.snd.fst, x.fst.fst.snd.snd.fst.fst.fst, x.fst.fst.snd.snd.fst.fst.snd.fst, x.fst.fst.snd.snd.fst.snd.fst), [], ()))
  bif (v0) then
    let v1 := (xl3 ((x.fst.snd.fst, x.fst.snd.snd.fst, (), (), (↑(List.length x.fst.fst.snd.fst) : Int), 0, ()), (x.fst.fst.fst.fst.fst, x.fst.fst.fst.fst.snd.fst, x.fst.fst.fst.snd.fst.fst, x.fst.fst.fst.snd.fst.snd.fst, x.fst.fst.snd.fst, x.fst.fst.snd.snd.fst.fst.fst, x.fst.fst.snd.snd.fst.fst.snd.fst, x.fst.fst.snd.snd.fst.snd.fst), [], ()))
    some (((), ()), ((v1.snd.1), ()))
  else
    none
theorem ev31 (k26 : Den A26 → Bool) (g26 : Den A26 → Den R26) (kl3 : V31_3 → Bool) (xl3 : V31_3 → X31_3) (x : I31.den) : callS (Γ31 k26 g26 kl3 xl3) (bodyOf Try.f31) I31 O31 x = r31 k26 g26 kl3 xl3 x := by kernel_rfl
def F31 (x : I31.den) : Option (O31.den) := r31 K26 G26 kL31_3 xL31_3 x
def K31 (x : I31.den) : Bool := (F31 x).isSome
def G31 (x : I31.den) : O31.den := (F31 x).getD (zeroSg O31)
theorem env31 : EnvOK Try.prog (Γ31 K26 G26 kL31_3 xL31_3) := env_ok mixed tab_ok eqs_ok (.cons sem26 .nil)
theorem is31 : FnIs Try.prog 31 (Γ31 K26 G26 kL31_3 xL31_3) (bodyOf Try.f31) := fnIs Try.func31 rfl rfl rfl (by kernel_rfl) (loops_ok (l := [lc31_3]) (by kernel_rfl) (.cons (one_loop rfl (loopX_sound (sh := sh31_3) (shX := shX31_3) (fun f v => evl31_3 K26 G26 kL31_3 xL31_3 f v) b31_3 (((), ()), ([], ())))) (.nil)))
theorem sem31 : SemOK Try.prog (31, sgMean false I31 O31 K31 G31) := sg_opt env31 is31 false fun x => ev31 K26 G26 kL31_3 xL31_3 x

/- "loop.example/g03321/laws.eqIntS" -/
abbrev A37 : Ty := .cons (.slice (.int .i64)) (.cons (.slice (.int .i64)) (.nil))
abbrev R37 : Ty := .cons (.bool) (.nil)
abbrev V37_4 : Type := (((List (Den (.int .i64))) × ((List (Den (.int .i64))) × (Int × Unit))) × Unit)
def sh37_4 : ShS := ⟨[(0, .one (.sl (.int .i64))), (1, .one (.sl (.int .i64))), (5, .one (.int .i64))], [], 0, 0⟩
abbrev X37_4 : Type := (Unit × Unit)
def shX37_4 : ShS := ⟨[], [], 0, 0⟩
abbrev Y37_4 : Type := ((Bool × Unit) × Unit)
def shY37_4 : ShS := ⟨[(4, .one (.bool))], [], 0, 0⟩
noncomputable def Γ37 (kl4 : V37_4 → Bool) (xl4 : V37_4 → X37_4) (tl4 : V37_4 → Bool) (yl4 : V37_4 → Y37_4) : Env := mkEnv tab eqs [] 26 [.tmp 4] [] [] [(4, loopR [0, 1, 5] [] 0 [] [] sh37_4 shX37_4 shY37_4 kl4 tl4 xl4 yl4)] [] []
noncomputable def lc37_4 : Code := (loopsOf (bodyOf Try.f37)).getD 0 .skip
def q37_4 (f : V37_4 → Option (X37_4 ⊕ Y37_4)) (v : V37_4) : Option (X37_4 ⊕ Y37_4) :=
  bif (decide (v.fst.snd.snd.fst < (↑(List.length v.fst.fst) : Int))) then
    bif (decide (0 ≤ v.fst.snd.snd.fst) && decide (v.fst.snd.snd.fst < (↑(List.length v.fst.fst) : Int))) then
      bif (decide (0 ≤ v.fst.snd.snd.fst) && decide (v.fst.snd.snd.fst < (↑(List.length v.fst.snd.fst) : Int))) then
        let v0 := (List.getD v.fst.fst (Int.toNat v.fst.snd.snd.fst) (zero (Ty.int IntKind.i64)))
        let v1 := (List.getD v.fst.snd.fst (Int.toNat v.fst.snd.snd.fst) (zero (Ty.int IntKind.i64)))
        bif (v0 != v1) then
          some (Sum.inr (((false), ()), ()))
        else
          let v2 := (IntKind.wrap IntKind.i64 (v.fst.snd.snd.fst + 1))
          f (((v.fst.1), ((v.fst.snd.1), ((v2), ()))), ())
      else
        none
    else
      none
  else
    some (Sum.inl ((), ()))
theorem evl37_4 (kl4 : V37_4 → Bool) (xl4 : V37_4 → X37_4) (tl4 : V37_4 → Bool) (yl4 : V37_4 → Y37_4) (f : V37_4 → Option (X37_4 ⊕ Y37_4)) (v : V37_4) : EBk (Γ37 kl4 xl4 tl4 yl4) lc37_4 (roundK [0, 1, 5] [] 0 [] [] (atS sh37_4 f) (endS shX37_4 shY37_4)) (mkS sh37_4 v) = q37_4 f v := by kernel_rfl
def b37_4 (v : V37_4) : Nat := v.1.1.length + v.1.2.1.length + v.1.2.2.1.natAbs + 1000
def l37_4 (v : V37_4) : Option (X37_4 ⊕ Y37_4) := iter (q37_4) (b37_4 v) v
def kL37_4 (v : V37_4) : Bool := (l37_4 v).isSome
def tL37_4 (v : V37_4) : Bool := isR (l37_4 v)
def xL37_4 (v : V37_4) : X37_4 := xOf ((), ()) (l37_4 v)
def yL37_4 (v : V37_4) : Y37_4 := yOf ((false, ()), ()) (l37_4 v)
def r37 (kl4 : V37_4 → Bool) (xl4 : V37_4 → X37_4) (tl4 : V37_4 → Bool) (yl4 : V37_4 → Y37_4) (x : Den A37) : Option (Den R37) :=
  bif ((↑(List.length x.fst) : Int) != (↑(List.length x.snd.fst) : Int)) then
    some ((false), ())
  else
    let v0 := (kl4 ((x.fst, x.snd.fst, 0, ()), ()))
    bif (v0) then
      let v1 := (tl4 ((x.fst, x.snd.fst, 0, ()), ()))
      bif (v1) then
        let v2 := (yl4 ((x.fst, x.snd.fst, 0, ()), ()))
        some ((v2.fst.1), ())
      else
        some ((true), ())
    else
      none
theorem ev37 (kl4 : V37_4 → Bool) (xl4 : V37_4 → X37_4) (tl4 : V37_4 → Bool) (yl4 : V37_4 → Y37_4) (x : Den A37) : callK (Γ37 kl4 xl4 tl4 yl4) (bodyOf Try.f37) (decR R37) (encA A37 x) [] = r37 kl4 xl4 tl4 yl4 x := by kernel_rfl
def F37 (x : Den A37) : Option (Den R37) := r37 kL37_4 xL37_4 tL37_4 yL37_4 x
def K37 (x : Den A37) : Bool := (F37 x).isSome
def G37 (x : Den A37) : Den R37 := (F37 x).getD (zero R37)
theorem env37 : EnvOK Try.prog (Γ37 kL37_4 xL37_4 tL37_4 yL37_4) := env_ok mixed tab_ok eqs_ok .nil
theorem is37 : FnIs Try.prog 37 (Γ37 kL37_4 xL37_4 tL37_4 yL37_4) (bodyOf Try.f37) := fnIs Try.func37 rfl rfl rfl (by kernel_rfl) (loops_ok (l := [lc37_4]) (by kernel_rfl) (.cons (one_loop rfl (loopR_sound (sh := sh37_4) (shX := shX37_4) (shR := shY37_4) (fun f v => evl37_4 kL37_4 xL37_4 tL37_4 yL37_4 f v) b37_4 ((), ()) ((false, ()), ()))) (.nil)))
theorem sem37 : SemOK Try.prog (37, fnMean A37 R37 K37 G37) := fn_opt env37 is37 fun x => ev37 kL37_4 xL37_4 tL37_4 yL37_4 x

/- "loop.example/g03321/laws.markMarkS" mode S true -/
abbrev I80 : Sg := ⟨[.own (S82) 0, .val (.int .i64)], [.arr (S82)]⟩
abbrev O80 : Sg := ⟨[.val (.int .i64)], [.arr (S82)]⟩
abbrev V80_2 : Type := ((Unit × (Int × (Int × Unit))) × ((List (Den (S82))) × Unit))
def sh80_2 : ShS := ⟨[(0, .one (.ref (S82) 0)), (1, .one (.int .i64)), (5, .one (.int .i64))], [(0, .arr (S82))], 1, 1⟩
abbrev X80_2 : Type := ((Int × Unit) × ((List (Den (S82))) × Unit))
def shX80_2 : ShS := ⟨[(1, .one (.int .i64))], [(0, .arr (S82))], 1, 1⟩
noncomputable def Γ80 (kl2 : V80_2 → Bool) (xl2 : V80_2 → X80_2) : Env := mkEnv tab eqs [] 38 [.tmp 4] [] [] [(2, loopX [0, 1, 5] [] 0 [1] [] sh80_2 shX80_2 kl2 xl2)] [] []
noncomputable def lc80_2 : Code := (loopsOf (bodyOf Try.f80)).getD 0 .skip
def q80_2 (f : V80_2 → Option (X80_2)) (v : V80_2) : Option (X80_2) :=
  bif (decide (v.fst.snd.snd.fst < (↑(List.length v.snd.fst) : Int))) then
    bif (decide (0 ≤ v.fst.snd.snd.fst) && decide (v.fst.snd.snd.fst < (↑(List.length v.snd.fst) : Int))) then
      let v0 := (List.getD v.snd.fst (Int.toNat v.fst.snd.snd.fst) (zero S82))
      let v1 := (List.set v.snd.fst (Int.toNat v.fst.snd.snd.fst) ((v.fst.snd.fst, v0.fst.snd), v0.snd))
      bif (decide (0 ≤ v.fst.snd.snd.fst) && decide (v.fst.snd.snd.fst < (↑(List.length v1) : Int))) then
        let v2 := (List.getD v1 (Int.toNat v.fst.snd.snd.fst) (zero S82))
        let v3 := (IntKind.wrap IntKind.i64 (v.fst.snd.fst + 1))
        let v4 := (List.set v1 (Int.toNat v.fst.snd.snd.fst) ((v2.fst.fst, v3, ()), v2.snd))
        bif (decide (0 ≤ v.fst.snd.snd.fst) && decide (v.fst.snd.snd.fst < (↑(List.length v4) : Int))) then
          let v5 := (IntKind.wrap IntKind.i64 (v3 + 1))
          let v6 := (IntKind.wrap IntKind.i64 (v5 + 1))
          let v7 := (IntKind.wrap IntKind.i64 (v.fst.snd.snd.fst + 1))
          let v8 := (List.getD v4 (Int.toNat v.fst.snd.snd.fst) (zero S82))
          let v9 := (List.set v4 (Int.toNat v.fst.snd.snd.fst) (v8.fst, Int.tmod v5 3 == 0, ()))
          f (((), ((v6), ((v7), ()))), ((v9), ()))
        else
          none
      else
        none
    else
      none
  else
    some (((v.fst.snd.1), ()), ((v.snd.1), ()))
theorem evl80_2 (kl2 : V80_2 → Bool) (xl2 : V80_2 → X80_2) (f : V80_2 → Option (X80_2)) (v : V80_2) : EBk (Γ80 kl2 xl2) lc80_2 (roundK [0, 1, 5] [] 0 [1] [] (atS sh80_2 f) (endX shX80_2)) (mkS sh80_2 v) = q80_2 f v := by kernel_rfl
def b80_2 (v : V80_2) : Nat := v.1.2.1.natAbs + v.1.2.2.1.natAbs + v.2.1.length + 1000
def l80_2 (v : V80_2) : Option (X80_2) := iter (q80_2) (b80_2 v) v
def kL80_2 (v : V80_2) : Bool := (l80_2 v).isSome
def xL80_2 (v : V80_2) : X80_2 := (l80_2 v).getD ((0, ()), ([], ()))
def r80 (kl2 : V80_2 → Bool) (xl2 : V80_2 → X80_2) (x : I80.den) : Option (O80.den) :=
  let v0 := (kl2 (((), x.fst.snd.fst, 0, ()), x.snd))
  bif (v0) then
    let v1 := (xl2 (((), x.fst.snd.fst, 0, ()), x.snd))
    some (((v1.fst.1), ()), ((v1.snd.1), ()))
  else
    none
theorem ev80 (kl2 : V80_2 → Bool) (xl2 : V80_2 → X80_2) (x : I80.den) : callS (Γ80 kl2 xl2) (bodyOf Try.f80) I80 O80 x = r80 kl2 xl2 x := by kernel_rfl
def F80 (x : I80.den) : Option (O80.den) := r80 kL80_2 xL80_2 x
def K80 (x : I80.den) : Bool := (F80 x).isSome
def G80 (x : I80.den) : O80.den := (F80 x).getD (zeroSg O80)
theorem env80 : EnvOK Try.prog (Γ80 kL80_2 xL80_2) := env_ok mixed tab_ok eqs_ok .nil
theorem is80 : FnIs Try.prog 80 (Γ80 kL80_2 xL80_2) (bodyOf Try.f80) := fnIs Try.func80 rfl rfl rfl (by kernel_rfl) (loops_ok (l := [lc80_2]) (by kernel_rfl) (.cons (one_loop rfl (loopX_sound (sh := sh80_2) (shX := shX80_2) (fun f v => evl80_2 kL80_2 xL80_2 f v) b80_2 ((0, ()), ([], ())))) (.nil)))
theorem sem80 : SemOK Try.prog (80, sgMean true I80 O80 K80 G80) := sg_opt env80 is80 true fun x => ev80 kL80_2 xL80_2 x

/- "loop.example/g03321/laws.markCourse" mode S true -/
abbrev I38 : Sg := ⟨[.mix [.int .i64, .int .i64, .int .i64, .int .i64, .ref (S82) 0, .int .i64, .int .i64, .int .i64, .int .i64], .val (.int .i64)], [.arr (S82)]⟩
abbrev O38 : Sg := ⟨[.val (.int .i64)], [.arr (S82)]⟩
noncomputable def Γ38 (k80 : I80.den → Bool) (g80 : I80.den → O80.den) : Env := mkEnv tab eqs [(80, sgMean true I80 O80 k80 g80)] 10 [.tmp 4] [] [] [] [] []
def r38 (k80 : I80.den → Bool) (g80 : I80.den → O80.den) (x : I38.den) : Option (O38.den) :=
  let v0 := (k80 (((), x.fst.snd), x.snd))
  bif (v0) then
    let v1 := (g80 (((), x.fst.snd), x.snd))
    some (((v1.fst.1), ()), ((v1.snd.1), ()))
  else
    none
theorem ev38 (k80 : I80.den → Bool) (g80 : I80.den → O80.den) (x : I38.den) : callS (Γ38 k80 g80) (bodyOf Try.f38) I38 O38 x = r38 k80 g80 x := by kernel_rfl
def F38 (x : I38.den) : Option (O38.den) := r38 K80 G80 x
def K38 (x : I38.den) : Bool := (F38 x).isSome
def G38 (x : I38.den) : O38.den := (F38 x).getD (zeroSg O38)
theorem env38 : EnvOK Try.prog (Γ38 K80 G80) := env_ok mixed tab_ok eqs_ok (.cons sem80 .nil)
theorem is38 : FnIs Try.prog 38 (Γ38 K80 G80) (bodyOf Try.f38) := fnIs Try.func38 rfl rfl rfl (by kernel_rfl) (noLoops (by kernel_rfl))
theorem sem38 : SemOK Try.prog (38, sgMean true I38 O38 K38 G38) := sg_opt env38 is38 true fun x => ev38 K80 G80 x

/- "loop.example/g03321/laws.markSightS" mode S true -/
abbrev I39 : Sg := ⟨[.own (S95) 0, .val (.int .i64)], [.arr (S95)]⟩
abbrev O39 : Sg := ⟨[.val (.int .i64)], [.arr (S95)]⟩
abbrev V39_2 : Type := ((Unit × (Int × (Int × Unit))) × ((List (Den (S95))) × Unit))
def sh39_2 : ShS := ⟨[(0, .one (.ref (S95) 0)), (1, .one (.int .i64)), (5, .one (.int .i64))], [(0, .arr (S95))], 1, 1⟩
abbrev X39_2 : Type := ((Int × Unit) × ((List (Den (S95))) × Unit))
def shX39_2 : ShS := ⟨[(1, .one (.int .i64))], [(0, .arr (S95))], 1, 1⟩
noncomputable def Γ39 (kl2 : V39_2 → Bool) (xl2 : V39_2 → X39_2) : Env := mkEnv tab eqs [] 36 [.tmp 4] [] [] [(2, loopX [0, 1, 5] [] 0 [1] [] sh39_2 shX39_2 kl2 xl2)] [] []
noncomputable def lc39_2 : Code := (loopsOf (bodyOf Try.f39)).getD 0 .skip
def q39_2 (f : V39_2 → Option (X39_2)) (v : V39_2) : Option (X39_2) :=
  bif (decide (v.fst.snd.snd.fst < (↑(List.length v.snd.fst) : Int))) then
    bif (decide (0 ≤ v.fst.snd.snd.fst) && decide (v.fst.snd.snd.fst < (↑(List.length v.snd.fst) : Int))) then
      let v0 := (List.getD v.snd.fst (Int.toNat v.fst.snd.snd.fst) (zero S95))
      let v1 := (List.set v.snd.fst (Int.toNat v.fst.snd.snd.fst) ((v.fst.snd.fst, v0.fst.snd), v0.snd))
      bif (decide (0 ≤ v.fst.snd.snd.fst) && decide (v.fst.snd.snd.fst < (↑(List.length v1) : Int))) then
        let v2 := (List.getD v1 (Int.toNat v.fst.snd.snd.fst) (zero S95))
        let v3 := (IntKind.wrap IntKind.i64 (v.fst.snd.fst + 1))
        let v4 := (List.set v1 (Int.toNat v.fst.snd.snd.fst) ((v2.fst.fst, v3, ()), v2.snd))
        bif (decide (0 ≤ v.fst.snd.snd.fst) && decide (v.fst.snd.snd.fst < (↑(List.length v4) : Int))) then
          let v5 := (IntKind.wrap IntKind.i64 (v3 + 1))
          let v6 := (IntKind.wrap IntKind.i64 (v5 + 1))
          let v7 := (IntKind.wrap IntKind.i64 (v.fst.snd.snd.fst + 1))
          let v8 := (List.getD v4 (Int.toNat v.fst.snd.snd.fst) (zero S95))
          let v9 := (List.set v4 (Int.toNat v.fst.snd.snd.fst) (v8.fst, v5, ()))
          f (((), ((v6), ((v7), ()))), ((v9), ()))
        else
          none
      else
        none
    else
      none
  else
    some (((v.fst.snd.1), ()), ((v.snd.1), ()))
theorem evl39_2 (kl2 : V39_2 → Bool) (xl2 : V39_2 → X39_2) (f : V39_2 → Option (X39_2)) (v : V39_2) : EBk (Γ39 kl2 xl2) lc39_2 (roundK [0, 1, 5] [] 0 [1] [] (atS sh39_2 f) (endX shX39_2)) (mkS sh39_2 v) = q39_2 f v := by kernel_rfl
def b39_2 (v : V39_2) : Nat := v.1.2.1.natAbs + v.1.2.2.1.natAbs + v.2.1.length + 1000
def l39_2 (v : V39_2) : Option (X39_2) := iter (q39_2) (b39_2 v) v
def kL39_2 (v : V39_2) : Bool := (l39_2 v).isSome
def xL39_2 (v : V39_2) : X39_2 := (l39_2 v).getD ((0, ()), ([], ()))
def r39 (kl2 : V39_2 → Bool) (xl2 : V39_2 → X39_2) (x : I39.den) : Option (O39.den) :=
  let v0 := (kl2 (((), x.fst.snd.fst, 0, ()), x.snd))
  bif (v0) then
    let v1 := (xl2 (((), x.fst.snd.fst, 0, ()), x.snd))
    some (((v1.fst.1), ()), ((v1.snd.1), ()))
  else
    none
theorem ev39 (kl2 : V39_2 → Bool) (xl2 : V39_2 → X39_2) (x : I39.den) : callS (Γ39 kl2 xl2) (bodyOf Try.f39) I39 O39 x = r39 kl2 xl2 x := by kernel_rfl
def F39 (x : I39.den) : Option (O39.den) := r39 kL39_2 xL39_2 x
def K39 (x : I39.den) : Bool := (F39 x).isSome
def G39 (x : I39.den) : O39.den := (F39 x).getD (zeroSg O39)
theorem env39 : EnvOK Try.prog (Γ39 kL39_2 xL39_2) := env_ok mixed tab_ok eqs_ok .nil
theorem is39 : FnIs Try.prog 39 (Γ39 kL39_2 xL39_2) (bodyOf Try.f39) := fnIs Try.func39 rfl rfl rfl (by kernel_rfl) (loops_ok (l := [lc39_2]) (by kernel_rfl) (.cons (one_loop rfl (loopX_sound (sh := sh39_2) (shX := shX39_2) (fun f v => evl39_2 kL39_2 xL39_2 f v) b39_2 ((0, ()), ([], ())))) (.nil)))
theorem sem39 : SemOK Try.prog (39, sgMean true I39 O39 K39 G39) := sg_opt env39 is39 true fun x => ev39 kL39_2 xL39_2 x

/- "loop.example/g03321/laws.markIntS" mode S true -/
abbrev I40 : Sg := ⟨[.own (.int .i64) 0, .val (.int .i64)], [.arr (.int .i64)]⟩
abbrev O40 : Sg := ⟨[.val (.int .i64)], [.arr (.int .i64)]⟩
abbrev V40_2 : Type := ((Unit × (Int × (Int × Unit))) × ((List (Den (.int .i64))) × Unit))
def sh40_2 : ShS := ⟨[(0, .one (.ref (.int .i64) 0)), (1, .one (.int .i64)), (5, .one (.int .i64))], [(0, .arr (.int .i64))], 1, 1⟩
abbrev X40_2 : Type := ((Int × Unit) × ((List (Den (.int .i64))) × Unit))
def shX40_2 : ShS := ⟨[(1, .one (.int .i64))], [(0, .arr (.int .i64))], 1, 1⟩
noncomputable def Γ40 (kl2 : V40_2 → Bool) (xl2 : V40_2 → X40_2) : Env := mkEnv tab eqs [] 19 [.tmp 4] [] [] [(2, loopX [0, 1, 5] [] 0 [1] [] sh40_2 shX40_2 kl2 xl2)] [] []
noncomputable def lc40_2 : Code := (loopsOf (bodyOf Try.f40)).getD 0 .skip
def q40_2 (f : V40_2 → Option (X40_2)) (v : V40_2) : Option (X40_2) :=
  bif (decide (v.fst.snd.snd.fst < (↑(List.length v.snd.fst) : Int))) then
    bif (decide (0 ≤ v.fst.snd.snd.fst) && decide (v.fst.snd.snd.fst < (↑(List.length v.snd.fst) : Int))) then
      let v0 := (IntKind.wrap IntKind.i64 (v.fst.snd.fst + 1))
      let v1 := (IntKind.wrap IntKind.i64 (v.fst.snd.snd.fst + 1))
      let v2 := (List.set v.snd.fst (Int.toNat v.fst.snd.snd.fst) v.fst.snd.fst)
      f (((), ((v0), ((v1), ()))), ((v2), ()))
    else
      none
  else
    some (((v.fst.snd.1), ()), ((v.snd.1), ()))
theorem evl40_2 (kl2 : V40_2 → Bool) (xl2 : V40_2 → X40_2) (f : V40_2 → Option (X40_2)) (v : V40_2) : EBk (Γ40 kl2 xl2) lc40_2 (roundK [0, 1, 5] [] 0 [1] [] (atS sh40_2 f) (endX shX40_2)) (mkS sh40_2 v) = q40_2 f v := by kernel_rfl
def b40_2 (v : V40_2) : Nat := v.1.2.1.natAbs + v.1.2.2.1.natAbs + v.2.1.length + 1000
def l40_2 (v : V40_2) : Option (X40_2) := iter (q40_2) (b40_2 v) v
def kL40_2 (v : V40_2) : Bool := (l40_2 v).isSome
def xL40_2 (v : V40_2) : X40_2 := (l40_2 v).getD ((0, ()), ([], ()))
def r40 (kl2 : V40_2 → Bool) (xl2 : V40_2 → X40_2) (x : I40.den) : Option (O40.den) :=
  let v0 := (kl2 (((), x.fst.snd.fst, 0, ()), x.snd))
  bif (v0) then
    let v1 := (xl2 (((), x.fst.snd.fst, 0, ()), x.snd))
    some (((v1.fst.1), ()), ((v1.snd.1), ()))
  else
    none
theorem ev40 (kl2 : V40_2 → Bool) (xl2 : V40_2 → X40_2) (x : I40.den) : callS (Γ40 kl2 xl2) (bodyOf Try.f40) I40 O40 x = r40 kl2 xl2 x := by kernel_rfl
def F40 (x : I40.den) : Option (O40.den) := r40 kL40_2 xL40_2 x
def K40 (x : I40.den) : Bool := (F40 x).isSome
def G40 (x : I40.den) : O40.den := (F40 x).getD (zeroSg O40)
theorem env40 : EnvOK Try.prog (Γ40 kL40_2 xL40_2) := env_ok mixed tab_ok eqs_ok .nil
theorem is40 : FnIs Try.prog 40 (Γ40 kL40_2 xL40_2) (bodyOf Try.f40) := fnIs Try.func40 rfl rfl rfl (by kernel_rfl) (loops_ok (l := [lc40_2]) (by kernel_rfl) (.cons (one_loop rfl (loopX_sound (sh := sh40_2) (shX := shX40_2) (fun f v => evl40_2 kL40_2 xL40_2 f v) b40_2 ((0, ()), ([], ())))) (.nil)))
theorem sem40 : SemOK Try.prog (40, sgMean true I40 O40 K40 G40) := sg_opt env40 is40 true fun x => ev40 kL40_2 xL40_2 x

/- "loop.example/g03321/laws.heldIntS" -/
abbrev A41 : Ty := .cons (.slice (.int .i64)) (.cons (.int .i64) (.nil))
abbrev R41 : Ty := .cons (.int .i64) (.nil)
abbrev V41_2 : Type := (((List (Den (.int .i64))) × (Int × (Int × Unit))) × Unit)
def sh41_2 : ShS := ⟨[(0, .one (.sl (.int .i64))), (1, .one (.int .i64)), (5, .one (.int .i64))], [], 0, 0⟩
abbrev X41_2 : Type := ((Int × Unit) × Unit)
def shX41_2 : ShS := ⟨[(1, .one (.int .i64))], [], 0, 0⟩
abbrev Y41_2 : Type := ((Int × Unit) × Unit)
def shY41_2 : ShS := ⟨[(4, .one (.int .i64))], [], 0, 0⟩
noncomputable def Γ41 (kl2 : V41_2 → Bool) (xl2 : V41_2 → X41_2) (tl2 : V41_2 → Bool) (yl2 : V41_2 → Y41_2) : Env := mkEnv tab eqs [] 21 [.tmp 4] [] [] [(2, loopR [0, 1, 5] [] 0 [1] [] sh41_2 shX41_2 shY41_2 kl2 tl2 xl2 yl2)] [] []
noncomputable def lc41_2 : Code := (loopsOf (bodyOf Try.f41)).getD 0 .skip
def q41_2 (f : V41_2 → Option (X41_2 ⊕ Y41_2)) (v : V41_2) : Option (X41_2 ⊕ Y41_2) :=
  bif (decide (v.fst.snd.snd.fst < (↑(List.length v.fst.fst) : Int))) then
    bif (decide (0 ≤ v.fst.snd.snd.fst) && decide (v.fst.snd.snd.fst < (↑(List.length v.fst.fst) : Int))) then
      let v0 := (List.getD v.fst.fst (Int.toNat v.fst.snd.snd.fst) (zero (Ty.int IntKind.i64)))
      bif (v0 != v.fst.snd.fst) then
        some (Sum.inr (((-1), ()), ()))
      else
        let v1 := (IntKind.wrap IntKind.i64 (v.fst.snd.fst + 1))
        let v2 := (IntKind.wrap IntKind.i64 (v.fst.snd.snd.fst + 1))
        f (((v.fst.1), ((v1), ((v2), ()))), ())
    else
      none
  else
    some (Sum.inl (((v.fst.snd.1), ()), ()))
theorem evl41_2 (kl2 : V41_2 → Bool) (xl2 : V41_2 → X41_2) (tl2 : V41_2 → Bool) (yl2 : V41_2 → Y41_2) (f : V41_2 → Option (X41_2 ⊕ Y41_2)) (v : V41_2) : EBk (Γ41 kl2 xl2 tl2 yl2) lc41_2 (roundK [0, 1, 5] [] 0 [1] [] (atS sh41_2 f) (endS shX41_2 shY41_2)) (mkS sh41_2 v) = q41_2 f v := by kernel_rfl
def b41_2 (v : V41_2) : Nat := v.1.1.length + v.1.2.1.natAbs + v.1.2.2.1.natAbs + 1000
def l41_2 (v : V41_2) : Option (X41_2 ⊕ Y41_2) := iter (q41_2) (b41_2 v) v
def kL41_2 (v : V41_2) : Bool := (l41_2 v).isSome
def tL41_2 (v : V41_2) : Bool := isR (l41_2 v)
def xL41_2 (v : V41_2) : X41_2 := xOf ((0, ()), ()) (l41_2 v)
def yL41_2 (v : V41_2) : Y41_2 := yOf ((0, ()), ()) (l41_2 v)
def r41 (kl2 : V41_2 → Bool) (xl2 : V41_2 → X41_2) (tl2 : V41_2 → Bool) (yl2 : V41_2 → Y41_2) (x : Den A41) : Option (Den R41) :=
  let v0 := (kl2 ((x.fst, x.snd.fst, 0, ()), ()))
  bif (v0) then
    let v1 := (tl2 ((x.fst, x.snd.fst, 0, ()), ()))
    bif (v1) then
      let v2 := (yl2 ((x.fst, x.snd.fst, 0, ()), ()))
      some ((v2.fst.1), ())
    else
      let v2 := (xl2 ((x.fst, x.snd.fst, 0, ()), ()))
      some ((v2.fst.1), ())
  else
    none
theorem ev41 (kl2 : V41_2 → Bool) (xl2 : V41_2 → X41_2) (tl2 : V41_2 → Bool) (yl2 : V41_2 → Y41_2) (x : Den A41) : callK (Γ41 kl2 xl2 tl2 yl2) (bodyOf Try.f41) (decR R41) (encA A41 x) [] = r41 kl2 xl2 tl2 yl2 x := by kernel_rfl
def F41 (x : Den A41) : Option (Den R41) := r41 kL41_2 xL41_2 tL41_2 yL41_2 x
def K41 (x : Den A41) : Bool := (F41 x).isSome
def G41 (x : Den A41) : Den R41 := (F41 x).getD (zero R41)
theorem env41 : EnvOK Try.prog (Γ41 kL41_2 xL41_2 tL41_2 yL41_2) := env_ok mixed tab_ok eqs_ok .nil
theorem is41 : FnIs Try.prog 41 (Γ41 kL41_2 xL41_2 tL41_2 yL41_2) (bodyOf Try.f41) := fnIs Try.func41 rfl rfl rfl (by kernel_rfl) (loops_ok (l := [lc41_2]) (by kernel_rfl) (.cons (one_loop rfl (loopR_sound (sh := sh41_2) (shX := shX41_2) (shR := shY41_2) (fun f v => evl41_2 kL41_2 xL41_2 tL41_2 yL41_2 f v) b41_2 ((0, ()), ()) ((0, ()), ()))) (.nil)))
theorem sem41 : SemOK Try.prog (41, fnMean A41 R41 K41 G41) := fn_opt env41 is41 fun x => ev41 kL41_2 xL41_2 tL41_2 yL41_2 x

/- "loop.example/g03321/laws.FnExactProgress" -/
abbrev A10 : Ty := .cons (S38) (.cons (.slice (S104)) (.cons (.int .i64) (.nil)))
abbrev R10 : Ty := .cons (.bool) (.nil)
noncomputable def Γ10 (k20 : Den A20 → Bool) (g20 : Den A20 → Den R20) (k32 : Den A32 → Bool) (g32 : Den A32 → Den R32) (k22 : I22.den → Bool) (g22 : I22.den → O22.den) (k34 : I34.den → Bool) (g34 : I34.den → O34.den) (k36 : I36.den → Bool) (g36 : I36.den → O36.den) (k31 : I31.den → Bool) (g31 : I31.den → O31.den) (k37 : Den A37 → Bool) (g37 : Den A37 → Den R37) (k24 : Den A24 → Bool) (g24 : Den A24 → Den R24) (k35 : Den A35 → Bool) (g35 : Den A35 → Den R35) (k38 : I38.den → Bool) (g38 : I38.den → O38.den) (k39 : I39.den → Bool) (g39 : I39.den → O39.den) (k40 : I40.den → Bool) (g40 : I40.den → O40.den) (k41 : Den A41 → Bool) (g41 : Den A41 → Den R41) : Env := mkEnv tab eqs [(20, fnMean A20 R20 k20 g20), (32, fnMean A32 R32 k32 g32), (22, sgMean false I22 O22 k22 g22), (34, sgMean false I34 O34 k34 g34), (36, sgMean false I36 O36 k36 g36), (31, sgMean false I31 O31 k31 g31), (37, fnMean A37 R37 k37 g37), (24, fnMean A24 R24 k24 g24), (35, fnMean A35 R35 k35 g35), (38, sgMean true I38 O38 k38 g38), (39, sgMean true I39 O39 k39 g39), (40, sgMean true I40 O40 k40 g40), (41, fnMean A41 R41 k41 g41)] 97 [.tmp 6] [] [] [] [] []
def r10 (k20 : Den A20 → Bool) (g20 : Den A20 → Den R20) (k32 : Den A32 → Bool) (g32 : Den A32 → Den R32) (k22 : I22.den → Bool) (g22 : I22.den → O22.den) (k34 : I34.den → Bool) (g34 : I34.den → O34.den) (k36 : I36.den → Bool) (g36 : I36.den → O36.den) (k31 : I31.den → Bool) (g31 : I31.den → O31.den) (k37 : Den A37 → Bool) (g37 : Den A37 → Den R37) (k24 : Den A24 → Bool) (g24 : Den A24 → Den R24) (k35 : Den A35 → Bool) (g35 : Den A35 → Den R35) (k38 : I38.den → Bool) (g38 : I38.den → O38.den) (k39 : I39.den → Bool) (g39 : I39.den → O39.den) (k40 : I40.den → Bool) (g40 : I40.den → O40.den) (k41 : Den A41 → Bool) (g41 : Den A41 → Den R41) (x : Den A10) : Option (Den R10) :=
  let v0 := (k20 (x.fst, 1048576, ()))
  bif (v0) then
    let v1 := (g20 (x.fst, 1048576, ()))
    bif (decide (v1.fst < 0)) then
      some ((true), ())
    else
      let v2 := (k32 (x.snd.fst, v1))
      bif (v2) then
        let v3 := (g32 (x.snd.fst, v1))
        bif (decide (v3.fst < 0)) then
          some ((true), ())
        else
          let v4 := (k22 ((x.fst, ()), ()))
          bif (v4) then
            let v5 := (k34 ((x.snd.fst, ()), ()))
            bif (v5) then
              let v6 := (g22 ((x.fst, ()), ()))
              let v7 := (g34 ((x.snd.fst, ()), ()))
              let v8 := (k36 (((((v6.fst.fst.fst, v6.fst.fst.snd.fst, ()), (v6.fst.fst.snd.snd.fst, v6.fst.fst.snd.snd.snd.fst, ()), ()), v6.snd.fst, ((v6.fst.fst.snd.snd.snd.snd.snd.fst, v6.fst.fst.snd.snd.snd.snd.snd.snd.fst, ()), v6.fst.fst.snd.snd.snd.snd.snd.snd.snd, ()), ()), v7.snd.fst, x.snd.snd), ()))
              bif (v8) then
                bif (v4) then
                  bif (v5) then
                    let v9 := (k31 (((((v6.fst.fst.fst, v6.fst.fst.snd.fst, ()), (v6.fst.fst.snd.snd.fst, v6.fst.fst.snd.snd.snd.fst, ()), ()), v6.snd.fst, ((v6.fst.fst.snd.snd.snd.snd.snd.fst, v6.fst.fst.snd.snd.snd.snd.snd.snd.fst, ()), v6.fst.fst.snd.snd.snd.snd.snd.snd.snd, ()), ()), v7.snd.fst, x.snd.snd), ()))
                    bif (v9) then
                      let v10 := (g31 (((((v6.fst.fst.fst, v6.fst.fst.snd.fst, ()), (v6.fst.fst.snd.snd.fst, v6.fst.fst.snd.snd.snd.fst, ()), ()), v6.snd.fst, ((v6.fst.fst.snd.snd.snd.snd.snd.fst, v6.fst.fst.snd.snd.snd.snd.snd.snd.fst, ()), v6.fst.fst.snd.snd.snd.snd.snd.snd.snd, ()), ()), v7.snd.fst, x.snd.snd), ()))
                      let v11 := (g36 (((((v6.fst.fst.fst, v6.fst.fst.snd.fst, ()), (v6.fst.fst.snd.snd.fst, v6.fst.fst.snd.snd.snd.fst, ()), ()), v6.snd.fst, ((v6.fst.fst.snd.snd.snd.snd.snd.fst, v6.fst.fst.snd.snd.snd.snd.snd.snd.fst, ()), v6.fst.fst.snd.snd.snd.snd.snd.snd.snd, ()), ()), v7.snd.fst, x.snd.snd), ()))
                      let v12 := (k37 (v10.snd.fst, v11.snd))
                      bif (v12) then
                        let v13 := (g37 (v10.snd.fst, v11.snd))
                        bif (!v13.fst) then
                          some ((false), ())
                        else
                          bif (v4) then
                            let v14 := (k24 ((((v6.fst.fst.fst, v6.fst.fst.snd.fst, ()), (v6.fst.fst.snd.snd.fst, v6.fst.fst.snd.snd.snd.fst, ()), ()), v6.snd.fst, ((v6.fst.fst.snd.snd.snd.snd.snd.fst, v6.fst.fst.snd.snd.snd.snd.snd.snd.fst, ()), v6.fst.fst.snd.snd.snd.snd.snd.snd.snd, ()), ()), (((v6.fst.fst.fst, v6.fst.fst.snd.fst, ()), (v6.fst.fst.snd.snd.fst, v6.fst.fst.snd.snd.snd.fst, ()), ()), v6.snd.fst, ((v6.fst.fst.snd.snd.snd.snd.snd.fst, v6.fst.fst.snd.snd.snd.snd.snd.snd.fst, ()), v6.fst.fst.snd.snd.snd.snd.snd.snd.snd, ()), ()), ()))
                            bif (v14) then
                              let v15 := (g24 ((((v6.fst.fst.fst, v6.fst.fst.snd.fst, ()), (v6.fst.fst.snd.snd.fst, v6.fst.fst.snd.snd.snd.fst, ()), ()), v6.snd.fst, ((v6.fst.fst.snd.snd.snd.snd.snd.fst, v6.fst.fst.snd.snd.snd.snd.snd.snd.fst, ()), v6.fst.fst.snd.snd.snd.snd.snd.snd.snd, ()), ()), (((v6.fst.fst.fst, v6.fst.fst.snd.fst, ()), (v6.fst.fst.snd.snd.fst, v6.fst.fst.snd.snd.snd.fst, ()), ()), v6.snd.fst, ((v6.fst.fst.snd.snd.snd.snd.snd.fst, v6.fst.fst.snd.snd.snd.snd.snd.snd.fst, ()), v6.fst.fst.snd.snd.snd.snd.snd.snd.snd, ()), ()), ()))
                              bif (!v15.fst) then
                                some ((false), ())
                              else
                                bif (v5) then
                                  let v16 := (k35 (v7.snd.fst, v7.snd))
                                  bif (v16) then
                                    let v17 := (g35 (v7.snd.fst, v7.snd))
                                    bif (!v17.fst) then
                                      some ((false), ())
                                    else
                                      let v18 := (k38 (((v6.fst.fst.fst, v6.fst.fst.snd.fst, v6.fst.fst.snd.snd.fst, v6.fst.fst.snd.snd.snd.fst, (), v6.fst.fst.snd.snd.snd.snd.snd), 1, ()), v6.snd))
                                      bif (v18) then
                                        let v19 := (g38 (((v6.fst.fst.fst, v6.fst.fst.snd.fst, v6.fst.fst.snd.snd.fst, v6.fst.fst.snd.snd.snd.fst, (), v6.fst.fst.snd.snd.snd.snd.snd), 1, ()), v6.snd))
                                        let v20 := (k39 (((), v19.fst), v7.snd))
                                        bif (v20) then
                                          let v21 := (g39 (((), v19.fst), v7.snd))
                                          bif (decide (v21.fst.fst < 0)) then
                                            some ((false), ())
                                          else
                                            bif (v12) then
                                              bif (!v13.fst) then
                                                some ((false), ())
                                              else
                                                let v22 := (k40 (((), 1, ()), v10.snd))
                                                bif (v22) then
                                                  let v23 := (g40 (((), 1, ()), v10.snd))
                                                  let v24 := (k41 (v23.snd.fst, 1, ()))
                                                  bif (v24) then
                                                    let v25 := (g41 (v23.snd.fst, 1, ()))
                                                    bif (decide (v25.fst < 0)) then
                                                      some ((false), ())
                                                    else
                                                      bif (v25.fst != v23.fst.fst) then
                                                        some ((false), ())
                                                      else
                                                        bif (v4) then
                                                          bif (v5) then
                                                            bif (v9) then
                                                              bif (v12) then
                                                                bif (!v13.fst) then
                                                                  some ((false), ())
                                                                else
                                                                  bif (v24) then
                                                                    bif (decide (v25.fst < 0)) then
                                                                      some ((false), ())
                                                                    else
                                                                      bif (v25.fst != v23.fst.fst) then
                                                                        some ((false), ())
                                                                      else
                                                                        some ((true), ())
                                                                  else
                                                                    none
                                                              else
                                                                none
                                                            else
                                                              none
                                                          else
                                                            none
                                                        else
                                                          none
                                                  else
                                                    none
                                                else
                                                  none
                                            else
                                              none
                                        else
                                          none
                                      else
                                        none
                                  else
                                    none
                                else
                                  none
                            else
                              none
                          else
                            none
                      else
                        none
                    else
                      none
                  else
                    none
                else
                  none
              else
                none
            else
              none
          else
            none
      else
        none
  else
    none
theorem ev10 (k20 : Den A20 → Bool) (g20 : Den A20 → Den R20) (k32 : Den A32 → Bool) (g32 : Den A32 → Den R32) (k22 : I22.den → Bool) (g22 : I22.den → O22.den) (k34 : I34.den → Bool) (g34 : I34.den → O34.den) (k36 : I36.den → Bool) (g36 : I36.den → O36.den) (k31 : I31.den → Bool) (g31 : I31.den → O31.den) (k37 : Den A37 → Bool) (g37 : Den A37 → Den R37) (k24 : Den A24 → Bool) (g24 : Den A24 → Den R24) (k35 : Den A35 → Bool) (g35 : Den A35 → Den R35) (k38 : I38.den → Bool) (g38 : I38.den → O38.den) (k39 : I39.den → Bool) (g39 : I39.den → O39.den) (k40 : I40.den → Bool) (g40 : I40.den → O40.den) (k41 : Den A41 → Bool) (g41 : Den A41 → Den R41) (x : Den A10) : callK (Γ10 k20 g20 k32 g32 k22 g22 k34 g34 k36 g36 k31 g31 k37 g37 k24 g24 k35 g35 k38 g38 k39 g39 k40 g40 k41 g41) (bodyOf Try.f10) (decR R10) (encA A10 x) [] = r10 k20 g20 k32 g32 k22 g22 k34 g34 k36 g36 k31 g31 k37 g37 k24 g24 k35 g35 k38 g38 k39 g39 k40 g40 k41 g41 x := by kernel_rfl
def F10 (x : Den A10) : Option (Den R10) := r10 K20 G20 K32 G32 K22 G22 K34 G34 K36 G36 K31 G31 K37 G37 K24 G24 K35 G35 K38 G38 K39 G39 K40 G40 K41 G41 x
def K10 (x : Den A10) : Bool := (F10 x).isSome
def G10 (x : Den A10) : Den R10 := (F10 x).getD (zero R10)
theorem env10 : EnvOK Try.prog (Γ10 K20 G20 K32 G32 K22 G22 K34 G34 K36 G36 K31 G31 K37 G37 K24 G24 K35 G35 K38 G38 K39 G39 K40 G40 K41 G41) := env_ok mixed tab_ok eqs_ok (.cons sem20 (.cons sem32 (.cons sem22 (.cons sem34 (.cons sem36 (.cons sem31 (.cons sem37 (.cons sem24 (.cons sem35 (.cons sem38 (.cons sem39 (.cons sem40 (.cons sem41 .nil)))))))))))))
theorem is10 : FnIs Try.prog 10 (Γ10 K20 G20 K32 G32 K22 G22 K34 G34 K36 G36 K31 G31 K37 G37 K24 G24 K35 G35 K38 G38 K39 G39 K40 G40 K41 G41) (bodyOf Try.f10) := fnIs Try.func10 rfl rfl rfl (by kernel_rfl) (noLoops (by kernel_rfl))
theorem sem10 : SemOK Try.prog (10, fnMean A10 R10 K10 G10) := fn_opt env10 is10 fun x => ev10 K20 G20 K32 G32 K22 G22 K34 G34 K36 G36 K31 G31 K37 G37 K24 G24 K35 G35 K38 G38 K39 G39 K40 G40 K41 G41 x

/- "loop.example/g03321/spec.l09Height" -/
abbrev A92 : Ty := .cons (S42) (.cons (S22) (.nil))
abbrev R92 : Ty := .cons (.int .i64) (.nil)
noncomputable def Γ92 (k46 : Den A46 → Bool) (g46 : Den A46 → Den R46) : Env := mkEnv tab eqs [(46, fnMean A46 R46 k46 g46)] 13 [.tmp 4] [] [] [] [] []
def r92 (k46 : Den A46 → Bool) (g46 : Den A46 → Den R46) (x : Den A92) : Option (Den R92) :=
  let v0 := (k46 (x.fst.fst, x.fst.snd.fst, x.fst.fst, x.snd))
  bif (v0) then
    let v1 := (g46 (x.fst.fst, x.fst.snd.fst, x.fst.fst, x.snd))
    some ((v1.1), ())
  else
    none
theorem ev92 (k46 : Den A46 → Bool) (g46 : Den A46 → Den R46) (x : Den A92) : callK (Γ92 k46 g46) (bodyOf Try.f92) (decR R92) (encA A92 x) [] = r92 k46 g46 x := by kernel_rfl
def F92 (x : Den A92) : Option (Den R92) := r92 K46 G46 x
def K92 (x : Den A92) : Bool := (F92 x).isSome
def G92 (x : Den A92) : Den R92 := (F92 x).getD (zero R92)
theorem env92 : EnvOK Try.prog (Γ92 K46 G46) := env_ok mixed tab_ok eqs_ok (.cons sem46 .nil)
theorem is92 : FnIs Try.prog 92 (Γ92 K46 G46) (bodyOf Try.f92) := fnIs Try.func92 rfl rfl rfl (by kernel_rfl) (noLoops (by kernel_rfl))
theorem sem92 : SemOK Try.prog (92, fnMean A92 R92 K92 G92) := fn_opt env92 is92 fun x => ev92 K46 G46 x

/- "loop.example/g03321/spec.SideOf" -/
abbrev A93 : Ty := .cons (S42) (.cons (S22) (.nil))
abbrev R93 : Ty := .cons (.int .i64) (.nil)
noncomputable def Γ93 (k57 : Den A57 → Bool) (g57 : Den A57 → Den R57) (k18 : Den A18 → Bool) (g18 : Den A18 → Den R18) (k92 : Den A92 → Bool) (g92 : Den A92 → Den R92) : Env := mkEnv tab eqs [(57, fnMean A57 R57 k57 g57), (18, fnMean A18 R18 k18 g18), (92, fnMean A92 R92 k92 g92)] 21 [.tmp 4] [] [] [] [] []
def r93 (k57 : Den A57 → Bool) (g57 : Den A57 → Den R57) (k18 : Den A18 → Bool) (g18 : Den A18 → Den R18) (k92 : Den A92 → Bool) (g92 : Den A92 → Den R92) (x : Den A93) : Option (Den R93) :=
  let v0 := (k57 (x.fst, ()))
  bif (v0) then
    let v1 := (g57 (x.fst, ()))
    bif (!v1.fst) then
      some ((0), ())
    else
      let v2 := (k18 x.snd)
      bif (v2) then
        let v3 := (g18 x.snd)
        bif (!v3.fst) then
          some ((0), ())
        else
          let v4 := (k92 x)
          bif (v4) then
            let v5 := (g92 x)
            bif (decide (v5.fst < 0)) then
              some ((1), ())
            else
              bif (decide (v5.fst > 0)) then
                some ((-1), ())
              else
                some ((0), ())
          else
            none
      else
        none
  else
    none
theorem ev93 (k57 : Den A57 → Bool) (g57 : Den A57 → Den R57) (k18 : Den A18 → Bool) (g18 : Den A18 → Den R18) (k92 : Den A92 → Bool) (g92 : Den A92 → Den R92) (x : Den A93) : callK (Γ93 k57 g57 k18 g18 k92 g92) (bodyOf Try.f93) (decR R93) (encA A93 x) [] = r93 k57 g57 k18 g18 k92 g92 x := by kernel_rfl
def F93 (x : Den A93) : Option (Den R93) := r93 K57 G57 K18 G18 K92 G92 x
def K93 (x : Den A93) : Bool := (F93 x).isSome
def G93 (x : Den A93) : Den R93 := (F93 x).getD (zero R93)
theorem env93 : EnvOK Try.prog (Γ93 K57 G57 K18 G18 K92 G92) := env_ok mixed tab_ok eqs_ok (.cons sem57 (.cons sem18 (.cons sem92 .nil)))
theorem is93 : FnIs Try.prog 93 (Γ93 K57 G57 K18 G18 K92 G92) (bodyOf Try.f93) := fnIs Try.func93 rfl rfl rfl (by kernel_rfl) (noLoops (by kernel_rfl))
theorem sem93 : SemOK Try.prog (93, fnMean A93 R93 K93 G93) := fn_opt env93 is93 fun x => ev93 K57 G57 K18 G18 K92 G92 x

/- "loop.example/g03321/spec.Crossing" -/
abbrev A77 : Ty := .cons (S42) (.cons (S22) (.cons (S22) (.nil)))
abbrev R77 : Ty := .cons (.int .i64) (.nil)
noncomputable def Γ77 (k57 : Den A57 → Bool) (g57 : Den A57 → Den R57) (k18 : Den A18 → Bool) (g18 : Den A18 → Den R18) (k46 : Den A46 → Bool) (g46 : Den A46 → Den R46) (k93 : Den A93 → Bool) (g93 : Den A93 → Den R93) : Env := mkEnv tab eqs [(57, fnMean A57 R57 k57 g57), (18, fnMean A18 R18 k18 g18), (46, fnMean A46 R46 k46 g46), (93, fnMean A93 R93 k93 g93)] 68 [.tmp 6] [] [] [] [] []
def r77 (k57 : Den A57 → Bool) (g57 : Den A57 → Den R57) (k18 : Den A18 → Bool) (g18 : Den A18 → Den R18) (k46 : Den A46 → Bool) (g46 : Den A46 → Den R46) (k93 : Den A93 → Bool) (g93 : Den A93 → Den R93) (x : Den A77) : Option (Den R77) :=
  let v0 := (k57 (x.fst, ()))
  bif (v0) then
    let v1 := (g57 (x.fst, ()))
    bif (!v1.fst) then
      some ((0), ())
    else
      let v2 := (k18 (x.snd.fst, ()))
      bif (v2) then
        let v3 := (g18 (x.snd.fst, ()))
        bif (!v3.fst) then
          some ((0), ())
        else
          let v4 := (k18 x.snd.snd)
          bif (v4) then
            let v5 := (g18 x.snd.snd)
            bif (!v5.fst) then
              some ((0), ())
            else
              let v6 := (k46 (x.snd.fst, x.snd.snd.fst, x.snd.fst, x.fst.fst, ()))
              bif (v6) then
                let v7 := (k46 (x.snd.fst, x.snd.snd.fst, x.snd.fst, x.fst.snd))
                bif (v7) then
                  let v8 := (g46 (x.snd.fst, x.snd.snd.fst, x.snd.fst, x.fst.fst, ()))
                  bif (decide (v8.fst > 0)) then
                    let v9 := (g46 (x.snd.fst, x.snd.snd.fst, x.snd.fst, x.fst.snd))
                    bif (decide (v9.fst > 0)) then
                      some ((0), ())
                    else
                      bif (decide (v8.fst < 0)) then
                        bif (decide (v9.fst < 0)) then
                          some ((0), ())
                        else
                          let v10 := (k93 (x.fst, x.snd.fst, ()))
                          bif (v10) then
                            let v11 := (k93 (x.fst, x.snd.snd))
                            bif (v11) then
                              let v12 := (g93 (x.fst, x.snd.fst, ()))
                              bif (decide (v12.fst ≤ 0)) then
                                let v13 := (g93 (x.fst, x.snd.snd))
                                bif (v13.fst == 1) then
                                  some ((1), ())
                                else
                                  bif (v12.fst == 1) then
                                    bif (decide (v13.fst ≤ 0)) then
                                      some ((-1), ())
                                    else
                                      some ((0), ())
                                  else
                                    some ((0), ())
                              else
                                bif (v12.fst == 1) then
                                  let v13 := (g93 (x.fst, x.snd.snd))
                                  bif (decide (v13.fst ≤ 0)) then
                                    some ((-1), ())
                                  else
                                    some ((0), ())
                                else
                                  some ((0), ())
                            else
                              none
                          else
                            none
                      else
                        let v10 := (k93 (x.fst, x.snd.fst, ()))
                        bif (v10) then
                          let v11 := (k93 (x.fst, x.snd.snd))
                          bif (v11) then
                            let v12 := (g93 (x.fst, x.snd.fst, ()))
                            bif (decide (v12.fst ≤ 0)) then
                              let v13 := (g93 (x.fst, x.snd.snd))
                              bif (v13.fst == 1) then
                                some ((1), ())
                              else
                                bif (v12.fst == 1) then
                                  bif (decide (v13.fst ≤ 0)) then
                                    some ((-1), ())
                                  else
                                    some ((0), ())
                                else
                                  some ((0), ())
                            else
                              bif (v12.fst == 1) then
                                let v13 := (g93 (x.fst, x.snd.snd))
                                bif (decide (v13.fst ≤ 0)) then
                                  some ((-1), ())
                                else
                                  some ((0), ())
                              else
                                some ((0), ())
                          else
                            none
                        else
                          none
                  else
                    bif (decide (v8.fst < 0)) then
                      let v9 := (g46 (x.snd.fst, x.snd.snd.fst, x.snd.fst, x.fst.snd))
                      bif (decide (v9.fst < 0)) then
                        some ((0), ())
                      else
                        let v10 := (k93 (x.fst, x.snd.fst, ()))
                        bif (v10) then
                          let v11 := (k93 (x.fst, x.snd.snd))
                          bif (v11) then
                            let v12 := (g93 (x.fst, x.snd.fst, ()))
                            bif (decide (v12.fst ≤ 0)) then
                              let v13 := (g93 (x.fst, x.snd.snd))
                              bif (v13.fst == 1) then
                                some ((1), ())
                              else
                                bif (v12.fst == 1) then
                                  bif (decide (v13.fst ≤ 0)) then
                                    some ((-1), ())
                                  else
                                    some ((0), ())
                                else
                                  some ((0), ())
                            else
                              bif (v12.fst == 1) then
                                let v13 := (g93 (x.fst, x.snd.snd))
                                bif (decide (v13.fst ≤ 0)) then
                                  some ((-1), ())
                                else
                                  some ((0), ())
                              else
                                some ((0), ())
                          else
                            none
                        else
                          none
                    else
                      let v9 := (k93 (x.fst, x.snd.fst, ()))
                      bif (v9) then
                        let v10 := (k93 (x.fst, x.snd.snd))
                        bif (v10) then
                          let v11 := (g93 (x.fst, x.snd.fst, ()))
                          bif (decide (v11.fst ≤ 0)) then
                            let v12 := (g93 (x.fst, x.snd.snd))
                            bif (v12.fst == 1) then
                              some ((1), ())
                            else
                              bif (v11.fst == 1) then
                                bif (decide (v12.fst ≤ 0)) then
                                  some ((-1), ())
                                else
                                  some ((0), ())
                              else
                                some ((0), ())
                          else
                            bif (v11.fst == 1) then
                              let v12 := (g93 (x.fst, x.snd.snd))
                              bif (decide (v12.fst ≤ 0)) then
                                some ((-1), ())
                              else
                                some ((0), ())
                            else
                              some ((0), ())
                        else
                          none
                      else
                        none
                else
                  none
              else
                none
          else
            none
      else
        none
  else
    none
theorem ev77 (k57 : Den A57 → Bool) (g57 : Den A57 → Den R57) (k18 : Den A18 → Bool) (g18 : Den A18 → Den R18) (k46 : Den A46 → Bool) (g46 : Den A46 → Den R46) (k93 : Den A93 → Bool) (g93 : Den A93 → Den R93) (x : Den A77) : callK (Γ77 k57 g57 k18 g18 k46 g46 k93 g93) (bodyOf Try.f77) (decR R77) (encA A77 x) [] = r77 k57 g57 k18 g18 k46 g46 k93 g93 x := by kernel_rfl
def F77 (x : Den A77) : Option (Den R77) := r77 K57 G57 K18 G18 K46 G46 K93 G93 x
def K77 (x : Den A77) : Bool := (F77 x).isSome
def G77 (x : Den A77) : Den R77 := (F77 x).getD (zero R77)
theorem env77 : EnvOK Try.prog (Γ77 K57 G57 K18 G18 K46 G46 K93 G93) := env_ok mixed tab_ok eqs_ok (.cons sem57 (.cons sem18 (.cons sem46 (.cons sem93 .nil))))
theorem is77 : FnIs Try.prog 77 (Γ77 K57 G57 K18 G18 K46 G46 K93 G93) (bodyOf Try.f77) := fnIs Try.func77 rfl rfl rfl (by kernel_rfl) (noLoops (by kernel_rfl))
theorem sem77 : SemOK Try.prog (77, fnMean A77 R77 K77 G77) := fn_opt env77 is77 fun x => ev77 K57 G57 K18 G18 K46 G46 K93 G93 x

/- "loop.example/g03321/spec.CrossTime" -/
abbrev A76 : Ty := .cons (S42) (.cons (S95) (.cons (S95) (.nil)))
abbrev R76 : Ty := .cons (.int .i64) (.cons (.bool) (.nil))
noncomputable def Γ76 (k77 : Den A77 → Bool) (g77 : Den A77 → Den R77) (k75 : Den A75 → Bool) (g75 : Den A75 → Den R75) (k92 : Den A92 → Bool) (g92 : Den A92 → Den R92) : Env := mkEnv tab eqs [(77, fnMean A77 R77 k77 g77), (75, fnMean A75 R75 k75 g75), (92, fnMean A92 R92 k92 g92)] 59 [.tmp 6, .tmp 7] [] [] [] [] []
def r76 (k77 : Den A77 → Bool) (g77 : Den A77 → Den R77) (k75 : Den A75 → Bool) (g75 : Den A75 → Den R75) (k92 : Den A92 → Bool) (g92 : Den A92 → Den R92) (x : Den A76) : Option (Den R76) :=
  let v0 := (k77 (x.fst, x.snd.fst.fst, x.snd.snd.fst.fst, ()))
  bif (v0) then
    let v1 := (g77 (x.fst, x.snd.fst.fst, x.snd.snd.fst.fst, ()))
    bif (v1.fst == 0) then
      some ((0), ((false), ()))
    else
      let v2 := (List.set (List.replicate 2 (zero S95)) 0 x.snd.fst)
      let v3 := (List.set v2 1 x.snd.snd.fst)
      let v4 := (k75 (v3, ()))
      bif (v4) then
        let v5 := (g75 (v3, ()))
        bif (!v5.fst) then
          some ((0), ((false), ()))
        else
          let v6 := (k92 (x.fst, x.snd.fst.fst, ()))
          bif (v6) then
            let v7 := (k92 (x.fst, x.snd.snd.fst.fst, ()))
            bif (v7) then
              let v8 := (g92 (x.fst, x.snd.fst.fst, ()))
              let v9 := (g92 (x.fst, x.snd.snd.fst.fst, ()))
              let v10 := (IntKind.wrap IntKind.i64 (v8.fst - v9.fst))
              bif (decide (v10 < 0)) then
                let v11 := (IntKind.wrap IntKind.i64 (0 - v10))
                bif (v11 != 0) then
                  let v12 := (IntKind.wrap IntKind.i64 (x.snd.snd.fst.snd.fst - x.snd.fst.snd.fst))
                  let v13 := (IntKind.wrap IntKind.i64 (v12 * v8.fst))
                  let v14 := (IntKind.wrap IntKind.i64 (0 - v13))
                  let v15 := (IntKind.wrap IntKind.i64 (v14 + v11))
                  let v16 := (IntKind.wrap IntKind.i64 (v15 - 1))
                  let v17 := (IntKind.wrap IntKind.i64 (Int.tdiv v16 v11))
                  let v18 := (IntKind.wrap IntKind.i64 (x.snd.fst.snd.fst + v17))
                  some ((v18), ((true), ()))
                else
                  none
              else
                bif (v10 != 0) then
                  let v11 := (IntKind.wrap IntKind.i64 (x.snd.snd.fst.snd.fst - x.snd.fst.snd.fst))
                  let v12 := (IntKind.wrap IntKind.i64 (v11 * v8.fst))
                  let v13 := (IntKind.wrap IntKind.i64 (v12 + v10))
                  let v14 := (IntKind.wrap IntKind.i64 (v13 - 1))
                  let v15 := (IntKind.wrap IntKind.i64 (Int.tdiv v14 v10))
                  let v16 := (IntKind.wrap IntKind.i64 (x.snd.fst.snd.fst + v15))
                  some ((v16), ((true), ()))
                else
                  none
            else
              none
          else
            none
      else
        none
  else
    none
theorem ev76 (k77 : Den A77 → Bool) (g77 : Den A77 → Den R77) (k75 : Den A75 → Bool) (g75 : Den A75 → Den R75) (k92 : Den A92 → Bool) (g92 : Den A92 → Den R92) (x : Den A76) : callK (Γ76 k77 g77 k75 g75 k92 g92) (bodyOf Try.f76) (decR R76) (encA A76 x) [] = r76 k77 g77 k75 g75 k92 g92 x := by kernel_rfl
def F76 (x : Den A76) : Option (Den R76) := r76 K77 G77 K75 G75 K92 G92 x
def K76 (x : Den A76) : Bool := (F76 x).isSome
def G76 (x : Den A76) : Den R76 := (F76 x).getD (zero R76)
theorem env76 : EnvOK Try.prog (Γ76 K77 G77 K75 G75 K92 G92) := env_ok mixed tab_ok eqs_ok (.cons sem77 (.cons sem75 (.cons sem92 .nil)))
theorem is76 : FnIs Try.prog 76 (Γ76 K77 G77 K75 G75 K92 G92) (bodyOf Try.f76) := fnIs Try.func76 rfl rfl rfl (by kernel_rfl) (noLoops (by kernel_rfl))
theorem sem76 : SemOK Try.prog (76, fnMean A76 R76 K76 G76) := fn_opt env76 is76 fun x => ev76 K77 G77 K75 G75 K92 G92 x

/- "loop.example/g03321/spec.FinishTime" -/
abbrev A42 : Ty := .cons (S45) (.cons (.slice (S95)) (.cons (.int .i64) (.nil)))
abbrev R42 : Ty := .cons (.int .i64) (.cons (.bool) (.nil))
abbrev V42_5 : Type := (((List (Den (S95))) × (Unit × (Int × Unit))) × ((Int × (Int × (Int × (Int × ((List (Den (S82))) × (Int × (Int × (Int × (Int × Unit))))))))) × Unit))
def sh42_5 : ShS := ⟨[(1, .one (.sl (S95))), (3, .one (.ptr 0 0)), (9, .one (.int .i64))], [(0, .box [.int .i64, .int .i64, .int .i64, .int .i64, .sl (S82), .int .i64, .int .i64, .int .i64, .int .i64])], 1, 0⟩
abbrev X42_5 : Type := (Unit × Unit)
def shX42_5 : ShS := ⟨[], [], 0, 0⟩
abbrev Y42_5 : Type := ((Int × (Bool × Unit)) × Unit)
def shY42_5 : ShS := ⟨[(6, .one (.int .i64)), (7, .one (.bool))], [], 0, 0⟩
noncomputable def Γ42 (k36 : I36.den → Bool) (g36 : I36.den → O36.den) (k77 : Den A77 → Bool) (g77 : Den A77 → Den R77) (k76 : Den A76 → Bool) (g76 : Den A76 → Den R76) (kl5 : V42_5 → Bool) (xl5 : V42_5 → X42_5) (tl5 : V42_5 → Bool) (yl5 : V42_5 → Y42_5) : Env := mkEnv tab eqs [(36, sgMean false I36 O36 k36 g36), (77, fnMean A77 R77 k77 g77), (76, fnMean A76 R76 k76 g76)] 72 [.tmp 6, .tmp 7] [] [] [(5, loopR [1, 3, 9] [] 0 [] [] sh42_5 shX42_5 shY42_5 kl5 tl5 xl5 yl5)] [] []
noncomputable def lc42_5 : Code := (loopsOf (bodyOf Try.f42)).getD 0 .skip
def q42_5 (k36 : I36.den → Bool) (g36 : I36.den → O36.den) (k77 : Den A77 → Bool) (g77 : Den A77 → Den R77) (k76 : Den A76 → Bool) (g76 : Den A76 → Den R76) (f : V42_5 → Option (X42_5 ⊕ Y42_5)) (v : V42_5) : Option (X42_5 ⊕ Y42_5) :=
  let v0 := (IntKind.wrap IntKind.i64 (v.fst.snd.snd.fst + 1))
  bif (decide (v0 < (↑(List.length v.fst.fst) : Int))) then
    bif (decide (0 ≤ v.fst.snd.snd.fst) && decide (v.fst.snd.snd.fst < (↑(List.length v.fst.fst) : Int))) then
      bif (decide (0 ≤ v0) && decide (v0 < (↑(List.length v.fst.fst) : Int))) then
        let v1 := (List.getD v.fst.fst (Int.toNat v.fst.snd.snd.fst) (zero S95))
        let v2 := (List.getD v.fst.fst (Int.toNat v0) (zero S95))
        let v3 := (k77 (((v.snd.fst.snd.snd.snd.snd.snd.fst, v.snd.fst.snd.snd.snd.snd.snd.snd.fst, ()), v.snd.fst.snd.snd.snd.snd.snd.snd.snd, ()), v1.fst, v2.fst, ()))
        bif (v3) then
          let v4 := (g77 (((v.snd.fst.snd.snd.snd.snd.snd.fst, v.snd.fst.snd.snd.snd.snd.snd.snd.fst, ()), v.snd.fst.snd.snd.snd.snd.snd.snd.snd, ()), v1.fst, v2.fst, ()))
          bif (v4.fst == 1) then
            bif (decide (0 ≤ v.fst.snd.snd.fst) && decide (v.fst.snd.snd.fst < (↑(List.length v.fst.fst) : Int))) then
              bif (decide (0 ≤ v0) && decide (v0 < (↑(List.length v.fst.fst) : Int))) then
                let v5 := (k76 (((v.snd.fst.snd.snd.snd.snd.snd.fst, v.snd.fst.snd.snd.snd.snd.snd.snd.fst, ()), v.snd.fst.snd.snd.snd.snd.snd.snd.snd, ()), v1, v2, ()))
                bif (v5) then
                  let v6 := (g76 (((v.snd.fst.snd.snd.snd.snd.snd.fst, v.snd.fst.snd.snd.snd.snd.snd.snd.fst, ()), v.snd.fst.snd.snd.snd.snd.snd.snd.snd, ()), v1, v2, ()))
                  some (Sum.inr (((v6.1), ((v6.snd.1), ())), ()))
                else
                  none
              else
                none
            else
              none
          else
            f (((v.fst.1), ((), ((v0), ()))), (((v.snd.fst.1), ((v.snd.fst.snd.1), ((v.snd.fst.snd.snd.1), ((v.snd.fst.snd.snd.snd.1), ((v.snd.fst.snd.snd.snd.snd.1), ((v.snd.fst.snd.snd.snd.snd.snd.1), ((v.snd.fst.snd.snd.snd.snd.snd.snd.1), ((v.snd.fst.snd.snd.snd.snd.snd.snd.snd.1), ((v.snd.fst.snd.snd.snd.snd.snd.snd.snd.snd.1), ()))))))))), ()))
        else
          none
      else
        none
    else
      none
  else
    some (Sum.inl ((), ()))
theorem evl42_5 (k36 : I36.den → Bool) (g36 : I36.den → O36.den) (k77 : Den A77 → Bool) (g77 : Den A77 → Den R77) (k76 : Den A76 → Bool) (g76 : Den A76 → Den R76) (kl5 : V42_5 → Bool) (xl5 : V42_5 → X42_5) (tl5 : V42_5 → Bool) (yl5 : V42_5 → Y42_5) (f : V42_5 → Option (X42_5 ⊕ Y42_5)) (v : V42_5) : EBk (Γ42 k36 g36 k77 g77 k76 g76 kl5 xl5 tl5 yl5) lc42_5 (roundK [1, 3, 9] [] 0 [] [] (atS sh42_5 f) (endS shX42_5 shY42_5)) (mkS sh42_5 v) = q42_5 k36 g36 k77 g77 k76 g76 f v := by kernel_rfl
def b42_5 (v : V42_5) : Nat := v.1.1.length + v.1.2.2.1.natAbs + v.2.1.1.natAbs + v.2.1.2.1.natAbs + v.2.1.2.2.1.natAbs + v.2.1.2.2.2.1.natAbs + v.2.1.2.2.2.2.1.length + v.2.1.2.2.2.2.2.1.natAbs + v.2.1.2.2.2.2.2.2.1.natAbs + v.2.1.2.2.2.2.2.2.2.1.natAbs + v.2.1.2.2.2.2.2.2.2.2.1.natAbs + 1000
def l42_5 (v : V42_5) : Option (X42_5 ⊕ Y42_5) := iter (q42_5 K36 G36 K77 G77 K76 G76) (b42_5 v) v
def kL42_5 (v : V42_5) : Bool := (l42_5 v).isSome
def tL42_5 (v : V42_5) : Bool := isR (l42_5 v)
def xL42_5 (v : V42_5) : X42_5 := xOf ((), ()) (l42_5 v)
def yL42_5 (v : V42_5) : Y42_5 := yOf ((0, (false, ())), ()) (l42_5 v)
def r42 (k36 : I36.den → Bool) (g36 : I36.den → O36.den) (k77 : Den A77 → Bool) (g77 : Den A77 → Den R77) (k76 : Den A76 → Bool) (g76 : Den A76 → Den R76) (kl5 : V42_5 → Bool) (xl5 : V42_5 → X42_5) (tl5 : V42_5 → Bool) (yl5 : V42_5 → Y42_5) (x : Den A42) : Option (Den R42) :=
  let v0 := (k36 (x, ()))
  bif (v0) then
    let v1 := (g36 (x, ()))
    bif ((↑(List.length v1.snd.fst) : Int) == 0) then
      some ((0), ((false), ()))
    else
      bif (decide ((↑(List.length v1.snd.fst) : Int) < (↑(List.length x.fst.snd.fst) : Int))) then
        some ((0), ((false), ()))
      else
        let v2 := (IntKind.wrap IntKind.i64 ((↑(List.length v1.snd.fst) : Int) - 1))
        bif (decide (0 ≤ v2) && decide (v2 < (↑(List.length v1.snd.fst) : Int))) then
          let v3 := (List.getD v1.snd.fst (Int.toNat v2) (zero (Ty.int IntKind.i64)))
          let v4 := (kl5 ((x.snd.fst, (), v3, ()), (x.fst.fst.fst.fst, x.fst.fst.fst.snd.fst, x.fst.fst.snd.fst.fst, x.fst.fst.snd.fst.snd.fst, x.fst.snd.fst, x.fst.snd.snd.fst.fst.fst, x.fst.snd.snd.fst.fst.snd.fst, x.fst.snd.snd.fst.snd.fst), ()))
          bif (v4) then
            let v5 := (tl5 ((x.snd.fst, (), v3, ()), (x.fst.fst.fst.fst, x.fst.fst.fst.snd.fst, x.fst.fst.snd.fst.fst, x.fst.fst.snd.fst.snd.fst, x.fst.snd.fst, x.fst.snd.snd.fst.fst.fst, x.fst.snd.snd.fst.fst.snd.fst, x.fst.snd.snd.fst.snd.fst), ()))
            bif (v5) then
              let v6 := (yl5 ((x.snd.fst, (), v3, ()), (x.fst.fst.fst.fst, x.fst.fst.fst.snd.fst, x.fst.fst.snd.fst.fst, x.fst.fst.snd.fst.snd.fst, x.fst.snd.fst, x.fst.snd.snd.fst.fst.fst, x.fst.snd.snd.fst.fst.snd.fst, x.fst.snd.snd.fst.snd.fst), ()))
              some ((v6.fst.1), ((v6.fst.snd.1), ()))
            else
              some ((0), ((false), ()))
          else
            none
        else
          none
  else
    none
theorem ev42 (k36 : I36.den → Bool) (g36 : I36.den → O36.den) (k77 : Den A77 → Bool) (g77 : Den A77 → Den R77) (k76 : Den A76 → Bool) (g76 : Den A76 → Den R76) (kl5 : V42_5 → Bool) (xl5 : V42_5 → X42_5) (tl5 : V42_5 → Bool) (yl5 : V42_5 → Y42_5) (x : Den A42) : callK (Γ42 k36 g36 k77 g77 k76 g76 kl5 xl5 tl5 yl5) (bodyOf Try.f42) (decR R42) (encA A42 x) [] = r42 k36 g36 k77 g77 k76 g76 kl5 xl5 tl5 yl5 x := by kernel_rfl
def F42 (x : Den A42) : Option (Den R42) := r42 K36 G36 K77 G77 K76 G76 kL42_5 xL42_5 tL42_5 yL42_5 x
def K42 (x : Den A42) : Bool := (F42 x).isSome
def G42 (x : Den A42) : Den R42 := (F42 x).getD (zero R42)
theorem env42 : EnvOK Try.prog (Γ42 K36 G36 K77 G77 K76 G76 kL42_5 xL42_5 tL42_5 yL42_5) := env_ok mixed tab_ok eqs_ok (.cons sem36 (.cons sem77 (.cons sem76 .nil)))
theorem is42 : FnIs Try.prog 42 (Γ42 K36 G36 K77 G77 K76 G76 kL42_5 xL42_5 tL42_5 yL42_5) (bodyOf Try.f42) := fnIs Try.func42 rfl rfl rfl (by kernel_rfl) (loops_ok (l := [lc42_5]) (by kernel_rfl) (.cons (one_loop rfl (loopR_sound (sh := sh42_5) (shX := shX42_5) (shR := shY42_5) (fun f v => evl42_5 K36 G36 K77 G77 K76 G76 kL42_5 xL42_5 tL42_5 yL42_5 f v) b42_5 ((), ()) ((0, (false, ())), ()))) (.nil)))
theorem sem42 : SemOK Try.prog (42, fnMean A42 R42 K42 G42) := fn_opt env42 is42 fun x => ev42 K36 G36 K77 G77 K76 G76 kL42_5 xL42_5 tL42_5 yL42_5 x

/- "loop.example/g03321/impl.height" -/
abbrev A95 : Ty := .cons (S42) (.cons (S22) (.nil))
abbrev R95 : Ty := .cons (.int .i64) (.nil)
noncomputable def Γ95 (k49 : Den A49 → Bool) (g49 : Den A49 → Den R49) (k50 : Den A50 → Bool) (g50 : Den A50 → Den R50) : Env := mkEnv tab eqs [(49, fnMean A49 R49 k49 g49), (50, fnMean A50 R50 k50 g50)] 15 [.tmp 4] [] [] [] [] []
def r95 (k49 : Den A49 → Bool) (g49 : Den A49 → Den R49) (k50 : Den A50 → Bool) (g50 : Den A50 → Den R50) (x : Den A95) : Option (Den R95) :=
  let v0 := (k49 (x.fst.snd.fst, x.fst.fst, ()))
  bif (v0) then
    let v1 := (k49 (x.snd.fst, x.fst.fst, ()))
    bif (v1) then
      let v2 := (g49 (x.fst.snd.fst, x.fst.fst, ()))
      let v3 := (g49 (x.snd.fst, x.fst.fst, ()))
      let v4 := (k50 (v2.fst, v3))
      bif (v4) then
        let v5 := (g50 (v2.fst, v3))
        some ((v5.1), ())
      else
        none
    else
      none
  else
    none
theorem ev95 (k49 : Den A49 → Bool) (g49 : Den A49 → Den R49) (k50 : Den A50 → Bool) (g50 : Den A50 → Den R50) (x : Den A95) : callK (Γ95 k49 g49 k50 g50) (bodyOf Try.f95) (decR R95) (encA A95 x) [] = r95 k49 g49 k50 g50 x := by kernel_rfl
def F95 (x : Den A95) : Option (Den R95) := r95 K49 G49 K50 G50 x
def K95 (x : Den A95) : Bool := (F95 x).isSome
def G95 (x : Den A95) : Den R95 := (F95 x).getD (zero R95)
theorem env95 : EnvOK Try.prog (Γ95 K49 G49 K50 G50) := env_ok mixed tab_ok eqs_ok (.cons sem49 (.cons sem50 .nil))
theorem is95 : FnIs Try.prog 95 (Γ95 K49 G49 K50 G50) (bodyOf Try.f95) := fnIs Try.func95 rfl rfl rfl (by kernel_rfl) (noLoops (by kernel_rfl))
theorem sem95 : SemOK Try.prog (95, fnMean A95 R95 K95 G95) := fn_opt env95 is95 fun x => ev95 K49 G49 K50 G50 x

/- "loop.example/g03321/impl.SideOf" -/
abbrev A94 : Ty := .cons (S42) (.cons (S22) (.nil))
abbrev R94 : Ty := .cons (.int .i64) (.nil)
noncomputable def Γ94 (k61 : Den A61 → Bool) (g61 : Den A61 → Den R61) (k48 : Den A48 → Bool) (g48 : Den A48 → Den R48) (k95 : Den A95 → Bool) (g95 : Den A95 → Den R95) : Env := mkEnv tab eqs [(61, fnMean A61 R61 k61 g61), (48, fnMean A48 R48 k48 g48), (95, fnMean A95 R95 k95 g95)] 23 [.tmp 4] [] [] [] [] []
def r94 (k61 : Den A61 → Bool) (g61 : Den A61 → Den R61) (k48 : Den A48 → Bool) (g48 : Den A48 → Den R48) (k95 : Den A95 → Bool) (g95 : Den A95 → Den R95) (x : Den A94) : Option (Den R94) :=
  let v0 := (k61 (x.fst, ()))
  bif (v0) then
    let v1 := (g61 (x.fst, ()))
    bif (!v1.fst) then
      some ((0), ())
    else
      let v2 := (k48 x.snd)
      bif (v2) then
        let v3 := (g48 x.snd)
        bif (!v3.fst) then
          some ((0), ())
        else
          let v4 := (k95 x)
          bif (v4) then
            let v5 := (g95 x)
            bif (decide (v5.fst < 0)) then
              some ((1), ())
            else
              bif (decide (v5.fst > 0)) then
                some ((-1), ())
              else
                some ((0), ())
          else
            none
      else
        none
  else
    none
theorem ev94 (k61 : Den A61 → Bool) (g61 : Den A61 → Den R61) (k48 : Den A48 → Bool) (g48 : Den A48 → Den R48) (k95 : Den A95 → Bool) (g95 : Den A95 → Den R95) (x : Den A94) : callK (Γ94 k61 g61 k48 g48 k95 g95) (bodyOf Try.f94) (decR R94) (encA A94 x) [] = r94 k61 g61 k48 g48 k95 g95 x := by kernel_rfl
def F94 (x : Den A94) : Option (Den R94) := r94 K61 G61 K48 G48 K95 G95 x
def K94 (x : Den A94) : Bool := (F94 x).isSome
def G94 (x : Den A94) : Den R94 := (F94 x).getD (zero R94)
theorem env94 : EnvOK Try.prog (Γ94 K61 G61 K48 G48 K95 G95) := env_ok mixed tab_ok eqs_ok (.cons sem61 (.cons sem48 (.cons sem95 .nil)))
theorem is94 : FnIs Try.prog 94 (Γ94 K61 G61 K48 G48 K95 G95) (bodyOf Try.f94) := fnIs Try.func94 rfl rfl rfl (by kernel_rfl) (noLoops (by kernel_rfl))
theorem sem94 : SemOK Try.prog (94, fnMean A94 R94 K94 G94) := fn_opt env94 is94 fun x => ev94 K61 G61 K48 G48 K95 G95 x

/- "loop.example/g03321/impl.Crossing" -/
abbrev A81 : Ty := .cons (S42) (.cons (S22) (.cons (S22) (.nil)))
abbrev R81 : Ty := .cons (.int .i64) (.nil)
noncomputable def Γ81 (k61 : Den A61 → Bool) (g61 : Den A61 → Den R61) (k48 : Den A48 → Bool) (g48 : Den A48 → Den R48) (k49 : Den A49 → Bool) (g49 : Den A49 → Den R49) (k50 : Den A50 → Bool) (g50 : Den A50 → Den R50) (k94 : Den A94 → Bool) (g94 : Den A94 → Den R94) : Env := mkEnv tab eqs [(61, fnMean A61 R61 k61 g61), (48, fnMean A48 R48 k48 g48), (49, fnMean A49 R49 k49 g49), (50, fnMean A50 R50 k50 g50), (94, fnMean A94 R94 k94 g94)] 74 [.tmp 6] [] [] [] [] []
def r81 (k61 : Den A61 → Bool) (g61 : Den A61 → Den R61) (k48 : Den A48 → Bool) (g48 : Den A48 → Den R48) (k49 : Den A49 → Bool) (g49 : Den A49 → Den R49) (k50 : Den A50 → Bool) (g50 : Den A50 → Den R50) (k94 : Den A94 → Bool) (g94 : Den A94 → Den R94) (x : Den A81) : Option (Den R81) :=
  let v0 := (k61 (x.fst, ()))
  bif (v0) then
    let v1 := (g61 (x.fst, ()))
    bif (!v1.fst) then
      some ((0), ())
    else
      let v2 := (k48 (x.snd.fst, ()))
      bif (v2) then
        let v3 := (g48 (x.snd.fst, ()))
        bif (!v3.fst) then
          some ((0), ())
        else
          let v4 := (k48 x.snd.snd)
          bif (v4) then
            let v5 := (g48 x.snd.snd)
            bif (!v5.fst) then
              some ((0), ())
            else
              let v6 := (k49 (x.snd.snd.fst, x.snd.fst, ()))
              bif (v6) then
                let v7 := (k49 (x.fst.fst, x.snd.fst, ()))
                bif (v7) then
                  let v8 := (g49 (x.snd.snd.fst, x.snd.fst, ()))
                  let v9 := (g49 (x.fst.fst, x.snd.fst, ()))
                  let v10 := (k50 (v8.fst, v9))
                  bif (v10) then
                    let v11 := (k49 (x.fst.snd.fst, x.snd.fst, ()))
                    bif (v11) then
                      let v12 := (g49 (x.fst.snd.fst, x.snd.fst, ()))
                      let v13 := (k50 (v8.fst, v12))
                      bif (v13) then
                        let v14 := (g50 (v8.fst, v9))
                        bif (decide (v14.fst > 0)) then
                          let v15 := (g50 (v8.fst, v12))
                          bif (decide (v15.fst > 0)) then
                            some ((0), ())
                          else
                            bif (decide (v14.fst < 0)) then
                              bif (decide (v15.fst < 0)) then
                                some ((0), ())
                              else
                                let v16 := (k94 (x.fst, x.snd.fst, ()))
                                bif (v16) then
                                  let v17 := (k94 (x.fst, x.snd.snd))
                                  bif (v17) then
                                    let v18 := (g94 (x.fst, x.snd.fst, ()))
                                    bif (decide (v18.fst ≤ 0)) then
                                      let v19 := (g94 (x.fst, x.snd.snd))
                                      bif (v19.fst == 1) then
                                        some ((1), ())
                                      else
                                        bif (v18.fst == 1) then
                                          bif (decide (v19.fst ≤ 0)) then
                                            some ((-1), ())
                                          else
                                            some ((0), ())
                                        else
                                          some ((0), ())
                                    else
                                      bif (v18.fst == 1) then
                                        let v19 := (g94 (x.fst, x.snd.snd))
                                        bif (decide (v19.fst ≤ 0)) then
                                          some ((-1), ())
                                        else
                                          some ((0), ())
                                      else
                                        some ((0), ())
                                  else
                                    none
                                else
                                  none
                            else
                              let v16 := (k94 (x.fst, x.snd.fst, ()))
                              bif (v16) then
                                let v17 := (k94 (x.fst, x.snd.snd))
                                bif (v17) then
                                  let v18 := (g94 (x.fst, x.snd.fst, ()))
                                  bif (decide (v18.fst ≤ 0)) then
                                    let v19 := (g94 (x.fst, x.snd.snd))
                                    bif (v19.fst == 1) then
                                      some ((1), ())
                                    else
                                      bif (v18.fst == 1) then
                                        bif (decide (v19.fst ≤ 0)) then
                                          some ((-1), ())
                                        else
                                          some ((0), ())
                                      else
                                        some ((0), ())
                                  else
                                    bif (v18.fst == 1) then
                                      let v19 := (g94 (x.fst, x.snd.snd))
                                      bif (decide (v19.fst ≤ 0)) then
                                        some ((-1), ())
                                      else
                                        some ((0), ())
                                    else
                                      some ((0), ())
                                else
                                  none
                              else
                                none
                        else
                          bif (decide (v14.fst < 0)) then
                            let v15 := (g50 (v8.fst, v12))
                            bif (decide (v15.fst < 0)) then
                              some ((0), ())
                            else
                              let v16 := (k94 (x.fst, x.snd.fst, ()))
                              bif (v16) then
                                let v17 := (k94 (x.fst, x.snd.snd))
                                bif (v17) then
                                  let v18 := (g94 (x.fst, x.snd.fst, ()))
                                  bif (decide (v18.fst ≤ 0)) then
                                    let v19 := (g94 (x.fst, x.snd.snd))
                                    bif (v19.fst == 1) then
                                      some ((1), ())
                                    else
                                      bif (v18.fst == 1) then
                                        bif (decide (v19.fst ≤ 0)) then
                                          some ((-1), ())
                                        else
                                          some ((0), ())
                                      else
                                        some ((0), ())
                                  else
                                    bif (v18.fst == 1) then
                                      let v19 := (g94 (x.fst, x.snd.snd))
                                      bif (decide (v19.fst ≤ 0)) then
                                        some ((-1), ())
                                      else
                                        some ((0), ())
                                    else
                                      some ((0), ())
                                else
                                  none
                              else
                                none
                          else
                            let v15 := (k94 (x.fst, x.snd.fst, ()))
                            bif (v15) then
                              let v16 := (k94 (x.fst, x.snd.snd))
                              bif (v16) then
                                let v17 := (g94 (x.fst, x.snd.fst, ()))
                                bif (decide (v17.fst ≤ 0)) then
                                  let v18 := (g94 (x.fst, x.snd.snd))
                                  bif (v18.fst == 1) then
                                    some ((1), ())
                                  else
                                    bif (v17.fst == 1) then
                                      bif (decide (v18.fst ≤ 0)) then
                                        some ((-1), ())
                                      else
                                        some ((0), ())
                                    else
                                      some ((0), ())
                                else
                                  bif (v17.fst == 1) then
                                    let v18 := (g94 (x.fst, x.snd.snd))
                                    bif (decide (v18.fst ≤ 0)) then
                                      some ((-1), ())
                                    else
                                      some ((0), ())
                                  else
                                    some ((0), ())
                              else
                                none
                            else
                              none
                      else
                        none
                    else
                      none
                  else
                    none
                else
                  none
              else
                none
          else
            none
      else
        none
  else
    none
theorem ev81 (k61 : Den A61 → Bool) (g61 : Den A61 → Den R61) (k48 : Den A48 → Bool) (g48 : Den A48 → Den R48) (k49 : Den A49 → Bool) (g49 : Den A49 → Den R49) (k50 : Den A50 → Bool) (g50 : Den A50 → Den R50) (k94 : Den A94 → Bool) (g94 : Den A94 → Den R94) (x : Den A81) : callK (Γ81 k61 g61 k48 g48 k49 g49 k50 g50 k94 g94) (bodyOf Try.f81) (decR R81) (encA A81 x) [] = r81 k61 g61 k48 g48 k49 g49 k50 g50 k94 g94 x := by kernel_rfl
def F81 (x : Den A81) : Option (Den R81) := r81 K61 G61 K48 G48 K49 G49 K50 G50 K94 G94 x
def K81 (x : Den A81) : Bool := (F81 x).isSome
def G81 (x : Den A81) : Den R81 := (F81 x).getD (zero R81)
theorem env81 : EnvOK Try.prog (Γ81 K61 G61 K48 G48 K49 G49 K50 G50 K94 G94) := env_ok mixed tab_ok eqs_ok (.cons sem61 (.cons sem48 (.cons sem49 (.cons sem50 (.cons sem94 .nil)))))
theorem is81 : FnIs Try.prog 81 (Γ81 K61 G61 K48 G48 K49 G49 K50 G50 K94 G94) (bodyOf Try.f81) := fnIs Try.func81 rfl rfl rfl (by kernel_rfl) (noLoops (by kernel_rfl))
theorem sem81 : SemOK Try.prog (81, fnMean A81 R81 K81 G81) := fn_opt env81 is81 fun x => ev81 K61 G61 K48 G48 K49 G49 K50 G50 K94 G94 x

/- "loop.example/g03321/impl.ceiling" -/
abbrev A96 : Ty := .cons (.int .i64) (.cons (.int .i64) (.nil))
abbrev R96 : Ty := .cons (.int .i64) (.nil)
noncomputable def Γ96 : Env := mkEnv tab eqs [] 22 [.tmp 4] [] [] [] [] []
def r96 (x : Den A96) : Option (Den R96) :=
  bif (decide (x.snd.fst < 0)) then
    let v0 := (IntKind.wrap IntKind.i64 (0 - x.snd.fst))
    bif (v0 != 0) then
      bif (v0 != 0) then
        let v1 := (IntKind.wrap IntKind.i64 (0 - x.fst))
        bif (decide (Int.tmod v1 v0 > 0)) then
          let v2 := (IntKind.wrap IntKind.i64 (Int.tdiv v1 v0))
          let v3 := (IntKind.wrap IntKind.i64 (v2 + 1))
          some ((v3), ())
        else
          let v2 := (IntKind.wrap IntKind.i64 (Int.tdiv v1 v0))
          some ((v2), ())
      else
        none
    else
      none
  else
    bif (x.snd.fst != 0) then
      bif (x.snd.fst != 0) then
        bif (decide (Int.tmod x.fst x.snd.fst > 0)) then
          let v0 := (IntKind.wrap IntKind.i64 (Int.tdiv x.fst x.snd.fst))
          let v1 := (IntKind.wrap IntKind.i64 (v0 + 1))
          some ((v1), ())
        else
          let v0 := (IntKind.wrap IntKind.i64 (Int.tdiv x.fst x.snd.fst))
          some ((v0), ())
      else
        none
    else
      none
theorem ev96 (x : Den A96) : callK (Γ96) (bodyOf Try.f96) (decR R96) (encA A96 x) [] = r96 x := by kernel_rfl
def F96 (x : Den A96) : Option (Den R96) := r96 x
def K96 (x : Den A96) : Bool := (F96 x).isSome
def G96 (x : Den A96) : Den R96 := (F96 x).getD (zero R96)
theorem env96 : EnvOK Try.prog (Γ96) := env_ok mixed tab_ok eqs_ok .nil
theorem is96 : FnIs Try.prog 96 (Γ96) (bodyOf Try.f96) := fnIs Try.func96 rfl rfl rfl (by kernel_rfl) (noLoops (by kernel_rfl))
theorem sem96 : SemOK Try.prog (96, fnMean A96 R96 K96 G96) := fn_opt env96 is96 fun x => ev96 x

/- "loop.example/g03321/impl.CrossTime" -/
abbrev A82 : Ty := .cons (S42) (.cons (S95) (.cons (S95) (.nil)))
abbrev R82 : Ty := .cons (.int .i64) (.cons (.bool) (.nil))
noncomputable def Γ82 (k81 : Den A81 → Bool) (g81 : Den A81 → Den R81) (k70 : Den A70 → Bool) (g70 : Den A70 → Den R70) (k95 : Den A95 → Bool) (g95 : Den A95 → Den R95) (k96 : Den A96 → Bool) (g96 : Den A96 → Den R96) : Env := mkEnv tab eqs [(81, fnMean A81 R81 k81 g81), (70, fnMean A70 R70 k70 g70), (95, fnMean A95 R95 k95 g95), (96, fnMean A96 R96 k96 g96)] 46 [.tmp 6, .tmp 7] [] [] [] [] []
def r82 (k81 : Den A81 → Bool) (g81 : Den A81 → Den R81) (k70 : Den A70 → Bool) (g70 : Den A70 → Den R70) (k95 : Den A95 → Bool) (g95 : Den A95 → Den R95) (k96 : Den A96 → Bool) (g96 : Den A96 → Den R96) (x : Den A82) : Option (Den R82) :=
  let v0 := (k81 (x.fst, x.snd.fst.fst, x.snd.snd.fst.fst, ()))
  bif (v0) then
    let v1 := (g81 (x.fst, x.snd.fst.fst, x.snd.snd.fst.fst, ()))
    bif (v1.fst == 0) then
      some ((0), ((false), ()))
    else
      let v2 := (List.set (List.replicate 2 (zero S95)) 0 x.snd.fst)
      let v3 := (List.set v2 1 x.snd.snd.fst)
      let v4 := (k70 (v3, ()))
      bif (v4) then
        let v5 := (g70 (v3, ()))
        bif (!v5.fst) then
          some ((0), ((false), ()))
        else
          let v6 := (k95 (x.fst, x.snd.fst.fst, ()))
          bif (v6) then
            let v7 := (k95 (x.fst, x.snd.snd.fst.fst, ()))
            bif (v7) then
              let v8 := (IntKind.wrap IntKind.i64 (x.snd.snd.fst.snd.fst - x.snd.fst.snd.fst))
              let v9 := (g95 (x.fst, x.snd.fst.fst, ()))
              let v10 := (IntKind.wrap IntKind.i64 (v8 * v9.fst))
              let v11 := (g95 (x.fst, x.snd.snd.fst.fst, ()))
              let v12 := (IntKind.wrap IntKind.i64 (v9.fst - v11.fst))
              let v13 := (k96 (v10, v12, ()))
              bif (v13) then
                let v14 := (g96 (v10, v12, ()))
                let v15 := (IntKind.wrap IntKind.i64 (x.snd.fst.snd.fst + v14.fst))
                some ((v15), ((true), ()))
              else
                none
            else
              none
          else
            none
      else
        none
  else
    none
theorem ev82 (k81 : Den A81 → Bool) (g81 : Den A81 → Den R81) (k70 : Den A70 → Bool) (g70 : Den A70 → Den R70) (k95 : Den A95 → Bool) (g95 : Den A95 → Den R95) (k96 : Den A96 → Bool) (g96 : Den A96 → Den R96) (x : Den A82) : callK (Γ82 k81 g81 k70 g70 k95 g95 k96 g96) (bodyOf Try.f82) (decR R82) (encA A82 x) [] = r82 k81 g81 k70 g70 k95 g95 k96 g96 x := by kernel_rfl
def F82 (x : Den A82) : Option (Den R82) := r82 K81 G81 K70 G70 K95 G95 K96 G96 x
def K82 (x : Den A82) : Bool := (F82 x).isSome
def G82 (x : Den A82) : Den R82 := (F82 x).getD (zero R82)
theorem env82 : EnvOK Try.prog (Γ82 K81 G81 K70 G70 K95 G95 K96 G96) := env_ok mixed tab_ok eqs_ok (.cons sem81 (.cons sem70 (.cons sem95 (.cons sem96 .nil))))
theorem is82 : FnIs Try.prog 82 (Γ82 K81 G81 K70 G70 K95 G95 K96 G96) (bodyOf Try.f82) := fnIs Try.func82 rfl rfl rfl (by kernel_rfl) (noLoops (by kernel_rfl))
theorem sem82 : SemOK Try.prog (82, fnMean A82 R82 K82 G82) := fn_opt env82 is82 fun x => ev82 K81 G81 K70 G70 K95 G95 K96 G96 x

/- "loop.example/g03321/impl.FinishTime" -/
abbrev A43 : Ty := .cons (S45) (.cons (.slice (S95)) (.cons (.int .i64) (.nil)))
abbrev R43 : Ty := .cons (.int .i64) (.cons (.bool) (.nil))
abbrev V43_5 : Type := (((List (Den (S95))) × (Unit × (Int × Unit))) × ((Int × (Int × (Int × (Int × ((List (Den (S82))) × (Int × (Int × (Int × (Int × Unit))))))))) × Unit))
def sh43_5 : ShS := ⟨[(1, .one (.sl (S95))), (3, .one (.ptr 0 0)), (9, .one (.int .i64))], [(0, .box [.int .i64, .int .i64, .int .i64, .int .i64, .sl (S82), .int .i64, .int .i64, .int .i64, .int .i64])], 1, 0⟩
abbrev X43_5 : Type := (Unit × Unit)
def shX43_5 : ShS := ⟨[], [], 0, 0⟩
abbrev Y43_5 : Type := ((Int × (Bool × Unit)) × Unit)
def shY43_5 : ShS := ⟨[(6, .one (.int .i64)), (7, .one (.bool))], [], 0, 0⟩
noncomputable def Γ43 (k31 : I31.den → Bool) (g31 : I31.den → O31.den) (k81 : Den A81 → Bool) (g81 : Den A81 → Den R81) (k82 : Den A82 → Bool) (g82 : Den A82 → Den R82) (kl5 : V43_5 → Bool) (xl5 : V43_5 → X43_5) (tl5 : V43_5 → Bool) (yl5 : V43_5 → Y43_5) : Env := mkEnv tab eqs [(31, sgMean false I31 O31 k31 g31), (81, fnMean A81 R81 k81 g81), (82, fnMean A82 R82 k82 g82)] 67 [.tmp 6, .tmp 7] [] [] [(5, loopR [1, 3, 9] [] 0 [] [] sh43_5 shX43_5 shY43_5 kl5 tl5 xl5 yl5)] [] []
noncomputable def lc43_5 : Code := (loopsOf (bodyOf Try.f43)).getD 0 .skip
def q43_5 (k31 : I31.den → Bool) (g31 : I31.den → O31.den) (k81 : Den A81 → Bool) (g81 : Den A81 → Den R81) (k82 : Den A82 → Bool) (g82 : Den A82 → Den R82) (f : V43_5 → Option (X43_5 ⊕ Y43_5)) (v : V43_5) : Option (X43_5 ⊕ Y43_5) :=
  let v0 := (IntKind.wrap IntKind.i64 (v.fst.snd.snd.fst + 1))
  bif (decide (v0 < (↑(List.length v.fst.fst) : Int))) then
    bif (decide (0 ≤ v.fst.snd.snd.fst) && decide (v.fst.snd.snd.fst < (↑(List.length v.fst.fst) : Int))) then
      bif (decide (0 ≤ v0) && decide (v0 < (↑(List.length v.fst.fst) : Int))) then
        let v1 := (List.getD v.fst.fst (Int.toNat v.fst.snd.snd.fst) (zero S95))
        let v2 := (List.getD v.fst.fst (Int.toNat v0) (zero S95))
        let v3 := (k81 (((v.snd.fst.snd.snd.snd.snd.snd.fst, v.snd.fst.snd.snd.snd.snd.snd.snd.fst, ()), v.snd.fst.snd.snd.snd.snd.snd.snd.snd, ()), v1.fst, v2.fst, ()))
        bif (v3) then
          let v4 := (g81 (((v.snd.fst.snd.snd.snd.snd.snd.fst, v.snd.fst.snd.snd.snd.snd.snd.snd.fst, ()), v.snd.fst.snd.snd.snd.snd.snd.snd.snd, ()), v1.fst, v2.fst, ()))
          bif (v4.fst == 1) then
            bif (decide (0 ≤ v.fst.snd.snd.fst) && decide (v.fst.snd.snd.fst < (↑(List.length v.fst.fst) : Int))) then
              bif (decide (0 ≤ v0) && decide (v0 < (↑(List.length v.fst.fst) : Int))) then
                let v5 := (k82 (((v.snd.fst.snd.snd.snd.snd.snd.fst, v.snd.fst.snd.snd.snd.snd.snd.snd.fst, ()), v.snd.fst.snd.snd.snd.snd.snd.snd.snd, ()), v1, v2, ()))
                bif (v5) then
                  let v6 := (g82 (((v.snd.fst.snd.snd.snd.snd.snd.fst, v.snd.fst.snd.snd.snd.snd.snd.snd.fst, ()), v.snd.fst.snd.snd.snd.snd.snd.snd.snd, ()), v1, v2, ()))
                  some (Sum.inr (((v6.1), ((v6.snd.1), ())), ()))
                else
                  none
              else
                none
            else
              none
          else
            f (((v.fst.1), ((), ((v0), ()))), (((v.snd.fst.1), ((v.snd.fst.snd.1), ((v.snd.fst.snd.snd.1), ((v.snd.fst.snd.snd.snd.1), ((v.snd.fst.snd.snd.snd.snd.1), ((v.snd.fst.snd.snd.snd.snd.snd.1), ((v.snd.fst.snd.snd.snd.snd.snd.snd.1), ((v.snd.fst.snd.snd.snd.snd.snd.snd.snd.1), ((v.snd.fst.snd.snd.snd.snd.snd.snd.snd.snd.1), ()))))))))), ()))
        else
          none
      else
        none
    else
      none
  else
    some (Sum.inl ((), ()))
theorem evl43_5 (k31 : I31.den → Bool) (g31 : I31.den → O31.den) (k81 : Den A81 → Bool) (g81 : Den A81 → Den R81) (k82 : Den A82 → Bool) (g82 : Den A82 → Den R82) (kl5 : V43_5 → Bool) (xl5 : V43_5 → X43_5) (tl5 : V43_5 → Bool) (yl5 : V43_5 → Y43_5) (f : V43_5 → Option (X43_5 ⊕ Y43_5)) (v : V43_5) : EBk (Γ43 k31 g31 k81 g81 k82 g82 kl5 xl5 tl5 yl5) lc43_5 (roundK [1, 3, 9] [] 0 [] [] (atS sh43_5 f) (endS shX43_5 shY43_5)) (mkS sh43_5 v) = q43_5 k31 g31 k81 g81 k82 g82 f v := by kernel_rfl
def b43_5 (v : V43_5) : Nat := v.1.1.length + v.1.2.2.1.natAbs + v.2.1.1.natAbs + v.2.1.2.1.natAbs + v.2.1.2.2.1.natAbs + v.2.1.2.2.2.1.natAbs + v.2.1.2.2.2.2.1.length + v.2.1.2.2.2.2.2.1.natAbs + v.2.1.2.2.2.2.2.2.1.natAbs + v.2.1.2.2.2.2.2.2.2.1.natAbs + v.2.1.2.2.2.2.2.2.2.2.1.natAbs + 1000
def l43_5 (v : V43_5) : Option (X43_5 ⊕ Y43_5) := iter (q43_5 K31 G31 K81 G81 K82 G82) (b43_5 v) v
def kL43_5 (v : V43_5) : Bool := (l43_5 v).isSome
def tL43_5 (v : V43_5) : Bool := isR (l43_5 v)
def xL43_5 (v : V43_5) : X43_5 := xOf ((), ()) (l43_5 v)
def yL43_5 (v : V43_5) : Y43_5 := yOf ((0, (false, ())), ()) (l43_5 v)
def r43 (k31 : I31.den → Bool) (g31 : I31.den → O31.den) (k81 : Den A81 → Bool) (g81 : Den A81 → Den R81) (k82 : Den A82 → Bool) (g82 : Den A82 → Den R82) (kl5 : V43_5 → Bool) (xl5 : V43_5 → X43_5) (tl5 : V43_5 → Bool) (yl5 : V43_5 → Y43_5) (x : Den A43) : Option (Den R43) :=
  let v0 := (k31 (x, ()))
  bif (v0) then
    let v1 := (g31 (x, ()))
    bif ((↑(List.length v1.snd.fst) : Int) == 0) then
      some ((0), ((false), ()))
    else
      bif ((↑(List.length v1.snd.fst) : Int) != (↑(List.length x.fst.snd.fst) : Int)) then
        some ((0), ((false), ()))
      else
        let v2 := (IntKind.wrap IntKind.i64 ((↑(List.length v1.snd.fst) : Int) - 1))
        bif (decide (0 ≤ v2) && decide (v2 < (↑(List.length v1.snd.fst) : Int))) then
          let v3 := (List.getD v1.snd.fst (Int.toNat v2) (zero (Ty.int IntKind.i64)))
          let v4 := (kl5 ((x.snd.fst, (), v3, ()), (x.fst.fst.fst.fst, x.fst.fst.fst.snd.fst, x.fst.fst.snd.fst.fst, x.fst.fst.snd.fst.snd.fst, x.fst.snd.fst, x.fst.snd.snd.fst.fst.fst, x.fst.snd.snd.fst.fst.snd.fst, x.fst.snd.snd.fst.snd.fst), ()))
          bif (v4) then
            let v5 := (tl5 ((x.snd.fst, (), v3, ()), (x.fst.fst.fst.fst, x.fst.fst.fst.snd.fst, x.fst.fst.snd.fst.fst, x.fst.fst.snd.fst.snd.fst, x.fst.snd.fst, x.fst.snd.snd.fst.fst.fst, x.fst.snd.snd.fst.fst.snd.fst, x.fst.snd.snd.fst.snd.fst), ()))
            bif (v5) then
              let v6 := (yl5 ((x.snd.fst, (), v3, ()), (x.fst.fst.fst.fst, x.fst.fst.fst.snd.fst, x.fst.fst.snd.fst.fst, x.fst.fst.snd.fst.snd.fst, x.fst.snd.fst, x.fst.snd.snd.fst.fst.fst, x.fst.snd.snd.fst.fst.snd.fst, x.fst.snd.snd.fst.snd.fst), ()))
              some ((v6.fst.1), ((v6.fst.snd.1), ()))
            else
              some ((0), ((false), ()))
          else
            none
        else
          none
  else
    none
theorem ev43 (k31 : I31.den → Bool) (g31 : I31.den → O31.den) (k81 : Den A81 → Bool) (g81 : Den A81 → Den R81) (k82 : Den A82 → Bool) (g82 : Den A82 → Den R82) (kl5 : V43_5 → Bool) (xl5 : V43_5 → X43_5) (tl5 : V43_5 → Bool) (yl5 : V43_5 → Y43_5) (x : Den A43) : callK (Γ43 k31 g31 k81 g81 k82 g82 kl5 xl5 tl5 yl5) (bodyOf Try.f43) (decR R43) (encA A43 x) [] = r43 k31 g31 k81 g81 k82 g82 kl5 xl5 tl5 yl5 x := by kernel_rfl
def F43 (x : Den A43) : Option (Den R43) := r43 K31 G31 K81 G81 K82 G82 kL43_5 xL43_5 tL43_5 yL43_5 x
def K43 (x : Den A43) : Bool := (F43 x).isSome
def G43 (x : Den A43) : Den R43 := (F43 x).getD (zero R43)
theorem env43 : EnvOK Try.prog (Γ43 K31 G31 K81 G81 K82 G82 kL43_5 xL43_5 tL43_5 yL43_5) := env_ok mixed tab_ok eqs_ok (.cons sem31 (.cons sem81 (.cons sem82 .nil)))
theorem is43 : FnIs Try.prog 43 (Γ43 K31 G31 K81 G81 K82 G82 kL43_5 xL43_5 tL43_5 yL43_5) (bodyOf Try.f43) := fnIs Try.func43 rfl rfl rfl (by kernel_rfl) (loops_ok (l := [lc43_5]) (by kernel_rfl) (.cons (one_loop rfl (loopR_sound (sh := sh43_5) (shX := shX43_5) (shR := shY43_5) (fun f v => evl43_5 K31 G31 K81 G81 K82 G82 kL43_5 xL43_5 tL43_5 yL43_5 f v) b43_5 ((), ()) ((0, (false, ())), ()))) (.nil)))
theorem sem43 : SemOK Try.prog (43, fnMean A43 R43 K43 G43) := fn_opt env43 is43 fun x => ev43 K31 G31 K81 G81 K82 G82 kL43_5 xL43_5 tL43_5 yL43_5 x

/- "loop.example/g03321/laws.FnExactFinishTime" -/
abbrev A11 : Ty := .cons (S38) (.cons (.slice (S104)) (.cons (.int .i64) (.nil)))
abbrev R11 : Ty := .cons (.bool) (.nil)
noncomputable def Γ11 (k20 : Den A20 → Bool) (g20 : Den A20 → Den R20) (k32 : Den A32 → Bool) (g32 : Den A32 → Den R32) (k22 : I22.den → Bool) (g22 : I22.den → O22.den) (k34 : I34.den → Bool) (g34 : I34.den → O34.den) (k42 : Den A42 → Bool) (g42 : Den A42 → Den R42) (k43 : Den A43 → Bool) (g43 : Den A43 → Den R43) (k24 : Den A24 → Bool) (g24 : Den A24 → Den R24) (k35 : Den A35 → Bool) (g35 : Den A35 → Den R35) : Env := mkEnv tab eqs [(20, fnMean A20 R20 k20 g20), (32, fnMean A32 R32 k32 g32), (22, sgMean false I22 O22 k22 g22), (34, sgMean false I34 O34 k34 g34), (42, fnMean A42 R42 k42 g42), (43, fnMean A43 R43 k43 g43), (24, fnMean A24 R24 k24 g24), (35, fnMean A35 R35 k35 g35)] 62 [.tmp 6] [] [] [] [] []
def r11 (k20 : Den A20 → Bool) (g20 : Den A20 → Den R20) (k32 : Den A32 → Bool) (g32 : Den A32 → Den R32) (k22 : I22.den → Bool) (g22 : I22.den → O22.den) (k34 : I34.den → Bool) (g34 : I34.den → O34.den) (k42 : Den A42 → Bool) (g42 : Den A42 → Den R42) (k43 : Den A43 → Bool) (g43 : Den A43 → Den R43) (k24 : Den A24 → Bool) (g24 : Den A24 → Den R24) (k35 : Den A35 → Bool) (g35 : Den A35 → Den R35) (x : Den A11) : Option (Den R11) :=
  let v0 := (k20 (x.fst, 1048576, ()))
  bif (v0) then
    let v1 := (g20 (x.fst, 1048576, ()))
    bif (decide (v1.fst < 0)) then
      some ((true), ())
    else
      let v2 := (k32 (x.snd.fst, v1))
      bif (v2) then
        let v3 := (g32 (x.snd.fst, v1))
        bif (decide (v3.fst < 0)) then
          some ((true), ())
        else
          let v4 := (k22 ((x.fst, ()), ()))
          bif (v4) then
            let v5 := (k34 ((x.snd.fst, ()), ()))
            bif (v5) then
              let v6 := (g22 ((x.fst, ()), ()))
              let v7 := (g34 ((x.snd.fst, ()), ()))
              let v8 := (k42 ((((v6.fst.fst.fst, v6.fst.fst.snd.fst, ()), (v6.fst.fst.snd.snd.fst, v6.fst.fst.snd.snd.snd.fst, ()), ()), v6.snd.fst, ((v6.fst.fst.snd.snd.snd.snd.snd.fst, v6.fst.fst.snd.snd.snd.snd.snd.snd.fst, ()), v6.fst.fst.snd.snd.snd.snd.snd.snd.snd, ()), ()), v7.snd.fst, x.snd.snd))
              bif (v8) then
                bif (v4) then
                  bif (v5) then
                    let v9 := (k43 ((((v6.fst.fst.fst, v6.fst.fst.snd.fst, ()), (v6.fst.fst.snd.snd.fst, v6.fst.fst.snd.snd.snd.fst, ()), ()), v6.snd.fst, ((v6.fst.fst.snd.snd.snd.snd.snd.fst, v6.fst.fst.snd.snd.snd.snd.snd.snd.fst, ()), v6.fst.fst.snd.snd.snd.snd.snd.snd.snd, ()), ()), v7.snd.fst, x.snd.snd))
                    bif (v9) then
                      let v10 := (g43 ((((v6.fst.fst.fst, v6.fst.fst.snd.fst, ()), (v6.fst.fst.snd.snd.fst, v6.fst.fst.snd.snd.snd.fst, ()), ()), v6.snd.fst, ((v6.fst.fst.snd.snd.snd.snd.snd.fst, v6.fst.fst.snd.snd.snd.snd.snd.snd.fst, ()), v6.fst.fst.snd.snd.snd.snd.snd.snd.snd, ()), ()), v7.snd.fst, x.snd.snd))
                      let v11 := (g42 ((((v6.fst.fst.fst, v6.fst.fst.snd.fst, ()), (v6.fst.fst.snd.snd.fst, v6.fst.fst.snd.snd.snd.fst, ()), ()), v6.snd.fst, ((v6.fst.fst.snd.snd.snd.snd.snd.fst, v6.fst.fst.snd.snd.snd.snd.snd.snd.fst, ()), v6.fst.fst.snd.snd.snd.snd.snd.snd.snd, ()), ()), v7.snd.fst, x.snd.snd))
                      bif (v10.fst != v11.fst) then
                        some ((false), ())
                      else
                        bif (!v10.snd.fst == v11.snd.fst) then
                          some ((false), ())
                        else
                          bif (v4) then
                            let v12 := (k24 ((((v6.fst.fst.fst, v6.fst.fst.snd.fst, ()), (v6.fst.fst.snd.snd.fst, v6.fst.fst.snd.snd.snd.fst, ()), ()), v6.snd.fst, ((v6.fst.fst.snd.snd.snd.snd.snd.fst, v6.fst.fst.snd.snd.snd.snd.snd.snd.fst, ()), v6.fst.fst.snd.snd.snd.snd.snd.snd.snd, ()), ()), (((v6.fst.fst.fst, v6.fst.fst.snd.fst, ()), (v6.fst.fst.snd.snd.fst, v6.fst.fst.snd.snd.snd.fst, ()), ()), v6.snd.fst, ((v6.fst.fst.snd.snd.snd.snd.snd.fst, v6.fst.fst.snd.snd.snd.snd.snd.snd.fst, ()), v6.fst.fst.snd.snd.snd.snd.snd.snd.snd, ()), ()), ()))
                            bif (v12) then
                              let v13 := (g24 ((((v6.fst.fst.fst, v6.fst.fst.snd.fst, ()), (v6.fst.fst.snd.snd.fst, v6.fst.fst.snd.snd.snd.fst, ()), ()), v6.snd.fst, ((v6.fst.fst.snd.snd.snd.snd.snd.fst, v6.fst.fst.snd.snd.snd.snd.snd.snd.fst, ()), v6.fst.fst.snd.snd.snd.snd.snd.snd.snd, ()), ()), (((v6.fst.fst.fst, v6.fst.fst.snd.fst, ()), (v6.fst.fst.snd.snd.fst, v6.fst.fst.snd.snd.snd.fst, ()), ()), v6.snd.fst, ((v6.fst.fst.snd.snd.snd.snd.snd.fst, v6.fst.fst.snd.snd.snd.snd.snd.snd.fst, ()), v6.fst.fst.snd.snd.snd.snd.snd.snd.snd, ()), ()), ()))
                              bif (!v13.fst) then
                                some ((false), ())
                              else
                                bif (v5) then
                                  let v14 := (k35 (v7.snd.fst, v7.snd))
                                  bif (v14) then
                                    let v15 := (g35 (v7.snd.fst, v7.snd))
                                    bif (!v15.fst) then
                                      some ((false), ())
                                    else
                                      some ((true), ())
                                  else
                                    none
                                else
                                  none
                            else
                              none
                          else
                            none
                    else
                      none
                  else
                    none
                else
                  none
              else
                none
            else
              none
          else
            none
      else
        none
  else
    none
theorem ev11 (k20 : Den A20 → Bool) (g20 : Den A20 → Den R20) (k32 : Den A32 → Bool) (g32 : Den A32 → Den R32) (k22 : I22.den → Bool) (g22 : I22.den → O22.den) (k34 : I34.den → Bool) (g34 : I34.den → O34.den) (k42 : Den A42 → Bool) (g42 : Den A42 → Den R42) (k43 : Den A43 → Bool) (g43 : Den A43 → Den R43) (k24 : Den A24 → Bool) (g24 : Den A24 → Den R24) (k35 : Den A35 → Bool) (g35 : Den A35 → Den R35) (x : Den A11) : callK (Γ11 k20 g20 k32 g32 k22 g22 k34 g34 k42 g42 k43 g43 k24 g24 k35 g35) (bodyOf Try.f11) (decR R11) (encA A11 x) [] = r11 k20 g20 k32 g32 k22 g22 k34 g34 k42 g42 k43 g43 k24 g24 k35 g35 x := by kernel_rfl
def F11 (x : Den A11) : Option (Den R11) := r11 K20 G20 K32 G32 K22 G22 K34 G34 K42 G42 K43 G43 K24 G24 K35 G35 x
def K11 (x : Den A11) : Bool := (F11 x).isSome
def G11 (x : Den A11) : Den R11 := (F11 x).getD (zero R11)
theorem env11 : EnvOK Try.prog (Γ11 K20 G20 K32 G32 K22 G22 K34 G34 K42 G42 K43 G43 K24 G24 K35 G35) := env_ok mixed tab_ok eqs_ok (.cons sem20 (.cons sem32 (.cons sem22 (.cons sem34 (.cons sem42 (.cons sem43 (.cons sem24 (.cons sem35 .nil))))))))
theorem is11 : FnIs Try.prog 11 (Γ11 K20 G20 K32 G32 K22 G22 K34 G34 K42 G42 K43 G43 K24 G24 K35 G35) (bodyOf Try.f11) := fnIs Try.func11 rfl rfl rfl (by kernel_rfl) (noLoops (by kernel_rfl))
theorem sem11 : SemOK Try.prog (11, fnMean A11 R11 K11 G11) := fn_opt env11 is11 fun x => ev11 K20 G20 K32 G32 K22 G22 K34 G34 K42 G42 K43 G43 K24 G24 K35 G35 x

/- "loop.example/g03321/spec.l10Started" -/
abbrev A83 : Ty := .cons (S45) (.cons (.slice (S95)) (.cons (.int .i64) (.nil)))
abbrev R83 : Ty := .cons (.int .i64) (.nil)
abbrev V83_2 : Type := (((List (Den (S95))) × (Int × (Unit × (Int × Unit)))) × ((Int × (Int × (Int × (Int × ((List (Den (S82))) × (Int × (Int × (Int × (Int × Unit))))))))) × Unit))
def sh83_2 : ShS := ⟨[(1, .one (.sl (S95))), (2, .one (.int .i64)), (3, .one (.ptr 0 0)), (7, .one (.int .i64))], [(0, .box [.int .i64, .int .i64, .int .i64, .int .i64, .sl (S82), .int .i64, .int .i64, .int .i64, .int .i64])], 1, 0⟩
abbrev X83_2 : Type := (Unit × Unit)
def shX83_2 : ShS := ⟨[], [], 0, 0⟩
abbrev Y83_2 : Type := ((Int × Unit) × Unit)
def shY83_2 : ShS := ⟨[(6, .one (.int .i64))], [], 0, 0⟩
noncomputable def Γ83 (k76 : Den A76 → Bool) (g76 : Den A76 → Den R76) (k77 : Den A77 → Bool) (g77 : Den A77 → Den R77) (kl2 : V83_2 → Bool) (xl2 : V83_2 → X83_2) (tl2 : V83_2 → Bool) (yl2 : V83_2 → Y83_2) : Env := mkEnv tab eqs [(76, fnMean A76 R76 k76 g76), (77, fnMean A77 R77 k77 g77)] 57 [.tmp 6] [] [] [(2, loopR [1, 2, 3, 7] [] 0 [] [] sh83_2 shX83_2 shY83_2 kl2 tl2 xl2 yl2)] [] []
noncomputable def lc83_2 : Code := (loopsOf (bodyOf Try.f83)).getD 0 .skip
def q83_2 (k76 : Den A76 → Bool) (g76 : Den A76 → Den R76) (k77 : Den A77 → Bool) (g77 : Den A77 → Den R77) (f : V83_2 → Option (X83_2 ⊕ Y83_2)) (v : V83_2) : Option (X83_2 ⊕ Y83_2) :=
  let v0 := (IntKind.wrap IntKind.i64 (v.fst.snd.snd.snd.fst + 1))
  bif (decide (v0 < (↑(List.length v.fst.fst) : Int))) then
    bif (decide (0 ≤ v.fst.snd.snd.snd.fst) && decide (v.fst.snd.snd.snd.fst < (↑(List.length v.fst.fst) : Int))) then
      bif (decide (0 ≤ v0) && decide (v0 < (↑(List.length v.fst.fst) : Int))) then
        let v1 := (List.getD v.fst.fst (Int.toNat v.fst.snd.snd.snd.fst) (zero S95))
        let v2 := (List.getD v.fst.fst (Int.toNat v0) (zero S95))
        let v3 := (k76 (((v.snd.fst.fst, v.snd.fst.snd.fst, ()), (v.snd.fst.snd.snd.fst, v.snd.fst.snd.snd.snd.fst, ()), ()), v1, v2, ()))
        bif (v3) then
          let v4 := (g76 (((v.snd.fst.fst, v.snd.fst.snd.fst, ()), (v.snd.fst.snd.snd.fst, v.snd.fst.snd.snd.snd.fst, ()), ()), v1, v2, ()))
          bif (v4.snd.1) then
            bif (decide (v4.fst ≥ v.fst.snd.fst)) then
              bif (decide (0 ≤ v.fst.snd.snd.snd.fst) && decide (v.fst.snd.snd.snd.fst < (↑(List.length v.fst.fst) : Int))) then
                bif (decide (0 ≤ v0) && decide (v0 < (↑(List.length v.fst.fst) : Int))) then
                  let v5 := (k77 (((v.snd.fst.fst, v.snd.fst.snd.fst, ()), (v.snd.fst.snd.snd.fst, v.snd.fst.snd.snd.snd.fst, ()), ()), v1.fst, v2.fst, ()))
                  bif (v5) then
                    let v6 := (g77 (((v.snd.fst.fst, v.snd.fst.snd.fst, ()), (v.snd.fst.snd.snd.fst, v.snd.fst.snd.snd.snd.fst, ()), ()), v1.fst, v2.fst, ()))
                    bif (v6.fst == 1) then
                      some (Sum.inr (((v0), ()), ()))
                    else
                      f (((v.fst.1), ((v.fst.snd.1), ((), ((v0), ())))), (((v.snd.fst.1), ((v.snd.fst.snd.1), ((v.snd.fst.snd.snd.1), ((v.snd.fst.snd.snd.snd.1), ((v.snd.fst.snd.snd.snd.snd.1), ((v.snd.fst.snd.snd.snd.snd.snd.1), ((v.snd.fst.snd.snd.snd.snd.snd.snd.1), ((v.snd.fst.snd.snd.snd.snd.snd.snd.snd.1), ((v.snd.fst.snd.snd.snd.snd.snd.snd.snd.snd.1), ()))))))))), ()))
                  else
                    none
                else
                  none
              else
                none
            else
              f (((v.fst.1), ((v.fst.snd.1), ((), ((v0), ())))), (((v.snd.fst.1), ((v.snd.fst.snd.1), ((v.snd.fst.snd.snd.1), ((v.snd.fst.snd.snd.snd.1), ((v.snd.fst.snd.snd.snd.snd.1), ((v.snd.fst.snd.snd.snd.snd.snd.1), ((v.snd.fst.snd.snd.snd.snd.snd.snd.1), ((v.snd.fst.snd.snd.snd.snd.snd.snd.snd.1), ((v.snd.fst.snd.snd.snd.snd.snd.snd.snd.snd.1), ()))))))))), ()))
          else
            f (((v.fst.1), ((v.fst.snd.1), ((), ((v0), ())))), (((v.snd.fst.1), ((v.snd.fst.snd.1), ((v.snd.fst.snd.snd.1), ((v.snd.fst.snd.snd.snd.1), ((v.snd.fst.snd.snd.snd.snd.1), ((v.snd.fst.snd.snd.snd.snd.snd.1), ((v.snd.fst.snd.snd.snd.snd.snd.snd.1), ((v.snd.fst.snd.snd.snd.snd.snd.snd.snd.1), ((v.snd.fst.snd.snd.snd.snd.snd.snd.snd.snd.1), ()))))))))), ()))
        else
          none
      else
        none
    else
      none
  else
    some (Sum.inl ((), ()))
theorem evl83_2 (k76 : Den A76 → Bool) (g76 : Den A76 → Den R76) (k77 : Den A77 → Bool) (g77 : Den A77 → Den R77) (kl2 : V83_2 → Bool) (xl2 : V83_2 → X83_2) (tl2 : V83_2 → Bool) (yl2 : V83_2 → Y83_2) (f : V83_2 → Option (X83_2 ⊕ Y83_2)) (v : V83_2) : EBk (Γ83 k76 g76 k77 g77 kl2 xl2 tl2 yl2) lc83_2 (roundK [1, 2, 3, 7] [] 0 [] [] (atS sh83_2 f) (endS shX83_2 shY83_2)) (mkS sh83_2 v) = q83_2 k76 g76 k77 g77 f v := by kernel_rfl
def b83_2 (v : V83_2) : Nat := v.1.1.length + v.1.2.1.natAbs + v.1.2.2.2.1.natAbs + v.2.1.1.natAbs + v.2.1.2.1.natAbs + v.2.1.2.2.1.natAbs + v.2.1.2.2.2.1.natAbs + v.2.1.2.2.2.2.1.length + v.2.1.2.2.2.2.2.1.natAbs + v.2.1.2.2.2.2.2.2.1.natAbs + v.2.1.2.2.2.2.2.2.2.1.natAbs + v.2.1.2.2.2.2.2.2.2.2.1.natAbs + 1000
def l83_2 (v : V83_2) : Option (X83_2 ⊕ Y83_2) := iter (q83_2 K76 G76 K77 G77) (b83_2 v) v
def kL83_2 (v : V83_2) : Bool := (l83_2 v).isSome
def tL83_2 (v : V83_2) : Bool := isR (l83_2 v)
def xL83_2 (v : V83_2) : X83_2 := xOf ((), ()) (l83_2 v)
def yL83_2 (v : V83_2) : Y83_2 := yOf ((0, ()), ()) (l83_2 v)
def r83 (k76 : Den A76 → Bool) (g76 : Den A76 → Den R76) (k77 : Den A77 → Bool) (g77 : Den A77 → Den R77) (kl2 : V83_2 → Bool) (xl2 : V83_2 → X83_2) (tl2 : V83_2 → Bool) (yl2 : V83_2 → Y83_2) (x : Den A83) : Option (Den R83) :=
  let v0 := (kl2 ((x.snd.fst, x.snd.snd.fst, (), 0, ()), (x.fst.fst.fst.fst, x.fst.fst.fst.snd.fst, x.fst.fst.snd.fst.fst, x.fst.fst.snd.fst.snd.fst, x.fst.snd.fst, x.fst.snd.snd.fst.fst.fst, x.fst.snd.snd.fst.fst.snd.fst, x.fst.snd.snd.fst.snd.fst), ()))
  bif (v0) then
    let v1 := (tl2 ((x.snd.fst, x.snd.snd.fst, (), 0, ()), (x.fst.fst.fst.fst, x.fst.fst.fst.snd.fst, x.fst.fst.snd.fst.fst, x.fst.fst.snd.fst.snd.fst, x.fst.snd.fst, x.fst.snd.snd.fst.fst.fst, x.fst.snd.snd.fst.fst.snd.fst, x.fst.snd.snd.fst.snd.fst), ()))
    bif (v1) then
      let v2 := (yl2 ((x.snd.fst, x.snd.snd.fst, (), 0, ()), (x.fst.fst.fst.fst, x.fst.fst.fst.snd.fst, x.fst.fst.snd.fst.fst, x.fst.fst.snd.fst.snd.fst, x.fst.snd.fst, x.fst.snd.snd.fst.fst.fst, x.fst.snd.snd.fst.fst.snd.fst, x.fst.snd.snd.fst.snd.fst), ()))
      some ((v2.fst.1), ())
    else
      some ((-1), ())
  else
    none
theorem ev83 (k76 : Den A76 → Bool) (g76 : Den A76 → Den R76) (k77 : Den A77 → Bool) (g77 : Den A77 → Den R77) (kl2 : V83_2 → Bool) (xl2 : V83_2 → X83_2) (tl2 : V83_2 → Bool) (yl2 : V83_2 → Y83_2) (x : Den A83) : callK (Γ83 k76 g76 k77 g77 kl2 xl2 tl2 yl2) (bodyOf Try.f83) (decR R83) (encA A83 x) [] = r83 k76 g76 k77 g77 kl2 xl2 tl2 yl2 x := by kernel_rfl
def F83 (x : Den A83) : Option (Den R83) := r83 K76 G76 K77 G77 kL83_2 xL83_2 tL83_2 yL83_2 x
def K83 (x : Den A83) : Bool := (F83 x).isSome
def G83 (x : Den A83) : Den R83 := (F83 x).getD (zero R83)
theorem env83 : EnvOK Try.prog (Γ83 K76 G76 K77 G77 kL83_2 xL83_2 tL83_2 yL83_2) := env_ok mixed tab_ok eqs_ok (.cons sem76 (.cons sem77 .nil))
theorem is83 : FnIs Try.prog 83 (Γ83 K76 G76 K77 G77 kL83_2 xL83_2 tL83_2 yL83_2) (bodyOf Try.f83) := fnIs Try.func83 rfl rfl rfl (by kernel_rfl) (loops_ok (l := [lc83_2]) (by kernel_rfl) (.cons (one_loop rfl (loopR_sound (sh := sh83_2) (shX := shX83_2) (shR := shY83_2) (fun f v => evl83_2 K76 G76 K77 G77 kL83_2 xL83_2 tL83_2 yL83_2 f v) b83_2 ((), ()) ((0, ()), ()))) (.nil)))
theorem sem83 : SemOK Try.prog (83, fnMean A83 R83 K83 G83) := fn_opt env83 is83 fun x => ev83 K76 G76 K77 G77 kL83_2 xL83_2 tL83_2 yL83_2 x

/- "loop.example/g03321/spec.RaceTime" -/
abbrev A44 : Ty := .cons (S45) (.cons (.slice (S95)) (.cons (.int .i64) (.nil)))
abbrev R44 : Ty := .cons (.int .i64) (.cons (.bool) (.nil))
noncomputable def Γ44 (k21 : Den A21 → Bool) (g21 : Den A21 → Den R21) (k75 : Den A75 → Bool) (g75 : Den A75 → Den R75) (k55 : Den A55 → Bool) (g55 : Den A55 → Den R55) (k83 : Den A83 → Bool) (g83 : Den A83 → Den R83) (k42 : Den A42 → Bool) (g42 : Den A42 → Den R42) : Env := mkEnv tab eqs [(21, fnMean A21 R21 k21 g21), (75, fnMean A75 R75 k75 g75), (55, fnMean A55 R55 k55 g55), (83, fnMean A83 R83 k83 g83), (42, fnMean A42 R42 k42 g42)] 42 [.tmp 6, .tmp 7] [] [] [] [] []
def r44 (k21 : Den A21 → Bool) (g21 : Den A21 → Den R21) (k75 : Den A75 → Bool) (g75 : Den A75 → Den R75) (k55 : Den A55 → Bool) (g55 : Den A55 → Den R55) (k83 : Den A83 → Bool) (g83 : Den A83 → Den R83) (k42 : Den A42 → Bool) (g42 : Den A42 → Den R42) (x : Den A44) : Option (Den R44) :=
  let v0 := (k21 (x.fst, ()))
  bif (v0) then
    let v1 := (g21 (x.fst, ()))
    bif (!v1.fst) then
      some ((0), ((false), ()))
    else
      let v2 := (k75 (x.snd.fst, ()))
      bif (v2) then
        let v3 := (g75 (x.snd.fst, ()))
        bif (!v3.fst) then
          some ((0), ((false), ()))
        else
          let v4 := (k55 (x.snd.snd.fst, 0, 10000000, ()))
          bif (v4) then
            let v5 := (g55 (x.snd.snd.fst, 0, 10000000, ()))
            bif (!v5.fst) then
              some ((0), ((false), ()))
            else
              let v6 := (k83 x)
              bif (v6) then
                let v7 := (g83 x)
                bif (decide (v7.fst < 0)) then
                  some ((0), ((false), ()))
                else
                  let v8 := (k42 (x.fst, x.snd.fst, v7))
                  bif (v8) then
                    let v9 := (g42 (x.fst, x.snd.fst, v7))
                    bif (!v9.snd.fst) then
                      some ((0), ((false), ()))
                    else
                      let v10 := (IntKind.wrap IntKind.i64 (v9.fst - x.snd.snd.fst))
                      some ((v10), ((true), ()))
                  else
                    none
              else
                none
          else
            none
      else
        none
  else
    none
theorem ev44 (k21 : Den A21 → Bool) (g21 : Den A21 → Den R21) (k75 : Den A75 → Bool) (g75 : Den A75 → Den R75) (k55 : Den A55 → Bool) (g55 : Den A55 → Den R55) (k83 : Den A83 → Bool) (g83 : Den A83 → Den R83) (k42 : Den A42 → Bool) (g42 : Den A42 → Den R42) (x : Den A44) : callK (Γ44 k21 g21 k75 g75 k55 g55 k83 g83 k42 g42) (bodyOf Try.f44) (decR R44) (encA A44 x) [] = r44 k21 g21 k75 g75 k55 g55 k83 g83 k42 g42 x := by kernel_rfl
def F44 (x : Den A44) : Option (Den R44) := r44 K21 G21 K75 G75 K55 G55 K83 G83 K42 G42 x
def K44 (x : Den A44) : Bool := (F44 x).isSome
def G44 (x : Den A44) : Den R44 := (F44 x).getD (zero R44)
theorem env44 : EnvOK Try.prog (Γ44 K21 G21 K75 G75 K55 G55 K83 G83 K42 G42) := env_ok mixed tab_ok eqs_ok (.cons sem21 (.cons sem75 (.cons sem55 (.cons sem83 (.cons sem42 .nil)))))
theorem is44 : FnIs Try.prog 44 (Γ44 K21 G21 K75 G75 K55 G55 K83 G83 K42 G42) (bodyOf Try.f44) := fnIs Try.func44 rfl rfl rfl (by kernel_rfl) (noLoops (by kernel_rfl))
theorem sem44 : SemOK Try.prog (44, fnMean A44 R44 K44 G44) := fn_opt env44 is44 fun x => ev44 K21 G21 K75 G75 K55 G55 K83 G83 K42 G42 x

/- "loop.example/g03321/impl.crossed" -/
abbrev A74 : Ty := .cons (S42) (.cons (.slice (S95)) (.cons (.int .i64) (.cons (.int .i64) (.nil))))
abbrev R74 : Ty := .cons (.int .i64) (.cons (.int .i64) (.nil))
abbrev V74_2 : Type := (((List (Den (S95))) × (Int × (Unit × (Int × Unit)))) × ((Int × (Int × (Int × (Int × Unit)))) × Unit))
def sh74_2 : ShS := ⟨[(1, .one (.sl (S95))), (3, .one (.int .i64)), (4, .one (.ptr 0 0)), (10, .one (.int .i64))], [(0, .box [.int .i64, .int .i64, .int .i64, .int .i64])], 1, 0⟩
abbrev X74_2 : Type := (Unit × Unit)
def shX74_2 : ShS := ⟨[], [], 0, 0⟩
abbrev Y74_2 : Type := ((Int × (Int × Unit)) × Unit)
def shY74_2 : ShS := ⟨[(8, .one (.int .i64)), (9, .one (.int .i64))], [], 0, 0⟩
noncomputable def Γ74 (k81 : Den A81 → Bool) (g81 : Den A81 → Den R81) (k82 : Den A82 → Bool) (g82 : Den A82 → Den R82) (kl2 : V74_2 → Bool) (xl2 : V74_2 → X74_2) (tl2 : V74_2 → Bool) (yl2 : V74_2 → Y74_2) : Env := mkEnv tab eqs [(81, fnMean A81 R81 k81 g81), (82, fnMean A82 R82 k82 g82)] 57 [.tmp 8, .tmp 9] [] [] [(2, loopR [1, 3, 4, 10] [] 0 [] [] sh74_2 shX74_2 shY74_2 kl2 tl2 xl2 yl2)] [] []
noncomputable def lc74_2 : Code := (loopsOf (bodyOf Try.f74)).getD 0 .skip
def q74_2 (k81 : Den A81 → Bool) (g81 : Den A81 → Den R81) (k82 : Den A82 → Bool) (g82 : Den A82 → Den R82) (f : V74_2 → Option (X74_2 ⊕ Y74_2)) (v : V74_2) : Option (X74_2 ⊕ Y74_2) :=
  let v0 := (IntKind.wrap IntKind.i64 (v.fst.snd.snd.snd.fst + 1))
  bif (decide (v0 < (↑(List.length v.fst.fst) : Int))) then
    bif (decide (0 ≤ v.fst.snd.snd.snd.fst) && decide (v.fst.snd.snd.snd.fst < (↑(List.length v.fst.fst) : Int))) then
      bif (decide (0 ≤ v0) && decide (v0 < (↑(List.length v.fst.fst) : Int))) then
        let v1 := (List.getD v.fst.fst (Int.toNat v.fst.snd.snd.snd.fst) (zero S95))
        let v2 := (List.getD v.fst.fst (Int.toNat v0) (zero S95))
        let v3 := (k81 (((v.snd.fst.fst, v.snd.fst.snd.fst, ()), v.snd.fst.snd.snd, ()), v1.fst, v2.fst, ()))
        bif (v3) then
          let v4 := (g81 (((v.snd.fst.fst, v.snd.fst.snd.fst, ()), v.snd.fst.snd.snd, ()), v1.fst, v2.fst, ()))
          bif (v4.fst != 1) then
            f (((v.fst.1), ((v.fst.snd.1), ((), ((v0), ())))), (((v.snd.fst.1), ((v.snd.fst.snd.1), ((v.snd.fst.snd.snd.1), ((v.snd.fst.snd.snd.snd.1), ())))), ()))
          else
            bif (decide (0 ≤ v.fst.snd.snd.snd.fst) && decide (v.fst.snd.snd.snd.fst < (↑(List.length v.fst.fst) : Int))) then
              bif (decide (0 ≤ v0) && decide (v0 < (↑(List.length v.fst.fst) : Int))) then
                let v5 := (k82 (((v.snd.fst.fst, v.snd.fst.snd.fst, ()), v.snd.fst.snd.snd, ()), v1, v2, ()))
                bif (v5) then
                  let v6 := (g82 (((v.snd.fst.fst, v.snd.fst.snd.fst, ()), v.snd.fst.snd.snd, ()), v1, v2, ()))
                  bif (v6.snd.1) then
                    bif (decide (v6.fst ≥ v.fst.snd.fst)) then
                      some (Sum.inr (((v.fst.snd.snd.snd.1), ((v6.1), ())), ()))
                    else
                      f (((v.fst.1), ((v.fst.snd.1), ((), ((v0), ())))), (((v.snd.fst.1), ((v.snd.fst.snd.1), ((v.snd.fst.snd.snd.1), ((v.snd.fst.snd.snd.snd.1), ())))), ()))
                  else
                    f (((v.fst.1), ((v.fst.snd.1), ((), ((v0), ())))), (((v.snd.fst.1), ((v.snd.fst.snd.1), ((v.snd.fst.snd.snd.1), ((v.snd.fst.snd.snd.snd.1), ())))), ()))
                else
                  none
              else
                none
            else
              none
        else
          none
      else
        none
    else
      none
  else
    some (Sum.inl ((), ()))
theorem evl74_2 (k81 : Den A81 → Bool) (g81 : Den A81 → Den R81) (k82 : Den A82 → Bool) (g82 : Den A82 → Den R82) (kl2 : V74_2 → Bool) (xl2 : V74_2 → X74_2) (tl2 : V74_2 → Bool) (yl2 : V74_2 → Y74_2) (f : V74_2 → Option (X74_2 ⊕ Y74_2)) (v : V74_2) : EBk (Γ74 k81 g81 k82 g82 kl2 xl2 tl2 yl2) lc74_2 (roundK [1, 3, 4, 10] [] 0 [] [] (atS sh74_2 f) (endS shX74_2 shY74_2)) (mkS sh74_2 v) = q74_2 k81 g81 k82 g82 f v := by kernel_rfl
def b74_2 (v : V74_2) : Nat := v.1.1.length + v.1.2.1.natAbs + v.1.2.2.2.1.natAbs + v.2.1.1.natAbs + v.2.1.2.1.natAbs + v.2.1.2.2.1.natAbs + v.2.1.2.2.2.1.natAbs + 1000
def l74_2 (v : V74_2) : Option (X74_2 ⊕ Y74_2) := iter (q74_2 K81 G81 K82 G82) (b74_2 v) v
def kL74_2 (v : V74_2) : Bool := (l74_2 v).isSome
def tL74_2 (v : V74_2) : Bool := isR (l74_2 v)
def xL74_2 (v : V74_2) : X74_2 := xOf ((), ()) (l74_2 v)
def yL74_2 (v : V74_2) : Y74_2 := yOf ((0, (0, ())), ()) (l74_2 v)
def r74 (k81 : Den A81 → Bool) (g81 : Den A81 → Den R81) (k82 : Den A82 → Bool) (g82 : Den A82 → Den R82) (kl2 : V74_2 → Bool) (xl2 : V74_2 → X74_2) (tl2 : V74_2 → Bool) (yl2 : V74_2 → Y74_2) (x : Den A74) : Option (Den R74) :=
  let v0 := (kl2 ((x.snd.fst, x.snd.snd.snd.fst, (), x.snd.snd.fst, ()), (x.fst.fst.fst, x.fst.fst.snd.fst, x.fst.snd.fst), ()))
  bif (v0) then
    let v1 := (tl2 ((x.snd.fst, x.snd.snd.snd.fst, (), x.snd.snd.fst, ()), (x.fst.fst.fst, x.fst.fst.snd.fst, x.fst.snd.fst), ()))
    bif (v1) then
      let v2 := (yl2 ((x.snd.fst, x.snd.snd.snd.fst, (), x.snd.snd.fst, ()), (x.fst.fst.fst, x.fst.fst.snd.fst, x.fst.snd.fst), ()))
      some ((v2.fst.1), ((v2.fst.snd.1), ()))
    else
      some ((-1), ((0), ()))
  else
    none
theorem ev74 (k81 : Den A81 → Bool) (g81 : Den A81 → Den R81) (k82 : Den A82 → Bool) (g82 : Den A82 → Den R82) (kl2 : V74_2 → Bool) (xl2 : V74_2 → X74_2) (tl2 : V74_2 → Bool) (yl2 : V74_2 → Y74_2) (x : Den A74) : callK (Γ74 k81 g81 k82 g82 kl2 xl2 tl2 yl2) (bodyOf Try.f74) (decR R74) (encA A74 x) [] = r74 k81 g81 k82 g82 kl2 xl2 tl2 yl2 x := by kernel_rfl
def F74 (x : Den A74) : Option (Den R74) := r74 K81 G81 K82 G82 kL74_2 xL74_2 tL74_2 yL74_2 x
def K74 (x : Den A74) : Bool := (F74 x).isSome
def G74 (x : Den A74) : Den R74 := (F74 x).getD (zero R74)
theorem env74 : EnvOK Try.prog (Γ74 K81 G81 K82 G82 kL74_2 xL74_2 tL74_2 yL74_2) := env_ok mixed tab_ok eqs_ok (.cons sem81 (.cons sem82 .nil))
theorem is74 : FnIs Try.prog 74 (Γ74 K81 G81 K82 G82 kL74_2 xL74_2 tL74_2 yL74_2) (bodyOf Try.f74) := fnIs Try.func74 rfl rfl rfl (by kernel_rfl) (loops_ok (l := [lc74_2]) (by kernel_rfl) (.cons (one_loop rfl (loopR_sound (sh := sh74_2) (shX := shX74_2) (shR := shY74_2) (fun f v => evl74_2 K81 G81 K82 G82 kL74_2 xL74_2 tL74_2 yL74_2 f v) b74_2 ((), ()) ((0, (0, ())), ()))) (.nil)))
theorem sem74 : SemOK Try.prog (74, fnMean A74 R74 K74 G74) := fn_opt env74 is74 fun x => ev74 K81 G81 K82 G82 kL74_2 xL74_2 tL74_2 yL74_2 x

/- "loop.example/g03321/impl.RaceTime" -/
abbrev A45 : Ty := .cons (S45) (.cons (.slice (S95)) (.cons (.int .i64) (.nil)))
abbrev R45 : Ty := .cons (.int .i64) (.cons (.bool) (.nil))
noncomputable def Γ45 (k23 : Den A23 → Bool) (g23 : Den A23 → Den R23) (k70 : Den A70 → Bool) (g70 : Den A70 → Den R70) (k84 : Den A84 → Bool) (g84 : Den A84 → Den R84) (k74 : Den A74 → Bool) (g74 : Den A74 → Den R74) (k43 : Den A43 → Bool) (g43 : Den A43 → Den R43) : Env := mkEnv tab eqs [(23, fnMean A23 R23 k23 g23), (70, fnMean A70 R70 k70 g70), (84, fnMean A84 R84 k84 g84), (74, fnMean A74 R74 k74 g74), (43, fnMean A43 R43 k43 g43)] 48 [.tmp 6, .tmp 7] [] [] [] [] []
def r45 (k23 : Den A23 → Bool) (g23 : Den A23 → Den R23) (k70 : Den A70 → Bool) (g70 : Den A70 → Den R70) (k84 : Den A84 → Bool) (g84 : Den A84 → Den R84) (k74 : Den A74 → Bool) (g74 : Den A74 → Den R74) (k43 : Den A43 → Bool) (g43 : Den A43 → Den R43) (x : Den A45) : Option (Den R45) :=
  let v0 := (k23 (x.fst, ()))
  bif (v0) then
    let v1 := (g23 (x.fst, ()))
    bif (!v1.fst) then
      some ((0), ((false), ()))
    else
      let v2 := (k70 (x.snd.fst, ()))
      bif (v2) then
        let v3 := (g70 (x.snd.fst, ()))
        bif (!v3.fst) then
          some ((0), ((false), ()))
        else
          let v4 := (k84 x.snd.snd)
          bif (v4) then
            let v5 := (g84 x.snd.snd)
            bif (!v5.fst) then
              some ((0), ((false), ()))
            else
              let v6 := (k74 (x.fst.fst, x.snd.fst, 0, x.snd.snd))
              bif (v6) then
                let v7 := (g74 (x.fst.fst, x.snd.fst, 0, x.snd.snd))
                bif (decide (v7.fst < 0)) then
                  some ((0), ((false), ()))
                else
                  let v8 := (IntKind.wrap IntKind.i64 (v7.fst + 1))
                  let v9 := (k43 (x.fst, x.snd.fst, v8, ()))
                  bif (v9) then
                    let v10 := (g43 (x.fst, x.snd.fst, v8, ()))
                    bif (!v10.snd.fst) then
                      some ((0), ((false), ()))
                    else
                      let v11 := (IntKind.wrap IntKind.i64 (v10.fst - x.snd.snd.fst))
                      some ((v11), ((true), ()))
                  else
                    none
              else
                none
          else
            none
      else
        none
  else
    none
theorem ev45 (k23 : Den A23 → Bool) (g23 : Den A23 → Den R23) (k70 : Den A70 → Bool) (g70 : Den A70 → Den R70) (k84 : Den A84 → Bool) (g84 : Den A84 → Den R84) (k74 : Den A74 → Bool) (g74 : Den A74 → Den R74) (k43 : Den A43 → Bool) (g43 : Den A43 → Den R43) (x : Den A45) : callK (Γ45 k23 g23 k70 g70 k84 g84 k74 g74 k43 g43) (bodyOf Try.f45) (decR R45) (encA A45 x) [] = r45 k23 g23 k70 g70 k84 g84 k74 g74 k43 g43 x := by kernel_rfl
def F45 (x : Den A45) : Option (Den R45) := r45 K23 G23 K70 G70 K84 G84 K74 G74 K43 G43 x
def K45 (x : Den A45) : Bool := (F45 x).isSome
def G45 (x : Den A45) : Den R45 := (F45 x).getD (zero R45)
theorem env45 : EnvOK Try.prog (Γ45 K23 G23 K70 G70 K84 G84 K74 G74 K43 G43) := env_ok mixed tab_ok eqs_ok (.cons sem23 (.cons sem70 (.cons sem84 (.cons sem74 (.cons sem43 .nil)))))
theorem is45 : FnIs Try.prog 45 (Γ45 K23 G23 K70 G70 K84 G84 K74 G74 K43 G43) (bodyOf Try.f45) := fnIs Try.func45 rfl rfl rfl (by kernel_rfl) (noLoops (by kernel_rfl))
theorem sem45 : SemOK Try.prog (45, fnMean A45 R45 K45 G45) := fn_opt env45 is45 fun x => ev45 K23 G23 K70 G70 K84 G84 K74 G74 K43 G43 x

/- "loop.example/g03321/laws.FnExactRaceTime" -/
abbrev A12 : Ty := .cons (S38) (.cons (.slice (S104)) (.cons (.int .i64) (.nil)))
abbrev R12 : Ty := .cons (.bool) (.nil)
noncomputable def Γ12 (k20 : Den A20 → Bool) (g20 : Den A20 → Den R20) (k32 : Den A32 → Bool) (g32 : Den A32 → Den R32) (k22 : I22.den → Bool) (g22 : I22.den → O22.den) (k34 : I34.den → Bool) (g34 : I34.den → O34.den) (k44 : Den A44 → Bool) (g44 : Den A44 → Den R44) (k45 : Den A45 → Bool) (g45 : Den A45 → Den R45) (k24 : Den A24 → Bool) (g24 : Den A24 → Den R24) (k35 : Den A35 → Bool) (g35 : Den A35 → Den R35) : Env := mkEnv tab eqs [(20, fnMean A20 R20 k20 g20), (32, fnMean A32 R32 k32 g32), (22, sgMean false I22 O22 k22 g22), (34, sgMean false I34 O34 k34 g34), (44, fnMean A44 R44 k44 g44), (45, fnMean A45 R45 k45 g45), (24, fnMean A24 R24 k24 g24), (35, fnMean A35 R35 k35 g35)] 62 [.tmp 6] [] [] [] [] []
def r12 (k20 : Den A20 → Bool) (g20 : Den A20 → Den R20) (k32 : Den A32 → Bool) (g32 : Den A32 → Den R32) (k22 : I22.den → Bool) (g22 : I22.den → O22.den) (k34 : I34.den → Bool) (g34 : I34.den → O34.den) (k44 : Den A44 → Bool) (g44 : Den A44 → Den R44) (k45 : Den A45 → Bool) (g45 : Den A45 → Den R45) (k24 : Den A24 → Bool) (g24 : Den A24 → Den R24) (k35 : Den A35 → Bool) (g35 : Den A35 → Den R35) (x : Den A12) : Option (Den R12) :=
  let v0 := (k20 (x.fst, 1048576, ()))
  bif (v0) then
    let v1 := (g20 (x.fst, 1048576, ()))
    bif (decide (v1.fst < 0)) then
      some ((true), ())
    else
      let v2 := (k32 (x.snd.fst, v1))
      bif (v2) then
        let v3 := (g32 (x.snd.fst, v1))
        bif (decide (v3.fst < 0)) then
          some ((true), ())
        else
          let v4 := (k22 ((x.fst, ()), ()))
          bif (v4) then
            let v5 := (k34 ((x.snd.fst, ()), ()))
            bif (v5) then
              let v6 := (g22 ((x.fst, ()), ()))
              let v7 := (g34 ((x.snd.fst, ()), ()))
              let v8 := (k44 ((((v6.fst.fst.fst, v6.fst.fst.snd.fst, ()), (v6.fst.fst.snd.snd.fst, v6.fst.fst.snd.snd.snd.fst, ()), ()), v6.snd.fst, ((v6.fst.fst.snd.snd.snd.snd.snd.fst, v6.fst.fst.snd.snd.snd.snd.snd.snd.fst, ()), v6.fst.fst.snd.snd.snd.snd.snd.snd.snd, ()), ()), v7.snd.fst, x.snd.snd))
              bif (v8) then
                bif (v4) then
                  bif (v5) then
                    let v9 := (k45 ((((v6.fst.fst.fst, v6.fst.fst.snd.fst, ()), (v6.fst.fst.snd.snd.fst, v6.fst.fst.snd.snd.snd.fst, ()), ()), v6.snd.fst, ((v6.fst.fst.snd.snd.snd.snd.snd.fst, v6.fst.fst.snd.snd.snd.snd.snd.snd.fst, ()), v6.fst.fst.snd.snd.snd.snd.snd.snd.snd, ()), ()), v7.snd.fst, x.snd.snd))
                    bif (v9) then
                      let v10 := (g45 ((((v6.fst.fst.fst, v6.fst.fst.snd.fst, ()), (v6.fst.fst.snd.snd.fst, v6.fst.fst.snd.snd.snd.fst, ()), ()), v6.snd.fst, ((v6.fst.fst.snd.snd.snd.snd.snd.fst, v6.fst.fst.snd.snd.snd.snd.snd.snd.fst, ()), v6.fst.fst.snd.snd.snd.snd.snd.snd.snd, ()), ()), v7.snd.fst, x.snd.snd))
                      let v11 := (g44 ((((v6.fst.fst.fst, v6.fst.fst.snd.fst, ()), (v6.fst.fst.snd.snd.fst, v6.fst.fst.snd.snd.snd.fst, ()), ()), v6.snd.fst, ((v6.fst.fst.snd.snd.snd.snd.snd.fst, v6.fst.fst.snd.snd.snd.snd.snd.snd.fst, ()), v6.fst.fst.snd.snd.snd.snd.snd.snd.snd, ()), ()), v7.snd.fst, x.snd.snd))
                      bif (v10.fst != v11.fst) then
                        some ((false), ())
                      else
                        bif (!v10.snd.fst == v11.snd.fst) then
                          some ((false), ())
                        else
                          bif (v4) then
                            let v12 := (k24 ((((v6.fst.fst.fst, v6.fst.fst.snd.fst, ()), (v6.fst.fst.snd.snd.fst, v6.fst.fst.snd.snd.snd.fst, ()), ()), v6.snd.fst, ((v6.fst.fst.snd.snd.snd.snd.snd.fst, v6.fst.fst.snd.snd.snd.snd.snd.snd.fst, ()), v6.fst.fst.snd.snd.snd.snd.snd.snd.snd, ()), ()), (((v6.fst.fst.fst, v6.fst.fst.snd.fst, ()), (v6.fst.fst.snd.snd.fst, v6.fst.fst.snd.snd.snd.fst, ()), ()), v6.snd.fst, ((v6.fst.fst.snd.snd.snd.snd.snd.fst, v6.fst.fst.snd.snd.snd.snd.snd.snd.fst, ()), v6.fst.fst.snd.snd.snd.snd.snd.snd.snd, ()), ()), ()))
                            bif (v12) then
                              let v13 := (g24 ((((v6.fst.fst.fst, v6.fst.fst.snd.fst, ()), (v6.fst.fst.snd.snd.fst, v6.fst.fst.snd.snd.snd.fst, ()), ()), v6.snd.fst, ((v6.fst.fst.snd.snd.snd.snd.snd.fst, v6.fst.fst.snd.snd.snd.snd.snd.snd.fst, ()), v6.fst.fst.snd.snd.snd.snd.snd.snd.snd, ()), ()), (((v6.fst.fst.fst, v6.fst.fst.snd.fst, ()), (v6.fst.fst.snd.snd.fst, v6.fst.fst.snd.snd.snd.fst, ()), ()), v6.snd.fst, ((v6.fst.fst.snd.snd.snd.snd.snd.fst, v6.fst.fst.snd.snd.snd.snd.snd.snd.fst, ()), v6.fst.fst.snd.snd.snd.snd.snd.snd.snd, ()), ()), ()))
                              bif (!v13.fst) then
                                some ((false), ())
                              else
                                bif (v5) then
                                  let v14 := (k35 (v7.snd.fst, v7.snd))
                                  bif (v14) then
                                    let v15 := (g35 (v7.snd.fst, v7.snd))
                                    bif (!v15.fst) then
                                      some ((false), ())
                                    else
                                      some ((true), ())
                                  else
                                    none
                                else
                                  none
                            else
                              none
                          else
                            none
                    else
                      none
                  else
                    none
                else
                  none
              else
                none
            else
              none
          else
            none
      else
        none
  else
    none
theorem ev12 (k20 : Den A20 → Bool) (g20 : Den A20 → Den R20) (k32 : Den A32 → Bool) (g32 : Den A32 → Den R32) (k22 : I22.den → Bool) (g22 : I22.den → O22.den) (k34 : I34.den → Bool) (g34 : I34.den → O34.den) (k44 : Den A44 → Bool) (g44 : Den A44 → Den R44) (k45 : Den A45 → Bool) (g45 : Den A45 → Den R45) (k24 : Den A24 → Bool) (g24 : Den A24 → Den R24) (k35 : Den A35 → Bool) (g35 : Den A35 → Den R35) (x : Den A12) : callK (Γ12 k20 g20 k32 g32 k22 g22 k34 g34 k44 g44 k45 g45 k24 g24 k35 g35) (bodyOf Try.f12) (decR R12) (encA A12 x) [] = r12 k20 g20 k32 g32 k22 g22 k34 g34 k44 g44 k45 g45 k24 g24 k35 g35 x := by kernel_rfl
def F12 (x : Den A12) : Option (Den R12) := r12 K20 G20 K32 G32 K22 G22 K34 G34 K44 G44 K45 G45 K24 G24 K35 G35 x
def K12 (x : Den A12) : Bool := (F12 x).isSome
def G12 (x : Den A12) : Den R12 := (F12 x).getD (zero R12)
theorem env12 : EnvOK Try.prog (Γ12 K20 G20 K32 G32 K22 G22 K34 G34 K44 G44 K45 G45 K24 G24 K35 G35) := env_ok mixed tab_ok eqs_ok (.cons sem20 (.cons sem32 (.cons sem22 (.cons sem34 (.cons sem44 (.cons sem45 (.cons sem24 (.cons sem35 .nil))))))))
theorem is12 : FnIs Try.prog 12 (Γ12 K20 G20 K32 G32 K22 G22 K34 G34 K44 G44 K45 G45 K24 G24 K35 G35) (bodyOf Try.f12) := fnIs Try.func12 rfl rfl rfl (by kernel_rfl) (noLoops (by kernel_rfl))
theorem sem12 : SemOK Try.prog (12, fnMean A12 R12 K12 G12) := fn_opt env12 is12 fun x => ev12 K20 G20 K32 G32 K22 G22 K34 G34 K44 G44 K45 G45 K24 G24 K35 G35 x

end Go.Proofs.Ytibbdoohekjmaaa.AM
