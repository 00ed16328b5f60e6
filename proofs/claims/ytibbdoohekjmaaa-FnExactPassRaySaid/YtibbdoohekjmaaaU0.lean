/- What functions of the program make of their arguments; each is what its evaluation says. Printed by fx.py. -/
import Derived.Test.YtibbdoohekjmaaaT0
namespace Go.Proofs.Ytibbdoohekjmaaa.AM
open Go Go.Proofs
set_option linter.unusedVariables false
set_option maxRecDepth 100000

/- "loop.example/g03321/spec.l09Cross" -/
abbrev A46 : Ty := .cons (.cons (.int .i64) (.cons (.int .i64) (.nil))) (.cons (.cons (.int .i64) (.cons (.int .i64) (.nil))) (.cons (.cons (.int .i64) (.cons (.int .i64) (.nil))) (.cons (.cons (.int .i64) (.cons (.int .i64) (.nil))) (.nil))))
abbrev R46 : Ty := .cons (.int .i64) (.nil)
noncomputable def Γ46 : Env := mkEnv tab eqs [] 32 [.tmp 8] [] [] [] []
def r46 (x : Den A46) : Option (Den R46) :=
  let v0 := (IntKind.i64.wrap (x.snd.fst.fst - x.fst.fst))
  let v1 := (IntKind.i64.wrap (x.snd.snd.snd.fst.snd.fst - x.snd.snd.fst.snd.fst))
  let v2 := (IntKind.i64.wrap (v0 * v1))
  let v3 := (IntKind.i64.wrap (x.snd.fst.snd.fst - x.fst.snd.fst))
  let v4 := (IntKind.i64.wrap (x.snd.snd.snd.fst.fst - x.snd.snd.fst.fst))
  let v5 := (IntKind.i64.wrap (v3 * v4))
  let v6 := (IntKind.i64.wrap (v2 - v5))
  some ((v6), ())
theorem ev46 (x : Den A46) : callK (Γ46) 0 (bodyOf Try.f46) (decR R46) (encA A46 x) [] = r46 x := by kernel_rfl
def F46 (x : Den A46) : Option (Den R46) := r46 x
def K46 (x : Den A46) : Bool := (F46 x).isSome
def G46 (x : Den A46) : Den R46 := (F46 x).getD (zero R46)
theorem env46 : EnvOK Try.prog (Γ46) := env_ok mixed tab_ok eqs_ok .nil
theorem is46 : FnIs Try.prog 46 (Γ46) (bodyOf Try.f46) := fnIs Try.func46 rfl rfl rfl (by kernel_rfl)
theorem sem46 : SemOK Try.prog (46, fnMean A46 R46 K46 G46) := fn_opt env46 is46 fun x => ev46 x

/- "loop.example/g03321/spec.l10Dot" -/
abbrev A47 : Ty := .cons (.cons (.int .i64) (.cons (.int .i64) (.nil))) (.cons (.cons (.int .i64) (.cons (.int .i64) (.nil))) (.cons (.cons (.int .i64) (.cons (.int .i64) (.nil))) (.cons (.cons (.int .i64) (.cons (.int .i64) (.nil))) (.nil))))
abbrev R47 : Ty := .cons (.int .i64) (.nil)
noncomputable def Γ47 : Env := mkEnv tab eqs [] 32 [.tmp 8] [] [] [] []
def r47 (x : Den A47) : Option (Den R47) :=
  let v0 := (IntKind.i64.wrap (x.snd.fst.fst - x.fst.fst))
  let v1 := (IntKind.i64.wrap (x.snd.snd.snd.fst.fst - x.snd.snd.fst.fst))
  let v2 := (IntKind.i64.wrap (v0 * v1))
  let v3 := (IntKind.i64.wrap (x.snd.fst.snd.fst - x.fst.snd.fst))
  let v4 := (IntKind.i64.wrap (x.snd.snd.snd.fst.snd.fst - x.snd.snd.fst.snd.fst))
  let v5 := (IntKind.i64.wrap (v3 * v4))
  let v6 := (IntKind.i64.wrap (v2 + v5))
  some ((v6), ())
theorem ev47 (x : Den A47) : callK (Γ47) 0 (bodyOf Try.f47) (decR R47) (encA A47 x) [] = r47 x := by kernel_rfl
def F47 (x : Den A47) : Option (Den R47) := r47 x
def K47 (x : Den A47) : Bool := (F47 x).isSome
def G47 (x : Den A47) : Den R47 := (F47 x).getD (zero R47)
theorem env47 : EnvOK Try.prog (Γ47) := env_ok mixed tab_ok eqs_ok .nil
theorem is47 : FnIs Try.prog 47 (Γ47) (bodyOf Try.f47) := fnIs Try.func47 rfl rfl rfl (by kernel_rfl)
theorem sem47 : SemOK Try.prog (47, fnMean A47 R47 K47 G47) := fn_opt env47 is47 fun x => ev47 x

/- "loop.example/g03321/spec.l01In" -/
abbrev A55 : Ty := .cons (.int .i64) (.cons (.int .i64) (.cons (.int .i64) (.nil)))
abbrev R55 : Ty := .cons (.bool) (.nil)
noncomputable def Γ55 : Env := mkEnv tab eqs [] 15 [.tmp 6] [] [] [] []
def r55 (x : Den A55) : Option (Den R55) :=
  bif (decide (x.fst ≥ x.snd.fst)) then
    some ((decide (x.fst ≤ x.snd.snd.fst)), ())
  else
    some ((false), ())
theorem ev55 (x : Den A55) : callK (Γ55) 0 (bodyOf Try.f55) (decR R55) (encA A55 x) [] = r55 x := by kernel_rfl
def F55 (x : Den A55) : Option (Den R55) := r55 x
def K55 (x : Den A55) : Bool := (F55 x).isSome
def G55 (x : Den A55) : Den R55 := (F55 x).getD (zero R55)
theorem env55 : EnvOK Try.prog (Γ55) := env_ok mixed tab_ok eqs_ok .nil
theorem is55 : FnIs Try.prog 55 (Γ55) (bodyOf Try.f55) := fnIs Try.func55 rfl rfl rfl (by kernel_rfl)
theorem sem55 : SemOK Try.prog (55, fnMean A55 R55 K55 G55) := fn_opt env55 is55 fun x => ev55 x

/- "loop.example/g03321/spec.PlaceOk" -/
abbrev A18 : Ty := .cons (.cons (.int .i64) (.cons (.int .i64) (.nil))) (.nil)
abbrev R18 : Ty := .cons (.bool) (.nil)
noncomputable def Γ18 (k55 : Den A55 → Bool) (g55 : Den A55 → Den R55) : Env := mkEnv tab eqs [(55, fnMean A55 R55 k55 g55)] 11 [.tmp 2] [] [] [] []
def r18 (k55 : Den A55 → Bool) (g55 : Den A55 → Den R55) (x : Den A18) : Option (Den R18) :=
  let v0 := (k55 (x.fst.fst, -10000, 10000, ()))
  bif (v0) then
    let v1 := (g55 (x.fst.fst, -10000, 10000, ()))
    bif (v1.1) then
      let v2 := (k55 (x.fst.snd.fst, -10000, 10000, ()))
      bif (v2) then
        let v3 := (g55 (x.fst.snd.fst, -10000, 10000, ()))
        some ((v3.1), ())
      else
        none
    else
      some ((false), ())
  else
    none
theorem ev18 (k55 : Den A55 → Bool) (g55 : Den A55 → Den R55) (x : Den A18) : callK (Γ18 k55 g55) 0 (bodyOf Try.f18) (decR R18) (encA A18 x) [] = r18 k55 g55 x := by kernel_rfl
def F18 (x : Den A18) : Option (Den R18) := r18 K55 G55 x
def K18 (x : Den A18) : Bool := (F18 x).isSome
def G18 (x : Den A18) : Den R18 := (F18 x).getD (zero R18)
theorem env18 : EnvOK Try.prog (Γ18 K55 G55) := env_ok mixed tab_ok eqs_ok (.cons sem55 .nil)
theorem is18 : FnIs Try.prog 18 (Γ18 K55 G55) (bodyOf Try.f18) := fnIs Try.func18 rfl rfl rfl (by kernel_rfl)
theorem sem18 : SemOK Try.prog (18, fnMean A18 R18 K18 G18) := fn_opt env18 is18 fun x => ev18 K55 G55 x

/- "loop.example/g03321/spec.PassRay" -/
abbrev A13 : Ty := .cons (.cons (.int .i64) (.cons (.int .i64) (.nil))) (.cons (.cons (.int .i64) (.cons (.int .i64) (.nil))) (.cons (.cons (.int .i64) (.cons (.int .i64) (.nil))) (.cons (.cons (.int .i64) (.cons (.int .i64) (.nil))) (.nil))))
abbrev R13 : Ty := .cons (.int .i64) (.nil)
noncomputable def Γ13 (k18 : Den A18 → Bool) (g18 : Den A18 → Den R18) (k46 : Den A46 → Bool) (g46 : Den A46 → Den R46) (k47 : Den A47 → Bool) (g47 : Den A47 → Den R47) : Env := mkEnv tab eqs [(18, fnMean A18 R18 k18 g18), (46, fnMean A46 R46 k46 g46), (47, fnMean A47 R47 k47 g47)] 92 [.tmp 8] [] [] [] []
def r13 (k18 : Den A18 → Bool) (g18 : Den A18 → Den R18) (k46 : Den A46 → Bool) (g46 : Den A46 → Den R46) (k47 : Den A47 → Bool) (g47 : Den A47 → Den R47) (x : Den A13) : Option (Den R13) :=
  let v0 := (k18 ((x.fst.fst, x.fst.snd.fst, ()), ()))
  bif (v0) then
    let v1 := (g18 ((x.fst.fst, x.fst.snd.fst, ()), ()))
    bif (!v1.fst) then
      some ((0), ())
    else
      let v2 := (k18 ((x.snd.fst.fst, x.snd.fst.snd.fst, ()), ()))
      bif (v2) then
        let v3 := (g18 ((x.snd.fst.fst, x.snd.fst.snd.fst, ()), ()))
        bif (!v3.fst) then
          some ((0), ())
        else
          let v4 := (k18 ((x.snd.snd.fst.fst, x.snd.snd.fst.snd.fst, ()), ()))
          bif (v4) then
            let v5 := (g18 ((x.snd.snd.fst.fst, x.snd.snd.fst.snd.fst, ()), ()))
            bif (!v5.fst) then
              some ((0), ())
            else
              let v6 := (k18 ((x.snd.snd.snd.fst.fst, x.snd.snd.snd.fst.snd.fst, ()), ()))
              bif (v6) then
                let v7 := (g18 ((x.snd.snd.snd.fst.fst, x.snd.snd.snd.fst.snd.fst, ()), ()))
                bif (!v7.fst) then
                  some ((0), ())
                else
                  bif (x.fst.fst == x.snd.fst.fst && x.fst.snd.fst == x.snd.fst.snd.fst) then
                    some ((0), ())
                  else
                    let v8 := (k46 ((x.fst.fst, x.fst.snd.fst, ()), (x.snd.fst.fst, x.snd.fst.snd.fst, ()), (x.snd.fst.fst, x.snd.fst.snd.fst, ()), (x.snd.snd.fst.fst, x.snd.snd.fst.snd.fst, ()), ()))
                    bif (v8) then
                      let v9 := (k46 ((x.fst.fst, x.fst.snd.fst, ()), (x.snd.fst.fst, x.snd.fst.snd.fst, ()), (x.snd.fst.fst, x.snd.fst.snd.fst, ()), (x.snd.snd.snd.fst.fst, x.snd.snd.snd.fst.snd.fst, ()), ()))
                      bif (v9) then
                        let v10 := (k47 ((x.fst.fst, x.fst.snd.fst, ()), (x.snd.fst.fst, x.snd.fst.snd.fst, ()), (x.snd.fst.fst, x.snd.fst.snd.fst, ()), (x.snd.snd.fst.fst, x.snd.snd.fst.snd.fst, ()), ()))
                        bif (v10) then
                          let v11 := (k47 ((x.fst.fst, x.fst.snd.fst, ()), (x.snd.fst.fst, x.snd.fst.snd.fst, ()), (x.snd.fst.fst, x.snd.fst.snd.fst, ()), (x.snd.snd.snd.fst.fst, x.snd.snd.snd.fst.snd.fst, ()), ()))
                          bif (v11) then
                            let v12 := (g47 ((x.fst.fst, x.fst.snd.fst, ()), (x.snd.fst.fst, x.snd.fst.snd.fst, ()), (x.snd.fst.fst, x.snd.fst.snd.fst, ()), (x.snd.snd.snd.fst.fst, x.snd.snd.snd.fst.snd.fst, ()), ()))
                            let v13 := (g46 ((x.fst.fst, x.fst.snd.fst, ()), (x.snd.fst.fst, x.snd.fst.snd.fst, ()), (x.snd.fst.fst, x.snd.fst.snd.fst, ()), (x.snd.snd.fst.fst, x.snd.snd.fst.snd.fst, ()), ()))
                            let v14 := (IntKind.i64.wrap (v12.fst * v13.fst))
                            let v15 := (g47 ((x.fst.fst, x.fst.snd.fst, ()), (x.snd.fst.fst, x.snd.fst.snd.fst, ()), (x.snd.fst.fst, x.snd.fst.snd.fst, ()), (x.snd.snd.fst.fst, x.snd.snd.fst.snd.fst, ()), ()))
                            let v16 := (g46 ((x.fst.fst, x.fst.snd.fst, ()), (x.snd.fst.fst, x.snd.fst.snd.fst, ()), (x.snd.fst.fst, x.snd.fst.snd.fst, ()), (x.snd.snd.snd.fst.fst, x.snd.snd.snd.fst.snd.fst, ()), ()))
                            let v17 := (IntKind.i64.wrap (v15.fst * v16.fst))
                            let v18 := (IntKind.i64.wrap (v14 - v17))
                            bif (decide (v18 < 0)) then
                              bif (decide (v13.fst > v16.fst)) then
                                some ((0), ())
                              else
                                bif (decide (v18 > 0)) then
                                  bif (decide (v13.fst < v16.fst)) then
                                    some ((0), ())
                                  else
                                    bif (decide (v13.fst > 0)) then
                                      bif (decide (v16.fst ≤ 0)) then
                                        some ((1), ())
                                      else
                                        bif (decide (v13.fst ≤ 0)) then
                                          bif (decide (v16.fst > 0)) then
                                            some ((-1), ())
                                          else
                                            some ((0), ())
                                        else
                                          some ((0), ())
                                    else
                                      bif (decide (v13.fst ≤ 0)) then
                                        bif (decide (v16.fst > 0)) then
                                          some ((-1), ())
                                        else
                                          some ((0), ())
                                      else
                                        some ((0), ())
                                else
                                  bif (decide (v13.fst > 0)) then
                                    bif (decide (v16.fst ≤ 0)) then
                                      some ((1), ())
                                    else
                                      bif (decide (v13.fst ≤ 0)) then
                                        bif (decide (v16.fst > 0)) then
                                          some ((-1), ())
                                        else
                                          some ((0), ())
                                      else
                                        some ((0), ())
                                  else
                                    bif (decide (v13.fst ≤ 0)) then
                                      bif (decide (v16.fst > 0)) then
                                        some ((-1), ())
                                      else
                                        some ((0), ())
                                    else
                                      some ((0), ())
                            else
                              bif (decide (v18 > 0)) then
                                bif (decide (v13.fst < v16.fst)) then
                                  some ((0), ())
                                else
                                  bif (decide (v13.fst > 0)) then
                                    bif (decide (v16.fst ≤ 0)) then
                                      some ((1), ())
                                    else
                                      bif (decide (v13.fst ≤ 0)) then
                                        bif (decide (v16.fst > 0)) then
                                          some ((-1), ())
                                        else
                                          some ((0), ())
                                      else
                                        some ((0), ())
                                  else
                                    bif (decide (v13.fst ≤ 0)) then
                                      bif (decide (v16.fst > 0)) then
                                        some ((-1), ())
                                      else
                                        some ((0), ())
                                    else
                                      some ((0), ())
                              else
                                bif (decide (v13.fst > 0)) then
                                  bif (decide (v16.fst ≤ 0)) then
                                    some ((1), ())
                                  else
                                    bif (decide (v13.fst ≤ 0)) then
                                      bif (decide (v16.fst > 0)) then
                                        some ((-1), ())
                                      else
                                        some ((0), ())
                                    else
                                      some ((0), ())
                                else
                                  bif (decide (v13.fst ≤ 0)) then
                                    bif (decide (v16.fst > 0)) then
                                      some ((-1), ())
                                    else
                                      some ((0), ())
                                  else
                                    some ((0), ())
                          else
                            none
                        else
                          none
                      else
                        none
                    else
                      none
              else
                none
          else
            none
      else
        none
  else
    none
theorem ev13 (k18 : Den A18 → Bool) (g18 : Den A18 → Den R18) (k46 : Den A46 → Bool) (g46 : Den A46 → Den R46) (k47 : Den A47 → Bool) (g47 : Den A47 → Den R47) (x : Den A13) : callK (Γ13 k18 g18 k46 g46 k47 g47) 0 (bodyOf Try.f13) (decR R13) (encA A13 x) [] = r13 k18 g18 k46 g46 k47 g47 x := by kernel_rfl
def F13 (x : Den A13) : Option (Den R13) := r13 K18 G18 K46 G46 K47 G47 x
def K13 (x : Den A13) : Bool := (F13 x).isSome
def G13 (x : Den A13) : Den R13 := (F13 x).getD (zero R13)
theorem env13 : EnvOK Try.prog (Γ13 K18 G18 K46 G46 K47 G47) := env_ok mixed tab_ok eqs_ok (.cons sem18 (.cons sem46 (.cons sem47 .nil)))
theorem is13 : FnIs Try.prog 13 (Γ13 K18 G18 K46 G46 K47 G47) (bodyOf Try.f13) := fnIs Try.func13 rfl rfl rfl (by kernel_rfl)
theorem sem13 : SemOK Try.prog (13, fnMean A13 R13 K13 G13) := fn_opt env13 is13 fun x => ev13 K18 G18 K46 G46 K47 G47 x

/- "loop.example/g03321/impl.within" -/
abbrev A62 : Ty := .cons (.int .i64) (.cons (.int .i64) (.cons (.int .i64) (.nil)))
abbrev R62 : Ty := .cons (.bool) (.nil)
noncomputable def Γ62 : Env := mkEnv tab eqs [] 15 [.tmp 6] [] [] [] []
def r62 (x : Den A62) : Option (Den R62) :=
  bif (decide (x.fst ≥ x.snd.fst)) then
    some ((decide (x.fst ≤ x.snd.snd.fst)), ())
  else
    some ((false), ())
theorem ev62 (x : Den A62) : callK (Γ62) 0 (bodyOf Try.f62) (decR R62) (encA A62 x) [] = r62 x := by kernel_rfl
def F62 (x : Den A62) : Option (Den R62) := r62 x
def K62 (x : Den A62) : Bool := (F62 x).isSome
def G62 (x : Den A62) : Den R62 := (F62 x).getD (zero R62)
theorem env62 : EnvOK Try.prog (Γ62) := env_ok mixed tab_ok eqs_ok .nil
theorem is62 : FnIs Try.prog 62 (Γ62) (bodyOf Try.f62) := fnIs Try.func62 rfl rfl rfl (by kernel_rfl)
theorem sem62 : SemOK Try.prog (62, fnMean A62 R62 K62 G62) := fn_opt env62 is62 fun x => ev62 x

/- "loop.example/g03321/impl.PlaceOk" -/
abbrev A48 : Ty := .cons (.cons (.int .i64) (.cons (.int .i64) (.nil))) (.nil)
abbrev R48 : Ty := .cons (.bool) (.nil)
noncomputable def Γ48 (k62 : Den A62 → Bool) (g62 : Den A62 → Den R62) : Env := mkEnv tab eqs [(62, fnMean A62 R62 k62 g62)] 11 [.tmp 2] [] [] [] []
def r48 (k62 : Den A62 → Bool) (g62 : Den A62 → Den R62) (x : Den A48) : Option (Den R48) :=
  let v0 := (k62 (x.fst.fst, -10000, 10000, ()))
  bif (v0) then
    let v1 := (g62 (x.fst.fst, -10000, 10000, ()))
    bif (v1.1) then
      let v2 := (k62 (x.fst.snd.fst, -10000, 10000, ()))
      bif (v2) then
        let v3 := (g62 (x.fst.snd.fst, -10000, 10000, ()))
        some ((v3.1), ())
      else
        none
    else
      some ((false), ())
  else
    none
theorem ev48 (k62 : Den A62 → Bool) (g62 : Den A62 → Den R62) (x : Den A48) : callK (Γ48 k62 g62) 0 (bodyOf Try.f48) (decR R48) (encA A48 x) [] = r48 k62 g62 x := by kernel_rfl
def F48 (x : Den A48) : Option (Den R48) := r48 K62 G62 x
def K48 (x : Den A48) : Bool := (F48 x).isSome
def G48 (x : Den A48) : Den R48 := (F48 x).getD (zero R48)
theorem env48 : EnvOK Try.prog (Γ48 K62 G62) := env_ok mixed tab_ok eqs_ok (.cons sem62 .nil)
theorem is48 : FnIs Try.prog 48 (Γ48 K62 G62) (bodyOf Try.f48) := fnIs Try.func48 rfl rfl rfl (by kernel_rfl)
theorem sem48 : SemOK Try.prog (48, fnMean A48 R48 K48 G48) := fn_opt env48 is48 fun x => ev48 K62 G62 x

/- "(loop.example/g03321/impl.Place).less" -/
abbrev A49 : Ty := .cons (.cons (.int .i64) (.cons (.int .i64) (.nil))) (.cons (.cons (.int .i64) (.cons (.int .i64) (.nil))) (.nil))
abbrev R49 : Ty := .cons (.cons (.int .i64) (.cons (.int .i64) (.nil))) (.nil)
noncomputable def Γ49 : Env := mkEnv tab eqs [] 16 [.cell 4 25] [] [] [] []
def r49 (x : Den A49) : Option (Den R49) :=
  let v0 := (IntKind.i64.wrap (x.fst.fst - x.snd.fst.fst))
  let v1 := (IntKind.i64.wrap (x.fst.snd.fst - x.snd.fst.snd.fst))
  some (((v0), ((v1), ())), ())
theorem ev49 (x : Den A49) : callK (Γ49) 0 (bodyOf Try.f49) (decR R49) (encA A49 x) [] = r49 x := by kernel_rfl
def F49 (x : Den A49) : Option (Den R49) := r49 x
def K49 (x : Den A49) : Bool := (F49 x).isSome
def G49 (x : Den A49) : Den R49 := (F49 x).getD (zero R49)
theorem env49 : EnvOK Try.prog (Γ49) := env_ok mixed tab_ok eqs_ok .nil
theorem is49 : FnIs Try.prog 49 (Γ49) (bodyOf Try.f49) := fnIs Try.func49 rfl rfl rfl (by kernel_rfl)
theorem sem49 : SemOK Try.prog (49, fnMean A49 R49 K49 G49) := fn_opt env49 is49 fun x => ev49 x

/- "(loop.example/g03321/impl.Place).cross" -/
abbrev A50 : Ty := .cons (.cons (.int .i64) (.cons (.int .i64) (.nil))) (.cons (.cons (.int .i64) (.cons (.int .i64) (.nil))) (.nil))
abbrev R50 : Ty := .cons (.int .i64) (.nil)
noncomputable def Γ50 : Env := mkEnv tab eqs [] 16 [.tmp 4] [] [] [] []
def r50 (x : Den A50) : Option (Den R50) :=
  let v0 := (IntKind.i64.wrap (x.fst.fst * x.snd.fst.snd.fst))
  let v1 := (IntKind.i64.wrap (x.fst.snd.fst * x.snd.fst.fst))
  let v2 := (IntKind.i64.wrap (v0 - v1))
  some ((v2), ())
theorem ev50 (x : Den A50) : callK (Γ50) 0 (bodyOf Try.f50) (decR R50) (encA A50 x) [] = r50 x := by kernel_rfl
def F50 (x : Den A50) : Option (Den R50) := r50 x
def K50 (x : Den A50) : Bool := (F50 x).isSome
def G50 (x : Den A50) : Den R50 := (F50 x).getD (zero R50)
theorem env50 : EnvOK Try.prog (Γ50) := env_ok mixed tab_ok eqs_ok .nil
theorem is50 : FnIs Try.prog 50 (Γ50) (bodyOf Try.f50) := fnIs Try.func50 rfl rfl rfl (by kernel_rfl)
theorem sem50 : SemOK Try.prog (50, fnMean A50 R50 K50 G50) := fn_opt env50 is50 fun x => ev50 x

/- "(loop.example/g03321/impl.Place).dot" -/
abbrev A51 : Ty := .cons (.cons (.int .i64) (.cons (.int .i64) (.nil))) (.cons (.cons (.int .i64) (.cons (.int .i64) (.nil))) (.nil))
abbrev R51 : Ty := .cons (.int .i64) (.nil)
noncomputable def Γ51 : Env := mkEnv tab eqs [] 16 [.tmp 4] [] [] [] []
def r51 (x : Den A51) : Option (Den R51) :=
  let v0 := (IntKind.i64.wrap (x.fst.fst * x.snd.fst.fst))
  let v1 := (IntKind.i64.wrap (x.fst.snd.fst * x.snd.fst.snd.fst))
  let v2 := (IntKind.i64.wrap (v0 + v1))
  some ((v2), ())
theorem ev51 (x : Den A51) : callK (Γ51) 0 (bodyOf Try.f51) (decR R51) (encA A51 x) [] = r51 x := by kernel_rfl
def F51 (x : Den A51) : Option (Den R51) := r51 x
def K51 (x : Den A51) : Bool := (F51 x).isSome
def G51 (x : Den A51) : Den R51 := (F51 x).getD (zero R51)
theorem env51 : EnvOK Try.prog (Γ51) := env_ok mixed tab_ok eqs_ok .nil
theorem is51 : FnIs Try.prog 51 (Γ51) (bodyOf Try.f51) := fnIs Try.func51 rfl rfl rfl (by kernel_rfl)
theorem sem51 : SemOK Try.prog (51, fnMean A51 R51 K51 G51) := fn_opt env51 is51 fun x => ev51 x

/- "loop.example/g03321/impl.PassRay" -/
abbrev A15 : Ty := .cons (.cons (.int .i64) (.cons (.int .i64) (.nil))) (.cons (.cons (.int .i64) (.cons (.int .i64) (.nil))) (.cons (.cons (.int .i64) (.cons (.int .i64) (.nil))) (.cons (.cons (.int .i64) (.cons (.int .i64) (.nil))) (.nil))))
abbrev R15 : Ty := .cons (.int .i64) (.nil)
noncomputable def Γ15 (k48 : Den A48 → Bool) (g48 : Den A48 → Den R48) (k49 : Den A49 → Bool) (g49 : Den A49 → Den R49) (k50 : Den A50 → Bool) (g50 : Den A50 → Den R50) (k51 : Den A51 → Bool) (g51 : Den A51 → Den R51) : Env := mkEnv tab eqs [(48, fnMean A48 R48 k48 g48), (49, fnMean A49 R49 k49 g49), (50, fnMean A50 R50 k50 g50), (51, fnMean A51 R51 k51 g51)] 98 [.tmp 8] [] [] [] []
def r15 (k48 : Den A48 → Bool) (g48 : Den A48 → Den R48) (k49 : Den A49 → Bool) (g49 : Den A49 → Den R49) (k50 : Den A50 → Bool) (g50 : Den A50 → Den R50) (k51 : Den A51 → Bool) (g51 : Den A51 → Den R51) (x : Den A15) : Option (Den R15) :=
  let v0 := (k48 ((x.fst.fst, x.fst.snd.fst, ()), ()))
  bif (v0) then
    let v1 := (g48 ((x.fst.fst, x.fst.snd.fst, ()), ()))
    bif (!v1.fst) then
      some ((0), ())
    else
      let v2 := (k48 ((x.snd.fst.fst, x.snd.fst.snd.fst, ()), ()))
      bif (v2) then
        let v3 := (g48 ((x.snd.fst.fst, x.snd.fst.snd.fst, ()), ()))
        bif (!v3.fst) then
          some ((0), ())
        else
          let v4 := (k48 ((x.snd.snd.fst.fst, x.snd.snd.fst.snd.fst, ()), ()))
          bif (v4) then
            let v5 := (g48 ((x.snd.snd.fst.fst, x.snd.snd.fst.snd.fst, ()), ()))
            bif (!v5.fst) then
              some ((0), ())
            else
              let v6 := (k48 ((x.snd.snd.snd.fst.fst, x.snd.snd.snd.fst.snd.fst, ()), ()))
              bif (v6) then
                let v7 := (g48 ((x.snd.snd.snd.fst.fst, x.snd.snd.snd.fst.snd.fst, ()), ()))
                bif (!v7.fst) then
                  some ((0), ())
                else
                  bif (x.snd.fst.fst == x.fst.fst && x.snd.fst.snd.fst == x.fst.snd.fst) then
                    some ((0), ())
                  else
                    let v8 := (k49 ((x.snd.fst.fst, x.snd.fst.snd.fst, ()), (x.fst.fst, x.fst.snd.fst, ()), ()))
                    bif (v8) then
                      let v9 := (k49 ((x.snd.snd.fst.fst, x.snd.snd.fst.snd.fst, ()), (x.snd.fst.fst, x.snd.fst.snd.fst, ()), ()))
                      bif (v9) then
                        let v10 := (g49 ((x.snd.fst.fst, x.snd.fst.snd.fst, ()), (x.fst.fst, x.fst.snd.fst, ()), ()))
                        let v11 := (g49 ((x.snd.snd.fst.fst, x.snd.snd.fst.snd.fst, ()), (x.snd.fst.fst, x.snd.fst.snd.fst, ()), ()))
                        let v12 := (k50 ((v10.fst.fst, v10.fst.snd.fst, ()), (v11.fst.fst, v11.fst.snd.fst, ()), ()))
                        bif (v12) then
                          let v13 := (k49 ((x.snd.snd.snd.fst.fst, x.snd.snd.snd.fst.snd.fst, ()), (x.snd.fst.fst, x.snd.fst.snd.fst, ()), ()))
                          bif (v13) then
                            let v14 := (g49 ((x.snd.snd.snd.fst.fst, x.snd.snd.snd.fst.snd.fst, ()), (x.snd.fst.fst, x.snd.fst.snd.fst, ()), ()))
                            let v15 := (k50 ((v10.fst.fst, v10.fst.snd.fst, ()), (v14.fst.fst, v14.fst.snd.fst, ()), ()))
                            bif (v15) then
                              bif (v9) then
                                let v16 := (k51 ((v10.fst.fst, v10.fst.snd.fst, ()), (v11.fst.fst, v11.fst.snd.fst, ()), ()))
                                bif (v16) then
                                  bif (v13) then
                                    let v17 := (k51 ((v10.fst.fst, v10.fst.snd.fst, ()), (v14.fst.fst, v14.fst.snd.fst, ()), ()))
                                    bif (v17) then
                                      let v18 := (g51 ((v10.fst.fst, v10.fst.snd.fst, ()), (v14.fst.fst, v14.fst.snd.fst, ()), ()))
                                      let v19 := (g50 ((v10.fst.fst, v10.fst.snd.fst, ()), (v11.fst.fst, v11.fst.snd.fst, ()), ()))
                                      let v20 := (IntKind.i64.wrap (v18.fst * v19.fst))
                                      let v21 := (g51 ((v10.fst.fst, v10.fst.snd.fst, ()), (v11.fst.fst, v11.fst.snd.fst, ()), ()))
                                      let v22 := (g50 ((v10.fst.fst, v10.fst.snd.fst, ()), (v14.fst.fst, v14.fst.snd.fst, ()), ()))
                                      let v23 := (IntKind.i64.wrap (v21.fst * v22.fst))
                                      let v24 := (IntKind.i64.wrap (v20 - v23))
                                      bif (decide (v24 < 0)) then
                                        bif (decide (v19.fst > v22.fst)) then
                                          some ((0), ())
                                        else
                                          bif (decide (v24 > 0)) then
                                            bif (decide (v19.fst < v22.fst)) then
                                              some ((0), ())
                                            else
                                              bif (decide (v19.fst > 0)) then
                                                bif (decide (v22.fst ≤ 0)) then
                                                  some ((1), ())
                                                else
                                                  bif (decide (v19.fst ≤ 0)) then
                                                    bif (decide (v22.fst > 0)) then
                                                      some ((-1), ())
                                                    else
                                                      some ((0), ())
                                                  else
                                                    some ((0), ())
                                              else
                                                bif (decide (v19.fst ≤ 0)) then
                                                  bif (decide (v22.fst > 0)) then
                                                    some ((-1), ())
                                                  else
                                                    some ((0), ())
                                                else
                                                  some ((0), ())
                                          else
                                            bif (decide (v19.fst > 0)) then
                                              bif (decide (v22.fst ≤ 0)) then
                                                some ((1), ())
                                              else
                                                bif (decide (v19.fst ≤ 0)) then
                                                  bif (decide (v22.fst > 0)) then
                                                    some ((-1), ())
                                                  else
                                                    some ((0), ())
                                                else
                                                  some ((0), ())
                                            else
                                              bif (decide (v19.fst ≤ 0)) then
                                                bif (decide (v22.fst > 0)) then
                                                  some ((-1), ())
                                                else
                                                  some ((0), ())
                                              else
                                                some ((0), ())
                                      else
                                        bif (decide (v24 > 0)) then
                                          bif (decide (v19.fst < v22.fst)) then
                                            some ((0), ())
                                          else
                                            bif (decide (v19.fst > 0)) then
                                              bif (decide (v22.fst ≤ 0)) then
                                                some ((1), ())
                                              else
                                                bif (decide (v19.fst ≤ 0)) then
                                                  bif (decide (v22.fst > 0)) then
                                                    some ((-1), ())
                                                  else
                                                    some ((0), ())
                                                else
                                                  some ((0), ())
                                            else
                                              bif (decide (v19.fst ≤ 0)) then
                                                bif (decide (v22.fst > 0)) then
                                                  some ((-1), ())
                                                else
                                                  some ((0), ())
                                              else
                                                some ((0), ())
                                        else
                                          bif (decide (v19.fst > 0)) then
                                            bif (decide (v22.fst ≤ 0)) then
                                              some ((1), ())
                                            else
                                              bif (decide (v19.fst ≤ 0)) then
                                                bif (decide (v22.fst > 0)) then
                                                  some ((-1), ())
                                                else
                                                  some ((0), ())
                                              else
                                                some ((0), ())
                                          else
                                            bif (decide (v19.fst ≤ 0)) then
                                              bif (decide (v22.fst > 0)) then
                                                some ((-1), ())
                                              else
                                                some ((0), ())
                                            else
                                              some ((0), ())
                                    else
                                      none
                                  else
                                    none
                                else
                                  none
                              else
                                none
                            else
                              none
                          else
                            none
                        else
                          none
                      else
                        none
                    else
                      none
              else
                none
          else
            none
      else
        none
  else
    none
theorem ev15 (k48 : Den A48 → Bool) (g48 : Den A48 → Den R48) (k49 : Den A49 → Bool) (g49 : Den A49 → Den R49) (k50 : Den A50 → Bool) (g50 : Den A50 → Den R50) (k51 : Den A51 → Bool) (g51 : Den A51 → Den R51) (x : Den A15) : callK (Γ15 k48 g48 k49 g49 k50 g50 k51 g51) 0 (bodyOf Try.f15) (decR R15) (encA A15 x) [] = r15 k48 g48 k49 g49 k50 g50 k51 g51 x := by kernel_rfl
def F15 (x : Den A15) : Option (Den R15) := r15 K48 G48 K49 G49 K50 G50 K51 G51 x
def K15 (x : Den A15) : Bool := (F15 x).isSome
def G15 (x : Den A15) : Den R15 := (F15 x).getD (zero R15)
theorem env15 : EnvOK Try.prog (Γ15 K48 G48 K49 G49 K50 G50 K51 G51) := env_ok mixed tab_ok eqs_ok (.cons sem48 (.cons sem49 (.cons sem50 (.cons sem51 .nil))))
theorem is15 : FnIs Try.prog 15 (Γ15 K48 G48 K49 G49 K50 G50 K51 G51) (bodyOf Try.f15) := fnIs Try.func15 rfl rfl rfl (by kernel_rfl)
theorem sem15 : SemOK Try.prog (15, fnMean A15 R15 K15 G15) := fn_opt env15 is15 fun x => ev15 K48 G48 K49 G49 K50 G50 K51 G51 x

/- "loop.example/g03321/laws.toPlace" -/
abbrev A14 : Ty := .cons (.cons (.int .i64) (.cons (.int .i64) (.nil))) (.nil)
abbrev R14 : Ty := .cons (.cons (.int .i64) (.cons (.int .i64) (.nil))) (.nil)
noncomputable def Γ14 : Env := mkEnv tab eqs [] 11 [.cell 2 25] [] [] [] []
def r14 (x : Den A14) : Option (Den R14) :=
  some (((x.fst.1), ((x.fst.snd.1), ())), ())
theorem ev14 (x : Den A14) : callK (Γ14) 0 (bodyOf Try.f14) (decR R14) (encA A14 x) [] = r14 x := by kernel_rfl
def F14 (x : Den A14) : Option (Den R14) := r14 x
def K14 (x : Den A14) : Bool := (F14 x).isSome
def G14 (x : Den A14) : Den R14 := (F14 x).getD (zero R14)
theorem env14 : EnvOK Try.prog (Γ14) := env_ok mixed tab_ok eqs_ok .nil
theorem is14 : FnIs Try.prog 14 (Γ14) (bodyOf Try.f14) := fnIs Try.func14 rfl rfl rfl (by kernel_rfl)
theorem sem14 : SemOK Try.prog (14, fnMean A14 R14 K14 G14) := fn_opt env14 is14 fun x => ev14 x

/- "loop.example/g03321/laws.FnExactPassRay" -/
abbrev A3 : Ty := .cons (.cons (.int .i64) (.cons (.int .i64) (.nil))) (.cons (.cons (.int .i64) (.cons (.int .i64) (.nil))) (.cons (.cons (.int .i64) (.cons (.int .i64) (.nil))) (.cons (.cons (.int .i64) (.cons (.int .i64) (.nil))) (.nil))))
abbrev R3 : Ty := .cons (.bool) (.nil)
noncomputable def Γ3 (k14 : Den A14 → Bool) (g14 : Den A14 → Den R14) (k13 : Den A13 → Bool) (g13 : Den A13 → Den R13) (k15 : Den A15 → Bool) (g15 : Den A15 → Den R15) : Env := mkEnv tab eqs [(14, fnMean A14 R14 k14 g14), (13, fnMean A13 R13 k13 g13), (15, fnMean A15 R15 k15 g15)] 32 [.tmp 8] [] [] [] []
def r3 (k14 : Den A14 → Bool) (g14 : Den A14 → Den R14) (k13 : Den A13 → Bool) (g13 : Den A13 → Den R13) (k15 : Den A15 → Bool) (g15 : Den A15 → Den R15) (x : Den A3) : Option (Den R3) :=
  let v0 := (k14 ((x.fst.fst, x.fst.snd.fst, ()), ()))
  bif (v0) then
    let v1 := (k14 ((x.snd.fst.fst, x.snd.fst.snd.fst, ()), ()))
    bif (v1) then
      let v2 := (k14 ((x.snd.snd.fst.fst, x.snd.snd.fst.snd.fst, ()), ()))
      bif (v2) then
        let v3 := (k14 ((x.snd.snd.snd.fst.fst, x.snd.snd.snd.fst.snd.fst, ()), ()))
        bif (v3) then
          let v4 := (g14 ((x.fst.fst, x.fst.snd.fst, ()), ()))
          let v5 := (g14 ((x.snd.fst.fst, x.snd.fst.snd.fst, ()), ()))
          let v6 := (g14 ((x.snd.snd.fst.fst, x.snd.snd.fst.snd.fst, ()), ()))
          let v7 := (g14 ((x.snd.snd.snd.fst.fst, x.snd.snd.snd.fst.snd.fst, ()), ()))
          let v8 := (k13 ((v4.fst.fst, v4.fst.snd.fst, ()), (v5.fst.fst, v5.fst.snd.fst, ()), (v6.fst.fst, v6.fst.snd.fst, ()), (v7.fst.fst, v7.fst.snd.fst, ()), ()))
          bif (v8) then
            bif (v0) then
              bif (v1) then
                bif (v2) then
                  bif (v3) then
                    let v9 := (k15 ((v4.fst.fst, v4.fst.snd.fst, ()), (v5.fst.fst, v5.fst.snd.fst, ()), (v6.fst.fst, v6.fst.snd.fst, ()), (v7.fst.fst, v7.fst.snd.fst, ()), ()))
                    bif (v9) then
                      let v10 := (g15 ((v4.fst.fst, v4.fst.snd.fst, ()), (v5.fst.fst, v5.fst.snd.fst, ()), (v6.fst.fst, v6.fst.snd.fst, ()), (v7.fst.fst, v7.fst.snd.fst, ()), ()))
                      let v11 := (g13 ((v4.fst.fst, v4.fst.snd.fst, ()), (v5.fst.fst, v5.fst.snd.fst, ()), (v6.fst.fst, v6.fst.snd.fst, ()), (v7.fst.fst, v7.fst.snd.fst, ()), ()))
                      bif (v10.fst != v11.fst) then
                        some ((false), ())
                      else
                        some ((true), ())
                    else
                      none
                  else
                    none
                else
                  none
              else
                none
            else
              none
          else
            none
        else
          none
      else
        none
    else
      none
  else
    none
theorem ev3 (k14 : Den A14 → Bool) (g14 : Den A14 → Den R14) (k13 : Den A13 → Bool) (g13 : Den A13 → Den R13) (k15 : Den A15 → Bool) (g15 : Den A15 → Den R15) (x : Den A3) : callK (Γ3 k14 g14 k13 g13 k15 g15) 0 (bodyOf Try.f3) (decR R3) (encA A3 x) [] = r3 k14 g14 k13 g13 k15 g15 x := by kernel_rfl
def F3 (x : Den A3) : Option (Den R3) := r3 K14 G14 K13 G13 K15 G15 x
def K3 (x : Den A3) : Bool := (F3 x).isSome
def G3 (x : Den A3) : Den R3 := (F3 x).getD (zero R3)
theorem env3 : EnvOK Try.prog (Γ3 K14 G14 K13 G13 K15 G15) := env_ok mixed tab_ok eqs_ok (.cons sem14 (.cons sem13 (.cons sem15 .nil)))
theorem is3 : FnIs Try.prog 3 (Γ3 K14 G14 K13 G13 K15 G15) (bodyOf Try.f3) := fnIs Try.func3 rfl rfl rfl (by kernel_rfl)
theorem sem3 : SemOK Try.prog (3, fnMean A3 R3 K3 G3) := fn_opt env3 is3 fun x => ev3 K14 G14 K13 G13 K15 G15 x

end Go.Proofs.Ytibbdoohekjmaaa.AM
