/- What functions of the program make of their arguments; each is what its evaluation says. Printed by fx.py. -/
import Derived.Test.YtibbdoohekjmaaaT0
namespace Go.Proofs.Ytibbdoohekjmaaa.AM
open Go Go.Proofs
set_option linter.unusedVariables false
set_option maxRecDepth 100000
set_option maxHeartbeats 0

/- "loop.example/g03321/laws.toPlace" -/
abbrev A14 : Ty := .cons (S22) (.nil)
abbrev R14 : Ty := .cons (S22) (.nil)
noncomputable def Γ14 : Env := mkEnv tab eqs [] 11 [.cell 2 25] [] [] [] [] []
def r14 (x : Den A14) : Option (Den R14) :=
  some (((x.fst.1), ((x.fst.snd.1), ())), ())
theorem ev14 (x : Den A14) : callK (Γ14) (bodyOf Try.f14) (decR R14) (encA A14 x) [] = r14 x := by kernel_rfl
def F14 (x : Den A14) : Option (Den R14) := r14 x
def K14 (x : Den A14) : Bool := (F14 x).isSome
def G14 (x : Den A14) : Den R14 := (F14 x).getD (zero R14)
theorem env14 : EnvOK Try.prog (Γ14) := env_ok mixed tab_ok eqs_ok .nil
theorem is14 : FnIs Try.prog 14 (Γ14) (bodyOf Try.f14) := fnIs Try.func14 rfl rfl rfl (by kernel_rfl) (noLoops (by kernel_rfl))
theorem sem14 : SemOK Try.prog (14, fnMean A14 R14 K14 G14) := fn_opt env14 is14 fun x => ev14 x

/- "loop.example/g03321/spec.l01In" -/
abbrev A55 : Ty := .cons (.int .i64) (.cons (.int .i64) (.cons (.int .i64) (.nil)))
abbrev R55 : Ty := .cons (.bool) (.nil)
noncomputable def Γ55 : Env := mkEnv tab eqs [] 15 [.tmp 6] [] [] [] [] []
def r55 (x : Den A55) : Option (Den R55) :=
  bif (decide (x.fst ≥ x.snd.fst)) then
    some ((decide (x.fst ≤ x.snd.snd.fst)), ())
  else
    some ((false), ())
theorem ev55 (x : Den A55) : callK (Γ55) (bodyOf Try.f55) (decR R55) (encA A55 x) [] = r55 x := by kernel_rfl
def F55 (x : Den A55) : Option (Den R55) := r55 x
def K55 (x : Den A55) : Bool := (F55 x).isSome
def G55 (x : Den A55) : Den R55 := (F55 x).getD (zero R55)
theorem env55 : EnvOK Try.prog (Γ55) := env_ok mixed tab_ok eqs_ok .nil
theorem is55 : FnIs Try.prog 55 (Γ55) (bodyOf Try.f55) := fnIs Try.func55 rfl rfl rfl (by kernel_rfl) (noLoops (by kernel_rfl))
theorem sem55 : SemOK Try.prog (55, fnMean A55 R55 K55 G55) := fn_opt env55 is55 fun x => ev55 x

/- "loop.example/g03321/spec.PlaceOk" -/
abbrev A18 : Ty := .cons (S22) (.nil)
abbrev R18 : Ty := .cons (.bool) (.nil)
noncomputable def Γ18 (k55 : Den A55 → Bool) (g55 : Den A55 → Den R55) : Env := mkEnv tab eqs [(55, fnMean A55 R55 k55 g55)] 11 [.tmp 2] [] [] [] [] []
def r18 (k55 : Den A55 → Bool) (g55 : Den A55 → Den R55) (x : Den A18) : Option (Den R18) :=
  let v0 := (k55 (x.fst.fst, -10000, 10000, ()))
  bif (v0) then
    let v1 := (g55 (x.fst.fst, -10000, 10000, ()))
    bif (v1.1) then
      let v2 := (k55 (x.fst.snd.fst, -10000, 10000, ()))
      bif (v2) then
        let v3 := (g55 (x.fst.snd.fst, -10000, 10000, ()))
        some ((v3.1), ())
      else
        none
    else
      some ((false), ())
  else
    none
theorem ev18 (k55 : Den A55 → Bool) (g55 : Den A55 → Den R55) (x : Den A18) : callK (Γ18 k55 g55) (bodyOf Try.f18) (decR R18) (encA A18 x) [] = r18 k55 g55 x := by kernel_rfl
def F18 (x : Den A18) : Option (Den R18) := r18 K55 G55 x
def K18 (x : Den A18) : Bool := (F18 x).isSome
def G18 (x : Den A18) : Den R18 := (F18 x).getD (zero R18)
theorem env18 : EnvOK Try.prog (Γ18 K55 G55) := env_ok mixed tab_ok eqs_ok (.cons sem55 .nil)
theorem is18 : FnIs Try.prog 18 (Γ18 K55 G55) (bodyOf Try.f18) := fnIs Try.func18 rfl rfl rfl (by kernel_rfl) (noLoops (by kernel_rfl))
theorem sem18 : SemOK Try.prog (18, fnMean A18 R18 K18 G18) := fn_opt env18 is18 fun x => ev18 K55 G55 x

/- "loop.example/g03321/spec.l09Cross" -/
abbrev A46 : Ty := .cons (S22) (.cons (S22) (.cons (S22) (.cons (S22) (.nil))))
abbrev R46 : Ty := .cons (.int .i64) (.nil)
noncomputable def Γ46 : Env := mkEnv tab eqs [] 32 [.tmp 8] [] [] [] [] []
def r46 (x : Den A46) : Option (Den R46) :=
  let v0 := (IntKind.wrap IntKind.i64 (x.snd.fst.fst - x.fst.fst))
  let v1 := (IntKind.wrap IntKind.i64 (x.snd.snd.snd.fst.snd.fst - x.snd.snd.fst.snd.fst))
  let v2 := (IntKind.wrap IntKind.i64 (v0 * v1))
  let v3 := (IntKind.wrap IntKind.i64 (x.snd.fst.snd.fst - x.fst.snd.fst))
  let v4 := (IntKind.wrap IntKind.i64 (x.snd.snd.snd.fst.fst - x.snd.snd.fst.fst))
  let v5 := (IntKind.wrap IntKind.i64 (v3 * v4))
  let v6 := (IntKind.wrap IntKind.i64 (v2 - v5))
  some ((v6), ())
theorem ev46 (x : Den A46) : callK (Γ46) (bodyOf Try.f46) (decR R46) (encA A46 x) [] = r46 x := by kernel_rfl
def F46 (x : Den A46) : Option (Den R46) := r46 x
def K46 (x : Den A46) : Bool := (F46 x).isSome
def G46 (x : Den A46) : Den R46 := (F46 x).getD (zero R46)
theorem env46 : EnvOK Try.prog (Γ46) := env_ok mixed tab_ok eqs_ok .nil
theorem is46 : FnIs Try.prog 46 (Γ46) (bodyOf Try.f46) := fnIs Try.func46 rfl rfl rfl (by kernel_rfl) (noLoops (by kernel_rfl))
theorem sem46 : SemOK Try.prog (46, fnMean A46 R46 K46 G46) := fn_opt env46 is46 fun x => ev46 x

/- "loop.example/g03321/spec.l10Dot" -/
abbrev A47 : Ty := .cons (S22) (.cons (S22) (.cons (S22) (.cons (S22) (.nil))))
abbrev R47 : Ty := .cons (.int .i64) (.nil)
noncomputable def Γ47 : Env := mkEnv tab eqs [] 32 [.tmp 8] [] [] [] [] []
def r47 (x : Den A47) : Option (Den R47) :=
  let v0 := (IntKind.wrap IntKind.i64 (x.snd.fst.fst - x.fst.fst))
  let v1 := (IntKind.wrap IntKind.i64 (x.snd.snd.snd.fst.fst - x.snd.snd.fst.fst))
  let v2 := (IntKind.wrap IntKind.i64 (v0 * v1))
  let v3 := (IntKind.wrap IntKind.i64 (x.snd.fst.snd.fst - x.fst.snd.fst))
  let v4 := (IntKind.wrap IntKind.i64 (x.snd.snd.snd.fst.snd.fst - x.snd.snd.fst.snd.fst))
  let v5 := (IntKind.wrap IntKind.i64 (v3 * v4))
  let v6 := (IntKind.wrap IntKind.i64 (v2 + v5))
  some ((v6), ())
theorem ev47 (x : Den A47) : callK (Γ47) (bodyOf Try.f47) (decR R47) (encA A47 x) [] = r47 x := by kernel_rfl
def F47 (x : Den A47) : Option (Den R47) := r47 x
def K47 (x : Den A47) : Bool := (F47 x).isSome
def G47 (x : Den A47) : Den R47 := (F47 x).getD (zero R47)
theorem env47 : EnvOK Try.prog (Γ47) := env_ok mixed tab_ok eqs_ok .nil
theorem is47 : FnIs Try.prog 47 (Γ47) (bodyOf Try.f47) := fnIs Try.func47 rfl rfl rfl (by kernel_rfl) (noLoops (by kernel_rfl))
theorem sem47 : SemOK Try.prog (47, fnMean A47 R47 K47 G47) := fn_opt env47 is47 fun x => ev47 x

/- "loop.example/g03321/spec.PassRay" -/
abbrev A13 : Ty := .cons (S22) (.cons (S22) (.cons (S22) (.cons (S22) (.nil))))
abbrev R13 : Ty := .cons (.int .i64) (.nil)
noncomputable def Γ13 (k18 : Den A18 → Bool) (g18 : Den A18 → Den R18) (k46 : Den A46 → Bool) (g46 : Den A46 → Den R46) (k47 : Den A47 → Bool) (g47 : Den A47 → Den R47) : Env := mkEnv tab eqs [(18, fnMean A18 R18 k18 g18), (46, fnMean A46 R46 k46 g46), (47, fnMean A47 R47 k47 g47)] 92 [.tmp 8] [] [] [] [] []
def r13 (k18 : Den A18 → Bool) (g18 : Den A18 → Den R18) (k46 : Den A46 → Bool) (g46 : Den A46 → Den R46) (k47 : Den A47 → Bool) (g47 : Den A47 → Den R47) (x : Den A13) : Option (Den R13) :=
  let v0 := (k18 (x.fst, ()))
  bif (v0) then
    let v1 := (g18 (x.fst, ()))
    bif (!v1.fst) then
      some ((0), ())
    else
      let v2 := (k18 (x.snd.fst, ()))
      bif (v2) then
        let v3 := (g18 (x.snd.fst, ()))
        bif (!v3.fst) then
          some ((0), ())
        else
          let v4 := (k18 (x.snd.snd.fst, ()))
          bif (v4) then
            let v5 := (g18 (x.snd.snd.fst, ()))
            bif (!v5.fst) then
              some ((0), ())
            else
              let v6 := (k18 x.snd.snd.snd)
              bif (v6) then
                let v7 := (g18 x.snd.snd.snd)
                bif (!v7.fst) then
                  some ((0), ())
                else
                  bif (x.fst.fst == x.snd.fst.fst && x.fst.snd.fst == x.snd.fst.snd.fst) then
                    some ((0), ())
                  else
                    let v8 := (k46 (x.fst, x.snd.fst, x.snd.fst, x.snd.snd.fst, ()))
                    bif (v8) then
                      let v9 := (k46 (x.fst, x.snd.fst, x.snd.fst, x.snd.snd.snd))
                      bif (v9) then
                        let v10 := (k47 (x.fst, x.snd.fst, x.snd.fst, x.snd.snd.fst, ()))
                        bif (v10) then
                          let v11 := (k47 (x.fst, x.snd.fst, x.snd.fst, x.snd.snd.snd))
                          bif (v11) then
                            let v12 := (g47 (x.fst, x.snd.fst, x.snd.fst, x.snd.snd.snd))
                            let v13 := (g46 (x.fst, x.snd.fst, x.snd.fst, x.snd.snd.fst, ()))
                            let v14 := (IntKind.wrap IntKind.i64 (v12.fst * v13.fst))
                            let v15 := (g47 (x.fst, x.snd.fst, x.snd.fst, x.snd.snd.fst, ()))
                            let v16 := (g46 (x.fst, x.snd.fst, x.snd.fst, x.snd.snd.snd))
                            let v17 := (IntKind.wrap IntKind.i64 (v15.fst * v16.fst))
                            let v18 := (IntKind.wrap IntKind.i64 (v14 - v17))
                            bif (decide (v18 < 0)) then
                              bif (decide (v13.fst > v16.fst)) then
                                some ((0), ())
                              else
                                bif (decide (v18 > 0)) then
                                  bif (decide (v13.fst < v16.fst)) then
                                    some ((0), ())
                                  else
                                    bif (decide (v13.fst > 0)) then
                                      bif (decide (v16.fst ≤ 0)) then
                                        some ((1), ())
                                      else
                                        bif (decide (v13.fst ≤ 0)) then
                                          bif (decide (v16.fst > 0)) then
                                            some ((-1), ())
                                          else
                                            some ((0), ())
                                        else
                                          some ((0), ())
                                    else
                                      bif (decide (v13.fst ≤ 0)) then
                                        bif (decide (v16.fst > 0)) then
                                          some ((-1), ())
                                        else
                                          some ((0), ())
                                      else
                                        some ((0), ())
                                else
                                  bif (decide (v13.fst > 0)) then
                                    bif (decide (v16.fst ≤ 0)) then
                                      some ((1), ())
                                    else
                                      bif (decide (v13.fst ≤ 0)) then
                                        bif (decide (v16.fst > 0)) then
                                          some ((-1), ())
                                        else
                                          some ((0), ())
                                      else
                                        some ((0), ())
                                  else
                                    bif (decide (v13.fst ≤ 0)) then
                                      bif (decide (v16.fst > 0)) then
                                        some ((-1), ())
                                      else
                                        some ((0), ())
                                    else
                                      some ((0), ())
                            else
                              bif (decide (v18 > 0)) then
                                bif (decide (v13.fst < v16.fst)) then
                                  some ((0), ())
                                else
                                  bif (decide (v13.fst > 0)) then
                                    bif (decide (v16.fst ≤ 0)) then
                                      some ((1), ())
                                    else
                                      bif (decide (v13.fst ≤ 0)) then
                                        bif (decide (v16.fst > 0)) then
                                          some ((-1), ())
                                        else
                                          some ((0), ())
                                      else
                                        some ((0), ())
                                  else
                                    bif (decide (v13.fst ≤ 0)) then
                                      bif (decide (v16.fst > 0)) then
                                        some ((-1), ())
                                      else
                                        some ((0), ())
                                    else
                                      some ((0), ())
                              else
                                bif (decide (v13.fst > 0)) then
                                  bif (decide (v16.fst ≤ 0)) then
                                    some ((1), ())
                                  else
                                    bif (decide (v13.fst ≤ 0)) then
                                      bif (decide (v16.fst > 0)) then
                                        some ((-1), ())
                                      else
                                        some ((0), ())
                                    else
                                      some ((0), ())
                                else
                                  bif (decide (v13.fst ≤ 0)) then
                                    bif (decide (v16.fst > 0)) then
                                      some ((-1), ())
                                    else
                                      some ((0), ())
                                  else
                                    some ((0), ())
                          else
                            none
                        else
                          none
                      else
                        none
                    else
                      none
              else
                none
          else
            none
      else
        none
  else
    none
theorem ev13 (k18 : Den A18 → Bool) (g18 : Den A18 → Den R18) (k46 : Den A46 → Bool) (g46 : Den A46 → Den R46) (k47 : Den A47 → Bool) (g47 : Den A47 → Den R47) (x : Den A13) : callK (Γ13 k18 g18 k46 g46 k47 g47) (bodyOf Try.f13) (decR R13) (encA A13 x) [] = r13 k18 g18 k46 g46 k47 g47 x := by kernel_rfl
def F13 (x : Den A13) : Option (Den R13) := r13 K18 G18 K46 G46 K47 G47 x
def K13 (x : Den A13) : Bool := (F13 x).isSome
def G13 (x : Den A13) : Den R13 := (F13 x).getD (zero R13)
theorem env13 : EnvOK Try.prog (Γ13 K18 G18 K46 G46 K47 G47) := env_ok mixed tab_ok eqs_ok (.cons sem18 (.cons sem46 (.cons sem47 .nil)))
theorem is13 : FnIs Try.prog 13 (Γ13 K18 G18 K46 G46 K47 G47) (bodyOf Try.f13) := fnIs Try.func13 rfl rfl rfl (by kernel_rfl) (noLoops (by kernel_rfl))
theorem sem13 : SemOK Try.prog (13, fnMean A13 R13 K13 G13) := fn_opt env13 is13 fun x => ev13 K18 G18 K46 G46 K47 G47 x

/- "loop.example/g03321/impl.within" -/
abbrev A62 : Ty := .cons (.int .i64) (.cons (.int .i64) (.cons (.int .i64) (.nil)))
abbrev R62 : Ty := .cons (.bool) (.nil)
noncomputable def Γ62 : Env := mkEnv tab eqs [] 15 [.tmp 6] [] [] [] [] []
def r62 (x : Den A62) : Option (Den R62) :=
  bif (decide (x.fst ≥ x.snd.fst)) then
    some ((decide (x.fst ≤ x.snd.snd.fst)), ())
  else
    some ((false), ())
theorem ev62 (x : Den A62) : callK (Γ62) (bodyOf Try.f62) (decR R62) (encA A62 x) [] = r62 x := by kernel_rfl
def F62 (x : Den A62) : Option (Den R62) := r62 x
def K62 (x : Den A62) : Bool := (F62 x).isSome
def G62 (x : Den A62) : Den R62 := (F62 x).getD (zero R62)
theorem env62 : EnvOK Try.prog (Γ62) := env_ok mixed tab_ok eqs_ok .nil
theorem is62 : FnIs Try.prog 62 (Γ62) (bodyOf Try.f62) := fnIs Try.func62 rfl rfl rfl (by kernel_rfl) (noLoops (by kernel_rfl))
theorem sem62 : SemOK Try.prog (62, fnMean A62 R62 K62 G62) := fn_opt env62 is62 fun x => ev62 x

/- "loop.example/g03321/impl.PlaceOk" -/
abbrev A48 : Ty := .cons (S22) (.nil)
abbrev R48 : Ty := .cons (.bool) (.nil)
noncomputable def Γ48 (k62 : Den A62 → Bool) (g62 : Den A62 → Den R62) : Env := mkEnv tab eqs [(62, fnMean A62 R62 k62 g62)] 11 [.tmp 2] [] [] [] [] []
def r48 (k62 : Den A62 → Bool) (g62 : Den A62 → Den R62) (x : Den A48) : Option (Den R48) :=
  let v0 := (k62 (x.fst.fst, -10000, 10000, ()))
  bif (v0) then
    let v1 := (g62 (x.fst.fst, -10000, 10000, ()))
    bif (v1.1) then
      let v2 := (k62 (x.fst.snd.fst, -10000, 10000, ()))
      bif (v2) then
        let v3 := (g62 (x.fst.snd.fst, -10000, 10000, ()))
        some ((v3.1), ())
      else
        none
    else
      some ((false), ())
  else
    none
theorem ev48 (k62 : Den A62 → Bool) (g62 : Den A62 → Den R62) (x : Den A48) : callK (Γ48 k62 g62) (bodyOf Try.f48) (decR R48) (encA A48 x) [] = r48 k62 g62 x := by kernel_rfl
def F48 (x : Den A48) : Option (Den R48) := r48 K62 G62 x
def K48 (x : Den A48) : Bool := (F48 x).isSome
def G48 (x : Den A48) : Den R48 := (F48 x).getD (zero R48)
theorem env48 : EnvOK Try.prog (Γ48 K62 G62) := env_ok mixed tab_ok eqs_ok (.cons sem62 .nil)
theorem is48 : FnIs Try.prog 48 (Γ48 K62 G62) (bodyOf Try.f48) := fnIs Try.func48 rfl rfl rfl (by kernel_rfl) (noLoops (by kernel_rfl))
theorem sem48 : SemOK Try.prog (48, fnMean A48 R48 K48 G48) := fn_opt env48 is48 fun x => ev48 K62 G62 x

/- "(loop.example/g03321/impl.Place).less" -/
abbrev A49 : Ty := .cons (S22) (.cons (S22) (.nil))
abbrev R49 : Ty := .cons (S22) (.nil)
noncomputable def Γ49 : Env := mkEnv tab eqs [] 16 [.cell 4 25] [] [] [] [] []
def r49 (x : Den A49) : Option (Den R49) :=
  let v0 := (IntKind.wrap IntKind.i64 (x.fst.fst - x.snd.fst.fst))
  let v1 := (IntKind.wrap IntKind.i64 (x.fst.snd.fst - x.snd.fst.snd.fst))
  some (((v0), ((v1), ())), ())
theorem ev49 (x : Den A49) : callK (Γ49) (bodyOf Try.f49) (decR R49) (encA A49 x) [] = r49 x := by kernel_rfl
def F49 (x : Den A49) : Option (Den R49) := r49 x
def K49 (x : Den A49) : Bool := (F49 x).isSome
def G49 (x : Den A49) : Den R49 := (F49 x).getD (zero R49)
theorem env49 : EnvOK Try.prog (Γ49) := env_ok mixed tab_ok eqs_ok .nil
theorem is49 : FnIs Try.prog 49 (Γ49) (bodyOf Try.f49) := fnIs Try.func49 rfl rfl rfl (by kernel_rfl) (noLoops (by kernel_rfl))
theorem sem49 : SemOK Try.prog (49, fnMean A49 R49 K49 G49) := fn_opt env49 is49 fun x => ev49 x

/- "(loop.example/g03321/impl.Place).cross" -/
abbrev A50 : Ty := .cons (S22) (.cons (S22) (.nil))
abbrev R50 : Ty := .cons (.int .i64) (.nil)
noncomputable def Γ50 : Env := mkEnv tab eqs [] 16 [.tmp 4] [] [] [] [] []
def r50 (x : Den A50) : Option (Den R50) :=
  let v0 := (IntKind.wrap IntKind.i64 (x.fst.fst * x.snd.fst.snd.fst))
  let v1 := (IntKind.wrap IntKind.i64 (x.fst.snd.fst * x.snd.fst.fst))
  let v2 := (IntKind.wrap IntKind.i64 (v0 - v1))
  some ((v2), ())
theorem ev50 (x : Den A50) : callK (Γ50) (bodyOf Try.f50) (decR R50) (encA A50 x) [] = r50 x := by kernel_rfl
def F50 (x : Den A50) : Option (Den R50) := r50 x
def K50 (x : Den A50) : Bool := (F50 x).isSome
def G50 (x : Den A50) : Den R50 := (F50 x).getD (zero R50)
theorem env50 : EnvOK Try.prog (Γ50) := env_ok mixed tab_ok eqs_ok .nil
theorem is50 : FnIs Try.prog 50 (Γ50) (bodyOf Try.f50) := fnIs Try.func50 rfl rfl rfl (by kernel_rfl) (noLoops (by kernel_rfl))
theorem sem50 : SemOK Try.prog (50, fnMean A50 R50 K50 G50) := fn_opt env50 is50 fun x => ev50 x

/- "(loop.example/g03321/impl.Place).dot" -/
abbrev A51 : Ty := .cons (S22) (.cons (S22) (.nil))
abbrev R51 : Ty := .cons (.int .i64) (.nil)
noncomputable def Γ51 : Env := mkEnv tab eqs [] 16 [.tmp 4] [] [] [] [] []
def r51 (x : Den A51) : Option (Den R51) :=
  let v0 := (IntKind.wrap IntKind.i64 (x.fst.fst * x.snd.fst.fst))
  let v1 := (IntKind.wrap IntKind.i64 (x.fst.snd.fst * x.snd.fst.snd.fst))
  let v2 := (IntKind.wrap IntKind.i64 (v0 + v1))
  some ((v2), ())
theorem ev51 (x : Den A51) : callK (Γ51) (bodyOf Try.f51) (decR R51) (encA A51 x) [] = r51 x := by kernel_rfl
def F51 (x : Den A51) : Option (Den R51) := r51 x
def K51 (x : Den A51) : Bool := (F51 x).isSome
def G51 (x : Den A51) : Den R51 := (F51 x).getD (zero R51)
theorem env51 : EnvOK Try.prog (Γ51) := env_ok mixed tab_ok eqs_ok .nil
theorem is51 : FnIs Try.prog 51 (Γ51) (bodyOf Try.f51) := fnIs Try.func51 rfl rfl rfl (by kernel_rfl) (noLoops (by kernel_rfl))
theorem sem51 : SemOK Try.prog (51, fnMean A51 R51 K51 G51) := fn_opt env51 is51 fun x => ev51 x

/- "loop.example/g03321/impl.PassRay" -/
abbrev A15 : Ty := .cons (S22) (.cons (S22) (.cons (S22) (.cons (S22) (.nil))))
abbrev R15 : Ty := .cons (.int .i64) (.nil)
noncomputable def Γ15 (k48 : Den A48 → Bool) (g48 : Den A48 → Den R48) (k49 : Den A49 → Bool) (g49 : Den A49 → Den R49) (k50 : Den A50 → Bool) (g50 : Den A50 → Den R50) (k51 : Den A51 → Bool) (g51 : Den A51 → Den R51) : Env := mkEnv tab eqs [(48, fnMean A48 R48 k48 g48), (49, fnMean A49 R49 k49 g49), (50, fnMean A50 R50 k50 g50), (51, fnMean A51 R51 k51 g51)] 98 [.tmp 8] [] [] [] [] []
def r15 (k48 : Den A48 → Bool) (g48 : Den A48 → Den R48) (k49 : Den A49 → Bool) (g49 : Den A49 → Den R49) (k50 : Den A50 → Bool) (g50 : Den A50 → Den R50) (k51 : Den A51 → Bool) (g51 : Den A51 → Den R51) (x : Den A15) : Option (Den R15) :=
  let v0 := (k48 (x.fst, ()))
  bif (v0) then
    let v1 := (g48 (x.fst, ()))
    bif (!v1.fst) then
      some ((0), ())
    else
      let v2 := (k48 (x.snd.fst, ()))
      bif (v2) then
        let v3 := (g48 (x.snd.fst, ()))
        bif (!v3.fst) then
          some ((0), ())
        else
          let v4 := (k48 (x.snd.snd.fst, ()))
          bif (v4) then
            let v5 := (g48 (x.snd.snd.fst, ()))
            bif (!v5.fst) then
              some ((0), ())
            else
              let v6 := (k48 x.snd.snd.snd)
              bif (v6) then
                let v7 := (g48 x.snd.snd.snd)
                bif (!v7.fst) then
                  some ((0), ())
                else
                  bif (x.snd.fst.fst == x.fst.fst && x.snd.fst.snd.fst == x.fst.snd.fst) then
                    some ((0), ())
                  else
                    let v8 := (k49 (x.snd.fst, x.fst, ()))
                    bif (v8) then
                      let v9 := (k49 (x.snd.snd.fst, x.snd.fst, ()))
                      bif (v9) then
                        let v10 := (g49 (x.snd.fst, x.fst, ()))
                        let v11 := (g49 (x.snd.snd.fst, x.snd.fst, ()))
                        let v12 := (k50 (v10.fst, v11))
                        bif (v12) then
                          let v13 := (k49 (x.snd.snd.snd.fst, x.snd.fst, ()))
                          bif (v13) then
                            let v14 := (g49 (x.snd.snd.snd.fst, x.snd.fst, ()))
                            let v15 := (k50 (v10.fst, v14))
                            bif (v15) then
                              bif (v9) then
                                let v16 := (k51 (v10.fst, v11))
                                bif (v16) then
                                  bif (v13) then
                                    let v17 := (k51 (v10.fst, v14))
                                    bif (v17) then
                                      let v18 := (g51 (v10.fst, v14))
                                      let v19 := (g50 (v10.fst, v11))
                                      let v20 := (IntKind.wrap IntKind.i64 (v18.fst * v19.fst))
                                      let v21 := (g51 (v10.fst, v11))
                                      let v22 := (g50 (v10.fst, v14))
                                      let v23 := (IntKind.wrap IntKind.i64 (v21.fst * v22.fst))
                                      let v24 := (IntKind.wrap IntKind.i64 (v20 - v23))
                                      bif (decide (v24 < 0)) then
                                        bif (decide (v19.fst > v22.fst)) then
                                          some ((0), ())
                                        else
                                          bif (decide (v24 > 0)) then
                                            bif (decide (v19.fst < v22.fst)) then
                                              some ((0), ())
                                            else
                                              bif (decide (v19.fst > 0)) then
                                                bif (decide (v22.fst ≤ 0)) then
                                                  some ((1), ())
                                                else
                                                  bif (decide (v19.fst ≤ 0)) then
                                                    bif (decide (v22.fst > 0)) then
                                                      some ((-1), ())
                                                    else
                                                      some ((0), ())
                                                  else
                                                    some ((0), ())
                                              else
                                                bif (decide (v19.fst ≤ 0)) then
                                                  bif (decide (v22.fst > 0)) then
                                                    some ((-1), ())
                                                  else
                                                    some ((0), ())
                                                else
                                                  some ((0), ())
                                          else
                                            bif (decide (v19.fst > 0)) then
                                              bif (decide (v22.fst ≤ 0)) then
                                                some ((1), ())
                                              else
                                                bif (decide (v19.fst ≤ 0)) then
                                                  bif (decide (v22.fst > 0)) then
                                                    some ((-1), ())
                                                  else
                                                    some ((0), ())
                                                else
                                                  some ((0), ())
                                            else
                                              bif (decide (v19.fst ≤ 0)) then
                                                bif (decide (v22.fst > 0)) then
                                                  some ((-1), ())
                                                else
                                                  some ((0), ())
                                              else
                                                some ((0), ())
                                      else
                                        bif (decide (v24 > 0)) then
                                          bif (decide (v19.fst < v22.fst)) then
                                            some ((0), ())
                                          else
                                            bif (decide (v19.fst > 0)) then
                                              bif (decide (v22.fst ≤ 0)) then
                                                some ((1), ())
                                              else
                                                bif (decide (v19.fst ≤ 0)) then
                                                  bif (decide (v22.fst > 0)) then
                                                    some ((-1), ())
                                                  else
                                                    some ((0), ())
                                                else
                                                  some ((0), ())
                                            else
                                              bif (decide (v19.fst ≤ 0)) then
                                                bif (decide (v22.fst > 0)) then
                                                  some ((-1), ())
                                                else
                                                  some ((0), ())
                                              else
                                                some ((0), ())
                                        else
                                          bif (decide (v19.fst > 0)) then
                                            bif (decide (v22.fst ≤ 0)) then
                                              some ((1), ())
                                            else
                                              bif (decide (v19.fst ≤ 0)) then
                                                bif (decide (v22.fst > 0)) then
                                                  some ((-1), ())
                                                else
                                                  some ((0), ())
                                              else
                                                some ((0), ())
                                          else
                                            bif (decide (v19.fst ≤ 0)) then
                                              bif (decide (v22.fst > 0)) then
                                                some ((-1), ())
                                              else
                                                some ((0), ())
                                            else
                                              some ((0), ())
                                    else
                                      none
                                  else
                                    none
                                else
                                  none
                              else
                                none
                            else
                              none
                          else
                            none
                        else
                          none
                      else
                        none
                    else
                      none
              else
                none
          else
            none
      else
        none
  else
    none
theorem ev15 (k48 : Den A48 → Bool) (g48 : Den A48 → Den R48) (k49 : Den A49 → Bool) (g49 : Den A49 → Den R49) (k50 : Den A50 → Bool) (g50 : Den A50 → Den R50) (k51 : Den A51 → Bool) (g51 : Den A51 → Den R51) (x : Den A15) : callK (Γ15 k48 g48 k49 g49 k50 g50 k51 g51) (bodyOf Try.f15) (decR R15) (encA A15 x) [] = r15 k48 g48 k49 g49 k50 g50 k51 g51 x := by kernel_rfl
def F15 (x : Den A15) : Option (Den R15) := r15 K48 G48 K49 G49 K50 G50 K51 G51 x
def K15 (x : Den A15) : Bool := (F15 x).isSome
def G15 (x : Den A15) : Den R15 := (F15 x).getD (zero R15)
theorem env15 : EnvOK Try.prog (Γ15 K48 G48 K49 G49 K50 G50 K51 G51) := env_ok mixed tab_ok eqs_ok (.cons sem48 (.cons sem49 (.cons sem50 (.cons sem51 .nil))))
theorem is15 : FnIs Try.prog 15 (Γ15 K48 G48 K49 G49 K50 G50 K51 G51) (bodyOf Try.f15) := fnIs Try.func15 rfl rfl rfl (by kernel_rfl) (noLoops (by kernel_rfl))
theorem sem15 : SemOK Try.prog (15, fnMean A15 R15 K15 G15) := fn_opt env15 is15 fun x => ev15 K48 G48 K49 G49 K50 G50 K51 G51 x

/- "loop.example/g03321/laws.FnExactPassRay" -/
abbrev A3 : Ty := .cons (S22) (.cons (S22) (.cons (S22) (.cons (S22) (.nil))))
abbrev R3 : Ty := .cons (.bool) (.nil)
noncomputable def Γ3 (k14 : Den A14 → Bool) (g14 : Den A14 → Den R14) (k13 : Den A13 → Bool) (g13 : Den A13 → Den R13) (k15 : Den A15 → Bool) (g15 : Den A15 → Den R15) : Env := mkEnv tab eqs [(14, fnMean A14 R14 k14 g14), (13, fnMean A13 R13 k13 g13), (15, fnMean A15 R15 k15 g15)] 32 [.tmp 8] [] [] [] [] []
def r3 (k14 : Den A14 → Bool) (g14 : Den A14 → Den R14) (k13 : Den A13 → Bool) (g13 : Den A13 → Den R13) (k15 : Den A15 → Bool) (g15 : Den A15 → Den R15) (x : Den A3) : Option (Den R3) :=
  let v0 := (k14 (x.fst, ()))
  bif (v0) then
    let v1 := (k14 (x.snd.fst, ()))
    bif (v1) then
      let v2 := (k14 (x.snd.snd.fst, ()))
      bif (v2) then
        let v3 := (k14 x.snd.snd.snd)
        bif (v3) then
          let v4 := (g14 (x.fst, ()))
          let v5 := (g14 (x.snd.fst, ()))
          let v6 := (g14 (x.snd.snd.fst, ()))
          let v7 := (g14 x.snd.snd.snd)
          let v8 := (k13 (v4.fst, v5.fst, v6.fst, v7))
          bif (v8) then
            bif (v0) then
              bif (v1) then
                bif (v2) then
                  bif (v3) then
                    let v9 := (k15 (v4.fst, v5.fst, v6.fst, v7))
                    bif (v9) then
                      let v10 := (g15 (v4.fst, v5.fst, v6.fst, v7))
                      let v11 := (g13 (v4.fst, v5.fst, v6.fst, v7))
                      bif (v10.fst != v11.fst) then
                        some ((false), ())
                      else
                        some ((true), ())
                    else
                      none
                  else
                    none
                else
                  none
              else
                none
            else
              none
          else
            none
        else
          none
      else
        none
    else
      none
  else
    none
theorem ev3 (k14 : Den A14 → Bool) (g14 : Den A14 → Den R14) (k13 : Den A13 → Bool) (g13 : Den A13 → Den R13) (k15 : Den A15 → Bool) (g15 : Den A15 → Den R15) (x : Den A3) : callK (Γ3 k14 g14 k13 g13 k15 g15) (bodyOf Try.f3) (decR R3) (encA A3 x) [] = r3 k14 g14 k13 g13 k15 g15 x := by kernel_rfl
def F3 (x : Den A3) : Option (Den R3) := r3 K14 G14 K13 G13 K15 G15 x
def K3 (x : Den A3) : Bool := (F3 x).isSome
def G3 (x : Den A3) : Den R3 := (F3 x).getD (zero R3)
theorem env3 : EnvOK Try.prog (Γ3 K14 G14 K13 G13 K15 G15) := env_ok mixed tab_ok eqs_ok (.cons sem14 (.cons sem13 (.cons sem15 .nil)))
theorem is3 : FnIs Try.prog 3 (Γ3 K14 G14 K13 G13 K15 G15) (bodyOf Try.f3) := fnIs Try.func3 rfl rfl rfl (by kernel_rfl) (noLoops (by kernel_rfl))
theorem sem3 : SemOK Try.prog (3, fnMean A3 R3 K3 G3) := fn_opt env3 is3 fun x => ev3 K14 G14 K13 G13 K15 G15 x

/- "loop.example/g03321/laws.szMarkS" -/
abbrev A56 : Ty := .cons (.slice (S114)) (.cons (.int .i64) (.nil))
abbrev R56 : Ty := .cons (.int .i64) (.nil)
noncomputable def Γ56 : Env := mkEnv tab eqs [] 12 [.tmp 4] [] [] [] [] []
def r56 (x : Den A56) : Option (Den R56) :=
  let v0 := (IntKind.wrap IntKind.i64 (x.snd.fst - (↑(List.length x.fst) : Int)))
  bif (decide (v0 < 0)) then
    some ((-1), ())
  else
    some ((v0), ())
theorem ev56 (x : Den A56) : callK (Γ56) (bodyOf Try.f56) (decR R56) (encA A56 x) [] = r56 x := by kernel_rfl
def F56 (x : Den A56) : Option (Den R56) := r56 x
def K56 (x : Den A56) : Bool := (F56 x).isSome
def G56 (x : Den A56) : Den R56 := (F56 x).getD (zero R56)
theorem env56 : EnvOK Try.prog (Γ56) := env_ok mixed tab_ok eqs_ok .nil
theorem is56 : FnIs Try.prog 56 (Γ56) (bodyOf Try.f56) := fnIs Try.func56 rfl rfl rfl (by kernel_rfl) (noLoops (by kernel_rfl))
theorem sem56 : SemOK Try.prog (56, fnMean A56 R56 K56 G56) := fn_opt env56 is56 fun x => ev56 x

/- "loop.example/g03321/laws.szCourse" -/
abbrev A20 : Ty := .cons (S38) (.cons (.int .i64) (.nil))
abbrev R20 : Ty := .cons (.int .i64) (.nil)
noncomputable def Γ20 (k56 : Den A56 → Bool) (g56 : Den A56 → Den R56) : Env := mkEnv tab eqs [(56, fnMean A56 R56 k56 g56)] 12 [.tmp 4] [] [] [] [] []
def r20 (k56 : Den A56 → Bool) (g56 : Den A56 → Den R56) (x : Den A20) : Option (Den R20) :=
  let v0 := (k56 (x.fst.snd.fst, x.snd))
  bif (v0) then
    let v1 := (g56 (x.fst.snd.fst, x.snd))
    bif (decide (v1.fst < 0)) then
      some ((-1), ())
    else
      some ((v1.1), ())
  else
    none
theorem ev20 (k56 : Den A56 → Bool) (g56 : Den A56 → Den R56) (x : Den A20) : callK (Γ20 k56 g56) (bodyOf Try.f20) (decR R20) (encA A20 x) [] = r20 k56 g56 x := by kernel_rfl
def F20 (x : Den A20) : Option (Den R20) := r20 K56 G56 x
def K20 (x : Den A20) : Bool := (F20 x).isSome
def G20 (x : Den A20) : Den R20 := (F20 x).getD (zero R20)
theorem env20 : EnvOK Try.prog (Γ20 K56 G56) := env_ok mixed tab_ok eqs_ok (.cons sem56 .nil)
theorem is20 : FnIs Try.prog 20 (Γ20 K56 G56) (bodyOf Try.f20) := fnIs Try.func20 rfl rfl rfl (by kernel_rfl) (noLoops (by kernel_rfl))
theorem sem20 : SemOK Try.prog (20, fnMean A20 R20 K20 G20) := fn_opt env20 is20 fun x => ev20 K56 G56 x

/- "loop.example/g03321/laws.toLine" -/
abbrev A59 : Ty := .cons (S35) (.nil)
abbrev R59 : Ty := .cons (S42) (.nil)
noncomputable def Γ59 (k14 : Den A14 → Bool) (g14 : Den A14 → Den R14) : Env := mkEnv tab eqs [(14, fnMean A14 R14 k14 g14)] 13 [.cell 2 43] [] [] [] [] []
def r59 (k14 : Den A14 → Bool) (g14 : Den A14 → Den R14) (x : Den A59) : Option (Den R59) :=
  let v0 := (k14 (x.fst.fst, ()))
  bif (v0) then
    let v1 := (k14 x.fst.snd)
    bif (v1) then
      let v2 := (g14 (x.fst.fst, ()))
      let v3 := (g14 x.fst.snd)
      some ((((v2.fst.1), ((v2.fst.snd.1), ())), (((v3.fst.1), ((v3.fst.snd.1), ())), ())), ())
    else
      none
  else
    none
theorem ev59 (k14 : Den A14 → Bool) (g14 : Den A14 → Den R14) (x : Den A59) : callK (Γ59 k14 g14) (bodyOf Try.f59) (decR R59) (encA A59 x) [] = r59 k14 g14 x := by kernel_rfl
def F59 (x : Den A59) : Option (Den R59) := r59 K14 G14 x
def K59 (x : Den A59) : Bool := (F59 x).isSome
def G59 (x : Den A59) : Den R59 := (F59 x).getD (zero R59)
theorem env59 : EnvOK Try.prog (Γ59 K14 G14) := env_ok mixed tab_ok eqs_ok (.cons sem14 .nil)
theorem is59 : FnIs Try.prog 59 (Γ59 K14 G14) (bodyOf Try.f59) := fnIs Try.func59 rfl rfl rfl (by kernel_rfl) (noLoops (by kernel_rfl))
theorem sem59 : SemOK Try.prog (59, fnMean A59 R59 K59 G59) := fn_opt env59 is59 fun x => ev59 K14 G14 x

/- "loop.example/g03321/laws.toMark" -/
abbrev A86 : Ty := .cons (S114) (.nil)
abbrev R86 : Ty := .cons (S82) (.nil)
noncomputable def Γ86 (k14 : Den A14 → Bool) (g14 : Den A14 → Den R14) : Env := mkEnv tab eqs [(14, fnMean A14 R14 k14 g14)] 12 [.cell 2 83] [] [] [] [] []
def r86 (k14 : Den A14 → Bool) (g14 : Den A14 → Den R14) (x : Den A86) : Option (Den R86) :=
  let v0 := (k14 (x.fst.fst, ()))
  bif (v0) then
    let v1 := (g14 (x.fst.fst, ()))
    some ((((v1.fst.1), ((v1.fst.snd.1), ())), ((x.fst.snd.1), ())), ())
  else
    none
theorem ev86 (k14 : Den A14 → Bool) (g14 : Den A14 → Den R14) (x : Den A86) : callK (Γ86 k14 g14) (bodyOf Try.f86) (decR R86) (encA A86 x) [] = r86 k14 g14 x := by kernel_rfl
def F86 (x : Den A86) : Option (Den R86) := r86 K14 G14 x
def K86 (x : Den A86) : Bool := (F86 x).isSome
def G86 (x : Den A86) : Den R86 := (F86 x).getD (zero R86)
theorem env86 : EnvOK Try.prog (Γ86 K14 G14) := env_ok mixed tab_ok eqs_ok (.cons sem14 .nil)
theorem is86 : FnIs Try.prog 86 (Γ86 K14 G14) (bodyOf Try.f86) := fnIs Try.func86 rfl rfl rfl (by kernel_rfl) (noLoops (by kernel_rfl))
theorem sem86 : SemOK Try.prog (86, fnMean A86 R86 K86 G86) := fn_opt env86 is86 fun x => ev86 K14 G14 x

/- "loop.example/g03321/laws.toMarkS" mode S false -/
abbrev I60 : Sg := ⟨[.val (.slice (S114))], []⟩
abbrev O60 : Sg := ⟨[.own (S82) 0], [.arr (S82)]⟩
abbrev V60_3 : Type := (((List (Den (S82))) × (Unit × (Int × Unit))) × ((List (Den (S82))) × Unit))
def sh60_3 : ShS := ⟨[(0, .one (.sl (S82))), (3, .one (.ref (S82) 0)), (4, .one (.int .i64))], [(0, .arr (S82))], 1, 0⟩
abbrev X60_3 : Type := ((Unit × Unit) × ((List (Den (S82))) × Unit))
def shX60_3 : ShS := ⟨[(3, .one (.ref (S82) 0))], [(0, .arr (S82))], 1, 0⟩
noncomputable def Γ60 (k86 : Den A86 → Bool) (g86 : Den A86 → Den R86) (kl3 : V60_3 → Bool) (xl3 : V60_3 → X60_3) : Env := mkEnv tab eqs [(86, fnMean A86 R86 k86 g86)] 23 [.tmp 2] [] [] [(3, loopX [0, 3, 4] [] 0 [3] [] sh60_3 shX60_3 kl3 xl3)] [] []
noncomputable def lc60_3 : Code := (loopsOf (bodyOf Try.f60)).getD 0 .skip
def q60_3 (k86 : Den A86 → Bool) (g86 : Den A86 → Den R86) (f : V60_3 → Option (X60_3)) (v : V60_3) : Option (X60_3) :=
  bif (decide (v.fst.snd.snd.fst < (↑(List.length v.fst.fst) : Int))) then
    bif (decide (0 ≤ v.fst.snd.snd.fst) && decide (v.fst.snd.snd.fst < (↑(List.length v.fst.fst) : Int))) then
      let v0 := (List.getD v.fst.fst (Int.toNat v.fst.snd.snd.fst) (zero S82))
      let v1 := (k86 (v0, ()))
      bif (v1) then
        bif (decide (0 ≤ v.fst.snd.snd.fst) && decide (v.fst.snd.snd.fst < (↑(List.length v.snd.fst) : Int))) then
          let v2 := (IntKind.wrap IntKind.i64 (v.fst.snd.snd.fst + 1))
          let v3 := (g86 (v0, ()))
          let v4 := (List.set v.snd.fst (Int.toNat v.fst.snd.snd.fst) v3.fst)
          f (((v.fst.1), ((), ((v2), ()))), ((v4), ()))
        else
          none
      else
        none
    else
      none
  else
    some (((), ()), ((v.snd.1), ()))
theorem evl60_3 (k86 : Den A86 → Bool) (g86 : Den A86 → Den R86) (kl3 : V60_3 → Bool) (xl3 : V60_3 → X60_3) (f : V60_3 → Option (X60_3)) (v : V60_3) : EBk (Γ60 k86 g86 kl3 xl3) lc60_3 (roundK [0, 3, 4] [] 0 [3] [] (atS sh60_3 f) (endX shX60_3)) (mkS sh60_3 v) = q60_3 k86 g86 f v := by kernel_rfl
def b60_3 (v : V60_3) : Nat := v.1.1.length + v.1.2.2.1.natAbs + v.2.1.length + 1000
def l60_3 (v : V60_3) : Option (X60_3) := iter (q60_3 K86 G86) (b60_3 v) v
def kL60_3 (v : V60_3) : Bool := (l60_3 v).isSome
def xL60_3 (v : V60_3) : X60_3 := (l60_3 v).getD (((), ()), ([], ()))
def r60 (k86 : Den A86 → Bool) (g86 : Den A86 → Den R86) (kl3 : V60_3 → Bool) (xl3 : V60_3 → X60_3) (x : I60.den) : Option (O60.den) :=
  bif (decide (0 ≤ (↑(List.length x.fst.fst) : Int)) && capOk (Int.toNat (↑(List.length x.fst.fst) : Int)) && (↑(List.length x.fst.fst) : Int) == (↑(List.length x.fst.fst) : Int)) then
    let v0 := (kl3 ((x.fst.fst, (), 0, ()), List.replicate (Int.toNat (↑(List.length x.fst.fst) : Int)) (zero S82), ()))
    bif (v0) then
      let v1 := (xl3 ((x.fst.fst, (), 0, ()), List.replicate (Int.toNat (↑(List.length x.fst.fst) : Int)) (zero S82), ()))
      some (((), ()), ((v1.snd.1), ()))
    else
      none
  else
    none
theorem ev60 (k86 : Den A86 → Bool) (g86 : Den A86 → Den R86) (kl3 : V60_3 → Bool) (xl3 : V60_3 → X60_3) (x : I60.den) : callS (Γ60 k86 g86 kl3 xl3) (bodyOf Try.f60) I60 O60 x = r60 k86 g86 kl3 xl3 x := by kernel_rfl
def F60 (x : I60.den) : Option (O60.den) := r60 K86 G86 kL60_3 xL60_3 x
def K60 (x : I60.den) : Bool := (F60 x).isSome
def G60 (x : I60.den) : O60.den := (F60 x).getD (zeroSg O60)
theorem env60 : EnvOK Try.prog (Γ60 K86 G86 kL60_3 xL60_3) := env_ok mixed tab_ok eqs_ok (.cons sem86 .nil)
theorem is60 : FnIs Try.prog 60 (Γ60 K86 G86 kL60_3 xL60_3) (bodyOf Try.f60) := fnIs Try.func60 rfl rfl rfl (by kernel_rfl) (loops_ok (l := [lc60_3]) (by kernel_rfl) (.cons (one_loop rfl (loopX_sound (sh := sh60_3) (shX := shX60_3) (fun f v => evl60_3 K86 G86 kL60_3 xL60_3 f v) b60_3 (((), ()), ([], ())))) (.nil)))
theorem sem60 : SemOK Try.prog (60, sgMean false I60 O60 K60 G60) := sg_opt env60 is60 false fun x => ev60 K86 G86 kL60_3 xL60_3 x

/- "loop.example/g03321/laws.toCourse" mode S false -/
abbrev I22 : Sg := ⟨[.val (S38)], []⟩
abbrev O22 : Sg := ⟨[.mix [.int .i64, .int .i64, .int .i64, .int .i64, .ref (S82) 0, .int .i64, .int .i64, .int .i64, .int .i64]], [.arr (S82)]⟩
noncomputable def Γ22 (k59 : Den A59 → Bool) (g59 : Den A59 → Den R59) (k60 : I60.den → Bool) (g60 : I60.den → O60.den) : Env := mkEnv tab eqs [(59, fnMean A59 R59 k59 g59), (60, sgMean false I60 O60 k60 g60)] 17 [.cell 2 46] [] [] [] [] []
def r22 (k59 : Den A59 → Bool) (g59 : Den A59 → Den R59) (k60 : I60.den → Bool) (g60 : I60.den → O60.den) (x : I22.den) : Option (O22.den) :=
  let v0 := (k59 (x.fst.fst.fst, ()))
  bif (v0) then
    let v1 := (k60 ((x.fst.fst.snd.fst, ()), ()))
    bif (v1) then
      let v2 := (k59 x.fst.fst.snd.snd)
      bif (v2) then
        let v3 := (g59 (x.fst.fst.fst, ()))
        let v4 := (g59 x.fst.fst.snd.snd)
        let v5 := (g60 ((x.fst.fst.snd.fst, ()), ()))
        some ((((v3.fst.fst.1), ((v3.fst.fst.snd.1), ((v3.fst.snd.fst.1), ((v3.fst.snd.fst.snd.1), ((), ((v4.fst.fst.1), ((v4.fst.fst.snd.1), ((v4.fst.snd.fst.1), ((v4.fst.snd.fst.snd.1), ()))))))))), ()), ((v5.snd.1), ()))
      else
        none
    else
      none
  else
    none
theorem ev22 (k59 : Den A59 → Bool) (g59 : Den A59 → Den R59) (k60 : I60.den → Bool) (g60 : I60.den → O60.den) (x : I22.den) : callS (Γ22 k59 g59 k60 g60) (bodyOf Try.f22) I22 O22 x = r22 k59 g59 k60 g60 x := by kernel_rfl
def F22 (x : I22.den) : Option (O22.den) := r22 K59 G59 K60 G60 x
def K22 (x : I22.den) : Bool := (F22 x).isSome
def G22 (x : I22.den) : O22.den := (F22 x).getD (zeroSg O22)
theorem env22 : EnvOK Try.prog (Γ22 K59 G59 K60 G60) := env_ok mixed tab_ok eqs_ok (.cons sem59 (.cons sem60 .nil))
theorem is22 : FnIs Try.prog 22 (Γ22 K59 G59 K60 G60) (bodyOf Try.f22) := fnIs Try.func22 rfl rfl rfl (by kernel_rfl) (noLoops (by kernel_rfl))
theorem sem22 : SemOK Try.prog (22, sgMean false I22 O22 K22 G22) := sg_opt env22 is22 false fun x => ev22 K59 G59 K60 G60 x

/- "loop.example/g03321/spec.LineOk" -/
abbrev A57 : Ty := .cons (S42) (.nil)
abbrev R57 : Ty := .cons (.bool) (.nil)
noncomputable def Γ57 (k18 : Den A18 → Bool) (g18 : Den A18 → Den R18) : Env := mkEnv tab eqs [(18, fnMean A18 R18 k18 g18)] 18 [.tmp 2] [] [] [] [] []
def r57 (k18 : Den A18 → Bool) (g18 : Den A18 → Den R18) (x : Den A57) : Option (Den R57) :=
  let v0 := (k18 (x.fst.fst, ()))
  bif (v0) then
    let v1 := (g18 (x.fst.fst, ()))
    bif (v1.1) then
      let v2 := (k18 x.fst.snd)
      bif (v2) then
        let v3 := (g18 x.fst.snd)
        bif (v3.1) then
          some ((!(x.fst.fst.fst == x.fst.snd.fst.fst && x.fst.fst.snd.fst == x.fst.snd.fst.snd.fst)), ())
        else
          some ((false), ())
      else
        none
    else
      some ((false), ())
  else
    none
theorem ev57 (k18 : Den A18 → Bool) (g18 : Den A18 → Den R18) (x : Den A57) : callK (Γ57 k18 g18) (bodyOf Try.f57) (decR R57) (encA A57 x) [] = r57 k18 g18 x := by kernel_rfl
def F57 (x : Den A57) : Option (Den R57) := r57 K18 G18 x
def K57 (x : Den A57) : Bool := (F57 x).isSome
def G57 (x : Den A57) : Den R57 := (F57 x).getD (zero R57)
theorem env57 : EnvOK Try.prog (Γ57 K18 G18) := env_ok mixed tab_ok eqs_ok (.cons sem18 .nil)
theorem is57 : FnIs Try.prog 57 (Γ57 K18 G18) (bodyOf Try.f57) := fnIs Try.func57 rfl rfl rfl (by kernel_rfl) (noLoops (by kernel_rfl))
theorem sem57 : SemOK Try.prog (57, fnMean A57 R57 K57 G57) := fn_opt env57 is57 fun x => ev57 K18 G18 x

/- "loop.example/g03321/spec.l10Origin" -/
abbrev A58 : Ty := .cons (S45) (.cons (.int .i64) (.nil))
abbrev R58 : Ty := .cons (S22) (.nil)
noncomputable def Γ58 : Env := mkEnv tab eqs [] 17 [.cell 4 25] [] [] [] [] []
def r58 (x : Den A58) : Option (Den R58) :=
  bif (x.snd.fst == 0) then
    some (((x.fst.fst.fst.1), ((x.fst.fst.fst.snd.1), ())), ())
  else
    let v0 := (IntKind.wrap IntKind.i64 (x.snd.fst - 1))
    bif (decide (0 ≤ v0) && decide (v0 < (↑(List.length x.fst.snd.fst) : Int))) then
      let v1 := (List.getD x.fst.snd.fst (Int.toNat v0) (zero S82))
      some (((v1.fst.1), ((v1.fst.snd.1), ())), ())
    else
      none
theorem ev58 (x : Den A58) : callK (Γ58) (bodyOf Try.f58) (decR R58) (encA A58 x) [] = r58 x := by kernel_rfl
def F58 (x : Den A58) : Option (Den R58) := r58 x
def K58 (x : Den A58) : Bool := (F58 x).isSome
def G58 (x : Den A58) : Den R58 := (F58 x).getD (zero R58)
theorem env58 : EnvOK Try.prog (Γ58) := env_ok mixed tab_ok eqs_ok .nil
theorem is58 : FnIs Try.prog 58 (Γ58) (bodyOf Try.f58) := fnIs Try.func58 rfl rfl rfl (by kernel_rfl) (noLoops (by kernel_rfl))
theorem sem58 : SemOK Try.prog (58, fnMean A58 R58 K58 G58) := fn_opt env58 is58 fun x => ev58 x

/- "loop.example/g03321/spec.CourseOk" -/
abbrev A21 : Ty := .cons (S45) (.nil)
abbrev R21 : Ty := .cons (.bool) (.nil)
abbrev V21_4 : Type := ((Unit × (Int × Unit)) × ((Int × (Int × (Int × (Int × ((List (Den (S82))) × (Int × (Int × (Int × (Int × Unit))))))))) × Unit))
def sh21_4 : ShS := ⟨[(1, .one (.ptr 0 0)), (3, .one (.int .i64))], [(0, .box [.int .i64, .int .i64, .int .i64, .int .i64, .sl (S82), .int .i64, .int .i64, .int .i64, .int .i64])], 1, 0⟩
abbrev X21_4 : Type := (Unit × Unit)
def shX21_4 : ShS := ⟨[], [], 0, 0⟩
abbrev Y21_4 : Type := ((Bool × Unit) × Unit)
def shY21_4 : ShS := ⟨[(2, .one (.bool))], [], 0, 0⟩
noncomputable def Γ21 (k57 : Den A57 → Bool) (g57 : Den A57 → Den R57) (k55 : Den A55 → Bool) (g55 : Den A55 → Den R55) (k18 : Den A18 → Bool) (g18 : Den A18 → Den R18) (k58 : Den A58 → Bool) (g58 : Den A58 → Den R58) (kl4 : V21_4 → Bool) (xl4 : V21_4 → X21_4) (tl4 : V21_4 → Bool) (yl4 : V21_4 → Y21_4) : Env := mkEnv tab eqs [(57, fnMean A57 R57 k57 g57), (55, fnMean A55 R55 k55 g55), (18, fnMean A18 R18 k18 g18), (58, fnMean A58 R58 k58 g58)] 48 [.tmp 2] [] [] [(4, loopR [1, 3] [] 0 [] [] sh21_4 shX21_4 shY21_4 kl4 tl4 xl4 yl4)] [] []
noncomputable def lc21_4 : Code := (loopsOf (bodyOf Try.f21)).getD 0 .skip
def q21_4 (k57 : Den A57 → Bool) (g57 : Den A57 → Den R57) (k55 : Den A55 → Bool) (g55 : Den A55 → Den R55) (k18 : Den A18 → Bool) (g18 : Den A18 → Den R18) (k58 : Den A58 → Bool) (g58 : Den A58 → Den R58) (f : V21_4 → Option (X21_4 ⊕ Y21_4)) (v : V21_4) : Option (X21_4 ⊕ Y21_4) :=
  bif (decide (v.fst.snd.fst < (↑(List.length v.snd.fst.snd.snd.snd.snd.fst) : Int))) then
    bif (decide (0 ≤ v.fst.snd.fst) && decide (v.fst.snd.fst < (↑(List.length v.snd.fst.snd.snd.snd.snd.fst) : Int))) then
      let v0 := (List.getD v.snd.fst.snd.snd.snd.snd.fst (Int.toNat v.fst.snd.fst) (zero S82))
      let v1 := (k18 (v0.fst, ()))
      bif (v1) then
        let v2 := (g18 (v0.fst, ()))
        bif (!v2.fst) then
          some (Sum.inr (((false), ()), ()))
        else
          bif (decide (0 ≤ v.fst.snd.fst) && decide (v.fst.snd.fst < (↑(List.length v.snd.fst.snd.snd.snd.snd.fst) : Int))) then
            let v3 := (k58 ((((v.snd.fst.fst, v.snd.fst.snd.fst, ()), (v.snd.fst.snd.snd.fst, v.snd.fst.snd.snd.snd.fst, ()), ()), v.snd.fst.snd.snd.snd.snd.fst, ((v.snd.fst.snd.snd.snd.snd.snd.fst, v.snd.fst.snd.snd.snd.snd.snd.snd.fst, ()), v.snd.fst.snd.snd.snd.snd.snd.snd.snd, ()), ()), v.fst.snd))
            bif (v3) then
              let v4 := (g58 ((((v.snd.fst.fst, v.snd.fst.snd.fst, ()), (v.snd.fst.snd.snd.fst, v.snd.fst.snd.snd.snd.fst, ()), ()), v.snd.fst.snd.snd.snd.snd.fst, ((v.snd.fst.snd.snd.snd.snd.snd.fst, v.snd.fst.snd.snd.snd.snd.snd.snd.fst, ()), v.snd.fst.snd.snd.snd.snd.snd.snd.snd, ()), ()), v.fst.snd))
              bif (v0.fst.fst == v4.fst.fst && v0.fst.snd.fst == v4.fst.snd.fst) then
                some (Sum.inr (((false), ()), ()))
              else
                let v5 := (IntKind.wrap IntKind.i64 (v.fst.snd.fst + 1))
                f (((), ((v5), ())), (((v.snd.fst.1), ((v.snd.fst.snd.1), ((v.snd.fst.snd.snd.1), ((v.snd.fst.snd.snd.snd.1), ((v.snd.fst.snd.snd.snd.snd.1), ((v.snd.fst.snd.snd.snd.snd.snd.1), ((v.snd.fst.snd.snd.snd.snd.snd.snd.1), ((v.snd.fst.snd.snd.snd.snd.snd.snd.snd.1), ((v.snd.fst.snd.snd.snd.snd.snd.snd.snd.snd.1), ()))))))))), ()))
            else
              none
          else
            none
      else
        none
    else
      none
  else
    some (Sum.inl ((), ()))
theorem evl21_4 (k57 : Den A57 → Bool) (g57 : Den A57 → Den R57) (k55 : Den A55 → Bool) (g55 : Den A55 → Den R55) (k18 : Den A18 → Bool) (g18 : Den A18 → Den R18) (k58 : Den A58 → Bool) (g58 : Den A58 → Den R58) (kl4 : V21_4 → Bool) (xl4 : V21_4 → X21_4) (tl4 : V21_4 → Bool) (yl4 : V21_4 → Y21_4) (f : V21_4 → Option (X21_4 ⊕ Y21_4)) (v : V21_4) : EBk (Γ21 k57 g57 k55 g55 k18 g18 k58 g58 kl4 xl4 tl4 yl4) lc21_4 (roundK [1, 3] [] 0 [] [] (atS sh21_4 f) (endS shX21_4 shY21_4)) (mkS sh21_4 v) = q21_4 k57 g57 k55 g55 k18 g18 k58 g58 f v := by kernel_rfl
def b21_4 (v : V21_4) : Nat := v.1.2.1.natAbs + v.2.1.1.natAbs + v.2.1.2.1.natAbs + v.2.1.2.2.1.natAbs + v.2.1.2.2.2.1.natAbs + v.2.1.2.2.2.2.1.length + v.2.1.2.2.2.2.2.1.natAbs + v.2.1.2.2.2.2.2.2.1.natAbs + v.2.1.2.2.2.2.2.2.2.1.natAbs + v.2.1.2.2.2.2.2.2.2.2.1.natAbs + 1000
def l21_4 (v : V21_4) : Option (X21_4 ⊕ Y21_4) := iter (q21_4 K57 G57 K55 G55 K18 G18 K58 G58) (b21_4 v) v
def kL21_4 (v : V21_4) : Bool := (l21_4 v).isSome
def tL21_4 (v : V21_4) : Bool := isR (l21_4 v)
def xL21_4 (v : V21_4) : X21_4 := xOf ((), ()) (l21_4 v)
def yL21_4 (v : V21_4) : Y21_4 := yOf ((false, ()), ()) (l21_4 v)
def r21 (k57 : Den A57 → Bool) (g57 : Den A57 → Den R57) (k55 : Den A55 → Bool) (g55 : Den A55 → Den R55) (k18 : Den A18 → Bool) (g18 : Den A18 → Den R18) (k58 : Den A58 → Bool) (g58 : Den A58 → Den R58) (kl4 : V21_4 → Bool) (xl4 : V21_4 → X21_4) (tl4 : V21_4 → Bool) (yl4 : V21_4 → Y21_4) (x : Den A21) : Option (Den R21) :=
  let v0 := (k57 (x.fst.fst, ()))
  bif (v0) then
    let v1 := (g57 (x.fst.fst, ()))
    bif (!v1.fst) then
      some ((false), ())
    else
      let v2 := (k57 x.fst.snd.snd)
      bif (v2) then
        let v3 := (g57 x.fst.snd.snd)
        bif (!v3.fst) then
          some ((false), ())
        else
          let v4 := (k55 ((↑(List.length x.fst.snd.fst) : Int), 1, 20, ()))
          bif (v4) then
            let v5 := (g55 ((↑(List.length x.fst.snd.fst) : Int), 1, 20, ()))
            bif (!v5.fst) then
              some ((false), ())
            else
              let v6 := (kl4 (((), 0, ()), (x.fst.fst.fst.fst, x.fst.fst.fst.snd.fst, x.fst.fst.snd.fst.fst, x.fst.fst.snd.fst.snd.fst, x.fst.snd.fst, x.fst.snd.snd.fst.fst.fst, x.fst.snd.snd.fst.fst.snd.fst, x.fst.snd.snd.fst.snd.fst), ()))
              bif (v6) then
                let v7 := (tl4 (((), 0, ()), (x.fst.fst.fst.fst, x.fst.fst.fst.snd.fst, x.fst.fst.snd.fst.fst, x.fst.fst.snd.fst.snd.fst, x.fst.snd.fst, x.fst.snd.snd.fst.fst.fst, x.fst.snd.snd.fst.fst.snd.fst, x.fst.snd.snd.fst.snd.fst), ()))
                bif (v7) then
                  let v8 := (yl4 (((), 0, ()), (x.fst.fst.fst.fst, x.fst.fst.fst.snd.fst, x.fst.fst.snd.fst.fst, x.fst.fst.snd.fst.snd.fst, x.fst.snd.fst, x.fst.snd.snd.fst.fst.fst, x.fst.snd.snd.fst.fst.snd.fst, x.fst.snd.snd.fst.snd.fst), ()))
                  some ((v8.fst.1), ())
                else
                  some ((true), ())
              else
                none
          else
            none
      else
        none
  else
    none
theorem ev21 (k57 : Den A57 → Bool) (g57 : Den A57 → Den R57) (k55 : Den A55 → Bool) (g55 : Den A55 → Den R55) (k18 : Den A18 → Bool) (g18 : Den A18 → Den R18) (k58 : Den A58 → Bool) (g58 : Den A58 → Den R58) (kl4 : V21_4 → Bool) (xl4 : V21_4 → X21_4) (tl4 : V21_4 → Bool) (yl4 : V21_4 → Y21_4) (x : Den A21) : callK (Γ21 k57 g57 k55 g55 k18 g18 k58 g58 kl4 xl4 tl4 yl4) (bodyOf Try.f21) (decR R21) (encA A21 x) [] = r21 k57 g57 k55 g55 k18 g18 k58 g58 kl4 xl4 tl4 yl4 x := by kernel_rfl
def F21 (x : Den A21) : Option (Den R21) := r21 K57 G57 K55 G55 K18 G18 K58 G58 kL21_4 xL21_4 tL21_4 yL21_4 x
def K21 (x : Den A21) : Bool := (F21 x).isSome
def G21 (x : Den A21) : Den R21 := (F21 x).getD (zero R21)
theorem env21 : EnvOK Try.prog (Γ21 K57 G57 K55 G55 K18 G18 K58 G58 kL21_4 xL21_4 tL21_4 yL21_4) := env_ok mixed tab_ok eqs_ok (.cons sem57 (.cons sem55 (.cons sem18 (.cons sem58 .nil))))
theorem is21 : FnIs Try.prog 21 (Γ21 K57 G57 K55 G55 K18 G18 K58 G58 kL21_4 xL21_4 tL21_4 yL21_4) (bodyOf Try.f21) := fnIs Try.func21 rfl rfl rfl (by kernel_rfl) (loops_ok (l := [lc21_4]) (by kernel_rfl) (.cons (one_loop rfl (loopR_sound (sh := sh21_4) (shX := shX21_4) (shR := shY21_4) (fun f v => evl21_4 K57 G57 K55 G55 K18 G18 K58 G58 kL21_4 xL21_4 tL21_4 yL21_4 f v) b21_4 ((), ()) ((false, ()), ()))) (.nil)))
theorem sem21 : SemOK Try.prog (21, fnMean A21 R21 K21 G21) := fn_opt env21 is21 fun x => ev21 K57 G57 K55 G55 K18 G18 K58 G58 kL21_4 xL21_4 tL21_4 yL21_4 x

/- "loop.example/g03321/impl.LineOk" -/
abbrev A61 : Ty := .cons (S42) (.nil)
abbrev R61 : Ty := .cons (.bool) (.nil)
noncomputable def Γ61 (k48 : Den A48 → Bool) (g48 : Den A48 → Den R48) : Env := mkEnv tab eqs [(48, fnMean A48 R48 k48 g48)] 18 [.tmp 2] [] [] [] [] []
def r61 (k48 : Den A48 → Bool) (g48 : Den A48 → Den R48) (x : Den A61) : Option (Den R61) :=
  let v0 := (k48 (x.fst.fst, ()))
  bif (v0) then
    let v1 := (g48 (x.fst.fst, ()))
    bif (v1.1) then
      let v2 := (k48 x.fst.snd)
      bif (v2) then
        let v3 := (g48 x.fst.snd)
        bif (v3.1) then
          some ((!(x.fst.fst.fst == x.fst.snd.fst.fst && x.fst.fst.snd.fst == x.fst.snd.fst.snd.fst)), ())
        else
          some ((false), ())
      else
        none
    else
      some ((false), ())
  else
    none
theorem ev61 (k48 : Den A48 → Bool) (g48 : Den A48 → Den R48) (x : Den A61) : callK (Γ61 k48 g48) (bodyOf Try.f61) (decR R61) (encA A61 x) [] = r61 k48 g48 x := by kernel_rfl
def F61 (x : Den A61) : Option (Den R61) := r61 K48 G48 x
def K61 (x : Den A61) : Bool := (F61 x).isSome
def G61 (x : Den A61) : Den R61 := (F61 x).getD (zero R61)
theorem env61 : EnvOK Try.prog (Γ61 K48 G48) := env_ok mixed tab_ok eqs_ok (.cons sem48 .nil)
theorem is61 : FnIs Try.prog 61 (Γ61 K48 G48) (bodyOf Try.f61) := fnIs Try.func61 rfl rfl rfl (by kernel_rfl) (noLoops (by kernel_rfl))
theorem sem61 : SemOK Try.prog (61, fnMean A61 R61 K61 G61) := fn_opt env61 is61 fun x => ev61 K48 G48 x

/- "(loop.example/g03321/impl.Course).origin" -/
abbrev A63 : Ty := .cons (S45) (.cons (.int .i64) (.nil))
abbrev R63 : Ty := .cons (S22) (.nil)
noncomputable def Γ63 : Env := mkEnv tab eqs [] 17 [.cell 4 25] [] [] [] [] []
def r63 (x : Den A63) : Option (Den R63) :=
  bif (x.snd.fst == 0) then
    some (((x.fst.fst.fst.1), ((x.fst.fst.fst.snd.1), ())), ())
  else
    let v0 := (IntKind.wrap IntKind.i64 (x.snd.fst - 1))
    bif (decide (0 ≤ v0) && decide (v0 < (↑(List.length x.fst.snd.fst) : Int))) then
      let v1 := (List.getD x.fst.snd.fst (Int.toNat v0) (zero S82))
      some (((v1.fst.1), ((v1.fst.snd.1), ())), ())
    else
      none
theorem ev63 (x : Den A63) : callK (Γ63) (bodyOf Try.f63) (decR R63) (encA A63 x) [] = r63 x := by kernel_rfl
def F63 (x : Den A63) : Option (Den R63) := r63 x
def K63 (x : Den A63) : Bool := (F63 x).isSome
def G63 (x : Den A63) : Den R63 := (F63 x).getD (zero R63)
theorem env63 : EnvOK Try.prog (Γ63) := env_ok mixed tab_ok eqs_ok .nil
theorem is63 : FnIs Try.prog 63 (Γ63) (bodyOf Try.f63) := fnIs Try.func63 rfl rfl rfl (by kernel_rfl) (noLoops (by kernel_rfl))
theorem sem63 : SemOK Try.prog (63, fnMean A63 R63 K63 G63) := fn_opt env63 is63 fun x => ev63 x

/- "loop.example/g03321/impl.CourseOk" -/
abbrev A23 : Ty := .cons (S45) (.nil)
abbrev R23 : Ty := .cons (.bool) (.nil)
abbrev V23_4 : Type := ((Unit × ((List (Den (S82))) × (Int × (Int × Unit)))) × ((Int × (Int × (Int × (Int × ((List (Den (S82))) × (Int × (Int × (Int × (Int × Unit))))))))) × Unit))
def sh23_4 : ShS := ⟨[(1, .one (.ptr 0 0)), (23, .one (.sl (S82))), (24, .one (.int .i64)), (25, .one (.int .i64))], [(0, .box [.int .i64, .int .i64, .int .i64, .int .i64, .sl (S82), .int .i64, .int .i64, .int .i64, .int .i64])], 1, 0⟩
abbrev X23_4 : Type := (Unit × Unit)
def shX23_4 : ShS := ⟨[], [], 0, 0⟩
abbrev Y23_4 : Type := ((Bool × Unit) × Unit)
def shY23_4 : ShS := ⟨[(2, .one (.bool))], [], 0, 0⟩
noncomputable def Γ23 (k61 : Den A61 → Bool) (g61 : Den A61 → Den R61) (k62 : Den A62 → Bool) (g62 : Den A62 → Den R62) (k48 : Den A48 → Bool) (g48 : Den A48 → Den R48) (k63 : Den A63 → Bool) (g63 : Den A63 → Den R63) (kl4 : V23_4 → Bool) (xl4 : V23_4 → X23_4) (tl4 : V23_4 → Bool) (yl4 : V23_4 → Y23_4) : Env := mkEnv tab eqs [(61, fnMean A61 R61 k61 g61), (62, fnMean A62 R62 k62 g62), (48, fnMean A48 R48 k48 g48), (63, fnMean A63 R63 k63 g63)] 43 [.tmp 2] [] [] [(4, loopR [1, 23, 24, 25] [] 0 [] [] sh23_4 shX23_4 shY23_4 kl4 tl4 xl4 yl4)] [] []
noncomputable def lc23_4 : Code := (loopsOf (bodyOf Try.f23)).getD 0 .skip
def q23_4 (k61 : Den A61 → Bool) (g61 : Den A61 → Den R61) (k62 : Den A62 → Bool) (g62 : Den A62 → Den R62) (k48 : Den A48 → Bool) (g48 : Den A48 → Den R48) (k63 : Den A63 → Bool) (g63 : Den A63 → Den R63) (f : V23_4 → Option (X23_4 ⊕ Y23_4)) (v : V23_4) : Option (X23_4 ⊕ Y23_4) :=
  bif (decide (v.fst.snd.snd.snd.fst < v.fst.snd.snd.fst)) then
    bif (decide (0 ≤ v.fst.snd.snd.snd.fst) && decide (v.fst.snd.snd.snd.fst < (↑(List.length v.fst.snd.fst) : Int))) then
      let v0 := (List.getD v.fst.snd.fst (Int.toNat v.fst.snd.snd.snd.fst) (zero S82))
      let v1 := (k48 (v0.fst, ()))
      bif (v1) then
        let v2 := (g48 (v0.fst, ()))
        bif (!v2.fst) then
          some (Sum.inr (((false), ()), ()))
        else
          let v3 := (k63 ((((v.snd.fst.fst, v.snd.fst.snd.fst, ()), (v.snd.fst.snd.snd.fst, v.snd.fst.snd.snd.snd.fst, ()), ()), v.snd.fst.snd.snd.snd.snd.fst, ((v.snd.fst.snd.snd.snd.snd.snd.fst, v.snd.fst.snd.snd.snd.snd.snd.snd.fst, ()), v.snd.fst.snd.snd.snd.snd.snd.snd.snd, ()), ()), v.fst.snd.snd.snd))
          bif (v3) then
            let v4 := (g63 ((((v.snd.fst.fst, v.snd.fst.snd.fst, ()), (v.snd.fst.snd.snd.fst, v.snd.fst.snd.snd.snd.fst, ()), ()), v.snd.fst.snd.snd.snd.snd.fst, ((v.snd.fst.snd.snd.snd.snd.snd.fst, v.snd.fst.snd.snd.snd.snd.snd.snd.fst, ()), v.snd.fst.snd.snd.snd.snd.snd.snd.snd, ()), ()), v.fst.snd.snd.snd))
            bif (v0.fst.fst == v4.fst.fst && v0.fst.snd.fst == v4.fst.snd.fst) then
              some (Sum.inr (((false), ()), ()))
            else
              let v5 := (IntKind.wrap IntKind.i64 (v.fst.snd.snd.snd.fst + 1))
              f (((), ((v.fst.snd.1), ((v.fst.snd.snd.1), ((v5), ())))), (((v.snd.fst.1), ((v.snd.fst.snd.1), ((v.snd.fst.snd.snd.1), ((v.snd.fst.snd.snd.snd.1), ((v.snd.fst.snd.snd.snd.snd.1), ((v.snd.fst.snd.snd.snd.snd.snd.1), ((v.snd.fst.snd.snd.snd.snd.snd.snd.1), ((v.snd.fst.snd.snd.snd.snd.snd.snd.snd.1), ((v.snd.fst.snd.snd.snd.snd.snd.snd.snd.snd.1), ()))))))))), ()))
          else
            none
      else
        none
    else
      none
  else
    some (Sum.inl ((), ()))
theorem evl23_4 (k61 : Den A61 → Bool) (g61 : Den A61 → Den R61) (k62 : Den A62 → Bool) (g62 : Den A62 → Den R62) (k48 : Den A48 → Bool) (g48 : Den A48 → Den R48) (k63 : Den A63 → Bool) (g63 : Den A63 → Den R63) (kl4 : V23_4 → Bool) (xl4 : V23_4 → X23_4) (tl4 : V23_4 → Bool) (yl4 : V23_4 → Y23_4) (f : V23_4 → Option (X23_4 ⊕ Y23_4)) (v : V23_4) : EBk (Γ23 k61 g61 k62 g62 k48 g48 k63 g63 kl4 xl4 tl4 yl4) lc23_4 (roundK [1, 23, 24, 25] [] 0 [] [] (atS sh23_4 f) (endS shX23_4 shY23_4)) (mkS sh23_4 v) = q23_4 k61 g61 k62 g62 k48 g48 k63 g63 f v := by kernel_rfl
def b23_4 (v : V23_4) : Nat := v.1.2.1.length + v.1.2.2.1.natAbs + v.1.2.2.2.1.natAbs + v.2.1.1.natAbs + v.2.1.2.1.natAbs + v.2.1.2.2.1.natAbs + v.2.1.2.2.2.1.natAbs + v.2.1.2.2.2.2.1.length + v.2.1.2.2.2.2.2.1.natAbs + v.2.1.2.2.2.2.2.2.1.natAbs + v.2.1.2.2.2.2.2.2.2.1.natAbs + v.2.1.2.2.2.2.2.2.2.2.1.natAbs + 1000
def l23_4 (v : V23_4) : Option (X23_4 ⊕ Y23_4) := iter (q23_4 K61 G61 K62 G62 K48 G48 K63 G63) (b23_4 v) v
def kL23_4 (v : V23_4) : Bool := (l23_4 v).isSome
def tL23_4 (v : V23_4) : Bool := isR (l23_4 v)
def xL23_4 (v : V23_4) : X23_4 := xOf ((), ()) (l23_4 v)
def yL23_4 (v : V23_4) : Y23_4 := yOf ((false, ()), ()) (l23_4 v)
def r23 (k61 : Den A61 → Bool) (g61 : Den A61 → Den R61) (k62 : Den A62 → Bool) (g62 : Den A62 → Den R62) (k48 : Den A48 → Bool) (g48 : Den A48 → Den R48) (k63 : Den A63 → Bool) (g63 : Den A63 → Den R63) (kl4 : V23_4 → Bool) (xl4 : V23_4 → X23_4) (tl4 : V23_4 → Bool) (yl4 : V23_4 → Y23_4) (x : Den A23) : Option (Den R23) :=
  let v0 := (k61 (x.fst.fst, ()))
  bif (v0) then
    let v1 := (g61 (x.fst.fst, ()))
    bif (!v1.fst) then
      some ((false), ())
    else
      let v2 := (k61 x.fst.snd.snd)
      bif (v2) then
        let v3 := (g61 x.fst.snd.snd)
        bif (!v3.fst) then
          some ((false), ())
        else
          let v4 := (k62 ((↑(List.length x.fst.snd.fst) : Int), 1, 20, ()))
          bif (v4) then
            let v5 := (g62 ((↑(List.length x.fst.snd.fst) : Int), 1, 20, ()))
            bif (!v5.fst) then
              some ((false), ())
            else
              let v6 := (kl4 (((), x.fst.snd.fst, (↑(List.length x.fst.snd.fst) : Int), 0, ()), (x.fst.fst.fst.fst, x.fst.fst.fst.snd.fst, x.fst.fst.snd.fst.fst, x.fst.fst.snd.fst.snd.fst, x.fst.snd.fst, x.fst.snd.snd.fst.fst.fst, x.fst.snd.snd.fst.fst.snd.fst, x.fst.snd.snd.fst.snd.fst), ()))
              bif (v6) then
                let v7 := (tl4 (((), x.fst.snd.fst, (↑(List.length x.fst.snd.fst) : Int), 0, ()), (x.fst.fst.fst.fst, x.fst.fst.fst.snd.fst, x.fst.fst.snd.fst.fst, x.fst.fst.snd.fst.snd.fst, x.fst.snd.fst, x.fst.snd.snd.fst.fst.fst, x.fst.snd.snd.fst.fst.snd.fst, x.fst.snd.snd.fst.snd.fst), ()))
                bif (v7) then
                  let v8 := (yl4 (((), x.fst.snd.fst, (↑(List.length x.fst.snd.fst) : Int), 0, ()), (x.fst.fst.fst.fst, x.fst.fst.fst.snd.fst, x.fst.fst.snd.fst.fst, x.fst.fst.snd.fst.snd.fst, x.fst.snd.fst, x.fst.snd.snd.fst.fst.fst, x.fst.snd.snd.fst.fst.snd.fst, x.fst.snd.snd.fst.snd.fst), ()))
                  some ((v8.fst.1), ())
                else
                  some ((true), ())
              else
                none
          else
            none
      else
        none
  else
    none
theorem ev23 (k61 : Den A61 → Bool) (g61 : Den A61 → Den R61) (k62 : Den A62 → Bool) (g62 : Den A62 → Den R62) (k48 : Den A48 → Bool) (g48 : Den A48 → Den R48) (k63 : Den A63 → Bool) (g63 : Den A63 → Den R63) (kl4 : V23_4 → Bool) (xl4 : V23_4 → X23_4) (tl4 : V23_4 → Bool) (yl4 : V23_4 → Y23_4) (x : Den A23) : callK (Γ23 k61 g61 k62 g62 k48 g48 k63 g63 kl4 xl4 tl4 yl4) (bodyOf Try.f23) (decR R23) (encA A23 x) [] = r23 k61 g61 k62 g62 k48 g48 k63 g63 kl4 xl4 tl4 yl4 x := by kernel_rfl
def F23 (x : Den A23) : Option (Den R23) := r23 K61 G61 K62 G62 K48 G48 K63 G63 kL23_4 xL23_4 tL23_4 yL23_4 x
def K23 (x : Den A23) : Bool := (F23 x).isSome
def G23 (x : Den A23) : Den R23 := (F23 x).getD (zero R23)
theorem env23 : EnvOK Try.prog (Γ23 K61 G61 K62 G62 K48 G48 K63 G63 kL23_4 xL23_4 tL23_4 yL23_4) := env_ok mixed tab_ok eqs_ok (.cons sem61 (.cons sem62 (.cons sem48 (.cons sem63 .nil))))
theorem is23 : FnIs Try.prog 23 (Γ23 K61 G61 K62 G62 K48 G48 K63 G63 kL23_4 xL23_4 tL23_4 yL23_4) (bodyOf Try.f23) := fnIs Try.func23 rfl rfl rfl (by kernel_rfl) (loops_ok (l := [lc23_4]) (by kernel_rfl) (.cons (one_loop rfl (loopR_sound (sh := sh23_4) (shX := shX23_4) (shR := shY23_4) (fun f v => evl23_4 K61 G61 K62 G62 K48 G48 K63 G63 kL23_4 xL23_4 tL23_4 yL23_4 f v) b23_4 ((), ()) ((false, ()), ()))) (.nil)))
theorem sem23 : SemOK Try.prog (23, fnMean A23 R23 K23 G23) := fn_opt env23 is23 fun x => ev23 K61 G61 K62 G62 K48 G48 K63 G63 kL23_4 xL23_4 tL23_4 yL23_4 x

/- "loop.example/g03321/laws.eqPlace" -/
abbrev A87 : Ty := .cons (S22) (.cons (S22) (.nil))
abbrev R87 : Ty := .cons (.bool) (.nil)
noncomputable def Γ87 : Env := mkEnv tab eqs [] 15 [.tmp 4] [] [] [] [] []
def r87 (x : Den A87) : Option (Den R87) :=
  bif (x.fst.fst != x.snd.fst.fst) then
    some ((false), ())
  else
    bif (x.fst.snd.fst != x.snd.fst.snd.fst) then
      some ((false), ())
    else
      some ((true), ())
theorem ev87 (x : Den A87) : callK (Γ87) (bodyOf Try.f87) (decR R87) (encA A87 x) [] = r87 x := by kernel_rfl
def F87 (x : Den A87) : Option (Den R87) := r87 x
def K87 (x : Den A87) : Bool := (F87 x).isSome
def G87 (x : Den A87) : Den R87 := (F87 x).getD (zero R87)
theorem env87 : EnvOK Try.prog (Γ87) := env_ok mixed tab_ok eqs_ok .nil
theorem is87 : FnIs Try.prog 87 (Γ87) (bodyOf Try.f87) := fnIs Try.func87 rfl rfl rfl (by kernel_rfl) (noLoops (by kernel_rfl))
theorem sem87 : SemOK Try.prog (87, fnMean A87 R87 K87 G87) := fn_opt env87 is87 fun x => ev87 x

/- "loop.example/g03321/laws.eqLine" -/
abbrev A64 : Ty := .cons (S42) (.cons (S42) (.nil))
abbrev R64 : Ty := .cons (.bool) (.nil)
noncomputable def Γ64 (k87 : Den A87 → Bool) (g87 : Den A87 → Den R87) : Env := mkEnv tab eqs [(87, fnMean A87 R87 k87 g87)] 17 [.tmp 4] [] [] [] [] []
def r64 (k87 : Den A87 → Bool) (g87 : Den A87 → Den R87) (x : Den A64) : Option (Den R64) :=
  let v0 := (k87 (x.fst.fst, x.snd.fst.fst, ()))
  bif (v0) then
    let v1 := (g87 (x.fst.fst, x.snd.fst.fst, ()))
    bif (!v1.fst) then
      some ((false), ())
    else
      let v2 := (k87 (x.fst.snd.fst, x.snd.fst.snd))
      bif (v2) then
        let v3 := (g87 (x.fst.snd.fst, x.snd.fst.snd))
        bif (!v3.fst) then
          some ((false), ())
        else
          some ((true), ())
      else
        none
  else
    none
theorem ev64 (k87 : Den A87 → Bool) (g87 : Den A87 → Den R87) (x : Den A64) : callK (Γ64 k87 g87) (bodyOf Try.f64) (decR R64) (encA A64 x) [] = r64 k87 g87 x := by kernel_rfl
def F64 (x : Den A64) : Option (Den R64) := r64 K87 G87 x
def K64 (x : Den A64) : Bool := (F64 x).isSome
def G64 (x : Den A64) : Den R64 := (F64 x).getD (zero R64)
theorem env64 : EnvOK Try.prog (Γ64 K87 G87) := env_ok mixed tab_ok eqs_ok (.cons sem87 .nil)
theorem is64 : FnIs Try.prog 64 (Γ64 K87 G87) (bodyOf Try.f64) := fnIs Try.func64 rfl rfl rfl (by kernel_rfl) (noLoops (by kernel_rfl))
theorem sem64 : SemOK Try.prog (64, fnMean A64 R64 K64 G64) := fn_opt env64 is64 fun x => ev64 K87 G87 x

/- "loop.example/g03321/laws.eqMark" -/
abbrev A88 : Ty := .cons (S82) (.cons (S82) (.nil))
abbrev R88 : Ty := .cons (.bool) (.nil)
noncomputable def Γ88 (k87 : Den A87 → Bool) (g87 : Den A87 → Den R87) : Env := mkEnv tab eqs [(87, fnMean A87 R87 k87 g87)] 16 [.tmp 4] [] [] [] [] []
def r88 (k87 : Den A87 → Bool) (g87 : Den A87 → Den R87) (x : Den A88) : Option (Den R88) :=
  let v0 := (k87 (x.fst.fst, x.snd.fst.fst, ()))
  bif (v0) then
    let v1 := (g87 (x.fst.fst, x.snd.fst.fst, ()))
    bif (!v1.fst) then
      some ((false), ())
    else
      bif (!x.fst.snd.fst == x.snd.fst.snd.fst) then
        some ((false), ())
      else
        some ((true), ())
  else
    none
theorem ev88 (k87 : Den A87 → Bool) (g87 : Den A87 → Den R87) (x : Den A88) : callK (Γ88 k87 g87) (bodyOf Try.f88) (decR R88) (encA A88 x) [] = r88 k87 g87 x := by kernel_rfl
def F88 (x : Den A88) : Option (Den R88) := r88 K87 G87 x
def K88 (x : Den A88) : Bool := (F88 x).isSome
def G88 (x : Den A88) : Den R88 := (F88 x).getD (zero R88)
theorem env88 : EnvOK Try.prog (Γ88 K87 G87) := env_ok mixed tab_ok eqs_ok (.cons sem87 .nil)
theorem is88 : FnIs Try.prog 88 (Γ88 K87 G87) (bodyOf Try.f88) := fnIs Try.func88 rfl rfl rfl (by kernel_rfl) (noLoops (by kernel_rfl))
theorem sem88 : SemOK Try.prog (88, fnMean A88 R88 K88 G88) := fn_opt env88 is88 fun x => ev88 K87 G87 x

/- "loop.example/g03321/laws.eqMarkS" -/
abbrev A65 : Ty := .cons (.slice (S82)) (.cons (.slice (S82)) (.nil))
abbrev R65 : Ty := .cons (.bool) (.nil)
abbrev V65_4 : Type := (((List (Den (S82))) × ((List (Den (S82))) × (Int × Unit))) × Unit)
def sh65_4 : ShS := ⟨[(0, .one (.sl (S82))), (1, .one (.sl (S82))), (5, .one (.int .i64))], [], 0, 0⟩
abbrev X65_4 : Type := (Unit × Unit)
def shX65_4 : ShS := ⟨[], [], 0, 0⟩
abbrev Y65_4 : Type := ((Bool × Unit) × Unit)
def shY65_4 : ShS := ⟨[(4, .one (.bool))], [], 0, 0⟩
noncomputable def Γ65 (k88 : Den A88 → Bool) (g88 : Den A88 → Den R88) (kl4 : V65_4 → Bool) (xl4 : V65_4 → X65_4) (tl4 : V65_4 → Bool) (yl4 : V65_4 → Y65_4) : Env := mkEnv tab eqs [(88, fnMean A88 R88 k88 g88)] 27 [.tmp 4] [] [] [(4, loopR [0, 1, 5] [] 0 [] [] sh65_4 shX65_4 shY65_4 kl4 tl4 xl4 yl4)] [] []
noncomputable def lc65_4 : Code := (loopsOf (bodyOf Try.f65)).getD 0 .skip
def q65_4 (k88 : Den A88 → Bool) (g88 : Den A88 → Den R88) (f : V65_4 → Option (X65_4 ⊕ Y65_4)) (v : V65_4) : Option (X65_4 ⊕ Y65_4) :=
  bif (decide (v.fst.snd.snd.fst < (↑(List.length v.fst.fst) : Int))) then
    bif (decide (0 ≤ v.fst.snd.snd.fst) && decide (v.fst.snd.snd.fst < (↑(List.length v.fst.fst) : Int))) then
      bif (decide (0 ≤ v.fst.snd.snd.fst) && decide (v.fst.snd.snd.fst < (↑(List.length v.fst.snd.fst) : Int))) then
        let v0 := (List.getD v.fst.fst (Int.toNat v.fst.snd.snd.fst) (zero S82))
        let v1 := (List.getD v.fst.snd.fst (Int.toNat v.fst.snd.snd.fst) (zero S82))
        let v2 := (k88 (v0, v1, ()))
        bif (v2) then
          let v3 := (g88 (v0, v1, ()))
          bif (!v3.fst) then
            some (Sum.inr (((false), ()), ()))
          else
            let v4 := (IntKind.wrap IntKind.i64 (v.fst.snd.snd.fst + 1))
            f (((v.fst.1), ((v.fst.snd.1), ((v4), ()))), ())
        else
          none
      else
        none
    else
      none
  else
    some (Sum.inl ((), ()))
theorem evl65_4 (k88 : Den A88 → Bool) (g88 : Den A88 → Den R88) (kl4 : V65_4 → Bool) (xl4 : V65_4 → X65_4) (tl4 : V65_4 → Bool) (yl4 : V65_4 → Y65_4) (f : V65_4 → Option (X65_4 ⊕ Y65_4)) (v : V65_4) : EBk (Γ65 k88 g88 kl4 xl4 tl4 yl4) lc65_4 (roundK [0, 1, 5] [] 0 [] [] (atS sh65_4 f) (endS shX65_4 shY65_4)) (mkS sh65_4 v) = q65_4 k88 g88 f v := by kernel_rfl
def b65_4 (v : V65_4) : Nat := v.1.1.length + v.1.2.1.length + v.1.2.2.1.natAbs + 1000
def l65_4 (v : V65_4) : Option (X65_4 ⊕ Y65_4) := iter (q65_4 K88 G88) (b65_4 v) v
def kL65_4 (v : V65_4) : Bool := (l65_4 v).isSome
def tL65_4 (v : V65_4) : Bool := isR (l65_4 v)
def xL65_4 (v : V65_4) : X65_4 := xOf ((), ()) (l65_4 v)
def yL65_4 (v : V65_4) : Y65_4 := yOf ((false, ()), ()) (l65_4 v)
def r65 (k88 : Den A88 → Bool) (g88 : Den A88 → Den R88) (kl4 : V65_4 → Bool) (xl4 : V65_4 → X65_4) (tl4 : V65_4 → Bool) (yl4 : V65_4 → Y65_4) (x : Den A65) : Option (Den R65) :=
  bif ((↑(List.length x.fst) : Int) != (↑(List.length x.snd.fst) : Int)) then
    some ((false), ())
  else
    let v0 := (kl4 ((x.fst, x.snd.fst, 0, ()), ()))
    bif (v0) then
      let v1 := (tl4 ((x.fst, x.snd.fst, 0, ()), ()))
      bif (v1) then
        let v2 := (yl4 ((x.fst, x.snd.fst, 0, ()), ()))
        some ((v2.fst.1), ())
      else
        some ((true), ())
    else
      none
theorem ev65 (k88 : Den A88 → Bool) (g88 : Den A88 → Den R88) (kl4 : V65_4 → Bool) (xl4 : V65_4 → X65_4) (tl4 : V65_4 → Bool) (yl4 : V65_4 → Y65_4) (x : Den A65) : callK (Γ65 k88 g88 kl4 xl4 tl4 yl4) (bodyOf Try.f65) (decR R65) (encA A65 x) [] = r65 k88 g88 kl4 xl4 tl4 yl4 x := by kernel_rfl
def F65 (x : Den A65) : Option (Den R65) := r65 K88 G88 kL65_4 xL65_4 tL65_4 yL65_4 x
def K65 (x : Den A65) : Bool := (F65 x).isSome
def G65 (x : Den A65) : Den R65 := (F65 x).getD (zero R65)
theorem env65 : EnvOK Try.prog (Γ65 K88 G88 kL65_4 xL65_4 tL65_4 yL65_4) := env_ok mixed tab_ok eqs_ok (.cons sem88 .nil)
theorem is65 : FnIs Try.prog 65 (Γ65 K88 G88 kL65_4 xL65_4 tL65_4 yL65_4) (bodyOf Try.f65) := fnIs Try.func65 rfl rfl rfl (by kernel_rfl) (loops_ok (l := [lc65_4]) (by kernel_rfl) (.cons (one_loop rfl (loopR_sound (sh := sh65_4) (shX := shX65_4) (shR := shY65_4) (fun f v => evl65_4 K88 G88 kL65_4 xL65_4 tL65_4 yL65_4 f v) b65_4 ((), ()) ((false, ()), ()))) (.nil)))
theorem sem65 : SemOK Try.prog (65, fnMean A65 R65 K65 G65) := fn_opt env65 is65 fun x => ev65 K88 G88 kL65_4 xL65_4 tL65_4 yL65_4 x

/- "loop.example/g03321/laws.eqCourse" -/
abbrev A24 : Ty := .cons (S45) (.cons (S45) (.nil))
abbrev R24 : Ty := .cons (.bool) (.nil)
noncomputable def Γ24 (k64 : Den A64 → Bool) (g64 : Den A64 → Den R64) (k65 : Den A65 → Bool) (g65 : Den A65 → Den R65) : Env := mkEnv tab eqs [(64, fnMean A64 R64 k64 g64), (65, fnMean A65 R65 k65 g65)] 23 [.tmp 4] [] [] [] [] []
def r24 (k64 : Den A64 → Bool) (g64 : Den A64 → Den R64) (k65 : Den A65 → Bool) (g65 : Den A65 → Den R65) (x : Den A24) : Option (Den R24) :=
  let v0 := (k64 (x.fst.fst, x.snd.fst.fst, ()))
  bif (v0) then
    let v1 := (g64 (x.fst.fst, x.snd.fst.fst, ()))
    bif (!v1.fst) then
      some ((false), ())
    else
      let v2 := (k65 (x.fst.snd.fst, x.snd.fst.snd.fst, ()))
      bif (v2) then
        let v3 := (g65 (x.fst.snd.fst, x.snd.fst.snd.fst, ()))
        bif (!v3.fst) then
          some ((false), ())
        else
          let v4 := (k64 (x.fst.snd.snd.fst, x.snd.fst.snd.snd))
          bif (v4) then
            let v5 := (g64 (x.fst.snd.snd.fst, x.snd.fst.snd.snd))
            bif (!v5.fst) then
              some ((false), ())
            else
              some ((true), ())
          else
            none
      else
        none
  else
    none
theorem ev24 (k64 : Den A64 → Bool) (g64 : Den A64 → Den R64) (k65 : Den A65 → Bool) (g65 : Den A65 → Den R65) (x : Den A24) : callK (Γ24 k64 g64 k65 g65) (bodyOf Try.f24) (decR R24) (encA A24 x) [] = r24 k64 g64 k65 g65 x := by kernel_rfl
def F24 (x : Den A24) : Option (Den R24) := r24 K64 G64 K65 G65 x
def K24 (x : Den A24) : Bool := (F24 x).isSome
def G24 (x : Den A24) : Den R24 := (F24 x).getD (zero R24)
theorem env24 : EnvOK Try.prog (Γ24 K64 G64 K65 G65) := env_ok mixed tab_ok eqs_ok (.cons sem64 (.cons sem65 .nil))
theorem is24 : FnIs Try.prog 24 (Γ24 K64 G64 K65 G65) (bodyOf Try.f24) := fnIs Try.func24 rfl rfl rfl (by kernel_rfl) (noLoops (by kernel_rfl))
theorem sem24 : SemOK Try.prog (24, fnMean A24 R24 K24 G24) := fn_opt env24 is24 fun x => ev24 K64 G64 K65 G65 x

/- "loop.example/g03321/laws.FnExactCourseOk" -/
abbrev A5 : Ty := .cons (S38) (.nil)
abbrev R5 : Ty := .cons (.bool) (.nil)
noncomputable def Γ5 (k20 : Den A20 → Bool) (g20 : Den A20 → Den R20) (k22 : I22.den → Bool) (g22 : I22.den → O22.den) (k21 : Den A21 → Bool) (g21 : Den A21 → Den R21) (k23 : Den A23 → Bool) (g23 : Den A23 → Den R23) (k24 : Den A24 → Bool) (g24 : Den A24 → Den R24) : Env := mkEnv tab eqs [(20, fnMean A20 R20 k20 g20), (22, sgMean false I22 O22 k22 g22), (21, fnMean A21 R21 k21 g21), (23, fnMean A23 R23 k23 g23), (24, fnMean A24 R24 k24 g24)] 27 [.tmp 2] [] [] [] [] []
def r5 (k20 : Den A20 → Bool) (g20 : Den A20 → Den R20) (k22 : I22.den → Bool) (g22 : I22.den → O22.den) (k21 : Den A21 → Bool) (g21 : Den A21 → Den R21) (k23 : Den A23 → Bool) (g23 : Den A23 → Den R23) (k24 : Den A24 → Bool) (g24 : Den A24 → Den R24) (x : Den A5) : Option (Den R5) :=
  let v0 := (k20 (x.fst, 1048576, ()))
  bif (v0) then
    let v1 := (g20 (x.fst, 1048576, ()))
    bif (decide (v1.fst < 0)) then
      some ((true), ())
    else
      let v2 := (k22 (x, ()))
      bif (v2) then
        let v3 := (g22 (x, ()))
        let v4 := (k21 ((((v3.fst.fst.fst, v3.fst.fst.snd.fst, ()), (v3.fst.fst.snd.snd.fst, v3.fst.fst.snd.snd.snd.fst, ()), ()), v3.snd.fst, ((v3.fst.fst.snd.snd.snd.snd.snd.fst, v3.fst.fst.snd.snd.snd.snd.snd.snd.fst, ()), v3.fst.fst.snd.snd.snd.snd.snd.snd.snd, ()), ()), ()))
        bif (v4) then
          bif (v2) then
            let v5 := (k23 ((((v3.fst.fst.fst, v3.fst.fst.snd.fst, ()), (v3.fst.fst.snd.snd.fst, v3.fst.fst.snd.snd.snd.fst, ()), ()), v3.snd.fst, ((v3.fst.fst.snd.snd.snd.snd.snd.fst, v3.fst.fst.snd.snd.snd.snd.snd.snd.fst, ()), v3.fst.fst.snd.snd.snd.snd.snd.snd.snd, ()), ()), ()))
            bif (v5) then
              let v6 := (g23 ((((v3.fst.fst.fst, v3.fst.fst.snd.fst, ()), (v3.fst.fst.snd.snd.fst, v3.fst.fst.snd.snd.snd.fst, ()), ()), v3.snd.fst, ((v3.fst.fst.snd.snd.snd.snd.snd.fst, v3.fst.fst.snd.snd.snd.snd.snd.snd.fst, ()), v3.fst.fst.snd.snd.snd.snd.snd.snd.snd, ()), ()), ()))
              let v7 := (g21 ((((v3.fst.fst.fst, v3.fst.fst.snd.fst, ()), (v3.fst.fst.snd.snd.fst, v3.fst.fst.snd.snd.snd.fst, ()), ()), v3.snd.fst, ((v3.fst.fst.snd.snd.snd.snd.snd.fst, v3.fst.fst.snd.snd.snd.snd.snd.snd.fst, ()), v3.fst.fst.snd.snd.snd.snd.snd.snd.snd, ()), ()), ()))
              bif (!v6.fst == v7.fst) then
                some ((false), ())
              else
                bif (v2) then
                  let v8 := (k24 ((((v3.fst.fst.fst, v3.fst.fst.snd.fst, ()), (v3.fst.fst.snd.snd.fst, v3.fst.fst.snd.snd.snd.fst, ()), ()), v3.snd.fst, ((v3.fst.fst.snd.snd.snd.snd.snd.fst, v3.fst.fst.snd.snd.snd.snd.snd.snd.fst, ()), v3.fst.fst.snd.snd.snd.snd.snd.snd.snd, ()), ()), (((v3.fst.fst.fst, v3.fst.fst.snd.fst, ()), (v3.fst.fst.snd.snd.fst, v3.fst.fst.snd.snd.snd.fst, ()), ()), v3.snd.fst, ((v3.fst.fst.snd.snd.snd.snd.snd.fst, v3.fst.fst.snd.snd.snd.snd.snd.snd.fst, ()), v3.fst.fst.snd.snd.snd.snd.snd.snd.snd, ()), ()), ()))
                  bif (v8) then
                    let v9 := (g24 ((((v3.fst.fst.fst, v3.fst.fst.snd.fst, ()), (v3.fst.fst.snd.snd.fst, v3.fst.fst.snd.snd.snd.fst, ()), ()), v3.snd.fst, ((v3.fst.fst.snd.snd.snd.snd.snd.fst, v3.fst.fst.snd.snd.snd.snd.snd.snd.fst, ()), v3.fst.fst.snd.snd.snd.snd.snd.snd.snd, ()), ()), (((v3.fst.fst.fst, v3.fst.fst.snd.fst, ()), (v3.fst.fst.snd.snd.fst, v3.fst.fst.snd.snd.snd.fst, ()), ()), v3.snd.fst, ((v3.fst.fst.snd.snd.snd.snd.snd.fst, v3.fst.fst.snd.snd.snd.snd.snd.snd.fst, ()), v3.fst.fst.snd.snd.snd.snd.snd.snd.snd, ()), ()), ()))
                    bif (!v9.fst) then
                      some ((false), ())
                    else
                      some ((true), ())
                  else
                    none
                else
                  none
            else
              none
          else
            none
        else
          none
      else
        none
  else
    none
theorem ev5 (k20 : Den A20 → Bool) (g20 : Den A20 → Den R20) (k22 : I22.den → Bool) (g22 : I22.den → O22.den) (k21 : Den A21 → Bool) (g21 : Den A21 → Den R21) (k23 : Den A23 → Bool) (g23 : Den A23 → Den R23) (k24 : Den A24 → Bool) (g24 : Den A24 → Den R24) (x : Den A5) : callK (Γ5 k20 g20 k22 g22 k21 g21 k23 g23 k24 g24) (bodyOf Try.f5) (decR R5) (encA A5 x) [] = r5 k20 g20 k22 g22 k21 g21 k23 g23 k24 g24 x := by kernel_rfl
def F5 (x : Den A5) : Option (Den R5) := r5 K20 G20 K22 G22 K21 G21 K23 G23 K24 G24 x
def K5 (x : Den A5) : Bool := (F5 x).isSome
def G5 (x : Den A5) : Den R5 := (F5 x).getD (zero R5)
theorem env5 : EnvOK Try.prog (Γ5 K20 G20 K22 G22 K21 G21 K23 G23 K24 G24) := env_ok mixed tab_ok eqs_ok (.cons sem20 (.cons sem22 (.cons sem21 (.cons sem23 (.cons sem24 .nil)))))
theorem is5 : FnIs Try.prog 5 (Γ5 K20 G20 K22 G22 K21 G21 K23 G23 K24 G24) (bodyOf Try.f5) := fnIs Try.func5 rfl rfl rfl (by kernel_rfl) (noLoops (by kernel_rfl))
theorem sem5 : SemOK Try.prog (5, fnMean A5 R5 K5 G5) := fn_opt env5 is5 fun x => ev5 K20 G20 K22 G22 K21 G21 K23 G23 K24 G24 x

end Go.Proofs.Ytibbdoohekjmaaa.AM
