/- Texts of one proof, joined: an abstract machine for the program, its functions evaluated, plain lemmas. Conditions: those that each lemma names. -/
import Derived.Test.YtmmdjajebmihhaaM4
import Derived.Test.YtmmdjajebmihhaaM3

/- What functions of the program make of their arguments; each is what its evaluation says. Printed by fx.py. -/
namespace Go.Proofs.Ytmmdjajebmihhaa.AM
open Go Go.Proofs
set_option linter.unusedVariables false
set_option maxRecDepth 100000
set_option maxHeartbeats 0

/- "loop.example/g03321/impl.boatOk" -/
abbrev A109 : Ty := .cons (.flt .f32) (.nil)
abbrev R109 : Ty := .cons (.bool) (.nil)
noncomputable def Γ109 : Env := mkEnv tab eqs [] 9 [.tmp 2] [] [] [] [] []
def r109 (x : Den A109) : Option (Den R109) :=
  bif (fgt FloatKind.f32 x.fst 0 || feq FloatKind.f32 x.fst 0) then
    some ((flt FloatKind.f32 x.fst 1112014848 || feq FloatKind.f32 x.fst 1112014848), ())
  else
    some ((false), ())
theorem ev109 (x : Den A109) : callK (Γ109) (bodyOf Try.f109) (decR R109) (encA A109 x) [] = r109 x := by kernel_rfl
def F109 (x : Den A109) : Option (Den R109) := r109 x
def K109 (x : Den A109) : Bool := (F109 x).isSome
def G109 (x : Den A109) : Den R109 := (F109 x).getD (zero R109)
theorem env109 : EnvOK Try.prog (Γ109) := env_ok mixed tab_ok eqs_ok .nil
theorem is109 : FnIs Try.prog 109 (Γ109) (bodyOf Try.f109) := fnIs Try.func109 rfl rfl rfl (by kernel_rfl) (noLoops (by kernel_rfl))
theorem sem109 : SemOK Try.prog (109, fnMean A109 R109 K109 G109) := fn_opt env109 is109 fun x => ev109 x

/- "loop.example/g03321/impl.LegOk" -/
abbrev A92 : Ty := .cons (S53) (.nil)
abbrev R92 : Ty := .cons (.bool) (.nil)
noncomputable def Γ92 (k109 : Den A109 → Bool) (g109 : Den A109 → Den R109) (k48 : Den A48 → Bool) (g48 : Den A48 → Den R48) : Env := mkEnv tab eqs [(109, fnMean A109 R109 k109 g109), (48, fnMean A48 R48 k48 g48)] 11 [.tmp 2] [] [] [] [] []
def r92 (k109 : Den A109 → Bool) (g109 : Den A109 → Den R109) (k48 : Den A48 → Bool) (g48 : Den A48 → Den R48) (x : Den A92) : Option (Den R92) :=
  let v0 := (k109 (x.fst.snd.fst, ()))
  bif (v0) then
    let v1 := (g109 (x.fst.snd.fst, ()))
    bif (v1.1) then
      let v2 := (k48 (x.fst.snd.snd.fst, 0, 100000, ()))
      bif (v2) then
        let v3 := (g48 (x.fst.snd.snd.fst, 0, 100000, ()))
        some ((v3.1), ())
      else
        none
    else
      some ((false), ())
  else
    none
theorem ev92 (k109 : Den A109 → Bool) (g109 : Den A109 → Den R109) (k48 : Den A48 → Bool) (g48 : Den A48 → Den R48) (x : Den A92) : callK (Γ92 k109 g109 k48 g48) (bodyOf Try.f92) (decR R92) (encA A92 x) [] = r92 k109 g109 k48 g48 x := by kernel_rfl
def F92 (x : Den A92) : Option (Den R92) := r92 K109 G109 K48 G48 x
def K92 (x : Den A92) : Bool := (F92 x).isSome
def G92 (x : Den A92) : Den R92 := (F92 x).getD (zero R92)
theorem env92 : EnvOK Try.prog (Γ92 K109 G109 K48 G48) := env_ok mixed tab_ok eqs_ok (.cons sem109 (.cons sem48 .nil))
theorem is92 : FnIs Try.prog 92 (Γ92 K109 G109 K48 G48) (bodyOf Try.f92) := fnIs Try.func92 rfl rfl rfl (by kernel_rfl) (noLoops (by kernel_rfl))
theorem sem92 : SemOK Try.prog (92, fnMean A92 R92 K92 G92) := fn_opt env92 is92 fun x => ev92 K109 G109 K48 G48 x

/- "loop.example/g03321/impl.legsOk" -/
abbrev A62 : Ty := .cons (.slice (S53)) (.nil)
abbrev R62 : Ty := .cons (.bool) (.nil)
abbrev V62_2 : Type := (((List (Den (S53))) × ((List (Den (S53))) × (Int × (Int × Unit)))) × Unit)
def sh62_2 : ShS := ⟨[(0, .one (.sl (S53))), (5, .one (.sl (S53))), (6, .one (.int .i64)), (7, .one (.int .i64))], [], 0, 0⟩
abbrev X62_2 : Type := (((List (Den (S53))) × Unit) × Unit)
def shX62_2 : ShS := ⟨[(0, .one (.sl (S53)))], [], 0, 0⟩
abbrev Y62_2 : Type := ((Bool × Unit) × Unit)
def shY62_2 : ShS := ⟨[(2, .one (.bool))], [], 0, 0⟩
noncomputable def Γ62 (k92 : Den A92 → Bool) (g92 : Den A92 → Den R92) (kl2 : V62_2 → Bool) (xl2 : V62_2 → X62_2) (tl2 : V62_2 → Bool) (yl2 : V62_2 → Y62_2) : Env := mkEnv tab eqs [(92, fnMean A92 R92 k92 g92)] 18 [.tmp 2] [] [] [(2, loopR [0, 5, 6, 7] [] 0 [0] [] sh62_2 shX62_2 shY62_2 kl2 tl2 xl2 yl2)] [] []
noncomputable def lc62_2 : Code := (loopsOf (bodyOf Try.f62)).getD 0 .skip
def q62_2 (k92 : Den A92 → Bool) (g92 : Den A92 → Den R92) (f : V62_2 → Option (X62_2 ⊕ Y62_2)) (v : V62_2) : Option (X62_2 ⊕ Y62_2) :=
  bif (decide (v.fst.snd.snd.snd.fst < v.fst.snd.snd.fst)) then
    bif (decide (0 ≤ v.fst.snd.snd.snd.fst) && decide (v.fst.snd.snd.snd.fst < (↑(List.length v.fst.snd.fst) : Int))) then
      let v0 := (List.getD v.fst.snd.fst (Int.toNat v.fst.snd.snd.snd.fst) (zero S53))
      let v1 := (k92 (v0, ()))
      bif (v1) then
        let v2 := (g92 (v0, ()))
        bif (!v2.fst) then
          some (Sum.inr (((false), ()), ()))
        else
          let v3 := (IntKind.wrap IntKind.i64 (v.fst.snd.snd.snd.fst + 1))
          f (((v.fst.1), ((v.fst.snd.1), ((v.fst.snd.snd.1), ((v3), ())))), ())
      else
        none
    else
      none
  else
    some (Sum.inl (((v.fst.1), ()), ()))
theorem evl62_2 (k92 : Den A92 → Bool) (g92 : Den A92 → Den R92) (kl2 : V62_2 → Bool) (xl2 : V62_2 → X62_2) (tl2 : V62_2 → Bool) (yl2 : V62_2 → Y62_2) (f : V62_2 → Option (X62_2 ⊕ Y62_2)) (v : V62_2) : EBk (Γ62 k92 g92 kl2 xl2 tl2 yl2) lc62_2 (roundK [0, 5, 6, 7] [] 0 [0] [] (atS sh62_2 f) (endS shX62_2 shY62_2)) (mkS sh62_2 v) = q62_2 k92 g92 f v := by kernel_rfl
def b62_2 (v : V62_2) : Nat := v.1.1.length + v.1.2.1.length + v.1.2.2.1.natAbs + v.1.2.2.2.1.natAbs + 1000
def l62_2 (v : V62_2) : Option (X62_2 ⊕ Y62_2) := iter (q62_2 K92 G92) (b62_2 v) v
def kL62_2 (v : V62_2) : Bool := (l62_2 v).isSome
def tL62_2 (v : V62_2) : Bool := isR (l62_2 v)
def xL62_2 (v : V62_2) : X62_2 := xOf (([], ()), ()) (l62_2 v)
def yL62_2 (v : V62_2) : Y62_2 := yOf ((false, ()), ()) (l62_2 v)
def r62 (k92 : Den A92 → Bool) (g92 : Den A92 → Den R92) (kl2 : V62_2 → Bool) (xl2 : V62_2 → X62_2) (tl2 : V62_2 → Bool) (yl2 : V62_2 → Y62_2) (x : Den A62) : Option (Den R62) :=
  let v0 := (kl2 ((x.fst, x.fst, (↑(List.length x.fst) : Int), 0, ()), ()))
  bif (v0) then
    let v1 := (tl2 ((x.fst, x.fst, (↑(List.length x.fst) : Int), 0, ()), ()))
    bif (v1) then
      let v2 := (yl2 ((x.fst, x.fst, (↑(List.length x.fst) : Int), 0, ()), ()))
      some ((v2.fst.1), ())
    else
      let v2 := (xl2 ((x.fst, x.fst, (↑(List.length x.fst) : Int), 0, ()), ()))
      some ((decide ((↑(List.length v2.fst.fst) : Int) ≤ 50)), ())
  else
    none
theorem ev62 (k92 : Den A92 → Bool) (g92 : Den A92 → Den R92) (kl2 : V62_2 → Bool) (xl2 : V62_2 → X62_2) (tl2 : V62_2 → Bool) (yl2 : V62_2 → Y62_2) (x : Den A62) : callK (Γ62 k92 g92 kl2 xl2 tl2 yl2) (bodyOf Try.f62) (decR R62) (encA A62 x) [] = r62 k92 g92 kl2 xl2 tl2 yl2 x := by kernel_rfl
def F62 (x : Den A62) : Option (Den R62) := r62 K92 G92 kL62_2 xL62_2 tL62_2 yL62_2 x
def K62 (x : Den A62) : Bool := (F62 x).isSome
def G62 (x : Den A62) : Den R62 := (F62 x).getD (zero R62)
theorem env62 : EnvOK Try.prog (Γ62 K92 G92 kL62_2 xL62_2 tL62_2 yL62_2) := env_ok mixed tab_ok eqs_ok (.cons sem92 .nil)
theorem is62 : FnIs Try.prog 62 (Γ62 K92 G92 kL62_2 xL62_2 tL62_2 yL62_2) (bodyOf Try.f62) := fnIs Try.func62 rfl rfl rfl (by kernel_rfl) (loops_ok (l := [lc62_2]) (by kernel_rfl) (.cons (one_loop rfl (loopR_sound (sh := sh62_2) (shX := shX62_2) (shR := shY62_2) (fun f v => evl62_2 K92 G92 kL62_2 xL62_2 tL62_2 yL62_2 f v) b62_2 (([], ()), ()) ((false, ()), ()))) (.nil)))
theorem sem62 : SemOK Try.prog (62, fnMean A62 R62 K62 G62) := fn_opt env62 is62 fun x => ev62 K92 G92 kL62_2 xL62_2 tL62_2 yL62_2 x

/- "loop.example/g03321/impl.TideOk" -/
abbrev A99 : Ty := .cons (S48) (.nil)
abbrev R99 : Ty := .cons (.bool) (.nil)
abbrev V99_4 : Type := ((Unit × ((List (Den (S96))) × (Int × (Int × Unit)))) × (((List (Den (S96))) × ((List (Den (.int .i64))) × Unit)) × Unit))
def sh99_4 : ShS := ⟨[(1, .one (.ptr 0 0)), (20, .one (.sl (S96))), (21, .one (.int .i64)), (22, .one (.int .i64))], [(0, .box [.sl (S96), .sl (.int .i64)])], 1, 0⟩
abbrev X99_4 : Type := ((Unit × Unit) × (((List (Den (S96))) × ((List (Den (.int .i64))) × Unit)) × Unit))
def shX99_4 : ShS := ⟨[(1, .one (.ptr 0 0))], [(0, .box [.sl (S96), .sl (.int .i64)])], 1, 0⟩
abbrev Y99_4 : Type := ((Bool × Unit) × Unit)
def shY99_4 : ShS := ⟨[(2, .one (.bool))], [], 0, 0⟩
abbrev V99_10 : Type := ((Unit × ((List (Den (.int .i64))) × (Int × (Int × Unit)))) × (((List (Den (S96))) × ((List (Den (.int .i64))) × Unit)) × Unit))
def sh99_10 : ShS := ⟨[(1, .one (.ptr 0 0)), (38, .one (.sl (.int .i64))), (39, .one (.int .i64)), (40, .one (.int .i64))], [(0, .box [.sl (S96), .sl (.int .i64)])], 1, 0⟩
abbrev X99_10 : Type := (Unit × Unit)
def shX99_10 : ShS := ⟨[], [], 0, 0⟩
abbrev Y99_10 : Type := ((Bool × Unit) × Unit)
def shY99_10 : ShS := ⟨[(2, .one (.bool))], [], 0, 0⟩
noncomputable def Γ99 (k48 : Den A48 → Bool) (g48 : Den A48 → Den R48) (k41 : Den A41 → Bool) (g41 : Den A41 → Den R41) (k77 : Den A77 → Bool) (g77 : Den A77 → Den R77) (k37 : Den A37 → Bool) (g37 : Den A37 → Den R37) (kl4 : V99_4 → Bool) (xl4 : V99_4 → X99_4) (tl4 : V99_4 → Bool) (yl4 : V99_4 → Y99_4) (kl10 : V99_10 → Bool) (xl10 : V99_10 → X99_10) (tl10 : V99_10 → Bool) (yl10 : V99_10 → Y99_10) : Env := mkEnv tab eqs [(48, fnMean A48 R48 k48 g48), (41, fnMean A41 R41 k41 g41), (77, fnMean A77 R77 k77 g77), (37, fnMean A37 R37 k37 g37)] 64 [.tmp 2] [] [] [(4, loopR [1, 20, 21, 22] [] 0 [1] [] sh99_4 shX99_4 shY99_4 kl4 tl4 xl4 yl4), (10, loopR [1, 38, 39, 40] [] 2 [] [] sh99_10 shX99_10 shY99_10 kl10 tl10 xl10 yl10)] [] []
noncomputable def lc99_4 : Code := (loopsOf (bodyOf Try.f99)).getD 0 .skip
noncomputable def lc99_10 : Code := (loopsOf (bodyOf Try.f99)).getD 1 .skip
def q99_10 (k48 : Den A48 → Bool) (g48 : Den A48 → Den R48) (k41 : Den A41 → Bool) (g41 : Den A41 → Den R41) (k77 : Den A77 → Bool) (g77 : Den A77 → Den R77) (k37 : Den A37 → Bool) (g37 : Den A37 → Den R37) (f : V99_10 → Option (X99_10 ⊕ Y99_10)) (v : V99_10) : Option (X99_10 ⊕ Y99_10) :=
  bif (decide (v.fst.snd.snd.snd.fst < v.fst.snd.snd.fst)) then
    bif (decide (0 ≤ v.fst.snd.snd.snd.fst) && decide (v.fst.snd.snd.snd.fst < (↑(List.length v.fst.snd.fst) : Int))) then
      let v0 := (List.getD v.fst.snd.fst (Int.toNat v.fst.snd.snd.snd.fst) (zero (Ty.int IntKind.i64)))
      let v1 := (k37 (v0, ()))
      bif (v1) then
        let v2 := (g37 (v0, ()))
        bif (!v2.fst) then
          some (Sum.inr (((false), ()), ()))
        else
          bif (decide (v.fst.snd.snd.snd.fst > 0)) then
            let v3 := (IntKind.wrap IntKind.i64 (v.fst.snd.snd.snd.fst - 1))
            bif (decide (0 ≤ v3) && decide (v3 < (↑(List.length v.snd.fst.snd.fst) : Int))) then
              let v4 := (List.getD v.snd.fst.snd.fst (Int.toNat v3) (zero (Ty.int IntKind.i64)))
              let v5 := (IntKind.wrap IntKind.i64 (v4 + 21600))
              bif (decide (v0 < v5)) then
                some (Sum.inr (((false), ()), ()))
              else
                let v6 := (IntKind.wrap IntKind.i64 (v.fst.snd.snd.snd.fst + 1))
                f (((), ((v.fst.snd.1), ((v.fst.snd.snd.1), ((v6), ())))), (((v.snd.fst.1), ((v.snd.fst.snd.1), ())), ()))
            else
              none
          else
            let v3 := (IntKind.wrap IntKind.i64 (v.fst.snd.snd.snd.fst + 1))
            f (((), ((v.fst.snd.1), ((v.fst.snd.snd.1), ((v3), ())))), (((v.snd.fst.1), ((v.snd.fst.snd.1), ())), ()))
      else
        none
    else
      none
  else
    some (Sum.inl ((), ()))
theorem evl99_10 (k48 : Den A48 → Bool) (g48 : Den A48 → Den R48) (k41 : Den A41 → Bool) (g41 : Den A41 → Den R41) (k77 : Den A77 → Bool) (g77 : Den A77 → Den R77) (k37 : Den A37 → Bool) (g37 : Den A37 → Den R37) (kl4 : V99_4 → Bool) (xl4 : V99_4 → X99_4) (tl4 : V99_4 → Bool) (yl4 : V99_4 → Y99_4) (kl10 : V99_10 → Bool) (xl10 : V99_10 → X99_10) (tl10 : V99_10 → Bool) (yl10 : V99_10 → Y99_10) (f : V99_10 → Option (X99_10 ⊕ Y99_10)) (v : V99_10) : EBk (Γ99 k48 g48 k41 g41 k77 g77 k37 g37 kl4 xl4 tl4 yl4 kl10 xl10 tl10 yl10) lc99_10 (roundK [1, 38, 39, 40] [] 2 [] [] (atS sh99_10 f) (endS shX99_10 shY99_10)) (mkS sh99_10 v) = q99_10 k48 g48 k41 g41 k77 g77 k37 g37 f v := by kernel_rfl
def b99_10 (v : V99_10) : Nat := v.1.2.1.length + v.1.2.2.1.natAbs + v.1.2.2.2.1.natAbs + v.2.1.1.length + v.2.1.2.1.length + 1000
def l99_10 (v : V99_10) : Option (X99_10 ⊕ Y99_10) := iter (q99_10 K48 G48 K41 G41 K77 G77 K37 G37) (b99_10 v) v
def kL99_10 (v : V99_10) : Bool := (l99_10 v).isSome
def tL99_10 (v : V99_10) : Bool := isR (l99_10 v)
def xL99_10 (v : V99_10) : X99_10 := xOf ((), ()) (l99_10 v)
def yL99_10 (v : V99_10) : Y99_10 := yOf ((false, ()), ()) (l99_10 v)
def q99_4 (k48 : Den A48 → Bool) (g48 : Den A48 → Den R48) (k41 : Den A41 → Bool) (g41 : Den A41 → Den R41) (k77 : Den A77 → Bool) (g77 : Den A77 → Den R77) (k37 : Den A37 → Bool) (g37 : Den A37 → Den R37) (f : V99_4 → Option (X99_4 ⊕ Y99_4)) (v : V99_4) : Option (X99_4 ⊕ Y99_4) :=
  bif (decide (v.fst.snd.snd.snd.fst < v.fst.snd.snd.fst)) then
    bif (decide (0 ≤ v.fst.snd.snd.snd.fst) && decide (v.fst.snd.snd.snd.fst < (↑(List.length v.fst.snd.fst) : Int))) then
      let v0 := (List.getD v.fst.snd.fst (Int.toNat v.fst.snd.snd.snd.fst) (zero S96))
      let v1 := (k41 (v0.fst, ()))
      bif (v1) then
        let v2 := (g41 (v0.fst, ()))
        bif (!v2.fst) then
          some (Sum.inr (((false), ()), ()))
        else
          let v3 := (k77 ([v0.snd.fst.fst, v0.snd.fst.snd.fst, v0.snd.fst.snd.snd.fst, v0.snd.fst.snd.snd.snd.fst, v0.snd.fst.snd.snd.snd.snd.fst, v0.snd.fst.snd.snd.snd.snd.snd.fst, v0.snd.fst.snd.snd.snd.snd.snd.snd.fst, v0.snd.fst.snd.snd.snd.snd.snd.snd.snd.fst, v0.snd.fst.snd.snd.snd.snd.snd.snd.snd.snd.fst, v0.snd.fst.snd.snd.snd.snd.snd.snd.snd.snd.snd.fst, v0.snd.fst.snd.snd.snd.snd.snd.snd.snd.snd.snd.snd.fst, v0.snd.fst.snd.snd.snd.snd.snd.snd.snd.snd.snd.snd.snd.fst, v0.snd.fst.snd.snd.snd.snd.snd.snd.snd.snd.snd.snd.snd.snd.fst], ()))
          bif (v3) then
            let v4 := (g77 ([v0.snd.fst.fst, v0.snd.fst.snd.fst, v0.snd.fst.snd.snd.fst, v0.snd.fst.snd.snd.snd.fst, v0.snd.fst.snd.snd.snd.snd.fst, v0.snd.fst.snd.snd.snd.snd.snd.fst, v0.snd.fst.snd.snd.snd.snd.snd.snd.fst, v0.snd.fst.snd.snd.snd.snd.snd.snd.snd.fst, v0.snd.fst.snd.snd.snd.snd.snd.snd.snd.snd.fst, v0.snd.fst.snd.snd.snd.snd.snd.snd.snd.snd.snd.fst, v0.snd.fst.snd.snd.snd.snd.snd.snd.snd.snd.snd.snd.fst, v0.snd.fst.snd.snd.snd.snd.snd.snd.snd.snd.snd.snd.snd.fst, v0.snd.fst.snd.snd.snd.snd.snd.snd.snd.snd.snd.snd.snd.snd.fst], ()))
            bif (!v4.fst) then
              some (Sum.inr (((false), ()), ()))
            else
              let v5 := (IntKind.wrap IntKind.i64 (v.fst.snd.snd.snd.fst + 1))
              f (((), ((v.fst.snd.1), ((v.fst.snd.snd.1), ((v5), ())))), (((v.snd.fst.1), ((v.snd.fst.snd.1), ())), ()))
          else
            none
      else
        none
    else
      none
  else
    some (Sum.inl (((), ()), (((v.snd.fst.1), ((v.snd.fst.snd.1), ())), ())))
theorem evl99_4 (k48 : Den A48 → Bool) (g48 : Den A48 → Den R48) (k41 : Den A41 → Bool) (g41 : Den A41 → Den R41) (k77 : Den A77 → Bool) (g77 : Den A77 → Den R77) (k37 : Den A37 → Bool) (g37 : Den A37 → Den R37) (kl4 : V99_4 → Bool) (xl4 : V99_4 → X99_4) (tl4 : V99_4 → Bool) (yl4 : V99_4 → Y99_4) (kl10 : V99_10 → Bool) (xl10 : V99_10 → X99_10) (tl10 : V99_10 → Bool) (yl10 : V99_10 → Y99_10) (f : V99_4 → Option (X99_4 ⊕ Y99_4)) (v : V99_4) : EBk (Γ99 k48 g48 k41 g41 k77 g77 k37 g37 kl4 xl4 tl4 yl4 kl10 xl10 tl10 yl10) lc99_4 (roundK [1, 20, 21, 22] [] 0 [1] [] (atS sh99_4 f) (endS shX99_4 shY99_4)) (mkS sh99_4 v) = q99_4 k48 g48 k41 g41 k77 g77 k37 g37 f v := by kernel_rfl
def b99_4 (v : V99_4) : Nat := v.1.2.1.length + v.1.2.2.1.natAbs + v.1.2.2.2.1.natAbs + v.2.1.1.length + v.2.1.2.1.length + 1000
def l99_4 (v : V99_4) : Option (X99_4 ⊕ Y99_4) := iter (q99_4 K48 G48 K41 G41 K77 G77 K37 G37) (b99_4 v) v
def kL99_4 (v : V99_4) : Bool := (l99_4 v).isSome
def tL99_4 (v : V99_4) : Bool := isR (l99_4 v)
def xL99_4 (v : V99_4) : X99_4 := xOf (((), ()), (([], ([], ())), ())) (l99_4 v)
def yL99_4 (v : V99_4) : Y99_4 := yOf ((false, ()), ()) (l99_4 v)
def r99 (k48 : Den A48 → Bool) (g48 : Den A48 → Den R48) (k41 : Den A41 → Bool) (g41 : Den A41 → Den R41) (k77 : Den A77 → Bool) (g77 : Den A77 → Den R77) (k37 : Den A37 → Bool) (g37 : Den A37 → Den R37) (kl4 : V99_4 → Bool) (xl4 : V99_4 → X99_4) (tl4 : V99_4 → Bool) (yl4 : V99_4 → Y99_4) (kl10 : V99_10 → Bool) (xl10 : V99_10 → X99_10) (tl10 : V99_10 → Bool) (yl10 : V99_10 → Y99_10) (x : Den A99) : Option (Den R99) :=
  let v0 := (k48 ((↑(List.length x.fst.fst) : Int), 1, 20, ()))
  bif (v0) then
    let v1 := (g48 ((↑(List.length x.fst.fst) : Int), 1, 20, ()))
    bif (!v1.fst) then
      some ((false), ())
    else
      let v2 := (k48 ((↑(List.length x.fst.snd.fst) : Int), 1, 60, ()))
      bif (v2) then
        let v3 := (g48 ((↑(List.length x.fst.snd.fst) : Int), 1, 60, ()))
        bif (!v3.fst) then
          some ((false), ())
        else
          let v4 := (kl4 (((), x.fst.fst, (↑(List.length x.fst.fst) : Int), 0, ()), x))
          bif (v4) then
            let v5 := (tl4 (((), x.fst.fst, (↑(List.length x.fst.fst) : Int), 0, ()), x))
            bif (v5) then
              let v6 := (yl4 (((), x.fst.fst, (↑(List.length x.fst.fst) : Int), 0, ()), x))
              some ((v6.fst.1), ())
            else
              let v6 := (xl4 (((), x.fst.fst, (↑(List.length x.fst.fst) : Int), 0, ()), x))
              let v7 := (kl10 (((), v6.snd.fst.snd.fst, (↑(List.length v6.snd.fst.snd.fst) : Int), 0, ()), v6.snd))
              bif (v7) then
                let v8 := (tl10 (((), v6.snd.fst.snd.fst, (↑(List.length v6.snd.fst.snd.fst) : Int), 0, ()), v6.snd))
                bif (v8) then
                  let v9 := (yl10 (((), v6.snd.fst.snd.fst, (↑(List.length v6.snd.fst.snd.fst) : Int), 0, ()), v6.snd))
                  some ((v9.fst.1), ())
                else
                  some ((true), ())
              else
                none
          else
            none
      else
        none
  else
    none
theorem ev99 (k48 : Den A48 → Bool) (g48 : Den A48 → Den R48) (k41 : Den A41 → Bool) (g41 : Den A41 → Den R41) (k77 : Den A77 → Bool) (g77 : Den A77 → Den R77) (k37 : Den A37 → Bool) (g37 : Den A37 → Den R37) (kl4 : V99_4 → Bool) (xl4 : V99_4 → X99_4) (tl4 : V99_4 → Bool) (yl4 : V99_4 → Y99_4) (kl10 : V99_10 → Bool) (xl10 : V99_10 → X99_10) (tl10 : V99_10 → Bool) (yl10 : V99_10 → Y99_10) (x : Den A99) : callK (Γ99 k48 g48 k41 g41 k77 g77 k37 g37 kl4 xl4 tl4 yl4 kl10 xl10 tl10 yl10) (bodyOf Try.f99) (decR R99) (encA A99 x) [] = r99 k48 g48 k41 g41 k77 g77 k37 g37 kl4 xl4 tl4 yl4 kl10 xl10 tl10 yl10 x := by kernel_rfl
def F99 (x : Den A99) : Option (Den R99) := r99 K48 G48 K41 G41 K77 G77 K37 G37 kL99_4 xL99_4 tL99_4 yL99_4 kL99_10 xL99_10 tL99_10 yL99_10 x
def K99 (x : Den A99) : Bool := (F99 x).isSome
def G99 (x : Den A99) : Den R99 := (F99 x).getD (zero R99)
theorem env99 : EnvOK Try.prog (Γ99 K48 G48 K41 G41 K77 G77 K37 G37 kL99_4 xL99_4 tL99_4 yL99_4 kL99_10 xL99_10 tL99_10 yL99_10) := env_ok mixed tab_ok eqs_ok (.cons sem48 (.cons sem41 (.cons sem77 (.cons sem37 .nil))))
theorem is99 : FnIs Try.prog 99 (Γ99 K48 G48 K41 G41 K77 G77 K37 G37 kL99_4 xL99_4 tL99_4 yL99_4 kL99_10 xL99_10 tL99_10 yL99_10) (bodyOf Try.f99) := fnIs Try.func99 rfl rfl rfl (by kernel_rfl) (loops_ok (l := [lc99_4, lc99_10]) (by kernel_rfl) (.cons (one_loop rfl (loopR_sound (sh := sh99_4) (shX := shX99_4) (shR := shY99_4) (fun f v => evl99_4 K48 G48 K41 G41 K77 G77 K37 G37 kL99_4 xL99_4 tL99_4 yL99_4 kL99_10 xL99_10 tL99_10 yL99_10 f v) b99_4 (((), ()), (([], ([], ())), ())) ((false, ()), ()))) (.cons (one_loop rfl (loopR_sound (sh := sh99_10) (shX := shX99_10) (shR := shY99_10) (fun f v => evl99_10 K48 G48 K41 G41 K77 G77 K37 G37 kL99_4 xL99_4 tL99_4 yL99_4 kL99_10 xL99_10 tL99_10 yL99_10 f v) b99_10 ((), ()) ((false, ()), ()))) (.nil))))
theorem sem99 : SemOK Try.prog (99, fnMean A99 R99 K99 G99) := fn_opt env99 is99 fun x => ev99 K48 G48 K41 G41 K77 G77 K37 G37 kL99_4 xL99_4 tL99_4 yL99_4 kL99_10 xL99_10 tL99_10 yL99_10 x

/- "loop.example/g03321/impl.NearStation" -/
abbrev A71 : Ty := .cons (S48) (.cons (.cpx .f64) (.nil))
abbrev R71 : Ty := .cons (.int .i64) (.nil)
abbrev V71_5 : Type := (((Nat × Nat) × (Int × (Nat × ((List (Den (S96))) × (Int × (Int × Unit)))))) × Unit)
def sh71_5 : ShS := ⟨[(1, .one (.cpx .f64)), (5, .one (.int .i64)), (6, .one (.flt .f64)), (20, .one (.sl (S96))), (21, .one (.int .i64)), (22, .one (.int .i64))], [], 0, 0⟩
abbrev X71_5 : Type := ((Int × Unit) × Unit)
def shX71_5 : ShS := ⟨[(5, .one (.int .i64))], [], 0, 0⟩
noncomputable def Γ71 (k99 : Den A99 → Bool) (g99 : Den A99 → Den R99) (k41 : Den A41 → Bool) (g41 : Den A41 → Den R41) (k42 : Den A42 → Bool) (g42 : Den A42 → Den R42) (k43 : Den A43 → Bool) (g43 : Den A43 → Den R43) (kl5 : V71_5 → Bool) (xl5 : V71_5 → X71_5) : Env := mkEnv tab eqs [(99, fnMean A99 R99 k99 g99), (41, fnMean A41 R41 k41 g41), (42, fnMean A42 R42 k42 g42), (43, fnMean A43 R43 k43 g43)] 45 [.tmp 4] [] [] [(5, loopX [1, 5, 6, 20, 21, 22] [] 0 [5] [] sh71_5 shX71_5 kl5 xl5)] [] []
noncomputable def lc71_5 : Code := (loopsOf (bodyOf Try.f71)).getD 0 .skip
def q71_5 (k99 : Den A99 → Bool) (g99 : Den A99 → Den R99) (k41 : Den A41 → Bool) (g41 : Den A41 → Den R41) (k42 : Den A42 → Bool) (g42 : Den A42 → Den R42) (k43 : Den A43 → Bool) (g43 : Den A43 → Den R43) (f : V71_5 → Option (X71_5)) (v : V71_5) : Option (X71_5) :=
  bif (decide (v.fst.snd.snd.snd.snd.snd.fst < v.fst.snd.snd.snd.snd.fst)) then
    bif (decide (0 ≤ v.fst.snd.snd.snd.snd.snd.fst) && decide (v.fst.snd.snd.snd.snd.snd.fst < (↑(List.length v.fst.snd.snd.snd.fst) : Int))) then
      let v0 := (List.getD v.fst.snd.snd.snd.fst (Int.toNat v.fst.snd.snd.snd.snd.snd.fst) (zero S96))
      let v1 := (k42 (v0.fst, v.fst.fst, ()))
      bif (v1) then
        let v2 := (g42 (v0.fst, v.fst.fst, ()))
        let v3 := (k43 (v2.fst, v2))
        bif (v3) then
          bif (decide (v.fst.snd.fst < 0)) then
            let v4 := (g43 (v2.fst, v2))
            let v5 := (IntKind.wrap IntKind.i64 (v.fst.snd.snd.snd.snd.snd.fst + 1))
            f ((((v.fst.fst.1), (v.fst.fst.2)), ((v.fst.snd.snd.snd.snd.snd.1), ((v4.1), ((v.fst.snd.snd.snd.1), ((v.fst.snd.snd.snd.snd.1), ((v5), ())))))), ())
          else
            let v4 := (g43 (v2.fst, v2))
            bif (flt FloatKind.f64 v4.fst v.fst.snd.snd.fst) then
              let v5 := (IntKind.wrap IntKind.i64 (v.fst.snd.snd.snd.snd.snd.fst + 1))
              f ((((v.fst.fst.1), (v.fst.fst.2)), ((v.fst.snd.snd.snd.snd.snd.1), ((v4.1), ((v.fst.snd.snd.snd.1), ((v.fst.snd.snd.snd.snd.1), ((v5), ())))))), ())
            else
              let v5 := (IntKind.wrap IntKind.i64 (v.fst.snd.snd.snd.snd.snd.fst + 1))
              f ((((v.fst.fst.1), (v.fst.fst.2)), ((v.fst.snd.1), ((v.fst.snd.snd.1), ((v.fst.snd.snd.snd.1), ((v.fst.snd.snd.snd.snd.1), ((v5), ())))))), ())
        else
          none
      else
        none
    else
      none
  else
    some (((v.fst.snd.1), ()), ())
theorem evl71_5 (k99 : Den A99 → Bool) (g99 : Den A99 → Den R99) (k41 : Den A41 → Bool) (g41 : Den A41 → Den R41) (k42 : Den A42 → Bool) (g42 : Den A42 → Den R42) (k43 : Den A43 → Bool) (g43 : Den A43 → Den R43) (kl5 : V71_5 → Bool) (xl5 : V71_5 → X71_5) (f : V71_5 → Option (X71_5)) (v : V71_5) : EBk (Γ71 k99 g99 k41 g41 k42 g42 k43 g43 kl5 xl5) lc71_5 (roundK [1, 5, 6, 20, 21, 22] [] 0 [5] [] (atS sh71_5 f) (endX shX71_5)) (mkS sh71_5 v) = q71_5 k99 g99 k41 g41 k42 g42 k43 g43 f v := by kernel_rfl
def b71_5 (v : V71_5) : Nat := v.1.2.1.natAbs + v.1.2.2.2.1.length + v.1.2.2.2.2.1.natAbs + v.1.2.2.2.2.2.1.natAbs + 1000
def l71_5 (v : V71_5) : Option (X71_5) := iter (q71_5 K99 G99 K41 G41 K42 G42 K43 G43) (b71_5 v) v
def kL71_5 (v : V71_5) : Bool := (l71_5 v).isSome
def xL71_5 (v : V71_5) : X71_5 := (l71_5 v).getD ((0, ()), ())
def r71 (k99 : Den A99 → Bool) (g99 : Den A99 → Den R99) (k41 : Den A41 → Bool) (g41 : Den A41 → Den R41) (k42 : Den A42 → Bool) (g42 : Den A42 → Den R42) (k43 : Den A43 → Bool) (g43 : Den A43 → Den R43) (kl5 : V71_5 → Bool) (xl5 : V71_5 → X71_5) (x : Den A71) : Option (Den R71) :=
  let v0 := (k99 (x.fst, ()))
  bif (v0) then
    let v1 := (g99 (x.fst, ()))
    bif (!v1.fst) then
      some ((-1), ())
    else
      let v2 := (k41 x.snd)
      bif (v2) then
        let v3 := (g41 x.snd)
        bif (!v3.fst) then
          some ((-1), ())
        else
          let v4 := (kl5 ((x.snd.fst, -1, 0, x.fst.fst, (↑(List.length x.fst.fst) : Int), 0, ()), ()))
          bif (v4) then
            let v5 := (xl5 ((x.snd.fst, -1, 0, x.fst.fst, (↑(List.length x.fst.fst) : Int), 0, ()), ()))
            some ((v5.fst.1), ())
          else
            none
      else
        none
  else
    none
theorem ev71 (k99 : Den A99 → Bool) (g99 : Den A99 → Den R99) (k41 : Den A41 → Bool) (g41 : Den A41 → Den R41) (k42 : Den A42 → Bool) (g42 : Den A42 → Den R42) (k43 : Den A43 → Bool) (g43 : Den A43 → Den R43) (kl5 : V71_5 → Bool) (xl5 : V71_5 → X71_5) (x : Den A71) : callK (Γ71 k99 g99 k41 g41 k42 g42 k43 g43 kl5 xl5) (bodyOf Try.f71) (decR R71) (encA A71 x) [] = r71 k99 g99 k41 g41 k42 g42 k43 g43 kl5 xl5 x := by kernel_rfl
def F71 (x : Den A71) : Option (Den R71) := r71 K99 G99 K41 G41 K42 G42 K43 G43 kL71_5 xL71_5 x
def K71 (x : Den A71) : Bool := (F71 x).isSome
def G71 (x : Den A71) : Den R71 := (F71 x).getD (zero R71)
theorem env71 : EnvOK Try.prog (Γ71 K99 G99 K41 G41 K42 G42 K43 G43 kL71_5 xL71_5) := env_ok mixed tab_ok eqs_ok (.cons sem99 (.cons sem41 (.cons sem42 (.cons sem43 .nil))))
theorem is71 : FnIs Try.prog 71 (Γ71 K99 G99 K41 G41 K42 G42 K43 G43 kL71_5 xL71_5) (bodyOf Try.f71) := fnIs Try.func71 rfl rfl rfl (by kernel_rfl) (loops_ok (l := [lc71_5]) (by kernel_rfl) (.cons (one_loop rfl (loopX_sound (sh := sh71_5) (shX := shX71_5) (fun f v => evl71_5 K99 G99 K41 G41 K42 G42 K43 G43 kL71_5 xL71_5 f v) b71_5 ((0, ()), ()))) (.nil)))
theorem sem71 : SemOK Try.prog (71, fnMean A71 R71 K71 G71) := fn_opt env71 is71 fun x => ev71 K99 G99 K41 G41 K42 G42 K43 G43 kL71_5 xL71_5 x

/- "loop.example/g03321/impl.HighAt$1" mode S true -/
abbrev I100 : Sg := ⟨[.val (.int .i64), .ptr 0, .ptr 1], [.box (.int .i64), .box (S48)]⟩
abbrev O100 : Sg := ⟨[.val (.int .i64)], [.box (.int .i64), .box (S48)]⟩
noncomputable def Γ100 : Env := mkEnv tab eqs [] 20 [.tmp 4] [] [] [] [] []
def r100 (x : I100.den) : Option (O100.den) :=
  bif (decide (0 ≤ x.fst.fst) && decide (x.fst.fst < (↑(List.length x.snd.snd.fst.snd.fst) : Int))) then
    bif (decide (0 ≤ x.fst.fst) && decide (x.fst.fst < (↑(List.length x.snd.snd.fst.snd.fst) : Int))) then
      let v0 := (List.getD x.snd.snd.fst.snd.fst (Int.toNat x.fst.fst) (zero (Ty.int IntKind.i64)))
      let v1 := (IntKind.wrap IntKind.i64 (x.snd.fst - v0))
      let v2 := (IntKind.wrap IntKind.i64 (v0 - x.snd.fst))
      some (((imax v1 v2), ()), ((x.snd.1), (((x.snd.snd.fst.1), ((x.snd.snd.fst.snd.1), ())), ())))
    else
      none
  else
    none
theorem ev100 (x : I100.den) : callS (Γ100) (bodyOf Try.f100) I100 O100 x = r100 x := by kernel_rfl
def F100 (x : I100.den) : Option (O100.den) := r100 x
def K100 (x : I100.den) : Bool := (F100 x).isSome
def G100 (x : I100.den) : O100.den := (F100 x).getD (zeroSg O100)
theorem env100 : EnvOK Try.prog (Γ100) := env_ok mixed tab_ok eqs_ok .nil
theorem is100 : FnIs Try.prog 100 (Γ100) (bodyOf Try.f100) := fnIs Try.func100 rfl rfl rfl (by kernel_rfl) (noLoops (by kernel_rfl))
theorem sem100 : SemOK Try.prog (100, sgMean true I100 O100 K100 G100) := sg_opt env100 is100 true fun x => ev100 x

/- "loop.example/g03321/impl.HighAt" -/
abbrev A72 : Ty := .cons (S48) (.cons (.int .i64) (.nil))
abbrev R72 : Ty := .cons (.int .i64) (.nil)
abbrev V72_6 : Type := ((Unit × (Int × (Int × (Int × Unit)))) × ((Int × Unit) × (((List (Den (S96))) × ((List (Den (.int .i64))) × Unit)) × Unit)))
def sh72_6 : ShS := ⟨[(5, .one (.fn 100 [0, 1])), (6, .one (.int .i64)), (19, .one (.int .i64)), (20, .one (.int .i64))], [(0, .box [.int .i64]), (1, .box [.sl (S96), .sl (.int .i64)])], 2, 0⟩
abbrev X72_6 : Type := ((Int × Unit) × Unit)
def shX72_6 : ShS := ⟨[(6, .one (.int .i64))], [], 0, 0⟩
noncomputable def Γ72 (k99 : Den A99 → Bool) (g99 : Den A99 → Den R99) (k37 : Den A37 → Bool) (g37 : Den A37 → Den R37) (k100 : I100.den → Bool) (g100 : I100.den → O100.den) (kl6 : V72_6 → Bool) (xl6 : V72_6 → X72_6) : Env := mkEnv tab eqs [(99, fnMean A99 R99 k99 g99), (37, fnMean A37 R37 k37 g37), (100, sgMean true I100 O100 k100 g100)] 33 [.tmp 4] [] [] [(6, loopX [5, 6, 19, 20] [] 0 [6] [] sh72_6 shX72_6 kl6 xl6)] [] []
noncomputable def lc72_6 : Code := (loopsOf (bodyOf Try.f72)).getD 0 .skip
def q72_6 (k99 : Den A99 → Bool) (g99 : Den A99 → Den R99) (k37 : Den A37 → Bool) (g37 : Den A37 → Den R37) (k100 : I100.den → Bool) (g100 : I100.den → O100.den) (f : V72_6 → Option (X72_6)) (v : V72_6) : Option (X72_6) :=
  bif (decide (v.fst.snd.snd.snd.fst < v.fst.snd.snd.fst)) then
    let v0 := (k100 ((v.fst.snd.snd.snd.fst, (), (), ()), v.snd.fst.fst, v.snd.snd))
    bif (v0) then
      let v1 := (g100 ((v.fst.snd.snd.snd.fst, (), (), ()), v.snd.fst.fst, v.snd.snd))
      let v2 := (k100 ((v.fst.snd.fst, (), (), ()), v1.snd))
      bif (v2) then
        let v3 := (g100 ((v.fst.snd.fst, (), (), ()), v1.snd))
        bif (decide (v1.fst.fst < v3.fst.fst)) then
          let v4 := (IntKind.wrap IntKind.i64 (v.fst.snd.snd.snd.fst + 1))
          f (((), ((v.fst.snd.snd.snd.1), ((v.fst.snd.snd.1), ((v4), ())))), (((v3.snd.1), ()), (((v3.snd.snd.fst.1), ((v3.snd.snd.fst.snd.1), ())), ())))
        else
          let v4 := (IntKind.wrap IntKind.i64 (v.fst.snd.snd.snd.fst + 1))
          f (((), ((v.fst.snd.1), ((v.fst.snd.snd.1), ((v4), ())))), (((v3.snd.1), ()), (((v3.snd.snd.fst.1), ((v3.snd.snd.fst.snd.1), ())), ())))
      else
        none
    else
      none
  else
    some (((v.fst.snd.1), ()), ())
theorem evl72_6 (k99 : Den A99 → Bool) (g99 : Den A99 → Den R99) (k37 : Den A37 → Bool) (g37 : Den A37 → Den R37) (k100 : I100.den → Bool) (g100 : I100.den → O100.den) (kl6 : V72_6 → Bool) (xl6 : V72_6 → X72_6) (f : V72_6 → Option (X72_6)) (v : V72_6) : EBk (Γ72 k99 g99 k37 g37 k100 g100 kl6 xl6) lc72_6 (roundK [5, 6, 19, 20] [] 0 [6] [] (atS sh72_6 f) (endX shX72_6)) (mkS sh72_6 v) = q72_6 k99 g99 k37 g37 k100 g100 f v := by kernel_rfl
def b72_6 (v : V72_6) : Nat := v.1.2.1.natAbs + v.1.2.2.1.natAbs + v.1.2.2.2.1.natAbs + v.2.1.1.natAbs + v.2.2.1.1.length + v.2.2.1.2.1.length + 1000
def l72_6 (v : V72_6) : Option (X72_6) := iter (q72_6 K99 G99 K37 G37 K100 G100) (b72_6 v) v
def kL72_6 (v : V72_6) : Bool := (l72_6 v).isSome
def xL72_6 (v : V72_6) : X72_6 := (l72_6 v).getD ((0, ()), ())
def r72 (k99 : Den A99 → Bool) (g99 : Den A99 → Den R99) (k37 : Den A37 → Bool) (g37 : Den A37 → Den R37) (k100 : I100.den → Bool) (g100 : I100.den → O100.den) (kl6 : V72_6 → Bool) (xl6 : V72_6 → X72_6) (x : Den A72) : Option (Den R72) :=
  let v0 := (k99 (x.fst, ()))
  bif (v0) then
    let v1 := (g99 (x.fst, ()))
    bif (!v1.fst) then
      some ((-1), ())
    else
      let v2 := (k37 x.snd)
      bif (v2) then
        let v3 := (g37 x.snd)
        bif (!v3.fst) then
          some ((-1), ())
        else
          let v4 := (kl6 (((), 0, (↑(List.length x.fst.snd.fst) : Int), 0, ()), x.snd, x.fst, ()))
          bif (v4) then
            let v5 := (xl6 (((), 0, (↑(List.length x.fst.snd.fst) : Int), 0, ()), x.snd, x.fst, ()))
            some ((v5.fst.1), ())
          else
            none
      else
        none
  else
    none
theorem ev72 (k99 : Den A99 → Bool) (g99 : Den A99 → Den R99) (k37 : Den A37 → Bool) (g37 : Den A37 → Den R37) (k100 : I100.den → Bool) (g100 : I100.den → O100.den) (kl6 : V72_6 → Bool) (xl6 : V72_6 → X72_6) (x : Den A72) : callK (Γ72 k99 g99 k37 g37 k100 g100 kl6 xl6) (bodyOf Try.f72) (decR R72) (encA A72 x) [] = r72 k99 g99 k37 g37 k100 g100 kl6 xl6 x := by kernel_rfl
def F72 (x : Den A72) : Option (Den R72) := r72 K99 G99 K37 G37 K100 G100 kL72_6 xL72_6 x
def K72 (x : Den A72) : Bool := (F72 x).isSome
def G72 (x : Den A72) : Den R72 := (F72 x).getD (zero R72)
theorem env72 : EnvOK Try.prog (Γ72 K99 G99 K37 G37 K100 G100 kL72_6 xL72_6) := env_ok mixed tab_ok eqs_ok (.cons sem99 (.cons sem37 (.cons sem100 .nil)))
theorem is72 : FnIs Try.prog 72 (Γ72 K99 G99 K37 G37 K100 G100 kL72_6 xL72_6) (bodyOf Try.f72) := fnIs Try.func72 rfl rfl rfl (by kernel_rfl) (loops_ok (l := [lc72_6]) (by kernel_rfl) (.cons (one_loop rfl (loopX_sound (sh := sh72_6) (shX := shX72_6) (fun f v => evl72_6 K99 G99 K37 G37 K100 G100 kL72_6 xL72_6 f v) b72_6 ((0, ()), ()))) (.nil)))
theorem sem72 : SemOK Try.prog (72, fnMean A72 R72 K72 G72) := fn_opt env72 is72 fun x => ev72 K99 G99 K37 G37 K100 G100 kL72_6 xL72_6 x

/- "loop.example/g03321/impl.Clamp" -/
abbrev A101 : Ty := .cons (.int .i64) (.cons (.int .i64) (.cons (.int .i64) (.nil)))
abbrev R101 : Ty := .cons (.int .i64) (.nil)
noncomputable def Γ101 : Env := mkEnv tab eqs [] 19 [.tmp 6] [] [] [] [] []
def r101 (x : Den A101) : Option (Den R101) :=
  bif (decide (x.snd.snd.fst < x.snd.fst)) then
    some ((x.snd.1), ())
  else
    bif (decide (x.fst < x.snd.fst)) then
      some ((x.snd.1), ())
    else
      some ((imin x.fst x.snd.snd.fst), ())
theorem ev101 (x : Den A101) : callK (Γ101) (bodyOf Try.f101) (decR R101) (encA A101 x) [] = r101 x := by kernel_rfl
def F101 (x : Den A101) : Option (Den R101) := r101 x
def K101 (x : Den A101) : Bool := (F101 x).isSome
def G101 (x : Den A101) : Den R101 := (F101 x).getD (zero R101)
theorem env101 : EnvOK Try.prog (Γ101) := env_ok mixed tab_ok eqs_ok .nil
theorem is101 : FnIs Try.prog 101 (Γ101) (bodyOf Try.f101) := fnIs Try.func101 rfl rfl rfl (by kernel_rfl) (noLoops (by kernel_rfl))
theorem sem101 : SemOK Try.prog (101, fnMean A101 R101 K101 G101) := fn_opt env101 is101 fun x => ev101 x

/- "loop.example/g03321/impl.between" -/
abbrev A102 : Ty := .cons (.flt .f32) (.cons (.flt .f32) (.cons (.flt .f32) (.nil)))
abbrev R102 : Ty := .cons (.flt .f32) (.nil)
noncomputable def Γ102 : Env := mkEnv tab eqs [] 16 [.tmp 6] [] [] [] [] []
def r102 (x : Den A102) : Option (Den R102) :=
  let v0 := (farith BinOp.sub FloatKind.f32 x.snd.fst x.fst)
  let v1 := (farith BinOp.mul FloatKind.f32 v0 x.snd.snd.fst)
  let v2 := (farith BinOp.add FloatKind.f32 x.fst v1)
  some ((v2), ())
theorem ev102 (x : Den A102) : callK (Γ102) (bodyOf Try.f102) (decR R102) (encA A102 x) [] = r102 x := by kernel_rfl
def F102 (x : Den A102) : Option (Den R102) := r102 x
def K102 (x : Den A102) : Bool := (F102 x).isSome
def G102 (x : Den A102) : Den R102 := (F102 x).getD (zero R102)
theorem env102 : EnvOK Try.prog (Γ102) := env_ok mixed tab_ok eqs_ok .nil
theorem is102 : FnIs Try.prog 102 (Γ102) (bodyOf Try.f102) := fnIs Try.func102 rfl rfl rfl (by kernel_rfl) (noLoops (by kernel_rfl))
theorem sem102 : SemOK Try.prog (102, fnMean A102 R102 K102 G102) := fn_opt env102 is102 fun x => ev102 x

/- "loop.example/g03321/impl.FlowAt" -/
abbrev A73 : Ty := .cons (S96) (.cons (.int .i64) (.nil))
abbrev R73 : Ty := .cons (.cpx .f32) (.cons (.bool) (.nil))
noncomputable def Γ73 (k77 : Den A77 → Bool) (g77 : Den A77 → Den R77) (k101 : Den A101 → Bool) (g101 : Den A101 → Den R101) (k102 : Den A102 → Bool) (g102 : Den A102 → Den R102) : Env := mkEnv tab eqs [(77, fnMean A77 R77 k77 g77), (101, fnMean A101 R101 k101 g101), (102, fnMean A102 R102 k102 g102)] 54 [.tmp 4, .tmp 5] [] [] [] [] []
def r73 (k77 : Den A77 → Bool) (g77 : Den A77 → Den R77) (k101 : Den A101 → Bool) (g101 : Den A101 → Den R101) (k102 : Den A102 → Bool) (g102 : Den A102 → Den R102) (x : Den A73) : Option (Den R73) :=
  let v0 := (k77 ([x.fst.snd.fst.fst, x.fst.snd.fst.snd.fst, x.fst.snd.fst.snd.snd.fst, x.fst.snd.fst.snd.snd.snd.fst, x.fst.snd.fst.snd.snd.snd.snd.fst, x.fst.snd.fst.snd.snd.snd.snd.snd.fst, x.fst.snd.fst.snd.snd.snd.snd.snd.snd.fst, x.fst.snd.fst.snd.snd.snd.snd.snd.snd.snd.fst, x.fst.snd.fst.snd.snd.snd.snd.snd.snd.snd.snd.fst, x.fst.snd.fst.snd.snd.snd.snd.snd.snd.snd.snd.snd.fst, x.fst.snd.fst.snd.snd.snd.snd.snd.snd.snd.snd.snd.snd.fst, x.fst.snd.fst.snd.snd.snd.snd.snd.snd.snd.snd.snd.snd.snd.fst, x.fst.snd.fst.snd.snd.snd.snd.snd.snd.snd.snd.snd.snd.snd.snd.fst], ()))
  bif (v0) then
    let v1 := (g77 ([x.fst.snd.fst.fst, x.fst.snd.fst.snd.fst, x.fst.snd.fst.snd.snd.fst, x.fst.snd.fst.snd.snd.snd.fst, x.fst.snd.fst.snd.snd.snd.snd.fst, x.fst.snd.fst.snd.snd.snd.snd.snd.fst, x.fst.snd.fst.snd.snd.snd.snd.snd.snd.fst, x.fst.snd.fst.snd.snd.snd.snd.snd.snd.snd.fst, x.fst.snd.fst.snd.snd.snd.snd.snd.snd.snd.snd.fst, x.fst.snd.fst.snd.snd.snd.snd.snd.snd.snd.snd.snd.fst, x.fst.snd.fst.snd.snd.snd.snd.snd.snd.snd.snd.snd.snd.fst, x.fst.snd.fst.snd.snd.snd.snd.snd.snd.snd.snd.snd.snd.snd.fst, x.fst.snd.fst.snd.snd.snd.snd.snd.snd.snd.snd.snd.snd.snd.snd.fst], ()))
    bif (!v1.fst) then
      some (((0), (0)), ((false), ()))
    else
      let v2 := (k101 (x.snd.fst, -21600, 21600, ()))
      bif (v2) then
        let v3 := (g101 (x.snd.fst, -21600, 21600, ()))
        let v4 := (IntKind.wrap IntKind.i64 (v3.fst + 21600))
        bif (Int.tmod v4 3600 == 0) then
          let v5 := (IntKind.wrap IntKind.i64 (Int.tdiv v4 3600))
          bif (decide (0 ≤ v5) && decide (v5 < (↑13 : Int))) then
            let v6 := (List.getD [x.fst.snd.fst.fst, x.fst.snd.fst.snd.fst, x.fst.snd.fst.snd.snd.fst, x.fst.snd.fst.snd.snd.snd.fst, x.fst.snd.fst.snd.snd.snd.snd.fst, x.fst.snd.fst.snd.snd.snd.snd.snd.fst, x.fst.snd.fst.snd.snd.snd.snd.snd.snd.fst, x.fst.snd.fst.snd.snd.snd.snd.snd.snd.snd.fst, x.fst.snd.fst.snd.snd.snd.snd.snd.snd.snd.snd.fst, x.fst.snd.fst.snd.snd.snd.snd.snd.snd.snd.snd.snd.fst, x.fst.snd.fst.snd.snd.snd.snd.snd.snd.snd.snd.snd.snd.fst, x.fst.snd.fst.snd.snd.snd.snd.snd.snd.snd.snd.snd.snd.snd.fst, x.fst.snd.fst.snd.snd.snd.snd.snd.snd.snd.snd.snd.snd.snd.snd.fst] (Int.toNat v5) (0, 0))
            some (((v6.1), (v6.2)), ((true), ()))
          else
            none
        else
          let v5 := (IntKind.wrap IntKind.i64 (Int.tdiv v4 3600))
          bif (decide (0 ≤ v5) && decide (v5 < (↑13 : Int))) then
            let v6 := (IntKind.wrap IntKind.i64 (v5 + 1))
            bif (decide (0 ≤ v6) && decide (v6 < (↑13 : Int))) then
              let v7 := (List.getD [x.fst.snd.fst.fst, x.fst.snd.fst.snd.fst, x.fst.snd.fst.snd.snd.fst, x.fst.snd.fst.snd.snd.snd.fst, x.fst.snd.fst.snd.snd.snd.snd.fst, x.fst.snd.fst.snd.snd.snd.snd.snd.fst, x.fst.snd.fst.snd.snd.snd.snd.snd.snd.fst, x.fst.snd.fst.snd.snd.snd.snd.snd.snd.snd.fst, x.fst.snd.fst.snd.snd.snd.snd.snd.snd.snd.snd.fst, x.fst.snd.fst.snd.snd.snd.snd.snd.snd.snd.snd.snd.fst, x.fst.snd.fst.snd.snd.snd.snd.snd.snd.snd.snd.snd.snd.fst, x.fst.snd.fst.snd.snd.snd.snd.snd.snd.snd.snd.snd.snd.snd.fst, x.fst.snd.fst.snd.snd.snd.snd.snd.snd.snd.snd.snd.snd.snd.snd.fst] (Int.toNat v5) (0, 0))
              let v8 := (List.getD [x.fst.snd.fst.fst, x.fst.snd.fst.snd.fst, x.fst.snd.fst.snd.snd.fst, x.fst.snd.fst.snd.snd.snd.fst, x.fst.snd.fst.snd.snd.snd.snd.fst, x.fst.snd.fst.snd.snd.snd.snd.snd.fst, x.fst.snd.fst.snd.snd.snd.snd.snd.snd.fst, x.fst.snd.fst.snd.snd.snd.snd.snd.snd.snd.fst, x.fst.snd.fst.snd.snd.snd.snd.snd.snd.snd.snd.fst, x.fst.snd.fst.snd.snd.snd.snd.snd.snd.snd.snd.snd.fst, x.fst.snd.fst.snd.snd.snd.snd.snd.snd.snd.snd.snd.snd.fst, x.fst.snd.fst.snd.snd.snd.snd.snd.snd.snd.snd.snd.snd.snd.fst, x.fst.snd.fst.snd.snd.snd.snd.snd.snd.snd.snd.snd.snd.snd.snd.fst] (Int.toNat v6) (0, 0))
              let v9 := (farith BinOp.quo FloatKind.f32 (FloatKind.nearest FloatKind.f32 (Int.tmod v4 3600)) 1163984896)
              let v10 := (k102 (v7.fst, v8.fst, v9, ()))
              bif (v10) then
                let v11 := (k102 (v7.snd, v8.snd, v9, ()))
                bif (v11) then
                  let v12 := (g102 (v7.fst, v8.fst, v9, ()))
                  let v13 := (g102 (v7.snd, v8.snd, v9, ()))
                  some (((v12.1), (v13.1)), ((true), ()))
                else
                  none
              else
                none
            else
              none
          else
            none
      else
        none
  else
    none
theorem ev73 (k77 : Den A77 → Bool) (g77 : Den A77 → Den R77) (k101 : Den A101 → Bool) (g101 : Den A101 → Den R101) (k102 : Den A102 → Bool) (g102 : Den A102 → Den R102) (x : Den A73) : callK (Γ73 k77 g77 k101 g101 k102 g102) (bodyOf Try.f73) (decR R73) (encA A73 x) [] = r73 k77 g77 k101 g101 k102 g102 x := by kernel_rfl
def F73 (x : Den A73) : Option (Den R73) := r73 K77 G77 K101 G101 K102 G102 x
def K73 (x : Den A73) : Bool := (F73 x).isSome
def G73 (x : Den A73) : Den R73 := (F73 x).getD (zero R73)
theorem env73 : EnvOK Try.prog (Γ73 K77 G77 K101 G101 K102 G102) := env_ok mixed tab_ok eqs_ok (.cons sem77 (.cons sem101 (.cons sem102 .nil)))
theorem is73 : FnIs Try.prog 73 (Γ73 K77 G77 K101 G101 K102 G102) (bodyOf Try.f73) := fnIs Try.func73 rfl rfl rfl (by kernel_rfl) (noLoops (by kernel_rfl))
theorem sem73 : SemOK Try.prog (73, fnMean A73 R73 K73 G73) := fn_opt env73 is73 fun x => ev73 K77 G77 K101 G101 K102 G102 x

/- "loop.example/g03321/impl.StreamAt" -/
abbrev A28 : Ty := .cons (S48) (.cons (.cpx .f64) (.cons (.int .i64) (.nil)))
abbrev R28 : Ty := .cons (.cpx .f32) (.cons (.bool) (.nil))
noncomputable def Γ28 (k71 : Den A71 → Bool) (g71 : Den A71 → Den R71) (k72 : Den A72 → Bool) (g72 : Den A72 → Den R72) (k73 : Den A73 → Bool) (g73 : Den A73 → Den R73) : Env := mkEnv tab eqs [(71, fnMean A71 R71 k71 g71), (72, fnMean A72 R72 k72 g72), (73, fnMean A73 R73 k73 g73)] 37 [.tmp 6, .tmp 7] [] [] [] [] []
def r28 (k71 : Den A71 → Bool) (g71 : Den A71 → Den R71) (k72 : Den A72 → Bool) (g72 : Den A72 → Den R72) (k73 : Den A73 → Bool) (g73 : Den A73 → Den R73) (x : Den A28) : Option (Den R28) :=
  let v0 := (k71 (x.fst, x.snd.fst, ()))
  bif (v0) then
    let v1 := (k72 (x.fst, x.snd.snd))
    bif (v1) then
      let v2 := (g71 (x.fst, x.snd.fst, ()))
      bif (decide (v2.fst < 0)) then
        some (((0), (0)), ((false), ()))
      else
        let v3 := (g72 (x.fst, x.snd.snd))
        bif (decide (v3.fst < 0)) then
          some (((0), (0)), ((false), ()))
        else
          bif (decide (0 ≤ v2.fst) && decide (v2.fst < (↑(List.length x.fst.fst) : Int))) then
            bif (decide (0 ≤ v3.fst) && decide (v3.fst < (↑(List.length x.fst.snd.fst) : Int))) then
              let v4 := (List.getD x.fst.fst (Int.toNat v2.fst) (zero S96))
              let v5 := (List.getD x.fst.snd.fst (Int.toNat v3.fst) (zero (Ty.int IntKind.i64)))
              let v6 := (IntKind.wrap IntKind.i64 (x.snd.snd.fst - v5))
              let v7 := (k73 (v4, v6, ()))
              bif (v7) then
                let v8 := (g73 (v4, v6, ()))
                some (((v8.fst.1), (v8.fst.2)), ((v8.snd.1), ()))
              else
                none
            else
              none
          else
            none
    else
      none
  else
    none
theorem ev28 (k71 : Den A71 → Bool) (g71 : Den A71 → Den R71) (k72 : Den A72 → Bool) (g72 : Den A72 → Den R72) (k73 : Den A73 → Bool) (g73 : Den A73 → Den R73) (x : Den A28) : callK (Γ28 k71 g71 k72 g72 k73 g73) (bodyOf Try.f28) (decR R28) (encA A28 x) [] = r28 k71 g71 k72 g72 k73 g73 x := by kernel_rfl
def F28 (x : Den A28) : Option (Den R28) := r28 K71 G71 K72 G72 K73 G73 x
def K28 (x : Den A28) : Bool := (F28 x).isSome
def G28 (x : Den A28) : Den R28 := (F28 x).getD (zero R28)
theorem env28 : EnvOK Try.prog (Γ28 K71 G71 K72 G72 K73 G73) := env_ok mixed tab_ok eqs_ok (.cons sem71 (.cons sem72 (.cons sem73 .nil)))
theorem is28 : FnIs Try.prog 28 (Γ28 K71 G71 K72 G72 K73 G73) (bodyOf Try.f28) := fnIs Try.func28 rfl rfl rfl (by kernel_rfl) (noLoops (by kernel_rfl))
theorem sem28 : SemOK Try.prog (28, fnMean A28 R28 K28 G28) := fn_opt env28 is28 fun x => ev28 K71 G71 K72 G72 K73 G73 x

/- "loop.example/g03321/impl.mod" -/
abbrev A84 : Ty := .cons (.int .i64) (.nil)
abbrev R84 : Ty := .cons (.int .i64) (.nil)
noncomputable def Γ84 : Env := mkEnv tab eqs [] 7 [.tmp 2] [] [] [] [] []
def r84 (x : Den A84) : Option (Den R84) :=
  let v0 := (IntKind.wrap IntKind.i64 (Int.tmod x.fst 360 + 360))
  some ((Int.tmod v0 360), ())
theorem ev84 (x : Den A84) : callK (Γ84) (bodyOf Try.f84) (decR R84) (encA A84 x) [] = r84 x := by kernel_rfl
def F84 (x : Den A84) : Option (Den R84) := r84 x
def K84 (x : Den A84) : Bool := (F84 x).isSome
def G84 (x : Den A84) : Den R84 := (F84 x).getD (zero R84)
theorem env84 : EnvOK Try.prog (Γ84) := env_ok mixed tab_ok eqs_ok .nil
theorem is84 : FnIs Try.prog 84 (Γ84) (bodyOf Try.f84) := fnIs Try.func84 rfl rfl rfl (by kernel_rfl) (noLoops (by kernel_rfl))
theorem sem84 : SemOK Try.prog (84, fnMean A84 R84 K84 G84) := fn_opt env84 is84 fun x => ev84 x

/- "loop.example/g03321/impl.times" -/
abbrev A85 : Ty := .cons (.cpx .f64) (.cons (.cpx .f64) (.nil))
abbrev R85 : Ty := .cons (.cpx .f64) (.nil)
noncomputable def Γ85 : Env := mkEnv tab eqs [] 32 [.tmp 4] [] [] [] [] []
def r85 (x : Den A85) : Option (Den R85) :=
  let v0 := (farith BinOp.mul FloatKind.f64 x.fst.fst x.snd.fst.fst)
  let v1 := (farith BinOp.mul FloatKind.f64 x.fst.snd x.snd.fst.snd)
  let v2 := (farith BinOp.sub FloatKind.f64 v0 v1)
  let v3 := (farith BinOp.mul FloatKind.f64 x.fst.fst x.snd.fst.snd)
  let v4 := (farith BinOp.mul FloatKind.f64 x.fst.snd x.snd.fst.fst)
  let v5 := (farith BinOp.add FloatKind.f64 v3 v4)
  some (((v2), (v5)), ())
theorem ev85 (x : Den A85) : callK (Γ85) (bodyOf Try.f85) (decR R85) (encA A85 x) [] = r85 x := by kernel_rfl
def F85 (x : Den A85) : Option (Den R85) := r85 x
def K85 (x : Den A85) : Bool := (F85 x).isSome
def G85 (x : Den A85) : Den R85 := (F85 x).getD (zero R85)
theorem env85 : EnvOK Try.prog (Γ85) := env_ok mixed tab_ok eqs_ok .nil
theorem is85 : FnIs Try.prog 85 (Γ85) (bodyOf Try.f85) := fnIs Try.func85 rfl rfl rfl (by kernel_rfl) (noLoops (by kernel_rfl))
theorem sem85 : SemOK Try.prog (85, fnMean A85 R85 K85 G85) := fn_opt env85 is85 fun x => ev85 x

/- "loop.example/g03321/impl.Turn" -/
abbrev A50 : Ty := .cons (.int .i64) (.nil)
abbrev R50 : Ty := .cons (.cpx .f64) (.nil)
abbrev V50_3 : Type := (((Nat × Nat) × (Int × Unit)) × Unit)
def sh50_3 : ShS := ⟨[(3, .one (.cpx .f64)), (4, .one (.int .i64))], [], 0, 0⟩
abbrev X50_3 : Type := (((Nat × Nat) × Unit) × Unit)
def shX50_3 : ShS := ⟨[(3, .one (.cpx .f64))], [], 0, 0⟩
noncomputable def Γ50 (k84 : Den A84 → Bool) (g84 : Den A84 → Den R84) (k85 : Den A85 → Bool) (g85 : Den A85 → Den R85) (kl3 : V50_3 → Bool) (xl3 : V50_3 → X50_3) : Env := mkEnv tab eqs [(84, fnMean A84 R84 k84 g84), (85, fnMean A85 R85 k85 g85)] 14 [.tmp 2] [] [] [(3, loopX [3, 4] [] 0 [3] [] sh50_3 shX50_3 kl3 xl3)] [] []
noncomputable def lc50_3 : Code := (loopsOf (bodyOf Try.f50)).getD 0 .skip
def q50_3 (k84 : Den A84 → Bool) (g84 : Den A84 → Den R84) (k85 : Den A85 → Bool) (g85 : Den A85 → Den R85) (f : V50_3 → Option (X50_3)) (v : V50_3) : Option (X50_3) :=
  bif (decide (v.fst.snd.fst > 0)) then
    let v0 := (k85 (v.fst.fst, (4607181046959943561, 4580687535080594718), ()))
    bif (v0) then
      let v1 := (g85 (v.fst.fst, (4607181046959943561, 4580687535080594718), ()))
      let v2 := (IntKind.wrap IntKind.i64 (v.fst.snd.fst - 1))
      f ((((v1.fst.1), (v1.fst.2)), ((v2), ())), ())
    else
      none
  else
    some ((((v.fst.fst.1), (v.fst.fst.2)), ()), ())
theorem evl50_3 (k84 : Den A84 → Bool) (g84 : Den A84 → Den R84) (k85 : Den A85 → Bool) (g85 : Den A85 → Den R85) (kl3 : V50_3 → Bool) (xl3 : V50_3 → X50_3) (f : V50_3 → Option (X50_3)) (v : V50_3) : EBk (Γ50 k84 g84 k85 g85 kl3 xl3) lc50_3 (roundK [3, 4] [] 0 [3] [] (atS sh50_3 f) (endX shX50_3)) (mkS sh50_3 v) = q50_3 k84 g84 k85 g85 f v := by kernel_rfl
def b50_3 (v : V50_3) : Nat := v.1.2.1.natAbs + 1000
def l50_3 (v : V50_3) : Option (X50_3) := iter (q50_3 K84 G84 K85 G85) (b50_3 v) v
def kL50_3 (v : V50_3) : Bool := (l50_3 v).isSome
def xL50_3 (v : V50_3) : X50_3 := (l50_3 v).getD (((0, 0), ()), ())
def r50 (k84 : Den A84 → Bool) (g84 : Den A84 → Den R84) (k85 : Den A85 → Bool) (g85 : Den A85 → Den R85) (kl3 : V50_3 → Bool) (xl3 : V50_3 → X50_3) (x : Den A50) : Option (Den R50) :=
  let v0 := (k84 x)
  bif (v0) then
    let v1 := (g84 x)
    let v2 := (kl3 (((4607182418800017408, 0), v1), ()))
    bif (v2) then
      let v3 := (xl3 (((4607182418800017408, 0), v1), ()))
      some (((v3.fst.fst.1), (v3.fst.fst.2)), ())
    else
      none
  else
    none
theorem ev50 (k84 : Den A84 → Bool) (g84 : Den A84 → Den R84) (k85 : Den A85 → Bool) (g85 : Den A85 → Den R85) (kl3 : V50_3 → Bool) (xl3 : V50_3 → X50_3) (x : Den A50) : callK (Γ50 k84 g84 k85 g85 kl3 xl3) (bodyOf Try.f50) (decR R50) (encA A50 x) [] = r50 k84 g84 k85 g85 kl3 xl3 x := by kernel_rfl
def F50 (x : Den A50) : Option (Den R50) := r50 K84 G84 K85 G85 kL50_3 xL50_3 x
def K50 (x : Den A50) : Bool := (F50 x).isSome
def G50 (x : Den A50) : Den R50 := (F50 x).getD (zero R50)
theorem env50 : EnvOK Try.prog (Γ50 K84 G84 K85 G85 kL50_3 xL50_3) := env_ok mixed tab_ok eqs_ok (.cons sem84 (.cons sem85 .nil))
theorem is50 : FnIs Try.prog 50 (Γ50 K84 G84 K85 G85 kL50_3 xL50_3) (bodyOf Try.f50) := fnIs Try.func50 rfl rfl rfl (by kernel_rfl) (loops_ok (l := [lc50_3]) (by kernel_rfl) (.cons (one_loop rfl (loopX_sound (sh := sh50_3) (shX := shX50_3) (fun f v => evl50_3 K84 G84 K85 G85 kL50_3 xL50_3 f v) b50_3 (((0, 0), ()), ()))) (.nil)))
theorem sem50 : SemOK Try.prog (50, fnMean A50 R50 K50 G50) := fn_opt env50 is50 fun x => ev50 K84 G84 K85 G85 kL50_3 xL50_3 x

/- "loop.example/g03321/impl.along" -/
abbrev A115 : Ty := .cons (.cpx .f64) (.cons (.flt .f32) (.nil))
abbrev R115 : Ty := .cons (.cpx .f32) (.nil)
noncomputable def Γ115 : Env := mkEnv tab eqs [] 16 [.tmp 4] [] [] [] [] []
def r115 (x : Den A115) : Option (Den R115) :=
  bif ((convF FloatKind.f64 FloatKind.f32 x.fst.fst).1) then
    bif ((convF FloatKind.f64 FloatKind.f32 x.fst.snd).1) then
      let v0 := (farith BinOp.mul FloatKind.f32 (convF FloatKind.f64 FloatKind.f32 x.fst.fst).snd x.snd.fst)
      let v1 := (farith BinOp.mul FloatKind.f32 (convF FloatKind.f64 FloatKind.f32 x.fst.snd).snd x.snd.fst)
      some (((v0), (v1)), ())
    else
      none
  else
    none
theorem ev115 (x : Den A115) : callK (Γ115) (bodyOf Try.f115) (decR R115) (encA A115 x) [] = r115 x := by kernel_rfl
def F115 (x : Den A115) : Option (Den R115) := r115 x
def K115 (x : Den A115) : Bool := (F115 x).isSome
def G115 (x : Den A115) : Den R115 := (F115 x).getD (zero R115)
theorem env115 : EnvOK Try.prog (Γ115) := env_ok mixed tab_ok eqs_ok .nil
theorem is115 : FnIs Try.prog 115 (Γ115) (bodyOf Try.f115) := fnIs Try.func115 rfl rfl rfl (by kernel_rfl) (noLoops (by kernel_rfl))
theorem sem115 : SemOK Try.prog (115, fnMean A115 R115 K115 G115) := fn_opt env115 is115 fun x => ev115 x

/- "loop.example/g03321/impl.Velocity" -/
abbrev A110 : Ty := .cons (.int .i64) (.cons (.flt .f32) (.nil))
abbrev R110 : Ty := .cons (.cpx .f32) (.cons (.bool) (.nil))
noncomputable def Γ110 (k109 : Den A109 → Bool) (g109 : Den A109 → Den R109) (k50 : Den A50 → Bool) (g50 : Den A50 → Den R50) (k115 : Den A115 → Bool) (g115 : Den A115 → Den R115) : Env := mkEnv tab eqs [(109, fnMean A109 R109 k109 g109), (50, fnMean A50 R50 k50 g50), (115, fnMean A115 R115 k115 g115)] 13 [.tmp 4, .tmp 5] [] [] [] [] []
def r110 (k109 : Den A109 → Bool) (g109 : Den A109 → Den R109) (k50 : Den A50 → Bool) (g50 : Den A50 → Den R50) (k115 : Den A115 → Bool) (g115 : Den A115 → Den R115) (x : Den A110) : Option (Den R110) :=
  let v0 := (k109 x.snd)
  bif (v0) then
    let v1 := (g109 x.snd)
    bif (!v1.fst) then
      some (((0), (0)), ((false), ()))
    else
      let v2 := (k50 (x.fst, ()))
      bif (v2) then
        let v3 := (g50 (x.fst, ()))
        let v4 := (k115 (v3.fst, x.snd))
        bif (v4) then
          let v5 := (g115 (v3.fst, x.snd))
          some (((v5.fst.1), (v5.fst.2)), ((true), ()))
        else
          none
      else
        none
  else
    none
theorem ev110 (k109 : Den A109 → Bool) (g109 : Den A109 → Den R109) (k50 : Den A50 → Bool) (g50 : Den A50 → Den R50) (k115 : Den A115 → Bool) (g115 : Den A115 → Den R115) (x : Den A110) : callK (Γ110 k109 g109 k50 g50 k115 g115) (bodyOf Try.f110) (decR R110) (encA A110 x) [] = r110 k109 g109 k50 g50 k115 g115 x := by kernel_rfl
def F110 (x : Den A110) : Option (Den R110) := r110 K109 G109 K50 G50 K115 G115 x
def K110 (x : Den A110) : Bool := (F110 x).isSome
def G110 (x : Den A110) : Den R110 := (F110 x).getD (zero R110)
theorem env110 : EnvOK Try.prog (Γ110 K109 G109 K50 G50 K115 G115) := env_ok mixed tab_ok eqs_ok (.cons sem109 (.cons sem50 (.cons sem115 .nil)))
theorem is110 : FnIs Try.prog 110 (Γ110 K109 G109 K50 G50 K115 G115) (bodyOf Try.f110) := fnIs Try.func110 rfl rfl rfl (by kernel_rfl) (noLoops (by kernel_rfl))
theorem sem110 : SemOK Try.prog (110, fnMean A110 R110 K110 G110) := fn_opt env110 is110 fun x => ev110 K109 G109 K50 G50 K115 G115 x

/- "loop.example/g03321/impl.drifted" -/
abbrev A111 : Ty := .cons (.cpx .f32) (.cons (.cpx .f32) (.nil))
abbrev R111 : Ty := .cons (.cpx .f32) (.nil)
noncomputable def Γ111 : Env := mkEnv tab eqs [] 16 [.tmp 4] [] [] [] [] []
def r111 (x : Den A111) : Option (Den R111) :=
  let v0 := (farith BinOp.add FloatKind.f32 x.fst.fst x.snd.fst.fst)
  let v1 := (farith BinOp.add FloatKind.f32 x.fst.snd x.snd.fst.snd)
  some (((v0), (v1)), ())
theorem ev111 (x : Den A111) : callK (Γ111) (bodyOf Try.f111) (decR R111) (encA A111 x) [] = r111 x := by kernel_rfl
def F111 (x : Den A111) : Option (Den R111) := r111 x
def K111 (x : Den A111) : Bool := (F111 x).isSome
def G111 (x : Den A111) : Den R111 := (F111 x).getD (zero R111)
theorem env111 : EnvOK Try.prog (Γ111) := env_ok mixed tab_ok eqs_ok .nil
theorem is111 : FnIs Try.prog 111 (Γ111) (bodyOf Try.f111) := fnIs Try.func111 rfl rfl rfl (by kernel_rfl) (noLoops (by kernel_rfl))
theorem sem111 : SemOK Try.prog (111, fnMean A111 R111 K111 G111) := fn_opt env111 is111 fun x => ev111 x

/- "loop.example/g03321/impl.OverGround" -/
abbrev A93 : Ty := .cons (.int .i64) (.cons (.flt .f32) (.cons (.cpx .f32) (.nil)))
abbrev R93 : Ty := .cons (.cpx .f32) (.cons (.bool) (.nil))
noncomputable def Γ93 (k110 : Den A110 → Bool) (g110 : Den A110 → Den R110) (k103 : Den A103 → Bool) (g103 : Den A103 → Den R103) (k111 : Den A111 → Bool) (g111 : Den A111 → Den R111) : Env := mkEnv tab eqs [(110, fnMean A110 R110 k110 g110), (103, fnMean A103 R103 k103 g103), (111, fnMean A111 R111 k111 g111)] 26 [.tmp 6, .tmp 7] [] [] [] [] []
def r93 (k110 : Den A110 → Bool) (g110 : Den A110 → Den R110) (k103 : Den A103 → Bool) (g103 : Den A103 → Den R103) (k111 : Den A111 → Bool) (g111 : Den A111 → Den R111) (x : Den A93) : Option (Den R93) :=
  let v0 := (k110 (x.fst, x.snd.fst, ()))
  bif (v0) then
    let v1 := (g110 (x.fst, x.snd.fst, ()))
    bif (!v1.snd.fst) then
      some (((0), (0)), ((false), ()))
    else
      let v2 := (k103 x.snd.snd)
      bif (v2) then
        let v3 := (g103 x.snd.snd)
        bif (!v3.fst) then
          some (((0), (0)), ((false), ()))
        else
          let v4 := (k111 (v1.fst, x.snd.snd))
          bif (v4) then
            let v5 := (g111 (v1.fst, x.snd.snd))
            some (((v5.fst.1), (v5.fst.2)), ((true), ()))
          else
            none
      else
        none
  else
    none
theorem ev93 (k110 : Den A110 → Bool) (g110 : Den A110 → Den R110) (k103 : Den A103 → Bool) (g103 : Den A103 → Den R103) (k111 : Den A111 → Bool) (g111 : Den A111 → Den R111) (x : Den A93) : callK (Γ93 k110 g110 k103 g103 k111 g111) (bodyOf Try.f93) (decR R93) (encA A93 x) [] = r93 k110 g110 k103 g103 k111 g111 x := by kernel_rfl
def F93 (x : Den A93) : Option (Den R93) := r93 K110 G110 K103 G103 K111 G111 x
def K93 (x : Den A93) : Bool := (F93 x).isSome
def G93 (x : Den A93) : Den R93 := (F93 x).getD (zero R93)
theorem env93 : EnvOK Try.prog (Γ93 K110 G110 K103 G103 K111 G111) := env_ok mixed tab_ok eqs_ok (.cons sem110 (.cons sem103 (.cons sem111 .nil)))
theorem is93 : FnIs Try.prog 93 (Γ93 K110 G110 K103 G103 K111 G111) (bodyOf Try.f93) := fnIs Try.func93 rfl rfl rfl (by kernel_rfl) (noLoops (by kernel_rfl))
theorem sem93 : SemOK Try.prog (93, fnMean A93 R93 K93 G93) := fn_opt env93 is93 fun x => ev93 K110 G110 K103 G103 K111 G111 x

/- "loop.example/g03321/impl.StepOn" -/
abbrev A94 : Ty := .cons (.cpx .f64) (.cons (.cpx .f32) (.cons (.int .i64) (.nil)))
abbrev R94 : Ty := .cons (.cpx .f64) (.cons (.bool) (.nil))
noncomputable def Γ94 (k41 : Den A41 → Bool) (g41 : Den A41 → Den R41) (k103 : Den A103 → Bool) (g103 : Den A103 → Den R103) (k48 : Den A48 → Bool) (g48 : Den A48 → Den R48) : Env := mkEnv tab eqs [(41, fnMean A41 R41 k41 g41), (103, fnMean A103 R103 k103 g103), (48, fnMean A48 R48 k48 g48)] 46 [.tmp 6, .tmp 7] [] [] [] [] []
def r94 (k41 : Den A41 → Bool) (g41 : Den A41 → Den R41) (k103 : Den A103 → Bool) (g103 : Den A103 → Den R103) (k48 : Den A48 → Bool) (g48 : Den A48 → Den R48) (x : Den A94) : Option (Den R94) :=
  let v0 := (k41 (x.fst, ()))
  bif (v0) then
    let v1 := (g41 (x.fst, ()))
    bif (!v1.fst) then
      some (((0), (0)), ((false), ()))
    else
      let v2 := (k103 (x.snd.fst, ()))
      bif (v2) then
        let v3 := (g103 (x.snd.fst, ()))
        bif (!v3.fst) then
          some (((0), (0)), ((false), ()))
        else
          let v4 := (k48 (x.snd.snd.fst, 0, 100000, ()))
          bif (v4) then
            let v5 := (g48 (x.snd.snd.fst, 0, 100000, ()))
            bif (!v5.fst) then
              some (((0), (0)), ((false), ()))
            else
              let v6 := (farith BinOp.mul FloatKind.f64 (convF FloatKind.f32 FloatKind.f64 x.snd.fst.fst).snd (FloatKind.nearest FloatKind.f64 x.snd.snd.fst))
              let v7 := (farith BinOp.add FloatKind.f64 x.fst.fst v6)
              let v8 := (farith BinOp.mul FloatKind.f64 (convF FloatKind.f32 FloatKind.f64 x.snd.fst.snd).snd (FloatKind.nearest FloatKind.f64 x.snd.snd.fst))
              let v9 := (farith BinOp.add FloatKind.f64 x.fst.snd v8)
              let v10 := (k41 ((v7, v9), ()))
              bif (v10) then
                let v11 := (g41 ((v7, v9), ()))
                bif (!v11.fst) then
                  some (((0), (0)), ((false), ()))
                else
                  some (((v7), (v9)), ((true), ()))
              else
                none
          else
            none
      else
        none
  else
    none
theorem ev94 (k41 : Den A41 → Bool) (g41 : Den A41 → Den R41) (k103 : Den A103 → Bool) (g103 : Den A103 → Den R103) (k48 : Den A48 → Bool) (g48 : Den A48 → Den R48) (x : Den A94) : callK (Γ94 k41 g41 k103 g103 k48 g48) (bodyOf Try.f94) (decR R94) (encA A94 x) [] = r94 k41 g41 k103 g103 k48 g48 x := by kernel_rfl
def F94 (x : Den A94) : Option (Den R94) := r94 K41 G41 K103 G103 K48 G48 x
def K94 (x : Den A94) : Bool := (F94 x).isSome
def G94 (x : Den A94) : Den R94 := (F94 x).getD (zero R94)
theorem env94 : EnvOK Try.prog (Γ94 K41 G41 K103 G103 K48 G48) := env_ok mixed tab_ok eqs_ok (.cons sem41 (.cons sem103 (.cons sem48 .nil)))
theorem is94 : FnIs Try.prog 94 (Γ94 K41 G41 K103 G103 K48 G48) (bodyOf Try.f94) := fnIs Try.func94 rfl rfl rfl (by kernel_rfl) (noLoops (by kernel_rfl))
theorem sem94 : SemOK Try.prog (94, fnMean A94 R94 K94 G94) := fn_opt env94 is94 fun x => ev94 K41 G41 K103 G103 K48 G48 x

/- "loop.example/g03321/impl.sailed" -/
abbrev A63 : Ty := .cons (.cpx .f64) (.cons (S53) (.cons (.int .i64) (.cons (.cpx .f32) (.nil))))
abbrev R63 : Ty := .cons (.cpx .f64) (.cons (.bool) (.nil))
noncomputable def Γ63 (k93 : Den A93 → Bool) (g93 : Den A93 → Den R93) (k94 : Den A94 → Bool) (g94 : Den A94 → Den R94) : Env := mkEnv tab eqs [(93, fnMean A93 R93 k93 g93), (94, fnMean A94 R94 k94 g94)] 29 [.tmp 8, .tmp 9] [] [] [] [] []
def r63 (k93 : Den A93 → Bool) (g93 : Den A93 → Den R93) (k94 : Den A94 → Bool) (g94 : Den A94 → Den R94) (x : Den A63) : Option (Den R63) :=
  let v0 := (k93 (x.snd.fst.fst, x.snd.fst.snd.fst, x.snd.snd.snd))
  bif (v0) then
    let v1 := (g93 (x.snd.fst.fst, x.snd.fst.snd.fst, x.snd.snd.snd))
    bif (!v1.snd.fst) then
      some (((0), (0)), ((false), ()))
    else
      let v2 := (k94 (x.fst, v1.fst, x.snd.snd.fst, ()))
      bif (v2) then
        let v3 := (g94 (x.fst, v1.fst, x.snd.snd.fst, ()))
        some (((v3.fst.1), (v3.fst.2)), ((v3.snd.1), ()))
      else
        none
  else
    none
theorem ev63 (k93 : Den A93 → Bool) (g93 : Den A93 → Den R93) (k94 : Den A94 → Bool) (g94 : Den A94 → Den R94) (x : Den A63) : callK (Γ63 k93 g93 k94 g94) (bodyOf Try.f63) (decR R63) (encA A63 x) [] = r63 k93 g93 k94 g94 x := by kernel_rfl
def F63 (x : Den A63) : Option (Den R63) := r63 K93 G93 K94 G94 x
def K63 (x : Den A63) : Bool := (F63 x).isSome
def G63 (x : Den A63) : Den R63 := (F63 x).getD (zero R63)
theorem env63 : EnvOK Try.prog (Γ63 K93 G93 K94 G94) := env_ok mixed tab_ok eqs_ok (.cons sem93 (.cons sem94 .nil))
theorem is63 : FnIs Try.prog 63 (Γ63 K93 G93 K94 G94) (bodyOf Try.f63) := fnIs Try.func63 rfl rfl rfl (by kernel_rfl) (noLoops (by kernel_rfl))
theorem sem63 : SemOK Try.prog (63, fnMean A63 R63 K63 G63) := fn_opt env63 is63 fun x => ev63 K93 G93 K94 G94 x

/- "loop.example/g03321/impl.RunTide" -/
abbrev A21 : Ty := .cons (.cpx .f64) (.cons (.int .i64) (.cons (.slice (S53)) (.cons (S48) (.nil))))
abbrev R21 : Ty := .cons (.cpx .f64) (.cons (.bool) (.nil))
abbrev V21_4 : Type := (((Nat × Nat) × (Int × (Unit × ((List (Den (S53))) × (Int × (Int × Unit)))))) × (((List (Den (S96))) × ((List (Den (.int .i64))) × Unit)) × Unit))
def sh21_4 : ShS := ⟨[(0, .one (.cpx .f64)), (1, .one (.int .i64)), (7, .one (.ptr 0 0)), (25, .one (.sl (S53))), (26, .one (.int .i64)), (27, .one (.int .i64))], [(0, .box [.sl (S96), .sl (.int .i64)])], 1, 0⟩
abbrev X21_4 : Type := (((Nat × Nat) × Unit) × Unit)
def shX21_4 : ShS := ⟨[(0, .one (.cpx .f64))], [], 0, 0⟩
abbrev Y21_4 : Type := (((Nat × Nat) × (Bool × Unit)) × Unit)
def shY21_4 : ShS := ⟨[(8, .one (.cpx .f64)), (9, .one (.bool))], [], 0, 0⟩
abbrev V21_7 : Type := (((Nat × Nat) × (Int × (Unit × (Unit × (Int × ((List (Den (S53))) × (Int × (Int × Unit)))))))) × (((List (Den (S96))) × ((List (Den (.int .i64))) × Unit)) × ((Int × (Nat × (Int × Unit))) × Unit)))
def sh21_7 : ShS := ⟨[(0, .one (.cpx .f64)), (1, .one (.int .i64)), (7, .one (.ptr 0 0)), (11, .one (.ptr 1 0)), (12, .one (.int .i64)), (25, .one (.sl (S53))), (26, .one (.int .i64)), (27, .one (.int .i64))], [(0, .box [.sl (S96), .sl (.int .i64)]), (1, .box [.int .i64, .flt .f32, .int .i64])], 2, 0⟩
abbrev X21_7 : Type := (((Nat × Nat) × (Int × (Unit × ((List (Den (S53))) × (Int × (Int × Unit)))))) × (((List (Den (S96))) × ((List (Den (.int .i64))) × Unit)) × Unit))
def shX21_7 : ShS := ⟨[(0, .one (.cpx .f64)), (1, .one (.int .i64)), (7, .one (.ptr 0 0)), (25, .one (.sl (S53))), (26, .one (.int .i64)), (27, .one (.int .i64))], [(0, .box [.sl (S96), .sl (.int .i64)])], 1, 0⟩
abbrev Y21_7 : Type := (((Nat × Nat) × (Bool × Unit)) × Unit)
def shY21_7 : ShS := ⟨[(8, .one (.cpx .f64)), (9, .one (.bool))], [], 0, 0⟩
noncomputable def Γ21 (k41 : Den A41 → Bool) (g41 : Den A41 → Den R41) (k62 : Den A62 → Bool) (g62 : Den A62 → Den R62) (k28 : Den A28 → Bool) (g28 : Den A28 → Den R28) (k63 : Den A63 → Bool) (g63 : Den A63 → Den R63) (kl4 : V21_4 → Bool) (xl4 : V21_4 → X21_4) (tl4 : V21_4 → Bool) (yl4 : V21_4 → Y21_4) (kl7 : V21_7 → Bool) (xl7 : V21_7 → X21_7) (tl7 : V21_7 → Bool) (yl7 : V21_7 → Y21_7) : Env := mkEnv tab eqs [(41, fnMean A41 R41 k41 g41), (62, fnMean A62 R62 k62 g62), (28, fnMean A28 R28 k28 g28), (63, fnMean A63 R63 k63 g63)] 65 [.tmp 8, .tmp 9] [] [] [(4, loopR [0, 1, 7, 25, 26, 27] [] 0 [0] [] sh21_4 shX21_4 shY21_4 kl4 tl4 xl4 yl4), (7, loopR [0, 1, 7, 11, 12, 25, 26, 27] [] 2 [0, 1, 7, 25, 26, 27] [] sh21_7 shX21_7 shY21_7 kl7 tl7 xl7 yl7)] [] []
noncomputable def lc21_4 : Code := (loopsOf (bodyOf Try.f21)).getD 0 .skip
noncomputable def lc21_7 : Code := (loopsOf (bodyOf Try.f21)).getD 1 .skip
def q21_7 (k41 : Den A41 → Bool) (g41 : Den A41 → Den R41) (k62 : Den A62 → Bool) (g62 : Den A62 → Den R62) (k28 : Den A28 → Bool) (g28 : Den A28 → Den R28) (k63 : Den A63 → Bool) (g63 : Den A63 → Den R63) (f : V21_7 → Option (X21_7 ⊕ Y21_7)) (v : V21_7) : Option (X21_7 ⊕ Y21_7) :=
  bif (decide (v.fst.snd.snd.snd.snd.fst > 0)) then
    let v0 := (k28 (v.snd.fst, v.fst.fst, v.fst.snd.fst, ()))
    bif (v0) then
      let v1 := (g28 (v.snd.fst, v.fst.fst, v.fst.snd.fst, ()))
      bif (!v1.snd.fst) then
        some (Sum.inr ((((0), (0)), ((false), ())), ()))
      else
        let v2 := (k63 (v.fst.fst, v.snd.snd.fst, imin v.fst.snd.snd.snd.snd.fst 600, v1.fst, ()))
        bif (v2) then
          let v3 := (g63 (v.fst.fst, v.snd.snd.fst, imin v.fst.snd.snd.snd.snd.fst 600, v1.fst, ()))
          bif (!v3.snd.fst) then
            some (Sum.inr ((((0), (0)), ((false), ())), ()))
          else
            let v4 := (IntKind.wrap IntKind.i64 (v.fst.snd.fst + imin v.fst.snd.snd.snd.snd.fst 600))
            let v5 := (IntKind.wrap IntKind.i64 (v.fst.snd.snd.snd.snd.fst - imin v.fst.snd.snd.snd.snd.fst 600))
            f ((((v3.fst.1), (v3.fst.2)), ((v4), ((), ((), ((v5), ((v.fst.snd.snd.snd.snd.snd.1), ((v.fst.snd.snd.snd.snd.snd.snd.1), ((v.fst.snd.snd.snd.snd.snd.snd.snd.1), ())))))))), (((v.snd.fst.1), ((v.snd.fst.snd.1), ())), (((v.snd.snd.fst.1), ((v.snd.snd.fst.snd.1), ((v.snd.snd.fst.snd.snd.1), ()))), ())))
        else
          none
    else
      none
  else
    some (Sum.inl ((((v.fst.fst.1), (v.fst.fst.2)), ((v.fst.snd.1), ((), ((v.fst.snd.snd.snd.snd.snd.1), ((v.fst.snd.snd.snd.snd.snd.snd.1), ((v.fst.snd.snd.snd.snd.snd.snd.snd.1), ())))))), (((v.snd.fst.1), ((v.snd.fst.snd.1), ())), ())))
theorem evl21_7 (k41 : Den A41 → Bool) (g41 : Den A41 → Den R41) (k62 : Den A62 → Bool) (g62 : Den A62 → Den R62) (k28 : Den A28 → Bool) (g28 : Den A28 → Den R28) (k63 : Den A63 → Bool) (g63 : Den A63 → Den R63) (kl4 : V21_4 → Bool) (xl4 : V21_4 → X21_4) (tl4 : V21_4 → Bool) (yl4 : V21_4 → Y21_4) (kl7 : V21_7 → Bool) (xl7 : V21_7 → X21_7) (tl7 : V21_7 → Bool) (yl7 : V21_7 → Y21_7) (f : V21_7 → Option (X21_7 ⊕ Y21_7)) (v : V21_7) : EBk (Γ21 k41 g41 k62 g62 k28 g28 k63 g63 kl4 xl4 tl4 yl4 kl7 xl7 tl7 yl7) lc21_7 (roundK [0, 1, 7, 11, 12, 25, 26, 27] [] 2 [0, 1, 7, 25, 26, 27] [] (atS sh21_7 f) (endS shX21_7 shY21_7)) (mkS sh21_7 v) = q21_7 k41 g41 k62 g62 k28 g28 k63 g63 f v := by kernel_rfl
def b21_7 (v : V21_7) : Nat := v.1.2.1.natAbs + v.1.2.2.2.2.1.natAbs + v.1.2.2.2.2.2.1.length + v.1.2.2.2.2.2.2.1.natAbs + v.1.2.2.2.2.2.2.2.1.natAbs + v.2.1.1.length + v.2.1.2.1.length + v.2.2.1.1.natAbs + v.2.2.1.2.2.1.natAbs + 1000
def l21_7 (v : V21_7) : Option (X21_7 ⊕ Y21_7) := iter (q21_7 K41 G41 K62 G62 K28 G28 K63 G63) (b21_7 v) v
def kL21_7 (v : V21_7) : Bool := (l21_7 v).isSome
def tL21_7 (v : V21_7) : Bool := isR (l21_7 v)
def xL21_7 (v : V21_7) : X21_7 := xOf (((0, 0), (0, ((), ([], (0, (0, ())))))), (([], ([], ())), ())) (l21_7 v)
def yL21_7 (v : V21_7) : Y21_7 := yOf (((0, 0), (false, ())), ()) (l21_7 v)
def q21_4 (k41 : Den A41 → Bool) (g41 : Den A41 → Den R41) (k62 : Den A62 → Bool) (g62 : Den A62 → Den R62) (k28 : Den A28 → Bool) (g28 : Den A28 → Den R28) (k63 : Den A63 → Bool) (g63 : Den A63 → Den R63) (kl7 : V21_7 → Bool) (xl7 : V21_7 → X21_7) (tl7 : V21_7 → Bool) (yl7 : V21_7 → Y21_7) (f : V21_4 → Option (X21_4 ⊕ Y21_4)) (v : V21_4) : Option (X21_4 ⊕ Y21_4) :=
  bif (decide (v.fst.snd.snd.snd.snd.snd.fst < v.fst.snd.snd.snd.snd.fst)) then
    bif (decide (0 ≤ v.fst.snd.snd.snd.snd.snd.fst) && decide (v.fst.snd.snd.snd.snd.snd.fst < (↑(List.length v.fst.snd.snd.snd.fst) : Int))) then
      let v0 := (List.getD v.fst.snd.snd.snd.fst (Int.toNat v.fst.snd.snd.snd.snd.snd.fst) (zero S53))
      let v1 := (kl7 ((v.fst.fst, v.fst.snd.fst, (), (), v0.snd.snd.fst, v.fst.snd.snd.snd), v.snd.fst, v0, ()))
      bif (v1) then
        let v2 := (tl7 ((v.fst.fst, v.fst.snd.fst, (), (), v0.snd.snd.fst, v.fst.snd.snd.snd), v.snd.fst, v0, ()))
        bif (v2) then
          let v3 := (yl7 ((v.fst.fst, v.fst.snd.fst, (), (), v0.snd.snd.fst, v.fst.snd.snd.snd), v.snd.fst, v0, ()))
          some (Sum.inr ((((v3.fst.fst.1), (v3.fst.fst.2)), ((v3.fst.snd.1), ())), ()))
        else
          let v3 := (xl7 ((v.fst.fst, v.fst.snd.fst, (), (), v0.snd.snd.fst, v.fst.snd.snd.snd), v.snd.fst, v0, ()))
          let v4 := (IntKind.wrap IntKind.i64 (v3.fst.snd.snd.snd.snd.snd.fst + 1))
          f ((((v3.fst.fst.1), (v3.fst.fst.2)), ((v3.fst.snd.1), ((), ((v3.fst.snd.snd.snd.1), ((v3.fst.snd.snd.snd.snd.1), ((v4), ())))))), (((v3.snd.fst.1), ((v3.snd.fst.snd.1), ())), ()))
      else
        none
    else
      none
  else
    some (Sum.inl ((((v.fst.fst.1), (v.fst.fst.2)), ()), ()))
theorem evl21_4 (k41 : Den A41 → Bool) (g41 : Den A41 → Den R41) (k62 : Den A62 → Bool) (g62 : Den A62 → Den R62) (k28 : Den A28 → Bool) (g28 : Den A28 → Den R28) (k63 : Den A63 → Bool) (g63 : Den A63 → Den R63) (kl4 : V21_4 → Bool) (xl4 : V21_4 → X21_4) (tl4 : V21_4 → Bool) (yl4 : V21_4 → Y21_4) (kl7 : V21_7 → Bool) (xl7 : V21_7 → X21_7) (tl7 : V21_7 → Bool) (yl7 : V21_7 → Y21_7) (f : V21_4 → Option (X21_4 ⊕ Y21_4)) (v : V21_4) : EBk (Γ21 k41 g41 k62 g62 k28 g28 k63 g63 kl4 xl4 tl4 yl4 kl7 xl7 tl7 yl7) lc21_4 (roundK [0, 1, 7, 25, 26, 27] [] 0 [0] [] (atS sh21_4 f) (endS shX21_4 shY21_4)) (mkS sh21_4 v) = q21_4 k41 g41 k62 g62 k28 g28 k63 g63 kl7 xl7 tl7 yl7 f v := by kernel_rfl
def b21_4 (v : V21_4) : Nat := v.1.2.1.natAbs + v.1.2.2.2.1.length + v.1.2.2.2.2.1.natAbs + v.1.2.2.2.2.2.1.natAbs + v.2.1.1.length + v.2.1.2.1.length + 1000
def l21_4 (v : V21_4) : Option (X21_4 ⊕ Y21_4) := iter (q21_4 K41 G41 K62 G62 K28 G28 K63 G63 kL21_7 xL21_7 tL21_7 yL21_7) (b21_4 v) v
def kL21_4 (v : V21_4) : Bool := (l21_4 v).isSome
def tL21_4 (v : V21_4) : Bool := isR (l21_4 v)
def xL21_4 (v : V21_4) : X21_4 := xOf (((0, 0), ()), ()) (l21_4 v)
def yL21_4 (v : V21_4) : Y21_4 := yOf (((0, 0), (false, ())), ()) (l21_4 v)
def r21 (k41 : Den A41 → Bool) (g41 : Den A41 → Den R41) (k62 : Den A62 → Bool) (g62 : Den A62 → Den R62) (k28 : Den A28 → Bool) (g28 : Den A28 → Den R28) (k63 : Den A63 → Bool) (g63 : Den A63 → Den R63) (kl4 : V21_4 → Bool) (xl4 : V21_4 → X21_4) (tl4 : V21_4 → Bool) (yl4 : V21_4 → Y21_4) (kl7 : V21_7 → Bool) (xl7 : V21_7 → X21_7) (tl7 : V21_7 → Bool) (yl7 : V21_7 → Y21_7) (x : Den A21) : Option (Den R21) :=
  let v0 := (k41 (x.fst, ()))
  bif (v0) then
    let v1 := (g41 (x.fst, ()))
    bif (!v1.fst) then
      some (((0), (0)), ((false), ()))
    else
      let v2 := (k62 (x.snd.snd.fst, ()))
      bif (v2) then
        let v3 := (g62 (x.snd.snd.fst, ()))
        bif (!v3.fst) then
          some (((0), (0)), ((false), ()))
        else
          let v4 := (kl4 ((x.fst, x.snd.fst, (), x.snd.snd.fst, (↑(List.length x.snd.snd.fst) : Int), 0, ()), x.snd.snd.snd))
          bif (v4) then
            let v5 := (tl4 ((x.fst, x.snd.fst, (), x.snd.snd.fst, (↑(List.length x.snd.snd.fst) : Int), 0, ()), x.snd.snd.snd))
            bif (v5) then
              let v6 := (yl4 ((x.fst, x.snd.fst, (), x.snd.snd.fst, (↑(List.length x.snd.snd.fst) : Int), 0, ()), x.snd.snd.snd))
              some (((v6.fst.fst.1), (v6.fst.fst.2)), ((v6.fst.snd.1), ()))
            else
              let v6 := (xl4 ((x.fst, x.snd.fst, (), x.snd.snd.fst, (↑(List.length x.snd.snd.fst) : Int), 0, ()), x.snd.snd.snd))
              some (((v6.fst.fst.1), (v6.fst.fst.2)), ((true), ()))
          else
            none
      else
        none
  else
    none
theorem ev21 (k41 : Den A41 → Bool) (g41 : Den A41 → Den R41) (k62 : Den A62 → Bool) (g62 : Den A62 → Den R62) (k28 : Den A28 → Bool) (g28 : Den A28 → Den R28) (k63 : Den A63 → Bool) (g63 : Den A63 → Den R63) (kl4 : V21_4 → Bool) (xl4 : V21_4 → X21_4) (tl4 : V21_4 → Bool) (yl4 : V21_4 → Y21_4) (kl7 : V21_7 → Bool) (xl7 : V21_7 → X21_7) (tl7 : V21_7 → Bool) (yl7 : V21_7 → Y21_7) (x : Den A21) : callK (Γ21 k41 g41 k62 g62 k28 g28 k63 g63 kl4 xl4 tl4 yl4 kl7 xl7 tl7 yl7) (bodyOf Try.f21) (decR R21) (encA A21 x) [] = r21 k41 g41 k62 g62 k28 g28 k63 g63 kl4 xl4 tl4 yl4 kl7 xl7 tl7 yl7 x := by kernel_rfl
def F21 (x : Den A21) : Option (Den R21) := r21 K41 G41 K62 G62 K28 G28 K63 G63 kL21_4 xL21_4 tL21_4 yL21_4 kL21_7 xL21_7 tL21_7 yL21_7 x
def K21 (x : Den A21) : Bool := (F21 x).isSome
def G21 (x : Den A21) : Den R21 := (F21 x).getD (zero R21)
theorem env21 : EnvOK Try.prog (Γ21 K41 G41 K62 G62 K28 G28 K63 G63 kL21_4 xL21_4 tL21_4 yL21_4 kL21_7 xL21_7 tL21_7 yL21_7) := env_ok mixed tab_ok eqs_ok (.cons sem41 (.cons sem62 (.cons sem28 (.cons sem63 .nil))))
theorem is21 : FnIs Try.prog 21 (Γ21 K41 G41 K62 G62 K28 G28 K63 G63 kL21_4 xL21_4 tL21_4 yL21_4 kL21_7 xL21_7 tL21_7 yL21_7) (bodyOf Try.f21) := fnIs Try.func21 rfl rfl rfl (by kernel_rfl) (loops_ok (l := [lc21_4, lc21_7]) (by kernel_rfl) (.cons (one_loop rfl (loopR_sound (sh := sh21_4) (shX := shX21_4) (shR := shY21_4) (fun f v => evl21_4 K41 G41 K62 G62 K28 G28 K63 G63 kL21_4 xL21_4 tL21_4 yL21_4 kL21_7 xL21_7 tL21_7 yL21_7 f v) b21_4 (((0, 0), ()), ()) (((0, 0), (false, ())), ()))) (.cons (one_loop rfl (loopR_sound (sh := sh21_7) (shX := shX21_7) (shR := shY21_7) (fun f v => evl21_7 K41 G41 K62 G62 K28 G28 K63 G63 kL21_4 xL21_4 tL21_4 yL21_4 kL21_7 xL21_7 tL21_7 yL21_7 f v) b21_7 (((0, 0), (0, ((), ([], (0, (0, ())))))), (([], ([], ())), ())) (((0, 0), (false, ())), ()))) (.nil))))
theorem sem21 : SemOK Try.prog (21, fnMean A21 R21 K21 G21) := fn_opt env21 is21 fun x => ev21 K41 G41 K62 G62 K28 G28 K63 G63 kL21_4 xL21_4 tL21_4 yL21_4 kL21_7 xL21_7 tL21_7 yL21_7 x

/- "loop.example/g03321/spec.l02Amount" -/
abbrev A64 : Ty := .cons (.flt .f64) (.nil)
abbrev R64 : Ty := .cons (.flt .f64) (.nil)
noncomputable def Γ64 : Env := mkEnv tab eqs [] 8 [.tmp 2] [] [] [] [] []
def r64 (x : Den A64) : Option (Den R64) :=
  bif (flt FloatKind.f64 x.fst 0) then
    let v0 := (fneg FloatKind.f64 x.fst)
    some ((v0), ())
  else
    some ((x.1), ())
theorem ev64 (x : Den A64) : callK (Γ64) (bodyOf Try.f64) (decR R64) (encA A64 x) [] = r64 x := by kernel_rfl
def F64 (x : Den A64) : Option (Den R64) := r64 x
def K64 (x : Den A64) : Bool := (F64 x).isSome
def G64 (x : Den A64) : Den R64 := (F64 x).getD (zero R64)
theorem env64 : EnvOK Try.prog (Γ64) := env_ok mixed tab_ok eqs_ok .nil
theorem is64 : FnIs Try.prog 64 (Γ64) (bodyOf Try.f64) := fnIs Try.func64 rfl rfl rfl (by kernel_rfl) (noLoops (by kernel_rfl))
theorem sem64 : SemOK Try.prog (64, fnMean A64 R64 K64 G64) := fn_opt env64 is64 fun x => ev64 x

/- "loop.example/g03321/spec.VectorOk" -/
abbrev A22 : Ty := .cons (.cpx .f64) (.nil)
abbrev R22 : Ty := .cons (.bool) (.nil)
noncomputable def Γ22 (k64 : Den A64 → Bool) (g64 : Den A64 → Den R64) : Env := mkEnv tab eqs [(64, fnMean A64 R64 k64 g64)] 13 [.tmp 2] [] [] [] [] []
def r22 (k64 : Den A64 → Bool) (g64 : Den A64 → Den R64) (x : Den A22) : Option (Den R22) :=
  let v0 := (k64 (x.fst.fst, ()))
  bif (v0) then
    let v1 := (g64 (x.fst.fst, ()))
    bif (flt FloatKind.f64 v1.fst 4726483295884279808 || feq FloatKind.f64 v1.fst 4726483295884279808) then
      let v2 := (k64 (x.fst.snd, ()))
      bif (v2) then
        let v3 := (g64 (x.fst.snd, ()))
        some ((flt FloatKind.f64 v3.fst 4726483295884279808 || feq FloatKind.f64 v3.fst 4726483295884279808), ())
      else
        none
    else
      some ((false), ())
  else
    none
theorem ev22 (k64 : Den A64 → Bool) (g64 : Den A64 → Den R64) (x : Den A22) : callK (Γ22 k64 g64) (bodyOf Try.f22) (decR R22) (encA A22 x) [] = r22 k64 g64 x := by kernel_rfl
def F22 (x : Den A22) : Option (Den R22) := r22 K64 G64 x
def K22 (x : Den A22) : Bool := (F22 x).isSome
def G22 (x : Den A22) : Den R22 := (F22 x).getD (zero R22)
theorem env22 : EnvOK Try.prog (Γ22 K64 G64) := env_ok mixed tab_ok eqs_ok (.cons sem64 .nil)
theorem is22 : FnIs Try.prog 22 (Γ22 K64 G64) (bodyOf Try.f22) := fnIs Try.func22 rfl rfl rfl (by kernel_rfl) (noLoops (by kernel_rfl))
theorem sem22 : SemOK Try.prog (22, fnMean A22 R22 K22 G22) := fn_opt env22 is22 fun x => ev22 K64 G64 x

/- "loop.example/g03321/spec.LegOk" -/
abbrev A23 : Ty := .cons (S53) (.nil)
abbrev R23 : Ty := .cons (.bool) (.nil)
noncomputable def Γ23 (k39 : Den A39 → Bool) (g39 : Den A39 → Den R39) : Env := mkEnv tab eqs [(39, fnMean A39 R39 k39 g39)] 16 [.tmp 2] [] [] [] [] []
def r23 (k39 : Den A39 → Bool) (g39 : Den A39 → Den R39) (x : Den A23) : Option (Den R23) :=
  bif (fgt FloatKind.f32 x.fst.snd.fst 0 || feq FloatKind.f32 x.fst.snd.fst 0) then
    bif (flt FloatKind.f32 x.fst.snd.fst 1112014848 || feq FloatKind.f32 x.fst.snd.fst 1112014848) then
      let v0 := (k39 (x.fst.snd.snd.fst, 0, 100000, ()))
      bif (v0) then
        let v1 := (g39 (x.fst.snd.snd.fst, 0, 100000, ()))
        some ((v1.1), ())
      else
        none
    else
      some ((false), ())
  else
    some ((false), ())
theorem ev23 (k39 : Den A39 → Bool) (g39 : Den A39 → Den R39) (x : Den A23) : callK (Γ23 k39 g39) (bodyOf Try.f23) (decR R23) (encA A23 x) [] = r23 k39 g39 x := by kernel_rfl
def F23 (x : Den A23) : Option (Den R23) := r23 K39 G39 x
def K23 (x : Den A23) : Bool := (F23 x).isSome
def G23 (x : Den A23) : Den R23 := (F23 x).getD (zero R23)
theorem env23 : EnvOK Try.prog (Γ23 K39 G39) := env_ok mixed tab_ok eqs_ok (.cons sem39 .nil)
theorem is23 : FnIs Try.prog 23 (Γ23 K39 G39) (bodyOf Try.f23) := fnIs Try.func23 rfl rfl rfl (by kernel_rfl) (noLoops (by kernel_rfl))
theorem sem23 : SemOK Try.prog (23, fnMean A23 R23 K23 G23) := fn_opt env23 is23 fun x => ev23 K39 G39 x

/- "loop.example/g03321/impl.SlackFrom" -/
abbrev A26 : Ty := .cons (S48) (.cons (.cpx .f64) (.cons (.int .i64) (.cons (.flt .f32) (.nil))))
abbrev R26 : Ty := .cons (.int .i64) (.cons (.bool) (.nil))
abbrev V26_2 : Type := (((Nat × Nat) × (Int × (Nat × (Unit × (Int × Unit))))) × (((List (Den (S96))) × ((List (Den (.int .i64))) × Unit)) × Unit))
def sh26_2 : ShS := ⟨[(1, .one (.cpx .f64)), (2, .one (.int .i64)), (3, .one (.flt .f32)), (4, .one (.ptr 0 0)), (10, .one (.int .i64))], [(0, .box [.sl (S96), .sl (.int .i64)])], 1, 0⟩
abbrev X26_2 : Type := (Unit × Unit)
def shX26_2 : ShS := ⟨[], [], 0, 0⟩
abbrev Y26_2 : Type := ((Int × (Bool × Unit)) × Unit)
def shY26_2 : ShS := ⟨[(8, .one (.int .i64)), (9, .one (.bool))], [], 0, 0⟩
noncomputable def Γ26 (k28 : Den A28 → Bool) (g28 : Den A28 → Den R28) (k67 : Den A67 → Bool) (g67 : Den A67 → Den R67) (kl2 : V26_2 → Bool) (xl2 : V26_2 → X26_2) (tl2 : V26_2 → Bool) (yl2 : V26_2 → Y26_2) : Env := mkEnv tab eqs [(28, fnMean A28 R28 k28 g28), (67, fnMean A67 R67 k67 g67)] 46 [.tmp 8, .tmp 9] [] [] [(2, loopR [1, 2, 3, 4, 10] [] 0 [] [] sh26_2 shX26_2 shY26_2 kl2 tl2 xl2 yl2)] [] []
noncomputable def lc26_2 : Code := (loopsOf (bodyOf Try.f26)).getD 0 .skip
def q26_2 (k28 : Den A28 → Bool) (g28 : Den A28 → Den R28) (k67 : Den A67 → Bool) (g67 : Den A67 → Den R67) (f : V26_2 → Option (X26_2 ⊕ Y26_2)) (v : V26_2) : Option (X26_2 ⊕ Y26_2) :=
  bif (decide (v.fst.snd.snd.snd.snd.fst ≤ 720)) then
    let v0 := (IntKind.wrap IntKind.i64 (60 * v.fst.snd.snd.snd.snd.fst))
    let v1 := (IntKind.wrap IntKind.i64 (v.fst.snd.fst + v0))
    let v2 := (k28 (v.snd.fst, v.fst.fst, v1, ()))
    bif (v2) then
      let v3 := (g28 (v.snd.fst, v.fst.fst, v1, ()))
      bif (v3.snd.1) then
        let v4 := (k67 (v3.fst.fst, ()))
        bif (v4) then
          let v5 := (g67 (v3.fst.fst, ()))
          bif (flt FloatKind.f32 v5.fst v.fst.snd.snd.fst || feq FloatKind.f32 v5.fst v.fst.snd.snd.fst) then
            let v6 := (k67 (v3.fst.snd, ()))
            bif (v6) then
              let v7 := (g67 (v3.fst.snd, ()))
              bif (flt FloatKind.f32 v7.fst v.fst.snd.snd.fst || feq FloatKind.f32 v7.fst v.fst.snd.snd.fst) then
                some (Sum.inr (((v1), ((true), ())), ()))
              else
                let v8 := (IntKind.wrap IntKind.i64 (v.fst.snd.snd.snd.snd.fst + 1))
                f ((((v.fst.fst.1), (v.fst.fst.2)), ((v.fst.snd.1), ((v.fst.snd.snd.1), ((), ((v8), ()))))), (((v.snd.fst.1), ((v.snd.fst.snd.1), ())), ()))
            else
              none
          else
            let v6 := (IntKind.wrap IntKind.i64 (v.fst.snd.snd.snd.snd.fst + 1))
            f ((((v.fst.fst.1), (v.fst.fst.2)), ((v.fst.snd.1), ((v.fst.snd.snd.1), ((), ((v6), ()))))), (((v.snd.fst.1), ((v.snd.fst.snd.1), ())), ()))
        else
          none
      else
        let v4 := (IntKind.wrap IntKind.i64 (v.fst.snd.snd.snd.snd.fst + 1))
        f ((((v.fst.fst.1), (v.fst.fst.2)), ((v.fst.snd.1), ((v.fst.snd.snd.1), ((), ((v4), ()))))), (((v.snd.fst.1), ((v.snd.fst.snd.1), ())), ()))
    else
      none
  else
    some (Sum.inl ((), ()))
theorem evl26_2 (k28 : Den A28 → Bool) (g28 : Den A28 → Den R28) (k67 : Den A67 → Bool) (g67 : Den A67 → Den R67) (kl2 : V26_2 → Bool) (xl2 : V26_2 → X26_2) (tl2 : V26_2 → Bool) (yl2 : V26_2 → Y26_2) (f : V26_2 → Option (X26_2 ⊕ Y26_2)) (v : V26_2) : EBk (Γ26 k28 g28 k67 g67 kl2 xl2 tl2 yl2) lc26_2 (roundK [1, 2, 3, 4, 10] [] 0 [] [] (atS sh26_2 f) (endS shX26_2 shY26_2)) (mkS sh26_2 v) = q26_2 k28 g28 k67 g67 f v := by kernel_rfl
def b26_2 (v : V26_2) : Nat := v.1.2.1.natAbs + v.1.2.2.2.2.1.natAbs + v.2.1.1.length + v.2.1.2.1.length + 1000
def l26_2 (v : V26_2) : Option (X26_2 ⊕ Y26_2) := iter (q26_2 K28 G28 K67 G67) (b26_2 v) v
def kL26_2 (v : V26_2) : Bool := (l26_2 v).isSome
def tL26_2 (v : V26_2) : Bool := isR (l26_2 v)
def xL26_2 (v : V26_2) : X26_2 := xOf ((), ()) (l26_2 v)
def yL26_2 (v : V26_2) : Y26_2 := yOf ((0, (false, ())), ()) (l26_2 v)
def r26 (k28 : Den A28 → Bool) (g28 : Den A28 → Den R28) (k67 : Den A67 → Bool) (g67 : Den A67 → Den R67) (kl2 : V26_2 → Bool) (xl2 : V26_2 → X26_2) (tl2 : V26_2 → Bool) (yl2 : V26_2 → Y26_2) (x : Den A26) : Option (Den R26) :=
  let v0 := (kl2 ((x.snd.fst, x.snd.snd.fst, x.snd.snd.snd.fst, (), 0, ()), x.fst, ()))
  bif (v0) then
    let v1 := (tl2 ((x.snd.fst, x.snd.snd.fst, x.snd.snd.snd.fst, (), 0, ()), x.fst, ()))
    bif (v1) then
      let v2 := (yl2 ((x.snd.fst, x.snd.snd.fst, x.snd.snd.snd.fst, (), 0, ()), x.fst, ()))
      some ((v2.fst.1), ((v2.fst.snd.1), ()))
    else
      some ((0), ((false), ()))
  else
    none
theorem ev26 (k28 : Den A28 → Bool) (g28 : Den A28 → Den R28) (k67 : Den A67 → Bool) (g67 : Den A67 → Den R67) (kl2 : V26_2 → Bool) (xl2 : V26_2 → X26_2) (tl2 : V26_2 → Bool) (yl2 : V26_2 → Y26_2) (x : Den A26) : callK (Γ26 k28 g28 k67 g67 kl2 xl2 tl2 yl2) (bodyOf Try.f26) (decR R26) (encA A26 x) [] = r26 k28 g28 k67 g67 kl2 xl2 tl2 yl2 x := by kernel_rfl
def F26 (x : Den A26) : Option (Den R26) := r26 K28 G28 K67 G67 kL26_2 xL26_2 tL26_2 yL26_2 x
def K26 (x : Den A26) : Bool := (F26 x).isSome
def G26 (x : Den A26) : Den R26 := (F26 x).getD (zero R26)
theorem env26 : EnvOK Try.prog (Γ26 K28 G28 K67 G67 kL26_2 xL26_2 tL26_2 yL26_2) := env_ok mixed tab_ok eqs_ok (.cons sem28 (.cons sem67 .nil))
theorem is26 : FnIs Try.prog 26 (Γ26 K28 G28 K67 G67 kL26_2 xL26_2 tL26_2 yL26_2) (bodyOf Try.f26) := fnIs Try.func26 rfl rfl rfl (by kernel_rfl) (loops_ok (l := [lc26_2]) (by kernel_rfl) (.cons (one_loop rfl (loopR_sound (sh := sh26_2) (shX := shX26_2) (shR := shY26_2) (fun f v => evl26_2 K28 G28 K67 G67 kL26_2 xL26_2 tL26_2 yL26_2 f v) b26_2 ((), ()) ((0, (false, ())), ()))) (.nil)))
theorem sem26 : SemOK Try.prog (26, fnMean A26 R26 K26 G26) := fn_opt env26 is26 fun x => ev26 K28 G28 K67 G67 kL26_2 xL26_2 tL26_2 yL26_2 x

/- "loop.example/g03321/spec.l05FlowOk" -/
abbrev A95 : Ty := .cons (S96) (.nil)
abbrev R95 : Ty := .cons (.bool) (.nil)
abbrev V95_2 : Type := ((Unit × (Int × Unit)) × (((Nat × Nat) × ((Nat × Nat) × ((Nat × Nat) × ((Nat × Nat) × ((Nat × Nat) × ((Nat × Nat) × ((Nat × Nat) × ((Nat × Nat) × ((Nat × Nat) × ((Nat × Nat) × ((Nat × Nat) × ((Nat × Nat) × ((Nat × Nat) × ((Nat × Nat) × Unit)))))))))))))) × Unit))
def sh95_2 : ShS := ⟨[(1, .one (.ptr 0 0)), (3, .one (.int .i64))], [(0, .box [.cpx .f64, .cpx .f32, .cpx .f32, .cpx .f32, .cpx .f32, .cpx .f32, .cpx .f32, .cpx .f32, .cpx .f32, .cpx .f32, .cpx .f32, .cpx .f32, .cpx .f32, .cpx .f32])], 1, 0⟩
abbrev X95_2 : Type := (Unit × Unit)
def shX95_2 : ShS := ⟨[], [], 0, 0⟩
abbrev Y95_2 : Type := ((Bool × Unit) × Unit)
def shY95_2 : ShS := ⟨[(2, .one (.bool))], [], 0, 0⟩
noncomputable def Γ95 (k78 : Den A78 → Bool) (g78 : Den A78 → Den R78) (kl2 : V95_2 → Bool) (xl2 : V95_2 → X95_2) (tl2 : V95_2 → Bool) (yl2 : V95_2 → Y95_2) : Env := mkEnv tab eqs [(78, fnMean A78 R78 k78 g78)] 14 [.tmp 2] [] [] [(2, loopR [1, 3] [] 0 [] [] sh95_2 shX95_2 shY95_2 kl2 tl2 xl2 yl2)] [] []
noncomputable def lc95_2 : Code := (loopsOf (bodyOf Try.f95)).getD 0 .skip
def q95_2 (k78 : Den A78 → Bool) (g78 : Den A78 → Den R78) (f : V95_2 → Option (X95_2 ⊕ Y95_2)) (v : V95_2) : Option (X95_2 ⊕ Y95_2) :=
  bif (decide (v.fst.snd.fst < 13)) then
    bif (decide (0 ≤ v.fst.snd.fst) && decide (v.fst.snd.fst < (↑13 : Int))) then
      let v0 := (List.getD [v.snd.fst.snd.fst, v.snd.fst.snd.snd.fst, v.snd.fst.snd.snd.snd.fst, v.snd.fst.snd.snd.snd.snd.fst, v.snd.fst.snd.snd.snd.snd.snd.fst, v.snd.fst.snd.snd.snd.snd.snd.snd.fst, v.snd.fst.snd.snd.snd.snd.snd.snd.snd.fst, v.snd.fst.snd.snd.snd.snd.snd.snd.snd.snd.fst, v.snd.fst.snd.snd.snd.snd.snd.snd.snd.snd.snd.fst, v.snd.fst.snd.snd.snd.snd.snd.snd.snd.snd.snd.snd.fst, v.snd.fst.snd.snd.snd.snd.snd.snd.snd.snd.snd.snd.snd.fst, v.snd.fst.snd.snd.snd.snd.snd.snd.snd.snd.snd.snd.snd.snd.fst, v.snd.fst.snd.snd.snd.snd.snd.snd.snd.snd.snd.snd.snd.snd.snd.fst] (Int.toNat v.fst.snd.fst) (0, 0))
      let v1 := (k78 (v0, ()))
      bif (v1) then
        let v2 := (g78 (v0, ()))
        bif (!v2.fst) then
          some (Sum.inr (((false), ()), ()))
        else
          let v3 := (IntKind.wrap IntKind.i64 (v.fst.snd.fst + 1))
          f (((), ((v3), ())), ((((v.snd.fst.fst.1), (v.snd.fst.fst.2)), (((v.snd.fst.snd.fst.1), (v.snd.fst.snd.fst.2)), (((v.snd.fst.snd.snd.fst.1), (v.snd.fst.snd.snd.fst.2)), (((v.snd.fst.snd.snd.snd.fst.1), (v.snd.fst.snd.snd.snd.fst.2)), (((v.snd.fst.snd.snd.snd.snd.fst.1), (v.snd.fst.snd.snd.snd.snd.fst.2)), (((v.snd.fst.snd.snd.snd.snd.snd.fst.1), (v.snd.fst.snd.snd.snd.snd.snd.fst.2)), (((v.snd.fst.snd.snd.snd.snd.snd.snd.fst.1), (v.snd.fst.snd.snd.snd.snd.snd.snd.fst.2)), (((v.snd.fst.snd.snd.snd.snd.snd.snd.snd.fst.1), (v.snd.fst.snd.snd.snd.snd.snd.snd.snd.fst.2)), (((v.snd.fst.snd.snd.snd.snd.snd.snd.snd.snd.fst.1), (v.snd.fst.snd.snd.snd.snd.snd.snd.snd.snd.fst.2)), (((v.snd.fst.snd.snd.snd.snd.snd.snd.snd.snd.snd.fst.1), (v.snd.fst.snd.snd.snd.snd.snd.snd.snd.snd.snd.fst.2)), (((v.snd.fst.snd.snd.snd.snd.snd.snd.snd.snd.snd.snd.fst.1), (v.snd.fst.snd.snd.snd.snd.snd.snd.snd.snd.snd.snd.fst.2)), (((v.snd.fst.snd.snd.snd.snd.snd.snd.snd.snd.snd.snd.snd.fst.1), (v.snd.fst.snd.snd.snd.snd.snd.snd.snd.snd.snd.snd.snd.fst.2)), (((v.snd.fst.snd.snd.snd.snd.snd.snd.snd.snd.snd.snd.snd.snd.fst.1), (v.snd.fst.snd.snd.snd.snd.snd.snd.snd.snd.snd.snd.snd.snd.fst.2)), (((v.snd.fst.snd.snd.snd.snd.snd.snd.snd.snd.snd.snd.snd.snd.snd.fst.1), (v.snd.fst.snd.snd.snd.snd.snd.snd.snd.snd.snd.snd.snd.snd.snd.fst.2)), ())))))))))))))), ()))
      else
        none
    else
      none
  else
    some (Sum.inl ((), ()))
theorem evl95_2 (k78 : Den A78 → Bool) (g78 : Den A78 → Den R78) (kl2 : V95_2 → Bool) (xl2 : V95_2 → X95_2) (tl2 : V95_2 → Bool) (yl2 : V95_2 → Y95_2) (f : V95_2 → Option (X95_2 ⊕ Y95_2)) (v : V95_2) : EBk (Γ95 k78 g78 kl2 xl2 tl2 yl2) lc95_2 (roundK [1, 3] [] 0 [] [] (atS sh95_2 f) (endS shX95_2 shY95_2)) (mkS sh95_2 v) = q95_2 k78 g78 f v := by kernel_rfl
def b95_2 (v : V95_2) : Nat := v.1.2.1.natAbs + 1000
def l95_2 (v : V95_2) : Option (X95_2 ⊕ Y95_2) := iter (q95_2 K78 G78) (b95_2 v) v
def kL95_2 (v : V95_2) : Bool := (l95_2 v).isSome
def tL95_2 (v : V95_2) : Bool := isR (l95_2 v)
def xL95_2 (v : V95_2) : X95_2 := xOf ((), ()) (l95_2 v)
def yL95_2 (v : V95_2) : Y95_2 := yOf ((false, ()), ()) (l95_2 v)
def r95 (k78 : Den A78 → Bool) (g78 : Den A78 → Den R78) (kl2 : V95_2 → Bool) (xl2 : V95_2 → X95_2) (tl2 : V95_2 → Bool) (yl2 : V95_2 → Y95_2) (x : Den A95) : Option (Den R95) :=
  let v0 := (kl2 (((), 0, ()), (x.fst.fst, x.fst.snd.fst), ()))
  bif (v0) then
    let v1 := (tl2 (((), 0, ()), (x.fst.fst, x.fst.snd.fst), ()))
    bif (v1) then
      let v2 := (yl2 (((), 0, ()), (x.fst.fst, x.fst.snd.fst), ()))
      some ((v2.fst.1), ())
    else
      some ((true), ())
  else
    none
theorem ev95 (k78 : Den A78 → Bool) (g78 : Den A78 → Den R78) (kl2 : V95_2 → Bool) (xl2 : V95_2 → X95_2) (tl2 : V95_2 → Bool) (yl2 : V95_2 → Y95_2) (x : Den A95) : callK (Γ95 k78 g78 kl2 xl2 tl2 yl2) (bodyOf Try.f95) (decR R95) (encA A95 x) [] = r95 k78 g78 kl2 xl2 tl2 yl2 x := by kernel_rfl
def F95 (x : Den A95) : Option (Den R95) := r95 K78 G78 kL95_2 xL95_2 tL95_2 yL95_2 x
def K95 (x : Den A95) : Bool := (F95 x).isSome
def G95 (x : Den A95) : Den R95 := (F95 x).getD (zero R95)
theorem env95 : EnvOK Try.prog (Γ95 K78 G78 kL95_2 xL95_2 tL95_2 yL95_2) := env_ok mixed tab_ok eqs_ok (.cons sem78 .nil)
theorem is95 : FnIs Try.prog 95 (Γ95 K78 G78 kL95_2 xL95_2 tL95_2 yL95_2) (bodyOf Try.f95) := fnIs Try.func95 rfl rfl rfl (by kernel_rfl) (loops_ok (l := [lc95_2]) (by kernel_rfl) (.cons (one_loop rfl (loopR_sound (sh := sh95_2) (shX := shX95_2) (shR := shY95_2) (fun f v => evl95_2 K78 G78 kL95_2 xL95_2 tL95_2 yL95_2 f v) b95_2 ((), ()) ((false, ()), ()))) (.nil)))
theorem sem95 : SemOK Try.prog (95, fnMean A95 R95 K95 G95) := fn_opt env95 is95 fun x => ev95 K78 G78 kL95_2 xL95_2 tL95_2 yL95_2 x

/- "loop.example/g03321/spec.TideOk" -/
abbrev A68 : Ty := .cons (S48) (.nil)
abbrev R68 : Ty := .cons (.bool) (.nil)
abbrev V68_4 : Type := ((Unit × (Int × Unit)) × (((List (Den (S96))) × ((List (Den (.int .i64))) × Unit)) × Unit))
def sh68_4 : ShS := ⟨[(1, .one (.ptr 0 0)), (3, .one (.int .i64))], [(0, .box [.sl (S96), .sl (.int .i64)])], 1, 0⟩
abbrev X68_4 : Type := ((Unit × Unit) × (((List (Den (S96))) × ((List (Den (.int .i64))) × Unit)) × Unit))
def shX68_4 : ShS := ⟨[(1, .one (.ptr 0 0))], [(0, .box [.sl (S96), .sl (.int .i64)])], 1, 0⟩
abbrev Y68_4 : Type := ((Bool × Unit) × Unit)
def shY68_4 : ShS := ⟨[(2, .one (.bool))], [], 0, 0⟩
abbrev V68_9 : Type := ((Unit × (Int × Unit)) × (((List (Den (S96))) × ((List (Den (.int .i64))) × Unit)) × Unit))
def sh68_9 : ShS := ⟨[(1, .one (.ptr 0 0)), (4, .one (.int .i64))], [(0, .box [.sl (S96), .sl (.int .i64)])], 1, 0⟩
abbrev X68_9 : Type := (Unit × Unit)
def shX68_9 : ShS := ⟨[], [], 0, 0⟩
abbrev Y68_9 : Type := ((Bool × Unit) × Unit)
def shY68_9 : ShS := ⟨[(2, .one (.bool))], [], 0, 0⟩
noncomputable def Γ68 (k39 : Den A39 → Bool) (g39 : Den A39 → Den R39) (k22 : Den A22 → Bool) (g22 : Den A22 → Den R22) (k95 : Den A95 → Bool) (g95 : Den A95 → Den R95) (kl4 : V68_4 → Bool) (xl4 : V68_4 → X68_4) (tl4 : V68_4 → Bool) (yl4 : V68_4 → Y68_4) (kl9 : V68_9 → Bool) (xl9 : V68_9 → X68_9) (tl9 : V68_9 → Bool) (yl9 : V68_9 → Y68_9) : Env := mkEnv tab eqs [(39, fnMean A39 R39 k39 g39), (22, fnMean A22 R22 k22 g22), (95, fnMean A95 R95 k95 g95)] 74 [.tmp 2] [] [] [(4, loopR [1, 3] [] 0 [1] [] sh68_4 shX68_4 shY68_4 kl4 tl4 xl4 yl4), (9, loopR [1, 4] [] 2 [] [] sh68_9 shX68_9 shY68_9 kl9 tl9 xl9 yl9)] [] []
noncomputable def lc68_4 : Code := (loopsOf (bodyOf Try.f68)).getD 0 .skip
noncomputable def lc68_9 : Code := (loopsOf (bodyOf Try.f68)).getD 1 .skip
def q68_9 (k39 : Den A39 → Bool) (g39 : Den A39 → Den R39) (k22 : Den A22 → Bool) (g22 : Den A22 → Den R22) (k95 : Den A95 → Bool) (g95 : Den A95 → Den R95) (f : V68_9 → Option (X68_9 ⊕ Y68_9)) (v : V68_9) : Option (X68_9 ⊕ Y68_9) :=
  bif (decide (v.fst.snd.fst < (↑(List.length v.snd.fst.snd.fst) : Int))) then
    bif (decide (0 ≤ v.fst.snd.fst) && decide (v.fst.snd.fst < (↑(List.length v.snd.fst.snd.fst) : Int))) then
      let v0 := (List.getD v.snd.fst.snd.fst (Int.toNat v.fst.snd.fst) (zero (Ty.int IntKind.i64)))
      let v1 := (k39 (v0, 0, 10000000, ()))
      bif (v1) then
        let v2 := (g39 (v0, 0, 10000000, ()))
        bif (!v2.fst) then
          some (Sum.inr (((false), ()), ()))
        else
          bif (decide (v.fst.snd.fst > 0)) then
            bif (decide (0 ≤ v.fst.snd.fst) && decide (v.fst.snd.fst < (↑(List.length v.snd.fst.snd.fst) : Int))) then
              let v3 := (IntKind.wrap IntKind.i64 (v.fst.snd.fst - 1))
              bif (decide (0 ≤ v3) && decide (v3 < (↑(List.length v.snd.fst.snd.fst) : Int))) then
                let v4 := (List.getD v.snd.fst.snd.fst (Int.toNat v3) (zero (Ty.int IntKind.i64)))
                let v5 := (IntKind.wrap IntKind.i64 (v4 + 21600))
                bif (decide (v0 < v5)) then
                  some (Sum.inr (((false), ()), ()))
                else
                  let v6 := (IntKind.wrap IntKind.i64 (v.fst.snd.fst + 1))
                  f (((), ((v6), ())), (((v.snd.fst.1), ((v.snd.fst.snd.1), ())), ()))
              else
                none
            else
              none
          else
            let v3 := (IntKind.wrap IntKind.i64 (v.fst.snd.fst + 1))
            f (((), ((v3), ())), (((v.snd.fst.1), ((v.snd.fst.snd.1), ())), ()))
      else
        none
    else
      none
  else
    some (Sum.inl ((), ()))
theorem evl68_9 (k39 : Den A39 → Bool) (g39 : Den A39 → Den R39) (k22 : Den A22 → Bool) (g22 : Den A22 → Den R22) (k95 : Den A95 → Bool) (g95 : Den A95 → Den R95) (kl4 : V68_4 → Bool) (xl4 : V68_4 → X68_4) (tl4 : V68_4 → Bool) (yl4 : V68_4 → Y68_4) (kl9 : V68_9 → Bool) (xl9 : V68_9 → X68_9) (tl9 : V68_9 → Bool) (yl9 : V68_9 → Y68_9) (f : V68_9 → Option (X68_9 ⊕ Y68_9)) (v : V68_9) : EBk (Γ68 k39 g39 k22 g22 k95 g95 kl4 xl4 tl4 yl4 kl9 xl9 tl9 yl9) lc68_9 (roundK [1, 4] [] 2 [] [] (atS sh68_9 f) (endS shX68_9 shY68_9)) (mkS sh68_9 v) = q68_9 k39 g39 k22 g22 k95 g95 f v := by kernel_rfl
def b68_9 (v : V68_9) : Nat := v.1.2.1.natAbs + v.2.1.1.length + v.2.1.2.1.length + 1000
def l68_9 (v : V68_9) : Option (X68_9 ⊕ Y68_9) := iter (q68_9 K39 G39 K22 G22 K95 G95) (b68_9 v) v
def kL68_9 (v : V68_9) : Bool := (l68_9 v).isSome
def tL68_9 (v : V68_9) : Bool := isR (l68_9 v)
def xL68_9 (v : V68_9) : X68_9 := xOf ((), ()) (l68_9 v)
def yL68_9 (v : V68_9) : Y68_9 := yOf ((false, ()), ()) (l68_9 v)
def q68_4 (k39 : Den A39 → Bool) (g39 : Den A39 → Den R39) (k22 : Den A22 → Bool) (g22 : Den A22 → Den R22) (k95 : Den A95 → Bool) (g95 : Den A95 → Den R95) (f : V68_4 → Option (X68_4 ⊕ Y68_4)) (v : V68_4) : Option (X68_4 ⊕ Y68_4) :=
  bif (decide (v.fst.snd.fst < (↑(List.length v.snd.fst.fst) : Int))) then
    bif (decide (0 ≤ v.fst.snd.fst) && decide (v.fst.snd.fst < (↑(List.length v.snd.fst.fst) : Int))) then
      let v0 := (List.getD v.snd.fst.fst (Int.toNat v.fst.snd.fst) (zero S96))
      let v1 := (k22 (v0.fst, ()))
      bif (v1) then
        let v2 := (g22 (v0.fst, ()))
        bif (!v2.fst) then
          some (Sum.inr (((false), ()), ()))
        else
          bif (decide (0 ≤ v.fst.snd.fst) && decide (v.fst.snd.fst < (↑(List.length v.snd.fst.fst) : Int))) then
            let v3 := (k95 (v0, ()))
            bif (v3) then
              let v4 := (g95 (v0, ()))
              bif (!v4.fst) then
                some (Sum.inr (((false), ()), ()))
              else
                let v5 := (IntKind.wrap IntKind.i64 (v.fst.snd.fst + 1))
                f (((), ((v5), ())), (((v.snd.fst.1), ((v.snd.fst.snd.1), ())), ()))
            else
              none
          else
            none
      else
        none
    else
      none
  else
    some (Sum.inl (((), ()), (((v.snd.fst.1), ((v.snd.fst.snd.1), ())), ())))
theorem evl68_4 (k39 : Den A39 → Bool) (g39 : Den A39 → Den R39) (k22 : Den A22 → Bool) (g22 : Den A22 → Den R22) (k95 : Den A95 → Bool) (g95 : Den A95 → Den R95) (kl4 : V68_4 → Bool) (xl4 : V68_4 → X68_4) (tl4 : V68_4 → Bool) (yl4 : V68_4 → Y68_4) (kl9 : V68_9 → Bool) (xl9 : V68_9 → X68_9) (tl9 : V68_9 → Bool) (yl9 : V68_9 → Y68_9) (f : V68_4 → Option (X68_4 ⊕ Y68_4)) (v : V68_4) : EBk (Γ68 k39 g39 k22 g22 k95 g95 kl4 xl4 tl4 yl4 kl9 xl9 tl9 yl9) lc68_4 (roundK [1, 3] [] 0 [1] [] (atS sh68_4 f) (endS shX68_4 shY68_4)) (mkS sh68_4 v) = q68_4 k39 g39 k22 g22 k95 g95 f v := by kernel_rfl
def b68_4 (v : V68_4) : Nat := v.1.2.1.natAbs + v.2.1.1.length + v.2.1.2.1.length + 1000
def l68_4 (v : V68_4) : Option (X68_4 ⊕ Y68_4) := iter (q68_4 K39 G39 K22 G22 K95 G95) (b68_4 v) v
def kL68_4 (v : V68_4) : Bool := (l68_4 v).isSome
def tL68_4 (v : V68_4) : Bool := isR (l68_4 v)
def xL68_4 (v : V68_4) : X68_4 := xOf (((), ()), (([], ([], ())), ())) (l68_4 v)
def yL68_4 (v : V68_4) : Y68_4 := yOf ((false, ()), ()) (l68_4 v)
def r68 (k39 : Den A39 → Bool) (g39 : Den A39 → Den R39) (k22 : Den A22 → Bool) (g22 : Den A22 → Den R22) (k95 : Den A95 → Bool) (g95 : Den A95 → Den R95) (kl4 : V68_4 → Bool) (xl4 : V68_4 → X68_4) (tl4 : V68_4 → Bool) (yl4 : V68_4 → Y68_4) (kl9 : V68_9 → Bool) (xl9 : V68_9 → X68_9) (tl9 : V68_9 → Bool) (yl9 : V68_9 → Y68_9) (x : Den A68) : Option (Den R68) :=
  let v0 := (k39 ((↑(List.length x.fst.fst) : Int), 1, 20, ()))
  bif (v0) then
    let v1 := (g39 ((↑(List.length x.fst.fst) : Int), 1, 20, ()))
    bif (!v1.fst) then
      some ((false), ())
    else
      let v2 := (k39 ((↑(List.length x.fst.snd.fst) : Int), 1, 60, ()))
      bif (v2) then
        let v3 := (g39 ((↑(List.length x.fst.snd.fst) : Int), 1, 60, ()))
        bif (!v3.fst) then
          some ((false), ())
        else
          let v4 := (kl4 (((), 0, ()), x))
          bif (v4) then
            let v5 := (tl4 (((), 0, ()), x))
            bif (v5) then
              let v6 := (yl4 (((), 0, ()), x))
              some ((v6.fst.1), ())
            else
              let v6 := (xl4 (((), 0, ()), x))
              let v7 := (kl9 (((), 0, ()), v6.snd))
              bif (v7) then
                let v8 := (tl9 (((), 0, ()), v6.snd))
                bif (v8) then
                  let v9 := (yl9 (((), 0, ()), v6.snd))
                  some ((v9.fst.1), ())
                else
                  some ((true), ())
              else
                none
          else
            none
      else
        none
  else
    none
theorem ev68 (k39 : Den A39 → Bool) (g39 : Den A39 → Den R39) (k22 : Den A22 → Bool) (g22 : Den A22 → Den R22) (k95 : Den A95 → Bool) (g95 : Den A95 → Den R95) (kl4 : V68_4 → Bool) (xl4 : V68_4 → X68_4) (tl4 : V68_4 → Bool) (yl4 : V68_4 → Y68_4) (kl9 : V68_9 → Bool) (xl9 : V68_9 → X68_9) (tl9 : V68_9 → Bool) (yl9 : V68_9 → Y68_9) (x : Den A68) : callK (Γ68 k39 g39 k22 g22 k95 g95 kl4 xl4 tl4 yl4 kl9 xl9 tl9 yl9) (bodyOf Try.f68) (decR R68) (encA A68 x) [] = r68 k39 g39 k22 g22 k95 g95 kl4 xl4 tl4 yl4 kl9 xl9 tl9 yl9 x := by kernel_rfl
def F68 (x : Den A68) : Option (Den R68) := r68 K39 G39 K22 G22 K95 G95 kL68_4 xL68_4 tL68_4 yL68_4 kL68_9 xL68_9 tL68_9 yL68_9 x
def K68 (x : Den A68) : Bool := (F68 x).isSome
def G68 (x : Den A68) : Den R68 := (F68 x).getD (zero R68)
theorem env68 : EnvOK Try.prog (Γ68 K39 G39 K22 G22 K95 G95 kL68_4 xL68_4 tL68_4 yL68_4 kL68_9 xL68_9 tL68_9 yL68_9) := env_ok mixed tab_ok eqs_ok (.cons sem39 (.cons sem22 (.cons sem95 .nil)))
theorem is68 : FnIs Try.prog 68 (Γ68 K39 G39 K22 G22 K95 G95 kL68_4 xL68_4 tL68_4 yL68_4 kL68_9 xL68_9 tL68_9 yL68_9) (bodyOf Try.f68) := fnIs Try.func68 rfl rfl rfl (by kernel_rfl) (loops_ok (l := [lc68_4, lc68_9]) (by kernel_rfl) (.cons (one_loop rfl (loopR_sound (sh := sh68_4) (shX := shX68_4) (shR := shY68_4) (fun f v => evl68_4 K39 G39 K22 G22 K95 G95 kL68_4 xL68_4 tL68_4 yL68_4 kL68_9 xL68_9 tL68_9 yL68_9 f v) b68_4 (((), ()), (([], ([], ())), ())) ((false, ()), ()))) (.cons (one_loop rfl (loopR_sound (sh := sh68_9) (shX := shX68_9) (shR := shY68_9) (fun f v => evl68_9 K39 G39 K22 G22 K95 G95 kL68_4 xL68_4 tL68_4 yL68_4 kL68_9 xL68_9 tL68_9 yL68_9 f v) b68_9 ((), ()) ((false, ()), ()))) (.nil))))
theorem sem68 : SemOK Try.prog (68, fnMean A68 R68 K68 G68) := fn_opt env68 is68 fun x => ev68 K39 G39 K22 G22 K95 G95 kL68_4 xL68_4 tL68_4 yL68_4 kL68_9 xL68_9 tL68_9 yL68_9 x

/- "loop.example/g03321/spec.Dot" -/
abbrev A81 : Ty := .cons (.cpx .f64) (.cons (.cpx .f64) (.nil))
abbrev R81 : Ty := .cons (.flt .f64) (.nil)
noncomputable def Γ81 : Env := mkEnv tab eqs [] 16 [.tmp 4] [] [] [] [] []
def r81 (x : Den A81) : Option (Den R81) :=
  let v0 := (farith BinOp.mul FloatKind.f64 x.fst.fst x.snd.fst.fst)
  let v1 := (farith BinOp.mul FloatKind.f64 x.fst.snd x.snd.fst.snd)
  let v2 := (farith BinOp.add FloatKind.f64 v0 v1)
  some ((v2), ())
theorem ev81 (x : Den A81) : callK (Γ81) (bodyOf Try.f81) (decR R81) (encA A81 x) [] = r81 x := by kernel_rfl
def F81 (x : Den A81) : Option (Den R81) := r81 x
def K81 (x : Den A81) : Bool := (F81 x).isSome
def G81 (x : Den A81) : Den R81 := (F81 x).getD (zero R81)
theorem env81 : EnvOK Try.prog (Γ81) := env_ok mixed tab_ok eqs_ok .nil
theorem is81 : FnIs Try.prog 81 (Γ81) (bodyOf Try.f81) := fnIs Try.func81 rfl rfl rfl (by kernel_rfl) (noLoops (by kernel_rfl))
theorem sem81 : SemOK Try.prog (81, fnMean A81 R81 K81 G81) := fn_opt env81 is81 fun x => ev81 x

/- "loop.example/g03321/spec.NearStation" -/
abbrev A96 : Ty := .cons (S48) (.cons (.cpx .f64) (.nil))
abbrev R96 : Ty := .cons (.int .i64) (.nil)
abbrev V96_6 : Type := (((Nat × Nat) × (Unit × (Int × (Nat × (Int × Unit))))) × (((List (Den (S96))) × ((List (Den (.int .i64))) × Unit)) × Unit))
def sh96_6 : ShS := ⟨[(1, .one (.cpx .f64)), (2, .one (.ptr 0 0)), (5, .one (.int .i64)), (6, .one (.flt .f64)), (7, .one (.int .i64))], [(0, .box [.sl (S96), .sl (.int .i64)])], 1, 0⟩
abbrev X96_6 : Type := ((Int × Unit) × Unit)
def shX96_6 : ShS := ⟨[(5, .one (.int .i64))], [], 0, 0⟩
noncomputable def Γ96 (k68 : Den A68 → Bool) (g68 : Den A68 → Den R68) (k22 : Den A22 → Bool) (g22 : Den A22 → Den R22) (k81 : Den A81 → Bool) (g81 : Den A81 → Den R81) (kl6 : V96_6 → Bool) (xl6 : V96_6 → X96_6) : Env := mkEnv tab eqs [(68, fnMean A68 R68 k68 g68), (22, fnMean A22 R22 k22 g22), (81, fnMean A81 R81 k81 g81)] 46 [.tmp 4] [] [] [(6, loopX [1, 2, 5, 6, 7] [] 0 [5] [] sh96_6 shX96_6 kl6 xl6)] [] []
noncomputable def lc96_6 : Code := (loopsOf (bodyOf Try.f96)).getD 0 .skip
def q96_6 (k68 : Den A68 → Bool) (g68 : Den A68 → Den R68) (k22 : Den A22 → Bool) (g22 : Den A22 → Den R22) (k81 : Den A81 → Bool) (g81 : Den A81 → Den R81) (f : V96_6 → Option (X96_6)) (v : V96_6) : Option (X96_6) :=
  bif (decide (v.fst.snd.snd.snd.snd.fst < (↑(List.length v.snd.fst.fst) : Int))) then
    bif (decide (0 ≤ v.fst.snd.snd.snd.snd.fst) && decide (v.fst.snd.snd.snd.snd.fst < (↑(List.length v.snd.fst.fst) : Int))) then
      let v0 := (List.getD v.snd.fst.fst (Int.toNat v.fst.snd.snd.snd.snd.fst) (zero S96))
      let v1 := (farith BinOp.sub FloatKind.f64 v0.fst.fst v.fst.fst.fst)
      let v2 := (farith BinOp.sub FloatKind.f64 v0.fst.snd v.fst.fst.snd)
      let v3 := (k81 ((v1, v2), (v1, v2), ()))
      bif (v3) then
        bif (decide (v.fst.snd.snd.fst < 0)) then
          let v4 := (g81 ((v1, v2), (v1, v2), ()))
          let v5 := (IntKind.wrap IntKind.i64 (v.fst.snd.snd.snd.snd.fst + 1))
          f ((((v.fst.fst.1), (v.fst.fst.2)), ((), ((v.fst.snd.snd.snd.snd.1), ((v4.1), ((v5), ()))))), (((v.snd.fst.1), ((v.snd.fst.snd.1), ())), ()))
        else
          let v4 := (g81 ((v1, v2), (v1, v2), ()))
          bif (flt FloatKind.f64 v4.fst v.fst.snd.snd.snd.fst) then
            let v5 := (IntKind.wrap IntKind.i64 (v.fst.snd.snd.snd.snd.fst + 1))
            f ((((v.fst.fst.1), (v.fst.fst.2)), ((), ((v.fst.snd.snd.snd.snd.1), ((v4.1), ((v5), ()))))), (((v.snd.fst.1), ((v.snd.fst.snd.1), ())), ()))
          else
            let v5 := (IntKind.wrap IntKind.i64 (v.fst.snd.snd.snd.snd.fst + 1))
            f ((((v.fst.fst.1), (v.fst.fst.2)), ((), ((v.fst.snd.snd.1), ((v.fst.snd.snd.snd.1), ((v5), ()))))), (((v.snd.fst.1), ((v.snd.fst.snd.1), ())), ()))
      else
        none
    else
      none
  else
    some (((v.fst.snd.snd.1), ()), ())
theorem evl96_6 (k68 : Den A68 → Bool) (g68 : Den A68 → Den R68) (k22 : Den A22 → Bool) (g22 : Den A22 → Den R22) (k81 : Den A81 → Bool) (g81 : Den A81 → Den R81) (kl6 : V96_6 → Bool) (xl6 : V96_6 → X96_6) (f : V96_6 → Option (X96_6)) (v : V96_6) : EBk (Γ96 k68 g68 k22 g22 k81 g81 kl6 xl6) lc96_6 (roundK [1, 2, 5, 6, 7] [] 0 [5] [] (atS sh96_6 f) (endX shX96_6)) (mkS sh96_6 v) = q96_6 k68 g68 k22 g22 k81 g81 f v := by kernel_rfl
def b96_6 (v : V96_6) : Nat := v.1.2.2.1.natAbs + v.1.2.2.2.2.1.natAbs + v.2.1.1.length + v.2.1.2.1.length + 1000
def l96_6 (v : V96_6) : Option (X96_6) := iter (q96_6 K68 G68 K22 G22 K81 G81) (b96_6 v) v
def kL96_6 (v : V96_6) : Bool := (l96_6 v).isSome
def xL96_6 (v : V96_6) : X96_6 := (l96_6 v).getD ((0, ()), ())
def r96 (k68 : Den A68 → Bool) (g68 : Den A68 → Den R68) (k22 : Den A22 → Bool) (g22 : Den A22 → Den R22) (k81 : Den A81 → Bool) (g81 : Den A81 → Den R81) (kl6 : V96_6 → Bool) (xl6 : V96_6 → X96_6) (x : Den A96) : Option (Den R96) :=
  let v0 := (k68 (x.fst, ()))
  bif (v0) then
    let v1 := (g68 (x.fst, ()))
    bif (!v1.fst) then
      some ((-1), ())
    else
      let v2 := (k22 x.snd)
      bif (v2) then
        let v3 := (g22 x.snd)
        bif (!v3.fst) then
          some ((-1), ())
        else
          let v4 := (kl6 ((x.snd.fst, (), -1, 0, 0, ()), x.fst, ()))
          bif (v4) then
            let v5 := (xl6 ((x.snd.fst, (), -1, 0, 0, ()), x.fst, ()))
            some ((v5.fst.1), ())
          else
            none
      else
        none
  else
    none
theorem ev96 (k68 : Den A68 → Bool) (g68 : Den A68 → Den R68) (k22 : Den A22 → Bool) (g22 : Den A22 → Den R22) (k81 : Den A81 → Bool) (g81 : Den A81 → Den R81) (kl6 : V96_6 → Bool) (xl6 : V96_6 → X96_6) (x : Den A96) : callK (Γ96 k68 g68 k22 g22 k81 g81 kl6 xl6) (bodyOf Try.f96) (decR R96) (encA A96 x) [] = r96 k68 g68 k22 g22 k81 g81 kl6 xl6 x := by kernel_rfl
def F96 (x : Den A96) : Option (Den R96) := r96 K68 G68 K22 G22 K81 G81 kL96_6 xL96_6 x
def K96 (x : Den A96) : Bool := (F96 x).isSome
def G96 (x : Den A96) : Den R96 := (F96 x).getD (zero R96)
theorem env96 : EnvOK Try.prog (Γ96 K68 G68 K22 G22 K81 G81 kL96_6 xL96_6) := env_ok mixed tab_ok eqs_ok (.cons sem68 (.cons sem22 (.cons sem81 .nil)))
theorem is96 : FnIs Try.prog 96 (Γ96 K68 G68 K22 G22 K81 G81 kL96_6 xL96_6) (bodyOf Try.f96) := fnIs Try.func96 rfl rfl rfl (by kernel_rfl) (loops_ok (l := [lc96_6]) (by kernel_rfl) (.cons (one_loop rfl (loopX_sound (sh := sh96_6) (shX := shX96_6) (fun f v => evl96_6 K68 G68 K22 G22 K81 G81 kL96_6 xL96_6 f v) b96_6 ((0, ()), ()))) (.nil)))
theorem sem96 : SemOK Try.prog (96, fnMean A96 R96 K96 G96) := fn_opt env96 is96 fun x => ev96 K68 G68 K22 G22 K81 G81 kL96_6 xL96_6 x

/- "loop.example/g03321/spec.l05Far" -/
abbrev A112 : Ty := .cons (.int .i64) (.cons (.int .i64) (.nil))
abbrev R112 : Ty := .cons (.int .i64) (.nil)
noncomputable def Γ112 : Env := mkEnv tab eqs [] 14 [.tmp 4] [] [] [] [] []
def r112 (x : Den A112) : Option (Den R112) :=
  bif (decide (x.fst > x.snd.fst)) then
    let v0 := (IntKind.wrap IntKind.i64 (x.fst - x.snd.fst))
    some ((v0), ())
  else
    let v0 := (IntKind.wrap IntKind.i64 (x.snd.fst - x.fst))
    some ((v0), ())
theorem ev112 (x : Den A112) : callK (Γ112) (bodyOf Try.f112) (decR R112) (encA A112 x) [] = r112 x := by kernel_rfl
def F112 (x : Den A112) : Option (Den R112) := r112 x
def K112 (x : Den A112) : Bool := (F112 x).isSome
def G112 (x : Den A112) : Den R112 := (F112 x).getD (zero R112)
theorem env112 : EnvOK Try.prog (Γ112) := env_ok mixed tab_ok eqs_ok .nil
theorem is112 : FnIs Try.prog 112 (Γ112) (bodyOf Try.f112) := fnIs Try.func112 rfl rfl rfl (by kernel_rfl) (noLoops (by kernel_rfl))
theorem sem112 : SemOK Try.prog (112, fnMean A112 R112 K112 G112) := fn_opt env112 is112 fun x => ev112 x

/- "loop.example/g03321/spec.HighAt" -/
abbrev A97 : Ty := .cons (S48) (.cons (.int .i64) (.nil))
abbrev R97 : Ty := .cons (.int .i64) (.nil)
abbrev V97_5 : Type := ((Int × (Unit × (Int × (Int × Unit)))) × (((List (Den (S96))) × ((List (Den (.int .i64))) × Unit)) × Unit))
def sh97_5 : ShS := ⟨[(1, .one (.int .i64)), (2, .one (.ptr 0 0)), (5, .one (.int .i64)), (6, .one (.int .i64))], [(0, .box [.sl (S96), .sl (.int .i64)])], 1, 0⟩
abbrev X97_5 : Type := ((Int × Unit) × Unit)
def shX97_5 : ShS := ⟨[(5, .one (.int .i64))], [], 0, 0⟩
noncomputable def Γ97 (k68 : Den A68 → Bool) (g68 : Den A68 → Den R68) (k39 : Den A39 → Bool) (g39 : Den A39 → Den R39) (k112 : Den A112 → Bool) (g112 : Den A112 → Den R112) (kl5 : V97_5 → Bool) (xl5 : V97_5 → X97_5) : Env := mkEnv tab eqs [(68, fnMean A68 R68 k68 g68), (39, fnMean A39 R39 k39 g39), (112, fnMean A112 R112 k112 g112)] 39 [.tmp 4] [] [] [(5, loopX [1, 2, 5, 6] [] 0 [5] [] sh97_5 shX97_5 kl5 xl5)] [] []
noncomputable def lc97_5 : Code := (loopsOf (bodyOf Try.f97)).getD 0 .skip
def q97_5 (k68 : Den A68 → Bool) (g68 : Den A68 → Den R68) (k39 : Den A39 → Bool) (g39 : Den A39 → Den R39) (k112 : Den A112 → Bool) (g112 : Den A112 → Den R112) (f : V97_5 → Option (X97_5)) (v : V97_5) : Option (X97_5) :=
  bif (decide (v.fst.snd.snd.snd.fst < (↑(List.length v.snd.fst.snd.fst) : Int))) then
    bif (decide (0 ≤ v.fst.snd.snd.snd.fst) && decide (v.fst.snd.snd.snd.fst < (↑(List.length v.snd.fst.snd.fst) : Int))) then
      let v0 := (List.getD v.snd.fst.snd.fst (Int.toNat v.fst.snd.snd.snd.fst) (zero (Ty.int IntKind.i64)))
      let v1 := (k112 (v0, v.fst.fst, ()))
      bif (v1) then
        bif (decide (0 ≤ v.fst.snd.snd.fst) && decide (v.fst.snd.snd.fst < (↑(List.length v.snd.fst.snd.fst) : Int))) then
          let v2 := (List.getD v.snd.fst.snd.fst (Int.toNat v.fst.snd.snd.fst) (zero (Ty.int IntKind.i64)))
          let v3 := (k112 (v2, v.fst.fst, ()))
          bif (v3) then
            let v4 := (g112 (v0, v.fst.fst, ()))
            let v5 := (g112 (v2, v.fst.fst, ()))
            bif (decide (v4.fst < v5.fst)) then
              let v6 := (IntKind.wrap IntKind.i64 (v.fst.snd.snd.snd.fst + 1))
              f (((v.fst.1), ((), ((v.fst.snd.snd.snd.1), ((v6), ())))), (((v.snd.fst.1), ((v.snd.fst.snd.1), ())), ()))
            else
              let v6 := (IntKind.wrap IntKind.i64 (v.fst.snd.snd.snd.fst + 1))
              f (((v.fst.1), ((), ((v.fst.snd.snd.1), ((v6), ())))), (((v.snd.fst.1), ((v.snd.fst.snd.1), ())), ()))
          else
            none
        else
          none
      else
        none
    else
      none
  else
    some (((v.fst.snd.snd.1), ()), ())
theorem evl97_5 (k68 : Den A68 → Bool) (g68 : Den A68 → Den R68) (k39 : Den A39 → Bool) (g39 : Den A39 → Den R39) (k112 : Den A112 → Bool) (g112 : Den A112 → Den R112) (kl5 : V97_5 → Bool) (xl5 : V97_5 → X97_5) (f : V97_5 → Option (X97_5)) (v : V97_5) : EBk (Γ97 k68 g68 k39 g39 k112 g112 kl5 xl5) lc97_5 (roundK [1, 2, 5, 6] [] 0 [5] [] (atS sh97_5 f) (endX shX97_5)) (mkS sh97_5 v) = q97_5 k68 g68 k39 g39 k112 g112 f v := by kernel_rfl
def b97_5 (v : V97_5) : Nat := v.1.1.natAbs + v.1.2.2.1.natAbs + v.1.2.2.2.1.natAbs + v.2.1.1.length + v.2.1.2.1.length + 1000
def l97_5 (v : V97_5) : Option (X97_5) := iter (q97_5 K68 G68 K39 G39 K112 G112) (b97_5 v) v
def kL97_5 (v : V97_5) : Bool := (l97_5 v).isSome
def xL97_5 (v : V97_5) : X97_5 := (l97_5 v).getD ((0, ()), ())
def r97 (k68 : Den A68 → Bool) (g68 : Den A68 → Den R68) (k39 : Den A39 → Bool) (g39 : Den A39 → Den R39) (k112 : Den A112 → Bool) (g112 : Den A112 → Den R112) (kl5 : V97_5 → Bool) (xl5 : V97_5 → X97_5) (x : Den A97) : Option (Den R97) :=
  let v0 := (k68 (x.fst, ()))
  bif (v0) then
    let v1 := (g68 (x.fst, ()))
    bif (!v1.fst) then
      some ((-1), ())
    else
      let v2 := (k39 (x.snd.fst, 0, 10000000, ()))
      bif (v2) then
        let v3 := (g39 (x.snd.fst, 0, 10000000, ()))
        bif (!v3.fst) then
          some ((-1), ())
        else
          let v4 := (kl5 ((x.snd.fst, (), 0, 1, ()), x.fst, ()))
          bif (v4) then
            let v5 := (xl5 ((x.snd.fst, (), 0, 1, ()), x.fst, ()))
            some ((v5.fst.1), ())
          else
            none
      else
        none
  else
    none
theorem ev97 (k68 : Den A68 → Bool) (g68 : Den A68 → Den R68) (k39 : Den A39 → Bool) (g39 : Den A39 → Den R39) (k112 : Den A112 → Bool) (g112 : Den A112 → Den R112) (kl5 : V97_5 → Bool) (xl5 : V97_5 → X97_5) (x : Den A97) : callK (Γ97 k68 g68 k39 g39 k112 g112 kl5 xl5) (bodyOf Try.f97) (decR R97) (encA A97 x) [] = r97 k68 g68 k39 g39 k112 g112 kl5 xl5 x := by kernel_rfl
def F97 (x : Den A97) : Option (Den R97) := r97 K68 G68 K39 G39 K112 G112 kL97_5 xL97_5 x
def K97 (x : Den A97) : Bool := (F97 x).isSome
def G97 (x : Den A97) : Den R97 := (F97 x).getD (zero R97)
theorem env97 : EnvOK Try.prog (Γ97 K68 G68 K39 G39 K112 G112 kL97_5 xL97_5) := env_ok mixed tab_ok eqs_ok (.cons sem68 (.cons sem39 (.cons sem112 .nil)))
theorem is97 : FnIs Try.prog 97 (Γ97 K68 G68 K39 G39 K112 G112 kL97_5 xL97_5) (bodyOf Try.f97) := fnIs Try.func97 rfl rfl rfl (by kernel_rfl) (loops_ok (l := [lc97_5]) (by kernel_rfl) (.cons (one_loop rfl (loopX_sound (sh := sh97_5) (shX := shX97_5) (fun f v => evl97_5 K68 G68 K39 G39 K112 G112 kL97_5 xL97_5 f v) b97_5 ((0, ()), ()))) (.nil)))
theorem sem97 : SemOK Try.prog (97, fnMean A97 R97 K97 G97) := fn_opt env97 is97 fun x => ev97 K68 G68 K39 G39 K112 G112 kL97_5 xL97_5 x

/- "loop.example/g03321/spec.Clamp" -/
abbrev A113 : Ty := .cons (.int .i64) (.cons (.int .i64) (.cons (.int .i64) (.nil)))
abbrev R113 : Ty := .cons (.int .i64) (.nil)
noncomputable def Γ113 : Env := mkEnv tab eqs [] 21 [.tmp 6] [] [] [] [] []
def r113 (x : Den A113) : Option (Den R113) :=
  bif (decide (x.snd.snd.fst < x.snd.fst)) then
    some ((x.snd.1), ())
  else
    bif (decide (x.fst < x.snd.fst)) then
      some ((x.snd.1), ())
    else
      bif (decide (x.fst > x.snd.snd.fst)) then
        some ((x.snd.snd.1), ())
      else
        some ((x.1), ())
theorem ev113 (x : Den A113) : callK (Γ113) (bodyOf Try.f113) (decR R113) (encA A113 x) [] = r113 x := by kernel_rfl
def F113 (x : Den A113) : Option (Den R113) := r113 x
def K113 (x : Den A113) : Bool := (F113 x).isSome
def G113 (x : Den A113) : Den R113 := (F113 x).getD (zero R113)
theorem env113 : EnvOK Try.prog (Γ113) := env_ok mixed tab_ok eqs_ok .nil
theorem is113 : FnIs Try.prog 113 (Γ113) (bodyOf Try.f113) := fnIs Try.func113 rfl rfl rfl (by kernel_rfl) (noLoops (by kernel_rfl))
theorem sem113 : SemOK Try.prog (113, fnMean A113 R113 K113 G113) := fn_opt env113 is113 fun x => ev113 x

/- "loop.example/g03321/spec.l04Mix" -/
abbrev A114 : Ty := .cons (.flt .f32) (.cons (.flt .f32) (.cons (.flt .f32) (.nil)))
abbrev R114 : Ty := .cons (.flt .f32) (.nil)
noncomputable def Γ114 : Env := mkEnv tab eqs [] 16 [.tmp 6] [] [] [] [] []
def r114 (x : Den A114) : Option (Den R114) :=
  let v0 := (farith BinOp.sub FloatKind.f32 x.snd.fst x.fst)
  let v1 := (farith BinOp.mul FloatKind.f32 v0 x.snd.snd.fst)
  let v2 := (farith BinOp.add FloatKind.f32 x.fst v1)
  some ((v2), ())
theorem ev114 (x : Den A114) : callK (Γ114) (bodyOf Try.f114) (decR R114) (encA A114 x) [] = r114 x := by kernel_rfl
def F114 (x : Den A114) : Option (Den R114) := r114 x
def K114 (x : Den A114) : Bool := (F114 x).isSome
def G114 (x : Den A114) : Den R114 := (F114 x).getD (zero R114)
theorem env114 : EnvOK Try.prog (Γ114) := env_ok mixed tab_ok eqs_ok .nil
theorem is114 : FnIs Try.prog 114 (Γ114) (bodyOf Try.f114) := fnIs Try.func114 rfl rfl rfl (by kernel_rfl) (noLoops (by kernel_rfl))
theorem sem114 : SemOK Try.prog (114, fnMean A114 R114 K114 G114) := fn_opt env114 is114 fun x => ev114 x

/- "loop.example/g03321/spec.FlowAt" -/
abbrev A98 : Ty := .cons (S96) (.cons (.int .i64) (.nil))
abbrev R98 : Ty := .cons (.cpx .f32) (.cons (.bool) (.nil))
noncomputable def Γ98 (k95 : Den A95 → Bool) (g95 : Den A95 → Den R95) (k113 : Den A113 → Bool) (g113 : Den A113 → Den R113) (k114 : Den A114 → Bool) (g114 : Den A114 → Den R114) : Env := mkEnv tab eqs [(95, fnMean A95 R95 k95 g95), (113, fnMean A113 R113 k113 g113), (114, fnMean A114 R114 k114 g114)] 53 [.tmp 4, .tmp 5] [] [] [] [] []
def r98 (k95 : Den A95 → Bool) (g95 : Den A95 → Den R95) (k113 : Den A113 → Bool) (g113 : Den A113 → Den R113) (k114 : Den A114 → Bool) (g114 : Den A114 → Den R114) (x : Den A98) : Option (Den R98) :=
  let v0 := (k95 (x.fst, ()))
  bif (v0) then
    let v1 := (g95 (x.fst, ()))
    bif (!v1.fst) then
      some (((0), (0)), ((false), ()))
    else
      let v2 := (k113 (x.snd.fst, -21600, 21600, ()))
      bif (v2) then
        let v3 := (g113 (x.snd.fst, -21600, 21600, ()))
        let v4 := (IntKind.wrap IntKind.i64 (v3.fst + 21600))
        bif (Int.tmod v4 3600 == 0) then
          let v5 := (IntKind.wrap IntKind.i64 (Int.tdiv v4 3600))
          bif (decide (0 ≤ v5) && decide (v5 < (↑13 : Int))) then
            let v6 := (List.getD [x.fst.snd.fst.fst, x.fst.snd.fst.snd.fst, x.fst.snd.fst.snd.snd.fst, x.fst.snd.fst.snd.snd.snd.fst, x.fst.snd.fst.snd.snd.snd.snd.fst, x.fst.snd.fst.snd.snd.snd.snd.snd.fst, x.fst.snd.fst.snd.snd.snd.snd.snd.snd.fst, x.fst.snd.fst.snd.snd.snd.snd.snd.snd.snd.fst, x.fst.snd.fst.snd.snd.snd.snd.snd.snd.snd.snd.fst, x.fst.snd.fst.snd.snd.snd.snd.snd.snd.snd.snd.snd.fst, x.fst.snd.fst.snd.snd.snd.snd.snd.snd.snd.snd.snd.snd.fst, x.fst.snd.fst.snd.snd.snd.snd.snd.snd.snd.snd.snd.snd.snd.fst, x.fst.snd.fst.snd.snd.snd.snd.snd.snd.snd.snd.snd.snd.snd.snd.fst] (Int.toNat v5) (0, 0))
            some (((v6.1), (v6.2)), ((true), ()))
          else
            none
        else
          let v5 := (IntKind.wrap IntKind.i64 (Int.tdiv v4 3600))
          bif (decide (0 ≤ v5) && decide (v5 < (↑13 : Int))) then
            let v6 := (IntKind.wrap IntKind.i64 (v5 + 1))
            bif (decide (0 ≤ v6) && decide (v6 < (↑13 : Int))) then
              let v7 := (List.getD [x.fst.snd.fst.fst, x.fst.snd.fst.snd.fst, x.fst.snd.fst.snd.snd.fst, x.fst.snd.fst.snd.snd.snd.fst, x.fst.snd.fst.snd.snd.snd.snd.fst, x.fst.snd.fst.snd.snd.snd.snd.snd.fst, x.fst.snd.fst.snd.snd.snd.snd.snd.snd.fst, x.fst.snd.fst.snd.snd.snd.snd.snd.snd.snd.fst, x.fst.snd.fst.snd.snd.snd.snd.snd.snd.snd.snd.fst, x.fst.snd.fst.snd.snd.snd.snd.snd.snd.snd.snd.snd.fst, x.fst.snd.fst.snd.snd.snd.snd.snd.snd.snd.snd.snd.snd.fst, x.fst.snd.fst.snd.snd.snd.snd.snd.snd.snd.snd.snd.snd.snd.fst, x.fst.snd.fst.snd.snd.snd.snd.snd.snd.snd.snd.snd.snd.snd.snd.fst] (Int.toNat v5) (0, 0))
              let v8 := (List.getD [x.fst.snd.fst.fst, x.fst.snd.fst.snd.fst, x.fst.snd.fst.snd.snd.fst, x.fst.snd.fst.snd.snd.snd.fst, x.fst.snd.fst.snd.snd.snd.snd.fst, x.fst.snd.fst.snd.snd.snd.snd.snd.fst, x.fst.snd.fst.snd.snd.snd.snd.snd.snd.fst, x.fst.snd.fst.snd.snd.snd.snd.snd.snd.snd.fst, x.fst.snd.fst.snd.snd.snd.snd.snd.snd.snd.snd.fst, x.fst.snd.fst.snd.snd.snd.snd.snd.snd.snd.snd.snd.fst, x.fst.snd.fst.snd.snd.snd.snd.snd.snd.snd.snd.snd.snd.fst, x.fst.snd.fst.snd.snd.snd.snd.snd.snd.snd.snd.snd.snd.snd.fst, x.fst.snd.fst.snd.snd.snd.snd.snd.snd.snd.snd.snd.snd.snd.snd.fst] (Int.toNat v6) (0, 0))
              let v9 := (farith BinOp.quo FloatKind.f32 (FloatKind.nearest FloatKind.f32 (Int.tmod v4 3600)) 1163984896)
              let v10 := (k114 (v7.fst, v8.fst, v9, ()))
              bif (v10) then
                let v11 := (k114 (v7.snd, v8.snd, v9, ()))
                bif (v11) then
                  let v12 := (g114 (v7.fst, v8.fst, v9, ()))
                  let v13 := (g114 (v7.snd, v8.snd, v9, ()))
                  some (((v12.1), (v13.1)), ((true), ()))
                else
                  none
              else
                none
            else
              none
          else
            none
      else
        none
  else
    none
theorem ev98 (k95 : Den A95 → Bool) (g95 : Den A95 → Den R95) (k113 : Den A113 → Bool) (g113 : Den A113 → Den R113) (k114 : Den A114 → Bool) (g114 : Den A114 → Den R114) (x : Den A98) : callK (Γ98 k95 g95 k113 g113 k114 g114) (bodyOf Try.f98) (decR R98) (encA A98 x) [] = r98 k95 g95 k113 g113 k114 g114 x := by kernel_rfl
def F98 (x : Den A98) : Option (Den R98) := r98 K95 G95 K113 G113 K114 G114 x
def K98 (x : Den A98) : Bool := (F98 x).isSome
def G98 (x : Den A98) : Den R98 := (F98 x).getD (zero R98)
theorem env98 : EnvOK Try.prog (Γ98 K95 G95 K113 G113 K114 G114) := env_ok mixed tab_ok eqs_ok (.cons sem95 (.cons sem113 (.cons sem114 .nil)))
theorem is98 : FnIs Try.prog 98 (Γ98 K95 G95 K113 G113 K114 G114) (bodyOf Try.f98) := fnIs Try.func98 rfl rfl rfl (by kernel_rfl) (noLoops (by kernel_rfl))
theorem sem98 : SemOK Try.prog (98, fnMean A98 R98 K98 G98) := fn_opt env98 is98 fun x => ev98 K95 G95 K113 G113 K114 G114 x

/- "loop.example/g03321/spec.StreamAt" -/
abbrev A69 : Ty := .cons (S48) (.cons (.cpx .f64) (.cons (.int .i64) (.nil)))
abbrev R69 : Ty := .cons (.cpx .f32) (.cons (.bool) (.nil))
noncomputable def Γ69 (k96 : Den A96 → Bool) (g96 : Den A96 → Den R96) (k97 : Den A97 → Bool) (g97 : Den A97 → Den R97) (k98 : Den A98 → Bool) (g98 : Den A98 → Den R98) : Env := mkEnv tab eqs [(96, fnMean A96 R96 k96 g96), (97, fnMean A97 R97 k97 g97), (98, fnMean A98 R98 k98 g98)] 42 [.tmp 6, .tmp 7] [] [] [] [] []
def r69 (k96 : Den A96 → Bool) (g96 : Den A96 → Den R96) (k97 : Den A97 → Bool) (g97 : Den A97 → Den R97) (k98 : Den A98 → Bool) (g98 : Den A98 → Den R98) (x : Den A69) : Option (Den R69) :=
  let v0 := (k96 (x.fst, x.snd.fst, ()))
  bif (v0) then
    let v1 := (k97 (x.fst, x.snd.snd))
    bif (v1) then
      let v2 := (g96 (x.fst, x.snd.fst, ()))
      bif (decide (v2.fst < 0)) then
        some (((0), (0)), ((false), ()))
      else
        let v3 := (g97 (x.fst, x.snd.snd))
        bif (decide (v3.fst < 0)) then
          some (((0), (0)), ((false), ()))
        else
          bif (decide (0 ≤ v2.fst) && decide (v2.fst < (↑(List.length x.fst.fst) : Int))) then
            bif (decide (0 ≤ v3.fst) && decide (v3.fst < (↑(List.length x.fst.snd.fst) : Int))) then
              let v4 := (List.getD x.fst.fst (Int.toNat v2.fst) (zero S96))
              let v5 := (List.getD x.fst.snd.fst (Int.toNat v3.fst) (zero (Ty.int IntKind.i64)))
              let v6 := (IntKind.wrap IntKind.i64 (x.snd.snd.fst - v5))
              let v7 := (k98 (v4, v6, ()))
              bif (v7) then
                let v8 := (g98 (v4, v6, ()))
                some (((v8.fst.1), (v8.fst.2)), ((v8.snd.1), ()))
              else
                none
            else
              none
          else
            none
    else
      none
  else
    none
theorem ev69 (k96 : Den A96 → Bool) (g96 : Den A96 → Den R96) (k97 : Den A97 → Bool) (g97 : Den A97 → Den R97) (k98 : Den A98 → Bool) (g98 : Den A98 → Den R98) (x : Den A69) : callK (Γ69 k96 g96 k97 g97 k98 g98) (bodyOf Try.f69) (decR R69) (encA A69 x) [] = r69 k96 g96 k97 g97 k98 g98 x := by kernel_rfl
def F69 (x : Den A69) : Option (Den R69) := r69 K96 G96 K97 G97 K98 G98 x
def K69 (x : Den A69) : Bool := (F69 x).isSome
def G69 (x : Den A69) : Den R69 := (F69 x).getD (zero R69)
theorem env69 : EnvOK Try.prog (Γ69 K96 G96 K97 G97 K98 G98) := env_ok mixed tab_ok eqs_ok (.cons sem96 (.cons sem97 (.cons sem98 .nil)))
theorem is69 : FnIs Try.prog 69 (Γ69 K96 G96 K97 G97 K98 G98) (bodyOf Try.f69) := fnIs Try.func69 rfl rfl rfl (by kernel_rfl) (noLoops (by kernel_rfl))
theorem sem69 : SemOK Try.prog (69, fnMean A69 R69 K69 G69) := fn_opt env69 is69 fun x => ev69 K96 G96 K97 G97 K98 G98 x

/- "loop.example/g03321/spec.SlackFrom" -/
abbrev A27 : Ty := .cons (S48) (.cons (.cpx .f64) (.cons (.int .i64) (.cons (.flt .f32) (.nil))))
abbrev R27 : Ty := .cons (.int .i64) (.cons (.bool) (.nil))
abbrev V27_4 : Type := (((Nat × Nat) × (Int × (Nat × (Unit × (Int × Unit))))) × (((List (Den (S96))) × ((List (Den (.int .i64))) × Unit)) × Unit))
def sh27_4 : ShS := ⟨[(1, .one (.cpx .f64)), (2, .one (.int .i64)), (3, .one (.flt .f32)), (4, .one (.ptr 0 0)), (10, .one (.int .i64))], [(0, .box [.sl (S96), .sl (.int .i64)])], 1, 0⟩
abbrev X27_4 : Type := (Unit × Unit)
def shX27_4 : ShS := ⟨[], [], 0, 0⟩
abbrev Y27_4 : Type := ((Int × (Bool × Unit)) × Unit)
def shY27_4 : ShS := ⟨[(8, .one (.int .i64)), (9, .one (.bool))], [], 0, 0⟩
noncomputable def Γ27 (k68 : Den A68 → Bool) (g68 : Den A68 → Den R68) (k22 : Den A22 → Bool) (g22 : Den A22 → Den R22) (k39 : Den A39 → Bool) (g39 : Den A39 → Den R39) (k69 : Den A69 → Bool) (g69 : Den A69 → Den R69) (k70 : Den A70 → Bool) (g70 : Den A70 → Den R70) (kl4 : V27_4 → Bool) (xl4 : V27_4 → X27_4) (tl4 : V27_4 → Bool) (yl4 : V27_4 → Y27_4) : Env := mkEnv tab eqs [(68, fnMean A68 R68 k68 g68), (22, fnMean A22 R22 k22 g22), (39, fnMean A39 R39 k39 g39), (69, fnMean A69 R69 k69 g69), (70, fnMean A70 R70 k70 g70)] 59 [.tmp 8, .tmp 9] [] [] [(4, loopR [1, 2, 3, 4, 10] [] 0 [] [] sh27_4 shX27_4 shY27_4 kl4 tl4 xl4 yl4)] [] []
noncomputable def lc27_4 : Code := (loopsOf (bodyOf Try.f27)).getD 0 .skip
def q27_4 (k68 : Den A68 → Bool) (g68 : Den A68 → Den R68) (k22 : Den A22 → Bool) (g22 : Den A22 → Den R22) (k39 : Den A39 → Bool) (g39 : Den A39 → Den R39) (k69 : Den A69 → Bool) (g69 : Den A69 → Den R69) (k70 : Den A70 → Bool) (g70 : Den A70 → Den R70) (f : V27_4 → Option (X27_4 ⊕ Y27_4)) (v : V27_4) : Option (X27_4 ⊕ Y27_4) :=
  bif (decide (v.fst.snd.snd.snd.snd.fst ≤ 720)) then
    let v0 := (IntKind.wrap IntKind.i64 (60 * v.fst.snd.snd.snd.snd.fst))
    let v1 := (IntKind.wrap IntKind.i64 (v.fst.snd.fst + v0))
    let v2 := (k69 (v.snd.fst, v.fst.fst, v1, ()))
    bif (v2) then
      let v3 := (g69 (v.snd.fst, v.fst.fst, v1, ()))
      bif (v3.snd.1) then
        let v4 := (k70 (v3.fst.fst, ()))
        bif (v4) then
          let v5 := (g70 (v3.fst.fst, ()))
          bif (flt FloatKind.f32 v5.fst v.fst.snd.snd.fst || feq FloatKind.f32 v5.fst v.fst.snd.snd.fst) then
            let v6 := (k70 (v3.fst.snd, ()))
            bif (v6) then
              let v7 := (g70 (v3.fst.snd, ()))
              bif (flt FloatKind.f32 v7.fst v.fst.snd.snd.fst || feq FloatKind.f32 v7.fst v.fst.snd.snd.fst) then
                some (Sum.inr (((v1), ((true), ())), ()))
              else
                let v8 := (IntKind.wrap IntKind.i64 (v.fst.snd.snd.snd.snd.fst + 1))
                f ((((v.fst.fst.1), (v.fst.fst.2)), ((v.fst.snd.1), ((v.fst.snd.snd.1), ((), ((v8), ()))))), (((v.snd.fst.1), ((v.snd.fst.snd.1), ())), ()))
            else
              none
          else
            let v6 := (IntKind.wrap IntKind.i64 (v.fst.snd.snd.snd.snd.fst + 1))
            f ((((v.fst.fst.1), (v.fst.fst.2)), ((v.fst.snd.1), ((v.fst.snd.snd.1), ((), ((v6), ()))))), (((v.snd.fst.1), ((v.snd.fst.snd.1), ())), ()))
        else
          none
      else
        let v4 := (IntKind.wrap IntKind.i64 (v.fst.snd.snd.snd.snd.fst + 1))
        f ((((v.fst.fst.1), (v.fst.fst.2)), ((v.fst.snd.1), ((v.fst.snd.snd.1), ((), ((v4), ()))))), (((v.snd.fst.1), ((v.snd.fst.snd.1), ())), ()))
    else
      none
  else
    some (Sum.inl ((), ()))
theorem evl27_4 (k68 : Den A68 → Bool) (g68 : Den A68 → Den R68) (k22 : Den A22 → Bool) (g22 : Den A22 → Den R22) (k39 : Den A39 → Bool) (g39 : Den A39 → Den R39) (k69 : Den A69 → Bool) (g69 : Den A69 → Den R69) (k70 : Den A70 → Bool) (g70 : Den A70 → Den R70) (kl4 : V27_4 → Bool) (xl4 : V27_4 → X27_4) (tl4 : V27_4 → Bool) (yl4 : V27_4 → Y27_4) (f : V27_4 → Option (X27_4 ⊕ Y27_4)) (v : V27_4) : EBk (Γ27 k68 g68 k22 g22 k39 g39 k69 g69 k70 g70 kl4 xl4 tl4 yl4) lc27_4 (roundK [1, 2, 3, 4, 10] [] 0 [] [] (atS sh27_4 f) (endS shX27_4 shY27_4)) (mkS sh27_4 v) = q27_4 k68 g68 k22 g22 k39 g39 k69 g69 k70 g70 f v := by kernel_rfl
def b27_4 (v : V27_4) : Nat := v.1.2.1.natAbs + v.1.2.2.2.2.1.natAbs + v.2.1.1.length + v.2.1.2.1.length + 1000
def l27_4 (v : V27_4) : Option (X27_4 ⊕ Y27_4) := iter (q27_4 K68 G68 K22 G22 K39 G39 K69 G69 K70 G70) (b27_4 v) v
def kL27_4 (v : V27_4) : Bool := (l27_4 v).isSome
def tL27_4 (v : V27_4) : Bool := isR (l27_4 v)
def xL27_4 (v : V27_4) : X27_4 := xOf ((), ()) (l27_4 v)
def yL27_4 (v : V27_4) : Y27_4 := yOf ((0, (false, ())), ()) (l27_4 v)
def r27 (k68 : Den A68 → Bool) (g68 : Den A68 → Den R68) (k22 : Den A22 → Bool) (g22 : Den A22 → Den R22) (k39 : Den A39 → Bool) (g39 : Den A39 → Den R39) (k69 : Den A69 → Bool) (g69 : Den A69 → Den R69) (k70 : Den A70 → Bool) (g70 : Den A70 → Den R70) (kl4 : V27_4 → Bool) (xl4 : V27_4 → X27_4) (tl4 : V27_4 → Bool) (yl4 : V27_4 → Y27_4) (x : Den A27) : Option (Den R27) :=
  let v0 := (k68 (x.fst, ()))
  bif (v0) then
    let v1 := (g68 (x.fst, ()))
    bif (!v1.fst) then
      some ((0), ((false), ()))
    else
      let v2 := (k22 (x.snd.fst, ()))
      bif (v2) then
        let v3 := (g22 (x.snd.fst, ()))
        bif (!v3.fst) then
          some ((0), ((false), ()))
        else
          let v4 := (k39 (x.snd.snd.fst, -43260, 10000000, ()))
          bif (v4) then
            let v5 := (g39 (x.snd.snd.fst, -43260, 10000000, ()))
            bif (!v5.fst) then
              some ((0), ((false), ()))
            else
              let v6 := (kl4 ((x.snd.fst, x.snd.snd.fst, x.snd.snd.snd.fst, (), 0, ()), x.fst, ()))
              bif (v6) then
                let v7 := (tl4 ((x.snd.fst, x.snd.snd.fst, x.snd.snd.snd.fst, (), 0, ()), x.fst, ()))
                bif (v7) then
                  let v8 := (yl4 ((x.snd.fst, x.snd.snd.fst, x.snd.snd.snd.fst, (), 0, ()), x.fst, ()))
                  some ((v8.fst.1), ((v8.fst.snd.1), ()))
                else
                  some ((0), ((false), ()))
              else
                none
          else
            none
      else
        none
  else
    none
theorem ev27 (k68 : Den A68 → Bool) (g68 : Den A68 → Den R68) (k22 : Den A22 → Bool) (g22 : Den A22 → Den R22) (k39 : Den A39 → Bool) (g39 : Den A39 → Den R39) (k69 : Den A69 → Bool) (g69 : Den A69 → Den R69) (k70 : Den A70 → Bool) (g70 : Den A70 → Den R70) (kl4 : V27_4 → Bool) (xl4 : V27_4 → X27_4) (tl4 : V27_4 → Bool) (yl4 : V27_4 → Y27_4) (x : Den A27) : callK (Γ27 k68 g68 k22 g22 k39 g39 k69 g69 k70 g70 kl4 xl4 tl4 yl4) (bodyOf Try.f27) (decR R27) (encA A27 x) [] = r27 k68 g68 k22 g22 k39 g39 k69 g69 k70 g70 kl4 xl4 tl4 yl4 x := by kernel_rfl
def F27 (x : Den A27) : Option (Den R27) := r27 K68 G68 K22 G22 K39 G39 K69 G69 K70 G70 kL27_4 xL27_4 tL27_4 yL27_4 x
def K27 (x : Den A27) : Bool := (F27 x).isSome
def G27 (x : Den A27) : Den R27 := (F27 x).getD (zero R27)
theorem env27 : EnvOK Try.prog (Γ27 K68 G68 K22 G22 K39 G39 K69 G69 K70 G70 kL27_4 xL27_4 tL27_4 yL27_4) := env_ok mixed tab_ok eqs_ok (.cons sem68 (.cons sem22 (.cons sem39 (.cons sem69 (.cons sem70 .nil)))))
theorem is27 : FnIs Try.prog 27 (Γ27 K68 G68 K22 G22 K39 G39 K69 G69 K70 G70 kL27_4 xL27_4 tL27_4 yL27_4) (bodyOf Try.f27) := fnIs Try.func27 rfl rfl rfl (by kernel_rfl) (loops_ok (l := [lc27_4]) (by kernel_rfl) (.cons (one_loop rfl (loopR_sound (sh := sh27_4) (shX := shX27_4) (shR := shY27_4) (fun f v => evl27_4 K68 G68 K22 G22 K39 G39 K69 G69 K70 G70 kL27_4 xL27_4 tL27_4 yL27_4 f v) b27_4 ((), ()) ((0, (false, ())), ()))) (.nil)))
theorem sem27 : SemOK Try.prog (27, fnMean A27 R27 K27 G27) := fn_opt env27 is27 fun x => ev27 K68 G68 K22 G22 K39 G39 K69 G69 K70 G70 kL27_4 xL27_4 tL27_4 yL27_4 x

/- "loop.example/g03321/laws.amount" -/
abbrev A29 : Ty := .cons (.flt .f64) (.nil)
abbrev R29 : Ty := .cons (.flt .f64) (.nil)
noncomputable def Γ29 : Env := mkEnv tab eqs [] 8 [.tmp 2] [] [] [] [] []
def r29 (x : Den A29) : Option (Den R29) :=
  bif (flt FloatKind.f64 x.fst 0) then
    let v0 := (fneg FloatKind.f64 x.fst)
    some ((v0), ())
  else
    some ((x.1), ())
theorem ev29 (x : Den A29) : callK (Γ29) (bodyOf Try.f29) (decR R29) (encA A29 x) [] = r29 x := by kernel_rfl
def F29 (x : Den A29) : Option (Den R29) := r29 x
def K29 (x : Den A29) : Bool := (F29 x).isSome
def G29 (x : Den A29) : Den R29 := (F29 x).getD (zero R29)
theorem env29 : EnvOK Try.prog (Γ29) := env_ok mixed tab_ok eqs_ok .nil
theorem is29 : FnIs Try.prog 29 (Γ29) (bodyOf Try.f29) := fnIs Try.func29 rfl rfl rfl (by kernel_rfl) (noLoops (by kernel_rfl))
theorem sem29 : SemOK Try.prog (29, fnMean A29 R29 K29 G29) := fn_opt env29 is29 fun x => ev29 x

end Go.Proofs.Ytmmdjajebmihhaa.AM

/- What functions of the program make of their arguments; each is what its evaluation says. Printed by fx.py. -/
namespace Go.Proofs.Ytmmdjajebmihhaa.AM
open Go Go.Proofs
set_option linter.unusedVariables false
set_option maxRecDepth 100000
set_option maxHeartbeats 0

/- "loop.example/g03321/laws.FnTideStill" -/
abbrev A5 : Ty := .cons (.slice (.int .u8)) (.nil)
abbrev R5 : Ty := .cons (.bool) (.nil)
abbrev V5_5 : Type := (((Nat × Nat) × (Int × (Unit × (Unit × (Int × Unit))))) × ((List (Den (S53))) × (((List (Den (S96))) × ((List (Den (.int .i64))) × Unit)) × Unit)))
def sh5_5 : ShS := ⟨[(3, .one (.cpx .f64)), (4, .one (.int .i64)), (5, .one (.ref (S53) 0)), (6, .one (.ptr 1 0)), (7, .one (.int .i64))], [(0, .arr (S53)), (1, .box [.sl (S96), .sl (.int .i64)])], 2, 0⟩
abbrev X5_5 : Type := (((Nat × Nat) × (Int × (Unit × (Unit × Unit)))) × ((List (Den (S53))) × (((List (Den (S96))) × ((List (Den (.int .i64))) × Unit)) × Unit)))
def shX5_5 : ShS := ⟨[(3, .one (.cpx .f64)), (4, .one (.int .i64)), (5, .one (.ref (S53) 0)), (6, .one (.ptr 1 0))], [(0, .arr (S53)), (1, .box [.sl (S96), .sl (.int .i64)])], 2, 0⟩
abbrev V5_11 : Type := (((Nat × Nat) × (Unit × ((Nat × Nat) × (Bool × (Bool × (Int × Unit)))))) × ((List (Den (S53))) × Unit))
def sh5_11 : ShS := ⟨[(3, .one (.cpx .f64)), (5, .one (.ref (S53) 0)), (8, .one (.cpx .f64)), (9, .one (.bool)), (10, .one (.bool)), (11, .one (.int .i64))], [(0, .arr (S53))], 1, 0⟩
abbrev X5_11 : Type := (((Nat × Nat) × ((Nat × Nat) × (Bool × (Bool × Unit)))) × Unit)
def shX5_11 : ShS := ⟨[(3, .one (.cpx .f64)), (8, .one (.cpx .f64)), (9, .one (.bool)), (10, .one (.bool))], [], 0, 0⟩
noncomputable def Γ5 (k7 : Den A7 → Bool) (g7 : Den A7 → Den R7) (k20 : I20.den → Bool) (g20 : I20.den → O20.den) (k21 : Den A21 → Bool) (g21 : Den A21 → Den R21) (k22 : Den A22 → Bool) (g22 : Den A22 → Den R22) (k23 : Den A23 → Bool) (g23 : Den A23 → Den R23) (k24 : Den A24 → Bool) (g24 : Den A24 → Den R24) (kl5 : V5_5 → Bool) (xl5 : V5_5 → X5_5) (kl11 : V5_11 → Bool) (xl11 : V5_11 → X5_11) : Env := mkEnv tab eqs [(7, fnMean A7 R7 k7 g7), (20, sgMean false I20 O20 k20 g20), (21, fnMean A21 R21 k21 g21), (22, fnMean A22 R22 k22 g22), (23, fnMean A23 R23 k23 g23), (24, fnMean A24 R24 k24 g24)] 79 [.tmp 2] [] [] [(5, loopX [3, 4, 5, 6, 7] [] 0 [3, 4, 5, 6] [] sh5_5 shX5_5 kl5 xl5), (11, loopX [3, 5, 8, 9, 10, 11] [] 2 [3, 8, 9, 10] [] sh5_11 shX5_11 kl11 xl11)] [] []
noncomputable def lc5_5 : Code := (loopsOf (bodyOf Try.f5)).getD 0 .skip
noncomputable def lc5_11 : Code := (loopsOf (bodyOf Try.f5)).getD 1 .skip
def q5_11 (k7 : Den A7 → Bool) (g7 : Den A7 → Den R7) (k20 : I20.den → Bool) (g20 : I20.den → O20.den) (k21 : Den A21 → Bool) (g21 : Den A21 → Den R21) (k22 : Den A22 → Bool) (g22 : Den A22 → Den R22) (k23 : Den A23 → Bool) (g23 : Den A23 → Den R23) (k24 : Den A24 → Bool) (g24 : Den A24 → Den R24) (f : V5_11 → Option (X5_11)) (v : V5_11) : Option (X5_11) :=
  bif (decide (v.fst.snd.snd.snd.snd.snd.fst < (↑(List.length v.snd.fst) : Int))) then
    bif (v.fst.snd.snd.snd.snd.1) then
      bif (decide (0 ≤ v.fst.snd.snd.snd.snd.snd.fst) && decide (v.fst.snd.snd.snd.snd.snd.fst < (↑(List.length v.snd.fst) : Int))) then
        let v0 := (List.getD v.snd.fst (Int.toNat v.fst.snd.snd.snd.snd.snd.fst) (zero S53))
        let v1 := (k23 (v0, ()))
        bif (v1) then
          let v2 := (g23 (v0, ()))
          let v3 := (IntKind.wrap IntKind.i64 (v.fst.snd.snd.snd.snd.snd.fst + 1))
          f ((((v.fst.fst.1), (v.fst.fst.2)), ((), (((v.fst.snd.snd.fst.1), (v.fst.snd.snd.fst.2)), ((v.fst.snd.snd.snd.1), ((v2.1), ((v3), ())))))), ((v.snd.1), ()))
        else
          none
      else
        none
    else
      let v0 := (IntKind.wrap IntKind.i64 (v.fst.snd.snd.snd.snd.snd.fst + 1))
      f ((((v.fst.fst.1), (v.fst.fst.2)), ((), (((v.fst.snd.snd.fst.1), (v.fst.snd.snd.fst.2)), ((v.fst.snd.snd.snd.1), ((false), ((v0), ())))))), ((v.snd.1), ()))
  else
    some ((((v.fst.fst.1), (v.fst.fst.2)), (((v.fst.snd.snd.fst.1), (v.fst.snd.snd.fst.2)), ((v.fst.snd.snd.snd.1), ((v.fst.snd.snd.snd.snd.1), ())))), ())
theorem evl5_11 (k7 : Den A7 → Bool) (g7 : Den A7 → Den R7) (k20 : I20.den → Bool) (g20 : I20.den → O20.den) (k21 : Den A21 → Bool) (g21 : Den A21 → Den R21) (k22 : Den A22 → Bool) (g22 : Den A22 → Den R22) (k23 : Den A23 → Bool) (g23 : Den A23 → Den R23) (k24 : Den A24 → Bool) (g24 : Den A24 → Den R24) (kl5 : V5_5 → Bool) (xl5 : V5_5 → X5_5) (kl11 : V5_11 → Bool) (xl11 : V5_11 → X5_11) (f : V5_11 → Option (X5_11)) (v : V5_11) : EBk (Γ5 k7 g7 k20 g20 k21 g21 k22 g22 k23 g23 k24 g24 kl5 xl5 kl11 xl11) lc5_11 (roundK [3, 5, 8, 9, 10, 11] [] 2 [3, 8, 9, 10] [] (atS sh5_11 f) (endX shX5_11)) (mkS sh5_11 v) = q5_11 k7 g7 k20 g20 k21 g21 k22 g22 k23 g23 k24 g24 f v := by kernel_rfl
def b5_11 (v : V5_11) : Nat := v.1.2.2.2.2.2.1.natAbs + v.2.1.length + 1000
def l5_11 (v : V5_11) : Option (X5_11) := iter (q5_11 K7 G7 K20 G20 K21 G21 K22 G22 K23 G23 K24 G24) (b5_11 v) v
def kL5_11 (v : V5_11) : Bool := (l5_11 v).isSome
def xL5_11 (v : V5_11) : X5_11 := (l5_11 v).getD (((0, 0), ((0, 0), (false, (false, ())))), ())
def q5_5 (k7 : Den A7 → Bool) (g7 : Den A7 → Den R7) (k20 : I20.den → Bool) (g20 : I20.den → O20.den) (k21 : Den A21 → Bool) (g21 : Den A21 → Den R21) (k22 : Den A22 → Bool) (g22 : Den A22 → Den R22) (k23 : Den A23 → Bool) (g23 : Den A23 → Den R23) (k24 : Den A24 → Bool) (g24 : Den A24 → Den R24) (f : V5_5 → Option (X5_5)) (v : V5_5) : Option (X5_5) :=
  bif (decide (v.fst.snd.snd.snd.snd.fst < (↑(List.length v.snd.fst) : Int))) then
    bif (decide (0 ≤ v.fst.snd.snd.snd.snd.fst) && decide (v.fst.snd.snd.snd.snd.fst < (↑(List.length v.snd.fst) : Int))) then
      let v0 := (IntKind.wrap IntKind.i64 (v.fst.snd.snd.snd.snd.fst + 1))
      let v1 := (List.getD v.snd.fst (Int.toNat v.fst.snd.snd.snd.snd.fst) (zero S53))
      let v2 := (List.set v.snd.fst (Int.toNat v.fst.snd.snd.snd.snd.fst) (v1.fst, v1.snd.fst, 0, ()))
      f ((((v.fst.fst.1), (v.fst.fst.2)), ((v.fst.snd.1), ((), ((), ((v0), ()))))), ((v2), (((v.snd.snd.fst.1), ((v.snd.snd.fst.snd.1), ())), ())))
    else
      none
  else
    some ((((v.fst.fst.1), (v.fst.fst.2)), ((v.fst.snd.1), ((), ((), ())))), ((v.snd.1), (((v.snd.snd.fst.1), ((v.snd.snd.fst.snd.1), ())), ())))
theorem evl5_5 (k7 : Den A7 → Bool) (g7 : Den A7 → Den R7) (k20 : I20.den → Bool) (g20 : I20.den → O20.den) (k21 : Den A21 → Bool) (g21 : Den A21 → Den R21) (k22 : Den A22 → Bool) (g22 : Den A22 → Den R22) (k23 : Den A23 → Bool) (g23 : Den A23 → Den R23) (k24 : Den A24 → Bool) (g24 : Den A24 → Den R24) (kl5 : V5_5 → Bool) (xl5 : V5_5 → X5_5) (kl11 : V5_11 → Bool) (xl11 : V5_11 → X5_11) (f : V5_5 → Option (X5_5)) (v : V5_5) : EBk (Γ5 k7 g7 k20 g20 k21 g21 k22 g22 k23 g23 k24 g24 kl5 xl5 kl11 xl11) lc5_5 (roundK [3, 4, 5, 6, 7] [] 0 [3, 4, 5, 6] [] (atS sh5_5 f) (endX shX5_5)) (mkS sh5_5 v) = q5_5 k7 g7 k20 g20 k21 g21 k22 g22 k23 g23 k24 g24 f v := by kernel_rfl
def b5_5 (v : V5_5) : Nat := v.1.2.1.natAbs + v.1.2.2.2.2.1.natAbs + v.2.1.length + v.2.2.1.1.length + v.2.2.1.2.1.length + 1000
def l5_5 (v : V5_5) : Option (X5_5) := iter (q5_5 K7 G7 K20 G20 K21 G21 K22 G22 K23 G23 K24 G24) (b5_5 v) v
def kL5_5 (v : V5_5) : Bool := (l5_5 v).isSome
def xL5_5 (v : V5_5) : X5_5 := (l5_5 v).getD (((0, 0), (0, ((), ((), ())))), ([], (([], ([], ())), ())))
def r5 (k7 : Den A7 → Bool) (g7 : Den A7 → Den R7) (k20 : I20.den → Bool) (g20 : I20.den → O20.den) (k21 : Den A21 → Bool) (g21 : Den A21 → Den R21) (k22 : Den A22 → Bool) (g22 : Den A22 → Den R22) (k23 : Den A23 → Bool) (g23 : Den A23 → Den R23) (k24 : Den A24 → Bool) (g24 : Den A24 → Den R24) (kl5 : V5_5 → Bool) (xl5 : V5_5 → X5_5) (kl11 : V5_11 → Bool) (xl11 : V5_11 → X5_11) (x : Den A5) : Option (Den R5) :=
  let v0 := (k7 x)
  bif (v0) then
    let v1 := (g7 x)
    bif (v1.1) then
      some ((true), ())
    else
      let v2 := (k20 (x, ()))
      bif (v2) then
        let v3 := (g20 (x, ()))
        let v4 := (kl5 ((v3.fst.fst, v3.fst.snd.fst, (), (), 0, ()), v3.snd.fst, v3.fst.snd.snd.snd))
        bif (v4) then
          let v5 := (xl5 ((v3.fst.fst, v3.fst.snd.fst, (), (), 0, ()), v3.snd.fst, v3.fst.snd.snd.snd))
          let v6 := (k21 (v5.fst.fst, v5.fst.snd.fst, v5.snd))
          bif (v6) then
            bif (decide ((↑(List.length v5.snd.fst) : Int) ≤ 50)) then
              let v7 := (k22 (v5.fst.fst, ()))
              bif (v7) then
                let v8 := (g21 (v5.fst.fst, v5.fst.snd.fst, v5.snd))
                let v9 := (g22 (v5.fst.fst, ()))
                let v10 := (kl11 ((v5.fst.fst, (), v8.fst, v8.snd.fst, v9.fst, 0, ()), v5.snd.fst, ()))
                bif (v10) then
                  let v11 := (xl11 ((v5.fst.fst, (), v8.fst, v8.snd.fst, v9.fst, 0, ()), v5.snd.fst, ()))
                  bif (v11.fst.snd.snd.fst == v11.fst.snd.snd.snd.fst) then
                    bif (!v11.fst.snd.snd.fst) then
                      bif (feq FloatKind.f64 v11.fst.snd.fst.fst 0 && feq FloatKind.f64 v11.fst.snd.fst.snd 0) then
                        some ((true), ())
                      else
                        bif (v11.fst.snd.snd.1) then
                          let v12 := (k24 (v11.fst.snd.fst, v11.fst.fst, ()))
                          bif (v12) then
                            let v13 := (g24 (v11.fst.snd.fst, v11.fst.fst, ()))
                            some ((v13.1), ())
                          else
                            none
                        else
                          some ((false), ())
                    else
                      bif (v11.fst.snd.snd.1) then
                        let v12 := (k24 (v11.fst.snd.fst, v11.fst.fst, ()))
                        bif (v12) then
                          let v13 := (g24 (v11.fst.snd.fst, v11.fst.fst, ()))
                          some ((v13.1), ())
                        else
                          none
                      else
                        some ((false), ())
                  else
                    some ((false), ())
                else
                  none
              else
                none
            else
              let v7 := (g21 (v5.fst.fst, v5.fst.snd.fst, v5.snd))
              let v8 := (kl11 ((v5.fst.fst, (), v7.fst, v7.snd.fst, false, 0, ()), v5.snd.fst, ()))
              bif (v8) then
                let v9 := (xl11 ((v5.fst.fst, (), v7.fst, v7.snd.fst, false, 0, ()), v5.snd.fst, ()))
                bif (v9.fst.snd.snd.fst == v9.fst.snd.snd.snd.fst) then
                  bif (!v9.fst.snd.snd.fst) then
                    bif (feq FloatKind.f64 v9.fst.snd.fst.fst 0 && feq FloatKind.f64 v9.fst.snd.fst.snd 0) then
                      some ((true), ())
                    else
                      bif (v9.fst.snd.snd.1) then
                        let v10 := (k24 (v9.fst.snd.fst, v9.fst.fst, ()))
                        bif (v10) then
                          let v11 := (g24 (v9.fst.snd.fst, v9.fst.fst, ()))
                          some ((v11.1), ())
                        else
                          none
                      else
                        some ((false), ())
                  else
                    bif (v9.fst.snd.snd.1) then
                      let v10 := (k24 (v9.fst.snd.fst, v9.fst.fst, ()))
                      bif (v10) then
                        let v11 := (g24 (v9.fst.snd.fst, v9.fst.fst, ()))
                        some ((v11.1), ())
                      else
                        none
                    else
                      some ((false), ())
                else
                  some ((false), ())
              else
                none
          else
            none
        else
          none
      else
        none
  else
    none
theorem ev5 (k7 : Den A7 → Bool) (g7 : Den A7 → Den R7) (k20 : I20.den → Bool) (g20 : I20.den → O20.den) (k21 : Den A21 → Bool) (g21 : Den A21 → Den R21) (k22 : Den A22 → Bool) (g22 : Den A22 → Den R22) (k23 : Den A23 → Bool) (g23 : Den A23 → Den R23) (k24 : Den A24 → Bool) (g24 : Den A24 → Den R24) (kl5 : V5_5 → Bool) (xl5 : V5_5 → X5_5) (kl11 : V5_11 → Bool) (xl11 : V5_11 → X5_11) (x : Den A5) : callK (Γ5 k7 g7 k20 g20 k21 g21 k22 g22 k23 g23 k24 g24 kl5 xl5 kl11 xl11) (bodyOf Try.f5) (decR R5) (encA A5 x) [] = r5 k7 g7 k20 g20 k21 g21 k22 g22 k23 g23 k24 g24 kl5 xl5 kl11 xl11 x := by kernel_rfl
def F5 (x : Den A5) : Option (Den R5) := r5 K7 G7 K20 G20 K21 G21 K22 G22 K23 G23 K24 G24 kL5_5 xL5_5 kL5_11 xL5_11 x
def K5 (x : Den A5) : Bool := (F5 x).isSome
def G5 (x : Den A5) : Den R5 := (F5 x).getD (zero R5)
theorem env5 : EnvOK Try.prog (Γ5 K7 G7 K20 G20 K21 G21 K22 G22 K23 G23 K24 G24 kL5_5 xL5_5 kL5_11 xL5_11) := env_ok mixed tab_ok eqs_ok (.cons sem7 (.cons sem20 (.cons sem21 (.cons sem22 (.cons sem23 (.cons sem24 .nil))))))
theorem is5 : FnIs Try.prog 5 (Γ5 K7 G7 K20 G20 K21 G21 K22 G22 K23 G23 K24 G24 kL5_5 xL5_5 kL5_11 xL5_11) (bodyOf Try.f5) := fnIs Try.func5 rfl rfl rfl (by kernel_rfl) (loops_ok (l := [lc5_5, lc5_11]) (by kernel_rfl) (.cons (one_loop rfl (loopX_sound (sh := sh5_5) (shX := shX5_5) (fun f v => evl5_5 K7 G7 K20 G20 K21 G21 K22 G22 K23 G23 K24 G24 kL5_5 xL5_5 kL5_11 xL5_11 f v) b5_5 (((0, 0), (0, ((), ((), ())))), ([], (([], ([], ())), ()))))) (.cons (one_loop rfl (loopX_sound (sh := sh5_11) (shX := shX5_11) (fun f v => evl5_11 K7 G7 K20 G20 K21 G21 K22 G22 K23 G23 K24 G24 kL5_5 xL5_5 kL5_11 xL5_11 f v) b5_11 (((0, 0), ((0, 0), (false, (false, ())))), ()))) (.nil))))
theorem sem5 : SemOK Try.prog (5, fnMean A5 R5 K5 G5) := fn_opt env5 is5 fun x => ev5 K7 G7 K20 G20 K21 G21 K22 G22 K23 G23 K24 G24 kL5_5 xL5_5 kL5_11 xL5_11 x

/- "loop.example/g03321/laws.FnSlackFirst" -/
abbrev A6 : Ty := .cons (.slice (.int .u8)) (.nil)
abbrev R6 : Ty := .cons (.bool) (.nil)
noncomputable def Γ6 (k7 : Den A7 → Bool) (g7 : Den A7 → Den R7) (k25 : Den A25 → Bool) (g25 : Den A25 → Den R25) (k26 : Den A26 → Bool) (g26 : Den A26 → Den R26) (k27 : Den A27 → Bool) (g27 : Den A27 → Den R27) (k28 : Den A28 → Bool) (g28 : Den A28 → Den R28) (k29 : Den A29 → Bool) (g29 : Den A29 → Den R29) : Env := mkEnv tab eqs [(7, fnMean A7 R7 k7 g7), (25, fnMean A25 R25 k25 g25), (26, fnMean A26 R26 k26 g26), (27, fnMean A27 R27 k27 g27), (28, fnMean A28 R28 k28 g28), (29, fnMean A29 R29 k29 g29)] 117 [.tmp 2] [] [] [] [] []
def r6 (k7 : Den A7 → Bool) (g7 : Den A7 → Den R7) (k25 : Den A25 → Bool) (g25 : Den A25 → Den R25) (k26 : Den A26 → Bool) (g26 : Den A26 → Den R26) (k27 : Den A27 → Bool) (g27 : Den A27 → Den R27) (k28 : Den A28 → Bool) (g28 : Den A28 → Den R28) (k29 : Den A29 → Bool) (g29 : Den A29 → Den R29) (x : Den A6) : Option (Den R6) :=
  let v0 := (k7 x)
  bif (v0) then
    let v1 := (g7 x)
    bif (v1.1) then
      some ((true), ())
    else
      let v2 := (k25 x)
      bif (v2) then
        let v3 := (g25 x)
        let v4 := (k26 v3)
        bif (v4) then
          let v5 := (k27 v3)
          bif (v5) then
            let v6 := (g26 v3)
            let v7 := (g27 v3)
            bif (!v6.snd.fst == v7.snd.fst) then
              some ((false), ())
            else
              bif (!v6.snd.fst) then
                some ((v6.fst == 0), ())
              else
                let v8 := (k28 (v3.fst, v3.snd.fst, v6.fst, ()))
                bif (v8) then
                  let v9 := (g28 (v3.fst, v3.snd.fst, v6.fst, ()))
                  bif (!v9.snd.fst) then
                    some ((false), ())
                  else
                    let v10 := (k29 ((convF FloatKind.f32 FloatKind.f64 v9.fst.fst).snd, ()))
                    bif (v10) then
                      let v11 := (g29 ((convF FloatKind.f32 FloatKind.f64 v9.fst.fst).snd, ()))
                      bif (fgt FloatKind.f64 v11.fst (convF FloatKind.f32 FloatKind.f64 v3.snd.snd.snd.fst).snd) then
                        some ((false), ())
                      else
                        let v12 := (k29 ((convF FloatKind.f32 FloatKind.f64 v9.fst.snd).snd, ()))
                        bif (v12) then
                          let v13 := (g29 ((convF FloatKind.f32 FloatKind.f64 v9.fst.snd).snd, ()))
                          bif (fgt FloatKind.f64 v13.fst (convF FloatKind.f32 FloatKind.f64 v3.snd.snd.snd.fst).snd) then
                            some ((false), ())
                          else
                            let v14 := (IntKind.wrap IntKind.i64 (v6.fst - v3.snd.snd.fst))
                            bif (Int.tmod v14 60 != 0) then
                              some ((false), ())
                            else
                              bif (v6.fst == v3.snd.snd.fst) then
                                some ((true), ())
                              else
                                let v15 := (IntKind.wrap IntKind.i64 (v6.fst - 60))
                                let v16 := (k28 (v3.fst, v3.snd.fst, v15, ()))
                                bif (v16) then
                                  bif (decide (v6.fst > v3.snd.snd.fst)) then
                                    let v17 := (g28 (v3.fst, v3.snd.fst, v15, ()))
                                    bif (!v17.snd.fst) then
                                      some ((true), ())
                                    else
                                      let v18 := (k29 ((convF FloatKind.f32 FloatKind.f64 v17.fst.fst).snd, ()))
                                      bif (v18) then
                                        let v19 := (g29 ((convF FloatKind.f32 FloatKind.f64 v17.fst.fst).snd, ()))
                                        bif (fgt FloatKind.f64 v19.fst (convF FloatKind.f32 FloatKind.f64 v3.snd.snd.snd.fst).snd) then
                                          some ((true), ())
                                        else
                                          let v20 := (k29 ((convF FloatKind.f32 FloatKind.f64 v17.fst.snd).snd, ()))
                                          bif (v20) then
                                            let v21 := (g29 ((convF FloatKind.f32 FloatKind.f64 v17.fst.snd).snd, ()))
                                            some ((fgt FloatKind.f64 v21.fst (convF FloatKind.f32 FloatKind.f64 v3.snd.snd.snd.fst).snd), ())
                                          else
                                            none
                                      else
                                        none
                                  else
                                    some ((false), ())
                                else
                                  none
                        else
                          none
                    else
                      none
                else
                  none
          else
            none
        else
          none
      else
        none
  else
    none
theorem ev6 (k7 : Den A7 → Bool) (g7 : Den A7 → Den R7) (k25 : Den A25 → Bool) (g25 : Den A25 → Den R25) (k26 : Den A26 → Bool) (g26 : Den A26 → Den R26) (k27 : Den A27 → Bool) (g27 : Den A27 → Den R27) (k28 : Den A28 → Bool) (g28 : Den A28 → Den R28) (k29 : Den A29 → Bool) (g29 : Den A29 → Den R29) (x : Den A6) : callK (Γ6 k7 g7 k25 g25 k26 g26 k27 g27 k28 g28 k29 g29) (bodyOf Try.f6) (decR R6) (encA A6 x) [] = r6 k7 g7 k25 g25 k26 g26 k27 g27 k28 g28 k29 g29 x := by kernel_rfl
def F6 (x : Den A6) : Option (Den R6) := r6 K7 G7 K25 G25 K26 G26 K27 G27 K28 G28 K29 G29 x
def K6 (x : Den A6) : Bool := (F6 x).isSome
def G6 (x : Den A6) : Den R6 := (F6 x).getD (zero R6)
theorem env6 : EnvOK Try.prog (Γ6 K7 G7 K25 G25 K26 G26 K27 G27 K28 G28 K29 G29) := env_ok mixed tab_ok eqs_ok (.cons sem7 (.cons sem25 (.cons sem26 (.cons sem27 (.cons sem28 (.cons sem29 .nil))))))
theorem is6 : FnIs Try.prog 6 (Γ6 K7 G7 K25 G25 K26 G26 K27 G27 K28 G28 K29 G29) (bodyOf Try.f6) := fnIs Try.func6 rfl rfl rfl (by kernel_rfl) (noLoops (by kernel_rfl))
theorem sem6 : SemOK Try.prog (6, fnMean A6 R6 K6 G6) := fn_opt env6 is6 fun x => ev6 K7 G7 K25 G25 K26 G26 K27 G27 K28 G28 K29 G29 x

end Go.Proofs.Ytmmdjajebmihhaa.AM

/- What functions of the program make of their arguments; each is what its evaluation says. Printed by fx.py. -/
namespace Go.Proofs.Ytmmdjajebmihhaa.AM
open Go Go.Proofs
set_option linter.unusedVariables false
set_option maxRecDepth 100000
set_option maxHeartbeats 0

/- "loop.example/g03321/spec.l02Step" -/
abbrev A83 : Ty := .nil
abbrev R83 : Ty := .cons (.cpx .f64) (.nil)
noncomputable def Γ83 : Env := mkEnv tab eqs [] 1 [.tmp 0] [] [] [] [] []
def r83 (x : Den A83) : Option (Den R83) :=
  some (((4607181046959943561), (4580687535080594718)), ())
theorem ev83 (x : Den A83) : callK (Γ83) (bodyOf Try.f83) (decR R83) (encA A83 x) [] = r83 x := by kernel_rfl
def F83 (x : Den A83) : Option (Den R83) := r83 x
def K83 (x : Den A83) : Bool := (F83 x).isSome
def G83 (x : Den A83) : Den R83 := (F83 x).getD (zero R83)
theorem env83 : EnvOK Try.prog (Γ83) := env_ok mixed tab_ok eqs_ok .nil
theorem is83 : FnIs Try.prog 83 (Γ83) (bodyOf Try.f83) := fnIs Try.func83 rfl rfl rfl (by kernel_rfl) (noLoops (by kernel_rfl))
theorem sem83 : SemOK Try.prog (83, fnMean A83 R83 K83 G83) := fn_opt env83 is83 fun x => ev83 x

/- "loop.example/g03321/spec.l02Times" -/
abbrev A82 : Ty := .cons (.cpx .f64) (.cons (.cpx .f64) (.nil))
abbrev R82 : Ty := .cons (.cpx .f64) (.nil)
noncomputable def Γ82 : Env := mkEnv tab eqs [] 32 [.tmp 4] [] [] [] [] []
def r82 (x : Den A82) : Option (Den R82) :=
  let v0 := (farith BinOp.mul FloatKind.f64 x.fst.fst x.snd.fst.fst)
  let v1 := (farith BinOp.mul FloatKind.f64 x.fst.snd x.snd.fst.snd)
  let v2 := (farith BinOp.sub FloatKind.f64 v0 v1)
  let v3 := (farith BinOp.mul FloatKind.f64 x.fst.fst x.snd.fst.snd)
  let v4 := (farith BinOp.mul FloatKind.f64 x.fst.snd x.snd.fst.fst)
  let v5 := (farith BinOp.add FloatKind.f64 v3 v4)
  some (((v2), (v5)), ())
theorem ev82 (x : Den A82) : callK (Γ82) (bodyOf Try.f82) (decR R82) (encA A82 x) [] = r82 x := by kernel_rfl
def F82 (x : Den A82) : Option (Den R82) := r82 x
def K82 (x : Den A82) : Bool := (F82 x).isSome
def G82 (x : Den A82) : Den R82 := (F82 x).getD (zero R82)
theorem env82 : EnvOK Try.prog (Γ82) := env_ok mixed tab_ok eqs_ok .nil
theorem is82 : FnIs Try.prog 82 (Γ82) (bodyOf Try.f82) := fnIs Try.func82 rfl rfl rfl (by kernel_rfl) (noLoops (by kernel_rfl))
theorem sem82 : SemOK Try.prog (82, fnMean A82 R82 K82 G82) := fn_opt env82 is82 fun x => ev82 x

/- "loop.example/g03321/spec.Bearing" -/
abbrev A47 : Ty := .cons (.cpx .f64) (.nil)
abbrev R47 : Ty := .cons (.int .i64) (.nil)
abbrev V47_7 : Type := (((Nat × Nat) × (Int × ((Nat × Nat) × (Nat × (Int × Unit))))) × Unit)
def sh47_7 : ShS := ⟨[(0, .one (.cpx .f64)), (3, .one (.int .i64)), (4, .one (.cpx .f64)), (5, .one (.flt .f64)), (6, .one (.int .i64))], [], 0, 0⟩
abbrev X47_7 : Type := ((Int × Unit) × Unit)
def shX47_7 : ShS := ⟨[(3, .one (.int .i64))], [], 0, 0⟩
noncomputable def Γ47 (k22 : Den A22 → Bool) (g22 : Den A22 → Den R22) (k81 : Den A81 → Bool) (g81 : Den A81 → Den R81) (k83 : Den A83 → Bool) (g83 : Den A83 → Den R83) (k82 : Den A82 → Bool) (g82 : Den A82 → Den R82) (kl7 : V47_7 → Bool) (xl7 : V47_7 → X47_7) : Env := mkEnv tab eqs [(22, fnMean A22 R22 k22 g22), (81, fnMean A81 R81 k81 g81), (83, fnMean A83 R83 k83 g83), (82, fnMean A82 R82 k82 g82)] 34 [.tmp 2] [] [] [(7, loopX [0, 3, 4, 5, 6] [] 0 [3] [] sh47_7 shX47_7 kl7 xl7)] [] []
noncomputable def lc47_7 : Code := (loopsOf (bodyOf Try.f47)).getD 0 .skip
def q47_7 (k22 : Den A22 → Bool) (g22 : Den A22 → Den R22) (k81 : Den A81 → Bool) (g81 : Den A81 → Den R81) (k83 : Den A83 → Bool) (g83 : Den A83 → Den R83) (k82 : Den A82 → Bool) (g82 : Den A82 → Den R82) (f : V47_7 → Option (X47_7)) (v : V47_7) : Option (X47_7) :=
  bif (decide (v.fst.snd.snd.snd.snd.fst < 360)) then
    let v0 := (k83 ())
    bif (v0) then
      let v1 := (g83 ())
      let v2 := (k82 (v.fst.snd.snd.fst, v1))
      bif (v2) then
        let v3 := (g82 (v.fst.snd.snd.fst, v1))
        let v4 := (k81 (v.fst.fst, v3))
        bif (v4) then
          let v5 := (g81 (v.fst.fst, v3))
          bif (fgt FloatKind.f64 v5.fst v.fst.snd.snd.snd.fst) then
            let v6 := (IntKind.wrap IntKind.i64 (v.fst.snd.snd.snd.snd.fst + 1))
            f ((((v.fst.fst.1), (v.fst.fst.2)), ((v.fst.snd.snd.snd.snd.1), (((v3.fst.1), (v3.fst.2)), ((v5.1), ((v6), ()))))), ())
          else
            let v6 := (IntKind.wrap IntKind.i64 (v.fst.snd.snd.snd.snd.fst + 1))
            f ((((v.fst.fst.1), (v.fst.fst.2)), ((v.fst.snd.1), (((v3.fst.1), (v3.fst.2)), ((v.fst.snd.snd.snd.1), ((v6), ()))))), ())
        else
          none
      else
        none
    else
      none
  else
    some (((v.fst.snd.1), ()), ())
theorem evl47_7 (k22 : Den A22 → Bool) (g22 : Den A22 → Den R22) (k81 : Den A81 → Bool) (g81 : Den A81 → Den R81) (k83 : Den A83 → Bool) (g83 : Den A83 → Den R83) (k82 : Den A82 → Bool) (g82 : Den A82 → Den R82) (kl7 : V47_7 → Bool) (xl7 : V47_7 → X47_7) (f : V47_7 → Option (X47_7)) (v : V47_7) : EBk (Γ47 k22 g22 k81 g81 k83 g83 k82 g82 kl7 xl7) lc47_7 (roundK [0, 3, 4, 5, 6] [] 0 [3] [] (atS sh47_7 f) (endX shX47_7)) (mkS sh47_7 v) = q47_7 k22 g22 k81 g81 k83 g83 k82 g82 f v := by kernel_rfl
def b47_7 (v : V47_7) : Nat := v.1.2.1.natAbs + v.1.2.2.2.2.1.natAbs + 1000
def l47_7 (v : V47_7) : Option (X47_7) := iter (q47_7 K22 G22 K81 G81 K83 G83 K82 G82) (b47_7 v) v
def kL47_7 (v : V47_7) : Bool := (l47_7 v).isSome
def xL47_7 (v : V47_7) : X47_7 := (l47_7 v).getD ((0, ()), ())
def r47 (k22 : Den A22 → Bool) (g22 : Den A22 → Den R22) (k81 : Den A81 → Bool) (g81 : Den A81 → Den R81) (k83 : Den A83 → Bool) (g83 : Den A83 → Den R83) (k82 : Den A82 → Bool) (g82 : Den A82 → Den R82) (kl7 : V47_7 → Bool) (xl7 : V47_7 → X47_7) (x : Den A47) : Option (Den R47) :=
  let v0 := (k22 x)
  bif (v0) then
    let v1 := (g22 x)
    bif (!v1.fst) then
      some ((-1), ())
    else
      bif (feq FloatKind.f64 x.fst.fst 0 && feq FloatKind.f64 x.fst.snd 0) then
        some ((-1), ())
      else
        let v2 := (k81 (x.fst, (4607182418800017408, 0), ()))
        bif (v2) then
          let v3 := (g81 (x.fst, (4607182418800017408, 0), ()))
          let v4 := (kl7 ((x.fst, 0, (4607182418800017408, 0), v3.fst, 1, ()), ()))
          bif (v4) then
            let v5 := (xl7 ((x.fst, 0, (4607182418800017408, 0), v3.fst, 1, ()), ()))
            some ((v5.fst.1), ())
          else
            none
        else
          none
  else
    none
theorem ev47 (k22 : Den A22 → Bool) (g22 : Den A22 → Den R22) (k81 : Den A81 → Bool) (g81 : Den A81 → Den R81) (k83 : Den A83 → Bool) (g83 : Den A83 → Den R83) (k82 : Den A82 → Bool) (g82 : Den A82 → Den R82) (kl7 : V47_7 → Bool) (xl7 : V47_7 → X47_7) (x : Den A47) : callK (Γ47 k22 g22 k81 g81 k83 g83 k82 g82 kl7 xl7) (bodyOf Try.f47) (decR R47) (encA A47 x) [] = r47 k22 g22 k81 g81 k83 g83 k82 g82 kl7 xl7 x := by kernel_rfl
def F47 (x : Den A47) : Option (Den R47) := r47 K22 G22 K81 G81 K83 G83 K82 G82 kL47_7 xL47_7 x
def K47 (x : Den A47) : Bool := (F47 x).isSome
def G47 (x : Den A47) : Den R47 := (F47 x).getD (zero R47)
theorem env47 : EnvOK Try.prog (Γ47 K22 G22 K81 G81 K83 G83 K82 G82 kL47_7 xL47_7) := env_ok mixed tab_ok eqs_ok (.cons sem22 (.cons sem81 (.cons sem83 (.cons sem82 .nil))))
theorem is47 : FnIs Try.prog 47 (Γ47 K22 G22 K81 G81 K83 G83 K82 G82 kL47_7 xL47_7) (bodyOf Try.f47) := fnIs Try.func47 rfl rfl rfl (by kernel_rfl) (loops_ok (l := [lc47_7]) (by kernel_rfl) (.cons (one_loop rfl (loopX_sound (sh := sh47_7) (shX := shX47_7) (fun f v => evl47_7 K22 G22 K81 G81 K83 G83 K82 G82 kL47_7 xL47_7 f v) b47_7 ((0, ()), ()))) (.nil)))
theorem sem47 : SemOK Try.prog (47, fnMean A47 R47 K47 G47) := fn_opt env47 is47 fun x => ev47 K22 G22 K81 G81 K83 G83 K82 G82 kL47_7 xL47_7 x

/- "loop.example/g03321/spec.DrawFixOf" -/
abbrev A14 : Ty := .cons (.slice (.int .u8)) (.nil)
abbrev R14 : Ty := .cons (.cpx .f64) (.cons (.int .i64) (.cons (.cpx .f64) (.cons (.int .i64) (.nil))))
noncomputable def Γ14 (k30 : I30.den → Bool) (g30 : I30.den → O30.den) (k44 : I44.den → Bool) (g44 : I44.den → O44.den) (k45 : I45.den → Bool) (g45 : I45.den → O45.den) (k46 : I46.den → Bool) (g46 : I46.den → O46.den) (k47 : Den A47 → Bool) (g47 : Den A47 → Den R47) : Env := mkEnv tab eqs [(30, sgMean false I30 O30 k30 g30), (44, sgMean true I44 O44 k44 g44), (45, sgMean true I45 O45 k45 g45), (46, sgMean true I46 O46 k46 g46), (47, fnMean A47 R47 k47 g47)] 36 [.tmp 2, .tmp 3, .tmp 4, .tmp 5] [] [] [] [] []
def r14 (k30 : I30.den → Bool) (g30 : I30.den → O30.den) (k44 : I44.den → Bool) (g44 : I44.den → O44.den) (k45 : I45.den → Bool) (g45 : I45.den → O45.den) (k46 : I46.den → Bool) (g46 : I46.den → O46.den) (k47 : Den A47 → Bool) (g47 : Den A47 → Den R47) (x : Den A14) : Option (Den R14) :=
  let v0 := (k30 (x, ()))
  bif (v0) then
    let v1 := (g30 (x, ()))
    let v2 := (k44 (((), 3000, ()), v1.snd))
    bif (v2) then
      let v3 := (g44 (((), 3000, ()), v1.snd))
      let v4 := (k44 (((), 3000, ()), v3.snd))
      bif (v4) then
        let v5 := (g44 (((), 3000, ()), v3.snd))
        let v6 := (k44 (((), 3000, ()), v5.snd))
        bif (v6) then
          let v7 := (g44 (((), 3000, ()), v5.snd))
          let v8 := (k45 (((), 3, ()), v7.snd))
          bif (v8) then
            let v9 := (g45 (((), 3, ()), v7.snd))
            bif (v9.fst.1) then
              let v10 := (k46 (((), ()), v9.snd))
              bif (v10) then
                let v11 := (g46 (((), ()), v9.snd))
                let v12 := (k46 (((), ()), v11.snd))
                bif (v12) then
                  let v13 := (g46 (((), ()), v11.snd))
                  some (((v3.fst.fst.1), (v3.fst.fst.2)), ((v11.fst.1), (((v5.fst.fst.1), (v5.fst.fst.2)), ((v13.fst.1), ()))))
                else
                  none
              else
                none
            else
              let v10 := (farith BinOp.sub FloatKind.f64 v3.fst.fst.fst v7.fst.fst.fst)
              let v11 := (farith BinOp.sub FloatKind.f64 v3.fst.fst.snd v7.fst.fst.snd)
              let v12 := (k47 ((v10, v11), ()))
              bif (v12) then
                let v13 := (farith BinOp.sub FloatKind.f64 v5.fst.fst.fst v7.fst.fst.fst)
                let v14 := (farith BinOp.sub FloatKind.f64 v5.fst.fst.snd v7.fst.fst.snd)
                let v15 := (k47 ((v13, v14), ()))
                bif (v15) then
                  let v16 := (g47 ((v10, v11), ()))
                  let v17 := (g47 ((v13, v14), ()))
                  some (((v3.fst.fst.1), (v3.fst.fst.2)), ((v16.1), (((v5.fst.fst.1), (v5.fst.fst.2)), ((v17.1), ()))))
                else
                  none
              else
                none
          else
            none
        else
          none
      else
        none
    else
      none
  else
    none
theorem ev14 (k30 : I30.den → Bool) (g30 : I30.den → O30.den) (k44 : I44.den → Bool) (g44 : I44.den → O44.den) (k45 : I45.den → Bool) (g45 : I45.den → O45.den) (k46 : I46.den → Bool) (g46 : I46.den → O46.den) (k47 : Den A47 → Bool) (g47 : Den A47 → Den R47) (x : Den A14) : callK (Γ14 k30 g30 k44 g44 k45 g45 k46 g46 k47 g47) (bodyOf Try.f14) (decR R14) (encA A14 x) [] = r14 k30 g30 k44 g44 k45 g45 k46 g46 k47 g47 x := by kernel_rfl
def F14 (x : Den A14) : Option (Den R14) := r14 K30 G30 K44 G44 K45 G45 K46 G46 K47 G47 x
def K14 (x : Den A14) : Bool := (F14 x).isSome
def G14 (x : Den A14) : Den R14 := (F14 x).getD (zero R14)
theorem env14 : EnvOK Try.prog (Γ14 K30 G30 K44 G44 K45 G45 K46 G46 K47 G47) := env_ok mixed tab_ok eqs_ok (.cons sem30 (.cons sem44 (.cons sem45 (.cons sem46 (.cons sem47 .nil)))))
theorem is14 : FnIs Try.prog 14 (Γ14 K30 G30 K44 G44 K45 G45 K46 G46 K47 G47) (bodyOf Try.f14) := fnIs Try.func14 rfl rfl rfl (by kernel_rfl) (noLoops (by kernel_rfl))
theorem sem14 : SemOK Try.prog (14, fnMean A14 R14 K14 G14) := fn_opt env14 is14 fun x => ev14 K30 G30 K44 G44 K45 G45 K46 G46 K47 G47 x

/- "loop.example/g03321/impl.Between" -/
abbrev A49 : Ty := .cons (.int .i64) (.cons (.int .i64) (.nil))
abbrev R49 : Ty := .cons (.int .i64) (.nil)
noncomputable def Γ49 (k84 : Den A84 → Bool) (g84 : Den A84 → Den R84) : Env := mkEnv tab eqs [(84, fnMean A84 R84 k84 g84)] 17 [.tmp 4] [] [] [] [] []
def r49 (k84 : Den A84 → Bool) (g84 : Den A84 → Den R84) (x : Den A49) : Option (Den R49) :=
  let v0 := (k84 x.snd)
  bif (v0) then
    let v1 := (k84 (x.fst, ()))
    bif (v1) then
      let v2 := (g84 x.snd)
      let v3 := (g84 (x.fst, ()))
      let v4 := (IntKind.wrap IntKind.i64 (v2.fst - v3.fst))
      let v5 := (k84 (v4, ()))
      bif (v5) then
        let v6 := (g84 (v4, ()))
        let v7 := (IntKind.wrap IntKind.i64 (0 - v6.fst))
        let v8 := (k84 (v7, ()))
        bif (v8) then
          let v9 := (g84 (v7, ()))
          some ((imin v6.fst v9.fst), ())
        else
          none
      else
        none
    else
      none
  else
    none
theorem ev49 (k84 : Den A84 → Bool) (g84 : Den A84 → Den R84) (x : Den A49) : callK (Γ49 k84 g84) (bodyOf Try.f49) (decR R49) (encA A49 x) [] = r49 k84 g84 x := by kernel_rfl
def F49 (x : Den A49) : Option (Den R49) := r49 K84 G84 x
def K49 (x : Den A49) : Bool := (F49 x).isSome
def G49 (x : Den A49) : Den R49 := (F49 x).getD (zero R49)
theorem env49 : EnvOK Try.prog (Γ49 K84 G84) := env_ok mixed tab_ok eqs_ok (.cons sem84 .nil)
theorem is49 : FnIs Try.prog 49 (Γ49 K84 G84) (bodyOf Try.f49) := fnIs Try.func49 rfl rfl rfl (by kernel_rfl) (noLoops (by kernel_rfl))
theorem sem49 : SemOK Try.prog (49, fnMean A49 R49 K49 G49) := fn_opt env49 is49 fun x => ev49 K84 G84 x

/- "loop.example/g03321/impl.Cross" -/
abbrev A51 : Ty := .cons (.cpx .f64) (.cons (.cpx .f64) (.nil))
abbrev R51 : Ty := .cons (.flt .f64) (.nil)
noncomputable def Γ51 : Env := mkEnv tab eqs [] 16 [.tmp 4] [] [] [] [] []
def r51 (x : Den A51) : Option (Den R51) :=
  let v0 := (farith BinOp.mul FloatKind.f64 x.fst.fst x.snd.fst.snd)
  let v1 := (farith BinOp.mul FloatKind.f64 x.fst.snd x.snd.fst.fst)
  let v2 := (farith BinOp.sub FloatKind.f64 v0 v1)
  some ((v2), ())
theorem ev51 (x : Den A51) : callK (Γ51) (bodyOf Try.f51) (decR R51) (encA A51 x) [] = r51 x := by kernel_rfl
def F51 (x : Den A51) : Option (Den R51) := r51 x
def K51 (x : Den A51) : Bool := (F51 x).isSome
def G51 (x : Den A51) : Den R51 := (F51 x).getD (zero R51)
theorem env51 : EnvOK Try.prog (Γ51) := env_ok mixed tab_ok eqs_ok .nil
theorem is51 : FnIs Try.prog 51 (Γ51) (bodyOf Try.f51) := fnIs Try.func51 rfl rfl rfl (by kernel_rfl) (noLoops (by kernel_rfl))
theorem sem51 : SemOK Try.prog (51, fnMean A51 R51 K51 G51) := fn_opt env51 is51 fun x => ev51 x

/- "loop.example/g03321/impl.FixOf" -/
abbrev A15 : Ty := .cons (.cpx .f64) (.cons (.int .i64) (.cons (.cpx .f64) (.cons (.int .i64) (.nil))))
abbrev R15 : Ty := .cons (.cpx .f64) (.cons (.bool) (.nil))
noncomputable def Γ15 (k41 : Den A41 → Bool) (g41 : Den A41 → Den R41) (k49 : Den A49 → Bool) (g49 : Den A49 → Den R49) (k48 : Den A48 → Bool) (g48 : Den A48 → Den R48) (k50 : Den A50 → Bool) (g50 : Den A50 → Den R50) (k42 : Den A42 → Bool) (g42 : Den A42 → Den R42) (k51 : Den A51 → Bool) (g51 : Den A51 → Den R51) : Env := mkEnv tab eqs [(41, fnMean A41 R41 k41 g41), (49, fnMean A49 R49 k49 g49), (48, fnMean A48 R48 k48 g48), (50, fnMean A50 R50 k50 g50), (42, fnMean A42 R42 k42 g42), (51, fnMean A51 R51 k51 g51)] 79 [.tmp 8, .tmp 9] [] [] [] [] []
def r15 (k41 : Den A41 → Bool) (g41 : Den A41 → Den R41) (k49 : Den A49 → Bool) (g49 : Den A49 → Den R49) (k48 : Den A48 → Bool) (g48 : Den A48 → Den R48) (k50 : Den A50 → Bool) (g50 : Den A50 → Den R50) (k42 : Den A42 → Bool) (g42 : Den A42 → Den R42) (k51 : Den A51 → Bool) (g51 : Den A51 → Den R51) (x : Den A15) : Option (Den R15) :=
  let v0 := (k41 (x.fst, ()))
  bif (v0) then
    let v1 := (g41 (x.fst, ()))
    bif (!v1.fst) then
      some (((0), (0)), ((false), ()))
    else
      let v2 := (k41 (x.snd.snd.fst, ()))
      bif (v2) then
        let v3 := (g41 (x.snd.snd.fst, ()))
        bif (!v3.fst) then
          some (((0), (0)), ((false), ()))
        else
          let v4 := (k49 (x.snd.fst, x.snd.snd.snd))
          bif (v4) then
            let v5 := (g49 (x.snd.fst, x.snd.snd.snd))
            let v6 := (k48 (v5.fst, 20, 160, ()))
            bif (v6) then
              let v7 := (g48 (v5.fst, 20, 160, ()))
              bif (!v7.fst) then
                some (((0), (0)), ((false), ()))
              else
                let v8 := (k50 (x.snd.fst, ()))
                bif (v8) then
                  let v9 := (k50 x.snd.snd.snd)
                  bif (v9) then
                    let v10 := (k42 (x.fst, x.snd.snd.fst, ()))
                    bif (v10) then
                      let v11 := (g50 (x.snd.fst, ()))
                      let v12 := (g50 x.snd.snd.snd)
                      let v13 := (k51 (v11.fst, v12))
                      bif (v13) then
                        let v14 := (g42 (x.fst, x.snd.snd.fst, ()))
                        let v15 := (k51 (v14.fst, v12))
                        bif (v15) then
                          let v16 := (k51 (v14.fst, v11))
                          bif (v16) then
                            let v17 := (g51 (v14.fst, v12))
                            let v18 := (g51 (v11.fst, v12))
                            let v19 := (farith BinOp.quo FloatKind.f64 v17.fst v18.fst)
                            bif (flt FloatKind.f64 v19 0) then
                              some (((0), (0)), ((false), ()))
                            else
                              let v20 := (g51 (v14.fst, v11))
                              let v21 := (farith BinOp.quo FloatKind.f64 v20.fst v18.fst)
                              bif (flt FloatKind.f64 v21 0) then
                                some (((0), (0)), ((false), ()))
                              else
                                let v22 := (farith BinOp.mul FloatKind.f64 v19 v11.fst.fst)
                                let v23 := (farith BinOp.sub FloatKind.f64 x.fst.fst v22)
                                let v24 := (farith BinOp.mul FloatKind.f64 v19 v11.fst.snd)
                                let v25 := (farith BinOp.sub FloatKind.f64 x.fst.snd v24)
                                let v26 := (k41 ((v23, v25), ()))
                                bif (v26) then
                                  let v27 := (g41 ((v23, v25), ()))
                                  bif (!v27.fst) then
                                    some (((0), (0)), ((false), ()))
                                  else
                                    some (((v23), (v25)), ((true), ()))
                                else
                                  none
                          else
                            none
                        else
                          none
                      else
                        none
                    else
                      none
                  else
                    none
                else
                  none
            else
              none
          else
            none
      else
        none
  else
    none
theorem ev15 (k41 : Den A41 → Bool) (g41 : Den A41 → Den R41) (k49 : Den A49 → Bool) (g49 : Den A49 → Den R49) (k48 : Den A48 → Bool) (g48 : Den A48 → Den R48) (k50 : Den A50 → Bool) (g50 : Den A50 → Den R50) (k42 : Den A42 → Bool) (g42 : Den A42 → Den R42) (k51 : Den A51 → Bool) (g51 : Den A51 → Den R51) (x : Den A15) : callK (Γ15 k41 g41 k49 g49 k48 g48 k50 g50 k42 g42 k51 g51) (bodyOf Try.f15) (decR R15) (encA A15 x) [] = r15 k41 g41 k49 g49 k48 g48 k50 g50 k42 g42 k51 g51 x := by kernel_rfl
def F15 (x : Den A15) : Option (Den R15) := r15 K41 G41 K49 G49 K48 G48 K50 G50 K42 G42 K51 G51 x
def K15 (x : Den A15) : Bool := (F15 x).isSome
def G15 (x : Den A15) : Den R15 := (F15 x).getD (zero R15)
theorem env15 : EnvOK Try.prog (Γ15 K41 G41 K49 G49 K48 G48 K50 G50 K42 G42 K51 G51) := env_ok mixed tab_ok eqs_ok (.cons sem41 (.cons sem49 (.cons sem48 (.cons sem50 (.cons sem42 (.cons sem51 .nil))))))
theorem is15 : FnIs Try.prog 15 (Γ15 K41 G41 K49 G49 K48 G48 K50 G50 K42 G42 K51 G51) (bodyOf Try.f15) := fnIs Try.func15 rfl rfl rfl (by kernel_rfl) (noLoops (by kernel_rfl))
theorem sem15 : SemOK Try.prog (15, fnMean A15 R15 K15 G15) := fn_opt env15 is15 fun x => ev15 K41 G41 K49 G49 K48 G48 K50 G50 K42 G42 K51 G51 x

/- "loop.example/g03321/spec.l02Mod" -/
abbrev A86 : Ty := .cons (.int .i64) (.nil)
abbrev R86 : Ty := .cons (.int .i64) (.nil)
noncomputable def Γ86 : Env := mkEnv tab eqs [] 7 [.tmp 2] [] [] [] [] []
def r86 (x : Den A86) : Option (Den R86) :=
  let v0 := (IntKind.wrap IntKind.i64 (Int.tmod x.fst 360 + 360))
  some ((Int.tmod v0 360), ())
theorem ev86 (x : Den A86) : callK (Γ86) (bodyOf Try.f86) (decR R86) (encA A86 x) [] = r86 x := by kernel_rfl
def F86 (x : Den A86) : Option (Den R86) := r86 x
def K86 (x : Den A86) : Bool := (F86 x).isSome
def G86 (x : Den A86) : Den R86 := (F86 x).getD (zero R86)
theorem env86 : EnvOK Try.prog (Γ86) := env_ok mixed tab_ok eqs_ok .nil
theorem is86 : FnIs Try.prog 86 (Γ86) (bodyOf Try.f86) := fnIs Try.func86 rfl rfl rfl (by kernel_rfl) (noLoops (by kernel_rfl))
theorem sem86 : SemOK Try.prog (86, fnMean A86 R86 K86 G86) := fn_opt env86 is86 fun x => ev86 x

/- "loop.example/g03321/spec.Between" -/
abbrev A52 : Ty := .cons (.int .i64) (.cons (.int .i64) (.nil))
abbrev R52 : Ty := .cons (.int .i64) (.nil)
noncomputable def Γ52 (k86 : Den A86 → Bool) (g86 : Den A86 → Den R86) : Env := mkEnv tab eqs [(86, fnMean A86 R86 k86 g86)] 19 [.tmp 4] [] [] [] [] []
def r52 (k86 : Den A86 → Bool) (g86 : Den A86 → Den R86) (x : Den A52) : Option (Den R52) :=
  let v0 := (k86 x.snd)
  bif (v0) then
    let v1 := (k86 (x.fst, ()))
    bif (v1) then
      let v2 := (g86 x.snd)
      let v3 := (g86 (x.fst, ()))
      let v4 := (IntKind.wrap IntKind.i64 (v2.fst - v3.fst))
      let v5 := (k86 (v4, ()))
      bif (v5) then
        let v6 := (g86 (v4, ()))
        let v7 := (IntKind.wrap IntKind.i64 (360 - v6.fst))
        bif (decide (v6.fst > v7)) then
          some ((v7), ())
        else
          some ((v6.1), ())
      else
        none
    else
      none
  else
    none
theorem ev52 (k86 : Den A86 → Bool) (g86 : Den A86 → Den R86) (x : Den A52) : callK (Γ52 k86 g86) (bodyOf Try.f52) (decR R52) (encA A52 x) [] = r52 k86 g86 x := by kernel_rfl
def F52 (x : Den A52) : Option (Den R52) := r52 K86 G86 x
def K52 (x : Den A52) : Bool := (F52 x).isSome
def G52 (x : Den A52) : Den R52 := (F52 x).getD (zero R52)
theorem env52 : EnvOK Try.prog (Γ52 K86 G86) := env_ok mixed tab_ok eqs_ok (.cons sem86 .nil)
theorem is52 : FnIs Try.prog 52 (Γ52 K86 G86) (bodyOf Try.f52) := fnIs Try.func52 rfl rfl rfl (by kernel_rfl) (noLoops (by kernel_rfl))
theorem sem52 : SemOK Try.prog (52, fnMean A52 R52 K52 G52) := fn_opt env52 is52 fun x => ev52 K86 G86 x

/- "loop.example/g03321/spec.Turn" -/
abbrev A53 : Ty := .cons (.int .i64) (.nil)
abbrev R53 : Ty := .cons (.cpx .f64) (.nil)
abbrev V53_3 : Type := (((Nat × Nat) × (Int × Unit)) × Unit)
def sh53_3 : ShS := ⟨[(3, .one (.cpx .f64)), (4, .one (.int .i64))], [], 0, 0⟩
abbrev X53_3 : Type := (((Nat × Nat) × Unit) × Unit)
def shX53_3 : ShS := ⟨[(3, .one (.cpx .f64))], [], 0, 0⟩
noncomputable def Γ53 (k86 : Den A86 → Bool) (g86 : Den A86 → Den R86) (k83 : Den A83 → Bool) (g83 : Den A83 → Den R83) (k82 : Den A82 → Bool) (g82 : Den A82 → Den R82) (kl3 : V53_3 → Bool) (xl3 : V53_3 → X53_3) : Env := mkEnv tab eqs [(86, fnMean A86 R86 k86 g86), (83, fnMean A83 R83 k83 g83), (82, fnMean A82 R82 k82 g82)] 15 [.tmp 2] [] [] [(3, loopX [3, 4] [] 0 [3] [] sh53_3 shX53_3 kl3 xl3)] [] []
noncomputable def lc53_3 : Code := (loopsOf (bodyOf Try.f53)).getD 0 .skip
def q53_3 (k86 : Den A86 → Bool) (g86 : Den A86 → Den R86) (k83 : Den A83 → Bool) (g83 : Den A83 → Den R83) (k82 : Den A82 → Bool) (g82 : Den A82 → Den R82) (f : V53_3 → Option (X53_3)) (v : V53_3) : Option (X53_3) :=
  bif (decide (v.fst.snd.fst > 0)) then
    let v0 := (k83 ())
    bif (v0) then
      let v1 := (g83 ())
      let v2 := (k82 (v.fst.fst, v1))
      bif (v2) then
        let v3 := (g82 (v.fst.fst, v1))
        let v4 := (IntKind.wrap IntKind.i64 (v.fst.snd.fst - 1))
        f ((((v3.fst.1), (v3.fst.2)), ((v4), ())), ())
      else
        none
    else
      none
  else
    some ((((v.fst.fst.1), (v.fst.fst.2)), ()), ())
theorem evl53_3 (k86 : Den A86 → Bool) (g86 : Den A86 → Den R86) (k83 : Den A83 → Bool) (g83 : Den A83 → Den R83) (k82 : Den A82 → Bool) (g82 : Den A82 → Den R82) (kl3 : V53_3 → Bool) (xl3 : V53_3 → X53_3) (f : V53_3 → Option (X53_3)) (v : V53_3) : EBk (Γ53 k86 g86 k83 g83 k82 g82 kl3 xl3) lc53_3 (roundK [3, 4] [] 0 [3] [] (atS sh53_3 f) (endX shX53_3)) (mkS sh53_3 v) = q53_3 k86 g86 k83 g83 k82 g82 f v := by kernel_rfl
def b53_3 (v : V53_3) : Nat := v.1.2.1.natAbs + 1000
def l53_3 (v : V53_3) : Option (X53_3) := iter (q53_3 K86 G86 K83 G83 K82 G82) (b53_3 v) v
def kL53_3 (v : V53_3) : Bool := (l53_3 v).isSome
def xL53_3 (v : V53_3) : X53_3 := (l53_3 v).getD (((0, 0), ()), ())
def r53 (k86 : Den A86 → Bool) (g86 : Den A86 → Den R86) (k83 : Den A83 → Bool) (g83 : Den A83 → Den R83) (k82 : Den A82 → Bool) (g82 : Den A82 → Den R82) (kl3 : V53_3 → Bool) (xl3 : V53_3 → X53_3) (x : Den A53) : Option (Den R53) :=
  let v0 := (k86 x)
  bif (v0) then
    let v1 := (g86 x)
    let v2 := (kl3 (((4607182418800017408, 0), v1), ()))
    bif (v2) then
      let v3 := (xl3 (((4607182418800017408, 0), v1), ()))
      some (((v3.fst.fst.1), (v3.fst.fst.2)), ())
    else
      none
  else
    none
theorem ev53 (k86 : Den A86 → Bool) (g86 : Den A86 → Den R86) (k83 : Den A83 → Bool) (g83 : Den A83 → Den R83) (k82 : Den A82 → Bool) (g82 : Den A82 → Den R82) (kl3 : V53_3 → Bool) (xl3 : V53_3 → X53_3) (x : Den A53) : callK (Γ53 k86 g86 k83 g83 k82 g82 kl3 xl3) (bodyOf Try.f53) (decR R53) (encA A53 x) [] = r53 k86 g86 k83 g83 k82 g82 kl3 xl3 x := by kernel_rfl
def F53 (x : Den A53) : Option (Den R53) := r53 K86 G86 K83 G83 K82 G82 kL53_3 xL53_3 x
def K53 (x : Den A53) : Bool := (F53 x).isSome
def G53 (x : Den A53) : Den R53 := (F53 x).getD (zero R53)
theorem env53 : EnvOK Try.prog (Γ53 K86 G86 K83 G83 K82 G82 kL53_3 xL53_3) := env_ok mixed tab_ok eqs_ok (.cons sem86 (.cons sem83 (.cons sem82 .nil)))
theorem is53 : FnIs Try.prog 53 (Γ53 K86 G86 K83 G83 K82 G82 kL53_3 xL53_3) (bodyOf Try.f53) := fnIs Try.func53 rfl rfl rfl (by kernel_rfl) (loops_ok (l := [lc53_3]) (by kernel_rfl) (.cons (one_loop rfl (loopX_sound (sh := sh53_3) (shX := shX53_3) (fun f v => evl53_3 K86 G86 K83 G83 K82 G82 kL53_3 xL53_3 f v) b53_3 (((0, 0), ()), ()))) (.nil)))
theorem sem53 : SemOK Try.prog (53, fnMean A53 R53 K53 G53) := fn_opt env53 is53 fun x => ev53 K86 G86 K83 G83 K82 G82 kL53_3 xL53_3 x

/- "loop.example/g03321/spec.Cross" -/
abbrev A54 : Ty := .cons (.cpx .f64) (.cons (.cpx .f64) (.nil))
abbrev R54 : Ty := .cons (.flt .f64) (.nil)
noncomputable def Γ54 : Env := mkEnv tab eqs [] 16 [.tmp 4] [] [] [] [] []
def r54 (x : Den A54) : Option (Den R54) :=
  let v0 := (farith BinOp.mul FloatKind.f64 x.fst.fst x.snd.fst.snd)
  let v1 := (farith BinOp.mul FloatKind.f64 x.fst.snd x.snd.fst.fst)
  let v2 := (farith BinOp.sub FloatKind.f64 v0 v1)
  some ((v2), ())
theorem ev54 (x : Den A54) : callK (Γ54) (bodyOf Try.f54) (decR R54) (encA A54 x) [] = r54 x := by kernel_rfl
def F54 (x : Den A54) : Option (Den R54) := r54 x
def K54 (x : Den A54) : Bool := (F54 x).isSome
def G54 (x : Den A54) : Den R54 := (F54 x).getD (zero R54)
theorem env54 : EnvOK Try.prog (Γ54) := env_ok mixed tab_ok eqs_ok .nil
theorem is54 : FnIs Try.prog 54 (Γ54) (bodyOf Try.f54) := fnIs Try.func54 rfl rfl rfl (by kernel_rfl) (noLoops (by kernel_rfl))
theorem sem54 : SemOK Try.prog (54, fnMean A54 R54 K54 G54) := fn_opt env54 is54 fun x => ev54 x

/- "loop.example/g03321/spec.FixOf" -/
abbrev A16 : Ty := .cons (.cpx .f64) (.cons (.int .i64) (.cons (.cpx .f64) (.cons (.int .i64) (.nil))))
abbrev R16 : Ty := .cons (.cpx .f64) (.cons (.bool) (.nil))
noncomputable def Γ16 (k22 : Den A22 → Bool) (g22 : Den A22 → Den R22) (k52 : Den A52 → Bool) (g52 : Den A52 → Den R52) (k39 : Den A39 → Bool) (g39 : Den A39 → Den R39) (k53 : Den A53 → Bool) (g53 : Den A53 → Den R53) (k54 : Den A54 → Bool) (g54 : Den A54 → Den R54) : Env := mkEnv tab eqs [(22, fnMean A22 R22 k22 g22), (52, fnMean A52 R52 k52 g52), (39, fnMean A39 R39 k39 g39), (53, fnMean A53 R53 k53 g53), (54, fnMean A54 R54 k54 g54)] 79 [.tmp 8, .tmp 9] [] [] [] [] []
def r16 (k22 : Den A22 → Bool) (g22 : Den A22 → Den R22) (k52 : Den A52 → Bool) (g52 : Den A52 → Den R52) (k39 : Den A39 → Bool) (g39 : Den A39 → Den R39) (k53 : Den A53 → Bool) (g53 : Den A53 → Den R53) (k54 : Den A54 → Bool) (g54 : Den A54 → Den R54) (x : Den A16) : Option (Den R16) :=
  let v0 := (k22 (x.fst, ()))
  bif (v0) then
    let v1 := (g22 (x.fst, ()))
    bif (!v1.fst) then
      some (((0), (0)), ((false), ()))
    else
      let v2 := (k22 (x.snd.snd.fst, ()))
      bif (v2) then
        let v3 := (g22 (x.snd.snd.fst, ()))
        bif (!v3.fst) then
          some (((0), (0)), ((false), ()))
        else
          let v4 := (k52 (x.snd.fst, x.snd.snd.snd))
          bif (v4) then
            let v5 := (g52 (x.snd.fst, x.snd.snd.snd))
            let v6 := (k39 (v5.fst, 20, 160, ()))
            bif (v6) then
              let v7 := (g39 (v5.fst, 20, 160, ()))
              bif (!v7.fst) then
                some (((0), (0)), ((false), ()))
              else
                let v8 := (k53 (x.snd.fst, ()))
                bif (v8) then
                  let v9 := (k53 x.snd.snd.snd)
                  bif (v9) then
                    let v10 := (g53 (x.snd.fst, ()))
                    let v11 := (g53 x.snd.snd.snd)
                    let v12 := (k54 (v10.fst, v11))
                    bif (v12) then
                      let v13 := (farith BinOp.sub FloatKind.f64 x.fst.fst x.snd.snd.fst.fst)
                      let v14 := (farith BinOp.sub FloatKind.f64 x.fst.snd x.snd.snd.fst.snd)
                      let v15 := (k54 ((v13, v14), v11))
                      bif (v15) then
                        let v16 := (k54 ((v13, v14), v10))
                        bif (v16) then
                          let v17 := (g54 ((v13, v14), v11))
                          let v18 := (g54 (v10.fst, v11))
                          let v19 := (farith BinOp.quo FloatKind.f64 v17.fst v18.fst)
                          bif (flt FloatKind.f64 v19 0) then
                            some (((0), (0)), ((false), ()))
                          else
                            let v20 := (g54 ((v13, v14), v10))
                            let v21 := (farith BinOp.quo FloatKind.f64 v20.fst v18.fst)
                            bif (flt FloatKind.f64 v21 0) then
                              some (((0), (0)), ((false), ()))
                            else
                              let v22 := (farith BinOp.mul FloatKind.f64 v19 v10.fst.fst)
                              let v23 := (farith BinOp.sub FloatKind.f64 x.fst.fst v22)
                              let v24 := (farith BinOp.mul FloatKind.f64 v19 v10.fst.snd)
                              let v25 := (farith BinOp.sub FloatKind.f64 x.fst.snd v24)
                              let v26 := (k22 ((v23, v25), ()))
                              bif (v26) then
                                let v27 := (g22 ((v23, v25), ()))
                                bif (!v27.fst) then
                                  some (((0), (0)), ((false), ()))
                                else
                                  some (((v23), (v25)), ((true), ()))
                              else
                                none
                        else
                          none
                      else
                        none
                    else
                      none
                  else
                    none
                else
                  none
            else
              none
          else
            none
      else
        none
  else
    none
theorem ev16 (k22 : Den A22 → Bool) (g22 : Den A22 → Den R22) (k52 : Den A52 → Bool) (g52 : Den A52 → Den R52) (k39 : Den A39 → Bool) (g39 : Den A39 → Den R39) (k53 : Den A53 → Bool) (g53 : Den A53 → Den R53) (k54 : Den A54 → Bool) (g54 : Den A54 → Den R54) (x : Den A16) : callK (Γ16 k22 g22 k52 g52 k39 g39 k53 g53 k54 g54) (bodyOf Try.f16) (decR R16) (encA A16 x) [] = r16 k22 g22 k52 g52 k39 g39 k53 g53 k54 g54 x := by kernel_rfl
def F16 (x : Den A16) : Option (Den R16) := r16 K22 G22 K52 G52 K39 G39 K53 G53 K54 G54 x
def K16 (x : Den A16) : Bool := (F16 x).isSome
def G16 (x : Den A16) : Den R16 := (F16 x).getD (zero R16)
theorem env16 : EnvOK Try.prog (Γ16 K22 G22 K52 G52 K39 G39 K53 G53 K54 G54) := env_ok mixed tab_ok eqs_ok (.cons sem22 (.cons sem52 (.cons sem39 (.cons sem53 (.cons sem54 .nil)))))
theorem is16 : FnIs Try.prog 16 (Γ16 K22 G22 K52 G52 K39 G39 K53 G53 K54 G54) (bodyOf Try.f16) := fnIs Try.func16 rfl rfl rfl (by kernel_rfl) (noLoops (by kernel_rfl))
theorem sem16 : SemOK Try.prog (16, fnMean A16 R16 K16 G16) := fn_opt env16 is16 fun x => ev16 K22 G22 K52 G52 K39 G39 K53 G53 K54 G54 x

/- "loop.example/g03321/impl.Root" -/
abbrev A55 : Ty := .cons (.flt .f64) (.nil)
abbrev R55 : Ty := .cons (.flt .f64) (.nil)
abbrev V55_5 : Type := ((Nat × (Nat × (Int × Unit))) × Unit)
def sh55_5 : ShS := ⟨[(0, .one (.flt .f64)), (3, .one (.flt .f64)), (4, .one (.int .i64))], [], 0, 0⟩
abbrev X55_5 : Type := ((Nat × Unit) × Unit)
def shX55_5 : ShS := ⟨[(3, .one (.flt .f64))], [], 0, 0⟩
noncomputable def Γ55 (kl5 : V55_5 → Bool) (xl5 : V55_5 → X55_5) : Env := mkEnv tab eqs [] 25 [.tmp 2] [] [] [(5, loopX [0, 3, 4] [] 0 [3] [] sh55_5 shX55_5 kl5 xl5)] [] []
noncomputable def lc55_5 : Code := (loopsOf (bodyOf Try.f55)).getD 0 .skip
def q55_5 (f : V55_5 → Option (X55_5)) (v : V55_5) : Option (X55_5) :=
  bif (decide (v.fst.snd.snd.fst < 60)) then
    let v0 := (farith BinOp.quo FloatKind.f64 v.fst.fst v.fst.snd.fst)
    let v1 := (farith BinOp.add FloatKind.f64 v.fst.snd.fst v0)
    let v2 := (farith BinOp.quo FloatKind.f64 v1 4611686018427387904)
    let v3 := (IntKind.wrap IntKind.i64 (v.fst.snd.snd.fst + 1))
    f (((v.fst.1), ((v2), ((v3), ()))), ())
  else
    some (((v.fst.snd.1), ()), ())
theorem evl55_5 (kl5 : V55_5 → Bool) (xl5 : V55_5 → X55_5) (f : V55_5 → Option (X55_5)) (v : V55_5) : EBk (Γ55 kl5 xl5) lc55_5 (roundK [0, 3, 4] [] 0 [3] [] (atS sh55_5 f) (endX shX55_5)) (mkS sh55_5 v) = q55_5 f v := by kernel_rfl
def b55_5 (v : V55_5) : Nat := v.1.2.2.1.natAbs + 1000
def l55_5 (v : V55_5) : Option (X55_5) := iter (q55_5) (b55_5 v) v
def kL55_5 (v : V55_5) : Bool := (l55_5 v).isSome
def xL55_5 (v : V55_5) : X55_5 := (l55_5 v).getD ((0, ()), ())
def r55 (kl5 : V55_5 → Bool) (xl5 : V55_5 → X55_5) (x : Den A55) : Option (Den R55) :=
  bif (fgt FloatKind.f64 x.fst 4427486594234968593 || feq FloatKind.f64 x.fst 4427486594234968593) then
    bif (!(flt FloatKind.f64 x.fst 4861130398305394688 || feq FloatKind.f64 x.fst 4861130398305394688)) then
      some ((0), ())
    else
      let v0 := (fmax FloatKind.f64 x.fst 4607182418800017408)
      let v1 := (kl5 ((x.fst, v0, 0, ()), ()))
      bif (v1) then
        let v2 := (xl5 ((x.fst, v0, 0, ()), ()))
        some ((v2.fst.1), ())
      else
        none
  else
    some ((0), ())
theorem ev55 (kl5 : V55_5 → Bool) (xl5 : V55_5 → X55_5) (x : Den A55) : callK (Γ55 kl5 xl5) (bodyOf Try.f55) (decR R55) (encA A55 x) [] = r55 kl5 xl5 x := by kernel_rfl
def F55 (x : Den A55) : Option (Den R55) := r55 kL55_5 xL55_5 x
def K55 (x : Den A55) : Bool := (F55 x).isSome
def G55 (x : Den A55) : Den R55 := (F55 x).getD (zero R55)
theorem env55 : EnvOK Try.prog (Γ55 kL55_5 xL55_5) := env_ok mixed tab_ok eqs_ok .nil
theorem is55 : FnIs Try.prog 55 (Γ55 kL55_5 xL55_5) (bodyOf Try.f55) := fnIs Try.func55 rfl rfl rfl (by kernel_rfl) (loops_ok (l := [lc55_5]) (by kernel_rfl) (.cons (one_loop rfl (loopX_sound (sh := sh55_5) (shX := shX55_5) (fun f v => evl55_5 kL55_5 xL55_5 f v) b55_5 ((0, ()), ()))) (.nil)))
theorem sem55 : SemOK Try.prog (55, fnMean A55 R55 K55 G55) := fn_opt env55 is55 fun x => ev55 kL55_5 xL55_5 x

/- "loop.example/g03321/impl.Length" -/
abbrev A17 : Ty := .cons (.cpx .f64) (.nil)
abbrev R17 : Ty := .cons (.flt .f64) (.nil)
noncomputable def Γ17 (k41 : Den A41 → Bool) (g41 : Den A41 → Den R41) (k43 : Den A43 → Bool) (g43 : Den A43 → Den R43) (k55 : Den A55 → Bool) (g55 : Den A55 → Den R55) : Env := mkEnv tab eqs [(41, fnMean A41 R41 k41 g41), (43, fnMean A43 R43 k43 g43), (55, fnMean A55 R55 k55 g55)] 10 [.tmp 2] [] [] [] [] []
def r17 (k41 : Den A41 → Bool) (g41 : Den A41 → Den R41) (k43 : Den A43 → Bool) (g43 : Den A43 → Den R43) (k55 : Den A55 → Bool) (g55 : Den A55 → Den R55) (x : Den A17) : Option (Den R17) :=
  let v0 := (k41 x)
  bif (v0) then
    let v1 := (g41 x)
    bif (!v1.fst) then
      some ((0), ())
    else
      let v2 := (k43 (x.fst, x))
      bif (v2) then
        let v3 := (g43 (x.fst, x))
        let v4 := (k55 v3)
        bif (v4) then
          let v5 := (g55 v3)
          some ((v5.1), ())
        else
          none
      else
        none
  else
    none
theorem ev17 (k41 : Den A41 → Bool) (g41 : Den A41 → Den R41) (k43 : Den A43 → Bool) (g43 : Den A43 → Den R43) (k55 : Den A55 → Bool) (g55 : Den A55 → Den R55) (x : Den A17) : callK (Γ17 k41 g41 k43 g43 k55 g55) (bodyOf Try.f17) (decR R17) (encA A17 x) [] = r17 k41 g41 k43 g43 k55 g55 x := by kernel_rfl
def F17 (x : Den A17) : Option (Den R17) := r17 K41 G41 K43 G43 K55 G55 x
def K17 (x : Den A17) : Bool := (F17 x).isSome
def G17 (x : Den A17) : Den R17 := (F17 x).getD (zero R17)
theorem env17 : EnvOK Try.prog (Γ17 K41 G41 K43 G43 K55 G55) := env_ok mixed tab_ok eqs_ok (.cons sem41 (.cons sem43 (.cons sem55 .nil)))
theorem is17 : FnIs Try.prog 17 (Γ17 K41 G41 K43 G43 K55 G55) (bodyOf Try.f17) := fnIs Try.func17 rfl rfl rfl (by kernel_rfl) (noLoops (by kernel_rfl))
theorem sem17 : SemOK Try.prog (17, fnMean A17 R17 K17 G17) := fn_opt env17 is17 fun x => ev17 K41 G41 K43 G43 K55 G55 x

/- "loop.example/g03321/impl.Bearing$1" mode S true -/
abbrev I57 : Sg := ⟨[.val (.int .i64), .val (.cpx .f64), .ptr 0, .ptr 1, .ptr 2], [.box (.cpx .f64), .box (.flt .f64), .box (.int .i64)]⟩
abbrev O57 : Sg := ⟨[], [.box (.cpx .f64), .box (.flt .f64), .box (.int .i64)]⟩
noncomputable def Γ57 (k43 : Den A43 → Bool) (g43 : Den A43 → Den R43) : Env := mkEnv tab eqs [(43, fnMean A43 R43 k43 g43)] 20 [] [] [] [] [] []
def r57 (k43 : Den A43 → Bool) (g43 : Den A43 → Den R43) (x : I57.den) : Option (O57.den) :=
  let v0 := (k43 (x.snd.fst, x.fst.snd.fst, ()))
  bif (v0) then
    bif (x.fst.fst == 0) then
      let v1 := (g43 (x.snd.fst, x.fst.snd.fst, ()))
      some ((), (((x.snd.fst.1), (x.snd.fst.2)), ((v1.1), ((x.fst.1), ()))))
    else
      let v1 := (g43 (x.snd.fst, x.fst.snd.fst, ()))
      bif (fgt FloatKind.f64 v1.fst x.snd.snd.fst) then
        some ((), (((x.snd.fst.1), (x.snd.fst.2)), ((v1.1), ((x.fst.1), ()))))
      else
        some ((), (((x.snd.fst.1), (x.snd.fst.2)), ((x.snd.snd.1), ((x.snd.snd.snd.1), ()))))
  else
    none
theorem ev57 (k43 : Den A43 → Bool) (g43 : Den A43 → Den R43) (x : I57.den) : callS (Γ57 k43 g43) (bodyOf Try.f57) I57 O57 x = r57 k43 g43 x := by kernel_rfl
def F57 (x : I57.den) : Option (O57.den) := r57 K43 G43 x
def K57 (x : I57.den) : Bool := (F57 x).isSome
def G57 (x : I57.den) : O57.den := (F57 x).getD (zeroSg O57)
theorem env57 : EnvOK Try.prog (Γ57 K43 G43) := env_ok mixed tab_ok eqs_ok (.cons sem43 .nil)
theorem is57 : FnIs Try.prog 57 (Γ57 K43 G43) (bodyOf Try.f57) := fnIs Try.func57 rfl rfl rfl (by kernel_rfl) (noLoops (by kernel_rfl))
theorem sem57 : SemOK Try.prog (57, sgMean true I57 O57 K57 G57) := sg_opt env57 is57 true fun x => ev57 K43 G43 x

/- "loop.example/g03321/impl.turnsBy" mode S true -/
abbrev I56 : Sg := ⟨[.fnv 57 [0, 1, 2]], [.box (.cpx .f64), .box (.flt .f64), .box (.int .i64)]⟩
abbrev O56 : Sg := ⟨[], [.box (.cpx .f64), .box (.flt .f64), .box (.int .i64)]⟩
abbrev V56_2 : Type := ((Unit × ((Nat × Nat) × (Int × Unit))) × (((Nat × Nat) × Unit) × ((Nat × Unit) × ((Int × Unit) × Unit))))
def sh56_2 : ShS := ⟨[(0, .one (.fn 57 [0, 1, 2])), (2, .one (.cpx .f64)), (3, .one (.int .i64))], [(0, .box [.cpx .f64]), (1, .box [.flt .f64]), (2, .box [.int .i64])], 3, 3⟩
abbrev X56_2 : Type := (Unit × (((Nat × Nat) × Unit) × ((Nat × Unit) × ((Int × Unit) × Unit))))
def shX56_2 : ShS := ⟨[], [(0, .box [.cpx .f64]), (1, .box [.flt .f64]), (2, .box [.int .i64])], 3, 3⟩
noncomputable def Γ56 (k85 : Den A85 → Bool) (g85 : Den A85 → Den R85) (k57 : I57.den → Bool) (g57 : I57.den → O57.den) (kl2 : V56_2 → Bool) (xl2 : V56_2 → X56_2) : Env := mkEnv tab eqs [(85, fnMean A85 R85 k85 g85), (57, sgMean true I57 O57 k57 g57)] 14 [] [] [] [(2, loopX [0, 2, 3] [] 0 [] [] sh56_2 shX56_2 kl2 xl2)] [] []
noncomputable def lc56_2 : Code := (loopsOf (bodyOf Try.f56)).getD 0 .skip
def q56_2 (k85 : Den A85 → Bool) (g85 : Den A85 → Den R85) (k57 : I57.den → Bool) (g57 : I57.den → O57.den) (f : V56_2 → Option (X56_2)) (v : V56_2) : Option (X56_2) :=
  bif (decide (v.fst.snd.snd.fst < 360)) then
    let v0 := (k57 ((v.fst.snd.snd.fst, v.fst.snd.fst, (), (), (), ()), v.snd.fst.fst, v.snd.snd.fst.fst, v.snd.snd.snd.fst))
    bif (v0) then
      let v1 := (k85 (v.fst.snd.fst, (4607181046959943561, 4580687535080594718), ()))
      bif (v1) then
        let v2 := (g85 (v.fst.snd.fst, (4607181046959943561, 4580687535080594718), ()))
        let v3 := (IntKind.wrap IntKind.i64 (v.fst.snd.snd.fst + 1))
        let v4 := (g57 ((v.fst.snd.snd.fst, v.fst.snd.fst, (), (), (), ()), v.snd.fst.fst, v.snd.snd.fst.fst, v.snd.snd.snd.fst))
        f (((), (((v2.fst.1), (v2.fst.2)), ((v3), ()))), ((((v4.snd.fst.1), (v4.snd.fst.2)), ()), (((v4.snd.snd.1), ()), (((v4.snd.snd.snd.1), ()), ()))))
      else
        none
    else
      none
  else
    some ((), ((((v.snd.fst.fst.1), (v.snd.fst.fst.2)), ()), (((v.snd.snd.fst.1), ()), (((v.snd.snd.snd.fst.1), ()), ()))))
theorem evl56_2 (k85 : Den A85 → Bool) (g85 : Den A85 → Den R85) (k57 : I57.den → Bool) (g57 : I57.den → O57.den) (kl2 : V56_2 → Bool) (xl2 : V56_2 → X56_2) (f : V56_2 → Option (X56_2)) (v : V56_2) : EBk (Γ56 k85 g85 k57 g57 kl2 xl2) lc56_2 (roundK [0, 2, 3] [] 0 [] [] (atS sh56_2 f) (endX shX56_2)) (mkS sh56_2 v) = q56_2 k85 g85 k57 g57 f v := by kernel_rfl
def b56_2 (v : V56_2) : Nat := v.1.2.2.1.natAbs + v.2.2.2.1.1.natAbs + 1000
def l56_2 (v : V56_2) : Option (X56_2) := iter (q56_2 K85 G85 K57 G57) (b56_2 v) v
def kL56_2 (v : V56_2) : Bool := (l56_2 v).isSome
def xL56_2 (v : V56_2) : X56_2 := (l56_2 v).getD ((), (((0, 0), ()), ((0, ()), ((0, ()), ()))))
def r56 (k85 : Den A85 → Bool) (g85 : Den A85 → Den R85) (k57 : I57.den → Bool) (g57 : I57.den → O57.den) (kl2 : V56_2 → Bool) (xl2 : V56_2 → X56_2) (x : I56.den) : Option (O56.den) :=
  let v0 := (kl2 (((), (4607182418800017408, 0), 0, ()), (x.snd.fst, ()), (x.snd.snd.fst, ()), x.snd.snd.snd, ()))
  bif (v0) then
    let v1 := (xl2 (((), (4607182418800017408, 0), 0, ()), (x.snd.fst, ()), (x.snd.snd.fst, ()), x.snd.snd.snd, ()))
    some ((), (((v1.snd.fst.fst.1), (v1.snd.fst.fst.2)), ((v1.snd.snd.fst.1), ((v1.snd.snd.snd.fst.1), ()))))
  else
    none
theorem ev56 (k85 : Den A85 → Bool) (g85 : Den A85 → Den R85) (k57 : I57.den → Bool) (g57 : I57.den → O57.den) (kl2 : V56_2 → Bool) (xl2 : V56_2 → X56_2) (x : I56.den) : callS (Γ56 k85 g85 k57 g57 kl2 xl2) (bodyOf Try.f56) I56 O56 x = r56 k85 g85 k57 g57 kl2 xl2 x := by kernel_rfl
def F56 (x : I56.den) : Option (O56.den) := r56 K85 G85 K57 G57 kL56_2 xL56_2 x
def K56 (x : I56.den) : Bool := (F56 x).isSome
def G56 (x : I56.den) : O56.den := (F56 x).getD (zeroSg O56)
theorem env56 : EnvOK Try.prog (Γ56 K85 G85 K57 G57 kL56_2 xL56_2) := env_ok mixed tab_ok eqs_ok (.cons sem85 (.cons sem57 .nil))
theorem is56 : FnIs Try.prog 56 (Γ56 K85 G85 K57 G57 kL56_2 xL56_2) (bodyOf Try.f56) := fnIs Try.func56 rfl rfl rfl (by kernel_rfl) (loops_ok (l := [lc56_2]) (by kernel_rfl) (.cons (one_loop rfl (loopX_sound (sh := sh56_2) (shX := shX56_2) (fun f v => evl56_2 K85 G85 K57 G57 kL56_2 xL56_2 f v) b56_2 ((), (((0, 0), ()), ((0, ()), ((0, ()), ())))))) (.nil)))
theorem sem56 : SemOK Try.prog (56, sgMean true I56 O56 K56 G56) := sg_opt env56 is56 true fun x => ev56 K85 G85 K57 G57 kL56_2 xL56_2 x

/- "loop.example/g03321/impl.Bearing" -/
abbrev A18 : Ty := .cons (.cpx .f64) (.nil)
abbrev R18 : Ty := .cons (.int .i64) (.nil)
noncomputable def Γ18 (k41 : Den A41 → Bool) (g41 : Den A41 → Den R41) (k57 : I57.den → Bool) (g57 : I57.den → O57.den) (k56 : I56.den → Bool) (g56 : I56.den → O56.den) : Env := mkEnv tab eqs [(41, fnMean A41 R41 k41 g41), (57, sgMean true I57 O57 k57 g57), (56, sgMean true I56 O56 k56 g56)] 15 [.tmp 2] [] [] [] [] []
def r18 (k41 : Den A41 → Bool) (g41 : Den A41 → Den R41) (k57 : I57.den → Bool) (g57 : I57.den → O57.den) (k56 : I56.den → Bool) (g56 : I56.den → O56.den) (x : Den A18) : Option (Den R18) :=
  let v0 := (k41 x)
  bif (v0) then
    let v1 := (g41 x)
    bif (!v1.fst) then
      some ((-1), ())
    else
      bif (feq FloatKind.f64 x.fst.fst 0 && feq FloatKind.f64 x.fst.snd 0) then
        some ((-1), ())
      else
        let v2 := (k56 (((), ()), x.fst, 0, 0, ()))
        bif (v2) then
          let v3 := (g56 (((), ()), x.fst, 0, 0, ()))
          some ((v3.snd.snd.snd.1), ())
        else
          none
  else
    none
theorem ev18 (k41 : Den A41 → Bool) (g41 : Den A41 → Den R41) (k57 : I57.den → Bool) (g57 : I57.den → O57.den) (k56 : I56.den → Bool) (g56 : I56.den → O56.den) (x : Den A18) : callK (Γ18 k41 g41 k57 g57 k56 g56) (bodyOf Try.f18) (decR R18) (encA A18 x) [] = r18 k41 g41 k57 g57 k56 g56 x := by kernel_rfl
def F18 (x : Den A18) : Option (Den R18) := r18 K41 G41 K57 G57 K56 G56 x
def K18 (x : Den A18) : Bool := (F18 x).isSome
def G18 (x : Den A18) : Den R18 := (F18 x).getD (zero R18)
theorem env18 : EnvOK Try.prog (Γ18 K41 G41 K57 G57 K56 G56) := env_ok mixed tab_ok eqs_ok (.cons sem41 (.cons sem57 (.cons sem56 .nil)))
theorem is18 : FnIs Try.prog 18 (Γ18 K41 G41 K57 G57 K56 G56) (bodyOf Try.f18) := fnIs Try.func18 rfl rfl rfl (by kernel_rfl) (noLoops (by kernel_rfl))
theorem sem18 : SemOK Try.prog (18, fnMean A18 R18 K18 G18) := fn_opt env18 is18 fun x => ev18 K41 G41 K57 G57 K56 G56 x

/- "loop.example/g03321/laws.mod" -/
abbrev A19 : Ty := .cons (.int .i64) (.nil)
abbrev R19 : Ty := .cons (.int .i64) (.nil)
noncomputable def Γ19 : Env := mkEnv tab eqs [] 7 [.tmp 2] [] [] [] [] []
def r19 (x : Den A19) : Option (Den R19) :=
  let v0 := (IntKind.wrap IntKind.i64 (Int.tmod x.fst 360 + 360))
  some ((Int.tmod v0 360), ())
theorem ev19 (x : Den A19) : callK (Γ19) (bodyOf Try.f19) (decR R19) (encA A19 x) [] = r19 x := by kernel_rfl
def F19 (x : Den A19) : Option (Den R19) := r19 x
def K19 (x : Den A19) : Bool := (F19 x).isSome
def G19 (x : Den A19) : Den R19 := (F19 x).getD (zero R19)
theorem env19 : EnvOK Try.prog (Γ19) := env_ok mixed tab_ok eqs_ok .nil
theorem is19 : FnIs Try.prog 19 (Γ19) (bodyOf Try.f19) := fnIs Try.func19 rfl rfl rfl (by kernel_rfl) (noLoops (by kernel_rfl))
theorem sem19 : SemOK Try.prog (19, fnMean A19 R19 K19 G19) := fn_opt env19 is19 fun x => ev19 x

/- "loop.example/g03321/laws.FnFixBears" -/
abbrev A4 : Ty := .cons (.slice (.int .u8)) (.nil)
abbrev R4 : Ty := .cons (.bool) (.nil)
noncomputable def Γ4 (k7 : Den A7 → Bool) (g7 : Den A7 → Den R7) (k14 : Den A14 → Bool) (g14 : Den A14 → Den R14) (k15 : Den A15 → Bool) (g15 : Den A15 → Den R15) (k16 : Den A16 → Bool) (g16 : Den A16 → Den R16) (k17 : Den A17 → Bool) (g17 : Den A17 → Den R17) (k18 : Den A18 → Bool) (g18 : Den A18 → Den R18) (k19 : Den A19 → Bool) (g19 : Den A19 → Den R19) : Env := mkEnv tab eqs [(7, fnMean A7 R7 k7 g7), (14, fnMean A14 R14 k14 g14), (15, fnMean A15 R15 k15 g15), (16, fnMean A16 R16 k16 g16), (17, fnMean A17 R17 k17 g17), (18, fnMean A18 R18 k18 g18), (19, fnMean A19 R19 k19 g19)] 71 [.tmp 2] [] [] [] [] []
def r4 (k7 : Den A7 → Bool) (g7 : Den A7 → Den R7) (k14 : Den A14 → Bool) (g14 : Den A14 → Den R14) (k15 : Den A15 → Bool) (g15 : Den A15 → Den R15) (k16 : Den A16 → Bool) (g16 : Den A16 → Den R16) (k17 : Den A17 → Bool) (g17 : Den A17 → Den R17) (k18 : Den A18 → Bool) (g18 : Den A18 → Den R18) (k19 : Den A19 → Bool) (g19 : Den A19 → Den R19) (x : Den A4) : Option (Den R4) :=
  let v0 := (k7 x)
  bif (v0) then
    let v1 := (g7 x)
    bif (v1.1) then
      some ((true), ())
    else
      let v2 := (k14 x)
      bif (v2) then
        let v3 := (g14 x)
        let v4 := (k15 v3)
        bif (v4) then
          let v5 := (k16 v3)
          bif (v5) then
            let v6 := (g15 v3)
            let v7 := (g16 v3)
            bif (!v6.snd.fst == v7.snd.fst) then
              some ((false), ())
            else
              bif (!v6.snd.fst) then
                some ((feq FloatKind.f64 v6.fst.fst 0 && feq FloatKind.f64 v6.fst.snd 0), ())
              else
                let v8 := (farith BinOp.sub FloatKind.f64 v3.fst.fst v6.fst.fst)
                let v9 := (farith BinOp.sub FloatKind.f64 v3.fst.snd v6.fst.snd)
                let v10 := (k17 ((v8, v9), ()))
                bif (v10) then
                  let v11 := (g17 ((v8, v9), ()))
                  bif (fgt FloatKind.f64 v11.fst 4607182418800017408 || feq FloatKind.f64 v11.fst 4607182418800017408) then
                    let v12 := (k18 ((v8, v9), ()))
                    bif (v12) then
                      let v13 := (k19 (v3.snd.fst, ()))
                      bif (v13) then
                        let v14 := (g18 ((v8, v9), ()))
                        let v15 := (g19 (v3.snd.fst, ()))
                        bif (v14.fst != v15.fst) then
                          some ((false), ())
                        else
                          let v16 := (farith BinOp.sub FloatKind.f64 v3.snd.snd.fst.fst v6.fst.fst)
                          let v17 := (farith BinOp.sub FloatKind.f64 v3.snd.snd.fst.snd v6.fst.snd)
                          let v18 := (k17 ((v16, v17), ()))
                          bif (v18) then
                            let v19 := (g17 ((v16, v17), ()))
                            bif (flt FloatKind.f64 v19.fst 4607182418800017408) then
                              some ((true), ())
                            else
                              let v20 := (k18 ((v16, v17), ()))
                              bif (v20) then
                                let v21 := (k19 v3.snd.snd.snd)
                                bif (v21) then
                                  let v22 := (g18 ((v16, v17), ()))
                                  let v23 := (g19 v3.snd.snd.snd)
                                  some ((v22.fst == v23.fst), ())
                                else
                                  none
                              else
                                none
                          else
                            none
                      else
                        none
                    else
                      none
                  else
                    let v12 := (farith BinOp.sub FloatKind.f64 v3.snd.snd.fst.fst v6.fst.fst)
                    let v13 := (farith BinOp.sub FloatKind.f64 v3.snd.snd.fst.snd v6.fst.snd)
                    let v14 := (k17 ((v12, v13), ()))
                    bif (v14) then
                      let v15 := (g17 ((v12, v13), ()))
                      bif (flt FloatKind.f64 v15.fst 4607182418800017408) then
                        some ((true), ())
                      else
                        let v16 := (k18 ((v12, v13), ()))
                        bif (v16) then
                          let v17 := (k19 v3.snd.snd.snd)
                          bif (v17) then
                            let v18 := (g18 ((v12, v13), ()))
                            let v19 := (g19 v3.snd.snd.snd)
                            some ((v18.fst == v19.fst), ())
                          else
                            none
                        else
                          none
                    else
                      none
                else
                  none
          else
            none
        else
          none
      else
        none
  else
    none
theorem ev4 (k7 : Den A7 → Bool) (g7 : Den A7 → Den R7) (k14 : Den A14 → Bool) (g14 : Den A14 → Den R14) (k15 : Den A15 → Bool) (g15 : Den A15 → Den R15) (k16 : Den A16 → Bool) (g16 : Den A16 → Den R16) (k17 : Den A17 → Bool) (g17 : Den A17 → Den R17) (k18 : Den A18 → Bool) (g18 : Den A18 → Den R18) (k19 : Den A19 → Bool) (g19 : Den A19 → Den R19) (x : Den A4) : callK (Γ4 k7 g7 k14 g14 k15 g15 k16 g16 k17 g17 k18 g18 k19 g19) (bodyOf Try.f4) (decR R4) (encA A4 x) [] = r4 k7 g7 k14 g14 k15 g15 k16 g16 k17 g17 k18 g18 k19 g19 x := by kernel_rfl
def F4 (x : Den A4) : Option (Den R4) := r4 K7 G7 K14 G14 K15 G15 K16 G16 K17 G17 K18 G18 K19 G19 x
def K4 (x : Den A4) : Bool := (F4 x).isSome
def G4 (x : Den A4) : Den R4 := (F4 x).getD (zero R4)
theorem env4 : EnvOK Try.prog (Γ4 K7 G7 K14 G14 K15 G15 K16 G16 K17 G17 K18 G18 K19 G19) := env_ok mixed tab_ok eqs_ok (.cons sem7 (.cons sem14 (.cons sem15 (.cons sem16 (.cons sem17 (.cons sem18 (.cons sem19 .nil)))))))
theorem is4 : FnIs Try.prog 4 (Γ4 K7 G7 K14 G14 K15 G15 K16 G16 K17 G17 K18 G18 K19 G19) (bodyOf Try.f4) := fnIs Try.func4 rfl rfl rfl (by kernel_rfl) (noLoops (by kernel_rfl))
theorem sem4 : SemOK Try.prog (4, fnMean A4 R4 K4 G4) := fn_opt env4 is4 fun x => ev4 K7 G7 K14 G14 K15 G15 K16 G16 K17 G17 K18 G18 K19 G19 x

end Go.Proofs.Ytmmdjajebmihhaa.AM

/- Plainly: the cursor that all draws share: it is right from the start on, and what is drawn lies where it should. Conditions: those that each lemma names. -/
namespace Go.Proofs.Ytmmdjajebmihhaa.AM
open Go Go.Proofs
set_option linter.unusedVariables false

/-- A cursor that is right. -/
def CurOk (c : List Int × Int × Int × Unit) : Prop := 0 ≤ c.2.1 ∧ c.1.length ≤ 1048576

theorem and255 (a : Int) : 0 ≤ ibits .and .i64 a 255 ∧ ibits .and .i64 a 255 ≤ 255 := by
  have h : (BitVec.ofInt IntKind.i64.bits a &&& BitVec.ofInt IntKind.i64.bits 255).toNat ≤ 255 := by
    rw [BitVec.toNat_and]
    exact Nat.and_le_right
  have e : ibits .and .i64 a 255 = IntKind.i64.wrap ((BitVec.ofInt IntKind.i64.bits a &&& BitVec.ofInt IntKind.i64.bits 255).toNat : Int) := rfl
  rw [e, w64 (by omega) (by omega)]
  omega

theorem K89_ok (x : I89.den) (h : CurOk x.2.1) : K89 x = true := by
  unfold K89 F89 r89
  have h1 : decide (0 ≤ x.2.1.2.1) = true := decide_eq_true h.1
  cases hc : decide (x.2.1.2.1 < (x.2.1.1.length : Int)) <;> simp only [h1, Bool.and_self, cond_true, cond_false, Option.isSome_some]

theorem G89_ok (x : I89.den) (h : CurOk x.2.1) : CurOk (G89 x).2.1 ∧ 0 ≤ (G89 x).1.1 ∧ (G89 x).1.1 ≤ 255 := by
  unfold G89 F89 r89
  have h1 : decide (0 ≤ x.2.1.2.1) = true := decide_eq_true h.1
  have hl := h.2
  have hi : 0 ≤ x.2.1.2.1 := h.1
  by_cases hlt : x.2.1.2.1 < (x.2.1.1.length : Int)
  · have hlt2 : x.2.1.2.1 < 1048576 := by
      have : ((x.2.1.1.length : Nat) : Int) ≤ 1048576 := by omega
      exact Int.lt_of_lt_of_le hlt this
    have hc : decide (x.2.1.2.1 < (x.2.1.1.length : Int)) = true := decide_eq_true hlt
    simp only [hc, h1, Bool.and_self, cond_true, Option.getD_some]
    refine ⟨⟨?_, hl⟩, (and255 _).1, (and255 _).2⟩
    have hn : ∀ n : Int, 0 ≤ n → n < 1048576 → 0 ≤ IntKind.i64.wrap (n + 1) := fun n h1 h2 => by rw [w64 (by omega) (by omega)]; omega
    exact hn _ hi hlt2
  · have hc : decide (x.2.1.2.1 < (x.2.1.1.length : Int)) = false := decide_eq_false hlt
    simp only [hc, cond_false, Option.getD_some]
    exact ⟨⟨hi, hl⟩, (and255 _).1, (and255 _).2⟩

theorem G89_cur (x : I89.den) (h : CurOk x.2.1) : CurOk (G89 x).2.1 := (G89_ok x h).1

theorem tmod_in {a n : Int} (h : 0 ≤ a) (hn : 0 < n) : 0 ≤ Int.tmod a n ∧ Int.tmod a n < n := by
  rw [Int.tmod_eq_emod_of_nonneg h]
  exact ⟨Int.emod_nonneg _ (by omega), Int.emod_lt_of_pos _ hn⟩

theorem below_ok (n : Int) (c : List Int × Int × Int × Unit) (h : CurOk c) : ∃ (m : Int) (c' : List Int × Int × Int × Unit), F66 (((), n, ()), (c, ())) = some ((m, ()), (c', ())) ∧ CurOk c' ∧ 0 ≤ m ∧ (0 < n → m < n) := by
  unfold F66 r66
  by_cases h0 : n ≤ 0
  · have : decide (n ≤ 0) = true := decide_eq_true h0
    simp only [this, cond_true]
    exact ⟨0, c, rfl, h, by omega, fun h => by omega⟩
  · have e0 : decide (n ≤ 0) = false := decide_eq_false h0
    have e1 : (n != 0) = true := by simp; omega
    have k1 := K89_ok (((), ()), (c, ())) h
    obtain ⟨c1, l1, u1⟩ := G89_ok (((), ()), (c, ())) h
    simp only [e0, cond_false, k1, cond_true, e1]
    generalize G89 (((), ()), (c, ())) = g1 at *
    by_cases h2 : n ≤ 256
    · have : decide (n ≤ 256) = true := decide_eq_true h2
      simp only [this, cond_true]
      exact ⟨_, g1.2.1, rfl, c1, (tmod_in l1 (by omega)).1, fun _ => (tmod_in l1 (by omega)).2⟩
    · have : decide (n ≤ 256) = false := decide_eq_false h2
      simp only [this, cond_false]
      have k2 := K89_ok (((), ()), g1.2) c1
      obtain ⟨c2, l2, u2⟩ := G89_ok (((), ()), g1.2) c1
      simp only [k2, cond_true]
      generalize G89 (((), ()), g1.2) = g2 at *
      have k3 := K89_ok (((), ()), g2.2) c2
      obtain ⟨c3, l3, u3⟩ := G89_ok (((), ()), g2.2) c2
      simp only [k3, cond_true]
      generalize G89 (((), ()), g2.2) = g3 at *
      have k4 := K89_ok (((), ()), g3.2) c3
      obtain ⟨c4, l4, u4⟩ := G89_ok (((), ()), g3.2) c3
      simp only [k4, cond_true]
      generalize G89 (((), ()), g3.2) = g4 at *
      have big : ∀ x y z w : Int, 0 ≤ x → x ≤ 255 → 0 ≤ y → y ≤ 255 → 0 ≤ z → z ≤ 255 → 0 ≤ w → w ≤ 255 →
          0 ≤ IntKind.i64.wrap (IntKind.i64.wrap (IntKind.i64.wrap (IntKind.i64.wrap (x * 16777216) + IntKind.i64.wrap (y * 65536)) + IntKind.i64.wrap (z * 256)) + w) := by
        intro x y z w h1 h2 h3 h4 h5 h6 h7 h8
        have w1 : IntKind.i64.wrap (x * 16777216) = x * 16777216 := w64 (by omega) (by omega)
        have w2 : IntKind.i64.wrap (y * 65536) = y * 65536 := w64 (by omega) (by omega)
        have w3 : IntKind.i64.wrap (z * 256) = z * 256 := w64 (by omega) (by omega)
        have w4 : IntKind.i64.wrap (x * 16777216 + y * 65536) = x * 16777216 + y * 65536 := w64 (by omega) (by omega)
        have w5 : IntKind.i64.wrap (x * 16777216 + y * 65536 + z * 256) = x * 16777216 + y * 65536 + z * 256 := w64 (by omega) (by omega)
        rw [w1, w2, w3, w4, w5, w64 (by omega) (by omega)]
        omega
      have hb := big g1.1.1 g2.1.1 g3.1.1 g4.1.1 l1 u1 l2 u2 l3 u3 l4 u4
      exact ⟨_, g4.2.1, rfl, c4, (tmod_in hb (by omega)).1, fun _ => (tmod_in hb (by omega)).2⟩

theorem K66_ok (x : I66.den) (h : CurOk x.2.1) : K66 x = true := by
  obtain ⟨m, c, he, _⟩ := below_ok x.1.2.1 x.2.1 h
  unfold K66
  rw [show x = (((), x.1.2.1, ()), (x.2.1, ())) from rfl, he]
  rfl
theorem G66_ok (x : I66.den) (h : CurOk x.2.1) : CurOk (G66 x).2.1 ∧ 0 ≤ ((G66 x).1.1 : Int) ∧ ((0 : Int) < x.1.2.1 → ((G66 x).1.1 : Int) < x.1.2.1) := by
  obtain ⟨m, c, he, h1, h2, h3⟩ := below_ok x.1.2.1 x.2.1 h
  unfold G66
  rw [show F66 x = _ from he]
  exact ⟨h1, h2, h3⟩
theorem G66_cur (x : I66.den) (h : CurOk x.2.1) : CurOk (G66 x).2.1 := (G66_ok x h).1

theorem K45_ok (x : I45.den) (h : CurOk x.2.1) : K45 x = true := by
  unfold K45 F45 r45
  simp only [K66_ok (((), x.1.2), x.2) h, cond_true, Option.isSome_some]
theorem G45_cur (x : I45.den) (h : CurOk x.2.1) : CurOk (G45 x).2.1 := by
  unfold G45 F45 r45
  simp only [K66_ok (((), x.1.2), x.2) h, cond_true, Option.getD_some]
  exact G66_cur (((), x.1.2), x.2) h

theorem pick_ok (l : List Int) (c : List Int × Int × Int × Unit) (h : CurOk c) (hl : 0 < l.length) : ∃ (m : Int) (c' : List Int × Int × Int × Unit), F76 (((), (), ()), (c, l, ())) = some ((m, ()), (c', l, ())) ∧ CurOk c' ∧ m ∈ l := by
  obtain ⟨m, c1, he, h1, h2, h3⟩ := below_ok (l.length : Int) c h
  unfold F76 r76
  have e1 : decide (0 ≤ m) = true := decide_eq_true h2
  have h4 : m < (l.length : Int) := h3 (by omega)
  have e2 : decide (m < (l.length : Int)) = true := decide_eq_true h4
  simp only [K66, G66, he, Option.isSome_some, Option.getD_some, cond_true, e1, e2, Bool.and_self]
  refine ⟨_, c1, rfl, h1, ?_⟩
  rw [getD_lt _ _ _ (by omega)]
  exact List.getElem_mem _
theorem K76_ok (x : I76.den) (h : CurOk x.2.1) (hl : 0 < x.2.2.1.length) : K76 x = true := by
  obtain ⟨m, c, he, _⟩ := pick_ok x.2.2.1 x.2.1 h hl
  unfold K76
  rw [show x = (((), (), ()), (x.2.1, x.2.2.1, ())) from rfl, he]
  rfl
theorem G76_ok (x : I76.den) (h : CurOk x.2.1) (hl : 0 < x.2.2.1.length) : CurOk (G76 x).2.1 ∧ (G76 x).1.1 ∈ x.2.2.1 := by
  obtain ⟨m, c, he, h1, h2⟩ := pick_ok x.2.2.1 x.2.1 h hl
  unfold G76
  rw [show F76 x = _ from he]
  exact ⟨h1, h2⟩
theorem G76_cur (x : I76.den) (h : CurOk x.2.1) (hl : 0 < x.2.2.1.length) : CurOk (G76 x).2.1 := (G76_ok x h hl).1

/-! ## A new cursor -/

theorem new_ok (code : List Int) (h : code.length ≤ 1048576) : ∃ c, F30 ((code, ()), ()) = some (((), ()), (c, ())) ∧ CurOk c := by
  have hl : ∃ y, l30_3 ((code, IntKind.i64.wrap (33211 + (code.length : Int)), (0 : Int), ()), ()) = some y ∧ y.1.1 = code := by
    refine iter_ind (q := q30_3) (fun v => v.1.1 = code ∧ 0 ≤ v.1.2.2.1 ∧ v.1.2.2.1 ≤ code.length) (fun _ r => ∃ y, r = some y ∧ y.1.1 = code) (fun v => ((code.length : Int) - v.1.2.2.1).toNat) ?_ _ _ ⟨rfl, by simp only; omega, by simp only; omega⟩ (by simp only [b30_3]; omega)
    rintro ⟨⟨l, hh, i, _⟩, _⟩ f ⟨h0, h1, h2⟩ ih
    simp only at h0 h1 h2 ih
    subst h0
    unfold q30_3
    by_cases hi : i < (l.length : Int)
    · have a1 : decide (0 ≤ i) = true := by simp; omega
      have a2 : decide (i < (l.length : Int)) = true := by simpa using hi
      have e1 : IntKind.i64.wrap (i + 1) = i + 1 := w64 (by omega) (by omega)
      simp only [a1, a2, e1, Bool.and_self, cond_true]
      cases decide (i < 4000)
      · exact ⟨_, rfl, rfl⟩
      · exact ih ((l, _, i + 1, ()), ()) ⟨rfl, by simp only; omega, by simp only; omega⟩ (by simp only; omega)
    · have a2 : decide (i < (l.length : Int)) = false := by simpa using hi
      simp only [a2, cond_false]
      exact ⟨_, rfl, rfl⟩
  obtain ⟨y, hy, hc⟩ := hl
  unfold F30 r30
  simp only [kL30_3, xL30_3, hy, Option.isSome_some, Option.getD_some, cond_true]
  refine ⟨_, rfl, ?_, ?_⟩
  · exact Int.le_refl 0
  · rw [hc]; exact h
theorem K30_ok (x : I30.den) (h : x.1.1.length ≤ 1048576) : K30 x = true := by
  obtain ⟨c, he, _⟩ := new_ok x.1.1 h
  unfold K30
  rw [show x = ((x.1.1, ()), ()) from rfl, he]
  rfl
theorem G30_cur (x : I30.den) (h : x.1.1.length ≤ 1048576) : CurOk (G30 x).2.1 := by
  obtain ⟨c, he, h1⟩ := new_ok x.1.1 h
  unfold G30
  rw [show F30 x = _ from he]
  exact h1

end Go.Proofs.Ytmmdjajebmihhaa.AM

/- What functions whose answers are open make of their arguments; each is what its evaluation says. Printed by fn.py. -/
namespace Go.Proofs.Ytmmdjajebmihhaa.AM
open Go Go.Proofs
set_option linter.unusedVariables false
set_option maxRecDepth 100000
set_option maxHeartbeats 0

/- "loop.example/g03321/spec.l03Single" -/
noncomputable def N107 : NEnv := mkN [] []
noncomputable def rN107 (k80 : I80.den → Bool) (g80 : I80.den → O80.den) (h : O107.den → Option Unit) (x : I107.den) : Option Unit :=
  let v0 := (k80 (((), x.fst.snd), x.snd))
  bif (v0) then
    let v1 := (g80 (((), x.fst.snd), x.snd))
    bif (narrowOk v1.fst.fst) then
      bif ((convF FloatKind.f64 FloatKind.f32 v1.fst.fst).1) then
        h ((((convF FloatKind.f64 FloatKind.f32 v1.fst.fst).2), ()), (((v1.snd.fst.1), ((v1.snd.fst.snd.1), ((v1.snd.fst.snd.snd.1), ()))), ()))
      else
        none
    else
      allK fun (z6 : Bits32) =>
        h (((z6.1), ()), (((v1.snd.fst.1), ((v1.snd.fst.snd.1), ((v1.snd.fst.snd.snd.1), ()))), ()))
  else
    none
theorem evN107 (k80 : I80.den → Bool) (g80 : I80.den → O80.den) (h : O107.den → Option Unit) (x : I107.den) : callSN (Γ107 k80 g80) (N107) (bodyOf Try.f107) I107 O107 h x = rN107 k80 g80 h x := by kernel_rfl

/- "loop.example/g03321/spec.l03Air" -/
noncomputable def N90 (p107 : I107.den → Bool) (Q107 : I107.den → O107.den → Prop) (e107 : Nonempty (Ch I107 O107 p107 Q107)) : NEnv := mkN [(107, sgFam true I107 O107 p107 Q107 e107)] []
noncomputable def rN90 (k45 : I45.den → Bool) (g45 : I45.den → O45.den) (k106 : I106.den → Bool) (g106 : I106.den → O106.den) (k76 : I76.den → Bool) (g76 : I76.den → O76.den) (k107 : I107.den → Bool) (g107 : I107.den → O107.den) (p107 : I107.den → Bool) (Q107 : I107.den → O107.den → Prop) (e107 : Nonempty (Ch I107 O107 p107 Q107)) (h : O90.den → Option Unit) (x : I90.den) : Option Unit :=
  let v0 := (k45 (((), 30, ()), x.snd))
  bif (v0) then
    let v1 := (g45 (((), 30, ()), x.snd))
    bif (v1.fst.1) then
      let v2 := (k106 (((), ()), v1.snd))
      bif (v2) then
        let v3 := (g106 (((), ()), v1.snd))
        bif (narrowOk v3.fst.fst) then
          bif ((convF FloatKind.f64 FloatKind.f32 v3.fst.fst).1) then
            let v4 := (k106 (((), ()), v3.snd))
            bif (v4) then
              let v5 := (g106 (((), ()), v3.snd))
              bif (narrowOk v5.fst.fst) then
                bif ((convF FloatKind.f64 FloatKind.f32 v5.fst.fst).1) then
                  h (((((convF FloatKind.f64 FloatKind.f32 v3.fst.fst).2), ((convF FloatKind.f64 FloatKind.f32 v5.fst.fst).2)), ()), (((v5.snd.fst.1), ((v5.snd.fst.snd.1), ((v5.snd.fst.snd.snd.1), ()))), ()))
                else
                  none
              else
                allK fun (z16 : Bits32) =>
                  h (((((convF FloatKind.f64 FloatKind.f32 v3.fst.fst).2), (z16.1)), ()), (((v5.snd.fst.1), ((v5.snd.fst.snd.1), ((v5.snd.fst.snd.snd.1), ()))), ()))
            else
              none
          else
            none
        else
          allK fun (z10 : Bits32) =>
            let v4 := (k106 (((), ()), v3.snd))
            bif (v4) then
              let v5 := (g106 (((), ()), v3.snd))
              bif (narrowOk v5.fst.fst) then
                bif ((convF FloatKind.f64 FloatKind.f32 v5.fst.fst).1) then
                  h ((((z10.1), ((convF FloatKind.f64 FloatKind.f32 v5.fst.fst).2)), ()), (((v5.snd.fst.1), ((v5.snd.fst.snd.1), ((v5.snd.fst.snd.snd.1), ()))), ()))
                else
                  none
              else
                allK fun (z16 : Bits32) =>
                  h ((((z10.1), (z16.1)), ()), (((v5.snd.fst.1), ((v5.snd.fst.snd.1), ((v5.snd.fst.snd.snd.1), ()))), ()))
            else
              none
      else
        none
    else
      let v2 := (k45 (((), 20, ()), v1.snd))
      bif (v2) then
        let v3 := (g45 (((), 20, ()), v1.snd))
        bif (v3.fst.1) then
          let v4 := (List.set (List.replicate 4 (zero (Ty.int IntKind.i64))) 0 100)
          let v5 := (List.set v4 1 (-100))
          let v6 := (List.set v5 2 101)
          let v7 := (List.set v6 3 0)
          let v8 := (k76 (((), (), ()), v3.snd.fst, v7, ()))
          bif (v8) then
            allK fun (c107_12 : Ch I107 O107 p107 Q107) =>
              let v9 := (g76 (((), (), ()), v3.snd.fst, v7, ()))
              let v10 := (p107 (((), 100, ()), v9.snd.fst, ()))
              bif (v10) then
                let v11 := (c107_12.val (((), 100, ()), v9.snd.fst, ()))
                h ((((FloatKind.nearest FloatKind.f32 v9.fst.fst), (v11.fst.1)), ()), (((v11.snd.fst.1), ((v11.snd.fst.snd.1), ((v11.snd.fst.snd.snd.1), ()))), ()))
              else
                none
          else
            none
        else
          allK fun (c107_10 : Ch I107 O107 p107 Q107) =>
            let v4 := (p107 (((), 15, ()), v3.snd))
            bif (v4) then
              allK fun (c107_14 : Ch I107 O107 p107 Q107) =>
                let v5 := (c107_10.val (((), 15, ()), v3.snd))
                let v6 := (p107 (((), 15, ()), v5.snd))
                bif (v6) then
                  let v7 := (c107_14.val (((), 15, ()), v5.snd))
                  h ((((v5.fst.1), (v7.fst.1)), ()), (((v7.snd.fst.1), ((v7.snd.fst.snd.1), ((v7.snd.fst.snd.snd.1), ()))), ()))
                else
                  none
            else
              none
      else
        none
  else
    none
theorem evN90 (k45 : I45.den → Bool) (g45 : I45.den → O45.den) (k106 : I106.den → Bool) (g106 : I106.den → O106.den) (k76 : I76.den → Bool) (g76 : I76.den → O76.den) (k107 : I107.den → Bool) (g107 : I107.den → O107.den) (p107 : I107.den → Bool) (Q107 : I107.den → O107.den → Prop) (e107 : Nonempty (Ch I107 O107 p107 Q107)) (h : O90.den → Option Unit) (x : I90.den) : callSN (Γ90 k45 g45 k106 g106 k76 g76 k107 g107) (N90 p107 Q107 e107) (bodyOf Try.f90) I90 O90 h x = rN90 k45 g45 k106 g106 k76 g76 k107 g107 p107 Q107 e107 h x := by kernel_rfl

/- "loop.example/g03321/spec.l08Wind" -/
noncomputable def N74 (p90 : I90.den → Bool) (Q90 : I90.den → O90.den → Prop) (e90 : Nonempty (Ch I90 O90 p90 Q90)) : NEnv := mkN [(90, sgFam true I90 O90 p90 Q90 e90)] []
noncomputable def rN74 (k45 : I45.den → Bool) (g45 : I45.den → O45.den) (k90 : I90.den → Bool) (g90 : I90.den → O90.den) (k66 : I66.den → Bool) (g66 : I66.den → O66.den) (p90 : I90.den → Bool) (Q90 : I90.den → O90.den → Prop) (e90 : Nonempty (Ch I90 O90 p90 Q90)) (h : O74.den → Option Unit) (x : I74.den) : Option Unit :=
  let v0 := (k45 (((), 12, ()), x.snd))
  bif (v0) then
    let v1 := (g45 (((), 12, ()), x.snd))
    bif (v1.fst.1) then
      allK fun (c90_6 : Ch I90 O90 p90 Q90) =>
        let v2 := (p90 (((), ()), v1.snd))
        bif (v2) then
          let v3 := (c90_6.val (((), ()), v1.snd))
          h ((((v3.fst.fst.1), (v3.fst.fst.2)), ()), (((v3.snd.fst.1), ((v3.snd.fst.snd.1), ((v3.snd.fst.snd.snd.1), ()))), ()))
        else
          none
    else
      let v2 := (k66 (((), 129, ()), v1.snd))
      bif (v2) then
        let v3 := (g66 (((), 129, ()), v1.snd))
        let v4 := (k66 (((), 129, ()), v3.snd))
        bif (v4) then
          let v5 := (IntKind.wrap IntKind.i64 (v3.fst.fst - 64))
          let v6 := (farith BinOp.quo FloatKind.f32 (FloatKind.nearest FloatKind.f32 v5) 1090519040)
          let v7 := (g66 (((), 129, ()), v3.snd))
          let v8 := (IntKind.wrap IntKind.i64 (v7.fst.fst - 64))
          let v9 := (farith BinOp.quo FloatKind.f32 (FloatKind.nearest FloatKind.f32 v8) 1090519040)
          h ((((v6), (v9)), ()), (((v7.snd.fst.1), ((v7.snd.fst.snd.1), ((v7.snd.fst.snd.snd.1), ()))), ()))
        else
          none
      else
        none
  else
    none
theorem evN74 (k45 : I45.den → Bool) (g45 : I45.den → O45.den) (k90 : I90.den → Bool) (g90 : I90.den → O90.den) (k66 : I66.den → Bool) (g66 : I66.den → O66.den) (p90 : I90.den → Bool) (Q90 : I90.den → O90.den → Prop) (e90 : Nonempty (Ch I90 O90 p90 Q90)) (h : O74.den → Option Unit) (x : I74.den) : callSN (Γ74 k45 g45 k90 g90 k66 g66) (N74 p90 Q90 e90) (bodyOf Try.f74) I74 O74 h x = rN74 k45 g45 k90 g90 k66 g66 p90 Q90 e90 h x := by kernel_rfl

/- "loop.example/g03321/spec.l12Field" -/
noncomputable def N31 (p74 : I74.den → Bool) (Q74 : I74.den → O74.den → Prop) (e74 : Nonempty (Ch I74 O74 p74 Q74)) (pL31_4 : V31_4 → Bool) (QL31_4 : V31_4 → X31_4 → Prop) (eL31_4 : Nonempty (ChL pL31_4 QL31_4)) (pL31_8 : V31_8 → Bool) (QL31_8 : V31_8 → X31_8 → Prop) (eL31_8 : Nonempty (ChL pL31_8 QL31_8)) : NEnv := mkN [(74, sgFam true I74 O74 p74 Q74 e74)] [(4, loopXN [0, 2, 3, 4, 5] [.boxNil 3 3] 0 [0, 2, 3] [] sh31_4 shX31_4 pL31_4 QL31_4 eL31_4), (8, loopXN [0, 2, 3, 4, 5, 6, 7] [] 2 [0, 2, 3, 4, 5, 6] [] sh31_8 shX31_8 pL31_8 QL31_8 eL31_8)]
noncomputable def qN31_4 (k66 : I66.den → Bool) (g66 : I66.den → O66.den) (k74 : I74.den → Bool) (g74 : I74.den → O74.den) (k45 : I45.den → Bool) (g45 : I45.den → O45.den) (k75 : I75.den → Bool) (g75 : I75.den → O75.den) (k76 : I76.den → Bool) (g76 : I76.den → O76.den) (kl4 : V31_4 → Bool) (xl4 : V31_4 → X31_4) (kl8 : V31_8 → Bool) (xl8 : V31_8 → X31_8) (p74 : I74.den → Bool) (Q74 : I74.den → O74.den → Prop) (e74 : Nonempty (Ch I74 O74 p74 Q74)) (pL31_4 : V31_4 → Bool) (QL31_4 : V31_4 → X31_4 → Prop) (eL31_4 : Nonempty (ChL pL31_4 QL31_4)) (pL31_8 : V31_8 → Bool) (QL31_8 : V31_8 → X31_8 → Prop) (eL31_8 : Nonempty (ChL pL31_8 QL31_8)) (h : X31_4 → Option Unit) (f : V31_4 → Option Unit) (v : V31_4) : Option Unit :=
  bif (decide (v.fst.snd.snd.snd.snd.fst > 0)) then
    let v0 := (pL31_8 (((), (), (), v.fst.snd.snd.snd.fst, v.fst.snd.snd.snd.snd.fst, (), 0, ()), v.snd.fst, (v.snd.snd.fst.fst, v.snd.snd.fst.snd.fst, v.snd.snd.fst.snd.snd.fst, (), ()), (v.snd.snd.snd.fst.fst, v.snd.snd.snd.fst.snd.fst, v.snd.snd.snd.fst.snd.snd.fst, (), ()), v.snd.snd.snd.snd.fst, List.replicate 0 (zero (Ty.cpx FloatKind.f32)), ()))
    bif (v0) then
      allK fun (cL31_8_6 : ChL pL31_8 QL31_8) =>
        let v1 := (cL31_8_6.val (((), (), (), v.fst.snd.snd.snd.fst, v.fst.snd.snd.snd.snd.fst, (), 0, ()), v.snd.fst, (v.snd.snd.fst.fst, v.snd.snd.fst.snd.fst, v.snd.snd.fst.snd.snd.fst, (), ()), (v.snd.snd.snd.fst.fst, v.snd.snd.snd.fst.snd.fst, v.snd.snd.snd.fst.snd.snd.fst, (), ()), v.snd.snd.snd.snd.fst, List.replicate 0 (zero (Ty.cpx FloatKind.f32)), ()))
        let v2 := (List.set (List.replicate 1 (zero (Ty.slice (Ty.cpx FloatKind.f32)))) 0 v1.snd.snd.snd.snd.snd.fst)
        bif (capOk (List.length v1.snd.snd.snd.snd.fst + List.length v2)) then
          let v3 := (IntKind.wrap IntKind.i64 (v1.fst.snd.snd.snd.snd.fst - 1))
          let v4 := (v1.snd.snd.snd.snd.fst ++ v2)
          f (((), ((), ((), (((v1.fst.snd.snd.snd.fst.1), (v1.fst.snd.snd.snd.fst.2)), ((v3), ()))))), (((v1.snd.fst.1), ((v1.snd.fst.snd.1), ((v1.snd.fst.snd.snd.1), ()))), (((v1.snd.snd.fst.1), ((v1.snd.snd.fst.snd.1), ((v1.snd.snd.fst.snd.snd.1), ((), ())))), (((v1.snd.snd.snd.fst.1), ((v1.snd.snd.snd.fst.snd.1), ((v1.snd.snd.snd.fst.snd.snd.1), ((), ())))), ((v4), ())))))
        else
          none
    else
      none
  else
    h (((), ((), ((), ()))), (((v.snd.fst.1), ((v.snd.fst.snd.1), ((v.snd.fst.snd.snd.1), ()))), (((v.snd.snd.fst.1), ((v.snd.snd.fst.snd.1), ((v.snd.snd.fst.snd.snd.1), ((), ())))), (((v.snd.snd.snd.fst.1), ((v.snd.snd.snd.fst.snd.1), ((v.snd.snd.snd.fst.snd.snd.1), ((), ())))), ((v.snd.snd.snd.snd.1), ())))))
theorem evlN31_4 (k66 : I66.den → Bool) (g66 : I66.den → O66.den) (k74 : I74.den → Bool) (g74 : I74.den → O74.den) (k45 : I45.den → Bool) (g45 : I45.den → O45.den) (k75 : I75.den → Bool) (g75 : I75.den → O75.den) (k76 : I76.den → Bool) (g76 : I76.den → O76.den) (kl4 : V31_4 → Bool) (xl4 : V31_4 → X31_4) (kl8 : V31_8 → Bool) (xl8 : V31_8 → X31_8) (p74 : I74.den → Bool) (Q74 : I74.den → O74.den → Prop) (e74 : Nonempty (Ch I74 O74 p74 Q74)) (pL31_4 : V31_4 → Bool) (QL31_4 : V31_4 → X31_4 → Prop) (eL31_4 : Nonempty (ChL pL31_4 QL31_4)) (pL31_8 : V31_8 → Bool) (QL31_8 : V31_8 → X31_8 → Prop) (eL31_8 : Nonempty (ChL pL31_8 QL31_8)) (h : X31_4 → Option Unit) (f : V31_4 → Option Unit) (v : V31_4) : EBn (Γ31 k66 g66 k74 g74 k45 g45 k75 g75 k76 g76 kl4 xl4 kl8 xl8) (N31 p74 Q74 e74 pL31_4 QL31_4 eL31_4 pL31_8 QL31_8 eL31_8) lc31_4 (roundK [0, 2, 3, 4, 5] [.boxNil 3 3] 0 [0, 2, 3] [] (atS sh31_4 f) (endH shX31_4 h)) (mkS sh31_4 v) = qN31_4 k66 g66 k74 g74 k45 g45 k75 g75 k76 g76 kl4 xl4 kl8 xl8 p74 Q74 e74 pL31_4 QL31_4 eL31_4 pL31_8 QL31_8 eL31_8 h f v := by kernel_rfl
noncomputable def qN31_8 (k66 : I66.den → Bool) (g66 : I66.den → O66.den) (k74 : I74.den → Bool) (g74 : I74.den → O74.den) (k45 : I45.den → Bool) (g45 : I45.den → O45.den) (k75 : I75.den → Bool) (g75 : I75.den → O75.den) (k76 : I76.den → Bool) (g76 : I76.den → O76.den) (kl4 : V31_4 → Bool) (xl4 : V31_4 → X31_4) (kl8 : V31_8 → Bool) (xl8 : V31_8 → X31_8) (p74 : I74.den → Bool) (Q74 : I74.den → O74.den → Prop) (e74 : Nonempty (Ch I74 O74 p74 Q74)) (pL31_4 : V31_4 → Bool) (QL31_4 : V31_4 → X31_4 → Prop) (eL31_4 : Nonempty (ChL pL31_4 QL31_4)) (pL31_8 : V31_8 → Bool) (QL31_8 : V31_8 → X31_8 → Prop) (eL31_8 : Nonempty (ChL pL31_8 QL31_8)) (h : X31_8 → Option Unit) (f : V31_8 → Option Unit) (v : V31_8) : Option Unit :=
  let v0 := (IntKind.wrap IntKind.i64 (v.snd.snd.snd.fst.fst * v.snd.snd.snd.fst.snd.fst))
  bif (decide (v.fst.snd.snd.snd.snd.snd.snd.fst < v0)) then
    let v1 := (k45 (((), 3, ()), v.snd.fst, ()))
    bif (v1) then
      let v2 := (g45 (((), 3, ()), v.snd.fst, ()))
      bif (v2.fst.1) then
        allK fun (c74_8 : Ch I74 O74 p74 Q74) =>
          let v3 := (p74 (((), ()), v2.snd))
          bif (v3) then
            let v4 := (c74_8.val (((), ()), v2.snd))
            let v5 := (List.set (List.replicate 1 (zero (Ty.cpx FloatKind.f32))) 0 v4.fst.fst)
            bif (capOk (List.length v.snd.snd.snd.snd.snd.fst + List.length v5)) then
              let v6 := (IntKind.wrap IntKind.i64 (v.fst.snd.snd.snd.snd.snd.snd.fst + 1))
              let v7 := (v.snd.snd.snd.snd.snd.fst ++ v5)
              f (((), ((), ((), (((v4.fst.fst.1), (v4.fst.fst.2)), ((v.fst.snd.snd.snd.snd.1), ((), ((v6), ()))))))), (((v4.snd.fst.1), ((v4.snd.fst.snd.1), ((v4.snd.fst.snd.snd.1), ()))), (((v.snd.snd.fst.1), ((v.snd.snd.fst.snd.1), ((v.snd.snd.fst.snd.snd.1), ((), ())))), (((v.snd.snd.snd.fst.1), ((v.snd.snd.snd.fst.snd.1), ((v.snd.snd.snd.fst.snd.snd.1), ((), ())))), ((v.snd.snd.snd.snd.1), ((v7), ()))))))
            else
              none
          else
            none
      else
        let v3 := (List.set (List.replicate 1 (zero (Ty.cpx FloatKind.f32))) 0 v.fst.snd.snd.snd.fst)
        bif (capOk (List.length v.snd.snd.snd.snd.snd.fst + List.length v3)) then
          let v4 := (IntKind.wrap IntKind.i64 (v.fst.snd.snd.snd.snd.snd.snd.fst + 1))
          let v5 := (v.snd.snd.snd.snd.snd.fst ++ v3)
          f (((), ((), ((), (((v.fst.snd.snd.snd.fst.1), (v.fst.snd.snd.snd.fst.2)), ((v.fst.snd.snd.snd.snd.1), ((), ((v4), ()))))))), (((v2.snd.fst.1), ((v2.snd.fst.snd.1), ((v2.snd.fst.snd.snd.1), ()))), (((v.snd.snd.fst.1), ((v.snd.snd.fst.snd.1), ((v.snd.snd.fst.snd.snd.1), ((), ())))), (((v.snd.snd.snd.fst.1), ((v.snd.snd.snd.fst.snd.1), ((v.snd.snd.snd.fst.snd.snd.1), ((), ())))), ((v.snd.snd.snd.snd.1), ((v5), ()))))))
        else
          none
    else
      none
  else
    h (((), ((), ((), (((v.fst.snd.snd.snd.fst.1), (v.fst.snd.snd.snd.fst.2)), ((v.fst.snd.snd.snd.snd.1), ((), ())))))), (((v.snd.fst.1), ((v.snd.fst.snd.1), ((v.snd.fst.snd.snd.1), ()))), (((v.snd.snd.fst.1), ((v.snd.snd.fst.snd.1), ((v.snd.snd.fst.snd.snd.1), ((), ())))), (((v.snd.snd.snd.fst.1), ((v.snd.snd.snd.fst.snd.1), ((v.snd.snd.snd.fst.snd.snd.1), ((), ())))), ((v.snd.snd.snd.snd.1), ((v.snd.snd.snd.snd.snd.1), ()))))))
theorem evlN31_8 (k66 : I66.den → Bool) (g66 : I66.den → O66.den) (k74 : I74.den → Bool) (g74 : I74.den → O74.den) (k45 : I45.den → Bool) (g45 : I45.den → O45.den) (k75 : I75.den → Bool) (g75 : I75.den → O75.den) (k76 : I76.den → Bool) (g76 : I76.den → O76.den) (kl4 : V31_4 → Bool) (xl4 : V31_4 → X31_4) (kl8 : V31_8 → Bool) (xl8 : V31_8 → X31_8) (p74 : I74.den → Bool) (Q74 : I74.den → O74.den → Prop) (e74 : Nonempty (Ch I74 O74 p74 Q74)) (pL31_4 : V31_4 → Bool) (QL31_4 : V31_4 → X31_4 → Prop) (eL31_4 : Nonempty (ChL pL31_4 QL31_4)) (pL31_8 : V31_8 → Bool) (QL31_8 : V31_8 → X31_8 → Prop) (eL31_8 : Nonempty (ChL pL31_8 QL31_8)) (h : X31_8 → Option Unit) (f : V31_8 → Option Unit) (v : V31_8) : EBn (Γ31 k66 g66 k74 g74 k45 g45 k75 g75 k76 g76 kl4 xl4 kl8 xl8) (N31 p74 Q74 e74 pL31_4 QL31_4 eL31_4 pL31_8 QL31_8 eL31_8) lc31_8 (roundK [0, 2, 3, 4, 5, 6, 7] [] 2 [0, 2, 3, 4, 5, 6] [] (atS sh31_8 f) (endH shX31_8 h)) (mkS sh31_8 v) = qN31_8 k66 g66 k74 g74 k45 g45 k75 g75 k76 g76 kl4 xl4 kl8 xl8 p74 Q74 e74 pL31_4 QL31_4 eL31_4 pL31_8 QL31_8 eL31_8 h f v := by kernel_rfl
noncomputable def rN31 (k66 : I66.den → Bool) (g66 : I66.den → O66.den) (k74 : I74.den → Bool) (g74 : I74.den → O74.den) (k45 : I45.den → Bool) (g45 : I45.den → O45.den) (k75 : I75.den → Bool) (g75 : I75.den → O75.den) (k76 : I76.den → Bool) (g76 : I76.den → O76.den) (kl4 : V31_4 → Bool) (xl4 : V31_4 → X31_4) (kl8 : V31_8 → Bool) (xl8 : V31_8 → X31_8) (p74 : I74.den → Bool) (Q74 : I74.den → O74.den → Prop) (e74 : Nonempty (Ch I74 O74 p74 Q74)) (pL31_4 : V31_4 → Bool) (QL31_4 : V31_4 → X31_4 → Prop) (eL31_4 : Nonempty (ChL pL31_4 QL31_4)) (pL31_8 : V31_8 → Bool) (QL31_8 : V31_8 → X31_8 → Prop) (eL31_8 : Nonempty (ChL pL31_8 QL31_8)) (h : O31.den → Option Unit) (x : I31.den) : Option Unit :=
  let v0 := (k66 (((), 2, ()), x.snd))
  bif (v0) then
    let v1 := (g66 (((), 2, ()), x.snd))
    let v2 := (k66 (((), 3000, ()), v1.snd))
    bif (v2) then
      allK fun (c74_6 : Ch I74 O74 p74 Q74) =>
        let v3 := (g66 (((), 3000, ()), v1.snd))
        let v4 := (p74 (((), ()), v3.snd))
        bif (v4) then
          let v5 := (c74_6.val (((), ()), v3.snd))
          let v6 := (k66 (((), 3, ()), v5.snd))
          bif (v6) then
            let v7 := (g66 (((), 3, ()), v5.snd))
            let v8 := (k66 (((), 2, ()), v7.snd))
            bif (v8) then
              let v9 := (g66 (((), 2, ()), v7.snd))
              let v10 := (IntKind.wrap IntKind.i64 (v7.fst.fst * v9.fst.fst))
              let v11 := (IntKind.wrap IntKind.i64 (1 + v10))
              let v12 := (IntKind.wrap IntKind.i64 (2 + v1.fst.fst))
              let v13 := (IntKind.wrap IntKind.i64 (100 + v3.fst.fst))
              let v14 := (pL31_4 (((), (), (), v5.fst.fst, v11, ()), v9.snd.fst, (0, 0, 0, (), ()), (v12, 2, v13, (), ()), [], ()))
              bif (v14) then
                allK fun (cL31_4_16 : ChL pL31_4 QL31_4) =>
                  let v15 := (cL31_4_16.val (((), (), (), v5.fst.fst, v11, ()), v9.snd.fst, (0, 0, 0, (), ()), (v12, 2, v13, (), ()), [], ()))
                  let v16 := (k66 (((), 30, ()), v15.snd.fst, ()))
                  bif (v16) then
                    let v17 := (g66 (((), 30, ()), v15.snd.fst, ()))
                    bif (v17.fst.fst == 0) then
                      let v18 := (k75 (((), ()), v17.snd))
                      bif (v18) then
                        let v19 := (g75 (((), ()), v17.snd))
                        h ((((v19.fst.1), ((v15.snd.snd.snd.fst.snd.1), ((v15.snd.snd.snd.fst.snd.snd.1), ((v15.snd.snd.snd.snd.1), ())))), ()), (((v19.snd.fst.1), ((v19.snd.fst.snd.1), ((v19.snd.fst.snd.snd.1), ()))), ()))
                      else
                        none
                    else
                      bif (v17.fst.fst == 1) then
                        let v18 := (IntKind.wrap IntKind.i64 (v15.snd.snd.snd.fst.snd.fst + 1))
                        h ((((v15.snd.snd.snd.fst.1), ((v18), ((v15.snd.snd.snd.fst.snd.snd.1), ((v15.snd.snd.snd.snd.1), ())))), ()), (((v17.snd.fst.1), ((v17.snd.fst.snd.1), ((v17.snd.fst.snd.snd.1), ()))), ()))
                      else
                        bif (v17.fst.fst == 2) then
                          let v18 := (List.set (List.replicate 5 (zero (Ty.int IntKind.i64))) 0 9)
                          let v19 := (List.set v18 1 10)
                          let v20 := (List.set v19 2 100000)
                          let v21 := (List.set v20 3 100001)
                          let v22 := (List.set v21 4 (-1))
                          let v23 := (k76 (((), (), ()), v17.snd.fst, v22, ()))
                          bif (v23) then
                            let v24 := (g76 (((), (), ()), v17.snd.fst, v22, ()))
                            h ((((v15.snd.snd.snd.fst.1), ((v15.snd.snd.snd.fst.snd.1), ((v24.fst.1), ((v15.snd.snd.snd.snd.1), ())))), ()), (((v24.snd.fst.1), ((v24.snd.fst.snd.1), ((v24.snd.fst.snd.snd.1), ()))), ()))
                          else
                            none
                        else
                          bif (v17.fst.fst == 3) then
                            h ((((v15.snd.snd.snd.fst.1), ((v15.snd.snd.snd.fst.snd.1), ((v15.snd.snd.snd.fst.snd.snd.1), ((List.replicate 0 (zero (Ty.slice (Ty.cpx FloatKind.f32)))), ())))), ()), (((v17.snd.fst.1), ((v17.snd.fst.snd.1), ((v17.snd.fst.snd.snd.1), ()))), ()))
                          else
                            bif (v17.fst.fst == 4) then
                              bif (decide (0 ≤ 0) && decide (0 < (↑(List.length v15.snd.snd.snd.snd.fst) : Int))) then
                                let v18 := (List.getD v15.snd.snd.snd.snd.fst (Int.toNat 0) (zero (Ty.slice (Ty.cpx FloatKind.f32))))
                                bif (decide (0 ≤ 1) && decide (1 ≤ (↑(List.length v18) : Int)) && decide ((↑(List.length v18) : Int) ≤ (↑(List.length v18) : Int))) then
                                  bif (decide (0 ≤ 0) && decide (0 < (↑(List.length v15.snd.snd.snd.snd.fst) : Int))) then
                                    let v19 := (List.set v15.snd.snd.snd.snd.fst (Int.toNat 0) (List.drop (Int.toNat 1) (List.take (Int.toNat (↑(List.length v18) : Int)) v18)))
                                    h ((((v15.snd.snd.snd.fst.1), ((v15.snd.snd.snd.fst.snd.1), ((v15.snd.snd.snd.fst.snd.snd.1), ((v19), ())))), ()), (((v17.snd.fst.1), ((v17.snd.fst.snd.1), ((v17.snd.fst.snd.snd.1), ()))), ()))
                                  else
                                    none
                                else
                                  none
                              else
                                none
                            else
                              h ((((v15.snd.snd.snd.fst.1), ((v15.snd.snd.snd.fst.snd.1), ((v15.snd.snd.snd.fst.snd.snd.1), ((v15.snd.snd.snd.snd.1), ())))), ()), (((v17.snd.fst.1), ((v17.snd.fst.snd.1), ((v17.snd.fst.snd.snd.1), ()))), ()))
                  else
                    none
              else
                none
            else
              none
          else
            none
        else
          none
    else
      none
  else
    none
theorem evN31 (k66 : I66.den → Bool) (g66 : I66.den → O66.den) (k74 : I74.den → Bool) (g74 : I74.den → O74.den) (k45 : I45.den → Bool) (g45 : I45.den → O45.den) (k75 : I75.den → Bool) (g75 : I75.den → O75.den) (k76 : I76.den → Bool) (g76 : I76.den → O76.den) (kl4 : V31_4 → Bool) (xl4 : V31_4 → X31_4) (kl8 : V31_8 → Bool) (xl8 : V31_8 → X31_8) (p74 : I74.den → Bool) (Q74 : I74.den → O74.den → Prop) (e74 : Nonempty (Ch I74 O74 p74 Q74)) (pL31_4 : V31_4 → Bool) (QL31_4 : V31_4 → X31_4 → Prop) (eL31_4 : Nonempty (ChL pL31_4 QL31_4)) (pL31_8 : V31_8 → Bool) (QL31_8 : V31_8 → X31_8 → Prop) (eL31_8 : Nonempty (ChL pL31_8 QL31_8)) (h : O31.den → Option Unit) (x : I31.den) : callSN (Γ31 k66 g66 k74 g74 k45 g45 k75 g75 k76 g76 kl4 xl4 kl8 xl8) (N31 p74 Q74 e74 pL31_4 QL31_4 eL31_4 pL31_8 QL31_8 eL31_8) (bodyOf Try.f31) I31 O31 h x = rN31 k66 g66 k74 g74 k45 g45 k75 g75 k76 g76 kl4 xl4 kl8 xl8 p74 Q74 e74 pL31_4 QL31_4 eL31_4 pL31_8 QL31_8 eL31_8 h x := by kernel_rfl

/- "loop.example/g03321/spec.DrawWindAt" -/
noncomputable def N8 (p31 : I31.den → Bool) (Q31 : I31.den → O31.den → Prop) (e31 : Nonempty (Ch I31 O31 p31 Q31)) : NEnv := mkN [(31, sgFam true I31 O31 p31 Q31 e31)] []
noncomputable def rN8 (k30 : I30.den → Bool) (g30 : I30.den → O30.den) (k31 : I31.den → Bool) (g31 : I31.den → O31.den) (k32 : I32.den → Bool) (g32 : I32.den → O32.den) (k33 : I33.den → Bool) (g33 : I33.den → O33.den) (p31 : I31.den → Bool) (Q31 : I31.den → O31.den → Prop) (e31 : Nonempty (Ch I31 O31 p31 Q31)) (h : Den R8 → Option Unit) (x : Den A8) : Option Unit :=
  let v0 := (k30 (x, ()))
  bif (v0) then
    allK fun (c31_4 : Ch I31 O31 p31 Q31) =>
      let v1 := (g30 (x, ()))
      let v2 := (p31 (((), ()), v1.snd))
      bif (v2) then
        let v3 := (c31_4.val (((), ()), v1.snd))
        let v4 := (k32 (((), v3.fst), v3.snd))
        bif (v4) then
          let v5 := (g32 (((), v3.fst), v3.snd))
          let v6 := (k33 (((), ()), v5.snd))
          bif (v6) then
            let v7 := (g33 (((), ()), v5.snd))
            h (((v3.fst.fst.1), ((v3.fst.fst.snd.1), ((v3.fst.fst.snd.snd.1), ((v3.fst.fst.snd.snd.snd.1), ())))), ((v5.fst.1), ((v7.fst.1), ())))
          else
            none
        else
          none
      else
        none
  else
    none
theorem evN8 (k30 : I30.den → Bool) (g30 : I30.den → O30.den) (k31 : I31.den → Bool) (g31 : I31.den → O31.den) (k32 : I32.den → Bool) (g32 : I32.den → O32.den) (k33 : I33.den → Bool) (g33 : I33.den → O33.den) (p31 : I31.den → Bool) (Q31 : I31.den → O31.den → Prop) (e31 : Nonempty (Ch I31 O31 p31 Q31)) (h : Den R8 → Option Unit) (x : Den A8) : callN (Γ8 k30 g30 k31 g31 k32 g32 k33 g33) (N8 p31 Q31 e31) (bodyOf Try.f8) (decRH R8 h) (encA A8 x) [] = rN8 k30 g30 k31 g31 k32 g32 k33 g33 p31 Q31 e31 h x := by kernel_rfl

/- "loop.example/g03321/laws.FnNodesNear" -/
noncomputable def N3 (pT8 : Den A8 → Bool) (QT8 : Den A8 → Den R8 → Prop) (eT8 : Nonempty (ChT A8 R8 pT8 QT8)) : NEnv := mkN [(8, fnFam A8 R8 pT8 QT8 eT8)] []
noncomputable def rN3 (k7 : Den A7 → Bool) (g7 : Den A7 → Den R7) (k8 : Den A8 → Bool) (g8 : Den A8 → Den R8) (k9 : Den A9 → Bool) (g9 : Den A9 → Den R9) (k10 : Den A10 → Bool) (g10 : Den A10 → Den R10) (k11 : Den A11 → Bool) (g11 : Den A11 → Den R11) (k12 : Den A12 → Bool) (g12 : Den A12 → Den R12) (k13 : Den A13 → Bool) (g13 : Den A13 → Den R13) (pT8 : Den A8 → Bool) (QT8 : Den A8 → Den R8 → Prop) (eT8 : Nonempty (ChT A8 R8 pT8 QT8)) (h : Den R3 → Option Unit) (x : Den A3) : Option Unit :=
  let v0 := (k7 x)
  bif (v0) then
    let v1 := (g7 x)
    bif (v1.1) then
      h ((true), ())
    else
      allK fun (cT8_6 : ChT A8 R8 pT8 QT8) =>
        let v2 := (pT8 x)
        bif (v2) then
          let v3 := (cT8_6.val x)
          let v4 := (k9 (v3.fst, v3.snd.fst, ()))
          bif (v4) then
            let v5 := (k10 v3)
            bif (v5) then
              let v6 := (k11 (v3.fst, v3.snd.fst, ()))
              bif (v6) then
                let v7 := (g9 (v3.fst, v3.snd.fst, ()))
                let v8 := (g11 (v3.fst, v3.snd.fst, ()))
                bif (!v7.snd.fst == v8.snd.fst) then
                  h ((false), ())
                else
                  bif (!v7.snd.fst) then
                    bif (feq FloatKind.f64 v7.fst.fst 0 && feq FloatKind.f64 v7.fst.snd 0) then
                      let v9 := (g10 v3)
                      bif (!v9.snd.fst) then
                        h ((feq FloatKind.f32 v9.fst.fst 0 && feq FloatKind.f32 v9.fst.snd 0), ())
                      else
                        h ((false), ())
                    else
                      h ((false), ())
                  else
                    let v9 := (k12 (v3.fst, v7.fst, ()))
                    bif (v9) then
                      let v10 := (g12 (v3.fst, v7.fst, ()))
                      bif (v10.fst != v3.snd.fst) then
                        h ((false), ())
                      else
                        let v11 := (IntKind.wrap IntKind.i64 (Int.tdiv v3.snd.snd.fst 3600))
                        let v12 := (IntKind.wrap IntKind.i64 ((↑(List.length v3.fst.snd.snd.snd.fst) : Int) - 1))
                        bif (decide (v11 > v12)) then
                          bif (decide (v3.snd.snd.fst ≥ 0)) then
                            let v13 := (g10 v3)
                            bif (v13.snd.fst == decide (v3.snd.snd.fst ≤ 10000000)) then
                              bif (!v13.snd.fst) then
                                h ((true), ())
                              else
                                bif (decide (0 ≤ v12) && decide (v12 < (↑(List.length v3.fst.snd.snd.snd.fst) : Int))) then
                                  let v14 := (List.getD v3.fst.snd.snd.snd.fst (Int.toNat v12) (zero (Ty.slice (Ty.cpx FloatKind.f32))))
                                  bif (decide (0 ≤ v3.snd.fst) && decide (v3.snd.fst < (↑(List.length v14) : Int))) then
                                    let v15 := (List.getD v14 (Int.toNat v3.snd.fst) (zero (Ty.cpx FloatKind.f32)))
                                    let v16 := (k13 (v13.fst, v15, ()))
                                    bif (v16) then
                                      let v17 := (g13 (v13.fst, v15, ()))
                                      h ((v17.1), ())
                                    else
                                      none
                                  else
                                    none
                                else
                                  none
                            else
                              h ((false), ())
                          else
                            let v13 := (g10 v3)
                            bif (v13.snd.fst == false) then
                              bif (!v13.snd.fst) then
                                h ((true), ())
                              else
                                bif (decide (0 ≤ v12) && decide (v12 < (↑(List.length v3.fst.snd.snd.snd.fst) : Int))) then
                                  let v14 := (List.getD v3.fst.snd.snd.snd.fst (Int.toNat v12) (zero (Ty.slice (Ty.cpx FloatKind.f32))))
                                  bif (decide (0 ≤ v3.snd.fst) && decide (v3.snd.fst < (↑(List.length v14) : Int))) then
                                    let v15 := (List.getD v14 (Int.toNat v3.snd.fst) (zero (Ty.cpx FloatKind.f32)))
                                    let v16 := (k13 (v13.fst, v15, ()))
                                    bif (v16) then
                                      let v17 := (g13 (v13.fst, v15, ()))
                                      h ((v17.1), ())
                                    else
                                      none
                                  else
                                    none
                                else
                                  none
                            else
                              h ((false), ())
                        else
                          bif (decide (v3.snd.snd.fst ≥ 0)) then
                            let v13 := (g10 v3)
                            bif (v13.snd.fst == decide (v3.snd.snd.fst ≤ 10000000)) then
                              bif (!v13.snd.fst) then
                                h ((true), ())
                              else
                                bif (decide (0 ≤ v11) && decide (v11 < (↑(List.length v3.fst.snd.snd.snd.fst) : Int))) then
                                  let v14 := (List.getD v3.fst.snd.snd.snd.fst (Int.toNat v11) (zero (Ty.slice (Ty.cpx FloatKind.f32))))
                                  bif (decide (0 ≤ v3.snd.fst) && decide (v3.snd.fst < (↑(List.length v14) : Int))) then
                                    let v15 := (List.getD v14 (Int.toNat v3.snd.fst) (zero (Ty.cpx FloatKind.f32)))
                                    let v16 := (k13 (v13.fst, v15, ()))
                                    bif (v16) then
                                      let v17 := (g13 (v13.fst, v15, ()))
                                      h ((v17.1), ())
                                    else
                                      none
                                  else
                                    none
                                else
                                  none
                            else
                              h ((false), ())
                          else
                            let v13 := (g10 v3)
                            bif (v13.snd.fst == false) then
                              bif (!v13.snd.fst) then
                                h ((true), ())
                              else
                                bif (decide (0 ≤ v11) && decide (v11 < (↑(List.length v3.fst.snd.snd.snd.fst) : Int))) then
                                  let v14 := (List.getD v3.fst.snd.snd.snd.fst (Int.toNat v11) (zero (Ty.slice (Ty.cpx FloatKind.f32))))
                                  bif (decide (0 ≤ v3.snd.fst) && decide (v3.snd.fst < (↑(List.length v14) : Int))) then
                                    let v15 := (List.getD v14 (Int.toNat v3.snd.fst) (zero (Ty.cpx FloatKind.f32)))
                                    let v16 := (k13 (v13.fst, v15, ()))
                                    bif (v16) then
                                      let v17 := (g13 (v13.fst, v15, ()))
                                      h ((v17.1), ())
                                    else
                                      none
                                  else
                                    none
                                else
                                  none
                            else
                              h ((false), ())
                    else
                      none
              else
                none
            else
              none
          else
            none
        else
          none
  else
    none
theorem evN3 (k7 : Den A7 → Bool) (g7 : Den A7 → Den R7) (k8 : Den A8 → Bool) (g8 : Den A8 → Den R8) (k9 : Den A9 → Bool) (g9 : Den A9 → Den R9) (k10 : Den A10 → Bool) (g10 : Den A10 → Den R10) (k11 : Den A11 → Bool) (g11 : Den A11 → Den R11) (k12 : Den A12 → Bool) (g12 : Den A12 → Den R12) (k13 : Den A13 → Bool) (g13 : Den A13 → Den R13) (pT8 : Den A8 → Bool) (QT8 : Den A8 → Den R8 → Prop) (eT8 : Nonempty (ChT A8 R8 pT8 QT8)) (h : Den R3 → Option Unit) (x : Den A3) : callN (Γ3 k7 g7 k8 g8 k9 g9 k10 g10 k11 g11 k12 g12 k13 g13) (N3 pT8 QT8 eT8) (bodyOf Try.f3) (decRH R3 h) (encA A3 x) [] = rN3 k7 g7 k8 g8 k9 g9 k10 g10 k11 g11 k12 g12 k13 g13 pT8 QT8 eT8 h x := by kernel_rfl

end Go.Proofs.Ytmmdjajebmihhaa.AM

/- Plainly: the draws of winds: they give something, whatever the language leaves open. Conditions: those that each lemma names. -/
namespace Go.Proofs.Ytmmdjajebmihhaa.AM
open Go Go.Proofs
set_option linter.unusedVariables false

/-! ## Draws, by what they give -/

def Pst {α : Type} (o : Option α) (P : α → Prop) : Prop := ∃ y, o = some y ∧ P y
theorem pst_some {α : Type} {y : α} {P : α → Prop} (h : P y) : Pst (some y) P := ⟨y, rfl, h⟩
theorem pst_t {α : Type} {c : Bool} {a b : Option α} {P : α → Prop} (hc : c = true) (h : Pst a P) : Pst (bif c then a else b) P := by rw [hc]; exact h
theorem pst_b {α : Type} {c : Bool} {a b : Option α} {P : α → Prop} (h1 : c = true → Pst a P) (h2 : c = false → Pst b P) : Pst (bif c then a else b) P := by
  cases c
  · exact h2 rfl
  · exact h1 rfl
theorem pst_k {α : Type} {o : Option α} {P : α → Prop} (h : Pst o P) : o.isSome = true := by obtain ⟨y, e, _⟩ := h; rw [e]; rfl
theorem pst_g {α : Type} {o : Option α} {P : α → Prop} (z : α) (h : Pst o P) : P (o.getD z) := by obtain ⟨y, e, h⟩ := h; rw [e]; exact h
theorem all_t {c : Bool} {a b : Option Unit} (hc : c = true) (h : a = some ()) : (bif c then a else b) = some () := by rw [hc]; exact h
theorem all_b {c : Bool} {a b : Option Unit} (h1 : c = true → a = some ()) (h2 : c = false → b = some ()) : (bif c then a else b) = some () := by
  cases c
  · exact h2 rfl
  · exact h1 rfl


theorem odd_ok (x : I106.den) (h : CurOk x.2.1) : Pst (F106 x) fun y => CurOk y.2.1 := by
  unfold F106 r106
  dsimp only
  (repeat' (with_reducible first | refine pst_some ?_ | refine pst_t (K66_ok _ (by (repeat ((try dsimp only); first | assumption | (with_reducible first | apply G66_cur | apply G45_cur))))) ?_ | refine pst_t (K45_ok _ (by (repeat ((try dsimp only); first | assumption | (with_reducible first | apply G66_cur | apply G45_cur))))) ?_ | refine pst_b (fun _ => ?_) (fun _ => ?_))) <;> (repeat ((try dsimp only); first | assumption | (with_reducible first | apply G66_cur | apply G45_cur)))
theorem K106_ok (x : I106.den) (h : CurOk x.2.1) : K106 x = true := pst_k (odd_ok x h)
theorem G106_cur (x : I106.den) (h : CurOk x.2.1) : CurOk (G106 x).2.1 := pst_g _ (odd_ok x h)

theorem real_ok (x : I80.den) (h : CurOk x.2.1) : Pst (F80 x) fun y => CurOk y.2.1 := by
  unfold F80 r80
  dsimp only
  refine pst_t (K45_ok _ (by (repeat ((try dsimp only); first | assumption | (with_reducible first | apply G106_cur | apply G66_cur | apply G45_cur))))) ?_
  refine pst_b (fun _ => ?_) (fun _ => ?_)
  · refine pst_t (K106_ok _ (by (repeat ((try dsimp only); first | assumption | (with_reducible first | apply G106_cur | apply G66_cur | apply G45_cur))))) ?_
    exact pst_some (by (repeat ((try dsimp only); first | assumption | (with_reducible first | apply G106_cur | apply G66_cur | apply G45_cur))))
  · (repeat' (with_reducible first | refine pst_some ?_ | refine pst_t (K66_ok _ (by (repeat ((try dsimp only); first | assumption | (with_reducible first | apply G106_cur | apply G66_cur | apply G45_cur))))) ?_ | refine pst_t (K45_ok _ (by (repeat ((try dsimp only); first | assumption | (with_reducible first | apply G106_cur | apply G66_cur | apply G45_cur))))) ?_ | refine pst_b (fun _ => ?_) (fun _ => ?_))) <;> (repeat ((try dsimp only); first | assumption | (with_reducible first | apply G106_cur | apply G66_cur | apply G45_cur)))
theorem K80_ok (x : I80.den) (h : CurOk x.2.1) : K80 x = true := pst_k (real_ok x h)
theorem G80_cur (x : I80.den) (h : CurOk x.2.1) : CurOk (G80 x).2.1 := pst_g _ (real_ok x h)

theorem number_ok (x : I75.den) (h : CurOk x.2.1) : Pst (F75 x) fun y => CurOk y.2.1 := by
  unfold F75 r75
  dsimp only
  refine pst_t (K66_ok _ (by (repeat ((try dsimp only); first | assumption | (with_reducible first | apply G80_cur | apply G106_cur | apply G66_cur | apply G45_cur))))) ?_
  refine pst_b (fun _ => ?_) (fun _ => ?_)
  · refine pst_t (K76_ok _ (by (repeat ((try dsimp only); first | assumption | (with_reducible first | apply G80_cur | apply G106_cur | apply G66_cur | apply G45_cur)))) (by simp)) ?_
    exact pst_some (G76_cur _ (by (repeat ((try dsimp only); first | assumption | (with_reducible first | apply G80_cur | apply G106_cur | apply G66_cur | apply G45_cur)))) (by simp))
  · (repeat' (with_reducible first | refine pst_some ?_ | refine pst_t (K66_ok _ (by (repeat ((try dsimp only); first | assumption | (with_reducible first | apply G80_cur | apply G106_cur | apply G66_cur | apply G45_cur))))) ?_ | refine pst_t (K45_ok _ (by (repeat ((try dsimp only); first | assumption | (with_reducible first | apply G80_cur | apply G106_cur | apply G66_cur | apply G45_cur))))) ?_ | refine pst_b (fun _ => ?_) (fun _ => ?_))) <;> (repeat ((try dsimp only); first | assumption | (with_reducible first | apply G80_cur | apply G106_cur | apply G66_cur | apply G45_cur)))
theorem K75_ok (x : I75.den) (h : CurOk x.2.1) : K75 x = true := pst_k (number_ok x h)
theorem G75_cur (x : I75.den) (h : CurOk x.2.1) : CurOk (G75 x).2.1 := pst_g _ (number_ok x h)

/-! ## What is known ahead of a draw -/

def curB (c : List Int × Int × Int × Unit) : Bool := decide (0 ≤ c.2.1) && decide (c.1.length ≤ 1048576)
theorem curB_iff {c : List Int × Int × Int × Unit} : curB c = true ↔ CurOk c := by unfold curB CurOk; simp
def curZ : List Int × Int × Int × Unit := ([], 0, 0, ())
theorem curZ_ok : CurOk curZ := ⟨Int.le_refl 0, Nat.zero_le _⟩

/-! ## A single -/

def p107 (x : I107.den) : Bool := curB x.2.1
def Q107 (x : I107.den) (y : O107.den) : Prop := CurOk y.2.1
theorem e107 : Nonempty (Ch I107 O107 p107 Q107) := ⟨⟨fun _ => ((0, ()), (curZ, ())), fun _ _ => curZ_ok⟩⟩
theorem fam107 : FamOK Try.prog 107 (sgFam true I107 O107 p107 Q107 e107) := sgN_ok env107 (N := N107) (mkN_ok trivial) is107 noNLoops fun x hx k hk => by
  have h : CurOk x.2.1 := curB_iff.1 hx
  refine Eq.trans (evN107 _ _ k x) ?_
  unfold rN107
  dsimp only
  refine all_t (K80_ok _ (by (repeat ((try dsimp only); first | assumption | (with_reducible first | apply G75_cur | apply G80_cur | apply G106_cur | apply G66_cur | apply G45_cur))))) ?_
  refine all_b (fun hb => ?_) (fun _ => ?_)
  · refine all_t hb ?_
    exact hk _ (by show CurOk _; (repeat ((try dsimp only); first | assumption | (with_reducible first | apply G75_cur | apply G80_cur | apply G106_cur | apply G66_cur | apply G45_cur))))
  · exact allK_intro fun z => hk _ (by show CurOk _; (repeat ((try dsimp only); first | assumption | (with_reducible first | apply G75_cur | apply G80_cur | apply G106_cur | apply G66_cur | apply G45_cur))))


theorem below_bd (n : Int) (c : List Int × Int × Int × Unit) (h : CurOk c) (hn : 0 < n) : 0 ≤ ((G66 (((), n, ()), c, ())).1.1 : Int) ∧ ((G66 (((), n, ()), c, ())).1.1 : Int) < n := by
  obtain ⟨_, h1, h2⟩ := G66_ok (((), n, ()), c, ()) h
  exact ⟨h1, h2 hn⟩

/-! ## Winds -/

def p90 (x : I90.den) : Bool := curB x.2.1
def Q90 (x : I90.den) (y : O90.den) : Prop := CurOk y.2.1
theorem e90 : Nonempty (Ch I90 O90 p90 Q90) := ⟨⟨fun _ => (((0, 0), ()), (curZ, ())), fun _ _ => curZ_ok⟩⟩
theorem fam90 : FamOK Try.prog 90 (sgFam true I90 O90 p90 Q90 e90) := sgN_ok env90 (N := N90 p107 Q107 e107) (mkN_ok ⟨fam107, trivial⟩) is90 noNLoops fun x hx k hk => by
  have hk : ∀ y : O90.den, CurOk y.2.1 → k y = some () := hk
  have h : CurOk x.2.1 := curB_iff.1 hx
  refine Eq.trans (evN90 _ _ _ _ _ _ _ _ _ _ _ k x) ?_
  unfold rN90
  dsimp only
  haveI := e107
  refine all_t (K45_ok _ (by (repeat ((try dsimp only); first | assumption | (with_reducible first | apply G75_cur | apply G80_cur | apply G106_cur | apply G66_cur | apply G45_cur))))) ?_
  refine all_b (fun _ => ?_) (fun _ => ?_)
  · refine all_t (K106_ok _ (by (repeat ((try dsimp only); first | assumption | (with_reducible first | apply G75_cur | apply G80_cur | apply G106_cur | apply G66_cur | apply G45_cur))))) ?_
    refine all_b (fun h1 => ?_) (fun _ => ?_)
    · refine all_t h1 ?_
      refine all_t (K106_ok _ (by (repeat ((try dsimp only); first | assumption | (with_reducible first | apply G75_cur | apply G80_cur | apply G106_cur | apply G66_cur | apply G45_cur))))) ?_
      refine all_b (fun h2 => ?_) (fun _ => ?_)
      · refine all_t h2 ?_
        exact hk _ (by (repeat ((try dsimp only); first | assumption | (with_reducible first | apply G75_cur | apply G80_cur | apply G106_cur | apply G66_cur | apply G45_cur))))
      · exact allK_intro fun z => hk _ (by (repeat ((try dsimp only); first | assumption | (with_reducible first | apply G75_cur | apply G80_cur | apply G106_cur | apply G66_cur | apply G45_cur))))
    · refine allK_intro fun z => ?_
      refine all_t (K106_ok _ (by (repeat ((try dsimp only); first | assumption | (with_reducible first | apply G75_cur | apply G80_cur | apply G106_cur | apply G66_cur | apply G45_cur))))) ?_
      refine all_b (fun h2 => ?_) (fun _ => ?_)
      · refine all_t h2 ?_
        exact hk _ (by (repeat ((try dsimp only); first | assumption | (with_reducible first | apply G75_cur | apply G80_cur | apply G106_cur | apply G66_cur | apply G45_cur))))
      · exact allK_intro fun z => hk _ (by (repeat ((try dsimp only); first | assumption | (with_reducible first | apply G75_cur | apply G80_cur | apply G106_cur | apply G66_cur | apply G45_cur))))
  · refine all_t (K45_ok _ (by (repeat ((try dsimp only); first | assumption | (with_reducible first | apply G75_cur | apply G80_cur | apply G106_cur | apply G66_cur | apply G45_cur))))) ?_
    have c3 : CurOk (G45 (((), 20, ()), (G45 (((), 30, ()), x.snd)).snd)).snd.fst := by (repeat ((try dsimp only); first | assumption | (with_reducible first | apply G75_cur | apply G80_cur | apply G106_cur | apply G66_cur | apply G45_cur)))
    generalize G45 (((), 20, ()), (G45 (((), 30, ()), x.snd)).snd) = A at *
    refine all_b (fun _ => ?_) (fun _ => ?_)
    · refine all_t (K76_ok _ c3 (by simp)) ?_
      have c9 := G76_cur (((), (), ()), A.snd.fst, ((((List.replicate 4 (zero (Ty.int IntKind.i64))).set 0 100).set 1 (-100)).set 2 101).set 3 0, ()) c3 (by simp)
      refine allK_intro fun g => ?_
      have hp : p107 (((), 100, ()), (G76 (((), (), ()), A.snd.fst, ((((List.replicate 4 (zero (Ty.int IntKind.i64))).set 0 100).set 1 (-100)).set 2 101).set 3 0, ())).snd.fst, ()) = true := curB_iff.2 c9
      refine all_t hp ?_
      exact hk _ (g.2 _ hp)
    · refine allK_intro fun g => ?_
      have hp : p107 (((), 15, ()), A.snd) = true := curB_iff.2 c3
      refine all_t hp ?_
      refine allK_intro fun g2 => ?_
      have hp2 : p107 (((), 15, ()), (g.val (((), 15, ()), A.snd)).snd) = true := curB_iff.2 (g.2 _ hp)
      refine all_t hp2 ?_
      exact hk _ (g2.2 _ hp2)

def p74 (x : I74.den) : Bool := curB x.2.1
def Q74 (x : I74.den) (y : O74.den) : Prop := CurOk y.2.1
theorem e74 : Nonempty (Ch I74 O74 p74 Q74) := ⟨⟨fun _ => (((0, 0), ()), (curZ, ())), fun _ _ => curZ_ok⟩⟩
theorem fam74 : FamOK Try.prog 74 (sgFam true I74 O74 p74 Q74 e74) := sgN_ok env74 (N := N74 p90 Q90 e90) (mkN_ok ⟨fam90, trivial⟩) is74 noNLoops fun x hx k hk => by
  have hk : ∀ y : O74.den, CurOk y.2.1 → k y = some () := hk
  have h : CurOk x.2.1 := curB_iff.1 hx
  refine Eq.trans (evN74 _ _ _ _ _ _ _ _ _ k x) ?_
  unfold rN74
  dsimp only
  haveI := e90
  refine all_t (K45_ok _ (by (repeat ((try dsimp only); first | assumption | (with_reducible first | apply G75_cur | apply G80_cur | apply G106_cur | apply G66_cur | apply G45_cur))))) ?_
  have c1 : CurOk (G45 (((), 12, ()), x.snd)).snd.fst := by (repeat ((try dsimp only); first | assumption | (with_reducible first | apply G75_cur | apply G80_cur | apply G106_cur | apply G66_cur | apply G45_cur)))
  generalize G45 (((), 12, ()), x.snd) = A at *
  refine all_b (fun _ => ?_) (fun _ => ?_)
  · refine allK_intro fun g => ?_
    have hp : p90 (((), ()), A.snd) = true := curB_iff.2 c1
    refine all_t hp ?_
    exact hk _ (g.2 _ hp)
  · refine all_t (K66_ok _ (by (repeat ((try dsimp only); first | assumption | (with_reducible first | apply G75_cur | apply G80_cur | apply G106_cur | apply G66_cur | apply G45_cur))))) ?_
    refine all_t (K66_ok _ (by (repeat ((try dsimp only); first | assumption | (with_reducible first | apply G75_cur | apply G80_cur | apply G106_cur | apply G66_cur | apply G45_cur))))) ?_
    exact hk _ (by (repeat ((try dsimp only); first | assumption | (with_reducible first | apply G75_cur | apply G80_cur | apply G106_cur | apply G66_cur | apply G45_cur))))

end Go.Proofs.Ytmmdjajebmihhaa.AM
