/- Texts of one proof, joined: an abstract machine for the program, its functions evaluated, plain lemmas. Conditions: those that each lemma names. -/
import Derived.Test.YtmmdjajebmihhaaM4

/- What functions of the program make of their arguments; each is what its evaluation says. Printed by fx.py. -/
namespace Go.Proofs.Ytmmdjajebmihhaa.AM
open Go Go.Proofs
set_option linter.unusedVariables false
set_option maxRecDepth 100000
set_option maxHeartbeats 0

/- "loop.example/g03321/impl.boatOk" -/
abbrev A109 : Ty := .cons (.flt .f32) (.nil)
abbrev R109 : Ty := .cons (.bool) (.nil)
noncomputable def Γ109 : Env := mkEnv tab eqs [] 9 [.tmp 2] [] [] [] [] []
def r109 (x : Den A109) : Option (Den R109) :=
  bif (fgt FloatKind.f32 x.fst 0 || feq FloatKind.f32 x.fst 0) then
    some ((flt FloatKind.f32 x.fst 1112014848 || feq FloatKind.f32 x.fst 1112014848), ())
  else
    some ((false), ())
theorem ev109 (x : Den A109) : callK (Γ109) (bodyOf Try.f109) (decR R109) (encA A109 x) [] = r109 x := by kernel_rfl
def F109 (x : Den A109) : Option (Den R109) := r109 x
def K109 (x : Den A109) : Bool := (F109 x).isSome
def G109 (x : Den A109) : Den R109 := (F109 x).getD (zero R109)
theorem env109 : EnvOK Try.prog (Γ109) := env_ok mixed tab_ok eqs_ok .nil
theorem is109 : FnIs Try.prog 109 (Γ109) (bodyOf Try.f109) := fnIs Try.func109 rfl rfl rfl (by kernel_rfl) (noLoops (by kernel_rfl))
theorem sem109 : SemOK Try.prog (109, fnMean A109 R109 K109 G109) := fn_opt env109 is109 fun x => ev109 x

/- "loop.example/g03321/impl.LegOk" -/
abbrev A92 : Ty := .cons (S53) (.nil)
abbrev R92 : Ty := .cons (.bool) (.nil)
noncomputable def Γ92 (k109 : Den A109 → Bool) (g109 : Den A109 → Den R109) (k48 : Den A48 → Bool) (g48 : Den A48 → Den R48) : Env := mkEnv tab eqs [(109, fnMean A109 R109 k109 g109), (48, fnMean A48 R48 k48 g48)] 11 [.tmp 2] [] [] [] [] []
def r92 (k109 : Den A109 → Bool) (g109 : Den A109 → Den R109) (k48 : Den A48 → Bool) (g48 : Den A48 → Den R48) (x : Den A92) : Option (Den R92) :=
  let v0 := (k109 (x.fst.snd.fst, ()))
  bif (v0) then
    let v1 := (g109 (x.fst.snd.fst, ()))
    bif (v1.1) then
      let v2 := (k48 (x.fst.snd.snd.fst, 0, 100000, ()))
      bif (v2) then
        let v3 := (g48 (x.fst.snd.snd.fst, 0, 100000, ()))
        some ((v3.1), ())
      else
        none
    else
      some ((false), ())
  else
    none
theorem ev92 (k109 : Den A109 → Bool) (g109 : Den A109 → Den R109) (k48 : Den A48 → Bool) (g48 : Den A48 → Den R48) (x : Den A92) : callK (Γ92 k109 g109 k48 g48) (bodyOf Try.f92) (decR R92) (encA A92 x) [] = r92 k109 g109 k48 g48 x := by kernel_rfl
def F92 (x : Den A92) : Option (Den R92) := r92 K109 G109 K48 G48 x
def K92 (x : Den A92) : Bool := (F92 x).isSome
def G92 (x : Den A92) : Den R92 := (F92 x).getD (zero R92)
theorem env92 : EnvOK Try.prog (Γ92 K109 G109 K48 G48) := env_ok mixed tab_ok eqs_ok (.cons sem109 (.cons sem48 .nil))
theorem is92 : FnIs Try.prog 92 (Γ92 K109 G109 K48 G48) (bodyOf Try.f92) := fnIs Try.func92 rfl rfl rfl (by kernel_rfl) (noLoops (by kernel_rfl))
theorem sem92 : SemOK Try.prog (92, fnMean A92 R92 K92 G92) := fn_opt env92 is92 fun x => ev92 K109 G109 K48 G48 x

/- "loop.example/g03321/impl.legsOk" -/
abbrev A62 : Ty := .cons (.slice (S53)) (.nil)
abbrev R62 : Ty := .cons (.bool) (.nil)
abbrev V62_2 : Type := (((List (Den (S53))) × ((List (Den (S53))) × (Int × (Int × Unit)))) × Unit)
def sh62_2 : ShS := ⟨[(0, .one (.sl (S53))), (5, .one (.sl (S53))), (6, .one (.int .i64)), (7, .one (.int .i64))], [], 0, 0⟩
abbrev X62_2 : Type := (((List (Den (S53))) × Unit) × Unit)
def shX62_2 : ShS := ⟨[(0, .one (.sl (S53)))], [], 0, 0⟩
abbrev Y62_2 : Type := ((Bool × Unit) × Unit)
def shY62_2 : ShS := ⟨[(2, .one (.bool))], [], 0, 0⟩
noncomputable def Γ62 (k92 : Den A92 → Bool) (g92 : Den A92 → Den R92) (kl2 : V62_2 → Bool) (xl2 : V62_2 → X62_2) (tl2 : V62_2 → Bool) (yl2 : V62_2 → Y62_2) : Env := mkEnv tab eqs [(92, fnMean A92 R92 k92 g92)] 18 [.tmp 2] [] [] [(2, loopR [0, 5, 6, 7] [] 0 [0] [] sh62_2 shX62_2 shY62_2 kl2 tl2 xl2 yl2)] [] []
noncomputable def lc62_2 : Code := (loopsOf (bodyOf Try.f62)).getD 0 .skip
def q62_2 (k92 : Den A92 → Bool) (g92 : Den A92 → Den R92) (f : V62_2 → Option (X62_2 ⊕ Y62_2)) (v : V62_2) : Option (X62_2 ⊕ Y62_2) :=
  bif (decide (v.fst.snd.snd.snd.fst < v.fst.snd.snd.fst)) then
    bif (decide (0 ≤ v.fst.snd.snd.snd.fst) && decide (v.fst.snd.snd.snd.fst < (↑(List.length v.fst.snd.fst) : Int))) then
      let v0 := (List.getD v.fst.snd.fst (Int.toNat v.fst.snd.snd.snd.fst) (zero S53))
      let v1 := (k92 (v0, ()))
      bif (v1) then
        let v2 := (g92 (v0, ()))
        bif (!v2.fst) then
          some (Sum.inr (((false), ()), ()))
        else
          let v3 := (IntKind.wrap IntKind.i64 (v.fst.snd.snd.snd.fst + 1))
          f (((v.fst.1), ((v.fst.snd.1), ((v.fst.snd.snd.1), ((v3), ())))), ())
      else
        none
    else
      none
  else
    some (Sum.inl (((v.fst.1), ()), ()))
theorem evl62_2 (k92 : Den A92 → Bool) (g92 : Den A92 → Den R92) (kl2 : V62_2 → Bool) (xl2 : V62_2 → X62_2) (tl2 : V62_2 → Bool) (yl2 : V62_2 → Y62_2) (f : V62_2 → Option (X62_2 ⊕ Y62_2)) (v : V62_2) : EBk (Γ62 k92 g92 kl2 xl2 tl2 yl2) lc62_2 (roundK [0, 5, 6, 7] [] 0 [0] [] (atS sh62_2 f) (endS shX62_2 shY62_2)) (mkS sh62_2 v) = q62_2 k92 g92 f v := by kernel_rfl
def b62_2 (v : V62_2) : Nat := v.1.1.length + v.1.2.1.length + v.1.2.2.1.natAbs + v.1.2.2.2.1.natAbs + 1000
def l62_2 (v : V62_2) : Option (X62_2 ⊕ Y62_2) := iter (q62_2 K92 G92) (b62_2 v) v
def kL62_2 (v : V62_2) : Bool := (l62_2 v).isSome
def tL62_2 (v : V62_2) : Bool := isR (l62_2 v)
def xL62_2 (v : V62_2) : X62_2 := xOf (([], ()), ()) (l62_2 v)
def yL62_2 (v : V62_2) : Y62_2 := yOf ((false, ()), ()) (l62_2 v)
def r62 (k92 : Den A92 → Bool) (g92 : Den A92 → Den R92) (kl2 : V62_2 → Bool) (xl2 : V62_2 → X62_2) (tl2 : V62_2 → Bool) (yl2 : V62_2 → Y62_2) (x : Den A62) : Option (Den R62) :=
  let v0 := (kl2 ((x.fst, x.fst, (↑(List.length x.fst) : Int), 0, ()), ()))
  bif (v0) then
    let v1 := (tl2 ((x.fst, x.fst, (↑(List.length x.fst) : Int), 0, ()), ()))
    bif (v1) then
      let v2 := (yl2 ((x.fst, x.fst, (↑(List.length x.fst) : Int), 0, ()), ()))
      some ((v2.fst.1), ())
    else
      let v2 := (xl2 ((x.fst, x.fst, (↑(List.length x.fst) : Int), 0, ()), ()))
      some ((decide ((↑(List.length v2.fst.fst) : Int) ≤ 50)), ())
  else
    none
theorem ev62 (k92 : Den A92 → Bool) (g92 : Den A92 → Den R92) (kl2 : V62_2 → Bool) (xl2 : V62_2 → X62_2) (tl2 : V62_2 → Bool) (yl2 : V62_2 → Y62_2) (x : Den A62) : callK (Γ62 k92 g92 kl2 xl2 tl2 yl2) (bodyOf Try.f62) (decR R62) (encA A62 x) [] = r62 k92 g92 kl2 xl2 tl2 yl2 x := by kernel_rfl
def F62 (x : Den A62) : Option (Den R62) := r62 K92 G92 kL62_2 xL62_2 tL62_2 yL62_2 x
def K62 (x : Den A62) : Bool := (F62 x).isSome
def G62 (x : Den A62) : Den R62 := (F62 x).getD (zero R62)
theorem env62 : EnvOK Try.prog (Γ62 K92 G92 kL62_2 xL62_2 tL62_2 yL62_2) := env_ok mixed tab_ok eqs_ok (.cons sem92 .nil)
theorem is62 : FnIs Try.prog 62 (Γ62 K92 G92 kL62_2 xL62_2 tL62_2 yL62_2) (bodyOf Try.f62) := fnIs Try.func62 rfl rfl rfl (by kernel_rfl) (loops_ok (l := [lc62_2]) (by kernel_rfl) (.cons (one_loop rfl (loopR_sound (sh := sh62_2) (shX := shX62_2) (shR := shY62_2) (fun f v => evl62_2 K92 G92 kL62_2 xL62_2 tL62_2 yL62_2 f v) b62_2 (([], ()), ()) ((false, ()), ()))) (.nil)))
theorem sem62 : SemOK Try.prog (62, fnMean A62 R62 K62 G62) := fn_opt env62 is62 fun x => ev62 K92 G92 kL62_2 xL62_2 tL62_2 yL62_2 x

/- "loop.example/g03321/impl.TideOk" -/
abbrev A99 : Ty := .cons (S48) (.nil)
abbrev R99 : Ty := .cons (.bool) (.nil)
abbrev V99_4 : Type := ((Unit × ((List (Den (S96))) × (Int × (Int × Unit)))) × (((List (Den (S96))) × ((List (Den (.int .i64))) × Unit)) × Unit))
def sh99_4 : ShS := ⟨[(1, .one (.ptr 0 0)), (20, .one (.sl (S96))), (21, .one (.int .i64)), (22, .one (.int .i64))], [(0, .box [.sl (S96), .sl (.int .i64)])], 1, 0⟩
abbrev X99_4 : Type := ((Unit × Unit) × (((List (Den (S96))) × ((List (Den (.int .i64))) × Unit)) × Unit))
def shX99_4 : ShS := ⟨[(1, .one (.ptr 0 0))], [(0, .box [.sl (S96), .sl (.int .i64)])], 1, 0⟩
abbrev Y99_4 : Type := ((Bool × Unit) × Unit)
def shY99_4 : ShS := ⟨[(2, .one (.bool))], [], 0, 0⟩
abbrev V99_10 : Type := ((Unit × ((List (Den (.int .i64))) × (Int × (Int × Unit)))) × (((List (Den (S96))) × ((List (Den (.int .i64))) × Unit)) × Unit))
def sh99_10 : ShS := ⟨[(1, .one (.ptr 0 0)), (38, .one (.sl (.int .i64))), (39, .one (.int .i64)), (40, .one (.int .i64))], [(0, .box [.sl (S96), .sl (.int .i64)])], 1, 0⟩
abbrev X99_10 : Type := (Unit × Unit)
def shX99_10 : ShS := ⟨[], [], 0, 0⟩
abbrev Y99_10 : Type := ((Bool × Unit) × Unit)
def shY99_10 : ShS := ⟨[(2, .one (.bool))], [], 0, 0⟩
noncomputable def Γ99 (k48 : Den A48 → Bool) (g48 : Den A48 → Den R48) (k41 : Den A41 → Bool) (g41 : Den A41 → Den R41) (k77 : Den A77 → Bool) (g77 : Den A77 → Den R77) (k37 : Den A37 → Bool) (g37 : Den A37 → Den R37) (kl4 : V99_4 → Bool) (xl4 : V99_4 → X99_4) (tl4 : V99_4 → Bool) (yl4 : V99_4 → Y99_4) (kl10 : V99_10 → Bool) (xl10 : V99_10 → X99_10) (tl10 : V99_10 → Bool) (yl10 : V99_10 → Y99_10) : Env := mkEnv tab eqs [(48, fnMean A48 R48 k48 g48), (41, fnMean A41 R41 k41 g41), (77, fnMean A77 R77 k77 g77), (37, fnMean A37 R37 k37 g37)] 64 [.tmp 2] [] [] [(4, loopR [1, 20, 21, 22] [] 0 [1] [] sh99_4 shX99_4 shY99_4 kl4 tl4 xl4 yl4), (10, loopR [1, 38, 39, 40] [] 2 [] [] sh99_10 shX99_10 shY99_10 kl10 tl10 xl10 yl10)] [] []
noncomputable def lc99_4 : Code := (loopsOf (bodyOf Try.f99)).getD 0 .skip
noncomputable def lc99_10 : Code := (loopsOf (bodyOf Try.f99)).getD 1 .skip
def q99_10 (k48 : Den A48 → Bool) (g48 : Den A48 → Den R48) (k41 : Den A41 → Bool) (g41 : Den A41 → Den R41) (k77 : Den A77 → Bool) (g77 : Den A77 → Den R77) (k37 : Den A37 → Bool) (g37 : Den A37 → Den R37) (f : V99_10 → Option (X99_10 ⊕ Y99_10)) (v : V99_10) : Option (X99_10 ⊕ Y99_10) :=
  bif (decide (v.fst.snd.snd.snd.fst < v.fst.snd.snd.fst)) then
    bif (decide (0 ≤ v.fst.snd.snd.snd.fst) && decide (v.fst.snd.snd.snd.fst < (↑(List.length v.fst.snd.fst) : Int))) then
      let v0 := (List.getD v.fst.snd.fst (Int.toNat v.fst.snd.snd.snd.fst) (zero (Ty.int IntKind.i64)))
      let v1 := (k37 (v0, ()))
      bif (v1) then
        let v2 := (g37 (v0, ()))
        bif (!v2.fst) then
          some (Sum.inr (((false), ()), ()))
        else
          bif (decide (v.fst.snd.snd.snd.fst > 0)) then
            let v3 := (IntKind.wrap IntKind.i64 (v.fst.snd.snd.snd.fst - 1))
            bif (decide (0 ≤ v3) && decide (v3 < (↑(List.length v.snd.fst.snd.fst) : Int))) then
              let v4 := (List.getD v.snd.fst.snd.fst (Int.toNat v3) (zero (Ty.int IntKind.i64)))
              let v5 := (IntKind.wrap IntKind.i64 (v4 + 21600))
              bif (decide (v0 < v5)) then
                some (Sum.inr (((false), ()), ()))
              else
                let v6 := (IntKind.wrap IntKind.i64 (v.fst.snd.snd.snd.fst + 1))
                f (((), ((v.fst.snd.1), ((v.fst.snd.snd.1), ((v6), ())))), (((v.snd.fst.1), ((v.snd.fst.snd.1), ())), ()))
            else
              none
          else
            let v3 := (IntKind.wrap IntKind.i64 (v.fst.snd.snd.snd.fst + 1))
            f (((), ((v.fst.snd.1), ((v.fst.snd.snd.1), ((v3), ())))), (((v.snd.fst.1), ((v.snd.fst.snd.1), ())), ()))
      else
        none
    else
      none
  else
    some (Sum.inl ((), ()))
theorem evl99_10 (k48 : Den A48 → Bool) (g48 : Den A48 → Den R48) (k41 : Den A41 → Bool) (g41 : Den A41 → Den R41) (k77 : Den A77 → Bool) (g77 : Den A77 → Den R77) (k37 : Den A37 → Bool) (g37 : Den A37 → Den R37) (kl4 : V99_4 → Bool) (xl4 : V99_4 → X99_4) (tl4 : V99_4 → Bool) (yl4 : V99_4 → Y99_4) (kl10 : V99_10 → Bool) (xl10 : V99_10 → X99_10) (tl10 : V99_10 → Bool) (yl10 : V99_10 → Y99_10) (f : V99_10 → Option (X99_10 ⊕ Y99_10)) (v : V99_10) : EBk (Γ99 k48 g48 k41 g41 k77 g77 k37 g37 kl4 xl4 tl4 yl4 kl10 xl10 tl10 yl10) lc99_10 (roundK [1, 38, 39, 40] [] 2 [] [] (atS sh99_10 f) (endS shX99_10 shY99_10)) (mkS sh99_10 v) = q99_10 k48 g48 k41 g41 k77 g77 k37 g37 f v := by kernel_rfl
def b99_10 (v : V99_10) : Nat := v.1.2.1.length + v.1.2.2.1.natAbs + v.1.2.2.2.1.natAbs + v.2.1.1.length + v.2.1.2.1.length + 1000
def l99_10 (v : V99_10) : Option (X99_10 ⊕ Y99_10) := iter (q99_10 K48 G48 K41 G41 K77 G77 K37 G37) (b99_10 v) v
def kL99_10 (v : V99_10) : Bool := (l99_10 v).isSome
def tL99_10 (v : V99_10) : Bool := isR (l99_10 v)
def xL99_10 (v : V99_10) : X99_10 := xOf ((), ()) (l99_10 v)
def yL99_10 (v : V99_10) : Y99_10 := yOf ((false, ()), ()) (l99_10 v)
def q99_4 (k48 : Den A48 → Bool) (g48 : Den A48 → Den R48) (k41 : Den A41 → Bool) (g41 : Den A41 → Den R41) (k77 : Den A77 → Bool) (g77 : Den A77 → Den R77) (k37 : Den A37 → Bool) (g37 : Den A37 → Den R37) (f : V99_4 → Option (X99_4 ⊕ Y99_4)) (v : V99_4) : Option (X99_4 ⊕ Y99_4) :=
  bif (decide (v.fst.snd.snd.snd.fst < v.fst.snd.snd.fst)) then
    bif (decide (0 ≤ v.fst.snd.snd.snd.fst) && decide (v.fst.snd.snd.snd.fst < (↑(List.length v.fst.snd.fst) : Int))) then
      let v0 := (List.getD v.fst.snd.fst (Int.toNat v.fst.snd.snd.snd.fst) (zero S96))
      let v1 := (k41 (v0.fst, ()))
      bif (v1) then
        let v2 := (g41 (v0.fst, ()))
        bif (!v2.fst) then
          some (Sum.inr (((false), ()), ()))
        else
          let v3 := (k77 ([v0.snd.fst.fst, v0.snd.fst.snd.fst, v0.snd.fst.snd.snd.fst, v0.snd.fst.snd.snd.snd.fst, v0.snd.fst.snd.snd.snd.snd.fst, v0.snd.fst.snd.snd.snd.snd.snd.fst, v0.snd.fst.snd.snd.snd.snd.snd.snd.fst, v0.snd.fst.snd.snd.snd.snd.snd.snd.snd.fst, v0.snd.fst.snd.snd.snd.snd.snd.snd.snd.snd.fst, v0.snd.fst.snd.snd.snd.snd.snd.snd.snd.snd.snd.fst, v0.snd.fst.snd.snd.snd.snd.snd.snd.snd.snd.snd.snd.fst, v0.snd.fst.snd.snd.snd.snd.snd.snd.snd.snd.snd.snd.snd.fst, v0.snd.fst.snd.snd.snd.snd.snd.snd.snd.snd.snd.snd.snd.snd.fst], ()))
          bif (v3) then
            let v4 := (g77 ([v0.snd.fst.fst, v0.snd.fst.snd.fst, v0.snd.fst.snd.snd.fst, v0.snd.fst.snd.snd.snd.fst, v0.snd.fst.snd.snd.snd.snd.fst, v0.snd.fst.snd.snd.snd.snd.snd.fst, v0.snd.fst.snd.snd.snd.snd.snd.snd.fst, v0.snd.fst.snd.snd.snd.snd.snd.snd.snd.fst, v0.snd.fst.snd.snd.snd.snd.snd.snd.snd.snd.fst, v0.snd.fst.snd.snd.snd.snd.snd.snd.snd.snd.snd.fst, v0.snd.fst.snd.snd.snd.snd.snd.snd.snd.snd.snd.snd.fst, v0.snd.fst.snd.snd.snd.snd.snd.snd.snd.snd.snd.snd.snd.fst, v0.snd.fst.snd.snd.snd.snd.snd.snd.snd.snd.snd.snd.snd.snd.fst], ()))
            bif (!v4.fst) then
              some (Sum.inr (((false), ()), ()))
            else
              let v5 := (IntKind.wrap IntKind.i64 (v.fst.snd.snd.snd.fst + 1))
              f (((), ((v.fst.snd.1), ((v.fst.snd.snd.1), ((v5), ())))), (((v.snd.fst.1), ((v.snd.fst.snd.1), ())), ()))
          else
            none
      else
        none
    else
      none
  else
    some (Sum.inl (((), ()), (((v.snd.fst.1), ((v.snd.fst.snd.1), ())), ())))
theorem evl99_4 (k48 : Den A48 → Bool) (g48 : Den A48 → Den R48) (k41 : Den A41 → Bool) (g41 : Den A41 → Den R41) (k77 : Den A77 → Bool) (g77 : Den A77 → Den R77) (k37 : Den A37 → Bool) (g37 : Den A37 → Den R37) (kl4 : V99_4 → Bool) (xl4 : V99_4 → X99_4) (tl4 : V99_4 → Bool) (yl4 : V99_4 → Y99_4) (kl10 : V99_10 → Bool) (xl10 : V99_10 → X99_10) (tl10 : V99_10 → Bool) (yl10 : V99_10 → Y99_10) (f : V99_4 → Option (X99_4 ⊕ Y99_4)) (v : V99_4) : EBk (Γ99 k48 g48 k41 g41 k77 g77 k37 g37 kl4 xl4 tl4 yl4 kl10 xl10 tl10 yl10) lc99_4 (roundK [1, 20, 21, 22] [] 0 [1] [] (atS sh99_4 f) (endS shX99_4 shY99_4)) (mkS sh99_4 v) = q99_4 k48 g48 k41 g41 k77 g77 k37 g37 f v := by kernel_rfl
def b99_4 (v : V99_4) : Nat := v.1.2.1.length + v.1.2.2.1.natAbs + v.1.2.2.2.1.natAbs + v.2.1.1.length + v.2.1.2.1.length + 1000
def l99_4 (v : V99_4) : Option (X99_4 ⊕ Y99_4) := iter (q99_4 K48 G48 K41 G41 K77 G77 K37 G37) (b99_4 v) v
def kL99_4 (v : V99_4) : Bool := (l99_4 v).isSome
def tL99_4 (v : V99_4) : Bool := isR (l99_4 v)
def xL99_4 (v : V99_4) : X99_4 := xOf (((), ()), (([], ([], ())), ())) (l99_4 v)
def yL99_4 (v : V99_4) : Y99_4 := yOf ((false, ()), ()) (l99_4 v)
def r99 (k48 : Den A48 → Bool) (g48 : Den A48 → Den R48) (k41 : Den A41 → Bool) (g41 : Den A41 → Den R41) (k77 : Den A77 → Bool) (g77 : Den A77 → Den R77) (k37 : Den A37 → Bool) (g37 : Den A37 → Den R37) (kl4 : V99_4 → Bool) (xl4 : V99_4 → X99_4) (tl4 : V99_4 → Bool) (yl4 : V99_4 → Y99_4) (kl10 : V99_10 → Bool) (xl10 : V99_10 → X99_10) (tl10 : V99_10 → Bool) (yl10 : V99_10 → Y99_10) (x : Den A99) : Option (Den R99) :=
  let v0 := (k48 ((↑(List.length x.fst.fst) : Int), 1, 20, ()))
  bif (v0) then
    let v1 := (g48 ((↑(List.length x.fst.fst) : Int), 1, 20, ()))
    bif (!v1.fst) then
      some ((false), ())
    else
      let v2 := (k48 ((↑(List.length x.fst.snd.fst) : Int), 1, 60, ()))
      bif (v2) then
        let v3 := (g48 ((↑(List.length x.fst.snd.fst) : Int), 1, 60, ()))
        bif (!v3.fst) then
          some ((false), ())
        else
          let v4 := (kl4 (((), x.fst.fst, (↑(List.length x.fst.fst) : Int), 0, ()), x))
          bif (v4) then
            let v5 := (tl4 (((), x.fst.fst, (↑(List.length x.fst.fst) : Int), 0, ()), x))
            bif (v5) then
              let v6 := (yl4 (((), x.fst.fst, (↑(List.length x.fst.fst) : Int), 0, ()), x))
              some ((v6.fst.1), ())
            else
              let v6 := (xl4 (((), x.fst.fst, (↑(List.length x.fst.fst) : Int), 0, ()), x))
              let v7 := (kl10 (((), v6.snd.fst.snd.fst, (↑(List.length v6.snd.fst.snd.fst) : Int), 0, ()), v6.snd))
              bif (v7) then
                let v8 := (tl10 (((), v6.snd.fst.snd.fst, (↑(List.length v6.snd.fst.snd.fst) : Int), 0, ()), v6.snd))
                bif (v8) then
                  let v9 := (yl10 (((), v6.snd.fst.snd.fst, (↑(List.length v6.snd.fst.snd.fst) : Int), 0, ()), v6.snd))
                  some ((v9.fst.1), ())
                else
                  some ((true), ())
              else
                none
          else
            none
      else
        none
  else
    none
theorem ev99 (k48 : Den A48 → Bool) (g48 : Den A48 → Den R48) (k41 : Den A41 → Bool) (g41 : Den A41 → Den R41) (k77 : Den A77 → Bool) (g77 : Den A77 → Den R77) (k37 : Den A37 → Bool) (g37 : Den A37 → Den R37) (kl4 : V99_4 → Bool) (xl4 : V99_4 → X99_4) (tl4 : V99_4 → Bool) (yl4 : V99_4 → Y99_4) (kl10 : V99_10 → Bool) (xl10 : V99_10 → X99_10) (tl10 : V99_10 → Bool) (yl10 : V99_10 → Y99_10) (x : Den A99) : callK (Γ99 k48 g48 k41 g41 k77 g77 k37 g37 kl4 xl4 tl4 yl4 kl10 xl10 tl10 yl10) (bodyOf Try.f99) (decR R99) (encA A99 x) [] = r99 k48 g48 k41 g41 k77 g77 k37 g37 kl4 xl4 tl4 yl4 kl10 xl10 tl10 yl10 x := by kernel_rfl
def F99 (x : Den A99) : Option (Den R99) := r99 K48 G48 K41 G41 K77 G77 K37 G37 kL99_4 xL99_4 tL99_4 yL99_4 kL99_10 xL99_10 tL99_10 yL99_10 x
def K99 (x : Den A99) : Bool := (F99 x).isSome
def G99 (x : Den A99) : Den R99 := (F99 x).getD (zero R99)
theorem env99 : EnvOK Try.prog (Γ99 K48 G48 K41 G41 K77 G77 K37 G37 kL99_4 xL99_4 tL99_4 yL99_4 kL99_10 xL99_10 tL99_10 yL99_10) := env_ok mixed tab_ok eqs_ok (.cons sem48 (.cons sem41 (.cons sem77 (.cons sem37 .nil))))
theorem is99 : FnIs Try.prog 99 (Γ99 K48 G48 K41 G41 K77 G77 K37 G37 kL99_4 xL99_4 tL99_4 yL99_4 kL99_10 xL99_10 tL99_10 yL99_10) (bodyOf Try.f99) := fnIs Try.func99 rfl rfl rfl (by kernel_rfl) (loops_ok (l := [lc99_4, lc99_10]) (by kernel_rfl) (.cons (one_loop rfl (loopR_sound (sh := sh99_4) (shX := shX99_4) (shR := shY99_4) (fun f v => evl99_4 K48 G48 K41 G41 K77 G77 K37 G37 kL99_4 xL99_4 tL99_4 yL99_4 kL99_10 xL99_10 tL99_10 yL99_10 f v) b99_4 (((), ()), (([], ([], ())), ())) ((false, ()), ()))) (.cons (one_loop rfl (loopR_sound (sh := sh99_10) (shX := shX99_10) (shR := shY99_10) (fun f v => evl99_10 K48 G48 K41 G41 K77 G77 K37 G37 kL99_4 xL99_4 tL99_4 yL99_4 kL99_10 xL99_10 tL99_10 yL99_10 f v) b99_10 ((), ()) ((false, ()), ()))) (.nil))))
theorem sem99 : SemOK Try.prog (99, fnMean A99 R99 K99 G99) := fn_opt env99 is99 fun x => ev99 K48 G48 K41 G41 K77 G77 K37 G37 kL99_4 xL99_4 tL99_4 yL99_4 kL99_10 xL99_10 tL99_10 yL99_10 x

/- "loop.example/g03321/impl.NearStation" -/
abbrev A71 : Ty := .cons (S48) (.cons (.cpx .f64) (.nil))
abbrev R71 : Ty := .cons (.int .i64) (.nil)
abbrev V71_5 : Type := (((Nat × Nat) × (Int × (Nat × ((List (Den (S96))) × (Int × (Int × Unit)))))) × Unit)
def sh71_5 : ShS := ⟨[(1, .one (.cpx .f64)), (5, .one (.int .i64)), (6, .one (.flt .f64)), (20, .one (.sl (S96))), (21, .one (.int .i64)), (22, .one (.int .i64))], [], 0, 0⟩
abbrev X71_5 : Type := ((Int × Unit) × Unit)
def shX71_5 : ShS := ⟨[(5, .one (.int .i64))], [], 0, 0⟩
noncomputable def Γ71 (k99 : Den A99 → Bool) (g99 : Den A99 → Den R99) (k41 : Den A41 → Bool) (g41 : Den A41 → Den R41) (k42 : Den A42 → Bool) (g42 : Den A42 → Den R42) (k43 : Den A43 → Bool) (g43 : Den A43 → Den R43) (kl5 : V71_5 → Bool) (xl5 : V71_5 → X71_5) : Env := mkEnv tab eqs [(99, fnMean A99 R99 k99 g99), (41, fnMean A41 R41 k41 g41), (42, fnMean A42 R42 k42 g42), (43, fnMean A43 R43 k43 g43)] 45 [.tmp 4] [] [] [(5, loopX [1, 5, 6, 20, 21, 22] [] 0 [5] [] sh71_5 shX71_5 kl5 xl5)] [] []
noncomputable def lc71_5 : Code := (loopsOf (bodyOf Try.f71)).getD 0 .skip
def q71_5 (k99 : Den A99 → Bool) (g99 : Den A99 → Den R99) (k41 : Den A41 → Bool) (g41 : Den A41 → Den R41) (k42 : Den A42 → Bool) (g42 : Den A42 → Den R42) (k43 : Den A43 → Bool) (g43 : Den A43 → Den R43) (f : V71_5 → Option (X71_5)) (v : V71_5) : Option (X71_5) :=
  bif (decide (v.fst.snd.snd.snd.snd.snd.fst < v.fst.snd.snd.snd.snd.fst)) then
    bif (decide (0 ≤ v.fst.snd.snd.snd.snd.snd.fst) && decide (v.fst.snd.snd.snd.snd.snd.fst < (↑(List.length v.fst.snd.snd.snd.fst) : Int))) then
      let v0 := (List.getD v.fst.snd.snd.snd.fst (Int.toNat v.fst.snd.snd.snd.snd.snd.fst) (zero S96))
      let v1 := (k42 (v0.fst, v.fst.fst, ()))
      bif (v1) then
        let v2 := (g42 (v0.fst, v.fst.fst, ()))
        let v3 := (k43 (v2.fst, v2))
        bif (v3) then
          bif (decide (v.fst.snd.fst < 0)) then
            let v4 := (g43 (v2.fst, v2))
            let v5 := (IntKind.wrap IntKind.i64 (v.fst.snd.snd.snd.snd.snd.fst + 1))
            f ((((v.fst.fst.1), (v.fst.fst.2)), ((v.fst.snd.snd.snd.snd.snd.1), ((v4.1), ((v.fst.snd.snd.snd.1), ((v.fst.snd.snd.snd.snd.1), ((v5), ())))))), ())
          else
            let v4 := (g43 (v2.fst, v2))
            bif (flt FloatKind.f64 v4.fst v.fst.snd.snd.fst) then
              let v5 := (IntKind.wrap IntKind.i64 (v.fst.snd.snd.snd.snd.snd.fst + 1))
              f ((((v.fst.fst.1), (v.fst.fst.2)), ((v.fst.snd.snd.snd.snd.snd.1), ((v4.1), ((v.fst.snd.snd.snd.1), ((v.fst.snd.snd.snd.snd.1), ((v5), ())))))), ())
            else
              let v5 := (IntKind.wrap IntKind.i64 (v.fst.snd.snd.snd.snd.snd.fst + 1))
              f ((((v.fst.fst.1), (v.fst.fst.2)), ((v.fst.snd.1), ((v.fst.snd.snd.1), ((v.fst.snd.snd.snd.1), ((v.fst.snd.snd.snd.snd.1), ((v5), ())))))), ())
        else
          none
      else
        none
    else
      none
  else
    some (((v.fst.snd.1), ()), ())
theorem evl71_5 (k99 : Den A99 → Bool) (g99 : Den A99 → Den R99) (k41 : Den A41 → Bool) (g41 : Den A41 → Den R41) (k42 : Den A42 → Bool) (g42 : Den A42 → Den R42) (k43 : Den A43 → Bool) (g43 : Den A43 → Den R43) (kl5 : V71_5 → Bool) (xl5 : V71_5 → X71_5) (f : V71_5 → Option (X71_5)) (v : V71_5) : EBk (Γ71 k99 g99 k41 g41 k42 g42 k43 g43 kl5 xl5) lc71_5 (roundK [1, 5, 6, 20, 21, 22] [] 0 [5] [] (atS sh71_5 f) (endX shX71_5)) (mkS sh71_5 v) = q71_5 k99 g99 k41 g41 k42 g42 k43 g43 f v := by kernel_rfl
def b71_5 (v : V71_5) : Nat := v.1.2.1.natAbs + v.1.2.2.2.1.length + v.1.2.2.2.2.1.natAbs + v.1.2.2.2.2.2.1.natAbs + 1000
def l71_5 (v : V71_5) : Option (X71_5) := iter (q71_5 K99 G99 K41 G41 K42 G42 K43 G43) (b71_5 v) v
def kL71_5 (v : V71_5) : Bool := (l71_5 v).isSome
def xL71_5 (v : V71_5) : X71_5 := (l71_5 v).getD ((0, ()), ())
def r71 (k99 : Den A99 → Bool) (g99 : Den A99 → Den R99) (k41 : Den A41 → Bool) (g41 : Den A41 → Den R41) (k42 : Den A42 → Bool) (g42 : Den A42 → Den R42) (k43 : Den A43 → Bool) (g43 : Den A43 → Den R43) (kl5 : V71_5 → Bool) (xl5 : V71_5 → X71_5) (x : Den A71) : Option (Den R71) :=
  let v0 := (k99 (x.fst, ()))
  bif (v0) then
    let v1 := (g99 (x.fst, ()))
    bif (!v1.fst) then
      some ((-1), ())
    else
      let v2 := (k41 x.snd)
      bif (v2) then
        let v3 := (g41 x.snd)
        bif (!v3.fst) then
          some ((-1), ())
        else
          let v4 := (kl5 ((x.snd.fst, -1, 0, x.fst.fst, (↑(List.length x.fst.fst) : Int), 0, ()), ()))
          bif (v4) then
            let v5 := (xl5 ((x.snd.fst, -1, 0, x.fst.fst, (↑(List.length x.fst.fst) : Int), 0, ()), ()))
            some ((v5.fst.1), ())
          else
            none
      else
        none
  else
    none
theorem ev71 (k99 : Den A99 → Bool) (g99 : Den A99 → Den R99) (k41 : Den A41 → Bool) (g41 : Den A41 → Den R41) (k42 : Den A42 → Bool) (g42 : Den A42 → Den R42) (k43 : Den A43 → Bool) (g43 : Den A43 → Den R43) (kl5 : V71_5 → Bool) (xl5 : V71_5 → X71_5) (x : Den A71) : callK (Γ71 k99 g99 k41 g41 k42 g42 k43 g43 kl5 xl5) (bodyOf Try.f71) (decR R71) (encA A71 x) [] = r71 k99 g99 k41 g41 k42 g42 k43 g43 kl5 xl5 x := by kernel_rfl
def F71 (x : Den A71) : Option (Den R71) := r71 K99 G99 K41 G41 K42 G42 K43 G43 kL71_5 xL71_5 x
def K71 (x : Den A71) : Bool := (F71 x).isSome
def G71 (x : Den A71) : Den R71 := (F71 x).getD (zero R71)
theorem env71 : EnvOK Try.prog (Γ71 K99 G99 K41 G41 K42 G42 K43 G43 kL71_5 xL71_5) := env_ok mixed tab_ok eqs_ok (.cons sem99 (.cons sem41 (.cons sem42 (.cons sem43 .nil))))
theorem is71 : FnIs Try.prog 71 (Γ71 K99 G99 K41 G41 K42 G42 K43 G43 kL71_5 xL71_5) (bodyOf Try.f71) := fnIs Try.func71 rfl rfl rfl (by kernel_rfl) (loops_ok (l := [lc71_5]) (by kernel_rfl) (.cons (one_loop rfl (loopX_sound (sh := sh71_5) (shX := shX71_5) (fun f v => evl71_5 K99 G99 K41 G41 K42 G42 K43 G43 kL71_5 xL71_5 f v) b71_5 ((0, ()), ()))) (.nil)))
theorem sem71 : SemOK Try.prog (71, fnMean A71 R71 K71 G71) := fn_opt env71 is71 fun x => ev71 K99 G99 K41 G41 K42 G42 K43 G43 kL71_5 xL71_5 x

/- "loop.example/g03321/impl.HighAt$1" mode S true -/
abbrev I100 : Sg := ⟨[.val (.int .i64), .ptr 0, .ptr 1], [.box (.int .i64), .box (S48)]⟩
abbrev O100 : Sg := ⟨[.val (.int .i64)], [.box (.int .i64), .box (S48)]⟩
noncomputable def Γ100 : Env := mkEnv tab eqs [] 20 [.tmp 4] [] [] [] [] []
def r100 (x : I100.den) : Option (O100.den) :=
  bif (decide (0 ≤ x.fst.fst) && decide (x.fst.fst < (↑(List.length x.snd.snd.fst.snd.fst) : Int))) then
    bif (decide (0 ≤ x.fst.fst) && decide (x.fst.fst < (↑(List.length x.snd.snd.fst.snd.fst) : Int))) then
      let v0 := (List.getD x.snd.snd.fst.snd.fst (Int.toNat x.fst.fst) (zero (Ty.int IntKind.i64)))
      let v1 := (IntKind.wrap IntKind.i64 (x.snd.fst - v0))
      let v2 := (IntKind.wrap IntKind.i64 (v0 - x.snd.fst))
      some (((imax v1 v2), ()), ((x.snd.1), (((x.snd.snd.fst.1), ((x.snd.snd.fst.snd.1), ())), ())))
    else
      none
  else
    none
theorem ev100 (x : I100.den) : callS (Γ100) (bodyOf Try.f100) I100 O100 x = r100 x := by kernel_rfl
def F100 (x : I100.den) : Option (O100.den) := r100 x
def K100 (x : I100.den) : Bool := (F100 x).isSome
def G100 (x : I100.den) : O100.den := (F100 x).getD (zeroSg O100)
theorem env100 : EnvOK Try.prog (Γ100) := env_ok mixed tab_ok eqs_ok .nil
theorem is100 : FnIs Try.prog 100 (Γ100) (bodyOf Try.f100) := fnIs Try.func100 rfl rfl rfl (by kernel_rfl) (noLoops (by kernel_rfl))
theorem sem100 : SemOK Try.prog (100, sgMean true I100 O100 K100 G100) := sg_opt env100 is100 true fun x => ev100 x

/- "loop.example/g03321/impl.HighAt" -/
abbrev A72 : Ty := .cons (S48) (.cons (.int .i64) (.nil))
abbrev R72 : Ty := .cons (.int .i64) (.nil)
abbrev V72_6 : Type := ((Unit × (Int × (Int × (Int × Unit)))) × ((Int × Unit) × (((List (Den (S96))) × ((List (Den (.int .i64))) × Unit)) × Unit)))
def sh72_6 : ShS := ⟨[(5, .one (.fn 100 [0, 1])), (6, .one (.int .i64)), (19, .one (.int .i64)), (20, .one (.int .i64))], [(0, .box [.int .i64]), (1, .box [.sl (S96), .sl (.int .i64)])], 2, 0⟩
abbrev X72_6 : Type := ((Int × Unit) × Unit)
def shX72_6 : ShS := ⟨[(6, .one (.int .i64))], [], 0, 0⟩
noncomputable def Γ72 (k99 : Den A99 → Bool) (g99 : Den A99 → Den R99) (k37 : Den A37 → Bool) (g37 : Den A37 → Den R37) (k100 : I100.den → Bool) (g100 : I100.den → O100.den) (kl6 : V72_6 → Bool) (xl6 : V72_6 → X72_6) : Env := mkEnv tab eqs [(99, fnMean A99 R99 k99 g99), (37, fnMean A37 R37 k37 g37), (100, sgMean true I100 O100 k100 g100)] 33 [.tmp 4] [] [] [(6, loopX [5, 6, 19, 20] [] 0 [6] [] sh72_6 shX72_6 kl6 xl6)] [] []
noncomputable def lc72_6 : Code := (loopsOf (bodyOf Try.f72)).getD 0 .skip
def q72_6 (k99 : Den A99 → Bool) (g99 : Den A99 → Den R99) (k37 : Den A37 → Bool) (g37 : Den A37 → Den R37) (k100 : I100.den → Bool) (g100 : I100.den → O100.den) (f : V72_6 → Option (X72_6)) (v : V72_6) : Option (X72_6) :=
  bif (decide (v.fst.snd.snd.snd.fst < v.fst.snd.snd.fst)) then
    let v0 := (k100 ((v.fst.snd.snd.snd.fst, (), (), ()), v.snd.fst.fst, v.snd.snd))
    bif (v0) then
      let v1 := (g100 ((v.fst.snd.snd.snd.fst, (), (), ()), v.snd.fst.fst, v.snd.snd))
      let v2 := (k100 ((v.fst.snd.fst, (), (), ()), v1.snd))
      bif (v2) then
        let v3 := (g100 ((v.fst.snd.fst, (), (), ()), v1.snd))
        bif (decide (v1.fst.fst < v3.fst.fst)) then
          let v4 := (IntKind.wrap IntKind.i64 (v.fst.snd.snd.snd.fst + 1))
          f (((), ((v.fst.snd.snd.snd.1), ((v.fst.snd.snd.1), ((v4), ())))), (((v3.snd.1), ()), (((v3.snd.snd.fst.1), ((v3.snd.snd.fst.snd.1), ())), ())))
        else
          let v4 := (IntKind.wrap IntKind.i64 (v.fst.snd.snd.snd.fst + 1))
          f (((), ((v.fst.snd.1), ((v.fst.snd.snd.1), ((v4), ())))), (((v3.snd.1), ()), (((v3.snd.snd.fst.1), ((v3.snd.snd.fst.snd.1), ())), ())))
      else
        none
    else
      none
  else
    some (((v.fst.snd.1), ()), ())
theorem evl72_6 (k99 : Den A99 → Bool) (g99 : Den A99 → Den R99) (k37 : Den A37 → Bool) (g37 : Den A37 → Den R37) (k100 : I100.den → Bool) (g100 : I100.den → O100.den) (kl6 : V72_6 → Bool) (xl6 : V72_6 → X72_6) (f : V72_6 → Option (X72_6)) (v : V72_6) : EBk (Γ72 k99 g99 k37 g37 k100 g100 kl6 xl6) lc72_6 (roundK [5, 6, 19, 20] [] 0 [6] [] (atS sh72_6 f) (endX shX72_6)) (mkS sh72_6 v) = q72_6 k99 g99 k37 g37 k100 g100 f v := by kernel_rfl
def b72_6 (v : V72_6) : Nat := v.1.2.1.natAbs + v.1.2.2.1.natAbs + v.1.2.2.2.1.natAbs + v.2.1.1.natAbs + v.2.2.1.1.length + v.2.2.1.2.1.length + 1000
def l72_6 (v : V72_6) : Option (X72_6) := iter (q72_6 K99 G99 K37 G37 K100 G100) (b72_6 v) v
def kL72_6 (v : V72_6) : Bool := (l72_6 v).isSome
def xL72_6 (v : V72_6) : X72_6 := (l72_6 v).getD ((0, ()), ())
def r72 (k99 : Den A99 → Bool) (g99 : Den A99 → Den R99) (k37 : Den A37 → Bool) (g37 : Den A37 → Den R37) (k100 : I100.den → Bool) (g100 : I100.den → O100.den) (kl6 : V72_6 → Bool) (xl6 : V72_6 → X72_6) (x : Den A72) : Option (Den R72) :=
  let v0 := (k99 (x.fst, ()))
  bif (v0) then
    let v1 := (g99 (x.fst, ()))
    bif (!v1.fst) then
      some ((-1), ())
    else
      let v2 := (k37 x.snd)
      bif (v2) then
        let v3 := (g37 x.snd)
        bif (!v3.fst) then
          some ((-1), ())
        else
          let v4 := (kl6 (((), 0, (↑(List.length x.fst.snd.fst) : Int), 0, ()), x.snd, x.fst, ()))
          bif (v4) then
            let v5 := (xl6 (((), 0, (↑(List.length x.fst.snd.fst) : Int), 0, ()), x.snd, x.fst, ()))
            some ((v5.fst.1), ())
          else
            none
      else
        none
  else
    none
theorem ev72 (k99 : Den A99 → Bool) (g99 : Den A99 → Den R99) (k37 : Den A37 → Bool) (g37 : Den A37 → Den R37) (k100 : I100.den → Bool) (g100 : I100.den → O100.den) (kl6 : V72_6 → Bool) (xl6 : V72_6 → X72_6) (x : Den A72) : callK (Γ72 k99 g99 k37 g37 k100 g100 kl6 xl6) (bodyOf Try.f72) (decR R72) (encA A72 x) [] = r72 k99 g99 k37 g37 k100 g100 kl6 xl6 x := by kernel_rfl
def F72 (x : Den A72) : Option (Den R72) := r72 K99 G99 K37 G37 K100 G100 kL72_6 xL72_6 x
def K72 (x : Den A72) : Bool := (F72 x).isSome
def G72 (x : Den A72) : Den R72 := (F72 x).getD (zero R72)
theorem env72 : EnvOK Try.prog (Γ72 K99 G99 K37 G37 K100 G100 kL72_6 xL72_6) := env_ok mixed tab_ok eqs_ok (.cons sem99 (.cons sem37 (.cons sem100 .nil)))
theorem is72 : FnIs Try.prog 72 (Γ72 K99 G99 K37 G37 K100 G100 kL72_6 xL72_6) (bodyOf Try.f72) := fnIs Try.func72 rfl rfl rfl (by kernel_rfl) (loops_ok (l := [lc72_6]) (by kernel_rfl) (.cons (one_loop rfl (loopX_sound (sh := sh72_6) (shX := shX72_6) (fun f v => evl72_6 K99 G99 K37 G37 K100 G100 kL72_6 xL72_6 f v) b72_6 ((0, ()), ()))) (.nil)))
theorem sem72 : SemOK Try.prog (72, fnMean A72 R72 K72 G72) := fn_opt env72 is72 fun x => ev72 K99 G99 K37 G37 K100 G100 kL72_6 xL72_6 x

/- "loop.example/g03321/impl.Clamp" -/
abbrev A101 : Ty := .cons (.int .i64) (.cons (.int .i64) (.cons (.int .i64) (.nil)))
abbrev R101 : Ty := .cons (.int .i64) (.nil)
noncomputable def Γ101 : Env := mkEnv tab eqs [] 19 [.tmp 6] [] [] [] [] []
def r101 (x : Den A101) : Option (Den R101) :=
  bif (decide (x.snd.snd.fst < x.snd.fst)) then
    some ((x.snd.1), ())
  else
    bif (decide (x.fst < x.snd.fst)) then
      some ((x.snd.1), ())
    else
      some ((imin x.fst x.snd.snd.fst), ())
theorem ev101 (x : Den A101) : callK (Γ101) (bodyOf Try.f101) (decR R101) (encA A101 x) [] = r101 x := by kernel_rfl
def F101 (x : Den A101) : Option (Den R101) := r101 x
def K101 (x : Den A101) : Bool := (F101 x).isSome
def G101 (x : Den A101) : Den R101 := (F101 x).getD (zero R101)
theorem env101 : EnvOK Try.prog (Γ101) := env_ok mixed tab_ok eqs_ok .nil
theorem is101 : FnIs Try.prog 101 (Γ101) (bodyOf Try.f101) := fnIs Try.func101 rfl rfl rfl (by kernel_rfl) (noLoops (by kernel_rfl))
theorem sem101 : SemOK Try.prog (101, fnMean A101 R101 K101 G101) := fn_opt env101 is101 fun x => ev101 x

/- "loop.example/g03321/impl.between" -/
abbrev A102 : Ty := .cons (.flt .f32) (.cons (.flt .f32) (.cons (.flt .f32) (.nil)))
abbrev R102 : Ty := .cons (.flt .f32) (.nil)
noncomputable def Γ102 : Env := mkEnv tab eqs [] 16 [.tmp 6] [] [] [] [] []
def r102 (x : Den A102) : Option (Den R102) :=
  let v0 := (farith BinOp.sub FloatKind.f32 x.snd.fst x.fst)
  let v1 := (farith BinOp.mul FloatKind.f32 v0 x.snd.snd.fst)
  let v2 := (farith BinOp.add FloatKind.f32 x.fst v1)
  some ((v2), ())
theorem ev102 (x : Den A102) : callK (Γ102) (bodyOf Try.f102) (decR R102) (encA A102 x) [] = r102 x := by kernel_rfl
def F102 (x : Den A102) : Option (Den R102) := r102 x
def K102 (x : Den A102) : Bool := (F102 x).isSome
def G102 (x : Den A102) : Den R102 := (F102 x).getD (zero R102)
theorem env102 : EnvOK Try.prog (Γ102) := env_ok mixed tab_ok eqs_ok .nil
theorem is102 : FnIs Try.prog 102 (Γ102) (bodyOf Try.f102) := fnIs Try.func102 rfl rfl rfl (by kernel_rfl) (noLoops (by kernel_rfl))
theorem sem102 : SemOK Try.prog (102, fnMean A102 R102 K102 G102) := fn_opt env102 is102 fun x => ev102 x

/- "loop.example/g03321/impl.FlowAt" -/
abbrev A73 : Ty := .cons (S96) (.cons (.int .i64) (.nil))
abbrev R73 : Ty := .cons (.cpx .f32) (.cons (.bool) (.nil))
noncomputable def Γ73 (k77 : Den A77 → Bool) (g77 : Den A77 → Den R77) (k101 : Den A101 → Bool) (g101 : Den A101 → Den R101) (k102 : Den A102 → Bool) (g102 : Den A102 → Den R102) : Env := mkEnv tab eqs [(77, fnMean A77 R77 k77 g77), (101, fnMean A101 R101 k101 g101), (102, fnMean A102 R102 k102 g102)] 54 [.tmp 4, .tmp 5] [] [] [] [] []
def r73 (k77 : Den A77 → Bool) (g77 : Den A77 → Den R77) (k101 : Den A101 → Bool) (g101 : Den A101 → Den R101) (k102 : Den A102 → Bool) (g102 : Den A102 → Den R102) (x : Den A73) : Option (Den R73) :=
  let v0 := (k77 ([x.fst.snd.fst.fst, x.fst.snd.fst.snd.fst, x.fst.snd.fst.snd.snd.fst, x.fst.snd.fst.snd.snd.snd.fst, x.fst.snd.fst.snd.snd.snd.snd.fst, x.fst.snd.fst.snd.snd.snd.snd.snd.fst, x.fst.snd.fst.snd.snd.snd.snd.snd.snd.fst, x.fst.snd.fst.snd.snd.snd.snd.snd.snd.snd.fst, x.fst.snd.fst.snd.snd.snd.snd.snd.snd.snd.snd.fst, x.fst.snd.fst.snd.snd.snd.snd.snd.snd.snd.snd.snd.fst, x.fst.snd.fst.snd.snd.snd.snd.snd.snd.snd.snd.snd.snd.fst, x.fst.snd.fst.snd.snd.snd.snd.snd.snd.snd.snd.snd.snd.snd.fst, x.fst.snd.fst.snd.snd.snd.snd.snd.snd.snd.snd.snd.snd.snd.snd.fst], ()))
  bif (v0) then
    let v1 := (g77 ([x.fst.snd.fst.fst, x.fst.snd.fst.snd.fst, x.fst.snd.fst.snd.snd.fst, x.fst.snd.fst.snd.snd.snd.fst, x.fst.snd.fst.snd.snd.snd.snd.fst, x.fst.snd.fst.snd.snd.snd.snd.snd.fst, x.fst.snd.fst.snd.snd.snd.snd.snd.snd.fst, x.fst.snd.fst.snd.snd.snd.snd.snd.snd.snd.fst, x.fst.snd.fst.snd.snd.snd.snd.snd.snd.snd.snd.fst, x.fst.snd.fst.snd.snd.snd.snd.snd.snd.snd.snd.snd.fst, x.fst.snd.fst.snd.snd.snd.snd.snd.snd.snd.snd.snd.snd.fst, x.fst.snd.fst.snd.snd.snd.snd.snd.snd.snd.snd.snd.snd.snd.fst, x.fst.snd.fst.snd.snd.snd.snd.snd.snd.snd.snd.snd.snd.snd.snd.fst], ()))
    bif (!v1.fst) then
      some (((0), (0)), ((false), ()))
    else
      let v2 := (k101 (x.snd.fst, -21600, 21600, ()))
      bif (v2) then
        let v3 := (g101 (x.snd.fst, -21600, 21600, ()))
        let v4 := (IntKind.wrap IntKind.i64 (v3.fst + 21600))
        bif (Int.tmod v4 3600 == 0) then
          let v5 := (IntKind.wrap IntKind.i64 (Int.tdiv v4 3600))
          bif (decide (0 ≤ v5) && decide (v5 < (↑13 : Int))) then
            let v6 := (List.getD [x.fst.snd.fst.fst, x.fst.snd.fst.snd.fst, x.fst.snd.fst.snd.snd.fst, x.fst.snd.fst.snd.snd.snd.fst, x.fst.snd.fst.snd.snd.snd.snd.fst, x.fst.snd.fst.snd.snd.snd.snd.snd.fst, x.fst.snd.fst.snd.snd.snd.snd.snd.snd.fst, x.fst.snd.fst.snd.snd.snd.snd.snd.snd.snd.fst, x.fst.snd.fst.snd.snd.snd.snd.snd.snd.snd.snd.fst, x.fst.snd.fst.snd.snd.snd.snd.snd.snd.snd.snd.snd.fst, x.fst.snd.fst.snd.snd.snd.snd.snd.snd.snd.snd.snd.snd.fst, x.fst.snd.fst.snd.snd.snd.snd.snd.snd.snd.snd.snd.snd.snd.fst, x.fst.snd.fst.snd.snd.snd.snd.snd.snd.snd.snd.snd.snd.snd.snd.fst] (Int.toNat v5) (0, 0))
            some (((v6.1), (v6.2)), ((true), ()))
          else
            none
        else
          let v5 := (IntKind.wrap IntKind.i64 (Int.tdiv v4 3600))
          bif (decide (0 ≤ v5) && decide (v5 < (↑13 : Int))) then
            let v6 := (IntKind.wrap IntKind.i64 (v5 + 1))
            bif (decide (0 ≤ v6) && decide (v6 < (↑13 : Int))) then
              let v7 := (List.getD [x.fst.snd.fst.fst, x.fst.snd.fst.snd.fst, x.fst.snd.fst.snd.snd.fst, x.fst.snd.fst.snd.snd.snd.fst, x.fst.snd.fst.snd.snd.snd.snd.fst, x.fst.snd.fst.snd.snd.snd.snd.snd.fst, x.fst.snd.fst.snd.snd.snd.snd.snd.snd.fst, x.fst.snd.fst.snd.snd.snd.snd.snd.snd.snd.fst, x.fst.snd.fst.snd.snd.snd.snd.snd.snd.snd.snd.fst, x.fst.snd.fst.snd.snd.snd.snd.snd.snd.snd.snd.snd.fst, x.fst.snd.fst.snd.snd.snd.snd.snd.snd.snd.snd.snd.snd.fst, x.fst.snd.fst.snd.snd.snd.snd.snd.snd.snd.snd.snd.snd.snd.fst, x.fst.snd.fst.snd.snd.snd.snd.snd.snd.snd.snd.snd.snd.snd.snd.fst] (Int.toNat v5) (0, 0))
              let v8 := (List.getD [x.fst.snd.fst.fst, x.fst.snd.fst.snd.fst, x.fst.snd.fst.snd.snd.fst, x.fst.snd.fst.snd.snd.snd.fst, x.fst.snd.fst.snd.snd.snd.snd.fst, x.fst.snd.fst.snd.snd.snd.snd.snd.fst, x.fst.snd.fst.snd.snd.snd.snd.snd.snd.fst, x.fst.snd.fst.snd.snd.snd.snd.snd.snd.snd.fst, x.fst.snd.fst.snd.snd.snd.snd.snd.snd.snd.snd.fst, x.fst.snd.fst.snd.snd.snd.snd.snd.snd.snd.snd.snd.fst, x.fst.snd.fst.snd.snd.snd.snd.snd.snd.snd.snd.snd.snd.fst, x.fst.snd.fst.snd.snd.snd.snd.snd.snd.snd.snd.snd.snd.snd.fst, x.fst.snd.fst.snd.snd.snd.snd.snd.snd.snd.snd.snd.snd.snd.snd.fst] (Int.toNat v6) (0, 0))
              let v9 := (farith BinOp.quo FloatKind.f32 (FloatKind.nearest FloatKind.f32 (Int.tmod v4 3600)) 1163984896)
              let v10 := (k102 (v7.fst, v8.fst, v9, ()))
              bif (v10) then
                let v11 := (k102 (v7.snd, v8.snd, v9, ()))
                bif (v11) then
                  let v12 := (g102 (v7.fst, v8.fst, v9, ()))
                  let v13 := (g102 (v7.snd, v8.snd, v9, ()))
                  some (((v12.1), (v13.1)), ((true), ()))
                else
                  none
              else
                none
            else
              none
          else
            none
      else
        none
  else
    none
theorem ev73 (k77 : Den A77 → Bool) (g77 : Den A77 → Den R77) (k101 : Den A101 → Bool) (g101 : Den A101 → Den R101) (k102 : Den A102 → Bool) (g102 : Den A102 → Den R102) (x : Den A73) : callK (Γ73 k77 g77 k101 g101 k102 g102) (bodyOf Try.f73) (decR R73) (encA A73 x) [] = r73 k77 g77 k101 g101 k102 g102 x := by kernel_rfl
def F73 (x : Den A73) : Option (Den R73) := r73 K77 G77 K101 G101 K102 G102 x
def K73 (x : Den A73) : Bool := (F73 x).isSome
def G73 (x : Den A73) : Den R73 := (F73 x).getD (zero R73)
theorem env73 : EnvOK Try.prog (Γ73 K77 G77 K101 G101 K102 G102) := env_ok mixed tab_ok eqs_ok (.cons sem77 (.cons sem101 (.cons sem102 .nil)))
theorem is73 : FnIs Try.prog 73 (Γ73 K77 G77 K101 G101 K102 G102) (bodyOf Try.f73) := fnIs Try.func73 rfl rfl rfl (by kernel_rfl) (noLoops (by kernel_rfl))
theorem sem73 : SemOK Try.prog (73, fnMean A73 R73 K73 G73) := fn_opt env73 is73 fun x => ev73 K77 G77 K101 G101 K102 G102 x

/- "loop.example/g03321/impl.StreamAt" -/
abbrev A28 : Ty := .cons (S48) (.cons (.cpx .f64) (.cons (.int .i64) (.nil)))
abbrev R28 : Ty := .cons (.cpx .f32) (.cons (.bool) (.nil))
noncomputable def Γ28 (k71 : Den A71 → Bool) (g71 : Den A71 → Den R71) (k72 : Den A72 → Bool) (g72 : Den A72 → Den R72) (k73 : Den A73 → Bool) (g73 : Den A73 → Den R73) : Env := mkEnv tab eqs [(71, fnMean A71 R71 k71 g71), (72, fnMean A72 R72 k72 g72), (73, fnMean A73 R73 k73 g73)] 37 [.tmp 6, .tmp 7] [] [] [] [] []
def r28 (k71 : Den A71 → Bool) (g71 : Den A71 → Den R71) (k72 : Den A72 → Bool) (g72 : Den A72 → Den R72) (k73 : Den A73 → Bool) (g73 : Den A73 → Den R73) (x : Den A28) : Option (Den R28) :=
  let v0 := (k71 (x.fst, x.snd.fst, ()))
  bif (v0) then
    let v1 := (k72 (x.fst, x.snd.snd))
    bif (v1) then
      let v2 := (g71 (x.fst, x.snd.fst, ()))
      bif (decide (v2.fst < 0)) then
        some (((0), (0)), ((false), ()))
      else
        let v3 := (g72 (x.fst, x.snd.snd))
        bif (decide (v3.fst < 0)) then
          some (((0), (0)), ((false), ()))
        else
          bif (decide (0 ≤ v2.fst) && decide (v2.fst < (↑(List.length x.fst.fst) : Int))) then
            bif (decide (0 ≤ v3.fst) && decide (v3.fst < (↑(List.length x.fst.snd.fst) : Int))) then
              let v4 := (List.getD x.fst.fst (Int.toNat v2.fst) (zero S96))
              let v5 := (List.getD x.fst.snd.fst (Int.toNat v3.fst) (zero (Ty.int IntKind.i64)))
              let v6 := (IntKind.wrap IntKind.i64 (x.snd.snd.fst - v5))
              let v7 := (k73 (v4, v6, ()))
              bif (v7) then
                let v8 := (g73 (v4, v6, ()))
                some (((v8.fst.1), (v8.fst.2)), ((v8.snd.1), ()))
              else
                none
            else
              none
          else
            none
    else
      none
  else
    none
theorem ev28 (k71 : Den A71 → Bool) (g71 : Den A71 → Den R71) (k72 : Den A72 → Bool) (g72 : Den A72 → Den R72) (k73 : Den A73 → Bool) (g73 : Den A73 → Den R73) (x : Den A28) : callK (Γ28 k71 g71 k72 g72 k73 g73) (bodyOf Try.f28) (decR R28) (encA A28 x) [] = r28 k71 g71 k72 g72 k73 g73 x := by kernel_rfl
def F28 (x : Den A28) : Option (Den R28) := r28 K71 G71 K72 G72 K73 G73 x
def K28 (x : Den A28) : Bool := (F28 x).isSome
def G28 (x : Den A28) : Den R28 := (F28 x).getD (zero R28)
theorem env28 : EnvOK Try.prog (Γ28 K71 G71 K72 G72 K73 G73) := env_ok mixed tab_ok eqs_ok (.cons sem71 (.cons sem72 (.cons sem73 .nil)))
theorem is28 : FnIs Try.prog 28 (Γ28 K71 G71 K72 G72 K73 G73) (bodyOf Try.f28) := fnIs Try.func28 rfl rfl rfl (by kernel_rfl) (noLoops (by kernel_rfl))
theorem sem28 : SemOK Try.prog (28, fnMean A28 R28 K28 G28) := fn_opt env28 is28 fun x => ev28 K71 G71 K72 G72 K73 G73 x

/- "loop.example/g03321/impl.mod" -/
abbrev A84 : Ty := .cons (.int .i64) (.nil)
abbrev R84 : Ty := .cons (.int .i64) (.nil)
noncomputable def Γ84 : Env := mkEnv tab eqs [] 7 [.tmp 2] [] [] [] [] []
def r84 (x : Den A84) : Option (Den R84) :=
  let v0 := (IntKind.wrap IntKind.i64 (Int.tmod x.fst 360 + 360))
  some ((Int.tmod v0 360), ())
theorem ev84 (x : Den A84) : callK (Γ84) (bodyOf Try.f84) (decR R84) (encA A84 x) [] = r84 x := by kernel_rfl
def F84 (x : Den A84) : Option (Den R84) := r84 x
def K84 (x : Den A84) : Bool := (F84 x).isSome
def G84 (x : Den A84) : Den R84 := (F84 x).getD (zero R84)
theorem env84 : EnvOK Try.prog (Γ84) := env_ok mixed tab_ok eqs_ok .nil
theorem is84 : FnIs Try.prog 84 (Γ84) (bodyOf Try.f84) := fnIs Try.func84 rfl rfl rfl (by kernel_rfl) (noLoops (by kernel_rfl))
theorem sem84 : SemOK Try.prog (84, fnMean A84 R84 K84 G84) := fn_opt env84 is84 fun x => ev84 x

/- "loop.example/g03321/impl.times" -/
abbrev A85 : Ty := .cons (.cpx .f64) (.cons (.cpx .f64) (.nil))
abbrev R85 : Ty := .cons (.cpx .f64) (.nil)
noncomputable def Γ85 : Env := mkEnv tab eqs [] 32 [.tmp 4] [] [] [] [] []
def r85 (x : Den A85) : Option (Den R85) :=
  let v0 := (farith BinOp.mul FloatKind.f64 x.fst.fst x.snd.fst.fst)
  let v1 := (farith BinOp.mul FloatKind.f64 x.fst.snd x.snd.fst.snd)
  let v2 := (farith BinOp.sub FloatKind.f64 v0 v1)
  let v3 := (farith BinOp.mul FloatKind.f64 x.fst.fst x.snd.fst.snd)
  let v4 := (farith BinOp.mul FloatKind.f64 x.fst.snd x.snd.fst.fst)
  let v5 := (farith BinOp.add FloatKind.f64 v3 v4)
  some (((v2), (v5)), ())
theorem ev85 (x : Den A85) : callK (Γ85) (bodyOf Try.f85) (decR R85) (encA A85 x) [] = r85 x := by kernel_rfl
def F85 (x : Den A85) : Option (Den R85) := r85 x
def K85 (x : Den A85) : Bool := (F85 x).isSome
def G85 (x : Den A85) : Den R85 := (F85 x).getD (zero R85)
theorem env85 : EnvOK Try.prog (Γ85) := env_ok mixed tab_ok eqs_ok .nil
theorem is85 : FnIs Try.prog 85 (Γ85) (bodyOf Try.f85) := fnIs Try.func85 rfl rfl rfl (by kernel_rfl) (noLoops (by kernel_rfl))
theorem sem85 : SemOK Try.prog (85, fnMean A85 R85 K85 G85) := fn_opt env85 is85 fun x => ev85 x

/- "loop.example/g03321/impl.Turn" -/
abbrev A50 : Ty := .cons (.int .i64) (.nil)
abbrev R50 : Ty := .cons (.cpx .f64) (.nil)
abbrev V50_3 : Type := (((Nat × Nat) × (Int × Unit)) × Unit)
def sh50_3 : ShS := ⟨[(3, .one (.cpx .f64)), (4, .one (.int .i64))], [], 0, 0⟩
abbrev X50_3 : Type := (((Nat × Nat) × Unit) × Unit)
def shX50_3 : ShS := ⟨[(3, .one (.cpx .f64))], [], 0, 0⟩
noncomputable def Γ50 (k84 : Den A84 → Bool) (g84 : Den A84 → Den R84) (k85 : Den A85 → Bool) (g85 : Den A85 → Den R85) (kl3 : V50_3 → Bool) (xl3 : V50_3 → X50_3) : Env := mkEnv tab eqs [(84, fnMean A84 R84 k84 g84), (85, fnMean A85 R85 k85 g85)] 14 [.tmp 2] [] [] [(3, loopX [3, 4] [] 0 [3] [] sh50_3 shX50_3 kl3 xl3)] [] []
noncomputable def lc50_3 : Code := (loopsOf (bodyOf Try.f50)).getD 0 .skip
def q50_3 (k84 : Den A84 → Bool) (g84 : Den A84 → Den R84) (k85 : Den A85 → Bool) (g85 : Den A85 → Den R85) (f : V50_3 → Option (X50_3)) (v : V50_3) : Option (X50_3) :=
  bif (decide (v.fst.snd.fst > 0)) then
    let v0 := (k85 (v.fst.fst, (4607181046959943561, 4580687535080594718), ()))
    bif (v0) then
      let v1 := (g85 (v.fst.fst, (4607181046959943561, 4580687535080594718), ()))
      let v2 := (IntKind.wrap IntKind.i64 (v.fst.snd.fst - 1))
      f ((((v1.fst.1), (v1.fst.2)), ((v2), ())), ())
    else
      none
  else
    some ((((v.fst.fst.1), (v.fst.fst.2)), ()), ())
theorem evl50_3 (k84 : Den A84 → Bool) (g84 : Den A84 → Den R84) (k85 : Den A85 → Bool) (g85 : Den A85 → Den R85) (kl3 : V50_3 → Bool) (xl3 : V50_3 → X50_3) (f : V50_3 → Option (X50_3)) (v : V50_3) : EBk (Γ50 k84 g84 k85 g85 kl3 xl3) lc50_3 (roundK [3, 4] [] 0 [3] [] (atS sh50_3 f) (endX shX50_3)) (mkS sh50_3 v) = q50_3 k84 g84 k85 g85 f v := by kernel_rfl
def b50_3 (v : V50_3) : Nat := v.1.2.1.natAbs + 1000
def l50_3 (v : V50_3) : Option (X50_3) := iter (q50_3 K84 G84 K85 G85) (b50_3 v) v
def kL50_3 (v : V50_3) : Bool := (l50_3 v).isSome
def xL50_3 (v : V50_3) : X50_3 := (l50_3 v).getD (((0, 0), ()), ())
def r50 (k84 : Den A84 → Bool) (g84 : Den A84 → Den R84) (k85 : Den A85 → Bool) (g85 : Den A85 → Den R85) (kl3 : V50_3 → Bool) (xl3 : V50_3 → X50_3) (x : Den A50) : Option (Den R50) :=
  let v0 := (k84 x)
  bif (v0) then
    let v1 := (g84 x)
    let v2 := (kl3 (((4607182418800017408, 0), v1), ()))
    bif (v2) then
      let v3 := (xl3 (((4607182418800017408, 0), v1), ()))
      some (((v3.fst.fst.1), (v3.fst.fst.2)), ())
    else
      none
  else
    none
theorem ev50 (k84 : Den A84 → Bool) (g84 : Den A84 → Den R84) (k85 : Den A85 → Bool) (g85 : Den A85 → Den R85) (kl3 : V50_3 → Bool) (xl3 : V50_3 → X50_3) (x : Den A50) : callK (Γ50 k84 g84 k85 g85 kl3 xl3) (bodyOf Try.f50) (decR R50) (encA A50 x) [] = r50 k84 g84 k85 g85 kl3 xl3 x := by kernel_rfl
def F50 (x : Den A50) : Option (Den R50) := r50 K84 G84 K85 G85 kL50_3 xL50_3 x
def K50 (x : Den A50) : Bool := (F50 x).isSome
def G50 (x : Den A50) : Den R50 := (F50 x).getD (zero R50)
theorem env50 : EnvOK Try.prog (Γ50 K84 G84 K85 G85 kL50_3 xL50_3) := env_ok mixed tab_ok eqs_ok (.cons sem84 (.cons sem85 .nil))
theorem is50 : FnIs Try.prog 50 (Γ50 K84 G84 K85 G85 kL50_3 xL50_3) (bodyOf Try.f50) := fnIs Try.func50 rfl rfl rfl (by kernel_rfl) (loops_ok (l := [lc50_3]) (by kernel_rfl) (.cons (one_loop rfl (loopX_sound (sh := sh50_3) (shX := shX50_3) (fun f v => evl50_3 K84 G84 K85 G85 kL50_3 xL50_3 f v) b50_3 (((0, 0), ()), ()))) (.nil)))
theorem sem50 : SemOK Try.prog (50, fnMean A50 R50 K50 G50) := fn_opt env50 is50 fun x => ev50 K84 G84 K85 G85 kL50_3 xL50_3 x

/- "loop.example/g03321/impl.along" -/
abbrev A115 : Ty := .cons (.cpx .f64) (.cons (.flt .f32) (.nil))
abbrev R115 : Ty := .cons (.cpx .f32) (.nil)
noncomputable def Γ115 : Env := mkEnv tab eqs [] 16 [.tmp 4] [] [] [] [] []
def r115 (x : Den A115) : Option (Den R115) :=
  bif ((convF FloatKind.f64 FloatKind.f32 x.fst.fst).1) then
    bif ((convF FloatKind.f64 FloatKind.f32 x.fst.snd).1) then
      let v0 := (farith BinOp.mul FloatKind.f32 (convF FloatKind.f64 FloatKind.f32 x.fst.fst).snd x.snd.fst)
      let v1 := (farith BinOp.mul FloatKind.f32 (convF FloatKind.f64 FloatKind.f32 x.fst.snd).snd x.snd.fst)
      some (((v0), (v1)), ())
    else
      none
  else
    none
theorem ev115 (x : Den A115) : callK (Γ115) (bodyOf Try.f115) (decR R115) (encA A115 x) [] = r115 x := by kernel_rfl
def F115 (x : Den A115) : Option (Den R115) := r115 x
def K115 (x : Den A115) : Bool := (F115 x).isSome
def G115 (x : Den A115) : Den R115 := (F115 x).getD (zero R115)
theorem env115 : EnvOK Try.prog (Γ115) := env_ok mixed tab_ok eqs_ok .nil
theorem is115 : FnIs Try.prog 115 (Γ115) (bodyOf Try.f115) := fnIs Try.func115 rfl rfl rfl (by kernel_rfl) (noLoops (by kernel_rfl))
theorem sem115 : SemOK Try.prog (115, fnMean A115 R115 K115 G115) := fn_opt env115 is115 fun x => ev115 x

/- "loop.example/g03321/impl.Velocity" -/
abbrev A110 : Ty := .cons (.int .i64) (.cons (.flt .f32) (.nil))
abbrev R110 : Ty := .cons (.cpx .f32) (.cons (.bool) (.nil))
noncomputable def Γ110 (k109 : Den A109 → Bool) (g109 : Den A109 → Den R109) (k50 : Den A50 → Bool) (g50 : Den A50 → Den R50) (k115 : Den A115 → Bool) (g115 : Den A115 → Den R115) : Env := mkEnv tab eqs [(109, fnMean A109 R109 k109 g109), (50, fnMean A50 R50 k50 g50), (115, fnMean A115 R115 k115 g115)] 13 [.tmp 4, .tmp 5] [] [] [] [] []
def r110 (k109 : Den A109 → Bool) (g109 : Den A109 → Den R109) (k50 : Den A50 → Bool) (g50 : Den A50 → Den R50) (k115 : Den A115 → Bool) (g115 : Den A115 → Den R115) (x : Den A110) : Option (Den R110) :=
  let v0 := (k109 x.snd)
  bif (v0) then
    let v1 := (g109 x.snd)
    bif (!v1.fst) then
      some (((0), (0)), ((false), ()))
    else
      let v2 := (k50 (x.fst, ()))
      bif (v2) then
        let v3 := (g50 (x.fst, ()))
        let v4 := (k115 (v3.fst, x.snd))
        bif (v4) then
          let v5 := (g115 (v3.fst, x.snd))
          some (((v5.fst.1), (v5.fst.2)), ((true), ()))
        else
          none
      else
        none
  else
    none
theorem ev110 (k109 : Den A109 → Bool) (g109 : Den A109 → Den R109) (k50 : Den A50 → Bool) (g50 : Den A50 → Den R50) (k115 : Den A115 → Bool) (g115 : Den A115 → Den R115) (x : Den A110) : callK (Γ110 k109 g109 k50 g50 k115 g115) (bodyOf Try.f110) (decR R110) (encA A110 x) [] = r110 k109 g109 k50 g50 k115 g115 x := by kernel_rfl
def F110 (x : Den A110) : Option (Den R110) := r110 K109 G109 K50 G50 K115 G115 x
def K110 (x : Den A110) : Bool := (F110 x).isSome
def G110 (x : Den A110) : Den R110 := (F110 x).getD (zero R110)
theorem env110 : EnvOK Try.prog (Γ110 K109 G109 K50 G50 K115 G115) := env_ok mixed tab_ok eqs_ok (.cons sem109 (.cons sem50 (.cons sem115 .nil)))
theorem is110 : FnIs Try.prog 110 (Γ110 K109 G109 K50 G50 K115 G115) (bodyOf Try.f110) := fnIs Try.func110 rfl rfl rfl (by kernel_rfl) (noLoops (by kernel_rfl))
theorem sem110 : SemOK Try.prog (110, fnMean A110 R110 K110 G110) := fn_opt env110 is110 fun x => ev110 K109 G109 K50 G50 K115 G115 x

/- "loop.example/g03321/impl.drifted" -/
abbrev A111 : Ty := .cons (.cpx .f32) (.cons (.cpx .f32) (.nil))
abbrev R111 : Ty := .cons (.cpx .f32) (.nil)
noncomputable def Γ111 : Env := mkEnv tab eqs [] 16 [.tmp 4] [] [] [] [] []
def r111 (x : Den A111) : Option (Den R111) :=
  let v0 := (farith BinOp.add FloatKind.f32 x.fst.fst x.snd.fst.fst)
  let v1 := (farith BinOp.add FloatKind.f32 x.fst.snd x.snd.fst.snd)
  some (((v0), (v1)), ())
theorem ev111 (x : Den A111) : callK (Γ111) (bodyOf Try.f111) (decR R111) (encA A111 x) [] = r111 x := by kernel_rfl
def F111 (x : Den A111) : Option (Den R111) := r111 x
def K111 (x : Den A111) : Bool := (F111 x).isSome
def G111 (x : Den A111) : Den R111 := (F111 x).getD (zero R111)
theorem env111 : EnvOK Try.prog (Γ111) := env_ok mixed tab_ok eqs_ok .nil
theorem is111 : FnIs Try.prog 111 (Γ111) (bodyOf Try.f111) := fnIs Try.func111 rfl rfl rfl (by kernel_rfl) (noLoops (by kernel_rfl))
theorem sem111 : SemOK Try.prog (111, fnMean A111 R111 K111 G111) := fn_opt env111 is111 fun x => ev111 x

/- "loop.example/g03321/impl.OverGround" -/
abbrev A93 : Ty := .cons (.int .i64) (.cons (.flt .f32) (.cons (.cpx .f32) (.nil)))
abbrev R93 : Ty := .cons (.cpx .f32) (.cons (.bool) (.nil))
noncomputable def Γ93 (k110 : Den A110 → Bool) (g110 : Den A110 → Den R110) (k103 : Den A103 → Bool) (g103 : Den A103 → Den R103) (k111 : Den A111 → Bool) (g111 : Den A111 → Den R111) : Env := mkEnv tab eqs [(110, fnMean A110 R110 k110 g110), (103, fnMean A103 R103 k103 g103), (111, fnMean A111 R111 k111 g111)] 26 [.tmp 6, .tmp 7] [] [] [] [] []
def r93 (k110 : Den A110 → Bool) (g110 : Den A110 → Den R110) (k103 : Den A103 → Bool) (g103 : Den A103 → Den R103) (k111 : Den A111 → Bool) (g111 : Den A111 → Den R111) (x : Den A93) : Option (Den R93) :=
  let v0 := (k110 (x.fst, x.snd.fst, ()))
  bif (v0) then
    let v1 := (g110 (x.fst, x.snd.fst, ()))
    bif (!v1.snd.fst) then
      some (((0), (0)), ((false), ()))
    else
      let v2 := (k103 x.snd.snd)
      bif (v2) then
        let v3 := (g103 x.snd.snd)
        bif (!v3.fst) then
          some (((0), (0)), ((false), ()))
        else
          let v4 := (k111 (v1.fst, x.snd.snd))
          bif (v4) then
            let v5 := (g111 (v1.fst, x.snd.snd))
            some (((v5.fst.1), (v5.fst.2)), ((true), ()))
          else
            none
      else
        none
  else
    none
theorem ev93 (k110 : Den A110 → Bool) (g110 : Den A110 → Den R110) (k103 : Den A103 → Bool) (g103 : Den A103 → Den R103) (k111 : Den A111 → Bool) (g111 : Den A111 → Den R111) (x : Den A93) : callK (Γ93 k110 g110 k103 g103 k111 g111) (bodyOf Try.f93) (decR R93) (encA A93 x) [] = r93 k110 g110 k103 g103 k111 g111 x := by kernel_rfl
def F93 (x : Den A93) : Option (Den R93) := r93 K110 G110 K103 G103 K111 G111 x
def K93 (x : Den A93) : Bool := (F93 x).isSome
def G93 (x : Den A93) : Den R93 := (F93 x).getD (zero R93)
theorem env93 : EnvOK Try.prog (Γ93 K110 G110 K103 G103 K111 G111) := env_ok mixed tab_ok eqs_ok (.cons sem110 (.cons sem103 (.cons sem111 .nil)))
theorem is93 : FnIs Try.prog 93 (Γ93 K110 G110 K103 G103 K111 G111) (bodyOf Try.f93) := fnIs Try.func93 rfl rfl rfl (by kernel_rfl) (noLoops (by kernel_rfl))
theorem sem93 : SemOK Try.prog (93, fnMean A93 R93 K93 G93) := fn_opt env93 is93 fun x => ev93 K110 G110 K103 G103 K111 G111 x

/- "loop.example/g03321/impl.StepOn" -/
abbrev A94 : Ty := .cons (.cpx .f64) (.cons (.cpx .f32) (.cons (.int .i64) (.nil)))
abbrev R94 : Ty := .cons (.cpx .f64) (.cons (.bool) (.nil))
noncomputable def Γ94 (k41 : Den A41 → Bool) (g41 : Den A41 → Den R41) (k103 : Den A103 → Bool) (g103 : Den A103 → Den R103) (k48 : Den A48 → Bool) (g48 : Den A48 → Den R48) : Env := mkEnv tab eqs [(41, fnMean A41 R41 k41 g41), (103, fnMean A103 R103 k103 g103), (48, fnMean A48 R48 k48 g48)] 46 [.tmp 6, .tmp 7] [] [] [] [] []
def r94 (k41 : Den A41 → Bool) (g41 : Den A41 → Den R41) (k103 : Den A103 → Bool) (g103 : Den A103 → Den R103) (k48 : Den A48 → Bool) (g48 : Den A48 → Den R48) (x : Den A94) : Option (Den R94) :=
  let v0 := (k41 (x.fst, ()))
  bif (v0) then
    let v1 := (g41 (x.fst, ()))
    bif (!v1.fst) then
      some (((0), (0)), ((false), ()))
    else
      let v2 := (k103 (x.snd.fst, ()))
      bif (v2) then
        let v3 := (g103 (x.snd.fst, ()))
        bif (!v3.fst) then
          some (((0), (0)), ((false), ()))
        else
          let v4 := (k48 (x.snd.snd.fst, 0, 100000, ()))
          bif (v4) then
            let v5 := (g48 (x.snd.snd.fst, 0, 100000, ()))
            bif (!v5.fst) then
              some (((0), (0)), ((false), ()))
            else
              let v6 := (farith BinOp.mul FloatKind.f64 (convF FloatKind.f32 FloatKind.f64 x.snd.fst.fst).snd (FloatKind.nearest FloatKind.f64 x.snd.snd.fst))
              let v7 := (farith BinOp.add FloatKind.f64 x.fst.fst v6)
              let v8 := (farith BinOp.mul FloatKind.f64 (convF FloatKind.f32 FloatKind.f64 x.snd.fst.snd).snd (FloatKind.nearest FloatKind.f64 x.snd.snd.fst))
              let v9 := (farith BinOp.add FloatKind.f64 x.fst.snd v8)
              let v10 := (k41 ((v7, v9), ()))
              bif (v10) then
                let v11 := (g41 ((v7, v9), ()))
                bif (!v11.fst) then
                  some (((0), (0)), ((false), ()))
                else
                  some (((v7), (v9)), ((true), ()))
              else
                none
          else
            none
      else
        none
  else
    none
theorem ev94 (k41 : Den A41 → Bool) (g41 : Den A41 → Den R41) (k103 : Den A103 → Bool) (g103 : Den A103 → Den R103) (k48 : Den A48 → Bool) (g48 : Den A48 → Den R48) (x : Den A94) : callK (Γ94 k41 g41 k103 g103 k48 g48) (bodyOf Try.f94) (decR R94) (encA A94 x) [] = r94 k41 g41 k103 g103 k48 g48 x := by kernel_rfl
def F94 (x : Den A94) : Option (Den R94) := r94 K41 G41 K103 G103 K48 G48 x
def K94 (x : Den A94) : Bool := (F94 x).isSome
def G94 (x : Den A94) : Den R94 := (F94 x).getD (zero R94)
theorem env94 : EnvOK Try.prog (Γ94 K41 G41 K103 G103 K48 G48) := env_ok mixed tab_ok eqs_ok (.cons sem41 (.cons sem103 (.cons sem48 .nil)))
theorem is94 : FnIs Try.prog 94 (Γ94 K41 G41 K103 G103 K48 G48) (bodyOf Try.f94) := fnIs Try.func94 rfl rfl rfl (by kernel_rfl) (noLoops (by kernel_rfl))
theorem sem94 : SemOK Try.prog (94, fnMean A94 R94 K94 G94) := fn_opt env94 is94 fun x => ev94 K41 G41 K103 G103 K48 G48 x

/- "loop.example/g03321/impl.sailed" -/
abbrev A63 : Ty := .cons (.cpx .f64) (.cons (S53) (.cons (.int .i64) (.cons (.cpx .f32) (.nil))))
abbrev R63 : Ty := .cons (.cpx .f64) (.cons (.bool) (.nil))
noncomputable def Γ63 (k93 : Den A93 → Bool) (g93 : Den A93 → Den R93) (k94 : Den A94 → Bool) (g94 : Den A94 → Den R94) : Env := mkEnv tab eqs [(93, fnMean A93 R93 k93 g93), (94, fnMean A94 R94 k94 g94)] 29 [.tmp 8, .tmp 9] [] [] [] [] []
def r63 (k93 : Den A93 → Bool) (g93 : Den A93 → Den R93) (k94 : Den A94 → Bool) (g94 : Den A94 → Den R94) (x : Den A63) : Option (Den R63) :=
  let v0 := (k93 (x.snd.fst.fst, x.snd.fst.snd.fst, x.snd.snd.snd))
  bif (v0) then
    let v1 := (g93 (x.snd.fst.fst, x.snd.fst.snd.fst, x.snd.snd.snd))
    bif (!v1.snd.fst) then
      some (((0), (0)), ((false), ()))
    else
      let v2 := (k94 (x.fst, v1.fst, x.snd.snd.fst, ()))
      bif (v2) then
        let v3 := (g94 (x.fst, v1.fst, x.snd.snd.fst, ()))
        some (((v3.fst.1), (v3.fst.2)), ((v3.snd.1), ()))
      else
        none
  else
    none
theorem ev63 (k93 : Den A93 → Bool) (g93 : Den A93 → Den R93) (k94 : Den A94 → Bool) (g94 : Den A94 → Den R94) (x : Den A63) : callK (Γ63 k93 g93 k94 g94) (bodyOf Try.f63) (decR R63) (encA A63 x) [] = r63 k93 g93 k94 g94 x := by kernel_rfl
def F63 (x : Den A63) : Option (Den R63) := r63 K93 G93 K94 G94 x
def K63 (x : Den A63) : Bool := (F63 x).isSome
def G63 (x : Den A63) : Den R63 := (F63 x).getD (zero R63)
theorem env63 : EnvOK Try.prog (Γ63 K93 G93 K94 G94) := env_ok mixed tab_ok eqs_ok (.cons sem93 (.cons sem94 .nil))
theorem is63 : FnIs Try.prog 63 (Γ63 K93 G93 K94 G94) (bodyOf Try.f63) := fnIs Try.func63 rfl rfl rfl (by kernel_rfl) (noLoops (by kernel_rfl))
theorem sem63 : SemOK Try.prog (63, fnMean A63 R63 K63 G63) := fn_opt env63 is63 fun x => ev63 K93 G93 K94 G94 x

/- "loop.example/g03321/impl.RunTide" -/
abbrev A21 : Ty := .cons (.cpx .f64) (.cons (.int .i64) (.cons (.slice (S53)) (.cons (S48) (.nil))))
abbrev R21 : Ty := .cons (.cpx .f64) (.cons (.bool) (.nil))
abbrev V21_4 : Type := (((Nat × Nat) × (Int × (Unit × ((List (Den (S53))) × (Int × (Int × Unit)))))) × (((List (Den (S96))) × ((List (Den (.int .i64))) × Unit)) × Unit))
def sh21_4 : ShS := ⟨[(0, .one (.cpx .f64)), (1, .one (.int .i64)), (7, .one (.ptr 0 0)), (25, .one (.sl (S53))), (26, .one (.int .i64)), (27, .one (.int .i64))], [(0, .box [.sl (S96), .sl (.int .i64)])], 1, 0⟩
abbrev X21_4 : Type := (((Nat × Nat) × Unit) × Unit)
def shX21_4 : ShS := ⟨[(0, .one (.cpx .f64))], [], 0, 0⟩
abbrev Y21_4 : Type := (((Nat × Nat) × (Bool × Unit)) × Unit)
def shY21_4 : ShS := ⟨[(8, .one (.cpx .f64)), (9, .one (.bool))], [], 0, 0⟩
abbrev V21_7 : Type := (((Nat × Nat) × (Int × (Unit × (Unit × (Int × ((List (Den (S53))) × (Int × (Int × Unit)))))))) × (((List (Den (S96))) × ((List (Den (.int .i64))) × Unit)) × ((Int × (Nat × (Int × Unit))) × Unit)))
def sh21_7 : ShS := ⟨[(0, .one (.cpx .f64)), (1, .one (.int .i64)), (7, .one (.ptr 0 0)), (11, .one (.ptr 1 0)), (12, .one (.int .i64)), (25, .one (.sl (S53))), (26, .one (.int .i64)), (27, .one (.int .i64))], [(0, .box [.sl (S96), .sl (.int .i64)]), (1, .box [.int .i64, .flt .f32, .int .i64])], 2, 0⟩
abbrev X21_7 : Type := (((Nat × Nat) × (Int × (Unit × ((List (Den (S53))) × (Int × (Int × Unit)))))) × (((List (Den (S96))) × ((List (Den (.int .i64))) × Unit)) × Unit))
def shX21_7 : ShS := ⟨[(0, .one (.cpx .f64)), (1, .one (.int .i64)), (7, .one (.ptr 0 0)), (25, .one (.sl (S53))), (26, .one (.int .i64)), (27, .one (.int .i64))], [(0, .box [.sl (S96), .sl (.int .i64)])], 1, 0⟩
abbrev Y21_7 : Type := (((Nat × Nat) × (Bool × Unit)) × Unit)
def shY21_7 : ShS := ⟨[(8, .one (.cpx .f64)), (9, .one (.bool))], [], 0, 0⟩
noncomputable def Γ21 (k41 : Den A41 → Bool) (g41 : Den A41 → Den R41) (k62 : Den A62 → Bool) (g62 : Den A62 → Den R62) (k28 : Den A28 → Bool) (g28 : Den A28 → Den R28) (k63 : Den A63 → Bool) (g63 : Den A63 → Den R63) (kl4 : V21_4 → Bool) (xl4 : V21_4 → X21_4) (tl4 : V21_4 → Bool) (yl4 : V21_4 → Y21_4) (kl7 : V21_7 → Bool) (xl7 : V21_7 → X21_7) (tl7 : V21_7 → Bool) (yl7 : V21_7 → Y21_7) : Env := mkEnv tab eqs [(41, fnMean A41 R41 k41 g41), (62, fnMean A62 R62 k62 g62), (28, fnMean A28 R28 k28 g28), (63, fnMean A63 R63 k63 g63)] 65 [.tmp 8, .tmp 9] [] [] [(4, loopR [0, 1, 7, 25, 26, 27] [] 0 [0] [] sh21_4 shX21_4 shY21_4 kl4 tl4 xl4 yl4), (7, loopR [0, 1, 7, 11, 12, 25, 26, 27] [] 2 [0, 1, 7, 25, 26, 27] [] sh21_7 shX21_7 shY21_7 kl7 tl7 xl7 yl7)] [] []
noncomputable def lc21_4 : Code := (loopsOf (bodyOf Try.f21)).getD 0 .skip
noncomputable def lc21_7 : Code := (loopsOf (bodyOf Try.f21)).getD 1 .skip
def q21_7 (k41 : Den A41 → Bool) (g41 : Den A41 → Den R41) (k62 : Den A62 → Bool) (g62 : Den A62 → Den R62) (k28 : Den A28 → Bool) (g28 : Den A28 → Den R28) (k63 : Den A63 → Bool) (g63 : Den A63 → Den R63) (f : V21_7 → Option (X21_7 ⊕ Y21_7)) (v : V21_7) : Option (X21_7 ⊕ Y21_7) :=
  bif (decide (v.fst.snd.snd.snd.snd.fst > 0)) then
    let v0 := (k28 (v.snd.fst, v.fst.fst, v.fst.snd.fst, ()))
    bif (v0) then
      let v1 := (g28 (v.snd.fst, v.fst.fst, v.fst.snd.fst, ()))
      bif (!v1.snd.fst) then
        some (Sum.inr ((((0), (0)), ((false), ())), ()))
      else
        let v2 := (k63 (v.fst.fst, v.snd.snd.fst, imin v.fst.snd.snd.snd.snd.fst 600, v1.fst, ()))
        bif (v2) then
          let v3 := (g63 (v.fst.fst, v.snd.snd.fst, imin v.fst.snd.snd.snd.snd.fst 600, v1.fst, ()))
          bif (!v3.snd.fst) then
            some (Sum.inr ((((0), (0)), ((false), ())), ()))
          else
            let v4 := (IntKind.wrap IntKind.i64 (v.fst.snd.fst + imin v.fst.snd.snd.snd.snd.fst 600))
            let v5 := (IntKind.wrap IntKind.i64 (v.fst.snd.snd.snd.snd.fst - imin v.fst.snd.snd.snd.snd.fst 600))
            f ((((v3.fst.1), (v3.fst.2)), ((v4), ((), ((), ((v5), ((v.fst.snd.snd.snd.snd.snd.1), ((v.fst.snd.snd.snd.snd.snd.snd.1), ((v.fst.snd.snd.snd.snd.snd.snd.snd.1), ())))))))), (((v.snd.fst.1), ((v.snd.fst.snd.1), ())), (((v.snd.snd.fst.1), ((v.snd.snd.fst.snd.1), ((v.snd.snd.fst.snd.snd.1), ()))), ())))
        else
          none
    else
      none
  else
    some (Sum.inl ((((v.fst.fst.1), (v.fst.fst.2)), ((v.fst.snd.1), ((), ((v.fst.snd.snd.snd.snd.snd.1), ((v.fst.snd.snd.snd.snd.snd.snd.1), ((v.fst.snd.snd.snd.snd.snd.snd.snd.1), ())))))), (((v.snd.fst.1), ((v.snd.fst.snd.1), ())), ())))
theorem evl21_7 (k41 : Den A41 → Bool) (g41 : Den A41 → Den R41) (k62 : Den A62 → Bool) (g62 : Den A62 → Den R62) (k28 : Den A28 → Bool) (g28 : Den A28 → Den R28) (k63 : Den A63 → Bool) (g63 : Den A63 → Den R63) (kl4 : V21_4 → Bool) (xl4 : V21_4 → X21_4) (tl4 : V21_4 → Bool) (yl4 : V21_4 → Y21_4) (kl7 : V21_7 → Bool) (xl7 : V21_7 → X21_7) (tl7 : V21_7 → Bool) (yl7 : V21_7 → Y21_7) (f : V21_7 → Option (X21_7 ⊕ Y21_7)) (v : V21_7) : EBk (Γ21 k41 g41 k62 g62 k28 g28 k63 g63 kl4 xl4 tl4 yl4 kl7 xl7 tl7 yl7) lc21_7 (roundK [0, 1, 7, 11, 12, 25, 26, 27] [] 2 [0, 1, 7, 25, 26, 27] [] (atS sh21_7 f) (endS shX21_7 shY21_7)) (mkS sh21_7 v) = q21_7 k41 g41 k62 g62 k28 g28 k63 g63 f v := by kernel_rfl
def b21_7 (v : V21_7) : Nat := v.1.2.1.natAbs + v.1.2.2.2.2.1.natAbs + v.1.2.2.2.2.2.1.length + v.1.2.2.2.2.2.2.1.natAbs + v.1.2.2.2.2.2.2.2.1.natAbs + v.2.1.1.length + v.2.1.2.1.length + v.2.2.1.1.natAbs + v.2.2.1.2.2.1.natAbs + 1000
def l21_7 (v : V21_7) : Option (X21_7 ⊕ Y21_7) := iter (q21_7 K41 G41 K62 G62 K28 G28 K63 G63) (b21_7 v) v
def kL21_7 (v : V21_7) : Bool := (l21_7 v).isSome
def tL21_7 (v : V21_7) : Bool := isR (l21_7 v)
def xL21_7 (v : V21_7) : X21_7 := xOf (((0, 0), (0, ((), ([], (0, (0, ())))))), (([], ([], ())), ())) (l21_7 v)
def yL21_7 (v : V21_7) : Y21_7 := yOf (((0, 0), (false, ())), ()) (l21_7 v)
def q21_4 (k41 : Den A41 → Bool) (g41 : Den A41 → Den R41) (k62 : Den A62 → Bool) (g62 : Den A62 → Den R62) (k28 : Den A28 → Bool) (g28 : Den A28 → Den R28) (k63 : Den A63 → Bool) (g63 : Den A63 → Den R63) (kl7 : V21_7 → Bool) (xl7 : V21_7 → X21_7) (tl7 : V21_7 → Bool) (yl7 : V21_7 → Y21_7) (f : V21_4 → Option (X21_4 ⊕ Y21_4)) (v : V21_4) : Option (X21_4 ⊕ Y21_4) :=
  bif (decide (v.fst.snd.snd.snd.snd.snd.fst < v.fst.snd.snd.snd.snd.fst)) then
    bif (decide (0 ≤ v.fst.snd.snd.snd.snd.snd.fst) && decide (v.fst.snd.snd.snd.snd.snd.fst < (↑(List.length v.fst.snd.snd.snd.fst) : Int))) then
      let v0 := (List.getD v.fst.snd.snd.snd.fst (Int.toNat v.fst.snd.snd.snd.snd.snd.fst) (zero S53))
      let v1 := (kl7 ((v.fst.fst, v.fst.snd.fst, (), (), v0.snd.snd.fst, v.fst.snd.snd.snd), v.snd.fst, v0, ()))
      bif (v1) then
        let v2 := (tl7 ((v.fst.fst, v.fst.snd.fst, (), (), v0.snd.snd.fst, v.fst.snd.snd.snd), v.snd.fst, v0, ()))
        bif (v2) then
          let v3 := (yl7 ((v.fst.fst, v.fst.snd.fst, (), (), v0.snd.snd.fst, v.fst.snd.snd.snd), v.snd.fst, v0, ()))
          some (Sum.inr ((((v3.fst.fst.1), (v3.fst.fst.2)), ((v3.fst.snd.1), ())), ()))
        else
          let v3 := (xl7 ((v.fst.fst, v.fst.snd.fst, (), (), v0.snd.snd.fst, v.fst.snd.snd.snd), v.snd.fst, v0, ()))
          let v4 := (IntKind.wrap IntKind.i64 (v3.fst.snd.snd.snd.snd.snd.fst + 1))
          f ((((v3.fst.fst.1), (v3.fst.fst.2)), ((v3.fst.snd.1), ((), ((v3.fst.snd.snd.snd.1), ((v3.fst.snd.snd.snd.snd.1), ((v4), ())))))), (((v3.snd.fst.1), ((v3.snd.fst.snd.1), ())), ()))
      else
        none
    else
      none
  else
    some (Sum.inl ((((v.fst.fst.1), (v.fst.fst.2)), ()), ()))
theorem evl21_4 (k41 : Den A41 → Bool) (g41 : Den A41 → Den R41) (k62 : Den A62 → Bool) (g62 : Den A62 → Den R62) (k28 : Den A28 → Bool) (g28 : Den A28 → Den R28) (k63 : Den A63 → Bool) (g63 : Den A63 → Den R63) (kl4 : V21_4 → Bool) (xl4 : V21_4 → X21_4) (tl4 : V21_4 → Bool) (yl4 : V21_4 → Y21_4) (kl7 : V21_7 → Bool) (xl7 : V21_7 → X21_7) (tl7 : V21_7 → Bool) (yl7 : V21_7 → Y21_7) (f : V21_4 → Option (X21_4 ⊕ Y21_4)) (v : V21_4) : EBk (Γ21 k41 g41 k62 g62 k28 g28 k63 g63 kl4 xl4 tl4 yl4 kl7 xl7 tl7 yl7) lc21_4 (roundK [0, 1, 7, 25, 26, 27] [] 0 [0] [] (atS sh21_4 f) (endS shX21_4 shY21_4)) (mkS sh21_4 v) = q21_4 k41 g41 k62 g62 k28 g28 k63 g63 kl7 xl7 tl7 yl7 f v := by kernel_rfl
def b21_4 (v : V21_4) : Nat := v.1.2.1.natAbs + v.1.2.2.2.1.length + v.1.2.2.2.2.1.natAbs + v.1.2.2.2.2.2.1.natAbs + v.2.1.1.length + v.2.1.2.1.length + 1000
def l21_4 (v : V21_4) : Option (X21_4 ⊕ Y21_4) := iter (q21_4 K41 G41 K62 G62 K28 G28 K63 G63 kL21_7 xL21_7 tL21_7 yL21_7) (b21_4 v) v
def kL21_4 (v : V21_4) : Bool := (l21_4 v).isSome
def tL21_4 (v : V21_4) : Bool := isR (l21_4 v)
def xL21_4 (v : V21_4) : X21_4 := xOf (((0, 0), ()), ()) (l21_4 v)
def yL21_4 (v : V21_4) : Y21_4 := yOf (((0, 0), (false, ())), ()) (l21_4 v)
def r21 (k41 : Den A41 → Bool) (g41 : Den A41 → Den R41) (k62 : Den A62 → Bool) (g62 : Den A62 → Den R62) (k28 : Den A28 → Bool) (g28 : Den A28 → Den R28) (k63 : Den A63 → Bool) (g63 : Den A63 → Den R63) (kl4 : V21_4 → Bool) (xl4 : V21_4 → X21_4) (tl4 : V21_4 → Bool) (yl4 : V21_4 → Y21_4) (kl7 : V21_7 → Bool) (xl7 : V21_7 → X21_7) (tl7 : V21_7 → Bool) (yl7 : V21_7 → Y21_7) (x : Den A21) : Option (Den R21) :=
  let v0 := (k41 (x.fst, ()))
  bif (v0) then
    let v1 := (g41 (x.fst, ()))
    bif (!v1.fst) then
      some (((0), (0)), ((false), ()))
    else
      let v2 := (k62 (x.snd.snd.fst, ()))
      bif (v2) then
        let v3 := (g62 (x.snd.snd.fst, ()))
        bif (!v3.fst) then
          some (((0), (0)), ((false), ()))
        else
          let v4 := (kl4 ((x.fst, x.snd.fst, (), x.snd.snd.fst, (↑(List.length x.snd.snd.fst) : Int), 0, ()), x.snd.snd.snd))
          bif (v4) then
            let v5 := (tl4 ((x.fst, x.snd.fst, (), x.snd.snd.fst, (↑(List.length x.snd.snd.fst) : Int), 0, ()), x.snd.snd.snd))
            bif (v5) then
              let v6 := (yl4 ((x.fst, x.snd.fst, (), x.snd.snd.fst, (↑(List.length x.snd.snd.fst) : Int), 0, ()), x.snd.snd.snd))
              some (((v6.fst.fst.1), (v6.fst.fst.2)), ((v6.fst.snd.1), ()))
            else
              let v6 := (xl4 ((x.fst, x.snd.fst, (), x.snd.snd.fst, (↑(List.length x.snd.snd.fst) : Int), 0, ()), x.snd.snd.snd))
              some (((v6.fst.fst.1), (v6.fst.fst.2)), ((true), ()))
          else
            none
      else
        none
  else
    none
theorem ev21 (k41 : Den A41 → Bool) (g41 : Den A41 → Den R41) (k62 : Den A62 → Bool) (g62 : Den A62 → Den R62) (k28 : Den A28 → Bool) (g28 : Den A28 → Den R28) (k63 : Den A63 → Bool) (g63 : Den A63 → Den R63) (kl4 : V21_4 → Bool) (xl4 : V21_4 → X21_4) (tl4 : V21_4 → Bool) (yl4 : V21_4 → Y21_4) (kl7 : V21_7 → Bool) (xl7 : V21_7 → X21_7) (tl7 : V21_7 → Bool) (yl7 : V21_7 → Y21_7) (x : Den A21) : callK (Γ21 k41 g41 k62 g62 k28 g28 k63 g63 kl4 xl4 tl4 yl4 kl7 xl7 tl7 yl7) (bodyOf Try.f21) (decR R21) (encA A21 x) [] = r21 k41 g41 k62 g62 k28 g28 k63 g63 kl4 xl4 tl4 yl4 kl7 xl7 tl7 yl7 x := by kernel_rfl
def F21 (x : Den A21) : Option (Den R21) := r21 K41 G41 K62 G62 K28 G28 K63 G63 kL21_4 xL21_4 tL21_4 yL21_4 kL21_7 xL21_7 tL21_7 yL21_7 x
def K21 (x : Den A21) : Bool := (F21 x).isSome
def G21 (x : Den A21) : Den R21 := (F21 x).getD (zero R21)
theorem env21 : EnvOK Try.prog (Γ21 K41 G41 K62 G62 K28 G28 K63 G63 kL21_4 xL21_4 tL21_4 yL21_4 kL21_7 xL21_7 tL21_7 yL21_7) := env_ok mixed tab_ok eqs_ok (.cons sem41 (.cons sem62 (.cons sem28 (.cons sem63 .nil))))
theorem is21 : FnIs Try.prog 21 (Γ21 K41 G41 K62 G62 K28 G28 K63 G63 kL21_4 xL21_4 tL21_4 yL21_4 kL21_7 xL21_7 tL21_7 yL21_7) (bodyOf Try.f21) := fnIs Try.func21 rfl rfl rfl (by kernel_rfl) (loops_ok (l := [lc21_4, lc21_7]) (by kernel_rfl) (.cons (one_loop rfl (loopR_sound (sh := sh21_4) (shX := shX21_4) (shR := shY21_4) (fun f v => evl21_4 K41 G41 K62 G62 K28 G28 K63 G63 kL21_4 xL21_4 tL21_4 yL21_4 kL21_7 xL21_7 tL21_7 yL21_7 f v) b21_4 (((0, 0), ()), ()) (((0, 0), (false, ())), ()))) (.cons (one_loop rfl (loopR_sound (sh := sh21_7) (shX := shX21_7) (shR := shY21_7) (fun f v => evl21_7 K41 G41 K62 G62 K28 G28 K63 G63 kL21_4 xL21_4 tL21_4 yL21_4 kL21_7 xL21_7 tL21_7 yL21_7 f v) b21_7 (((0, 0), (0, ((), ([], (0, (0, ())))))), (([], ([], ())), ())) (((0, 0), (false, ())), ()))) (.nil))))
theorem sem21 : SemOK Try.prog (21, fnMean A21 R21 K21 G21) := fn_opt env21 is21 fun x => ev21 K41 G41 K62 G62 K28 G28 K63 G63 kL21_4 xL21_4 tL21_4 yL21_4 kL21_7 xL21_7 tL21_7 yL21_7 x

/- "loop.example/g03321/spec.l02Amount" -/
abbrev A64 : Ty := .cons (.flt .f64) (.nil)
abbrev R64 : Ty := .cons (.flt .f64) (.nil)
noncomputable def Γ64 : Env := mkEnv tab eqs [] 8 [.tmp 2] [] [] [] [] []
def r64 (x : Den A64) : Option (Den R64) :=
  bif (flt FloatKind.f64 x.fst 0) then
    let v0 := (fneg FloatKind.f64 x.fst)
    some ((v0), ())
  else
    some ((x.1), ())
theorem ev64 (x : Den A64) : callK (Γ64) (bodyOf Try.f64) (decR R64) (encA A64 x) [] = r64 x := by kernel_rfl
def F64 (x : Den A64) : Option (Den R64) := r64 x
def K64 (x : Den A64) : Bool := (F64 x).isSome
def G64 (x : Den A64) : Den R64 := (F64 x).getD (zero R64)
theorem env64 : EnvOK Try.prog (Γ64) := env_ok mixed tab_ok eqs_ok .nil
theorem is64 : FnIs Try.prog 64 (Γ64) (bodyOf Try.f64) := fnIs Try.func64 rfl rfl rfl (by kernel_rfl) (noLoops (by kernel_rfl))
theorem sem64 : SemOK Try.prog (64, fnMean A64 R64 K64 G64) := fn_opt env64 is64 fun x => ev64 x

/- "loop.example/g03321/spec.VectorOk" -/
abbrev A22 : Ty := .cons (.cpx .f64) (.nil)
abbrev R22 : Ty := .cons (.bool) (.nil)
noncomputable def Γ22 (k64 : Den A64 → Bool) (g64 : Den A64 → Den R64) : Env := mkEnv tab eqs [(64, fnMean A64 R64 k64 g64)] 13 [.tmp 2] [] [] [] [] []
def r22 (k64 : Den A64 → Bool) (g64 : Den A64 → Den R64) (x : Den A22) : Option (Den R22) :=
  let v0 := (k64 (x.fst.fst, ()))
  bif (v0) then
    let v1 := (g64 (x.fst.fst, ()))
    bif (flt FloatKind.f64 v1.fst 4726483295884279808 || feq FloatKind.f64 v1.fst 4726483295884279808) then
      let v2 := (k64 (x.fst.snd, ()))
      bif (v2) then
        let v3 := (g64 (x.fst.snd, ()))
        some ((flt FloatKind.f64 v3.fst 4726483295884279808 || feq FloatKind.f64 v3.fst 4726483295884279808), ())
      else
        none
    else
      some ((false), ())
  else
    none
theorem ev22 (k64 : Den A64 → Bool) (g64 : Den A64 → Den R64) (x : Den A22) : callK (Γ22 k64 g64) (bodyOf Try.f22) (decR R22) (encA A22 x) [] = r22 k64 g64 x := by kernel_rfl
def F22 (x : Den A22) : Option (Den R22) := r22 K64 G64 x
def K22 (x : Den A22) : Bool := (F22 x).isSome
def G22 (x : Den A22) : Den R22 := (F22 x).getD (zero R22)
theorem env22 : EnvOK Try.prog (Γ22 K64 G64) := env_ok mixed tab_ok eqs_ok (.cons sem64 .nil)
theorem is22 : FnIs Try.prog 22 (Γ22 K64 G64) (bodyOf Try.f22) := fnIs Try.func22 rfl rfl rfl (by kernel_rfl) (noLoops (by kernel_rfl))
theorem sem22 : SemOK Try.prog (22, fnMean A22 R22 K22 G22) := fn_opt env22 is22 fun x => ev22 K64 G64 x

/- "loop.example/g03321/spec.LegOk" -/
abbrev A23 : Ty := .cons (S53) (.nil)
abbrev R23 : Ty := .cons (.bool) (.nil)
noncomputable def Γ23 (k39 : Den A39 → Bool) (g39 : Den A39 → Den R39) : Env := mkEnv tab eqs [(39, fnMean A39 R39 k39 g39)] 16 [.tmp 2] [] [] [] [] []
def r23 (k39 : Den A39 → Bool) (g39 : Den A39 → Den R39) (x : Den A23) : Option (Den R23) :=
  bif (fgt FloatKind.f32 x.fst.snd.fst 0 || feq FloatKind.f32 x.fst.snd.fst 0) then
    bif (flt FloatKind.f32 x.fst.snd.fst 1112014848 || feq FloatKind.f32 x.fst.snd.fst 1112014848) then
      let v0 := (k39 (x.fst.snd.snd.fst, 0, 100000, ()))
      bif (v0) then
        let v1 := (g39 (x.fst.snd.snd.fst, 0, 100000, ()))
        some ((v1.1), ())
      else
        none
    else
      some ((false), ())
  else
    some ((false), ())
theorem ev23 (k39 : Den A39 → Bool) (g39 : Den A39 → Den R39) (x : Den A23) : callK (Γ23 k39 g39) (bodyOf Try.f23) (decR R23) (encA A23 x) [] = r23 k39 g39 x := by kernel_rfl
def F23 (x : Den A23) : Option (Den R23) := r23 K39 G39 x
def K23 (x : Den A23) : Bool := (F23 x).isSome
def G23 (x : Den A23) : Den R23 := (F23 x).getD (zero R23)
theorem env23 : EnvOK Try.prog (Γ23 K39 G39) := env_ok mixed tab_ok eqs_ok (.cons sem39 .nil)
theorem is23 : FnIs Try.prog 23 (Γ23 K39 G39) (bodyOf Try.f23) := fnIs Try.func23 rfl rfl rfl (by kernel_rfl) (noLoops (by kernel_rfl))
theorem sem23 : SemOK Try.prog (23, fnMean A23 R23 K23 G23) := fn_opt env23 is23 fun x => ev23 K39 G39 x

/- "loop.example/g03321/impl.SlackFrom" -/
abbrev A26 : Ty := .cons (S48) (.cons (.cpx .f64) (.cons (.int .i64) (.cons (.flt .f32) (.nil))))
abbrev R26 : Ty := .cons (.int .i64) (.cons (.bool) (.nil))
abbrev V26_2 : Type := (((Nat × Nat) × (Int × (Nat × (Unit × (Int × Unit))))) × (((List (Den (S96))) × ((List (Den (.int .i64))) × Unit)) × Unit))
def sh26_2 : ShS := ⟨[(1, .one (.cpx .f64)), (2, .one (.int .i64)), (3, .one (.flt .f32)), (4, .one (.ptr 0 0)), (10, .one (.int .i64))], [(0, .box [.sl (S96), .sl (.int .i64)])], 1, 0⟩
abbrev X26_2 : Type := (Unit × Unit)
def shX26_2 : ShS := ⟨[], [], 0, 0⟩
abbrev Y26_2 : Type := ((Int × (Bool × Unit)) × Unit)
def shY26_2 : ShS := ⟨[(8, .one (.int .i64)), (9, .one (.bool))], [], 0, 0⟩
noncomputable def Γ26 (k28 : Den A28 → Bool) (g28 : Den A28 → Den R28) (k67 : Den A67 → Bool) (g67 : Den A67 → Den R67) (kl2 : V26_2 → Bool) (xl2 : V26_2 → X26_2) (tl2 : V26_2 → Bool) (yl2 : V26_2 → Y26_2) : Env := mkEnv tab eqs [(28, fnMean A28 R28 k28 g28), (67, fnMean A67 R67 k67 g67)] 46 [.tmp 8, .tmp 9] [] [] [(2, loopR [1, 2, 3, 4, 10] [] 0 [] [] sh26_2 shX26_2 shY26_2 kl2 tl2 xl2 yl2)] [] []
noncomputable def lc26_2 : Code := (loopsOf (bodyOf Try.f26)).getD 0 .skip
def q26_2 (k28 : Den A28 → Bool) (g28 : Den A28 → Den R28) (k67 : Den A67 → Bool) (g67 : Den A67 → Den R67) (f : V26_2 → Option (X26_2 ⊕ Y26_2)) (v : V26_2) : Option (X26_2 ⊕ Y26_2) :=
  bif (decide (v.fst.snd.snd.snd.snd.fst ≤ 720)) then
    let v0 := (IntKind.wrap IntKind.i64 (60 * v.fst.snd.snd.snd.snd.fst))
    let v1 := (IntKind.wrap IntKind.i64 (v.fst.snd.fst + v0))
    let v2 := (k28 (v.snd.fst, v.fst.fst, v1, ()))
    bif (v2) then
      let v3 := (g28 (v.snd.fst, v.fst.fst, v1, ()))
      bif (v3.snd.1) then
        let v4 := (k67 (v3.fst.fst, ()))
        bif (v4) then
          let v5 := (g67 (v3.fst.fst, ()))
          bif (flt FloatKind.f32 v5.fst v.fst.snd.snd.fst || feq FloatKind.f32 v5.fst v.fst.snd.snd.fst) then
            let v6 := (k67 (v3.fst.snd, ()))
            bif (v6) then
              let v7 := (g67 (v3.fst.snd, ()))
              bif (flt FloatKind.f32 v7.fst v.fst.snd.snd.fst || feq FloatKind.f32 v7.fst v.fst.snd.snd.fst) then
                some (Sum.inr (((v1), ((true), ())), ()))
              else
                let v8 := (IntKind.wrap IntKind.i64 (v.fst.snd.snd.snd.snd.fst + 1))
                f ((((v.fst.fst.1), (v.fst.fst.2)), ((v.fst.snd.1), ((v.fst.snd.snd.1), ((), ((v8), ()))))), (((v.snd.fst.1), ((v.snd.fst.snd.1), ())), ()))
            else
              none
          else
            let v6 := (IntKind.wrap IntKind.i64 (v.fst.snd.snd.snd.snd.fst + 1))
            f ((((v.fst.fst.1), (v.fst.fst.2)), ((v.fst.snd.1), ((v.fst.snd.snd.1), ((), ((v6), ()))))), (((v.snd.fst.1), ((v.snd.fst.snd.1), ())), ()))
        else
          none
      else
        let v4 := (IntKind.wrap IntKind.i64 (v.fst.snd.snd.snd.snd.fst + 1))
        f ((((v.fst.fst.1), (v.fst.fst.2)), ((v.fst.snd.1), ((v.fst.snd.snd.1), ((), ((v4), ()))))), (((v.snd.fst.1), ((v.snd.fst.snd.1), ())), ()))
    else
      none
  else
    some (Sum.inl ((), ()))
theorem evl26_2 (k28 : Den A28 → Bool) (g28 : Den A28 → Den R28) (k67 : Den A67 → Bool) (g67 : Den A67 → Den R67) (kl2 : V26_2 → Bool) (xl2 : V26_2 → X26_2) (tl2 : V26_2 → Bool) (yl2 : V26_2 → Y26_2) (f : V26_2 → Option (X26_2 ⊕ Y26_2)) (v : V26_2) : EBk (Γ26 k28 g28 k67 g67 kl2 xl2 tl2 yl2) lc26_2 (roundK [1, 2, 3, 4, 10] [] 0 [] [] (atS sh26_2 f) (endS shX26_2 shY26_2)) (mkS sh26_2 v) = q26_2 k28 g28 k67 g67 f v := by kernel_rfl
def b26_2 (v : V26_2) : Nat := v.1.2.1.natAbs + v.1.2.2.2.2.1.natAbs + v.2.1.1.length + v.2.1.2.1.length + 1000
def l26_2 (v : V26_2) : Option (X26_2 ⊕ Y26_2) := iter (q26_2 K28 G28 K67 G67) (b26_2 v) v
def kL26_2 (v : V26_2) : Bool := (l26_2 v).isSome
def tL26_2 (v : V26_2) : Bool := isR (l26_2 v)
def xL26_2 (v : V26_2) : X26_2 := xOf ((), ()) (l26_2 v)
def yL26_2 (v : V26_2) : Y26_2 := yOf ((0, (false, ())), ()) (l26_2 v)
def r26 (k28 : Den A28 → Bool) (g28 : Den A28 → Den R28) (k67 : Den A67 → Bool) (g67 : Den A67 → Den R67) (kl2 : V26_2 → Bool) (xl2 : V26_2 → X26_2) (tl2 : V26_2 → Bool) (yl2 : V26_2 → Y26_2) (x : Den A26) : Option (Den R26) :=
  let v0 := (kl2 ((x.snd.fst, x.snd.snd.fst, x.snd.snd.snd.fst, (), 0, ()), x.fst, ()))
  bif (v0) then
    let v1 := (tl2 ((x.snd.fst, x.snd.snd.fst, x.snd.snd.snd.fst, (), 0, ()), x.fst, ()))
    bif (v1) then
      let v2 := (yl2 ((x.snd.fst, x.snd.snd.fst, x.snd.snd.snd.fst, (), 0, ()), x.fst, ()))
      some ((v2.fst.1), ((v2.fst.snd.1), ()))
    else
      some ((0), ((false), ()))
  else
    none
theorem ev26 (k28 : Den A28 → Bool) (g28 : Den A28 → Den R28) (k67 : Den A67 → Bool) (g67 : Den A67 → Den R67) (kl2 : V26_2 → Bool) (xl2 : V26_2 → X26_2) (tl2 : V26_2 → Bool) (yl2 : V26_2 → Y26_2) (x : Den A26) : callK (Γ26 k28 g28 k67 g67 kl2 xl2 tl2 yl2) (bodyOf Try.f26) (decR R26) (encA A26 x) [] = r26 k28 g28 k67 g67 kl2 xl2 tl2 yl2 x := by kernel_rfl
def F26 (x : Den A26) : Option (Den R26) := r26 K28 G28 K67 G67 kL26_2 xL26_2 tL26_2 yL26_2 x
def K26 (x : Den A26) : Bool := (F26 x).isSome
def G26 (x : Den A26) : Den R26 := (F26 x).getD (zero R26)
theorem env26 : EnvOK Try.prog (Γ26 K28 G28 K67 G67 kL26_2 xL26_2 tL26_2 yL26_2) := env_ok mixed tab_ok eqs_ok (.cons sem28 (.cons sem67 .nil))
theorem is26 : FnIs Try.prog 26 (Γ26 K28 G28 K67 G67 kL26_2 xL26_2 tL26_2 yL26_2) (bodyOf Try.f26) := fnIs Try.func26 rfl rfl rfl (by kernel_rfl) (loops_ok (l := [lc26_2]) (by kernel_rfl) (.cons (one_loop rfl (loopR_sound (sh := sh26_2) (shX := shX26_2) (shR := shY26_2) (fun f v => evl26_2 K28 G28 K67 G67 kL26_2 xL26_2 tL26_2 yL26_2 f v) b26_2 ((), ()) ((0, (false, ())), ()))) (.nil)))
theorem sem26 : SemOK Try.prog (26, fnMean A26 R26 K26 G26) := fn_opt env26 is26 fun x => ev26 K28 G28 K67 G67 kL26_2 xL26_2 tL26_2 yL26_2 x

/- "loop.example/g03321/spec.l05FlowOk" -/
abbrev A95 : Ty := .cons (S96) (.nil)
abbrev R95 : Ty := .cons (.bool) (.nil)
abbrev V95_2 : Type := ((Unit × (Int × Unit)) × (((Nat × Nat) × ((Nat × Nat) × ((Nat × Nat) × ((Nat × Nat) × ((Nat × Nat) × ((Nat × Nat) × ((Nat × Nat) × ((Nat × Nat) × ((Nat × Nat) × ((Nat × Nat) × ((Nat × Nat) × ((Nat × Nat) × ((Nat × Nat) × ((Nat × Nat) × Unit)))))))))))))) × Unit))
def sh95_2 : ShS := ⟨[(1, .one (.ptr 0 0)), (3, .one (.int .i64))], [(0, .box [.cpx .f64, .cpx .f32, .cpx .f32, .cpx .f32, .cpx .f32, .cpx .f32, .cpx .f32, .cpx .f32, .cpx .f32, .cpx .f32, .cpx .f32, .cpx .f32, .cpx .f32, .cpx .f32])], 1, 0⟩
abbrev X95_2 : Type := (Unit × Unit)
def shX95_2 : ShS := ⟨[], [], 0, 0⟩
abbrev Y95_2 : Type := ((Bool × Unit) × Unit)
def shY95_2 : ShS := ⟨[(2, .one (.bool))], [], 0, 0⟩
noncomputable def Γ95 (k78 : Den A78 → Bool) (g78 : Den A78 → Den R78) (kl2 : V95_2 → Bool) (xl2 : V95_2 → X95_2) (tl2 : V95_2 → Bool) (yl2 : V95_2 → Y95_2) : Env := mkEnv tab eqs [(78, fnMean A78 R78 k78 g78)] 14 [.tmp 2] [] [] [(2, loopR [1, 3] [] 0 [] [] sh95_2 shX95_2 shY95_2 kl2 tl2 xl2 yl2)] [] []
noncomputable def lc95_2 : Code := (loopsOf (bodyOf Try.f95)).getD 0 .skip
def q95_2 (k78 : Den A78 → Bool) (g78 : Den A78 → Den R78) (f : V95_2 → Option (X95_2 ⊕ Y95_2)) (v : V95_2) : Option (X95_2 ⊕ Y95_2) :=
  bif (decide (v.fst.snd.fst < 13)) then
    bif (decide (0 ≤ v.fst.snd.fst) && decide (v.fst.snd.fst < (↑13 : Int))) then
      let v0 := (List.getD [v.snd.fst.snd.fst, v.snd.fst.snd.snd.fst, v.snd.fst.snd.snd.snd.fst, v.snd.fst.snd.snd.snd.snd.fst, v.snd.fst.snd.snd.snd.snd.snd.fst, v.snd.fst.snd.snd.snd.snd.snd.snd.fst, v.snd.fst.snd.snd.snd.snd.snd.snd.snd.fst, v.snd.fst.snd.snd.snd.snd.snd.snd.snd.snd.fst, v.snd.fst.snd.snd.snd.snd.snd.snd.snd.snd.snd.fst, v.snd.fst.snd.snd.snd.snd.snd.snd.snd.snd.snd.snd.fst, v.snd.fst.snd.snd.snd.snd.snd.snd.snd.snd.snd.snd.snd.fst, v.snd.fst.snd.snd.snd.snd.snd.snd.snd.snd.snd.snd.snd.snd.fst, v.snd.fst.snd.snd.snd.snd.snd.snd.snd.snd.snd.snd.snd.snd.snd.fst] (Int.toNat v.fst.snd.fst) (0, 0))
      let v1 := (k78 (v0, ()))
      bif (v1) then
        let v2 := (g78 (v0, ()))
        bif (!v2.fst) then
          some (Sum.inr (((false), ()), ()))
        else
          let v3 := (IntKind.wrap IntKind.i64 (v.fst.snd.fst + 1))
          f (((), ((v3), ())), ((((v.snd.fst.fst.1), (v.snd.fst.fst.2)), (((v.snd.fst.snd.fst.1), (v.snd.fst.snd.fst.2)), (((v.snd.fst.snd.snd.fst.1), (v.snd.fst.snd.snd.fst.2)), (((v.snd.fst.snd.snd.snd.fst.1), (v.snd.fst.snd.snd.snd.fst.2)), (((v.snd.fst.snd.snd.snd.snd.fst.1), (v.snd.fst.snd.snd.snd.snd.fst.2)), (((v.snd.fst.snd.snd.snd.snd.snd.fst.1), (v.snd.fst.snd.snd.snd.snd.snd.fst.2)), (((v.snd.fst.snd.snd.snd.snd.snd.snd.fst.1), (v.snd.fst.snd.snd.snd.snd.snd.snd.fst.2)), (((v.snd.fst.snd.snd.snd.snd.snd.snd.snd.fst.1), (v.snd.fst.snd.snd.snd.snd.snd.snd.snd.fst.2)), (((v.snd.fst.snd.snd.snd.snd.snd.snd.snd.snd.fst.1), (v.snd.fst.snd.snd.snd.snd.snd.snd.snd.snd.fst.2)), (((v.snd.fst.snd.snd.snd.snd.snd.snd.snd.snd.snd.fst.1), (v.snd.fst.snd.snd.snd.snd.snd.snd.snd.snd.snd.fst.2)), (((v.snd.fst.snd.snd.snd.snd.snd.snd.snd.snd.snd.snd.fst.1), (v.snd.fst.snd.snd.snd.snd.snd.snd.snd.snd.snd.snd.fst.2)), (((v.snd.fst.snd.snd.snd.snd.snd.snd.snd.snd.snd.snd.snd.fst.1), (v.snd.fst.snd.snd.snd.snd.snd.snd.snd.snd.snd.snd.snd.fst.2)), (((v.snd.fst.snd.snd.snd.snd.snd.snd.snd.snd.snd.snd.snd.snd.fst.1), (v.snd.fst.snd.snd.snd.snd.snd.snd.snd.snd.snd.snd.snd.snd.fst.2)), (((v.snd.fst.snd.snd.snd.snd.snd.snd.snd.snd.snd.snd.snd.snd.snd.fst.1), (v.snd.fst.snd.snd.snd.snd.snd.snd.snd.snd.snd.snd.snd.snd.snd.fst.2)), ())))))))))))))), ()))
      else
        none
    else
      none
  else
    some (Sum.inl ((), ()))
theorem evl95_2 (k78 : Den A78 → Bool) (g78 : Den A78 → Den R78) (kl2 : V95_2 → Bool) (xl2 : V95_2 → X95_2) (tl2 : V95_2 → Bool) (yl2 : V95_2 → Y95_2) (f : V95_2 → Option (X95_2 ⊕ Y95_2)) (v : V95_2) : EBk (Γ95 k78 g78 kl2 xl2 tl2 yl2) lc95_2 (roundK [1, 3] [] 0 [] [] (atS sh95_2 f) (endS shX95_2 shY95_2)) (mkS sh95_2 v) = q95_2 k78 g78 f v := by kernel_rfl
def b95_2 (v : V95_2) : Nat := v.1.2.1.natAbs + 1000
def l95_2 (v : V95_2) : Option (X95_2 ⊕ Y95_2) := iter (q95_2 K78 G78) (b95_2 v) v
def kL95_2 (v : V95_2) : Bool := (l95_2 v).isSome
def tL95_2 (v : V95_2) : Bool := isR (l95_2 v)
def xL95_2 (v : V95_2) : X95_2 := xOf ((), ()) (l95_2 v)
def yL95_2 (v : V95_2) : Y95_2 := yOf ((false, ()), ()) (l95_2 v)
def r95 (k78 : Den A78 → Bool) (g78 : Den A78 → Den R78) (kl2 : V95_2 → Bool) (xl2 : V95_2 → X95_2) (tl2 : V95_2 → Bool) (yl2 : V95_2 → Y95_2) (x : Den A95) : Option (Den R95) :=
  let v0 := (kl2 (((), 0, ()), (x.fst.fst, x.fst.snd.fst), ()))
  bif (v0) then
    let v1 := (tl2 (((), 0, ()), (x.fst.fst, x.fst.snd.fst), ()))
    bif (v1) then
      let v2 := (yl2 (((), 0, ()), (x.fst.fst, x.fst.snd.fst), ()))
      some ((v2.fst.1), ())
    else
      some ((true), ())
  else
    none
theorem ev95 (k78 : Den A78 → Bool) (g78 : Den A78 → Den R78) (kl2 : V95_2 → Bool) (xl2 : V95_2 → X95_2) (tl2 : V95_2 → Bool) (yl2 : V95_2 → Y95_2) (x : Den A95) : callK (Γ95 k78 g78 kl2 xl2 tl2 yl2) (bodyOf Try.f95) (decR R95) (encA A95 x) [] = r95 k78 g78 kl2 xl2 tl2 yl2 x := by kernel_rfl
def F95 (x : Den A95) : Option (Den R95) := r95 K78 G78 kL95_2 xL95_2 tL95_2 yL95_2 x
def K95 (x : Den A95) : Bool := (F95 x).isSome
def G95 (x : Den A95) : Den R95 := (F95 x).getD (zero R95)
theorem env95 : EnvOK Try.prog (Γ95 K78 G78 kL95_2 xL95_2 tL95_2 yL95_2) := env_ok mixed tab_ok eqs_ok (.cons sem78 .nil)
theorem is95 : FnIs Try.prog 95 (Γ95 K78 G78 kL95_2 xL95_2 tL95_2 yL95_2) (bodyOf Try.f95) := fnIs Try.func95 rfl rfl rfl (by kernel_rfl) (loops_ok (l := [lc95_2]) (by kernel_rfl) (.cons (one_loop rfl (loopR_sound (sh := sh95_2) (shX := shX95_2) (shR := shY95_2) (fun f v => evl95_2 K78 G78 kL95_2 xL95_2 tL95_2 yL95_2 f v) b95_2 ((), ()) ((false, ()), ()))) (.nil)))
theorem sem95 : SemOK Try.prog (95, fnMean A95 R95 K95 G95) := fn_opt env95 is95 fun x => ev95 K78 G78 kL95_2 xL95_2 tL95_2 yL95_2 x

/- "loop.example/g03321/spec.TideOk" -/
abbrev A68 : Ty := .cons (S48) (.nil)
abbrev R68 : Ty := .cons (.bool) (.nil)
abbrev V68_4 : Type := ((Unit × (Int × Unit)) × (((List (Den (S96))) × ((List (Den (.int .i64))) × Unit)) × Unit))
def sh68_4 : ShS := ⟨[(1, .one (.ptr 0 0)), (3, .one (.int .i64))], [(0, .box [.sl (S96), .sl (.int .i64)])], 1, 0⟩
abbrev X68_4 : Type := ((Unit × Unit) × (((List (Den (S96))) × ((List (Den (.int .i64))) × Unit)) × Unit))
def shX68_4 : ShS := ⟨[(1, .one (.ptr 0 0))], [(0, .box [.sl (S96), .sl (.int .i64)])], 1, 0⟩
abbrev Y68_4 : Type := ((Bool × Unit) × Unit)
def shY68_4 : ShS := ⟨[(2, .one (.bool))], [], 0, 0⟩
abbrev V68_9 : Type := ((Unit × (Int × Unit)) × (((List (Den (S96))) × ((List (Den (.int .i64))) × Unit)) × Unit))
def sh68_9 : ShS := ⟨[(1, .one (.ptr 0 0)), (4, .one (.int .i64))], [(0, .box [.sl (S96), .sl (.int .i64)])], 1, 0⟩
abbrev X68_9 : Type := (Unit × Unit)
def shX68_9 : ShS := ⟨[], [], 0, 0⟩
abbrev Y68_9 : Type := ((Bool × Unit) × Unit)
def shY68_9 : ShS := ⟨[(2, .one (.bool))], [], 0, 0⟩
noncomputable def Γ68 (k39 : Den A39 → Bool) (g39 : Den A39 → Den R39) (k22 : Den A22 → Bool) (g22 : Den A22 → Den R22) (k95 : Den A95 → Bool) (g95 : Den A95 → Den R95) (kl4 : V68_4 → Bool) (xl4 : V68_4 → X68_4) (tl4 : V68_4 → Bool) (yl4 : V68_4 → Y68_4) (kl9 : V68_9 → Bool) (xl9 : V68_9 → X68_9) (tl9 : V68_9 → Bool) (yl9 : V68_9 → Y68_9) : Env := mkEnv tab eqs [(39, fnMean A39 R39 k39 g39), (22, fnMean A22 R22 k22 g22), (95, fnMean A95 R95 k95 g95)] 74 [.tmp 2] [] [] [(4, loopR [1, 3] [] 0 [1] [] sh68_4 shX68_4 shY68_4 kl4 tl4 xl4 yl4), (9, loopR [1, 4] [] 2 [] [] sh68_9 shX68_9 shY68_9 kl9 tl9 xl9 yl9)] [] []
noncomputable def lc68_4 : Code := (loopsOf (bodyOf Try.f68)).getD 0 .skip
noncomputable def lc68_9 : Code := (loopsOf (bodyOf Try.f68)).getD 1 .skip
def q68_9 (k39 : Den A39 → Bool) (g39 : Den A39 → Den R39) (k22 : Den A22 → Bool) (g22 : Den A22 → Den R22) (k95 : Den A95 → Bool) (g95 : Den A95 → Den R95) (f : V68_9 → Option (X68_9 ⊕ Y68_9)) (v : V68_9) : Option (X68_9 ⊕ Y68_9) :=
  bif (decide (v.fst.snd.fst < (↑(List.length v.snd.fst.snd.fst) : Int))) then
    bif (decide (0 ≤ v.fst.snd.fst) && decide (v.fst.snd.fst < (↑(List.length v.snd.fst.snd.fst) : Int))) then
      let v0 := (List.getD v.snd.fst.snd.fst (Int.toNat v.fst.snd.fst) (zero (Ty.int IntKind.i64)))
      let v1 := (k39 (v0, 0, 10000000, ()))
      bif (v1) then
        let v2 := (g39 (v0, 0, 10000000, ()))
        bif (!v2.fst) then
          some (Sum.inr (((false), ()), ()))
        else
          bif (decide (v.fst.snd.fst > 0)) then
            bif (decide (0 ≤ v.fst.snd.fst) && decide (v.fst.snd.fst < (↑(List.length v.snd.fst.snd.fst) : Int))) then
              let v3 := (IntKind.wrap IntKind.i64 (v.fst.snd.fst - 1))
              bif (decide (0 ≤ v3) && decide (v3 < (↑(List.length v.snd.fst.snd.fst) : Int))) then
                let v4 := (List.getD v.snd.fst.snd.fst (Int.toNat v3) (zero (Ty.int IntKind.i64)))
                let v5 := (IntKind.wrap IntKind.i64 (v4 + 21600))
                bif (decide (v0 < v5)) then
                  some (Sum.inr (((false), ()), ()))
                else
                  let v6 := (IntKind.wrap IntKind.i64 (v.fst.snd.fst + 1))
                  f (((), ((v6), ())), (((v.snd.fst.1), ((v.snd.fst.snd.1), ())), ()))
              else
                none
            else
              none
          else
            let v3 := (IntKind.wrap IntKind.i64 (v.fst.snd.fst + 1))
            f (((), ((v3), ())), (((v.snd.fst.1), ((v.snd.fst.snd.1), ())), ()))
      else
        none
    else
      none
  else
    some (Sum.inl ((), ()))
theorem evl68_9 (k39 : Den A39 → Bool) (g39 : Den A39 → Den R39) (k22 : Den A22 → Bool) (g22 : Den A22 → Den R22) (k95 : Den A95 → Bool) (g95 : Den A95 → Den R95) (kl4 : V68_4 → Bool) (xl4 : V68_4 → X68_4) (tl4 : V68_4 → Bool) (yl4 : V68_4 → Y68_4) (kl9 : V68_9 → Bool) (xl9 : V68_9 → X68_9) (tl9 : V68_9 → Bool) (yl9 : V68_9 → Y68_9) (f : V68_9 → Option (X68_9 ⊕ Y68_9)) (v : V68_9) : EBk (Γ68 k39 g39 k22 g22 k95 g95 kl4 xl4 tl4 yl4 kl9 xl9 tl9 yl9) lc68_9 (roundK [1, 4] [] 2 [] [] (atS sh68_9 f) (endS shX68_9 shY68_9)) (mkS sh68_9 v) = q68_9 k39 g39 k22 g22 k95 g95 f v := by kernel_rfl
def b68_9 (v : V68_9) : Nat := v.1.2.1.natAbs + v.2.1.1.length + v.2.1.2.1.length + 1000
def l68_9 (v : V68_9) : Option (X68_9 ⊕ Y68_9) := iter (q68_9 K39 G39 K22 G22 K95 G95) (b68_9 v) v
def kL68_9 (v : V68_9) : Bool := (l68_9 v).isSome
def tL68_9 (v : V68_9) : Bool := isR (l68_9 v)
def xL68_9 (v : V68_9) : X68_9 := xOf ((), ()) (l68_9 v)
def yL68_9 (v : V68_9) : Y68_9 := yOf ((false, ()), ()) (l68_9 v)
def q68_4 (k39 : Den A39 → Bool) (g39 : Den A39 → Den R39) (k22 : Den A22 → Bool) (g22 : Den A22 → Den R22) (k95 : Den A95 → Bool) (g95 : Den A95 → Den R95) (f : V68_4 → Option (X68_4 ⊕ Y68_4)) (v : V68_4) : Option (X68_4 ⊕ Y68_4) :=
  bif (decide (v.fst.snd.fst < (↑(List.length v.snd.fst.fst) : Int))) then
    bif (decide (0 ≤ v.fst.snd.fst) && decide (v.fst.snd.fst < (↑(List.length v.snd.fst.fst) : Int))) then
      let v0 := (List.getD v.snd.fst.fst (Int.toNat v.fst.snd.fst) (zero S96))
      let v1 := (k22 (v0.fst, ()))
      bif (v1) then
        let v2 := (g22 (v0.fst, ()))
        bif (!v2.fst) then
          some (Sum.inr (((false), ()), ()))
        else
          bif (decide (0 ≤ v.fst.snd.fst) && decide (v.fst.snd.fst < (↑(List.length v.snd.fst.fst) : Int))) then
            let v3 := (k95 (v0, ()))
            bif (v3) then
              let v4 := (g95 (v0, ()))
              bif (!v4.fst) then
                some (Sum.inr (((false), ()), ()))
              else
                let v5 := (IntKind.wrap IntKind.i64 (v.fst.snd.fst + 1))
                f (((), ((v5), ())), (((v.snd.fst.1), ((v.snd.fst.snd.1), ())), ()))
            else
              none
          else
            none
      else
        none
    else
      none
  else
    some (Sum.inl (((), ()), (((v.snd.fst.1), ((v.snd.fst.snd.1), ())), ())))
theorem evl68_4 (k39 : Den A39 → Bool) (g39 : Den A39 → Den R39) (k22 : Den A22 → Bool) (g22 : Den A22 → Den R22) (k95 : Den A95 → Bool) (g95 : Den A95 → Den R95) (kl4 : V68_4 → Bool) (xl4 : V68_4 → X68_4) (tl4 : V68_4 → Bool) (yl4 : V68_4 → Y68_4) (kl9 : V68_9 → Bool) (xl9 : V68_9 → X68_9) (tl9 : V68_9 → Bool) (yl9 : V68_9 → Y68_9) (f : V68_4 → Option (X68_4 ⊕ Y68_4)) (v : V68_4) : EBk (Γ68 k39 g39 k22 g22 k95 g95 kl4 xl4 tl4 yl4 kl9 xl9 tl9 yl9) lc68_4 (roundK [1, 3] [] 0 [1] [] (atS sh68_4 f) (endS shX68_4 shY68_4)) (mkS sh68_4 v) = q68_4 k39 g39 k22 g22 k95 g95 f v := by kernel_rfl
def b68_4 (v : V68_4) : Nat := v.1.2.1.natAbs + v.2.1.1.length + v.2.1.2.1.length + 1000
def l68_4 (v : V68_4) : Option (X68_4 ⊕ Y68_4) := iter (q68_4 K39 G39 K22 G22 K95 G95) (b68_4 v) v
def kL68_4 (v : V68_4) : Bool := (l68_4 v).isSome
def tL68_4 (v : V68_4) : Bool := isR (l68_4 v)
def xL68_4 (v : V68_4) : X68_4 := xOf (((), ()), (([], ([], ())), ())) (l68_4 v)
def yL68_4 (v : V68_4) : Y68_4 := yOf ((false, ()), ()) (l68_4 v)
def r68 (k39 : Den A39 → Bool) (g39 : Den A39 → Den R39) (k22 : Den A22 → Bool) (g22 : Den A22 → Den R22) (k95 : Den A95 → Bool) (g95 : Den A95 → Den R95) (kl4 : V68_4 → Bool) (xl4 : V68_4 → X68_4) (tl4 : V68_4 → Bool) (yl4 : V68_4 → Y68_4) (kl9 : V68_9 → Bool) (xl9 : V68_9 → X68_9) (tl9 : V68_9 → Bool) (yl9 : V68_9 → Y68_9) (x : Den A68) : Option (Den R68) :=
  let v0 := (k39 ((↑(List.length x.fst.fst) : Int), 1, 20, ()))
  bif (v0) then
    let v1 := (g39 ((↑(List.length x.fst.fst) : Int), 1, 20, ()))
    bif (!v1.fst) then
      some ((false), ())
    else
      let v2 := (k39 ((↑(List.length x.fst.snd.fst) : Int), 1, 60, ()))
      bif (v2) then
        let v3 := (g39 ((↑(List.length x.fst.snd.fst) : Int), 1, 60, ()))
        bif (!v3.fst) then
          some ((false), ())
        else
          let v4 := (kl4 (((), 0, ()), x))
          bif (v4) then
            let v5 := (tl4 (((), 0, ()), x))
            bif (v5) then
              let v6 := (yl4 (((), 0, ()), x))
              some ((v6.fst.1), ())
            else
              let v6 := (xl4 (((), 0, ()), x))
              let v7 := (kl9 (((), 0, ()), v6.snd))
              bif (v7) then
                let v8 := (tl9 (((), 0, ()), v6.snd))
                bif (v8) then
                  let v9 := (yl9 (((), 0, ()), v6.snd))
                  some ((v9.fst.1), ())
                else
                  some ((true), ())
              else
                none
          else
            none
      else
        none
  else
    none
theorem ev68 (k39 : Den A39 → Bool) (g39 : Den A39 → Den R39) (k22 : Den A22 → Bool) (g22 : Den A22 → Den R22) (k95 : Den A95 → Bool) (g95 : Den A95 → Den R95) (kl4 : V68_4 → Bool) (xl4 : V68_4 → X68_4) (tl4 : V68_4 → Bool) (yl4 : V68_4 → Y68_4) (kl9 : V68_9 → Bool) (xl9 : V68_9 → X68_9) (tl9 : V68_9 → Bool) (yl9 : V68_9 → Y68_9) (x : Den A68) : callK (Γ68 k39 g39 k22 g22 k95 g95 kl4 xl4 tl4 yl4 kl9 xl9 tl9 yl9) (bodyOf Try.f68) (decR R68) (encA A68 x) [] = r68 k39 g39 k22 g22 k95 g95 kl4 xl4 tl4 yl4 kl9 xl9 tl9 yl9 x := by kernel_rfl
def F68 (x : Den A68) : Option (Den R68) := r68 K39 G39 K22 G22 K95 G95 kL68_4 xL68_4 tL68_4 yL68_4 kL68_9 xL68_9 tL68_9 yL68_9 x
def K68 (x : Den A68) : Bool := (F68 x).isSome
def G68 (x : Den A68) : Den R68 := (F68 x).getD (zero R68)
theorem env68 : EnvOK Try.prog (Γ68 K39 G39 K22 G22 K95 G95 kL68_4 xL68_4 tL68_4 yL68_4 kL68_9 xL68_9 tL68_9 yL68_9) := env_ok mixed tab_ok eqs_ok (.cons sem39 (.cons sem22 (.cons sem95 .nil)))
theorem is68 : FnIs Try.prog 68 (Γ68 K39 G39 K22 G22 K95 G95 kL68_4 xL68_4 tL68_4 yL68_4 kL68_9 xL68_9 tL68_9 yL68_9) (bodyOf Try.f68) := fnIs Try.func68 rfl rfl rfl (by kernel_rfl) (loops_ok (l := [lc68_4, lc68_9]) (by kernel_rfl) (.cons (one_loop rfl (loopR_sound (sh := sh68_4) (shX := shX68_4) (shR := shY68_4) (fun f v => evl68_4 K39 G39 K22 G22 K95 G95 kL68_4 xL68_4 tL68_4 yL68_4 kL68_9 xL68_9 tL68_9 yL68_9 f v) b68_4 (((), ()), (([], ([], ())), ())) ((false, ()), ()))) (.cons (one_loop rfl (loopR_sound (sh := sh68_9) (shX := shX68_9) (shR := shY68_9) (fun f v => evl68_9 K39 G39 K22 G22 K95 G95 kL68_4 xL68_4 tL68_4 yL68_4 kL68_9 xL68_9 tL68_9 yL68_9 f v) b68_9 ((), ()) ((false, ()), ()))) (.nil))))
theorem sem68 : SemOK Try.prog (68, fnMean A68 R68 K68 G68) := fn_opt env68 is68 fun x => ev68 K39 G39 K22 G22 K95 G95 kL68_4 xL68_4 tL68_4 yL68_4 kL68_9 xL68_9 tL68_9 yL68_9 x

/- "loop.example/g03321/spec.Dot" -/
abbrev A81 : Ty := .cons (.cpx .f64) (.cons (.cpx .f64) (.nil))
abbrev R81 : Ty := .cons (.flt .f64) (.nil)
noncomputable def Γ81 : Env := mkEnv tab eqs [] 16 [.tmp 4] [] [] [] [] []
def r81 (x : Den A81) : Option (Den R81) :=
  let v0 := (farith BinOp.mul FloatKind.f64 x.fst.fst x.snd.fst.fst)
  let v1 := (farith BinOp.mul FloatKind.f64 x.fst.snd x.snd.fst.snd)
  let v2 := (farith BinOp.add FloatKind.f64 v0 v1)
  some ((v2), ())
theorem ev81 (x : Den A81) : callK (Γ81) (bodyOf Try.f81) (decR R81) (encA A81 x) [] = r81 x := by kernel_rfl
def F81 (x : Den A81) : Option (Den R81) := r81 x
def K81 (x : Den A81) : Bool := (F81 x).isSome
def G81 (x : Den A81) : Den R81 := (F81 x).getD (zero R81)
theorem env81 : EnvOK Try.prog (Γ81) := env_ok mixed tab_ok eqs_ok .nil
theorem is81 : FnIs Try.prog 81 (Γ81) (bodyOf Try.f81) := fnIs Try.func81 rfl rfl rfl (by kernel_rfl) (noLoops (by kernel_rfl))
theorem sem81 : SemOK Try.prog (81, fnMean A81 R81 K81 G81) := fn_opt env81 is81 fun x => ev81 x

/- "loop.example/g03321/spec.NearStation" -/
abbrev A96 : Ty := .cons (S48) (.cons (.cpx .f64) (.nil))
abbrev R96 : Ty := .cons (.int .i64) (.nil)
abbrev V96_6 : Type := (((Nat × Nat) × (Unit × (Int × (Nat × (Int × Unit))))) × (((List (Den (S96))) × ((List (Den (.int .i64))) × Unit)) × Unit))
def sh96_6 : ShS := ⟨[(1, .one (.cpx .f64)), (2, .one (.ptr 0 0)), (5, .one (.int .i64)), (6, .one (.flt .f64)), (7, .one (.int .i64))], [(0, .box [.sl (S96), .sl (.int .i64)])], 1, 0⟩
abbrev X96_6 : Type := ((Int × Unit) × Unit)
def shX96_6 : ShS := ⟨[(5, .one (.int .i64))], [], 0, 0⟩
noncomputable def Γ96 (k68 : Den A68 → Bool) (g68 : Den A68 → Den R68) (k22 : Den A22 → Bool) (g22 : Den A22 → Den R22) (k81 : Den A81 → Bool) (g81 : Den A81 → Den R81) (kl6 : V96_6 → Bool) (xl6 : V96_6 → X96_6) : Env := mkEnv tab eqs [(68, fnMean A68 R68 k68 g68), (22, fnMean A22 R22 k22 g22), (81, fnMean A81 R81 k81 g81)] 46 [.tmp 4] [] [] [(6, loopX [1, 2, 5, 6, 7] [] 0 [5] [] sh96_6 shX96_6 kl6 xl6)] [] []
noncomputable def lc96_6 : Code := (loopsOf (bodyOf Try.f96)).getD 0 .skip
def q96_6 (k68 : Den A68 → Bool) (g68 : Den A68 → Den R68) (k22 : Den A22 → Bool) (g22 : Den A22 → Den R22) (k81 : Den A81 → Bool) (g81 : Den A81 → Den R81) (f : V96_6 → Option (X96_6)) (v : V96_6) : Option (X96_6) :=
  bif (decide (v.fst.snd.snd.snd.snd.fst < (↑(List.length v.snd.fst.fst) : Int))) then
    bif (decide (0 ≤ v.fst.snd.snd.snd.snd.fst) && decide (v.fst.snd.snd.snd.snd.fst < (↑(List.length v.snd.fst.fst) : Int))) then
      let v0 := (List.getD v.snd.fst.fst (Int.toNat v.fst.snd.snd.snd.snd.fst) (zero S96))
      let v1 := (farith BinOp.sub FloatKind.f64 v0.fst.fst v.fst.fst.fst)
      let v2 := (farith BinOp.sub FloatKind.f64 v0.fst.snd v.fst.fst.snd)
      let v3 := (k81 ((v1, v2), (v1, v2), ()))
      bif (v3) then
        bif (decide (v.fst.snd.snd.fst < 0)) then
          let v4 := (g81 ((v1, v2), (v1, v2), ()))
          let v5 := (IntKind.wrap IntKind.i64 (v.fst.snd.snd.snd.snd.fst + 1))
          f ((((v.fst.fst.1), (v.fst.fst.2)), ((), ((v.fst.snd.snd.snd.snd.1), ((v4.1), ((v5), ()))))), (((v.snd.fst.1), ((v.snd.fst.snd.1), ())), ()))
        else
          let v4 := (g81 ((v1, v2), (v1, v2), ()))
          bif (flt FloatKind.f64 v4.fst v.fst.snd.snd.snd.fst) then
            let v5 := (IntKind.wrap IntKind.i64 (v.fst.snd.snd.snd.snd.fst + 1))
            f ((((v.fst.fst.1), (v.fst.fst.2)), ((), ((v.fst.snd.snd.snd.snd.1), ((v4.1), ((v5), ()))))), (((v.snd.fst.1), ((v.snd.fst.snd.1), ())), ()))
          else
            let v5 := (IntKind.wrap IntKind.i64 (v.fst.snd.snd.snd.snd.fst + 1))
            f ((((v.fst.fst.1), (v.fst.fst.2)), ((), ((v.fst.snd.snd.1), ((v.fst.snd.snd.snd.1), ((v5), ()))))), (((v.snd.fst.1), ((v.snd.fst.snd.1), ())), ()))
      else
        none
    else
      none
  else
    some (((v.fst.snd.snd.1), ()), ())
theorem evl96_6 (k68 : Den A68 → Bool) (g68 : Den A68 → Den R68) (k22 : Den A22 → Bool) (g22 : Den A22 → Den R22) (k81 : Den A81 → Bool) (g81 : Den A81 → Den R81) (kl6 : V96_6 → Bool) (xl6 : V96_6 → X96_6) (f : V96_6 → Option (X96_6)) (v : V96_6) : EBk (Γ96 k68 g68 k22 g22 k81 g81 kl6 xl6) lc96_6 (roundK [1, 2, 5, 6, 7] [] 0 [5] [] (atS sh96_6 f) (endX shX96_6)) (mkS sh96_6 v) = q96_6 k68 g68 k22 g22 k81 g81 f v := by kernel_rfl
def b96_6 (v : V96_6) : Nat := v.1.2.2.1.natAbs + v.1.2.2.2.2.1.natAbs + v.2.1.1.length + v.2.1.2.1.length + 1000
def l96_6 (v : V96_6) : Option (X96_6) := iter (q96_6 K68 G68 K22 G22 K81 G81) (b96_6 v) v
def kL96_6 (v : V96_6) : Bool := (l96_6 v).isSome
def xL96_6 (v : V96_6) : X96_6 := (l96_6 v).getD ((0, ()), ())
def r96 (k68 : Den A68 → Bool) (g68 : Den A68 → Den R68) (k22 : Den A22 → Bool) (g22 : Den A22 → Den R22) (k81 : Den A81 → Bool) (g81 : Den A81 → Den R81) (kl6 : V96_6 → Bool) (xl6 : V96_6 → X96_6) (x : Den A96) : Option (Den R96) :=
  let v0 := (k68 (x.fst, ()))
  bif (v0) then
    let v1 := (g68 (x.fst, ()))
    bif (!v1.fst) then
      some ((-1), ())
    else
      let v2 := (k22 x.snd)
      bif (v2) then
        let v3 := (g22 x.snd)
        bif (!v3.fst) then
          some ((-1), ())
        else
          let v4 := (kl6 ((x.snd.fst, (), -1, 0, 0, ()), x.fst, ()))
          bif (v4) then
            let v5 := (xl6 ((x.snd.fst, (), -1, 0, 0, ()), x.fst, ()))
            some ((v5.fst.1), ())
          else
            none
      else
        none
  else
    none
theorem ev96 (k68 : Den A68 → Bool) (g68 : Den A68 → Den R68) (k22 : Den A22 → Bool) (g22 : Den A22 → Den R22) (k81 : Den A81 → Bool) (g81 : Den A81 → Den R81) (kl6 : V96_6 → Bool) (xl6 : V96_6 → X96_6) (x : Den A96) : callK (Γ96 k68 g68 k22 g22 k81 g81 kl6 xl6) (bodyOf Try.f96) (decR R96) (encA A96 x) [] = r96 k68 g68 k22 g22 k81 g81 kl6 xl6 x := by kernel_rfl
def F96 (x : Den A96) : Option (Den R96) := r96 K68 G68 K22 G22 K81 G81 kL96_6 xL96_6 x
def K96 (x : Den A96) : Bool := (F96 x).isSome
def G96 (x : Den A96) : Den R96 := (F96 x).getD (zero R96)
theorem env96 : EnvOK Try.prog (Γ96 K68 G68 K22 G22 K81 G81 kL96_6 xL96_6) := env_ok mixed tab_ok eqs_ok (.cons sem68 (.cons sem22 (.cons sem81 .nil)))
theorem is96 : FnIs Try.prog 96 (Γ96 K68 G68 K22 G22 K81 G81 kL96_6 xL96_6) (bodyOf Try.f96) := fnIs Try.func96 rfl rfl rfl (by kernel_rfl) (loops_ok (l := [lc96_6]) (by kernel_rfl) (.cons (one_loop rfl (loopX_sound (sh := sh96_6) (shX := shX96_6) (fun f v => evl96_6 K68 G68 K22 G22 K81 G81 kL96_6 xL96_6 f v) b96_6 ((0, ()), ()))) (.nil)))
theorem sem96 : SemOK Try.prog (96, fnMean A96 R96 K96 G96) := fn_opt env96 is96 fun x => ev96 K68 G68 K22 G22 K81 G81 kL96_6 xL96_6 x

/- "loop.example/g03321/spec.l05Far" -/
abbrev A112 : Ty := .cons (.int .i64) (.cons (.int .i64) (.nil))
abbrev R112 : Ty := .cons (.int .i64) (.nil)
noncomputable def Γ112 : Env := mkEnv tab eqs [] 14 [.tmp 4] [] [] [] [] []
def r112 (x : Den A112) : Option (Den R112) :=
  bif (decide (x.fst > x.snd.fst)) then
    let v0 := (IntKind.wrap IntKind.i64 (x.fst - x.snd.fst))
    some ((v0), ())
  else
    let v0 := (IntKind.wrap IntKind.i64 (x.snd.fst - x.fst))
    some ((v0), ())
theorem ev112 (x : Den A112) : callK (Γ112) (bodyOf Try.f112) (decR R112) (encA A112 x) [] = r112 x := by kernel_rfl
def F112 (x : Den A112) : Option (Den R112) := r112 x
def K112 (x : Den A112) : Bool := (F112 x).isSome
def G112 (x : Den A112) : Den R112 := (F112 x).getD (zero R112)
theorem env112 : EnvOK Try.prog (Γ112) := env_ok mixed tab_ok eqs_ok .nil
theorem is112 : FnIs Try.prog 112 (Γ112) (bodyOf Try.f112) := fnIs Try.func112 rfl rfl rfl (by kernel_rfl) (noLoops (by kernel_rfl))
theorem sem112 : SemOK Try.prog (112, fnMean A112 R112 K112 G112) := fn_opt env112 is112 fun x => ev112 x

/- "loop.example/g03321/spec.HighAt" -/
abbrev A97 : Ty := .cons (S48) (.cons (.int .i64) (.nil))
abbrev R97 : Ty := .cons (.int .i64) (.nil)
abbrev V97_5 : Type := ((Int × (Unit × (Int × (Int × Unit)))) × (((List (Den (S96))) × ((List (Den (.int .i64))) × Unit)) × Unit))
def sh97_5 : ShS := ⟨[(1, .one (.int .i64)), (2, .one (.ptr 0 0)), (5, .one (.int .i64)), (6, .one (.int .i64))], [(0, .box [.sl (S96), .sl (.int .i64)])], 1, 0⟩
abbrev X97_5 : Type := ((Int × Unit) × Unit)
def shX97_5 : ShS := ⟨[(5, .one (.int .i64))], [], 0, 0⟩
noncomputable def Γ97 (k68 : Den A68 → Bool) (g68 : Den A68 → Den R68) (k39 : Den A39 → Bool) (g39 : Den A39 → Den R39) (k112 : Den A112 → Bool) (g112 : Den A112 → Den R112) (kl5 : V97_5 → Bool) (xl5 : V97_5 → X97_5) : Env := mkEnv tab eqs [(68, fnMean A68 R68 k68 g68), (39, fnMean A39 R39 k39 g39), (112, fnMean A112 R112 k112 g112)] 39 [.tmp 4] [] [] [(5, loopX [1, 2, 5, 6] [] 0 [5] [] sh97_5 shX97_5 kl5 xl5)] [] []
noncomputable def lc97_5 : Code := (loopsOf (bodyOf Try.f97)).getD 0 .skip
def q97_5 (k68 : Den A68 → Bool) (g68 : Den A68 → Den R68) (k39 : Den A39 → Bool) (g39 : Den A39 → Den R39) (k112 : Den A112 → Bool) (g112 : Den A112 → Den R112) (f : V97_5 → Option (X97_5)) (v : V97_5) : Option (X97_5) :=
  bif (decide (v.fst.snd.snd.snd.fst < (↑(List.length v.snd.fst.snd.fst) : Int))) then
    bif (decide (0 ≤ v.fst.snd.snd.snd.fst) && decide (v.fst.snd.snd.snd.fst < (↑(List.length v.snd.fst.snd.fst) : Int))) then
      let v0 := (List.getD v.snd.fst.snd.fst (Int.toNat v.fst.snd.snd.snd.fst) (zero (Ty.int IntKind.i64)))
      let v1 := (k112 (v0, v.fst.fst, ()))
      bif (v1) then
        bif (decide (0 ≤ v.fst.snd.snd.fst) && decide (v.fst.snd.snd.fst < (↑(List.length v.snd.fst.snd.fst) : Int))) then
          let v2 := (List.getD v.snd.fst.snd.fst (Int.toNat v.fst.snd.snd.fst) (zero (Ty.int IntKind.i64)))
          let v3 := (k112 (v2, v.fst.fst, ()))
          bif (v3) then
            let v4 := (g112 (v0, v.fst.fst, ()))
            let v5 := (g112 (v2, v.fst.fst, ()))
            bif (decide (v4.fst < v5.fst)) then
              let v6 := (IntKind.wrap IntKind.i64 (v.fst.snd.snd.snd.fst + 1))
              f (((v.fst.1), ((), ((v.fst.snd.snd.snd.1), ((v6), ())))), (((v.snd.fst.1), ((v.snd.fst.snd.1), ())), ()))
            else
              let v6 := (IntKind.wrap IntKind.i64 (v.fst.snd.snd.snd.fst + 1))
              f (((v.fst.1), ((), ((v.fst.snd.snd.1), ((v6), ())))), (((v.snd.fst.1), ((v.snd.fst.snd.1), ())), ()))
          else
            none
        else
          none
      else
        none
    else
      none
  else
    some (((v.fst.snd.snd.1), ()), ())
theorem evl97_5 (k68 : Den A68 → Bool) (g68 : Den A68 → Den R68) (k39 : Den A39 → Bool) (g39 : Den A39 → Den R39) (k112 : Den A112 → Bool) (g112 : Den A112 → Den R112) (kl5 : V97_5 → Bool) (xl5 : V97_5 → X97_5) (f : V97_5 → Option (X97_5)) (v : V97_5) : EBk (Γ97 k68 g68 k39 g39 k112 g112 kl5 xl5) lc97_5 (roundK [1, 2, 5, 6] [] 0 [5] [] (atS sh97_5 f) (endX shX97_5)) (mkS sh97_5 v) = q97_5 k68 g68 k39 g39 k112 g112 f v := by kernel_rfl
def b97_5 (v : V97_5) : Nat := v.1.1.natAbs + v.1.2.2.1.natAbs + v.1.2.2.2.1.natAbs + v.2.1.1.length + v.2.1.2.1.length + 1000
def l97_5 (v : V97_5) : Option (X97_5) := iter (q97_5 K68 G68 K39 G39 K112 G112) (b97_5 v) v
def kL97_5 (v : V97_5) : Bool := (l97_5 v).isSome
def xL97_5 (v : V97_5) : X97_5 := (l97_5 v).getD ((0, ()), ())
def r97 (k68 : Den A68 → Bool) (g68 : Den A68 → Den R68) (k39 : Den A39 → Bool) (g39 : Den A39 → Den R39) (k112 : Den A112 → Bool) (g112 : Den A112 → Den R112) (kl5 : V97_5 → Bool) (xl5 : V97_5 → X97_5) (x : Den A97) : Option (Den R97) :=
  let v0 := (k68 (x.fst, ()))
  bif (v0) then
    let v1 := (g68 (x.fst, ()))
    bif (!v1.fst) then
      some ((-1), ())
    else
      let v2 := (k39 (x.snd.fst, 0, 10000000, ()))
      bif (v2) then
        let v3 := (g39 (x.snd.fst, 0, 10000000, ()))
        bif (!v3.fst) then
          some ((-1), ())
        else
          let v4 := (kl5 ((x.snd.fst, (), 0, 1, ()), x.fst, ()))
          bif (v4) then
            let v5 := (xl5 ((x.snd.fst, (), 0, 1, ()), x.fst, ()))
            some ((v5.fst.1), ())
          else
            none
      else
        none
  else
    none
theorem ev97 (k68 : Den A68 → Bool) (g68 : Den A68 → Den R68) (k39 : Den A39 → Bool) (g39 : Den A39 → Den R39) (k112 : Den A112 → Bool) (g112 : Den A112 → Den R112) (kl5 : V97_5 → Bool) (xl5 : V97_5 → X97_5) (x : Den A97) : callK (Γ97 k68 g68 k39 g39 k112 g112 kl5 xl5) (bodyOf Try.f97) (decR R97) (encA A97 x) [] = r97 k68 g68 k39 g39 k112 g112 kl5 xl5 x := by kernel_rfl
def F97 (x : Den A97) : Option (Den R97) := r97 K68 G68 K39 G39 K112 G112 kL97_5 xL97_5 x
def K97 (x : Den A97) : Bool := (F97 x).isSome
def G97 (x : Den A97) : Den R97 := (F97 x).getD (zero R97)
theorem env97 : EnvOK Try.prog (Γ97 K68 G68 K39 G39 K112 G112 kL97_5 xL97_5) := env_ok mixed tab_ok eqs_ok (.cons sem68 (.cons sem39 (.cons sem112 .nil)))
theorem is97 : FnIs Try.prog 97 (Γ97 K68 G68 K39 G39 K112 G112 kL97_5 xL97_5) (bodyOf Try.f97) := fnIs Try.func97 rfl rfl rfl (by kernel_rfl) (loops_ok (l := [lc97_5]) (by kernel_rfl) (.cons (one_loop rfl (loopX_sound (sh := sh97_5) (shX := shX97_5) (fun f v => evl97_5 K68 G68 K39 G39 K112 G112 kL97_5 xL97_5 f v) b97_5 ((0, ()), ()))) (.nil)))
theorem sem97 : SemOK Try.prog (97, fnMean A97 R97 K97 G97) := fn_opt env97 is97 fun x => ev97 K68 G68 K39 G39 K112 G112 kL97_5 xL97_5 x

/- "loop.example/g03321/spec.Clamp" -/
abbrev A113 : Ty := .cons (.int .i64) (.cons (.int .i64) (.cons (.int .i64) (.nil)))
abbrev R113 : Ty := .cons (.int .i64) (.nil)
noncomputable def Γ113 : Env := mkEnv tab eqs [] 21 [.tmp 6] [] [] [] [] []
def r113 (x : Den A113) : Option (Den R113) :=
  bif (decide (x.snd.snd.fst < x.snd.fst)) then
    some ((x.snd.1), ())
  else
    bif (decide (x.fst < x.snd.fst)) then
      some ((x.snd.1), ())
    else
      bif (decide (x.fst > x.snd.snd.fst)) then
        some ((x.snd.snd.1), ())
      else
        some ((x.1), ())
theorem ev113 (x : Den A113) : callK (Γ113) (bodyOf Try.f113) (decR R113) (encA A113 x) [] = r113 x := by kernel_rfl
def F113 (x : Den A113) : Option (Den R113) := r113 x
def K113 (x : Den A113) : Bool := (F113 x).isSome
def G113 (x : Den A113) : Den R113 := (F113 x).getD (zero R113)
theorem env113 : EnvOK Try.prog (Γ113) := env_ok mixed tab_ok eqs_ok .nil
theorem is113 : FnIs Try.prog 113 (Γ113) (bodyOf Try.f113) := fnIs Try.func113 rfl rfl rfl (by kernel_rfl) (noLoops (by kernel_rfl))
theorem sem113 : SemOK Try.prog (113, fnMean A113 R113 K113 G113) := fn_opt env113 is113 fun x => ev113 x

/- "loop.example/g03321/spec.l04Mix" -/
abbrev A114 : Ty := .cons (.flt .f32) (.cons (.flt .f32) (.cons (.flt .f32) (.nil)))
abbrev R114 : Ty := .cons (.flt .f32) (.nil)
noncomputable def Γ114 : Env := mkEnv tab eqs [] 16 [.tmp 6] [] [] [] [] []
def r114 (x : Den A114) : Option (Den R114) :=
  let v0 := (farith BinOp.sub FloatKind.f32 x.snd.fst x.fst)
  let v1 := (farith BinOp.mul FloatKind.f32 v0 x.snd.snd.fst)
  let v2 := (farith BinOp.add FloatKind.f32 x.fst v1)
  some ((v2), ())
theorem ev114 (x : Den A114) : callK (Γ114) (bodyOf Try.f114) (decR R114) (encA A114 x) [] = r114 x := by kernel_rfl
def F114 (x : Den A114) : Option (Den R114) := r114 x
def K114 (x : Den A114) : Bool := (F114 x).isSome
def G114 (x : Den A114) : Den R114 := (F114 x).getD (zero R114)
theorem env114 : EnvOK Try.prog (Γ114) := env_ok mixed tab_ok eqs_ok .nil
theorem is114 : FnIs Try.prog 114 (Γ114) (bodyOf Try.f114) := fnIs Try.func114 rfl rfl rfl (by kernel_rfl) (noLoops (by kernel_rfl))
theorem sem114 : SemOK Try.prog (114, fnMean A114 R114 K114 G114) := fn_opt env114 is114 fun x => ev114 x

/- "loop.example/g03321/spec.FlowAt" -/
abbrev A98 : Ty := .cons (S96) (.cons (.int .i64) (.nil))
abbrev R98 : Ty := .cons (.cpx .f32) (.cons (.bool) (.nil))
noncomputable def Γ98 (k95 : Den A95 → Bool) (g95 : Den A95 → Den R95) (k113 : Den A113 → Bool) (g113 : Den A113 → Den R113) (k114 : Den A114 → Bool) (g114 : Den A114 → Den R114) : Env := mkEnv tab eqs [(95, fnMean A95 R95 k95 g95), (113, fnMean A113 R113 k113 g113), (114, fnMean A114 R114 k114 g114)] 53 [.tmp 4, .tmp 5] [] [] [] [] []
def r98 (k95 : Den A95 → Bool) (g95 : Den A95 → Den R95) (k113 : Den A113 → Bool) (g113 : Den A113 → Den R113) (k114 : Den A114 → Bool) (g114 : Den A114 → Den R114) (x : Den A98) : Option (Den R98) :=
  let v0 := (k95 (x.fst, ()))
  bif (v0) then
    let v1 := (g95 (x.fst, ()))
    bif (!v1.fst) then
      some (((0), (0)), ((false), ()))
    else
      let v2 := (k113 (x.snd.fst, -21600, 21600, ()))
      bif (v2) then
        let v3 := (g113 (x.snd.fst, -21600, 21600, ()))
        let v4 := (IntKind.wrap IntKind.i64 (v3.fst + 21600))
        bif (Int.tmod v4 3600 == 0) then
          let v5 := (IntKind.wrap IntKind.i64 (Int.tdiv v4 3600))
          bif (decide (0 ≤ v5) && decide (v5 < (↑13 : Int))) then
            let v6 := (List.getD [x.fst.snd.fst.fst, x.fst.snd.fst.snd.fst, x.fst.snd.fst.snd.snd.fst, x.fst.snd.fst.snd.snd.snd.fst, x.fst.snd.fst.snd.snd.snd.snd.fst, x.fst.snd.fst.snd.snd.snd.snd.snd.fst, x.fst.snd.fst.snd.snd.snd.snd.snd.snd.fst, x.fst.snd.fst.snd.snd.snd.snd.snd.snd.snd.fst, x.fst.snd.fst.snd.snd.snd.snd.snd.snd.snd.snd.fst, x.fst.snd.fst.snd.snd.snd.snd.snd.snd.snd.snd.snd.fst, x.fst.snd.fst.snd.snd.snd.snd.snd.snd.snd.snd.snd.snd.fst, x.fst.snd.fst.snd.snd.snd.snd.snd.snd.snd.snd.snd.snd.snd.fst, x.fst.snd.fst.snd.snd.snd.snd.snd.snd.snd.snd.snd.snd.snd.snd.fst] (Int.toNat v5) (0, 0))
            some (((v6.1), (v6.2)), ((true), ()))
          else
            none
        else
          let v5 := (IntKind.wrap IntKind.i64 (Int.tdiv v4 3600))
          bif (decide (0 ≤ v5) && decide (v5 < (↑13 : Int))) then
            let v6 := (IntKind.wrap IntKind.i64 (v5 + 1))
            bif (decide (0 ≤ v6) && decide (v6 < (↑13 : Int))) then
              let v7 := (List.getD [x.fst.snd.fst.fst, x.fst.snd.fst.snd.fst, x.fst.snd.fst.snd.snd.fst, x.fst.snd.fst.snd.snd.snd.fst, x.fst.snd.fst.snd.snd.snd.snd.fst, x.fst.snd.fst.snd.snd.snd.snd.snd.fst, x.fst.snd.fst.snd.snd.snd.snd.snd.snd.fst, x.fst.snd.fst.snd.snd.snd.snd.snd.snd.snd.fst, x.fst.snd.fst.snd.snd.snd.snd.snd.snd.snd.snd.fst, x.fst.snd.fst.snd.snd.snd.snd.snd.snd.snd.snd.snd.fst, x.fst.snd.fst.snd.snd.snd.snd.snd.snd.snd.snd.snd.snd.fst, x.fst.snd.fst.snd.snd.snd.snd.snd.snd.snd.snd.snd.snd.snd.fst, x.fst.snd.fst.snd.snd.snd.snd.snd.snd.snd.snd.snd.snd.snd.snd.fst] (Int.toNat v5) (0, 0))
              let v8 := (List.getD [x.fst.snd.fst.fst, x.fst.snd.fst.snd.fst, x.fst.snd.fst.snd.snd.fst, x.fst.snd.fst.snd.snd.snd.fst, x.fst.snd.fst.snd.snd.snd.snd.fst, x.fst.snd.fst.snd.snd.snd.snd.snd.fst, x.fst.snd.fst.snd.snd.snd.snd.snd.snd.fst, x.fst.snd.fst.snd.snd.snd.snd.snd.snd.snd.fst, x.fst.snd.fst.snd.snd.snd.snd.snd.snd.snd.snd.fst, x.fst.snd.fst.snd.snd.snd.snd.snd.snd.snd.snd.snd.fst, x.fst.snd.fst.snd.snd.snd.snd.snd.snd.snd.snd.snd.snd.fst, x.fst.snd.fst.snd.snd.snd.snd.snd.snd.snd.snd.snd.snd.snd.fst, x.fst.snd.fst.snd.snd.snd.snd.snd.snd.snd.snd.snd.snd.snd.snd.fst] (Int.toNat v6) (0, 0))
              let v9 := (farith BinOp.quo FloatKind.f32 (FloatKind.nearest FloatKind.f32 (Int.tmod v4 3600)) 1163984896)
              let v10 := (k114 (v7.fst, v8.fst, v9, ()))
              bif (v10) then
                let v11 := (k114 (v7.snd, v8.snd, v9, ()))
                bif (v11) then
                  let v12 := (g114 (v7.fst, v8.fst, v9, ()))
                  let v13 := (g114 (v7.snd, v8.snd, v9, ()))
                  some (((v12.1), (v13.1)), ((true), ()))
                else
                  none
              else
                none
            else
              none
          else
            none
      else
        none
  else
    none
theorem ev98 (k95 : Den A95 → Bool) (g95 : Den A95 → Den R95) (k113 : Den A113 → Bool) (g113 : Den A113 → Den R113) (k114 : Den A114 → Bool) (g114 : Den A114 → Den R114) (x : Den A98) : callK (Γ98 k95 g95 k113 g113 k114 g114) (bodyOf Try.f98) (decR R98) (encA A98 x) [] = r98 k95 g95 k113 g113 k114 g114 x := by kernel_rfl
def F98 (x : Den A98) : Option (Den R98) := r98 K95 G95 K113 G113 K114 G114 x
def K98 (x : Den A98) : Bool := (F98 x).isSome
def G98 (x : Den A98) : Den R98 := (F98 x).getD (zero R98)
theorem env98 : EnvOK Try.prog (Γ98 K95 G95 K113 G113 K114 G114) := env_ok mixed tab_ok eqs_ok (.cons sem95 (.cons sem113 (.cons sem114 .nil)))
theorem is98 : FnIs Try.prog 98 (Γ98 K95 G95 K113 G113 K114 G114) (bodyOf Try.f98) := fnIs Try.func98 rfl rfl rfl (by kernel_rfl) (noLoops (by kernel_rfl))
theorem sem98 : SemOK Try.prog (98, fnMean A98 R98 K98 G98) := fn_opt env98 is98 fun x => ev98 K95 G95 K113 G113 K114 G114 x

/- "loop.example/g03321/spec.StreamAt" -/
abbrev A69 : Ty := .cons (S48) (.cons (.cpx .f64) (.cons (.int .i64) (.nil)))
abbrev R69 : Ty := .cons (.cpx .f32) (.cons (.bool) (.nil))
noncomputable def Γ69 (k96 : Den A96 → Bool) (g96 : Den A96 → Den R96) (k97 : Den A97 → Bool) (g97 : Den A97 → Den R97) (k98 : Den A98 → Bool) (g98 : Den A98 → Den R98) : Env := mkEnv tab eqs [(96, fnMean A96 R96 k96 g96), (97, fnMean A97 R97 k97 g97), (98, fnMean A98 R98 k98 g98)] 42 [.tmp 6, .tmp 7] [] [] [] [] []
def r69 (k96 : Den A96 → Bool) (g96 : Den A96 → Den R96) (k97 : Den A97 → Bool) (g97 : Den A97 → Den R97) (k98 : Den A98 → Bool) (g98 : Den A98 → Den R98) (x : Den A69) : Option (Den R69) :=
  let v0 := (k96 (x.fst, x.snd.fst, ()))
  bif (v0) then
    let v1 := (k97 (x.fst, x.snd.snd))
    bif (v1) then
      let v2 := (g96 (x.fst, x.snd.fst, ()))
      bif (decide (v2.fst < 0)) then
        some (((0), (0)), ((false), ()))
      else
        let v3 := (g97 (x.fst, x.snd.snd))
        bif (decide (v3.fst < 0)) then
          some (((0), (0)), ((false), ()))
        else
          bif (decide (0 ≤ v2.fst) && decide (v2.fst < (↑(List.length x.fst.fst) : Int))) then
            bif (decide (0 ≤ v3.fst) && decide (v3.fst < (↑(List.length x.fst.snd.fst) : Int))) then
              let v4 := (List.getD x.fst.fst (Int.toNat v2.fst) (zero S96))
              let v5 := (List.getD x.fst.snd.fst (Int.toNat v3.fst) (zero (Ty.int IntKind.i64)))
              let v6 := (IntKind.wrap IntKind.i64 (x.snd.snd.fst - v5))
              let v7 := (k98 (v4, v6, ()))
              bif (v7) then
                let v8 := (g98 (v4, v6, ()))
                some (((v8.fst.1), (v8.fst.2)), ((v8.snd.1), ()))
              else
                none
            else
              none
          else
            none
    else
      none
  else
    none
theorem ev69 (k96 : Den A96 → Bool) (g96 : Den A96 → Den R96) (k97 : Den A97 → Bool) (g97 : Den A97 → Den R97) (k98 : Den A98 → Bool) (g98 : Den A98 → Den R98) (x : Den A69) : callK (Γ69 k96 g96 k97 g97 k98 g98) (bodyOf Try.f69) (decR R69) (encA A69 x) [] = r69 k96 g96 k97 g97 k98 g98 x := by kernel_rfl
def F69 (x : Den A69) : Option (Den R69) := r69 K96 G96 K97 G97 K98 G98 x
def K69 (x : Den A69) : Bool := (F69 x).isSome
def G69 (x : Den A69) : Den R69 := (F69 x).getD (zero R69)
theorem env69 : EnvOK Try.prog (Γ69 K96 G96 K97 G97 K98 G98) := env_ok mixed tab_ok eqs_ok (.cons sem96 (.cons sem97 (.cons sem98 .nil)))
theorem is69 : FnIs Try.prog 69 (Γ69 K96 G96 K97 G97 K98 G98) (bodyOf Try.f69) := fnIs Try.func69 rfl rfl rfl (by kernel_rfl) (noLoops (by kernel_rfl))
theorem sem69 : SemOK Try.prog (69, fnMean A69 R69 K69 G69) := fn_opt env69 is69 fun x => ev69 K96 G96 K97 G97 K98 G98 x

/- "loop.example/g03321/spec.SlackFrom" -/
abbrev A27 : Ty := .cons (S48) (.cons (.cpx .f64) (.cons (.int .i64) (.cons (.flt .f32) (.nil))))
abbrev R27 : Ty := .cons (.int .i64) (.cons (.bool) (.nil))
abbrev V27_4 : Type := (((Nat × Nat) × (Int × (Nat × (Unit × (Int × Unit))))) × (((List (Den (S96))) × ((List (Den (.int .i64))) × Unit)) × Unit))
def sh27_4 : ShS := ⟨[(1, .one (.cpx .f64)), (2, .one (.int .i64)), (3, .one (.flt .f32)), (4, .one (.ptr 0 0)), (10, .one (.int .i64))], [(0, .box [.sl (S96), .sl (.int .i64)])], 1, 0⟩
abbrev X27_4 : Type := (Unit × Unit)
def shX27_4 : ShS := ⟨[], [], 0, 0⟩
abbrev Y27_4 : Type := ((Int × (Bool × Unit)) × Unit)
def shY27_4 : ShS := ⟨[(8, .one (.int .i64)), (9, .one (.bool))], [], 0, 0⟩
noncomputable def Γ27 (k68 : Den A68 → Bool) (g68 : Den A68 → Den R68) (k22 : Den A22 → Bool) (g22 : Den A22 → Den R22) (k39 : Den A39 → Bool) (g39 : Den A39 → Den R39) (k69 : Den A69 → Bool) (g69 : Den A69 → Den R69) (k70 : Den A70 → Bool) (g70 : Den A70 → Den R70) (kl4 : V27_4 → Bool) (xl4 : V27_4 → X27_4) (tl4 : V27_4 → Bool) (yl4 : V27_4 → Y27_4) : Env := mkEnv tab eqs [(68, fnMean A68 R68 k68 g68), (22, fnMean A22 R22 k22 g22), (39, fnMean A39 R39 k39 g39), (69, fnMean A69 R69 k69 g69), (70, fnMean A70 R70 k70 g70)] 59 [.tmp 8, .tmp 9] [] [] [(4, loopR [1, 2, 3, 4, 10] [] 0 [] [] sh27_4 shX27_4 shY27_4 kl4 tl4 xl4 yl4)] [] []
noncomputable def lc27_4 : Code := (loopsOf (bodyOf Try.f27)).getD 0 .skip
def q27_4 (k68 : Den A68 → Bool) (g68 : Den A68 → Den R68) (k22 : Den A22 → Bool) (g22 : Den A22 → Den R22) (k39 : Den A39 → Bool) (g39 : Den A39 → Den R39) (k69 : Den A69 → Bool) (g69 : Den A69 → Den R69) (k70 : Den A70 → Bool) (g70 : Den A70 → Den R70) (f : V27_4 → Option (X27_4 ⊕ Y27_4)) (v : V27_4) : Option (X27_4 ⊕ Y27_4) :=
  bif (decide (v.fst.snd.snd.snd.snd.fst ≤ 720)) then
    let v0 := (IntKind.wrap IntKind.i64 (60 * v.fst.snd.snd.snd.snd.fst))
    let v1 := (IntKind.wrap IntKind.i64 (v.fst.snd.fst + v0))
    let v2 := (k69 (v.snd.fst, v.fst.fst, v1, ()))
    bif (v2) then
      let v3 := (g69 (v.snd.fst, v.fst.fst, v1, ()))
      bif (v3.snd.1) then
        let v4 := (k70 (v3.fst.fst, ()))
        bif (v4) then
          let v5 := (g70 (v3.fst.fst, ()))
          bif (flt FloatKind.f32 v5.fst v.fst.snd.snd.fst || feq FloatKind.f32 v5.fst v.fst.snd.snd.fst) then
            let v6 := (k70 (v3.fst.snd, ()))
            bif (v6) then
              let v7 := (g70 (v3.fst.snd, ()))
              bif (flt FloatKind.f32 v7.fst v.fst.snd.snd.fst || feq FloatKind.f32 v7.fst v.fst.snd.snd.fst) then
                some (Sum.inr (((v1), ((true), ())), ()))
              else
                let v8 := (IntKind.wrap IntKind.i64 (v.fst.snd.snd.snd.snd.fst + 1))
                f ((((v.fst.fst.1), (v.fst.fst.2)), ((v.fst.snd.1), ((v.fst.snd.snd.1), ((), ((v8), ()))))), (((v.snd.fst.1), ((v.snd.fst.snd.1), ())), ()))
            else
              none
          else
            let v6 := (IntKind.wrap IntKind.i64 (v.fst.snd.snd.snd.snd.fst + 1))
            f ((((v.fst.fst.1), (v.fst.fst.2)), ((v.fst.snd.1), ((v.fst.snd.snd.1), ((), ((v6), ()))))), (((v.snd.fst.1), ((v.snd.fst.snd.1), ())), ()))
        else
          none
      else
        let v4 := (IntKind.wrap IntKind.i64 (v.fst.snd.snd.snd.snd.fst + 1))
        f ((((v.fst.fst.1), (v.fst.fst.2)), ((v.fst.snd.1), ((v.fst.snd.snd.1), ((), ((v4), ()))))), (((v.snd.fst.1), ((v.snd.fst.snd.1), ())), ()))
    else
      none
  else
    some (Sum.inl ((), ()))
theorem evl27_4 (k68 : Den A68 → Bool) (g68 : Den A68 → Den R68) (k22 : Den A22 → Bool) (g22 : Den A22 → Den R22) (k39 : Den A39 → Bool) (g39 : Den A39 → Den R39) (k69 : Den A69 → Bool) (g69 : Den A69 → Den R69) (k70 : Den A70 → Bool) (g70 : Den A70 → Den R70) (kl4 : V27_4 → Bool) (xl4 : V27_4 → X27_4) (tl4 : V27_4 → Bool) (yl4 : V27_4 → Y27_4) (f : V27_4 → Option (X27_4 ⊕ Y27_4)) (v : V27_4) : EBk (Γ27 k68 g68 k22 g22 k39 g39 k69 g69 k70 g70 kl4 xl4 tl4 yl4) lc27_4 (roundK [1, 2, 3, 4, 10] [] 0 [] [] (atS sh27_4 f) (endS shX27_4 shY27_4)) (mkS sh27_4 v) = q27_4 k68 g68 k22 g22 k39 g39 k69 g69 k70 g70 f v := by kernel_rfl
def b27_4 (v : V27_4) : Nat := v.1.2.1.natAbs + v.1.2.2.2.2.1.natAbs + v.2.1.1.length + v.2.1.2.1.length + 1000
def l27_4 (v : V27_4) : Option (X27_4 ⊕ Y27_4) := iter (q27_4 K68 G68 K22 G22 K39 G39 K69 G69 K70 G70) (b27_4 v) v
def kL27_4 (v : V27_4) : Bool := (l27_4 v).isSome
def tL27_4 (v : V27_4) : Bool := isR (l27_4 v)
def xL27_4 (v : V27_4) : X27_4 := xOf ((), ()) (l27_4 v)
def yL27_4 (v : V27_4) : Y27_4 := yOf ((0, (false, ())), ()) (l27_4 v)
def r27 (k68 : Den A68 → Bool) (g68 : Den A68 → Den R68) (k22 : Den A22 → Bool) (g22 : Den A22 → Den R22) (k39 : Den A39 → Bool) (g39 : Den A39 → Den R39) (k69 : Den A69 → Bool) (g69 : Den A69 → Den R69) (k70 : Den A70 → Bool) (g70 : Den A70 → Den R70) (kl4 : V27_4 → Bool) (xl4 : V27_4 → X27_4) (tl4 : V27_4 → Bool) (yl4 : V27_4 → Y27_4) (x : Den A27) : Option (Den R27) :=
  let v0 := (k68 (x.fst, ()))
  bif (v0) then
    let v1 := (g68 (x.fst, ()))
    bif (!v1.fst) then
      some ((0), ((false), ()))
    else
      let v2 := (k22 (x.snd.fst, ()))
      bif (v2) then
        let v3 := (g22 (x.snd.fst, ()))
        bif (!v3.fst) then
          some ((0), ((false), ()))
        else
          let v4 := (k39 (x.snd.snd.fst, -43260, 10000000, ()))
          bif (v4) then
            let v5 := (g39 (x.snd.snd.fst, -43260, 10000000, ()))
            bif (!v5.fst) then
              some ((0), ((false), ()))
            else
              let v6 := (kl4 ((x.snd.fst, x.snd.snd.fst, x.snd.snd.snd.fst, (), 0, ()), x.fst, ()))
              bif (v6) then
                let v7 := (tl4 ((x.snd.fst, x.snd.snd.fst, x.snd.snd.snd.fst, (), 0, ()), x.fst, ()))
                bif (v7) then
                  let v8 := (yl4 ((x.snd.fst, x.snd.snd.fst, x.snd.snd.snd.fst, (), 0, ()), x.fst, ()))
                  some ((v8.fst.1), ((v8.fst.snd.1), ()))
                else
                  some ((0), ((false), ()))
              else
                none
          else
            none
      else
        none
  else
    none
theorem ev27 (k68 : Den A68 → Bool) (g68 : Den A68 → Den R68) (k22 : Den A22 → Bool) (g22 : Den A22 → Den R22) (k39 : Den A39 → Bool) (g39 : Den A39 → Den R39) (k69 : Den A69 → Bool) (g69 : Den A69 → Den R69) (k70 : Den A70 → Bool) (g70 : Den A70 → Den R70) (kl4 : V27_4 → Bool) (xl4 : V27_4 → X27_4) (tl4 : V27_4 → Bool) (yl4 : V27_4 → Y27_4) (x : Den A27) : callK (Γ27 k68 g68 k22 g22 k39 g39 k69 g69 k70 g70 kl4 xl4 tl4 yl4) (bodyOf Try.f27) (decR R27) (encA A27 x) [] = r27 k68 g68 k22 g22 k39 g39 k69 g69 k70 g70 kl4 xl4 tl4 yl4 x := by kernel_rfl
def F27 (x : Den A27) : Option (Den R27) := r27 K68 G68 K22 G22 K39 G39 K69 G69 K70 G70 kL27_4 xL27_4 tL27_4 yL27_4 x
def K27 (x : Den A27) : Bool := (F27 x).isSome
def G27 (x : Den A27) : Den R27 := (F27 x).getD (zero R27)
theorem env27 : EnvOK Try.prog (Γ27 K68 G68 K22 G22 K39 G39 K69 G69 K70 G70 kL27_4 xL27_4 tL27_4 yL27_4) := env_ok mixed tab_ok eqs_ok (.cons sem68 (.cons sem22 (.cons sem39 (.cons sem69 (.cons sem70 .nil)))))
theorem is27 : FnIs Try.prog 27 (Γ27 K68 G68 K22 G22 K39 G39 K69 G69 K70 G70 kL27_4 xL27_4 tL27_4 yL27_4) (bodyOf Try.f27) := fnIs Try.func27 rfl rfl rfl (by kernel_rfl) (loops_ok (l := [lc27_4]) (by kernel_rfl) (.cons (one_loop rfl (loopR_sound (sh := sh27_4) (shX := shX27_4) (shR := shY27_4) (fun f v => evl27_4 K68 G68 K22 G22 K39 G39 K69 G69 K70 G70 kL27_4 xL27_4 tL27_4 yL27_4 f v) b27_4 ((), ()) ((0, (false, ())), ()))) (.nil)))
theorem sem27 : SemOK Try.prog (27, fnMean A27 R27 K27 G27) := fn_opt env27 is27 fun x => ev27 K68 G68 K22 G22 K39 G39 K69 G69 K70 G70 kL27_4 xL27_4 tL27_4 yL27_4 x

/- "loop.example/g03321/laws.amount" -/
abbrev A29 : Ty := .cons (.flt .f64) (.nil)
abbrev R29 : Ty := .cons (.flt .f64) (.nil)
noncomputable def Γ29 : Env := mkEnv tab eqs [] 8 [.tmp 2] [] [] [] [] []
def r29 (x : Den A29) : Option (Den R29) :=
  bif (flt FloatKind.f64 x.fst 0) then
    let v0 := (fneg FloatKind.f64 x.fst)
    some ((v0), ())
  else
    some ((x.1), ())
theorem ev29 (x : Den A29) : callK (Γ29) (bodyOf Try.f29) (decR R29) (encA A29 x) [] = r29 x := by kernel_rfl
def F29 (x : Den A29) : Option (Den R29) := r29 x
def K29 (x : Den A29) : Bool := (F29 x).isSome
def G29 (x : Den A29) : Den R29 := (F29 x).getD (zero R29)
theorem env29 : EnvOK Try.prog (Γ29) := env_ok mixed tab_ok eqs_ok .nil
theorem is29 : FnIs Try.prog 29 (Γ29) (bodyOf Try.f29) := fnIs Try.func29 rfl rfl rfl (by kernel_rfl) (noLoops (by kernel_rfl))
theorem sem29 : SemOK Try.prog (29, fnMean A29 R29 K29 G29) := fn_opt env29 is29 fun x => ev29 x

end Go.Proofs.Ytmmdjajebmihhaa.AM

/- What functions of the program make of their arguments; each is what its evaluation says. Printed by fx.py. -/
namespace Go.Proofs.Ytmmdjajebmihhaa.AM
open Go Go.Proofs
set_option linter.unusedVariables false
set_option maxRecDepth 100000
set_option maxHeartbeats 0

/- "loop.example/g03321/laws.FnTideStill" -/
abbrev A5 : Ty := .cons (.slice (.int .u8)) (.nil)
abbrev R5 : Ty := .cons (.bool) (.nil)
abbrev V5_5 : Type := (((Nat × Nat) × (Int × (Unit × (Unit × (Int × Unit))))) × ((List (Den (S53))) × (((List (Den (S96))) × ((List (Den (.int .i64))) × Unit)) × Unit)))
def sh5_5 : ShS := ⟨[(3, .one (.cpx .f64)), (4, .one (.int .i64)), (5, .one (.ref (S53) 0)), (6, .one (.ptr 1 0)), (7, .one (.int .i64))], [(0, .arr (S53)), (1, .box [.sl (S96), .sl (.int .i64)])], 2, 0⟩
abbrev X5_5 : Type := (((Nat × Nat) × (Int × (Unit × (Unit × Unit)))) × ((List (Den (S53))) × (((List (Den (S96))) × ((List (Den (.int .i64))) × Unit)) × Unit)))
def shX5_5 : ShS := ⟨[(3, .one (.cpx .f64)), (4, .one (.int .i64)), (5, .one (.ref (S53) 0)), (6, .one (.ptr 1 0))], [(0, .arr (S53)), (1, .box [.sl (S96), .sl (.int .i64)])], 2, 0⟩
abbrev V5_11 : Type := (((Nat × Nat) × (Unit × ((Nat × Nat) × (Bool × (Bool × (Int × Unit)))))) × ((List (Den (S53))) × Unit))
def sh5_11 : ShS := ⟨[(3, .one (.cpx .f64)), (5, .one (.ref (S53) 0)), (8, .one (.cpx .f64)), (9, .one (.bool)), (10, .one (.bool)), (11, .one (.int .i64))], [(0, .arr (S53))], 1, 0⟩
abbrev X5_11 : Type := (((Nat × Nat) × ((Nat × Nat) × (Bool × (Bool × Unit)))) × Unit)
def shX5_11 : ShS := ⟨[(3, .one (.cpx .f64)), (8, .one (.cpx .f64)), (9, .one (.bool)), (10, .one (.bool))], [], 0, 0⟩
noncomputable def Γ5 (k7 : Den A7 → Bool) (g7 : Den A7 → Den R7) (k20 : I20.den → Bool) (g20 : I20.den → O20.den) (k21 : Den A21 → Bool) (g21 : Den A21 → Den R21) (k22 : Den A22 → Bool) (g22 : Den A22 → Den R22) (k23 : Den A23 → Bool) (g23 : Den A23 → Den R23) (k24 : Den A24 → Bool) (g24 : Den A24 → Den R24) (kl5 : V5_5 → Bool) (xl5 : V5_5 → X5_5) (kl11 : V5_11 → Bool) (xl11 : V5_11 → X5_11) : Env := mkEnv tab eqs [(7, fnMean A7 R7 k7 g7), (20, sgMean false I20 O20 k20 g20), (21, fnMean A21 R21 k21 g21), (22, fnMean A22 R22 k22 g22), (23, fnMean A23 R23 k23 g23), (24, fnMean A24 R24 k24 g24)] 79 [.tmp 2] [] [] [(5, loopX [3, 4, 5, 6, 7] [] 0 [3, 4, 5, 6] [] sh5_5 shX5_5 kl5 xl5), (11, loopX [3, 5, 8, 9, 10, 11] [] 2 [3, 8, 9, 10] [] sh5_11 shX5_11 kl11 xl11)] [] []
noncomputable def lc5_5 : Code := (loopsOf (bodyOf Try.f5)).getD 0 .skip
noncomputable def lc5_11 : Code := (loopsOf (bodyOf Try.f5)).getD 1 .skip
def q5_11 (k7 : Den A7 → Bool) (g7 : Den A7 → Den R7) (k20 : I20.den → Bool) (g20 : I20.den → O20.den) (k21 : Den A21 → Bool) (g21 : Den A21 → Den R21) (k22 : Den A22 → Bool) (g22 : Den A22 → Den R22) (k23 : Den A23 → Bool) (g23 : Den A23 → Den R23) (k24 : Den A24 → Bool) (g24 : Den A24 → Den R24) (f : V5_11 → Option (X5_11)) (v : V5_11) : Option (X5_11) :=
  bif (decide (v.fst.snd.snd.snd.snd.snd.fst < (↑(List.length v.snd.fst) : Int))) then
    bif (v.fst.snd.snd.snd.snd.1) then
      bif (decide (0 ≤ v.fst.snd.snd.snd.snd.snd.fst) && decide (v.fst.snd.snd.snd.snd.snd.fst < (↑(List.length v.snd.fst) : Int))) then
        let v0 := (List.getD v.snd.fst (Int.toNat v.fst.snd.snd.snd.snd.snd.fst) (zero S53))
        let v1 := (k23 (v0, ()))
        bif (v1) then
          let v2 := (g23 (v0, ()))
          let v3 := (IntKind.wrap IntKind.i64 (v.fst.snd.snd.snd.snd.snd.fst + 1))
          f ((((v.fst.fst.1), (v.fst.fst.2)), ((), (((v.fst.snd.snd.fst.1), (v.fst.snd.snd.fst.2)), ((v.fst.snd.snd.snd.1), ((v2.1), ((v3), ())))))), ((v.snd.1), ()))
        else
          none
      else
        none
    else
      let v0 := (IntKind.wrap IntKind.i64 (v.fst.snd.snd.snd.snd.snd.fst + 1))
      f ((((v.fst.fst.1), (v.fst.fst.2)), ((), (((v.fst.snd.snd.fst.1), (v.fst.snd.snd.fst.2)), ((v.fst.snd.snd.snd.1), ((false), ((v0), ())))))), ((v.snd.1), ()))
  else
    some ((((v.fst.fst.1), (v.fst.fst.2)), (((v.fst.snd.snd.fst.1), (v.fst.snd.snd.fst.2)), ((v.fst.snd.snd.snd.1), ((v.fst.snd.snd.snd.snd.1), ())))), ())
theorem evl5_11 (k7 : Den A7 → Bool) (g7 : Den A7 → Den R7) (k20 : I20.den → Bool) (g20 : I20.den → O20.den) (k21 : Den A21 → Bool) (g21 : Den A21 → Den R21) (k22 : Den A22 → Bool) (g22 : Den A22 → Den R22) (k23 : Den A23 → Bool) (g23 : Den A23 → Den R23) (k24 : Den A24 → Bool) (g24 : Den A24 → Den R24) (kl5 : V5_5 → Bool) (xl5 : V5_5 → X5_5) (kl11 : V5_11 → Bool) (xl11 : V5_11 → X5_11) (f : V5_11 → Option (X5_11)) (v : V5_11) : EBk (Γ5 k7 g7 k20 g20 k21 g21 k22 g22 k23 g23 k24 g24 kl5 xl5 kl11 xl11) lc5_11 (roundK [3, 5, 8, 9, 10, 11] [] 2 [3, 8, 9, 10] [] (atS sh5_11 f) (endX shX5_11)) (mkS sh5_11 v) = q5_11 k7 g7 k20 g20 k21 g21 k22 g22 k23 g23 k24 g24 f v := by kernel_rfl
def b5_11 (v : V5_11) : Nat := v.1.2.2.2.2.2.1.natAbs + v.2.1.length + 1000
def l5_11 (v : V5_11) : Option (X5_11) := iter (q5_11 K7 G7 K20 G20 K21 G21 K22 G22 K23 G23 K24 G24) (b5_11 v) v
def kL5_11 (v : V5_11) : Bool := (l5_11 v).isSome
def xL5_11 (v : V5_11) : X5_11 := (l5_11 v).getD (((0, 0), ((0, 0), (false, (false, ())))), ())
def q5_5 (k7 : Den A7 → Bool) (g7 : Den A7 → Den R7) (k20 : I20.den → Bool) (g20 : I20.den → O20.den) (k21 : Den A21 → Bool) (g21 : Den A21 → Den R21) (k22 : Den A22 → Bool) (g22 : Den A22 → Den R22) (k23 : Den A23 → Bool) (g23 : Den A23 → Den R23) (k24 : Den A24 → Bool) (g24 : Den A24 → Den R24) (f : V5_5 → Option (X5_5)) (v : V5_5) : Option (X5_5) :=
  bif (decide (v.fst.snd.snd.snd.snd.fst < (↑(List.length v.snd.fst) : Int))) then
    bif (decide (0 ≤ v.fst.snd.snd.snd.snd.fst) && decide (v.fst.snd.snd.snd.snd.fst < (↑(List.length v.snd.fst) : Int))) then
      let v0 := (IntKind.wrap IntKind.i64 (v.fst.snd.snd.snd.snd.fst + 1))
      let v1 := (List.getD v.snd.fst (Int.toNat v.fst.snd.snd.snd.snd.fst) (zero S53))
      let v2 := (List.set v.snd.fst (Int.toNat v.fst.snd.snd.snd.snd.fst) (v1.fst, v1.snd.fst, 0, ()))
      f ((((v.fst.fst.1), (v.fst.fst.2)), ((v.fst.snd.1), ((), ((), ((v0), ()))))), ((v2), (((v.snd.snd.fst.1), ((v.snd.snd.fst.snd.1), ())), ())))
    else
      none
  else
    some ((((v.fst.fst.1), (v.fst.fst.2)), ((v.fst.snd.1), ((), ((), ())))), ((v.snd.1), (((v.snd.snd.fst.1), ((v.snd.snd.fst.snd.1), ())), ())))
theorem evl5_5 (k7 : Den A7 → Bool) (g7 : Den A7 → Den R7) (k20 : I20.den → Bool) (g20 : I20.den → O20.den) (k21 : Den A21 → Bool) (g21 : Den A21 → Den R21) (k22 : Den A22 → Bool) (g22 : Den A22 → Den R22) (k23 : Den A23 → Bool) (g23 : Den A23 → Den R23) (k24 : Den A24 → Bool) (g24 : Den A24 → Den R24) (kl5 : V5_5 → Bool) (xl5 : V5_5 → X5_5) (kl11 : V5_11 → Bool) (xl11 : V5_11 → X5_11) (f : V5_5 → Option (X5_5)) (v : V5_5) : EBk (Γ5 k7 g7 k20 g20 k21 g21 k22 g22 k23 g23 k24 g24 kl5 xl5 kl11 xl11) lc5_5 (roundK [3, 4, 5, 6, 7] [] 0 [3, 4, 5, 6] [] (atS sh5_5 f) (endX shX5_5)) (mkS sh5_5 v) = q5_5 k7 g7 k20 g20 k21 g21 k22 g22 k23 g23 k24 g24 f v := by kernel_rfl
def b5_5 (v : V5_5) : Nat := v.1.2.1.natAbs + v.1.2.2.2.2.1.natAbs + v.2.1.length + v.2.2.1.1.length + v.2.2.1.2.1.length + 1000
def l5_5 (v : V5_5) : Option (X5_5) := iter (q5_5 K7 G7 K20 G20 K21 G21 K22 G22 K23 G23 K24 G24) (b5_5 v) v
def kL5_5 (v : V5_5) : Bool := (l5_5 v).isSome
def xL5_5 (v : V5_5) : X5_5 := (l5_5 v).getD (((0, 0), (0, ((), ((), ())))), ([], (([], ([], ())), ())))
def r5 (k7 : Den A7 → Bool) (g7 : Den A7 → Den R7) (k20 : I20.den → Bool) (g20 : I20.den → O20.den) (k21 : Den A21 → Bool) (g21 : Den A21 → Den R21) (k22 : Den A22 → Bool) (g22 : Den A22 → Den R22) (k23 : Den A23 → Bool) (g23 : Den A23 → Den R23) (k24 : Den A24 → Bool) (g24 : Den A24 → Den R24) (kl5 : V5_5 → Bool) (xl5 : V5_5 → X5_5) (kl11 : V5_11 → Bool) (xl11 : V5_11 → X5_11) (x : Den A5) : Option (Den R5) :=
  let v0 := (k7 x)
  bif (v0) then
    let v1 := (g7 x)
    bif (v1.1) then
      some ((true), ())
    else
      let v2 := (k20 (x, ()))
      bif (v2) then
        let v3 := (g20 (x, ()))
        let v4 := (kl5 ((v3.fst.fst, v3.fst.snd.fst, (), (), 0, ()), v3.snd.fst, v3.fst.snd.snd.snd))
        bif (v4) then
          let v5 := (xl5 ((v3.fst.fst, v3.fst.snd.fst, (), (), 0, ()), v3.snd.fst, v3.fst.snd.snd.snd))
          let v6 := (k21 (v5.fst.fst, v5.fst.snd.fst, v5.snd))
          bif (v6) then
            bif (decide ((↑(List.length v5.snd.fst) : Int) ≤ 50)) then
              let v7 := (k22 (v5.fst.fst, ()))
              bif (v7) then
                let v8 := (g21 (v5.fst.fst, v5.fst.snd.fst, v5.snd))
                let v9 := (g22 (v5.fst.fst, ()))
                let v10 := (kl11 ((v5.fst.fst, (), v8.fst, v8.snd.fst, v9.fst, 0, ()), v5.snd.fst, ()))
                bif (v10) then
                  let v11 := (xl11 ((v5.fst.fst, (), v8.fst, v8.snd.fst, v9.fst, 0, ()), v5.snd.fst, ()))
                  bif (v11.fst.snd.snd.fst == v11.fst.snd.snd.snd.fst) then
                    bif (!v11.fst.snd.snd.fst) then
                      bif (feq FloatKind.f64 v11.fst.snd.fst.fst 0 && feq FloatKind.f64 v11.fst.snd.fst.snd 0) then
                        some ((true), ())
                      else
                        bif (v11.fst.snd.snd.1) then
                          let v12 := (k24 (v11.fst.snd.fst, v11.fst.fst, ()))
                          bif (v12) then
                            let v13 := (g24 (v11.fst.snd.fst, v11.fst.fst, ()))
                            some ((v13.1), ())
                          else
                            none
                        else
                          some ((false), ())
                    else
                      bif (v11.fst.snd.snd.1) then
                        let v12 := (k24 (v11.fst.snd.fst, v11.fst.fst, ()))
                        bif (v12) then
                          let v13 := (g24 (v11.fst.snd.fst, v11.fst.fst, ()))
                          some ((v13.1), ())
                        else
                          none
                      else
                        some ((false), ())
                  else
                    some ((false), ())
                else
                  none
              else
                none
            else
              let v7 := (g21 (v5.fst.fst, v5.fst.snd.fst, v5.snd))
              let v8 := (kl11 ((v5.fst.fst, (), v7.fst, v7.snd.fst, false, 0, ()), v5.snd.fst, ()))
              bif (v8) then
                let v9 := (xl11 ((v5.fst.fst, (), v7.fst, v7.snd.fst, false, 0, ()), v5.snd.fst, ()))
                bif (v9.fst.snd.snd.fst == v9.fst.snd.snd.snd.fst) then
                  bif (!v9.fst.snd.snd.fst) then
                    bif (feq FloatKind.f64 v9.fst.snd.fst.fst 0 && feq FloatKind.f64 v9.fst.snd.fst.snd 0) then
                      some ((true), ())
                    else
                      bif (v9.fst.snd.snd.1) then
                        let v10 := (k24 (v9.fst.snd.fst, v9.fst.fst, ()))
                        bif (v10) then
                          let v11 := (g24 (v9.fst.snd.fst, v9.fst.fst, ()))
                          some ((v11.1), ())
                        else
                          none
                      else
                        some ((false), ())
                  else
                    bif (v9.fst.snd.snd.1) then
                      let v10 := (k24 (v9.fst.snd.fst, v9.fst.fst, ()))
                      bif (v10) then
                        let v11 := (g24 (v9.fst.snd.fst, v9.fst.fst, ()))
                        some ((v11.1), ())
                      else
                        none
                    else
                      some ((false), ())
                else
                  some ((false), ())
              else
                none
          else
            none
        else
          none
      else
        none
  else
    none
theorem ev5 (k7 : Den A7 → Bool) (g7 : Den A7 → Den R7) (k20 : I20.den → Bool) (g20 : I20.den → O20.den) (k21 : Den A21 → Bool) (g21 : Den A21 → Den R21) (k22 : Den A22 → Bool) (g22 : Den A22 → Den R22) (k23 : Den A23 → Bool) (g23 : Den A23 → Den R23) (k24 : Den A24 → Bool) (g24 : Den A24 → Den R24) (kl5 : V5_5 → Bool) (xl5 : V5_5 → X5_5) (kl11 : V5_11 → Bool) (xl11 : V5_11 → X5_11) (x : Den A5) : callK (Γ5 k7 g7 k20 g20 k21 g21 k22 g22 k23 g23 k24 g24 kl5 xl5 kl11 xl11) (bodyOf Try.f5) (decR R5) (encA A5 x) [] = r5 k7 g7 k20 g20 k21 g21 k22 g22 k23 g23 k24 g24 kl5 xl5 kl11 xl11 x := by kernel_rfl
def F5 (x : Den A5) : Option (Den R5) := r5 K7 G7 K20 G20 K21 G21 K22 G22 K23 G23 K24 G24 kL5_5 xL5_5 kL5_11 xL5_11 x
def K5 (x : Den A5) : Bool := (F5 x).isSome
def G5 (x : Den A5) : Den R5 := (F5 x).getD (zero R5)
theorem env5 : EnvOK Try.prog (Γ5 K7 G7 K20 G20 K21 G21 K22 G22 K23 G23 K24 G24 kL5_5 xL5_5 kL5_11 xL5_11) := env_ok mixed tab_ok eqs_ok (.cons sem7 (.cons sem20 (.cons sem21 (.cons sem22 (.cons sem23 (.cons sem24 .nil))))))
theorem is5 : FnIs Try.prog 5 (Γ5 K7 G7 K20 G20 K21 G21 K22 G22 K23 G23 K24 G24 kL5_5 xL5_5 kL5_11 xL5_11) (bodyOf Try.f5) := fnIs Try.func5 rfl rfl rfl (by kernel_rfl) (loops_ok (l := [lc5_5, lc5_11]) (by kernel_rfl) (.cons (one_loop rfl (loopX_sound (sh := sh5_5) (shX := shX5_5) (fun f v => evl5_5 K7 G7 K20 G20 K21 G21 K22 G22 K23 G23 K24 G24 kL5_5 xL5_5 kL5_11 xL5_11 f v) b5_5 (((0, 0), (0, ((), ((), ())))), ([], (([], ([], ())), ()))))) (.cons (one_loop rfl (loopX_sound (sh := sh5_11) (shX := shX5_11) (fun f v => evl5_11 K7 G7 K20 G20 K21 G21 K22 G22 K23 G23 K24 G24 kL5_5 xL5_5 kL5_11 xL5_11 f v) b5_11 (((0, 0), ((0, 0), (false, (false, ())))), ()))) (.nil))))
theorem sem5 : SemOK Try.prog (5, fnMean A5 R5 K5 G5) := fn_opt env5 is5 fun x => ev5 K7 G7 K20 G20 K21 G21 K22 G22 K23 G23 K24 G24 kL5_5 xL5_5 kL5_11 xL5_11 x

/- "loop.example/g03321/laws.FnSlackFirst" -/
abbrev A6 : Ty := .cons (.slice (.int .u8)) (.nil)
abbrev R6 : Ty := .cons (.bool) (.nil)
noncomputable def Γ6 (k7 : Den A7 → Bool) (g7 : Den A7 → Den R7) (k25 : Den A25 → Bool) (g25 : Den A25 → Den R25) (k26 : Den A26 → Bool) (g26 : Den A26 → Den R26) (k27 : Den A27 → Bool) (g27 : Den A27 → Den R27) (k28 : Den A28 → Bool) (g28 : Den A28 → Den R28) (k29 : Den A29 → Bool) (g29 : Den A29 → Den R29) : Env := mkEnv tab eqs [(7, fnMean A7 R7 k7 g7), (25, fnMean A25 R25 k25 g25), (26, fnMean A26 R26 k26 g26), (27, fnMean A27 R27 k27 g27), (28, fnMean A28 R28 k28 g28), (29, fnMean A29 R29 k29 g29)] 117 [.tmp 2] [] [] [] [] []
def r6 (k7 : Den A7 → Bool) (g7 : Den A7 → Den R7) (k25 : Den A25 → Bool) (g25 : Den A25 → Den R25) (k26 : Den A26 → Bool) (g26 : Den A26 → Den R26) (k27 : Den A27 → Bool) (g27 : Den A27 → Den R27) (k28 : Den A28 → Bool) (g28 : Den A28 → Den R28) (k29 : Den A29 → Bool) (g29 : Den A29 → Den R29) (x : Den A6) : Option (Den R6) :=
  let v0 := (k7 x)
  bif (v0) then
    let v1 := (g7 x)
    bif (v1.1) then
      some ((true), ())
    else
      let v2 := (k25 x)
      bif (v2) then
        let v3 := (g25 x)
        let v4 := (k26 v3)
        bif (v4) then
          let v5 := (k27 v3)
          bif (v5) then
            let v6 := (g26 v3)
            let v7 := (g27 v3)
            bif (!v6.snd.fst == v7.snd.fst) then
              some ((false), ())
            else
              bif (!v6.snd.fst) then
                some ((v6.fst == 0), ())
              else
                let v8 := (k28 (v3.fst, v3.snd.fst, v6.fst, ()))
                bif (v8) then
                  let v9 := (g28 (v3.fst, v3.snd.fst, v6.fst, ()))
                  bif (!v9.snd.fst) then
                    some ((false), ())
                  else
                    let v10 := (k29 ((convF FloatKind.f32 FloatKind.f64 v9.fst.fst).snd, ()))
                    bif (v10) then
                      let v11 := (g29 ((convF FloatKind.f32 FloatKind.f64 v9.fst.fst).snd, ()))
                      bif (fgt FloatKind.f64 v11.fst (convF FloatKind.f32 FloatKind.f64 v3.snd.snd.snd.fst).snd) then
                        some ((false), ())
                      else
                        let v12 := (k29 ((convF FloatKind.f32 FloatKind.f64 v9.fst.snd).snd, ()))
                        bif (v12) then
                          let v13 := (g29 ((convF FloatKind.f32 FloatKind.f64 v9.fst.snd).snd, ()))
                          bif (fgt FloatKind.f64 v13.fst (convF FloatKind.f32 FloatKind.f64 v3.snd.snd.snd.fst).snd) then
                            some ((false), ())
                          else
                            let v14 := (IntKind.wrap IntKind.i64 (v6.fst - v3.snd.snd.fst))
                            bif (Int.tmod v14 60 != 0) then
                              some ((false), ())
                            else
                              bif (v6.fst == v3.snd.snd.fst) then
                                some ((true), ())
                              else
                                let v15 := (IntKind.wrap IntKind.i64 (v6.fst - 60))
                                let v16 := (k28 (v3.fst, v3.snd.fst, v15, ()))
                                bif (v16) then
                                  bif (decide (v6.fst > v3.snd.snd.fst)) then
                                    let v17 := (g28 (v3.fst, v3.snd.fst, v15, ()))
                                    bif (!v17.snd.fst) then
                                      some ((true), ())
                                    else
                                      let v18 := (k29 ((convF FloatKind.f32 FloatKind.f64 v17.fst.fst).snd, ()))
                                      bif (v18) then
                                        let v19 := (g29 ((convF FloatKind.f32 FloatKind.f64 v17.fst.fst).snd, ()))
                                        bif (fgt FloatKind.f64 v19.fst (convF FloatKind.f32 FloatKind.f64 v3.snd.snd.snd.fst).snd) then
                                          some ((true), ())
                                        else
                                          let v20 := (k29 ((convF FloatKind.f32 FloatKind.f64 v17.fst.snd).snd, ()))
                                          bif (v20) then
                                            let v21 := (g29 ((convF FloatKind.f32 FloatKind.f64 v17.fst.snd).snd, ()))
                                            some ((fgt FloatKind.f64 v21.fst (convF FloatKind.f32 FloatKind.f64 v3.snd.snd.snd.fst).snd), ())
                                          else
                                            none
                                      else
                                        none
                                  else
                                    some ((false), ())
                                else
                                  none
                        else
                          none
                    else
                      none
                else
                  none
          else
            none
        else
          none
      else
        none
  else
    none
theorem ev6 (k7 : Den A7 → Bool) (g7 : Den A7 → Den R7) (k25 : Den A25 → Bool) (g25 : Den A25 → Den R25) (k26 : Den A26 → Bool) (g26 : Den A26 → Den R26) (k27 : Den A27 → Bool) (g27 : Den A27 → Den R27) (k28 : Den A28 → Bool) (g28 : Den A28 → Den R28) (k29 : Den A29 → Bool) (g29 : Den A29 → Den R29) (x : Den A6) : callK (Γ6 k7 g7 k25 g25 k26 g26 k27 g27 k28 g28 k29 g29) (bodyOf Try.f6) (decR R6) (encA A6 x) [] = r6 k7 g7 k25 g25 k26 g26 k27 g27 k28 g28 k29 g29 x := by kernel_rfl
def F6 (x : Den A6) : Option (Den R6) := r6 K7 G7 K25 G25 K26 G26 K27 G27 K28 G28 K29 G29 x
def K6 (x : Den A6) : Bool := (F6 x).isSome
def G6 (x : Den A6) : Den R6 := (F6 x).getD (zero R6)
theorem env6 : EnvOK Try.prog (Γ6 K7 G7 K25 G25 K26 G26 K27 G27 K28 G28 K29 G29) := env_ok mixed tab_ok eqs_ok (.cons sem7 (.cons sem25 (.cons sem26 (.cons sem27 (.cons sem28 (.cons sem29 .nil))))))
theorem is6 : FnIs Try.prog 6 (Γ6 K7 G7 K25 G25 K26 G26 K27 G27 K28 G28 K29 G29) (bodyOf Try.f6) := fnIs Try.func6 rfl rfl rfl (by kernel_rfl) (noLoops (by kernel_rfl))
theorem sem6 : SemOK Try.prog (6, fnMean A6 R6 K6 G6) := fn_opt env6 is6 fun x => ev6 K7 G7 K25 G25 K26 G26 K27 G27 K28 G28 K29 G29 x

end Go.Proofs.Ytmmdjajebmihhaa.AM

/- What functions whose answers are open make of their arguments; each is what its evaluation says. Printed by fn.py. -/
namespace Go.Proofs.Ytmmdjajebmihhaa.AM
open Go Go.Proofs
set_option linter.unusedVariables false
set_option maxRecDepth 100000
set_option maxHeartbeats 0

/- "loop.example/g03321/spec.l06Speed" -/
noncomputable def N108 (p107 : I107.den → Bool) (Q107 : I107.den → O107.den → Prop) (e107 : Nonempty (Ch I107 O107 p107 Q107)) : NEnv := mkN [(107, sgFam true I107 O107 p107 Q107 e107)] []
noncomputable def rN108 (k66 : I66.den → Bool) (g66 : I66.den → O66.den) (k107 : I107.den → Bool) (g107 : I107.den → O107.den) (p107 : I107.den → Bool) (Q107 : I107.den → O107.den → Prop) (e107 : Nonempty (Ch I107 O107 p107 Q107)) (h : O108.den → Option Unit) (x : I108.den) : Option Unit :=
  let v0 := (k66 (((), 16, ()), x.snd))
  bif (v0) then
    let v1 := (g66 (((), 16, ()), x.snd))
    bif (v1.fst.fst == 0) then
      allK fun (c107_6 : Ch I107 O107 p107 Q107) =>
        let v2 := (p107 (((), 60, ()), v1.snd))
        bif (v2) then
          let v3 := (c107_6.val (((), 60, ()), v1.snd))
          h (((v3.fst.1), ()), (((v3.snd.fst.1), ((v3.snd.fst.snd.1), ((v3.snd.fst.snd.snd.1), ()))), ()))
        else
          none
    else
      bif (v1.fst.fst == 1) then
        h (((0), ()), (((v1.snd.fst.1), ((v1.snd.fst.snd.1), ((v1.snd.fst.snd.snd.1), ()))), ()))
      else
        bif (v1.fst.fst == 2) then
          h (((1112014848), ()), (((v1.snd.fst.1), ((v1.snd.fst.snd.1), ((v1.snd.fst.snd.snd.1), ()))), ()))
        else
          let v2 := (k66 (((), 161, ()), v1.snd))
          bif (v2) then
            let v3 := (g66 (((), 161, ()), v1.snd))
            let v4 := (farith BinOp.quo FloatKind.f32 (FloatKind.nearest FloatKind.f32 v3.fst.fst) 1098907648)
            h (((v4), ()), (((v3.snd.fst.1), ((v3.snd.fst.snd.1), ((v3.snd.fst.snd.snd.1), ()))), ()))
          else
            none
  else
    none
theorem evN108 (k66 : I66.den → Bool) (g66 : I66.den → O66.den) (k107 : I107.den → Bool) (g107 : I107.den → O107.den) (p107 : I107.den → Bool) (Q107 : I107.den → O107.den → Prop) (e107 : Nonempty (Ch I107 O107 p107 Q107)) (h : O108.den → Option Unit) (x : I108.den) : callSN (Γ108 k66 g66 k107 g107) (N108 p107 Q107 e107) (bodyOf Try.f108) I108 O108 h x = rN108 k66 g66 k107 g107 p107 Q107 e107 h x := by kernel_rfl

/- "loop.example/g03321/spec.l07Leg" -/
noncomputable def N91 (p108 : I108.den → Bool) (Q108 : I108.den → O108.den → Prop) (e108 : Nonempty (Ch I108 O108 p108 Q108)) : NEnv := mkN [(108, sgFam true I108 O108 p108 Q108 e108)] []
noncomputable def rN91 (k46 : I46.den → Bool) (g46 : I46.den → O46.den) (k108 : I108.den → Bool) (g108 : I108.den → O108.den) (k66 : I66.den → Bool) (g66 : I66.den → O66.den) (k76 : I76.den → Bool) (g76 : I76.den → O76.den) (p108 : I108.den → Bool) (Q108 : I108.den → O108.den → Prop) (e108 : Nonempty (Ch I108 O108 p108 Q108)) (h : O91.den → Option Unit) (x : I91.den) : Option Unit :=
  let v0 := (k46 (((), ()), x.snd))
  bif (v0) then
    allK fun (c108_4 : Ch I108 O108 p108 Q108) =>
      let v1 := (g46 (((), ()), x.snd))
      let v2 := (p108 (((), ()), v1.snd))
      bif (v2) then
        let v3 := (c108_4.val (((), ()), v1.snd))
        let v4 := (k66 (((), 4000, ()), v3.snd))
        bif (v4) then
          let v5 := (g66 (((), 4000, ()), v3.snd))
          let v6 := (k66 (((), 14, ()), v5.snd))
          bif (v6) then
            let v7 := (g66 (((), 14, ()), v5.snd))
            bif (v7.fst.fst == 0) then
              let v8 := (List.set (List.replicate 5 (zero (Ty.int IntKind.i64))) 0 (-1))
              let v9 := (List.set v8 1 0)
              let v10 := (List.set v9 2 600)
              let v11 := (List.set v10 3 100000)
              let v12 := (List.set v11 4 100001)
              let v13 := (k76 (((), (), ()), v7.snd.fst, v12, ()))
              bif (v13) then
                let v14 := (g76 (((), (), ()), v7.snd.fst, v12, ()))
                h ((((v1.fst.1), ((v3.fst.1), ((v14.fst.1), ()))), ()), (((v14.snd.fst.1), ((v14.snd.fst.snd.1), ((v14.snd.fst.snd.snd.1), ()))), ()))
              else
                none
            else
              bif (v7.fst.fst == 1) then
                let v8 := (k66 (((), 5, ()), v7.snd))
                bif (v8) then
                  let v9 := (g66 (((), 5, ()), v7.snd))
                  let v10 := (IntKind.wrap IntKind.i64 (600 * v9.fst.fst))
                  h ((((v1.fst.1), ((v3.fst.1), ((v10), ()))), ()), (((v9.snd.fst.1), ((v9.snd.fst.snd.1), ((v9.snd.fst.snd.snd.1), ()))), ()))
                else
                  none
              else
                h ((((v1.fst.1), ((v3.fst.1), ((v5.fst.1), ()))), ()), (((v7.snd.fst.1), ((v7.snd.fst.snd.1), ((v7.snd.fst.snd.snd.1), ()))), ()))
          else
            none
        else
          none
      else
        none
  else
    none
theorem evN91 (k46 : I46.den → Bool) (g46 : I46.den → O46.den) (k108 : I108.den → Bool) (g108 : I108.den → O108.den) (k66 : I66.den → Bool) (g66 : I66.den → O66.den) (k76 : I76.den → Bool) (g76 : I76.den → O76.den) (p108 : I108.den → Bool) (Q108 : I108.den → O108.den → Prop) (e108 : Nonempty (Ch I108 O108 p108 Q108)) (h : O91.den → Option Unit) (x : I91.den) : callSN (Γ91 k46 g46 k108 g108 k66 g66 k76 g76) (N91 p108 Q108 e108) (bodyOf Try.f91) I91 O91 h x = rN91 k46 g46 k108 g108 k66 g66 k76 g76 p108 Q108 e108 h x := by kernel_rfl

/- "loop.example/g03321/spec.l05Any" -/
noncomputable def N58 (p90 : I90.den → Bool) (Q90 : I90.den → O90.den → Prop) (e90 : Nonempty (Ch I90 O90 p90 Q90)) : NEnv := mkN [(90, sgFam true I90 O90 p90 Q90 e90)] []
noncomputable def rN58 (k87 : I87.den → Bool) (g87 : I87.den → O87.den) (k66 : I66.den → Bool) (g66 : I66.den → O66.den) (k89 : I89.den → Bool) (g89 : I89.den → O89.den) (k88 : Den A88 → Bool) (g88 : Den A88 → Den R88) (k90 : I90.den → Bool) (g90 : I90.den → O90.den) (k75 : I75.den → Bool) (g75 : I75.den → O75.den) (kl15 : V58_15 → Bool) (xl15 : V58_15 → X58_15) (p90 : I90.den → Bool) (Q90 : I90.den → O90.den → Prop) (e90 : Nonempty (Ch I90 O90 p90 Q90)) (h : O58.den → Option Unit) (x : I58.den) : Option Unit :=
  let v0 := (k87 (((), ()), x.snd))
  bif (v0) then
    let v1 := (g87 (((), ()), x.snd))
    let v2 := (k66 (((), (↑(List.length v1.snd.snd.fst) : Int), ()), v1.snd.fst, ()))
    bif (v2) then
      let v3 := (g66 (((), (↑(List.length v1.snd.snd.fst) : Int), ()), v1.snd.fst, ()))
      let v4 := (k66 (((), 24, ()), v3.snd))
      bif (v4) then
        let v5 := (g66 (((), 24, ()), v3.snd))
        bif (v5.fst.fst == 0) then
          let v6 := (k89 (((), ()), v5.snd))
          bif (v6) then
            let v7 := (g89 (((), ()), v5.snd))
            let v8 := (IntKind.wrap IntKind.u8 v7.fst.fst)
            let v9 := (List.set (List.replicate 1 (zero (Ty.int IntKind.u8))) 0 v8)
            let v10 := (k88 (v9, ()))
            bif (v10) then
              bif (decide (0 ≤ v3.fst.fst) && decide (v3.fst.fst < (↑(List.length v1.snd.snd.fst) : Int))) then
                let v11 := (g88 (v9, ()))
                let v12 := (List.getD v1.snd.snd.fst (Int.toNat v3.fst.fst) (zero S96))
                let v13 := (List.set v1.snd.snd.fst (Int.toNat v3.fst.fst) (v11.fst, v12.snd))
                h ((((v13), ((v1.snd.snd.snd.1), ())), ()), (((v7.snd.fst.1), ((v7.snd.fst.snd.1), ((v7.snd.fst.snd.snd.1), ()))), ()))
              else
                none
            else
              none
          else
            none
        else
          bif (v5.fst.fst == 1) then
            allK fun (c90_12 : Ch I90 O90 p90 Q90) =>
              let v6 := (k66 (((), 13, ()), v5.snd))
              bif (v6) then
                let v7 := (g66 (((), 13, ()), v5.snd))
                let v8 := (p90 (((), ()), v7.snd))
                bif (v8) then
                  bif (decide (0 ≤ v3.fst.fst) && decide (v3.fst.fst < (↑(List.length v1.snd.snd.fst) : Int))) then
                    bif (decide (0 ≤ v7.fst.fst) && decide (v7.fst.fst < (↑13 : Int))) then
                      let v9 := (List.getD v1.snd.snd.fst (Int.toNat v3.fst.fst) (zero S96))
                      let v10 := (c90_12.val (((), ()), v7.snd))
                      let v11 := (List.set v1.snd.snd.fst (Int.toNat v3.fst.fst) (v9.fst, ((bif Nat.beq 0 (Int.toNat v7.fst.fst) then v10.fst.fst.fst else v9.snd.fst.fst.fst, bif Nat.beq 0 (Int.toNat v7.fst.fst) then v10.fst.fst.snd else v9.snd.fst.fst.snd), (bif Nat.beq (0 + 1) (Int.toNat v7.fst.fst) then v10.fst.fst.fst else v9.snd.fst.snd.fst.fst, bif Nat.beq (0 + 1) (Int.toNat v7.fst.fst) then v10.fst.fst.snd else v9.snd.fst.snd.fst.snd), (bif Nat.beq (0 + 1 + 1) (Int.toNat v7.fst.fst) then v10.fst.fst.fst else v9.snd.fst.snd.snd.fst.fst, bif Nat.beq (0 + 1 + 1) (Int.toNat v7.fst.fst) then v10.fst.fst.snd else v9.snd.fst.snd.snd.fst.snd), (bif Nat.beq (0 + 1 + 1 + 1) (Int.toNat v7.fst.fst) then v10.fst.fst.fst else v9.snd.fst.snd.snd.snd.fst.fst, bif Nat.beq (0 + 1 + 1 + 1) (Int.toNat v7.fst.fst) then v10.fst.fst.snd else v9.snd.fst.snd.snd.snd.fst.snd), (bif Nat.beq (0 + 1 + 1 + 1 + 1) (Int.toNat v7.fst.fst) then v10.fst.fst.fst else v9.snd.fst.snd.snd.snd.snd.fst.fst, bif Nat.beq (0 + 1 + 1 + 1 + 1) (Int.toNat v7.fst.fst) then v10.fst.fst.snd else v9.snd.fst.snd.snd.snd.snd.fst.snd), (bif Nat.beq (0 + 1 + 1 + 1 + 1 + 1) (Int.toNat v7.fst.fst) then v10.fst.fst.fst else v9.snd.fst.snd.snd.snd.snd.snd.fst.fst, bif Nat.beq (0 + 1 + 1 + 1 + 1 + 1) (Int.toNat v7.fst.fst) then v10.fst.fst.snd else v9.snd.fst.snd.snd.snd.snd.snd.fst.snd), (bif Nat.beq (0 + 1 + 1 + 1 + 1 + 1 + 1) (Int.toNat v7.fst.fst) then v10.fst.fst.fst else v9.snd.fst.snd.snd.snd.snd.snd.snd.fst.fst, bif Nat.beq (0 + 1 + 1 + 1 + 1 + 1 + 1) (Int.toNat v7.fst.fst) then v10.fst.fst.snd else v9.snd.fst.snd.snd.snd.snd.snd.snd.fst.snd), (bif Nat.beq (0 + 1 + 1 + 1 + 1 + 1 + 1 + 1) (Int.toNat v7.fst.fst) then v10.fst.fst.fst else v9.snd.fst.snd.snd.snd.snd.snd.snd.snd.fst.fst, bif Nat.beq (0 + 1 + 1 + 1 + 1 + 1 + 1 + 1) (Int.toNat v7.fst.fst) then v10.fst.fst.snd else v9.snd.fst.snd.snd.snd.snd.snd.snd.snd.fst.snd), (bif Nat.beq (0 + 1 + 1 + 1 + 1 + 1 + 1 + 1 + 1) (Int.toNat v7.fst.fst) then v10.fst.fst.fst else v9.snd.fst.snd.snd.snd.snd.snd.snd.snd.snd.fst.fst, bif Nat.beq (0 + 1 + 1 + 1 + 1 + 1 + 1 + 1 + 1) (Int.toNat v7.fst.fst) then v10.fst.fst.snd else v9.snd.fst.snd.snd.snd.snd.snd.snd.snd.snd.fst.snd), (bif Nat.beq (0 + 1 + 1 + 1 + 1 + 1 + 1 + 1 + 1 + 1) (Int.toNat v7.fst.fst) then v10.fst.fst.fst else v9.snd.fst.snd.snd.snd.snd.snd.snd.snd.snd.snd.fst.fst, bif Nat.beq (0 + 1 + 1 + 1 + 1 + 1 + 1 + 1 + 1 + 1) (Int.toNat v7.fst.fst) then v10.fst.fst.snd else v9.snd.fst.snd.snd.snd.snd.snd.snd.snd.snd.snd.fst.snd), (bif Nat.beq (0 + 1 + 1 + 1 + 1 + 1 + 1 + 1 + 1 + 1 + 1) (Int.toNat v7.fst.fst) then v10.fst.fst.fst else v9.snd.fst.snd.snd.snd.snd.snd.snd.snd.snd.snd.snd.fst.fst, bif Nat.beq (0 + 1 + 1 + 1 + 1 + 1 + 1 + 1 + 1 + 1 + 1) (Int.toNat v7.fst.fst) then v10.fst.fst.snd else v9.snd.fst.snd.snd.snd.snd.snd.snd.snd.snd.snd.snd.fst.snd), (bif Nat.beq (0 + 1 + 1 + 1 + 1 + 1 + 1 + 1 + 1 + 1 + 1 + 1) (Int.toNat v7.fst.fst) then v10.fst.fst.fst else v9.snd.fst.snd.snd.snd.snd.snd.snd.snd.snd.snd.snd.snd.fst.fst, bif Nat.beq (0 + 1 + 1 + 1 + 1 + 1 + 1 + 1 + 1 + 1 + 1 + 1) (Int.toNat v7.fst.fst) then v10.fst.fst.snd else v9.snd.fst.snd.snd.snd.snd.snd.snd.snd.snd.snd.snd.snd.fst.snd), (bif Nat.beq (0 + 1 + 1 + 1 + 1 + 1 + 1 + 1 + 1 + 1 + 1 + 1 + 1) (Int.toNat v7.fst.fst) then v10.fst.fst.fst else v9.snd.fst.snd.snd.snd.snd.snd.snd.snd.snd.snd.snd.snd.snd.fst.fst, bif Nat.beq (0 + 1 + 1 + 1 + 1 + 1 + 1 + 1 + 1 + 1 + 1 + 1 + 1) (Int.toNat v7.fst.fst) then v10.fst.fst.snd else v9.snd.fst.snd.snd.snd.snd.snd.snd.snd.snd.snd.snd.snd.snd.fst.snd), ()), ()))
                      h ((((v11), ((v1.snd.snd.snd.1), ())), ()), (((v10.snd.fst.1), ((v10.snd.fst.snd.1), ((v10.snd.fst.snd.snd.1), ()))), ()))
                    else
                      none
                  else
                    none
                else
                  none
              else
                none
          else
            bif (v5.fst.fst == 2) then
              let v6 := (k66 (((), (↑(List.length v1.snd.snd.snd.fst) : Int), ()), v5.snd))
              bif (v6) then
                let v7 := (g66 (((), (↑(List.length v1.snd.snd.snd.fst) : Int), ()), v5.snd))
                let v8 := (k75 (((), ()), v7.snd))
                bif (v8) then
                  bif (decide (0 ≤ v7.fst.fst) && decide (v7.fst.fst < (↑(List.length v1.snd.snd.snd.fst) : Int))) then
                    let v9 := (g75 (((), ()), v7.snd))
                    let v10 := (List.set v1.snd.snd.snd.fst (Int.toNat v7.fst.fst) v9.fst.fst)
                    h ((((v1.snd.snd.1), ((v10), ())), ()), (((v9.snd.fst.1), ((v9.snd.fst.snd.1), ((v9.snd.fst.snd.snd.1), ()))), ()))
                  else
                    none
                else
                  none
              else
                none
            else
              bif (v5.fst.fst == 3) then
                h ((((v1.snd.snd.1), ((List.replicate 0 (zero (Ty.int IntKind.i64))), ())), ()), (((v5.snd.fst.1), ((v5.snd.fst.snd.1), ((v5.snd.fst.snd.snd.1), ()))), ()))
              else
                bif (v5.fst.fst == 4) then
                  h ((((List.replicate 0 (zero S96)), ((v1.snd.snd.snd.1), ())), ()), (((v5.snd.fst.1), ((v5.snd.fst.snd.1), ((v5.snd.fst.snd.snd.1), ()))), ()))
                else
                  bif (v5.fst.fst == 5) then
                    let v6 := (kl15 (((), (), (), ()), v5.snd.fst, ((), (), ()), ((), (), ()), v1.snd.snd))
                    bif (v6) then
                      let v7 := (xl15 (((), (), (), ()), v5.snd.fst, ((), (), ()), ((), (), ()), v1.snd.snd))
                      h ((((v7.snd.snd.snd.snd.1), ((v7.snd.snd.snd.snd.snd.1), ())), ()), (((v7.snd.fst.1), ((v7.snd.fst.snd.1), ((v7.snd.fst.snd.snd.1), ()))), ()))
                    else
                      none
                  else
                    bif (v5.fst.fst == 6) then
                      let v6 := (IntKind.wrap IntKind.i64 ((↑(List.length v1.snd.snd.snd.fst) : Int) - 1))
                      bif (decide (0 ≤ v6) && decide (v6 < (↑(List.length v1.snd.snd.snd.fst) : Int))) then
                        let v7 := (List.getD v1.snd.snd.snd.fst (Int.toNat v6) (zero (Ty.int IntKind.i64)))
                        let v8 := (IntKind.wrap IntKind.i64 (v7 + 21600))
                        let v9 := (IntKind.wrap IntKind.i64 (v8 - 1))
                        let v10 := (List.set (List.replicate 1 (zero (Ty.int IntKind.i64))) 0 v9)
                        bif (capOk (List.length v1.snd.snd.snd.fst + List.length v10)) then
                          let v11 := (v1.snd.snd.snd.fst ++ v10)
                          h ((((v1.snd.snd.1), ((v11), ())), ()), (((v5.snd.fst.1), ((v5.snd.fst.snd.1), ((v5.snd.fst.snd.snd.1), ()))), ()))
                        else
                          none
                      else
                        none
                    else
                      h ((((v1.snd.snd.1), ((v1.snd.snd.snd.1), ())), ()), (((v5.snd.fst.1), ((v5.snd.fst.snd.1), ((v5.snd.fst.snd.snd.1), ()))), ()))
      else
        none
    else
      none
  else
    none
theorem evN58 (k87 : I87.den → Bool) (g87 : I87.den → O87.den) (k66 : I66.den → Bool) (g66 : I66.den → O66.den) (k89 : I89.den → Bool) (g89 : I89.den → O89.den) (k88 : Den A88 → Bool) (g88 : Den A88 → Den R88) (k90 : I90.den → Bool) (g90 : I90.den → O90.den) (k75 : I75.den → Bool) (g75 : I75.den → O75.den) (kl15 : V58_15 → Bool) (xl15 : V58_15 → X58_15) (p90 : I90.den → Bool) (Q90 : I90.den → O90.den → Prop) (e90 : Nonempty (Ch I90 O90 p90 Q90)) (h : O58.den → Option Unit) (x : I58.den) : callSN (Γ58 k87 g87 k66 g66 k89 g89 k88 g88 k90 g90 k75 g75 kl15 xl15) (N58 p90 Q90 e90) (bodyOf Try.f58) I58 O58 h x = rN58 k87 g87 k66 g66 k89 g89 k88 g88 k90 g90 k75 g75 kl15 xl15 p90 Q90 e90 h x := by kernel_rfl

/- "loop.example/g03321/spec.l07Some" -/
noncomputable def N61 (p91 : I91.den → Bool) (Q91 : I91.den → O91.den → Prop) (e91 : Nonempty (Ch I91 O91 p91 Q91)) (pL61_5 : V61_5 → Bool) (QL61_5 : V61_5 → X61_5 → Prop) (eL61_5 : Nonempty (ChL pL61_5 QL61_5)) : NEnv := mkN [(91, sgFam true I91 O91 p91 Q91 e91)] [(5, loopXN [0, 3, 4] [] 0 [3] [] sh61_5 shX61_5 pL61_5 QL61_5 eL61_5)]
noncomputable def qN61_5 (k66 : I66.den → Bool) (g66 : I66.den → O66.den) (k45 : I45.den → Bool) (g45 : I45.den → O45.den) (k91 : I91.den → Bool) (g91 : I91.den → O91.den) (kl5 : V61_5 → Bool) (xl5 : V61_5 → X61_5) (p91 : I91.den → Bool) (Q91 : I91.den → O91.den → Prop) (e91 : Nonempty (Ch I91 O91 p91 Q91)) (pL61_5 : V61_5 → Bool) (QL61_5 : V61_5 → X61_5 → Prop) (eL61_5 : Nonempty (ChL pL61_5 QL61_5)) (h : X61_5 → Option Unit) (f : V61_5 → Option Unit) (v : V61_5) : Option Unit :=
  bif (decide (v.fst.snd.snd.fst > 0)) then
    allK fun (c91_4 : Ch I91 O91 p91 Q91) =>
      let v0 := (p91 (((), ()), v.snd.fst, ()))
      bif (v0) then
        let v1 := (c91_4.val (((), ()), v.snd.fst, ()))
        let v2 := (List.set (List.replicate 1 (zero S53)) 0 v1.fst.fst)
        bif (capOk (List.length v.snd.snd.fst + List.length v2)) then
          let v3 := (IntKind.wrap IntKind.i64 (v.fst.snd.snd.fst - 1))
          let v4 := (v.snd.snd.fst ++ v2)
          f (((), ((), ((v3), ()))), (((v1.snd.fst.1), ((v1.snd.fst.snd.1), ((v1.snd.fst.snd.snd.1), ()))), ((v4), ())))
        else
          none
      else
        none
  else
    h (((), ()), (((v.snd.fst.1), ((v.snd.fst.snd.1), ((v.snd.fst.snd.snd.1), ()))), ((v.snd.snd.1), ())))
theorem evlN61_5 (k66 : I66.den → Bool) (g66 : I66.den → O66.den) (k45 : I45.den → Bool) (g45 : I45.den → O45.den) (k91 : I91.den → Bool) (g91 : I91.den → O91.den) (kl5 : V61_5 → Bool) (xl5 : V61_5 → X61_5) (p91 : I91.den → Bool) (Q91 : I91.den → O91.den → Prop) (e91 : Nonempty (Ch I91 O91 p91 Q91)) (pL61_5 : V61_5 → Bool) (QL61_5 : V61_5 → X61_5 → Prop) (eL61_5 : Nonempty (ChL pL61_5 QL61_5)) (h : X61_5 → Option Unit) (f : V61_5 → Option Unit) (v : V61_5) : EBn (Γ61 k66 g66 k45 g45 k91 g91 kl5 xl5) (N61 p91 Q91 e91 pL61_5 QL61_5 eL61_5) lc61_5 (roundK [0, 3, 4] [] 0 [3] [] (atS sh61_5 f) (endH shX61_5 h)) (mkS sh61_5 v) = qN61_5 k66 g66 k45 g45 k91 g91 kl5 xl5 p91 Q91 e91 pL61_5 QL61_5 eL61_5 h f v := by kernel_rfl
noncomputable def rN61 (k66 : I66.den → Bool) (g66 : I66.den → O66.den) (k45 : I45.den → Bool) (g45 : I45.den → O45.den) (k91 : I91.den → Bool) (g91 : I91.den → O91.den) (kl5 : V61_5 → Bool) (xl5 : V61_5 → X61_5) (p91 : I91.den → Bool) (Q91 : I91.den → O91.den → Prop) (e91 : Nonempty (Ch I91 O91 p91 Q91)) (pL61_5 : V61_5 → Bool) (QL61_5 : V61_5 → X61_5 → Prop) (eL61_5 : Nonempty (ChL pL61_5 QL61_5)) (h : O61.den → Option Unit) (x : I61.den) : Option Unit :=
  let v0 := (k66 (((), 5, ()), x.snd))
  bif (v0) then
    let v1 := (g66 (((), 5, ()), x.snd))
    let v2 := (k45 (((), 40, ()), v1.snd))
    bif (v2) then
      let v3 := (g45 (((), 40, ()), v1.snd))
      bif (v3.fst.1) then
        let v4 := (k66 (((), 2, ()), v3.snd))
        bif (v4) then
          let v5 := (g66 (((), 2, ()), v3.snd))
          let v6 := (IntKind.wrap IntKind.i64 (50 + v5.fst.fst))
          let v7 := (pL61_5 (((), (), v6, ()), v5.snd.fst, List.replicate 0 (zero S53), ()))
          bif (v7) then
            allK fun (cL61_5_12 : ChL pL61_5 QL61_5) =>
              let v8 := (cL61_5_12.val (((), (), v6, ()), v5.snd.fst, List.replicate 0 (zero S53), ()))
              h (((), ()), (((v8.snd.fst.1), ((v8.snd.fst.snd.1), ((v8.snd.fst.snd.snd.1), ()))), ((v8.snd.snd.1), ())))
          else
            none
        else
          none
      else
        let v4 := (pL61_5 (((), (), v1.fst), v3.snd.fst, List.replicate 0 (zero S53), ()))
        bif (v4) then
          allK fun (cL61_5_10 : ChL pL61_5 QL61_5) =>
            let v5 := (cL61_5_10.val (((), (), v1.fst), v3.snd.fst, List.replicate 0 (zero S53), ()))
            h (((), ()), (((v5.snd.fst.1), ((v5.snd.fst.snd.1), ((v5.snd.fst.snd.snd.1), ()))), ((v5.snd.snd.1), ())))
        else
          none
    else
      none
  else
    none
theorem evN61 (k66 : I66.den → Bool) (g66 : I66.den → O66.den) (k45 : I45.den → Bool) (g45 : I45.den → O45.den) (k91 : I91.den → Bool) (g91 : I91.den → O91.den) (kl5 : V61_5 → Bool) (xl5 : V61_5 → X61_5) (p91 : I91.den → Bool) (Q91 : I91.den → O91.den → Prop) (e91 : Nonempty (Ch I91 O91 p91 Q91)) (pL61_5 : V61_5 → Bool) (QL61_5 : V61_5 → X61_5 → Prop) (eL61_5 : Nonempty (ChL pL61_5 QL61_5)) (h : O61.den → Option Unit) (x : I61.den) : callSN (Γ61 k66 g66 k45 g45 k91 g91 kl5 xl5) (N61 p91 Q91 e91 pL61_5 QL61_5 eL61_5) (bodyOf Try.f61) I61 O61 h x = rN61 k66 g66 k45 g45 k91 g91 kl5 xl5 p91 Q91 e91 pL61_5 QL61_5 eL61_5 h x := by kernel_rfl

/- "loop.example/g03321/spec.DrawRunTide" -/
noncomputable def N20 (p58 : I58.den → Bool) (Q58 : I58.den → O58.den → Prop) (e58 : Nonempty (Ch I58 O58 p58 Q58)) (p61 : I61.den → Bool) (Q61 : I61.den → O61.den → Prop) (e61 : Nonempty (Ch I61 O61 p61 Q61)) : NEnv := mkN [(58, sgFam true I58 O58 p58 Q58 e58), (61, sgFam true I61 O61 p61 Q61 e61)] []
noncomputable def rN20 (k30 : I30.den → Bool) (g30 : I30.den → O30.den) (k58 : I58.den → Bool) (g58 : I58.den → O58.den) (k59 : I59.den → Bool) (g59 : I59.den → O59.den) (k60 : I60.den → Bool) (g60 : I60.den → O60.den) (k61 : I61.den → Bool) (g61 : I61.den → O61.den) (p58 : I58.den → Bool) (Q58 : I58.den → O58.den → Prop) (e58 : Nonempty (Ch I58 O58 p58 Q58)) (p61 : I61.den → Bool) (Q61 : I61.den → O61.den → Prop) (e61 : Nonempty (Ch I61 O61 p61 Q61)) (h : O20.den → Option Unit) (x : I20.den) : Option Unit :=
  let v0 := (k30 x)
  bif (v0) then
    allK fun (c58_4 : Ch I58 O58 p58 Q58) =>
      let v1 := (g30 x)
      let v2 := (p58 (((), ()), v1.snd))
      bif (v2) then
        let v3 := (c58_4.val (((), ()), v1.snd))
        let v4 := (k59 (((), v3.fst), v3.snd))
        bif (v4) then
          let v5 := (g59 (((), v3.fst), v3.snd))
          let v6 := (k60 (((), v3.fst), v5.snd))
          bif (v6) then
            allK fun (c61_12 : Ch I61 O61 p61 Q61) =>
              let v7 := (g60 (((), v3.fst), v5.snd))
              let v8 := (p61 (((), ()), v7.snd))
              bif (v8) then
                let v9 := (c61_12.val (((), ()), v7.snd))
                h ((((v5.fst.fst.1), (v5.fst.fst.2)), ((v7.fst.1), ((), (((v3.fst.fst.1), ((v3.fst.fst.snd.1), ())), ())))), ((v9.snd.snd.1), ()))
              else
                none
          else
            none
        else
          none
      else
        none
  else
    none
theorem evN20 (k30 : I30.den → Bool) (g30 : I30.den → O30.den) (k58 : I58.den → Bool) (g58 : I58.den → O58.den) (k59 : I59.den → Bool) (g59 : I59.den → O59.den) (k60 : I60.den → Bool) (g60 : I60.den → O60.den) (k61 : I61.den → Bool) (g61 : I61.den → O61.den) (p58 : I58.den → Bool) (Q58 : I58.den → O58.den → Prop) (e58 : Nonempty (Ch I58 O58 p58 Q58)) (p61 : I61.den → Bool) (Q61 : I61.den → O61.den → Prop) (e61 : Nonempty (Ch I61 O61 p61 Q61)) (h : O20.den → Option Unit) (x : I20.den) : callSN (Γ20 k30 g30 k58 g58 k59 g59 k60 g60 k61 g61) (N20 p58 Q58 e58 p61 Q61 e61) (bodyOf Try.f20) I20 O20 h x = rN20 k30 g30 k58 g58 k59 g59 k60 g60 k61 g61 p58 Q58 e58 p61 Q61 e61 h x := by kernel_rfl

/- "loop.example/g03321/spec.DrawSlackFrom" -/
noncomputable def N25 (p58 : I58.den → Bool) (Q58 : I58.den → O58.den → Prop) (e58 : Nonempty (Ch I58 O58 p58 Q58)) : NEnv := mkN [(58, sgFam true I58 O58 p58 Q58 e58)] []
noncomputable def rN25 (k30 : I30.den → Bool) (g30 : I30.den → O30.den) (k58 : I58.den → Bool) (g58 : I58.den → O58.den) (k59 : I59.den → Bool) (g59 : I59.den → O59.den) (k60 : I60.den → Bool) (g60 : I60.den → O60.den) (k45 : I45.den → Bool) (g45 : I45.den → O45.den) (k66 : I66.den → Bool) (g66 : I66.den → O66.den) (p58 : I58.den → Bool) (Q58 : I58.den → O58.den → Prop) (e58 : Nonempty (Ch I58 O58 p58 Q58)) (h : Den R25 → Option Unit) (x : Den A25) : Option Unit :=
  let v0 := (k30 (x, ()))
  bif (v0) then
    allK fun (c58_4 : Ch I58 O58 p58 Q58) =>
      let v1 := (g30 (x, ()))
      let v2 := (p58 (((), ()), v1.snd))
      bif (v2) then
        let v3 := (c58_4.val (((), ()), v1.snd))
        let v4 := (k59 (((), v3.fst), v3.snd))
        bif (v4) then
          let v5 := (g59 (((), v3.fst), v3.snd))
          let v6 := (k60 (((), v3.fst), v5.snd))
          bif (v6) then
            let v7 := (g60 (((), v3.fst), v5.snd))
            let v8 := (k45 (((), 10, ()), v7.snd))
            bif (v8) then
              let v9 := (g45 (((), 10, ()), v7.snd))
              bif (v9.fst.1) then
                let v10 := (k66 (((), 800, ()), v9.snd))
                bif (v10) then
                  let v11 := (g66 (((), 800, ()), v9.snd))
                  let v12 := (k66 (((), 20, ()), v11.snd))
                  bif (v12) then
                    let v13 := (IntKind.wrap IntKind.i64 (-60 * v11.fst.fst))
                    let v14 := (g66 (((), 20, ()), v11.snd))
                    let v15 := (IntKind.wrap IntKind.i64 (v14.fst.fst - 1))
                    let v16 := (farith BinOp.quo FloatKind.f32 (FloatKind.nearest FloatKind.f32 v15) 1098907648)
                    h (((v3.fst.fst.1), ((v3.fst.fst.snd.1), ())), (((v5.fst.fst.1), (v5.fst.fst.2)), ((v13), ((v16), ()))))
                  else
                    none
                else
                  none
              else
                let v10 := (k66 (((), 20, ()), v9.snd))
                bif (v10) then
                  let v11 := (g66 (((), 20, ()), v9.snd))
                  let v12 := (IntKind.wrap IntKind.i64 (v11.fst.fst - 1))
                  let v13 := (farith BinOp.quo FloatKind.f32 (FloatKind.nearest FloatKind.f32 v12) 1098907648)
                  h (((v3.fst.fst.1), ((v3.fst.fst.snd.1), ())), (((v5.fst.fst.1), (v5.fst.fst.2)), ((v7.fst.1), ((v13), ()))))
                else
                  none
            else
              none
          else
            none
        else
          none
      else
        none
  else
    none
theorem evN25 (k30 : I30.den → Bool) (g30 : I30.den → O30.den) (k58 : I58.den → Bool) (g58 : I58.den → O58.den) (k59 : I59.den → Bool) (g59 : I59.den → O59.den) (k60 : I60.den → Bool) (g60 : I60.den → O60.den) (k45 : I45.den → Bool) (g45 : I45.den → O45.den) (k66 : I66.den → Bool) (g66 : I66.den → O66.den) (p58 : I58.den → Bool) (Q58 : I58.den → O58.den → Prop) (e58 : Nonempty (Ch I58 O58 p58 Q58)) (h : Den R25 → Option Unit) (x : Den A25) : callN (Γ25 k30 g30 k58 g58 k59 g59 k60 g60 k45 g45 k66 g66) (N25 p58 Q58 e58) (bodyOf Try.f25) (decRH R25 h) (encA A25 x) [] = rN25 k30 g30 k58 g58 k59 g59 k60 g60 k45 g45 k66 g66 p58 Q58 e58 h x := by kernel_rfl

/- "loop.example/g03321/laws.FnTideStill" -/
noncomputable def N5 (p20 : I20.den → Bool) (Q20 : I20.den → O20.den → Prop) (e20 : Nonempty (Ch I20 O20 p20 Q20)) : NEnv := mkN [(20, sgFam false I20 O20 p20 Q20 e20)] []
noncomputable def rN5 (k7 : Den A7 → Bool) (g7 : Den A7 → Den R7) (k20 : I20.den → Bool) (g20 : I20.den → O20.den) (k21 : Den A21 → Bool) (g21 : Den A21 → Den R21) (k22 : Den A22 → Bool) (g22 : Den A22 → Den R22) (k23 : Den A23 → Bool) (g23 : Den A23 → Den R23) (k24 : Den A24 → Bool) (g24 : Den A24 → Den R24) (kl5 : V5_5 → Bool) (xl5 : V5_5 → X5_5) (kl11 : V5_11 → Bool) (xl11 : V5_11 → X5_11) (p20 : I20.den → Bool) (Q20 : I20.den → O20.den → Prop) (e20 : Nonempty (Ch I20 O20 p20 Q20)) (h : Den R5 → Option Unit) (x : Den A5) : Option Unit :=
  let v0 := (k7 x)
  bif (v0) then
    let v1 := (g7 x)
    bif (v1.1) then
      h ((true), ())
    else
      allK fun (c20_6 : Ch I20 O20 p20 Q20) =>
        let v2 := (p20 (x, ()))
        bif (v2) then
          let v3 := (c20_6.val (x, ()))
          let v4 := (kl5 ((v3.fst.fst, v3.fst.snd.fst, (), (), 0, ()), v3.snd.fst, v3.fst.snd.snd.snd))
          bif (v4) then
            let v5 := (xl5 ((v3.fst.fst, v3.fst.snd.fst, (), (), 0, ()), v3.snd.fst, v3.fst.snd.snd.snd))
            let v6 := (k21 (v5.fst.fst, v5.fst.snd.fst, v5.snd))
            bif (v6) then
              bif (decide ((↑(List.length v5.snd.fst) : Int) ≤ 50)) then
                let v7 := (k22 (v5.fst.fst, ()))
                bif (v7) then
                  let v8 := (g21 (v5.fst.fst, v5.fst.snd.fst, v5.snd))
                  let v9 := (g22 (v5.fst.fst, ()))
                  let v10 := (kl11 ((v5.fst.fst, (), v8.fst, v8.snd.fst, v9.fst, 0, ()), v5.snd.fst, ()))
                  bif (v10) then
                    let v11 := (xl11 ((v5.fst.fst, (), v8.fst, v8.snd.fst, v9.fst, 0, ()), v5.snd.fst, ()))
                    bif (v11.fst.snd.snd.fst == v11.fst.snd.snd.snd.fst) then
                      bif (!v11.fst.snd.snd.fst) then
                        bif (feq FloatKind.f64 v11.fst.snd.fst.fst 0 && feq FloatKind.f64 v11.fst.snd.fst.snd 0) then
                          h ((true), ())
                        else
                          bif (v11.fst.snd.snd.1) then
                            let v12 := (k24 (v11.fst.snd.fst, v11.fst.fst, ()))
                            bif (v12) then
                              let v13 := (g24 (v11.fst.snd.fst, v11.fst.fst, ()))
                              h ((v13.1), ())
                            else
                              none
                          else
                            h ((false), ())
                      else
                        bif (v11.fst.snd.snd.1) then
                          let v12 := (k24 (v11.fst.snd.fst, v11.fst.fst, ()))
                          bif (v12) then
                            let v13 := (g24 (v11.fst.snd.fst, v11.fst.fst, ()))
                            h ((v13.1), ())
                          else
                            none
                        else
                          h ((false), ())
                    else
                      h ((false), ())
                  else
                    none
                else
                  none
              else
                let v7 := (g21 (v5.fst.fst, v5.fst.snd.fst, v5.snd))
                let v8 := (kl11 ((v5.fst.fst, (), v7.fst, v7.snd.fst, false, 0, ()), v5.snd.fst, ()))
                bif (v8) then
                  let v9 := (xl11 ((v5.fst.fst, (), v7.fst, v7.snd.fst, false, 0, ()), v5.snd.fst, ()))
                  bif (v9.fst.snd.snd.fst == v9.fst.snd.snd.snd.fst) then
                    bif (!v9.fst.snd.snd.fst) then
                      bif (feq FloatKind.f64 v9.fst.snd.fst.fst 0 && feq FloatKind.f64 v9.fst.snd.fst.snd 0) then
                        h ((true), ())
                      else
                        bif (v9.fst.snd.snd.1) then
                          let v10 := (k24 (v9.fst.snd.fst, v9.fst.fst, ()))
                          bif (v10) then
                            let v11 := (g24 (v9.fst.snd.fst, v9.fst.fst, ()))
                            h ((v11.1), ())
                          else
                            none
                        else
                          h ((false), ())
                    else
                      bif (v9.fst.snd.snd.1) then
                        let v10 := (k24 (v9.fst.snd.fst, v9.fst.fst, ()))
                        bif (v10) then
                          let v11 := (g24 (v9.fst.snd.fst, v9.fst.fst, ()))
                          h ((v11.1), ())
                        else
                          none
                      else
                        h ((false), ())
                  else
                    h ((false), ())
                else
                  none
            else
              none
          else
            none
        else
          none
  else
    none
theorem evN5 (k7 : Den A7 → Bool) (g7 : Den A7 → Den R7) (k20 : I20.den → Bool) (g20 : I20.den → O20.den) (k21 : Den A21 → Bool) (g21 : Den A21 → Den R21) (k22 : Den A22 → Bool) (g22 : Den A22 → Den R22) (k23 : Den A23 → Bool) (g23 : Den A23 → Den R23) (k24 : Den A24 → Bool) (g24 : Den A24 → Den R24) (kl5 : V5_5 → Bool) (xl5 : V5_5 → X5_5) (kl11 : V5_11 → Bool) (xl11 : V5_11 → X5_11) (p20 : I20.den → Bool) (Q20 : I20.den → O20.den → Prop) (e20 : Nonempty (Ch I20 O20 p20 Q20)) (h : Den R5 → Option Unit) (x : Den A5) : callN (Γ5 k7 g7 k20 g20 k21 g21 k22 g22 k23 g23 k24 g24 kl5 xl5 kl11 xl11) (N5 p20 Q20 e20) (bodyOf Try.f5) (decRH R5 h) (encA A5 x) [] = rN5 k7 g7 k20 g20 k21 g21 k22 g22 k23 g23 k24 g24 kl5 xl5 kl11 xl11 p20 Q20 e20 h x := by kernel_rfl

/- "loop.example/g03321/laws.FnSlackFirst" -/
noncomputable def N6 (pT25 : Den A25 → Bool) (QT25 : Den A25 → Den R25 → Prop) (eT25 : Nonempty (ChT A25 R25 pT25 QT25)) : NEnv := mkN [(25, fnFam A25 R25 pT25 QT25 eT25)] []
noncomputable def rN6 (k7 : Den A7 → Bool) (g7 : Den A7 → Den R7) (k25 : Den A25 → Bool) (g25 : Den A25 → Den R25) (k26 : Den A26 → Bool) (g26 : Den A26 → Den R26) (k27 : Den A27 → Bool) (g27 : Den A27 → Den R27) (k28 : Den A28 → Bool) (g28 : Den A28 → Den R28) (k29 : Den A29 → Bool) (g29 : Den A29 → Den R29) (pT25 : Den A25 → Bool) (QT25 : Den A25 → Den R25 → Prop) (eT25 : Nonempty (ChT A25 R25 pT25 QT25)) (h : Den R6 → Option Unit) (x : Den A6) : Option Unit :=
  let v0 := (k7 x)
  bif (v0) then
    let v1 := (g7 x)
    bif (v1.1) then
      h ((true), ())
    else
      allK fun (cT25_6 : ChT A25 R25 pT25 QT25) =>
        let v2 := (pT25 x)
        bif (v2) then
          let v3 := (cT25_6.val x)
          let v4 := (k26 v3)
          bif (v4) then
            let v5 := (k27 v3)
            bif (v5) then
              let v6 := (g26 v3)
              let v7 := (g27 v3)
              bif (!v6.snd.fst == v7.snd.fst) then
                h ((false), ())
              else
                bif (!v6.snd.fst) then
                  h ((v6.fst == 0), ())
                else
                  let v8 := (k28 (v3.fst, v3.snd.fst, v6.fst, ()))
                  bif (v8) then
                    let v9 := (g28 (v3.fst, v3.snd.fst, v6.fst, ()))
                    bif (!v9.snd.fst) then
                      h ((false), ())
                    else
                      let v10 := (k29 ((convF FloatKind.f32 FloatKind.f64 v9.fst.fst).snd, ()))
                      bif (v10) then
                        let v11 := (g29 ((convF FloatKind.f32 FloatKind.f64 v9.fst.fst).snd, ()))
                        bif (fgt FloatKind.f64 v11.fst (convF FloatKind.f32 FloatKind.f64 v3.snd.snd.snd.fst).snd) then
                          h ((false), ())
                        else
                          let v12 := (k29 ((convF FloatKind.f32 FloatKind.f64 v9.fst.snd).snd, ()))
                          bif (v12) then
                            let v13 := (g29 ((convF FloatKind.f32 FloatKind.f64 v9.fst.snd).snd, ()))
                            bif (fgt FloatKind.f64 v13.fst (convF FloatKind.f32 FloatKind.f64 v3.snd.snd.snd.fst).snd) then
                              h ((false), ())
                            else
                              let v14 := (IntKind.wrap IntKind.i64 (v6.fst - v3.snd.snd.fst))
                              bif (Int.tmod v14 60 != 0) then
                                h ((false), ())
                              else
                                bif (v6.fst == v3.snd.snd.fst) then
                                  h ((true), ())
                                else
                                  let v15 := (IntKind.wrap IntKind.i64 (v6.fst - 60))
                                  let v16 := (k28 (v3.fst, v3.snd.fst, v15, ()))
                                  bif (v16) then
                                    bif (decide (v6.fst > v3.snd.snd.fst)) then
                                      let v17 := (g28 (v3.fst, v3.snd.fst, v15, ()))
                                      bif (!v17.snd.fst) then
                                        h ((true), ())
                                      else
                                        let v18 := (k29 ((convF FloatKind.f32 FloatKind.f64 v17.fst.fst).snd, ()))
                                        bif (v18) then
                                          let v19 := (g29 ((convF FloatKind.f32 FloatKind.f64 v17.fst.fst).snd, ()))
                                          bif (fgt FloatKind.f64 v19.fst (convF FloatKind.f32 FloatKind.f64 v3.snd.snd.snd.fst).snd) then
                                            h ((true), ())
                                          else
                                            let v20 := (k29 ((convF FloatKind.f32 FloatKind.f64 v17.fst.snd).snd, ()))
                                            bif (v20) then
                                              let v21 := (g29 ((convF FloatKind.f32 FloatKind.f64 v17.fst.snd).snd, ()))
                                              h ((fgt FloatKind.f64 v21.fst (convF FloatKind.f32 FloatKind.f64 v3.snd.snd.snd.fst).snd), ())
                                            else
                                              none
                                        else
                                          none
                                    else
                                      h ((false), ())
                                  else
                                    none
                          else
                            none
                      else
                        none
                  else
                    none
            else
              none
          else
            none
        else
          none
  else
    none
theorem evN6 (k7 : Den A7 → Bool) (g7 : Den A7 → Den R7) (k25 : Den A25 → Bool) (g25 : Den A25 → Den R25) (k26 : Den A26 → Bool) (g26 : Den A26 → Den R26) (k27 : Den A27 → Bool) (g27 : Den A27 → Den R27) (k28 : Den A28 → Bool) (g28 : Den A28 → Den R28) (k29 : Den A29 → Bool) (g29 : Den A29 → Den R29) (pT25 : Den A25 → Bool) (QT25 : Den A25 → Den R25 → Prop) (eT25 : Nonempty (ChT A25 R25 pT25 QT25)) (h : Den R6 → Option Unit) (x : Den A6) : callN (Γ6 k7 g7 k25 g25 k26 g26 k27 g27 k28 g28 k29 g29) (N6 pT25 QT25 eT25) (bodyOf Try.f6) (decRH R6 h) (encA A6 x) [] = rN6 k7 g7 k25 g25 k26 g26 k27 g27 k28 g28 k29 g29 pT25 QT25 eT25 h x := by kernel_rfl

end Go.Proofs.Ytmmdjajebmihhaa.AM

/- Plainly: the draws of tides, places and times. Conditions: those that each lemma names. -/
namespace Go.Proofs.Ytmmdjajebmihhaa.AM
open Go Go.Proofs
set_option linter.unusedVariables false

theorem vector_ok (x : I44.den) (h : CurOk x.2.1) : Pst (F44 x) fun y => CurOk y.2.1 := by
  unfold F44 r44
  dsimp only
  refine pst_t (K80_ok _ (by (repeat ((try dsimp only); first | assumption | (with_reducible first | apply G75_cur | apply G80_cur | apply G106_cur | apply G66_cur | apply G45_cur))))) ?_
  refine pst_t (K80_ok _ (by (repeat ((try dsimp only); first | assumption | (with_reducible first | apply G75_cur | apply G80_cur | apply G106_cur | apply G66_cur | apply G45_cur))))) ?_
  exact pst_some (by (repeat ((try dsimp only); first | assumption | (with_reducible first | apply G75_cur | apply G80_cur | apply G106_cur | apply G66_cur | apply G45_cur))))
theorem K44_ok (x : I44.den) (h : CurOk x.2.1) : K44 x = true := pst_k (vector_ok x h)
theorem G44_cur (x : I44.den) (h : CurOk x.2.1) : CurOk (G44 x).2.1 := pst_g _ (vector_ok x h)

theorem vecOk_ok (x : Den A88) (h : x.1.length ≤ 1048576) : Pst (F88 x) fun _ => True := by
  have c0 := G30_cur (x, ()) h
  unfold F88 r88
  dsimp only
  refine pst_t (K30_ok (x, ()) h) ?_
  generalize G30 (x, ()) = A at *
  refine pst_t (K44_ok _ (by (repeat ((try dsimp only); first | assumption | (with_reducible first | apply G44_cur | apply G75_cur | apply G80_cur | apply G106_cur | apply G66_cur | apply G45_cur))))) ?_
  refine pst_t (K66_ok _ (by (repeat ((try dsimp only); first | assumption | (with_reducible first | apply G44_cur | apply G75_cur | apply G80_cur | apply G106_cur | apply G66_cur | apply G45_cur))))) ?_
  refine pst_b (fun _ => pst_some trivial) (fun _ => ?_)
  refine pst_b (fun _ => pst_some trivial) (fun _ => ?_)
  refine pst_b (fun _ => ?_) (fun _ => pst_some trivial)
  refine pst_t (K106_ok _ (by (repeat ((try dsimp only); first | assumption | (with_reducible first | apply G44_cur | apply G75_cur | apply G80_cur | apply G106_cur | apply G66_cur | apply G45_cur))))) ?_
  refine pst_t (K106_ok _ (by (repeat ((try dsimp only); first | assumption | (with_reducible first | apply G44_cur | apply G75_cur | apply G80_cur | apply G106_cur | apply G66_cur | apply G45_cur))))) ?_
  exact pst_some trivial
theorem K88_ok (x : Den A88) (h : x.1.length ≤ 1048576) : K88 x = true := pst_k (vecOk_ok x h)

/-! ## A tide -/

theorem flow_loop (v : V87_8) (h : CurOk v.2.1) (h0 : 0 ≤ v.1.2.2.2.2.2.1) : Pst (l87_8 v) fun y => CurOk y.2.1 ∧ y.1.2.2.2.1 = v.1.2.2.2.1 ∧ y.2.2.2.2.1 = v.2.2.2.2.1 := by
  refine iter_ind (q := q87_8 K66 G66 K45 G45) (fun u => CurOk u.2.1 ∧ u.1.2.2.2.1 = v.1.2.2.2.1 ∧ u.2.2.2.2.1 = v.2.2.2.2.1 ∧ 0 ≤ u.1.2.2.2.2.2.1)
    (fun _ r => Pst r fun y => CurOk y.2.1 ∧ y.1.2.2.2.1 = v.1.2.2.2.1 ∧ y.2.2.2.2.1 = v.2.2.2.2.1) (fun u => (13 - u.1.2.2.2.2.2.1).toNat) ?_ _ _ ⟨h, rfl, rfl, h0⟩ ?_
  · rintro ⟨⟨_, _, _, n, _, i, _⟩, ⟨c0, c1, c2, _⟩, _, _, l, st, _⟩ f ⟨g0, g1, g2, g3⟩ ih
    dsimp only at g0 g1 g2 g3 ih
    unfold q87_8
    dsimp only
    by_cases hk : i < 13
    · refine pst_t (by simpa using hk) ?_
      refine pst_t (K66_ok _ (by (repeat ((try dsimp only); first | assumption | (with_reducible first | apply G44_cur | apply G75_cur | apply G80_cur | apply G106_cur | apply G66_cur | apply G45_cur))))) ?_
      refine pst_t (K66_ok _ (by (repeat ((try dsimp only); first | assumption | (with_reducible first | apply G44_cur | apply G75_cur | apply G80_cur | apply G106_cur | apply G66_cur | apply G45_cur))))) ?_
      refine pst_t (by simp; omega) ?_
      have e : IntKind.i64.wrap (i + 1) = i + 1 := w64 (by omega) (by omega)
      refine ih _ ⟨by (repeat ((try dsimp only); first | assumption | (with_reducible first | apply G44_cur | apply G75_cur | apply G80_cur | apply G106_cur | apply G66_cur | apply G45_cur))), g1, g2, ?_⟩ ?_
      · show 0 ≤ IntKind.i64.wrap (i + 1); omega
      · show (13 - IntKind.i64.wrap (i + 1)).toNat < (13 - i).toNat; omega
    · have hd : decide (i < 13) = false := by simpa using hk
      rw [hd]
      exact pst_some ⟨g0, g1, g2⟩
  · exact Nat.lt_of_lt_of_le (m := 1000) (by omega) (Nat.le_add_left _ _)

theorem stations_loop (v : V87_3) (h : CurOk v.2.1) (h0 : 0 ≤ v.1.2.2.2.1) (h1 : (v.2.2.2.2.1.length : Int) + v.1.2.2.2.1 ≤ 3) (h2 : 1 ≤ (v.2.2.2.2.1.length : Int) + v.1.2.2.2.1) : Pst (l87_3 v) fun y => CurOk y.2.1 ∧ 1 ≤ y.2.2.2.2.1.length ∧ y.2.2.2.2.1.length ≤ 3 := by
  refine iter_ind (q := q87_3 K66 G66 K45 G45 kL87_8 xL87_8) (fun u => CurOk u.2.1 ∧ 0 ≤ u.1.2.2.2.1 ∧ (u.2.2.2.2.1.length : Int) + u.1.2.2.2.1 ≤ 3 ∧ 1 ≤ (u.2.2.2.2.1.length : Int) + u.1.2.2.2.1)
    (fun _ r => Pst r fun y => CurOk y.2.1 ∧ 1 ≤ y.2.2.2.2.1.length ∧ y.2.2.2.2.1.length ≤ 3) (fun u => u.1.2.2.2.1.toNat) ?_ _ _ ⟨h, h0, h1, h2⟩ ?_
  · rintro ⟨⟨_, _, _, n, _⟩, ⟨c0, c1, c2, _⟩, _, _, l, _⟩ f ⟨g0, g1, g2, g3⟩ ih
    dsimp only at g0 g1 g2 g3 ih
    unfold q87_3
    dsimp only
    by_cases hk : n > 0
    · refine pst_t (by simpa using hk) ?_
      refine pst_t (K66_ok _ (by (repeat ((try dsimp only); first | assumption | (with_reducible first | apply G44_cur | apply G75_cur | apply G80_cur | apply G106_cur | apply G66_cur | apply G45_cur))))) ?_
      refine pst_t (K66_ok _ (by (repeat ((try dsimp only); first | assumption | (with_reducible first | apply G44_cur | apply G75_cur | apply G80_cur | apply G106_cur | apply G66_cur | apply G45_cur))))) ?_
      have c5 : CurOk (G66 (((), 8001, ()), (G66 (((), 8001, ()), (c0, c1, c2, ()), ())).snd)).snd.fst := by (repeat ((try dsimp only); first | assumption | (with_reducible first | apply G44_cur | apply G75_cur | apply G80_cur | apply G106_cur | apply G66_cur | apply G45_cur)))
      generalize hA : G66 (((), 8001, ()), (c0, c1, c2, ()), ()) = A at *
      generalize hB : G66 (((), 8001, ()), A.snd) = B at *
      generalize (FloatKind.nearest FloatKind.f64 (IntKind.wrap IntKind.i64 (A.fst.fst - 4000)), FloatKind.nearest FloatKind.f64 (IntKind.wrap IntKind.i64 (B.fst.fst - 4000))) = at0
      have hl := flow_loop (((), (), (), n, (), 0, ()), B.snd.fst, ((), (), ()), ((), (), ()), l, (at0, (0, 0), (0, 0), (0, 0), (0, 0), (0, 0), (0, 0), (0, 0), (0, 0), (0, 0), (0, 0), (0, 0), (0, 0), (0, 0), ()), ()) c5 (Int.le_refl 0)
      obtain ⟨y, hy, q1, q2, q3⟩ := hl
      have e1 : kL87_8 (((), (), (), n, (), 0, ()), B.snd.fst, ((), (), ()), ((), (), ()), l, (at0, (0, 0), (0, 0), (0, 0), (0, 0), (0, 0), (0, 0), (0, 0), (0, 0), (0, 0), (0, 0), (0, 0), (0, 0), (0, 0), ()), ()) = true := by unfold kL87_8; rw [hy]; rfl
      have e2 : xL87_8 (((), (), (), n, (), 0, ()), B.snd.fst, ((), (), ()), ((), (), ()), l, (at0, (0, 0), (0, 0), (0, 0), (0, 0), (0, 0), (0, 0), (0, 0), (0, 0), (0, 0), (0, 0), (0, 0), (0, 0), (0, 0), ()), ()) = y := by unfold xL87_8; rw [hy]; rfl
      refine pst_t e1 ?_
      rw [e2]
      obtain ⟨⟨_, _, _, n', _, _⟩, c, _, _, l', st, _⟩ := y
      dsimp only at q1 q2 q3
      subst q2 q3
      dsimp only
      have e : IntKind.i64.wrap (n' - 1) = n' - 1 := w64 (by omega) (by omega)
      refine pst_t (K45_ok _ (by (repeat ((try dsimp only); first | assumption | (with_reducible first | apply G44_cur | apply G75_cur | apply G80_cur | apply G106_cur | apply G66_cur | apply G45_cur))))) ?_
      refine pst_b (fun _ => ?_) (fun _ => ?_)
      all_goals
        refine pst_t (capOk_of (by simp only [List.length_set, List.length_replicate]; omega)) ?_
        refine ih _ ⟨by (repeat ((try dsimp only); first | assumption | (with_reducible first | apply G44_cur | apply G75_cur | apply G80_cur | apply G106_cur | apply G66_cur | apply G45_cur))), ?_, ?_, ?_⟩ ?_
        · show 0 ≤ IntKind.i64.wrap (n' - 1); omega
        · simp only [e, List.length_append, List.length_set, List.length_replicate]; omega
        · simp only [e, List.length_append, List.length_set, List.length_replicate]; omega
        · show (IntKind.i64.wrap (n' - 1)).toNat < n'.toNat; omega
    · have hd : decide (n > 0) = false := by simpa using hk
      rw [hd]
      exact pst_some ⟨g0, by show 1 ≤ l.length; omega, by show l.length ≤ 3; omega⟩
  · unfold b87_3
    have := h0
    omega

theorem highs_loop (v : V87_17) (h : CurOk v.2.1) (h0 : 0 ≤ v.1.2.2.2.2.1) (h1 : (v.2.2.2.2.2.1.length : Int) + v.1.2.2.2.2.1 ≤ 5) (h2 : 1 ≤ (v.2.2.2.2.2.1.length : Int) + v.1.2.2.2.2.1) : Pst (l87_17 v) fun y => CurOk y.2.1 ∧ y.2.2.2.2.1 = v.2.2.2.2.1 ∧ 1 ≤ y.2.2.2.2.2.1.length ∧ y.2.2.2.2.2.1.length ≤ 5 := by
  refine iter_ind (q := q87_17 K66 G66 K45 G45) (fun u => CurOk u.2.1 ∧ u.2.2.2.2.1 = v.2.2.2.2.1 ∧ 0 ≤ u.1.2.2.2.2.1 ∧ (u.2.2.2.2.2.1.length : Int) + u.1.2.2.2.2.1 ≤ 5 ∧ 1 ≤ (u.2.2.2.2.2.1.length : Int) + u.1.2.2.2.2.1)
    (fun _ r => Pst r fun y => CurOk y.2.1 ∧ y.2.2.2.2.1 = v.2.2.2.2.1 ∧ 1 ≤ y.2.2.2.2.2.1.length ∧ y.2.2.2.2.2.1.length ≤ 5) (fun u => u.1.2.2.2.2.1.toNat) ?_ _ _ ⟨h, rfl, h0, h1, h2⟩ ?_
  · rintro ⟨⟨_, _, _, t, n, _⟩, ⟨c0, c1, c2, _⟩, _, _, l, hs, _⟩ f ⟨g0, g1, g2, g3, g4⟩ ih
    dsimp only at g0 g1 g2 g3 g4 ih
    unfold q87_17
    dsimp only
    by_cases hk : n > 0
    · refine pst_t (by simpa using hk) ?_
      refine pst_t (capOk_of (by simp only [List.length_set, List.length_replicate]; omega)) ?_
      refine pst_t (K66_ok _ (by (repeat ((try dsimp only); first | assumption | (with_reducible first | apply G44_cur | apply G75_cur | apply G80_cur | apply G106_cur | apply G66_cur | apply G45_cur))))) ?_
      refine pst_t (K66_ok _ (by (repeat ((try dsimp only); first | assumption | (with_reducible first | apply G44_cur | apply G75_cur | apply G80_cur | apply G106_cur | apply G66_cur | apply G45_cur))))) ?_
      have e : IntKind.i64.wrap (n - 1) = n - 1 := w64 (by omega) (by omega)
      refine ih _ ⟨by (repeat ((try dsimp only); first | assumption | (with_reducible first | apply G44_cur | apply G75_cur | apply G80_cur | apply G106_cur | apply G66_cur | apply G45_cur))), g1, ?_, ?_, ?_⟩ ?_
      · show 0 ≤ IntKind.i64.wrap (n - 1); omega
      · simp only [e, List.length_append, List.length_set, List.length_replicate]; omega
      · simp only [e, List.length_append, List.length_set, List.length_replicate]; omega
      · show (IntKind.i64.wrap (n - 1)).toNat < n.toNat; omega
    · have hd : decide (n > 0) = false := by simpa using hk
      rw [hd]
      exact pst_some ⟨g0, g1, by show 1 ≤ hs.length; omega, by show hs.length ≤ 5; omega⟩
  · unfold b87_17
    have := h0
    omega

theorem one_plus (d n : Int) (hd : 0 ≤ d ∧ d < n) (hn : n ≤ 100) : 1 ≤ IntKind.i64.wrap (1 + d) ∧ IntKind.i64.wrap (1 + d) ≤ n := by
  rw [w64 (by omega) (by omega)]
  omega

theorem tide_ok (x : I87.den) (h : CurOk x.2.1) : Pst (F87 x) fun y => CurOk y.2.1 ∧ (1 ≤ y.2.2.1.length ∧ y.2.2.1.length ≤ 3) ∧ 1 ≤ y.2.2.2.1.length ∧ y.2.2.2.1.length ≤ 5 := by
  unfold F87 r87
  dsimp only
  refine pst_t (K66_ok _ (by (repeat ((try dsimp only); first | assumption | (with_reducible first | apply G44_cur | apply G75_cur | apply G80_cur | apply G106_cur | apply G66_cur | apply G45_cur))))) ?_
  have b1 := one_plus _ 3 (below_bd 3 x.2.1 h (by decide)) (by decide)
  have c1 : CurOk (G66 (((), 3, ()), x.snd)).snd.fst := by (repeat ((try dsimp only); first | assumption | (with_reducible first | apply G44_cur | apply G75_cur | apply G80_cur | apply G106_cur | apply G66_cur | apply G45_cur)))
  have b1 : 1 ≤ IntKind.i64.wrap (1 + (G66 (((), 3, ()), x.snd)).fst.fst) ∧ IntKind.i64.wrap (1 + (G66 (((), 3, ()), x.snd)).fst.fst) ≤ 3 := b1
  generalize G66 (((), 3, ()), x.snd) = A at *
  generalize IntKind.i64.wrap (1 + A.fst.fst) = n at *
  obtain ⟨y, hy, q1, q2, q3⟩ := stations_loop (((), (), (), n, ()), A.snd.fst, ((), (), ()), ((), (), ()), [], ()) c1 (by show 0 ≤ n; omega) (by show (0 : Int) + n ≤ 3; omega) (by show 1 ≤ (0 : Int) + n; omega)
  have e1 : kL87_3 (((), (), (), n, ()), A.snd.fst, ((), (), ()), ((), (), ()), [], ()) = true := by unfold kL87_3; rw [hy]; rfl
  have e2 : xL87_3 (((), (), (), n, ()), A.snd.fst, ((), (), ()), ((), (), ()), [], ()) = y := by unfold xL87_3; rw [hy]; rfl
  refine pst_t e1 ?_
  rw [e2]
  obtain ⟨_, c, _, _, l, _⟩ := y
  dsimp only at q1 q2 q3 ⊢
  refine pst_t (K66_ok _ (by (repeat ((try dsimp only); first | assumption | (with_reducible first | apply G44_cur | apply G75_cur | apply G80_cur | apply G106_cur | apply G66_cur | apply G45_cur))))) ?_
  have c2 : CurOk (G66 (((), 30000, ()), c, ())).snd.fst := by (repeat ((try dsimp only); first | assumption | (with_reducible first | apply G44_cur | apply G75_cur | apply G80_cur | apply G106_cur | apply G66_cur | apply G45_cur)))
  generalize G66 (((), 30000, ()), c, ()) = B at *
  refine pst_t (K66_ok _ (by (repeat ((try dsimp only); first | assumption | (with_reducible first | apply G44_cur | apply G75_cur | apply G80_cur | apply G106_cur | apply G66_cur | apply G45_cur))))) ?_
  have b2 := one_plus _ 5 (below_bd 5 B.2.1 c2 (by decide)) (by decide)
  have c3 : CurOk (G66 (((), 5, ()), B.snd)).snd.fst := by (repeat ((try dsimp only); first | assumption | (with_reducible first | apply G44_cur | apply G75_cur | apply G80_cur | apply G106_cur | apply G66_cur | apply G45_cur)))
  have b2 : 1 ≤ IntKind.i64.wrap (1 + (G66 (((), 5, ()), B.snd)).fst.fst) ∧ IntKind.i64.wrap (1 + (G66 (((), 5, ()), B.snd)).fst.fst) ≤ 5 := b2
  generalize G66 (((), 5, ()), B.snd) = C at *
  generalize IntKind.i64.wrap (1 + C.fst.fst) = m at *
  obtain ⟨y, hy, r1, r2, r3, r4⟩ := highs_loop (((), (), (), B.fst.fst, m, ()), C.snd.fst, ((), (), ()), ((), (), ()), l, [], ()) c3 (by show 0 ≤ m; omega) (by show (0 : Int) + m ≤ 5; omega) (by show 1 ≤ (0 : Int) + m; omega)
  have e3 : kL87_17 (((), (), (), B.fst.fst, m, ()), C.snd.fst, ((), (), ()), ((), (), ()), l, [], ()) = true := by unfold kL87_17; rw [hy]; rfl
  have e4 : xL87_17 (((), (), (), B.fst.fst, m, ()), C.snd.fst, ((), (), ()), ((), (), ()), l, [], ()) = y := by unfold xL87_17; rw [hy]; rfl
  refine pst_t e3 ?_
  rw [e4]
  obtain ⟨_, c', _, _, l', hs, _⟩ := y
  dsimp only at r1 r2 r3 r4 ⊢
  subst r2
  exact pst_some ⟨r1, ⟨q2, q3⟩, r3, r4⟩
theorem K87_ok (x : I87.den) (h : CurOk x.2.1) : K87 x = true := pst_k (tide_ok x h)
theorem G87_ok (x : I87.den) (h : CurOk x.2.1) : CurOk (G87 x).2.1 ∧ (1 ≤ (G87 x).2.2.1.length ∧ (G87 x).2.2.1.length ≤ 3) ∧ 1 ≤ (G87 x).2.2.2.1.length ∧ (G87 x).2.2.2.1.length ≤ 5 := pst_g _ (tide_ok x h)

theorem twenty (d : Int) (h : 0 ≤ d ∧ d < 2) : IntKind.i64.wrap (20 + d) ≤ 21 := by
  rw [w64 (by omega) (by omega)]
  omega

theorem longer_loop (v : V58_15) (h : CurOk v.2.1) (h1 : 1 ≤ v.2.2.2.2.1.length) (h2 : v.2.2.2.2.1.length ≤ 21) : Pst (l58_15 v) fun y => CurOk y.2.1 ∧ y.2.2.2.2.1.length ≤ 21 ∧ y.2.2.2.2.2.1 = v.2.2.2.2.2.1 := by
  refine iter_ind (q := q58_15 K87 G87 K66 G66 K89 G89 K88 G88 K90 G90 K75 G75) (fun u => CurOk u.2.1 ∧ 1 ≤ u.2.2.2.2.1.length ∧ u.2.2.2.2.1.length ≤ 21 ∧ u.2.2.2.2.2.1 = v.2.2.2.2.2.1)
    (fun _ r => Pst r fun y => CurOk y.2.1 ∧ y.2.2.2.2.1.length ≤ 21 ∧ y.2.2.2.2.2.1 = v.2.2.2.2.2.1) (fun u => 21 - u.2.2.2.2.1.length) ?_ _ _ ⟨h, h1, h2, rfl⟩ ?_
  · rintro ⟨_, ⟨c0, c1, c2, _⟩, _, _, l, hs, _⟩ f ⟨g0, g1, g2, g3⟩ ih
    dsimp only at g0 g1 g2 g3 ih
    unfold q58_15
    dsimp only
    refine pst_t (K66_ok _ (by (repeat ((try dsimp only); first | assumption | (with_reducible first | apply G44_cur | apply G75_cur | apply G80_cur | apply G106_cur | apply G66_cur | apply G45_cur))))) ?_
    have b2 := below_bd 2 (c0, c1, c2, ()) g0 (by decide)
    have e : IntKind.i64.wrap (20 + (G66 (((), 2, ()), (c0, c1, c2, ()), ())).fst.fst) ≤ 21 := twenty _ b2
    refine pst_b (fun hb => ?_) (fun _ => pst_some ⟨by (repeat ((try dsimp only); first | assumption | (with_reducible first | apply G44_cur | apply G75_cur | apply G80_cur | apply G106_cur | apply G66_cur | apply G45_cur))), g2, g3⟩)
    have hb : (l.length : Int) < IntKind.i64.wrap (20 + (G66 (((), 2, ()), (c0, c1, c2, ()), ())).fst.fst) := by simpa using hb
    refine pst_t (by simp; omega) ?_
    refine pst_t (capOk_of (by simp only [List.length_set, List.length_replicate]; omega)) ?_
    refine ih _ ⟨by (repeat ((try dsimp only); first | assumption | (with_reducible first | apply G44_cur | apply G75_cur | apply G80_cur | apply G106_cur | apply G66_cur | apply G45_cur))), ?_, ?_, g3⟩ ?_ <;> simp only [List.length_append, List.length_set, List.length_replicate] <;> omega
  · unfold b58_15
    omega

def p58 (x : I58.den) : Bool := curB x.2.1
/-- What a drawn tide is. -/
def TideG (t : Den S48) : Prop := t.1.length ≤ 21 ∧ t.2.1.length ≤ 6
def Q58 (x : I58.den) (y : O58.den) : Prop := CurOk y.2.1 ∧ TideG y.1.1
theorem e58 : Nonempty (Ch I58 O58 p58 Q58) := ⟨⟨fun _ => ((([], [], ()), ()), (curZ, ())), fun _ _ => ⟨curZ_ok, by show 0 ≤ 21; decide, by show 0 ≤ 6; decide⟩⟩⟩

theorem fam58 : FamOK Try.prog 58 (sgFam true I58 O58 p58 Q58 e58) := sgN_ok env58 (N := N58 p90 Q90 e90) (mkN_ok ⟨fam90, trivial⟩) is58 noNLoops fun x hx k hk => by
  have hk : ∀ y : O58.den, CurOk y.2.1 → y.1.1.1.length ≤ 21 → y.1.1.2.1.length ≤ 6 → k y = some () := fun y h1 h2 h3 => hk y ⟨h1, h2, h3⟩
  have h : CurOk x.2.1 := curB_iff.1 hx
  refine Eq.trans (evN58 _ _ _ _ _ _ _ _ _ _ _ _ _ _ _ _ _ k x) ?_
  unfold rN58
  dsimp only
  haveI := e90
  have t0 := G87_ok (((), ()), x.snd) h
  refine all_t (K87_ok _ h) ?_
  generalize G87 (((), ()), x.snd) = T at *
  obtain ⟨_, c, l, hs, _⟩ := T
  dsimp only at t0 ⊢
  obtain ⟨t1, ⟨t2, t3⟩, t4, t5⟩ := t0
  refine all_t (K66_ok _ (by (repeat ((try dsimp only); first | assumption | (with_reducible first | apply G44_cur | apply G75_cur | apply G80_cur | apply G106_cur | apply G66_cur | apply G45_cur))))) ?_
  have b1 := below_bd (l.length : Int) c t1 (by omega)
  have c1 : CurOk (G66 (((), (l.length : Int), ()), c, ())).snd.fst := by (repeat ((try dsimp only); first | assumption | (with_reducible first | apply G44_cur | apply G75_cur | apply G80_cur | apply G106_cur | apply G66_cur | apply G45_cur)))
  generalize G66 (((), (l.length : Int), ()), c, ()) = A at *
  obtain ⟨⟨i, _⟩, cA, _⟩ := A
  dsimp only at b1 c1 ⊢
  refine all_t (K66_ok _ (by (repeat ((try dsimp only); first | assumption | (with_reducible first | apply G44_cur | apply G75_cur | apply G80_cur | apply G106_cur | apply G66_cur | apply G45_cur))))) ?_
  have c2 : CurOk (G66 (((), 24, ()), cA, ())).snd.fst := by (repeat ((try dsimp only); first | assumption | (with_reducible first | apply G44_cur | apply G75_cur | apply G80_cur | apply G106_cur | apply G66_cur | apply G45_cur)))
  generalize G66 (((), 24, ()), cA, ()) = B at *
  have din : (decide (0 ≤ i) && decide (i < (l.length : Int))) = true := by simp only [Bool.and_eq_true, decide_eq_true_eq]; exact b1
  refine all_b (fun _ => ?_) (fun _ => ?_)
  · refine all_t (K89_ok _ c2) ?_
    have c3 := G89_cur (((), ()), B.snd) c2
    generalize G89 (((), ()), B.snd) = C at *
    refine all_t (K88_ok _ (by simp)) ?_
    refine all_t din ?_
    exact hk _ c3 (by simp only [List.length_set]; omega) (by show hs.length ≤ 6; omega)
  refine all_b (fun _ => ?_) (fun _ => ?_)
  · refine allK_intro fun g => ?_
    refine all_t (K66_ok _ (by (repeat ((try dsimp only); first | assumption | (with_reducible first | apply G44_cur | apply G75_cur | apply G80_cur | apply G106_cur | apply G66_cur | apply G45_cur))))) ?_
    have b4 := below_bd 13 B.2.1 c2 (by decide)
    have b4 : 0 ≤ (G66 (((), 13, ()), B.snd)).fst.fst ∧ (G66 (((), 13, ()), B.snd)).fst.fst < 13 := b4
    have c4 : CurOk (G66 (((), 13, ()), B.snd)).snd.fst := by (repeat ((try dsimp only); first | assumption | (with_reducible first | apply G44_cur | apply G75_cur | apply G80_cur | apply G106_cur | apply G66_cur | apply G45_cur)))
    generalize G66 (((), 13, ()), B.snd) = D at *
    have hp : p90 (((), ()), D.snd) = true := curB_iff.2 c4
    have q1 : CurOk (g.val (((), ()), D.snd)).2.1 := g.2 _ hp
    refine all_t hp ?_
    generalize g.val (((), ()), D.snd) = C at *
    refine all_t din ?_
    refine all_t (by simp only [Bool.and_eq_true, decide_eq_true_eq]; exact b4) ?_
    exact hk _ q1 (by simp only [List.length_set]; omega) (by show hs.length ≤ 6; omega)
  refine all_b (fun _ => ?_) (fun _ => ?_)
  · refine all_t (K66_ok _ (by (repeat ((try dsimp only); first | assumption | (with_reducible first | apply G44_cur | apply G75_cur | apply G80_cur | apply G106_cur | apply G66_cur | apply G45_cur))))) ?_
    have b5 := below_bd (hs.length : Int) B.2.1 c2 (by omega)
    have b5 : 0 ≤ (G66 (((), (hs.length : Int), ()), B.snd)).fst.fst ∧ (G66 (((), (hs.length : Int), ()), B.snd)).fst.fst < (hs.length : Int) := b5
    have c5 : CurOk (G66 (((), (hs.length : Int), ()), B.snd)).snd.fst := by (repeat ((try dsimp only); first | assumption | (with_reducible first | apply G44_cur | apply G75_cur | apply G80_cur | apply G106_cur | apply G66_cur | apply G45_cur)))
    generalize G66 (((), (hs.length : Int), ()), B.snd) = D at *
    refine all_t (K75_ok _ (by (repeat ((try dsimp only); first | assumption | (with_reducible first | apply G44_cur | apply G75_cur | apply G80_cur | apply G106_cur | apply G66_cur | apply G45_cur))))) ?_
    refine all_t (by simp only [Bool.and_eq_true, decide_eq_true_eq]; exact b5) ?_
    exact hk _ (by (repeat ((try dsimp only); first | assumption | (with_reducible first | apply G44_cur | apply G75_cur | apply G80_cur | apply G106_cur | apply G66_cur | apply G45_cur)))) (by show l.length ≤ 21; omega) (by simp only [List.length_set]; omega)
  refine all_b (fun _ => hk _ c2 (by show l.length ≤ 21; omega) (by show 0 ≤ 6; decide)) (fun _ => ?_)
  refine all_b (fun _ => hk _ c2 (by show 0 ≤ 21; decide) (by show hs.length ≤ 6; omega)) (fun _ => ?_)
  refine all_b (fun _ => ?_) (fun _ => ?_)
  · obtain ⟨y, hy, r1, r2, r3⟩ := longer_loop (((), (), (), ()), B.snd.fst, ((), (), ()), ((), (), ()), l, hs, ()) c2 t2 (by show l.length ≤ 21; omega)
    have e3 : kL58_15 (((), (), (), ()), B.snd.fst, ((), (), ()), ((), (), ()), l, hs, ()) = true := by unfold kL58_15; rw [hy]; rfl
    have e4 : xL58_15 (((), (), (), ()), B.snd.fst, ((), (), ()), ((), (), ()), l, hs, ()) = y := by unfold xL58_15; rw [hy]; rfl
    refine all_t e3 ?_
    rw [e4]
    obtain ⟨_, c', _, _, l', hs', _⟩ := y
    dsimp only at r1 r2 r3 ⊢
    subst r3
    exact hk _ r1 r2 (by show hs'.length ≤ 6; omega)
  refine all_b (fun _ => ?_) (fun _ => hk _ c2 (by show l.length ≤ 21; omega) (by show hs.length ≤ 6; omega))
  have e5 : IntKind.i64.wrap ((hs.length : Int) - 1) = (hs.length : Int) - 1 := w64 (by omega) (by omega)
  rw [e5]
  refine all_t (by simp only [Bool.and_eq_true, decide_eq_true_eq]; omega) ?_
  refine all_t (capOk_of (by simp only [List.length_set, List.length_replicate]; omega)) ?_
  exact hk _ c2 (by show l.length ≤ 21; omega) (by simp only [List.length_append, List.length_set, List.length_replicate]; omega)

/-! ## A place, a time -/

theorem place_ok (x : I59.den) (h : CurOk x.2.1) : Pst (F59 x) fun y => CurOk y.2.1 := by
  unfold F59 r59
  dsimp only
  refine pst_b (fun h0 => ?_) (fun _ => ?_)
  · have h0 : (x.1.2.1.1.length : Int) > 0 := by simpa using h0
    refine pst_t (K45_ok _ (by (repeat ((try dsimp only); first | assumption | (with_reducible first | apply G44_cur | apply G75_cur | apply G80_cur | apply G106_cur | apply G66_cur | apply G45_cur))))) ?_
    have c1 : CurOk (G45 (((), 4, ()), x.snd)).snd.fst := by (repeat ((try dsimp only); first | assumption | (with_reducible first | apply G44_cur | apply G75_cur | apply G80_cur | apply G106_cur | apply G66_cur | apply G45_cur)))
    generalize G45 (((), 4, ()), x.snd) = A at *
    refine pst_b (fun _ => ?_) (fun _ => ?_)
    · refine pst_t (K66_ok _ (by (repeat ((try dsimp only); first | assumption | (with_reducible first | apply G44_cur | apply G75_cur | apply G80_cur | apply G106_cur | apply G66_cur | apply G45_cur))))) ?_
      have b1 := below_bd (x.1.2.1.1.length : Int) A.2.1 c1 (by omega)
      refine pst_t (by simp only [Bool.and_eq_true, decide_eq_true_eq]; exact b1) ?_
      exact pst_some (by (repeat ((try dsimp only); first | assumption | (with_reducible first | apply G44_cur | apply G75_cur | apply G80_cur | apply G106_cur | apply G66_cur | apply G45_cur))))
    · refine pst_t (K44_ok _ (by (repeat ((try dsimp only); first | assumption | (with_reducible first | apply G44_cur | apply G75_cur | apply G80_cur | apply G106_cur | apply G66_cur | apply G45_cur))))) ?_
      exact pst_some (by (repeat ((try dsimp only); first | assumption | (with_reducible first | apply G44_cur | apply G75_cur | apply G80_cur | apply G106_cur | apply G66_cur | apply G45_cur))))
  · refine pst_t (K44_ok _ (by (repeat ((try dsimp only); first | assumption | (with_reducible first | apply G44_cur | apply G75_cur | apply G80_cur | apply G106_cur | apply G66_cur | apply G45_cur))))) ?_
    exact pst_some (by (repeat ((try dsimp only); first | assumption | (with_reducible first | apply G44_cur | apply G75_cur | apply G80_cur | apply G106_cur | apply G66_cur | apply G45_cur))))
theorem K59_ok (x : I59.den) (h : CurOk x.2.1) : K59 x = true := pst_k (place_ok x h)
theorem G59_cur (x : I59.den) (h : CurOk x.2.1) : CurOk (G59 x).2.1 := pst_g _ (place_ok x h)

/-- A number that an int holds. -/
def inI (n : Int) : Prop := -9223372036854775808 ≤ n ∧ n ≤ 9223372036854775807
theorem wrap_inI (n : Int) : inI (IntKind.i64.wrap n) := by
  unfold inI
  rw [IntKind.wrap_i64]
  omega
theorem five_inI {n : Int} (h : n ∈ ((((((List.replicate 5 (zero (Ty.int IntKind.i64))).set 0 (-1)).set 1 0).set 2 10000000).set 3 10000001).set 4 9223372036854775807 : List Int)) : inI n := by
  have e : ((((((List.replicate 5 (zero (Ty.int IntKind.i64))).set 0 (-1)).set 1 0).set 2 10000000).set 3 10000001).set 4 9223372036854775807 : List Int) = [-1, 0, 10000000, 10000001, 9223372036854775807] := rfl
  rw [e] at h
  simp only [List.mem_cons, List.not_mem_nil, or_false] at h
  unfold inI
  omega
theorem moment_ok (x : I60.den) (h : CurOk x.2.1) : Pst (F60 x) fun y => CurOk y.2.1 ∧ inI y.1.1 := by
  unfold F60 r60
  dsimp only
  refine pst_b (fun _ => ?_) (fun h0 => ?_)
  · refine pst_t (K76_ok _ h (by simp)) ?_
    exact pst_some ⟨G76_cur _ h (by simp), five_inI (G76_ok (((), (), ()), x.snd.fst, ((((((List.replicate 5 (zero (Ty.int IntKind.i64))).set 0 (-1)).set 1 0).set 2 10000000).set 3 10000001).set 4 9223372036854775807), ()) h (by simp)).2⟩
  · have h0 : ¬ x.1.2.1.2.1.length = 0 := by intro e; rw [e] at h0; simp at h0
    refine pst_t (K45_ok _ (by (repeat ((try dsimp only); first | assumption | (with_reducible first | apply G59_cur | apply G44_cur | apply G75_cur | apply G80_cur | apply G106_cur | apply G66_cur | apply G45_cur))))) ?_
    have c1 : CurOk (G45 (((), 15, ()), x.snd)).snd.fst := by (repeat ((try dsimp only); first | assumption | (with_reducible first | apply G59_cur | apply G44_cur | apply G75_cur | apply G80_cur | apply G106_cur | apply G66_cur | apply G45_cur)))
    generalize G45 (((), 15, ()), x.snd) = A at *
    refine pst_b (fun _ => ?_) (fun _ => ?_)
    · refine pst_t (K76_ok _ c1 (by simp)) ?_
      exact pst_some ⟨G76_cur _ c1 (by simp), five_inI (G76_ok (((), (), ()), A.snd.fst, ((((((List.replicate 5 (zero (Ty.int IntKind.i64))).set 0 (-1)).set 1 0).set 2 10000000).set 3 10000001).set 4 9223372036854775807), ()) c1 (by simp)).2⟩
    · refine pst_t (K66_ok _ (by (repeat ((try dsimp only); first | assumption | (with_reducible first | apply G59_cur | apply G44_cur | apply G75_cur | apply G80_cur | apply G106_cur | apply G66_cur | apply G45_cur))))) ?_
      have b1 := below_bd (x.1.2.1.2.1.length : Int) A.2.1 c1 (by omega)
      refine pst_t (by simp only [Bool.and_eq_true, decide_eq_true_eq]; exact b1) ?_
      refine pst_t (K66_ok _ (by (repeat ((try dsimp only); first | assumption | (with_reducible first | apply G59_cur | apply G44_cur | apply G75_cur | apply G80_cur | apply G106_cur | apply G66_cur | apply G45_cur))))) ?_
      refine pst_b (fun _ => ?_) (fun _ => ?_)
      · refine pst_t (K66_ok _ (by (repeat ((try dsimp only); first | assumption | (with_reducible first | apply G59_cur | apply G44_cur | apply G75_cur | apply G80_cur | apply G106_cur | apply G66_cur | apply G45_cur))))) ?_
        exact pst_some ⟨by (repeat ((try dsimp only); first | assumption | (with_reducible first | apply G59_cur | apply G44_cur | apply G75_cur | apply G80_cur | apply G106_cur | apply G66_cur | apply G45_cur))), wrap_inI _⟩
      · refine pst_b (fun _ => pst_some ⟨by (repeat ((try dsimp only); first | assumption | (with_reducible first | apply G59_cur | apply G44_cur | apply G75_cur | apply G80_cur | apply G106_cur | apply G66_cur | apply G45_cur))), wrap_inI _⟩) (fun _ => ?_)
        refine pst_t (K66_ok _ (by (repeat ((try dsimp only); first | assumption | (with_reducible first | apply G59_cur | apply G44_cur | apply G75_cur | apply G80_cur | apply G106_cur | apply G66_cur | apply G45_cur))))) ?_
        exact pst_some ⟨by (repeat ((try dsimp only); first | assumption | (with_reducible first | apply G59_cur | apply G44_cur | apply G75_cur | apply G80_cur | apply G106_cur | apply G66_cur | apply G45_cur))), wrap_inI _⟩
theorem K60_ok (x : I60.den) (h : CurOk x.2.1) : K60 x = true := pst_k (moment_ok x h)
theorem G60_ok (x : I60.den) (h : CurOk x.2.1) : CurOk (G60 x).2.1 ∧ inI (G60 x).1.1 := pst_g _ (moment_ok x h)
theorem G60_cur (x : I60.den) (h : CurOk x.2.1) : CurOk (G60 x).2.1 := (G60_ok x h).1

end Go.Proofs.Ytmmdjajebmihhaa.AM

/- Plainly: the draws of legs; what the laws FnTideStill and FnSlackFirst are handed. Conditions: those that each lemma names. -/
namespace Go.Proofs.Ytmmdjajebmihhaa.AM
open Go Go.Proofs
set_option linter.unusedVariables false

theorem degrees_ok (x : I46.den) (h : CurOk x.2.1) : Pst (F46 x) fun y => CurOk y.2.1 := by
  unfold F46 r46
  dsimp only
  refine pst_t (K45_ok _ (by (repeat ((try dsimp only); first | assumption | (with_reducible first | apply G60_cur | apply G59_cur | apply G44_cur | apply G75_cur | apply G80_cur | apply G106_cur | apply G66_cur | apply G45_cur))))) ?_
  refine pst_b (fun _ => ?_) (fun _ => ?_)
  · refine pst_t (K75_ok _ (by (repeat ((try dsimp only); first | assumption | (with_reducible first | apply G60_cur | apply G59_cur | apply G44_cur | apply G75_cur | apply G80_cur | apply G106_cur | apply G66_cur | apply G45_cur))))) ?_
    exact pst_some (by (repeat ((try dsimp only); first | assumption | (with_reducible first | apply G60_cur | apply G59_cur | apply G44_cur | apply G75_cur | apply G80_cur | apply G106_cur | apply G66_cur | apply G45_cur))))
  · refine pst_t (K66_ok _ (by (repeat ((try dsimp only); first | assumption | (with_reducible first | apply G60_cur | apply G59_cur | apply G44_cur | apply G75_cur | apply G80_cur | apply G106_cur | apply G66_cur | apply G45_cur))))) ?_
    exact pst_some (by (repeat ((try dsimp only); first | assumption | (with_reducible first | apply G60_cur | apply G59_cur | apply G44_cur | apply G75_cur | apply G80_cur | apply G106_cur | apply G66_cur | apply G45_cur))))
theorem K46_ok (x : I46.den) (h : CurOk x.2.1) : K46 x = true := pst_k (degrees_ok x h)
theorem G46_cur (x : I46.den) (h : CurOk x.2.1) : CurOk (G46 x).2.1 := pst_g _ (degrees_ok x h)

def p108 (x : I108.den) : Bool := curB x.2.1
def Q108 (x : I108.den) (y : O108.den) : Prop := CurOk y.2.1
theorem e108 : Nonempty (Ch I108 O108 p108 Q108) := ⟨⟨fun _ => ((0, ()), (curZ, ())), fun _ _ => curZ_ok⟩⟩
theorem fam108 : FamOK Try.prog 108 (sgFam true I108 O108 p108 Q108 e108) := sgN_ok env108 (N := N108 p107 Q107 e107) (mkN_ok ⟨fam107, trivial⟩) is108 noNLoops fun x hx k hk => by
  have hk : ∀ y : O108.den, CurOk y.2.1 → k y = some () := hk
  have h : CurOk x.2.1 := curB_iff.1 hx
  refine Eq.trans (evN108 _ _ _ _ _ _ _ k x) ?_
  unfold rN108
  dsimp only
  haveI := e107
  refine all_t (K66_ok _ (by (repeat ((try dsimp only); first | assumption | (with_reducible first | apply G46_cur | apply G60_cur | apply G59_cur | apply G44_cur | apply G75_cur | apply G80_cur | apply G106_cur | apply G66_cur | apply G45_cur))))) ?_
  have c1 : CurOk (G66 (((), 16, ()), x.snd)).snd.fst := by (repeat ((try dsimp only); first | assumption | (with_reducible first | apply G46_cur | apply G60_cur | apply G59_cur | apply G44_cur | apply G75_cur | apply G80_cur | apply G106_cur | apply G66_cur | apply G45_cur)))
  generalize G66 (((), 16, ()), x.snd) = A at *
  refine all_b (fun _ => ?_) (fun _ => ?_)
  · refine allK_intro fun g => ?_
    have hp : p107 (((), 60, ()), A.snd) = true := curB_iff.2 c1
    refine all_t hp ?_
    exact hk _ (g.2 _ hp)
  refine all_b (fun _ => hk _ c1) (fun _ => ?_)
  refine all_b (fun _ => hk _ c1) (fun _ => ?_)
  refine all_t (K66_ok _ (by (repeat ((try dsimp only); first | assumption | (with_reducible first | apply G46_cur | apply G60_cur | apply G59_cur | apply G44_cur | apply G75_cur | apply G80_cur | apply G106_cur | apply G66_cur | apply G45_cur))))) ?_
  exact hk _ (by (repeat ((try dsimp only); first | assumption | (with_reducible first | apply G46_cur | apply G60_cur | apply G59_cur | apply G44_cur | apply G75_cur | apply G80_cur | apply G106_cur | apply G66_cur | apply G45_cur))))

def p91 (x : I91.den) : Bool := curB x.2.1
def Q91 (x : I91.den) (y : O91.den) : Prop := CurOk y.2.1
theorem e91 : Nonempty (Ch I91 O91 p91 Q91) := ⟨⟨fun _ => (((0, 0, 0, ()), ()), (curZ, ())), fun _ _ => curZ_ok⟩⟩
theorem fam91 : FamOK Try.prog 91 (sgFam true I91 O91 p91 Q91 e91) := sgN_ok env91 (N := N91 p108 Q108 e108) (mkN_ok ⟨fam108, trivial⟩) is91 noNLoops fun x hx k hk => by
  have hk : ∀ y : O91.den, CurOk y.2.1 → k y = some () := hk
  have h : CurOk x.2.1 := curB_iff.1 hx
  refine Eq.trans (evN91 _ _ _ _ _ _ _ _ _ _ _ k x) ?_
  unfold rN91
  dsimp only
  haveI := e108
  refine all_t (K46_ok _ (by (repeat ((try dsimp only); first | assumption | (with_reducible first | apply G46_cur | apply G60_cur | apply G59_cur | apply G44_cur | apply G75_cur | apply G80_cur | apply G106_cur | apply G66_cur | apply G45_cur))))) ?_
  refine allK_intro fun g => ?_
  have c1 : CurOk (G46 (((), ()), x.snd)).snd.fst := by (repeat ((try dsimp only); first | assumption | (with_reducible first | apply G46_cur | apply G60_cur | apply G59_cur | apply G44_cur | apply G75_cur | apply G80_cur | apply G106_cur | apply G66_cur | apply G45_cur)))
  generalize G46 (((), ()), x.snd) = A at *
  have hp : p108 (((), ()), A.snd) = true := curB_iff.2 c1
  have q1 : CurOk (g.val (((), ()), A.snd)).2.1 := g.2 _ hp
  refine all_t hp ?_
  generalize g.val (((), ()), A.snd) = B at *
  refine all_t (K66_ok _ (by (repeat ((try dsimp only); first | assumption | (with_reducible first | apply G46_cur | apply G60_cur | apply G59_cur | apply G44_cur | apply G75_cur | apply G80_cur | apply G106_cur | apply G66_cur | apply G45_cur))))) ?_
  have c2 : CurOk (G66 (((), 4000, ()), B.snd)).snd.fst := by (repeat ((try dsimp only); first | assumption | (with_reducible first | apply G46_cur | apply G60_cur | apply G59_cur | apply G44_cur | apply G75_cur | apply G80_cur | apply G106_cur | apply G66_cur | apply G45_cur)))
  generalize G66 (((), 4000, ()), B.snd) = C at *
  refine all_t (K66_ok _ (by (repeat ((try dsimp only); first | assumption | (with_reducible first | apply G46_cur | apply G60_cur | apply G59_cur | apply G44_cur | apply G75_cur | apply G80_cur | apply G106_cur | apply G66_cur | apply G45_cur))))) ?_
  have c3 : CurOk (G66 (((), 14, ()), C.snd)).snd.fst := by (repeat ((try dsimp only); first | assumption | (with_reducible first | apply G46_cur | apply G60_cur | apply G59_cur | apply G44_cur | apply G75_cur | apply G80_cur | apply G106_cur | apply G66_cur | apply G45_cur)))
  generalize G66 (((), 14, ()), C.snd) = D at *
  refine all_b (fun _ => ?_) (fun _ => ?_)
  · refine all_t (K76_ok _ c3 (by simp)) ?_
    exact hk _ (G76_cur _ c3 (by simp))
  refine all_b (fun _ => ?_) (fun _ => hk _ c3)
  refine all_t (K66_ok _ (by (repeat ((try dsimp only); first | assumption | (with_reducible first | apply G46_cur | apply G60_cur | apply G59_cur | apply G44_cur | apply G75_cur | apply G80_cur | apply G106_cur | apply G66_cur | apply G45_cur))))) ?_
  exact hk _ (by (repeat ((try dsimp only); first | assumption | (with_reducible first | apply G46_cur | apply G60_cur | apply G59_cur | apply G44_cur | apply G75_cur | apply G80_cur | apply G106_cur | apply G66_cur | apply G45_cur))))

/-! ## Some legs -/

def pL61_5 (v : V61_5) : Bool := curB v.2.1 && (decide (0 ≤ v.1.2.2.1) && decide ((v.2.2.1.length : Int) + v.1.2.2.1 ≤ 51))
def QL61_5 (v : V61_5) (y : X61_5) : Prop := CurOk y.2.1 ∧ y.2.2.1.length ≤ 51
theorem pL61_5_iff {v : V61_5} : pL61_5 v = true ↔ CurOk v.2.1 ∧ 0 ≤ v.1.2.2.1 ∧ (v.2.2.1.length : Int) + v.1.2.2.1 ≤ 51 := by
  unfold pL61_5
  simp only [Bool.and_eq_true, decide_eq_true_eq, curB_iff]
theorem eL61_5 : Nonempty (ChL pL61_5 QL61_5) := ⟨⟨fun _ => (((), ()), (curZ, [], ())), fun _ _ => ⟨curZ_ok, Nat.zero_le _⟩⟩⟩

theorem legs_loop (v : V61_5) (hv : pL61_5 v = true) (h : X61_5 → Option Unit) (hq0 : ∀ y, QL61_5 v y → h y = some ()) : ∃ n, iter (qN61_5 K66 G66 K45 G45 K91 G91 kL61_5 xL61_5 p91 Q91 e91 pL61_5 QL61_5 eL61_5 h) n v = some () := by
  have hv := pL61_5_iff.1 hv
  refine ⟨52, ?_⟩
  refine iter_ind (q := qN61_5 K66 G66 K45 G45 K91 G91 kL61_5 xL61_5 p91 Q91 e91 pL61_5 QL61_5 eL61_5 h)
    (fun u => CurOk u.2.1 ∧ 0 ≤ u.1.2.2.1 ∧ (u.2.2.1.length : Int) + u.1.2.2.1 ≤ 51)
    (fun _ r => r = some ()) (fun u => u.1.2.2.1.toNat) ?_ _ _ hv (by omega)
  rintro ⟨⟨_, _, n, _⟩, ⟨c0, c1, c2, _⟩, l, _⟩ f ⟨g0, g1, g2⟩ ih
  dsimp only at g0 g1 g2 ih
  unfold qN61_5
  dsimp only
  by_cases hk : n > 0
  · refine all_t (by simpa using hk) ?_
    haveI := e91
    refine allK_intro fun g => ?_
    have hp : p91 (((), ()), (c0, c1, c2, ()), ()) = true := curB_iff.2 g0
    refine all_t hp ?_
    refine all_t (capOk_of (by simp only [List.length_set, List.length_replicate]; omega)) ?_
    have e : IntKind.i64.wrap (n - 1) = n - 1 := w64 (by omega) (by omega)
    refine ih _ ⟨g.2 _ hp, ?_, ?_⟩ ?_
    · show 0 ≤ IntKind.i64.wrap (n - 1); omega
    · simp only [e, List.length_append, List.length_set, List.length_replicate]; omega
    · show (IntKind.i64.wrap (n - 1)).toNat < n.toNat; omega
  · have hd : decide (n > 0) = false := by simpa using hk
    rw [hd]
    exact hq0 _ ⟨g0, by show l.length ≤ 51; omega⟩

theorem loops61 : NLoopsOK (Γ61 K66 G66 K45 G45 K91 G91 kL61_5 xL61_5) (N61 p91 Q91 e91 pL61_5 QL61_5 eL61_5) (bodyOf Try.f61) := by
  intro c' hc L hL
  have hl : loopsOf (bodyOf Try.f61) = [lc61_5] := by kernel_rfl
  rw [hl] at hc
  rw [List.mem_singleton] at hc
  subst hc
  have hr : firstRegion lc61_5 = 5 := by kernel_rfl
  rw [hr] at hL
  have hL' : some (loopXN [0, 3, 4] [] 0 [3] [] sh61_5 shX61_5 pL61_5 QL61_5 eL61_5) = some L := hL
  rw [← Option.some.inj hL']
  exact loopXN_sound (sh := sh61_5) (shX := shX61_5) (g := fun h f v => qN61_5 K66 G66 K45 G45 K91 G91 kL61_5 xL61_5 p91 Q91 e91 pL61_5 QL61_5 eL61_5 h f v) (fun h f v => evlN61_5 K66 G66 K45 G45 K91 G91 kL61_5 xL61_5 p91 Q91 e91 pL61_5 QL61_5 eL61_5 h f v) legs_loop

def p61 (x : I61.den) : Bool := curB x.2.1
def Q61 (x : I61.den) (y : O61.den) : Prop := CurOk y.2.1 ∧ y.2.2.1.length ≤ 51
theorem e61 : Nonempty (Ch I61 O61 p61 Q61) := ⟨⟨fun _ => (((), ()), (curZ, [], ())), fun _ _ => ⟨curZ_ok, Nat.zero_le _⟩⟩⟩
theorem fifty (d : Int) (h : 0 ≤ d ∧ d < 2) : 0 ≤ IntKind.i64.wrap (50 + d) ∧ IntKind.i64.wrap (50 + d) ≤ 51 := by
  rw [w64 (by omega) (by omega)]
  omega
theorem five (d : Int) (h : 0 ≤ d ∧ d < 5) : (0 : Int) + d ≤ 51 := by omega
theorem fam61 : FamOK Try.prog 61 (sgFam true I61 O61 p61 Q61 e61) := sgN_ok env61 (N := N61 p91 Q91 e91 pL61_5 QL61_5 eL61_5) (mkN_ok ⟨fam91, trivial⟩) is61 loops61 fun x hx k hk => by
  have hk : ∀ y : O61.den, CurOk y.2.1 → y.2.2.1.length ≤ 51 → k y = some () := fun y h1 h2 => hk y ⟨h1, h2⟩
  have h : CurOk x.2.1 := curB_iff.1 hx
  refine Eq.trans (evN61 _ _ _ _ _ _ _ _ _ _ _ _ _ _ k x) ?_
  unfold rN61
  dsimp only
  haveI := eL61_5
  have hz : List.replicate 0 (zero S53) = [] := rfl
  rw [hz]
  refine all_t (K66_ok _ (by (repeat ((try dsimp only); first | assumption | (with_reducible first | apply G46_cur | apply G60_cur | apply G59_cur | apply G44_cur | apply G75_cur | apply G80_cur | apply G106_cur | apply G66_cur | apply G45_cur))))) ?_
  have b1 := below_bd 5 x.2.1 h (by decide)
  have b1 : 0 ≤ (G66 (((), 5, ()), x.snd)).fst.fst ∧ (G66 (((), 5, ()), x.snd)).fst.fst < 5 := b1
  have c1 : CurOk (G66 (((), 5, ()), x.snd)).snd.fst := by (repeat ((try dsimp only); first | assumption | (with_reducible first | apply G46_cur | apply G60_cur | apply G59_cur | apply G44_cur | apply G75_cur | apply G80_cur | apply G106_cur | apply G66_cur | apply G45_cur)))
  generalize G66 (((), 5, ()), x.snd) = A at *
  obtain ⟨⟨n, _⟩, cA, _⟩ := A
  dsimp only at b1 c1 ⊢
  refine all_t (K45_ok _ (by (repeat ((try dsimp only); first | assumption | (with_reducible first | apply G46_cur | apply G60_cur | apply G59_cur | apply G44_cur | apply G75_cur | apply G80_cur | apply G106_cur | apply G66_cur | apply G45_cur))))) ?_
  have c2 : CurOk (G45 (((), 40, ()), cA, ())).snd.fst := by (repeat ((try dsimp only); first | assumption | (with_reducible first | apply G46_cur | apply G60_cur | apply G59_cur | apply G44_cur | apply G75_cur | apply G80_cur | apply G106_cur | apply G66_cur | apply G45_cur)))
  generalize G45 (((), 40, ()), cA, ()) = B at *
  refine all_b (fun _ => ?_) (fun _ => ?_)
  · refine all_t (K66_ok _ (by (repeat ((try dsimp only); first | assumption | (with_reducible first | apply G46_cur | apply G60_cur | apply G59_cur | apply G44_cur | apply G75_cur | apply G80_cur | apply G106_cur | apply G66_cur | apply G45_cur))))) ?_
    have b3 := fifty _ (below_bd 2 B.2.1 c2 (by decide))
    have b3 : 0 ≤ IntKind.i64.wrap (50 + (G66 (((), 2, ()), B.snd)).fst.fst) ∧ IntKind.i64.wrap (50 + (G66 (((), 2, ()), B.snd)).fst.fst) ≤ 51 := b3
    have c3 : CurOk (G66 (((), 2, ()), B.snd)).snd.fst := by (repeat ((try dsimp only); first | assumption | (with_reducible first | apply G46_cur | apply G60_cur | apply G59_cur | apply G44_cur | apply G75_cur | apply G80_cur | apply G106_cur | apply G66_cur | apply G45_cur)))
    generalize G66 (((), 2, ()), B.snd) = C at *
    generalize IntKind.i64.wrap (50 + C.fst.fst) = m at *
    have hu : pL61_5 (((), (), m, ()), C.snd.fst, [], ()) = true := pL61_5_iff.2 ⟨c3, b3.1, by show (0 : Int) + m ≤ 51; omega⟩
    refine all_t hu ?_
    refine allK_intro fun g => ?_
    obtain ⟨s1, s2⟩ := g.2 _ hu
    exact hk _ s1 s2
  · have hu : pL61_5 (((), (), n, ()), B.snd.fst, [], ()) = true := pL61_5_iff.2 ⟨c2, b1.1, five _ b1⟩
    refine all_t hu ?_
    refine allK_intro fun g => ?_
    obtain ⟨s1, s2⟩ := g.2 _ hu
    exact hk _ s1 s2

/-! ## What the laws are handed -/

def codeC (l : List Int) : Bool := decide (l.length ≤ 1048576)
def p20 (x : I20.den) : Bool := codeC x.1.1
def Q20 (x : I20.den) (y : O20.den) : Prop := y.2.1.length ≤ 51
theorem e20 : Nonempty (Ch I20 O20 p20 Q20) := ⟨⟨fun _ => (((0, 0), 0, (), ([], [], ()), ()), ([], ())), fun _ _ => Nat.zero_le _⟩⟩
theorem fam20 : FamOK Try.prog 20 (sgFam false I20 O20 p20 Q20 e20) := sgN_ok env20 (N := N20 p58 Q58 e58 p61 Q61 e61) (mkN_ok ⟨fam58, fam61, trivial⟩) is20 noNLoops fun x hx k hk => by
  have hk : ∀ y : O20.den, y.2.1.length ≤ 51 → k y = some () := hk
  have h : x.1.1.length ≤ 1048576 := by simpa [p20, codeC] using hx
  refine Eq.trans (evN20 _ _ _ _ _ _ _ _ _ _ _ _ _ _ _ _ k x) ?_
  unfold rN20
  dsimp only
  haveI := e58
  haveI := e61
  have c0 := G30_cur x h
  refine all_t (K30_ok x h) ?_
  generalize G30 x = A at *
  refine allK_intro fun g => ?_
  have hp : p58 (((), ()), A.snd) = true := curB_iff.2 c0
  obtain ⟨q1, _⟩ := g.2 _ hp
  refine all_t hp ?_
  generalize g.val (((), ()), A.snd) = B at *
  refine all_t (K59_ok _ (by (repeat ((try dsimp only); first | assumption | (with_reducible first | apply G46_cur | apply G60_cur | apply G59_cur | apply G44_cur | apply G75_cur | apply G80_cur | apply G106_cur | apply G66_cur | apply G45_cur))))) ?_
  have c1 : CurOk (G59 (((), B.fst), B.snd)).snd.fst := by (repeat ((try dsimp only); first | assumption | (with_reducible first | apply G46_cur | apply G60_cur | apply G59_cur | apply G44_cur | apply G75_cur | apply G80_cur | apply G106_cur | apply G66_cur | apply G45_cur)))
  generalize G59 (((), B.fst), B.snd) = C at *
  refine all_t (K60_ok _ (by (repeat ((try dsimp only); first | assumption | (with_reducible first | apply G46_cur | apply G60_cur | apply G59_cur | apply G44_cur | apply G75_cur | apply G80_cur | apply G106_cur | apply G66_cur | apply G45_cur))))) ?_
  refine allK_intro fun g2 => ?_
  have c2 : CurOk (G60 (((), B.fst), C.snd)).snd.fst := by (repeat ((try dsimp only); first | assumption | (with_reducible first | apply G46_cur | apply G60_cur | apply G59_cur | apply G44_cur | apply G75_cur | apply G80_cur | apply G106_cur | apply G66_cur | apply G45_cur)))
  generalize G60 (((), B.fst), C.snd) = D at *
  have hp2 : p61 (((), ()), D.snd) = true := curB_iff.2 c2
  obtain ⟨_, r2⟩ := g2.2 _ hp2
  refine all_t hp2 ?_
  exact hk _ r2

def pT25 (x : Den A25) : Bool := codeC x.1
/-- What is taken for slack: a number of sixteenths. -/
def mostG (m : Nat) : Prop := ∃ d : Int, 0 ≤ d ∧ d < 20 ∧ m = farith .quo .f32 (FloatKind.nearest .f32 (IntKind.i64.wrap (d - 1))) 1098907648
def QT25 (x : Den A25) (y : Den R25) : Prop := TideG y.1 ∧ inI y.2.2.1 ∧ mostG y.2.2.2.1
theorem eT25 : Nonempty (ChT A25 R25 pT25 QT25) := ⟨⟨fun _ => (([], [], ()), (0, 0), 0, farith .quo .f32 (FloatKind.nearest .f32 (IntKind.i64.wrap (0 - 1))) 1098907648, ()), fun _ _ => ⟨⟨Nat.zero_le _, Nat.zero_le _⟩, ⟨by show -9223372036854775808 ≤ (0 : Int); decide, by show (0 : Int) ≤ 9223372036854775807; decide⟩, 0, by decide, by decide, rfl⟩⟩⟩
theorem fam25 : FamOK Try.prog 25 (fnFam A25 R25 pT25 QT25 eT25) := fnN_ok env25 (N := N25 p58 Q58 e58) (mkN_ok ⟨fam58, trivial⟩) is25 noNLoops fun x hx k hk => by
  have hk : ∀ y : Den R25, TideG y.1 → inI y.2.2.1 → mostG y.2.2.2.1 → k y = some () := fun y h1 h2 h3 => hk y ⟨h1, h2, h3⟩
  have h : x.1.length ≤ 1048576 := by simpa [pT25, codeC] using hx
  refine Eq.trans (evN25 _ _ _ _ _ _ _ _ _ _ _ _ _ _ _ k x) ?_
  unfold rN25
  dsimp only
  haveI := e58
  have c0 := G30_cur (x, ()) h
  refine all_t (K30_ok (x, ()) h) ?_
  generalize G30 (x, ()) = A at *
  refine allK_intro fun g => ?_
  have hp : p58 (((), ()), A.snd) = true := curB_iff.2 c0
  obtain ⟨q1, q2⟩ := g.2 _ hp
  refine all_t hp ?_
  generalize g.val (((), ()), A.snd) = B at *
  refine all_t (K59_ok _ (by (repeat ((try dsimp only); first | assumption | (with_reducible first | apply G46_cur | apply G60_cur | apply G59_cur | apply G44_cur | apply G75_cur | apply G80_cur | apply G106_cur | apply G66_cur | apply G45_cur))))) ?_
  have c1 : CurOk (G59 (((), B.fst), B.snd)).snd.fst := by (repeat ((try dsimp only); first | assumption | (with_reducible first | apply G46_cur | apply G60_cur | apply G59_cur | apply G44_cur | apply G75_cur | apply G80_cur | apply G106_cur | apply G66_cur | apply G45_cur)))
  generalize G59 (((), B.fst), B.snd) = C at *
  refine all_t (K60_ok _ (by (repeat ((try dsimp only); first | assumption | (with_reducible first | apply G46_cur | apply G60_cur | apply G59_cur | apply G44_cur | apply G75_cur | apply G80_cur | apply G106_cur | apply G66_cur | apply G45_cur))))) ?_
  have c2 : CurOk (G60 (((), B.fst), C.snd)).snd.fst := by (repeat ((try dsimp only); first | assumption | (with_reducible first | apply G46_cur | apply G60_cur | apply G59_cur | apply G44_cur | apply G75_cur | apply G80_cur | apply G106_cur | apply G66_cur | apply G45_cur)))
  have i2 : inI (G60 (((), B.fst), C.snd)).fst.fst := (G60_ok (((), B.fst), C.snd) c1).2
  generalize G60 (((), B.fst), C.snd) = D at *
  refine all_t (K45_ok _ (by (repeat ((try dsimp only); first | assumption | (with_reducible first | apply G46_cur | apply G60_cur | apply G59_cur | apply G44_cur | apply G75_cur | apply G80_cur | apply G106_cur | apply G66_cur | apply G45_cur))))) ?_
  have c3 : CurOk (G45 (((), 10, ()), D.snd)).snd.fst := by (repeat ((try dsimp only); first | assumption | (with_reducible first | apply G46_cur | apply G60_cur | apply G59_cur | apply G44_cur | apply G75_cur | apply G80_cur | apply G106_cur | apply G66_cur | apply G45_cur)))
  generalize G45 (((), 10, ()), D.snd) = E at *
  refine all_b (fun _ => ?_) (fun _ => ?_)
  · refine all_t (K66_ok _ (by (repeat ((try dsimp only); first | assumption | (with_reducible first | apply G46_cur | apply G60_cur | apply G59_cur | apply G44_cur | apply G75_cur | apply G80_cur | apply G106_cur | apply G66_cur | apply G45_cur))))) ?_
    have c4 : CurOk (G66 (((), 800, ()), E.snd)).snd.fst := by (repeat ((try dsimp only); first | assumption | (with_reducible first | apply G46_cur | apply G60_cur | apply G59_cur | apply G44_cur | apply G75_cur | apply G80_cur | apply G106_cur | apply G66_cur | apply G45_cur)))
    generalize G66 (((), 800, ()), E.snd) = M at *
    refine all_t (K66_ok _ (by (repeat ((try dsimp only); first | assumption | (with_reducible first | apply G46_cur | apply G60_cur | apply G59_cur | apply G44_cur | apply G75_cur | apply G80_cur | apply G106_cur | apply G66_cur | apply G45_cur))))) ?_
    have b5 := below_bd 20 M.2.1 c4 (by decide)
    exact hk _ q2 (wrap_inI _) ⟨_, b5.1, b5.2, rfl⟩
  · refine all_t (K66_ok _ (by (repeat ((try dsimp only); first | assumption | (with_reducible first | apply G46_cur | apply G60_cur | apply G59_cur | apply G44_cur | apply G75_cur | apply G80_cur | apply G106_cur | apply G66_cur | apply G45_cur))))) ?_
    have b5 := below_bd 20 E.2.1 c3 (by decide)
    exact hk _ q2 i2 ⟨_, b5.1, b5.2, rfl⟩

theorem nok5 : NOK Try.prog (N5 p20 Q20 e20) := mkN_ok ⟨fam20, trivial⟩
theorem nok6 : NOK Try.prog (N6 pT25 QT25 eT25) := mkN_ok ⟨fam25, trivial⟩

end Go.Proofs.Ytmmdjajebmihhaa.AM

/- Plainly: the draw of a field of winds. Conditions: those that each lemma names. -/
namespace Go.Proofs.Ytmmdjajebmihhaa.AM
open Go Go.Proofs
set_option linter.unusedVariables false

/-! ## One hour -/

def wideB (b : Int × Int × Int × Unit × Unit) : Bool := decide (1 ≤ b.1) && (decide (b.1 ≤ 3) && decide (b.2.1 = 2))
def pL31_8 (v : V31_8) : Bool := curB v.2.1 && (wideB v.2.2.2.1 && (decide (0 ≤ v.1.2.2.2.2.2.2.1) && (decide (v.1.2.2.2.2.2.2.1 ≤ v.2.2.2.1.1 * 2) && decide ((v.2.2.2.2.2.1.length : Int) = v.1.2.2.2.2.2.2.1))))
def QL31_8 (v : V31_8) (y : X31_8) : Prop := CurOk y.2.1 ∧ y.2.2.2.1 = v.2.2.2.1 ∧ y.1.2.2.2.2.1 = v.1.2.2.2.2.1 ∧ y.2.2.2.2.1 = v.2.2.2.2.1 ∧ (y.2.2.2.2.2.1.length : Int) = v.2.2.2.1.1 * 2
theorem pL31_8_iff {v : V31_8} : pL31_8 v = true ↔ CurOk v.2.1 ∧ (1 ≤ v.2.2.2.1.1 ∧ v.2.2.2.1.1 ≤ 3 ∧ v.2.2.2.1.2.1 = 2) ∧ 0 ≤ v.1.2.2.2.2.2.2.1 ∧ v.1.2.2.2.2.2.2.1 ≤ v.2.2.2.1.1 * 2 ∧ (v.2.2.2.2.2.1.length : Int) = v.1.2.2.2.2.2.2.1 := by
  unfold pL31_8 wideB
  simp only [Bool.and_eq_true, decide_eq_true_eq, curB_iff]
theorem eL31_8 : Nonempty (ChL pL31_8 QL31_8) :=
  ⟨⟨fun v => (((), (), (), (0, 0), v.1.2.2.2.2.1, (), ()), (curZ, (0, 0, 0, (), ()), v.2.2.2.1, v.2.2.2.2.1, List.replicate (v.2.2.2.1.1 * 2).toNat (0, 0), ())),
    fun v hv => ⟨curZ_ok, rfl, rfl, rfl, by
      have h := pL31_8_iff.1 hv
      show ((List.replicate (v.2.2.2.1.1 * 2).toNat ((0 : Nat), (0 : Nat))).length : Int) = v.2.2.2.1.1 * 2
      rw [List.length_replicate]; omega⟩⟩⟩

def pL31_4 (v : V31_4) : Bool := curB v.2.1 && (wideB v.2.2.2.1 && (decide (0 ≤ v.1.2.2.2.2.1) && (decide ((v.2.2.2.2.1.length : Int) + v.1.2.2.2.2.1 ≤ 8) && (decide (1 ≤ (v.2.2.2.2.1.length : Int) + v.1.2.2.2.2.1) && v.2.2.2.2.1.all fun l => decide ((l.length : Int) = v.2.2.2.1.1 * 2)))))
def QL31_4 (v : V31_4) (y : X31_4) : Prop := CurOk y.2.1 ∧ y.2.2.2.1 = v.2.2.2.1 ∧ 1 ≤ y.2.2.2.2.1.length ∧ y.2.2.2.2.1.length ≤ 8 ∧ ∀ l ∈ y.2.2.2.2.1, (List.length l : Int) = v.2.2.2.1.1 * 2
theorem pL31_4_iff {v : V31_4} : pL31_4 v = true ↔ CurOk v.2.1 ∧ (1 ≤ v.2.2.2.1.1 ∧ v.2.2.2.1.1 ≤ 3 ∧ v.2.2.2.1.2.1 = 2) ∧ 0 ≤ v.1.2.2.2.2.1 ∧ (v.2.2.2.2.1.length : Int) + v.1.2.2.2.2.1 ≤ 8 ∧ 1 ≤ (v.2.2.2.2.1.length : Int) + v.1.2.2.2.2.1 ∧ ∀ l ∈ v.2.2.2.2.1, (List.length l : Int) = v.2.2.2.1.1 * 2 := by
  unfold pL31_4 wideB
  simp only [Bool.and_eq_true, decide_eq_true_eq, curB_iff, List.all_eq_true]
theorem eL31_4 : Nonempty (ChL pL31_4 QL31_4) :=
  ⟨⟨fun v => (((), (), (), ()), (curZ, (0, 0, 0, (), ()), v.2.2.2.1, [List.replicate (v.2.2.2.1.1 * 2).toNat (0, 0)], ())),
    fun v hv => ⟨curZ_ok, rfl, Nat.le_refl 1, by show 1 ≤ 8; decide, by
      intro l hl
      have h := pL31_4_iff.1 hv
      rw [List.mem_singleton.1 hl]
      show ((List.replicate (v.2.2.2.1.1 * 2).toNat ((0 : Nat), (0 : Nat))).length : Int) = v.2.2.2.1.1 * 2
      rw [List.length_replicate]; omega⟩⟩⟩

theorem hour_loop (v : V31_8) (hv : pL31_8 v = true) (h : X31_8 → Option Unit) (hq0 : ∀ y, QL31_8 v y → h y = some ()) : ∃ n, iter (qN31_8 K66 G66 K74 G74 K45 G45 K75 G75 K76 G76 kL31_4 xL31_4 kL31_8 xL31_8 p74 Q74 e74 pL31_4 QL31_4 eL31_4 pL31_8 QL31_8 eL31_8 h) n v = some () := by
  have hv := pL31_8_iff.1 hv
  refine ⟨7, ?_⟩
  refine iter_ind (q := qN31_8 K66 G66 K74 G74 K45 G45 K75 G75 K76 G76 kL31_4 xL31_4 kL31_8 xL31_8 p74 Q74 e74 pL31_4 QL31_4 eL31_4 pL31_8 QL31_8 eL31_8 h)
    (fun u => CurOk u.2.1 ∧ u.2.2.2.1 = v.2.2.2.1 ∧ u.1.2.2.2.2.1 = v.1.2.2.2.2.1 ∧ u.2.2.2.2.1 = v.2.2.2.2.1 ∧ 0 ≤ u.1.2.2.2.2.2.2.1 ∧ u.1.2.2.2.2.2.2.1 ≤ v.2.2.2.1.1 * 2 ∧ (u.2.2.2.2.2.1.length : Int) = u.1.2.2.2.2.2.2.1)
    (fun _ r => r = some ()) (fun u => (6 - u.1.2.2.2.2.2.2.1).toNat) ?_ _ _ ⟨hv.1, rfl, rfl, rfl, hv.2.2.1, hv.2.2.2.1, hv.2.2.2.2⟩ (by omega)
  obtain ⟨-, ⟨w1, w2, w3⟩, -, -, -⟩ := hv
  rintro ⟨⟨_, _, _, ⟨w0, w9⟩, n, _, i, _⟩, ⟨c0, c1, c2, _⟩, ⟨b0, b1, b2, _, _⟩, ⟨a0, a1, a2, _, _⟩, hs, l, _⟩ f ⟨g0, g1, g2, g3, g4, g5, g6⟩ ih
  dsimp only at g0 g1 g2 g3 g4 g5 g6 ih
  have ea : a0 = v.2.2.2.1.1 := congrArg (·.1) g1
  have eb : a1 = 2 := (congrArg (·.2.1) g1).trans w3
  unfold qN31_8
  dsimp only
  have ew : IntKind.i64.wrap (a0 * a1) = v.2.2.2.1.1 * 2 := by rw [eb, ea]; exact w64 (by omega) (by omega)
  rw [ew]
  by_cases hk : i < v.2.2.2.1.1 * 2
  · refine all_t (by simpa using hk) ?_
    have e : IntKind.i64.wrap (i + 1) = i + 1 := w64 (by omega) (by omega)
    refine all_t (K45_ok _ (by (repeat ((try dsimp only); first | assumption | (with_reducible first | apply G75_cur | apply G80_cur | apply G106_cur | apply G66_cur | apply G45_cur))))) ?_
    have c5 : CurOk (G45 (((), 3, ()), (c0, c1, c2, ()), ())).snd.fst := by (repeat ((try dsimp only); first | assumption | (with_reducible first | apply G75_cur | apply G80_cur | apply G106_cur | apply G66_cur | apply G45_cur)))
    generalize G45 (((), 3, ()), (c0, c1, c2, ()), ()) = A at *
    rw [e]
    refine all_b (fun _ => ?_) (fun _ => ?_)
    · haveI := e74
      refine allK_intro fun g => ?_
      have hp : p74 (((), ()), A.snd) = true := curB_iff.2 c5
      refine all_t hp ?_
      refine all_t (capOk_of (by simp only [List.length_set, List.length_replicate]; omega)) ?_
      refine ih _ ⟨g.2 _ hp, g1, g2, g3, ?_, ?_, ?_⟩ ?_ <;> simp only [List.length_append, List.length_set, List.length_replicate] <;> omega
    · refine all_t (capOk_of (by simp only [List.length_set, List.length_replicate]; omega)) ?_
      refine ih _ ⟨c5, g1, g2, g3, ?_, ?_, ?_⟩ ?_ <;> simp only [List.length_append, List.length_set, List.length_replicate] <;> omega
  · have hd : decide (i < v.2.2.2.1.1 * 2) = false := by simpa using hk
    rw [hd]
    exact hq0 _ ⟨g0, g1, g2, g3, by show (l.length : Int) = _; omega⟩

theorem field_loop (v : V31_4) (hv : pL31_4 v = true) (h : X31_4 → Option Unit) (hq0 : ∀ y, QL31_4 v y → h y = some ()) : ∃ n, iter (qN31_4 K66 G66 K74 G74 K45 G45 K75 G75 K76 G76 kL31_4 xL31_4 kL31_8 xL31_8 p74 Q74 e74 pL31_4 QL31_4 eL31_4 pL31_8 QL31_8 eL31_8 h) n v = some () := by
  have hv := pL31_4_iff.1 hv
  refine ⟨9, ?_⟩
  refine iter_ind (q := qN31_4 K66 G66 K74 G74 K45 G45 K75 G75 K76 G76 kL31_4 xL31_4 kL31_8 xL31_8 p74 Q74 e74 pL31_4 QL31_4 eL31_4 pL31_8 QL31_8 eL31_8 h)
    (fun u => CurOk u.2.1 ∧ u.2.2.2.1 = v.2.2.2.1 ∧ 0 ≤ u.1.2.2.2.2.1 ∧ (u.2.2.2.2.1.length : Int) + u.1.2.2.2.2.1 ≤ 8 ∧ 1 ≤ (u.2.2.2.2.1.length : Int) + u.1.2.2.2.2.1 ∧ ∀ l ∈ u.2.2.2.2.1, (List.length l : Int) = v.2.2.2.1.1 * 2)
    (fun _ r => r = some ()) (fun u => u.1.2.2.2.2.1.toNat) ?_ _ _ ⟨hv.1, rfl, hv.2.2⟩ (by omega)
  obtain ⟨-, ⟨w1, w2, w3⟩, -, -, -⟩ := hv
  rintro ⟨⟨_, _, _, w0, n, _⟩, ⟨c0, c1, c2, _⟩, ⟨b0, b1, b2, _, _⟩, ⟨a0, a1, a2, _, _⟩, hs, _⟩ f ⟨g0, g1, g2, g3, g4, g5⟩ ih
  dsimp only at g0 g1 g2 g3 g4 g5 ih
  have ea : a0 = v.2.2.2.1.1 := congrArg (·.1) g1
  have eb : a1 = 2 := (congrArg (·.2.1) g1).trans w3
  unfold qN31_4
  dsimp only
  have hz : List.replicate 0 (zero (Ty.cpx FloatKind.f32)) = [] := rfl
  rw [hz]
  by_cases hk : n > 0
  · refine all_t (by simpa using hk) ?_
    have e : IntKind.i64.wrap (n - 1) = n - 1 := w64 (by omega) (by omega)
    have hu : pL31_8 (((), (), (), w0, n, (), 0, ()), (c0, c1, c2, ()), (b0, b1, b2, (), ()), (a0, a1, a2, (), ()), hs, [], ()) = true :=
      pL31_8_iff.2 ⟨g0, ⟨by show 1 ≤ a0; omega, by show a0 ≤ 3; omega, eb⟩, Int.le_refl 0, by show 0 ≤ a0 * 2; omega, rfl⟩
    refine all_t hu ?_
    haveI := eL31_8
    refine allK_intro fun g => ?_
    obtain ⟨q1, q2, q3, q4, q5⟩ := g.2 _ hu
    generalize g.val (((), (), (), w0, n, (), 0, ()), (c0, c1, c2, ()), (b0, b1, b2, (), ()), (a0, a1, a2, (), ()), hs, [], ()) = y at *
    obtain ⟨⟨_, _, _, w, n', _, _⟩, c, b, a, hs', l, _⟩ := y
    dsimp only at q1 q2 q3 q4 q5
    subst q2 q3 q4
    dsimp only
    rw [e]
    refine all_t (capOk_of (by simp only [List.length_set, List.length_replicate]; omega)) ?_
    refine ih _ ⟨q1, g1, ?_, ?_, ?_, ?_⟩ ?_
    · show 0 ≤ n' - 1; omega
    · simp only [List.length_append, List.length_set, List.length_replicate]; omega
    · simp only [List.length_append, List.length_set, List.length_replicate]; omega
    · intro t ht
      rcases List.mem_append.1 ht with h1 | h1
      · exact g5 t h1
      · rw [show t = l from List.mem_singleton.1 h1, q5, ← ea]
    · show (n' - 1).toNat < n'.toNat; omega
  · have hd : decide (n > 0) = false := by simpa using hk
    rw [hd]
    exact hq0 _ ⟨g0, g1, by show 1 ≤ hs.length; omega, by show hs.length ≤ 8; omega, g5⟩

theorem loops31 : NLoopsOK (Γ31 K66 G66 K74 G74 K45 G45 K75 G75 K76 G76 kL31_4 xL31_4 kL31_8 xL31_8) (N31 p74 Q74 e74 pL31_4 QL31_4 eL31_4 pL31_8 QL31_8 eL31_8) (bodyOf Try.f31) := by
  intro c' hc L hL
  have hl : loopsOf (bodyOf Try.f31) = [lc31_4, lc31_8] := by kernel_rfl
  rw [hl] at hc
  rcases List.mem_cons.1 hc with hc | hc
  · subst hc
    have hr : firstRegion lc31_4 = 4 := by kernel_rfl
    rw [hr] at hL
    have hL' : some (loopXN [0, 2, 3, 4, 5] [.boxNil 3 3] 0 [0, 2, 3] [] sh31_4 shX31_4 pL31_4 QL31_4 eL31_4) = some L := hL
    rw [← Option.some.inj hL']
    exact loopXN_sound (sh := sh31_4) (shX := shX31_4) (g := fun h f v => qN31_4 K66 G66 K74 G74 K45 G45 K75 G75 K76 G76 kL31_4 xL31_4 kL31_8 xL31_8 p74 Q74 e74 pL31_4 QL31_4 eL31_4 pL31_8 QL31_8 eL31_8 h f v) (fun h f v => evlN31_4 K66 G66 K74 G74 K45 G45 K75 G75 K76 G76 kL31_4 xL31_4 kL31_8 xL31_8 p74 Q74 e74 pL31_4 QL31_4 eL31_4 pL31_8 QL31_8 eL31_8 h f v) field_loop
  · rw [List.mem_singleton] at hc
    subst hc
    have hr : firstRegion lc31_8 = 8 := by kernel_rfl
    rw [hr] at hL
    have hL' : some (loopXN [0, 2, 3, 4, 5, 6, 7] [] 2 [0, 2, 3, 4, 5, 6] [] sh31_8 shX31_8 pL31_8 QL31_8 eL31_8) = some L := hL
    rw [← Option.some.inj hL']
    exact loopXN_sound (sh := sh31_8) (shX := shX31_8) (g := fun h f v => qN31_8 K66 G66 K74 G74 K45 G45 K75 G75 K76 G76 kL31_4 xL31_4 kL31_8 xL31_8 p74 Q74 e74 pL31_4 QL31_4 eL31_4 pL31_8 QL31_8 eL31_8 h f v) (fun h f v => evlN31_8 K66 G66 K74 G74 K45 G45 K75 G75 K76 G76 kL31_4 xL31_4 kL31_8 xL31_8 p74 Q74 e74 pL31_4 QL31_4 eL31_4 pL31_8 QL31_8 eL31_8 h f v) hour_loop

end Go.Proofs.Ytmmdjajebmihhaa.AM

/- Plainly: the draw of a field of winds, whole. Conditions: those that each lemma names. -/
namespace Go.Proofs.Ytmmdjajebmihhaa.AM
open Go Go.Proofs
set_option linter.unusedVariables false

def HoursG (l : List (Den (.slice (.cpx .f32)))) : Prop := l.length ≤ 8 ∧ ∀ t ∈ l, List.length t ≤ 6
theorem HoursG.nil : HoursG [] := ⟨Nat.zero_le _, fun _ h => by cases h⟩
def p31 (x : I31.den) : Bool := curB x.2.1
def Q31 (x : I31.den) (y : O31.den) : Prop := CurOk y.2.1 ∧ HoursG y.1.1.2.2.2.1
theorem e31 : Nonempty (Ch I31 O31 p31 Q31) := ⟨⟨fun _ => (((0, 0, 0, [], ()), ()), (curZ, ())), fun _ _ => ⟨curZ_ok, HoursG.nil⟩⟩⟩
theorem field_n (d e : Int) (hd : 0 ≤ d ∧ d < 3) (he : 0 ≤ e ∧ e < 2) : 1 ≤ IntKind.i64.wrap (1 + IntKind.i64.wrap (d * e)) ∧ IntKind.i64.wrap (1 + IntKind.i64.wrap (d * e)) ≤ 3 := by
  have h1 : 0 ≤ d * e ∧ d * e ≤ 2 := by
    rcases (by omega : e = 0 ∨ e = 1) with h1 | h1 <;> rw [h1] <;> omega
  rw [w64 (x := d * e) (by omega) (by omega), w64 (by omega) (by omega)]
  omega
theorem field_w (a : Int) (h : 0 ≤ a ∧ a < 2) : 1 ≤ IntKind.i64.wrap (2 + a) ∧ IntKind.i64.wrap (2 + a) ≤ 3 := by
  rw [w64 (by omega) (by omega)]
  omega

theorem fam31 : FamOK Try.prog 31 (sgFam true I31 O31 p31 Q31 e31) := sgN_ok env31 (N := N31 p74 Q74 e74 pL31_4 QL31_4 eL31_4 pL31_8 QL31_8 eL31_8) (mkN_ok ⟨fam74, trivial⟩) is31 loops31 fun x hx k hk => by
  have hk : ∀ y : O31.den, CurOk y.2.1 ∧ HoursG y.1.1.2.2.2.1 → k y = some () := hk
  have h : CurOk x.2.1 := curB_iff.1 hx
  refine Eq.trans (evN31 _ _ _ _ _ _ _ _ _ _ _ _ _ _ _ _ _ _ _ _ _ _ _ k x) ?_
  unfold rN31
  dsimp only
  haveI := e74
  haveI := eL31_4
  have below : ∀ (n : Int) (c : List Int × Int × Int × Unit), CurOk c → 0 < n → 0 ≤ ((G66 (((), n, ()), c, ())).1.1 : Int) ∧ ((G66 (((), n, ()), c, ())).1.1 : Int) < n := fun n c h hn => below_bd n c h hn
  refine all_t (K66_ok _ (by (repeat ((try dsimp only); first | assumption | (with_reducible first | apply G75_cur | apply G80_cur | apply G106_cur | apply G66_cur | apply G45_cur))))) ?_
  have b1 := below 2 x.2.1 h (by decide)
  have c1 : CurOk (G66 (((), 2, ()), x.snd)).snd.fst := by (repeat ((try dsimp only); first | assumption | (with_reducible first | apply G75_cur | apply G80_cur | apply G106_cur | apply G66_cur | apply G45_cur)))
  generalize hA : G66 (((), 2, ()), x.snd) = A at *
  have b1' : 0 ≤ (A.fst.fst : Int) ∧ (A.fst.fst : Int) < 2 := by rw [← hA]; exact below 2 x.2.1 h (by decide)
  clear hA b1
  refine all_t (K66_ok _ (by (repeat ((try dsimp only); first | assumption | (with_reducible first | apply G75_cur | apply G80_cur | apply G106_cur | apply G66_cur | apply G45_cur))))) ?_
  have c2 : CurOk (G66 (((), 3000, ()), A.snd)).snd.fst := by (repeat ((try dsimp only); first | assumption | (with_reducible first | apply G75_cur | apply G80_cur | apply G106_cur | apply G66_cur | apply G45_cur)))
  generalize G66 (((), 3000, ()), A.snd) = B at *
  refine allK_intro fun g => ?_
  have hp : p74 (((), ()), B.snd) = true := curB_iff.2 c2
  have q1 := g.2 _ hp
  have q1 : CurOk (g.val (((), ()), B.snd)).2.1 := q1
  refine all_t hp ?_
  generalize g.val (((), ()), B.snd) = C at *
  refine all_t (K66_ok _ (by (repeat ((try dsimp only); first | assumption | (with_reducible first | apply G75_cur | apply G80_cur | apply G106_cur | apply G66_cur | apply G45_cur))))) ?_
  have b3 : 0 ≤ ((G66 (((), 3, ()), C.snd)).1.1 : Int) ∧ ((G66 (((), 3, ()), C.snd)).1.1 : Int) < 3 := below 3 C.2.1 q1 (by decide)
  have c3 : CurOk (G66 (((), 3, ()), C.snd)).snd.fst := by (repeat ((try dsimp only); first | assumption | (with_reducible first | apply G75_cur | apply G80_cur | apply G106_cur | apply G66_cur | apply G45_cur)))
  generalize G66 (((), 3, ()), C.snd) = D at *
  refine all_t (K66_ok _ (by (repeat ((try dsimp only); first | assumption | (with_reducible first | apply G75_cur | apply G80_cur | apply G106_cur | apply G66_cur | apply G45_cur))))) ?_
  have b4 : 0 ≤ ((G66 (((), 2, ()), D.snd)).1.1 : Int) ∧ ((G66 (((), 2, ()), D.snd)).1.1 : Int) < 2 := below 2 D.2.1 c3 (by decide)
  have c4 : CurOk (G66 (((), 2, ()), D.snd)).snd.fst := by (repeat ((try dsimp only); first | assumption | (with_reducible first | apply G75_cur | apply G80_cur | apply G106_cur | apply G66_cur | apply G45_cur)))
  generalize G66 (((), 2, ()), D.snd) = E at *
  have hn : 1 ≤ IntKind.i64.wrap (1 + IntKind.i64.wrap (D.fst.fst * E.fst.fst)) ∧ IntKind.i64.wrap (1 + IntKind.i64.wrap (D.fst.fst * E.fst.fst)) ≤ 3 := field_n _ _ b3 b4
  have hw : 1 ≤ IntKind.i64.wrap (2 + A.fst.fst) ∧ IntKind.i64.wrap (2 + A.fst.fst) ≤ 3 := field_w _ b1'
  generalize IntKind.i64.wrap (1 + IntKind.i64.wrap (D.fst.fst * E.fst.fst)) = n at *
  generalize IntKind.i64.wrap (2 + A.fst.fst) = wd at *
  generalize IntKind.i64.wrap (100 + B.fst.fst) = m at *
  have hu : pL31_4 (((), (), (), C.fst.fst, n, ()), E.snd.fst, (0, 0, 0, (), ()), (wd, 2, m, (), ()), [], ()) = true :=
    pL31_4_iff.2 ⟨c4, ⟨hw.1, hw.2, rfl⟩, by show 0 ≤ n; omega, by show (0 : Int) + n ≤ 8; omega, by show 1 ≤ (0 : Int) + n; omega, fun _ h => by cases h⟩
  refine all_t hu ?_
  refine allK_intro fun g => ?_
  obtain ⟨s1, s2, s3, s4, s5⟩ := g.2 _ hu
  generalize g.val (((), (), (), C.fst.fst, n, ()), E.snd.fst, (0, 0, 0, (), ()), (wd, 2, m, (), ()), [], ()) = y at *
  obtain ⟨_, c, b, w, hs, _⟩ := y
  dsimp only at s1 s2 s3 s4 s5
  subst s2
  dsimp only
  have hg : HoursG hs := ⟨s4, fun t ht => by have := s5 t ht; omega⟩
  have c6 : CurOk (G66 (((), 30, ()), c, ())).snd.fst := by (repeat ((try dsimp only); first | assumption | (with_reducible first | apply G75_cur | apply G80_cur | apply G106_cur | apply G66_cur | apply G45_cur)))
  refine all_t (K66_ok _ (by (repeat ((try dsimp only); first | assumption | (with_reducible first | apply G75_cur | apply G80_cur | apply G106_cur | apply G66_cur | apply G45_cur))))) ?_
  generalize G66 (((), 30, ()), c, ()) = F at *
  refine all_b (fun _ => ?_) (fun _ => ?_)
  · refine all_t (K75_ok _ (by (repeat ((try dsimp only); first | assumption | (with_reducible first | apply G75_cur | apply G80_cur | apply G106_cur | apply G66_cur | apply G45_cur))))) ?_
    exact hk _ ⟨by (repeat ((try dsimp only); first | assumption | (with_reducible first | apply G75_cur | apply G80_cur | apply G106_cur | apply G66_cur | apply G45_cur))), hg⟩
  refine all_b (fun _ => hk _ ⟨by (repeat ((try dsimp only); first | assumption | (with_reducible first | apply G75_cur | apply G80_cur | apply G106_cur | apply G66_cur | apply G45_cur))), hg⟩) (fun _ => ?_)
  refine all_b (fun _ => ?_) (fun _ => ?_)
  · refine all_t (K76_ok _ (by (repeat ((try dsimp only); first | assumption | (with_reducible first | apply G75_cur | apply G80_cur | apply G106_cur | apply G66_cur | apply G45_cur)))) (by simp)) ?_
    exact hk _ ⟨G76_cur _ (by (repeat ((try dsimp only); first | assumption | (with_reducible first | apply G75_cur | apply G80_cur | apply G106_cur | apply G66_cur | apply G45_cur)))) (by simp), hg⟩
  refine all_b (fun _ => hk _ ⟨by (repeat ((try dsimp only); first | assumption | (with_reducible first | apply G75_cur | apply G80_cur | apply G106_cur | apply G66_cur | apply G45_cur))), HoursG.nil⟩) (fun _ => ?_)
  refine all_b (fun _ => ?_) (fun _ => hk _ ⟨by (repeat ((try dsimp only); first | assumption | (with_reducible first | apply G75_cur | apply G80_cur | apply G106_cur | apply G66_cur | apply G45_cur))), hg⟩)
  have d0 : (decide ((0 : Int) ≤ 0) && decide ((0 : Int) < (hs.length : Int))) = true := by simp; omega
  refine all_t d0 ?_
  have hm : List.getD hs (Int.toNat 0) (zero (Ty.slice (Ty.cpx FloatKind.f32))) ∈ hs := by
    have h0 : 0 < hs.length := by omega
    show hs.getD 0 _ ∈ hs
    rw [List.getD_eq_getElem?_getD, List.getElem?_eq_getElem h0]
    exact List.getElem_mem h0
  generalize List.getD hs (Int.toNat 0) (zero (Ty.slice (Ty.cpx FloatKind.f32))) = t at *
  have ht := s5 t hm
  have h6 := hg.2 t hm
  refine all_t (by simp; omega) ?_
  refine all_t d0 ?_
  refine hk _ ⟨c6, ?_, ?_⟩
  · show (List.set hs _ _).length ≤ 8
    rw [List.length_set]; exact s4
  · intro u hu
    rcases List.mem_or_eq_of_mem_set hu with h1 | h1
    · exact hg.2 u h1
    · rw [h1]
      simp only [List.length_drop, List.length_take]; omega

end Go.Proofs.Ytmmdjajebmihhaa.AM

/- Plainly: what the law FnNodesNear is handed. Conditions: those that each lemma names. -/
namespace Go.Proofs.Ytmmdjajebmihhaa.AM
open Go Go.Proofs
set_option linter.unusedVariables false

theorem node_ok (x : I32.den) (h : CurOk x.2.1) : Pst (F32 x) fun y => CurOk y.2.1 := by
  unfold F32 r32
  dsimp only
  refine pst_t (K45_ok _ (by (repeat ((try dsimp only); first | assumption | (with_reducible first | apply G75_cur | apply G80_cur | apply G106_cur | apply G66_cur | apply G45_cur))))) ?_
  refine pst_b (fun _ => ?_) (fun _ => ?_)
  · refine pst_t (K76_ok _ (by (repeat ((try dsimp only); first | assumption | (with_reducible first | apply G75_cur | apply G80_cur | apply G106_cur | apply G66_cur | apply G45_cur)))) (by simp)) ?_
    exact pst_some (G76_cur _ (by (repeat ((try dsimp only); first | assumption | (with_reducible first | apply G75_cur | apply G80_cur | apply G106_cur | apply G66_cur | apply G45_cur)))) (by simp))
  · have c1 : CurOk (G45 (((), 25, ()), x.snd)).snd.fst := by (repeat ((try dsimp only); first | assumption | (with_reducible first | apply G75_cur | apply G80_cur | apply G106_cur | apply G66_cur | apply G45_cur)))
    generalize G45 (((), 25, ()), x.snd) = A at *
    generalize IntKind.i64.wrap (IntKind.i64.wrap (_ * 0) + 4) = z at *
    refine pst_t (K66_ok _ c1) ?_
    exact pst_some (G66_cur _ c1)
theorem K32_ok (x : I32.den) (h : CurOk x.2.1) : K32 x = true := pst_k (node_ok x h)
theorem G32_cur (x : I32.den) (h : CurOk x.2.1) : CurOk (G32 x).2.1 := pst_g _ (node_ok x h)
theorem time_ok (x : I33.den) (h : CurOk x.2.1) : Pst (F33 x) fun y => CurOk y.2.1 := by
  unfold F33 r33
  dsimp only
  refine pst_t (K45_ok _ (by (repeat ((try dsimp only); first | assumption | (with_reducible first | apply G75_cur | apply G80_cur | apply G106_cur | apply G66_cur | apply G45_cur))))) ?_
  refine pst_b (fun _ => ?_) (fun _ => ?_)
  · refine pst_t (K76_ok _ (by (repeat ((try dsimp only); first | assumption | (with_reducible first | apply G75_cur | apply G80_cur | apply G106_cur | apply G66_cur | apply G45_cur)))) (by simp)) ?_
    exact pst_some (G76_cur _ (by (repeat ((try dsimp only); first | assumption | (with_reducible first | apply G75_cur | apply G80_cur | apply G106_cur | apply G66_cur | apply G45_cur)))) (by simp))
  · refine pst_t (K66_ok _ (by (repeat ((try dsimp only); first | assumption | (with_reducible first | apply G75_cur | apply G80_cur | apply G106_cur | apply G66_cur | apply G45_cur))))) ?_
    exact pst_some (by (repeat ((try dsimp only); first | assumption | (with_reducible first | apply G75_cur | apply G80_cur | apply G106_cur | apply G66_cur | apply G45_cur))))
theorem K33_ok (x : I33.den) (h : CurOk x.2.1) : K33 x = true := pst_k (time_ok x h)
theorem G33_cur (x : I33.den) (h : CurOk x.2.1) : CurOk (G33 x).2.1 := pst_g _ (time_ok x h)

def codeB (l : List Int) : Bool := decide (l.length ≤ 1048576)
def pT8 (x : Den A8) : Bool := codeB x.1
def QT8 (x : Den A8) (y : Den R8) : Prop := HoursG y.1.2.2.2.1
theorem eT8 : Nonempty (ChT A8 R8 pT8 QT8) := ⟨⟨fun _ => ((0, 0, 0, [], ()), 0, 0, ()), fun _ _ => HoursG.nil⟩⟩
theorem fam8 : FamOK Try.prog 8 (fnFam A8 R8 pT8 QT8 eT8) := fnN_ok env8 (N := N8 p31 Q31 e31) (mkN_ok ⟨fam31, trivial⟩) is8 noNLoops fun x hx k hk => by
  have hk : ∀ y : Den R8, HoursG y.1.2.2.2.1 → k y = some () := hk
  have h : x.1.length ≤ 1048576 := by simpa [pT8, codeB] using hx
  refine Eq.trans (evN8 _ _ _ _ _ _ _ _ _ _ _ k x) ?_
  unfold rN8
  dsimp only
  have c0 := G30_cur (x, ()) h
  haveI := e31
  refine all_t (K30_ok (x, ()) h) ?_
  refine allK_intro fun g => ?_
  have hp : p31 (((), ()), (G30 (x, ())).snd) = true := curB_iff.2 c0
  obtain ⟨q1, q2⟩ := g.2 _ hp
  refine all_t hp ?_
  generalize g.val (((), ()), (G30 (x, ())).snd) = A at *
  refine all_t (K32_ok _ q1) ?_
  have c1 : CurOk (G32 (((), A.fst), A.snd)).snd.fst := G32_cur (((), A.fst), A.snd) q1
  generalize G32 (((), A.fst), A.snd) = B at *
  refine all_t (K33_ok _ c1) ?_
  exact hk _ q2

theorem nok3 : NOK Try.prog (N3 pT8 QT8 eT8) := mkN_ok ⟨fam8, trivial⟩

end Go.Proofs.Ytmmdjajebmihhaa.AM

/- Plainly: what a field of winds must meet; both sides ask the same. Conditions: short lists. -/
namespace Go.Proofs.Ytmmdjajebmihhaa.AM
open Go Go.Proofs
set_option linter.unusedVariables false

def amt (s : Nat) : Nat := bif flt .f32 s 0 then fneg .f32 s else s
theorem F67_eq (s : Nat) : F67 (s, ()) = some (amt s, ()) := by
  unfold F67 r67 amt
  cases flt .f32 s 0 <;> rfl
theorem F70_eq (s : Nat) : F70 (s, ()) = some (amt s, ()) := by
  unfold F70 r70 amt
  cases flt .f32 s 0 <;> rfl
def le100 (s : Nat) : Bool := flt .f32 (amt s) 1120403456 || feq .f32 (amt s) 1120403456
def velB (c : Nat × Nat) : Bool := le100 c.1 && le100 c.2
theorem F103_eq (c : Nat × Nat) : F103 (c, ()) = some (velB c, ()) := by
  unfold F103 r103 velB
  have e1 : F67 (c.1, ()) = some (amt c.1, ()) := F67_eq c.1
  have e2 : F67 (c.2, ()) = some (amt c.2, ()) := F67_eq c.2
  simp only [K67, G67, e1, e2, Option.isSome_some, Option.getD_some, cond_true]
  show (bif le100 c.1 then some (le100 c.2, ()) else some (false, ())) = _
  cases le100 c.1 <;> rfl
theorem F78_eq (c : Nat × Nat) : F78 (c, ()) = some (velB c, ()) := by
  unfold F78 r78 velB
  have e1 : F70 (c.1, ()) = some (amt c.1, ()) := F70_eq c.1
  have e2 : F70 (c.2, ()) = some (amt c.2, ()) := F70_eq c.2
  simp only [K70, G70, e1, e2, Option.isSome_some, Option.getD_some, cond_true]
  show (bif le100 c.1 then some (le100 c.2, ()) else some (false, ())) = _
  cases le100 c.1 <;> rfl

def atV (l : List (Nat × Nat)) (i : Nat) : Nat × Nat := l.getD i (0, 0)
def hourB (l : List (Nat × Nat)) : Bool := allFrom (fun i => velB (atV l i)) 0 l.length
theorem F77_eq (l : List (Nat × Nat)) (h : l.length ≤ 6) : F77 (l, ()) = some (hourB l, ()) := by
  have hl : l77_2 ((l, (l.length : Int), (0 : Int), ()), ()) = some (bif hourB l then .inl ((), ()) else .inr ((false, ()), ())) := by
    refine (iter_allB (q := q77_2 K103 G103) (fun k => ((l, (l.length : Int), (k : Int), ()), ())) l.length (fun i => velB (atV l i)) _ _ ?_ ?_ _ ?_ : _)
    · intro k f hk
      unfold q77_2
      have e1 : decide ((k : Int) < (l.length : Int)) = true := by simpa using hk
      have e2 : decide (0 ≤ (k : Int)) = true := by simp
      have ha : List.getD l k (zero (Ty.cpx FloatKind.f32)) = atV l k := rfl
      have e3 : F103 (atV l k, ()) = some (velB (atV l k), ()) := F103_eq _
      simp only [w64n k (by omega), e1, e2, Bool.and_self, cond_true, Int.toNat_natCast, ha, K103, G103, e3, Option.isSome_some, Option.getD_some]
      cases velB (atV l k) <;> rfl
    · intro f
      simp [q77_2]
    · simp only [b77_2]; omega
  unfold F77 r77
  simp only [kL77_2, tL77_2, yL77_2, hl, Option.isSome_some, cond_true]
  cases hourB l <;> rfl

def inB (x a b : Int) : Bool := decide (a ≤ x) && decide (x ≤ b)
theorem F48_eq (x a b : Int) : F48 (x, a, b, ()) = some (inB x a b, ()) := by
  unfold F48 r48 inB
  show (bif decide (x ≥ a) then some (decide (x ≤ b), ()) else some (false, ())) = _
  show (bif decide (a ≤ x) then some (decide (x ≤ b), ()) else some (false, ())) = _
  cases decide (a ≤ x) <;> rfl
theorem F39_eq (x a b : Int) : F39 (x, a, b, ()) = some (inB x a b, ()) := F48_eq x a b

abbrev FieldT : Type := Int × Int × Int × List (List (Nat × Nat)) × Unit
def atH (f : FieldT) (i : Nat) : List (Nat × Nat) := f.2.2.2.1.getD i []
def hourOk (f : FieldT) (i : Nat) : Bool := decide (((atH f i).length : Int) = IntKind.i64.wrap (f.1 * f.2.1)) && hourB (atH f i)
def fieldOkB (f : FieldT) : Bool := inB f.1 2 12 && (inB f.2.1 2 12 && (inB f.2.2.1 10 100000 && (inB (f.2.2.2.1.length : Int) 1 24 && allFrom (hourOk f) 0 f.2.2.2.1.length)))
theorem atH_len {f : FieldT} (h : HoursG f.2.2.2.1) (i : Nat) : (atH f i).length ≤ 6 := by
  unfold atH
  rw [List.getD_eq_getElem?_getD]
  by_cases hi : i < f.2.2.2.1.length
  · rw [List.getElem?_eq_getElem hi]
    exact h.2 _ (List.getElem_mem hi)
  · rw [List.getElem?_eq_none (by omega)]
    exact Nat.zero_le _

theorem F34_eq (f : FieldT) (h : HoursG f.2.2.2.1) : F34 (f, ()) = some (fieldOkB f, ()) := by
  obtain ⟨a, b, m, hs, _⟩ := f
  have hlen : hs.length ≤ 8 := h.1
  have hl : l34_4 (((), hs, (hs.length : Int), (0 : Int), ()), (a, b, m, hs, ()), ()) = some (bif allFrom (hourOk (a, b, m, hs, ())) 0 hs.length then .inl ((), ()) else .inr ((false, ()), ())) := by
    refine (iter_allB (q := q34_4 K48 G48 K77 G77) (fun k => (((), hs, (hs.length : Int), (k : Int), ()), (a, b, m, hs, ()), ())) hs.length (hourOk (a, b, m, hs, ())) _ _ ?_ ?_ _ ?_ : _)
    · intro k f hk
      unfold q34_4 hourOk
      have e1 : decide ((k : Int) < (hs.length : Int)) = true := by simpa using hk
      have e2 : decide (0 ≤ (k : Int)) = true := by simp
      have ha : List.getD hs k (zero (Ty.slice (Ty.cpx FloatKind.f32))) = atH (a, b, m, hs, ()) k := rfl
      have e3 : F77 (atH (a, b, m, hs, ()) k, ()) = some (hourB (atH (a, b, m, hs, ()) k), ()) := F77_eq _ (atH_len h k)
      simp only [w64n k (by omega), e1, e2, Bool.and_self, cond_true, Int.toNat_natCast, ha, K77, G77, e3, Option.isSome_some, Option.getD_some]
      by_cases hc : ((atH (a, b, m, hs, ()) k).length : Int) = IntKind.i64.wrap (a * b)
      · simp only [hc, bne_self_eq_false, cond_false, decide_true, Bool.true_and]
        cases hourB (atH (a, b, m, hs, ()) k) <;> rfl
      · have : (((atH (a, b, m, hs, ()) k).length : Int) != IntKind.i64.wrap (a * b)) = true := by simpa using hc
        simp only [this, hc, cond_true, decide_false, Bool.false_and, cond_false]
    · intro f
      simp [q34_4]
    · simp only [b34_4]; omega
  have i1 : F48 (a, 2, 12, ()) = some (inB a 2 12, ()) := F48_eq _ _ _
  have i2 : F48 (b, 2, 12, ()) = some (inB b 2 12, ()) := F48_eq _ _ _
  have i3 : F48 (m, 10, 100000, ()) = some (inB m 10 100000, ()) := F48_eq _ _ _
  have i4 : F48 ((hs.length : Int), 1, 24, ()) = some (inB (hs.length : Int) 1 24, ()) := F48_eq _ _ _
  unfold F34 r34 fieldOkB
  simp only [K48, G48, i1, i2, i3, i4, kL34_4, tL34_4, yL34_4, hl, Option.isSome_some, Option.getD_some, cond_true]
  cases inB a 2 12 <;> cases inB b 2 12 <;> cases inB m 10 100000 <;> cases inB (hs.length : Int) 1 24 <;> cases allFrom (hourOk (a, b, m, hs, ())) 0 hs.length <;> rfl

end Go.Proofs.Ytmmdjajebmihhaa.AM
