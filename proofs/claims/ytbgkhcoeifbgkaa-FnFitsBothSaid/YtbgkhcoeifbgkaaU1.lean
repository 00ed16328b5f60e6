/- What functions of the program make of their arguments; each is what its evaluation says. Printed by fx.py. -/
import Derived.Test.YtbgkhcoeifbgkaaT0
import Derived.Test.YtbgkhcoeifbgkaaU0
namespace Go.Proofs.Ytbgkhcoeifbgkaa.AM
open Go Go.Proofs
set_option linter.unusedVariables false
set_option maxRecDepth 100000
set_option maxHeartbeats 0

/- "loop.example/g03321/laws.szSailS" -/
abbrev A26 : Ty := .cons (.slice (S23)) (.cons (.int .i64) (.nil))
abbrev R26 : Ty := .cons (.int .i64) (.nil)
abbrev V26_5 : Type := (((List (Den (S23))) × (Int × (Int × Unit))) × Unit)
def sh26_5 : ShS := ⟨[(0, .one (.sl (S23))), (1, .one (.int .i64)), (5, .one (.int .i64))], [], 0, 0⟩
abbrev X26_5 : Type := ((Int × Unit) × Unit)
def shX26_5 : ShS := ⟨[(1, .one (.int .i64))], [], 0, 0⟩
abbrev Y26_5 : Type := ((Int × Unit) × Unit)
def shY26_5 : ShS := ⟨[(4, .one (.int .i64))], [], 0, 0⟩
noncomputable def Γ26 (k15 : Den A15 → Bool) (g15 : Den A15 → Den R15) (kl5 : V26_5 → Bool) (xl5 : V26_5 → X26_5) (tl5 : V26_5 → Bool) (yl5 : V26_5 → Y26_5) : Env := mkEnv tab eqs [(15, fnMean A15 R15 k15 g15)] 27 [.tmp 4] [] [] [(5, loopR [0, 1, 5] [] 0 [1] [] sh26_5 shX26_5 shY26_5 kl5 tl5 xl5 yl5)] [] []
noncomputable def lc26_5 : Code := (loopsOf (bodyOf Try.f26)).getD 0 .skip
def q26_5 (k15 : Den A15 → Bool) (g15 : Den A15 → Den R15) (f : V26_5 → Option (X26_5 ⊕ Y26_5)) (v : V26_5) : Option (X26_5 ⊕ Y26_5) :=
  bif (decide (v.fst.snd.snd.fst < (↑(List.length v.fst.fst) : Int))) then
    bif (decide (0 ≤ v.fst.snd.snd.fst) && decide (v.fst.snd.snd.fst < (↑(List.length v.fst.fst) : Int))) then
      let v0 := (List.getD v.fst.fst (Int.toNat v.fst.snd.snd.fst) (zero S23))
      let v1 := (k15 ((v0.fst, v0.snd.fst, v0.snd.snd.fst, v0.snd.snd.snd.fst, v0.snd.snd.snd.snd.fst, ()), v.fst.snd.fst, ()))
      bif (v1) then
        let v2 := (g15 ((v0.fst, v0.snd.fst, v0.snd.snd.fst, v0.snd.snd.snd.fst, v0.snd.snd.snd.snd.fst, ()), v.fst.snd.fst, ()))
        bif (decide (v2.fst < 0)) then
          some (Sum.inr (((-1), ()), ()))
        else
          let v3 := (IntKind.wrap IntKind.i64 (v.fst.snd.snd.fst + 1))
          f (((v.fst.1), ((v2.1), ((v3), ()))), ())
      else
        none
    else
      none
  else
    some (Sum.inl (((v.fst.snd.1), ()), ()))
theorem evl26_5 (k15 : Den A15 → Bool) (g15 : Den A15 → Den R15) (kl5 : V26_5 → Bool) (xl5 : V26_5 → X26_5) (tl5 : V26_5 → Bool) (yl5 : V26_5 → Y26_5) (f : V26_5 → Option (X26_5 ⊕ Y26_5)) (v : V26_5) : EBk (Γ26 k15 g15 kl5 xl5 tl5 yl5) lc26_5 (roundK [0, 1, 5] [] 0 [1] [] (atS sh26_5 f) (endS shX26_5 shY26_5)) (mkS sh26_5 v) = q26_5 k15 g15 f v := by kernel_rfl
def b26_5 (v : V26_5) : Nat := v.1.1.length + v.1.2.1.natAbs + v.1.2.2.1.natAbs + 1000
def l26_5 (v : V26_5) : Option (X26_5 ⊕ Y26_5) := iter (q26_5 K15 G15) (b26_5 v) v
def kL26_5 (v : V26_5) : Bool := (l26_5 v).isSome
def tL26_5 (v : V26_5) : Bool := isR (l26_5 v)
def xL26_5 (v : V26_5) : X26_5 := xOf ((0, ()), ()) (l26_5 v)
def yL26_5 (v : V26_5) : Y26_5 := yOf ((0, ()), ()) (l26_5 v)
def r26 (k15 : Den A15 → Bool) (g15 : Den A15 → Den R15) (kl5 : V26_5 → Bool) (xl5 : V26_5 → X26_5) (tl5 : V26_5 → Bool) (yl5 : V26_5 → Y26_5) (x : Den A26) : Option (Den R26) :=
  let v0 := (IntKind.wrap IntKind.i64 (x.snd.fst - (↑(List.length x.fst) : Int)))
  bif (decide (v0 < 0)) then
    some ((-1), ())
  else
    let v1 := (kl5 ((x.fst, v0, 0, ()), ()))
    bif (v1) then
      let v2 := (tl5 ((x.fst, v0, 0, ()), ()))
      bif (v2) then
        let v3 := (yl5 ((x.fst, v0, 0, ()), ()))
        some ((v3.fst.1), ())
      else
        let v3 := (xl5 ((x.fst, v0, 0, ()), ()))
        some ((v3.fst.1), ())
    else
      none
theorem ev26 (k15 : Den A15 → Bool) (g15 : Den A15 → Den R15) (kl5 : V26_5 → Bool) (xl5 : V26_5 → X26_5) (tl5 : V26_5 → Bool) (yl5 : V26_5 → Y26_5) (x : Den A26) : callK (Γ26 k15 g15 kl5 xl5 tl5 yl5) (bodyOf Try.f26) (decR R26) (encA A26 x) [] = r26 k15 g15 kl5 xl5 tl5 yl5 x := by kernel_rfl
def F26 (x : Den A26) : Option (Den R26) := r26 K15 G15 kL26_5 xL26_5 tL26_5 yL26_5 x
def K26 (x : Den A26) : Bool := (F26 x).isSome
def G26 (x : Den A26) : Den R26 := (F26 x).getD (zero R26)
theorem env26 : EnvOK Try.prog (Γ26 K15 G15 kL26_5 xL26_5 tL26_5 yL26_5) := env_ok mixed tab_ok eqs_ok (.cons sem15 .nil)
theorem is26 : FnIs Try.prog 26 (Γ26 K15 G15 kL26_5 xL26_5 tL26_5 yL26_5) (bodyOf Try.f26) := fnIs Try.func26 rfl rfl rfl (by kernel_rfl) (loops_ok (l := [lc26_5]) (by kernel_rfl) (.cons (one_loop rfl (loopR_sound (sh := sh26_5) (shX := shX26_5) (shR := shY26_5) (fun f v => evl26_5 K15 G15 kL26_5 xL26_5 tL26_5 yL26_5 f v) b26_5 ((0, ()), ()) ((0, ()), ()))) (.nil)))
theorem sem26 : SemOK Try.prog (26, fnMean A26 R26 K26 G26) := fn_opt env26 is26 fun x => ev26 K15 G15 kL26_5 xL26_5 tL26_5 yL26_5 x

/- "loop.example/g03321/laws.toSailS" mode S false -/
abbrev I28 : Sg := ⟨[.val (.slice (S23))], []⟩
abbrev O28 : Sg := ⟨[.own (S23) 0], [.arr (S23)]⟩
abbrev V28_3 : Type := (((List (Den (S23))) × (Unit × (Int × Unit))) × ((List (Den (S23))) × Unit))
def sh28_3 : ShS := ⟨[(0, .one (.sl (S23))), (3, .one (.ref (S23) 0)), (4, .one (.int .i64))], [(0, .arr (S23))], 1, 0⟩
abbrev X28_3 : Type := ((Unit × Unit) × ((List (Den (S23))) × Unit))
def shX28_3 : ShS := ⟨[(3, .one (.ref (S23) 0))], [(0, .arr (S23))], 1, 0⟩
noncomputable def Γ28 (k17 : Den A17 → Bool) (g17 : Den A17 → Den R17) (kl3 : V28_3 → Bool) (xl3 : V28_3 → X28_3) : Env := mkEnv tab eqs [(17, fnMean A17 R17 k17 g17)] 23 [.tmp 2] [] [] [(3, loopX [0, 3, 4] [] 0 [3] [] sh28_3 shX28_3 kl3 xl3)] [] []
noncomputable def lc28_3 : Code := (loopsOf (bodyOf Try.f28)).getD 0 .skip
def q28_3 (k17 : Den A17 → Bool) (g17 : Den A17 → Den R17) (f : V28_3 → Option (X28_3)) (v : V28_3) : Option (X28_3) :=
  bif (decide (v.fst.snd.snd.fst < (↑(List.length v.fst.fst) : Int))) then
    bif (decide (0 ≤ v.fst.snd.snd.fst) && decide (v.fst.snd.snd.fst < (↑(List.length v.fst.fst) : Int))) then
      let v0 := (List.getD v.fst.fst (Int.toNat v.fst.snd.snd.fst) (zero S23))
      let v1 := (k17 ((v0.fst, v0.snd.fst, v0.snd.snd.fst, v0.snd.snd.snd.fst, v0.snd.snd.snd.snd.fst, ()), ()))
      bif (v1) then
        bif (decide (0 ≤ v.fst.snd.snd.fst) && decide (v.fst.snd.snd.fst < (↑(List.length v.snd.fst) : Int))) then
          let v2 := (IntKind.wrap IntKind.i64 (v.fst.snd.snd.fst + 1))
          let v3 := (g17 ((v0.fst, v0.snd.fst, v0.snd.snd.fst, v0.snd.snd.snd.fst, v0.snd.snd.snd.snd.fst, ()), ()))
          let v4 := (List.set v.snd.fst (Int.toNat v.fst.snd.snd.fst) (v3.fst.fst, v3.fst.snd.fst, v3.fst.snd.snd.fst, v3.fst.snd.snd.snd.fst, v3.fst.snd.snd.snd.snd.fst, ()))
          f (((v.fst.1), ((), ((v2), ()))), ((v4), ()))
        else
          none
      else
        none
    else
      none
  else
    some (((), ()), ((v.snd.1), ()))
theorem evl28_3 (k17 : Den A17 → Bool) (g17 : Den A17 → Den R17) (kl3 : V28_3 → Bool) (xl3 : V28_3 → X28_3) (f : V28_3 → Option (X28_3)) (v : V28_3) : EBk (Γ28 k17 g17 kl3 xl3) lc28_3 (roundK [0, 3, 4] [] 0 [3] [] (atS sh28_3 f) (endX shX28_3)) (mkS sh28_3 v) = q28_3 k17 g17 f v := by kernel_rfl
def b28_3 (v : V28_3) : Nat := v.1.1.length + v.1.2.2.1.natAbs + v.2.1.length + 1000
def l28_3 (v : V28_3) : Option (X28_3) := iter (q28_3 K17 G17) (b28_3 v) v
def kL28_3 (v : V28_3) : Bool := (l28_3 v).isSome
def xL28_3 (v : V28_3) : X28_3 := (l28_3 v).getD (((), ()), ([], ()))
def r28 (k17 : Den A17 → Bool) (g17 : Den A17 → Den R17) (kl3 : V28_3 → Bool) (xl3 : V28_3 → X28_3) (x : I28.den) : Option (O28.den) :=
  bif (decide (0 ≤ (↑(List.length x.fst.fst) : Int)) && capOk (Int.toNat (↑(List.length x.fst.fst) : Int)) && (↑(List.length x.fst.fst) : Int) == (↑(List.length x.fst.fst) : Int)) then
    let v0 := (kl3 ((x.fst.fst, (), 0, ()), List.replicate (Int.toNat (↑(List.length x.fst.fst) : Int)) (zero S23), ()))
    bif (v0) then
      let v1 := (xl3 ((x.fst.fst, (), 0, ()), List.replicate (Int.toNat (↑(List.length x.fst.fst) : Int)) (zero S23), ()))
      some (((), ()), ((v1.snd.1), ()))
    else
      none
  else
    none
theorem ev28 (k17 : Den A17 → Bool) (g17 : Den A17 → Den R17) (kl3 : V28_3 → Bool) (xl3 : V28_3 → X28_3) (x : I28.den) : callS (Γ28 k17 g17 kl3 xl3) (bodyOf Try.f28) I28 O28 x = r28 k17 g17 kl3 xl3 x := by kernel_rfl
def F28 (x : I28.den) : Option (O28.den) := r28 K17 G17 kL28_3 xL28_3 x
def K28 (x : I28.den) : Bool := (F28 x).isSome
def G28 (x : I28.den) : O28.den := (F28 x).getD (zeroSg O28)
theorem env28 : EnvOK Try.prog (Γ28 K17 G17 kL28_3 xL28_3) := env_ok mixed tab_ok eqs_ok (.cons sem17 .nil)
theorem is28 : FnIs Try.prog 28 (Γ28 K17 G17 kL28_3 xL28_3) (bodyOf Try.f28) := fnIs Try.func28 rfl rfl rfl (by kernel_rfl) (loops_ok (l := [lc28_3]) (by kernel_rfl) (.cons (one_loop rfl (loopX_sound (sh := sh28_3) (shX := shX28_3) (fun f v => evl28_3 K17 G17 kL28_3 xL28_3 f v) b28_3 (((), ()), ([], ())))) (.nil)))
theorem sem28 : SemOK Try.prog (28, sgMean false I28 O28 K28 G28) := sg_opt env28 is28 false fun x => ev28 K17 G17 kL28_3 xL28_3 x

/- "loop.example/g03321/spec.l11Name" -/
abbrev A54 : Ty := .cons (.str) (.nil)
abbrev R54 : Ty := .cons (.bool) (.nil)
abbrev V54_2 : Type := ((ByteArray × (Int × Unit)) × Unit)
def sh54_2 : ShS := ⟨[(0, .one (.str)), (3, .one (.int .i64))], [], 0, 0⟩
abbrev X54_2 : Type := ((ByteArray × Unit) × Unit)
def shX54_2 : ShS := ⟨[(0, .one (.str))], [], 0, 0⟩
abbrev Y54_2 : Type := ((Bool × Unit) × Unit)
def shY54_2 : ShS := ⟨[(2, .one (.bool))], [], 0, 0⟩
noncomputable def Γ54 (k53 : Den A53 → Bool) (g53 : Den A53 → Den R53) (kl2 : V54_2 → Bool) (xl2 : V54_2 → X54_2) (tl2 : V54_2 → Bool) (yl2 : V54_2 → Y54_2) : Env := mkEnv tab eqs [(53, fnMean A53 R53 k53 g53)] 27 [.tmp 2] [] [] [(2, loopR [0, 3] [] 0 [0] [] sh54_2 shX54_2 shY54_2 kl2 tl2 xl2 yl2)] [] []
noncomputable def lc54_2 : Code := (loopsOf (bodyOf Try.f54)).getD 0 .skip
def q54_2 (k53 : Den A53 → Bool) (g53 : Den A53 → Den R53) (f : V54_2 → Option (X54_2 ⊕ Y54_2)) (v : V54_2) : Option (X54_2 ⊕ Y54_2) :=
  bif (decide (v.fst.snd.fst < (↑(ByteArray.size v.fst.fst) : Int))) then
    bif (decide (0 ≤ v.fst.snd.fst) && decide (v.fst.snd.fst < (↑(ByteArray.size v.fst.fst) : Int))) then
      bif (decide (strAt v.fst.fst v.fst.snd.fst < 97)) then
        some (Sum.inr (((false), ()), ()))
      else
        bif (decide (0 ≤ v.fst.snd.fst) && decide (v.fst.snd.fst < (↑(ByteArray.size v.fst.fst) : Int))) then
          bif (decide (strAt v.fst.fst v.fst.snd.fst > 122)) then
            some (Sum.inr (((false), ()), ()))
          else
            let v0 := (IntKind.wrap IntKind.i64 (v.fst.snd.fst + 1))
            f (((v.fst.1), ((v0), ())), ())
        else
          none
    else
      none
  else
    some (Sum.inl (((v.fst.1), ()), ()))
theorem evl54_2 (k53 : Den A53 → Bool) (g53 : Den A53 → Den R53) (kl2 : V54_2 → Bool) (xl2 : V54_2 → X54_2) (tl2 : V54_2 → Bool) (yl2 : V54_2 → Y54_2) (f : V54_2 → Option (X54_2 ⊕ Y54_2)) (v : V54_2) : EBk (Γ54 k53 g53 kl2 xl2 tl2 yl2) lc54_2 (roundK [0, 3] [] 0 [0] [] (atS sh54_2 f) (endS shX54_2 shY54_2)) (mkS sh54_2 v) = q54_2 k53 g53 f v := by kernel_rfl
def b54_2 (v : V54_2) : Nat := v.1.1.size + v.1.2.1.natAbs + 1000
def l54_2 (v : V54_2) : Option (X54_2 ⊕ Y54_2) := iter (q54_2 K53 G53) (b54_2 v) v
def kL54_2 (v : V54_2) : Bool := (l54_2 v).isSome
def tL54_2 (v : V54_2) : Bool := isR (l54_2 v)
def xL54_2 (v : V54_2) : X54_2 := xOf ((ByteArray.empty, ()), ()) (l54_2 v)
def yL54_2 (v : V54_2) : Y54_2 := yOf ((false, ()), ()) (l54_2 v)
def r54 (k53 : Den A53 → Bool) (g53 : Den A53 → Den R53) (kl2 : V54_2 → Bool) (xl2 : V54_2 → X54_2) (tl2 : V54_2 → Bool) (yl2 : V54_2 → Y54_2) (x : Den A54) : Option (Den R54) :=
  let v0 := (kl2 ((x.fst, 0, ()), ()))
  bif (v0) then
    let v1 := (tl2 ((x.fst, 0, ()), ()))
    bif (v1) then
      let v2 := (yl2 ((x.fst, 0, ()), ()))
      some ((v2.fst.1), ())
    else
      let v2 := (xl2 ((x.fst, 0, ()), ()))
      let v3 := (k53 ((↑(ByteArray.size v2.fst.fst) : Int), 1, 16, ()))
      bif (v3) then
        let v4 := (g53 ((↑(ByteArray.size v2.fst.fst) : Int), 1, 16, ()))
        bif (v4.1) then
          some ((!bstr v2.fst.fst { data := #[110, 111, 110, 101] }), ())
        else
          some ((false), ())
      else
        none
  else
    none
theorem ev54 (k53 : Den A53 → Bool) (g53 : Den A53 → Den R53) (kl2 : V54_2 → Bool) (xl2 : V54_2 → X54_2) (tl2 : V54_2 → Bool) (yl2 : V54_2 → Y54_2) (x : Den A54) : callK (Γ54 k53 g53 kl2 xl2 tl2 yl2) (bodyOf Try.f54) (decR R54) (encA A54 x) [] = r54 k53 g53 kl2 xl2 tl2 yl2 x := by kernel_rfl
def F54 (x : Den A54) : Option (Den R54) := r54 K53 G53 kL54_2 xL54_2 tL54_2 yL54_2 x
def K54 (x : Den A54) : Bool := (F54 x).isSome
def G54 (x : Den A54) : Den R54 := (F54 x).getD (zero R54)
theorem env54 : EnvOK Try.prog (Γ54 K53 G53 kL54_2 xL54_2 tL54_2 yL54_2) := env_ok mixed tab_ok eqs_ok (.cons sem53 .nil)
theorem is54 : FnIs Try.prog 54 (Γ54 K53 G53 kL54_2 xL54_2 tL54_2 yL54_2) (bodyOf Try.f54) := fnIs Try.func54 rfl rfl rfl (by kernel_rfl) (loops_ok (l := [lc54_2]) (by kernel_rfl) (.cons (one_loop rfl (loopR_sound (sh := sh54_2) (shX := shX54_2) (shR := shY54_2) (fun f v => evl54_2 K53 G53 kL54_2 xL54_2 tL54_2 yL54_2 f v) b54_2 ((ByteArray.empty, ()), ()) ((false, ()), ()))) (.nil)))
theorem sem54 : SemOK Try.prog (54, fnMean A54 R54 K54 G54) := fn_opt env54 is54 fun x => ev54 K53 G53 kL54_2 xL54_2 tL54_2 yL54_2 x

/- "loop.example/g03321/spec.SailsOk" -/
abbrev A27 : Ty := .cons (.slice (S23)) (.nil)
abbrev R27 : Ty := .cons (.bool) (.nil)
abbrev V27_2 : Type := (((List (Den (S23))) × (Int × Unit)) × Unit)
def sh27_2 : ShS := ⟨[(0, .one (.sl (S23))), (3, .one (.int .i64))], [], 0, 0⟩
abbrev X27_2 : Type := (((List (Den (S23))) × Unit) × Unit)
def shX27_2 : ShS := ⟨[(0, .one (.sl (S23)))], [], 0, 0⟩
abbrev Y27_2 : Type := ((Bool × Unit) × Unit)
def shY27_2 : ShS := ⟨[(2, .one (.bool))], [], 0, 0⟩
abbrev V27_8 : Type := (((List (Den (S23))) × (Int × (Unit × (Int × Unit)))) × ((ByteArray × (Nat × (Nat × (Int × (Int × Unit))))) × Unit))
def sh27_8 : ShS := ⟨[(0, .one (.sl (S23))), (3, .one (.int .i64)), (4, .one (.ptr 0 0)), (5, .one (.int .i64))], [(0, .box [.str, .flt .f32, .flt .f32, .int .i64, .int .i64])], 1, 0⟩
abbrev X27_8 : Type := (((List (Den (S23))) × (Int × Unit)) × Unit)
def shX27_8 : ShS := ⟨[(0, .one (.sl (S23))), (3, .one (.int .i64))], [], 0, 0⟩
abbrev Y27_8 : Type := ((Bool × Unit) × Unit)
def shY27_8 : ShS := ⟨[(2, .one (.bool))], [], 0, 0⟩
noncomputable def Γ27 (k54 : Den A54 → Bool) (g54 : Den A54 → Den R54) (k53 : Den A53 → Bool) (g53 : Den A53 → Den R53) (kl2 : V27_2 → Bool) (xl2 : V27_2 → X27_2) (tl2 : V27_2 → Bool) (yl2 : V27_2 → Y27_2) (kl8 : V27_8 → Bool) (xl8 : V27_8 → X27_8) (tl8 : V27_8 → Bool) (yl8 : V27_8 → Y27_8) : Env := mkEnv tab eqs [(54, fnMean A54 R54 k54 g54), (53, fnMean A53 R53 k53 g53)] 68 [.tmp 2] [] [] [(2, loopR [0, 3] [] 0 [0] [] sh27_2 shX27_2 shY27_2 kl2 tl2 xl2 yl2), (8, loopR [0, 3, 4, 5] [] 2 [0, 3] [] sh27_8 shX27_8 shY27_8 kl8 tl8 xl8 yl8)] [] []
noncomputable def lc27_2 : Code := (loopsOf (bodyOf Try.f27)).getD 0 .skip
noncomputable def lc27_8 : Code := (loopsOf (bodyOf Try.f27)).getD 1 .skip
def q27_8 (k54 : Den A54 → Bool) (g54 : Den A54 → Den R54) (k53 : Den A53 → Bool) (g53 : Den A53 → Den R53) (f : V27_8 → Option (X27_8 ⊕ Y27_8)) (v : V27_8) : Option (X27_8 ⊕ Y27_8) :=
  bif (decide (v.fst.snd.snd.snd.fst < v.fst.snd.fst)) then
    bif (decide (0 ≤ v.fst.snd.snd.snd.fst) && decide (v.fst.snd.snd.snd.fst < (↑(List.length v.fst.fst) : Int))) then
      let v0 := (List.getD v.fst.fst (Int.toNat v.fst.snd.snd.snd.fst) (zero S23))
      bif (bstr v0.fst v.snd.fst.fst) then
        some (Sum.inr (((false), ()), ()))
      else
        let v1 := (IntKind.wrap IntKind.i64 (v.fst.snd.snd.snd.fst + 1))
        f (((v.fst.1), ((v.fst.snd.1), ((), ((v1), ())))), (((v.snd.fst.1), ((v.snd.fst.snd.1), ((v.snd.fst.snd.snd.1), ((v.snd.fst.snd.snd.snd.1), ((v.snd.fst.snd.snd.snd.snd.1), ()))))), ()))
    else
      none
  else
    some (Sum.inl (((v.fst.1), ((v.fst.snd.1), ())), ()))
theorem evl27_8 (k54 : Den A54 → Bool) (g54 : Den A54 → Den R54) (k53 : Den A53 → Bool) (g53 : Den A53 → Den R53) (kl2 : V27_2 → Bool) (xl2 : V27_2 → X27_2) (tl2 : V27_2 → Bool) (yl2 : V27_2 → Y27_2) (kl8 : V27_8 → Bool) (xl8 : V27_8 → X27_8) (tl8 : V27_8 → Bool) (yl8 : V27_8 → Y27_8) (f : V27_8 → Option (X27_8 ⊕ Y27_8)) (v : V27_8) : EBk (Γ27 k54 g54 k53 g53 kl2 xl2 tl2 yl2 kl8 xl8 tl8 yl8) lc27_8 (roundK [0, 3, 4, 5] [] 2 [0, 3] [] (atS sh27_8 f) (endS shX27_8 shY27_8)) (mkS sh27_8 v) = q27_8 k54 g54 k53 g53 f v := by kernel_rfl
def b27_8 (v : V27_8) : Nat := v.1.1.length + v.1.2.1.natAbs + v.1.2.2.2.1.natAbs + v.2.1.1.size + v.2.1.2.2.2.1.natAbs + v.2.1.2.2.2.2.1.natAbs + 1000
def l27_8 (v : V27_8) : Option (X27_8 ⊕ Y27_8) := iter (q27_8 K54 G54 K53 G53) (b27_8 v) v
def kL27_8 (v : V27_8) : Bool := (l27_8 v).isSome
def tL27_8 (v : V27_8) : Bool := isR (l27_8 v)
def xL27_8 (v : V27_8) : X27_8 := xOf (([], (0, ())), ()) (l27_8 v)
def yL27_8 (v : V27_8) : Y27_8 := yOf ((false, ()), ()) (l27_8 v)
def q27_2 (k54 : Den A54 → Bool) (g54 : Den A54 → Den R54) (k53 : Den A53 → Bool) (g53 : Den A53 → Den R53) (kl8 : V27_8 → Bool) (xl8 : V27_8 → X27_8) (tl8 : V27_8 → Bool) (yl8 : V27_8 → Y27_8) (f : V27_2 → Option (X27_2 ⊕ Y27_2)) (v : V27_2) : Option (X27_2 ⊕ Y27_2) :=
  bif (decide (v.fst.snd.fst < (↑(List.length v.fst.fst) : Int))) then
    bif (decide (0 ≤ v.fst.snd.fst) && decide (v.fst.snd.fst < (↑(List.length v.fst.fst) : Int))) then
      let v0 := (List.getD v.fst.fst (Int.toNat v.fst.snd.fst) (zero S23))
      let v1 := (k54 (v0.fst, ()))
      bif (v1) then
        let v2 := (g54 (v0.fst, ()))
        bif (!v2.fst) then
          some (Sum.inr (((false), ()), ()))
        else
          bif (fgt FloatKind.f32 v0.snd.fst 0 || feq FloatKind.f32 v0.snd.fst 0) then
            bif (fgt FloatKind.f32 v0.snd.snd.fst v0.snd.fst) then
              bif (!(flt FloatKind.f32 v0.snd.snd.fst 1128792064 || feq FloatKind.f32 v0.snd.snd.fst 1128792064)) then
                some (Sum.inr (((false), ()), ()))
              else
                let v3 := (k53 (v0.snd.snd.snd.fst, 0, 180, ()))
                bif (v3) then
                  let v4 := (g53 (v0.snd.snd.snd.fst, 0, 180, ()))
                  bif (!v4.fst) then
                    some (Sum.inr (((false), ()), ()))
                  else
                    let v5 := (k53 (v0.snd.snd.snd.snd.fst, v0.snd.snd.snd.fst, 180, ()))
                    bif (v5) then
                      let v6 := (g53 (v0.snd.snd.snd.snd.fst, v0.snd.snd.snd.fst, 180, ()))
                      bif (!v6.fst) then
                        some (Sum.inr (((false), ()), ()))
                      else
                        let v7 := (kl8 ((v.fst.fst, v.fst.snd.fst, (), 0, ()), (v0.fst, v0.snd.fst, v0.snd.snd.fst, v0.snd.snd.snd.fst, v0.snd.snd.snd.snd.fst, ()), ()))
                        bif (v7) then
                          let v8 := (tl8 ((v.fst.fst, v.fst.snd.fst, (), 0, ()), (v0.fst, v0.snd.fst, v0.snd.snd.fst, v0.snd.snd.snd.fst, v0.snd.snd.snd.snd.fst, ()), ()))
                          bif (v8) then
                            let v9 := (yl8 ((v.fst.fst, v.fst.snd.fst, (), 0, ()), (v0.fst, v0.snd.fst, v0.snd.snd.fst, v0.snd.snd.snd.fst, v0.snd.snd.snd.snd.fst, ()), ()))
                            some (Sum.inr (((v9.fst.1), ()), ()))
                          else
                            let v9 := (xl8 ((v.fst.fst, v.fst.snd.fst, (), 0, ()), (v0.fst, v0.snd.fst, v0.snd.snd.fst, v0.snd.snd.snd.fst, v0.snd.snd.snd.snd.fst, ()), ()))
                            let v10 := (IntKind.wrap IntKind.i64 (v9.fst.snd.fst + 1))
                            f (((v9.fst.1), ((v10), ())), ())
                        else
                          none
                    else
                      none
                else
                  none
            else
              some (Sum.inr (((false), ()), ()))
          else
            some (Sum.inr (((false), ()), ()))
      else
        none
    else
      none
  else
    some (Sum.inl (((v.fst.1), ()), ()))
theorem evl27_2 (k54 : Den A54 → Bool) (g54 : Den A54 → Den R54) (k53 : Den A53 → Bool) (g53 : Den A53 → Den R53) (kl2 : V27_2 → Bool) (xl2 : V27_2 → X27_2) (tl2 : V27_2 → Bool) (yl2 : V27_2 → Y27_2) (kl8 : V27_8 → Bool) (xl8 : V27_8 → X27_8) (tl8 : V27_8 → Bool) (yl8 : V27_8 → Y27_8) (f : V27_2 → Option (X27_2 ⊕ Y27_2)) (v : V27_2) : EBk (Γ27 k54 g54 k53 g53 kl2 xl2 tl2 yl2 kl8 xl8 tl8 yl8) lc27_2 (roundK [0, 3] [] 0 [0] [] (atS sh27_2 f) (endS shX27_2 shY27_2)) (mkS sh27_2 v) = q27_2 k54 g54 k53 g53 kl8 xl8 tl8 yl8 f v := by kernel_rfl
def b27_2 (v : V27_2) : Nat := v.1.1.length + v.1.2.1.natAbs + 1000
def l27_2 (v : V27_2) : Option (X27_2 ⊕ Y27_2) := iter (q27_2 K54 G54 K53 G53 kL27_8 xL27_8 tL27_8 yL27_8) (b27_2 v) v
def kL27_2 (v : V27_2) : Bool := (l27_2 v).isSome
def tL27_2 (v : V27_2) : Bool := isR (l27_2 v)
def xL27_2 (v : V27_2) : X27_2 := xOf (([], ()), ()) (l27_2 v)
def yL27_2 (v : V27_2) : Y27_2 := yOf ((false, ()), ()) (l27_2 v)
def r27 (k54 : Den A54 → Bool) (g54 : Den A54 → Den R54) (k53 : Den A53 → Bool) (g53 : Den A53 → Den R53) (kl2 : V27_2 → Bool) (xl2 : V27_2 → X27_2) (tl2 : V27_2 → Bool) (yl2 : V27_2 → Y27_2) (kl8 : V27_8 → Bool) (xl8 : V27_8 → X27_8) (tl8 : V27_8 → Bool) (yl8 : V27_8 → Y27_8) (x : Den A27) : Option (Den R27) :=
  let v0 := (kl2 ((x.fst, 0, ()), ()))
  bif (v0) then
    let v1 := (tl2 ((x.fst, 0, ()), ()))
    bif (v1) then
      let v2 := (yl2 ((x.fst, 0, ()), ()))
      some ((v2.fst.1), ())
    else
      let v2 := (xl2 ((x.fst, 0, ()), ()))
      some ((decide ((↑(List.length v2.fst.fst) : Int) ≤ 12)), ())
  else
    none
theorem ev27 (k54 : Den A54 → Bool) (g54 : Den A54 → Den R54) (k53 : Den A53 → Bool) (g53 : Den A53 → Den R53) (kl2 : V27_2 → Bool) (xl2 : V27_2 → X27_2) (tl2 : V27_2 → Bool) (yl2 : V27_2 → Y27_2) (kl8 : V27_8 → Bool) (xl8 : V27_8 → X27_8) (tl8 : V27_8 → Bool) (yl8 : V27_8 → Y27_8) (x : Den A27) : callK (Γ27 k54 g54 k53 g53 kl2 xl2 tl2 yl2 kl8 xl8 tl8 yl8) (bodyOf Try.f27) (decR R27) (encA A27 x) [] = r27 k54 g54 k53 g53 kl2 xl2 tl2 yl2 kl8 xl8 tl8 yl8 x := by kernel_rfl
def F27 (x : Den A27) : Option (Den R27) := r27 K54 G54 K53 G53 kL27_2 xL27_2 tL27_2 yL27_2 kL27_8 xL27_8 tL27_8 yL27_8 x
def K27 (x : Den A27) : Bool := (F27 x).isSome
def G27 (x : Den A27) : Den R27 := (F27 x).getD (zero R27)
theorem env27 : EnvOK Try.prog (Γ27 K54 G54 K53 G53 kL27_2 xL27_2 tL27_2 yL27_2 kL27_8 xL27_8 tL27_8 yL27_8) := env_ok mixed tab_ok eqs_ok (.cons sem54 (.cons sem53 .nil))
theorem is27 : FnIs Try.prog 27 (Γ27 K54 G54 K53 G53 kL27_2 xL27_2 tL27_2 yL27_2 kL27_8 xL27_8 tL27_8 yL27_8) (bodyOf Try.f27) := fnIs Try.func27 rfl rfl rfl (by kernel_rfl) (loops_ok (l := [lc27_2, lc27_8]) (by kernel_rfl) (.cons (one_loop rfl (loopR_sound (sh := sh27_2) (shX := shX27_2) (shR := shY27_2) (fun f v => evl27_2 K54 G54 K53 G53 kL27_2 xL27_2 tL27_2 yL27_2 kL27_8 xL27_8 tL27_8 yL27_8 f v) b27_2 (([], ()), ()) ((false, ()), ()))) (.cons (one_loop rfl (loopR_sound (sh := sh27_8) (shX := shX27_8) (shR := shY27_8) (fun f v => evl27_8 K54 G54 K53 G53 kL27_2 xL27_2 tL27_2 yL27_2 kL27_8 xL27_8 tL27_8 yL27_8 f v) b27_8 (([], (0, ())), ()) ((false, ()), ()))) (.nil))))
theorem sem27 : SemOK Try.prog (27, fnMean A27 R27 K27 G27) := fn_opt env27 is27 fun x => ev27 K54 G54 K53 G53 kL27_2 xL27_2 tL27_2 yL27_2 kL27_8 xL27_8 tL27_8 yL27_8 x

/- "loop.example/g03321/impl.nameOk" -/
abbrev A55 : Ty := .cons (.str) (.nil)
abbrev R55 : Ty := .cons (.bool) (.nil)
abbrev V55_2 : Type := ((ByteArray × (Int × Unit)) × Unit)
def sh55_2 : ShS := ⟨[(0, .one (.str)), (3, .one (.int .i64))], [], 0, 0⟩
abbrev X55_2 : Type := ((ByteArray × Unit) × Unit)
def shX55_2 : ShS := ⟨[(0, .one (.str))], [], 0, 0⟩
abbrev Y55_2 : Type := ((Bool × Unit) × Unit)
def shY55_2 : ShS := ⟨[(2, .one (.bool))], [], 0, 0⟩
noncomputable def Γ55 (k52 : Den A52 → Bool) (g52 : Den A52 → Den R52) (kl2 : V55_2 → Bool) (xl2 : V55_2 → X55_2) (tl2 : V55_2 → Bool) (yl2 : V55_2 → Y55_2) : Env := mkEnv tab eqs [(52, fnMean A52 R52 k52 g52)] 27 [.tmp 2] [] [] [(2, loopR [0, 3] [] 0 [0] [] sh55_2 shX55_2 shY55_2 kl2 tl2 xl2 yl2)] [] []
noncomputable def lc55_2 : Code := (loopsOf (bodyOf Try.f55)).getD 0 .skip
def q55_2 (k52 : Den A52 → Bool) (g52 : Den A52 → Den R52) (f : V55_2 → Option (X55_2 ⊕ Y55_2)) (v : V55_2) : Option (X55_2 ⊕ Y55_2) :=
  bif (decide (v.fst.snd.fst < (↑(ByteArray.size v.fst.fst) : Int))) then
    bif (decide (0 ≤ v.fst.snd.fst) && decide (v.fst.snd.fst < (↑(ByteArray.size v.fst.fst) : Int))) then
      bif (decide (strAt v.fst.fst v.fst.snd.fst < 97)) then
        some (Sum.inr (((false), ()), ()))
      else
        bif (decide (0 ≤ v.fst.snd.fst) && decide (v.fst.snd.fst < (↑(ByteArray.size v.fst.fst) : Int))) then
          bif (decide (strAt v.fst.fst v.fst.snd.fst > 122)) then
            some (Sum.inr (((false), ()), ()))
          else
            let v0 := (IntKind.wrap IntKind.i64 (v.fst.snd.fst + 1))
            f (((v.fst.1), ((v0), ())), ())
        else
          none
    else
      none
  else
    some (Sum.inl (((v.fst.1), ()), ()))
theorem evl55_2 (k52 : Den A52 → Bool) (g52 : Den A52 → Den R52) (kl2 : V55_2 → Bool) (xl2 : V55_2 → X55_2) (tl2 : V55_2 → Bool) (yl2 : V55_2 → Y55_2) (f : V55_2 → Option (X55_2 ⊕ Y55_2)) (v : V55_2) : EBk (Γ55 k52 g52 kl2 xl2 tl2 yl2) lc55_2 (roundK [0, 3] [] 0 [0] [] (atS sh55_2 f) (endS shX55_2 shY55_2)) (mkS sh55_2 v) = q55_2 k52 g52 f v := by kernel_rfl
def b55_2 (v : V55_2) : Nat := v.1.1.size + v.1.2.1.natAbs + 1000
def l55_2 (v : V55_2) : Option (X55_2 ⊕ Y55_2) := iter (q55_2 K52 G52) (b55_2 v) v
def kL55_2 (v : V55_2) : Bool := (l55_2 v).isSome
def tL55_2 (v : V55_2) : Bool := isR (l55_2 v)
def xL55_2 (v : V55_2) : X55_2 := xOf ((ByteArray.empty, ()), ()) (l55_2 v)
def yL55_2 (v : V55_2) : Y55_2 := yOf ((false, ()), ()) (l55_2 v)
def r55 (k52 : Den A52 → Bool) (g52 : Den A52 → Den R52) (kl2 : V55_2 → Bool) (xl2 : V55_2 → X55_2) (tl2 : V55_2 → Bool) (yl2 : V55_2 → Y55_2) (x : Den A55) : Option (Den R55) :=
  let v0 := (kl2 ((x.fst, 0, ()), ()))
  bif (v0) then
    let v1 := (tl2 ((x.fst, 0, ()), ()))
    bif (v1) then
      let v2 := (yl2 ((x.fst, 0, ()), ()))
      some ((v2.fst.1), ())
    else
      let v2 := (xl2 ((x.fst, 0, ()), ()))
      let v3 := (k52 ((↑(ByteArray.size v2.fst.fst) : Int), 1, 16, ()))
      bif (v3) then
        let v4 := (g52 ((↑(ByteArray.size v2.fst.fst) : Int), 1, 16, ()))
        bif (v4.1) then
          some ((!bstr v2.fst.fst { data := #[110, 111, 110, 101] }), ())
        else
          some ((false), ())
      else
        none
  else
    none
theorem ev55 (k52 : Den A52 → Bool) (g52 : Den A52 → Den R52) (kl2 : V55_2 → Bool) (xl2 : V55_2 → X55_2) (tl2 : V55_2 → Bool) (yl2 : V55_2 → Y55_2) (x : Den A55) : callK (Γ55 k52 g52 kl2 xl2 tl2 yl2) (bodyOf Try.f55) (decR R55) (encA A55 x) [] = r55 k52 g52 kl2 xl2 tl2 yl2 x := by kernel_rfl
def F55 (x : Den A55) : Option (Den R55) := r55 K52 G52 kL55_2 xL55_2 tL55_2 yL55_2 x
def K55 (x : Den A55) : Bool := (F55 x).isSome
def G55 (x : Den A55) : Den R55 := (F55 x).getD (zero R55)
theorem env55 : EnvOK Try.prog (Γ55 K52 G52 kL55_2 xL55_2 tL55_2 yL55_2) := env_ok mixed tab_ok eqs_ok (.cons sem52 .nil)
theorem is55 : FnIs Try.prog 55 (Γ55 K52 G52 kL55_2 xL55_2 tL55_2 yL55_2) (bodyOf Try.f55) := fnIs Try.func55 rfl rfl rfl (by kernel_rfl) (loops_ok (l := [lc55_2]) (by kernel_rfl) (.cons (one_loop rfl (loopR_sound (sh := sh55_2) (shX := shX55_2) (shR := shY55_2) (fun f v => evl55_2 K52 G52 kL55_2 xL55_2 tL55_2 yL55_2 f v) b55_2 ((ByteArray.empty, ()), ()) ((false, ()), ()))) (.nil)))
theorem sem55 : SemOK Try.prog (55, fnMean A55 R55 K55 G55) := fn_opt env55 is55 fun x => ev55 K52 G52 kL55_2 xL55_2 tL55_2 yL55_2 x

/- "loop.example/g03321/impl.sailNamed" -/
abbrev A56 : Ty := .cons (.slice (S23)) (.cons (.str) (.nil))
abbrev R56 : Ty := .cons (.int .i64) (.nil)
abbrev V56_2 : Type := ((ByteArray × ((List (Den (S23))) × (Int × (Int × Unit)))) × Unit)
def sh56_2 : ShS := ⟨[(1, .one (.str)), (7, .one (.sl (S23))), (8, .one (.int .i64)), (9, .one (.int .i64))], [], 0, 0⟩
abbrev X56_2 : Type := (Unit × Unit)
def shX56_2 : ShS := ⟨[], [], 0, 0⟩
abbrev Y56_2 : Type := ((Int × Unit) × Unit)
def shY56_2 : ShS := ⟨[(4, .one (.int .i64))], [], 0, 0⟩
noncomputable def Γ56 (kl2 : V56_2 → Bool) (xl2 : V56_2 → X56_2) (tl2 : V56_2 → Bool) (yl2 : V56_2 → Y56_2) : Env := mkEnv tab eqs [] 20 [.tmp 4] [] [] [(2, loopR [1, 7, 8, 9] [] 0 [] [] sh56_2 shX56_2 shY56_2 kl2 tl2 xl2 yl2)] [] []
noncomputable def lc56_2 : Code := (loopsOf (bodyOf Try.f56)).getD 0 .skip
def q56_2 (f : V56_2 → Option (X56_2 ⊕ Y56_2)) (v : V56_2) : Option (X56_2 ⊕ Y56_2) :=
  bif (decide (v.fst.snd.snd.snd.fst < v.fst.snd.snd.fst)) then
    bif (decide (0 ≤ v.fst.snd.snd.snd.fst) && decide (v.fst.snd.snd.snd.fst < (↑(List.length v.fst.snd.fst) : Int))) then
      let v0 := (List.getD v.fst.snd.fst (Int.toNat v.fst.snd.snd.snd.fst) (zero S23))
      bif (bstr v0.fst v.fst.fst) then
        some (Sum.inr (((v.fst.snd.snd.snd.1), ()), ()))
      else
        let v1 := (IntKind.wrap IntKind.i64 (v.fst.snd.snd.snd.fst + 1))
        f (((v.fst.1), ((v.fst.snd.1), ((v.fst.snd.snd.1), ((v1), ())))), ())
    else
      none
  else
    some (Sum.inl ((), ()))
theorem evl56_2 (kl2 : V56_2 → Bool) (xl2 : V56_2 → X56_2) (tl2 : V56_2 → Bool) (yl2 : V56_2 → Y56_2) (f : V56_2 → Option (X56_2 ⊕ Y56_2)) (v : V56_2) : EBk (Γ56 kl2 xl2 tl2 yl2) lc56_2 (roundK [1, 7, 8, 9] [] 0 [] [] (atS sh56_2 f) (endS shX56_2 shY56_2)) (mkS sh56_2 v) = q56_2 f v := by kernel_rfl
def b56_2 (v : V56_2) : Nat := v.1.1.size + v.1.2.1.length + v.1.2.2.1.natAbs + v.1.2.2.2.1.natAbs + 1000
def l56_2 (v : V56_2) : Option (X56_2 ⊕ Y56_2) := iter (q56_2) (b56_2 v) v
def kL56_2 (v : V56_2) : Bool := (l56_2 v).isSome
def tL56_2 (v : V56_2) : Bool := isR (l56_2 v)
def xL56_2 (v : V56_2) : X56_2 := xOf ((), ()) (l56_2 v)
def yL56_2 (v : V56_2) : Y56_2 := yOf ((0, ()), ()) (l56_2 v)
def r56 (kl2 : V56_2 → Bool) (xl2 : V56_2 → X56_2) (tl2 : V56_2 → Bool) (yl2 : V56_2 → Y56_2) (x : Den A56) : Option (Den R56) :=
  let v0 := (kl2 ((x.snd.fst, x.fst, (↑(List.length x.fst) : Int), 0, ()), ()))
  bif (v0) then
    let v1 := (tl2 ((x.snd.fst, x.fst, (↑(List.length x.fst) : Int), 0, ()), ()))
    bif (v1) then
      let v2 := (yl2 ((x.snd.fst, x.fst, (↑(List.length x.fst) : Int), 0, ()), ()))
      some ((v2.fst.1), ())
    else
      some ((-1), ())
  else
    none
theorem ev56 (kl2 : V56_2 → Bool) (xl2 : V56_2 → X56_2) (tl2 : V56_2 → Bool) (yl2 : V56_2 → Y56_2) (x : Den A56) : callK (Γ56 kl2 xl2 tl2 yl2) (bodyOf Try.f56) (decR R56) (encA A56 x) [] = r56 kl2 xl2 tl2 yl2 x := by kernel_rfl
def F56 (x : Den A56) : Option (Den R56) := r56 kL56_2 xL56_2 tL56_2 yL56_2 x
def K56 (x : Den A56) : Bool := (F56 x).isSome
def G56 (x : Den A56) : Den R56 := (F56 x).getD (zero R56)
theorem env56 : EnvOK Try.prog (Γ56 kL56_2 xL56_2 tL56_2 yL56_2) := env_ok mixed tab_ok eqs_ok .nil
theorem is56 : FnIs Try.prog 56 (Γ56 kL56_2 xL56_2 tL56_2 yL56_2) (bodyOf Try.f56) := fnIs Try.func56 rfl rfl rfl (by kernel_rfl) (loops_ok (l := [lc56_2]) (by kernel_rfl) (.cons (one_loop rfl (loopR_sound (sh := sh56_2) (shX := shX56_2) (shR := shY56_2) (fun f v => evl56_2 kL56_2 xL56_2 tL56_2 yL56_2 f v) b56_2 ((), ()) ((0, ()), ()))) (.nil)))
theorem sem56 : SemOK Try.prog (56, fnMean A56 R56 K56 G56) := fn_opt env56 is56 fun x => ev56 kL56_2 xL56_2 tL56_2 yL56_2 x

/- "loop.example/g03321/impl.SailsOk" -/
abbrev A29 : Ty := .cons (.slice (S23)) (.nil)
abbrev R29 : Ty := .cons (.bool) (.nil)
abbrev V29_4 : Type := (((List (Den (S23))) × ((List (Den (S23))) × (Int × (Int × Unit)))) × Unit)
def sh29_4 : ShS := ⟨[(0, .one (.sl (S23))), (8, .one (.sl (S23))), (9, .one (.int .i64)), (10, .one (.int .i64))], [], 0, 0⟩
abbrev X29_4 : Type := (Unit × Unit)
def shX29_4 : ShS := ⟨[], [], 0, 0⟩
abbrev Y29_4 : Type := ((Bool × Unit) × Unit)
def shY29_4 : ShS := ⟨[(2, .one (.bool))], [], 0, 0⟩
noncomputable def Γ29 (k55 : Den A55 → Bool) (g55 : Den A55 → Den R55) (k56 : Den A56 → Bool) (g56 : Den A56 → Den R56) (k52 : Den A52 → Bool) (g52 : Den A52 → Den R52) (kl4 : V29_4 → Bool) (xl4 : V29_4 → X29_4) (tl4 : V29_4 → Bool) (yl4 : V29_4 → Y29_4) : Env := mkEnv tab eqs [(55, fnMean A55 R55 k55 g55), (56, fnMean A56 R56 k56 g56), (52, fnMean A52 R52 k52 g52)] 61 [.tmp 2] [] [] [(4, loopR [0, 8, 9, 10] [] 0 [] [] sh29_4 shX29_4 shY29_4 kl4 tl4 xl4 yl4)] [] []
noncomputable def lc29_4 : Code := (loopsOf (bodyOf Try.f29)).getD 0 .skip
def q29_4 (k55 : Den A55 → Bool) (g55 : Den A55 → Den R55) (k56 : Den A56 → Bool) (g56 : Den A56 → Den R56) (k52 : Den A52 → Bool) (g52 : Den A52 → Den R52) (f : V29_4 → Option (X29_4 ⊕ Y29_4)) (v : V29_4) : Option (X29_4 ⊕ Y29_4) :=
  bif (decide (v.fst.snd.snd.snd.fst < v.fst.snd.snd.fst)) then
    bif (decide (0 ≤ v.fst.snd.snd.snd.fst) && decide (v.fst.snd.snd.snd.fst < (↑(List.length v.fst.snd.fst) : Int))) then
      let v0 := (List.getD v.fst.snd.fst (Int.toNat v.fst.snd.snd.snd.fst) (zero S23))
      let v1 := (k55 (v0.fst, ()))
      bif (v1) then
        let v2 := (g55 (v0.fst, ()))
        bif (!v2.fst) then
          some (Sum.inr (((false), ()), ()))
        else
          let v3 := (k56 (v.fst.fst, v0.fst, ()))
          bif (v3) then
            let v4 := (g56 (v.fst.fst, v0.fst, ()))
            bif (v4.fst != v.fst.snd.snd.snd.fst) then
              some (Sum.inr (((false), ()), ()))
            else
              bif (!(fgt FloatKind.f32 v0.snd.fst 0 || feq FloatKind.f32 v0.snd.fst 0)) then
                some (Sum.inr (((false), ()), ()))
              else
                bif (fgt FloatKind.f32 v0.snd.snd.fst v0.snd.fst) then
                  bif (!(flt FloatKind.f32 v0.snd.snd.fst 1128792064 || feq FloatKind.f32 v0.snd.snd.fst 1128792064)) then
                    some (Sum.inr (((false), ()), ()))
                  else
                    let v5 := (k52 (v0.snd.snd.snd.fst, 0, 180, ()))
                    bif (v5) then
                      let v6 := (g52 (v0.snd.snd.snd.fst, 0, 180, ()))
                      bif (!v6.fst) then
                        some (Sum.inr (((false), ()), ()))
                      else
                        let v7 := (k52 (v0.snd.snd.snd.snd.fst, v0.snd.snd.snd.fst, 180, ()))
                        bif (v7) then
                          let v8 := (g52 (v0.snd.snd.snd.snd.fst, v0.snd.snd.snd.fst, 180, ()))
                          bif (!v8.fst) then
                            some (Sum.inr (((false), ()), ()))
                          else
                            let v9 := (IntKind.wrap IntKind.i64 (v.fst.snd.snd.snd.fst + 1))
                            f (((v.fst.1), ((v.fst.snd.1), ((v.fst.snd.snd.1), ((v9), ())))), ())
                        else
                          none
                    else
                      none
                else
                  some (Sum.inr (((false), ()), ()))
          else
            none
      else
        none
    else
      none
  else
    some (Sum.inl ((), ()))
theorem evl29_4 (k55 : Den A55 → Bool) (g55 : Den A55 → Den R55) (k56 : Den A56 → Bool) (g56 : Den A56 → Den R56) (k52 : Den A52 → Bool) (g52 : Den A52 → Den R52) (kl4 : V29_4 → Bool) (xl4 : V29_4 → X29_4) (tl4 : V29_4 → Bool) (yl4 : V29_4 → Y29_4) (f : V29_4 → Option (X29_4 ⊕ Y29_4)) (v : V29_4) : EBk (Γ29 k55 g55 k56 g56 k52 g52 kl4 xl4 tl4 yl4) lc29_4 (roundK [0, 8, 9, 10] [] 0 [] [] (atS sh29_4 f) (endS shX29_4 shY29_4)) (mkS sh29_4 v) = q29_4 k55 g55 k56 g56 k52 g52 f v := by kernel_rfl
def b29_4 (v : V29_4) : Nat := v.1.1.length + v.1.2.1.length + v.1.2.2.1.natAbs + v.1.2.2.2.1.natAbs + 1000
def l29_4 (v : V29_4) : Option (X29_4 ⊕ Y29_4) := iter (q29_4 K55 G55 K56 G56 K52 G52) (b29_4 v) v
def kL29_4 (v : V29_4) : Bool := (l29_4 v).isSome
def tL29_4 (v : V29_4) : Bool := isR (l29_4 v)
def xL29_4 (v : V29_4) : X29_4 := xOf ((), ()) (l29_4 v)
def yL29_4 (v : V29_4) : Y29_4 := yOf ((false, ()), ()) (l29_4 v)
def r29 (k55 : Den A55 → Bool) (g55 : Den A55 → Den R55) (k56 : Den A56 → Bool) (g56 : Den A56 → Den R56) (k52 : Den A52 → Bool) (g52 : Den A52 → Den R52) (kl4 : V29_4 → Bool) (xl4 : V29_4 → X29_4) (tl4 : V29_4 → Bool) (yl4 : V29_4 → Y29_4) (x : Den A29) : Option (Den R29) :=
  bif (decide ((↑(List.length x.fst) : Int) > 12)) then
    some ((false), ())
  else
    let v0 := (kl4 ((x.fst, x.fst, (↑(List.length x.fst) : Int), 0, ()), ()))
    bif (v0) then
      let v1 := (tl4 ((x.fst, x.fst, (↑(List.length x.fst) : Int), 0, ()), ()))
      bif (v1) then
        let v2 := (yl4 ((x.fst, x.fst, (↑(List.length x.fst) : Int), 0, ()), ()))
        some ((v2.fst.1), ())
      else
        some ((true), ())
    else
      none
theorem ev29 (k55 : Den A55 → Bool) (g55 : Den A55 → Den R55) (k56 : Den A56 → Bool) (g56 : Den A56 → Den R56) (k52 : Den A52 → Bool) (g52 : Den A52 → Den R52) (kl4 : V29_4 → Bool) (xl4 : V29_4 → X29_4) (tl4 : V29_4 → Bool) (yl4 : V29_4 → Y29_4) (x : Den A29) : callK (Γ29 k55 g55 k56 g56 k52 g52 kl4 xl4 tl4 yl4) (bodyOf Try.f29) (decR R29) (encA A29 x) [] = r29 k55 g55 k56 g56 k52 g52 kl4 xl4 tl4 yl4 x := by kernel_rfl
def F29 (x : Den A29) : Option (Den R29) := r29 K55 G55 K56 G56 K52 G52 kL29_4 xL29_4 tL29_4 yL29_4 x
def K29 (x : Den A29) : Bool := (F29 x).isSome
def G29 (x : Den A29) : Den R29 := (F29 x).getD (zero R29)
theorem env29 : EnvOK Try.prog (Γ29 K55 G55 K56 G56 K52 G52 kL29_4 xL29_4 tL29_4 yL29_4) := env_ok mixed tab_ok eqs_ok (.cons sem55 (.cons sem56 (.cons sem52 .nil)))
theorem is29 : FnIs Try.prog 29 (Γ29 K55 G55 K56 G56 K52 G52 kL29_4 xL29_4 tL29_4 yL29_4) (bodyOf Try.f29) := fnIs Try.func29 rfl rfl rfl (by kernel_rfl) (loops_ok (l := [lc29_4]) (by kernel_rfl) (.cons (one_loop rfl (loopR_sound (sh := sh29_4) (shX := shX29_4) (shR := shY29_4) (fun f v => evl29_4 K55 G55 K56 G56 K52 G52 kL29_4 xL29_4 tL29_4 yL29_4 f v) b29_4 ((), ()) ((false, ()), ()))) (.nil)))
theorem sem29 : SemOK Try.prog (29, fnMean A29 R29 K29 G29) := fn_opt env29 is29 fun x => ev29 K55 G55 K56 G56 K52 G52 kL29_4 xL29_4 tL29_4 yL29_4 x

/- "loop.example/g03321/laws.sameFloat" -/
abbrev A66 : Ty := .cons (.flt .f64) (.cons (.flt .f64) (.nil))
abbrev R66 : Ty := .cons (.bool) (.nil)
noncomputable def Γ66 : Env := mkEnv tab eqs [] 37 [.tmp 4] [] [] [] [] []
def r66 (x : Den A66) : Option (Den R66) :=
  bif (!feq FloatKind.f64 x.fst x.fst) then
    bif (!feq FloatKind.f64 x.fst x.fst) then
      some ((!feq FloatKind.f64 x.snd.fst x.snd.fst), ())
    else
      some ((false), ())
  else
    bif (!feq FloatKind.f64 x.snd.fst x.snd.fst) then
      bif (!feq FloatKind.f64 x.fst x.fst) then
        some ((!feq FloatKind.f64 x.snd.fst x.snd.fst), ())
      else
        some ((false), ())
    else
      bif (feq FloatKind.f64 x.fst 0) then
        bif (feq FloatKind.f64 x.snd.fst 0) then
          let v0 := (farith BinOp.quo FloatKind.f64 4607182418800017408 x.fst)
          let v1 := (farith BinOp.quo FloatKind.f64 4607182418800017408 x.snd.fst)
          some ((fgt FloatKind.f64 v0 0 == fgt FloatKind.f64 v1 0), ())
        else
          some ((feq FloatKind.f64 x.fst x.snd.fst), ())
      else
        some ((feq FloatKind.f64 x.fst x.snd.fst), ())
theorem ev66 (x : Den A66) : callK (Γ66) (bodyOf Try.f66) (decR R66) (encA A66 x) [] = r66 x := by kernel_rfl
def F66 (x : Den A66) : Option (Den R66) := r66 x
def K66 (x : Den A66) : Bool := (F66 x).isSome
def G66 (x : Den A66) : Den R66 := (F66 x).getD (zero R66)
theorem env66 : EnvOK Try.prog (Γ66) := env_ok mixed tab_ok eqs_ok .nil
theorem is66 : FnIs Try.prog 66 (Γ66) (bodyOf Try.f66) := fnIs Try.func66 rfl rfl rfl (by kernel_rfl) (noLoops (by kernel_rfl))
theorem sem66 : SemOK Try.prog (66, fnMean A66 R66 K66 G66) := fn_opt env66 is66 fun x => ev66 x

/- "loop.example/g03321/laws.eqSail" -/
abbrev A57 : Ty := .cons (S23) (.cons (S23) (.nil))
abbrev R57 : Ty := .cons (.bool) (.nil)
noncomputable def Γ57 (k66 : Den A66 → Bool) (g66 : Den A66 → Den R66) : Env := mkEnv tab eqs [(66, fnMean A66 R66 k66 g66)] 36 [.tmp 4] [] [] [] [] []
def r57 (k66 : Den A66 → Bool) (g66 : Den A66 → Den R66) (x : Den A57) : Option (Den R57) :=
  bif (!bstr x.fst.fst x.snd.fst.fst) then
    some ((false), ())
  else
    let v0 := (k66 ((convF FloatKind.f32 FloatKind.f64 x.fst.snd.fst).snd, (convF FloatKind.f32 FloatKind.f64 x.snd.fst.snd.fst).snd, ()))
    bif (v0) then
      let v1 := (g66 ((convF FloatKind.f32 FloatKind.f64 x.fst.snd.fst).snd, (convF FloatKind.f32 FloatKind.f64 x.snd.fst.snd.fst).snd, ()))
      bif (!v1.fst) then
        some ((false), ())
      else
        let v2 := (k66 ((convF FloatKind.f32 FloatKind.f64 x.fst.snd.snd.fst).snd, (convF FloatKind.f32 FloatKind.f64 x.snd.fst.snd.snd.fst).snd, ()))
        bif (v2) then
          let v3 := (g66 ((convF FloatKind.f32 FloatKind.f64 x.fst.snd.snd.fst).snd, (convF FloatKind.f32 FloatKind.f64 x.snd.fst.snd.snd.fst).snd, ()))
          bif (!v3.fst) then
            some ((false), ())
          else
            bif (x.fst.snd.snd.snd.fst != x.snd.fst.snd.snd.snd.fst) then
              some ((false), ())
            else
              bif (x.fst.snd.snd.snd.snd.fst != x.snd.fst.snd.snd.snd.snd.fst) then
                some ((false), ())
              else
                some ((true), ())
        else
          none
    else
      none
theorem ev57 (k66 : Den A66 → Bool) (g66 : Den A66 → Den R66) (x : Den A57) : callK (Γ57 k66 g66) (bodyOf Try.f57) (decR R57) (encA A57 x) [] = r57 k66 g66 x := by kernel_rfl
def F57 (x : Den A57) : Option (Den R57) := r57 K66 G66 x
def K57 (x : Den A57) : Bool := (F57 x).isSome
def G57 (x : Den A57) : Den R57 := (F57 x).getD (zero R57)
theorem env57 : EnvOK Try.prog (Γ57 K66 G66) := env_ok mixed tab_ok eqs_ok (.cons sem66 .nil)
theorem is57 : FnIs Try.prog 57 (Γ57 K66 G66) (bodyOf Try.f57) := fnIs Try.func57 rfl rfl rfl (by kernel_rfl) (noLoops (by kernel_rfl))
theorem sem57 : SemOK Try.prog (57, fnMean A57 R57 K57 G57) := fn_opt env57 is57 fun x => ev57 K66 G66 x

/- "loop.example/g03321/laws.eqSailS" -/
abbrev A30 : Ty := .cons (.slice (S23)) (.cons (.slice (S23)) (.nil))
abbrev R30 : Ty := .cons (.bool) (.nil)
abbrev V30_4 : Type := (((List (Den (S23))) × ((List (Den (S23))) × (Int × Unit))) × Unit)
def sh30_4 : ShS := ⟨[(0, .one (.sl (S23))), (1, .one (.sl (S23))), (5, .one (.int .i64))], [], 0, 0⟩
abbrev X30_4 : Type := (Unit × Unit)
def shX30_4 : ShS := ⟨[], [], 0, 0⟩
abbrev Y30_4 : Type := ((Bool × Unit) × Unit)
def shY30_4 : ShS := ⟨[(4, .one (.bool))], [], 0, 0⟩
noncomputable def Γ30 (k57 : Den A57 → Bool) (g57 : Den A57 → Den R57) (kl4 : V30_4 → Bool) (xl4 : V30_4 → X30_4) (tl4 : V30_4 → Bool) (yl4 : V30_4 → Y30_4) : Env := mkEnv tab eqs [(57, fnMean A57 R57 k57 g57)] 27 [.tmp 4] [] [] [(4, loopR [0, 1, 5] [] 0 [] [] sh30_4 shX30_4 shY30_4 kl4 tl4 xl4 yl4)] [] []
noncomputable def lc30_4 : Code := (loopsOf (bodyOf Try.f30)).getD 0 .skip
def q30_4 (k57 : Den A57 → Bool) (g57 : Den A57 → Den R57) (f : V30_4 → Option (X30_4 ⊕ Y30_4)) (v : V30_4) : Option (X30_4 ⊕ Y30_4) :=
  bif (decide (v.fst.snd.snd.fst < (↑(List.length v.fst.fst) : Int))) then
    bif (decide (0 ≤ v.fst.snd.snd.fst) && decide (v.fst.snd.snd.fst < (↑(List.length v.fst.fst) : Int))) then
      bif (decide (0 ≤ v.fst.snd.snd.fst) && decide (v.fst.snd.snd.fst < (↑(List.length v.fst.snd.fst) : Int))) then
        let v0 := (List.getD v.fst.fst (Int.toNat v.fst.snd.snd.fst) (zero S23))
        let v1 := (List.getD v.fst.snd.fst (Int.toNat v.fst.snd.snd.fst) (zero S23))
        let v2 := (k57 ((v0.fst, v0.snd.fst, v0.snd.snd.fst, v0.snd.snd.snd.fst, v0.snd.snd.snd.snd.fst, ()), (v1.fst, v1.snd.fst, v1.snd.snd.fst, v1.snd.snd.snd.fst, v1.snd.snd.snd.snd.fst, ()), ()))
        bif (v2) then
          let v3 := (g57 ((v0.fst, v0.snd.fst, v0.snd.snd.fst, v0.snd.snd.snd.fst, v0.snd.snd.snd.snd.fst, ()), (v1.fst, v1.snd.fst, v1.snd.snd.fst, v1.snd.snd.snd.fst, v1.snd.snd.snd.snd.fst, ()), ()))
          bif (!v3.fst) then
            some (Sum.inr (((false), ()), ()))
          else
            let v4 := (IntKind.wrap IntKind.i64 (v.fst.snd.snd.fst + 1))
            f (((v.fst.1), ((v.fst.snd.1), ((v4), ()))), ())
        else
          none
      else
        none
    else
      none
  else
    some (Sum.inl ((), ()))
theorem evl30_4 (k57 : Den A57 → Bool) (g57 : Den A57 → Den R57) (kl4 : V30_4 → Bool) (xl4 : V30_4 → X30_4) (tl4 : V30_4 → Bool) (yl4 : V30_4 → Y30_4) (f : V30_4 → Option (X30_4 ⊕ Y30_4)) (v : V30_4) : EBk (Γ30 k57 g57 kl4 xl4 tl4 yl4) lc30_4 (roundK [0, 1, 5] [] 0 [] [] (atS sh30_4 f) (endS shX30_4 shY30_4)) (mkS sh30_4 v) = q30_4 k57 g57 f v := by kernel_rfl
def b30_4 (v : V30_4) : Nat := v.1.1.length + v.1.2.1.length + v.1.2.2.1.natAbs + 1000
def l30_4 (v : V30_4) : Option (X30_4 ⊕ Y30_4) := iter (q30_4 K57 G57) (b30_4 v) v
def kL30_4 (v : V30_4) : Bool := (l30_4 v).isSome
def tL30_4 (v : V30_4) : Bool := isR (l30_4 v)
def xL30_4 (v : V30_4) : X30_4 := xOf ((), ()) (l30_4 v)
def yL30_4 (v : V30_4) : Y30_4 := yOf ((false, ()), ()) (l30_4 v)
def r30 (k57 : Den A57 → Bool) (g57 : Den A57 → Den R57) (kl4 : V30_4 → Bool) (xl4 : V30_4 → X30_4) (tl4 : V30_4 → Bool) (yl4 : V30_4 → Y30_4) (x : Den A30) : Option (Den R30) :=
  bif ((↑(List.length x.fst) : Int) != (↑(List.length x.snd.fst) : Int)) then
    some ((false), ())
  else
    let v0 := (kl4 ((x.fst, x.snd.fst, 0, ()), ()))
    bif (v0) then
      let v1 := (tl4 ((x.fst, x.snd.fst, 0, ()), ()))
      bif (v1) then
        let v2 := (yl4 ((x.fst, x.snd.fst, 0, ()), ()))
        some ((v2.fst.1), ())
      else
        some ((true), ())
    else
      none
theorem ev30 (k57 : Den A57 → Bool) (g57 : Den A57 → Den R57) (kl4 : V30_4 → Bool) (xl4 : V30_4 → X30_4) (tl4 : V30_4 → Bool) (yl4 : V30_4 → Y30_4) (x : Den A30) : callK (Γ30 k57 g57 kl4 xl4 tl4 yl4) (bodyOf Try.f30) (decR R30) (encA A30 x) [] = r30 k57 g57 kl4 xl4 tl4 yl4 x := by kernel_rfl
def F30 (x : Den A30) : Option (Den R30) := r30 K57 G57 kL30_4 xL30_4 tL30_4 yL30_4 x
def K30 (x : Den A30) : Bool := (F30 x).isSome
def G30 (x : Den A30) : Den R30 := (F30 x).getD (zero R30)
theorem env30 : EnvOK Try.prog (Γ30 K57 G57 kL30_4 xL30_4 tL30_4 yL30_4) := env_ok mixed tab_ok eqs_ok (.cons sem57 .nil)
theorem is30 : FnIs Try.prog 30 (Γ30 K57 G57 kL30_4 xL30_4 tL30_4 yL30_4) (bodyOf Try.f30) := fnIs Try.func30 rfl rfl rfl (by kernel_rfl) (loops_ok (l := [lc30_4]) (by kernel_rfl) (.cons (one_loop rfl (loopR_sound (sh := sh30_4) (shX := shX30_4) (shR := shY30_4) (fun f v => evl30_4 K57 G57 kL30_4 xL30_4 tL30_4 yL30_4 f v) b30_4 ((), ()) ((false, ()), ()))) (.nil)))
theorem sem30 : SemOK Try.prog (30, fnMean A30 R30 K30 G30) := fn_opt env30 is30 fun x => ev30 K57 G57 kL30_4 xL30_4 tL30_4 yL30_4 x

/- "loop.example/g03321/laws.FnExactSailsOk" -/
abbrev A6 : Ty := .cons (.slice (S23)) (.nil)
abbrev R6 : Ty := .cons (.bool) (.nil)
noncomputable def Γ6 (k26 : Den A26 → Bool) (g26 : Den A26 → Den R26) (k28 : I28.den → Bool) (g28 : I28.den → O28.den) (k27 : Den A27 → Bool) (g27 : Den A27 → Den R27) (k29 : Den A29 → Bool) (g29 : Den A29 → Den R29) (k30 : Den A30 → Bool) (g30 : Den A30 → Den R30) : Env := mkEnv tab eqs [(26, fnMean A26 R26 k26 g26), (28, sgMean false I28 O28 k28 g28), (27, fnMean A27 R27 k27 g27), (29, fnMean A29 R29 k29 g29), (30, fnMean A30 R30 k30 g30)] 27 [.tmp 2] [] [] [] [] []
def r6 (k26 : Den A26 → Bool) (g26 : Den A26 → Den R26) (k28 : I28.den → Bool) (g28 : I28.den → O28.den) (k27 : Den A27 → Bool) (g27 : Den A27 → Den R27) (k29 : Den A29 → Bool) (g29 : Den A29 → Den R29) (k30 : Den A30 → Bool) (g30 : Den A30 → Den R30) (x : Den A6) : Option (Den R6) :=
  let v0 := (k26 (x.fst, 1048576, ()))
  bif (v0) then
    let v1 := (g26 (x.fst, 1048576, ()))
    bif (decide (v1.fst < 0)) then
      some ((true), ())
    else
      let v2 := (k28 ((x.fst, ()), ()))
      bif (v2) then
        let v3 := (g28 ((x.fst, ()), ()))
        let v4 := (k27 (v3.snd.fst, ()))
        bif (v4) then
          bif (v2) then
            let v5 := (k29 (v3.snd.fst, ()))
            bif (v5) then
              let v6 := (g29 (v3.snd.fst, ()))
              let v7 := (g27 (v3.snd.fst, ()))
              bif (!v6.fst == v7.fst) then
                some ((false), ())
              else
                bif (v2) then
                  let v8 := (k30 (v3.snd.fst, v3.snd.fst, ()))
                  bif (v8) then
                    let v9 := (g30 (v3.snd.fst, v3.snd.fst, ()))
                    bif (!v9.fst) then
                      some ((false), ())
                    else
                      some ((true), ())
                  else
                    none
                else
                  none
            else
              none
          else
            none
        else
          none
      else
        none
  else
    none
theorem ev6 (k26 : Den A26 → Bool) (g26 : Den A26 → Den R26) (k28 : I28.den → Bool) (g28 : I28.den → O28.den) (k27 : Den A27 → Bool) (g27 : Den A27 → Den R27) (k29 : Den A29 → Bool) (g29 : Den A29 → Den R29) (k30 : Den A30 → Bool) (g30 : Den A30 → Den R30) (x : Den A6) : callK (Γ6 k26 g26 k28 g28 k27 g27 k29 g29 k30 g30) (bodyOf Try.f6) (decR R6) (encA A6 x) [] = r6 k26 g26 k28 g28 k27 g27 k29 g29 k30 g30 x := by kernel_rfl
def F6 (x : Den A6) : Option (Den R6) := r6 K26 G26 K28 G28 K27 G27 K29 G29 K30 G30 x
def K6 (x : Den A6) : Bool := (F6 x).isSome
def G6 (x : Den A6) : Den R6 := (F6 x).getD (zero R6)
theorem env6 : EnvOK Try.prog (Γ6 K26 G26 K28 G28 K27 G27 K29 G29 K30 G30) := env_ok mixed tab_ok eqs_ok (.cons sem26 (.cons sem28 (.cons sem27 (.cons sem29 (.cons sem30 .nil)))))
theorem is6 : FnIs Try.prog 6 (Γ6 K26 G26 K28 G28 K27 G27 K29 G29 K30 G30) (bodyOf Try.f6) := fnIs Try.func6 rfl rfl rfl (by kernel_rfl) (noLoops (by kernel_rfl))
theorem sem6 : SemOK Try.prog (6, fnMean A6 R6 K6 G6) := fn_opt env6 is6 fun x => ev6 K26 G26 K28 G28 K27 G27 K29 G29 K30 G30 x

/- "loop.example/g03321/spec.BestSail" -/
abbrev A31 : Ty := .cons (.slice (S23)) (.cons (S25) (.nil))
abbrev R31 : Ty := .cons (.int .i64) (.nil)
abbrev V31_2 : Type := (((List (Den (S23))) × (Unit × (Int × Unit))) × ((Nat × (Int × Unit)) × Unit))
def sh31_2 : ShS := ⟨[(0, .one (.sl (S23))), (3, .one (.ptr 0 0)), (5, .one (.int .i64))], [(0, .box [.flt .f32, .int .i64])], 1, 0⟩
abbrev X31_2 : Type := (Unit × Unit)
def shX31_2 : ShS := ⟨[], [], 0, 0⟩
abbrev Y31_2 : Type := ((Int × Unit) × Unit)
def shY31_2 : ShS := ⟨[(4, .one (.int .i64))], [], 0, 0⟩
noncomputable def Γ31 (k27 : Den A27 → Bool) (g27 : Den A27 → Den R27) (k16 : Den A16 → Bool) (g16 : Den A16 → Den R16) (kl2 : V31_2 → Bool) (xl2 : V31_2 → X31_2) (tl2 : V31_2 → Bool) (yl2 : V31_2 → Y31_2) : Env := mkEnv tab eqs [(27, fnMean A27 R27 k27 g27), (16, fnMean A16 R16 k16 g16)] 23 [.tmp 4] [] [] [(2, loopR [0, 3, 5] [] 0 [] [] sh31_2 shX31_2 shY31_2 kl2 tl2 xl2 yl2)] [] []
noncomputable def lc31_2 : Code := (loopsOf (bodyOf Try.f31)).getD 0 .skip
def q31_2 (k27 : Den A27 → Bool) (g27 : Den A27 → Den R27) (k16 : Den A16 → Bool) (g16 : Den A16 → Den R16) (f : V31_2 → Option (X31_2 ⊕ Y31_2)) (v : V31_2) : Option (X31_2 ⊕ Y31_2) :=
  bif (decide (v.fst.snd.snd.fst < (↑(List.length v.fst.fst) : Int))) then
    let v0 := (k27 (v.fst.fst, ()))
    bif (v0) then
      let v1 := (g27 (v.fst.fst, ()))
      bif (v1.1) then
        bif (decide (0 ≤ v.fst.snd.snd.fst) && decide (v.fst.snd.snd.fst < (↑(List.length v.fst.fst) : Int))) then
          let v2 := (List.getD v.fst.fst (Int.toNat v.fst.snd.snd.fst) (zero S23))
          let v3 := (k16 ((v2.fst, v2.snd.fst, v2.snd.snd.fst, v2.snd.snd.snd.fst, v2.snd.snd.snd.snd.fst, ()), (v.snd.fst.fst, v.snd.fst.snd.fst, ()), ()))
          bif (v3) then
            let v4 := (g16 ((v2.fst, v2.snd.fst, v2.snd.snd.fst, v2.snd.snd.snd.fst, v2.snd.snd.snd.snd.fst, ()), (v.snd.fst.fst, v.snd.fst.snd.fst, ()), ()))
            bif (v4.1) then
              some (Sum.inr (((v.fst.snd.snd.1), ()), ()))
            else
              let v5 := (IntKind.wrap IntKind.i64 (v.fst.snd.snd.fst + 1))
              f (((v.fst.1), ((), ((v5), ()))), (((v.snd.fst.1), ((v.snd.fst.snd.1), ())), ()))
          else
            none
        else
          none
      else
        some (Sum.inl ((), ()))
    else
      none
  else
    some (Sum.inl ((), ()))
theorem evl31_2 (k27 : Den A27 → Bool) (g27 : Den A27 → Den R27) (k16 : Den A16 → Bool) (g16 : Den A16 → Den R16) (kl2 : V31_2 → Bool) (xl2 : V31_2 → X31_2) (tl2 : V31_2 → Bool) (yl2 : V31_2 → Y31_2) (f : V31_2 → Option (X31_2 ⊕ Y31_2)) (v : V31_2) : EBk (Γ31 k27 g27 k16 g16 kl2 xl2 tl2 yl2) lc31_2 (roundK [0, 3, 5] [] 0 [] [] (atS sh31_2 f) (endS shX31_2 shY31_2)) (mkS sh31_2 v) = q31_2 k27 g27 k16 g16 f v := by kernel_rfl
def b31_2 (v : V31_2) : Nat := v.1.1.length + v.1.2.2.1.natAbs + v.2.1.2.1.natAbs + 1000
def l31_2 (v : V31_2) : Option (X31_2 ⊕ Y31_2) := iter (q31_2 K27 G27 K16 G16) (b31_2 v) v
def kL31_2 (v : V31_2) : Bool := (l31_2 v).isSome
def tL31_2 (v : V31_2) : Bool := isR (l31_2 v)
def xL31_2 (v : V31_2) : X31_2 := xOf ((), ()) (l31_2 v)
def yL31_2 (v : V31_2) : Y31_2 := yOf ((0, ()), ()) (l31_2 v)
def r31 (k27 : Den A27 → Bool) (g27 : Den A27 → Den R27) (k16 : Den A16 → Bool) (g16 : Den A16 → Den R16) (kl2 : V31_2 → Bool) (xl2 : V31_2 → X31_2) (tl2 : V31_2 → Bool) (yl2 : V31_2 → Y31_2) (x : Den A31) : Option (Den R31) :=
  let v0 := (kl2 ((x.fst, (), 0, ()), (x.snd.fst.fst, x.snd.fst.snd.fst, ()), ()))
  bif (v0) then
    let v1 := (tl2 ((x.fst, (), 0, ()), (x.snd.fst.fst, x.snd.fst.snd.fst, ()), ()))
    bif (v1) then
      let v2 := (yl2 ((x.fst, (), 0, ()), (x.snd.fst.fst, x.snd.fst.snd.fst, ()), ()))
      some ((v2.fst.1), ())
    else
      some ((-1), ())
  else
    none
theorem ev31 (k27 : Den A27 → Bool) (g27 : Den A27 → Den R27) (k16 : Den A16 → Bool) (g16 : Den A16 → Den R16) (kl2 : V31_2 → Bool) (xl2 : V31_2 → X31_2) (tl2 : V31_2 → Bool) (yl2 : V31_2 → Y31_2) (x : Den A31) : callK (Γ31 k27 g27 k16 g16 kl2 xl2 tl2 yl2) (bodyOf Try.f31) (decR R31) (encA A31 x) [] = r31 k27 g27 k16 g16 kl2 xl2 tl2 yl2 x := by kernel_rfl
def F31 (x : Den A31) : Option (Den R31) := r31 K27 G27 K16 G16 kL31_2 xL31_2 tL31_2 yL31_2 x
def K31 (x : Den A31) : Bool := (F31 x).isSome
def G31 (x : Den A31) : Den R31 := (F31 x).getD (zero R31)
theorem env31 : EnvOK Try.prog (Γ31 K27 G27 K16 G16 kL31_2 xL31_2 tL31_2 yL31_2) := env_ok mixed tab_ok eqs_ok (.cons sem27 (.cons sem16 .nil))
theorem is31 : FnIs Try.prog 31 (Γ31 K27 G27 K16 G16 kL31_2 xL31_2 tL31_2 yL31_2) (bodyOf Try.f31) := fnIs Try.func31 rfl rfl rfl (by kernel_rfl) (loops_ok (l := [lc31_2]) (by kernel_rfl) (.cons (one_loop rfl (loopR_sound (sh := sh31_2) (shX := shX31_2) (shR := shY31_2) (fun f v => evl31_2 K27 G27 K16 G16 kL31_2 xL31_2 tL31_2 yL31_2 f v) b31_2 ((), ()) ((0, ()), ()))) (.nil)))
theorem sem31 : SemOK Try.prog (31, fnMean A31 R31 K31 G31) := fn_opt env31 is31 fun x => ev31 K27 G27 K16 G16 kL31_2 xL31_2 tL31_2 yL31_2 x

/- "loop.example/g03321/impl.BestSail" -/
abbrev A32 : Ty := .cons (.slice (S23)) (.cons (S25) (.nil))
abbrev R32 : Ty := .cons (.int .i64) (.nil)
abbrev V32_4 : Type := ((Unit × ((List (Den (S23))) × (Int × (Int × Unit)))) × ((Nat × (Int × Unit)) × Unit))
def sh32_4 : ShS := ⟨[(3, .one (.ptr 0 0)), (10, .one (.sl (S23))), (11, .one (.int .i64)), (12, .one (.int .i64))], [(0, .box [.flt .f32, .int .i64])], 1, 0⟩
abbrev X32_4 : Type := (Unit × Unit)
def shX32_4 : ShS := ⟨[], [], 0, 0⟩
abbrev Y32_4 : Type := ((Int × Unit) × Unit)
def shY32_4 : ShS := ⟨[(4, .one (.int .i64))], [], 0, 0⟩
noncomputable def Γ32 (k29 : Den A29 → Bool) (g29 : Den A29 → Den R29) (k19 : Den A19 → Bool) (g19 : Den A19 → Den R19) (kl4 : V32_4 → Bool) (xl4 : V32_4 → X32_4) (tl4 : V32_4 → Bool) (yl4 : V32_4 → Y32_4) : Env := mkEnv tab eqs [(29, fnMean A29 R29 k29 g29), (19, fnMean A19 R19 k19 g19)] 22 [.tmp 4] [] [] [(4, loopR [3, 10, 11, 12] [] 0 [] [] sh32_4 shX32_4 shY32_4 kl4 tl4 xl4 yl4)] [] []
noncomputable def lc32_4 : Code := (loopsOf (bodyOf Try.f32)).getD 0 .skip
def q32_4 (k29 : Den A29 → Bool) (g29 : Den A29 → Den R29) (k19 : Den A19 → Bool) (g19 : Den A19 → Den R19) (f : V32_4 → Option (X32_4 ⊕ Y32_4)) (v : V32_4) : Option (X32_4 ⊕ Y32_4) :=
  bif (decide (v.fst.snd.snd.snd.fst < v.fst.snd.snd.fst)) then
    bif (decide (0 ≤ v.fst.snd.snd.snd.fst) && decide (v.fst.snd.snd.snd.fst < (↑(List.length v.fst.snd.fst) : Int))) then
      let v0 := (List.getD v.fst.snd.fst (Int.toNat v.fst.snd.snd.snd.fst) (zero S23))
      let v1 := (k19 ((v0.fst, v0.snd.fst, v0.snd.snd.fst, v0.snd.snd.snd.fst, v0.snd.snd.snd.snd.fst, ()), (v.snd.fst.fst, v.snd.fst.snd.fst, ()), ()))
      bif (v1) then
        let v2 := (g19 ((v0.fst, v0.snd.fst, v0.snd.snd.fst, v0.snd.snd.snd.fst, v0.snd.snd.snd.snd.fst, ()), (v.snd.fst.fst, v.snd.fst.snd.fst, ()), ()))
        bif (v2.1) then
          some (Sum.inr (((v.fst.snd.snd.snd.1), ()), ()))
        else
          let v3 := (IntKind.wrap IntKind.i64 (v.fst.snd.snd.snd.fst + 1))
          f (((), ((v.fst.snd.1), ((v.fst.snd.snd.1), ((v3), ())))), (((v.snd.fst.1), ((v.snd.fst.snd.1), ())), ()))
      else
        none
    else
      none
  else
    some (Sum.inl ((), ()))
theorem evl32_4 (k29 : Den A29 → Bool) (g29 : Den A29 → Den R29) (k19 : Den A19 → Bool) (g19 : Den A19 → Den R19) (kl4 : V32_4 → Bool) (xl4 : V32_4 → X32_4) (tl4 : V32_4 → Bool) (yl4 : V32_4 → Y32_4) (f : V32_4 → Option (X32_4 ⊕ Y32_4)) (v : V32_4) : EBk (Γ32 k29 g29 k19 g19 kl4 xl4 tl4 yl4) lc32_4 (roundK [3, 10, 11, 12] [] 0 [] [] (atS sh32_4 f) (endS shX32_4 shY32_4)) (mkS sh32_4 v) = q32_4 k29 g29 k19 g19 f v := by kernel_rfl
def b32_4 (v : V32_4) : Nat := v.1.2.1.length + v.1.2.2.1.natAbs + v.1.2.2.2.1.natAbs + v.2.1.2.1.natAbs + 1000
def l32_4 (v : V32_4) : Option (X32_4 ⊕ Y32_4) := iter (q32_4 K29 G29 K19 G19) (b32_4 v) v
def kL32_4 (v : V32_4) : Bool := (l32_4 v).isSome
def tL32_4 (v : V32_4) : Bool := isR (l32_4 v)
def xL32_4 (v : V32_4) : X32_4 := xOf ((), ()) (l32_4 v)
def yL32_4 (v : V32_4) : Y32_4 := yOf ((0, ()), ()) (l32_4 v)
def r32 (k29 : Den A29 → Bool) (g29 : Den A29 → Den R29) (k19 : Den A19 → Bool) (g19 : Den A19 → Den R19) (kl4 : V32_4 → Bool) (xl4 : V32_4 → X32_4) (tl4 : V32_4 → Bool) (yl4 : V32_4 → Y32_4) (x : Den A32) : Option (Den R32) :=
  let v0 := (k29 (x.fst, ()))
  bif (v0) then
    let v1 := (g29 (x.fst, ()))
    bif (!v1.fst) then
      some ((-1), ())
    else
      let v2 := (kl4 (((), x.fst, (↑(List.length x.fst) : Int), 0, ()), (x.snd.fst.fst, x.snd.fst.snd.fst, ()), ()))
      bif (v2) then
        let v3 := (tl4 (((), x.fst, (↑(List.length x.fst) : Int), 0, ()), (x.snd.fst.fst, x.snd.fst.snd.fst, ()), ()))
        bif (v3) then
          let v4 := (yl4 (((), x.fst, (↑(List.length x.fst) : Int), 0, ()), (x.snd.fst.fst, x.snd.fst.snd.fst, ()), ()))
          some ((v4.fst.1), ())
        else
          some ((-1), ())
      else
        none
  else
    none
theorem ev32 (k29 : Den A29 → Bool) (g29 : Den A29 → Den R29) (k19 : Den A19 → Bool) (g19 : Den A19 → Den R19) (kl4 : V32_4 → Bool) (xl4 : V32_4 → X32_4) (tl4 : V32_4 → Bool) (yl4 : V32_4 → Y32_4) (x : Den A32) : callK (Γ32 k29 g29 k19 g19 kl4 xl4 tl4 yl4) (bodyOf Try.f32) (decR R32) (encA A32 x) [] = r32 k29 g29 k19 g19 kl4 xl4 tl4 yl4 x := by kernel_rfl
def F32 (x : Den A32) : Option (Den R32) := r32 K29 G29 K19 G19 kL32_4 xL32_4 tL32_4 yL32_4 x
def K32 (x : Den A32) : Bool := (F32 x).isSome
def G32 (x : Den A32) : Den R32 := (F32 x).getD (zero R32)
theorem env32 : EnvOK Try.prog (Γ32 K29 G29 K19 G19 kL32_4 xL32_4 tL32_4 yL32_4) := env_ok mixed tab_ok eqs_ok (.cons sem29 (.cons sem19 .nil))
theorem is32 : FnIs Try.prog 32 (Γ32 K29 G29 K19 G19 kL32_4 xL32_4 tL32_4 yL32_4) (bodyOf Try.f32) := fnIs Try.func32 rfl rfl rfl (by kernel_rfl) (loops_ok (l := [lc32_4]) (by kernel_rfl) (.cons (one_loop rfl (loopR_sound (sh := sh32_4) (shX := shX32_4) (shR := shY32_4) (fun f v => evl32_4 K29 G29 K19 G19 kL32_4 xL32_4 tL32_4 yL32_4 f v) b32_4 ((), ()) ((0, ()), ()))) (.nil)))
theorem sem32 : SemOK Try.prog (32, fnMean A32 R32 K32 G32) := fn_opt env32 is32 fun x => ev32 K29 G29 K19 G19 kL32_4 xL32_4 tL32_4 yL32_4 x

/- "loop.example/g03321/laws.FnExactBestSail" -/
abbrev A7 : Ty := .cons (.slice (S23)) (.cons (S25) (.nil))
abbrev R7 : Ty := .cons (.bool) (.nil)
noncomputable def Γ7 (k26 : Den A26 → Bool) (g26 : Den A26 → Den R26) (k28 : I28.den → Bool) (g28 : I28.den → O28.den) (k18 : Den A18 → Bool) (g18 : Den A18 → Den R18) (k31 : Den A31 → Bool) (g31 : Den A31 → Den R31) (k32 : Den A32 → Bool) (g32 : Den A32 → Den R32) (k30 : Den A30 → Bool) (g30 : Den A30 → Den R30) : Env := mkEnv tab eqs [(26, fnMean A26 R26 k26 g26), (28, sgMean false I28 O28 k28 g28), (18, fnMean A18 R18 k18 g18), (31, fnMean A31 R31 k31 g31), (32, fnMean A32 R32 k32 g32), (30, fnMean A30 R30 k30 g30)] 33 [.tmp 4] [] [] [] [] []
def r7 (k26 : Den A26 → Bool) (g26 : Den A26 → Den R26) (k28 : I28.den → Bool) (g28 : I28.den → O28.den) (k18 : Den A18 → Bool) (g18 : Den A18 → Den R18) (k31 : Den A31 → Bool) (g31 : Den A31 → Den R31) (k32 : Den A32 → Bool) (g32 : Den A32 → Den R32) (k30 : Den A30 → Bool) (g30 : Den A30 → Den R30) (x : Den A7) : Option (Den R7) :=
  let v0 := (k26 (x.fst, 1048576, ()))
  bif (v0) then
    let v1 := (g26 (x.fst, 1048576, ()))
    bif (decide (v1.fst < 0)) then
      some ((true), ())
    else
      let v2 := (k28 ((x.fst, ()), ()))
      bif (v2) then
        let v3 := (k18 ((x.snd.fst.fst, x.snd.fst.snd.fst, ()), ()))
        bif (v3) then
          let v4 := (g28 ((x.fst, ()), ()))
          let v5 := (g18 ((x.snd.fst.fst, x.snd.fst.snd.fst, ()), ()))
          let v6 := (k31 (v4.snd.fst, (v5.fst.fst, v5.fst.snd.fst, ()), ()))
          bif (v6) then
            bif (v2) then
              bif (v3) then
                let v7 := (k32 (v4.snd.fst, (v5.fst.fst, v5.fst.snd.fst, ()), ()))
                bif (v7) then
                  let v8 := (g32 (v4.snd.fst, (v5.fst.fst, v5.fst.snd.fst, ()), ()))
                  let v9 := (g31 (v4.snd.fst, (v5.fst.fst, v5.fst.snd.fst, ()), ()))
                  bif (v8.fst != v9.fst) then
                    some ((false), ())
                  else
                    bif (v2) then
                      let v10 := (k30 (v4.snd.fst, v4.snd.fst, ()))
                      bif (v10) then
                        let v11 := (g30 (v4.snd.fst, v4.snd.fst, ()))
                        bif (!v11.fst) then
                          some ((false), ())
                        else
                          some ((true), ())
                      else
                        none
                    else
                      none
                else
                  none
              else
                none
            else
              none
          else
            none
        else
          none
      else
        none
  else
    none
theorem ev7 (k26 : Den A26 → Bool) (g26 : Den A26 → Den R26) (k28 : I28.den → Bool) (g28 : I28.den → O28.den) (k18 : Den A18 → Bool) (g18 : Den A18 → Den R18) (k31 : Den A31 → Bool) (g31 : Den A31 → Den R31) (k32 : Den A32 → Bool) (g32 : Den A32 → Den R32) (k30 : Den A30 → Bool) (g30 : Den A30 → Den R30) (x : Den A7) : callK (Γ7 k26 g26 k28 g28 k18 g18 k31 g31 k32 g32 k30 g30) (bodyOf Try.f7) (decR R7) (encA A7 x) [] = r7 k26 g26 k28 g28 k18 g18 k31 g31 k32 g32 k30 g30 x := by kernel_rfl
def F7 (x : Den A7) : Option (Den R7) := r7 K26 G26 K28 G28 K18 G18 K31 G31 K32 G32 K30 G30 x
def K7 (x : Den A7) : Bool := (F7 x).isSome
def G7 (x : Den A7) : Den R7 := (F7 x).getD (zero R7)
theorem env7 : EnvOK Try.prog (Γ7 K26 G26 K28 G28 K18 G18 K31 G31 K32 G32 K30 G30) := env_ok mixed tab_ok eqs_ok (.cons sem26 (.cons sem28 (.cons sem18 (.cons sem31 (.cons sem32 (.cons sem30 .nil))))))
theorem is7 : FnIs Try.prog 7 (Γ7 K26 G26 K28 G28 K18 G18 K31 G31 K32 G32 K30 G30) (bodyOf Try.f7) := fnIs Try.func7 rfl rfl rfl (by kernel_rfl) (noLoops (by kernel_rfl))
theorem sem7 : SemOK Try.prog (7, fnMean A7 R7 K7 G7) := fn_opt env7 is7 fun x => ev7 K26 G26 K28 G28 K18 G18 K31 G31 K32 G32 K30 G30 x

/- "loop.example/g03321/spec.KeepSail" -/
abbrev A35 : Ty := .cons (.slice (S23)) (.cons (.int .i64) (.cons (S25) (.nil)))
abbrev R35 : Ty := .cons (.int .i64) (.nil)
noncomputable def Γ35 (k27 : Den A27 → Bool) (g27 : Den A27 → Den R27) (k53 : Den A53 → Bool) (g53 : Den A53 → Den R53) (k24 : Den A24 → Bool) (g24 : Den A24 → Den R24) (k31 : Den A31 → Bool) (g31 : Den A31 → Den R31) : Env := mkEnv tab eqs [(27, fnMean A27 R27 k27 g27), (53, fnMean A53 R53 k53 g53), (24, fnMean A24 R24 k24 g24), (31, fnMean A31 R31 k31 g31)] 27 [.tmp 6] [] [] [] [] []
def r35 (k27 : Den A27 → Bool) (g27 : Den A27 → Den R27) (k53 : Den A53 → Bool) (g53 : Den A53 → Den R53) (k24 : Den A24 → Bool) (g24 : Den A24 → Den R24) (k31 : Den A31 → Bool) (g31 : Den A31 → Den R31) (x : Den A35) : Option (Den R35) :=
  let v0 := (k27 (x.fst, ()))
  bif (v0) then
    let v1 := (g27 (x.fst, ()))
    bif (!v1.fst) then
      some ((-1), ())
    else
      let v2 := (IntKind.wrap IntKind.i64 ((↑(List.length x.fst) : Int) - 1))
      let v3 := (k53 (x.snd.fst, 0, v2, ()))
      bif (v3) then
        let v4 := (g53 (x.snd.fst, 0, v2, ()))
        bif (v4.1) then
          bif (decide (0 ≤ x.snd.fst) && decide (x.snd.fst < (↑(List.length x.fst) : Int))) then
            let v5 := (List.getD x.fst (Int.toNat x.snd.fst) (zero S23))
            let v6 := (k24 ((v5.fst, v5.snd.fst, v5.snd.snd.fst, v5.snd.snd.snd.fst, v5.snd.snd.snd.snd.fst, ()), (x.snd.snd.fst.fst, x.snd.snd.fst.snd.fst, ()), ()))
            bif (v6) then
              let v7 := (g24 ((v5.fst, v5.snd.fst, v5.snd.snd.fst, v5.snd.snd.snd.fst, v5.snd.snd.snd.snd.fst, ()), (x.snd.snd.fst.fst, x.snd.snd.fst.snd.fst, ()), ()))
              bif (v7.1) then
                some ((x.snd.1), ())
              else
                let v8 := (k31 (x.fst, (x.snd.snd.fst.fst, x.snd.snd.fst.snd.fst, ()), ()))
                bif (v8) then
                  let v9 := (g31 (x.fst, (x.snd.snd.fst.fst, x.snd.snd.fst.snd.fst, ()), ()))
                  some ((v9.1), ())
                else
                  none
            else
              none
          else
            none
        else
          let v5 := (k31 (x.fst, (x.snd.snd.fst.fst, x.snd.snd.fst.snd.fst, ()), ()))
          bif (v5) then
            let v6 := (g31 (x.fst, (x.snd.snd.fst.fst, x.snd.snd.fst.snd.fst, ()), ()))
            some ((v6.1), ())
          else
            none
      else
        none
  else
    none
theorem ev35 (k27 : Den A27 → Bool) (g27 : Den A27 → Den R27) (k53 : Den A53 → Bool) (g53 : Den A53 → Den R53) (k24 : Den A24 → Bool) (g24 : Den A24 → Den R24) (k31 : Den A31 → Bool) (g31 : Den A31 → Den R31) (x : Den A35) : callK (Γ35 k27 g27 k53 g53 k24 g24 k31 g31) (bodyOf Try.f35) (decR R35) (encA A35 x) [] = r35 k27 g27 k53 g53 k24 g24 k31 g31 x := by kernel_rfl
def F35 (x : Den A35) : Option (Den R35) := r35 K27 G27 K53 G53 K24 G24 K31 G31 x
def K35 (x : Den A35) : Bool := (F35 x).isSome
def G35 (x : Den A35) : Den R35 := (F35 x).getD (zero R35)
theorem env35 : EnvOK Try.prog (Γ35 K27 G27 K53 G53 K24 G24 K31 G31) := env_ok mixed tab_ok eqs_ok (.cons sem27 (.cons sem53 (.cons sem24 (.cons sem31 .nil))))
theorem is35 : FnIs Try.prog 35 (Γ35 K27 G27 K53 G53 K24 G24 K31 G31) (bodyOf Try.f35) := fnIs Try.func35 rfl rfl rfl (by kernel_rfl) (noLoops (by kernel_rfl))
theorem sem35 : SemOK Try.prog (35, fnMean A35 R35 K35 G35) := fn_opt env35 is35 fun x => ev35 K27 G27 K53 G53 K24 G24 K31 G31 x

/- "loop.example/g03321/impl.KeepSail" -/
abbrev A36 : Ty := .cons (.slice (S23)) (.cons (.int .i64) (.cons (S25) (.nil)))
abbrev R36 : Ty := .cons (.int .i64) (.nil)
noncomputable def Γ36 (k29 : Den A29 → Bool) (g29 : Den A29 → Den R29) (k52 : Den A52 → Bool) (g52 : Den A52 → Den R52) (k25 : Den A25 → Bool) (g25 : Den A25 → Den R25) (k32 : Den A32 → Bool) (g32 : Den A32 → Den R32) : Env := mkEnv tab eqs [(29, fnMean A29 R29 k29 g29), (52, fnMean A52 R52 k52 g52), (25, fnMean A25 R25 k25 g25), (32, fnMean A32 R32 k32 g32)] 27 [.tmp 6] [] [] [] [] []
def r36 (k29 : Den A29 → Bool) (g29 : Den A29 → Den R29) (k52 : Den A52 → Bool) (g52 : Den A52 → Den R52) (k25 : Den A25 → Bool) (g25 : Den A25 → Den R25) (k32 : Den A32 → Bool) (g32 : Den A32 → Den R32) (x : Den A36) : Option (Den R36) :=
  let v0 := (k29 (x.fst, ()))
  bif (v0) then
    let v1 := (g29 (x.fst, ()))
    bif (!v1.fst) then
      some ((-1), ())
    else
      let v2 := (IntKind.wrap IntKind.i64 ((↑(List.length x.fst) : Int) - 1))
      let v3 := (k52 (x.snd.fst, 0, v2, ()))
      bif (v3) then
        let v4 := (g52 (x.snd.fst, 0, v2, ()))
        bif (v4.1) then
          bif (decide (0 ≤ x.snd.fst) && decide (x.snd.fst < (↑(List.length x.fst) : Int))) then
            let v5 := (List.getD x.fst (Int.toNat x.snd.fst) (zero S23))
            let v6 := (k25 ((v5.fst, v5.snd.fst, v5.snd.snd.fst, v5.snd.snd.snd.fst, v5.snd.snd.snd.snd.fst, ()), (x.snd.snd.fst.fst, x.snd.snd.fst.snd.fst, ()), ()))
            bif (v6) then
              let v7 := (g25 ((v5.fst, v5.snd.fst, v5.snd.snd.fst, v5.snd.snd.snd.fst, v5.snd.snd.snd.snd.fst, ()), (x.snd.snd.fst.fst, x.snd.snd.fst.snd.fst, ()), ()))
              bif (v7.1) then
                some ((x.snd.1), ())
              else
                let v8 := (k32 (x.fst, (x.snd.snd.fst.fst, x.snd.snd.fst.snd.fst, ()), ()))
                bif (v8) then
                  let v9 := (g32 (x.fst, (x.snd.snd.fst.fst, x.snd.snd.fst.snd.fst, ()), ()))
                  some ((v9.1), ())
                else
                  none
            else
              none
          else
            none
        else
          let v5 := (k32 (x.fst, (x.snd.snd.fst.fst, x.snd.snd.fst.snd.fst, ()), ()))
          bif (v5) then
            let v6 := (g32 (x.fst, (x.snd.snd.fst.fst, x.snd.snd.fst.snd.fst, ()), ()))
            some ((v6.1), ())
          else
            none
      else
        none
  else
    none
theorem ev36 (k29 : Den A29 → Bool) (g29 : Den A29 → Den R29) (k52 : Den A52 → Bool) (g52 : Den A52 → Den R52) (k25 : Den A25 → Bool) (g25 : Den A25 → Den R25) (k32 : Den A32 → Bool) (g32 : Den A32 → Den R32) (x : Den A36) : callK (Γ36 k29 g29 k52 g52 k25 g25 k32 g32) (bodyOf Try.f36) (decR R36) (encA A36 x) [] = r36 k29 g29 k52 g52 k25 g25 k32 g32 x := by kernel_rfl
def F36 (x : Den A36) : Option (Den R36) := r36 K29 G29 K52 G52 K25 G25 K32 G32 x
def K36 (x : Den A36) : Bool := (F36 x).isSome
def G36 (x : Den A36) : Den R36 := (F36 x).getD (zero R36)
theorem env36 : EnvOK Try.prog (Γ36 K29 G29 K52 G52 K25 G25 K32 G32) := env_ok mixed tab_ok eqs_ok (.cons sem29 (.cons sem52 (.cons sem25 (.cons sem32 .nil))))
theorem is36 : FnIs Try.prog 36 (Γ36 K29 G29 K52 G52 K25 G25 K32 G32) (bodyOf Try.f36) := fnIs Try.func36 rfl rfl rfl (by kernel_rfl) (noLoops (by kernel_rfl))
theorem sem36 : SemOK Try.prog (36, fnMean A36 R36 K36 G36) := fn_opt env36 is36 fun x => ev36 K29 G29 K52 G52 K25 G25 K32 G32 x

/- "loop.example/g03321/laws.FnExactKeepSail" -/
abbrev A9 : Ty := .cons (.slice (S23)) (.cons (.int .i64) (.cons (S25) (.nil)))
abbrev R9 : Ty := .cons (.bool) (.nil)
noncomputable def Γ9 (k26 : Den A26 → Bool) (g26 : Den A26 → Den R26) (k28 : I28.den → Bool) (g28 : I28.den → O28.den) (k18 : Den A18 → Bool) (g18 : Den A18 → Den R18) (k35 : Den A35 → Bool) (g35 : Den A35 → Den R35) (k36 : Den A36 → Bool) (g36 : Den A36 → Den R36) (k30 : Den A30 → Bool) (g30 : Den A30 → Den R30) : Env := mkEnv tab eqs [(26, fnMean A26 R26 k26 g26), (28, sgMean false I28 O28 k28 g28), (18, fnMean A18 R18 k18 g18), (35, fnMean A35 R35 k35 g35), (36, fnMean A36 R36 k36 g36), (30, fnMean A30 R30 k30 g30)] 37 [.tmp 6] [] [] [] [] []
def r9 (k26 : Den A26 → Bool) (g26 : Den A26 → Den R26) (k28 : I28.den → Bool) (g28 : I28.den → O28.den) (k18 : Den A18 → Bool) (g18 : Den A18 → Den R18) (k35 : Den A35 → Bool) (g35 : Den A35 → Den R35) (k36 : Den A36 → Bool) (g36 : Den A36 → Den R36) (k30 : Den A30 → Bool) (g30 : Den A30 → Den R30) (x : Den A9) : Option (Den R9) :=
  let v0 := (k26 (x.fst, 1048576, ()))
  bif (v0) then
    let v1 := (g26 (x.fst, 1048576, ()))
    bif (decide (v1.fst < 0)) then
      some ((true), ())
    else
      let v2 := (k28 ((x.fst, ()), ()))
      bif (v2) then
        let v3 := (k18 ((x.snd.snd.fst.fst, x.snd.snd.fst.snd.fst, ()), ()))
        bif (v3) then
          let v4 := (g28 ((x.fst, ()), ()))
          let v5 := (g18 ((x.snd.snd.fst.fst, x.snd.snd.fst.snd.fst, ()), ()))
          let v6 := (k35 (v4.snd.fst, x.snd.fst, (v5.fst.fst, v5.fst.snd.fst, ()), ()))
          bif (v6) then
            bif (v2) then
              bif (v3) then
                let v7 := (k36 (v4.snd.fst, x.snd.fst, (v5.fst.fst, v5.fst.snd.fst, ()), ()))
                bif (v7) then
                  let v8 := (g36 (v4.snd.fst, x.snd.fst, (v5.fst.fst, v5.fst.snd.fst, ()), ()))
                  let v9 := (g35 (v4.snd.fst, x.snd.fst, (v5.fst.fst, v5.fst.snd.fst, ()), ()))
                  bif (v8.fst != v9.fst) then
                    some ((false), ())
                  else
                    bif (v2) then
                      let v10 := (k30 (v4.snd.fst, v4.snd.fst, ()))
                      bif (v10) then
                        let v11 := (g30 (v4.snd.fst, v4.snd.fst, ()))
                        bif (!v11.fst) then
                          some ((false), ())
                        else
                          some ((true), ())
                      else
                        none
                    else
                      none
                else
                  none
              else
                none
            else
              none
          else
            none
        else
          none
      else
        none
  else
    none
theorem ev9 (k26 : Den A26 → Bool) (g26 : Den A26 → Den R26) (k28 : I28.den → Bool) (g28 : I28.den → O28.den) (k18 : Den A18 → Bool) (g18 : Den A18 → Den R18) (k35 : Den A35 → Bool) (g35 : Den A35 → Den R35) (k36 : Den A36 → Bool) (g36 : Den A36 → Den R36) (k30 : Den A30 → Bool) (g30 : Den A30 → Den R30) (x : Den A9) : callK (Γ9 k26 g26 k28 g28 k18 g18 k35 g35 k36 g36 k30 g30) (bodyOf Try.f9) (decR R9) (encA A9 x) [] = r9 k26 g26 k28 g28 k18 g18 k35 g35 k36 g36 k30 g30 x := by kernel_rfl
def F9 (x : Den A9) : Option (Den R9) := r9 K26 G26 K28 G28 K18 G18 K35 G35 K36 G36 K30 G30 x
def K9 (x : Den A9) : Bool := (F9 x).isSome
def G9 (x : Den A9) : Den R9 := (F9 x).getD (zero R9)
theorem env9 : EnvOK Try.prog (Γ9 K26 G26 K28 G28 K18 G18 K35 G35 K36 G36 K30 G30) := env_ok mixed tab_ok eqs_ok (.cons sem26 (.cons sem28 (.cons sem18 (.cons sem35 (.cons sem36 (.cons sem30 .nil))))))
theorem is9 : FnIs Try.prog 9 (Γ9 K26 G26 K28 G28 K18 G18 K35 G35 K36 G36 K30 G30) (bodyOf Try.f9) := fnIs Try.func9 rfl rfl rfl (by kernel_rfl) (noLoops (by kernel_rfl))
theorem sem9 : SemOK Try.prog (9, fnMean A9 R9 K9 G9) := fn_opt env9 is9 fun x => ev9 K26 G26 K28 G28 K18 G18 K35 G35 K36 G36 K30 G30 x

/- "loop.example/g03321/laws.szMomentS" -/
abbrev A37 : Ty := .cons (.slice (S25)) (.cons (.int .i64) (.nil))
abbrev R37 : Ty := .cons (.int .i64) (.nil)
noncomputable def Γ37 : Env := mkEnv tab eqs [] 12 [.tmp 4] [] [] [] [] []
def r37 (x : Den A37) : Option (Den R37) :=
  let v0 := (IntKind.wrap IntKind.i64 (x.snd.fst - (↑(List.length x.fst) : Int)))
  bif (decide (v0 < 0)) then
    some ((-1), ())
  else
    some ((v0), ())
theorem ev37 (x : Den A37) : callK (Γ37) (bodyOf Try.f37) (decR R37) (encA A37 x) [] = r37 x := by kernel_rfl
def F37 (x : Den A37) : Option (Den R37) := r37 x
def K37 (x : Den A37) : Bool := (F37 x).isSome
def G37 (x : Den A37) : Den R37 := (F37 x).getD (zero R37)
theorem env37 : EnvOK Try.prog (Γ37) := env_ok mixed tab_ok eqs_ok .nil
theorem is37 : FnIs Try.prog 37 (Γ37) (bodyOf Try.f37) := fnIs Try.func37 rfl rfl rfl (by kernel_rfl) (noLoops (by kernel_rfl))
theorem sem37 : SemOK Try.prog (37, fnMean A37 R37 K37 G37) := fn_opt env37 is37 fun x => ev37 x

/- "loop.example/g03321/laws.toMomentS" mode S false -/
abbrev I39 : Sg := ⟨[.val (.slice (S25))], []⟩
abbrev O39 : Sg := ⟨[.own (S25) 0], [.arr (S25)]⟩
abbrev V39_3 : Type := (((List (Den (S25))) × (Unit × (Int × Unit))) × ((List (Den (S25))) × Unit))
def sh39_3 : ShS := ⟨[(0, .one (.sl (S25))), (3, .one (.ref (S25) 0)), (4, .one (.int .i64))], [(0, .arr (S25))], 1, 0⟩
abbrev X39_3 : Type := ((Unit × Unit) × ((List (Den (S25))) × Unit))
def shX39_3 : ShS := ⟨[(3, .one (.ref (S25) 0))], [(0, .arr (S25))], 1, 0⟩
noncomputable def Γ39 (k18 : Den A18 → Bool) (g18 : Den A18 → Den R18) (kl3 : V39_3 → Bool) (xl3 : V39_3 → X39_3) : Env := mkEnv tab eqs [(18, fnMean A18 R18 k18 g18)] 23 [.tmp 2] [] [] [(3, loopX [0, 3, 4] [] 0 [3] [] sh39_3 shX39_3 kl3 xl3)] [] []
noncomputable def lc39_3 : Code := (loopsOf (bodyOf Try.f39)).getD 0 .skip
def q39_3 (k18 : Den A18 → Bool) (g18 : Den A18 → Den R18) (f : V39_3 → Option (X39_3)) (v : V39_3) : Option (X39_3) :=
  bif (decide (v.fst.snd.snd.fst < (↑(List.length v.fst.fst) : Int))) then
    bif (decide (0 ≤ v.fst.snd.snd.fst) && decide (v.fst.snd.snd.fst < (↑(List.length v.fst.fst) : Int))) then
      let v0 := (List.getD v.fst.fst (Int.toNat v.fst.snd.snd.fst) (zero S25))
      let v1 := (k18 ((v0.fst, v0.snd.fst, ()), ()))
      bif (v1) then
        bif (decide (0 ≤ v.fst.snd.snd.fst) && decide (v.fst.snd.snd.fst < (↑(List.length v.snd.fst) : Int))) then
          let v2 := (IntKind.wrap IntKind.i64 (v.fst.snd.snd.fst + 1))
          let v3 := (g18 ((v0.fst, v0.snd.fst, ()), ()))
          let v4 := (List.set v.snd.fst (Int.toNat v.fst.snd.snd.fst) (v3.fst.fst, v3.fst.snd.fst, ()))
          f (((v.fst.1), ((), ((v2), ()))), ((v4), ()))
        else
          none
      else
        none
    else
      none
  else
    some (((), ()), ((v.snd.1), ()))
theorem evl39_3 (k18 : Den A18 → Bool) (g18 : Den A18 → Den R18) (kl3 : V39_3 → Bool) (xl3 : V39_3 → X39_3) (f : V39_3 → Option (X39_3)) (v : V39_3) : EBk (Γ39 k18 g18 kl3 xl3) lc39_3 (roundK [0, 3, 4] [] 0 [3] [] (atS sh39_3 f) (endX shX39_3)) (mkS sh39_3 v) = q39_3 k18 g18 f v := by kernel_rfl
def b39_3 (v : V39_3) : Nat := v.1.1.length + v.1.2.2.1.natAbs + v.2.1.length + 1000
def l39_3 (v : V39_3) : Option (X39_3) := iter (q39_3 K18 G18) (b39_3 v) v
def kL39_3 (v : V39_3) : Bool := (l39_3 v).isSome
def xL39_3 (v : V39_3) : X39_3 := (l39_3 v).getD (((), ()), ([], ()))
def r39 (k18 : Den A18 → Bool) (g18 : Den A18 → Den R18) (kl3 : V39_3 → Bool) (xl3 : V39_3 → X39_3) (x : I39.den) : Option (O39.den) :=
  bif (decide (0 ≤ (↑(List.length x.fst.fst) : Int)) && capOk (Int.toNat (↑(List.length x.fst.fst) : Int)) && (↑(List.length x.fst.fst) : Int) == (↑(List.length x.fst.fst) : Int)) then
    let v0 := (kl3 ((x.fst.fst, (), 0, ()), List.replicate (Int.toNat (↑(List.length x.fst.fst) : Int)) (zero S25), ()))
    bif (v0) then
      let v1 := (xl3 ((x.fst.fst, (), 0, ()), List.replicate (Int.toNat (↑(List.length x.fst.fst) : Int)) (zero S25), ()))
      some (((), ()), ((v1.snd.1), ()))
    else
      none
  else
    none
theorem ev39 (k18 : Den A18 → Bool) (g18 : Den A18 → Den R18) (kl3 : V39_3 → Bool) (xl3 : V39_3 → X39_3) (x : I39.den) : callS (Γ39 k18 g18 kl3 xl3) (bodyOf Try.f39) I39 O39 x = r39 k18 g18 kl3 xl3 x := by kernel_rfl
def F39 (x : I39.den) : Option (O39.den) := r39 K18 G18 kL39_3 xL39_3 x
def K39 (x : I39.den) : Bool := (F39 x).isSome
def G39 (x : I39.den) : O39.den := (F39 x).getD (zeroSg O39)
theorem env39 : EnvOK Try.prog (Γ39 K18 G18 kL39_3 xL39_3) := env_ok mixed tab_ok eqs_ok (.cons sem18 .nil)
theorem is39 : FnIs Try.prog 39 (Γ39 K18 G18 kL39_3 xL39_3) (bodyOf Try.f39) := fnIs Try.func39 rfl rfl rfl (by kernel_rfl) (loops_ok (l := [lc39_3]) (by kernel_rfl) (.cons (one_loop rfl (loopX_sound (sh := sh39_3) (shX := shX39_3) (fun f v => evl39_3 K18 G18 kL39_3 xL39_3 f v) b39_3 (((), ()), ([], ())))) (.nil)))
theorem sem39 : SemOK Try.prog (39, sgMean false I39 O39 K39 G39) := sg_opt env39 is39 false fun x => ev39 K18 G18 kL39_3 xL39_3 x

/- "loop.example/g03321/spec.PlanOk" -/
abbrev A38 : Ty := .cons (.slice (S23)) (.cons (.slice (S25)) (.cons (.slice (.int .i64)) (.nil)))
abbrev R38 : Ty := .cons (.bool) (.nil)
abbrev V38_4 : Type := (((List (Den (S23))) × ((List (Den (S25))) × ((List (Den (.int .i64))) × (Int × Unit)))) × Unit)
def sh38_4 : ShS := ⟨[(0, .one (.sl (S23))), (1, .one (.sl (S25))), (2, .one (.sl (.int .i64))), (7, .one (.int .i64))], [], 0, 0⟩
abbrev X38_4 : Type := (Unit × Unit)
def shX38_4 : ShS := ⟨[], [], 0, 0⟩
abbrev Y38_4 : Type := ((Bool × Unit) × Unit)
def shY38_4 : ShS := ⟨[(6, .one (.bool))], [], 0, 0⟩
noncomputable def Γ38 (k27 : Den A27 → Bool) (g27 : Den A27 → Den R27) (k53 : Den A53 → Bool) (g53 : Den A53 → Den R53) (k24 : Den A24 → Bool) (g24 : Den A24 → Den R24) (kl4 : V38_4 → Bool) (xl4 : V38_4 → X38_4) (tl4 : V38_4 → Bool) (yl4 : V38_4 → Y38_4) : Env := mkEnv tab eqs [(27, fnMean A27 R27 k27 g27), (53, fnMean A53 R53 k53 g53), (24, fnMean A24 R24 k24 g24)] 53 [.tmp 6] [] [] [(4, loopR [0, 1, 2, 7] [] 0 [] [] sh38_4 shX38_4 shY38_4 kl4 tl4 xl4 yl4)] [] []
noncomputable def lc38_4 : Code := (loopsOf (bodyOf Try.f38)).getD 0 .skip
def q38_4 (k27 : Den A27 → Bool) (g27 : Den A27 → Den R27) (k53 : Den A53 → Bool) (g53 : Den A53 → Den R53) (k24 : Den A24 → Bool) (g24 : Den A24 → Den R24) (f : V38_4 → Option (X38_4 ⊕ Y38_4)) (v : V38_4) : Option (X38_4 ⊕ Y38_4) :=
  bif (decide (v.fst.snd.snd.snd.fst < (↑(List.length v.fst.snd.snd.fst) : Int))) then
    bif (decide (0 ≤ v.fst.snd.snd.snd.fst) && decide (v.fst.snd.snd.snd.fst < (↑(List.length v.fst.snd.snd.fst) : Int))) then
      let v0 := (List.getD v.fst.snd.snd.fst (Int.toNat v.fst.snd.snd.snd.fst) (zero (Ty.int IntKind.i64)))
      let v1 := (IntKind.wrap IntKind.i64 ((↑(List.length v.fst.fst) : Int) - 1))
      let v2 := (k53 (v0, 0, v1, ()))
      bif (v2) then
        let v3 := (g53 (v0, 0, v1, ()))
        bif (!v3.fst) then
          some (Sum.inr (((false), ()), ()))
        else
          bif (decide (0 ≤ v.fst.snd.snd.snd.fst) && decide (v.fst.snd.snd.snd.fst < (↑(List.length v.fst.snd.snd.fst) : Int))) then
            bif (decide (0 ≤ v0) && decide (v0 < (↑(List.length v.fst.fst) : Int))) then
              bif (decide (0 ≤ v.fst.snd.snd.snd.fst) && decide (v.fst.snd.snd.snd.fst < (↑(List.length v.fst.snd.fst) : Int))) then
                let v4 := (List.getD v.fst.fst (Int.toNat v0) (zero S23))
                let v5 := (List.getD v.fst.snd.fst (Int.toNat v.fst.snd.snd.snd.fst) (zero S25))
                let v6 := (k24 ((v4.fst, v4.snd.fst, v4.snd.snd.fst, v4.snd.snd.snd.fst, v4.snd.snd.snd.snd.fst, ()), (v5.fst, v5.snd.fst, ()), ()))
                bif (v6) then
                  let v7 := (g24 ((v4.fst, v4.snd.fst, v4.snd.snd.fst, v4.snd.snd.snd.fst, v4.snd.snd.snd.snd.fst, ()), (v5.fst, v5.snd.fst, ()), ()))
                  bif (!v7.fst) then
                    some (Sum.inr (((false), ()), ()))
                  else
                    let v8 := (IntKind.wrap IntKind.i64 (v.fst.snd.snd.snd.fst + 1))
                    f (((v.fst.1), ((v.fst.snd.1), ((v.fst.snd.snd.1), ((v8), ())))), ())
                else
                  none
              else
                none
            else
              none
          else
            none
      else
        none
    else
      none
  else
    some (Sum.inl ((), ()))
theorem evl38_4 (k27 : Den A27 → Bool) (g27 : Den A27 → Den R27) (k53 : Den A53 → Bool) (g53 : Den A53 → Den R53) (k24 : Den A24 → Bool) (g24 : Den A24 → Den R24) (kl4 : V38_4 → Bool) (xl4 : V38_4 → X38_4) (tl4 : V38_4 → Bool) (yl4 : V38_4 → Y38_4) (f : V38_4 → Option (X38_4 ⊕ Y38_4)) (v : V38_4) : EBk (Γ38 k27 g27 k53 g53 k24 g24 kl4 xl4 tl4 yl4) lc38_4 (roundK [0, 1, 2, 7] [] 0 [] [] (atS sh38_4 f) (endS shX38_4 shY38_4)) (mkS sh38_4 v) = q38_4 k27 g27 k53 g53 k24 g24 f v := by kernel_rfl
def b38_4 (v : V38_4) : Nat := v.1.1.length + v.1.2.1.length + v.1.2.2.1.length + v.1.2.2.2.1.natAbs + 1000
def l38_4 (v : V38_4) : Option (X38_4 ⊕ Y38_4) := iter (q38_4 K27 G27 K53 G53 K24 G24) (b38_4 v) v
def kL38_4 (v : V38_4) : Bool := (l38_4 v).isSome
def tL38_4 (v : V38_4) : Bool := isR (l38_4 v)
def xL38_4 (v : V38_4) : X38_4 := xOf ((), ()) (l38_4 v)
def yL38_4 (v : V38_4) : Y38_4 := yOf ((false, ()), ()) (l38_4 v)
def r38 (k27 : Den A27 → Bool) (g27 : Den A27 → Den R27) (k53 : Den A53 → Bool) (g53 : Den A53 → Den R53) (k24 : Den A24 → Bool) (g24 : Den A24 → Den R24) (kl4 : V38_4 → Bool) (xl4 : V38_4 → X38_4) (tl4 : V38_4 → Bool) (yl4 : V38_4 → Y38_4) (x : Den A38) : Option (Den R38) :=
  let v0 := (k27 (x.fst, ()))
  bif (v0) then
    let v1 := (g27 (x.fst, ()))
    bif (!v1.fst) then
      some ((false), ())
    else
      bif (decide ((↑(List.length x.snd.fst) : Int) > 60)) then
        some ((false), ())
      else
        bif ((↑(List.length x.snd.snd.fst) : Int) != (↑(List.length x.snd.fst) : Int)) then
          some ((false), ())
        else
          let v2 := (kl4 ((x.fst, x.snd.fst, x.snd.snd.fst, 0, ()), ()))
          bif (v2) then
            let v3 := (tl4 ((x.fst, x.snd.fst, x.snd.snd.fst, 0, ()), ()))
            bif (v3) then
              let v4 := (yl4 ((x.fst, x.snd.fst, x.snd.snd.fst, 0, ()), ()))
              some ((v4.fst.1), ())
            else
              some ((true), ())
          else
            none
  else
    none
theorem ev38 (k27 : Den A27 → Bool) (g27 : Den A27 → Den R27) (k53 : Den A53 → Bool) (g53 : Den A53 → Den R53) (k24 : Den A24 → Bool) (g24 : Den A24 → Den R24) (kl4 : V38_4 → Bool) (xl4 : V38_4 → X38_4) (tl4 : V38_4 → Bool) (yl4 : V38_4 → Y38_4) (x : Den A38) : callK (Γ38 k27 g27 k53 g53 k24 g24 kl4 xl4 tl4 yl4) (bodyOf Try.f38) (decR R38) (encA A38 x) [] = r38 k27 g27 k53 g53 k24 g24 kl4 xl4 tl4 yl4 x := by kernel_rfl
def F38 (x : Den A38) : Option (Den R38) := r38 K27 G27 K53 G53 K24 G24 kL38_4 xL38_4 tL38_4 yL38_4 x
def K38 (x : Den A38) : Bool := (F38 x).isSome
def G38 (x : Den A38) : Den R38 := (F38 x).getD (zero R38)
theorem env38 : EnvOK Try.prog (Γ38 K27 G27 K53 G53 K24 G24 kL38_4 xL38_4 tL38_4 yL38_4) := env_ok mixed tab_ok eqs_ok (.cons sem27 (.cons sem53 (.cons sem24 .nil)))
theorem is38 : FnIs Try.prog 38 (Γ38 K27 G27 K53 G53 K24 G24 kL38_4 xL38_4 tL38_4 yL38_4) (bodyOf Try.f38) := fnIs Try.func38 rfl rfl rfl (by kernel_rfl) (loops_ok (l := [lc38_4]) (by kernel_rfl) (.cons (one_loop rfl (loopR_sound (sh := sh38_4) (shX := shX38_4) (shR := shY38_4) (fun f v => evl38_4 K27 G27 K53 G53 K24 G24 kL38_4 xL38_4 tL38_4 yL38_4 f v) b38_4 ((), ()) ((false, ()), ()))) (.nil)))
theorem sem38 : SemOK Try.prog (38, fnMean A38 R38 K38 G38) := fn_opt env38 is38 fun x => ev38 K27 G27 K53 G53 K24 G24 kL38_4 xL38_4 tL38_4 yL38_4 x

/- "loop.example/g03321/impl.PlanOk" -/
abbrev A40 : Ty := .cons (.slice (S23)) (.cons (.slice (S25)) (.cons (.slice (.int .i64)) (.nil)))
abbrev R40 : Ty := .cons (.bool) (.nil)
abbrev V40_4 : Type := (((List (Den (S23))) × ((List (Den (S25))) × ((List (Den (.int .i64))) × (Int × (Int × Unit))))) × Unit)
def sh40_4 : ShS := ⟨[(0, .one (.sl (S23))), (1, .one (.sl (S25))), (24, .one (.sl (.int .i64))), (25, .one (.int .i64)), (26, .one (.int .i64))], [], 0, 0⟩
abbrev X40_4 : Type := (Unit × Unit)
def shX40_4 : ShS := ⟨[], [], 0, 0⟩
abbrev Y40_4 : Type := ((Bool × Unit) × Unit)
def shY40_4 : ShS := ⟨[(6, .one (.bool))], [], 0, 0⟩
noncomputable def Γ40 (k29 : Den A29 → Bool) (g29 : Den A29 → Den R29) (k52 : Den A52 → Bool) (g52 : Den A52 → Den R52) (k25 : Den A25 → Bool) (g25 : Den A25 → Den R25) (kl4 : V40_4 → Bool) (xl4 : V40_4 → X40_4) (tl4 : V40_4 → Bool) (yl4 : V40_4 → Y40_4) : Env := mkEnv tab eqs [(29, fnMean A29 R29 k29 g29), (52, fnMean A52 R52 k52 g52), (25, fnMean A25 R25 k25 g25)] 50 [.tmp 6] [] [] [(4, loopR [0, 1, 24, 25, 26] [] 0 [] [] sh40_4 shX40_4 shY40_4 kl4 tl4 xl4 yl4)] [] []
noncomputable def lc40_4 : Code := (loopsOf (bodyOf Try.f40)).getD 0 .skip
def q40_4 (k29 : Den A29 → Bool) (g29 : Den A29 → Den R29) (k52 : Den A52 → Bool) (g52 : Den A52 → Den R52) (k25 : Den A25 → Bool) (g25 : Den A25 → Den R25) (f : V40_4 → Option (X40_4 ⊕ Y40_4)) (v : V40_4) : Option (X40_4 ⊕ Y40_4) :=
  bif (decide (v.fst.snd.snd.snd.snd.fst < v.fst.snd.snd.snd.fst)) then
    bif (decide (0 ≤ v.fst.snd.snd.snd.snd.fst) && decide (v.fst.snd.snd.snd.snd.fst < (↑(List.length v.fst.snd.snd.fst) : Int))) then
      let v0 := (List.getD v.fst.snd.snd.fst (Int.toNat v.fst.snd.snd.snd.snd.fst) (zero (Ty.int IntKind.i64)))
      let v1 := (IntKind.wrap IntKind.i64 ((↑(List.length v.fst.fst) : Int) - 1))
      let v2 := (k52 (v0, 0, v1, ()))
      bif (v2) then
        let v3 := (g52 (v0, 0, v1, ()))
        bif (!v3.fst) then
          some (Sum.inr (((false), ()), ()))
        else
          bif (decide (0 ≤ v0) && decide (v0 < (↑(List.length v.fst.fst) : Int))) then
            bif (decide (0 ≤ v.fst.snd.snd.snd.snd.fst) && decide (v.fst.snd.snd.snd.snd.fst < (↑(List.length v.fst.snd.fst) : Int))) then
              let v4 := (List.getD v.fst.fst (Int.toNat v0) (zero S23))
              let v5 := (List.getD v.fst.snd.fst (Int.toNat v.fst.snd.snd.snd.snd.fst) (zero S25))
              let v6 := (k25 ((v4.fst, v4.snd.fst, v4.snd.snd.fst, v4.snd.snd.snd.fst, v4.snd.snd.snd.snd.fst, ()), (v5.fst, v5.snd.fst, ()), ()))
              bif (v6) then
                let v7 := (g25 ((v4.fst, v4.snd.fst, v4.snd.snd.fst, v4.snd.snd.snd.fst, v4.snd.snd.snd.snd.fst, ()), (v5.fst, v5.snd.fst, ()), ()))
                bif (!v7.fst) then
                  some (Sum.inr (((false), ()), ()))
                else
                  let v8 := (IntKind.wrap IntKind.i64 (v.fst.snd.snd.snd.snd.fst + 1))
                  f (((v.fst.1), ((v.fst.snd.1), ((v.fst.snd.snd.1), ((v.fst.snd.snd.snd.1), ((v8), ()))))), ())
              else
                none
            else
              none
          else
            none
      else
        none
    else
      none
  else
    some (Sum.inl ((), ()))
theorem evl40_4 (k29 : Den A29 → Bool) (g29 : Den A29 → Den R29) (k52 : Den A52 → Bool) (g52 : Den A52 → Den R52) (k25 : Den A25 → Bool) (g25 : Den A25 → Den R25) (kl4 : V40_4 → Bool) (xl4 : V40_4 → X40_4) (tl4 : V40_4 → Bool) (yl4 : V40_4 → Y40_4) (f : V40_4 → Option (X40_4 ⊕ Y40_4)) (v : V40_4) : EBk (Γ40 k29 g29 k52 g52 k25 g25 kl4 xl4 tl4 yl4) lc40_4 (roundK [0, 1, 24, 25, 26] [] 0 [] [] (atS sh40_4 f) (endS shX40_4 shY40_4)) (mkS sh40_4 v) = q40_4 k29 g29 k52 g52 k25 g25 f v := by kernel_rfl
def b40_4 (v : V40_4) : Nat := v.1.1.length + v.1.2.1.length + v.1.2.2.1.length + v.1.2.2.2.1.natAbs + v.1.2.2.2.2.1.natAbs + 1000
def l40_4 (v : V40_4) : Option (X40_4 ⊕ Y40_4) := iter (q40_4 K29 G29 K52 G52 K25 G25) (b40_4 v) v
def kL40_4 (v : V40_4) : Bool := (l40_4 v).isSome
def tL40_4 (v : V40_4) : Bool := isR (l40_4 v)
def xL40_4 (v : V40_4) : X40_4 := xOf ((), ()) (l40_4 v)
def yL40_4 (v : V40_4) : Y40_4 := yOf ((false, ()), ()) (l40_4 v)
def r40 (k29 : Den A29 → Bool) (g29 : Den A29 → Den R29) (k52 : Den A52 → Bool) (g52 : Den A52 → Den R52) (k25 : Den A25 → Bool) (g25 : Den A25 → Den R25) (kl4 : V40_4 → Bool) (xl4 : V40_4 → X40_4) (tl4 : V40_4 → Bool) (yl4 : V40_4 → Y40_4) (x : Den A40) : Option (Den R40) :=
  let v0 := (k29 (x.fst, ()))
  bif (v0) then
    let v1 := (g29 (x.fst, ()))
    bif (!v1.fst) then
      some ((false), ())
    else
      bif (decide ((↑(List.length x.snd.fst) : Int) > 60)) then
        some ((false), ())
      else
        bif ((↑(List.length x.snd.snd.fst) : Int) != (↑(List.length x.snd.fst) : Int)) then
          some ((false), ())
        else
          let v2 := (kl4 ((x.fst, x.snd.fst, x.snd.snd.fst, (↑(List.length x.snd.snd.fst) : Int), 0, ()), ()))
          bif (v2) then
            let v3 := (tl4 ((x.fst, x.snd.fst, x.snd.snd.fst, (↑(List.length x.snd.snd.fst) : Int), 0, ()), ()))
            bif (v3) then
              let v4 := (yl4 ((x.fst, x.snd.fst, x.snd.snd.fst, (↑(List.length x.snd.snd.fst) : Int), 0, ()), ()))
              some ((v4.fst.1), ())
            else
              some ((true), ())
          else
            none
  else
    none
theorem ev40 (k29 : Den A29 → Bool) (g29 : Den A29 → Den R29) (k52 : Den A52 → Bool) (g52 : Den A52 → Den R52) (k25 : Den A25 → Bool) (g25 : Den A25 → Den R25) (kl4 : V40_4 → Bool) (xl4 : V40_4 → X40_4) (tl4 : V40_4 → Bool) (yl4 : V40_4 → Y40_4) (x : Den A40) : callK (Γ40 k29 g29 k52 g52 k25 g25 kl4 xl4 tl4 yl4) (bodyOf Try.f40) (decR R40) (encA A40 x) [] = r40 k29 g29 k52 g52 k25 g25 kl4 xl4 tl4 yl4 x := by kernel_rfl
def F40 (x : Den A40) : Option (Den R40) := r40 K29 G29 K52 G52 K25 G25 kL40_4 xL40_4 tL40_4 yL40_4 x
def K40 (x : Den A40) : Bool := (F40 x).isSome
def G40 (x : Den A40) : Den R40 := (F40 x).getD (zero R40)
theorem env40 : EnvOK Try.prog (Γ40 K29 G29 K52 G52 K25 G25 kL40_4 xL40_4 tL40_4 yL40_4) := env_ok mixed tab_ok eqs_ok (.cons sem29 (.cons sem52 (.cons sem25 .nil)))
theorem is40 : FnIs Try.prog 40 (Γ40 K29 G29 K52 G52 K25 G25 kL40_4 xL40_4 tL40_4 yL40_4) (bodyOf Try.f40) := fnIs Try.func40 rfl rfl rfl (by kernel_rfl) (loops_ok (l := [lc40_4]) (by kernel_rfl) (.cons (one_loop rfl (loopR_sound (sh := sh40_4) (shX := shX40_4) (shR := shY40_4) (fun f v => evl40_4 K29 G29 K52 G52 K25 G25 kL40_4 xL40_4 tL40_4 yL40_4 f v) b40_4 ((), ()) ((false, ()), ()))) (.nil)))
theorem sem40 : SemOK Try.prog (40, fnMean A40 R40 K40 G40) := fn_opt env40 is40 fun x => ev40 K29 G29 K52 G52 K25 G25 kL40_4 xL40_4 tL40_4 yL40_4 x

/- "loop.example/g03321/laws.eqMoment" -/
abbrev A61 : Ty := .cons (S25) (.cons (S25) (.nil))
abbrev R61 : Ty := .cons (.bool) (.nil)
noncomputable def Γ61 (k66 : Den A66 → Bool) (g66 : Den A66 → Den R66) : Env := mkEnv tab eqs [(66, fnMean A66 R66 k66 g66)] 18 [.tmp 4] [] [] [] [] []
def r61 (k66 : Den A66 → Bool) (g66 : Den A66 → Den R66) (x : Den A61) : Option (Den R61) :=
  let v0 := (k66 ((convF FloatKind.f32 FloatKind.f64 x.fst.fst).snd, (convF FloatKind.f32 FloatKind.f64 x.snd.fst.fst).snd, ()))
  bif (v0) then
    let v1 := (g66 ((convF FloatKind.f32 FloatKind.f64 x.fst.fst).snd, (convF FloatKind.f32 FloatKind.f64 x.snd.fst.fst).snd, ()))
    bif (!v1.fst) then
      some ((false), ())
    else
      bif (x.fst.snd.fst != x.snd.fst.snd.fst) then
        some ((false), ())
      else
        some ((true), ())
  else
    none
theorem ev61 (k66 : Den A66 → Bool) (g66 : Den A66 → Den R66) (x : Den A61) : callK (Γ61 k66 g66) (bodyOf Try.f61) (decR R61) (encA A61 x) [] = r61 k66 g66 x := by kernel_rfl
def F61 (x : Den A61) : Option (Den R61) := r61 K66 G66 x
def K61 (x : Den A61) : Bool := (F61 x).isSome
def G61 (x : Den A61) : Den R61 := (F61 x).getD (zero R61)
theorem env61 : EnvOK Try.prog (Γ61 K66 G66) := env_ok mixed tab_ok eqs_ok (.cons sem66 .nil)
theorem is61 : FnIs Try.prog 61 (Γ61 K66 G66) (bodyOf Try.f61) := fnIs Try.func61 rfl rfl rfl (by kernel_rfl) (noLoops (by kernel_rfl))
theorem sem61 : SemOK Try.prog (61, fnMean A61 R61 K61 G61) := fn_opt env61 is61 fun x => ev61 K66 G66 x

/- "loop.example/g03321/laws.eqMomentS" -/
abbrev A41 : Ty := .cons (.slice (S25)) (.cons (.slice (S25)) (.nil))
abbrev R41 : Ty := .cons (.bool) (.nil)
abbrev V41_4 : Type := (((List (Den (S25))) × ((List (Den (S25))) × (Int × Unit))) × Unit)
def sh41_4 : ShS := ⟨[(0, .one (.sl (S25))), (1, .one (.sl (S25))), (5, .one (.int .i64))], [], 0, 0⟩
abbrev X41_4 : Type := (Unit × Unit)
def shX41_4 : ShS := ⟨[], [], 0, 0⟩
abbrev Y41_4 : Type := ((Bool × Unit) × Unit)
def shY41_4 : ShS := ⟨[(4, .one (.bool))], [], 0, 0⟩
noncomputable def Γ41 (k61 : Den A61 → Bool) (g61 : Den A61 → Den R61) (kl4 : V41_4 → Bool) (xl4 : V41_4 → X41_4) (tl4 : V41_4 → Bool) (yl4 : V41_4 → Y41_4) : Env := mkEnv tab eqs [(61, fnMean A61 R61 k61 g61)] 27 [.tmp 4] [] [] [(4, loopR [0, 1, 5] [] 0 [] [] sh41_4 shX41_4 shY41_4 kl4 tl4 xl4 yl4)] [] []
noncomputable def lc41_4 : Code := (loopsOf (bodyOf Try.f41)).getD 0 .skip
def q41_4 (k61 : Den A61 → Bool) (g61 : Den A61 → Den R61) (f : V41_4 → Option (X41_4 ⊕ Y41_4)) (v : V41_4) : Option (X41_4 ⊕ Y41_4) :=
  bif (decide (v.fst.snd.snd.fst < (↑(List.length v.fst.fst) : Int))) then
    bif (decide (0 ≤ v.fst.snd.snd.fst) && decide (v.fst.snd.snd.fst < (↑(List.length v.fst.fst) : Int))) then
      bif (decide (0 ≤ v.fst.snd.snd.fst) && decide (v.fst.snd.snd.fst < (↑(List.length v.fst.snd.fst) : Int))) then
        let v0 := (List.getD v.fst.fst (Int.toNat v.fst.snd.snd.fst) (zero S25))
        let v1 := (List.getD v.fst.snd.fst (Int.toNat v.fst.snd.snd.fst) (zero S25))
        let v2 := (k61 ((v0.fst, v0.snd.fst, ()), (v1.fst, v1.snd.fst, ()), ()))
        bif (v2) then
          let v3 := (g61 ((v0.fst, v0.snd.fst, ()), (v1.fst, v1.snd.fst, ()), ()))
          bif (!v3.fst) then
            some (Sum.inr (((false), ()), ()))
          else
            let v4 := (IntKind.wrap IntKind.i64 (v.fst.snd.snd.fst + 1))
            f (((v.fst.1), ((v.fst.snd.1), ((v4), ()))), ())
        else
          none
      else
        none
    else
      none
  else
    some (Sum.inl ((), ()))
theorem evl41_4 (k61 : Den A61 → Bool) (g61 : Den A61 → Den R61) (kl4 : V41_4 → Bool) (xl4 : V41_4 → X41_4) (tl4 : V41_4 → Bool) (yl4 : V41_4 → Y41_4) (f : V41_4 → Option (X41_4 ⊕ Y41_4)) (v : V41_4) : EBk (Γ41 k61 g61 kl4 xl4 tl4 yl4) lc41_4 (roundK [0, 1, 5] [] 0 [] [] (atS sh41_4 f) (endS shX41_4 shY41_4)) (mkS sh41_4 v) = q41_4 k61 g61 f v := by kernel_rfl
def b41_4 (v : V41_4) : Nat := v.1.1.length + v.1.2.1.length + v.1.2.2.1.natAbs + 1000
def l41_4 (v : V41_4) : Option (X41_4 ⊕ Y41_4) := iter (q41_4 K61 G61) (b41_4 v) v
def kL41_4 (v : V41_4) : Bool := (l41_4 v).isSome
def tL41_4 (v : V41_4) : Bool := isR (l41_4 v)
def xL41_4 (v : V41_4) : X41_4 := xOf ((), ()) (l41_4 v)
def yL41_4 (v : V41_4) : Y41_4 := yOf ((false, ()), ()) (l41_4 v)
def r41 (k61 : Den A61 → Bool) (g61 : Den A61 → Den R61) (kl4 : V41_4 → Bool) (xl4 : V41_4 → X41_4) (tl4 : V41_4 → Bool) (yl4 : V41_4 → Y41_4) (x : Den A41) : Option (Den R41) :=
  bif ((↑(List.length x.fst) : Int) != (↑(List.length x.snd.fst) : Int)) then
    some ((false), ())
  else
    let v0 := (kl4 ((x.fst, x.snd.fst, 0, ()), ()))
    bif (v0) then
      let v1 := (tl4 ((x.fst, x.snd.fst, 0, ()), ()))
      bif (v1) then
        let v2 := (yl4 ((x.fst, x.snd.fst, 0, ()), ()))
        some ((v2.fst.1), ())
      else
        some ((true), ())
    else
      none
theorem ev41 (k61 : Den A61 → Bool) (g61 : Den A61 → Den R61) (kl4 : V41_4 → Bool) (xl4 : V41_4 → X41_4) (tl4 : V41_4 → Bool) (yl4 : V41_4 → Y41_4) (x : Den A41) : callK (Γ41 k61 g61 kl4 xl4 tl4 yl4) (bodyOf Try.f41) (decR R41) (encA A41 x) [] = r41 k61 g61 kl4 xl4 tl4 yl4 x := by kernel_rfl
def F41 (x : Den A41) : Option (Den R41) := r41 K61 G61 kL41_4 xL41_4 tL41_4 yL41_4 x
def K41 (x : Den A41) : Bool := (F41 x).isSome
def G41 (x : Den A41) : Den R41 := (F41 x).getD (zero R41)
theorem env41 : EnvOK Try.prog (Γ41 K61 G61 kL41_4 xL41_4 tL41_4 yL41_4) := env_ok mixed tab_ok eqs_ok (.cons sem61 .nil)
theorem is41 : FnIs Try.prog 41 (Γ41 K61 G61 kL41_4 xL41_4 tL41_4 yL41_4) (bodyOf Try.f41) := fnIs Try.func41 rfl rfl rfl (by kernel_rfl) (loops_ok (l := [lc41_4]) (by kernel_rfl) (.cons (one_loop rfl (loopR_sound (sh := sh41_4) (shX := shX41_4) (shR := shY41_4) (fun f v => evl41_4 K61 G61 kL41_4 xL41_4 tL41_4 yL41_4 f v) b41_4 ((), ()) ((false, ()), ()))) (.nil)))
theorem sem41 : SemOK Try.prog (41, fnMean A41 R41 K41 G41) := fn_opt env41 is41 fun x => ev41 K61 G61 kL41_4 xL41_4 tL41_4 yL41_4 x

/- "loop.example/g03321/laws.FnExactPlanOk" -/
abbrev A10 : Ty := .cons (.slice (S23)) (.cons (.slice (S25)) (.cons (.slice (.int .i64)) (.nil)))
abbrev R10 : Ty := .cons (.bool) (.nil)
noncomputable def Γ10 (k26 : Den A26 → Bool) (g26 : Den A26 → Den R26) (k37 : Den A37 → Bool) (g37 : Den A37 → Den R37) (k28 : I28.den → Bool) (g28 : I28.den → O28.den) (k39 : I39.den → Bool) (g39 : I39.den → O39.den) (k21 : I21.den → Bool) (g21 : I21.den → O21.den) (k38 : Den A38 → Bool) (g38 : Den A38 → Den R38) (k40 : Den A40 → Bool) (g40 : Den A40 → Den R40) (k30 : Den A30 → Bool) (g30 : Den A30 → Den R30) (k41 : Den A41 → Bool) (g41 : Den A41 → Den R41) (k23 : Den A23 → Bool) (g23 : Den A23 → Den R23) : Env := mkEnv tab eqs [(26, fnMean A26 R26 k26 g26), (37, fnMean A37 R37 k37 g37), (28, sgMean false I28 O28 k28 g28), (39, sgMean false I39 O39 k39 g39), (21, sgMean false I21 O21 k21 g21), (38, fnMean A38 R38 k38 g38), (40, fnMean A40 R40 k40 g40), (30, fnMean A30 R30 k30 g30), (41, fnMean A41 R41 k41 g41), (23, fnMean A23 R23 k23 g23)] 61 [.tmp 6] [] [] [] [] []
def r10 (k26 : Den A26 → Bool) (g26 : Den A26 → Den R26) (k37 : Den A37 → Bool) (g37 : Den A37 → Den R37) (k28 : I28.den → Bool) (g28 : I28.den → O28.den) (k39 : I39.den → Bool) (g39 : I39.den → O39.den) (k21 : I21.den → Bool) (g21 : I21.den → O21.den) (k38 : Den A38 → Bool) (g38 : Den A38 → Den R38) (k40 : Den A40 → Bool) (g40 : Den A40 → Den R40) (k30 : Den A30 → Bool) (g30 : Den A30 → Den R30) (k41 : Den A41 → Bool) (g41 : Den A41 → Den R41) (k23 : Den A23 → Bool) (g23 : Den A23 → Den R23) (x : Den A10) : Option (Den R10) :=
  bif (decide ((↑(List.length x.snd.snd.fst) : Int) > 1048576)) then
    some ((true), ())
  else
    let v0 := (k26 (x.fst, 1048576, ()))
    bif (v0) then
      let v1 := (g26 (x.fst, 1048576, ()))
      bif (decide (v1.fst < 0)) then
        some ((true), ())
      else
        let v2 := (k37 (x.snd.fst, v1.fst, ()))
        bif (v2) then
          let v3 := (g37 (x.snd.fst, v1.fst, ()))
          bif (decide (v3.fst < 0)) then
            some ((true), ())
          else
            let v4 := (k28 ((x.fst, ()), ()))
            bif (v4) then
              let v5 := (k39 ((x.snd.fst, ()), ()))
              bif (v5) then
                let v6 := (k21 ((x.snd.snd.fst, ()), ()))
                bif (v6) then
                  let v7 := (g28 ((x.fst, ()), ()))
                  let v8 := (g39 ((x.snd.fst, ()), ()))
                  let v9 := (g21 ((x.snd.snd.fst, ()), ()))
                  let v10 := (k38 (v7.snd.fst, v8.snd.fst, v9.snd.fst, ()))
                  bif (v10) then
                    bif (v4) then
                      bif (v5) then
                        bif (v6) then
                          let v11 := (k40 (v7.snd.fst, v8.snd.fst, v9.snd.fst, ()))
                          bif (v11) then
                            let v12 := (g40 (v7.snd.fst, v8.snd.fst, v9.snd.fst, ()))
                            let v13 := (g38 (v7.snd.fst, v8.snd.fst, v9.snd.fst, ()))
                            bif (!v12.fst == v13.fst) then
                              some ((false), ())
                            else
                              bif (v4) then
                                let v14 := (k30 (v7.snd.fst, v7.snd.fst, ()))
                                bif (v14) then
                                  let v15 := (g30 (v7.snd.fst, v7.snd.fst, ()))
                                  bif (!v15.fst) then
                                    some ((false), ())
                                  else
                                    bif (v5) then
                                      let v16 := (k41 (v8.snd.fst, v8.snd.fst, ()))
                                      bif (v16) then
                                        let v17 := (g41 (v8.snd.fst, v8.snd.fst, ()))
                                        bif (!v17.fst) then
                                          some ((false), ())
                                        else
                                          bif (v6) then
                                            let v18 := (k23 (v9.snd.fst, v9.snd.fst, ()))
                                            bif (v18) then
                                              let v19 := (g23 (v9.snd.fst, v9.snd.fst, ()))
                                              bif (!v19.fst) then
                                                some ((false), ())
                                              else
                                                some ((true), ())
                                            else
                                              none
                                          else
                                            none
                                      else
                                        none
                                    else
                                      none
                                else
                                  none
                              else
                                none
                          else
                            none
                        else
                          none
                      else
                        none
                    else
                      none
                  else
                    none
                else
                  none
              else
                none
            else
              none
        else
          none
    else
      none
theorem ev10 (k26 : Den A26 → Bool) (g26 : Den A26 → Den R26) (k37 : Den A37 → Bool) (g37 : Den A37 → Den R37) (k28 : I28.den → Bool) (g28 : I28.den → O28.den) (k39 : I39.den → Bool) (g39 : I39.den → O39.den) (k21 : I21.den → Bool) (g21 : I21.den → O21.den) (k38 : Den A38 → Bool) (g38 : Den A38 → Den R38) (k40 : Den A40 → Bool) (g40 : Den A40 → Den R40) (k30 : Den A30 → Bool) (g30 : Den A30 → Den R30) (k41 : Den A41 → Bool) (g41 : Den A41 → Den R41) (k23 : Den A23 → Bool) (g23 : Den A23 → Den R23) (x : Den A10) : callK (Γ10 k26 g26 k37 g37 k28 g28 k39 g39 k21 g21 k38 g38 k40 g40 k30 g30 k41 g41 k23 g23) (bodyOf Try.f10) (decR R10) (encA A10 x) [] = r10 k26 g26 k37 g37 k28 g28 k39 g39 k21 g21 k38 g38 k40 g40 k30 g30 k41 g41 k23 g23 x := by kernel_rfl
def F10 (x : Den A10) : Option (Den R10) := r10 K26 G26 K37 G37 K28 G28 K39 G39 K21 G21 K38 G38 K40 G40 K30 G30 K41 G41 K23 G23 x
def K10 (x : Den A10) : Bool := (F10 x).isSome
def G10 (x : Den A10) : Den R10 := (F10 x).getD (zero R10)
theorem env10 : EnvOK Try.prog (Γ10 K26 G26 K37 G37 K28 G28 K39 G39 K21 G21 K38 G38 K40 G40 K30 G30 K41 G41 K23 G23) := env_ok mixed tab_ok eqs_ok (.cons sem26 (.cons sem37 (.cons sem28 (.cons sem39 (.cons sem21 (.cons sem38 (.cons sem40 (.cons sem30 (.cons sem41 (.cons sem23 .nil))))))))))
theorem is10 : FnIs Try.prog 10 (Γ10 K26 G26 K37 G37 K28 G28 K39 G39 K21 G21 K38 G38 K40 G40 K30 G30 K41 G41 K23 G23) (bodyOf Try.f10) := fnIs Try.func10 rfl rfl rfl (by kernel_rfl) (noLoops (by kernel_rfl))
theorem sem10 : SemOK Try.prog (10, fnMean A10 R10 K10 G10) := fn_opt env10 is10 fun x => ev10 K26 G26 K37 G37 K28 G28 K39 G39 K21 G21 K38 G38 K40 G40 K30 G30 K41 G41 K23 G23 x

/- "loop.example/g03321/spec.FewestChanges" mode S false -/
abbrev I44 : Sg := ⟨[.val (.slice (S23)), .val (.slice (S25))], []⟩
abbrev O44 : Sg := ⟨[.own (.int .i64) 0, .val (.bool)], [.arr (.int .i64)]⟩
abbrev V44_4 : Type := (((List (Den (S23))) × ((List (Den (S25))) × (Unit × Unit))) × ((List (Den (.int .i64))) × Unit))
def sh44_4 : ShS := ⟨[(0, .one (.sl (S23))), (1, .one (.sl (S25))), (6, .one (.ref (.int .i64) 0))], [(0, .arr (.int .i64))], 1, 0⟩
abbrev X44_4 : Type := ((Unit × Unit) × ((List (Den (.int .i64))) × Unit))
def shX44_4 : ShS := ⟨[(6, .one (.ref (.int .i64) 0))], [(0, .arr (.int .i64))], 1, 0⟩
abbrev Y44_4 : Type := ((Unit × (Bool × Unit)) × ((List (Den (.int .i64))) × Unit))
def shY44_4 : ShS := ⟨[(4, .one (.ref (.int .i64) 0)), (5, .one (.bool))], [(0, .arr (.int .i64))], 1, 0⟩
abbrev V44_8 : Type := (((List (Den (S23))) × ((List (Den (S25))) × (Unit × (Int × (Int × (Int × Unit)))))) × ((List (Den (.int .i64))) × Unit))
def sh44_8 : ShS := ⟨[(0, .one (.sl (S23))), (1, .one (.sl (S25))), (6, .one (.ref (.int .i64) 0)), (7, .one (.int .i64)), (8, .one (.int .i64)), (9, .one (.int .i64))], [(0, .arr (.int .i64))], 1, 0⟩
abbrev X44_8 : Type := (((List (Den (S23))) × ((List (Den (S25))) × (Unit × (Int × (Int × Unit))))) × ((List (Den (.int .i64))) × Unit))
def shX44_8 : ShS := ⟨[(0, .one (.sl (S23))), (1, .one (.sl (S25))), (6, .one (.ref (.int .i64) 0)), (7, .one (.int .i64)), (8, .one (.int .i64))], [(0, .arr (.int .i64))], 1, 0⟩
abbrev V44_11 : Type := (((List (Den (S23))) × ((List (Den (S25))) × (Unit × (Int × (Int × (Int × (Int × Unit))))))) × ((List (Den (.int .i64))) × Unit))
def sh44_11 : ShS := ⟨[(0, .one (.sl (S23))), (1, .one (.sl (S25))), (6, .one (.ref (.int .i64) 0)), (7, .one (.int .i64)), (8, .one (.int .i64)), (9, .one (.int .i64)), (10, .one (.int .i64))], [(0, .arr (.int .i64))], 1, 0⟩
abbrev X44_11 : Type := (((List (Den (S23))) × ((List (Den (S25))) × (Unit × (Int × (Int × (Int × (Int × Unit))))))) × ((List (Den (.int .i64))) × Unit))
def shX44_11 : ShS := ⟨[(0, .one (.sl (S23))), (1, .one (.sl (S25))), (6, .one (.ref (.int .i64) 0)), (7, .one (.int .i64)), (8, .one (.int .i64)), (9, .one (.int .i64)), (10, .one (.int .i64))], [(0, .arr (.int .i64))], 1, 0⟩
abbrev V44_18 : Type := (((List (Den (S23))) × ((List (Den (S25))) × (Unit × (Int × (Int × Unit))))) × ((List (Den (.int .i64))) × Unit))
def sh44_18 : ShS := ⟨[(0, .one (.sl (S23))), (1, .one (.sl (S25))), (6, .one (.ref (.int .i64) 0)), (7, .one (.int .i64)), (8, .one (.int .i64))], [(0, .arr (.int .i64))], 1, 0⟩
abbrev X44_18 : Type := (((List (Den (S23))) × ((List (Den (S25))) × (Unit × Unit))) × ((List (Den (.int .i64))) × Unit))
def shX44_18 : ShS := ⟨[(0, .one (.sl (S23))), (1, .one (.sl (S25))), (6, .one (.ref (.int .i64) 0))], [(0, .arr (.int .i64))], 1, 0⟩
noncomputable def Γ44 (k27 : Den A27 → Bool) (g27 : Den A27 → Den R27) (k24 : Den A24 → Bool) (g24 : Den A24 → Den R24) (kl4 : V44_4 → Bool) (xl4 : V44_4 → X44_4) (tl4 : V44_4 → Bool) (yl4 : V44_4 → Y44_4) (kl8 : V44_8 → Bool) (xl8 : V44_8 → X44_8) (kl11 : V44_11 → Bool) (xl11 : V44_11 → X44_11) (kl18 : V44_18 → Bool) (xl18 : V44_18 → X44_18) : Env := mkEnv tab eqs [(27, fnMean A27 R27 k27 g27), (24, fnMean A24 R24 k24 g24)] 72 [.tmp 4, .tmp 5] [] [] [(4, loopR [0, 1, 6] [] 0 [6] [] sh44_4 shX44_4 shY44_4 kl4 tl4 xl4 yl4), (8, loopX [0, 1, 6, 7, 8, 9] [] 2 [0, 1, 6, 7, 8] [] sh44_8 shX44_8 kl8 xl8), (11, loopX [0, 1, 6, 7, 8, 9, 10] [] 4 [0, 1, 6, 7, 8, 9, 10] [] sh44_11 shX44_11 kl11 xl11), (18, loopX [0, 1, 6, 7, 8] [] 6 [0, 1, 6] [] sh44_18 shX44_18 kl18 xl18)] [] []
noncomputable def lc44_4 : Code := (loopsOf (bodyOf Try.f44)).getD 0 .skip
noncomputable def lc44_8 : Code := (loopsOf (bodyOf Try.f44)).getD 1 .skip
noncomputable def lc44_11 : Code := (loopsOf (bodyOf Try.f44)).getD 2 .skip
noncomputable def lc44_18 : Code := (loopsOf (bodyOf Try.f44)).getD 3 .skip
def q44_18 (k27 : Den A27 → Bool) (g27 : Den A27 → Den R27) (k24 : Den A24 → Bool) (g24 : Den A24 → Den R24) (f : V44_18 → Option (X44_18)) (v : V44_18) : Option (X44_18) :=
  bif (decide (v.fst.snd.snd.snd.snd.fst > 0)) then
    let v0 := (List.set (List.replicate 1 (zero (Ty.int IntKind.i64))) 0 v.fst.snd.snd.snd.fst)
    bif (capOk (List.length v.snd.fst + List.length v0)) then
      let v1 := (IntKind.wrap IntKind.i64 (v.fst.snd.snd.snd.snd.fst - 1))
      let v2 := (v.snd.fst ++ v0)
      f (((v.fst.1), ((v.fst.snd.1), ((), ((v.fst.snd.snd.snd.1), ((v1), ()))))), ((v2), ()))
    else
      none
  else
    some (((v.fst.1), ((v.fst.snd.1), ((), ()))), ((v.snd.1), ()))
theorem evl44_18 (k27 : Den A27 → Bool) (g27 : Den A27 → Den R27) (k24 : Den A24 → Bool) (g24 : Den A24 → Den R24) (kl4 : V44_4 → Bool) (xl4 : V44_4 → X44_4) (tl4 : V44_4 → Bool) (yl4 : V44_4 → Y44_4) (kl8 : V44_8 → Bool) (xl8 : V44_8 → X44_8) (kl11 : V44_11 → Bool) (xl11 : V44_11 → X44_11) (kl18 : V44_18 → Bool) (xl18 : V44_18 → X44_18) (f : V44_18 → Option (X44_18)) (v : V44_18) : EBk (Γ44 k27 g27 k24 g24 kl4 xl4 tl4 yl4 kl8 xl8 kl11 xl11 kl18 xl18) lc44_18 (roundK [0, 1, 6, 7, 8] [] 6 [0, 1, 6] [] (atS sh44_18 f) (endX shX44_18)) (mkS sh44_18 v) = q44_18 k27 g27 k24 g24 f v := by kernel_rfl
def b44_18 (v : V44_18) : Nat := v.1.1.length + v.1.2.1.length + v.1.2.2.2.1.natAbs + v.1.2.2.2.2.1.natAbs + v.2.1.length + 1000
def l44_18 (v : V44_18) : Option (X44_18) := iter (q44_18 K27 G27 K24 G24) (b44_18 v) v
def kL44_18 (v : V44_18) : Bool := (l44_18 v).isSome
def xL44_18 (v : V44_18) : X44_18 := (l44_18 v).getD (([], ([], ((), ()))), ([], ()))
def q44_11 (k27 : Den A27 → Bool) (g27 : Den A27 → Den R27) (k24 : Den A24 → Bool) (g24 : Den A24 → Den R24) (f : V44_11 → Option (X44_11)) (v : V44_11) : Option (X44_11) :=
  let v0 := (IntKind.wrap IntKind.i64 ((↑(List.length v.snd.fst) : Int) + v.fst.snd.snd.snd.snd.snd.snd.fst))
  bif (decide (v0 < (↑(List.length v.fst.snd.fst) : Int))) then
    bif (decide (0 ≤ v.fst.snd.snd.snd.snd.snd.fst) && decide (v.fst.snd.snd.snd.snd.snd.fst < (↑(List.length v.fst.fst) : Int))) then
      bif (decide (0 ≤ v0) && decide (v0 < (↑(List.length v.fst.snd.fst) : Int))) then
        let v1 := (List.getD v.fst.fst (Int.toNat v.fst.snd.snd.snd.snd.snd.fst) (zero S23))
        let v2 := (List.getD v.fst.snd.fst (Int.toNat v0) (zero S25))
        let v3 := (k24 ((v1.fst, v1.snd.fst, v1.snd.snd.fst, v1.snd.snd.snd.fst, v1.snd.snd.snd.snd.fst, ()), (v2.fst, v2.snd.fst, ()), ()))
        bif (v3) then
          let v4 := (g24 ((v1.fst, v1.snd.fst, v1.snd.snd.fst, v1.snd.snd.snd.fst, v1.snd.snd.snd.snd.fst, ()), (v2.fst, v2.snd.fst, ()), ()))
          bif (v4.1) then
            let v5 := (IntKind.wrap IntKind.i64 (v.fst.snd.snd.snd.snd.snd.snd.fst + 1))
            f (((v.fst.1), ((v.fst.snd.1), ((), ((v.fst.snd.snd.snd.1), ((v.fst.snd.snd.snd.snd.1), ((v.fst.snd.snd.snd.snd.snd.1), ((v5), ()))))))), ((v.snd.1), ()))
          else
            some (((v.fst.1), ((v.fst.snd.1), ((), ((v.fst.snd.snd.snd.1), ((v.fst.snd.snd.snd.snd.1), ((v.fst.snd.snd.snd.snd.snd.1), ((v.fst.snd.snd.snd.snd.snd.snd.1), ()))))))), ((v.snd.1), ()))
        else
          none
      else
        none
    else
      none
  else
    some (((v.fst.1), ((v.fst.snd.1), ((), ((v.fst.snd.snd.snd.1), ((v.fst.snd.snd.snd.snd.1), ((v.fst.snd.snd.snd.snd.snd.1), ((v.fst.snd.snd.snd.snd.snd.snd.1), ()))))))), ((v.snd.1), ()))
theorem evl44_11 (k27 : Den A27 → Bool) (g27 : Den A27 → Den R27) (k24 : Den A24 → Bool) (g24 : Den A24 → Den R24) (kl4 : V44_4 → Bool) (xl4 : V44_4 → X44_4) (tl4 : V44_4 → Bool) (yl4 : V44_4 → Y44_4) (kl8 : V44_8 → Bool) (xl8 : V44_8 → X44_8) (kl11 : V44_11 → Bool) (xl11 : V44_11 → X44_11) (kl18 : V44_18 → Bool) (xl18 : V44_18 → X44_18) (f : V44_11 → Option (X44_11)) (v : V44_11) : EBk (Γ44 k27 g27 k24 g24 kl4 xl4 tl4 yl4 kl8 xl8 kl11 xl11 kl18 xl18) lc44_11 (roundK [0, 1, 6, 7, 8, 9, 10] [] 4 [0, 1, 6, 7, 8, 9, 10] [] (atS sh44_11 f) (endX shX44_11)) (mkS sh44_11 v) = q44_11 k27 g27 k24 g24 f v := by kernel_rfl
def b44_11 (v : V44_11) : Nat := v.1.1.length + v.1.2.1.length + v.1.2.2.2.1.natAbs + v.1.2.2.2.2.1.natAbs + v.1.2.2.2.2.2.1.natAbs + v.1.2.2.2.2.2.2.1.natAbs + v.2.1.length + 1000
def l44_11 (v : V44_11) : Option (X44_11) := iter (q44_11 K27 G27 K24 G24) (b44_11 v) v
def kL44_11 (v : V44_11) : Bool := (l44_11 v).isSome
def xL44_11 (v : V44_11) : X44_11 := (l44_11 v).getD (([], ([], ((), (0, (0, (0, (0, ()))))))), ([], ()))
def q44_8 (k27 : Den A27 → Bool) (g27 : Den A27 → Den R27) (k24 : Den A24 → Bool) (g24 : Den A24 → Den R24) (kl11 : V44_11 → Bool) (xl11 : V44_11 → X44_11) (f : V44_8 → Option (X44_8)) (v : V44_8) : Option (X44_8) :=
  bif (decide (v.fst.snd.snd.snd.snd.snd.fst < (↑(List.length v.fst.fst) : Int))) then
    let v0 := (kl11 ((v.fst.fst, v.fst.snd.fst, (), v.fst.snd.snd.snd.fst, v.fst.snd.snd.snd.snd.fst, v.fst.snd.snd.snd.snd.snd.fst, 0, ()), v.snd.fst, ()))
    bif (v0) then
      let v1 := (xl11 ((v.fst.fst, v.fst.snd.fst, (), v.fst.snd.snd.snd.fst, v.fst.snd.snd.snd.snd.fst, v.fst.snd.snd.snd.snd.snd.fst, 0, ()), v.snd.fst, ()))
      bif (decide (v1.fst.snd.snd.snd.snd.snd.snd.fst > v1.fst.snd.snd.snd.snd.fst)) then
        let v2 := (IntKind.wrap IntKind.i64 (v1.fst.snd.snd.snd.snd.snd.fst + 1))
        f (((v1.fst.1), ((v1.fst.snd.1), ((), ((v1.fst.snd.snd.snd.snd.snd.1), ((v1.fst.snd.snd.snd.snd.snd.snd.1), ((v2), ())))))), ((v1.snd.1), ()))
      else
        let v2 := (IntKind.wrap IntKind.i64 (v1.fst.snd.snd.snd.snd.snd.fst + 1))
        f (((v1.fst.1), ((v1.fst.snd.1), ((), ((v1.fst.snd.snd.snd.1), ((v1.fst.snd.snd.snd.snd.1), ((v2), ())))))), ((v1.snd.1), ()))
    else
      none
  else
    some (((v.fst.1), ((v.fst.snd.1), ((), ((v.fst.snd.snd.snd.1), ((v.fst.snd.snd.snd.snd.1), ()))))), ((v.snd.1), ()))
theorem evl44_8 (k27 : Den A27 → Bool) (g27 : Den A27 → Den R27) (k24 : Den A24 → Bool) (g24 : Den A24 → Den R24) (kl4 : V44_4 → Bool) (xl4 : V44_4 → X44_4) (tl4 : V44_4 → Bool) (yl4 : V44_4 → Y44_4) (kl8 : V44_8 → Bool) (xl8 : V44_8 → X44_8) (kl11 : V44_11 → Bool) (xl11 : V44_11 → X44_11) (kl18 : V44_18 → Bool) (xl18 : V44_18 → X44_18) (f : V44_8 → Option (X44_8)) (v : V44_8) : EBk (Γ44 k27 g27 k24 g24 kl4 xl4 tl4 yl4 kl8 xl8 kl11 xl11 kl18 xl18) lc44_8 (roundK [0, 1, 6, 7, 8, 9] [] 2 [0, 1, 6, 7, 8] [] (atS sh44_8 f) (endX shX44_8)) (mkS sh44_8 v) = q44_8 k27 g27 k24 g24 kl11 xl11 f v := by kernel_rfl
def b44_8 (v : V44_8) : Nat := v.1.1.length + v.1.2.1.length + v.1.2.2.2.1.natAbs + v.1.2.2.2.2.1.natAbs + v.1.2.2.2.2.2.1.natAbs + v.2.1.length + 1000
def l44_8 (v : V44_8) : Option (X44_8) := iter (q44_8 K27 G27 K24 G24 kL44_11 xL44_11) (b44_8 v) v
def kL44_8 (v : V44_8) : Bool := (l44_8 v).isSome
def xL44_8 (v : V44_8) : X44_8 := (l44_8 v).getD (([], ([], ((), (0, (0, ()))))), ([], ()))
def q44_4 (k27 : Den A27 → Bool) (g27 : Den A27 → Den R27) (k24 : Den A24 → Bool) (g24 : Den A24 → Den R24) (kl8 : V44_8 → Bool) (xl8 : V44_8 → X44_8) (kl11 : V44_11 → Bool) (xl11 : V44_11 → X44_11) (kl18 : V44_18 → Bool) (xl18 : V44_18 → X44_18) (f : V44_4 → Option (X44_4 ⊕ Y44_4)) (v : V44_4) : Option (X44_4 ⊕ Y44_4) :=
  bif (decide ((↑(List.length v.snd.fst) : Int) < (↑(List.length v.fst.snd.fst) : Int))) then
    let v0 := (kl8 ((v.fst.fst, v.fst.snd.fst, (), -1, 0, 0, ()), v.snd.fst, ()))
    bif (v0) then
      let v1 := (xl8 ((v.fst.fst, v.fst.snd.fst, (), -1, 0, 0, ()), v.snd.fst, ()))
      bif (decide (v1.fst.snd.snd.snd.fst < 0)) then
        some (Sum.inr (((), ((false), ())), ((List.replicate 0 (zero (Ty.int IntKind.i64))), ())))
      else
        let v2 := (kl18 ((v1.fst.fst, v1.fst.snd.fst, (), v1.fst.snd.snd.snd.fst, v1.fst.snd.snd.snd.snd.fst, ()), v1.snd.fst, ()))
        bif (v2) then
          let v3 := (xl18 ((v1.fst.fst, v1.fst.snd.fst, (), v1.fst.snd.snd.snd.fst, v1.fst.snd.snd.snd.snd.fst, ()), v1.snd.fst, ()))
          f (((v3.fst.1), ((v3.fst.snd.1), ((), ()))), ((v3.snd.1), ()))
        else
          none
    else
      none
  else
    some (Sum.inl (((), ()), ((v.snd.1), ())))
theorem evl44_4 (k27 : Den A27 → Bool) (g27 : Den A27 → Den R27) (k24 : Den A24 → Bool) (g24 : Den A24 → Den R24) (kl4 : V44_4 → Bool) (xl4 : V44_4 → X44_4) (tl4 : V44_4 → Bool) (yl4 : V44_4 → Y44_4) (kl8 : V44_8 → Bool) (xl8 : V44_8 → X44_8) (kl11 : V44_11 → Bool) (xl11 : V44_11 → X44_11) (kl18 : V44_18 → Bool) (xl18 : V44_18 → X44_18) (f : V44_4 → Option (X44_4 ⊕ Y44_4)) (v : V44_4) : EBk (Γ44 k27 g27 k24 g24 kl4 xl4 tl4 yl4 kl8 xl8 kl11 xl11 kl18 xl18) lc44_4 (roundK [0, 1, 6] [] 0 [6] [] (atS sh44_4 f) (endS shX44_4 shY44_4)) (mkS sh44_4 v) = q44_4 k27 g27 k24 g24 kl8 xl8 kl11 xl11 kl18 xl18 f v := by kernel_rfl
def b44_4 (v : V44_4) : Nat := v.1.1.length + v.1.2.1.length + v.2.1.length + 1000
def l44_4 (v : V44_4) : Option (X44_4 ⊕ Y44_4) := iter (q44_4 K27 G27 K24 G24 kL44_8 xL44_8 kL44_11 xL44_11 kL44_18 xL44_18) (b44_4 v) v
def kL44_4 (v : V44_4) : Bool := (l44_4 v).isSome
def tL44_4 (v : V44_4) : Bool := isR (l44_4 v)
def xL44_4 (v : V44_4) : X44_4 := xOf (((), ()), ([], ())) (l44_4 v)
def yL44_4 (v : V44_4) : Y44_4 := yOf (((), (false, ())), ([], ())) (l44_4 v)
def r44 (k27 : Den A27 → Bool) (g27 : Den A27 → Den R27) (k24 : Den A24 → Bool) (g24 : Den A24 → Den R24) (kl4 : V44_4 → Bool) (xl4 : V44_4 → X44_4) (tl4 : V44_4 → Bool) (yl4 : V44_4 → Y44_4) (kl8 : V44_8 → Bool) (xl8 : V44_8 → X44_8) (kl11 : V44_11 → Bool) (xl11 : V44_11 → X44_11) (kl18 : V44_18 → Bool) (xl18 : V44_18 → X44_18) (x : I44.den) : Option (O44.den) :=
  let v0 := (k27 (x.fst.fst, ()))
  bif (v0) then
    let v1 := (g27 (x.fst.fst, ()))
    bif (!v1.fst) then
      some (((), ((false), ())), ((List.replicate 0 (zero (Ty.int IntKind.i64))), ()))
    else
      bif (decide ((↑(List.length x.fst.snd.fst) : Int) > 60)) then
        some (((), ((false), ())), ((List.replicate 0 (zero (Ty.int IntKind.i64))), ()))
      else
        let v2 := (kl4 ((x.fst.fst, x.fst.snd.fst, (), ()), List.replicate 0 (zero (Ty.int IntKind.i64)), ()))
        bif (v2) then
          let v3 := (tl4 ((x.fst.fst, x.fst.snd.fst, (), ()), List.replicate 0 (zero (Ty.int IntKind.i64)), ()))
          bif (v3) then
            let v4 := (yl4 ((x.fst.fst, x.fst.snd.fst, (), ()), List.replicate 0 (zero (Ty.int IntKind.i64)), ()))
            some (((), ((v4.fst.snd.1), ())), ((v4.snd.1), ()))
          else
            let v4 := (xl4 ((x.fst.fst, x.fst.snd.fst, (), ()), List.replicate 0 (zero (Ty.int IntKind.i64)), ()))
            some (((), ((true), ())), ((v4.snd.1), ()))
        else
          none
  else
    none
theorem ev44 (k27 : Den A27 → Bool) (g27 : Den A27 → Den R27) (k24 : Den A24 → Bool) (g24 : Den A24 → Den R24) (kl4 : V44_4 → Bool) (xl4 : V44_4 → X44_4) (tl4 : V44_4 → Bool) (yl4 : V44_4 → Y44_4) (kl8 : V44_8 → Bool) (xl8 : V44_8 → X44_8) (kl11 : V44_11 → Bool) (xl11 : V44_11 → X44_11) (kl18 : V44_18 → Bool) (xl18 : V44_18 → X44_18) (x : I44.den) : callS (Γ44 k27 g27 k24 g24 kl4 xl4 tl4 yl4 kl8 xl8 kl11 xl11 kl18 xl18) (bodyOf Try.f44) I44 O44 x = r44 k27 g27 k24 g24 kl4 xl4 tl4 yl4 kl8 xl8 kl11 xl11 kl18 xl18 x := by kernel_rfl
def F44 (x : I44.den) : Option (O44.den) := r44 K27 G27 K24 G24 kL44_4 xL44_4 tL44_4 yL44_4 kL44_8 xL44_8 kL44_11 xL44_11 kL44_18 xL44_18 x
def K44 (x : I44.den) : Bool := (F44 x).isSome
def G44 (x : I44.den) : O44.den := (F44 x).getD (zeroSg O44)
theorem env44 : EnvOK Try.prog (Γ44 K27 G27 K24 G24 kL44_4 xL44_4 tL44_4 yL44_4 kL44_8 xL44_8 kL44_11 xL44_11 kL44_18 xL44_18) := env_ok mixed tab_ok eqs_ok (.cons sem27 (.cons sem24 .nil))
theorem is44 : FnIs Try.prog 44 (Γ44 K27 G27 K24 G24 kL44_4 xL44_4 tL44_4 yL44_4 kL44_8 xL44_8 kL44_11 xL44_11 kL44_18 xL44_18) (bodyOf Try.f44) := fnIs Try.func44 rfl rfl rfl (by kernel_rfl) (loops_ok (l := [lc44_4, lc44_8, lc44_11, lc44_18]) (by kernel_rfl) (.cons (one_loop rfl (loopR_sound (sh := sh44_4) (shX := shX44_4) (shR := shY44_4) (fun f v => evl44_4 K27 G27 K24 G24 kL44_4 xL44_4 tL44_4 yL44_4 kL44_8 xL44_8 kL44_11 xL44_11 kL44_18 xL44_18 f v) b44_4 (((), ()), ([], ())) (((), (false, ())), ([], ())))) (.cons (one_loop rfl (loopX_sound (sh := sh44_8) (shX := shX44_8) (fun f v => evl44_8 K27 G27 K24 G24 kL44_4 xL44_4 tL44_4 yL44_4 kL44_8 xL44_8 kL44_11 xL44_11 kL44_18 xL44_18 f v) b44_8 (([], ([], ((), (0, (0, ()))))), ([], ())))) (.cons (one_loop rfl (loopX_sound (sh := sh44_11) (shX := shX44_11) (fun f v => evl44_11 K27 G27 K24 G24 kL44_4 xL44_4 tL44_4 yL44_4 kL44_8 xL44_8 kL44_11 xL44_11 kL44_18 xL44_18 f v) b44_11 (([], ([], ((), (0, (0, (0, (0, ()))))))), ([], ())))) (.cons (one_loop rfl (loopX_sound (sh := sh44_18) (shX := shX44_18) (fun f v => evl44_18 K27 G27 K24 G24 kL44_4 xL44_4 tL44_4 yL44_4 kL44_8 xL44_8 kL44_11 xL44_11 kL44_18 xL44_18 f v) b44_18 (([], ([], ((), ()))), ([], ())))) (.nil))))))
theorem sem44 : SemOK Try.prog (44, sgMean false I44 O44 K44 G44) := sg_opt env44 is44 false fun x => ev44 K27 G27 K24 G24 kL44_4 xL44_4 tL44_4 yL44_4 kL44_8 xL44_8 kL44_11 xL44_11 kL44_18 xL44_18 x

/- "loop.example/g03321/impl.FewestChanges" mode S false -/
abbrev I45 : Sg := ⟨[.val (.slice (S23)), .val (.slice (S25))], []⟩
abbrev O45 : Sg := ⟨[.own (.int .i64) 0, .val (.bool)], [.arr (.int .i64)]⟩
abbrev V45_4 : Type := (((List (Den (S23))) × ((List (Den (S25))) × (Unit × Unit))) × ((List (Den (.int .i64))) × Unit))
def sh45_4 : ShS := ⟨[(0, .one (.sl (S23))), (1, .one (.sl (S25))), (6, .one (.ref (.int .i64) 0))], [(0, .arr (.int .i64))], 1, 0⟩
abbrev X45_4 : Type := ((Unit × Unit) × ((List (Den (.int .i64))) × Unit))
def shX45_4 : ShS := ⟨[(6, .one (.ref (.int .i64) 0))], [(0, .arr (.int .i64))], 1, 0⟩
abbrev Y45_4 : Type := ((Unit × (Bool × Unit)) × ((List (Den (.int .i64))) × Unit))
def shY45_4 : ShS := ⟨[(4, .one (.ref (.int .i64) 0)), (5, .one (.bool))], [(0, .arr (.int .i64))], 1, 0⟩
abbrev V45_7 : Type := (((List (Den (S23))) × ((List (Den (S25))) × (Unit × (Int × (Int × ((List (Den (S23))) × (Int × (Int × Unit)))))))) × ((List (Den (.int .i64))) × Unit))
def sh45_7 : ShS := ⟨[(0, .one (.sl (S23))), (1, .one (.sl (S25))), (6, .one (.ref (.int .i64) 0)), (7, .one (.int .i64)), (8, .one (.int .i64)), (27, .one (.sl (S23))), (28, .one (.int .i64)), (29, .one (.int .i64))], [(0, .arr (.int .i64))], 1, 0⟩
abbrev X45_7 : Type := (((List (Den (S23))) × ((List (Den (S25))) × (Unit × (Int × (Int × Unit))))) × ((List (Den (.int .i64))) × Unit))
def shX45_7 : ShS := ⟨[(0, .one (.sl (S23))), (1, .one (.sl (S25))), (6, .one (.ref (.int .i64) 0)), (7, .one (.int .i64)), (8, .one (.int .i64))], [(0, .arr (.int .i64))], 1, 0⟩
abbrev V45_11 : Type := (((List (Den (S23))) × ((List (Den (S25))) × (Unit × (Int × (Int × (Int × (Unit × (Int × ((List (Den (S23))) × (Int × (Int × ((List (Den (S25))) × (Int × (Int × Unit)))))))))))))) × ((List (Den (.int .i64))) × ((ByteArray × (Nat × (Nat × (Int × (Int × Unit))))) × Unit)))
def sh45_11 : ShS := ⟨[(0, .one (.sl (S23))), (1, .one (.sl (S25))), (6, .one (.ref (.int .i64) 0)), (7, .one (.int .i64)), (8, .one (.int .i64)), (9, .one (.int .i64)), (10, .one (.ptr 1 0)), (11, .one (.int .i64)), (27, .one (.sl (S23))), (28, .one (.int .i64)), (29, .one (.int .i64)), (37, .one (.sl (S25))), (38, .one (.int .i64)), (39, .one (.int .i64))], [(0, .arr (.int .i64)), (1, .box [.str, .flt .f32, .flt .f32, .int .i64, .int .i64])], 2, 0⟩
abbrev X45_11 : Type := (((List (Den (S23))) × ((List (Den (S25))) × (Unit × (Int × (Int × (Int × (Int × ((List (Den (S23))) × (Int × (Int × Unit)))))))))) × ((List (Den (.int .i64))) × Unit))
def shX45_11 : ShS := ⟨[(0, .one (.sl (S23))), (1, .one (.sl (S25))), (6, .one (.ref (.int .i64) 0)), (7, .one (.int .i64)), (8, .one (.int .i64)), (9, .one (.int .i64)), (11, .one (.int .i64)), (27, .one (.sl (S23))), (28, .one (.int .i64)), (29, .one (.int .i64))], [(0, .arr (.int .i64))], 1, 0⟩
abbrev V45_21 : Type := (((List (Den (S23))) × ((List (Den (S25))) × (Unit × (Int × (Int × Unit))))) × ((List (Den (.int .i64))) × Unit))
def sh45_21 : ShS := ⟨[(0, .one (.sl (S23))), (1, .one (.sl (S25))), (6, .one (.ref (.int .i64) 0)), (7, .one (.int .i64)), (8, .one (.int .i64))], [(0, .arr (.int .i64))], 1, 0⟩
abbrev X45_21 : Type := (((List (Den (S23))) × ((List (Den (S25))) × (Unit × Unit))) × ((List (Den (.int .i64))) × Unit))
def shX45_21 : ShS := ⟨[(0, .one (.sl (S23))), (1, .one (.sl (S25))), (6, .one (.ref (.int .i64) 0))], [(0, .arr (.int .i64))], 1, 0⟩
noncomputable def Γ45 (k29 : Den A29 → Bool) (g29 : Den A29 → Den R29) (k25 : Den A25 → Bool) (g25 : Den A25 → Den R25) (kl4 : V45_4 → Bool) (xl4 : V45_4 → X45_4) (tl4 : V45_4 → Bool) (yl4 : V45_4 → Y45_4) (kl7 : V45_7 → Bool) (xl7 : V45_7 → X45_7) (kl11 : V45_11 → Bool) (xl11 : V45_11 → X45_11) (kl21 : V45_21 → Bool) (xl21 : V45_21 → X45_21) : Env := mkEnv tab eqs [(29, fnMean A29 R29 k29 g29), (25, fnMean A25 R25 k25 g25)] 67 [.tmp 4, .tmp 5] [] [] [(4, loopR [0, 1, 6] [.nil 6] 0 [6] [] sh45_4 shX45_4 shY45_4 kl4 tl4 xl4 yl4), (7, loopX [0, 1, 6, 7, 8, 27, 28, 29] [] 2 [0, 1, 6, 7, 8] [] sh45_7 shX45_7 kl7 xl7), (11, loopX [0, 1, 6, 7, 8, 9, 10, 11, 27, 28, 29, 37, 38, 39] [] 4 [0, 1, 6, 7, 8, 9, 11, 27, 28, 29] [] sh45_11 shX45_11 kl11 xl11), (21, loopX [0, 1, 6, 7, 8] [.nil 6] 6 [0, 1, 6] [] sh45_21 shX45_21 kl21 xl21)] [] [.nil 4]
noncomputable def lc45_4 : Code := (loopsOf (bodyOf Try.f45)).getD 0 .skip
noncomputable def lc45_7 : Code := (loopsOf (bodyOf Try.f45)).getD 1 .skip
noncomputable def lc45_11 : Code := (loopsOf (bodyOf Try.f45)).getD 2 .skip
noncomputable def lc45_21 : Code := (loopsOf (bodyOf Try.f45)).getD 3 .skip
def q45_21 (k29 : Den A29 → Bool) (g29 : Den A29 → Den R29) (k25 : Den A25 → Bool) (g25 : Den A25 → Den R25) (f : V45_21 → Option (X45_21)) (v : V45_21) : Option (X45_21) :=
  bif (decide (v.fst.snd.snd.snd.snd.fst > 0)) then
    let v0 := (List.set (List.replicate 1 (zero (Ty.int IntKind.i64))) 0 v.fst.snd.snd.snd.fst)
    bif (capOk (List.length v.snd.fst + List.length v0)) then
      let v1 := (IntKind.wrap IntKind.i64 (v.fst.snd.snd.snd.snd.fst - 1))
      let v2 := (v.snd.fst ++ v0)
      f (((v.fst.1), ((v.fst.snd.1), ((), ((v.fst.snd.snd.snd.1), ((v1), ()))))), ((v2), ()))
    else
      none
  else
    some (((v.fst.1), ((v.fst.snd.1), ((), ()))), ((v.snd.1), ()))
theorem evl45_21 (k29 : Den A29 → Bool) (g29 : Den A29 → Den R29) (k25 : Den A25 → Bool) (g25 : Den A25 → Den R25) (kl4 : V45_4 → Bool) (xl4 : V45_4 → X45_4) (tl4 : V45_4 → Bool) (yl4 : V45_4 → Y45_4) (kl7 : V45_7 → Bool) (xl7 : V45_7 → X45_7) (kl11 : V45_11 → Bool) (xl11 : V45_11 → X45_11) (kl21 : V45_21 → Bool) (xl21 : V45_21 → X45_21) (f : V45_21 → Option (X45_21)) (v : V45_21) : EBk (Γ45 k29 g29 k25 g25 kl4 xl4 tl4 yl4 kl7 xl7 kl11 xl11 kl21 xl21) lc45_21 (roundK [0, 1, 6, 7, 8] [.nil 6] 6 [0, 1, 6] [] (atS sh45_21 f) (endX shX45_21)) (mkS sh45_21 v) = q45_21 k29 g29 k25 g25 f v := by kernel_rfl
def b45_21 (v : V45_21) : Nat := v.1.1.length + v.1.2.1.length + v.1.2.2.2.1.natAbs + v.1.2.2.2.2.1.natAbs + v.2.1.length + 1000
def l45_21 (v : V45_21) : Option (X45_21) := iter (q45_21 K29 G29 K25 G25) (b45_21 v) v
def kL45_21 (v : V45_21) : Bool := (l45_21 v).isSome
def xL45_21 (v : V45_21) : X45_21 := (l45_21 v).getD (([], ([], ((), ()))), ([], ()))
def q45_11 (k29 : Den A29 → Bool) (g29 : Den A29 → Den R29) (k25 : Den A25 → Bool) (g25 : Den A25 → Den R25) (f : V45_11 → Option (X45_11)) (v : V45_11) : Option (X45_11) :=
  bif (decide (v.fst.snd.snd.snd.snd.snd.snd.snd.snd.snd.snd.snd.snd.snd.fst < v.fst.snd.snd.snd.snd.snd.snd.snd.snd.snd.snd.snd.snd.fst)) then
    bif (decide (0 ≤ v.fst.snd.snd.snd.snd.snd.snd.snd.snd.snd.snd.snd.snd.snd.fst) && decide (v.fst.snd.snd.snd.snd.snd.snd.snd.snd.snd.snd.snd.snd.snd.fst < (↑(List.length v.fst.snd.snd.snd.snd.snd.snd.snd.snd.snd.snd.snd.fst) : Int))) then
      let v0 := (List.getD v.fst.snd.snd.snd.snd.snd.snd.snd.snd.snd.snd.snd.fst (Int.toNat v.fst.snd.snd.snd.snd.snd.snd.snd.snd.snd.snd.snd.snd.snd.fst) (zero S25))
      let v1 := (k25 ((v.snd.snd.fst.fst, v.snd.snd.fst.snd.fst, v.snd.snd.fst.snd.snd.fst, v.snd.snd.fst.snd.snd.snd.fst, v.snd.snd.fst.snd.snd.snd.snd.fst, ()), (v0.fst, v0.snd.fst, ()), ()))
      bif (v1) then
        let v2 := (g25 ((v.snd.snd.fst.fst, v.snd.snd.fst.snd.fst, v.snd.snd.fst.snd.snd.fst, v.snd.snd.fst.snd.snd.snd.fst, v.snd.snd.fst.snd.snd.snd.snd.fst, ()), (v0.fst, v0.snd.fst, ()), ()))
        bif (!v2.fst) then
          some (((v.fst.1), ((v.fst.snd.1), ((), ((v.fst.snd.snd.snd.1), ((v.fst.snd.snd.snd.snd.1), ((v.fst.snd.snd.snd.snd.snd.1), ((v.fst.snd.snd.snd.snd.snd.snd.snd.1), ((v.fst.snd.snd.snd.snd.snd.snd.snd.snd.1), ((v.fst.snd.snd.snd.snd.snd.snd.snd.snd.snd.1), ((v.fst.snd.snd.snd.snd.snd.snd.snd.snd.snd.snd.1), ())))))))))), ((v.snd.1), ()))
        else
          let v3 := (IntKind.wrap IntKind.i64 (v.fst.snd.snd.snd.snd.snd.snd.snd.fst + 1))
          let v4 := (IntKind.wrap IntKind.i64 (v.fst.snd.snd.snd.snd.snd.snd.snd.snd.snd.snd.snd.snd.snd.fst + 1))
          f (((v.fst.1), ((v.fst.snd.1), ((), ((v.fst.snd.snd.snd.1), ((v.fst.snd.snd.snd.snd.1), ((v.fst.snd.snd.snd.snd.snd.1), ((), ((v3), ((v.fst.snd.snd.snd.snd.snd.snd.snd.snd.1), ((v.fst.snd.snd.snd.snd.snd.snd.snd.snd.snd.1), ((v.fst.snd.snd.snd.snd.snd.snd.snd.snd.snd.snd.1), ((v.fst.snd.snd.snd.snd.snd.snd.snd.snd.snd.snd.snd.1), ((v.fst.snd.snd.snd.snd.snd.snd.snd.snd.snd.snd.snd.snd.1), ((v4), ())))))))))))))), ((v.snd.1), (((v.snd.snd.fst.1), ((v.snd.snd.fst.snd.1), ((v.snd.snd.fst.snd.snd.1), ((v.snd.snd.fst.snd.snd.snd.1), ((v.snd.snd.fst.snd.snd.snd.snd.1), ()))))), ())))
      else
        none
    else
      none
  else
    some (((v.fst.1), ((v.fst.snd.1), ((), ((v.fst.snd.snd.snd.1), ((v.fst.snd.snd.snd.snd.1), ((v.fst.snd.snd.snd.snd.snd.1), ((v.fst.snd.snd.snd.snd.snd.snd.snd.1), ((v.fst.snd.snd.snd.snd.snd.snd.snd.snd.1), ((v.fst.snd.snd.snd.snd.snd.snd.snd.snd.snd.1), ((v.fst.snd.snd.snd.snd.snd.snd.snd.snd.snd.snd.1), ())))))))))), ((v.snd.1), ()))
theorem evl45_11 (k29 : Den A29 → Bool) (g29 : Den A29 → Den R29) (k25 : Den A25 → Bool) (g25 : Den A25 → Den R25) (kl4 : V45_4 → Bool) (xl4 : V45_4 → X45_4) (tl4 : V45_4 → Bool) (yl4 : V45_4 → Y45_4) (kl7 : V45_7 → Bool) (xl7 : V45_7 → X45_7) (kl11 : V45_11 → Bool) (xl11 : V45_11 → X45_11) (kl21 : V45_21 → Bool) (xl21 : V45_21 → X45_21) (f : V45_11 → Option (X45_11)) (v : V45_11) : EBk (Γ45 k29 g29 k25 g25 kl4 xl4 tl4 yl4 kl7 xl7 kl11 xl11 kl21 xl21) lc45_11 (roundK [0, 1, 6, 7, 8, 9, 10, 11, 27, 28, 29, 37, 38, 39] [] 4 [0, 1, 6, 7, 8, 9, 11, 27, 28, 29] [] (atS sh45_11 f) (endX shX45_11)) (mkS sh45_11 v) = q45_11 k29 g29 k25 g25 f v := by kernel_rfl
def b45_11 (v : V45_11) : Nat := v.1.1.length + v.1.2.1.length + v.1.2.2.2.1.natAbs + v.1.2.2.2.2.1.natAbs + v.1.2.2.2.2.2.1.natAbs + v.1.2.2.2.2.2.2.2.1.natAbs + v.1.2.2.2.2.2.2.2.2.1.length + v.1.2.2.2.2.2.2.2.2.2.1.natAbs + v.1.2.2.2.2.2.2.2.2.2.2.1.natAbs + v.1.2.2.2.2.2.2.2.2.2.2.2.1.length + v.1.2.2.2.2.2.2.2.2.2.2.2.2.1.natAbs + v.1.2.2.2.2.2.2.2.2.2.2.2.2.2.1.natAbs + v.2.1.length + v.2.2.1.1.size + v.2.2.1.2.2.2.1.natAbs + v.2.2.1.2.2.2.2.1.natAbs + 1000
def l45_11 (v : V45_11) : Option (X45_11) := iter (q45_11 K29 G29 K25 G25) (b45_11 v) v
def kL45_11 (v : V45_11) : Bool := (l45_11 v).isSome
def xL45_11 (v : V45_11) : X45_11 := (l45_11 v).getD (([], ([], ((), (0, (0, (0, (0, ([], (0, (0, ())))))))))), ([], ()))
def q45_7 (k29 : Den A29 → Bool) (g29 : Den A29 → Den R29) (k25 : Den A25 → Bool) (g25 : Den A25 → Den R25) (kl11 : V45_11 → Bool) (xl11 : V45_11 → X45_11) (f : V45_7 → Option (X45_7)) (v : V45_7) : Option (X45_7) :=
  bif (decide (v.fst.snd.snd.snd.snd.snd.snd.snd.fst < v.fst.snd.snd.snd.snd.snd.snd.fst)) then
    bif (decide (0 ≤ v.fst.snd.snd.snd.snd.snd.snd.snd.fst) && decide (v.fst.snd.snd.snd.snd.snd.snd.snd.fst < (↑(List.length v.fst.snd.snd.snd.snd.snd.fst) : Int))) then
      bif (decide (0 ≤ (↑(List.length v.snd.fst) : Int)) && decide ((↑(List.length v.snd.fst) : Int) ≤ (↑(List.length v.fst.snd.fst) : Int)) && decide ((↑(List.length v.fst.snd.fst) : Int) ≤ (↑(List.length v.fst.snd.fst) : Int))) then
        let v0 := (List.getD v.fst.snd.snd.snd.snd.snd.fst (Int.toNat v.fst.snd.snd.snd.snd.snd.snd.snd.fst) (zero S23))
        let v1 := (kl11 ((v.fst.fst, v.fst.snd.fst, (), v.fst.snd.snd.snd.fst, v.fst.snd.snd.snd.snd.fst, v.fst.snd.snd.snd.snd.snd.snd.snd.fst, (), 0, v.fst.snd.snd.snd.snd.snd.fst, v.fst.snd.snd.snd.snd.snd.snd.fst, v.fst.snd.snd.snd.snd.snd.snd.snd.fst, List.drop (Int.toNat (↑(List.length v.snd.fst) : Int)) (List.take (Int.toNat (↑(List.length v.fst.snd.fst) : Int)) v.fst.snd.fst), (↑(List.length (List.drop (Int.toNat (↑(List.length v.snd.fst) : Int)) (List.take (Int.toNat (↑(List.length v.fst.snd.fst) : Int)) v.fst.snd.fst))) : Int), 0, ()), v.snd.fst, (v0.fst, v0.snd.fst, v0.snd.snd.fst, v0.snd.snd.snd.fst, v0.snd.snd.snd.snd.fst, ()), ()))
        bif (v1) then
          let v2 := (xl11 ((v.fst.fst, v.fst.snd.fst, (), v.fst.snd.snd.snd.fst, v.fst.snd.snd.snd.snd.fst, v.fst.snd.snd.snd.snd.snd.snd.snd.fst, (), 0, v.fst.snd.snd.snd.snd.snd.fst, v.fst.snd.snd.snd.snd.snd.snd.fst, v.fst.snd.snd.snd.snd.snd.snd.snd.fst, List.drop (Int.toNat (↑(List.length v.snd.fst) : Int)) (List.take (Int.toNat (↑(List.length v.fst.snd.fst) : Int)) v.fst.snd.fst), (↑(List.length (List.drop (Int.toNat (↑(List.length v.snd.fst) : Int)) (List.take (Int.toNat (↑(List.length v.fst.snd.fst) : Int)) v.fst.snd.fst))) : Int), 0, ()), v.snd.fst, (v0.fst, v0.snd.fst, v0.snd.snd.fst, v0.snd.snd.snd.fst, v0.snd.snd.snd.snd.fst, ()), ()))
          bif (decide (v2.fst.snd.snd.snd.snd.snd.snd.fst > v2.fst.snd.snd.snd.snd.fst)) then
            let v3 := (IntKind.wrap IntKind.i64 (v2.fst.snd.snd.snd.snd.snd.snd.snd.snd.snd.fst + 1))
            f (((v2.fst.1), ((v2.fst.snd.1), ((), ((v2.fst.snd.snd.snd.snd.snd.1), ((v2.fst.snd.snd.snd.snd.snd.snd.1), ((v2.fst.snd.snd.snd.snd.snd.snd.snd.1), ((v2.fst.snd.snd.snd.snd.snd.snd.snd.snd.1), ((v3), ())))))))), ((v2.snd.1), ()))
          else
            let v3 := (IntKind.wrap IntKind.i64 (v2.fst.snd.snd.snd.snd.snd.snd.snd.snd.snd.fst + 1))
            f (((v2.fst.1), ((v2.fst.snd.1), ((), ((v2.fst.snd.snd.snd.1), ((v2.fst.snd.snd.snd.snd.1), ((v2.fst.snd.snd.snd.snd.snd.snd.snd.1), ((v2.fst.snd.snd.snd.snd.snd.snd.snd.snd.1), ((v3), ())))))))), ((v2.snd.1), ()))
        else
          none
      else
        none
    else
      none
  else
    some (((v.fst.1), ((v.fst.snd.1), ((), ((v.fst.snd.snd.snd.1), ((v.fst.snd.snd.snd.snd.1), ()))))), ((v.snd.1), ()))
theorem evl45_7 (k29 : Den A29 → Bool) (g29 : Den A29 → Den R29) (k25 : Den A25 → Bool) (g25 : Den A25 → Den R25) (kl4 : V45_4 → Bool) (xl4 : V45_4 → X45_4) (tl4 : V45_4 → Bool) (yl4 : V45_4 → Y45_4) (kl7 : V45_7 → Bool) (xl7 : V45_7 → X45_7) (kl11 : V45_11 → Bool) (xl11 : V45_11 → X45_11) (kl21 : V45_21 → Bool) (xl21 : V45_21 → X45_21) (f : V45_7 → Option (X45_7)) (v : V45_7) : EBk (Γ45 k29 g29 k25 g25 kl4 xl4 tl4 yl4 kl7 xl7 kl11 xl11 kl21 xl21) lc45_7 (roundK [0, 1, 6, 7, 8, 27, 28, 29] [] 2 [0, 1, 6, 7, 8] [] (atS sh45_7 f) (endX shX45_7)) (mkS sh45_7 v) = q45_7 k29 g29 k25 g25 kl11 xl11 f v := by kernel_rfl
def b45_7 (v : V45_7) : Nat := v.1.1.length + v.1.2.1.length + v.1.2.2.2.1.natAbs + v.1.2.2.2.2.1.natAbs + v.1.2.2.2.2.2.1.length + v.1.2.2.2.2.2.2.1.natAbs + v.1.2.2.2.2.2.2.2.1.natAbs + v.2.1.length + 1000
def l45_7 (v : V45_7) : Option (X45_7) := iter (q45_7 K29 G29 K25 G25 kL45_11 xL45_11) (b45_7 v) v
def kL45_7 (v : V45_7) : Bool := (l45_7 v).isSome
def xL45_7 (v : V45_7) : X45_7 := (l45_7 v).getD (([], ([], ((), (0, (0, ()))))), ([], ()))
def q45_4 (k29 : Den A29 → Bool) (g29 : Den A29 → Den R29) (k25 : Den A25 → Bool) (g25 : Den A25 → Den R25) (kl7 : V45_7 → Bool) (xl7 : V45_7 → X45_7) (kl11 : V45_11 → Bool) (xl11 : V45_11 → X45_11) (kl21 : V45_21 → Bool) (xl21 : V45_21 → X45_21) (f : V45_4 → Option (X45_4 ⊕ Y45_4)) (v : V45_4) : Option (X45_4 ⊕ Y45_4) :=
  bif (decide ((↑(List.length v.snd.fst) : Int) < (↑(List.length v.fst.snd.fst) : Int))) then
    let v0 := (kl7 ((v.fst.fst, v.fst.snd.fst, (), -1, 0, v.fst.fst, (↑(List.length v.fst.fst) : Int), 0, ()), v.snd.fst, ()))
    bif (v0) then
      let v1 := (xl7 ((v.fst.fst, v.fst.snd.fst, (), -1, 0, v.fst.fst, (↑(List.length v.fst.fst) : Int), 0, ()), v.snd.fst, ()))
      bif (decide (v1.fst.snd.snd.snd.fst < 0)) then
        some (Sum.inr (((), ((false), ())), (([]), ())))
      else
        let v2 := (kl21 ((v1.fst.fst, v1.fst.snd.fst, (), v1.fst.snd.snd.snd.fst, v1.fst.snd.snd.snd.snd.fst, ()), v1.snd.fst, ()))
        bif (v2) then
          let v3 := (xl21 ((v1.fst.fst, v1.fst.snd.fst, (), v1.fst.snd.snd.snd.fst, v1.fst.snd.snd.snd.snd.fst, ()), v1.snd.fst, ()))
          f (((v3.fst.1), ((v3.fst.snd.1), ((), ()))), ((v3.snd.1), ()))
        else
          none
    else
      none
  else
    some (Sum.inl (((), ()), ((v.snd.1), ())))
theorem evl45_4 (k29 : Den A29 → Bool) (g29 : Den A29 → Den R29) (k25 : Den A25 → Bool) (g25 : Den A25 → Den R25) (kl4 : V45_4 → Bool) (xl4 : V45_4 → X45_4) (tl4 : V45_4 → Bool) (yl4 : V45_4 → Y45_4) (kl7 : V45_7 → Bool) (xl7 : V45_7 → X45_7) (kl11 : V45_11 → Bool) (xl11 : V45_11 → X45_11) (kl21 : V45_21 → Bool) (xl21 : V45_21 → X45_21) (f : V45_4 → Option (X45_4 ⊕ Y45_4)) (v : V45_4) : EBk (Γ45 k29 g29 k25 g25 kl4 xl4 tl4 yl4 kl7 xl7 kl11 xl11 kl21 xl21) lc45_4 (roundK [0, 1, 6] [.nil 6] 0 [6] [] (atS sh45_4 f) (endS shX45_4 shY45_4)) (mkS sh45_4 v) = q45_4 k29 g29 k25 g25 kl7 xl7 kl11 xl11 kl21 xl21 f v := by kernel_rfl
def b45_4 (v : V45_4) : Nat := v.1.1.length + v.1.2.1.length + v.2.1.length + 1000
def l45_4 (v : V45_4) : Option (X45_4 ⊕ Y45_4) := iter (q45_4 K29 G29 K25 G25 kL45_7 xL45_7 kL45_11 xL45_11 kL45_21 xL45_21) (b45_4 v) v
def kL45_4 (v : V45_4) : Bool := (l45_4 v).isSome
def tL45_4 (v : V45_4) : Bool := isR (l45_4 v)
def xL45_4 (v : V45_4) : X45_4 := xOf (((), ()), ([], ())) (l45_4 v)
def yL45_4 (v : V45_4) : Y45_4 := yOf (((), (false, ())), ([], ())) (l45_4 v)
def r45 (k29 : Den A29 → Bool) (g29 : Den A29 → Den R29) (k25 : Den A25 → Bool) (g25 : Den A25 → Den R25) (kl4 : V45_4 → Bool) (xl4 : V45_4 → X45_4) (tl4 : V45_4 → Bool) (yl4 : V45_4 → Y45_4) (kl7 : V45_7 → Bool) (xl7 : V45_7 → X45_7) (kl11 : V45_11 → Bool) (xl11 : V45_11 → X45_11) (kl21 : V45_21 → Bool) (xl21 : V45_21 → X45_21) (x : I45.den) : Option (O45.den) :=
  let v0 := (k29 (x.fst.fst, ()))
  bif (v0) then
    let v1 := (g29 (x.fst.fst, ()))
    bif (!v1.fst) then
      some (((), ((false), ())), (([]), ()))
    else
      bif (decide ((↑(List.length x.fst.snd.fst) : Int) > 60)) then
        some (((), ((false), ())), (([]), ()))
      else
        let v2 := (kl4 ((x.fst.fst, x.fst.snd.fst, (), ()), [], ()))
        bif (v2) then
          let v3 := (tl4 ((x.fst.fst, x.fst.snd.fst, (), ()), [], ()))
          bif (v3) then
            let v4 := (yl4 ((x.fst.fst, x.fst.snd.fst, (), ()), [], ()))
            some (((), ((v4.fst.snd.1), ())), ((v4.snd.1), ()))
          else
            let v4 := (xl4 ((x.fst.fst, x.fst.snd.fst, (), ()), [], ()))
            some (((), ((true), ())), ((v4.snd.1), ()))
        else
          none
  else
    none
theorem ev45 (k29 : Den A29 → Bool) (g29 : Den A29 → Den R29) (k25 : Den A25 → Bool) (g25 : Den A25 → Den R25) (kl4 : V45_4 → Bool) (xl4 : V45_4 → X45_4) (tl4 : V45_4 → Bool) (yl4 : V45_4 → Y45_4) (kl7 : V45_7 → Bool) (xl7 : V45_7 → X45_7) (kl11 : V45_11 → Bool) (xl11 : V45_11 → X45_11) (kl21 : V45_21 → Bool) (xl21 : V45_21 → X45_21) (x : I45.den) : callS (Γ45 k29 g29 k25 g25 kl4 xl4 tl4 yl4 kl7 xl7 kl11 xl11 kl21 xl21) (bodyOf Try.f45) I45 O45 x = r45 k29 g29 k25 g25 kl4 xl4 tl4 yl4 kl7 xl7 kl11 xl11 kl21 xl21 x := by kernel_rfl
def F45 (x : I45.den) : Option (O45.den) := r45 K29 G29 K25 G25 kL45_4 xL45_4 tL45_4 yL45_4 kL45_7 xL45_7 kL45_11 xL45_11 kL45_21 xL45_21 x
def K45 (x : I45.den) : Bool := (F45 x).isSome
def G45 (x : I45.den) : O45.den := (F45 x).getD (zeroSg O45)
theorem env45 : EnvOK Try.prog (Γ45 K29 G29 K25 G25 kL45_4 xL45_4 tL45_4 yL45_4 kL45_7 xL45_7 kL45_11 xL45_11 kL45_21 xL45_21) := env_ok mixed tab_ok eqs_ok (.cons sem29 (.cons sem25 .nil))
theorem is45 : FnIs Try.prog 45 (Γ45 K29 G29 K25 G25 kL45_4 xL45_4 tL45_4 yL45_4 kL45_7 xL45_7 kL45_11 xL45_11 kL45_21 xL45_21) (bodyOf Try.f45) := fnIs Try.func45 rfl rfl rfl (by kernel_rfl) (loops_ok (l := [lc45_4, lc45_7, lc45_11, lc45_21]) (by kernel_rfl) (.cons (one_loop rfl (loopR_sound (sh := sh45_4) (shX := shX45_4) (shR := shY45_4) (fun f v => evl45_4 K29 G29 K25 G25 kL45_4 xL45_4 tL45_4 yL45_4 kL45_7 xL45_7 kL45_11 xL45_11 kL45_21 xL45_21 f v) b45_4 (((), ()), ([], ())) (((), (false, ())), ([], ())))) (.cons (one_loop rfl (loopX_sound (sh := sh45_7) (shX := shX45_7) (fun f v => evl45_7 K29 G29 K25 G25 kL45_4 xL45_4 tL45_4 yL45_4 kL45_7 xL45_7 kL45_11 xL45_11 kL45_21 xL45_21 f v) b45_7 (([], ([], ((), (0, (0, ()))))), ([], ())))) (.cons (one_loop rfl (loopX_sound (sh := sh45_11) (shX := shX45_11) (fun f v => evl45_11 K29 G29 K25 G25 kL45_4 xL45_4 tL45_4 yL45_4 kL45_7 xL45_7 kL45_11 xL45_11 kL45_21 xL45_21 f v) b45_11 (([], ([], ((), (0, (0, (0, (0, ([], (0, (0, ())))))))))), ([], ())))) (.cons (one_loop rfl (loopX_sound (sh := sh45_21) (shX := shX45_21) (fun f v => evl45_21 K29 G29 K25 G25 kL45_4 xL45_4 tL45_4 yL45_4 kL45_7 xL45_7 kL45_11 xL45_11 kL45_21 xL45_21 f v) b45_21 (([], ([], ((), ()))), ([], ())))) (.nil))))))
theorem sem45 : SemOK Try.prog (45, sgMean false I45 O45 K45 G45) := sg_opt env45 is45 false fun x => ev45 K29 G29 K25 G25 kL45_4 xL45_4 tL45_4 yL45_4 kL45_7 xL45_7 kL45_11 xL45_11 kL45_21 xL45_21 x

/- "loop.example/g03321/laws.markText" -/
abbrev A64 : Ty := .cons (.int .i64) (.nil)
abbrev R64 : Ty := .cons (.str) (.nil)
abbrev V64_4 : Type := ((Int × (ByteArray × Unit)) × Unit)
def sh64_4 : ShS := ⟨[(0, .one (.int .i64)), (3, .one (.str))], [], 0, 0⟩
abbrev X64_4 : Type := ((ByteArray × Unit) × Unit)
def shX64_4 : ShS := ⟨[(3, .one (.str))], [], 0, 0⟩
noncomputable def Γ64 (kl4 : V64_4 → Bool) (xl4 : V64_4 → X64_4) : Env := mkEnv tab eqs [] 20 [.tmp 2] [] [] [(4, loopX [0, 3] [] 0 [3] [] sh64_4 shX64_4 kl4 xl4)] [] []
noncomputable def lc64_4 : Code := (loopsOf (bodyOf Try.f64)).getD 0 .skip
def q64_4 (f : V64_4 → Option (X64_4)) (v : V64_4) : Option (X64_4) :=
  bif (decide (v.fst.fst > 0)) then
    let v0 := (IntKind.wrap IntKind.i64 (48 + Int.tmod v.fst.fst 10))
    let v1 := (IntKind.wrap IntKind.u8 v0)
    let v2 := (List.set (List.replicate 1 (zero (Ty.int IntKind.u8))) 0 v1)
    let v3 := (bstrOf v2)
    bif (decide (ByteArray.size v3 + ByteArray.size v.fst.snd.fst ≤ 9223372036854775807)) then
      let v4 := (IntKind.wrap IntKind.i64 (Int.tdiv v.fst.fst 10))
      let v5 := (v3 ++ v.fst.snd.fst)
      f (((v4), ((v5), ())), ())
    else
      none
  else
    some (((v.fst.snd.1), ()), ())
theorem evl64_4 (kl4 : V64_4 → Bool) (xl4 : V64_4 → X64_4) (f : V64_4 → Option (X64_4)) (v : V64_4) : EBk (Γ64 kl4 xl4) lc64_4 (roundK [0, 3] [] 0 [3] [] (atS sh64_4 f) (endX shX64_4)) (mkS sh64_4 v) = q64_4 f v := by kernel_rfl
def b64_4 (v : V64_4) : Nat := v.1.1.natAbs + v.1.2.1.size + 1000
def l64_4 (v : V64_4) : Option (X64_4) := iter (q64_4) (b64_4 v) v
def kL64_4 (v : V64_4) : Bool := (l64_4 v).isSome
def xL64_4 (v : V64_4) : X64_4 := (l64_4 v).getD ((ByteArray.empty, ()), ())
def r64 (kl4 : V64_4 → Bool) (xl4 : V64_4 → X64_4) (x : Den A64) : Option (Den R64) :=
  bif (decide (x.fst ≤ 0)) then
    some (({ data := #[109, 48] }), ())
  else
    let v0 := (kl4 ((x.fst, { data := #[] }, ()), ()))
    bif (v0) then
      let v1 := (xl4 ((x.fst, { data := #[] }, ()), ()))
      bif (decide (ByteArray.size { data := #[109] } + ByteArray.size v1.fst.fst ≤ 9223372036854775807)) then
        let v2 := ({ data := #[109] } ++ v1.fst.fst)
        some ((v2), ())
      else
        none
    else
      none
theorem ev64 (kl4 : V64_4 → Bool) (xl4 : V64_4 → X64_4) (x : Den A64) : callK (Γ64 kl4 xl4) (bodyOf Try.f64) (decR R64) (encA A64 x) [] = r64 kl4 xl4 x := by kernel_rfl
def F64 (x : Den A64) : Option (Den R64) := r64 kL64_4 xL64_4 x
def K64 (x : Den A64) : Bool := (F64 x).isSome
def G64 (x : Den A64) : Den R64 := (F64 x).getD (zero R64)
theorem env64 : EnvOK Try.prog (Γ64 kL64_4 xL64_4) := env_ok mixed tab_ok eqs_ok .nil
theorem is64 : FnIs Try.prog 64 (Γ64 kL64_4 xL64_4) (bodyOf Try.f64) := fnIs Try.func64 rfl rfl rfl (by kernel_rfl) (loops_ok (l := [lc64_4]) (by kernel_rfl) (.cons (one_loop rfl (loopX_sound (sh := sh64_4) (shX := shX64_4) (fun f v => evl64_4 kL64_4 xL64_4 f v) b64_4 ((ByteArray.empty, ()), ()))) (.nil)))
theorem sem64 : SemOK Try.prog (64, fnMean A64 R64 K64 G64) := fn_opt env64 is64 fun x => ev64 kL64_4 xL64_4 x

/- "loop.example/g03321/laws.markSailS" mode S true -/
abbrev I46 : Sg := ⟨[.own (S23) 0, .val (.int .i64)], [.arr (S23)]⟩
abbrev O46 : Sg := ⟨[.val (.int .i64)], [.arr (S23)]⟩
abbrev V46_2 : Type := ((Unit × (Int × (Int × Unit))) × ((List (Den (S23))) × Unit))
def sh46_2 : ShS := ⟨[(0, .one (.ref (S23) 0)), (1, .one (.int .i64)), (5, .one (.int .i64))], [(0, .arr (S23))], 1, 1⟩
abbrev X46_2 : Type := ((Int × Unit) × ((List (Den (S23))) × Unit))
def shX46_2 : ShS := ⟨[(1, .one (.int .i64))], [(0, .arr (S23))], 1, 1⟩
noncomputable def Γ46 (k64 : Den A64 → Bool) (g64 : Den A64 → Den R64) (kl2 : V46_2 → Bool) (xl2 : V46_2 → X46_2) : Env := mkEnv tab eqs [(64, fnMean A64 R64 k64 g64)] 51 [.tmp 4] [] [] [(2, loopX [0, 1, 5] [] 0 [1] [] sh46_2 shX46_2 kl2 xl2)] [] []
noncomputable def lc46_2 : Code := (loopsOf (bodyOf Try.f46)).getD 0 .skip
def q46_2 (k64 : Den A64 → Bool) (g64 : Den A64 → Den R64) (f : V46_2 → Option (X46_2)) (v : V46_2) : Option (X46_2) :=
  bif (decide (v.fst.snd.snd.fst < (↑(List.length v.snd.fst) : Int))) then
    let v0 := (k64 (v.fst.snd.fst, ()))
    bif (v0) then
      bif (decide (0 ≤ v.fst.snd.snd.fst) && decide (v.fst.snd.snd.fst < (↑(List.length v.snd.fst) : Int))) then
        let v1 := (g64 (v.fst.snd.fst, ()))
        let v2 := (List.getD v.snd.fst (Int.toNat v.fst.snd.snd.fst) (zero S23))
        let v3 := (List.set v.snd.fst (Int.toNat v.fst.snd.snd.fst) (v1.fst, v2.snd.fst, v2.snd.snd.fst, v2.snd.snd.snd.fst, v2.snd.snd.snd.snd.fst, ()))
        bif (decide (0 ≤ v.fst.snd.snd.fst) && decide (v.fst.snd.snd.fst < (↑(List.length v3) : Int))) then
          let v4 := (List.getD v3 (Int.toNat v.fst.snd.snd.fst) (zero S23))
          let v5 := (IntKind.wrap IntKind.i64 (v.fst.snd.fst + 1))
          let v6 := (List.set v3 (Int.toNat v.fst.snd.snd.fst) (v4.fst, FloatKind.nearest FloatKind.f32 v5, v4.snd.snd.fst, v4.snd.snd.snd.fst, v4.snd.snd.snd.snd.fst, ()))
          bif (decide (0 ≤ v.fst.snd.snd.fst) && decide (v.fst.snd.snd.fst < (↑(List.length v6) : Int))) then
            let v7 := (List.getD v6 (Int.toNat v.fst.snd.snd.fst) (zero S23))
            let v8 := (IntKind.wrap IntKind.i64 (v5 + 1))
            let v9 := (List.set v6 (Int.toNat v.fst.snd.snd.fst) (v7.fst, v7.snd.fst, FloatKind.nearest FloatKind.f32 v8, v7.snd.snd.snd.fst, v7.snd.snd.snd.snd.fst, ()))
            bif (decide (0 ≤ v.fst.snd.snd.fst) && decide (v.fst.snd.snd.fst < (↑(List.length v9) : Int))) then
              let v10 := (List.getD v9 (Int.toNat v.fst.snd.snd.fst) (zero S23))
              let v11 := (IntKind.wrap IntKind.i64 (v8 + 1))
              let v12 := (List.set v9 (Int.toNat v.fst.snd.snd.fst) (v10.fst, v10.snd.fst, v10.snd.snd.fst, v11, v10.snd.snd.snd.snd.fst, ()))
              bif (decide (0 ≤ v.fst.snd.snd.fst) && decide (v.fst.snd.snd.fst < (↑(List.length v12) : Int))) then
                let v13 := (IntKind.wrap IntKind.i64 (v11 + 1))
                let v14 := (IntKind.wrap IntKind.i64 (v13 + 1))
                let v15 := (IntKind.wrap IntKind.i64 (v.fst.snd.snd.fst + 1))
                let v16 := (List.getD v12 (Int.toNat v.fst.snd.snd.fst) (zero S23))
                let v17 := (List.set v12 (Int.toNat v.fst.snd.snd.fst) (v16.fst, v16.snd.fst, v16.snd.snd.fst, v16.snd.snd.snd.fst, v13, ()))
                f (((), ((v14), ((v15), ()))), ((v17), ()))
              else
                none
            else
              none
          else
            none
        else
          none
      else
        none
    else
      none
  else
    some (((v.fst.snd.1), ()), ((v.snd.1), ()))
theorem evl46_2 (k64 : Den A64 → Bool) (g64 : Den A64 → Den R64) (kl2 : V46_2 → Bool) (xl2 : V46_2 → X46_2) (f : V46_2 → Option (X46_2)) (v : V46_2) : EBk (Γ46 k64 g64 kl2 xl2) lc46_2 (roundK [0, 1, 5] [] 0 [1] [] (atS sh46_2 f) (endX shX46_2)) (mkS sh46_2 v) = q46_2 k64 g64 f v := by kernel_rfl
def b46_2 (v : V46_2) : Nat := v.1.2.1.natAbs + v.1.2.2.1.natAbs + v.2.1.length + 1000
def l46_2 (v : V46_2) : Option (X46_2) := iter (q46_2 K64 G64) (b46_2 v) v
def kL46_2 (v : V46_2) : Bool := (l46_2 v).isSome
def xL46_2 (v : V46_2) : X46_2 := (l46_2 v).getD ((0, ()), ([], ()))
def r46 (k64 : Den A64 → Bool) (g64 : Den A64 → Den R64) (kl2 : V46_2 → Bool) (xl2 : V46_2 → X46_2) (x : I46.den) : Option (O46.den) :=
  let v0 := (kl2 (((), x.fst.snd.fst, 0, ()), x.snd.fst, ()))
  bif (v0) then
    let v1 := (xl2 (((), x.fst.snd.fst, 0, ()), x.snd.fst, ()))
    some (((v1.fst.1), ()), ((v1.snd.1), ()))
  else
    none
theorem ev46 (k64 : Den A64 → Bool) (g64 : Den A64 → Den R64) (kl2 : V46_2 → Bool) (xl2 : V46_2 → X46_2) (x : I46.den) : callS (Γ46 k64 g64 kl2 xl2) (bodyOf Try.f46) I46 O46 x = r46 k64 g64 kl2 xl2 x := by kernel_rfl
def F46 (x : I46.den) : Option (O46.den) := r46 K64 G64 kL46_2 xL46_2 x
def K46 (x : I46.den) : Bool := (F46 x).isSome
def G46 (x : I46.den) : O46.den := (F46 x).getD (zeroSg O46)
theorem env46 : EnvOK Try.prog (Γ46 K64 G64 kL46_2 xL46_2) := env_ok mixed tab_ok eqs_ok (.cons sem64 .nil)
theorem is46 : FnIs Try.prog 46 (Γ46 K64 G64 kL46_2 xL46_2) (bodyOf Try.f46) := fnIs Try.func46 rfl rfl rfl (by kernel_rfl) (loops_ok (l := [lc46_2]) (by kernel_rfl) (.cons (one_loop rfl (loopX_sound (sh := sh46_2) (shX := shX46_2) (fun f v => evl46_2 K64 G64 kL46_2 xL46_2 f v) b46_2 ((0, ()), ([], ())))) (.nil)))
theorem sem46 : SemOK Try.prog (46, sgMean true I46 O46 K46 G46) := sg_opt env46 is46 true fun x => ev46 K64 G64 kL46_2 xL46_2 x

/- "loop.example/g03321/laws.markMomentS" mode S true -/
abbrev I47 : Sg := ⟨[.own (S25) 0, .val (.int .i64)], [.arr (S25)]⟩
abbrev O47 : Sg := ⟨[.val (.int .i64)], [.arr (S25)]⟩
abbrev V47_2 : Type := ((Unit × (Int × (Int × Unit))) × ((List (Den (S25))) × Unit))
def sh47_2 : ShS := ⟨[(0, .one (.ref (S25) 0)), (1, .one (.int .i64)), (5, .one (.int .i64))], [(0, .arr (S25))], 1, 1⟩
abbrev X47_2 : Type := ((Int × Unit) × ((List (Den (S25))) × Unit))
def shX47_2 : ShS := ⟨[(1, .one (.int .i64))], [(0, .arr (S25))], 1, 1⟩
noncomputable def Γ47 (kl2 : V47_2 → Bool) (xl2 : V47_2 → X47_2) : Env := mkEnv tab eqs [] 28 [.tmp 4] [] [] [(2, loopX [0, 1, 5] [] 0 [1] [] sh47_2 shX47_2 kl2 xl2)] [] []
noncomputable def lc47_2 : Code := (loopsOf (bodyOf Try.f47)).getD 0 .skip
def q47_2 (f : V47_2 → Option (X47_2)) (v : V47_2) : Option (X47_2) :=
  bif (decide (v.fst.snd.snd.fst < (↑(List.length v.snd.fst) : Int))) then
    bif (decide (0 ≤ v.fst.snd.snd.fst) && decide (v.fst.snd.snd.fst < (↑(List.length v.snd.fst) : Int))) then
      let v0 := (List.getD v.snd.fst (Int.toNat v.fst.snd.snd.fst) (zero S25))
      let v1 := (List.set v.snd.fst (Int.toNat v.fst.snd.snd.fst) (FloatKind.nearest FloatKind.f32 v.fst.snd.fst, v0.snd.fst, ()))
      bif (decide (0 ≤ v.fst.snd.snd.fst) && decide (v.fst.snd.snd.fst < (↑(List.length v1) : Int))) then
        let v2 := (IntKind.wrap IntKind.i64 (v.fst.snd.fst + 1))
        let v3 := (IntKind.wrap IntKind.i64 (v2 + 1))
        let v4 := (IntKind.wrap IntKind.i64 (v.fst.snd.snd.fst + 1))
        let v5 := (List.getD v1 (Int.toNat v.fst.snd.snd.fst) (zero S25))
        let v6 := (List.set v1 (Int.toNat v.fst.snd.snd.fst) (v5.fst, v2, ()))
        f (((), ((v3), ((v4), ()))), ((v6), ()))
      else
        none
    else
      none
  else
    some (((v.fst.snd.1), ()), ((v.snd.1), ()))
theorem evl47_2 (kl2 : V47_2 → Bool) (xl2 : V47_2 → X47_2) (f : V47_2 → Option (X47_2)) (v : V47_2) : EBk (Γ47 kl2 xl2) lc47_2 (roundK [0, 1, 5] [] 0 [1] [] (atS sh47_2 f) (endX shX47_2)) (mkS sh47_2 v) = q47_2 f v := by kernel_rfl
def b47_2 (v : V47_2) : Nat := v.1.2.1.natAbs + v.1.2.2.1.natAbs + v.2.1.length + 1000
def l47_2 (v : V47_2) : Option (X47_2) := iter (q47_2) (b47_2 v) v
def kL47_2 (v : V47_2) : Bool := (l47_2 v).isSome
def xL47_2 (v : V47_2) : X47_2 := (l47_2 v).getD ((0, ()), ([], ()))
def r47 (kl2 : V47_2 → Bool) (xl2 : V47_2 → X47_2) (x : I47.den) : Option (O47.den) :=
  let v0 := (kl2 (((), x.fst.snd.fst, 0, ()), x.snd.fst, ()))
  bif (v0) then
    let v1 := (xl2 (((), x.fst.snd.fst, 0, ()), x.snd.fst, ()))
    some (((v1.fst.1), ()), ((v1.snd.1), ()))
  else
    none
theorem ev47 (kl2 : V47_2 → Bool) (xl2 : V47_2 → X47_2) (x : I47.den) : callS (Γ47 kl2 xl2) (bodyOf Try.f47) I47 O47 x = r47 kl2 xl2 x := by kernel_rfl
def F47 (x : I47.den) : Option (O47.den) := r47 kL47_2 xL47_2 x
def K47 (x : I47.den) : Bool := (F47 x).isSome
def G47 (x : I47.den) : O47.den := (F47 x).getD (zeroSg O47)
theorem env47 : EnvOK Try.prog (Γ47 kL47_2 xL47_2) := env_ok mixed tab_ok eqs_ok .nil
theorem is47 : FnIs Try.prog 47 (Γ47 kL47_2 xL47_2) (bodyOf Try.f47) := fnIs Try.func47 rfl rfl rfl (by kernel_rfl) (loops_ok (l := [lc47_2]) (by kernel_rfl) (.cons (one_loop rfl (loopX_sound (sh := sh47_2) (shX := shX47_2) (fun f v => evl47_2 kL47_2 xL47_2 f v) b47_2 ((0, ()), ([], ())))) (.nil)))
theorem sem47 : SemOK Try.prog (47, sgMean true I47 O47 K47 G47) := sg_opt env47 is47 true fun x => ev47 kL47_2 xL47_2 x

/- "loop.example/g03321/laws.markIntS" mode S true -/
abbrev I48 : Sg := ⟨[.own (.int .i64) 0, .val (.int .i64)], [.arr (.int .i64)]⟩
abbrev O48 : Sg := ⟨[.val (.int .i64)], [.arr (.int .i64)]⟩
abbrev V48_2 : Type := ((Unit × (Int × (Int × Unit))) × ((List (Den (.int .i64))) × Unit))
def sh48_2 : ShS := ⟨[(0, .one (.ref (.int .i64) 0)), (1, .one (.int .i64)), (5, .one (.int .i64))], [(0, .arr (.int .i64))], 1, 1⟩
abbrev X48_2 : Type := ((Int × Unit) × ((List (Den (.int .i64))) × Unit))
def shX48_2 : ShS := ⟨[(1, .one (.int .i64))], [(0, .arr (.int .i64))], 1, 1⟩
noncomputable def Γ48 (kl2 : V48_2 → Bool) (xl2 : V48_2 → X48_2) : Env := mkEnv tab eqs [] 19 [.tmp 4] [] [] [(2, loopX [0, 1, 5] [] 0 [1] [] sh48_2 shX48_2 kl2 xl2)] [] []
noncomputable def lc48_2 : Code := (loopsOf (bodyOf Try.f48)).getD 0 .skip
def q48_2 (f : V48_2 → Option (X48_2)) (v : V48_2) : Option (X48_2) :=
  bif (decide (v.fst.snd.snd.fst < (↑(List.length v.snd.fst) : Int))) then
    bif (decide (0 ≤ v.fst.snd.snd.fst) && decide (v.fst.snd.snd.fst < (↑(List.length v.snd.fst) : Int))) then
      let v0 := (IntKind.wrap IntKind.i64 (v.fst.snd.fst + 1))
      let v1 := (IntKind.wrap IntKind.i64 (v.fst.snd.snd.fst + 1))
      let v2 := (List.set v.snd.fst (Int.toNat v.fst.snd.snd.fst) v.fst.snd.fst)
      f (((), ((v0), ((v1), ()))), ((v2), ()))
    else
      none
  else
    some (((v.fst.snd.1), ()), ((v.snd.1), ()))
theorem evl48_2 (kl2 : V48_2 → Bool) (xl2 : V48_2 → X48_2) (f : V48_2 → Option (X48_2)) (v : V48_2) : EBk (Γ48 kl2 xl2) lc48_2 (roundK [0, 1, 5] [] 0 [1] [] (atS sh48_2 f) (endX shX48_2)) (mkS sh48_2 v) = q48_2 f v := by kernel_rfl
def b48_2 (v : V48_2) : Nat := v.1.2.1.natAbs + v.1.2.2.1.natAbs + v.2.1.length + 1000
def l48_2 (v : V48_2) : Option (X48_2) := iter (q48_2) (b48_2 v) v
def kL48_2 (v : V48_2) : Bool := (l48_2 v).isSome
def xL48_2 (v : V48_2) : X48_2 := (l48_2 v).getD ((0, ()), ([], ()))
def r48 (kl2 : V48_2 → Bool) (xl2 : V48_2 → X48_2) (x : I48.den) : Option (O48.den) :=
  let v0 := (kl2 (((), x.fst.snd.fst, 0, ()), x.snd.fst, ()))
  bif (v0) then
    let v1 := (xl2 (((), x.fst.snd.fst, 0, ()), x.snd.fst, ()))
    some (((v1.fst.1), ()), ((v1.snd.1), ()))
  else
    none
theorem ev48 (kl2 : V48_2 → Bool) (xl2 : V48_2 → X48_2) (x : I48.den) : callS (Γ48 kl2 xl2) (bodyOf Try.f48) I48 O48 x = r48 kl2 xl2 x := by kernel_rfl
def F48 (x : I48.den) : Option (O48.den) := r48 kL48_2 xL48_2 x
def K48 (x : I48.den) : Bool := (F48 x).isSome
def G48 (x : I48.den) : O48.den := (F48 x).getD (zeroSg O48)
theorem env48 : EnvOK Try.prog (Γ48 kL48_2 xL48_2) := env_ok mixed tab_ok eqs_ok .nil
theorem is48 : FnIs Try.prog 48 (Γ48 kL48_2 xL48_2) (bodyOf Try.f48) := fnIs Try.func48 rfl rfl rfl (by kernel_rfl) (loops_ok (l := [lc48_2]) (by kernel_rfl) (.cons (one_loop rfl (loopX_sound (sh := sh48_2) (shX := shX48_2) (fun f v => evl48_2 kL48_2 xL48_2 f v) b48_2 ((0, ()), ([], ())))) (.nil)))
theorem sem48 : SemOK Try.prog (48, sgMean true I48 O48 K48 G48) := sg_opt env48 is48 true fun x => ev48 kL48_2 xL48_2 x

/- "loop.example/g03321/laws.heldIntS" -/
abbrev A49 : Ty := .cons (.slice (.int .i64)) (.cons (.int .i64) (.nil))
abbrev R49 : Ty := .cons (.int .i64) (.nil)
abbrev V49_2 : Type := (((List (Den (.int .i64))) × (Int × (Int × Unit))) × Unit)
def sh49_2 : ShS := ⟨[(0, .one (.sl (.int .i64))), (1, .one (.int .i64)), (5, .one (.int .i64))], [], 0, 0⟩
abbrev X49_2 : Type := ((Int × Unit) × Unit)
def shX49_2 : ShS := ⟨[(1, .one (.int .i64))], [], 0, 0⟩
abbrev Y49_2 : Type := ((Int × Unit) × Unit)
def shY49_2 : ShS := ⟨[(4, .one (.int .i64))], [], 0, 0⟩
noncomputable def Γ49 (kl2 : V49_2 → Bool) (xl2 : V49_2 → X49_2) (tl2 : V49_2 → Bool) (yl2 : V49_2 → Y49_2) : Env := mkEnv tab eqs [] 21 [.tmp 4] [] [] [(2, loopR [0, 1, 5] [] 0 [1] [] sh49_2 shX49_2 shY49_2 kl2 tl2 xl2 yl2)] [] []
noncomputable def lc49_2 : Code := (loopsOf (bodyOf Try.f49)).getD 0 .skip
def q49_2 (f : V49_2 → Option (X49_2 ⊕ Y49_2)) (v : V49_2) : Option (X49_2 ⊕ Y49_2) :=
  bif (decide (v.fst.snd.snd.fst < (↑(List.length v.fst.fst) : Int))) then
    bif (decide (0 ≤ v.fst.snd.snd.fst) && decide (v.fst.snd.snd.fst < (↑(List.length v.fst.fst) : Int))) then
      let v0 := (List.getD v.fst.fst (Int.toNat v.fst.snd.snd.fst) (zero (Ty.int IntKind.i64)))
      bif (v0 != v.fst.snd.fst) then
        some (Sum.inr (((-1), ()), ()))
      else
        let v1 := (IntKind.wrap IntKind.i64 (v.fst.snd.fst + 1))
        let v2 := (IntKind.wrap IntKind.i64 (v.fst.snd.snd.fst + 1))
        f (((v.fst.1), ((v1), ((v2), ()))), ())
    else
      none
  else
    some (Sum.inl (((v.fst.snd.1), ()), ()))
theorem evl49_2 (kl2 : V49_2 → Bool) (xl2 : V49_2 → X49_2) (tl2 : V49_2 → Bool) (yl2 : V49_2 → Y49_2) (f : V49_2 → Option (X49_2 ⊕ Y49_2)) (v : V49_2) : EBk (Γ49 kl2 xl2 tl2 yl2) lc49_2 (roundK [0, 1, 5] [] 0 [1] [] (atS sh49_2 f) (endS shX49_2 shY49_2)) (mkS sh49_2 v) = q49_2 f v := by kernel_rfl
def b49_2 (v : V49_2) : Nat := v.1.1.length + v.1.2.1.natAbs + v.1.2.2.1.natAbs + 1000
def l49_2 (v : V49_2) : Option (X49_2 ⊕ Y49_2) := iter (q49_2) (b49_2 v) v
def kL49_2 (v : V49_2) : Bool := (l49_2 v).isSome
def tL49_2 (v : V49_2) : Bool := isR (l49_2 v)
def xL49_2 (v : V49_2) : X49_2 := xOf ((0, ()), ()) (l49_2 v)
def yL49_2 (v : V49_2) : Y49_2 := yOf ((0, ()), ()) (l49_2 v)
def r49 (kl2 : V49_2 → Bool) (xl2 : V49_2 → X49_2) (tl2 : V49_2 → Bool) (yl2 : V49_2 → Y49_2) (x : Den A49) : Option (Den R49) :=
  let v0 := (kl2 ((x.fst, x.snd.fst, 0, ()), ()))
  bif (v0) then
    let v1 := (tl2 ((x.fst, x.snd.fst, 0, ()), ()))
    bif (v1) then
      let v2 := (yl2 ((x.fst, x.snd.fst, 0, ()), ()))
      some ((v2.fst.1), ())
    else
      let v2 := (xl2 ((x.fst, x.snd.fst, 0, ()), ()))
      some ((v2.fst.1), ())
  else
    none
theorem ev49 (kl2 : V49_2 → Bool) (xl2 : V49_2 → X49_2) (tl2 : V49_2 → Bool) (yl2 : V49_2 → Y49_2) (x : Den A49) : callK (Γ49 kl2 xl2 tl2 yl2) (bodyOf Try.f49) (decR R49) (encA A49 x) [] = r49 kl2 xl2 tl2 yl2 x := by kernel_rfl
def F49 (x : Den A49) : Option (Den R49) := r49 kL49_2 xL49_2 tL49_2 yL49_2 x
def K49 (x : Den A49) : Bool := (F49 x).isSome
def G49 (x : Den A49) : Den R49 := (F49 x).getD (zero R49)
theorem env49 : EnvOK Try.prog (Γ49 kL49_2 xL49_2 tL49_2 yL49_2) := env_ok mixed tab_ok eqs_ok .nil
theorem is49 : FnIs Try.prog 49 (Γ49 kL49_2 xL49_2 tL49_2 yL49_2) (bodyOf Try.f49) := fnIs Try.func49 rfl rfl rfl (by kernel_rfl) (loops_ok (l := [lc49_2]) (by kernel_rfl) (.cons (one_loop rfl (loopR_sound (sh := sh49_2) (shX := shX49_2) (shR := shY49_2) (fun f v => evl49_2 kL49_2 xL49_2 tL49_2 yL49_2 f v) b49_2 ((0, ()), ()) ((0, ()), ()))) (.nil)))
theorem sem49 : SemOK Try.prog (49, fnMean A49 R49 K49 G49) := fn_opt env49 is49 fun x => ev49 kL49_2 xL49_2 tL49_2 yL49_2 x

/- "loop.example/g03321/laws.FnExactFewestChanges" -/
abbrev A12 : Ty := .cons (.slice (S23)) (.cons (.slice (S25)) (.nil))
abbrev R12 : Ty := .cons (.bool) (.nil)
noncomputable def Γ12 (k26 : Den A26 → Bool) (g26 : Den A26 → Den R26) (k37 : Den A37 → Bool) (g37 : Den A37 → Den R37) (k28 : I28.den → Bool) (g28 : I28.den → O28.den) (k39 : I39.den → Bool) (g39 : I39.den → O39.den) (k44 : I44.den → Bool) (g44 : I44.den → O44.den) (k45 : I45.den → Bool) (g45 : I45.den → O45.den) (k23 : Den A23 → Bool) (g23 : Den A23 → Den R23) (k30 : Den A30 → Bool) (g30 : Den A30 → Den R30) (k41 : Den A41 → Bool) (g41 : Den A41 → Den R41) (k46 : I46.den → Bool) (g46 : I46.den → O46.den) (k47 : I47.den → Bool) (g47 : I47.den → O47.den) (k48 : I48.den → Bool) (g48 : I48.den → O48.den) (k49 : Den A49 → Bool) (g49 : Den A49 → Den R49) : Env := mkEnv tab eqs [(26, fnMean A26 R26 k26 g26), (37, fnMean A37 R37 k37 g37), (28, sgMean false I28 O28 k28 g28), (39, sgMean false I39 O39 k39 g39), (44, sgMean false I44 O44 k44 g44), (45, sgMean false I45 O45 k45 g45), (23, fnMean A23 R23 k23 g23), (30, fnMean A30 R30 k30 g30), (41, fnMean A41 R41 k41 g41), (46, sgMean true I46 O46 k46 g46), (47, sgMean true I47 O47 k47 g47), (48, sgMean true I48 O48 k48 g48), (49, fnMean A49 R49 k49 g49)] 119 [.tmp 4] [] [] [] [] []
def r12 (k26 : Den A26 → Bool) (g26 : Den A26 → Den R26) (k37 : Den A37 → Bool) (g37 : Den A37 → Den R37) (k28 : I28.den → Bool) (g28 : I28.den → O28.den) (k39 : I39.den → Bool) (g39 : I39.den → O39.den) (k44 : I44.den → Bool) (g44 : I44.den → O44.den) (k45 : I45.den → Bool) (g45 : I45.den → O45.den) (k23 : Den A23 → Bool) (g23 : Den A23 → Den R23) (k30 : Den A30 → Bool) (g30 : Den A30 → Den R30) (k41 : Den A41 → Bool) (g41 : Den A41 → Den R41) (k46 : I46.den → Bool) (g46 : I46.den → O46.den) (k47 : I47.den → Bool) (g47 : I47.den → O47.den) (k48 : I48.den → Bool) (g48 : I48.den → O48.den) (k49 : Den A49 → Bool) (g49 : Den A49 → Den R49) (x : Den A12) : Option (Den R12) :=
  let v0 := (k26 (x.fst, 1048576, ()))
  bif (v0) then
    let v1 := (g26 (x.fst, 1048576, ()))
    bif (decide (v1.fst < 0)) then
      some ((true), ())
    else
      let v2 := (k37 (x.snd.fst, v1.fst, ()))
      bif (v2) then
        let v3 := (g37 (x.snd.fst, v1.fst, ()))
        bif (decide (v3.fst < 0)) then
          some ((true), ())
        else
          let v4 := (k28 ((x.fst, ()), ()))
          bif (v4) then
            let v5 := (k39 ((x.snd.fst, ()), ()))
            bif (v5) then
              let v6 := (g28 ((x.fst, ()), ()))
              let v7 := (g39 ((x.snd.fst, ()), ()))
              let v8 := (k44 ((v6.snd.fst, v7.snd.fst, ()), ()))
              bif (v8) then
                bif (v4) then
                  bif (v5) then
                    let v9 := (k45 ((v6.snd.fst, v7.snd.fst, ()), ()))
                    bif (v9) then
                      let v10 := (g45 ((v6.snd.fst, v7.snd.fst, ()), ()))
                      let v11 := (g44 ((v6.snd.fst, v7.snd.fst, ()), ()))
                      let v12 := (k23 (v10.snd.fst, v11.snd.fst, ()))
                      bif (v12) then
                        let v13 := (g23 (v10.snd.fst, v11.snd.fst, ()))
                        bif (!v13.fst) then
                          some ((false), ())
                        else
                          bif (!v10.fst.snd.fst == v11.fst.snd.fst) then
                            some ((false), ())
                          else
                            bif (v4) then
                              let v14 := (k30 (v6.snd.fst, v6.snd.fst, ()))
                              bif (v14) then
                                let v15 := (g30 (v6.snd.fst, v6.snd.fst, ()))
                                bif (!v15.fst) then
                                  some ((false), ())
                                else
                                  bif (v5) then
                                    let v16 := (k41 (v7.snd.fst, v7.snd.fst, ()))
                                    bif (v16) then
                                      let v17 := (g41 (v7.snd.fst, v7.snd.fst, ()))
                                      bif (!v17.fst) then
                                        some ((false), ())
                                      else
                                        let v18 := (k46 (((), 1, ()), v6.snd.fst, ()))
                                        bif (v18) then
                                          let v19 := (g46 (((), 1, ()), v6.snd.fst, ()))
                                          let v20 := (k47 (((), v19.fst.fst, ()), v7.snd.fst, ()))
                                          bif (v20) then
                                            let v21 := (g47 (((), v19.fst.fst, ()), v7.snd.fst, ()))
                                            bif (decide (v21.fst.fst < 0)) then
                                              some ((false), ())
                                            else
                                              bif (v12) then
                                                bif (!v13.fst) then
                                                  some ((false), ())
                                                else
                                                  bif (!v10.fst.snd.fst == v11.fst.snd.fst) then
                                                    some ((false), ())
                                                  else
                                                    let v22 := (k48 (((), 1, ()), v10.snd.fst, ()))
                                                    bif (v22) then
                                                      let v23 := (g48 (((), 1, ()), v10.snd.fst, ()))
                                                      let v24 := (k49 (v23.snd.fst, 1, ()))
                                                      bif (v24) then
                                                        let v25 := (g49 (v23.snd.fst, 1, ()))
                                                        bif (decide (v25.fst < 0)) then
                                                          some ((false), ())
                                                        else
                                                          bif (v25.fst != v23.fst.fst) then
                                                            some ((false), ())
                                                          else
                                                            bif (v4) then
                                                              bif (v5) then
                                                                bif (v9) then
                                                                  bif (v12) then
                                                                    bif (!v13.fst) then
                                                                      some ((false), ())
                                                                    else
                                                                      bif (!v10.fst.snd.fst == v11.fst.snd.fst) then
                                                                        some ((false), ())
                                                                      else
                                                                        bif (v24) then
                                                                          bif (decide (v25.fst < 0)) then
                                                                            some ((false), ())
                                                                          else
                                                                            bif (v25.fst != v23.fst.fst) then
                                                                              some ((false), ())
                                                                            else
                                                                              some ((true), ())
                                                                        else
                                                                          none
                                                                  else
                                                                    none
                                                                else
                                                                  none
                                                              else
                                                                none
                                                            else
                                                              none
                                                      else
                                                        none
                                                    else
                                                      none
                                              else
                                                none
                                          else
                                            none
                                        else
                                          none
                                    else
                                      none
                                  else
                                    none
                              else
                                none
                            else
                              none
                      else
                        none
                    else
                      none
                  else
                    none
                else
                  none
              else
                none
            else
              none
          else
            none
      else
        none
  else
    none
theorem ev12 (k26 : Den A26 → Bool) (g26 : Den A26 → Den R26) (k37 : Den A37 → Bool) (g37 : Den A37 → Den R37) (k28 : I28.den → Bool) (g28 : I28.den → O28.den) (k39 : I39.den → Bool) (g39 : I39.den → O39.den) (k44 : I44.den → Bool) (g44 : I44.den → O44.den) (k45 : I45.den → Bool) (g45 : I45.den → O45.den) (k23 : Den A23 → Bool) (g23 : Den A23 → Den R23) (k30 : Den A30 → Bool) (g30 : Den A30 → Den R30) (k41 : Den A41 → Bool) (g41 : Den A41 → Den R41) (k46 : I46.den → Bool) (g46 : I46.den → O46.den) (k47 : I47.den → Bool) (g47 : I47.den → O47.den) (k48 : I48.den → Bool) (g48 : I48.den → O48.den) (k49 : Den A49 → Bool) (g49 : Den A49 → Den R49) (x : Den A12) : callK (Γ12 k26 g26 k37 g37 k28 g28 k39 g39 k44 g44 k45 g45 k23 g23 k30 g30 k41 g41 k46 g46 k47 g47 k48 g48 k49 g49) (bodyOf Try.f12) (decR R12) (encA A12 x) [] = r12 k26 g26 k37 g37 k28 g28 k39 g39 k44 g44 k45 g45 k23 g23 k30 g30 k41 g41 k46 g46 k47 g47 k48 g48 k49 g49 x := by kernel_rfl
def F12 (x : Den A12) : Option (Den R12) := r12 K26 G26 K37 G37 K28 G28 K39 G39 K44 G44 K45 G45 K23 G23 K30 G30 K41 G41 K46 G46 K47 G47 K48 G48 K49 G49 x
def K12 (x : Den A12) : Bool := (F12 x).isSome
def G12 (x : Den A12) : Den R12 := (F12 x).getD (zero R12)
theorem env12 : EnvOK Try.prog (Γ12 K26 G26 K37 G37 K28 G28 K39 G39 K44 G44 K45 G45 K23 G23 K30 G30 K41 G41 K46 G46 K47 G47 K48 G48 K49 G49) := env_ok mixed tab_ok eqs_ok (.cons sem26 (.cons sem37 (.cons sem28 (.cons sem39 (.cons sem44 (.cons sem45 (.cons sem23 (.cons sem30 (.cons sem41 (.cons sem46 (.cons sem47 (.cons sem48 (.cons sem49 .nil)))))))))))))
theorem is12 : FnIs Try.prog 12 (Γ12 K26 G26 K37 G37 K28 G28 K39 G39 K44 G44 K45 G45 K23 G23 K30 G30 K41 G41 K46 G46 K47 G47 K48 G48 K49 G49) (bodyOf Try.f12) := fnIs Try.func12 rfl rfl rfl (by kernel_rfl) (noLoops (by kernel_rfl))
theorem sem12 : SemOK Try.prog (12, fnMean A12 R12 K12 G12) := fn_opt env12 is12 fun x => ev12 K26 G26 K37 G37 K28 G28 K39 G39 K44 G44 K45 G45 K23 G23 K30 G30 K41 G41 K46 G46 K47 G47 K48 G48 K49 G49 x

/- "loop.example/g03321/spec.RunSails" mode S false -/
abbrev I50 : Sg := ⟨[.val (.slice (S23)), .val (.int .i64), .val (.slice (S25))], []⟩
abbrev O50 : Sg := ⟨[.own (.int .i64) 0], [.arr (.int .i64)]⟩
abbrev V50_5 : Type := (((List (Den (S23))) × (Int × ((List (Den (S25))) × (Unit × (Int × Unit))))) × ((List (Den (.int .i64))) × Unit))
def sh50_5 : ShS := ⟨[(0, .one (.sl (S23))), (1, .one (.int .i64)), (2, .one (.sl (S25))), (7, .one (.ref (.int .i64) 0)), (8, .one (.int .i64))], [(0, .arr (.int .i64))], 1, 0⟩
abbrev X50_5 : Type := ((Unit × Unit) × ((List (Den (.int .i64))) × Unit))
def shX50_5 : ShS := ⟨[(7, .one (.ref (.int .i64) 0))], [(0, .arr (.int .i64))], 1, 0⟩
noncomputable def Γ50 (k27 : Den A27 → Bool) (g27 : Den A27 → Den R27) (k35 : Den A35 → Bool) (g35 : Den A35 → Den R35) (kl5 : V50_5 → Bool) (xl5 : V50_5 → X50_5) : Env := mkEnv tab eqs [(27, fnMean A27 R27 k27 g27), (35, fnMean A35 R35 k35 g35)] 37 [.tmp 6] [] [] [(5, loopX [0, 1, 2, 7, 8] [] 0 [7] [] sh50_5 shX50_5 kl5 xl5)] [] []
noncomputable def lc50_5 : Code := (loopsOf (bodyOf Try.f50)).getD 0 .skip
def q50_5 (k27 : Den A27 → Bool) (g27 : Den A27 → Den R27) (k35 : Den A35 → Bool) (g35 : Den A35 → Den R35) (f : V50_5 → Option (X50_5)) (v : V50_5) : Option (X50_5) :=
  bif (decide (v.fst.snd.snd.snd.snd.fst < (↑(List.length v.fst.snd.snd.fst) : Int))) then
    bif (decide (0 ≤ v.fst.snd.snd.snd.snd.fst) && decide (v.fst.snd.snd.snd.snd.fst < (↑(List.length v.fst.snd.snd.fst) : Int))) then
      let v0 := (List.getD v.fst.snd.snd.fst (Int.toNat v.fst.snd.snd.snd.snd.fst) (zero S25))
      let v1 := (k35 (v.fst.fst, v.fst.snd.fst, (v0.fst, v0.snd.fst, ()), ()))
      bif (v1) then
        let v2 := (g35 (v.fst.fst, v.fst.snd.fst, (v0.fst, v0.snd.fst, ()), ()))
        let v3 := (List.set (List.replicate 1 (zero (Ty.int IntKind.i64))) 0 v2.fst)
        bif (capOk (List.length v.snd.fst + List.length v3)) then
          let v4 := (IntKind.wrap IntKind.i64 (v.fst.snd.snd.snd.snd.fst + 1))
          let v5 := (v.snd.fst ++ v3)
          f (((v.fst.1), ((v2.1), ((v.fst.snd.snd.1), ((), ((v4), ()))))), ((v5), ()))
        else
          none
      else
        none
    else
      none
  else
    some (((), ()), ((v.snd.1), ()))
theorem evl50_5 (k27 : Den A27 → Bool) (g27 : Den A27 → Den R27) (k35 : Den A35 → Bool) (g35 : Den A35 → Den R35) (kl5 : V50_5 → Bool) (xl5 : V50_5 → X50_5) (f : V50_5 → Option (X50_5)) (v : V50_5) : EBk (Γ50 k27 g27 k35 g35 kl5 xl5) lc50_5 (roundK [0, 1, 2, 7, 8] [] 0 [7] [] (atS sh50_5 f) (endX shX50_5)) (mkS sh50_5 v) = q50_5 k27 g27 k35 g35 f v := by kernel_rfl
def b50_5 (v : V50_5) : Nat := v.1.1.length + v.1.2.1.natAbs + v.1.2.2.1.length + v.1.2.2.2.2.1.natAbs + v.2.1.length + 1000
def l50_5 (v : V50_5) : Option (X50_5) := iter (q50_5 K27 G27 K35 G35) (b50_5 v) v
def kL50_5 (v : V50_5) : Bool := (l50_5 v).isSome
def xL50_5 (v : V50_5) : X50_5 := (l50_5 v).getD (((), ()), ([], ()))
def r50 (k27 : Den A27 → Bool) (g27 : Den A27 → Den R27) (k35 : Den A35 → Bool) (g35 : Den A35 → Den R35) (kl5 : V50_5 → Bool) (xl5 : V50_5 → X50_5) (x : I50.den) : Option (O50.den) :=
  let v0 := (k27 (x.fst.fst, ()))
  bif (v0) then
    let v1 := (g27 (x.fst.fst, ()))
    bif (!v1.fst) then
      some (((), ()), ((List.replicate 0 (zero (Ty.int IntKind.i64))), ()))
    else
      bif (decide ((↑(List.length x.fst.snd.snd.fst) : Int) > 60)) then
        some (((), ()), ((List.replicate 0 (zero (Ty.int IntKind.i64))), ()))
      else
        let v2 := (kl5 ((x.fst.fst, x.fst.snd.fst, x.fst.snd.snd.fst, (), 0, ()), List.replicate 0 (zero (Ty.int IntKind.i64)), ()))
        bif (v2) then
          let v3 := (xl5 ((x.fst.fst, x.fst.snd.fst, x.fst.snd.snd.fst, (), 0, ()), List.replicate 0 (zero (Ty.int IntKind.i64)), ()))
          some (((), ()), ((v3.snd.1), ()))
        else
          none
  else
    none
theorem ev50 (k27 : Den A27 → Bool) (g27 : Den A27 → Den R27) (k35 : Den A35 → Bool) (g35 : Den A35 → Den R35) (kl5 : V50_5 → Bool) (xl5 : V50_5 → X50_5) (x : I50.den) : callS (Γ50 k27 g27 k35 g35 kl5 xl5) (bodyOf Try.f50) I50 O50 x = r50 k27 g27 k35 g35 kl5 xl5 x := by kernel_rfl
def F50 (x : I50.den) : Option (O50.den) := r50 K27 G27 K35 G35 kL50_5 xL50_5 x
def K50 (x : I50.den) : Bool := (F50 x).isSome
def G50 (x : I50.den) : O50.den := (F50 x).getD (zeroSg O50)
theorem env50 : EnvOK Try.prog (Γ50 K27 G27 K35 G35 kL50_5 xL50_5) := env_ok mixed tab_ok eqs_ok (.cons sem27 (.cons sem35 .nil))
theorem is50 : FnIs Try.prog 50 (Γ50 K27 G27 K35 G35 kL50_5 xL50_5) (bodyOf Try.f50) := fnIs Try.func50 rfl rfl rfl (by kernel_rfl) (loops_ok (l := [lc50_5]) (by kernel_rfl) (.cons (one_loop rfl (loopX_sound (sh := sh50_5) (shX := shX50_5) (fun f v => evl50_5 K27 G27 K35 G35 kL50_5 xL50_5 f v) b50_5 (((), ()), ([], ())))) (.nil)))
theorem sem50 : SemOK Try.prog (50, sgMean false I50 O50 K50 G50) := sg_opt env50 is50 false fun x => ev50 K27 G27 K35 G35 kL50_5 xL50_5 x

/- "loop.example/g03321/impl.RunSails" mode S false -/
abbrev I43 : Sg := ⟨[.val (.slice (S23)), .val (.int .i64), .val (.slice (S25))], []⟩
abbrev O43 : Sg := ⟨[.own (.int .i64) 0], [.arr (.int .i64)]⟩
abbrev V43_5 : Type := (((List (Den (S23))) × (Int × (Unit × ((List (Den (S25))) × (Int × (Int × Unit)))))) × ((List (Den (.int .i64))) × Unit))
def sh43_5 : ShS := ⟨[(0, .one (.sl (S23))), (1, .one (.int .i64)), (7, .one (.ref (.int .i64) 0)), (18, .one (.sl (S25))), (19, .one (.int .i64)), (20, .one (.int .i64))], [(0, .arr (.int .i64))], 1, 0⟩
abbrev X43_5 : Type := ((Unit × Unit) × ((List (Den (.int .i64))) × Unit))
def shX43_5 : ShS := ⟨[(7, .one (.ref (.int .i64) 0))], [(0, .arr (.int .i64))], 1, 0⟩
noncomputable def Γ43 (k29 : Den A29 → Bool) (g29 : Den A29 → Den R29) (k36 : Den A36 → Bool) (g36 : Den A36 → Den R36) (kl5 : V43_5 → Bool) (xl5 : V43_5 → X43_5) : Env := mkEnv tab eqs [(29, fnMean A29 R29 k29 g29), (36, fnMean A36 R36 k36 g36)] 34 [.tmp 6] [] [] [(5, loopX [0, 1, 7, 18, 19, 20] [.nil 7] 0 [7] [] sh43_5 shX43_5 kl5 xl5)] [] [.nil 6]
noncomputable def lc43_5 : Code := (loopsOf (bodyOf Try.f43)).getD 0 .skip
def q43_5 (k29 : Den A29 → Bool) (g29 : Den A29 → Den R29) (k36 : Den A36 → Bool) (g36 : Den A36 → Den R36) (f : V43_5 → Option (X43_5)) (v : V43_5) : Option (X43_5) :=
  bif (decide (v.fst.snd.snd.snd.snd.snd.fst < v.fst.snd.snd.snd.snd.fst)) then
    bif (decide (0 ≤ v.fst.snd.snd.snd.snd.snd.fst) && decide (v.fst.snd.snd.snd.snd.snd.fst < (↑(List.length v.fst.snd.snd.snd.fst) : Int))) then
      let v0 := (List.getD v.fst.snd.snd.snd.fst (Int.toNat v.fst.snd.snd.snd.snd.snd.fst) (zero S25))
      let v1 := (k36 (v.fst.fst, v.fst.snd.fst, (v0.fst, v0.snd.fst, ()), ()))
      bif (v1) then
        let v2 := (g36 (v.fst.fst, v.fst.snd.fst, (v0.fst, v0.snd.fst, ()), ()))
        let v3 := (List.set (List.replicate 1 (zero (Ty.int IntKind.i64))) 0 v2.fst)
        bif (capOk (List.length v.snd.fst + List.length v3)) then
          let v4 := (IntKind.wrap IntKind.i64 (v.fst.snd.snd.snd.snd.snd.fst + 1))
          let v5 := (v.snd.fst ++ v3)
          f (((v.fst.1), ((v2.1), ((), ((v.fst.snd.snd.snd.1), ((v.fst.snd.snd.snd.snd.1), ((v4), ())))))), ((v5), ()))
        else
          none
      else
        none
    else
      none
  else
    some (((), ()), ((v.snd.1), ()))
theorem evl43_5 (k29 : Den A29 → Bool) (g29 : Den A29 → Den R29) (k36 : Den A36 → Bool) (g36 : Den A36 → Den R36) (kl5 : V43_5 → Bool) (xl5 : V43_5 → X43_5) (f : V43_5 → Option (X43_5)) (v : V43_5) : EBk (Γ43 k29 g29 k36 g36 kl5 xl5) lc43_5 (roundK [0, 1, 7, 18, 19, 20] [.nil 7] 0 [7] [] (atS sh43_5 f) (endX shX43_5)) (mkS sh43_5 v) = q43_5 k29 g29 k36 g36 f v := by kernel_rfl
def b43_5 (v : V43_5) : Nat := v.1.1.length + v.1.2.1.natAbs + v.1.2.2.2.1.length + v.1.2.2.2.2.1.natAbs + v.1.2.2.2.2.2.1.natAbs + v.2.1.length + 1000
def l43_5 (v : V43_5) : Option (X43_5) := iter (q43_5 K29 G29 K36 G36) (b43_5 v) v
def kL43_5 (v : V43_5) : Bool := (l43_5 v).isSome
def xL43_5 (v : V43_5) : X43_5 := (l43_5 v).getD (((), ()), ([], ()))
def r43 (k29 : Den A29 → Bool) (g29 : Den A29 → Den R29) (k36 : Den A36 → Bool) (g36 : Den A36 → Den R36) (kl5 : V43_5 → Bool) (xl5 : V43_5 → X43_5) (x : I43.den) : Option (O43.den) :=
  let v0 := (k29 (x.fst.fst, ()))
  bif (v0) then
    let v1 := (g29 (x.fst.fst, ()))
    bif (!v1.fst) then
      some (((), ()), (([]), ()))
    else
      bif (decide ((↑(List.length x.fst.snd.snd.fst) : Int) > 60)) then
        some (((), ()), (([]), ()))
      else
        let v2 := (kl5 ((x.fst.fst, x.fst.snd.fst, (), x.fst.snd.snd.fst, (↑(List.length x.fst.snd.snd.fst) : Int), 0, ()), [], ()))
        bif (v2) then
          let v3 := (xl5 ((x.fst.fst, x.fst.snd.fst, (), x.fst.snd.snd.fst, (↑(List.length x.fst.snd.snd.fst) : Int), 0, ()), [], ()))
          some (((), ()), ((v3.snd.1), ()))
        else
          none
  else
    none
theorem ev43 (k29 : Den A29 → Bool) (g29 : Den A29 → Den R29) (k36 : Den A36 → Bool) (g36 : Den A36 → Den R36) (kl5 : V43_5 → Bool) (xl5 : V43_5 → X43_5) (x : I43.den) : callS (Γ43 k29 g29 k36 g36 kl5 xl5) (bodyOf Try.f43) I43 O43 x = r43 k29 g29 k36 g36 kl5 xl5 x := by kernel_rfl
def F43 (x : I43.den) : Option (O43.den) := r43 K29 G29 K36 G36 kL43_5 xL43_5 x
def K43 (x : I43.den) : Bool := (F43 x).isSome
def G43 (x : I43.den) : O43.den := (F43 x).getD (zeroSg O43)
theorem env43 : EnvOK Try.prog (Γ43 K29 G29 K36 G36 kL43_5 xL43_5) := env_ok mixed tab_ok eqs_ok (.cons sem29 (.cons sem36 .nil))
theorem is43 : FnIs Try.prog 43 (Γ43 K29 G29 K36 G36 kL43_5 xL43_5) (bodyOf Try.f43) := fnIs Try.func43 rfl rfl rfl (by kernel_rfl) (loops_ok (l := [lc43_5]) (by kernel_rfl) (.cons (one_loop rfl (loopX_sound (sh := sh43_5) (shX := shX43_5) (fun f v => evl43_5 K29 G29 K36 G36 kL43_5 xL43_5 f v) b43_5 (((), ()), ([], ())))) (.nil)))
theorem sem43 : SemOK Try.prog (43, sgMean false I43 O43 K43 G43) := sg_opt env43 is43 false fun x => ev43 K29 G29 K36 G36 kL43_5 xL43_5 x

/- "loop.example/g03321/laws.FnExactRunSails" -/
abbrev A13 : Ty := .cons (.slice (S23)) (.cons (.int .i64) (.cons (.slice (S25)) (.nil)))
abbrev R13 : Ty := .cons (.bool) (.nil)
noncomputable def Γ13 (k26 : Den A26 → Bool) (g26 : Den A26 → Den R26) (k37 : Den A37 → Bool) (g37 : Den A37 → Den R37) (k28 : I28.den → Bool) (g28 : I28.den → O28.den) (k39 : I39.den → Bool) (g39 : I39.den → O39.den) (k50 : I50.den → Bool) (g50 : I50.den → O50.den) (k43 : I43.den → Bool) (g43 : I43.den → O43.den) (k23 : Den A23 → Bool) (g23 : Den A23 → Den R23) (k30 : Den A30 → Bool) (g30 : Den A30 → Den R30) (k41 : Den A41 → Bool) (g41 : Den A41 → Den R41) (k46 : I46.den → Bool) (g46 : I46.den → O46.den) (k47 : I47.den → Bool) (g47 : I47.den → O47.den) (k48 : I48.den → Bool) (g48 : I48.den → O48.den) (k49 : Den A49 → Bool) (g49 : Den A49 → Den R49) : Env := mkEnv tab eqs [(26, fnMean A26 R26 k26 g26), (37, fnMean A37 R37 k37 g37), (28, sgMean false I28 O28 k28 g28), (39, sgMean false I39 O39 k39 g39), (50, sgMean false I50 O50 k50 g50), (43, sgMean false I43 O43 k43 g43), (23, fnMean A23 R23 k23 g23), (30, fnMean A30 R30 k30 g30), (41, fnMean A41 R41 k41 g41), (46, sgMean true I46 O46 k46 g46), (47, sgMean true I47 O47 k47 g47), (48, sgMean true I48 O48 k48 g48), (49, fnMean A49 R49 k49 g49)] 97 [.tmp 6] [] [] [] [] []
def r13 (k26 : Den A26 → Bool) (g26 : Den A26 → Den R26) (k37 : Den A37 → Bool) (g37 : Den A37 → Den R37) (k28 : I28.den → Bool) (g28 : I28.den → O28.den) (k39 : I39.den → Bool) (g39 : I39.den → O39.den) (k50 : I50.den → Bool) (g50 : I50.den → O50.den) (k43 : I43.den → Bool) (g43 : I43.den → O43.den) (k23 : Den A23 → Bool) (g23 : Den A23 → Den R23) (k30 : Den A30 → Bool) (g30 : Den A30 → Den R30) (k41 : Den A41 → Bool) (g41 : Den A41 → Den R41) (k46 : I46.den → Bool) (g46 : I46.den → O46.den) (k47 : I47.den → Bool) (g47 : I47.den → O47.den) (k48 : I48.den → Bool) (g48 : I48.den → O48.den) (k49 : Den A49 → Bool) (g49 : Den A49 → Den R49) (x : Den A13) : Option (Den R13) :=
  let v0 := (k26 (x.fst, 1048576, ()))
  bif (v0) then
    let v1 := (g26 (x.fst, 1048576, ()))
    bif (decide (v1.fst < 0)) then
      some ((true), ())
    else
      let v2 := (k37 (x.snd.snd.fst, v1.fst, ()))
      bif (v2) then
        let v3 := (g37 (x.snd.snd.fst, v1.fst, ()))
        bif (decide (v3.fst < 0)) then
          some ((true), ())
        else
          let v4 := (k28 ((x.fst, ()), ()))
          bif (v4) then
            let v5 := (k39 ((x.snd.snd.fst, ()), ()))
            bif (v5) then
              let v6 := (g28 ((x.fst, ()), ()))
              let v7 := (g39 ((x.snd.snd.fst, ()), ()))
              let v8 := (k50 ((v6.snd.fst, x.snd.fst, v7.snd.fst, ()), ()))
              bif (v8) then
                bif (v4) then
                  bif (v5) then
                    let v9 := (k43 ((v6.snd.fst, x.snd.fst, v7.snd.fst, ()), ()))
                    bif (v9) then
                      let v10 := (g43 ((v6.snd.fst, x.snd.fst, v7.snd.fst, ()), ()))
                      let v11 := (g50 ((v6.snd.fst, x.snd.fst, v7.snd.fst, ()), ()))
                      let v12 := (k23 (v10.snd.fst, v11.snd.fst, ()))
                      bif (v12) then
                        let v13 := (g23 (v10.snd.fst, v11.snd.fst, ()))
                        bif (!v13.fst) then
                          some ((false), ())
                        else
                          bif (v4) then
                            let v14 := (k30 (v6.snd.fst, v6.snd.fst, ()))
                            bif (v14) then
                              let v15 := (g30 (v6.snd.fst, v6.snd.fst, ()))
                              bif (!v15.fst) then
                                some ((false), ())
                              else
                                bif (v5) then
                                  let v16 := (k41 (v7.snd.fst, v7.snd.fst, ()))
                                  bif (v16) then
                                    let v17 := (g41 (v7.snd.fst, v7.snd.fst, ()))
                                    bif (!v17.fst) then
                                      some ((false), ())
                                    else
                                      let v18 := (k46 (((), 1, ()), v6.snd.fst, ()))
                                      bif (v18) then
                                        let v19 := (g46 (((), 1, ()), v6.snd.fst, ()))
                                        let v20 := (k47 (((), v19.fst.fst, ()), v7.snd.fst, ()))
                                        bif (v20) then
                                          let v21 := (g47 (((), v19.fst.fst, ()), v7.snd.fst, ()))
                                          bif (decide (v21.fst.fst < 0)) then
                                            some ((false), ())
                                          else
                                            bif (v12) then
                                              bif (!v13.fst) then
                                                some ((false), ())
                                              else
                                                let v22 := (k48 (((), 1, ()), v10.snd.fst, ()))
                                                bif (v22) then
                                                  let v23 := (g48 (((), 1, ()), v10.snd.fst, ()))
                                                  let v24 := (k49 (v23.snd.fst, 1, ()))
                                                  bif (v24) then
                                                    let v25 := (g49 (v23.snd.fst, 1, ()))
                                                    bif (decide (v25.fst < 0)) then
                                                      some ((false), ())
                                                    else
                                                      bif (v25.fst != v23.fst.fst) then
                                                        some ((false), ())
                                                      else
                                                        bif (v4) then
                                                          bif (v5) then
                                                            bif (v9) then
                                                              bif (v12) then
                                                                bif (!v13.fst) then
                                                                  some ((false), ())
                                                                else
                                                                  bif (v24) then
                                                                    bif (decide (v25.fst < 0)) then
                                                                      some ((false), ())
                                                                    else
                                                                      bif (v25.fst != v23.fst.fst) then
                                                                        some ((false), ())
                                                                      else
                                                                        some ((true), ())
                                                                  else
                                                                    none
                                                              else
                                                                none
                                                            else
                                                              none
                                                          else
                                                            none
                                                        else
                                                          none
                                                  else
                                                    none
                                                else
                                                  none
                                            else
                                              none
                                        else
                                          none
                                      else
                                        none
                                  else
                                    none
                                else
                                  none
                            else
                              none
                          else
                            none
                      else
                        none
                    else
                      none
                  else
                    none
                else
                  none
              else
                none
            else
              none
          else
            none
      else
        none
  else
    none
theorem ev13 (k26 : Den A26 → Bool) (g26 : Den A26 → Den R26) (k37 : Den A37 → Bool) (g37 : Den A37 → Den R37) (k28 : I28.den → Bool) (g28 : I28.den → O28.den) (k39 : I39.den → Bool) (g39 : I39.den → O39.den) (k50 : I50.den → Bool) (g50 : I50.den → O50.den) (k43 : I43.den → Bool) (g43 : I43.den → O43.den) (k23 : Den A23 → Bool) (g23 : Den A23 → Den R23) (k30 : Den A30 → Bool) (g30 : Den A30 → Den R30) (k41 : Den A41 → Bool) (g41 : Den A41 → Den R41) (k46 : I46.den → Bool) (g46 : I46.den → O46.den) (k47 : I47.den → Bool) (g47 : I47.den → O47.den) (k48 : I48.den → Bool) (g48 : I48.den → O48.den) (k49 : Den A49 → Bool) (g49 : Den A49 → Den R49) (x : Den A13) : callK (Γ13 k26 g26 k37 g37 k28 g28 k39 g39 k50 g50 k43 g43 k23 g23 k30 g30 k41 g41 k46 g46 k47 g47 k48 g48 k49 g49) (bodyOf Try.f13) (decR R13) (encA A13 x) [] = r13 k26 g26 k37 g37 k28 g28 k39 g39 k50 g50 k43 g43 k23 g23 k30 g30 k41 g41 k46 g46 k47 g47 k48 g48 k49 g49 x := by kernel_rfl
def F13 (x : Den A13) : Option (Den R13) := r13 K26 G26 K37 G37 K28 G28 K39 G39 K50 G50 K43 G43 K23 G23 K30 G30 K41 G41 K46 G46 K47 G47 K48 G48 K49 G49 x
def K13 (x : Den A13) : Bool := (F13 x).isSome
def G13 (x : Den A13) : Den R13 := (F13 x).getD (zero R13)
theorem env13 : EnvOK Try.prog (Γ13 K26 G26 K37 G37 K28 G28 K39 G39 K50 G50 K43 G43 K23 G23 K30 G30 K41 G41 K46 G46 K47 G47 K48 G48 K49 G49) := env_ok mixed tab_ok eqs_ok (.cons sem26 (.cons sem37 (.cons sem28 (.cons sem39 (.cons sem50 (.cons sem43 (.cons sem23 (.cons sem30 (.cons sem41 (.cons sem46 (.cons sem47 (.cons sem48 (.cons sem49 .nil)))))))))))))
theorem is13 : FnIs Try.prog 13 (Γ13 K26 G26 K37 G37 K28 G28 K39 G39 K50 G50 K43 G43 K23 G23 K30 G30 K41 G41 K46 G46 K47 G47 K48 G48 K49 G49) (bodyOf Try.f13) := fnIs Try.func13 rfl rfl rfl (by kernel_rfl) (noLoops (by kernel_rfl))
theorem sem13 : SemOK Try.prog (13, fnMean A13 R13 K13 G13) := fn_opt env13 is13 fun x => ev13 K26 G26 K37 G37 K28 G28 K39 G39 K50 G50 K43 G43 K23 G23 K30 G30 K41 G41 K46 G46 K47 G47 K48 G48 K49 G49 x

end Go.Proofs.Ytbgkhcoeifbgkaa.AM
