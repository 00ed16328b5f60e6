/- Texts of one proof, joined: an abstract machine for the program, its functions evaluated, plain lemmas. Conditions: those that each lemma names. -/
import Derived.Test.YtmmdjajebmihhaaM2
import Derived.Test.YtmmdjajebmihhaaProg
import Derived.Test.YtmmdjajebmihhaaChecked
import Derived.Test.YtmmdjajebmihhaaM3

/- The types of the program that this seat proves about, as the abstract machine takes them; its functions' codes. Printed by gen.py. -/
namespace Go.Proofs.Ytmmdjajebmihhaa.AM
open Go Go.Proofs
set_option linter.unusedVariables false

abbrev S25 : Ty := .cons (.int .i64) (.cons (.int .i64) (.cons (.int .i64) (.cons (.slice (.slice (.cpx .f32))) (.nil))))
abbrev S53 : Ty := .cons (.int .i64) (.cons (.flt .f32) (.cons (.int .i64) (.nil)))
abbrev S96 : Ty := .cons (.cpx .f64) (.cons (.cons (.cpx .f32) (.cons (.cpx .f32) (.cons (.cpx .f32) (.cons (.cpx .f32) (.cons (.cpx .f32) (.cons (.cpx .f32) (.cons (.cpx .f32) (.cons (.cpx .f32) (.cons (.cpx .f32) (.cons (.cpx .f32) (.cons (.cpx .f32) (.cons (.cpx .f32) (.cons (.cpx .f32) (.nil)))))))))))))) (.nil))
abbrev S48 : Ty := .cons (.slice (S96)) (.cons (.slice (.int .i64)) (.nil))
abbrev S98 : Ty := .cons (.slice (.int .u8)) (.cons (.int .i64) (.cons (.int .i64) (.nil)))

def tab : List (Nat × TI) := [
  (2, ⟨1, 8, false, .int .i64, [.int .i64 0], [], 0, .int .i64⟩),
  (3, ⟨1, 8, false, .int .i64, [.int .i64 0], [], 0, .int .i64⟩),
  (4, ⟨1, 1, false, .bool, [.bool false], [], 0, .bool⟩),
  (5, ⟨1, 1, false, .int .u8, [.int .u8 0], [], 0, .int .u8⟩),
  (10, ⟨1, 16, false, .str, [.str ByteArray.empty], [], 0, .string⟩),
  (22, ⟨1, 24, false, .slice (.int .u8), [.nil (.int .u8)], [], 5, .slice⟩),
  (24, ⟨1, 24, false, .slice (.slice (.cpx .f32)), [.nil (.slice (.cpx .f32))], [], 37, .slice⟩),
  (26, ⟨4, 48, true, S25, [.int .i64 0, .int .i64 0, .int .i64 0, .nil (.slice (.cpx .f32))], [(0, 1, false), (1, 1, false), (2, 1, false), (3, 1, false)], 0, .struct⟩),
  (29, ⟨1, 16, false, .cpx .f64, [.cpx .f64 0 0], [], 0, .complex .f64⟩),
  (32, ⟨1, 8, false, .cpx .f32, [.cpx .f32 0 0], [], 0, .complex .f32⟩),
  (37, ⟨1, 24, false, .slice (.cpx .f32), [.nil (.cpx .f32)], [], 32, .slice⟩),
  (41, ⟨1, 8, false, .flt .f64, [.flt .f64 0], [], 0, .float .f64⟩),
  (45, ⟨1, 24, false, .slice (S53), [.nil (S53)], [], 54, .slice⟩),
  (46, ⟨1, 24, false, .slice (S96), [.nil (S96)], [], 97, .slice⟩),
  (47, ⟨1, 24, false, .slice (.int .i64), [.nil (.int .i64)], [], 3, .slice⟩),
  (49, ⟨2, 48, true, S48, [.nil (S96), .nil (.int .i64)], [(0, 1, false), (1, 1, false)], 0, .struct⟩),
  (52, ⟨1, 4, false, .flt .f32, [.flt .f32 0], [], 0, .float .f32⟩),
  (54, ⟨3, 24, true, S53, [.int .i64 0, .flt .f32 0, .int .i64 0], [(0, 1, false), (1, 1, false), (2, 1, false)], 0, .struct⟩),
  (95, ⟨13, 104, true, .cons (.cpx .f32) (.cons (.cpx .f32) (.cons (.cpx .f32) (.cons (.cpx .f32) (.cons (.cpx .f32) (.cons (.cpx .f32) (.cons (.cpx .f32) (.cons (.cpx .f32) (.cons (.cpx .f32) (.cons (.cpx .f32) (.cons (.cpx .f32) (.cons (.cpx .f32) (.cons (.cpx .f32) (.nil))))))))))))), [.cpx .f32 0 0, .cpx .f32 0 0, .cpx .f32 0 0, .cpx .f32 0 0, .cpx .f32 0 0, .cpx .f32 0 0, .cpx .f32 0 0, .cpx .f32 0 0, .cpx .f32 0 0, .cpx .f32 0 0, .cpx .f32 0 0, .cpx .f32 0 0, .cpx .f32 0 0], [], 32, .array 13⟩),
  (97, ⟨14, 120, true, S96, [.cpx .f64 0 0, .cpx .f32 0 0, .cpx .f32 0 0, .cpx .f32 0 0, .cpx .f32 0 0, .cpx .f32 0 0, .cpx .f32 0 0, .cpx .f32 0 0, .cpx .f32 0 0, .cpx .f32 0 0, .cpx .f32 0 0, .cpx .f32 0 0, .cpx .f32 0 0, .cpx .f32 0 0], [(0, 1, false), (1, 13, true)], 0, .struct⟩),
  (99, ⟨3, 40, true, S98, [.nil (.int .u8), .int .i64 0, .int .i64 0], [(0, 1, false), (1, 1, false), (2, 1, false)], 0, .struct⟩)]

def eqs : List Nat := []

theorem eqs_ok : AllP (EqOK Try.prog) eqs := eqsB_ok (by kernel_rfl)
theorem tab_ok : tabB Try.prog tab = true := by kernel_rfl
theorem mixed : Try.prog.follows .mixedOrders = true := Try.checked.mixed

def bodyOf (f : Func) : Code := match f.body with
  | some c => c
  | none => .skip

theorem fnIs {f : Nat} {fn : Func} {Γ : Env} (h : Try.prog.funcs[f]? = some fn) (hb : fn.body = some (bodyOf fn)) (hr : fn.results.toList = Γ.res) (hn : fn.ntmps = Γ.nt) (hname : (fn.name == "runtime.NumGoroutine") = false) (hl : LoopsOK Γ (bodyOf fn)) : FnIs Try.prog f Γ (bodyOf fn) :=
  ⟨hl, fn, h, hb, hr, hn, hname⟩

theorem noLoops {Γ : Env} {c : Code} (h : loopsOf c = []) : LoopsOK Γ c := fun c' hc => by rw [h] at hc; cases hc

end Go.Proofs.Ytmmdjajebmihhaa.AM

/- Plainly: math.Abs: the model answers a double's bits itself; what is made of them. Conditions: none. -/
namespace Go.Proofs.Ytmmdjajebmihhaa.AM
open Go Go.Proofs
set_option linter.unusedVariables false
set_option maxRecDepth 100000
set_option maxHeartbeats 0

theorem ext105 : ExtIs Try.prog 105 Extern.MathFloatBits.float64bits := ⟨_, Try.func105, rfl, rfl, by kernel_rfl, by kernel_rfl⟩
theorem ext104 : ExtIs Try.prog 104 Extern.MathFloatBits.float64frombits := ⟨_, Try.func104, rfl, rfl, by kernel_rfl, by kernel_rfl⟩
abbrev NaN64 : Type := { z : Nat // isNaN .f64 z = true }
theorem nan64 : Nonempty NaN64 := ⟨⟨qn .f64, isNaN_qn _⟩⟩

/- "math.Abs" -/
abbrev A79 : Ty := .cons (.flt .f64) (.nil)
abbrev R79 : Ty := .cons (.flt .f64) (.nil)
noncomputable def N79 : NEnv := mkN [(105, extFam (.cons (.flt .f64) .nil) (.cons (.int .u64) .nil) NaN64 nan64 (fun z x => ((((bif isNaN .f64 x.1 then z.1 else x.1 : Nat) : Int)), ()))), (104, extFam (.cons (.int .u64) .nil) (.cons (.flt .f64) .nil) Unit ⟨()⟩ (fun _ x => ((x.1 : Int).toNat, ())))] []
noncomputable def Γ79 : Env := mkEnv tab eqs [] 7 [.tmp 2] [] [] [] [] []
theorem evN79 (h : Den R79 → Option Unit) (x : Den A79) : callN Γ79 N79 (bodyOf Try.f79) (decRH R79 h) (encA A79 x) [] =
    allK fun (z : NaN64) => allK fun (_ : Unit) => h ((Int.toNat (ibits BinOp.andNot IntKind.u64 (((bif isNaN FloatKind.f64 x.fst then z.1 else x.fst : Nat) : Int)) 9223372036854775808)), ()) := by kernel_rfl

theorem abs_bits (n : Nat) : (ibits .andNot .u64 (n : Int) 9223372036854775808).toNat = n % 2 ^ 63 := by
  have e : ibits .andNot .u64 (n : Int) 9223372036854775808 = IntKind.u64.wrap ((BitVec.ofInt 64 (n : Int) &&& ~~~(BitVec.ofInt 64 9223372036854775808)).toNat : Int) := rfl
  have hy : ~~~(BitVec.ofInt 64 9223372036854775808) = 9223372036854775807#64 := by decide
  rw [e, hy, BitVec.toNat_and]
  have hx : (BitVec.ofInt 64 (n : Int)).toNat = n % 2 ^ 64 := by
    rw [BitVec.toNat_ofInt]
    omega
  have h7 : (9223372036854775807#64).toNat = 2 ^ 63 - 1 := by decide
  rw [hx, h7, Nat.and_two_pow_sub_one_eq_mod, IntKind.wrap_u64]
  omega

theorem isNaN_mod {n : Nat} : isNaN .f64 (n % 2 ^ 63) = isNaN .f64 n := by
  have hs : FloatKind.f64.format.signWeight = 2 ^ 63 := by decide
  rw [Bool.eq_iff_iff, isNaN_iff, isNaN_iff, hs, Nat.mod_mod]

def K79 (x : Den A79) : Bool := true
def G79 (x : Den A79) : Den R79 := (x.1 % 2 ^ 63, ())
theorem env79 : EnvOK Try.prog Γ79 := env_ok mixed tab_ok eqs_ok .nil
theorem is79 : FnIs Try.prog 79 Γ79 (bodyOf Try.f79) := fnIs Try.func79 rfl rfl rfl (by kernel_rfl) (noLoops (by kernel_rfl))
theorem sem79 : SemOK Try.prog (79, fnMean A79 R79 K79 G79) :=
  fnN_sem (N := N79) env79 (mkN_ok ⟨ext_bits ext105, ext_frombits ext104, trivial⟩) is79 noNLoops (Q := fun x y => FEq .f64 (x.1 % 2 ^ 63) y.1)
    (fun x y hq β K v hv => by
      obtain ⟨b, rfl, hb⟩ := hv
      refine ⟨b, rfl, ?_⟩
      have hb : FEq .f64 y.1 b := hb
      show FEq .f64 (x.1 % 2 ^ 63) b
      rcases hq with e | ⟨h1, h2⟩
      · rw [e]; exact hb
      · exact .inr ⟨h1, FEq.nan_left hb h2⟩)
    (fun x _ k hk => by
      rw [evN79]
      haveI := nan64
      refine allK_intro fun z => allK_intro fun _ => hk _ ?_
      rw [abs_bits]
      cases hn : isNaN .f64 x.1 with
      | true => exact .inr ⟨by rw [isNaN_mod]; exact hn, by show isNaN .f64 (z.1 % 2 ^ 63) = true; rw [isNaN_mod]; exact z.2⟩
      | false => exact .inl rfl)

end Go.Proofs.Ytmmdjajebmihhaa.AM

/- What functions of the program make of their arguments; each is what its evaluation says. Printed by fx.py. -/
namespace Go.Proofs.Ytmmdjajebmihhaa.AM
open Go Go.Proofs
set_option linter.unusedVariables false
set_option maxRecDepth 100000
set_option maxHeartbeats 0

/- "loop.example/g03321/laws.big" -/
abbrev A7 : Ty := .cons (.slice (.int .u8)) (.nil)
abbrev R7 : Ty := .cons (.bool) (.nil)
noncomputable def Γ7 : Env := mkEnv tab eqs [] 6 [.tmp 2] [] [] [] [] []
def r7 (x : Den A7) : Option (Den R7) :=
  some ((decide ((↑(List.length x.fst) : Int) > 1048576)), ())
theorem ev7 (x : Den A7) : callK (Γ7) (bodyOf Try.f7) (decR R7) (encA A7 x) [] = r7 x := by kernel_rfl
def F7 (x : Den A7) : Option (Den R7) := r7 x
def K7 (x : Den A7) : Bool := (F7 x).isSome
def G7 (x : Den A7) : Den R7 := (F7 x).getD (zero R7)
theorem env7 : EnvOK Try.prog (Γ7) := env_ok mixed tab_ok eqs_ok .nil
theorem is7 : FnIs Try.prog 7 (Γ7) (bodyOf Try.f7) := fnIs Try.func7 rfl rfl rfl (by kernel_rfl) (noLoops (by kernel_rfl))
theorem sem7 : SemOK Try.prog (7, fnMean A7 R7 K7 G7) := fn_opt env7 is7 fun x => ev7 x

/- "loop.example/g03321/spec.l01New" mode S false -/
abbrev I30 : Sg := ⟨[.val (.slice (.int .u8))], []⟩
abbrev O30 : Sg := ⟨[.ptr 0], [.box (S98)]⟩
abbrev V30_3 : Type := (((List (Den (.int .u8))) × (Int × (Int × Unit))) × Unit)
def sh30_3 : ShS := ⟨[(0, .one (.sl (.int .u8))), (3, .one (.int .i64)), (4, .one (.int .i64))], [], 0, 0⟩
abbrev X30_3 : Type := (((List (Den (.int .u8))) × (Int × Unit)) × Unit)
def shX30_3 : ShS := ⟨[(0, .one (.sl (.int .u8))), (3, .one (.int .i64))], [], 0, 0⟩
noncomputable def Γ30 (kl3 : V30_3 → Bool) (xl3 : V30_3 → X30_3) : Env := mkEnv tab eqs [] 32 [.tmp 2] [] [] [(3, loopX [0, 3, 4] [] 0 [0, 3] [] sh30_3 shX30_3 kl3 xl3)] [] []
noncomputable def lc30_3 : Code := (loopsOf (bodyOf Try.f30)).getD 0 .skip
def q30_3 (f : V30_3 → Option (X30_3)) (v : V30_3) : Option (X30_3) :=
  bif (decide (v.fst.snd.snd.fst < (↑(List.length v.fst.fst) : Int))) then
    bif (decide (v.fst.snd.snd.fst < 4000)) then
      bif (decide (0 ≤ v.fst.snd.snd.fst) && decide (v.fst.snd.snd.fst < (↑(List.length v.fst.fst) : Int))) then
        let v0 := (IntKind.wrap IntKind.i64 (v.fst.snd.fst * 131))
        let v1 := (List.getD v.fst.fst (Int.toNat v.fst.snd.snd.fst) (zero (Ty.int IntKind.u8)))
        let v2 := (IntKind.wrap IntKind.i64 v1)
        let v3 := (IntKind.wrap IntKind.i64 (v0 + v2))
        let v4 := (IntKind.wrap IntKind.i64 (v3 + 7))
        let v5 := (IntKind.wrap IntKind.i64 (v.fst.snd.snd.fst + 1))
        f (((v.fst.1), ((ibits BinOp.and IntKind.i64 v4 1073741823), ((v5), ()))), ())
      else
        none
    else
      some (((v.fst.1), ((v.fst.snd.1), ())), ())
  else
    some (((v.fst.1), ((v.fst.snd.1), ())), ())
theorem evl30_3 (kl3 : V30_3 → Bool) (xl3 : V30_3 → X30_3) (f : V30_3 → Option (X30_3)) (v : V30_3) : EBk (Γ30 kl3 xl3) lc30_3 (roundK [0, 3, 4] [] 0 [0, 3] [] (atS sh30_3 f) (endX shX30_3)) (mkS sh30_3 v) = q30_3 f v := by kernel_rfl
def b30_3 (v : V30_3) : Nat := v.1.1.length + v.1.2.1.natAbs + v.1.2.2.1.natAbs + 1000
def l30_3 (v : V30_3) : Option (X30_3) := iter (q30_3) (b30_3 v) v
def kL30_3 (v : V30_3) : Bool := (l30_3 v).isSome
def xL30_3 (v : V30_3) : X30_3 := (l30_3 v).getD (([], (0, ())), ())
def r30 (kl3 : V30_3 → Bool) (xl3 : V30_3 → X30_3) (x : I30.den) : Option (O30.den) :=
  let v0 := (IntKind.wrap IntKind.i64 (33211 + (↑(List.length x.fst.fst) : Int)))
  let v1 := (kl3 ((x.fst.fst, v0, 0, ()), ()))
  bif (v1) then
    let v2 := (xl3 ((x.fst.fst, v0, 0, ()), ()))
    some (((), ()), (((v2.fst.1), ((0), ((v2.fst.snd.1), ()))), ()))
  else
    none
theorem ev30 (kl3 : V30_3 → Bool) (xl3 : V30_3 → X30_3) (x : I30.den) : callS (Γ30 kl3 xl3) (bodyOf Try.f30) I30 O30 x = r30 kl3 xl3 x := by kernel_rfl
def F30 (x : I30.den) : Option (O30.den) := r30 kL30_3 xL30_3 x
def K30 (x : I30.den) : Bool := (F30 x).isSome
def G30 (x : I30.den) : O30.den := (F30 x).getD (zeroSg O30)
theorem env30 : EnvOK Try.prog (Γ30 kL30_3 xL30_3) := env_ok mixed tab_ok eqs_ok .nil
theorem is30 : FnIs Try.prog 30 (Γ30 kL30_3 xL30_3) (bodyOf Try.f30) := fnIs Try.func30 rfl rfl rfl (by kernel_rfl) (loops_ok (l := [lc30_3]) (by kernel_rfl) (.cons (one_loop rfl (loopX_sound (sh := sh30_3) (shX := shX30_3) (fun f v => evl30_3 kL30_3 xL30_3 f v) b30_3 (([], (0, ())), ()))) (.nil)))
theorem sem30 : SemOK Try.prog (30, sgMean false I30 O30 K30 G30) := sg_opt env30 is30 false fun x => ev30 kL30_3 xL30_3 x

/- "loop.example/g03321/spec.l01Byte" mode S true -/
abbrev I89 : Sg := ⟨[.ptr 0], [.box (S98)]⟩
abbrev O89 : Sg := ⟨[.val (.int .i64)], [.box (S98)]⟩
noncomputable def Γ89 : Env := mkEnv tab eqs [] 58 [.tmp 2] [] [] [] [] []
def r89 (x : I89.den) : Option (O89.den) :=
  bif (decide (x.snd.fst.snd.fst < (↑(List.length x.snd.fst.fst) : Int))) then
    bif (decide (0 ≤ x.snd.fst.snd.fst) && decide (x.snd.fst.snd.fst < (↑(List.length x.snd.fst.fst) : Int))) then
      let v0 := (IntKind.wrap IntKind.i64 (x.snd.fst.snd.snd.fst * 6364136223846793005))
      let v1 := (IntKind.wrap IntKind.i64 (v0 + 1442695040888963407))
      let v2 := (List.getD x.snd.fst.fst (Int.toNat x.snd.fst.snd.fst) (zero (Ty.int IntKind.u8)))
      let v3 := (IntKind.wrap IntKind.i64 v2)
      let v4 := (IntKind.wrap IntKind.i64 (ibits BinOp.and IntKind.i64 (ibits BinOp.xor IntKind.i64 (Int.fdiv v1 (2 ^ min (Int.toNat 33) (IntKind.bits IntKind.i64))) (Int.fdiv v1 (2 ^ min (Int.toNat 45) (IntKind.bits IntKind.i64)))) 255 + v3))
      let v5 := (IntKind.wrap IntKind.i64 (x.snd.fst.snd.fst + 1))
      some (((ibits BinOp.and IntKind.i64 v4 255), ()), (((x.snd.fst.1), ((v5), ((v1), ()))), ()))
    else
      none
  else
    let v0 := (IntKind.wrap IntKind.i64 (x.snd.fst.snd.snd.fst * 6364136223846793005))
    let v1 := (IntKind.wrap IntKind.i64 (v0 + 1442695040888963407))
    some (((ibits BinOp.and IntKind.i64 (ibits BinOp.xor IntKind.i64 (Int.fdiv v1 (2 ^ min (Int.toNat 33) (IntKind.bits IntKind.i64))) (Int.fdiv v1 (2 ^ min (Int.toNat 45) (IntKind.bits IntKind.i64)))) 255), ()), (((x.snd.fst.1), ((x.snd.fst.snd.1), ((v1), ()))), ()))
theorem ev89 (x : I89.den) : callS (Γ89) (bodyOf Try.f89) I89 O89 x = r89 x := by kernel_rfl
def F89 (x : I89.den) : Option (O89.den) := r89 x
def K89 (x : I89.den) : Bool := (F89 x).isSome
def G89 (x : I89.den) : O89.den := (F89 x).getD (zeroSg O89)
theorem env89 : EnvOK Try.prog (Γ89) := env_ok mixed tab_ok eqs_ok .nil
theorem is89 : FnIs Try.prog 89 (Γ89) (bodyOf Try.f89) := fnIs Try.func89 rfl rfl rfl (by kernel_rfl) (noLoops (by kernel_rfl))
theorem sem89 : SemOK Try.prog (89, sgMean true I89 O89 K89 G89) := sg_opt env89 is89 true fun x => ev89 x

/- "loop.example/g03321/spec.l01Below" mode S true -/
abbrev I66 : Sg := ⟨[.ptr 0, .val (.int .i64)], [.box (S98)]⟩
abbrev O66 : Sg := ⟨[.val (.int .i64)], [.box (S98)]⟩
noncomputable def Γ66 (k89 : I89.den → Bool) (g89 : I89.den → O89.den) : Env := mkEnv tab eqs [(89, sgMean true I89 O89 k89 g89)] 37 [.tmp 4] [] [] [] [] []
def r66 (k89 : I89.den → Bool) (g89 : I89.den → O89.den) (x : I66.den) : Option (O66.den) :=
  bif (decide (x.fst.snd.fst ≤ 0)) then
    some (((0), ()), (((x.snd.fst.1), ((x.snd.fst.snd.1), ((x.snd.fst.snd.snd.1), ()))), ()))
  else
    bif (decide (x.fst.snd.fst ≤ 256)) then
      let v0 := (k89 (((), ()), x.snd))
      bif (v0) then
        bif (x.fst.snd.fst != 0) then
          let v1 := (g89 (((), ()), x.snd))
          some (((Int.tmod v1.fst.fst x.fst.snd.fst), ()), (((v1.snd.fst.1), ((v1.snd.fst.snd.1), ((v1.snd.fst.snd.snd.1), ()))), ()))
        else
          none
      else
        none
    else
      let v0 := (k89 (((), ()), x.snd))
      bif (v0) then
        let v1 := (g89 (((), ()), x.snd))
        let v2 := (k89 (((), ()), v1.snd))
        bif (v2) then
          let v3 := (g89 (((), ()), v1.snd))
          let v4 := (k89 (((), ()), v3.snd))
          bif (v4) then
            let v5 := (g89 (((), ()), v3.snd))
            let v6 := (k89 (((), ()), v5.snd))
            bif (v6) then
              bif (x.fst.snd.fst != 0) then
                let v7 := (IntKind.wrap IntKind.i64 (v1.fst.fst * 16777216))
                let v8 := (IntKind.wrap IntKind.i64 (v3.fst.fst * 65536))
                let v9 := (IntKind.wrap IntKind.i64 (v7 + v8))
                let v10 := (IntKind.wrap IntKind.i64 (v5.fst.fst * 256))
                let v11 := (IntKind.wrap IntKind.i64 (v9 + v10))
                let v12 := (g89 (((), ()), v5.snd))
                let v13 := (IntKind.wrap IntKind.i64 (v11 + v12.fst.fst))
                some (((Int.tmod v13 x.fst.snd.fst), ()), (((v12.snd.fst.1), ((v12.snd.fst.snd.1), ((v12.snd.fst.snd.snd.1), ()))), ()))
              else
                none
            else
              none
          else
            none
        else
          none
      else
        none
theorem ev66 (k89 : I89.den → Bool) (g89 : I89.den → O89.den) (x : I66.den) : callS (Γ66 k89 g89) (bodyOf Try.f66) I66 O66 x = r66 k89 g89 x := by kernel_rfl
def F66 (x : I66.den) : Option (O66.den) := r66 K89 G89 x
def K66 (x : I66.den) : Bool := (F66 x).isSome
def G66 (x : I66.den) : O66.den := (F66 x).getD (zeroSg O66)
theorem env66 : EnvOK Try.prog (Γ66 K89 G89) := env_ok mixed tab_ok eqs_ok (.cons sem89 .nil)
theorem is66 : FnIs Try.prog 66 (Γ66 K89 G89) (bodyOf Try.f66) := fnIs Try.func66 rfl rfl rfl (by kernel_rfl) (noLoops (by kernel_rfl))
theorem sem66 : SemOK Try.prog (66, sgMean true I66 O66 K66 G66) := sg_opt env66 is66 true fun x => ev66 K89 G89 x

/- "loop.example/g03321/spec.l01Once" mode S true -/
abbrev I45 : Sg := ⟨[.ptr 0, .val (.int .i64)], [.box (S98)]⟩
abbrev O45 : Sg := ⟨[.val (.bool)], [.box (S98)]⟩
noncomputable def Γ45 (k66 : I66.den → Bool) (g66 : I66.den → O66.den) : Env := mkEnv tab eqs [(66, sgMean true I66 O66 k66 g66)] 9 [.tmp 4] [] [] [] [] []
def r45 (k66 : I66.den → Bool) (g66 : I66.den → O66.den) (x : I45.den) : Option (O45.den) :=
  let v0 := (k66 (((), x.fst.snd), x.snd))
  bif (v0) then
    let v1 := (g66 (((), x.fst.snd), x.snd))
    some (((v1.fst.fst == 0), ()), (((v1.snd.fst.1), ((v1.snd.fst.snd.1), ((v1.snd.fst.snd.snd.1), ()))), ()))
  else
    none
theorem ev45 (k66 : I66.den → Bool) (g66 : I66.den → O66.den) (x : I45.den) : callS (Γ45 k66 g66) (bodyOf Try.f45) I45 O45 x = r45 k66 g66 x := by kernel_rfl
def F45 (x : I45.den) : Option (O45.den) := r45 K66 G66 x
def K45 (x : I45.den) : Bool := (F45 x).isSome
def G45 (x : I45.den) : O45.den := (F45 x).getD (zeroSg O45)
theorem env45 : EnvOK Try.prog (Γ45 K66 G66) := env_ok mixed tab_ok eqs_ok (.cons sem66 .nil)
theorem is45 : FnIs Try.prog 45 (Γ45 K66 G66) (bodyOf Try.f45) := fnIs Try.func45 rfl rfl rfl (by kernel_rfl) (noLoops (by kernel_rfl))
theorem sem45 : SemOK Try.prog (45, sgMean true I45 O45 K45 G45) := sg_opt env45 is45 true fun x => ev45 K66 G66 x

/- "loop.example/g03321/spec.l01Odd" mode S true -/
abbrev I106 : Sg := ⟨[.ptr 0], [.box (S98)]⟩
abbrev O106 : Sg := ⟨[.val (.flt .f64)], [.box (S98)]⟩
noncomputable def Γ106 (k66 : I66.den → Bool) (g66 : I66.den → O66.den) : Env := mkEnv tab eqs [(66, sgMean true I66 O66 k66 g66)] 34 [.tmp 2] [] [] [] [] []
def r106 (k66 : I66.den → Bool) (g66 : I66.den → O66.den) (x : I106.den) : Option (O106.den) :=
  let v0 := (k66 (((), 2, ()), x.snd))
  bif (v0) then
    let v1 := (g66 (((), 2, ()), x.snd))
    let v2 := (k66 (((), 8, ()), v1.snd))
    bif (v2) then
      let v3 := (g66 (((), 8, ()), v1.snd))
      bif (v3.fst.fst == 0) then
        let v4 := (IntKind.wrap IntKind.i64 (v1.fst.fst * 0))
        let v5 := (farith BinOp.quo FloatKind.f64 (FloatKind.nearest FloatKind.f64 v4) (FloatKind.nearest FloatKind.f64 v4))
        some (((v5), ()), (((v3.snd.fst.1), ((v3.snd.fst.snd.1), ((v3.snd.fst.snd.snd.1), ()))), ()))
      else
        bif (v3.fst.fst == 1) then
          let v4 := (IntKind.wrap IntKind.i64 (v1.fst.fst * 0))
          let v5 := (farith BinOp.quo FloatKind.f64 4607182418800017408 (FloatKind.nearest FloatKind.f64 v4))
          some (((v5), ()), (((v3.snd.fst.1), ((v3.snd.fst.snd.1), ((v3.snd.fst.snd.snd.1), ()))), ()))
        else
          bif (v3.fst.fst == 2) then
            let v4 := (IntKind.wrap IntKind.i64 (v1.fst.fst * 0))
            let v5 := (farith BinOp.quo FloatKind.f64 13830554455654793216 (FloatKind.nearest FloatKind.f64 v4))
            some (((v5), ()), (((v3.snd.fst.1), ((v3.snd.fst.snd.1), ((v3.snd.fst.snd.snd.1), ()))), ()))
          else
            bif (v3.fst.fst == 3) then
              let v4 := (IntKind.wrap IntKind.i64 (v1.fst.fst * 0))
              let v5 := (fneg FloatKind.f64 (FloatKind.nearest FloatKind.f64 v4))
              some (((v5), ()), (((v3.snd.fst.1), ((v3.snd.fst.snd.1), ((v3.snd.fst.snd.snd.1), ()))), ()))
            else
              bif (v3.fst.fst == 4) then
                some (((9094988921128908188), ()), (((v3.snd.fst.1), ((v3.snd.fst.snd.1), ((v3.snd.fst.snd.snd.1), ()))), ()))
              else
                bif (v3.fst.fst == 5) then
                  some (((9223372036854775809), ()), (((v3.snd.fst.1), ((v3.snd.fst.snd.1), ((v3.snd.fst.snd.snd.1), ()))), ()))
                else
                  bif (v3.fst.fst == 6) then
                    some (((4412443251819771522), ()), (((v3.snd.fst.1), ((v3.snd.fst.snd.1), ((v3.snd.fst.snd.snd.1), ()))), ()))
                  else
                    let v4 := (IntKind.wrap IntKind.i64 (v1.fst.fst * 0))
                    some (((FloatKind.nearest FloatKind.f64 v4), ()), (((v3.snd.fst.1), ((v3.snd.fst.snd.1), ((v3.snd.fst.snd.snd.1), ()))), ()))
    else
      none
  else
    none
theorem ev106 (k66 : I66.den → Bool) (g66 : I66.den → O66.den) (x : I106.den) : callS (Γ106 k66 g66) (bodyOf Try.f106) I106 O106 x = r106 k66 g66 x := by kernel_rfl
def F106 (x : I106.den) : Option (O106.den) := r106 K66 G66 x
def K106 (x : I106.den) : Bool := (F106 x).isSome
def G106 (x : I106.den) : O106.den := (F106 x).getD (zeroSg O106)
theorem env106 : EnvOK Try.prog (Γ106 K66 G66) := env_ok mixed tab_ok eqs_ok (.cons sem66 .nil)
theorem is106 : FnIs Try.prog 106 (Γ106 K66 G66) (bodyOf Try.f106) := fnIs Try.func106 rfl rfl rfl (by kernel_rfl) (noLoops (by kernel_rfl))
theorem sem106 : SemOK Try.prog (106, sgMean true I106 O106 K106 G106) := sg_opt env106 is106 true fun x => ev106 K66 G66 x

/- "loop.example/g03321/spec.l01PickInt" mode S true -/
abbrev I76 : Sg := ⟨[.ptr 0, .own (.int .i64) 1], [.box (S98), .arr (.int .i64)]⟩
abbrev O76 : Sg := ⟨[.val (.int .i64)], [.box (S98), .arr (.int .i64)]⟩
noncomputable def Γ76 (k66 : I66.den → Bool) (g66 : I66.den → O66.den) : Env := mkEnv tab eqs [(66, sgMean true I66 O66 k66 g66)] 12 [.tmp 4] [] [] [] [] []
def r76 (k66 : I66.den → Bool) (g66 : I66.den → O66.den) (x : I76.den) : Option (O76.den) :=
  let v0 := (k66 (((), (↑(List.length x.snd.snd.fst) : Int), ()), x.snd.fst, ()))
  bif (v0) then
    let v1 := (g66 (((), (↑(List.length x.snd.snd.fst) : Int), ()), x.snd.fst, ()))
    bif (decide (0 ≤ v1.fst.fst) && decide (v1.fst.fst < (↑(List.length x.snd.snd.fst) : Int))) then
      let v2 := (List.getD x.snd.snd.fst (Int.toNat v1.fst.fst) (zero (Ty.int IntKind.i64)))
      some (((v2), ()), (((v1.snd.fst.1), ((v1.snd.fst.snd.1), ((v1.snd.fst.snd.snd.1), ()))), ((x.snd.snd.1), ())))
    else
      none
  else
    none
theorem ev76 (k66 : I66.den → Bool) (g66 : I66.den → O66.den) (x : I76.den) : callS (Γ76 k66 g66) (bodyOf Try.f76) I76 O76 x = r76 k66 g66 x := by kernel_rfl
def F76 (x : I76.den) : Option (O76.den) := r76 K66 G66 x
def K76 (x : I76.den) : Bool := (F76 x).isSome
def G76 (x : I76.den) : O76.den := (F76 x).getD (zeroSg O76)
theorem env76 : EnvOK Try.prog (Γ76 K66 G66) := env_ok mixed tab_ok eqs_ok (.cons sem66 .nil)
theorem is76 : FnIs Try.prog 76 (Γ76 K66 G66) (bodyOf Try.f76) := fnIs Try.func76 rfl rfl rfl (by kernel_rfl) (noLoops (by kernel_rfl))
theorem sem76 : SemOK Try.prog (76, sgMean true I76 O76 K76 G76) := sg_opt env76 is76 true fun x => ev76 K66 G66 x

/- "loop.example/g03321/spec.l01Real" mode S true -/
abbrev I80 : Sg := ⟨[.ptr 0, .val (.int .i64)], [.box (S98)]⟩
abbrev O80 : Sg := ⟨[.val (.flt .f64)], [.box (S98)]⟩
noncomputable def Γ80 (k45 : I45.den → Bool) (g45 : I45.den → O45.den) (k106 : I106.den → Bool) (g106 : I106.den → O106.den) (k66 : I66.den → Bool) (g66 : I66.den → O66.den) : Env := mkEnv tab eqs [(45, sgMean true I45 O45 k45 g45), (106, sgMean true I106 O106 k106 g106), (66, sgMean true I66 O66 k66 g66)] 31 [.tmp 4] [] [] [] [] []
def r80 (k45 : I45.den → Bool) (g45 : I45.den → O45.den) (k106 : I106.den → Bool) (g106 : I106.den → O106.den) (k66 : I66.den → Bool) (g66 : I66.den → O66.den) (x : I80.den) : Option (O80.den) :=
  let v0 := (k45 (((), 40, ()), x.snd))
  bif (v0) then
    let v1 := (g45 (((), 40, ()), x.snd))
    bif (v1.fst.1) then
      let v2 := (k106 (((), ()), v1.snd))
      bif (v2) then
        let v3 := (g106 (((), ()), v1.snd))
        some (((v3.fst.1), ()), (((v3.snd.fst.1), ((v3.snd.fst.snd.1), ((v3.snd.fst.snd.snd.1), ()))), ()))
      else
        none
    else
      let v2 := (IntKind.wrap IntKind.i64 (x.fst.snd.fst * 8))
      let v3 := (IntKind.wrap IntKind.i64 (v2 + 1))
      let v4 := (k66 (((), v3, ()), v1.snd))
      bif (v4) then
        let v5 := (g66 (((), v3, ()), v1.snd))
        let v6 := (k45 (((), 2, ()), v5.snd))
        bif (v6) then
          let v7 := (g45 (((), 2, ()), v5.snd))
          bif (v7.fst.1) then
            let v8 := (IntKind.wrap IntKind.i64 (x.fst.snd.fst * 1000))
            let v9 := (IntKind.wrap IntKind.i64 (v8 + 1))
            let v10 := (k66 (((), v9, ()), v7.snd))
            bif (v10) then
              let v11 := (g66 (((), v9, ()), v7.snd))
              let v12 := (k45 (((), 2, ()), v11.snd))
              bif (v12) then
                let v13 := (g45 (((), 2, ()), v11.snd))
                bif (v13.fst.1) then
                  let v14 := (farith BinOp.quo FloatKind.f64 (FloatKind.nearest FloatKind.f64 v11.fst.fst) 4652007308841189376)
                  let v15 := (fneg FloatKind.f64 v14)
                  some (((v15), ()), (((v13.snd.fst.1), ((v13.snd.fst.snd.1), ((v13.snd.fst.snd.snd.1), ()))), ()))
                else
                  let v14 := (farith BinOp.quo FloatKind.f64 (FloatKind.nearest FloatKind.f64 v11.fst.fst) 4652007308841189376)
                  some (((v14), ()), (((v13.snd.fst.1), ((v13.snd.fst.snd.1), ((v13.snd.fst.snd.snd.1), ()))), ()))
              else
                none
            else
              none
          else
            let v8 := (k45 (((), 2, ()), v7.snd))
            bif (v8) then
              let v9 := (g45 (((), 2, ()), v7.snd))
              bif (v9.fst.1) then
                let v10 := (farith BinOp.quo FloatKind.f64 (FloatKind.nearest FloatKind.f64 v5.fst.fst) 4620693217682128896)
                let v11 := (fneg FloatKind.f64 v10)
                some (((v11), ()), (((v9.snd.fst.1), ((v9.snd.fst.snd.1), ((v9.snd.fst.snd.snd.1), ()))), ()))
              else
                let v10 := (farith BinOp.quo FloatKind.f64 (FloatKind.nearest FloatKind.f64 v5.fst.fst) 4620693217682128896)
                some (((v10), ()), (((v9.snd.fst.1), ((v9.snd.fst.snd.1), ((v9.snd.fst.snd.snd.1), ()))), ()))
            else
              none
        else
          none
      else
        none
  else
    none
theorem ev80 (k45 : I45.den → Bool) (g45 : I45.den → O45.den) (k106 : I106.den → Bool) (g106 : I106.den → O106.den) (k66 : I66.den → Bool) (g66 : I66.den → O66.den) (x : I80.den) : callS (Γ80 k45 g45 k106 g106 k66 g66) (bodyOf Try.f80) I80 O80 x = r80 k45 g45 k106 g106 k66 g66 x := by kernel_rfl
def F80 (x : I80.den) : Option (O80.den) := r80 K45 G45 K106 G106 K66 G66 x
def K80 (x : I80.den) : Bool := (F80 x).isSome
def G80 (x : I80.den) : O80.den := (F80 x).getD (zeroSg O80)
theorem env80 : EnvOK Try.prog (Γ80 K45 G45 K106 G106 K66 G66) := env_ok mixed tab_ok eqs_ok (.cons sem45 (.cons sem106 (.cons sem66 .nil)))
theorem is80 : FnIs Try.prog 80 (Γ80 K45 G45 K106 G106 K66 G66) (bodyOf Try.f80) := fnIs Try.func80 rfl rfl rfl (by kernel_rfl) (noLoops (by kernel_rfl))
theorem sem80 : SemOK Try.prog (80, sgMean true I80 O80 K80 G80) := sg_opt env80 is80 true fun x => ev80 K45 G45 K106 G106 K66 G66 x

/- "loop.example/g03321/spec.l03Single" mode S true -/
abbrev I107 : Sg := ⟨[.ptr 0, .val (.int .i64)], [.box (S98)]⟩
abbrev O107 : Sg := ⟨[.val (.flt .f32)], [.box (S98)]⟩
noncomputable def Γ107 (k80 : I80.den → Bool) (g80 : I80.den → O80.den) : Env := mkEnv tab eqs [(80, sgMean true I80 O80 k80 g80)] 9 [.tmp 4] [] [] [] [] []
def r107 (k80 : I80.den → Bool) (g80 : I80.den → O80.den) (x : I107.den) : Option (O107.den) :=
  let v0 := (k80 (((), x.fst.snd), x.snd))
  bif (v0) then
    let v1 := (g80 (((), x.fst.snd), x.snd))
    bif ((convF FloatKind.f64 FloatKind.f32 v1.fst.fst).1) then
      some ((((convF FloatKind.f64 FloatKind.f32 v1.fst.fst).2), ()), (((v1.snd.fst.1), ((v1.snd.fst.snd.1), ((v1.snd.fst.snd.snd.1), ()))), ()))
    else
      none
  else
    none
theorem ev107 (k80 : I80.den → Bool) (g80 : I80.den → O80.den) (x : I107.den) : callS (Γ107 k80 g80) (bodyOf Try.f107) I107 O107 x = r107 k80 g80 x := by kernel_rfl
def F107 (x : I107.den) : Option (O107.den) := r107 K80 G80 x
def K107 (x : I107.den) : Bool := (F107 x).isSome
def G107 (x : I107.den) : O107.den := (F107 x).getD (zeroSg O107)
theorem env107 : EnvOK Try.prog (Γ107 K80 G80) := env_ok mixed tab_ok eqs_ok (.cons sem80 .nil)
theorem is107 : FnIs Try.prog 107 (Γ107 K80 G80) (bodyOf Try.f107) := fnIs Try.func107 rfl rfl rfl (by kernel_rfl) (noLoops (by kernel_rfl))
theorem sem107 : SemOK Try.prog (107, sgMean true I107 O107 K107 G107) := sg_opt env107 is107 true fun x => ev107 K80 G80 x

/- "loop.example/g03321/spec.l03Air" mode S true -/
abbrev I90 : Sg := ⟨[.ptr 0], [.box (S98)]⟩
abbrev O90 : Sg := ⟨[.val (.cpx .f32)], [.box (S98)]⟩
noncomputable def Γ90 (k45 : I45.den → Bool) (g45 : I45.den → O45.den) (k106 : I106.den → Bool) (g106 : I106.den → O106.den) (k76 : I76.den → Bool) (g76 : I76.den → O76.den) (k107 : I107.den → Bool) (g107 : I107.den → O107.den) : Env := mkEnv tab eqs [(45, sgMean true I45 O45 k45 g45), (106, sgMean true I106 O106 k106 g106), (76, sgMean true I76 O76 k76 g76), (107, sgMean true I107 O107 k107 g107)] 30 [.tmp 2] [] [] [] [] []
def r90 (k45 : I45.den → Bool) (g45 : I45.den → O45.den) (k106 : I106.den → Bool) (g106 : I106.den → O106.den) (k76 : I76.den → Bool) (g76 : I76.den → O76.den) (k107 : I107.den → Bool) (g107 : I107.den → O107.den) (x : I90.den) : Option (O90.den) :=
  let v0 := (k45 (((), 30, ()), x.snd))
  bif (v0) then
    let v1 := (g45 (((), 30, ()), x.snd))
    bif (v1.fst.1) then
      let v2 := (k106 (((), ()), v1.snd))
      bif (v2) then
        let v3 := (g106 (((), ()), v1.snd))
        bif ((convF FloatKind.f64 FloatKind.f32 v3.fst.fst).1) then
          let v4 := (k106 (((), ()), v3.snd))
          bif (v4) then
            let v5 := (g106 (((), ()), v3.snd))
            bif ((convF FloatKind.f64 FloatKind.f32 v5.fst.fst).1) then
              some (((((convF FloatKind.f64 FloatKind.f32 v3.fst.fst).2), ((convF FloatKind.f64 FloatKind.f32 v5.fst.fst).2)), ()), (((v5.snd.fst.1), ((v5.snd.fst.snd.1), ((v5.snd.fst.snd.snd.1), ()))), ()))
            else
              none
          else
            none
        else
          none
      else
        none
    else
      let v2 := (k45 (((), 20, ()), v1.snd))
      bif (v2) then
        let v3 := (g45 (((), 20, ()), v1.snd))
        bif (v3.fst.1) then
          let v4 := (List.set (List.replicate 4 (zero (Ty.int IntKind.i64))) 0 100)
          let v5 := (List.set v4 1 (-100))
          let v6 := (List.set v5 2 101)
          let v7 := (List.set v6 3 0)
          let v8 := (k76 (((), (), ()), v3.snd.fst, v7, ()))
          bif (v8) then
            let v9 := (g76 (((), (), ()), v3.snd.fst, v7, ()))
            let v10 := (k107 (((), 100, ()), v9.snd.fst, ()))
            bif (v10) then
              let v11 := (g107 (((), 100, ()), v9.snd.fst, ()))
              some ((((FloatKind.nearest FloatKind.f32 v9.fst.fst), (v11.fst.1)), ()), (((v11.snd.fst.1), ((v11.snd.fst.snd.1), ((v11.snd.fst.snd.snd.1), ()))), ()))
            else
              none
          else
            none
        else
          let v4 := (k107 (((), 15, ()), v3.snd))
          bif (v4) then
            let v5 := (g107 (((), 15, ()), v3.snd))
            let v6 := (k107 (((), 15, ()), v5.snd))
            bif (v6) then
              let v7 := (g107 (((), 15, ()), v5.snd))
              some ((((v5.fst.1), (v7.fst.1)), ()), (((v7.snd.fst.1), ((v7.snd.fst.snd.1), ((v7.snd.fst.snd.snd.1), ()))), ()))
            else
              none
          else
            none
      else
        none
  else
    none
theorem ev90 (k45 : I45.den → Bool) (g45 : I45.den → O45.den) (k106 : I106.den → Bool) (g106 : I106.den → O106.den) (k76 : I76.den → Bool) (g76 : I76.den → O76.den) (k107 : I107.den → Bool) (g107 : I107.den → O107.den) (x : I90.den) : callS (Γ90 k45 g45 k106 g106 k76 g76 k107 g107) (bodyOf Try.f90) I90 O90 x = r90 k45 g45 k106 g106 k76 g76 k107 g107 x := by kernel_rfl
def F90 (x : I90.den) : Option (O90.den) := r90 K45 G45 K106 G106 K76 G76 K107 G107 x
def K90 (x : I90.den) : Bool := (F90 x).isSome
def G90 (x : I90.den) : O90.den := (F90 x).getD (zeroSg O90)
theorem env90 : EnvOK Try.prog (Γ90 K45 G45 K106 G106 K76 G76 K107 G107) := env_ok mixed tab_ok eqs_ok (.cons sem45 (.cons sem106 (.cons sem76 (.cons sem107 .nil))))
theorem is90 : FnIs Try.prog 90 (Γ90 K45 G45 K106 G106 K76 G76 K107 G107) (bodyOf Try.f90) := fnIs Try.func90 rfl rfl rfl (by kernel_rfl) (noLoops (by kernel_rfl))
theorem sem90 : SemOK Try.prog (90, sgMean true I90 O90 K90 G90) := sg_opt env90 is90 true fun x => ev90 K45 G45 K106 G106 K76 G76 K107 G107 x

/- "loop.example/g03321/spec.l08Wind" mode S true -/
abbrev I74 : Sg := ⟨[.ptr 0], [.box (S98)]⟩
abbrev O74 : Sg := ⟨[.val (.cpx .f32)], [.box (S98)]⟩
noncomputable def Γ74 (k45 : I45.den → Bool) (g45 : I45.den → O45.den) (k90 : I90.den → Bool) (g90 : I90.den → O90.den) (k66 : I66.den → Bool) (g66 : I66.den → O66.den) : Env := mkEnv tab eqs [(45, sgMean true I45 O45 k45 g45), (90, sgMean true I90 O90 k90 g90), (66, sgMean true I66 O66 k66 g66)] 20 [.tmp 2] [] [] [] [] []
def r74 (k45 : I45.den → Bool) (g45 : I45.den → O45.den) (k90 : I90.den → Bool) (g90 : I90.den → O90.den) (k66 : I66.den → Bool) (g66 : I66.den → O66.den) (x : I74.den) : Option (O74.den) :=
  let v0 := (k45 (((), 12, ()), x.snd))
  bif (v0) then
    let v1 := (g45 (((), 12, ()), x.snd))
    bif (v1.fst.1) then
      let v2 := (k90 (((), ()), v1.snd))
      bif (v2) then
        let v3 := (g90 (((), ()), v1.snd))
        some ((((v3.fst.fst.1), (v3.fst.fst.2)), ()), (((v3.snd.fst.1), ((v3.snd.fst.snd.1), ((v3.snd.fst.snd.snd.1), ()))), ()))
      else
        none
    else
      let v2 := (k66 (((), 129, ()), v1.snd))
      bif (v2) then
        let v3 := (g66 (((), 129, ()), v1.snd))
        let v4 := (k66 (((), 129, ()), v3.snd))
        bif (v4) then
          let v5 := (IntKind.wrap IntKind.i64 (v3.fst.fst - 64))
          let v6 := (farith BinOp.quo FloatKind.f32 (FloatKind.nearest FloatKind.f32 v5) 1090519040)
          let v7 := (g66 (((), 129, ()), v3.snd))
          let v8 := (IntKind.wrap IntKind.i64 (v7.fst.fst - 64))
          let v9 := (farith BinOp.quo FloatKind.f32 (FloatKind.nearest FloatKind.f32 v8) 1090519040)
          some ((((v6), (v9)), ()), (((v7.snd.fst.1), ((v7.snd.fst.snd.1), ((v7.snd.fst.snd.snd.1), ()))), ()))
        else
          none
      else
        none
  else
    none
theorem ev74 (k45 : I45.den → Bool) (g45 : I45.den → O45.den) (k90 : I90.den → Bool) (g90 : I90.den → O90.den) (k66 : I66.den → Bool) (g66 : I66.den → O66.den) (x : I74.den) : callS (Γ74 k45 g45 k90 g90 k66 g66) (bodyOf Try.f74) I74 O74 x = r74 k45 g45 k90 g90 k66 g66 x := by kernel_rfl
def F74 (x : I74.den) : Option (O74.den) := r74 K45 G45 K90 G90 K66 G66 x
def K74 (x : I74.den) : Bool := (F74 x).isSome
def G74 (x : I74.den) : O74.den := (F74 x).getD (zeroSg O74)
theorem env74 : EnvOK Try.prog (Γ74 K45 G45 K90 G90 K66 G66) := env_ok mixed tab_ok eqs_ok (.cons sem45 (.cons sem90 (.cons sem66 .nil)))
theorem is74 : FnIs Try.prog 74 (Γ74 K45 G45 K90 G90 K66 G66) (bodyOf Try.f74) := fnIs Try.func74 rfl rfl rfl (by kernel_rfl) (noLoops (by kernel_rfl))
theorem sem74 : SemOK Try.prog (74, sgMean true I74 O74 K74 G74) := sg_opt env74 is74 true fun x => ev74 K45 G45 K90 G90 K66 G66 x

/- "loop.example/g03321/spec.l01Number" mode S true -/
abbrev I75 : Sg := ⟨[.ptr 0], [.box (S98)]⟩
abbrev O75 : Sg := ⟨[.val (.int .i64)], [.box (S98)]⟩
noncomputable def Γ75 (k66 : I66.den → Bool) (g66 : I66.den → O66.den) (k76 : I76.den → Bool) (g76 : I76.den → O76.den) : Env := mkEnv tab eqs [(66, sgMean true I66 O66 k66 g66), (76, sgMean true I76 O76 k76 g76)] 16 [.tmp 2] [] [] [] [] []
def r75 (k66 : I66.den → Bool) (g66 : I66.den → O66.den) (k76 : I76.den → Bool) (g76 : I76.den → O76.den) (x : I75.den) : Option (O75.den) :=
  let v0 := (k66 (((), 4, ()), x.snd))
  bif (v0) then
    let v1 := (g66 (((), 4, ()), x.snd))
    bif (v1.fst.fst == 0) then
      let v2 := (List.set (List.replicate 10 (zero (Ty.int IntKind.i64))) 0 (-1))
      let v3 := (List.set v2 1 0)
      let v4 := (List.set v3 2 127)
      let v5 := (List.set v4 3 128)
      let v6 := (List.set v5 4 16383)
      let v7 := (List.set v6 5 16384)
      let v8 := (List.set v7 6 1000000000)
      let v9 := (List.set v8 7 1000000001)
      let v10 := (List.set v9 8 9223372036854775807)
      let v11 := (List.set v10 9 (-9223372036854775808))
      let v12 := (k76 (((), (), ()), v1.snd.fst, v11, ()))
      bif (v12) then
        let v13 := (g76 (((), (), ()), v1.snd.fst, v11, ()))
        some (((v13.fst.1), ()), (((v13.snd.fst.1), ((v13.snd.fst.snd.1), ((v13.snd.fst.snd.snd.1), ()))), ()))
      else
        none
    else
      bif (v1.fst.fst == 1) then
        let v2 := (k66 (((), 1000000000, ()), v1.snd))
        bif (v2) then
          let v3 := (g66 (((), 1000000000, ()), v1.snd))
          some (((v3.fst.1), ()), (((v3.snd.fst.1), ((v3.snd.fst.snd.1), ((v3.snd.fst.snd.snd.1), ()))), ()))
        else
          none
      else
        let v2 := (k66 (((), 400, ()), v1.snd))
        bif (v2) then
          let v3 := (g66 (((), 400, ()), v1.snd))
          some (((v3.fst.1), ()), (((v3.snd.fst.1), ((v3.snd.fst.snd.1), ((v3.snd.fst.snd.snd.1), ()))), ()))
        else
          none
  else
    none
theorem ev75 (k66 : I66.den → Bool) (g66 : I66.den → O66.den) (k76 : I76.den → Bool) (g76 : I76.den → O76.den) (x : I75.den) : callS (Γ75 k66 g66 k76 g76) (bodyOf Try.f75) I75 O75 x = r75 k66 g66 k76 g76 x := by kernel_rfl
def F75 (x : I75.den) : Option (O75.den) := r75 K66 G66 K76 G76 x
def K75 (x : I75.den) : Bool := (F75 x).isSome
def G75 (x : I75.den) : O75.den := (F75 x).getD (zeroSg O75)
theorem env75 : EnvOK Try.prog (Γ75 K66 G66 K76 G76) := env_ok mixed tab_ok eqs_ok (.cons sem66 (.cons sem76 .nil))
theorem is75 : FnIs Try.prog 75 (Γ75 K66 G66 K76 G76) (bodyOf Try.f75) := fnIs Try.func75 rfl rfl rfl (by kernel_rfl) (noLoops (by kernel_rfl))
theorem sem75 : SemOK Try.prog (75, sgMean true I75 O75 K75 G75) := sg_opt env75 is75 true fun x => ev75 K66 G66 K76 G76 x

/- "loop.example/g03321/spec.l12Field" mode S true -/
abbrev I31 : Sg := ⟨[.ptr 0], [.box (S98)]⟩
abbrev O31 : Sg := ⟨[.val (S25)], [.box (S98)]⟩
abbrev V31_4 : Type := ((Unit × (Unit × (Unit × ((Nat × Nat) × (Int × Unit))))) × (((List (Den (.int .u8))) × (Int × (Int × Unit))) × ((Int × (Int × (Int × (Unit × Unit)))) × ((Int × (Int × (Int × (Unit × Unit)))) × ((List (Den (.slice (.cpx .f32)))) × Unit)))))
def sh31_4 : ShS := ⟨[(0, .one (.ptr 0 0)), (2, .one (.ptr 1 0)), (3, .one (.ptr 2 0)), (4, .one (.cpx .f32)), (5, .one (.int .i64))], [(0, .box [.sl (.int .u8), .int .i64, .int .i64]), (1, .box [.int .i64, .int .i64, .int .i64, .nil (.slice (.cpx .f32))]), (2, .box [.int .i64, .int .i64, .int .i64, .ref (.slice (.cpx .f32)) 3]), (3, .arr (.slice (.cpx .f32)))], 4, 1⟩
abbrev X31_4 : Type := ((Unit × (Unit × (Unit × Unit))) × (((List (Den (.int .u8))) × (Int × (Int × Unit))) × ((Int × (Int × (Int × (Unit × Unit)))) × ((Int × (Int × (Int × (Unit × Unit)))) × ((List (Den (.slice (.cpx .f32)))) × Unit)))))
def shX31_4 : ShS := ⟨[(0, .one (.ptr 0 0)), (2, .one (.ptr 1 0)), (3, .one (.ptr 2 0))], [(0, .box [.sl (.int .u8), .int .i64, .int .i64]), (1, .box [.int .i64, .int .i64, .int .i64, .nil (.slice (.cpx .f32))]), (2, .box [.int .i64, .int .i64, .int .i64, .ref (.slice (.cpx .f32)) 3]), (3, .arr (.slice (.cpx .f32)))], 4, 1⟩
abbrev V31_8 : Type := ((Unit × (Unit × (Unit × ((Nat × Nat) × (Int × (Unit × (Int × Unit))))))) × (((List (Den (.int .u8))) × (Int × (Int × Unit))) × ((Int × (Int × (Int × (Unit × Unit)))) × ((Int × (Int × (Int × (Unit × Unit)))) × ((List (Den (.slice (.cpx .f32)))) × ((List (Den (.cpx .f32))) × Unit))))))
def sh31_8 : ShS := ⟨[(0, .one (.ptr 0 0)), (2, .one (.ptr 1 0)), (3, .one (.ptr 2 0)), (4, .one (.cpx .f32)), (5, .one (.int .i64)), (6, .one (.ref (.cpx .f32) 4)), (7, .one (.int .i64))], [(0, .box [.sl (.int .u8), .int .i64, .int .i64]), (1, .box [.int .i64, .int .i64, .int .i64, .nil (.slice (.cpx .f32))]), (2, .box [.int .i64, .int .i64, .int .i64, .ref (.slice (.cpx .f32)) 3]), (3, .arr (.slice (.cpx .f32))), (4, .arr (.cpx .f32))], 5, 1⟩
abbrev X31_8 : Type := ((Unit × (Unit × (Unit × ((Nat × Nat) × (Int × (Unit × Unit)))))) × (((List (Den (.int .u8))) × (Int × (Int × Unit))) × ((Int × (Int × (Int × (Unit × Unit)))) × ((Int × (Int × (Int × (Unit × Unit)))) × ((List (Den (.slice (.cpx .f32)))) × ((List (Den (.cpx .f32))) × Unit))))))
def shX31_8 : ShS := ⟨[(0, .one (.ptr 0 0)), (2, .one (.ptr 1 0)), (3, .one (.ptr 2 0)), (4, .one (.cpx .f32)), (5, .one (.int .i64)), (6, .one (.ref (.cpx .f32) 4))], [(0, .box [.sl (.int .u8), .int .i64, .int .i64]), (1, .box [.int .i64, .int .i64, .int .i64, .nil (.slice (.cpx .f32))]), (2, .box [.int .i64, .int .i64, .int .i64, .ref (.slice (.cpx .f32)) 3]), (3, .arr (.slice (.cpx .f32))), (4, .arr (.cpx .f32))], 5, 1⟩
noncomputable def Γ31 (k66 : I66.den → Bool) (g66 : I66.den → O66.den) (k74 : I74.den → Bool) (g74 : I74.den → O74.den) (k45 : I45.den → Bool) (g45 : I45.den → O45.den) (k75 : I75.den → Bool) (g75 : I75.den → O75.den) (k76 : I76.den → Bool) (g76 : I76.den → O76.den) (kl4 : V31_4 → Bool) (xl4 : V31_4 → X31_4) (kl8 : V31_8 → Bool) (xl8 : V31_8 → X31_8) : Env := mkEnv tab eqs [(66, sgMean true I66 O66 k66 g66), (74, sgMean true I74 O74 k74 g74), (45, sgMean true I45 O45 k45 g45), (75, sgMean true I75 O75 k75 g75), (76, sgMean true I76 O76 k76 g76)] 85 [.cell 2 26] [] [] [(4, loopX [0, 2, 3, 4, 5] [.boxNil 3 3] 0 [0, 2, 3] [] sh31_4 shX31_4 kl4 xl4), (8, loopX [0, 2, 3, 4, 5, 6, 7] [] 2 [0, 2, 3, 4, 5, 6] [] sh31_8 shX31_8 kl8 xl8)] [] [.frzBox 2]
noncomputable def lc31_4 : Code := (loopsOf (bodyOf Try.f31)).getD 0 .skip
noncomputable def lc31_8 : Code := (loopsOf (bodyOf Try.f31)).getD 1 .skip
def q31_8 (k66 : I66.den → Bool) (g66 : I66.den → O66.den) (k74 : I74.den → Bool) (g74 : I74.den → O74.den) (k45 : I45.den → Bool) (g45 : I45.den → O45.den) (k75 : I75.den → Bool) (g75 : I75.den → O75.den) (k76 : I76.den → Bool) (g76 : I76.den → O76.den) (f : V31_8 → Option (X31_8)) (v : V31_8) : Option (X31_8) :=
  let v0 := (IntKind.wrap IntKind.i64 (v.snd.snd.snd.fst.fst * v.snd.snd.snd.fst.snd.fst))
  bif (decide (v.fst.snd.snd.snd.snd.snd.snd.fst < v0)) then
    let v1 := (k45 (((), 3, ()), v.snd.fst, ()))
    bif (v1) then
      let v2 := (g45 (((), 3, ()), v.snd.fst, ()))
      bif (v2.fst.1) then
        let v3 := (k74 (((), ()), v2.snd))
        bif (v3) then
          let v4 := (g74 (((), ()), v2.snd))
          let v5 := (List.set (List.replicate 1 (zero (Ty.cpx FloatKind.f32))) 0 v4.fst.fst)
          bif (capOk (List.length v.snd.snd.snd.snd.snd.fst + List.length v5)) then
            let v6 := (IntKind.wrap IntKind.i64 (v.fst.snd.snd.snd.snd.snd.snd.fst + 1))
            let v7 := (v.snd.snd.snd.snd.snd.fst ++ v5)
            f (((), ((), ((), (((v4.fst.fst.1), (v4.fst.fst.2)), ((v.fst.snd.snd.snd.snd.1), ((), ((v6), ()))))))), (((v4.snd.fst.1), ((v4.snd.fst.snd.1), ((v4.snd.fst.snd.snd.1), ()))), (((v.snd.snd.fst.1), ((v.snd.snd.fst.snd.1), ((v.snd.snd.fst.snd.snd.1), ((), ())))), (((v.snd.snd.snd.fst.1), ((v.snd.snd.snd.fst.snd.1), ((v.snd.snd.snd.fst.snd.snd.1), ((), ())))), ((v.snd.snd.snd.snd.1), ((v7), ()))))))
          else
            none
        else
          none
      else
        let v3 := (List.set (List.replicate 1 (zero (Ty.cpx FloatKind.f32))) 0 v.fst.snd.snd.snd.fst)
        bif (capOk (List.length v.snd.snd.snd.snd.snd.fst + List.length v3)) then
          let v4 := (IntKind.wrap IntKind.i64 (v.fst.snd.snd.snd.snd.snd.snd.fst + 1))
          let v5 := (v.snd.snd.snd.snd.snd.fst ++ v3)
          f (((), ((), ((), (((v.fst.snd.snd.snd.fst.1), (v.fst.snd.snd.snd.fst.2)), ((v.fst.snd.snd.snd.snd.1), ((), ((v4), ()))))))), (((v2.snd.fst.1), ((v2.snd.fst.snd.1), ((v2.snd.fst.snd.snd.1), ()))), (((v.snd.snd.fst.1), ((v.snd.snd.fst.snd.1), ((v.snd.snd.fst.snd.snd.1), ((), ())))), (((v.snd.snd.snd.fst.1), ((v.snd.snd.snd.fst.snd.1), ((v.snd.snd.snd.fst.snd.snd.1), ((), ())))), ((v.snd.snd.snd.snd.1), ((v5), ()))))))
        else
          none
    else
      none
  else
    some (((), ((), ((), (((v.fst.snd.snd.snd.fst.1), (v.fst.snd.snd.snd.fst.2)), ((v.fst.snd.snd.snd.snd.1), ((), ())))))), (((v.snd.fst.1), ((v.snd.fst.snd.1), ((v.snd.fst.snd.snd.1), ()))), (((v.snd.snd.fst.1), ((v.snd.snd.fst.snd.1), ((v.snd.snd.fst.snd.snd.1), ((), ())))), (((v.snd.snd.snd.fst.1), ((v.snd.snd.snd.fst.snd.1), ((v.snd.snd.snd.fst.snd.snd.1), ((), ())))), ((v.snd.snd.snd.snd.1), ((v.snd.snd.snd.snd.snd.1), ()))))))
theorem evl31_8 (k66 : I66.den → Bool) (g66 : I66.den → O66.den) (k74 : I74.den → Bool) (g74 : I74.den → O74.den) (k45 : I45.den → Bool) (g45 : I45.den → O45.den) (k75 : I75.den → Bool) (g75 : I75.den → O75.den) (k76 : I76.den → Bool) (g76 : I76.den → O76.den) (kl4 : V31_4 → Bool) (xl4 : V31_4 → X31_4) (kl8 : V31_8 → Bool) (xl8 : V31_8 → X31_8) (f : V31_8 → Option (X31_8)) (v : V31_8) : EBk (Γ31 k66 g66 k74 g74 k45 g45 k75 g75 k76 g76 kl4 xl4 kl8 xl8) lc31_8 (roundK [0, 2, 3, 4, 5, 6, 7] [] 2 [0, 2, 3, 4, 5, 6] [] (atS sh31_8 f) (endX shX31_8)) (mkS sh31_8 v) = q31_8 k66 g66 k74 g74 k45 g45 k75 g75 k76 g76 f v := by kernel_rfl
def b31_8 (v : V31_8) : Nat := v.1.2.2.2.2.1.natAbs + v.1.2.2.2.2.2.2.1.natAbs + v.2.1.1.length + v.2.1.2.1.natAbs + v.2.1.2.2.1.natAbs + v.2.2.1.1.natAbs + v.2.2.1.2.1.natAbs + v.2.2.1.2.2.1.natAbs + v.2.2.2.1.1.natAbs + v.2.2.2.1.2.1.natAbs + v.2.2.2.1.2.2.1.natAbs + v.2.2.2.2.1.length + v.2.2.2.2.2.1.length + 1000
def l31_8 (v : V31_8) : Option (X31_8) := iter (q31_8 K66 G66 K74 G74 K45 G45 K75 G75 K76 G76) (b31_8 v) v
def kL31_8 (v : V31_8) : Bool := (l31_8 v).isSome
def xL31_8 (v : V31_8) : X31_8 := (l31_8 v).getD (((), ((), ((), ((0, 0), (0, ((), ())))))), (([], (0, (0, ()))), ((0, (0, (0, ((), ())))), ((0, (0, (0, ((), ())))), ([], ([], ()))))))
def q31_4 (k66 : I66.den → Bool) (g66 : I66.den → O66.den) (k74 : I74.den → Bool) (g74 : I74.den → O74.den) (k45 : I45.den → Bool) (g45 : I45.den → O45.den) (k75 : I75.den → Bool) (g75 : I75.den → O75.den) (k76 : I76.den → Bool) (g76 : I76.den → O76.den) (kl8 : V31_8 → Bool) (xl8 : V31_8 → X31_8) (f : V31_4 → Option (X31_4)) (v : V31_4) : Option (X31_4) :=
  bif (decide (v.fst.snd.snd.snd.snd.fst > 0)) then
    let v0 := (kl8 (((), (), (), v.fst.snd.snd.snd.fst, v.fst.snd.snd.snd.snd.fst, (), 0, ()), v.snd.fst, (v.snd.snd.fst.fst, v.snd.snd.fst.snd.fst, v.snd.snd.fst.snd.snd.fst, (), ()), (v.snd.snd.snd.fst.fst, v.snd.snd.snd.fst.snd.fst, v.snd.snd.snd.fst.snd.snd.fst, (), ()), v.snd.snd.snd.snd.fst, List.replicate 0 (zero (Ty.cpx FloatKind.f32)), ()))
    bif (v0) then
      let v1 := (xl8 (((), (), (), v.fst.snd.snd.snd.fst, v.fst.snd.snd.snd.snd.fst, (), 0, ()), v.snd.fst, (v.snd.snd.fst.fst, v.snd.snd.fst.snd.fst, v.snd.snd.fst.snd.snd.fst, (), ()), (v.snd.snd.snd.fst.fst, v.snd.snd.snd.fst.snd.fst, v.snd.snd.snd.fst.snd.snd.fst, (), ()), v.snd.snd.snd.snd.fst, List.replicate 0 (zero (Ty.cpx FloatKind.f32)), ()))
      let v2 := (List.set (List.replicate 1 (zero (Ty.slice (Ty.cpx FloatKind.f32)))) 0 v1.snd.snd.snd.snd.snd.fst)
      bif (capOk (List.length v1.snd.snd.snd.snd.fst + List.length v2)) then
        let v3 := (IntKind.wrap IntKind.i64 (v1.fst.snd.snd.snd.snd.fst - 1))
        let v4 := (v1.snd.snd.snd.snd.fst ++ v2)
        f (((), ((), ((), (((v1.fst.snd.snd.snd.fst.1), (v1.fst.snd.snd.snd.fst.2)), ((v3), ()))))), (((v1.snd.fst.1), ((v1.snd.fst.snd.1), ((v1.snd.fst.snd.snd.1), ()))), (((v1.snd.snd.fst.1), ((v1.snd.snd.fst.snd.1), ((v1.snd.snd.fst.snd.snd.1), ((), ())))), (((v1.snd.snd.snd.fst.1), ((v1.snd.snd.snd.fst.snd.1), ((v1.snd.snd.snd.fst.snd.snd.1), ((), ())))), ((v4), ())))))
      else
        none
    else
      none
  else
    some (((), ((), ((), ()))), (((v.snd.fst.1), ((v.snd.fst.snd.1), ((v.snd.fst.snd.snd.1), ()))), (((v.snd.snd.fst.1), ((v.snd.snd.fst.snd.1), ((v.snd.snd.fst.snd.snd.1), ((), ())))), (((v.snd.snd.snd.fst.1), ((v.snd.snd.snd.fst.snd.1), ((v.snd.snd.snd.fst.snd.snd.1), ((), ())))), ((v.snd.snd.snd.snd.1), ())))))
theorem evl31_4 (k66 : I66.den → Bool) (g66 : I66.den → O66.den) (k74 : I74.den → Bool) (g74 : I74.den → O74.den) (k45 : I45.den → Bool) (g45 : I45.den → O45.den) (k75 : I75.den → Bool) (g75 : I75.den → O75.den) (k76 : I76.den → Bool) (g76 : I76.den → O76.den) (kl4 : V31_4 → Bool) (xl4 : V31_4 → X31_4) (kl8 : V31_8 → Bool) (xl8 : V31_8 → X31_8) (f : V31_4 → Option (X31_4)) (v : V31_4) : EBk (Γ31 k66 g66 k74 g74 k45 g45 k75 g75 k76 g76 kl4 xl4 kl8 xl8) lc31_4 (roundK [0, 2, 3, 4, 5] [.boxNil 3 3] 0 [0, 2, 3] [] (atS sh31_4 f) (endX shX31_4)) (mkS sh31_4 v) = q31_4 k66 g66 k74 g74 k45 g45 k75 g75 k76 g76 kl8 xl8 f v := by kernel_rfl
def b31_4 (v : V31_4) : Nat := v.1.2.2.2.2.1.natAbs + v.2.1.1.length + v.2.1.2.1.natAbs + v.2.1.2.2.1.natAbs + v.2.2.1.1.natAbs + v.2.2.1.2.1.natAbs + v.2.2.1.2.2.1.natAbs + v.2.2.2.1.1.natAbs + v.2.2.2.1.2.1.natAbs + v.2.2.2.1.2.2.1.natAbs + v.2.2.2.2.1.length + 1000
def l31_4 (v : V31_4) : Option (X31_4) := iter (q31_4 K66 G66 K74 G74 K45 G45 K75 G75 K76 G76 kL31_8 xL31_8) (b31_4 v) v
def kL31_4 (v : V31_4) : Bool := (l31_4 v).isSome
def xL31_4 (v : V31_4) : X31_4 := (l31_4 v).getD (((), ((), ((), ()))), (([], (0, (0, ()))), ((0, (0, (0, ((), ())))), ((0, (0, (0, ((), ())))), ([], ())))))
def r31 (k66 : I66.den → Bool) (g66 : I66.den → O66.den) (k74 : I74.den → Bool) (g74 : I74.den → O74.den) (k45 : I45.den → Bool) (g45 : I45.den → O45.den) (k75 : I75.den → Bool) (g75 : I75.den → O75.den) (k76 : I76.den → Bool) (g76 : I76.den → O76.den) (kl4 : V31_4 → Bool) (xl4 : V31_4 → X31_4) (kl8 : V31_8 → Bool) (xl8 : V31_8 → X31_8) (x : I31.den) : Option (O31.den) :=
  let v0 := (k66 (((), 2, ()), x.snd))
  bif (v0) then
    let v1 := (g66 (((), 2, ()), x.snd))
    let v2 := (k66 (((), 3000, ()), v1.snd))
    bif (v2) then
      let v3 := (g66 (((), 3000, ()), v1.snd))
      let v4 := (k74 (((), ()), v3.snd))
      bif (v4) then
        let v5 := (g74 (((), ()), v3.snd))
        let v6 := (k66 (((), 3, ()), v5.snd))
        bif (v6) then
          let v7 := (g66 (((), 3, ()), v5.snd))
          let v8 := (k66 (((), 2, ()), v7.snd))
          bif (v8) then
            let v9 := (g66 (((), 2, ()), v7.snd))
            let v10 := (IntKind.wrap IntKind.i64 (v7.fst.fst * v9.fst.fst))
            let v11 := (IntKind.wrap IntKind.i64 (1 + v10))
            let v12 := (IntKind.wrap IntKind.i64 (2 + v1.fst.fst))
            let v13 := (IntKind.wrap IntKind.i64 (100 + v3.fst.fst))
            let v14 := (kl4 (((), (), (), v5.fst.fst, v11, ()), v9.snd.fst, (0, 0, 0, (), ()), (v12, 2, v13, (), ()), [], ()))
            bif (v14) then
              let v15 := (xl4 (((), (), (), v5.fst.fst, v11, ()), v9.snd.fst, (0, 0, 0, (), ()), (v12, 2, v13, (), ()), [], ()))
              let v16 := (k66 (((), 30, ()), v15.snd.fst, ()))
              bif (v16) then
                let v17 := (g66 (((), 30, ()), v15.snd.fst, ()))
                bif (v17.fst.fst == 0) then
                  let v18 := (k75 (((), ()), v17.snd))
                  bif (v18) then
                    let v19 := (g75 (((), ()), v17.snd))
                    some ((((v19.fst.1), ((v15.snd.snd.snd.fst.snd.1), ((v15.snd.snd.snd.fst.snd.snd.1), ((v15.snd.snd.snd.snd.1), ())))), ()), (((v19.snd.fst.1), ((v19.snd.fst.snd.1), ((v19.snd.fst.snd.snd.1), ()))), ()))
                  else
                    none
                else
                  bif (v17.fst.fst == 1) then
                    let v18 := (IntKind.wrap IntKind.i64 (v15.snd.snd.snd.fst.snd.fst + 1))
                    some ((((v15.snd.snd.snd.fst.1), ((v18), ((v15.snd.snd.snd.fst.snd.snd.1), ((v15.snd.snd.snd.snd.1), ())))), ()), (((v17.snd.fst.1), ((v17.snd.fst.snd.1), ((v17.snd.fst.snd.snd.1), ()))), ()))
                  else
                    bif (v17.fst.fst == 2) then
                      let v18 := (List.set (List.replicate 5 (zero (Ty.int IntKind.i64))) 0 9)
                      let v19 := (List.set v18 1 10)
                      let v20 := (List.set v19 2 100000)
                      let v21 := (List.set v20 3 100001)
                      let v22 := (List.set v21 4 (-1))
                      let v23 := (k76 (((), (), ()), v17.snd.fst, v22, ()))
                      bif (v23) then
                        let v24 := (g76 (((), (), ()), v17.snd.fst, v22, ()))
                        some ((((v15.snd.snd.snd.fst.1), ((v15.snd.snd.snd.fst.snd.1), ((v24.fst.1), ((v15.snd.snd.snd.snd.1), ())))), ()), (((v24.snd.fst.1), ((v24.snd.fst.snd.1), ((v24.snd.fst.snd.snd.1), ()))), ()))
                      else
                        none
                    else
                      bif (v17.fst.fst == 3) then
                        some ((((v15.snd.snd.snd.fst.1), ((v15.snd.snd.snd.fst.snd.1), ((v15.snd.snd.snd.fst.snd.snd.1), ((List.replicate 0 (zero (Ty.slice (Ty.cpx FloatKind.f32)))), ())))), ()), (((v17.snd.fst.1), ((v17.snd.fst.snd.1), ((v17.snd.fst.snd.snd.1), ()))), ()))
                      else
                        bif (v17.fst.fst == 4) then
                          bif (decide (0 ≤ 0) && decide (0 < (↑(List.length v15.snd.snd.snd.snd.fst) : Int))) then
                            let v18 := (List.getD v15.snd.snd.snd.snd.fst (Int.toNat 0) (zero (Ty.slice (Ty.cpx FloatKind.f32))))
                            bif (decide (0 ≤ 1) && decide (1 ≤ (↑(List.length v18) : Int)) && decide ((↑(List.length v18) : Int) ≤ (↑(List.length v18) : Int))) then
                              bif (decide (0 ≤ 0) && decide (0 < (↑(List.length v15.snd.snd.snd.snd.fst) : Int))) then
                                let v19 := (List.set v15.snd.snd.snd.snd.fst (Int.toNat 0) (List.drop (Int.toNat 1) (List.take (Int.toNat (↑(List.length v18) : Int)) v18)))
                                some ((((v15.snd.snd.snd.fst.1), ((v15.snd.snd.snd.fst.snd.1), ((v15.snd.snd.snd.fst.snd.snd.1), ((v19), ())))), ()), (((v17.snd.fst.1), ((v17.snd.fst.snd.1), ((v17.snd.fst.snd.snd.1), ()))), ()))
                              else
                                none
                            else
                              none
                          else
                            none
                        else
                          some ((((v15.snd.snd.snd.fst.1), ((v15.snd.snd.snd.fst.snd.1), ((v15.snd.snd.snd.fst.snd.snd.1), ((v15.snd.snd.snd.snd.1), ())))), ()), (((v17.snd.fst.1), ((v17.snd.fst.snd.1), ((v17.snd.fst.snd.snd.1), ()))), ()))
              else
                none
            else
              none
          else
            none
        else
          none
      else
        none
    else
      none
  else
    none
theorem ev31 (k66 : I66.den → Bool) (g66 : I66.den → O66.den) (k74 : I74.den → Bool) (g74 : I74.den → O74.den) (k45 : I45.den → Bool) (g45 : I45.den → O45.den) (k75 : I75.den → Bool) (g75 : I75.den → O75.den) (k76 : I76.den → Bool) (g76 : I76.den → O76.den) (kl4 : V31_4 → Bool) (xl4 : V31_4 → X31_4) (kl8 : V31_8 → Bool) (xl8 : V31_8 → X31_8) (x : I31.den) : callS (Γ31 k66 g66 k74 g74 k45 g45 k75 g75 k76 g76 kl4 xl4 kl8 xl8) (bodyOf Try.f31) I31 O31 x = r31 k66 g66 k74 g74 k45 g45 k75 g75 k76 g76 kl4 xl4 kl8 xl8 x := by kernel_rfl
def F31 (x : I31.den) : Option (O31.den) := r31 K66 G66 K74 G74 K45 G45 K75 G75 K76 G76 kL31_4 xL31_4 kL31_8 xL31_8 x
def K31 (x : I31.den) : Bool := (F31 x).isSome
def G31 (x : I31.den) : O31.den := (F31 x).getD (zeroSg O31)
theorem env31 : EnvOK Try.prog (Γ31 K66 G66 K74 G74 K45 G45 K75 G75 K76 G76 kL31_4 xL31_4 kL31_8 xL31_8) := env_ok mixed tab_ok eqs_ok (.cons sem66 (.cons sem74 (.cons sem45 (.cons sem75 (.cons sem76 .nil)))))
theorem is31 : FnIs Try.prog 31 (Γ31 K66 G66 K74 G74 K45 G45 K75 G75 K76 G76 kL31_4 xL31_4 kL31_8 xL31_8) (bodyOf Try.f31) := fnIs Try.func31 rfl rfl rfl (by kernel_rfl) (loops_ok (l := [lc31_4, lc31_8]) (by kernel_rfl) (.cons (one_loop rfl (loopX_sound (sh := sh31_4) (shX := shX31_4) (fun f v => evl31_4 K66 G66 K74 G74 K45 G45 K75 G75 K76 G76 kL31_4 xL31_4 kL31_8 xL31_8 f v) b31_4 (((), ((), ((), ()))), (([], (0, (0, ()))), ((0, (0, (0, ((), ())))), ((0, (0, (0, ((), ())))), ([], ()))))))) (.cons (one_loop rfl (loopX_sound (sh := sh31_8) (shX := shX31_8) (fun f v => evl31_8 K66 G66 K74 G74 K45 G45 K75 G75 K76 G76 kL31_4 xL31_4 kL31_8 xL31_8 f v) b31_8 (((), ((), ((), ((0, 0), (0, ((), ())))))), (([], (0, (0, ()))), ((0, (0, (0, ((), ())))), ((0, (0, (0, ((), ())))), ([], ([], ())))))))) (.nil))))
theorem sem31 : SemOK Try.prog (31, sgMean true I31 O31 K31 G31) := sg_opt env31 is31 true fun x => ev31 K66 G66 K74 G74 K45 G45 K75 G75 K76 G76 kL31_4 xL31_4 kL31_8 xL31_8 x

/- "loop.example/g03321/spec.l12Node2" mode S true -/
abbrev I32 : Sg := ⟨[.ptr 0, .val (S25)], [.box (S98)]⟩
abbrev O32 : Sg := ⟨[.val (.int .i64)], [.box (S98)]⟩
noncomputable def Γ32 (k45 : I45.den → Bool) (g45 : I45.den → O45.den) (k76 : I76.den → Bool) (g76 : I76.den → O76.den) (k66 : I66.den → Bool) (g66 : I66.den → O66.den) : Env := mkEnv tab eqs [(45, sgMean true I45 O45 k45 g45), (76, sgMean true I76 O76 k76 g76), (66, sgMean true I66 O66 k66 g66)] 17 [.tmp 4] [] [] [] [] []
def r32 (k45 : I45.den → Bool) (g45 : I45.den → O45.den) (k76 : I76.den → Bool) (g76 : I76.den → O76.den) (k66 : I66.den → Bool) (g66 : I66.den → O66.den) (x : I32.den) : Option (O32.den) :=
  let v0 := (k45 (((), 25, ()), x.snd))
  bif (v0) then
    let v1 := (g45 (((), 25, ()), x.snd))
    bif (v1.fst.1) then
      let v2 := (List.set (List.replicate 5 (zero (Ty.int IntKind.i64))) 0 (-1))
      let v3 := (List.set v2 1 9223372036854775807)
      let v4 := (List.set v3 2 4)
      let v5 := (List.set v4 3 6)
      let v6 := (List.set v5 4 9)
      let v7 := (k76 (((), (), ()), v1.snd.fst, v6, ()))
      bif (v7) then
        let v8 := (g76 (((), (), ()), v1.snd.fst, v6, ()))
        some (((v8.fst.1), ()), (((v8.snd.fst.1), ((v8.snd.fst.snd.1), ((v8.snd.fst.snd.snd.1), ()))), ()))
      else
        none
    else
      let v2 := (IntKind.wrap IntKind.i64 ((↑(List.length x.fst.snd.fst.snd.snd.snd.fst) : Int) * 0))
      let v3 := (IntKind.wrap IntKind.i64 (v2 + 4))
      let v4 := (k66 (((), v3, ()), v1.snd))
      bif (v4) then
        let v5 := (g66 (((), v3, ()), v1.snd))
        some (((v5.fst.1), ()), (((v5.snd.fst.1), ((v5.snd.fst.snd.1), ((v5.snd.fst.snd.snd.1), ()))), ()))
      else
        none
  else
    none
theorem ev32 (k45 : I45.den → Bool) (g45 : I45.den → O45.den) (k76 : I76.den → Bool) (g76 : I76.den → O76.den) (k66 : I66.den → Bool) (g66 : I66.den → O66.den) (x : I32.den) : callS (Γ32 k45 g45 k76 g76 k66 g66) (bodyOf Try.f32) I32 O32 x = r32 k45 g45 k76 g76 k66 g66 x := by kernel_rfl
def F32 (x : I32.den) : Option (O32.den) := r32 K45 G45 K76 G76 K66 G66 x
def K32 (x : I32.den) : Bool := (F32 x).isSome
def G32 (x : I32.den) : O32.den := (F32 x).getD (zeroSg O32)
theorem env32 : EnvOK Try.prog (Γ32 K45 G45 K76 G76 K66 G66) := env_ok mixed tab_ok eqs_ok (.cons sem45 (.cons sem76 (.cons sem66 .nil)))
theorem is32 : FnIs Try.prog 32 (Γ32 K45 G45 K76 G76 K66 G66) (bodyOf Try.f32) := fnIs Try.func32 rfl rfl rfl (by kernel_rfl) (noLoops (by kernel_rfl))
theorem sem32 : SemOK Try.prog (32, sgMean true I32 O32 K32 G32) := sg_opt env32 is32 true fun x => ev32 K45 G45 K76 G76 K66 G66 x

/- "loop.example/g03321/spec.l12Time" mode S true -/
abbrev I33 : Sg := ⟨[.ptr 0], [.box (S98)]⟩
abbrev O33 : Sg := ⟨[.val (.int .i64)], [.box (S98)]⟩
noncomputable def Γ33 (k45 : I45.den → Bool) (g45 : I45.den → O45.den) (k76 : I76.den → Bool) (g76 : I76.den → O76.den) (k66 : I66.den → Bool) (g66 : I66.den → O66.den) : Env := mkEnv tab eqs [(45, sgMean true I45 O45 k45 g45), (76, sgMean true I76 O76 k76 g76), (66, sgMean true I66 O66 k66 g66)] 10 [.tmp 2] [] [] [] [] []
def r33 (k45 : I45.den → Bool) (g45 : I45.den → O45.den) (k76 : I76.den → Bool) (g76 : I76.den → O76.den) (k66 : I66.den → Bool) (g66 : I66.den → O66.den) (x : I33.den) : Option (O33.den) :=
  let v0 := (k45 (((), 15, ()), x.snd))
  bif (v0) then
    let v1 := (g45 (((), 15, ()), x.snd))
    bif (v1.fst.1) then
      let v2 := (List.set (List.replicate 5 (zero (Ty.int IntKind.i64))) 0 (-1))
      let v3 := (List.set v2 1 0)
      let v4 := (List.set v3 2 10000000)
      let v5 := (List.set v4 3 10000001)
      let v6 := (List.set v5 4 9999500)
      let v7 := (k76 (((), (), ()), v1.snd.fst, v6, ()))
      bif (v7) then
        let v8 := (g76 (((), (), ()), v1.snd.fst, v6, ()))
        some (((v8.fst.1), ()), (((v8.snd.fst.1), ((v8.snd.fst.snd.1), ((v8.snd.fst.snd.snd.1), ()))), ()))
      else
        none
    else
      let v2 := (k66 (((), 9000, ()), v1.snd))
      bif (v2) then
        let v3 := (g66 (((), 9000, ()), v1.snd))
        some (((v3.fst.1), ()), (((v3.snd.fst.1), ((v3.snd.fst.snd.1), ((v3.snd.fst.snd.snd.1), ()))), ()))
      else
        none
  else
    none
theorem ev33 (k45 : I45.den → Bool) (g45 : I45.den → O45.den) (k76 : I76.den → Bool) (g76 : I76.den → O76.den) (k66 : I66.den → Bool) (g66 : I66.den → O66.den) (x : I33.den) : callS (Γ33 k45 g45 k76 g76 k66 g66) (bodyOf Try.f33) I33 O33 x = r33 k45 g45 k76 g76 k66 g66 x := by kernel_rfl
def F33 (x : I33.den) : Option (O33.den) := r33 K45 G45 K76 G76 K66 G66 x
def K33 (x : I33.den) : Bool := (F33 x).isSome
def G33 (x : I33.den) : O33.den := (F33 x).getD (zeroSg O33)
theorem env33 : EnvOK Try.prog (Γ33 K45 G45 K76 G76 K66 G66) := env_ok mixed tab_ok eqs_ok (.cons sem45 (.cons sem76 (.cons sem66 .nil)))
theorem is33 : FnIs Try.prog 33 (Γ33 K45 G45 K76 G76 K66 G66) (bodyOf Try.f33) := fnIs Try.func33 rfl rfl rfl (by kernel_rfl) (noLoops (by kernel_rfl))
theorem sem33 : SemOK Try.prog (33, sgMean true I33 O33 K33 G33) := sg_opt env33 is33 true fun x => ev33 K45 G45 K76 G76 K66 G66 x

/- "loop.example/g03321/spec.DrawWindAt" -/
abbrev A8 : Ty := .cons (.slice (.int .u8)) (.nil)
abbrev R8 : Ty := .cons (S25) (.cons (.int .i64) (.cons (.int .i64) (.nil)))
noncomputable def Γ8 (k30 : I30.den → Bool) (g30 : I30.den → O30.den) (k31 : I31.den → Bool) (g31 : I31.den → O31.den) (k32 : I32.den → Bool) (g32 : I32.den → O32.den) (k33 : I33.den → Bool) (g33 : I33.den → O33.den) : Env := mkEnv tab eqs [(30, sgMean false I30 O30 k30 g30), (31, sgMean true I31 O31 k31 g31), (32, sgMean true I32 O32 k32 g32), (33, sgMean true I33 O33 k33 g33)] 19 [.cell 2 26, .tmp 3, .tmp 4] [] [] [] [] []
def r8 (k30 : I30.den → Bool) (g30 : I30.den → O30.den) (k31 : I31.den → Bool) (g31 : I31.den → O31.den) (k32 : I32.den → Bool) (g32 : I32.den → O32.den) (k33 : I33.den → Bool) (g33 : I33.den → O33.den) (x : Den A8) : Option (Den R8) :=
  let v0 := (k30 (x, ()))
  bif (v0) then
    let v1 := (g30 (x, ()))
    let v2 := (k31 (((), ()), v1.snd))
    bif (v2) then
      let v3 := (g31 (((), ()), v1.snd))
      let v4 := (k32 (((), v3.fst), v3.snd))
      bif (v4) then
        let v5 := (g32 (((), v3.fst), v3.snd))
        let v6 := (k33 (((), ()), v5.snd))
        bif (v6) then
          let v7 := (g33 (((), ()), v5.snd))
          some (((v3.fst.fst.1), ((v3.fst.fst.snd.1), ((v3.fst.fst.snd.snd.1), ((v3.fst.fst.snd.snd.snd.1), ())))), ((v5.fst.1), ((v7.fst.1), ())))
        else
          none
      else
        none
    else
      none
  else
    none
theorem ev8 (k30 : I30.den → Bool) (g30 : I30.den → O30.den) (k31 : I31.den → Bool) (g31 : I31.den → O31.den) (k32 : I32.den → Bool) (g32 : I32.den → O32.den) (k33 : I33.den → Bool) (g33 : I33.den → O33.den) (x : Den A8) : callK (Γ8 k30 g30 k31 g31 k32 g32 k33 g33) (bodyOf Try.f8) (decR R8) (encA A8 x) [] = r8 k30 g30 k31 g31 k32 g32 k33 g33 x := by kernel_rfl
def F8 (x : Den A8) : Option (Den R8) := r8 K30 G30 K31 G31 K32 G32 K33 G33 x
def K8 (x : Den A8) : Bool := (F8 x).isSome
def G8 (x : Den A8) : Den R8 := (F8 x).getD (zero R8)
theorem env8 : EnvOK Try.prog (Γ8 K30 G30 K31 G31 K32 G32 K33 G33) := env_ok mixed tab_ok eqs_ok (.cons sem30 (.cons sem31 (.cons sem32 (.cons sem33 .nil))))
theorem is8 : FnIs Try.prog 8 (Γ8 K30 G30 K31 G31 K32 G32 K33 G33) (bodyOf Try.f8) := fnIs Try.func8 rfl rfl rfl (by kernel_rfl) (noLoops (by kernel_rfl))
theorem sem8 : SemOK Try.prog (8, fnMean A8 R8 K8 G8) := fn_opt env8 is8 fun x => ev8 K30 G30 K31 G31 K32 G32 K33 G33 x

/- "loop.example/g03321/impl.within" -/
abbrev A48 : Ty := .cons (.int .i64) (.cons (.int .i64) (.cons (.int .i64) (.nil)))
abbrev R48 : Ty := .cons (.bool) (.nil)
noncomputable def Γ48 : Env := mkEnv tab eqs [] 15 [.tmp 6] [] [] [] [] []
def r48 (x : Den A48) : Option (Den R48) :=
  bif (decide (x.fst ≥ x.snd.fst)) then
    some ((decide (x.fst ≤ x.snd.snd.fst)), ())
  else
    some ((false), ())
theorem ev48 (x : Den A48) : callK (Γ48) (bodyOf Try.f48) (decR R48) (encA A48 x) [] = r48 x := by kernel_rfl
def F48 (x : Den A48) : Option (Den R48) := r48 x
def K48 (x : Den A48) : Bool := (F48 x).isSome
def G48 (x : Den A48) : Den R48 := (F48 x).getD (zero R48)
theorem env48 : EnvOK Try.prog (Γ48) := env_ok mixed tab_ok eqs_ok .nil
theorem is48 : FnIs Try.prog 48 (Γ48) (bodyOf Try.f48) := fnIs Try.func48 rfl rfl rfl (by kernel_rfl) (noLoops (by kernel_rfl))
theorem sem48 : SemOK Try.prog (48, fnMean A48 R48 K48 G48) := fn_opt env48 is48 fun x => ev48 x

/- "loop.example/g03321/impl.amount" -/
abbrev A67 : Ty := .cons (.flt .f32) (.nil)
abbrev R67 : Ty := .cons (.flt .f32) (.nil)
noncomputable def Γ67 : Env := mkEnv tab eqs [] 8 [.tmp 2] [] [] [] [] []
def r67 (x : Den A67) : Option (Den R67) :=
  bif (flt FloatKind.f32 x.fst 0) then
    let v0 := (fneg FloatKind.f32 x.fst)
    some ((v0), ())
  else
    some ((x.1), ())
theorem ev67 (x : Den A67) : callK (Γ67) (bodyOf Try.f67) (decR R67) (encA A67 x) [] = r67 x := by kernel_rfl
def F67 (x : Den A67) : Option (Den R67) := r67 x
def K67 (x : Den A67) : Bool := (F67 x).isSome
def G67 (x : Den A67) : Den R67 := (F67 x).getD (zero R67)
theorem env67 : EnvOK Try.prog (Γ67) := env_ok mixed tab_ok eqs_ok .nil
theorem is67 : FnIs Try.prog 67 (Γ67) (bodyOf Try.f67) := fnIs Try.func67 rfl rfl rfl (by kernel_rfl) (noLoops (by kernel_rfl))
theorem sem67 : SemOK Try.prog (67, fnMean A67 R67 K67 G67) := fn_opt env67 is67 fun x => ev67 x

/- "loop.example/g03321/impl.VelocityOk" -/
abbrev A103 : Ty := .cons (.cpx .f32) (.nil)
abbrev R103 : Ty := .cons (.bool) (.nil)
noncomputable def Γ103 (k67 : Den A67 → Bool) (g67 : Den A67 → Den R67) : Env := mkEnv tab eqs [(67, fnMean A67 R67 k67 g67)] 13 [.tmp 2] [] [] [] [] []
def r103 (k67 : Den A67 → Bool) (g67 : Den A67 → Den R67) (x : Den A103) : Option (Den R103) :=
  let v0 := (k67 (x.fst.fst, ()))
  bif (v0) then
    let v1 := (g67 (x.fst.fst, ()))
    bif (flt FloatKind.f32 v1.fst 1120403456 || feq FloatKind.f32 v1.fst 1120403456) then
      let v2 := (k67 (x.fst.snd, ()))
      bif (v2) then
        let v3 := (g67 (x.fst.snd, ()))
        some ((flt FloatKind.f32 v3.fst 1120403456 || feq FloatKind.f32 v3.fst 1120403456), ())
      else
        none
    else
      some ((false), ())
  else
    none
theorem ev103 (k67 : Den A67 → Bool) (g67 : Den A67 → Den R67) (x : Den A103) : callK (Γ103 k67 g67) (bodyOf Try.f103) (decR R103) (encA A103 x) [] = r103 k67 g67 x := by kernel_rfl
def F103 (x : Den A103) : Option (Den R103) := r103 K67 G67 x
def K103 (x : Den A103) : Bool := (F103 x).isSome
def G103 (x : Den A103) : Den R103 := (F103 x).getD (zero R103)
theorem env103 : EnvOK Try.prog (Γ103 K67 G67) := env_ok mixed tab_ok eqs_ok (.cons sem67 .nil)
theorem is103 : FnIs Try.prog 103 (Γ103 K67 G67) (bodyOf Try.f103) := fnIs Try.func103 rfl rfl rfl (by kernel_rfl) (noLoops (by kernel_rfl))
theorem sem103 : SemOK Try.prog (103, fnMean A103 R103 K103 G103) := fn_opt env103 is103 fun x => ev103 K67 G67 x

/- "loop.example/g03321/impl.velocitiesOk" -/
abbrev A77 : Ty := .cons (.slice (.cpx .f32)) (.nil)
abbrev R77 : Ty := .cons (.bool) (.nil)
abbrev V77_2 : Type := (((List (Den (.cpx .f32))) × (Int × (Int × Unit))) × Unit)
def sh77_2 : ShS := ⟨[(5, .one (.sl (.cpx .f32))), (6, .one (.int .i64)), (7, .one (.int .i64))], [], 0, 0⟩
abbrev X77_2 : Type := (Unit × Unit)
def shX77_2 : ShS := ⟨[], [], 0, 0⟩
abbrev Y77_2 : Type := ((Bool × Unit) × Unit)
def shY77_2 : ShS := ⟨[(2, .one (.bool))], [], 0, 0⟩
noncomputable def Γ77 (k103 : Den A103 → Bool) (g103 : Den A103 → Den R103) (kl2 : V77_2 → Bool) (xl2 : V77_2 → X77_2) (tl2 : V77_2 → Bool) (yl2 : V77_2 → Y77_2) : Env := mkEnv tab eqs [(103, fnMean A103 R103 k103 g103)] 15 [.tmp 2] [] [] [(2, loopR [5, 6, 7] [] 0 [] [] sh77_2 shX77_2 shY77_2 kl2 tl2 xl2 yl2)] [] []
noncomputable def lc77_2 : Code := (loopsOf (bodyOf Try.f77)).getD 0 .skip
def q77_2 (k103 : Den A103 → Bool) (g103 : Den A103 → Den R103) (f : V77_2 → Option (X77_2 ⊕ Y77_2)) (v : V77_2) : Option (X77_2 ⊕ Y77_2) :=
  bif (decide (v.fst.snd.snd.fst < v.fst.snd.fst)) then
    bif (decide (0 ≤ v.fst.snd.snd.fst) && decide (v.fst.snd.snd.fst < (↑(List.length v.fst.fst) : Int))) then
      let v0 := (List.getD v.fst.fst (Int.toNat v.fst.snd.snd.fst) (zero (Ty.cpx FloatKind.f32)))
      let v1 := (k103 (v0, ()))
      bif (v1) then
        let v2 := (g103 (v0, ()))
        bif (!v2.fst) then
          some (Sum.inr (((false), ()), ()))
        else
          let v3 := (IntKind.wrap IntKind.i64 (v.fst.snd.snd.fst + 1))
          f (((v.fst.1), ((v.fst.snd.1), ((v3), ()))), ())
      else
        none
    else
      none
  else
    some (Sum.inl ((), ()))
theorem evl77_2 (k103 : Den A103 → Bool) (g103 : Den A103 → Den R103) (kl2 : V77_2 → Bool) (xl2 : V77_2 → X77_2) (tl2 : V77_2 → Bool) (yl2 : V77_2 → Y77_2) (f : V77_2 → Option (X77_2 ⊕ Y77_2)) (v : V77_2) : EBk (Γ77 k103 g103 kl2 xl2 tl2 yl2) lc77_2 (roundK [5, 6, 7] [] 0 [] [] (atS sh77_2 f) (endS shX77_2 shY77_2)) (mkS sh77_2 v) = q77_2 k103 g103 f v := by kernel_rfl
def b77_2 (v : V77_2) : Nat := v.1.1.length + v.1.2.1.natAbs + v.1.2.2.1.natAbs + 1000
def l77_2 (v : V77_2) : Option (X77_2 ⊕ Y77_2) := iter (q77_2 K103 G103) (b77_2 v) v
def kL77_2 (v : V77_2) : Bool := (l77_2 v).isSome
def tL77_2 (v : V77_2) : Bool := isR (l77_2 v)
def xL77_2 (v : V77_2) : X77_2 := xOf ((), ()) (l77_2 v)
def yL77_2 (v : V77_2) : Y77_2 := yOf ((false, ()), ()) (l77_2 v)
def r77 (k103 : Den A103 → Bool) (g103 : Den A103 → Den R103) (kl2 : V77_2 → Bool) (xl2 : V77_2 → X77_2) (tl2 : V77_2 → Bool) (yl2 : V77_2 → Y77_2) (x : Den A77) : Option (Den R77) :=
  let v0 := (kl2 ((x.fst, (↑(List.length x.fst) : Int), 0, ()), ()))
  bif (v0) then
    let v1 := (tl2 ((x.fst, (↑(List.length x.fst) : Int), 0, ()), ()))
    bif (v1) then
      let v2 := (yl2 ((x.fst, (↑(List.length x.fst) : Int), 0, ()), ()))
      some ((v2.fst.1), ())
    else
      some ((true), ())
  else
    none
theorem ev77 (k103 : Den A103 → Bool) (g103 : Den A103 → Den R103) (kl2 : V77_2 → Bool) (xl2 : V77_2 → X77_2) (tl2 : V77_2 → Bool) (yl2 : V77_2 → Y77_2) (x : Den A77) : callK (Γ77 k103 g103 kl2 xl2 tl2 yl2) (bodyOf Try.f77) (decR R77) (encA A77 x) [] = r77 k103 g103 kl2 xl2 tl2 yl2 x := by kernel_rfl
def F77 (x : Den A77) : Option (Den R77) := r77 K103 G103 kL77_2 xL77_2 tL77_2 yL77_2 x
def K77 (x : Den A77) : Bool := (F77 x).isSome
def G77 (x : Den A77) : Den R77 := (F77 x).getD (zero R77)
theorem env77 : EnvOK Try.prog (Γ77 K103 G103 kL77_2 xL77_2 tL77_2 yL77_2) := env_ok mixed tab_ok eqs_ok (.cons sem103 .nil)
theorem is77 : FnIs Try.prog 77 (Γ77 K103 G103 kL77_2 xL77_2 tL77_2 yL77_2) (bodyOf Try.f77) := fnIs Try.func77 rfl rfl rfl (by kernel_rfl) (loops_ok (l := [lc77_2]) (by kernel_rfl) (.cons (one_loop rfl (loopR_sound (sh := sh77_2) (shX := shX77_2) (shR := shY77_2) (fun f v => evl77_2 K103 G103 kL77_2 xL77_2 tL77_2 yL77_2 f v) b77_2 ((), ()) ((false, ()), ()))) (.nil)))
theorem sem77 : SemOK Try.prog (77, fnMean A77 R77 K77 G77) := fn_opt env77 is77 fun x => ev77 K103 G103 kL77_2 xL77_2 tL77_2 yL77_2 x

/- "loop.example/g03321/impl.FieldOk" -/
abbrev A34 : Ty := .cons (S25) (.nil)
abbrev R34 : Ty := .cons (.bool) (.nil)
abbrev V34_4 : Type := ((Unit × ((List (Den (.slice (.cpx .f32)))) × (Int × (Int × Unit)))) × ((Int × (Int × (Int × ((List (Den (.slice (.cpx .f32)))) × Unit)))) × Unit))
def sh34_4 : ShS := ⟨[(1, .one (.ptr 0 0)), (29, .one (.sl (.slice (.cpx .f32)))), (30, .one (.int .i64)), (31, .one (.int .i64))], [(0, .box [.int .i64, .int .i64, .int .i64, .sl (.slice (.cpx .f32))])], 1, 0⟩
abbrev X34_4 : Type := (Unit × Unit)
def shX34_4 : ShS := ⟨[], [], 0, 0⟩
abbrev Y34_4 : Type := ((Bool × Unit) × Unit)
def shY34_4 : ShS := ⟨[(2, .one (.bool))], [], 0, 0⟩
noncomputable def Γ34 (k48 : Den A48 → Bool) (g48 : Den A48 → Den R48) (k77 : Den A77 → Bool) (g77 : Den A77 → Den R77) (kl4 : V34_4 → Bool) (xl4 : V34_4 → X34_4) (tl4 : V34_4 → Bool) (yl4 : V34_4 → Y34_4) : Env := mkEnv tab eqs [(48, fnMean A48 R48 k48 g48), (77, fnMean A77 R77 k77 g77)] 49 [.tmp 2] [] [] [(4, loopR [1, 29, 30, 31] [] 0 [] [] sh34_4 shX34_4 shY34_4 kl4 tl4 xl4 yl4)] [] []
noncomputable def lc34_4 : Code := (loopsOf (bodyOf Try.f34)).getD 0 .skip
def q34_4 (k48 : Den A48 → Bool) (g48 : Den A48 → Den R48) (k77 : Den A77 → Bool) (g77 : Den A77 → Den R77) (f : V34_4 → Option (X34_4 ⊕ Y34_4)) (v : V34_4) : Option (X34_4 ⊕ Y34_4) :=
  bif (decide (v.fst.snd.snd.snd.fst < v.fst.snd.snd.fst)) then
    bif (decide (0 ≤ v.fst.snd.snd.snd.fst) && decide (v.fst.snd.snd.snd.fst < (↑(List.length v.fst.snd.fst) : Int))) then
      let v0 := (List.getD v.fst.snd.fst (Int.toNat v.fst.snd.snd.snd.fst) (zero (Ty.slice (Ty.cpx FloatKind.f32))))
      let v1 := (IntKind.wrap IntKind.i64 (v.snd.fst.fst * v.snd.fst.snd.fst))
      bif ((↑(List.length v0) : Int) != v1) then
        some (Sum.inr (((false), ()), ()))
      else
        let v2 := (k77 (v0, ()))
        bif (v2) then
          let v3 := (g77 (v0, ()))
          bif (!v3.fst) then
            some (Sum.inr (((false), ()), ()))
          else
            let v4 := (IntKind.wrap IntKind.i64 (v.fst.snd.snd.snd.fst + 1))
            f (((), ((v.fst.snd.1), ((v.fst.snd.snd.1), ((v4), ())))), (((v.snd.fst.1), ((v.snd.fst.snd.1), ((v.snd.fst.snd.snd.1), ((v.snd.fst.snd.snd.snd.1), ())))), ()))
        else
          none
    else
      none
  else
    some (Sum.inl ((), ()))
theorem evl34_4 (k48 : Den A48 → Bool) (g48 : Den A48 → Den R48) (k77 : Den A77 → Bool) (g77 : Den A77 → Den R77) (kl4 : V34_4 → Bool) (xl4 : V34_4 → X34_4) (tl4 : V34_4 → Bool) (yl4 : V34_4 → Y34_4) (f : V34_4 → Option (X34_4 ⊕ Y34_4)) (v : V34_4) : EBk (Γ34 k48 g48 k77 g77 kl4 xl4 tl4 yl4) lc34_4 (roundK [1, 29, 30, 31] [] 0 [] [] (atS sh34_4 f) (endS shX34_4 shY34_4)) (mkS sh34_4 v) = q34_4 k48 g48 k77 g77 f v := by kernel_rfl
def b34_4 (v : V34_4) : Nat := v.1.2.1.length + v.1.2.2.1.natAbs + v.1.2.2.2.1.natAbs + v.2.1.1.natAbs + v.2.1.2.1.natAbs + v.2.1.2.2.1.natAbs + v.2.1.2.2.2.1.length + 1000
def l34_4 (v : V34_4) : Option (X34_4 ⊕ Y34_4) := iter (q34_4 K48 G48 K77 G77) (b34_4 v) v
def kL34_4 (v : V34_4) : Bool := (l34_4 v).isSome
def tL34_4 (v : V34_4) : Bool := isR (l34_4 v)
def xL34_4 (v : V34_4) : X34_4 := xOf ((), ()) (l34_4 v)
def yL34_4 (v : V34_4) : Y34_4 := yOf ((false, ()), ()) (l34_4 v)
def r34 (k48 : Den A48 → Bool) (g48 : Den A48 → Den R48) (k77 : Den A77 → Bool) (g77 : Den A77 → Den R77) (kl4 : V34_4 → Bool) (xl4 : V34_4 → X34_4) (tl4 : V34_4 → Bool) (yl4 : V34_4 → Y34_4) (x : Den A34) : Option (Den R34) :=
  let v0 := (k48 (x.fst.fst, 2, 12, ()))
  bif (v0) then
    let v1 := (g48 (x.fst.fst, 2, 12, ()))
    bif (!v1.fst) then
      some ((false), ())
    else
      let v2 := (k48 (x.fst.snd.fst, 2, 12, ()))
      bif (v2) then
        let v3 := (g48 (x.fst.snd.fst, 2, 12, ()))
        bif (!v3.fst) then
          some ((false), ())
        else
          let v4 := (k48 (x.fst.snd.snd.fst, 10, 100000, ()))
          bif (v4) then
            let v5 := (g48 (x.fst.snd.snd.fst, 10, 100000, ()))
            bif (!v5.fst) then
              some ((false), ())
            else
              let v6 := (k48 ((↑(List.length x.fst.snd.snd.snd.fst) : Int), 1, 24, ()))
              bif (v6) then
                let v7 := (g48 ((↑(List.length x.fst.snd.snd.snd.fst) : Int), 1, 24, ()))
                bif (!v7.fst) then
                  some ((false), ())
                else
                  let v8 := (kl4 (((), x.fst.snd.snd.snd.fst, (↑(List.length x.fst.snd.snd.snd.fst) : Int), 0, ()), x))
                  bif (v8) then
                    let v9 := (tl4 (((), x.fst.snd.snd.snd.fst, (↑(List.length x.fst.snd.snd.snd.fst) : Int), 0, ()), x))
                    bif (v9) then
                      let v10 := (yl4 (((), x.fst.snd.snd.snd.fst, (↑(List.length x.fst.snd.snd.snd.fst) : Int), 0, ()), x))
                      some ((v10.fst.1), ())
                    else
                      some ((true), ())
                  else
                    none
              else
                none
          else
            none
      else
        none
  else
    none
theorem ev34 (k48 : Den A48 → Bool) (g48 : Den A48 → Den R48) (k77 : Den A77 → Bool) (g77 : Den A77 → Den R77) (kl4 : V34_4 → Bool) (xl4 : V34_4 → X34_4) (tl4 : V34_4 → Bool) (yl4 : V34_4 → Y34_4) (x : Den A34) : callK (Γ34 k48 g48 k77 g77 kl4 xl4 tl4 yl4) (bodyOf Try.f34) (decR R34) (encA A34 x) [] = r34 k48 g48 k77 g77 kl4 xl4 tl4 yl4 x := by kernel_rfl
def F34 (x : Den A34) : Option (Den R34) := r34 K48 G48 K77 G77 kL34_4 xL34_4 tL34_4 yL34_4 x
def K34 (x : Den A34) : Bool := (F34 x).isSome
def G34 (x : Den A34) : Den R34 := (F34 x).getD (zero R34)
theorem env34 : EnvOK Try.prog (Γ34 K48 G48 K77 G77 kL34_4 xL34_4 tL34_4 yL34_4) := env_ok mixed tab_ok eqs_ok (.cons sem48 (.cons sem77 .nil))
theorem is34 : FnIs Try.prog 34 (Γ34 K48 G48 K77 G77 kL34_4 xL34_4 tL34_4 yL34_4) (bodyOf Try.f34) := fnIs Try.func34 rfl rfl rfl (by kernel_rfl) (loops_ok (l := [lc34_4]) (by kernel_rfl) (.cons (one_loop rfl (loopR_sound (sh := sh34_4) (shX := shX34_4) (shR := shY34_4) (fun f v => evl34_4 K48 G48 K77 G77 kL34_4 xL34_4 tL34_4 yL34_4 f v) b34_4 ((), ()) ((false, ()), ()))) (.nil)))
theorem sem34 : SemOK Try.prog (34, fnMean A34 R34 K34 G34) := fn_opt env34 is34 fun x => ev34 K48 G48 K77 G77 kL34_4 xL34_4 tL34_4 yL34_4 x

/- "(loop.example/g03321/impl.Field).has" -/
abbrev A35 : Ty := .cons (S25) (.cons (.int .i64) (.nil))
abbrev R35 : Ty := .cons (.bool) (.nil)
noncomputable def Γ35 (k48 : Den A48 → Bool) (g48 : Den A48 → Den R48) : Env := mkEnv tab eqs [(48, fnMean A48 R48 k48 g48)] 13 [.tmp 4] [] [] [] [] []
def r35 (k48 : Den A48 → Bool) (g48 : Den A48 → Den R48) (x : Den A35) : Option (Den R35) :=
  let v0 := (IntKind.wrap IntKind.i64 (x.fst.fst * x.fst.snd.fst))
  let v1 := (IntKind.wrap IntKind.i64 (v0 - 1))
  let v2 := (k48 (x.snd.fst, 0, v1, ()))
  bif (v2) then
    let v3 := (g48 (x.snd.fst, 0, v1, ()))
    some ((v3.1), ())
  else
    none
theorem ev35 (k48 : Den A48 → Bool) (g48 : Den A48 → Den R48) (x : Den A35) : callK (Γ35 k48 g48) (bodyOf Try.f35) (decR R35) (encA A35 x) [] = r35 k48 g48 x := by kernel_rfl
def F35 (x : Den A35) : Option (Den R35) := r35 K48 G48 x
def K35 (x : Den A35) : Bool := (F35 x).isSome
def G35 (x : Den A35) : Den R35 := (F35 x).getD (zero R35)
theorem env35 : EnvOK Try.prog (Γ35 K48 G48) := env_ok mixed tab_ok eqs_ok (.cons sem48 .nil)
theorem is35 : FnIs Try.prog 35 (Γ35 K48 G48) (bodyOf Try.f35) := fnIs Try.func35 rfl rfl rfl (by kernel_rfl) (noLoops (by kernel_rfl))
theorem sem35 : SemOK Try.prog (35, fnMean A35 R35 K35 G35) := fn_opt env35 is35 fun x => ev35 K48 G48 x

/- "(loop.example/g03321/impl.Field).at" -/
abbrev A36 : Ty := .cons (S25) (.cons (.int .i64) (.nil))
abbrev R36 : Ty := .cons (.cpx .f64) (.nil)
noncomputable def Γ36 : Env := mkEnv tab eqs [] 22 [.tmp 4] [] [] [] [] []
def r36 (x : Den A36) : Option (Den R36) :=
  bif (x.fst.fst != 0) then
    bif (x.fst.fst != 0) then
      let v0 := (IntKind.wrap IntKind.i64 (Int.tdiv x.snd.fst x.fst.fst))
      let v1 := (IntKind.wrap IntKind.i64 (v0 * x.fst.snd.snd.fst))
      let v2 := (IntKind.wrap IntKind.i64 (Int.tmod x.snd.fst x.fst.fst * x.fst.snd.snd.fst))
      some (((FloatKind.nearest FloatKind.f64 v1), (FloatKind.nearest FloatKind.f64 v2)), ())
    else
      none
  else
    none
theorem ev36 (x : Den A36) : callK (Γ36) (bodyOf Try.f36) (decR R36) (encA A36 x) [] = r36 x := by kernel_rfl
def F36 (x : Den A36) : Option (Den R36) := r36 x
def K36 (x : Den A36) : Bool := (F36 x).isSome
def G36 (x : Den A36) : Den R36 := (F36 x).getD (zero R36)
theorem env36 : EnvOK Try.prog (Γ36) := env_ok mixed tab_ok eqs_ok .nil
theorem is36 : FnIs Try.prog 36 (Γ36) (bodyOf Try.f36) := fnIs Try.func36 rfl rfl rfl (by kernel_rfl) (noLoops (by kernel_rfl))
theorem sem36 : SemOK Try.prog (36, fnMean A36 R36 K36 G36) := fn_opt env36 is36 fun x => ev36 x

/- "loop.example/g03321/impl.NodeAt" -/
abbrev A9 : Ty := .cons (S25) (.cons (.int .i64) (.nil))
abbrev R9 : Ty := .cons (.cpx .f64) (.cons (.bool) (.nil))
noncomputable def Γ9 (k34 : Den A34 → Bool) (g34 : Den A34 → Den R34) (k35 : Den A35 → Bool) (g35 : Den A35 → Den R35) (k36 : Den A36 → Bool) (g36 : Den A36 → Den R36) : Env := mkEnv tab eqs [(34, fnMean A34 R34 k34 g34), (35, fnMean A35 R35 k35 g35), (36, fnMean A36 R36 k36 g36)] 18 [.tmp 4, .tmp 5] [] [] [] [] []
def r9 (k34 : Den A34 → Bool) (g34 : Den A34 → Den R34) (k35 : Den A35 → Bool) (g35 : Den A35 → Den R35) (k36 : Den A36 → Bool) (g36 : Den A36 → Den R36) (x : Den A9) : Option (Den R9) :=
  let v0 := (k34 (x.fst, ()))
  bif (v0) then
    let v1 := (g34 (x.fst, ()))
    bif (!v1.fst) then
      some (((0), (0)), ((false), ()))
    else
      let v2 := (k35 x)
      bif (v2) then
        let v3 := (g35 x)
        bif (!v3.fst) then
          some (((0), (0)), ((false), ()))
        else
          let v4 := (k36 x)
          bif (v4) then
            let v5 := (g36 x)
            some (((v5.fst.1), (v5.fst.2)), ((true), ()))
          else
            none
      else
        none
  else
    none
theorem ev9 (k34 : Den A34 → Bool) (g34 : Den A34 → Den R34) (k35 : Den A35 → Bool) (g35 : Den A35 → Den R35) (k36 : Den A36 → Bool) (g36 : Den A36 → Den R36) (x : Den A9) : callK (Γ9 k34 g34 k35 g35 k36 g36) (bodyOf Try.f9) (decR R9) (encA A9 x) [] = r9 k34 g34 k35 g35 k36 g36 x := by kernel_rfl
def F9 (x : Den A9) : Option (Den R9) := r9 K34 G34 K35 G35 K36 G36 x
def K9 (x : Den A9) : Bool := (F9 x).isSome
def G9 (x : Den A9) : Den R9 := (F9 x).getD (zero R9)
theorem env9 : EnvOK Try.prog (Γ9 K34 G34 K35 G35 K36 G36) := env_ok mixed tab_ok eqs_ok (.cons sem34 (.cons sem35 (.cons sem36 .nil)))
theorem is9 : FnIs Try.prog 9 (Γ9 K34 G34 K35 G35 K36 G36) (bodyOf Try.f9) := fnIs Try.func9 rfl rfl rfl (by kernel_rfl) (noLoops (by kernel_rfl))
theorem sem9 : SemOK Try.prog (9, fnMean A9 R9 K9 G9) := fn_opt env9 is9 fun x => ev9 K34 G34 K35 G35 K36 G36 x

/- "loop.example/g03321/impl.timeOk" -/
abbrev A37 : Ty := .cons (.int .i64) (.nil)
abbrev R37 : Ty := .cons (.bool) (.nil)
noncomputable def Γ37 (k48 : Den A48 → Bool) (g48 : Den A48 → Den R48) : Env := mkEnv tab eqs [(48, fnMean A48 R48 k48 g48)] 5 [.tmp 2] [] [] [] [] []
def r37 (k48 : Den A48 → Bool) (g48 : Den A48 → Den R48) (x : Den A37) : Option (Den R37) :=
  let v0 := (k48 (x.fst, 0, 10000000, ()))
  bif (v0) then
    let v1 := (g48 (x.fst, 0, 10000000, ()))
    some ((v1.1), ())
  else
    none
theorem ev37 (k48 : Den A48 → Bool) (g48 : Den A48 → Den R48) (x : Den A37) : callK (Γ37 k48 g48) (bodyOf Try.f37) (decR R37) (encA A37 x) [] = r37 k48 g48 x := by kernel_rfl
def F37 (x : Den A37) : Option (Den R37) := r37 K48 G48 x
def K37 (x : Den A37) : Bool := (F37 x).isSome
def G37 (x : Den A37) : Den R37 := (F37 x).getD (zero R37)
theorem env37 : EnvOK Try.prog (Γ37 K48 G48) := env_ok mixed tab_ok eqs_ok (.cons sem48 .nil)
theorem is37 : FnIs Try.prog 37 (Γ37 K48 G48) (bodyOf Try.f37) := fnIs Try.func37 rfl rfl rfl (by kernel_rfl) (noLoops (by kernel_rfl))
theorem sem37 : SemOK Try.prog (37, fnMean A37 R37 K37 G37) := fn_opt env37 is37 fun x => ev37 K48 G48 x

/- "loop.example/g03321/impl.WindAt" -/
abbrev A10 : Ty := .cons (S25) (.cons (.int .i64) (.cons (.int .i64) (.nil)))
abbrev R10 : Ty := .cons (.cpx .f32) (.cons (.bool) (.nil))
noncomputable def Γ10 (k34 : Den A34 → Bool) (g34 : Den A34 → Den R34) (k35 : Den A35 → Bool) (g35 : Den A35 → Den R35) (k37 : Den A37 → Bool) (g37 : Den A37 → Den R37) : Env := mkEnv tab eqs [(34, fnMean A34 R34 k34 g34), (35, fnMean A35 R35 k35 g35), (37, fnMean A37 R37 k37 g37)] 36 [.tmp 6, .tmp 7] [] [] [] [] []
def r10 (k34 : Den A34 → Bool) (g34 : Den A34 → Den R34) (k35 : Den A35 → Bool) (g35 : Den A35 → Den R35) (k37 : Den A37 → Bool) (g37 : Den A37 → Den R37) (x : Den A10) : Option (Den R10) :=
  let v0 := (k34 (x.fst, ()))
  bif (v0) then
    let v1 := (g34 (x.fst, ()))
    bif (!v1.fst) then
      some (((0), (0)), ((false), ()))
    else
      let v2 := (k35 (x.fst, x.snd.fst, ()))
      bif (v2) then
        let v3 := (g35 (x.fst, x.snd.fst, ()))
        bif (!v3.fst) then
          some (((0), (0)), ((false), ()))
        else
          let v4 := (k37 x.snd.snd)
          bif (v4) then
            let v5 := (g37 x.snd.snd)
            bif (!v5.fst) then
              some (((0), (0)), ((false), ()))
            else
              let v6 := (IntKind.wrap IntKind.i64 (Int.tdiv x.snd.snd.fst 3600))
              let v7 := (IntKind.wrap IntKind.i64 ((↑(List.length x.fst.snd.snd.snd.fst) : Int) - 1))
              bif (decide (0 ≤ imin v6 v7) && decide (imin v6 v7 < (↑(List.length x.fst.snd.snd.snd.fst) : Int))) then
                let v8 := (List.getD x.fst.snd.snd.snd.fst (Int.toNat (imin v6 v7)) (zero (Ty.slice (Ty.cpx FloatKind.f32))))
                bif (decide (0 ≤ x.snd.fst) && decide (x.snd.fst < (↑(List.length v8) : Int))) then
                  let v9 := (List.getD v8 (Int.toNat x.snd.fst) (zero (Ty.cpx FloatKind.f32)))
                  some (((v9.1), (v9.2)), ((true), ()))
                else
                  none
              else
                none
          else
            none
      else
        none
  else
    none
theorem ev10 (k34 : Den A34 → Bool) (g34 : Den A34 → Den R34) (k35 : Den A35 → Bool) (g35 : Den A35 → Den R35) (k37 : Den A37 → Bool) (g37 : Den A37 → Den R37) (x : Den A10) : callK (Γ10 k34 g34 k35 g35 k37 g37) (bodyOf Try.f10) (decR R10) (encA A10 x) [] = r10 k34 g34 k35 g35 k37 g37 x := by kernel_rfl
def F10 (x : Den A10) : Option (Den R10) := r10 K34 G34 K35 G35 K37 G37 x
def K10 (x : Den A10) : Bool := (F10 x).isSome
def G10 (x : Den A10) : Den R10 := (F10 x).getD (zero R10)
theorem env10 : EnvOK Try.prog (Γ10 K34 G34 K35 G35 K37 G37) := env_ok mixed tab_ok eqs_ok (.cons sem34 (.cons sem35 (.cons sem37 .nil)))
theorem is10 : FnIs Try.prog 10 (Γ10 K34 G34 K35 G35 K37 G37) (bodyOf Try.f10) := fnIs Try.func10 rfl rfl rfl (by kernel_rfl) (noLoops (by kernel_rfl))
theorem sem10 : SemOK Try.prog (10, fnMean A10 R10 K10 G10) := fn_opt env10 is10 fun x => ev10 K34 G34 K35 G35 K37 G37 x

/- "loop.example/g03321/spec.l01In" -/
abbrev A39 : Ty := .cons (.int .i64) (.cons (.int .i64) (.cons (.int .i64) (.nil)))
abbrev R39 : Ty := .cons (.bool) (.nil)
noncomputable def Γ39 : Env := mkEnv tab eqs [] 15 [.tmp 6] [] [] [] [] []
def r39 (x : Den A39) : Option (Den R39) :=
  bif (decide (x.fst ≥ x.snd.fst)) then
    some ((decide (x.fst ≤ x.snd.snd.fst)), ())
  else
    some ((false), ())
theorem ev39 (x : Den A39) : callK (Γ39) (bodyOf Try.f39) (decR R39) (encA A39 x) [] = r39 x := by kernel_rfl
def F39 (x : Den A39) : Option (Den R39) := r39 x
def K39 (x : Den A39) : Bool := (F39 x).isSome
def G39 (x : Den A39) : Den R39 := (F39 x).getD (zero R39)
theorem env39 : EnvOK Try.prog (Γ39) := env_ok mixed tab_ok eqs_ok .nil
theorem is39 : FnIs Try.prog 39 (Γ39) (bodyOf Try.f39) := fnIs Try.func39 rfl rfl rfl (by kernel_rfl) (noLoops (by kernel_rfl))
theorem sem39 : SemOK Try.prog (39, fnMean A39 R39 K39 G39) := fn_opt env39 is39 fun x => ev39 x

/- "loop.example/g03321/spec.l03Amount" -/
abbrev A70 : Ty := .cons (.flt .f32) (.nil)
abbrev R70 : Ty := .cons (.flt .f32) (.nil)
noncomputable def Γ70 : Env := mkEnv tab eqs [] 8 [.tmp 2] [] [] [] [] []
def r70 (x : Den A70) : Option (Den R70) :=
  bif (flt FloatKind.f32 x.fst 0) then
    let v0 := (fneg FloatKind.f32 x.fst)
    some ((v0), ())
  else
    some ((x.1), ())
theorem ev70 (x : Den A70) : callK (Γ70) (bodyOf Try.f70) (decR R70) (encA A70 x) [] = r70 x := by kernel_rfl
def F70 (x : Den A70) : Option (Den R70) := r70 x
def K70 (x : Den A70) : Bool := (F70 x).isSome
def G70 (x : Den A70) : Den R70 := (F70 x).getD (zero R70)
theorem env70 : EnvOK Try.prog (Γ70) := env_ok mixed tab_ok eqs_ok .nil
theorem is70 : FnIs Try.prog 70 (Γ70) (bodyOf Try.f70) := fnIs Try.func70 rfl rfl rfl (by kernel_rfl) (noLoops (by kernel_rfl))
theorem sem70 : SemOK Try.prog (70, fnMean A70 R70 K70 G70) := fn_opt env70 is70 fun x => ev70 x

/- "loop.example/g03321/spec.VelocityOk" -/
abbrev A78 : Ty := .cons (.cpx .f32) (.nil)
abbrev R78 : Ty := .cons (.bool) (.nil)
noncomputable def Γ78 (k70 : Den A70 → Bool) (g70 : Den A70 → Den R70) : Env := mkEnv tab eqs [(70, fnMean A70 R70 k70 g70)] 13 [.tmp 2] [] [] [] [] []
def r78 (k70 : Den A70 → Bool) (g70 : Den A70 → Den R70) (x : Den A78) : Option (Den R78) :=
  let v0 := (k70 (x.fst.fst, ()))
  bif (v0) then
    let v1 := (g70 (x.fst.fst, ()))
    bif (flt FloatKind.f32 v1.fst 1120403456 || feq FloatKind.f32 v1.fst 1120403456) then
      let v2 := (k70 (x.fst.snd, ()))
      bif (v2) then
        let v3 := (g70 (x.fst.snd, ()))
        some ((flt FloatKind.f32 v3.fst 1120403456 || feq FloatKind.f32 v3.fst 1120403456), ())
      else
        none
    else
      some ((false), ())
  else
    none
theorem ev78 (k70 : Den A70 → Bool) (g70 : Den A70 → Den R70) (x : Den A78) : callK (Γ78 k70 g70) (bodyOf Try.f78) (decR R78) (encA A78 x) [] = r78 k70 g70 x := by kernel_rfl
def F78 (x : Den A78) : Option (Den R78) := r78 K70 G70 x
def K78 (x : Den A78) : Bool := (F78 x).isSome
def G78 (x : Den A78) : Den R78 := (F78 x).getD (zero R78)
theorem env78 : EnvOK Try.prog (Γ78 K70 G70) := env_ok mixed tab_ok eqs_ok (.cons sem70 .nil)
theorem is78 : FnIs Try.prog 78 (Γ78 K70 G70) (bodyOf Try.f78) := fnIs Try.func78 rfl rfl rfl (by kernel_rfl) (noLoops (by kernel_rfl))
theorem sem78 : SemOK Try.prog (78, fnMean A78 R78 K78 G78) := fn_opt env78 is78 fun x => ev78 K70 G70 x

/- "loop.example/g03321/spec.FieldOk" -/
abbrev A38 : Ty := .cons (S25) (.nil)
abbrev R38 : Ty := .cons (.bool) (.nil)
abbrev V38_4 : Type := ((Unit × (Int × Unit)) × ((Int × (Int × (Int × ((List (Den (.slice (.cpx .f32)))) × Unit)))) × Unit))
def sh38_4 : ShS := ⟨[(1, .one (.ptr 0 0)), (3, .one (.int .i64))], [(0, .box [.int .i64, .int .i64, .int .i64, .sl (.slice (.cpx .f32))])], 1, 0⟩
abbrev X38_4 : Type := (Unit × Unit)
def shX38_4 : ShS := ⟨[], [], 0, 0⟩
abbrev Y38_4 : Type := ((Bool × Unit) × Unit)
def shY38_4 : ShS := ⟨[(2, .one (.bool))], [], 0, 0⟩
abbrev V38_9 : Type := ((Unit × (Int × (Int × Unit))) × ((Int × (Int × (Int × ((List (Den (.slice (.cpx .f32)))) × Unit)))) × Unit))
def sh38_9 : ShS := ⟨[(1, .one (.ptr 0 0)), (3, .one (.int .i64)), (4, .one (.int .i64))], [(0, .box [.int .i64, .int .i64, .int .i64, .sl (.slice (.cpx .f32))])], 1, 0⟩
abbrev X38_9 : Type := ((Unit × (Int × Unit)) × ((Int × (Int × (Int × ((List (Den (.slice (.cpx .f32)))) × Unit)))) × Unit))
def shX38_9 : ShS := ⟨[(1, .one (.ptr 0 0)), (3, .one (.int .i64))], [(0, .box [.int .i64, .int .i64, .int .i64, .sl (.slice (.cpx .f32))])], 1, 0⟩
abbrev Y38_9 : Type := ((Bool × Unit) × Unit)
def shY38_9 : ShS := ⟨[(2, .one (.bool))], [], 0, 0⟩
noncomputable def Γ38 (k39 : Den A39 → Bool) (g39 : Den A39 → Den R39) (k78 : Den A78 → Bool) (g78 : Den A78 → Den R78) (kl4 : V38_4 → Bool) (xl4 : V38_4 → X38_4) (tl4 : V38_4 → Bool) (yl4 : V38_4 → Y38_4) (kl9 : V38_9 → Bool) (xl9 : V38_9 → X38_9) (tl9 : V38_9 → Bool) (yl9 : V38_9 → Y38_9) : Env := mkEnv tab eqs [(39, fnMean A39 R39 k39 g39), (78, fnMean A78 R78 k78 g78)] 67 [.tmp 2] [] [] [(4, loopR [1, 3] [] 0 [] [] sh38_4 shX38_4 shY38_4 kl4 tl4 xl4 yl4), (9, loopR [1, 3, 4] [] 2 [1, 3] [] sh38_9 shX38_9 shY38_9 kl9 tl9 xl9 yl9)] [] []
noncomputable def lc38_4 : Code := (loopsOf (bodyOf Try.f38)).getD 0 .skip
noncomputable def lc38_9 : Code := (loopsOf (bodyOf Try.f38)).getD 1 .skip
def q38_9 (k39 : Den A39 → Bool) (g39 : Den A39 → Den R39) (k78 : Den A78 → Bool) (g78 : Den A78 → Den R78) (f : V38_9 → Option (X38_9 ⊕ Y38_9)) (v : V38_9) : Option (X38_9 ⊕ Y38_9) :=
  bif (decide (0 ≤ v.fst.snd.fst) && decide (v.fst.snd.fst < (↑(List.length v.snd.fst.snd.snd.snd.fst) : Int))) then
    let v0 := (List.getD v.snd.fst.snd.snd.snd.fst (Int.toNat v.fst.snd.fst) (zero (Ty.slice (Ty.cpx FloatKind.f32))))
    bif (decide (v.fst.snd.snd.fst < (↑(List.length v0) : Int))) then
      bif (decide (0 ≤ v.fst.snd.fst) && decide (v.fst.snd.fst < (↑(List.length v.snd.fst.snd.snd.snd.fst) : Int))) then
        bif (decide (0 ≤ v.fst.snd.snd.fst) && decide (v.fst.snd.snd.fst < (↑(List.length v0) : Int))) then
          let v1 := (List.getD v0 (Int.toNat v.fst.snd.snd.fst) (zero (Ty.cpx FloatKind.f32)))
          let v2 := (k78 (v1, ()))
          bif (v2) then
            let v3 := (g78 (v1, ()))
            bif (!v3.fst) then
              some (Sum.inr (((false), ()), ()))
            else
              let v4 := (IntKind.wrap IntKind.i64 (v.fst.snd.snd.fst + 1))
              f (((), ((v.fst.snd.1), ((v4), ()))), (((v.snd.fst.1), ((v.snd.fst.snd.1), ((v.snd.fst.snd.snd.1), ((v.snd.fst.snd.snd.snd.1), ())))), ()))
          else
            none
        else
          none
      else
        none
    else
      some (Sum.inl (((), ((v.fst.snd.1), ())), (((v.snd.fst.1), ((v.snd.fst.snd.1), ((v.snd.fst.snd.snd.1), ((v.snd.fst.snd.snd.snd.1), ())))), ())))
  else
    none
theorem evl38_9 (k39 : Den A39 → Bool) (g39 : Den A39 → Den R39) (k78 : Den A78 → Bool) (g78 : Den A78 → Den R78) (kl4 : V38_4 → Bool) (xl4 : V38_4 → X38_4) (tl4 : V38_4 → Bool) (yl4 : V38_4 → Y38_4) (kl9 : V38_9 → Bool) (xl9 : V38_9 → X38_9) (tl9 : V38_9 → Bool) (yl9 : V38_9 → Y38_9) (f : V38_9 → Option (X38_9 ⊕ Y38_9)) (v : V38_9) : EBk (Γ38 k39 g39 k78 g78 kl4 xl4 tl4 yl4 kl9 xl9 tl9 yl9) lc38_9 (roundK [1, 3, 4] [] 2 [1, 3] [] (atS sh38_9 f) (endS shX38_9 shY38_9)) (mkS sh38_9 v) = q38_9 k39 g39 k78 g78 f v := by kernel_rfl
def b38_9 (v : V38_9) : Nat := v.1.2.1.natAbs + v.1.2.2.1.natAbs + v.2.1.1.natAbs + v.2.1.2.1.natAbs + v.2.1.2.2.1.natAbs + v.2.1.2.2.2.1.length + 1000
def l38_9 (v : V38_9) : Option (X38_9 ⊕ Y38_9) := iter (q38_9 K39 G39 K78 G78) (b38_9 v) v
def kL38_9 (v : V38_9) : Bool := (l38_9 v).isSome
def tL38_9 (v : V38_9) : Bool := isR (l38_9 v)
def xL38_9 (v : V38_9) : X38_9 := xOf (((), (0, ())), ((0, (0, (0, ([], ())))), ())) (l38_9 v)
def yL38_9 (v : V38_9) : Y38_9 := yOf ((false, ()), ()) (l38_9 v)
def q38_4 (k39 : Den A39 → Bool) (g39 : Den A39 → Den R39) (k78 : Den A78 → Bool) (g78 : Den A78 → Den R78) (kl9 : V38_9 → Bool) (xl9 : V38_9 → X38_9) (tl9 : V38_9 → Bool) (yl9 : V38_9 → Y38_9) (f : V38_4 → Option (X38_4 ⊕ Y38_4)) (v : V38_4) : Option (X38_4 ⊕ Y38_4) :=
  bif (decide (v.fst.snd.fst < (↑(List.length v.snd.fst.snd.snd.snd.fst) : Int))) then
    bif (decide (0 ≤ v.fst.snd.fst) && decide (v.fst.snd.fst < (↑(List.length v.snd.fst.snd.snd.snd.fst) : Int))) then
      let v0 := (List.getD v.snd.fst.snd.snd.snd.fst (Int.toNat v.fst.snd.fst) (zero (Ty.slice (Ty.cpx FloatKind.f32))))
      let v1 := (IntKind.wrap IntKind.i64 (v.snd.fst.fst * v.snd.fst.snd.fst))
      bif ((↑(List.length v0) : Int) != v1) then
        some (Sum.inr (((false), ()), ()))
      else
        let v2 := (kl9 (((), v.fst.snd.fst, 0, ()), v.snd))
        bif (v2) then
          let v3 := (tl9 (((), v.fst.snd.fst, 0, ()), v.snd))
          bif (v3) then
            let v4 := (yl9 (((), v.fst.snd.fst, 0, ()), v.snd))
            some (Sum.inr (((v4.fst.1), ()), ()))
          else
            let v4 := (xl9 (((), v.fst.snd.fst, 0, ()), v.snd))
            let v5 := (IntKind.wrap IntKind.i64 (v4.fst.snd.fst + 1))
            f (((), ((v5), ())), (((v4.snd.fst.1), ((v4.snd.fst.snd.1), ((v4.snd.fst.snd.snd.1), ((v4.snd.fst.snd.snd.snd.1), ())))), ()))
        else
          none
    else
      none
  else
    some (Sum.inl ((), ()))
theorem evl38_4 (k39 : Den A39 → Bool) (g39 : Den A39 → Den R39) (k78 : Den A78 → Bool) (g78 : Den A78 → Den R78) (kl4 : V38_4 → Bool) (xl4 : V38_4 → X38_4) (tl4 : V38_4 → Bool) (yl4 : V38_4 → Y38_4) (kl9 : V38_9 → Bool) (xl9 : V38_9 → X38_9) (tl9 : V38_9 → Bool) (yl9 : V38_9 → Y38_9) (f : V38_4 → Option (X38_4 ⊕ Y38_4)) (v : V38_4) : EBk (Γ38 k39 g39 k78 g78 kl4 xl4 tl4 yl4 kl9 xl9 tl9 yl9) lc38_4 (roundK [1, 3] [] 0 [] [] (atS sh38_4 f) (endS shX38_4 shY38_4)) (mkS sh38_4 v) = q38_4 k39 g39 k78 g78 kl9 xl9 tl9 yl9 f v := by kernel_rfl
def b38_4 (v : V38_4) : Nat := v.1.2.1.natAbs + v.2.1.1.natAbs + v.2.1.2.1.natAbs + v.2.1.2.2.1.natAbs + v.2.1.2.2.2.1.length + 1000
def l38_4 (v : V38_4) : Option (X38_4 ⊕ Y38_4) := iter (q38_4 K39 G39 K78 G78 kL38_9 xL38_9 tL38_9 yL38_9) (b38_4 v) v
def kL38_4 (v : V38_4) : Bool := (l38_4 v).isSome
def tL38_4 (v : V38_4) : Bool := isR (l38_4 v)
def xL38_4 (v : V38_4) : X38_4 := xOf ((), ()) (l38_4 v)
def yL38_4 (v : V38_4) : Y38_4 := yOf ((false, ()), ()) (l38_4 v)
def r38 (k39 : Den A39 → Bool) (g39 : Den A39 → Den R39) (k78 : Den A78 → Bool) (g78 : Den A78 → Den R78) (kl4 : V38_4 → Bool) (xl4 : V38_4 → X38_4) (tl4 : V38_4 → Bool) (yl4 : V38_4 → Y38_4) (kl9 : V38_9 → Bool) (xl9 : V38_9 → X38_9) (tl9 : V38_9 → Bool) (yl9 : V38_9 → Y38_9) (x : Den A38) : Option (Den R38) :=
  let v0 := (k39 (x.fst.fst, 2, 12, ()))
  bif (v0) then
    let v1 := (g39 (x.fst.fst, 2, 12, ()))
    bif (!v1.fst) then
      some ((false), ())
    else
      let v2 := (k39 (x.fst.snd.fst, 2, 12, ()))
      bif (v2) then
        let v3 := (g39 (x.fst.snd.fst, 2, 12, ()))
        bif (!v3.fst) then
          some ((false), ())
        else
          let v4 := (k39 (x.fst.snd.snd.fst, 10, 100000, ()))
          bif (v4) then
            let v5 := (g39 (x.fst.snd.snd.fst, 10, 100000, ()))
            bif (!v5.fst) then
              some ((false), ())
            else
              let v6 := (k39 ((↑(List.length x.fst.snd.snd.snd.fst) : Int), 1, 24, ()))
              bif (v6) then
                let v7 := (g39 ((↑(List.length x.fst.snd.snd.snd.fst) : Int), 1, 24, ()))
                bif (!v7.fst) then
                  some ((false), ())
                else
                  let v8 := (kl4 (((), 0, ()), x))
                  bif (v8) then
                    let v9 := (tl4 (((), 0, ()), x))
                    bif (v9) then
                      let v10 := (yl4 (((), 0, ()), x))
                      some ((v10.fst.1), ())
                    else
                      some ((true), ())
                  else
                    none
              else
                none
          else
            none
      else
        none
  else
    none
theorem ev38 (k39 : Den A39 → Bool) (g39 : Den A39 → Den R39) (k78 : Den A78 → Bool) (g78 : Den A78 → Den R78) (kl4 : V38_4 → Bool) (xl4 : V38_4 → X38_4) (tl4 : V38_4 → Bool) (yl4 : V38_4 → Y38_4) (kl9 : V38_9 → Bool) (xl9 : V38_9 → X38_9) (tl9 : V38_9 → Bool) (yl9 : V38_9 → Y38_9) (x : Den A38) : callK (Γ38 k39 g39 k78 g78 kl4 xl4 tl4 yl4 kl9 xl9 tl9 yl9) (bodyOf Try.f38) (decR R38) (encA A38 x) [] = r38 k39 g39 k78 g78 kl4 xl4 tl4 yl4 kl9 xl9 tl9 yl9 x := by kernel_rfl
def F38 (x : Den A38) : Option (Den R38) := r38 K39 G39 K78 G78 kL38_4 xL38_4 tL38_4 yL38_4 kL38_9 xL38_9 tL38_9 yL38_9 x
def K38 (x : Den A38) : Bool := (F38 x).isSome
def G38 (x : Den A38) : Den R38 := (F38 x).getD (zero R38)
theorem env38 : EnvOK Try.prog (Γ38 K39 G39 K78 G78 kL38_4 xL38_4 tL38_4 yL38_4 kL38_9 xL38_9 tL38_9 yL38_9) := env_ok mixed tab_ok eqs_ok (.cons sem39 (.cons sem78 .nil))
theorem is38 : FnIs Try.prog 38 (Γ38 K39 G39 K78 G78 kL38_4 xL38_4 tL38_4 yL38_4 kL38_9 xL38_9 tL38_9 yL38_9) (bodyOf Try.f38) := fnIs Try.func38 rfl rfl rfl (by kernel_rfl) (loops_ok (l := [lc38_4, lc38_9]) (by kernel_rfl) (.cons (one_loop rfl (loopR_sound (sh := sh38_4) (shX := shX38_4) (shR := shY38_4) (fun f v => evl38_4 K39 G39 K78 G78 kL38_4 xL38_4 tL38_4 yL38_4 kL38_9 xL38_9 tL38_9 yL38_9 f v) b38_4 ((), ()) ((false, ()), ()))) (.cons (one_loop rfl (loopR_sound (sh := sh38_9) (shX := shX38_9) (shR := shY38_9) (fun f v => evl38_9 K39 G39 K78 G78 kL38_4 xL38_4 tL38_4 yL38_4 kL38_9 xL38_9 tL38_9 yL38_9 f v) b38_9 (((), (0, ())), ((0, (0, (0, ([], ())))), ())) ((false, ()), ()))) (.nil))))
theorem sem38 : SemOK Try.prog (38, fnMean A38 R38 K38 G38) := fn_opt env38 is38 fun x => ev38 K39 G39 K78 G78 kL38_4 xL38_4 tL38_4 yL38_4 kL38_9 xL38_9 tL38_9 yL38_9 x

/- "loop.example/g03321/spec.l12Node" -/
abbrev A40 : Ty := .cons (S25) (.cons (.int .i64) (.nil))
abbrev R40 : Ty := .cons (.cpx .f64) (.nil)
noncomputable def Γ40 : Env := mkEnv tab eqs [] 22 [.tmp 4] [] [] [] [] []
def r40 (x : Den A40) : Option (Den R40) :=
  bif (x.fst.fst != 0) then
    bif (x.fst.fst != 0) then
      let v0 := (IntKind.wrap IntKind.i64 (Int.tdiv x.snd.fst x.fst.fst))
      let v1 := (IntKind.wrap IntKind.i64 (v0 * x.fst.snd.snd.fst))
      let v2 := (IntKind.wrap IntKind.i64 (Int.tmod x.snd.fst x.fst.fst * x.fst.snd.snd.fst))
      some (((FloatKind.nearest FloatKind.f64 v1), (FloatKind.nearest FloatKind.f64 v2)), ())
    else
      none
  else
    none
theorem ev40 (x : Den A40) : callK (Γ40) (bodyOf Try.f40) (decR R40) (encA A40 x) [] = r40 x := by kernel_rfl
def F40 (x : Den A40) : Option (Den R40) := r40 x
def K40 (x : Den A40) : Bool := (F40 x).isSome
def G40 (x : Den A40) : Den R40 := (F40 x).getD (zero R40)
theorem env40 : EnvOK Try.prog (Γ40) := env_ok mixed tab_ok eqs_ok .nil
theorem is40 : FnIs Try.prog 40 (Γ40) (bodyOf Try.f40) := fnIs Try.func40 rfl rfl rfl (by kernel_rfl) (noLoops (by kernel_rfl))
theorem sem40 : SemOK Try.prog (40, fnMean A40 R40 K40 G40) := fn_opt env40 is40 fun x => ev40 x

/- "loop.example/g03321/spec.NodeAt" -/
abbrev A11 : Ty := .cons (S25) (.cons (.int .i64) (.nil))
abbrev R11 : Ty := .cons (.cpx .f64) (.cons (.bool) (.nil))
noncomputable def Γ11 (k38 : Den A38 → Bool) (g38 : Den A38 → Den R38) (k39 : Den A39 → Bool) (g39 : Den A39 → Den R39) (k40 : Den A40 → Bool) (g40 : Den A40 → Den R40) : Env := mkEnv tab eqs [(38, fnMean A38 R38 k38 g38), (39, fnMean A39 R39 k39 g39), (40, fnMean A40 R40 k40 g40)] 23 [.tmp 4, .tmp 5] [] [] [] [] []
def r11 (k38 : Den A38 → Bool) (g38 : Den A38 → Den R38) (k39 : Den A39 → Bool) (g39 : Den A39 → Den R39) (k40 : Den A40 → Bool) (g40 : Den A40 → Den R40) (x : Den A11) : Option (Den R11) :=
  let v0 := (k38 (x.fst, ()))
  bif (v0) then
    let v1 := (g38 (x.fst, ()))
    bif (!v1.fst) then
      some (((0), (0)), ((false), ()))
    else
      let v2 := (IntKind.wrap IntKind.i64 (x.fst.fst * x.fst.snd.fst))
      let v3 := (IntKind.wrap IntKind.i64 (v2 - 1))
      let v4 := (k39 (x.snd.fst, 0, v3, ()))
      bif (v4) then
        let v5 := (g39 (x.snd.fst, 0, v3, ()))
        bif (!v5.fst) then
          some (((0), (0)), ((false), ()))
        else
          let v6 := (k40 x)
          bif (v6) then
            let v7 := (g40 x)
            some (((v7.fst.1), (v7.fst.2)), ((true), ()))
          else
            none
      else
        none
  else
    none
theorem ev11 (k38 : Den A38 → Bool) (g38 : Den A38 → Den R38) (k39 : Den A39 → Bool) (g39 : Den A39 → Den R39) (k40 : Den A40 → Bool) (g40 : Den A40 → Den R40) (x : Den A11) : callK (Γ11 k38 g38 k39 g39 k40 g40) (bodyOf Try.f11) (decR R11) (encA A11 x) [] = r11 k38 g38 k39 g39 k40 g40 x := by kernel_rfl
def F11 (x : Den A11) : Option (Den R11) := r11 K38 G38 K39 G39 K40 G40 x
def K11 (x : Den A11) : Bool := (F11 x).isSome
def G11 (x : Den A11) : Den R11 := (F11 x).getD (zero R11)
theorem env11 : EnvOK Try.prog (Γ11 K38 G38 K39 G39 K40 G40) := env_ok mixed tab_ok eqs_ok (.cons sem38 (.cons sem39 (.cons sem40 .nil)))
theorem is11 : FnIs Try.prog 11 (Γ11 K38 G38 K39 G39 K40 G40) (bodyOf Try.f11) := fnIs Try.func11 rfl rfl rfl (by kernel_rfl) (noLoops (by kernel_rfl))
theorem sem11 : SemOK Try.prog (11, fnMean A11 R11 K11 G11) := fn_opt env11 is11 fun x => ev11 K38 G38 K39 G39 K40 G40 x

/- "loop.example/g03321/impl.VectorOk" -/
abbrev A41 : Ty := .cons (.cpx .f64) (.nil)
abbrev R41 : Ty := .cons (.bool) (.nil)
noncomputable def Γ41 (k79 : Den A79 → Bool) (g79 : Den A79 → Den R79) : Env := mkEnv tab eqs [(79, fnMean A79 R79 k79 g79)] 13 [.tmp 2] [] [] [] [] []
def r41 (k79 : Den A79 → Bool) (g79 : Den A79 → Den R79) (x : Den A41) : Option (Den R41) :=
  let v0 := (k79 (x.fst.fst, ()))
  bif (v0) then
    let v1 := (g79 (x.fst.fst, ()))
    bif (flt FloatKind.f64 v1.fst 4726483295884279808 || feq FloatKind.f64 v1.fst 4726483295884279808) then
      let v2 := (k79 (x.fst.snd, ()))
      bif (v2) then
        let v3 := (g79 (x.fst.snd, ()))
        some ((flt FloatKind.f64 v3.fst 4726483295884279808 || feq FloatKind.f64 v3.fst 4726483295884279808), ())
      else
        none
    else
      some ((false), ())
  else
    none
theorem ev41 (k79 : Den A79 → Bool) (g79 : Den A79 → Den R79) (x : Den A41) : callK (Γ41 k79 g79) (bodyOf Try.f41) (decR R41) (encA A41 x) [] = r41 k79 g79 x := by kernel_rfl
def F41 (x : Den A41) : Option (Den R41) := r41 K79 G79 x
def K41 (x : Den A41) : Bool := (F41 x).isSome
def G41 (x : Den A41) : Den R41 := (F41 x).getD (zero R41)
theorem env41 : EnvOK Try.prog (Γ41 K79 G79) := env_ok mixed tab_ok eqs_ok (.cons sem79 .nil)
theorem is41 : FnIs Try.prog 41 (Γ41 K79 G79) (bodyOf Try.f41) := fnIs Try.func41 rfl rfl rfl (by kernel_rfl) (noLoops (by kernel_rfl))
theorem sem41 : SemOK Try.prog (41, fnMean A41 R41 K41 G41) := fn_opt env41 is41 fun x => ev41 K79 G79 x

/- "loop.example/g03321/impl.less" -/
abbrev A42 : Ty := .cons (.cpx .f64) (.cons (.cpx .f64) (.nil))
abbrev R42 : Ty := .cons (.cpx .f64) (.nil)
noncomputable def Γ42 : Env := mkEnv tab eqs [] 16 [.tmp 4] [] [] [] [] []
def r42 (x : Den A42) : Option (Den R42) :=
  let v0 := (farith BinOp.sub FloatKind.f64 x.fst.fst x.snd.fst.fst)
  let v1 := (farith BinOp.sub FloatKind.f64 x.fst.snd x.snd.fst.snd)
  some (((v0), (v1)), ())
theorem ev42 (x : Den A42) : callK (Γ42) (bodyOf Try.f42) (decR R42) (encA A42 x) [] = r42 x := by kernel_rfl
def F42 (x : Den A42) : Option (Den R42) := r42 x
def K42 (x : Den A42) : Bool := (F42 x).isSome
def G42 (x : Den A42) : Den R42 := (F42 x).getD (zero R42)
theorem env42 : EnvOK Try.prog (Γ42) := env_ok mixed tab_ok eqs_ok .nil
theorem is42 : FnIs Try.prog 42 (Γ42) (bodyOf Try.f42) := fnIs Try.func42 rfl rfl rfl (by kernel_rfl) (noLoops (by kernel_rfl))
theorem sem42 : SemOK Try.prog (42, fnMean A42 R42 K42 G42) := fn_opt env42 is42 fun x => ev42 x

/- "loop.example/g03321/impl.Dot" -/
abbrev A43 : Ty := .cons (.cpx .f64) (.cons (.cpx .f64) (.nil))
abbrev R43 : Ty := .cons (.flt .f64) (.nil)
noncomputable def Γ43 : Env := mkEnv tab eqs [] 16 [.tmp 4] [] [] [] [] []
def r43 (x : Den A43) : Option (Den R43) :=
  let v0 := (farith BinOp.mul FloatKind.f64 x.fst.fst x.snd.fst.fst)
  let v1 := (farith BinOp.mul FloatKind.f64 x.fst.snd x.snd.fst.snd)
  let v2 := (farith BinOp.add FloatKind.f64 v0 v1)
  some ((v2), ())
theorem ev43 (x : Den A43) : callK (Γ43) (bodyOf Try.f43) (decR R43) (encA A43 x) [] = r43 x := by kernel_rfl
def F43 (x : Den A43) : Option (Den R43) := r43 x
def K43 (x : Den A43) : Bool := (F43 x).isSome
def G43 (x : Den A43) : Den R43 := (F43 x).getD (zero R43)
theorem env43 : EnvOK Try.prog (Γ43) := env_ok mixed tab_ok eqs_ok .nil
theorem is43 : FnIs Try.prog 43 (Γ43) (bodyOf Try.f43) := fnIs Try.func43 rfl rfl rfl (by kernel_rfl) (noLoops (by kernel_rfl))
theorem sem43 : SemOK Try.prog (43, fnMean A43 R43 K43 G43) := fn_opt env43 is43 fun x => ev43 x

/- "loop.example/g03321/impl.NearNode" -/
abbrev A12 : Ty := .cons (S25) (.cons (.cpx .f64) (.nil))
abbrev R12 : Ty := .cons (.int .i64) (.nil)
abbrev V12_5 : Type := (((Nat × Nat) × (Unit × (Int × (Nat × (Int × Unit))))) × ((Int × (Int × (Int × ((List (Den (.slice (.cpx .f32)))) × Unit)))) × Unit))
def sh12_5 : ShS := ⟨[(1, .one (.cpx .f64)), (2, .one (.ptr 0 0)), (5, .one (.int .i64)), (6, .one (.flt .f64)), (7, .one (.int .i64))], [(0, .box [.int .i64, .int .i64, .int .i64, .sl (.slice (.cpx .f32))])], 1, 0⟩
abbrev X12_5 : Type := ((Int × Unit) × Unit)
def shX12_5 : ShS := ⟨[(5, .one (.int .i64))], [], 0, 0⟩
noncomputable def Γ12 (k34 : Den A34 → Bool) (g34 : Den A34 → Den R34) (k41 : Den A41 → Bool) (g41 : Den A41 → Den R41) (k36 : Den A36 → Bool) (g36 : Den A36 → Den R36) (k42 : Den A42 → Bool) (g42 : Den A42 → Den R42) (k43 : Den A43 → Bool) (g43 : Den A43 → Den R43) (kl5 : V12_5 → Bool) (xl5 : V12_5 → X12_5) : Env := mkEnv tab eqs [(34, fnMean A34 R34 k34 g34), (41, fnMean A41 R41 k41 g41), (36, fnMean A36 R36 k36 g36), (42, fnMean A42 R42 k42 g42), (43, fnMean A43 R43 k43 g43)] 45 [.tmp 4] [] [] [(5, loopX [1, 2, 5, 6, 7] [] 0 [5] [] sh12_5 shX12_5 kl5 xl5)] [] []
noncomputable def lc12_5 : Code := (loopsOf (bodyOf Try.f12)).getD 0 .skip
def q12_5 (k34 : Den A34 → Bool) (g34 : Den A34 → Den R34) (k41 : Den A41 → Bool) (g41 : Den A41 → Den R41) (k36 : Den A36 → Bool) (g36 : Den A36 → Den R36) (k42 : Den A42 → Bool) (g42 : Den A42 → Den R42) (k43 : Den A43 → Bool) (g43 : Den A43 → Den R43) (f : V12_5 → Option (X12_5)) (v : V12_5) : Option (X12_5) :=
  let v0 := (IntKind.wrap IntKind.i64 (v.snd.fst.fst * v.snd.fst.snd.fst))
  bif (decide (v.fst.snd.snd.snd.snd.fst < v0)) then
    let v1 := (k36 (v.snd.fst, v.fst.snd.snd.snd.snd))
    bif (v1) then
      let v2 := (g36 (v.snd.fst, v.fst.snd.snd.snd.snd))
      let v3 := (k42 (v2.fst, v.fst.fst, ()))
      bif (v3) then
        let v4 := (g42 (v2.fst, v.fst.fst, ()))
        let v5 := (k43 (v4.fst, v4))
        bif (v5) then
          bif (decide (v.fst.snd.snd.fst < 0)) then
            let v6 := (g43 (v4.fst, v4))
            let v7 := (IntKind.wrap IntKind.i64 (v.fst.snd.snd.snd.snd.fst + 1))
            f ((((v.fst.fst.1), (v.fst.fst.2)), ((), ((v.fst.snd.snd.snd.snd.1), ((v6.1), ((v7), ()))))), (((v.snd.fst.1), ((v.snd.fst.snd.1), ((v.snd.fst.snd.snd.1), ((v.snd.fst.snd.snd.snd.1), ())))), ()))
          else
            let v6 := (g43 (v4.fst, v4))
            bif (flt FloatKind.f64 v6.fst v.fst.snd.snd.snd.fst) then
              let v7 := (IntKind.wrap IntKind.i64 (v.fst.snd.snd.snd.snd.fst + 1))
              f ((((v.fst.fst.1), (v.fst.fst.2)), ((), ((v.fst.snd.snd.snd.snd.1), ((v6.1), ((v7), ()))))), (((v.snd.fst.1), ((v.snd.fst.snd.1), ((v.snd.fst.snd.snd.1), ((v.snd.fst.snd.snd.snd.1), ())))), ()))
            else
              let v7 := (IntKind.wrap IntKind.i64 (v.fst.snd.snd.snd.snd.fst + 1))
              f ((((v.fst.fst.1), (v.fst.fst.2)), ((), ((v.fst.snd.snd.1), ((v.fst.snd.snd.snd.1), ((v7), ()))))), (((v.snd.fst.1), ((v.snd.fst.snd.1), ((v.snd.fst.snd.snd.1), ((v.snd.fst.snd.snd.snd.1), ())))), ()))
        else
          none
      else
        none
    else
      none
  else
    some (((v.fst.snd.snd.1), ()), ())
theorem evl12_5 (k34 : Den A34 → Bool) (g34 : Den A34 → Den R34) (k41 : Den A41 → Bool) (g41 : Den A41 → Den R41) (k36 : Den A36 → Bool) (g36 : Den A36 → Den R36) (k42 : Den A42 → Bool) (g42 : Den A42 → Den R42) (k43 : Den A43 → Bool) (g43 : Den A43 → Den R43) (kl5 : V12_5 → Bool) (xl5 : V12_5 → X12_5) (f : V12_5 → Option (X12_5)) (v : V12_5) : EBk (Γ12 k34 g34 k41 g41 k36 g36 k42 g42 k43 g43 kl5 xl5) lc12_5 (roundK [1, 2, 5, 6, 7] [] 0 [5] [] (atS sh12_5 f) (endX shX12_5)) (mkS sh12_5 v) = q12_5 k34 g34 k41 g41 k36 g36 k42 g42 k43 g43 f v := by kernel_rfl
def b12_5 (v : V12_5) : Nat := v.1.2.2.1.natAbs + v.1.2.2.2.2.1.natAbs + v.2.1.1.natAbs + v.2.1.2.1.natAbs + v.2.1.2.2.1.natAbs + v.2.1.2.2.2.1.length + 1000
def l12_5 (v : V12_5) : Option (X12_5) := iter (q12_5 K34 G34 K41 G41 K36 G36 K42 G42 K43 G43) (b12_5 v) v
def kL12_5 (v : V12_5) : Bool := (l12_5 v).isSome
def xL12_5 (v : V12_5) : X12_5 := (l12_5 v).getD ((0, ()), ())
def r12 (k34 : Den A34 → Bool) (g34 : Den A34 → Den R34) (k41 : Den A41 → Bool) (g41 : Den A41 → Den R41) (k36 : Den A36 → Bool) (g36 : Den A36 → Den R36) (k42 : Den A42 → Bool) (g42 : Den A42 → Den R42) (k43 : Den A43 → Bool) (g43 : Den A43 → Den R43) (kl5 : V12_5 → Bool) (xl5 : V12_5 → X12_5) (x : Den A12) : Option (Den R12) :=
  let v0 := (k34 (x.fst, ()))
  bif (v0) then
    let v1 := (g34 (x.fst, ()))
    bif (!v1.fst) then
      some ((-1), ())
    else
      let v2 := (k41 x.snd)
      bif (v2) then
        let v3 := (g41 x.snd)
        bif (!v3.fst) then
          some ((-1), ())
        else
          let v4 := (kl5 ((x.snd.fst, (), -1, 0, 0, ()), x.fst, ()))
          bif (v4) then
            let v5 := (xl5 ((x.snd.fst, (), -1, 0, 0, ()), x.fst, ()))
            some ((v5.fst.1), ())
          else
            none
      else
        none
  else
    none
theorem ev12 (k34 : Den A34 → Bool) (g34 : Den A34 → Den R34) (k41 : Den A41 → Bool) (g41 : Den A41 → Den R41) (k36 : Den A36 → Bool) (g36 : Den A36 → Den R36) (k42 : Den A42 → Bool) (g42 : Den A42 → Den R42) (k43 : Den A43 → Bool) (g43 : Den A43 → Den R43) (kl5 : V12_5 → Bool) (xl5 : V12_5 → X12_5) (x : Den A12) : callK (Γ12 k34 g34 k41 g41 k36 g36 k42 g42 k43 g43 kl5 xl5) (bodyOf Try.f12) (decR R12) (encA A12 x) [] = r12 k34 g34 k41 g41 k36 g36 k42 g42 k43 g43 kl5 xl5 x := by kernel_rfl
def F12 (x : Den A12) : Option (Den R12) := r12 K34 G34 K41 G41 K36 G36 K42 G42 K43 G43 kL12_5 xL12_5 x
def K12 (x : Den A12) : Bool := (F12 x).isSome
def G12 (x : Den A12) : Den R12 := (F12 x).getD (zero R12)
theorem env12 : EnvOK Try.prog (Γ12 K34 G34 K41 G41 K36 G36 K42 G42 K43 G43 kL12_5 xL12_5) := env_ok mixed tab_ok eqs_ok (.cons sem34 (.cons sem41 (.cons sem36 (.cons sem42 (.cons sem43 .nil)))))
theorem is12 : FnIs Try.prog 12 (Γ12 K34 G34 K41 G41 K36 G36 K42 G42 K43 G43 kL12_5 xL12_5) (bodyOf Try.f12) := fnIs Try.func12 rfl rfl rfl (by kernel_rfl) (loops_ok (l := [lc12_5]) (by kernel_rfl) (.cons (one_loop rfl (loopX_sound (sh := sh12_5) (shX := shX12_5) (fun f v => evl12_5 K34 G34 K41 G41 K36 G36 K42 G42 K43 G43 kL12_5 xL12_5 f v) b12_5 ((0, ()), ()))) (.nil)))
theorem sem12 : SemOK Try.prog (12, fnMean A12 R12 K12 G12) := fn_opt env12 is12 fun x => ev12 K34 G34 K41 G41 K36 G36 K42 G42 K43 G43 kL12_5 xL12_5 x

/- "loop.example/g03321/laws.same64" -/
abbrev A65 : Ty := .cons (.flt .f64) (.cons (.flt .f64) (.nil))
abbrev R65 : Ty := .cons (.bool) (.nil)
noncomputable def Γ65 : Env := mkEnv tab eqs [] 35 [.tmp 4] [] [] [] [] []
def r65 (x : Den A65) : Option (Den R65) :=
  bif (!feq FloatKind.f64 x.fst x.fst) then
    bif (!feq FloatKind.f64 x.fst x.fst) then
      some ((!feq FloatKind.f64 x.snd.fst x.snd.fst), ())
    else
      some ((false), ())
  else
    bif (!feq FloatKind.f64 x.snd.fst x.snd.fst) then
      bif (!feq FloatKind.f64 x.fst x.fst) then
        some ((!feq FloatKind.f64 x.snd.fst x.snd.fst), ())
      else
        some ((false), ())
    else
      bif (feq FloatKind.f64 x.fst x.snd.fst) then
        bif (!feq FloatKind.f64 x.fst 0) then
          some ((true), ())
        else
          let v0 := (farith BinOp.quo FloatKind.f64 4607182418800017408 x.fst)
          let v1 := (farith BinOp.quo FloatKind.f64 4607182418800017408 x.snd.fst)
          some ((feq FloatKind.f64 v0 v1), ())
      else
        some ((false), ())
theorem ev65 (x : Den A65) : callK (Γ65) (bodyOf Try.f65) (decR R65) (encA A65 x) [] = r65 x := by kernel_rfl
def F65 (x : Den A65) : Option (Den R65) := r65 x
def K65 (x : Den A65) : Bool := (F65 x).isSome
def G65 (x : Den A65) : Den R65 := (F65 x).getD (zero R65)
theorem env65 : EnvOK Try.prog (Γ65) := env_ok mixed tab_ok eqs_ok .nil
theorem is65 : FnIs Try.prog 65 (Γ65) (bodyOf Try.f65) := fnIs Try.func65 rfl rfl rfl (by kernel_rfl) (noLoops (by kernel_rfl))
theorem sem65 : SemOK Try.prog (65, fnMean A65 R65 K65 G65) := fn_opt env65 is65 fun x => ev65 x

/- "loop.example/g03321/laws.same" -/
abbrev A24 : Ty := .cons (.cpx .f64) (.cons (.cpx .f64) (.nil))
abbrev R24 : Ty := .cons (.bool) (.nil)
noncomputable def Γ24 (k65 : Den A65 → Bool) (g65 : Den A65 → Den R65) : Env := mkEnv tab eqs [(65, fnMean A65 R65 k65 g65)] 17 [.tmp 4] [] [] [] [] []
def r24 (k65 : Den A65 → Bool) (g65 : Den A65 → Den R65) (x : Den A24) : Option (Den R24) :=
  let v0 := (k65 (x.fst.fst, x.snd.fst.fst, ()))
  bif (v0) then
    let v1 := (g65 (x.fst.fst, x.snd.fst.fst, ()))
    bif (v1.1) then
      let v2 := (k65 (x.fst.snd, x.snd.fst.snd, ()))
      bif (v2) then
        let v3 := (g65 (x.fst.snd, x.snd.fst.snd, ()))
        some ((v3.1), ())
      else
        none
    else
      some ((false), ())
  else
    none
theorem ev24 (k65 : Den A65 → Bool) (g65 : Den A65 → Den R65) (x : Den A24) : callK (Γ24 k65 g65) (bodyOf Try.f24) (decR R24) (encA A24 x) [] = r24 k65 g65 x := by kernel_rfl
def F24 (x : Den A24) : Option (Den R24) := r24 K65 G65 x
def K24 (x : Den A24) : Bool := (F24 x).isSome
def G24 (x : Den A24) : Den R24 := (F24 x).getD (zero R24)
theorem env24 : EnvOK Try.prog (Γ24 K65 G65) := env_ok mixed tab_ok eqs_ok (.cons sem65 .nil)
theorem is24 : FnIs Try.prog 24 (Γ24 K65 G65) (bodyOf Try.f24) := fnIs Try.func24 rfl rfl rfl (by kernel_rfl) (noLoops (by kernel_rfl))
theorem sem24 : SemOK Try.prog (24, fnMean A24 R24 K24 G24) := fn_opt env24 is24 fun x => ev24 K65 G65 x

/- "loop.example/g03321/laws.sameAir" -/
abbrev A13 : Ty := .cons (.cpx .f32) (.cons (.cpx .f32) (.nil))
abbrev R13 : Ty := .cons (.bool) (.nil)
noncomputable def Γ13 (k24 : Den A24 → Bool) (g24 : Den A24 → Den R24) : Env := mkEnv tab eqs [(24, fnMean A24 R24 k24 g24)] 10 [.tmp 4] [] [] [] [] []
def r13 (k24 : Den A24 → Bool) (g24 : Den A24 → Den R24) (x : Den A13) : Option (Den R13) :=
  let v0 := (k24 (((convF FloatKind.f32 FloatKind.f64 x.fst.fst).snd, (convF FloatKind.f32 FloatKind.f64 x.fst.snd).snd), ((convF FloatKind.f32 FloatKind.f64 x.snd.fst.fst).snd, (convF FloatKind.f32 FloatKind.f64 x.snd.fst.snd).snd), ()))
  bif (v0) then
    let v1 := (g24 (((convF FloatKind.f32 FloatKind.f64 x.fst.fst).snd, (convF FloatKind.f32 FloatKind.f64 x.fst.snd).snd), ((convF FloatKind.f32 FloatKind.f64 x.snd.fst.fst).snd, (convF FloatKind.f32 FloatKind.f64 x.snd.fst.snd).snd), ()))
    some ((v1.1), ())
  else
    none
theorem ev13 (k24 : Den A24 → Bool) (g24 : Den A24 → Den R24) (x : Den A13) : callK (Γ13 k24 g24) (bodyOf Try.f13) (decR R13) (encA A13 x) [] = r13 k24 g24 x := by kernel_rfl
def F13 (x : Den A13) : Option (Den R13) := r13 K24 G24 x
def K13 (x : Den A13) : Bool := (F13 x).isSome
def G13 (x : Den A13) : Den R13 := (F13 x).getD (zero R13)
theorem env13 : EnvOK Try.prog (Γ13 K24 G24) := env_ok mixed tab_ok eqs_ok (.cons sem24 .nil)
theorem is13 : FnIs Try.prog 13 (Γ13 K24 G24) (bodyOf Try.f13) := fnIs Try.func13 rfl rfl rfl (by kernel_rfl) (noLoops (by kernel_rfl))
theorem sem13 : SemOK Try.prog (13, fnMean A13 R13 K13 G13) := fn_opt env13 is13 fun x => ev13 K24 G24 x

/- "loop.example/g03321/laws.FnNodesNear" -/
abbrev A3 : Ty := .cons (.slice (.int .u8)) (.nil)
abbrev R3 : Ty := .cons (.bool) (.nil)
noncomputable def Γ3 (k7 : Den A7 → Bool) (g7 : Den A7 → Den R7) (k8 : Den A8 → Bool) (g8 : Den A8 → Den R8) (k9 : Den A9 → Bool) (g9 : Den A9 → Den R9) (k10 : Den A10 → Bool) (g10 : Den A10 → Den R10) (k11 : Den A11 → Bool) (g11 : Den A11 → Den R11) (k12 : Den A12 → Bool) (g12 : Den A12 → Den R12) (k13 : Den A13 → Bool) (g13 : Den A13 → Den R13) : Env := mkEnv tab eqs [(7, fnMean A7 R7 k7 g7), (8, fnMean A8 R8 k8 g8), (9, fnMean A9 R9 k9 g9), (10, fnMean A10 R10 k10 g10), (11, fnMean A11 R11 k11 g11), (12, fnMean A12 R12 k12 g12), (13, fnMean A13 R13 k13 g13)] 96 [.tmp 2] [] [] [] [] []
def r3 (k7 : Den A7 → Bool) (g7 : Den A7 → Den R7) (k8 : Den A8 → Bool) (g8 : Den A8 → Den R8) (k9 : Den A9 → Bool) (g9 : Den A9 → Den R9) (k10 : Den A10 → Bool) (g10 : Den A10 → Den R10) (k11 : Den A11 → Bool) (g11 : Den A11 → Den R11) (k12 : Den A12 → Bool) (g12 : Den A12 → Den R12) (k13 : Den A13 → Bool) (g13 : Den A13 → Den R13) (x : Den A3) : Option (Den R3) :=
  let v0 := (k7 x)
  bif (v0) then
    let v1 := (g7 x)
    bif (v1.1) then
      some ((true), ())
    else
      let v2 := (k8 x)
      bif (v2) then
        let v3 := (g8 x)
        let v4 := (k9 (v3.fst, v3.snd.fst, ()))
        bif (v4) then
          let v5 := (k10 v3)
          bif (v5) then
            let v6 := (k11 (v3.fst, v3.snd.fst, ()))
            bif (v6) then
              let v7 := (g9 (v3.fst, v3.snd.fst, ()))
              let v8 := (g11 (v3.fst, v3.snd.fst, ()))
              bif (!v7.snd.fst == v8.snd.fst) then
                some ((false), ())
              else
                bif (!v7.snd.fst) then
                  bif (feq FloatKind.f64 v7.fst.fst 0 && feq FloatKind.f64 v7.fst.snd 0) then
                    let v9 := (g10 v3)
                    bif (!v9.snd.fst) then
                      some ((feq FloatKind.f32 v9.fst.fst 0 && feq FloatKind.f32 v9.fst.snd 0), ())
                    else
                      some ((false), ())
                  else
                    some ((false), ())
                else
                  let v9 := (k12 (v3.fst, v7.fst, ()))
                  bif (v9) then
                    let v10 := (g12 (v3.fst, v7.fst, ()))
                    bif (v10.fst != v3.snd.fst) then
                      some ((false), ())
                    else
                      let v11 := (IntKind.wrap IntKind.i64 (Int.tdiv v3.snd.snd.fst 3600))
                      let v12 := (IntKind.wrap IntKind.i64 ((↑(List.length v3.fst.snd.snd.snd.fst) : Int) - 1))
                      bif (decide (v11 > v12)) then
                        bif (decide (v3.snd.snd.fst ≥ 0)) then
                          let v13 := (g10 v3)
                          bif (v13.snd.fst == decide (v3.snd.snd.fst ≤ 10000000)) then
                            bif (!v13.snd.fst) then
                              some ((true), ())
                            else
                              bif (decide (0 ≤ v12) && decide (v12 < (↑(List.length v3.fst.snd.snd.snd.fst) : Int))) then
                                let v14 := (List.getD v3.fst.snd.snd.snd.fst (Int.toNat v12) (zero (Ty.slice (Ty.cpx FloatKind.f32))))
                                bif (decide (0 ≤ v3.snd.fst) && decide (v3.snd.fst < (↑(List.length v14) : Int))) then
                                  let v15 := (List.getD v14 (Int.toNat v3.snd.fst) (zero (Ty.cpx FloatKind.f32)))
                                  let v16 := (k13 (v13.fst, v15, ()))
                                  bif (v16) then
                                    let v17 := (g13 (v13.fst, v15, ()))
                                    some ((v17.1), ())
                                  else
                                    none
                                else
                                  none
                              else
                                none
                          else
                            some ((false), ())
                        else
                          let v13 := (g10 v3)
                          bif (v13.snd.fst == false) then
                            bif (!v13.snd.fst) then
                              some ((true), ())
                            else
                              bif (decide (0 ≤ v12) && decide (v12 < (↑(List.length v3.fst.snd.snd.snd.fst) : Int))) then
                                let v14 := (List.getD v3.fst.snd.snd.snd.fst (Int.toNat v12) (zero (Ty.slice (Ty.cpx FloatKind.f32))))
                                bif (decide (0 ≤ v3.snd.fst) && decide (v3.snd.fst < (↑(List.length v14) : Int))) then
                                  let v15 := (List.getD v14 (Int.toNat v3.snd.fst) (zero (Ty.cpx FloatKind.f32)))
                                  let v16 := (k13 (v13.fst, v15, ()))
                                  bif (v16) then
                                    let v17 := (g13 (v13.fst, v15, ()))
                                    some ((v17.1), ())
                                  else
                                    none
                                else
                                  none
                              else
                                none
                          else
                            some ((false), ())
                      else
                        bif (decide (v3.snd.snd.fst ≥ 0)) then
                          let v13 := (g10 v3)
                          bif (v13.snd.fst == decide (v3.snd.snd.fst ≤ 10000000)) then
                            bif (!v13.snd.fst) then
                              some ((true), ())
                            else
                              bif (decide (0 ≤ v11) && decide (v11 < (↑(List.length v3.fst.snd.snd.snd.fst) : Int))) then
                                let v14 := (List.getD v3.fst.snd.snd.snd.fst (Int.toNat v11) (zero (Ty.slice (Ty.cpx FloatKind.f32))))
                                bif (decide (0 ≤ v3.snd.fst) && decide (v3.snd.fst < (↑(List.length v14) : Int))) then
                                  let v15 := (List.getD v14 (Int.toNat v3.snd.fst) (zero (Ty.cpx FloatKind.f32)))
                                  let v16 := (k13 (v13.fst, v15, ()))
                                  bif (v16) then
                                    let v17 := (g13 (v13.fst, v15, ()))
                                    some ((v17.1), ())
                                  else
                                    none
                                else
                                  none
                              else
                                none
                          else
                            some ((false), ())
                        else
                          let v13 := (g10 v3)
                          bif (v13.snd.fst == false) then
                            bif (!v13.snd.fst) then
                              some ((true), ())
                            else
                              bif (decide (0 ≤ v11) && decide (v11 < (↑(List.length v3.fst.snd.snd.snd.fst) : Int))) then
                                let v14 := (List.getD v3.fst.snd.snd.snd.fst (Int.toNat v11) (zero (Ty.slice (Ty.cpx FloatKind.f32))))
                                bif (decide (0 ≤ v3.snd.fst) && decide (v3.snd.fst < (↑(List.length v14) : Int))) then
                                  let v15 := (List.getD v14 (Int.toNat v3.snd.fst) (zero (Ty.cpx FloatKind.f32)))
                                  let v16 := (k13 (v13.fst, v15, ()))
                                  bif (v16) then
                                    let v17 := (g13 (v13.fst, v15, ()))
                                    some ((v17.1), ())
                                  else
                                    none
                                else
                                  none
                              else
                                none
                          else
                            some ((false), ())
                  else
                    none
            else
              none
          else
            none
        else
          none
      else
        none
  else
    none
theorem ev3 (k7 : Den A7 → Bool) (g7 : Den A7 → Den R7) (k8 : Den A8 → Bool) (g8 : Den A8 → Den R8) (k9 : Den A9 → Bool) (g9 : Den A9 → Den R9) (k10 : Den A10 → Bool) (g10 : Den A10 → Den R10) (k11 : Den A11 → Bool) (g11 : Den A11 → Den R11) (k12 : Den A12 → Bool) (g12 : Den A12 → Den R12) (k13 : Den A13 → Bool) (g13 : Den A13 → Den R13) (x : Den A3) : callK (Γ3 k7 g7 k8 g8 k9 g9 k10 g10 k11 g11 k12 g12 k13 g13) (bodyOf Try.f3) (decR R3) (encA A3 x) [] = r3 k7 g7 k8 g8 k9 g9 k10 g10 k11 g11 k12 g12 k13 g13 x := by kernel_rfl
def F3 (x : Den A3) : Option (Den R3) := r3 K7 G7 K8 G8 K9 G9 K10 G10 K11 G11 K12 G12 K13 G13 x
def K3 (x : Den A3) : Bool := (F3 x).isSome
def G3 (x : Den A3) : Den R3 := (F3 x).getD (zero R3)
theorem env3 : EnvOK Try.prog (Γ3 K7 G7 K8 G8 K9 G9 K10 G10 K11 G11 K12 G12 K13 G13) := env_ok mixed tab_ok eqs_ok (.cons sem7 (.cons sem8 (.cons sem9 (.cons sem10 (.cons sem11 (.cons sem12 (.cons sem13 .nil)))))))
theorem is3 : FnIs Try.prog 3 (Γ3 K7 G7 K8 G8 K9 G9 K10 G10 K11 G11 K12 G12 K13 G13) (bodyOf Try.f3) := fnIs Try.func3 rfl rfl rfl (by kernel_rfl) (noLoops (by kernel_rfl))
theorem sem3 : SemOK Try.prog (3, fnMean A3 R3 K3 G3) := fn_opt env3 is3 fun x => ev3 K7 G7 K8 G8 K9 G9 K10 G10 K11 G11 K12 G12 K13 G13 x

end Go.Proofs.Ytmmdjajebmihhaa.AM

/- What functions of the program make of their arguments; each is what its evaluation says. Printed by fx.py. -/
namespace Go.Proofs.Ytmmdjajebmihhaa.AM
open Go Go.Proofs
set_option linter.unusedVariables false
set_option maxRecDepth 100000
set_option maxHeartbeats 0

/- "loop.example/g03321/spec.l05Tide" mode S true -/
abbrev I87 : Sg := ⟨[.ptr 0], [.box (S98)]⟩
abbrev O87 : Sg := ⟨[.mix [.ref (S96) 1, .ref (.int .i64) 2]], [.box (S98), .arr (S96), .arr (.int .i64)]⟩
abbrev V87_3 : Type := ((Unit × (Unit × (Unit × (Int × Unit)))) × (((List (Den (.int .u8))) × (Int × (Int × Unit))) × ((Unit × (Unit × Unit)) × ((Unit × (Unit × Unit)) × ((List (Den (S96))) × Unit)))))
def sh87_3 : ShS := ⟨[(0, .one (.ptr 0 0)), (2, .one (.ptr 1 0)), (3, .one (.ptr 2 0)), (4, .one (.int .i64))], [(0, .box [.sl (.int .u8), .int .i64, .int .i64]), (1, .box [.nil (S96), .nil (.int .i64)]), (2, .box [.ref (S96) 3, .nil (.int .i64)]), (3, .arr (S96))], 4, 1⟩
abbrev X87_3 : Type := ((Unit × (Unit × (Unit × Unit))) × (((List (Den (.int .u8))) × (Int × (Int × Unit))) × ((Unit × (Unit × Unit)) × ((Unit × (Unit × Unit)) × ((List (Den (S96))) × Unit)))))
def shX87_3 : ShS := ⟨[(0, .one (.ptr 0 0)), (2, .one (.ptr 1 0)), (3, .one (.ptr 2 0))], [(0, .box [.sl (.int .u8), .int .i64, .int .i64]), (1, .box [.nil (S96), .nil (.int .i64)]), (2, .box [.ref (S96) 3, .nil (.int .i64)]), (3, .arr (S96))], 4, 1⟩
abbrev V87_8 : Type := ((Unit × (Unit × (Unit × (Int × (Unit × (Int × Unit)))))) × (((List (Den (.int .u8))) × (Int × (Int × Unit))) × ((Unit × (Unit × Unit)) × ((Unit × (Unit × Unit)) × ((List (Den (S96))) × (((Nat × Nat) × ((Nat × Nat) × ((Nat × Nat) × ((Nat × Nat) × ((Nat × Nat) × ((Nat × Nat) × ((Nat × Nat) × ((Nat × Nat) × ((Nat × Nat) × ((Nat × Nat) × ((Nat × Nat) × ((Nat × Nat) × ((Nat × Nat) × ((Nat × Nat) × Unit)))))))))))))) × Unit))))))
def sh87_8 : ShS := ⟨[(0, .one (.ptr 0 0)), (2, .one (.ptr 1 0)), (3, .one (.ptr 2 0)), (4, .one (.int .i64)), (6, .one (.ptr 4 0)), (7, .one (.int .i64))], [(0, .box [.sl (.int .u8), .int .i64, .int .i64]), (1, .box [.nil (S96), .nil (.int .i64)]), (2, .box [.ref (S96) 3, .nil (.int .i64)]), (3, .arr (S96)), (4, .box [.cpx .f64, .cpx .f32, .cpx .f32, .cpx .f32, .cpx .f32, .cpx .f32, .cpx .f32, .cpx .f32, .cpx .f32, .cpx .f32, .cpx .f32, .cpx .f32, .cpx .f32, .cpx .f32])], 5, 1⟩
abbrev X87_8 : Type := ((Unit × (Unit × (Unit × (Int × (Unit × Unit))))) × (((List (Den (.int .u8))) × (Int × (Int × Unit))) × ((Unit × (Unit × Unit)) × ((Unit × (Unit × Unit)) × ((List (Den (S96))) × (((Nat × Nat) × ((Nat × Nat) × ((Nat × Nat) × ((Nat × Nat) × ((Nat × Nat) × ((Nat × Nat) × ((Nat × Nat) × ((Nat × Nat) × ((Nat × Nat) × ((Nat × Nat) × ((Nat × Nat) × ((Nat × Nat) × ((Nat × Nat) × ((Nat × Nat) × Unit)))))))))))))) × Unit))))))
def shX87_8 : ShS := ⟨[(0, .one (.ptr 0 0)), (2, .one (.ptr 1 0)), (3, .one (.ptr 2 0)), (4, .one (.int .i64)), (6, .one (.ptr 4 0))], [(0, .box [.sl (.int .u8), .int .i64, .int .i64]), (1, .box [.nil (S96), .nil (.int .i64)]), (2, .box [.ref (S96) 3, .nil (.int .i64)]), (3, .arr (S96)), (4, .box [.cpx .f64, .cpx .f32, .cpx .f32, .cpx .f32, .cpx .f32, .cpx .f32, .cpx .f32, .cpx .f32, .cpx .f32, .cpx .f32, .cpx .f32, .cpx .f32, .cpx .f32, .cpx .f32])], 5, 1⟩
abbrev V87_17 : Type := ((Unit × (Unit × (Unit × (Int × (Int × Unit))))) × (((List (Den (.int .u8))) × (Int × (Int × Unit))) × ((Unit × (Unit × Unit)) × ((Unit × (Unit × Unit)) × ((List (Den (S96))) × ((List (Den (.int .i64))) × Unit))))))
def sh87_17 : ShS := ⟨[(0, .one (.ptr 0 0)), (2, .one (.ptr 1 0)), (3, .one (.ptr 2 0)), (9, .one (.int .i64)), (10, .one (.int .i64))], [(0, .box [.sl (.int .u8), .int .i64, .int .i64]), (1, .box [.nil (S96), .nil (.int .i64)]), (2, .box [.ref (S96) 3, .ref (.int .i64) 4]), (3, .arr (S96)), (4, .arr (.int .i64))], 5, 1⟩
abbrev X87_17 : Type := ((Unit × (Unit × Unit)) × (((List (Den (.int .u8))) × (Int × (Int × Unit))) × ((Unit × (Unit × Unit)) × ((Unit × (Unit × Unit)) × ((List (Den (S96))) × ((List (Den (.int .i64))) × Unit))))))
def shX87_17 : ShS := ⟨[(2, .one (.ptr 1 0)), (3, .one (.ptr 2 0))], [(0, .box [.sl (.int .u8), .int .i64, .int .i64]), (1, .box [.nil (S96), .nil (.int .i64)]), (2, .box [.ref (S96) 3, .ref (.int .i64) 4]), (3, .arr (S96)), (4, .arr (.int .i64))], 5, 1⟩
noncomputable def Γ87 (k66 : I66.den → Bool) (g66 : I66.den → O66.den) (k45 : I45.den → Bool) (g45 : I45.den → O45.den) (kl3 : V87_3 → Bool) (xl3 : V87_3 → X87_3) (kl8 : V87_8 → Bool) (xl8 : V87_8 → X87_8) (kl17 : V87_17 → Bool) (xl17 : V87_17 → X87_17) : Env := mkEnv tab eqs [(66, sgMean true I66 O66 k66 g66), (45, sgMean true I45 O45 k45 g45)] 83 [.cell 2 49] [] [] [(3, loopX [0, 2, 3, 4] [.boxNil 3 0] 0 [0, 2, 3] [] sh87_3 shX87_3 kl3 xl3), (8, loopX [0, 2, 3, 4, 6, 7] [] 2 [0, 2, 3, 4, 6] [] sh87_8 shX87_8 kl8 xl8), (17, loopX [0, 2, 3, 9, 10] [.boxNil 3 1] 4 [2, 3] [] sh87_17 shX87_17 kl17 xl17)] [] []
noncomputable def lc87_3 : Code := (loopsOf (bodyOf Try.f87)).getD 0 .skip
noncomputable def lc87_8 : Code := (loopsOf (bodyOf Try.f87)).getD 1 .skip
noncomputable def lc87_17 : Code := (loopsOf (bodyOf Try.f87)).getD 2 .skip
def q87_17 (k66 : I66.den → Bool) (g66 : I66.den → O66.den) (k45 : I45.den → Bool) (g45 : I45.den → O45.den) (f : V87_17 → Option (X87_17)) (v : V87_17) : Option (X87_17) :=
  bif (decide (v.fst.snd.snd.snd.snd.fst > 0)) then
    let v0 := (List.set (List.replicate 1 (zero (Ty.int IntKind.i64))) 0 v.fst.snd.snd.snd.fst)
    bif (capOk (List.length v.snd.snd.snd.snd.snd.fst + List.length v0)) then
      let v1 := (k66 (((), 3, ()), v.snd.fst, ()))
      bif (v1) then
        let v2 := (g66 (((), 3, ()), v.snd.fst, ()))
        let v3 := (k66 (((), 20000, ()), v2.snd))
        bif (v3) then
          let v4 := (IntKind.wrap IntKind.i64 (v.fst.snd.snd.snd.fst + 21600))
          let v5 := (g66 (((), 20000, ()), v2.snd))
          let v6 := (IntKind.wrap IntKind.i64 (v2.fst.fst * v5.fst.fst))
          let v7 := (IntKind.wrap IntKind.i64 (v4 + v6))
          let v8 := (IntKind.wrap IntKind.i64 (v.fst.snd.snd.snd.snd.fst - 1))
          let v9 := (v.snd.snd.snd.snd.snd.fst ++ v0)
          f (((), ((), ((), ((v7), ((v8), ()))))), (((v5.snd.fst.1), ((v5.snd.fst.snd.1), ((v5.snd.fst.snd.snd.1), ()))), (((), ((), ())), (((), ((), ())), ((v.snd.snd.snd.snd.1), ((v9), ()))))))
        else
          none
      else
        none
    else
      none
  else
    some (((), ((), ())), (((v.snd.fst.1), ((v.snd.fst.snd.1), ((v.snd.fst.snd.snd.1), ()))), (((), ((), ())), (((), ((), ())), ((v.snd.snd.snd.snd.1), ((v.snd.snd.snd.snd.snd.1), ()))))))
theorem evl87_17 (k66 : I66.den → Bool) (g66 : I66.den → O66.den) (k45 : I45.den → Bool) (g45 : I45.den → O45.den) (kl3 : V87_3 → Bool) (xl3 : V87_3 → X87_3) (kl8 : V87_8 → Bool) (xl8 : V87_8 → X87_8) (kl17 : V87_17 → Bool) (xl17 : V87_17 → X87_17) (f : V87_17 → Option (X87_17)) (v : V87_17) : EBk (Γ87 k66 g66 k45 g45 kl3 xl3 kl8 xl8 kl17 xl17) lc87_17 (roundK [0, 2, 3, 9, 10] [.boxNil 3 1] 4 [2, 3] [] (atS sh87_17 f) (endX shX87_17)) (mkS sh87_17 v) = q87_17 k66 g66 k45 g45 f v := by kernel_rfl
def b87_17 (v : V87_17) : Nat := v.1.2.2.2.1.natAbs + v.1.2.2.2.2.1.natAbs + v.2.1.1.length + v.2.1.2.1.natAbs + v.2.1.2.2.1.natAbs + v.2.2.2.2.1.length + v.2.2.2.2.2.1.length + 1000
def l87_17 (v : V87_17) : Option (X87_17) := iter (q87_17 K66 G66 K45 G45) (b87_17 v) v
def kL87_17 (v : V87_17) : Bool := (l87_17 v).isSome
def xL87_17 (v : V87_17) : X87_17 := (l87_17 v).getD (((), ((), ())), (([], (0, (0, ()))), (((), ((), ())), (((), ((), ())), ([], ([], ()))))))
def q87_8 (k66 : I66.den → Bool) (g66 : I66.den → O66.den) (k45 : I45.den → Bool) (g45 : I45.den → O45.den) (f : V87_8 → Option (X87_8)) (v : V87_8) : Option (X87_8) :=
  bif (decide (v.fst.snd.snd.snd.snd.snd.fst < 13)) then
    let v0 := (k66 (((), 33, ()), v.snd.fst, ()))
    bif (v0) then
      let v1 := (g66 (((), 33, ()), v.snd.fst, ()))
      let v2 := (k66 (((), 33, ()), v1.snd))
      bif (v2) then
        bif (decide (0 ≤ v.fst.snd.snd.snd.snd.snd.fst) && decide (v.fst.snd.snd.snd.snd.snd.fst < (↑13 : Int))) then
          let v3 := (IntKind.wrap IntKind.i64 (v.fst.snd.snd.snd.snd.snd.fst + 1))
          let v4 := (g66 (((), 33, ()), v1.snd))
          let v5 := (IntKind.wrap IntKind.i64 (v1.fst.fst - 16))
          let v6 := (farith BinOp.quo FloatKind.f32 (FloatKind.nearest FloatKind.f32 v5) 1098907648)
          let v7 := (IntKind.wrap IntKind.i64 (v4.fst.fst - 16))
          let v8 := (farith BinOp.quo FloatKind.f32 (FloatKind.nearest FloatKind.f32 v7) 1098907648)
          f (((), ((), ((), ((v.fst.snd.snd.snd.1), ((), ((v3), ())))))), (((v4.snd.fst.1), ((v4.snd.fst.snd.1), ((v4.snd.fst.snd.snd.1), ()))), (((), ((), ())), (((), ((), ())), ((v.snd.snd.snd.snd.1), ((((v.snd.snd.snd.snd.snd.fst.fst.1), (v.snd.snd.snd.snd.snd.fst.fst.2)), (((bif Nat.beq 0 (Int.toNat v.fst.snd.snd.snd.snd.snd.fst) then v6 else v.snd.snd.snd.snd.snd.fst.snd.fst.fst), (bif Nat.beq 0 (Int.toNat v.fst.snd.snd.snd.snd.snd.fst) then v8 else v.snd.snd.snd.snd.snd.fst.snd.fst.snd)), (((bif Nat.beq (0 + 1) (Int.toNat v.fst.snd.snd.snd.snd.snd.fst) then v6 else v.snd.snd.snd.snd.snd.fst.snd.snd.fst.fst), (bif Nat.beq (0 + 1) (Int.toNat v.fst.snd.snd.snd.snd.snd.fst) then v8 else v.snd.snd.snd.snd.snd.fst.snd.snd.fst.snd)), (((bif Nat.beq (0 + 1 + 1) (Int.toNat v.fst.snd.snd.snd.snd.snd.fst) then v6 else v.snd.snd.snd.snd.snd.fst.snd.snd.snd.fst.fst), (bif Nat.beq (0 + 1 + 1) (Int.toNat v.fst.snd.snd.snd.snd.snd.fst) then v8 else v.snd.snd.snd.snd.snd.fst.snd.snd.snd.fst.snd)), (((bif Nat.beq (0 + 1 + 1 + 1) (Int.toNat v.fst.snd.snd.snd.snd.snd.fst) then v6 else v.snd.snd.snd.snd.snd.fst.snd.snd.snd.snd.fst.fst), (bif Nat.beq (0 + 1 + 1 + 1) (Int.toNat v.fst.snd.snd.snd.snd.snd.fst) then v8 else v.snd.snd.snd.snd.snd.fst.snd.snd.snd.snd.fst.snd)), (((bif Nat.beq (0 + 1 + 1 + 1 + 1) (Int.toNat v.fst.snd.snd.snd.snd.snd.fst) then v6 else v.snd.snd.snd.snd.snd.fst.snd.snd.snd.snd.snd.fst.fst), (bif Nat.beq (0 + 1 + 1 + 1 + 1) (Int.toNat v.fst.snd.snd.snd.snd.snd.fst) then v8 else v.snd.snd.snd.snd.snd.fst.snd.snd.snd.snd.snd.fst.snd)), (((bif Nat.beq (0 + 1 + 1 + 1 + 1 + 1) (Int.toNat v.fst.snd.snd.snd.snd.snd.fst) then v6 else v.snd.snd.snd.snd.snd.fst.snd.snd.snd.snd.snd.snd.fst.fst), (bif Nat.beq (0 + 1 + 1 + 1 + 1 + 1) (Int.toNat v.fst.snd.snd.snd.snd.snd.fst) then v8 else v.snd.snd.snd.snd.snd.fst.snd.snd.snd.snd.snd.snd.fst.snd)), (((bif Nat.beq (0 + 1 + 1 + 1 + 1 + 1 + 1) (Int.toNat v.fst.snd.snd.snd.snd.snd.fst) then v6 else v.snd.snd.snd.snd.snd.fst.snd.snd.snd.snd.snd.snd.snd.fst.fst), (bif Nat.beq (0 + 1 + 1 + 1 + 1 + 1 + 1) (Int.toNat v.fst.snd.snd.snd.snd.snd.fst) then v8 else v.snd.snd.snd.snd.snd.fst.snd.snd.snd.snd.snd.snd.snd.fst.snd)), (((bif Nat.beq (0 + 1 + 1 + 1 + 1 + 1 + 1 + 1) (Int.toNat v.fst.snd.snd.snd.snd.snd.fst) then v6 else v.snd.snd.snd.snd.snd.fst.snd.snd.snd.snd.snd.snd.snd.snd.fst.fst), (bif Nat.beq (0 + 1 + 1 + 1 + 1 + 1 + 1 + 1) (Int.toNat v.fst.snd.snd.snd.snd.snd.fst) then v8 else v.snd.snd.snd.snd.snd.fst.snd.snd.snd.snd.snd.snd.snd.snd.fst.snd)), (((bif Nat.beq (0 + 1 + 1 + 1 + 1 + 1 + 1 + 1 + 1) (Int.toNat v.fst.snd.snd.snd.snd.snd.fst) then v6 else v.snd.snd.snd.snd.snd.fst.snd.snd.snd.snd.snd.snd.snd.snd.snd.fst.fst), (bif Nat.beq (0 + 1 + 1 + 1 + 1 + 1 + 1 + 1 + 1) (Int.toNat v.fst.snd.snd.snd.snd.snd.fst) then v8 else v.snd.snd.snd.snd.snd.fst.snd.snd.snd.snd.snd.snd.snd.snd.snd.fst.snd)), (((bif Nat.beq (0 + 1 + 1 + 1 + 1 + 1 + 1 + 1 + 1 + 1) (Int.toNat v.fst.snd.snd.snd.snd.snd.fst) then v6 else v.snd.snd.snd.snd.snd.fst.snd.snd.snd.snd.snd.snd.snd.snd.snd.snd.fst.fst), (bif Nat.beq (0 + 1 + 1 + 1 + 1 + 1 + 1 + 1 + 1 + 1) (Int.toNat v.fst.snd.snd.snd.snd.snd.fst) then v8 else v.snd.snd.snd.snd.snd.fst.snd.snd.snd.snd.snd.snd.snd.snd.snd.snd.fst.snd)), (((bif Nat.beq (0 + 1 + 1 + 1 + 1 + 1 + 1 + 1 + 1 + 1 + 1) (Int.toNat v.fst.snd.snd.snd.snd.snd.fst) then v6 else v.snd.snd.snd.snd.snd.fst.snd.snd.snd.snd.snd.snd.snd.snd.snd.snd.snd.fst.fst), (bif Nat.beq (0 + 1 + 1 + 1 + 1 + 1 + 1 + 1 + 1 + 1 + 1) (Int.toNat v.fst.snd.snd.snd.snd.snd.fst) then v8 else v.snd.snd.snd.snd.snd.fst.snd.snd.snd.snd.snd.snd.snd.snd.snd.snd.snd.fst.snd)), (((bif Nat.beq (0 + 1 + 1 + 1 + 1 + 1 + 1 + 1 + 1 + 1 + 1 + 1) (Int.toNat v.fst.snd.snd.snd.snd.snd.fst) then v6 else v.snd.snd.snd.snd.snd.fst.snd.snd.snd.snd.snd.snd.snd.snd.snd.snd.snd.snd.fst.fst), (bif Nat.beq (0 + 1 + 1 + 1 + 1 + 1 + 1 + 1 + 1 + 1 + 1 + 1) (Int.toNat v.fst.snd.snd.snd.snd.snd.fst) then v8 else v.snd.snd.snd.snd.snd.fst.snd.snd.snd.snd.snd.snd.snd.snd.snd.snd.snd.snd.fst.snd)), (((bif Nat.beq (0 + 1 + 1 + 1 + 1 + 1 + 1 + 1 + 1 + 1 + 1 + 1 + 1) (Int.toNat v.fst.snd.snd.snd.snd.snd.fst) then v6 else v.snd.snd.snd.snd.snd.fst.snd.snd.snd.snd.snd.snd.snd.snd.snd.snd.snd.snd.snd.fst.fst), (bif Nat.beq (0 + 1 + 1 + 1 + 1 + 1 + 1 + 1 + 1 + 1 + 1 + 1 + 1) (Int.toNat v.fst.snd.snd.snd.snd.snd.fst) then v8 else v.snd.snd.snd.snd.snd.fst.snd.snd.snd.snd.snd.snd.snd.snd.snd.snd.snd.snd.snd.fst.snd)), ())))))))))))))), ()))))))
        else
          none
      else
        none
    else
      none
  else
    some (((), ((), ((), ((v.fst.snd.snd.snd.1), ((), ()))))), (((v.snd.fst.1), ((v.snd.fst.snd.1), ((v.snd.fst.snd.snd.1), ()))), (((), ((), ())), (((), ((), ())), ((v.snd.snd.snd.snd.1), ((((v.snd.snd.snd.snd.snd.fst.fst.1), (v.snd.snd.snd.snd.snd.fst.fst.2)), (((v.snd.snd.snd.snd.snd.fst.snd.fst.1), (v.snd.snd.snd.snd.snd.fst.snd.fst.2)), (((v.snd.snd.snd.snd.snd.fst.snd.snd.fst.1), (v.snd.snd.snd.snd.snd.fst.snd.snd.fst.2)), (((v.snd.snd.snd.snd.snd.fst.snd.snd.snd.fst.1), (v.snd.snd.snd.snd.snd.fst.snd.snd.snd.fst.2)), (((v.snd.snd.snd.snd.snd.fst.snd.snd.snd.snd.fst.1), (v.snd.snd.snd.snd.snd.fst.snd.snd.snd.snd.fst.2)), (((v.snd.snd.snd.snd.snd.fst.snd.snd.snd.snd.snd.fst.1), (v.snd.snd.snd.snd.snd.fst.snd.snd.snd.snd.snd.fst.2)), (((v.snd.snd.snd.snd.snd.fst.snd.snd.snd.snd.snd.snd.fst.1), (v.snd.snd.snd.snd.snd.fst.snd.snd.snd.snd.snd.snd.fst.2)), (((v.snd.snd.snd.snd.snd.fst.snd.snd.snd.snd.snd.snd.snd.fst.1), (v.snd.snd.snd.snd.snd.fst.snd.snd.snd.snd.snd.snd.snd.fst.2)), (((v.snd.snd.snd.snd.snd.fst.snd.snd.snd.snd.snd.snd.snd.snd.fst.1), (v.snd.snd.snd.snd.snd.fst.snd.snd.snd.snd.snd.snd.snd.snd.fst.2)), (((v.snd.snd.snd.snd.snd.fst.snd.snd.snd.snd.snd.snd.snd.snd.snd.fst.1), (v.snd.snd.snd.snd.snd.fst.snd.snd.snd.snd.snd.snd.snd.snd.snd.fst.2)), (((v.snd.snd.snd.snd.snd.fst.snd.snd.snd.snd.snd.snd.snd.snd.snd.snd.fst.1), (v.snd.snd.snd.snd.snd.fst.snd.snd.snd.snd.snd.snd.snd.snd.snd.snd.fst.2)), (((v.snd.snd.snd.snd.snd.fst.snd.snd.snd.snd.snd.snd.snd.snd.snd.snd.snd.fst.1), (v.snd.snd.snd.snd.snd.fst.snd.snd.snd.snd.snd.snd.snd.snd.snd.snd.snd.fst.2)), (((v.snd.snd.snd.snd.snd.fst.snd.snd.snd.snd.snd.snd.snd.snd.snd.snd.snd.snd.fst.1), (v.snd.snd.snd.snd.snd.fst.snd.snd.snd.snd.snd.snd.snd.snd.snd.snd.snd.snd.fst.2)), (((v.snd.snd.snd.snd.snd.fst.snd.snd.snd.snd.snd.snd.snd.snd.snd.snd.snd.snd.snd.fst.1), (v.snd.snd.snd.snd.snd.fst.snd.snd.snd.snd.snd.snd.snd.snd.snd.snd.snd.snd.snd.fst.2)), ())))))))))))))), ()))))))
theorem evl87_8 (k66 : I66.den → Bool) (g66 : I66.den → O66.den) (k45 : I45.den → Bool) (g45 : I45.den → O45.den) (kl3 : V87_3 → Bool) (xl3 : V87_3 → X87_3) (kl8 : V87_8 → Bool) (xl8 : V87_8 → X87_8) (kl17 : V87_17 → Bool) (xl17 : V87_17 → X87_17) (f : V87_8 → Option (X87_8)) (v : V87_8) : EBk (Γ87 k66 g66 k45 g45 kl3 xl3 kl8 xl8 kl17 xl17) lc87_8 (roundK [0, 2, 3, 4, 6, 7] [] 2 [0, 2, 3, 4, 6] [] (atS sh87_8 f) (endX shX87_8)) (mkS sh87_8 v) = q87_8 k66 g66 k45 g45 f v := by kernel_rfl
def b87_8 (v : V87_8) : Nat := v.1.2.2.2.1.natAbs + v.1.2.2.2.2.2.1.natAbs + v.2.1.1.length + v.2.1.2.1.natAbs + v.2.1.2.2.1.natAbs + v.2.2.2.2.1.length + 1000
def l87_8 (v : V87_8) : Option (X87_8) := iter (q87_8 K66 G66 K45 G45) (b87_8 v) v
def kL87_8 (v : V87_8) : Bool := (l87_8 v).isSome
def xL87_8 (v : V87_8) : X87_8 := (l87_8 v).getD (((), ((), ((), (0, ((), ()))))), (([], (0, (0, ()))), (((), ((), ())), (((), ((), ())), ([], (((0, 0), ((0, 0), ((0, 0), ((0, 0), ((0, 0), ((0, 0), ((0, 0), ((0, 0), ((0, 0), ((0, 0), ((0, 0), ((0, 0), ((0, 0), ((0, 0), ())))))))))))))), ()))))))
def q87_3 (k66 : I66.den → Bool) (g66 : I66.den → O66.den) (k45 : I45.den → Bool) (g45 : I45.den → O45.den) (kl8 : V87_8 → Bool) (xl8 : V87_8 → X87_8) (f : V87_3 → Option (X87_3)) (v : V87_3) : Option (X87_3) :=
  bif (decide (v.fst.snd.snd.snd.fst > 0)) then
    let v0 := (k66 (((), 8001, ()), v.snd.fst, ()))
    bif (v0) then
      let v1 := (g66 (((), 8001, ()), v.snd.fst, ()))
      let v2 := (k66 (((), 8001, ()), v1.snd))
      bif (v2) then
        let v3 := (g66 (((), 8001, ()), v1.snd))
        let v4 := (IntKind.wrap IntKind.i64 (v1.fst.fst - 4000))
        let v5 := (IntKind.wrap IntKind.i64 (v3.fst.fst - 4000))
        let v6 := (kl8 (((), (), (), v.fst.snd.snd.snd.fst, (), 0, ()), v3.snd.fst, ((), (), ()), ((), (), ()), v.snd.snd.snd.snd.fst, ((FloatKind.nearest FloatKind.f64 v4, FloatKind.nearest FloatKind.f64 v5), (0, 0), (0, 0), (0, 0), (0, 0), (0, 0), (0, 0), (0, 0), (0, 0), (0, 0), (0, 0), (0, 0), (0, 0), (0, 0), ()), ()))
        bif (v6) then
          let v7 := (xl8 (((), (), (), v.fst.snd.snd.snd.fst, (), 0, ()), v3.snd.fst, ((), (), ()), ((), (), ()), v.snd.snd.snd.snd.fst, ((FloatKind.nearest FloatKind.f64 v4, FloatKind.nearest FloatKind.f64 v5), (0, 0), (0, 0), (0, 0), (0, 0), (0, 0), (0, 0), (0, 0), (0, 0), (0, 0), (0, 0), (0, 0), (0, 0), (0, 0), ()), ()))
          let v8 := (k45 (((), 5, ()), v7.snd.fst, ()))
          bif (v8) then
            let v9 := (g45 (((), 5, ()), v7.snd.fst, ()))
            bif (v9.fst.1) then
              let v10 := (List.set (List.replicate 1 (zero S96)) 0 (v7.snd.snd.snd.snd.snd.fst.fst, ((0, 0), (0, 0), (0, 0), (0, 0), (0, 0), (0, 0), (0, 0), (0, 0), (0, 0), (0, 0), (0, 0), (0, 0), (0, 0), ()), ()))
              bif (capOk (List.length v7.snd.snd.snd.snd.fst + List.length v10)) then
                let v11 := (IntKind.wrap IntKind.i64 (v7.fst.snd.snd.snd.fst - 1))
                let v12 := (v7.snd.snd.snd.snd.fst ++ v10)
                f (((), ((), ((), ((v11), ())))), (((v9.snd.fst.1), ((v9.snd.fst.snd.1), ((v9.snd.fst.snd.snd.1), ()))), (((), ((), ())), (((), ((), ())), ((v12), ())))))
              else
                none
            else
              let v10 := (List.set (List.replicate 1 (zero S96)) 0 (v7.snd.snd.snd.snd.snd.fst.fst, v7.snd.snd.snd.snd.snd.fst.snd, ()))
              bif (capOk (List.length v7.snd.snd.snd.snd.fst + List.length v10)) then
                let v11 := (IntKind.wrap IntKind.i64 (v7.fst.snd.snd.snd.fst - 1))
                let v12 := (v7.snd.snd.snd.snd.fst ++ v10)
                f (((), ((), ((), ((v11), ())))), (((v9.snd.fst.1), ((v9.snd.fst.snd.1), ((v9.snd.fst.snd.snd.1), ()))), (((), ((), ())), (((), ((), ())), ((v12), ())))))
              else
                none
          else
            none
        else
          none
      else
        none
    else
      none
  else
    some (((), ((), ((), ()))), (((v.snd.fst.1), ((v.snd.fst.snd.1), ((v.snd.fst.snd.snd.1), ()))), (((), ((), ())), (((), ((), ())), ((v.snd.snd.snd.snd.1), ())))))
theorem evl87_3 (k66 : I66.den → Bool) (g66 : I66.den → O66.den) (k45 : I45.den → Bool) (g45 : I45.den → O45.den) (kl3 : V87_3 → Bool) (xl3 : V87_3 → X87_3) (kl8 : V87_8 → Bool) (xl8 : V87_8 → X87_8) (kl17 : V87_17 → Bool) (xl17 : V87_17 → X87_17) (f : V87_3 → Option (X87_3)) (v : V87_3) : EBk (Γ87 k66 g66 k45 g45 kl3 xl3 kl8 xl8 kl17 xl17) lc87_3 (roundK [0, 2, 3, 4] [.boxNil 3 0] 0 [0, 2, 3] [] (atS sh87_3 f) (endX shX87_3)) (mkS sh87_3 v) = q87_3 k66 g66 k45 g45 kl8 xl8 f v := by kernel_rfl
def b87_3 (v : V87_3) : Nat := v.1.2.2.2.1.natAbs + v.2.1.1.length + v.2.1.2.1.natAbs + v.2.1.2.2.1.natAbs + v.2.2.2.2.1.length + 1000
def l87_3 (v : V87_3) : Option (X87_3) := iter (q87_3 K66 G66 K45 G45 kL87_8 xL87_8) (b87_3 v) v
def kL87_3 (v : V87_3) : Bool := (l87_3 v).isSome
def xL87_3 (v : V87_3) : X87_3 := (l87_3 v).getD (((), ((), ((), ()))), (([], (0, (0, ()))), (((), ((), ())), (((), ((), ())), ([], ())))))
def r87 (k66 : I66.den → Bool) (g66 : I66.den → O66.den) (k45 : I45.den → Bool) (g45 : I45.den → O45.den) (kl3 : V87_3 → Bool) (xl3 : V87_3 → X87_3) (kl8 : V87_8 → Bool) (xl8 : V87_8 → X87_8) (kl17 : V87_17 → Bool) (xl17 : V87_17 → X87_17) (x : I87.den) : Option (O87.den) :=
  let v0 := (k66 (((), 3, ()), x.snd))
  bif (v0) then
    let v1 := (g66 (((), 3, ()), x.snd))
    let v2 := (IntKind.wrap IntKind.i64 (1 + v1.fst.fst))
    let v3 := (kl3 (((), (), (), v2, ()), v1.snd.fst, ((), (), ()), ((), (), ()), [], ()))
    bif (v3) then
      let v4 := (xl3 (((), (), (), v2, ()), v1.snd.fst, ((), (), ()), ((), (), ()), [], ()))
      let v5 := (k66 (((), 30000, ()), v4.snd.fst, ()))
      bif (v5) then
        let v6 := (g66 (((), 30000, ()), v4.snd.fst, ()))
        let v7 := (k66 (((), 5, ()), v6.snd))
        bif (v7) then
          let v8 := (g66 (((), 5, ()), v6.snd))
          let v9 := (IntKind.wrap IntKind.i64 (1 + v8.fst.fst))
          let v10 := (kl17 (((), (), (), v6.fst.fst, v9, ()), v8.snd.fst, ((), (), ()), ((), (), ()), v4.snd.snd.snd.snd.fst, [], ()))
          bif (v10) then
            let v11 := (xl17 (((), (), (), v6.fst.fst, v9, ()), v8.snd.fst, ((), (), ()), ((), (), ()), v4.snd.snd.snd.snd.fst, [], ()))
            some ((((), ((), ())), ()), (((v11.snd.fst.1), ((v11.snd.fst.snd.1), ((v11.snd.fst.snd.snd.1), ()))), ((v11.snd.snd.snd.snd.1), ((v11.snd.snd.snd.snd.snd.1), ()))))
          else
            none
        else
          none
      else
        none
    else
      none
  else
    none
theorem ev87 (k66 : I66.den → Bool) (g66 : I66.den → O66.den) (k45 : I45.den → Bool) (g45 : I45.den → O45.den) (kl3 : V87_3 → Bool) (xl3 : V87_3 → X87_3) (kl8 : V87_8 → Bool) (xl8 : V87_8 → X87_8) (kl17 : V87_17 → Bool) (xl17 : V87_17 → X87_17) (x : I87.den) : callS (Γ87 k66 g66 k45 g45 kl3 xl3 kl8 xl8 kl17 xl17) (bodyOf Try.f87) I87 O87 x = r87 k66 g66 k45 g45 kl3 xl3 kl8 xl8 kl17 xl17 x := by kernel_rfl
def F87 (x : I87.den) : Option (O87.den) := r87 K66 G66 K45 G45 kL87_3 xL87_3 kL87_8 xL87_8 kL87_17 xL87_17 x
def K87 (x : I87.den) : Bool := (F87 x).isSome
def G87 (x : I87.den) : O87.den := (F87 x).getD (zeroSg O87)
theorem env87 : EnvOK Try.prog (Γ87 K66 G66 K45 G45 kL87_3 xL87_3 kL87_8 xL87_8 kL87_17 xL87_17) := env_ok mixed tab_ok eqs_ok (.cons sem66 (.cons sem45 .nil))
theorem is87 : FnIs Try.prog 87 (Γ87 K66 G66 K45 G45 kL87_3 xL87_3 kL87_8 xL87_8 kL87_17 xL87_17) (bodyOf Try.f87) := fnIs Try.func87 rfl rfl rfl (by kernel_rfl) (loops_ok (l := [lc87_3, lc87_8, lc87_17]) (by kernel_rfl) (.cons (one_loop rfl (loopX_sound (sh := sh87_3) (shX := shX87_3) (fun f v => evl87_3 K66 G66 K45 G45 kL87_3 xL87_3 kL87_8 xL87_8 kL87_17 xL87_17 f v) b87_3 (((), ((), ((), ()))), (([], (0, (0, ()))), (((), ((), ())), (((), ((), ())), ([], ()))))))) (.cons (one_loop rfl (loopX_sound (sh := sh87_8) (shX := shX87_8) (fun f v => evl87_8 K66 G66 K45 G45 kL87_3 xL87_3 kL87_8 xL87_8 kL87_17 xL87_17 f v) b87_8 (((), ((), ((), (0, ((), ()))))), (([], (0, (0, ()))), (((), ((), ())), (((), ((), ())), ([], (((0, 0), ((0, 0), ((0, 0), ((0, 0), ((0, 0), ((0, 0), ((0, 0), ((0, 0), ((0, 0), ((0, 0), ((0, 0), ((0, 0), ((0, 0), ((0, 0), ())))))))))))))), ())))))))) (.cons (one_loop rfl (loopX_sound (sh := sh87_17) (shX := shX87_17) (fun f v => evl87_17 K66 G66 K45 G45 kL87_3 xL87_3 kL87_8 xL87_8 kL87_17 xL87_17 f v) b87_17 (((), ((), ())), (([], (0, (0, ()))), (((), ((), ())), (((), ((), ())), ([], ([], ())))))))) (.nil)))))
theorem sem87 : SemOK Try.prog (87, sgMean true I87 O87 K87 G87) := sg_opt env87 is87 true fun x => ev87 K66 G66 K45 G45 kL87_3 xL87_3 kL87_8 xL87_8 kL87_17 xL87_17 x

/- "loop.example/g03321/spec.l02Vector" mode S true -/
abbrev I44 : Sg := ⟨[.ptr 0, .val (.int .i64)], [.box (S98)]⟩
abbrev O44 : Sg := ⟨[.val (.cpx .f64)], [.box (S98)]⟩
noncomputable def Γ44 (k80 : I80.den → Bool) (g80 : I80.den → O80.den) : Env := mkEnv tab eqs [(80, sgMean true I80 O80 k80 g80)] 12 [.tmp 4] [] [] [] [] []
def r44 (k80 : I80.den → Bool) (g80 : I80.den → O80.den) (x : I44.den) : Option (O44.den) :=
  let v0 := (k80 (((), x.fst.snd), x.snd))
  bif (v0) then
    let v1 := (g80 (((), x.fst.snd), x.snd))
    let v2 := (k80 (((), x.fst.snd), v1.snd))
    bif (v2) then
      let v3 := (g80 (((), x.fst.snd), v1.snd))
      some ((((v1.fst.1), (v3.fst.1)), ()), (((v3.snd.fst.1), ((v3.snd.fst.snd.1), ((v3.snd.fst.snd.snd.1), ()))), ()))
    else
      none
  else
    none
theorem ev44 (k80 : I80.den → Bool) (g80 : I80.den → O80.den) (x : I44.den) : callS (Γ44 k80 g80) (bodyOf Try.f44) I44 O44 x = r44 k80 g80 x := by kernel_rfl
def F44 (x : I44.den) : Option (O44.den) := r44 K80 G80 x
def K44 (x : I44.den) : Bool := (F44 x).isSome
def G44 (x : I44.den) : O44.den := (F44 x).getD (zeroSg O44)
theorem env44 : EnvOK Try.prog (Γ44 K80 G80) := env_ok mixed tab_ok eqs_ok (.cons sem80 .nil)
theorem is44 : FnIs Try.prog 44 (Γ44 K80 G80) (bodyOf Try.f44) := fnIs Try.func44 rfl rfl rfl (by kernel_rfl) (noLoops (by kernel_rfl))
theorem sem44 : SemOK Try.prog (44, sgMean true I44 O44 K44 G44) := sg_opt env44 is44 true fun x => ev44 K80 G80 x

/- "loop.example/g03321/spec.DrawVectorOk" -/
abbrev A88 : Ty := .cons (.slice (.int .u8)) (.nil)
abbrev R88 : Ty := .cons (.cpx .f64) (.nil)
noncomputable def Γ88 (k30 : I30.den → Bool) (g30 : I30.den → O30.den) (k44 : I44.den → Bool) (g44 : I44.den → O44.den) (k66 : I66.den → Bool) (g66 : I66.den → O66.den) (k106 : I106.den → Bool) (g106 : I106.den → O106.den) : Env := mkEnv tab eqs [(30, sgMean false I30 O30 k30 g30), (44, sgMean true I44 O44 k44 g44), (66, sgMean true I66 O66 k66 g66), (106, sgMean true I106 O106 k106 g106)] 26 [.tmp 2] [] [] [] [] []
def r88 (k30 : I30.den → Bool) (g30 : I30.den → O30.den) (k44 : I44.den → Bool) (g44 : I44.den → O44.den) (k66 : I66.den → Bool) (g66 : I66.den → O66.den) (k106 : I106.den → Bool) (g106 : I106.den → O106.den) (x : Den A88) : Option (Den R88) :=
  let v0 := (k30 (x, ()))
  bif (v0) then
    let v1 := (g30 (x, ()))
    let v2 := (k44 (((), 1000, ()), v1.snd))
    bif (v2) then
      let v3 := (g44 (((), 1000, ()), v1.snd))
      let v4 := (k66 (((), 6, ()), v3.snd))
      bif (v4) then
        let v5 := (g66 (((), 6, ()), v3.snd))
        bif (v5.fst.fst == 0) then
          some (((4726483295884279808), (13949855332739055616)), ())
        else
          bif (v5.fst.fst == 1) then
            some (((v3.fst.fst.1), (4726483295884279809)), ())
          else
            bif (v5.fst.fst == 2) then
              let v6 := (k106 (((), ()), v5.snd))
              bif (v6) then
                let v7 := (g106 (((), ()), v5.snd))
                let v8 := (k106 (((), ()), v7.snd))
                bif (v8) then
                  let v9 := (g106 (((), ()), v7.snd))
                  some (((v7.fst.1), (v9.fst.1)), ())
                else
                  none
              else
                none
            else
              some (((v3.fst.fst.1), (v3.fst.fst.2)), ())
      else
        none
    else
      none
  else
    none
theorem ev88 (k30 : I30.den → Bool) (g30 : I30.den → O30.den) (k44 : I44.den → Bool) (g44 : I44.den → O44.den) (k66 : I66.den → Bool) (g66 : I66.den → O66.den) (k106 : I106.den → Bool) (g106 : I106.den → O106.den) (x : Den A88) : callK (Γ88 k30 g30 k44 g44 k66 g66 k106 g106) (bodyOf Try.f88) (decR R88) (encA A88 x) [] = r88 k30 g30 k44 g44 k66 g66 k106 g106 x := by kernel_rfl
def F88 (x : Den A88) : Option (Den R88) := r88 K30 G30 K44 G44 K66 G66 K106 G106 x
def K88 (x : Den A88) : Bool := (F88 x).isSome
def G88 (x : Den A88) : Den R88 := (F88 x).getD (zero R88)
theorem env88 : EnvOK Try.prog (Γ88 K30 G30 K44 G44 K66 G66 K106 G106) := env_ok mixed tab_ok eqs_ok (.cons sem30 (.cons sem44 (.cons sem66 (.cons sem106 .nil))))
theorem is88 : FnIs Try.prog 88 (Γ88 K30 G30 K44 G44 K66 G66 K106 G106) (bodyOf Try.f88) := fnIs Try.func88 rfl rfl rfl (by kernel_rfl) (noLoops (by kernel_rfl))
theorem sem88 : SemOK Try.prog (88, fnMean A88 R88 K88 G88) := fn_opt env88 is88 fun x => ev88 K30 G30 K44 G44 K66 G66 K106 G106 x

/- "loop.example/g03321/spec.l05Any" mode S true -/
abbrev I58 : Sg := ⟨[.ptr 0], [.box (S98)]⟩
abbrev O58 : Sg := ⟨[.val (S48)], [.box (S98)]⟩
abbrev V58_15 : Type := ((Unit × (Unit × (Unit × Unit))) × (((List (Den (.int .u8))) × (Int × (Int × Unit))) × ((Unit × (Unit × Unit)) × ((Unit × (Unit × Unit)) × ((List (Den (S96))) × ((List (Den (.int .i64))) × Unit))))))
def sh58_15 : ShS := ⟨[(0, .one (.ptr 0 0)), (2, .one (.ptr 1 0)), (3, .one (.ptr 2 0))], [(0, .box [.sl (.int .u8), .int .i64, .int .i64]), (1, .box [.nil (S96), .nil (.int .i64)]), (2, .box [.ref (S96) 3, .ref (.int .i64) 4]), (3, .arr (S96)), (4, .arr (.int .i64))], 5, 1⟩
abbrev X58_15 : Type := ((Unit × (Unit × Unit)) × (((List (Den (.int .u8))) × (Int × (Int × Unit))) × ((Unit × (Unit × Unit)) × ((Unit × (Unit × Unit)) × ((List (Den (S96))) × ((List (Den (.int .i64))) × Unit))))))
def shX58_15 : ShS := ⟨[(2, .one (.ptr 1 0)), (3, .one (.ptr 2 0))], [(0, .box [.sl (.int .u8), .int .i64, .int .i64]), (1, .box [.nil (S96), .nil (.int .i64)]), (2, .box [.ref (S96) 3, .ref (.int .i64) 4]), (3, .arr (S96)), (4, .arr (.int .i64))], 5, 1⟩
noncomputable def Γ58 (k87 : I87.den → Bool) (g87 : I87.den → O87.den) (k66 : I66.den → Bool) (g66 : I66.den → O66.den) (k89 : I89.den → Bool) (g89 : I89.den → O89.den) (k88 : Den A88 → Bool) (g88 : Den A88 → Den R88) (k90 : I90.den → Bool) (g90 : I90.den → O90.den) (k75 : I75.den → Bool) (g75 : I75.den → O75.den) (kl15 : V58_15 → Bool) (xl15 : V58_15 → X58_15) : Env := mkEnv tab eqs [(87, sgMean true I87 O87 k87 g87), (66, sgMean true I66 O66 k66 g66), (89, sgMean true I89 O89 k89 g89), (88, fnMean A88 R88 k88 g88), (90, sgMean true I90 O90 k90 g90), (75, sgMean true I75 O75 k75 g75)] 94 [.cell 2 49] [] [] [(15, loopX [0, 2, 3] [] 1 [2, 3] [] sh58_15 shX58_15 kl15 xl15)] [] [.frzBox 2]
noncomputable def lc58_15 : Code := (loopsOf (bodyOf Try.f58)).getD 0 .skip
def q58_15 (k87 : I87.den → Bool) (g87 : I87.den → O87.den) (k66 : I66.den → Bool) (g66 : I66.den → O66.den) (k89 : I89.den → Bool) (g89 : I89.den → O89.den) (k88 : Den A88 → Bool) (g88 : Den A88 → Den R88) (k90 : I90.den → Bool) (g90 : I90.den → O90.den) (k75 : I75.den → Bool) (g75 : I75.den → O75.den) (f : V58_15 → Option (X58_15)) (v : V58_15) : Option (X58_15) :=
  let v0 := (k66 (((), 2, ()), v.snd.fst, ()))
  bif (v0) then
    let v1 := (g66 (((), 2, ()), v.snd.fst, ()))
    let v2 := (IntKind.wrap IntKind.i64 (20 + v1.fst.fst))
    bif (decide ((↑(List.length v.snd.snd.snd.snd.fst) : Int) < v2)) then
      bif (decide (0 ≤ 0) && decide (0 < (↑(List.length v.snd.snd.snd.snd.fst) : Int))) then
        let v3 := (List.getD v.snd.snd.snd.snd.fst (Int.toNat 0) (zero S96))
        let v4 := (List.set (List.replicate 1 (zero S96)) 0 v3)
        bif (capOk (List.length v.snd.snd.snd.snd.fst + List.length v4)) then
          let v5 := (v.snd.snd.snd.snd.fst ++ v4)
          f (((), ((), ((), ()))), (((v1.snd.fst.1), ((v1.snd.fst.snd.1), ((v1.snd.fst.snd.snd.1), ()))), (((), ((), ())), (((), ((), ())), ((v5), ((v.snd.snd.snd.snd.snd.1), ()))))))
        else
          none
      else
        none
    else
      some (((), ((), ())), (((v1.snd.fst.1), ((v1.snd.fst.snd.1), ((v1.snd.fst.snd.snd.1), ()))), (((), ((), ())), (((), ((), ())), ((v.snd.snd.snd.snd.1), ((v.snd.snd.snd.snd.snd.1), ()))))))
  else
    none
theorem evl58_15 (k87 : I87.den → Bool) (g87 : I87.den → O87.den) (k66 : I66.den → Bool) (g66 : I66.den → O66.den) (k89 : I89.den → Bool) (g89 : I89.den → O89.den) (k88 : Den A88 → Bool) (g88 : Den A88 → Den R88) (k90 : I90.den → Bool) (g90 : I90.den → O90.den) (k75 : I75.den → Bool) (g75 : I75.den → O75.den) (kl15 : V58_15 → Bool) (xl15 : V58_15 → X58_15) (f : V58_15 → Option (X58_15)) (v : V58_15) : EBk (Γ58 k87 g87 k66 g66 k89 g89 k88 g88 k90 g90 k75 g75 kl15 xl15) lc58_15 (roundK [0, 2, 3] [] 1 [2, 3] [] (atS sh58_15 f) (endX shX58_15)) (mkS sh58_15 v) = q58_15 k87 g87 k66 g66 k89 g89 k88 g88 k90 g90 k75 g75 f v := by kernel_rfl
def b58_15 (v : V58_15) : Nat := v.2.1.1.length + v.2.1.2.1.natAbs + v.2.1.2.2.1.natAbs + v.2.2.2.2.1.length + v.2.2.2.2.2.1.length + 1000
def l58_15 (v : V58_15) : Option (X58_15) := iter (q58_15 K87 G87 K66 G66 K89 G89 K88 G88 K90 G90 K75 G75) (b58_15 v) v
def kL58_15 (v : V58_15) : Bool := (l58_15 v).isSome
def xL58_15 (v : V58_15) : X58_15 := (l58_15 v).getD (((), ((), ())), (([], (0, (0, ()))), (((), ((), ())), (((), ((), ())), ([], ([], ()))))))
def r58 (k87 : I87.den → Bool) (g87 : I87.den → O87.den) (k66 : I66.den → Bool) (g66 : I66.den → O66.den) (k89 : I89.den → Bool) (g89 : I89.den → O89.den) (k88 : Den A88 → Bool) (g88 : Den A88 → Den R88) (k90 : I90.den → Bool) (g90 : I90.den → O90.den) (k75 : I75.den → Bool) (g75 : I75.den → O75.den) (kl15 : V58_15 → Bool) (xl15 : V58_15 → X58_15) (x : I58.den) : Option (O58.den) :=
  let v0 := (k87 (((), ()), x.snd))
  bif (v0) then
    let v1 := (g87 (((), ()), x.snd))
    let v2 := (k66 (((), (↑(List.length v1.snd.snd.fst) : Int), ()), v1.snd.fst, ()))
    bif (v2) then
      let v3 := (g66 (((), (↑(List.length v1.snd.snd.fst) : Int), ()), v1.snd.fst, ()))
      let v4 := (k66 (((), 24, ()), v3.snd))
      bif (v4) then
        let v5 := (g66 (((), 24, ()), v3.snd))
        bif (v5.fst.fst == 0) then
          let v6 := (k89 (((), ()), v5.snd))
          bif (v6) then
            let v7 := (g89 (((), ()), v5.snd))
            let v8 := (IntKind.wrap IntKind.u8 v7.fst.fst)
            let v9 := (List.set (List.replicate 1 (zero (Ty.int IntKind.u8))) 0 v8)
            let v10 := (k88 (v9, ()))
            bif (v10) then
              bif (decide (0 ≤ v3.fst.fst) && decide (v3.fst.fst < (↑(List.length v1.snd.snd.fst) : Int))) then
                let v11 := (g88 (v9, ()))
                let v12 := (List.getD v1.snd.snd.fst (Int.toNat v3.fst.fst) (zero S96))
                let v13 := (List.set v1.snd.snd.fst (Int.toNat v3.fst.fst) (v11.fst, v12.snd))
                some ((((v13), ((v1.snd.snd.snd.1), ())), ()), (((v7.snd.fst.1), ((v7.snd.fst.snd.1), ((v7.snd.fst.snd.snd.1), ()))), ()))
              else
                none
            else
              none
          else
            none
        else
          bif (v5.fst.fst == 1) then
            let v6 := (k66 (((), 13, ()), v5.snd))
            bif (v6) then
              let v7 := (g66 (((), 13, ()), v5.snd))
              let v8 := (k90 (((), ()), v7.snd))
              bif (v8) then
                bif (decide (0 ≤ v3.fst.fst) && decide (v3.fst.fst < (↑(List.length v1.snd.snd.fst) : Int))) then
                  bif (decide (0 ≤ v7.fst.fst) && decide (v7.fst.fst < (↑13 : Int))) then
                    let v9 := (List.getD v1.snd.snd.fst (Int.toNat v3.fst.fst) (zero S96))
                    let v10 := (g90 (((), ()), v7.snd))
                    let v11 := (List.set v1.snd.snd.fst (Int.toNat v3.fst.fst) (v9.fst, ((bif Nat.beq 0 (Int.toNat v7.fst.fst) then v10.fst.fst.fst else v9.snd.fst.fst.fst, bif Nat.beq 0 (Int.toNat v7.fst.fst) then v10.fst.fst.snd else v9.snd.fst.fst.snd), (bif Nat.beq (0 + 1) (Int.toNat v7.fst.fst) then v10.fst.fst.fst else v9.snd.fst.snd.fst.fst, bif Nat.beq (0 + 1) (Int.toNat v7.fst.fst) then v10.fst.fst.snd else v9.snd.fst.snd.fst.snd), (bif Nat.beq (0 + 1 + 1) (Int.toNat v7.fst.fst) then v10.fst.fst.fst else v9.snd.fst.snd.snd.fst.fst, bif Nat.beq (0 + 1 + 1) (Int.toNat v7.fst.fst) then v10.fst.fst.snd else v9.snd.fst.snd.snd.fst.snd), (bif Nat.beq (0 + 1 + 1 + 1) (Int.toNat v7.fst.fst) then v10.fst.fst.fst else v9.snd.fst.snd.snd.snd.fst.fst, bif Nat.beq (0 + 1 + 1 + 1) (Int.toNat v7.fst.fst) then v10.fst.fst.snd else v9.snd.fst.snd.snd.snd.fst.snd), (bif Nat.beq (0 + 1 + 1 + 1 + 1) (Int.toNat v7.fst.fst) then v10.fst.fst.fst else v9.snd.fst.snd.snd.snd.snd.fst.fst, bif Nat.beq (0 + 1 + 1 + 1 + 1) (Int.toNat v7.fst.fst) then v10.fst.fst.snd else v9.snd.fst.snd.snd.snd.snd.fst.snd), (bif Nat.beq (0 + 1 + 1 + 1 + 1 + 1) (Int.toNat v7.fst.fst) then v10.fst.fst.fst else v9.snd.fst.snd.snd.snd.snd.snd.fst.fst, bif Nat.beq (0 + 1 + 1 + 1 + 1 + 1) (Int.toNat v7.fst.fst) then v10.fst.fst.snd else v9.snd.fst.snd.snd.snd.snd.snd.fst.snd), (bif Nat.beq (0 + 1 + 1 + 1 + 1 + 1 + 1) (Int.toNat v7.fst.fst) then v10.fst.fst.fst else v9.snd.fst.snd.snd.snd.snd.snd.snd.fst.fst, bif Nat.beq (0 + 1 + 1 + 1 + 1 + 1 + 1) (Int.toNat v7.fst.fst) then v10.fst.fst.snd else v9.snd.fst.snd.snd.snd.snd.snd.snd.fst.snd), (bif Nat.beq (0 + 1 + 1 + 1 + 1 + 1 + 1 + 1) (Int.toNat v7.fst.fst) then v10.fst.fst.fst else v9.snd.fst.snd.snd.snd.snd.snd.snd.snd.fst.fst, bif Nat.beq (0 + 1 + 1 + 1 + 1 + 1 + 1 + 1) (Int.toNat v7.fst.fst) then v10.fst.fst.snd else v9.snd.fst.snd.snd.snd.snd.snd.snd.snd.fst.snd), (bif Nat.beq (0 + 1 + 1 + 1 + 1 + 1 + 1 + 1 + 1) (Int.toNat v7.fst.fst) then v10.fst.fst.fst else v9.snd.fst.snd.snd.snd.snd.snd.snd.snd.snd.fst.fst, bif Nat.beq (0 + 1 + 1 + 1 + 1 + 1 + 1 + 1 + 1) (Int.toNat v7.fst.fst) then v10.fst.fst.snd else v9.snd.fst.snd.snd.snd.snd.snd.snd.snd.snd.fst.snd), (bif Nat.beq (0 + 1 + 1 + 1 + 1 + 1 + 1 + 1 + 1 + 1) (Int.toNat v7.fst.fst) then v10.fst.fst.fst else v9.snd.fst.snd.snd.snd.snd.snd.snd.snd.snd.snd.fst.fst, bif Nat.beq (0 + 1 + 1 + 1 + 1 + 1 + 1 + 1 + 1 + 1) (Int.toNat v7.fst.fst) then v10.fst.fst.snd else v9.snd.fst.snd.snd.snd.snd.snd.snd.snd.snd.snd.fst.snd), (bif Nat.beq (0 + 1 + 1 + 1 + 1 + 1 + 1 + 1 + 1 + 1 + 1) (Int.toNat v7.fst.fst) then v10.fst.fst.fst else v9.snd.fst.snd.snd.snd.snd.snd.snd.snd.snd.snd.snd.fst.fst, bif Nat.beq (0 + 1 + 1 + 1 + 1 + 1 + 1 + 1 + 1 + 1 + 1) (Int.toNat v7.fst.fst) then v10.fst.fst.snd else v9.snd.fst.snd.snd.snd.snd.snd.snd.snd.snd.snd.snd.fst.snd), (bif Nat.beq (0 + 1 + 1 + 1 + 1 + 1 + 1 + 1 + 1 + 1 + 1 + 1) (Int.toNat v7.fst.fst) then v10.fst.fst.fst else v9.snd.fst.snd.snd.snd.snd.snd.snd.snd.snd.snd.snd.snd.fst.fst, bif Nat.beq (0 + 1 + 1 + 1 + 1 + 1 + 1 + 1 + 1 + 1 + 1 + 1) (Int.toNat v7.fst.fst) then v10.fst.fst.snd else v9.snd.fst.snd.snd.snd.snd.snd.snd.snd.snd.snd.snd.snd.fst.snd), (bif Nat.beq (0 + 1 + 1 + 1 + 1 + 1 + 1 + 1 + 1 + 1 + 1 + 1 + 1) (Int.toNat v7.fst.fst) then v10.fst.fst.fst else v9.snd.fst.snd.snd.snd.snd.snd.snd.snd.snd.snd.snd.snd.snd.fst.fst, bif Nat.beq (0 + 1 + 1 + 1 + 1 + 1 + 1 + 1 + 1 + 1 + 1 + 1 + 1) (Int.toNat v7.fst.fst) then v10.fst.fst.snd else v9.snd.fst.snd.snd.snd.snd.snd.snd.snd.snd.snd.snd.snd.snd.fst.snd), ()), ()))
                    some ((((v11), ((v1.snd.snd.snd.1), ())), ()), (((v10.snd.fst.1), ((v10.snd.fst.snd.1), ((v10.snd.fst.snd.snd.1), ()))), ()))
                  else
                    none
                else
                  none
              else
                none
            else
              none
          else
            bif (v5.fst.fst == 2) then
              let v6 := (k66 (((), (↑(List.length v1.snd.snd.snd.fst) : Int), ()), v5.snd))
              bif (v6) then
                let v7 := (g66 (((), (↑(List.length v1.snd.snd.snd.fst) : Int), ()), v5.snd))
                let v8 := (k75 (((), ()), v7.snd))
                bif (v8) then
                  bif (decide (0 ≤ v7.fst.fst) && decide (v7.fst.fst < (↑(List.length v1.snd.snd.snd.fst) : Int))) then
                    let v9 := (g75 (((), ()), v7.snd))
                    let v10 := (List.set v1.snd.snd.snd.fst (Int.toNat v7.fst.fst) v9.fst.fst)
                    some ((((v1.snd.snd.1), ((v10), ())), ()), (((v9.snd.fst.1), ((v9.snd.fst.snd.1), ((v9.snd.fst.snd.snd.1), ()))), ()))
                  else
                    none
                else
                  none
              else
                none
            else
              bif (v5.fst.fst == 3) then
                some ((((v1.snd.snd.1), ((List.replicate 0 (zero (Ty.int IntKind.i64))), ())), ()), (((v5.snd.fst.1), ((v5.snd.fst.snd.1), ((v5.snd.fst.snd.snd.1), ()))), ()))
              else
                bif (v5.fst.fst == 4) then
                  some ((((List.replicate 0 (zero S96)), ((v1.snd.snd.snd.1), ())), ()), (((v5.snd.fst.1), ((v5.snd.fst.snd.1), ((v5.snd.fst.snd.snd.1), ()))), ()))
                else
                  bif (v5.fst.fst == 5) then
                    let v6 := (kl15 (((), (), (), ()), v5.snd.fst, ((), (), ()), ((), (), ()), v1.snd.snd))
                    bif (v6) then
                      let v7 := (xl15 (((), (), (), ()), v5.snd.fst, ((), (), ()), ((), (), ()), v1.snd.snd))
                      some ((((v7.snd.snd.snd.snd.1), ((v7.snd.snd.snd.snd.snd.1), ())), ()), (((v7.snd.fst.1), ((v7.snd.fst.snd.1), ((v7.snd.fst.snd.snd.1), ()))), ()))
                    else
                      none
                  else
                    bif (v5.fst.fst == 6) then
                      let v6 := (IntKind.wrap IntKind.i64 ((↑(List.length v1.snd.snd.snd.fst) : Int) - 1))
                      bif (decide (0 ≤ v6) && decide (v6 < (↑(List.length v1.snd.snd.snd.fst) : Int))) then
                        let v7 := (List.getD v1.snd.snd.snd.fst (Int.toNat v6) (zero (Ty.int IntKind.i64)))
                        let v8 := (IntKind.wrap IntKind.i64 (v7 + 21600))
                        let v9 := (IntKind.wrap IntKind.i64 (v8 - 1))
                        let v10 := (List.set (List.replicate 1 (zero (Ty.int IntKind.i64))) 0 v9)
                        bif (capOk (List.length v1.snd.snd.snd.fst + List.length v10)) then
                          let v11 := (v1.snd.snd.snd.fst ++ v10)
                          some ((((v1.snd.snd.1), ((v11), ())), ()), (((v5.snd.fst.1), ((v5.snd.fst.snd.1), ((v5.snd.fst.snd.snd.1), ()))), ()))
                        else
                          none
                      else
                        none
                    else
                      some ((((v1.snd.snd.1), ((v1.snd.snd.snd.1), ())), ()), (((v5.snd.fst.1), ((v5.snd.fst.snd.1), ((v5.snd.fst.snd.snd.1), ()))), ()))
      else
        none
    else
      none
  else
    none
theorem ev58 (k87 : I87.den → Bool) (g87 : I87.den → O87.den) (k66 : I66.den → Bool) (g66 : I66.den → O66.den) (k89 : I89.den → Bool) (g89 : I89.den → O89.den) (k88 : Den A88 → Bool) (g88 : Den A88 → Den R88) (k90 : I90.den → Bool) (g90 : I90.den → O90.den) (k75 : I75.den → Bool) (g75 : I75.den → O75.den) (kl15 : V58_15 → Bool) (xl15 : V58_15 → X58_15) (x : I58.den) : callS (Γ58 k87 g87 k66 g66 k89 g89 k88 g88 k90 g90 k75 g75 kl15 xl15) (bodyOf Try.f58) I58 O58 x = r58 k87 g87 k66 g66 k89 g89 k88 g88 k90 g90 k75 g75 kl15 xl15 x := by kernel_rfl
def F58 (x : I58.den) : Option (O58.den) := r58 K87 G87 K66 G66 K89 G89 K88 G88 K90 G90 K75 G75 kL58_15 xL58_15 x
def K58 (x : I58.den) : Bool := (F58 x).isSome
def G58 (x : I58.den) : O58.den := (F58 x).getD (zeroSg O58)
theorem env58 : EnvOK Try.prog (Γ58 K87 G87 K66 G66 K89 G89 K88 G88 K90 G90 K75 G75 kL58_15 xL58_15) := env_ok mixed tab_ok eqs_ok (.cons sem87 (.cons sem66 (.cons sem89 (.cons sem88 (.cons sem90 (.cons sem75 .nil))))))
theorem is58 : FnIs Try.prog 58 (Γ58 K87 G87 K66 G66 K89 G89 K88 G88 K90 G90 K75 G75 kL58_15 xL58_15) (bodyOf Try.f58) := fnIs Try.func58 rfl rfl rfl (by kernel_rfl) (loops_ok (l := [lc58_15]) (by kernel_rfl) (.cons (one_loop rfl (loopX_sound (sh := sh58_15) (shX := shX58_15) (fun f v => evl58_15 K87 G87 K66 G66 K89 G89 K88 G88 K90 G90 K75 G75 kL58_15 xL58_15 f v) b58_15 (((), ((), ())), (([], (0, (0, ()))), (((), ((), ())), (((), ((), ())), ([], ([], ())))))))) (.nil)))
theorem sem58 : SemOK Try.prog (58, sgMean true I58 O58 K58 G58) := sg_opt env58 is58 true fun x => ev58 K87 G87 K66 G66 K89 G89 K88 G88 K90 G90 K75 G75 kL58_15 xL58_15 x

/- "loop.example/g03321/spec.l05Place" mode S true -/
abbrev I59 : Sg := ⟨[.ptr 0, .val (S48)], [.box (S98)]⟩
abbrev O59 : Sg := ⟨[.val (.cpx .f64)], [.box (S98)]⟩
noncomputable def Γ59 (k45 : I45.den → Bool) (g45 : I45.den → O45.den) (k66 : I66.den → Bool) (g66 : I66.den → O66.den) (k44 : I44.den → Bool) (g44 : I44.den → O44.den) : Env := mkEnv tab eqs [(45, sgMean true I45 O45 k45 g45), (66, sgMean true I66 O66 k66 g66), (44, sgMean true I44 O44 k44 g44)] 25 [.tmp 4] [] [] [] [] []
def r59 (k45 : I45.den → Bool) (g45 : I45.den → O45.den) (k66 : I66.den → Bool) (g66 : I66.den → O66.den) (k44 : I44.den → Bool) (g44 : I44.den → O44.den) (x : I59.den) : Option (O59.den) :=
  bif (decide ((↑(List.length x.fst.snd.fst.fst) : Int) > 0)) then
    let v0 := (k45 (((), 4, ()), x.snd))
    bif (v0) then
      let v1 := (g45 (((), 4, ()), x.snd))
      bif (v1.fst.1) then
        let v2 := (k66 (((), (↑(List.length x.fst.snd.fst.fst) : Int), ()), v1.snd))
        bif (v2) then
          let v3 := (g66 (((), (↑(List.length x.fst.snd.fst.fst) : Int), ()), v1.snd))
          bif (decide (0 ≤ v3.fst.fst) && decide (v3.fst.fst < (↑(List.length x.fst.snd.fst.fst) : Int))) then
            let v4 := (List.getD x.fst.snd.fst.fst (Int.toNat v3.fst.fst) (zero S96))
            some ((((v4.fst.1), (v4.fst.2)), ()), (((v3.snd.fst.1), ((v3.snd.fst.snd.1), ((v3.snd.fst.snd.snd.1), ()))), ()))
          else
            none
        else
          none
      else
        let v2 := (k44 (((), 5000, ()), v1.snd))
        bif (v2) then
          let v3 := (g44 (((), 5000, ()), v1.snd))
          some ((((v3.fst.fst.1), (v3.fst.fst.2)), ()), (((v3.snd.fst.1), ((v3.snd.fst.snd.1), ((v3.snd.fst.snd.snd.1), ()))), ()))
        else
          none
    else
      none
  else
    let v0 := (k44 (((), 5000, ()), x.snd))
    bif (v0) then
      let v1 := (g44 (((), 5000, ()), x.snd))
      some ((((v1.fst.fst.1), (v1.fst.fst.2)), ()), (((v1.snd.fst.1), ((v1.snd.fst.snd.1), ((v1.snd.fst.snd.snd.1), ()))), ()))
    else
      none
theorem ev59 (k45 : I45.den → Bool) (g45 : I45.den → O45.den) (k66 : I66.den → Bool) (g66 : I66.den → O66.den) (k44 : I44.den → Bool) (g44 : I44.den → O44.den) (x : I59.den) : callS (Γ59 k45 g45 k66 g66 k44 g44) (bodyOf Try.f59) I59 O59 x = r59 k45 g45 k66 g66 k44 g44 x := by kernel_rfl
def F59 (x : I59.den) : Option (O59.den) := r59 K45 G45 K66 G66 K44 G44 x
def K59 (x : I59.den) : Bool := (F59 x).isSome
def G59 (x : I59.den) : O59.den := (F59 x).getD (zeroSg O59)
theorem env59 : EnvOK Try.prog (Γ59 K45 G45 K66 G66 K44 G44) := env_ok mixed tab_ok eqs_ok (.cons sem45 (.cons sem66 (.cons sem44 .nil)))
theorem is59 : FnIs Try.prog 59 (Γ59 K45 G45 K66 G66 K44 G44) (bodyOf Try.f59) := fnIs Try.func59 rfl rfl rfl (by kernel_rfl) (noLoops (by kernel_rfl))
theorem sem59 : SemOK Try.prog (59, sgMean true I59 O59 K59 G59) := sg_opt env59 is59 true fun x => ev59 K45 G45 K66 G66 K44 G44 x

/- "loop.example/g03321/spec.l05Time" mode S true -/
abbrev I60 : Sg := ⟨[.ptr 0, .val (S48)], [.box (S98)]⟩
abbrev O60 : Sg := ⟨[.val (.int .i64)], [.box (S98)]⟩
noncomputable def Γ60 (k45 : I45.den → Bool) (g45 : I45.den → O45.den) (k76 : I76.den → Bool) (g76 : I76.den → O76.den) (k66 : I66.den → Bool) (g66 : I66.den → O66.den) : Env := mkEnv tab eqs [(45, sgMean true I45 O45 k45 g45), (76, sgMean true I76 O76 k76 g76), (66, sgMean true I66 O66 k66 g66)] 45 [.tmp 4] [] [] [] [] []
def r60 (k45 : I45.den → Bool) (g45 : I45.den → O45.den) (k76 : I76.den → Bool) (g76 : I76.den → O76.den) (k66 : I66.den → Bool) (g66 : I66.den → O66.den) (x : I60.den) : Option (O60.den) :=
  bif ((↑(List.length x.fst.snd.fst.snd.fst) : Int) == 0) then
    let v0 := (List.set (List.replicate 5 (zero (Ty.int IntKind.i64))) 0 (-1))
    let v1 := (List.set v0 1 0)
    let v2 := (List.set v1 2 10000000)
    let v3 := (List.set v2 3 10000001)
    let v4 := (List.set v3 4 9223372036854775807)
    let v5 := (k76 (((), (), ()), x.snd.fst, v4, ()))
    bif (v5) then
      let v6 := (g76 (((), (), ()), x.snd.fst, v4, ()))
      some (((v6.fst.1), ()), (((v6.snd.fst.1), ((v6.snd.fst.snd.1), ((v6.snd.fst.snd.snd.1), ()))), ()))
    else
      none
  else
    let v0 := (k45 (((), 15, ()), x.snd))
    bif (v0) then
      let v1 := (g45 (((), 15, ()), x.snd))
      bif (v1.fst.1) then
        let v2 := (List.set (List.replicate 5 (zero (Ty.int IntKind.i64))) 0 (-1))
        let v3 := (List.set v2 1 0)
        let v4 := (List.set v3 2 10000000)
        let v5 := (List.set v4 3 10000001)
        let v6 := (List.set v5 4 9223372036854775807)
        let v7 := (k76 (((), (), ()), v1.snd.fst, v6, ()))
        bif (v7) then
          let v8 := (g76 (((), (), ()), v1.snd.fst, v6, ()))
          some (((v8.fst.1), ()), (((v8.snd.fst.1), ((v8.snd.fst.snd.1), ((v8.snd.fst.snd.snd.1), ()))), ()))
        else
          none
      else
        let v2 := (k66 (((), (↑(List.length x.fst.snd.fst.snd.fst) : Int), ()), v1.snd))
        bif (v2) then
          let v3 := (g66 (((), (↑(List.length x.fst.snd.fst.snd.fst) : Int), ()), v1.snd))
          bif (decide (0 ≤ v3.fst.fst) && decide (v3.fst.fst < (↑(List.length x.fst.snd.fst.snd.fst) : Int))) then
            let v4 := (k66 (((), 4, ()), v3.snd))
            bif (v4) then
              let v5 := (g66 (((), 4, ()), v3.snd))
              bif (v5.fst.fst == 0) then
                let v6 := (k66 (((), 15, ()), v5.snd))
                bif (v6) then
                  let v7 := (List.getD x.fst.snd.fst.snd.fst (Int.toNat v3.fst.fst) (zero (Ty.int IntKind.i64)))
                  let v8 := (g66 (((), 15, ()), v5.snd))
                  let v9 := (IntKind.wrap IntKind.i64 (v8.fst.fst - 7))
                  let v10 := (IntKind.wrap IntKind.i64 (v9 * 3600))
                  let v11 := (IntKind.wrap IntKind.i64 (v7 + v10))
                  some (((v11), ()), (((v8.snd.fst.1), ((v8.snd.fst.snd.1), ((v8.snd.fst.snd.snd.1), ()))), ()))
                else
                  none
              else
                bif (v5.fst.fst == 1) then
                  let v6 := (List.getD x.fst.snd.fst.snd.fst (Int.toNat v3.fst.fst) (zero (Ty.int IntKind.i64)))
                  let v7 := (IntKind.wrap IntKind.i64 (v6 + 10800))
                  some (((v7), ()), (((v5.snd.fst.1), ((v5.snd.fst.snd.1), ((v5.snd.fst.snd.snd.1), ()))), ()))
                else
                  let v6 := (k66 (((), 50001, ()), v5.snd))
                  bif (v6) then
                    let v7 := (List.getD x.fst.snd.fst.snd.fst (Int.toNat v3.fst.fst) (zero (Ty.int IntKind.i64)))
                    let v8 := (g66 (((), 50001, ()), v5.snd))
                    let v9 := (IntKind.wrap IntKind.i64 (v7 + v8.fst.fst))
                    let v10 := (IntKind.wrap IntKind.i64 (v9 - 25000))
                    some (((v10), ()), (((v8.snd.fst.1), ((v8.snd.fst.snd.1), ((v8.snd.fst.snd.snd.1), ()))), ()))
                  else
                    none
            else
              none
          else
            none
        else
          none
    else
      none
theorem ev60 (k45 : I45.den → Bool) (g45 : I45.den → O45.den) (k76 : I76.den → Bool) (g76 : I76.den → O76.den) (k66 : I66.den → Bool) (g66 : I66.den → O66.den) (x : I60.den) : callS (Γ60 k45 g45 k76 g76 k66 g66) (bodyOf Try.f60) I60 O60 x = r60 k45 g45 k76 g76 k66 g66 x := by kernel_rfl
def F60 (x : I60.den) : Option (O60.den) := r60 K45 G45 K76 G76 K66 G66 x
def K60 (x : I60.den) : Bool := (F60 x).isSome
def G60 (x : I60.den) : O60.den := (F60 x).getD (zeroSg O60)
theorem env60 : EnvOK Try.prog (Γ60 K45 G45 K76 G76 K66 G66) := env_ok mixed tab_ok eqs_ok (.cons sem45 (.cons sem76 (.cons sem66 .nil)))
theorem is60 : FnIs Try.prog 60 (Γ60 K45 G45 K76 G76 K66 G66) (bodyOf Try.f60) := fnIs Try.func60 rfl rfl rfl (by kernel_rfl) (noLoops (by kernel_rfl))
theorem sem60 : SemOK Try.prog (60, sgMean true I60 O60 K60 G60) := sg_opt env60 is60 true fun x => ev60 K45 G45 K76 G76 K66 G66 x

/- "loop.example/g03321/spec.l02Degrees" mode S true -/
abbrev I46 : Sg := ⟨[.ptr 0], [.box (S98)]⟩
abbrev O46 : Sg := ⟨[.val (.int .i64)], [.box (S98)]⟩
noncomputable def Γ46 (k45 : I45.den → Bool) (g45 : I45.den → O45.den) (k75 : I75.den → Bool) (g75 : I75.den → O75.den) (k66 : I66.den → Bool) (g66 : I66.den → O66.den) : Env := mkEnv tab eqs [(45, sgMean true I45 O45 k45 g45), (75, sgMean true I75 O75 k75 g75), (66, sgMean true I66 O66 k66 g66)] 11 [.tmp 2] [] [] [] [] []
def r46 (k45 : I45.den → Bool) (g45 : I45.den → O45.den) (k75 : I75.den → Bool) (g75 : I75.den → O75.den) (k66 : I66.den → Bool) (g66 : I66.den → O66.den) (x : I46.den) : Option (O46.den) :=
  let v0 := (k45 (((), 12, ()), x.snd))
  bif (v0) then
    let v1 := (g45 (((), 12, ()), x.snd))
    bif (v1.fst.1) then
      let v2 := (k75 (((), ()), v1.snd))
      bif (v2) then
        let v3 := (g75 (((), ()), v1.snd))
        let v4 := (IntKind.wrap IntKind.i64 (Int.tdiv v3.fst.fst 2))
        let v5 := (IntKind.wrap IntKind.i64 (v4 - 200))
        some (((v5), ()), (((v3.snd.fst.1), ((v3.snd.fst.snd.1), ((v3.snd.fst.snd.snd.1), ()))), ()))
      else
        none
    else
      let v2 := (k66 (((), 360, ()), v1.snd))
      bif (v2) then
        let v3 := (g66 (((), 360, ()), v1.snd))
        some (((v3.fst.1), ()), (((v3.snd.fst.1), ((v3.snd.fst.snd.1), ((v3.snd.fst.snd.snd.1), ()))), ()))
      else
        none
  else
    none
theorem ev46 (k45 : I45.den → Bool) (g45 : I45.den → O45.den) (k75 : I75.den → Bool) (g75 : I75.den → O75.den) (k66 : I66.den → Bool) (g66 : I66.den → O66.den) (x : I46.den) : callS (Γ46 k45 g45 k75 g75 k66 g66) (bodyOf Try.f46) I46 O46 x = r46 k45 g45 k75 g75 k66 g66 x := by kernel_rfl
def F46 (x : I46.den) : Option (O46.den) := r46 K45 G45 K75 G75 K66 G66 x
def K46 (x : I46.den) : Bool := (F46 x).isSome
def G46 (x : I46.den) : O46.den := (F46 x).getD (zeroSg O46)
theorem env46 : EnvOK Try.prog (Γ46 K45 G45 K75 G75 K66 G66) := env_ok mixed tab_ok eqs_ok (.cons sem45 (.cons sem75 (.cons sem66 .nil)))
theorem is46 : FnIs Try.prog 46 (Γ46 K45 G45 K75 G75 K66 G66) (bodyOf Try.f46) := fnIs Try.func46 rfl rfl rfl (by kernel_rfl) (noLoops (by kernel_rfl))
theorem sem46 : SemOK Try.prog (46, sgMean true I46 O46 K46 G46) := sg_opt env46 is46 true fun x => ev46 K45 G45 K75 G75 K66 G66 x

/- "loop.example/g03321/spec.l06Speed" mode S true -/
abbrev I108 : Sg := ⟨[.ptr 0], [.box (S98)]⟩
abbrev O108 : Sg := ⟨[.val (.flt .f32)], [.box (S98)]⟩
noncomputable def Γ108 (k66 : I66.den → Bool) (g66 : I66.den → O66.den) (k107 : I107.den → Bool) (g107 : I107.den → O107.den) : Env := mkEnv tab eqs [(66, sgMean true I66 O66 k66 g66), (107, sgMean true I107 O107 k107 g107)] 17 [.tmp 2] [] [] [] [] []
def r108 (k66 : I66.den → Bool) (g66 : I66.den → O66.den) (k107 : I107.den → Bool) (g107 : I107.den → O107.den) (x : I108.den) : Option (O108.den) :=
  let v0 := (k66 (((), 16, ()), x.snd))
  bif (v0) then
    let v1 := (g66 (((), 16, ()), x.snd))
    bif (v1.fst.fst == 0) then
      let v2 := (k107 (((), 60, ()), v1.snd))
      bif (v2) then
        let v3 := (g107 (((), 60, ()), v1.snd))
        some (((v3.fst.1), ()), (((v3.snd.fst.1), ((v3.snd.fst.snd.1), ((v3.snd.fst.snd.snd.1), ()))), ()))
      else
        none
    else
      bif (v1.fst.fst == 1) then
        some (((0), ()), (((v1.snd.fst.1), ((v1.snd.fst.snd.1), ((v1.snd.fst.snd.snd.1), ()))), ()))
      else
        bif (v1.fst.fst == 2) then
          some (((1112014848), ()), (((v1.snd.fst.1), ((v1.snd.fst.snd.1), ((v1.snd.fst.snd.snd.1), ()))), ()))
        else
          let v2 := (k66 (((), 161, ()), v1.snd))
          bif (v2) then
            let v3 := (g66 (((), 161, ()), v1.snd))
            let v4 := (farith BinOp.quo FloatKind.f32 (FloatKind.nearest FloatKind.f32 v3.fst.fst) 1098907648)
            some (((v4), ()), (((v3.snd.fst.1), ((v3.snd.fst.snd.1), ((v3.snd.fst.snd.snd.1), ()))), ()))
          else
            none
  else
    none
theorem ev108 (k66 : I66.den → Bool) (g66 : I66.den → O66.den) (k107 : I107.den → Bool) (g107 : I107.den → O107.den) (x : I108.den) : callS (Γ108 k66 g66 k107 g107) (bodyOf Try.f108) I108 O108 x = r108 k66 g66 k107 g107 x := by kernel_rfl
def F108 (x : I108.den) : Option (O108.den) := r108 K66 G66 K107 G107 x
def K108 (x : I108.den) : Bool := (F108 x).isSome
def G108 (x : I108.den) : O108.den := (F108 x).getD (zeroSg O108)
theorem env108 : EnvOK Try.prog (Γ108 K66 G66 K107 G107) := env_ok mixed tab_ok eqs_ok (.cons sem66 (.cons sem107 .nil))
theorem is108 : FnIs Try.prog 108 (Γ108 K66 G66 K107 G107) (bodyOf Try.f108) := fnIs Try.func108 rfl rfl rfl (by kernel_rfl) (noLoops (by kernel_rfl))
theorem sem108 : SemOK Try.prog (108, sgMean true I108 O108 K108 G108) := sg_opt env108 is108 true fun x => ev108 K66 G66 K107 G107 x

/- "loop.example/g03321/spec.l07Leg" mode S true -/
abbrev I91 : Sg := ⟨[.ptr 0], [.box (S98)]⟩
abbrev O91 : Sg := ⟨[.val (S53)], [.box (S98)]⟩
noncomputable def Γ91 (k46 : I46.den → Bool) (g46 : I46.den → O46.den) (k108 : I108.den → Bool) (g108 : I108.den → O108.den) (k66 : I66.den → Bool) (g66 : I66.den → O66.den) (k76 : I76.den → Bool) (g76 : I76.den → O76.den) : Env := mkEnv tab eqs [(46, sgMean true I46 O46 k46 g46), (108, sgMean true I108 O108 k108 g108), (66, sgMean true I66 O66 k66 g66), (76, sgMean true I76 O76 k76 g76)] 26 [.cell 2 54] [] [] [] [] []
def r91 (k46 : I46.den → Bool) (g46 : I46.den → O46.den) (k108 : I108.den → Bool) (g108 : I108.den → O108.den) (k66 : I66.den → Bool) (g66 : I66.den → O66.den) (k76 : I76.den → Bool) (g76 : I76.den → O76.den) (x : I91.den) : Option (O91.den) :=
  let v0 := (k46 (((), ()), x.snd))
  bif (v0) then
    let v1 := (g46 (((), ()), x.snd))
    let v2 := (k108 (((), ()), v1.snd))
    bif (v2) then
      let v3 := (g108 (((), ()), v1.snd))
      let v4 := (k66 (((), 4000, ()), v3.snd))
      bif (v4) then
        let v5 := (g66 (((), 4000, ()), v3.snd))
        let v6 := (k66 (((), 14, ()), v5.snd))
        bif (v6) then
          let v7 := (g66 (((), 14, ()), v5.snd))
          bif (v7.fst.fst == 0) then
            let v8 := (List.set (List.replicate 5 (zero (Ty.int IntKind.i64))) 0 (-1))
            let v9 := (List.set v8 1 0)
            let v10 := (List.set v9 2 600)
            let v11 := (List.set v10 3 100000)
            let v12 := (List.set v11 4 100001)
            let v13 := (k76 (((), (), ()), v7.snd.fst, v12, ()))
            bif (v13) then
              let v14 := (g76 (((), (), ()), v7.snd.fst, v12, ()))
              some ((((v1.fst.1), ((v3.fst.1), ((v14.fst.1), ()))), ()), (((v14.snd.fst.1), ((v14.snd.fst.snd.1), ((v14.snd.fst.snd.snd.1), ()))), ()))
            else
              none
          else
            bif (v7.fst.fst == 1) then
              let v8 := (k66 (((), 5, ()), v7.snd))
              bif (v8) then
                let v9 := (g66 (((), 5, ()), v7.snd))
                let v10 := (IntKind.wrap IntKind.i64 (600 * v9.fst.fst))
                some ((((v1.fst.1), ((v3.fst.1), ((v10), ()))), ()), (((v9.snd.fst.1), ((v9.snd.fst.snd.1), ((v9.snd.fst.snd.snd.1), ()))), ()))
              else
                none
            else
              some ((((v1.fst.1), ((v3.fst.1), ((v5.fst.1), ()))), ()), (((v7.snd.fst.1), ((v7.snd.fst.snd.1), ((v7.snd.fst.snd.snd.1), ()))), ()))
        else
          none
      else
        none
    else
      none
  else
    none
theorem ev91 (k46 : I46.den → Bool) (g46 : I46.den → O46.den) (k108 : I108.den → Bool) (g108 : I108.den → O108.den) (k66 : I66.den → Bool) (g66 : I66.den → O66.den) (k76 : I76.den → Bool) (g76 : I76.den → O76.den) (x : I91.den) : callS (Γ91 k46 g46 k108 g108 k66 g66 k76 g76) (bodyOf Try.f91) I91 O91 x = r91 k46 g46 k108 g108 k66 g66 k76 g76 x := by kernel_rfl
def F91 (x : I91.den) : Option (O91.den) := r91 K46 G46 K108 G108 K66 G66 K76 G76 x
def K91 (x : I91.den) : Bool := (F91 x).isSome
def G91 (x : I91.den) : O91.den := (F91 x).getD (zeroSg O91)
theorem env91 : EnvOK Try.prog (Γ91 K46 G46 K108 G108 K66 G66 K76 G76) := env_ok mixed tab_ok eqs_ok (.cons sem46 (.cons sem108 (.cons sem66 (.cons sem76 .nil))))
theorem is91 : FnIs Try.prog 91 (Γ91 K46 G46 K108 G108 K66 G66 K76 G76) (bodyOf Try.f91) := fnIs Try.func91 rfl rfl rfl (by kernel_rfl) (noLoops (by kernel_rfl))
theorem sem91 : SemOK Try.prog (91, sgMean true I91 O91 K91 G91) := sg_opt env91 is91 true fun x => ev91 K46 G46 K108 G108 K66 G66 K76 G76 x

/- "loop.example/g03321/spec.l07Some" mode S true -/
abbrev I61 : Sg := ⟨[.ptr 0], [.box (S98)]⟩
abbrev O61 : Sg := ⟨[.own (S53) 1], [.box (S98), .arr (S53)]⟩
abbrev V61_5 : Type := ((Unit × (Unit × (Int × Unit))) × (((List (Den (.int .u8))) × (Int × (Int × Unit))) × ((List (Den (S53))) × Unit)))
def sh61_5 : ShS := ⟨[(0, .one (.ptr 0 0)), (3, .one (.ref (S53) 1)), (4, .one (.int .i64))], [(0, .box [.sl (.int .u8), .int .i64, .int .i64]), (1, .arr (S53))], 2, 1⟩
abbrev X61_5 : Type := ((Unit × Unit) × (((List (Den (.int .u8))) × (Int × (Int × Unit))) × ((List (Den (S53))) × Unit)))
def shX61_5 : ShS := ⟨[(3, .one (.ref (S53) 1))], [(0, .box [.sl (.int .u8), .int .i64, .int .i64]), (1, .arr (S53))], 2, 1⟩
noncomputable def Γ61 (k66 : I66.den → Bool) (g66 : I66.den → O66.den) (k45 : I45.den → Bool) (g45 : I45.den → O45.den) (k91 : I91.den → Bool) (g91 : I91.den → O91.den) (kl5 : V61_5 → Bool) (xl5 : V61_5 → X61_5) : Env := mkEnv tab eqs [(66, sgMean true I66 O66 k66 g66), (45, sgMean true I45 O45 k45 g45), (91, sgMean true I91 O91 k91 g91)] 23 [.tmp 2] [] [] [(5, loopX [0, 3, 4] [] 0 [3] [] sh61_5 shX61_5 kl5 xl5)] [] []
noncomputable def lc61_5 : Code := (loopsOf (bodyOf Try.f61)).getD 0 .skip
def q61_5 (k66 : I66.den → Bool) (g66 : I66.den → O66.den) (k45 : I45.den → Bool) (g45 : I45.den → O45.den) (k91 : I91.den → Bool) (g91 : I91.den → O91.den) (f : V61_5 → Option (X61_5)) (v : V61_5) : Option (X61_5) :=
  bif (decide (v.fst.snd.snd.fst > 0)) then
    let v0 := (k91 (((), ()), v.snd.fst, ()))
    bif (v0) then
      let v1 := (g91 (((), ()), v.snd.fst, ()))
      let v2 := (List.set (List.replicate 1 (zero S53)) 0 v1.fst.fst)
      bif (capOk (List.length v.snd.snd.fst + List.length v2)) then
        let v3 := (IntKind.wrap IntKind.i64 (v.fst.snd.snd.fst - 1))
        let v4 := (v.snd.snd.fst ++ v2)
        f (((), ((), ((v3), ()))), (((v1.snd.fst.1), ((v1.snd.fst.snd.1), ((v1.snd.fst.snd.snd.1), ()))), ((v4), ())))
      else
        none
    else
      none
  else
    some (((), ()), (((v.snd.fst.1), ((v.snd.fst.snd.1), ((v.snd.fst.snd.snd.1), ()))), ((v.snd.snd.1), ())))
theorem evl61_5 (k66 : I66.den → Bool) (g66 : I66.den → O66.den) (k45 : I45.den → Bool) (g45 : I45.den → O45.den) (k91 : I91.den → Bool) (g91 : I91.den → O91.den) (kl5 : V61_5 → Bool) (xl5 : V61_5 → X61_5) (f : V61_5 → Option (X61_5)) (v : V61_5) : EBk (Γ61 k66 g66 k45 g45 k91 g91 kl5 xl5) lc61_5 (roundK [0, 3, 4] [] 0 [3] [] (atS sh61_5 f) (endX shX61_5)) (mkS sh61_5 v) = q61_5 k66 g66 k45 g45 k91 g91 f v := by kernel_rfl
def b61_5 (v : V61_5) : Nat := v.1.2.2.1.natAbs + v.2.1.1.length + v.2.1.2.1.natAbs + v.2.1.2.2.1.natAbs + v.2.2.1.length + 1000
def l61_5 (v : V61_5) : Option (X61_5) := iter (q61_5 K66 G66 K45 G45 K91 G91) (b61_5 v) v
def kL61_5 (v : V61_5) : Bool := (l61_5 v).isSome
def xL61_5 (v : V61_5) : X61_5 := (l61_5 v).getD (((), ()), (([], (0, (0, ()))), ([], ())))
def r61 (k66 : I66.den → Bool) (g66 : I66.den → O66.den) (k45 : I45.den → Bool) (g45 : I45.den → O45.den) (k91 : I91.den → Bool) (g91 : I91.den → O91.den) (kl5 : V61_5 → Bool) (xl5 : V61_5 → X61_5) (x : I61.den) : Option (O61.den) :=
  let v0 := (k66 (((), 5, ()), x.snd))
  bif (v0) then
    let v1 := (g66 (((), 5, ()), x.snd))
    let v2 := (k45 (((), 40, ()), v1.snd))
    bif (v2) then
      let v3 := (g45 (((), 40, ()), v1.snd))
      bif (v3.fst.1) then
        let v4 := (k66 (((), 2, ()), v3.snd))
        bif (v4) then
          let v5 := (g66 (((), 2, ()), v3.snd))
          let v6 := (IntKind.wrap IntKind.i64 (50 + v5.fst.fst))
          let v7 := (kl5 (((), (), v6, ()), v5.snd.fst, List.replicate 0 (zero S53), ()))
          bif (v7) then
            let v8 := (xl5 (((), (), v6, ()), v5.snd.fst, List.replicate 0 (zero S53), ()))
            some (((), ()), (((v8.snd.fst.1), ((v8.snd.fst.snd.1), ((v8.snd.fst.snd.snd.1), ()))), ((v8.snd.snd.1), ())))
          else
            none
        else
          none
      else
        let v4 := (kl5 (((), (), v1.fst), v3.snd.fst, List.replicate 0 (zero S53), ()))
        bif (v4) then
          let v5 := (xl5 (((), (), v1.fst), v3.snd.fst, List.replicate 0 (zero S53), ()))
          some (((), ()), (((v5.snd.fst.1), ((v5.snd.fst.snd.1), ((v5.snd.fst.snd.snd.1), ()))), ((v5.snd.snd.1), ())))
        else
          none
    else
      none
  else
    none
theorem ev61 (k66 : I66.den → Bool) (g66 : I66.den → O66.den) (k45 : I45.den → Bool) (g45 : I45.den → O45.den) (k91 : I91.den → Bool) (g91 : I91.den → O91.den) (kl5 : V61_5 → Bool) (xl5 : V61_5 → X61_5) (x : I61.den) : callS (Γ61 k66 g66 k45 g45 k91 g91 kl5 xl5) (bodyOf Try.f61) I61 O61 x = r61 k66 g66 k45 g45 k91 g91 kl5 xl5 x := by kernel_rfl
def F61 (x : I61.den) : Option (O61.den) := r61 K66 G66 K45 G45 K91 G91 kL61_5 xL61_5 x
def K61 (x : I61.den) : Bool := (F61 x).isSome
def G61 (x : I61.den) : O61.den := (F61 x).getD (zeroSg O61)
theorem env61 : EnvOK Try.prog (Γ61 K66 G66 K45 G45 K91 G91 kL61_5 xL61_5) := env_ok mixed tab_ok eqs_ok (.cons sem66 (.cons sem45 (.cons sem91 .nil)))
theorem is61 : FnIs Try.prog 61 (Γ61 K66 G66 K45 G45 K91 G91 kL61_5 xL61_5) (bodyOf Try.f61) := fnIs Try.func61 rfl rfl rfl (by kernel_rfl) (loops_ok (l := [lc61_5]) (by kernel_rfl) (.cons (one_loop rfl (loopX_sound (sh := sh61_5) (shX := shX61_5) (fun f v => evl61_5 K66 G66 K45 G45 K91 G91 kL61_5 xL61_5 f v) b61_5 (((), ()), (([], (0, (0, ()))), ([], ()))))) (.nil)))
theorem sem61 : SemOK Try.prog (61, sgMean true I61 O61 K61 G61) := sg_opt env61 is61 true fun x => ev61 K66 G66 K45 G45 K91 G91 kL61_5 xL61_5 x

/- "loop.example/g03321/spec.DrawRunTide" mode S false -/
abbrev I20 : Sg := ⟨[.val (.slice (.int .u8))], []⟩
abbrev O20 : Sg := ⟨[.val (.cpx .f64), .val (.int .i64), .own (S53) 0, .val (S48)], [.arr (S53)]⟩
noncomputable def Γ20 (k30 : I30.den → Bool) (g30 : I30.den → O30.den) (k58 : I58.den → Bool) (g58 : I58.den → O58.den) (k59 : I59.den → Bool) (g59 : I59.den → O59.den) (k60 : I60.den → Bool) (g60 : I60.den → O60.den) (k61 : I61.den → Bool) (g61 : I61.den → O61.den) : Env := mkEnv tab eqs [(30, sgMean false I30 O30 k30 g30), (58, sgMean true I58 O58 k58 g58), (59, sgMean true I59 O59 k59 g59), (60, sgMean true I60 O60 k60 g60), (61, sgMean true I61 O61 k61 g61)] 25 [.tmp 2, .tmp 3, .tmp 4, .cell 5 49] [] [] [] [] []
def r20 (k30 : I30.den → Bool) (g30 : I30.den → O30.den) (k58 : I58.den → Bool) (g58 : I58.den → O58.den) (k59 : I59.den → Bool) (g59 : I59.den → O59.den) (k60 : I60.den → Bool) (g60 : I60.den → O60.den) (k61 : I61.den → Bool) (g61 : I61.den → O61.den) (x : I20.den) : Option (O20.den) :=
  let v0 := (k30 x)
  bif (v0) then
    let v1 := (g30 x)
    let v2 := (k58 (((), ()), v1.snd))
    bif (v2) then
      let v3 := (g58 (((), ()), v1.snd))
      let v4 := (k59 (((), v3.fst), v3.snd))
      bif (v4) then
        let v5 := (g59 (((), v3.fst), v3.snd))
        let v6 := (k60 (((), v3.fst), v5.snd))
        bif (v6) then
          let v7 := (g60 (((), v3.fst), v5.snd))
          let v8 := (k61 (((), ()), v7.snd))
          bif (v8) then
            let v9 := (g61 (((), ()), v7.snd))
            some ((((v5.fst.fst.1), (v5.fst.fst.2)), ((v7.fst.1), ((), (((v3.fst.fst.1), ((v3.fst.fst.snd.1), ())), ())))), ((v9.snd.snd.1), ()))
          else
            none
        else
          none
      else
        none
    else
      none
  else
    none
theorem ev20 (k30 : I30.den → Bool) (g30 : I30.den → O30.den) (k58 : I58.den → Bool) (g58 : I58.den → O58.den) (k59 : I59.den → Bool) (g59 : I59.den → O59.den) (k60 : I60.den → Bool) (g60 : I60.den → O60.den) (k61 : I61.den → Bool) (g61 : I61.den → O61.den) (x : I20.den) : callS (Γ20 k30 g30 k58 g58 k59 g59 k60 g60 k61 g61) (bodyOf Try.f20) I20 O20 x = r20 k30 g30 k58 g58 k59 g59 k60 g60 k61 g61 x := by kernel_rfl
def F20 (x : I20.den) : Option (O20.den) := r20 K30 G30 K58 G58 K59 G59 K60 G60 K61 G61 x
def K20 (x : I20.den) : Bool := (F20 x).isSome
def G20 (x : I20.den) : O20.den := (F20 x).getD (zeroSg O20)
theorem env20 : EnvOK Try.prog (Γ20 K30 G30 K58 G58 K59 G59 K60 G60 K61 G61) := env_ok mixed tab_ok eqs_ok (.cons sem30 (.cons sem58 (.cons sem59 (.cons sem60 (.cons sem61 .nil)))))
theorem is20 : FnIs Try.prog 20 (Γ20 K30 G30 K58 G58 K59 G59 K60 G60 K61 G61) (bodyOf Try.f20) := fnIs Try.func20 rfl rfl rfl (by kernel_rfl) (noLoops (by kernel_rfl))
theorem sem20 : SemOK Try.prog (20, sgMean false I20 O20 K20 G20) := sg_opt env20 is20 false fun x => ev20 K30 G30 K58 G58 K59 G59 K60 G60 K61 G61 x

/- "loop.example/g03321/spec.DrawSlackFrom" -/
abbrev A25 : Ty := .cons (.slice (.int .u8)) (.nil)
abbrev R25 : Ty := .cons (S48) (.cons (.cpx .f64) (.cons (.int .i64) (.cons (.flt .f32) (.nil))))
noncomputable def Γ25 (k30 : I30.den → Bool) (g30 : I30.den → O30.den) (k58 : I58.den → Bool) (g58 : I58.den → O58.den) (k59 : I59.den → Bool) (g59 : I59.den → O59.den) (k60 : I60.den → Bool) (g60 : I60.den → O60.den) (k45 : I45.den → Bool) (g45 : I45.den → O45.den) (k66 : I66.den → Bool) (g66 : I66.den → O66.den) : Env := mkEnv tab eqs [(30, sgMean false I30 O30 k30 g30), (58, sgMean true I58 O58 k58 g58), (59, sgMean true I59 O59 k59 g59), (60, sgMean true I60 O60 k60 g60), (45, sgMean true I45 O45 k45 g45), (66, sgMean true I66 O66 k66 g66)] 33 [.cell 2 49, .tmp 3, .tmp 4, .tmp 5] [] [] [] [] []
def r25 (k30 : I30.den → Bool) (g30 : I30.den → O30.den) (k58 : I58.den → Bool) (g58 : I58.den → O58.den) (k59 : I59.den → Bool) (g59 : I59.den → O59.den) (k60 : I60.den → Bool) (g60 : I60.den → O60.den) (k45 : I45.den → Bool) (g45 : I45.den → O45.den) (k66 : I66.den → Bool) (g66 : I66.den → O66.den) (x : Den A25) : Option (Den R25) :=
  let v0 := (k30 (x, ()))
  bif (v0) then
    let v1 := (g30 (x, ()))
    let v2 := (k58 (((), ()), v1.snd))
    bif (v2) then
      let v3 := (g58 (((), ()), v1.snd))
      let v4 := (k59 (((), v3.fst), v3.snd))
      bif (v4) then
        let v5 := (g59 (((), v3.fst), v3.snd))
        let v6 := (k60 (((), v3.fst), v5.snd))
        bif (v6) then
          let v7 := (g60 (((), v3.fst), v5.snd))
          let v8 := (k45 (((), 10, ()), v7.snd))
          bif (v8) then
            let v9 := (g45 (((), 10, ()), v7.snd))
            bif (v9.fst.1) then
              let v10 := (k66 (((), 800, ()), v9.snd))
              bif (v10) then
                let v11 := (g66 (((), 800, ()), v9.snd))
                let v12 := (k66 (((), 20, ()), v11.snd))
                bif (v12) then
                  let v13 := (IntKind.wrap IntKind.i64 (-60 * v11.fst.fst))
                  let v14 := (g66 (((), 20, ()), v11.snd))
                  let v15 := (IntKind.wrap IntKind.i64 (v14.fst.fst - 1))
                  let v16 := (farith BinOp.quo FloatKind.f32 (FloatKind.nearest FloatKind.f32 v15) 1098907648)
                  some (((v3.fst.fst.1), ((v3.fst.fst.snd.1), ())), (((v5.fst.fst.1), (v5.fst.fst.2)), ((v13), ((v16), ()))))
                else
                  none
              else
                none
            else
              let v10 := (k66 (((), 20, ()), v9.snd))
              bif (v10) then
                let v11 := (g66 (((), 20, ()), v9.snd))
                let v12 := (IntKind.wrap IntKind.i64 (v11.fst.fst - 1))
                let v13 := (farith BinOp.quo FloatKind.f32 (FloatKind.nearest FloatKind.f32 v12) 1098907648)
                some (((v3.fst.fst.1), ((v3.fst.fst.snd.1), ())), (((v5.fst.fst.1), (v5.fst.fst.2)), ((v7.fst.1), ((v13), ()))))
              else
                none
          else
            none
        else
          none
      else
        none
    else
      none
  else
    none
theorem ev25 (k30 : I30.den → Bool) (g30 : I30.den → O30.den) (k58 : I58.den → Bool) (g58 : I58.den → O58.den) (k59 : I59.den → Bool) (g59 : I59.den → O59.den) (k60 : I60.den → Bool) (g60 : I60.den → O60.den) (k45 : I45.den → Bool) (g45 : I45.den → O45.den) (k66 : I66.den → Bool) (g66 : I66.den → O66.den) (x : Den A25) : callK (Γ25 k30 g30 k58 g58 k59 g59 k60 g60 k45 g45 k66 g66) (bodyOf Try.f25) (decR R25) (encA A25 x) [] = r25 k30 g30 k58 g58 k59 g59 k60 g60 k45 g45 k66 g66 x := by kernel_rfl
def F25 (x : Den A25) : Option (Den R25) := r25 K30 G30 K58 G58 K59 G59 K60 G60 K45 G45 K66 G66 x
def K25 (x : Den A25) : Bool := (F25 x).isSome
def G25 (x : Den A25) : Den R25 := (F25 x).getD (zero R25)
theorem env25 : EnvOK Try.prog (Γ25 K30 G30 K58 G58 K59 G59 K60 G60 K45 G45 K66 G66) := env_ok mixed tab_ok eqs_ok (.cons sem30 (.cons sem58 (.cons sem59 (.cons sem60 (.cons sem45 (.cons sem66 .nil))))))
theorem is25 : FnIs Try.prog 25 (Γ25 K30 G30 K58 G58 K59 G59 K60 G60 K45 G45 K66 G66) (bodyOf Try.f25) := fnIs Try.func25 rfl rfl rfl (by kernel_rfl) (noLoops (by kernel_rfl))
theorem sem25 : SemOK Try.prog (25, fnMean A25 R25 K25 G25) := fn_opt env25 is25 fun x => ev25 K30 G30 K58 G58 K59 G59 K60 G60 K45 G45 K66 G66 x

end Go.Proofs.Ytmmdjajebmihhaa.AM
