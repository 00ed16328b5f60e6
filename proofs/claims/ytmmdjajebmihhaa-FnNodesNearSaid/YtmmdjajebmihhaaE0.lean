/- Plainly: math.Abs: the model answers a double's bits itself; what is made of them. Conditions: none. -/
import Derived.Test.YtmmdjajebmihhaaT0
import Derived.Test.YtmmdjajebmihhaaN4
import Derived.Test.YtmmdjajebmihhaaP0
namespace Go.Proofs.Ytmmdjajebmihhaa.AM
open Go Go.Proofs
set_option linter.unusedVariables false
set_option maxRecDepth 100000
set_option maxHeartbeats 0

theorem ext105 : ExtIs Try.prog 105 Extern.MathFloatBits.float64bits := ⟨_, Try.func105, rfl, rfl, by kernel_rfl, by kernel_rfl⟩
theorem ext104 : ExtIs Try.prog 104 Extern.MathFloatBits.float64frombits := ⟨_, Try.func104, rfl, rfl, by kernel_rfl, by kernel_rfl⟩
abbrev NaN64 : Type := { z : Nat // isNaN .f64 z = true }
theorem nan64 : Nonempty NaN64 := ⟨⟨qn .f64, isNaN_qn _⟩⟩

/- "math.Abs" -/
abbrev A79 : Ty := .cons (.flt .f64) (.nil)
abbrev R79 : Ty := .cons (.flt .f64) (.nil)
noncomputable def N79 : NEnv := mkN [(105, extFam (.cons (.flt .f64) .nil) (.cons (.int .u64) .nil) NaN64 nan64 (fun z x => ((((bif isNaN .f64 x.1 then z.1 else x.1 : Nat) : Int)), ()))), (104, extFam (.cons (.int .u64) .nil) (.cons (.flt .f64) .nil) Unit ⟨()⟩ (fun _ x => ((x.1 : Int).toNat, ())))] []
noncomputable def Γ79 : Env := mkEnv tab eqs [] 7 [.tmp 2] [] [] [] [] []
theorem evN79 (h : Den R79 → Option Unit) (x : Den A79) : callN Γ79 N79 (bodyOf Try.f79) (decRH R79 h) (encA A79 x) [] =
    allK fun (z : NaN64) => allK fun (_ : Unit) => h ((Int.toNat (ibits BinOp.andNot IntKind.u64 (((bif isNaN FloatKind.f64 x.fst then z.1 else x.fst : Nat) : Int)) 9223372036854775808)), ()) := by kernel_rfl

theorem abs_bits (n : Nat) : (ibits .andNot .u64 (n : Int) 9223372036854775808).toNat = n % 2 ^ 63 := by
  have e : ibits .andNot .u64 (n : Int) 9223372036854775808 = IntKind.u64.wrap ((BitVec.ofInt 64 (n : Int) &&& ~~~(BitVec.ofInt 64 9223372036854775808)).toNat : Int) := rfl
  have hy : ~~~(BitVec.ofInt 64 9223372036854775808) = 9223372036854775807#64 := by decide
  rw [e, hy, BitVec.toNat_and]
  have hx : (BitVec.ofInt 64 (n : Int)).toNat = n % 2 ^ 64 := by
    rw [BitVec.toNat_ofInt]
    omega
  have h7 : (9223372036854775807#64).toNat = 2 ^ 63 - 1 := by decide
  rw [hx, h7, Nat.and_two_pow_sub_one_eq_mod, IntKind.wrap_u64]
  omega

theorem isNaN_mod {n : Nat} : isNaN .f64 (n % 2 ^ 63) = isNaN .f64 n := by
  have hs : FloatKind.f64.format.signWeight = 2 ^ 63 := by decide
  rw [Bool.eq_iff_iff, isNaN_iff, isNaN_iff, hs, Nat.mod_mod]

def K79 (x : Den A79) : Bool := true
def G79 (x : Den A79) : Den R79 := (x.1 % 2 ^ 63, ())
theorem env79 : EnvOK Try.prog Γ79 := env_ok mixed tab_ok eqs_ok .nil
theorem is79 : FnIs Try.prog 79 Γ79 (bodyOf Try.f79) := fnIs Try.func79 rfl rfl rfl (by kernel_rfl) (noLoops (by kernel_rfl))
theorem sem79 : SemOK Try.prog (79, fnMean A79 R79 K79 G79) :=
  fnN_sem (N := N79) env79 (mkN_ok ⟨ext_bits ext105, ext_frombits ext104, trivial⟩) is79 noNLoops (Q := fun x y => FEq .f64 (x.1 % 2 ^ 63) y.1)
    (fun x y hq β K v hv => by
      obtain ⟨b, rfl, hb⟩ := hv
      refine ⟨b, rfl, ?_⟩
      have hb : FEq .f64 y.1 b := hb
      show FEq .f64 (x.1 % 2 ^ 63) b
      rcases hq with e | ⟨h1, h2⟩
      · rw [e]; exact hb
      · exact .inr ⟨h1, FEq.nan_left hb h2⟩)
    (fun x _ k hk => by
      rw [evN79]
      haveI := nan64
      refine allK_intro fun z => allK_intro fun _ => hk _ ?_
      rw [abs_bits]
      cases hn : isNaN .f64 x.1 with
      | true => exact .inr ⟨by rw [isNaN_mod]; exact hn, by show isNaN .f64 (z.1 % 2 ^ 63) = true; rw [isNaN_mod]; exact z.2⟩
      | false => exact .inl rfl)

end Go.Proofs.Ytmmdjajebmihhaa.AM
