/- Plainly: what the functions that the laws FnExactFits, FnExactFitsWide and FnExactChanges reach make of their arguments. -/
import Derived.Test.YtbgkhcoeifbgkaaP0
import Derived.Test.YtbgkhcoeifbgkaaU0
namespace Go.Proofs.Ytbgkhcoeifbgkaa.AM
open Go Go.Proofs
set_option linter.unusedVariables false

theorem F17_eq (x : Den A17) : F17 x = some x := rfl
theorem F18_eq (x : Den A18) : F18 x = some x := rfl
theorem F52_eq (x : Den A52) : F52 x = some (decide (x.2.1 ≤ x.1) && decide (x.1 ≤ x.2.2.1), ()) := by
  unfold F52 r52
  by_cases h : x.2.1 ≤ x.1 <;> simp [h]
theorem F53_eq (x : Den A53) : F53 x = some (decide (x.2.1 ≤ x.1) && decide (x.1 ≤ x.2.2.1), ()) := F52_eq x
theorem F15_ok (x : Den A15) : ∃ y, F15 x = some y := by
  unfold F15 r15
  dsimp only
  cases decide (IntKind.i64.wrap (x.snd.fst - (↑(ByteArray.size x.fst.fst) : Int)) < 0) <;> exact ⟨_, rfl⟩

/-- Whether a sail fits. -/
def fitsB (s : Den S23) (m : Den S25) : Bool := (fgt .f32 m.1 s.2.1 || feq .f32 m.1 s.2.1) && (flt .f32 m.1 s.2.2.1 || feq .f32 m.1 s.2.2.1) && (decide (s.2.2.2.1 ≤ m.2.1) && decide (m.2.1 ≤ s.2.2.2.2.1))

theorem F16_eq (x : Den A16) : F16 x = some (fitsB x.1 x.2.1, ()) := by
  unfold F16 r16 fitsB
  cases (fgt .f32 x.2.1.1 x.1.2.1 || feq .f32 x.2.1.1 x.1.2.1) <;> cases (flt .f32 x.2.1.1 x.1.2.2.1 || feq .f32 x.2.1.1 x.1.2.2.1) <;> by_cases h : x.1.2.2.2.1 ≤ x.2.1.2.1 <;> simp [h]

theorem F19_eq (x : Den A19) : F19 x = some (fitsB x.1 x.2.1, ()) := by
  unfold F19 r19 fitsB
  simp only [K52, G52, F52_eq, Option.isSome_some, Option.getD_some]
  cases (fgt .f32 x.2.1.1 x.1.2.1 || feq .f32 x.2.1.1 x.1.2.1) <;> cases (flt .f32 x.2.1.1 x.1.2.2.1 || feq .f32 x.2.1.1 x.1.2.2.1) <;> simp

theorem exFits (x : Den A3) (w : Wf A3 x) : F3 x = some (true, ()) := by
  unfold F3 r3
  obtain ⟨y, hy⟩ := F15_ok ((x.fst.fst, x.fst.snd.fst, x.fst.snd.snd.fst, x.fst.snd.snd.snd.fst, x.fst.snd.snd.snd.snd.fst, ()), 1048576, ())
  simp only [K15, G15, hy, K17, G17, F17_eq, K18, G18, F18_eq, K16, G16, F16_eq, K19, G19, F19_eq, Option.isSome_some, Option.getD_some, cond_true]
  cases decide (y.fst < 0) <;> simp

end Go.Proofs.Ytbgkhcoeifbgkaa.AM
