/- What the program's PassRay answers, plainly: both texts answer alike. Conditions: none. -/
import Derived.Test.YtibbdoohekjmaaaU0
namespace Go.Proofs.Ytibbdoohekjmaaa.AM
open Go Go.Proofs
set_option linter.unusedVariables false

theorem isSome_cond {α : Type} (c : Bool) (a b : Option α) : (bif c then a else b).isSome = (bif c then a.isSome else b.isSome) := by cases c <;> rfl
theorem cond_same {α : Type} (c : Bool) (a : α) : (bif c then a else a) = a := by cases c <;> rfl

theorem K46_t (x : Den A46) : K46 x = true := rfl
theorem K47_t (x : Den A47) : K47 x = true := rfl
theorem K49_t (x : Den A49) : K49 x = true := rfl
theorem K50_t (x : Den A50) : K50 x = true := rfl
theorem K51_t (x : Den A51) : K51 x = true := rfl
theorem K14_t (x : Den A14) : K14 x = true := rfl
theorem K55_t (x : Den A55) : K55 x = true := by
  unfold K55 F55 r55; simp only [isSome_cond, Option.isSome_some, cond_same]
theorem K62_t (x : Den A62) : K62 x = true := by
  unfold K62 F62 r62; simp only [isSome_cond, Option.isSome_some, cond_same]
theorem K18_t (x : Den A18) : K18 x = true := by
  unfold K18 F18 r18; simp only [K55_t, cond_true, isSome_cond, Option.isSome_some, cond_same]
theorem K48_t (x : Den A48) : K48 x = true := by
  unfold K48 F48 r48; simp only [K62_t, cond_true, isSome_cond, Option.isSome_some, cond_same]
theorem K13_t (x : Den A13) : K13 x = true := by
  unfold K13 F13 r13; simp only [K18_t, K46_t, K47_t, cond_true, isSome_cond, Option.isSome_some, cond_same]
theorem K15_t (x : Den A15) : K15 x = true := by
  unfold K15 F15 r15; simp only [K48_t, K49_t, K50_t, K51_t, cond_true, isSome_cond, Option.isSome_some, cond_same]
theorem G55_eq (x : Den A55) : G55 x = G62 x := rfl
theorem G18_eq (x : Den A18) : G18 x = G48 x := by
  unfold G18 G48 F18 F48 r18 r48
  simp only [K55_t, K62_t, G55_eq]
theorem F13_eq (x : Den A13) : F13 x = F15 x := by
  unfold F13 F15 r13 r15
  simp only [K18_t, K46_t, K47_t, K48_t, K49_t, K50_t, K51_t, cond_true, G18_eq]
  rw [show (x.snd.fst.fst == x.fst.fst) = (x.fst.fst == x.snd.fst.fst) from BEq.comm, show (x.snd.fst.snd.fst == x.fst.snd.fst) = (x.fst.snd.fst == x.snd.fst.snd.fst) from BEq.comm]
  rfl
theorem G13_eq (x : Den A13) : G13 x = G15 x := by unfold G13 G15; rw [F13_eq]
theorem passRay (x : Den A3) (_ : Wf A3 x) : F3 x = some (true, ()) := by
  unfold F3 r3
  simp only [K14_t, K13_t, K15_t, cond_true, G13_eq, bne_self_eq_false, cond_false]

end Go.Proofs.Ytibbdoohekjmaaa.AM
