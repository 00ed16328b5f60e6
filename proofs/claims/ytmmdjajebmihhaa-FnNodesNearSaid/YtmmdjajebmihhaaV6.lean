/- Plainly: the wind at a node. Conditions: short lists. -/
import Derived.Test.YtmmdjajebmihhaaV5
namespace Go.Proofs.Ytmmdjajebmihhaa.AM
open Go Go.Proofs
set_option linter.unusedVariables false

def air (f : FieldT) (i n : Nat) : Nat × Nat := atV (atH f i) n
def hourOf (f : FieldT) (t : Int) : Int := imin (IntKind.i64.wrap (Int.tdiv t 3600)) (IntKind.i64.wrap ((f.2.2.2.1.length : Int) - 1))
def windV (f : FieldT) (n t : Int) : (Nat × Nat) × Bool × Unit := bif fieldOkB f && (hasB f n && inB t 0 10000000) then (air f (hourOf f t).toNat n.toNat, true, ()) else ((0, 0), false, ())
theorem F37_eq (t : Int) : F37 (t, ()) = some (inB t 0 10000000, ()) := by
  have e : F48 (t, 0, 10000000, ()) = some (inB t 0 10000000, ()) := F48_eq _ _ _
  unfold F37 r37
  simp only [K48, G48, e, Option.isSome_some, Option.getD_some, cond_true]

/-- A node that a field has lies within each hour. -/
theorem node_in {f : FieldT} (h : fieldOkB f = true) {n : Int} (hn : hasB f n = true) {i : Nat} (hi : i < f.2.2.2.1.length) : 0 ≤ n ∧ n < ((atH f i).length : Int) := by
  obtain ⟨h1, h2, h3, h4, h5⟩ := okB_wide h
  have h6 := allFrom_iff.1 h5 i (Nat.zero_le _) (by omega)
  simp only [hourOk, Bool.and_eq_true, decide_eq_true_eq] at h6
  simp only [inB, Bool.and_eq_true, decide_eq_true_eq] at h1 h2
  simp only [hasB, inB, Bool.and_eq_true, decide_eq_true_eq] at hn
  have ha : 0 ≤ f.1 * f.2.1 := Int.mul_nonneg (by omega) (by omega)
  have hb : f.1 * f.2.1 ≤ 12 * 12 := Int.mul_le_mul h1.2 h2.2 (by omega) (by omega)
  have e1 : IntKind.i64.wrap (f.1 * f.2.1) = f.1 * f.2.1 := w64 (by omega) (by omega)
  rw [e1] at h6 hn
  rw [w64 (by omega) (by omega)] at hn
  omega
theorem hour_in {f : FieldT} (h : fieldOkB f = true) {t : Int} (ht : inB t 0 10000000 = true) : 0 ≤ hourOf f t ∧ hourOf f t < (f.2.2.2.1.length : Int) := by
  obtain ⟨h1, h2, h3, h4, h5⟩ := okB_wide h
  simp only [inB, Bool.and_eq_true, decide_eq_true_eq] at h4 ht
  have e : Int.tdiv t 3600 = t / 3600 := Int.tdiv_eq_ediv_of_nonneg ht.1
  unfold hourOf
  rw [e, w64 (x := t / 3600) (by omega) (by omega), w64 (x := (f.2.2.2.1.length : Int) - 1) (by omega) (by omega)]
  unfold imin
  split <;> omega
theorem F10_eq (f : FieldT) (n t : Int) (h : HoursG f.2.2.2.1) : F10 (f, n, t, ()) = some (windV f n t) := by
  have e1 : F34 (f, ()) = some (fieldOkB f, ()) := F34_eq f h
  have e2 : F35 (f, n, ()) = some (hasB f n, ()) := F35_eq f n
  have e3 : F37 (t, ()) = some (inB t 0 10000000, ()) := F37_eq t
  unfold F10 r10 windV
  simp only [K34, G34, e1, K35, G35, e2, K37, G37, e3, Option.isSome_some, Option.getD_some, cond_true]
  cases hb : fieldOkB f with
  | false => rfl
  | true =>
  cases hn : hasB f n with
  | false => rfl
  | true =>
  cases ht : inB t 0 10000000 with
  | false => rfl
  | true =>
    obtain ⟨q1, q2⟩ := hour_in hb ht
    have hi : (hourOf f t).toNat < f.2.2.2.1.length := by omega
    obtain ⟨q3, q4⟩ := node_in hb hn hi
    have d1 : (decide (0 ≤ hourOf f t) && decide (hourOf f t < (f.2.2.2.1.length : Int))) = true := by simp only [Bool.and_eq_true, decide_eq_true_eq]; exact ⟨q1, q2⟩
    have d2 : (decide (0 ≤ n) && decide (n < ((atH f (hourOf f t).toNat).length : Int))) = true := by simp only [Bool.and_eq_true, decide_eq_true_eq]; exact ⟨q3, q4⟩
    show (bif (decide (0 ≤ hourOf f t) && decide (hourOf f t < (f.2.2.2.1.length : Int))) then
      bif (decide (0 ≤ n) && decide (n < ((atH f (hourOf f t).toNat).length : Int))) then some (air f (hourOf f t).toNat n.toNat, true, ()) else none else none) = _
    rw [d1, cond_true, d2, cond_true]
    rfl

end Go.Proofs.Ytmmdjajebmihhaa.AM
