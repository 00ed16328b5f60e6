/- Plainly: a wind is the same as itself. Conditions: none. -/
import Derived.Test.YtmmdjajebmihhaaV6
namespace Go.Proofs.Ytmmdjajebmihhaa.AM
open Go Go.Proofs
set_option linter.unusedVariables false

/-- What a comparison with itself says of a double. -/
theorem same_self (s : Nat) (h : feq .f64 s 0 = true → feq .f64 (farith .quo .f64 4607182418800017408 s) (farith .quo .f64 4607182418800017408 s) = true) : F65 (s, s, ()) = some (true, ()) := by
  unfold F65 r65
  dsimp only
  cases h1 : feq .f64 s s with
  | false => rfl
  | true =>
    cases h2 : feq .f64 s 0 with
    | false => rfl
    | true =>
      simp only [Bool.not_true, cond_false, cond_true, h h2]

theorem read_zero : Ieee.double.read 0 = .number false 0 (-1074) := by decide
theorem zero_read {s : Nat} (h : feq .f64 s 0 = true) : ∃ g e, Ieee.double.read s = .number g 0 e := by
  have o : FloatKind.f64.format.order s 0 = (Ieee.double.read s).order (Ieee.double.read 0) := rfl
  unfold feq at h
  rw [o, read_zero] at h
  cases hr : Ieee.double.read s with
  | nan a b => rw [hr] at h; simp [Ieee.Datum.order] at h
  | infinity a => rw [hr] at h; cases a <;> simp [Ieee.Datum.order] at h
  | number g m e =>
    rw [hr] at h
    simp only [Ieee.Datum.order, beq_iff_eq, Option.some.injEq, Int.compare_eq_ite_lt] at h
    have h0 : Ieee.signed g m (e - min e (-1074)).toNat = 0 := by
      have hz : Ieee.signed false 0 (-1074 - min e (-1074)).toNat = 0 := by simp [Ieee.signed]
      rw [hz] at h
      by_cases h1 : Ieee.signed g m (e - min e (-1074)).toNat < 0
      · rw [if_pos h1] at h; cases h
      · rw [if_neg h1] at h
        by_cases h2 : 0 < Ieee.signed g m (e - min e (-1074)).toNat
        · rw [if_pos h2] at h; cases h
        · omega
    have hm : m = 0 := by
      unfold Ieee.signed at h0
      rw [Nat.shiftLeft_eq] at h0
      have h1 : m * 2 ^ (e - min e (-1074)).toNat = 0 := by
        cases g
        · simp only [Bool.false_eq_true, if_false] at h0; omega
        · simp only [if_true] at h0; omega
      rcases Nat.mul_eq_zero.1 h1 with h2 | h2
      · exact h2
      · have := Nat.two_pow_pos (e - min e (-1074)).toNat; omega
    subst hm
    exact ⟨g, e, rfl⟩

theorem quo_zero {s : Nat} (h : feq .f64 s 0 = true) : feq .f64 (farith .quo .f64 4607182418800017408 s) (farith .quo .f64 4607182418800017408 s) = true := by
  obtain ⟨g, e, hr⟩ := zero_read h
  have h1 : ∃ m i, Ieee.double.read 4607182418800017408 = .number false m i ∧ m ≠ 0 := ⟨2 ^ 52, -52, by decide, by decide⟩
  obtain ⟨m, i, h1, hm⟩ := h1
  have e1 : FloatKind.f64.format.div 4607182418800017408 s = some (Ieee.double.write (.infinity g)) := by
    show ((Ieee.double.read 4607182418800017408).quotient _ (Ieee.double.read s)).map Ieee.double.write = _
    rw [hr, h1]
    simp [Ieee.Datum.quotient, hm]
  have e2 : farith .quo .f64 4607182418800017408 s = Ieee.double.write (.infinity g) := by
    show (FloatKind.f64.format.div 4607182418800017408 s).getD _ = _
    rw [e1]; rfl
  rw [e2]
  cases g <;> decide

theorem F65_eq (s : Nat) : F65 (s, s, ()) = some (true, ()) := same_self s quo_zero
theorem F24_eq (c : Nat × Nat) : F24 (c, c, ()) = some (true, ()) := by
  have e1 : F65 (c.1, c.1, ()) = some (true, ()) := F65_eq _
  have e2 : F65 (c.2, c.2, ()) = some (true, ()) := F65_eq _
  unfold F24 r24
  simp only [K65, G65, e1, e2, Option.isSome_some, Option.getD_some, cond_true]
theorem F13_eq (c : Nat × Nat) : F13 (c, c, ()) = some (true, ()) := by
  have e1 := F24_eq ((convF FloatKind.f32 FloatKind.f64 c.1).snd, (convF FloatKind.f32 FloatKind.f64 c.2).snd)
  unfold F13 r13
  simp only [K24, G24, e1, Option.isSome_some, Option.getD_some, cond_true]

end Go.Proofs.Ytmmdjajebmihhaa.AM
