/- Plainly: doubles that are whole numbers. Conditions: those that each lemma names. -/
import Derived.Test.YtmmdjajebmihhaaV8
namespace Go.Proofs.Ytmmdjajebmihhaa.AM
open Go Go.Proofs
set_option linter.unusedVariables false
set_option exponentiation.threshold 2000

/-- What is near to a whole number is that number. -/
theorem nearD_sg (neg : Bool) (M c v : Nat) (h0 : 0 < M) (h : M * 2 ^ c = v * 2 ^ 1074) (hv53 : v < 2 ^ 53) :
    ∃ K e : Nat, Ieee.double.nearest neg M ((c : Int) - 1074) = Ieee.double.word neg (e * 2 ^ 52 + K) ∧ e * 2 ^ 52 + K < 2047 * 2 ^ 52 ∧ ((e = 0 ∧ K ≤ 2 ^ 53) ∨ (2 ^ 52 ≤ K ∧ K ≤ 2 ^ 53)) ∧ K * 2 ^ e = M * 2 ^ c := by
  have l1 : 2 ^ M.log2 ≤ M := Nat.log2_self_le (by omega)
  have l2 : M < 2 ^ (M.log2 + 1) := Nat.lt_log2_self
  have hlc : M.log2 + c < 1127 := by
    have h1 : 2 ^ (M.log2 + c) ≤ M * 2 ^ c := by rw [Nat.pow_add]; exact Nat.mul_le_mul_right _ l1
    have h2 : v * 2 ^ 1074 < 2 ^ (53 + 1074) := by
      rw [Nat.pow_add 2 53 1074]; exact Nat.mul_lt_mul_of_pos_right hv53 (Nat.two_pow_pos _)
    rw [← h] at h2
    exact (Nat.pow_lt_pow_iff_right (a := 2) (by decide)).1 (Nat.lt_of_le_of_lt h1 h2)
  unfold Ieee.Format.nearest
  rw [if_neg (by omega), d_fb, d_lp, d_bin, d_inf]
  dsimp only
  generalize hL : M.log2 = L at *
  by_cases hs : L ≤ 52
  · -- nothing is dropped
    by_cases hd : L + c < 52
    · have hlast : max ((c : Int) - 1074 + (L : Int) - (52 : Nat)) (-1074) = -1074 := by omega
      rw [hlast]
      have e1 : ((c : Int) - 1074 - -1074).toNat = c := by omega
      have e2 : (-1074 - ((c : Int) - 1074)).toNat = 0 := by omega
      have e3 : ((-1074 : Int) - -1074).toNat = 0 := by decide
      rw [e1, e2, e3, cut_zero, Nat.shiftLeft_eq]
      have hk : M * 2 ^ c < 2 ^ 53 := by
        calc M * 2 ^ c < 2 ^ (L + 1) * 2 ^ c := Nat.mul_lt_mul_of_pos_right l2 (Nat.two_pow_pos _)
          _ = 2 ^ (L + 1 + c) := by rw [← Nat.pow_add]
          _ ≤ 2 ^ 53 := Nat.pow_le_pow_right (by decide) (by omega)
      have hx : 0 * 2 ^ 52 + M * 2 ^ c < 2047 * 2 ^ 52 := by rw [Nat.zero_mul, Nat.zero_add]; exact Nat.lt_trans hk (by decide)
      refine ⟨M * 2 ^ c, 0, ?_, hx, .inl ⟨Eq.refl 0, Nat.le_of_lt hk⟩, ?_⟩
      · rw [Nat.min_eq_left (Nat.le_of_lt hx)]
      · rw [Nat.pow_zero, Nat.mul_one]
    · have hlast : max ((c : Int) - 1074 + (L : Int) - (52 : Nat)) (-1074) = (c : Int) - 1074 + (L : Int) - 52 := by omega
      rw [hlast]
      have e1 : ((c : Int) - 1074 - ((c : Int) - 1074 + (L : Int) - 52)).toNat = 52 - L := by omega
      have e2 : (((c : Int) - 1074 + (L : Int) - 52) - ((c : Int) - 1074)).toNat = 0 := by omega
      have e3 : (((c : Int) - 1074 + (L : Int) - 52) - -1074).toNat = c + L - 52 := by omega
      rw [e1, e2, e3, cut_zero, Nat.shiftLeft_eq]
      have hk1 : M * 2 ^ (52 - L) < 2 ^ 53 := by
        calc M * 2 ^ (52 - L) < 2 ^ (L + 1) * 2 ^ (52 - L) := Nat.mul_lt_mul_of_pos_right l2 (Nat.two_pow_pos _)
          _ = 2 ^ (L + 1 + (52 - L)) := by rw [← Nat.pow_add]
          _ = 2 ^ 53 := by congr 1; omega
      have hk2 : 2 ^ 52 ≤ M * 2 ^ (52 - L) := by
        calc 2 ^ 52 = 2 ^ (L + (52 - L)) := by congr 1; omega
          _ = 2 ^ L * 2 ^ (52 - L) := by rw [← Nat.pow_add]
          _ ≤ M * 2 ^ (52 - L) := Nat.mul_le_mul_right _ l1
      have hv : M * 2 ^ (52 - L) * 2 ^ (c + L - 52) = M * 2 ^ c := by
        rw [Nat.mul_assoc, ← Nat.pow_add]
        congr 2
        omega
      refine ⟨M * 2 ^ (52 - L), c + L - 52, ?_, by generalize M * 2 ^ (52 - L) = q at *; clear l1 l2; omega, .inr ⟨hk2, Nat.le_of_lt hk1⟩, hv⟩
      rw [Nat.min_eq_left (by omega)]
  · -- some digits are dropped, all of them zero
    have hlast : max ((c : Int) - 1074 + (L : Int) - (52 : Nat)) (-1074) = (c : Int) - 1074 + (L : Int) - 52 := by omega
    rw [hlast]
    have e1 : ((c : Int) - 1074 - ((c : Int) - 1074 + (L : Int) - 52)).toNat = 0 := by omega
    have e2 : (((c : Int) - 1074 + (L : Int) - 52) - ((c : Int) - 1074)).toNat = L - 52 := by omega
    have e3 : (((c : Int) - 1074 + (L : Int) - 52) - -1074).toNat = c + L - 52 := by omega
    rw [e1, e2, e3, Nat.shiftLeft_zero]
    have hdvd : 2 ^ (L - 52) ∣ M := by
      have h1 : 2 ^ (L - 52) * 2 ^ c ∣ M * 2 ^ c := by
        rw [h, ← Nat.pow_add]
        exact Nat.dvd_trans (Nat.pow_dvd_pow 2 (by omega)) (Nat.dvd_mul_left _ _)
      exact Nat.dvd_of_mul_dvd_mul_right (Nat.two_pow_pos c) h1
    have hm0 : M % 2 ^ (L - 52) = 0 := Nat.mod_eq_zero_of_dvd hdvd
    have hg : 0 < 2 ^ (L - 52) := Nat.two_pow_pos _
    have hcut : Ieee.Toward.even.cut neg M (L - 52) = M / 2 ^ (L - 52) := by
      unfold Ieee.Toward.cut
      dsimp only
      rw [hL, Nat.min_eq_left (by omega), Nat.one_shiftLeft, hm0]
      simp
    rw [hcut]
    have hq1 : M / 2 ^ (L - 52) < 2 ^ 53 := by
      rw [Nat.div_lt_iff_lt_mul hg, ← Nat.pow_add]
      have : 53 + (L - 52) = L + 1 := by omega
      rw [this]; exact l2
    have hq2 : 2 ^ 52 ≤ M / 2 ^ (L - 52) := by
      rw [Nat.le_div_iff_mul_le hg, ← Nat.pow_add]
      have : 52 + (L - 52) = L := by omega
      rw [this]; exact l1
    have hdm := Nat.div_add_mod M (2 ^ (L - 52))
    rw [hm0, Nat.add_zero] at hdm
    generalize M / 2 ^ (L - 52) = q at *
    have hp : 2 ^ (c + L - 52) = 2 ^ (L - 52) * 2 ^ c := by
      rw [← Nat.pow_add]
      congr 1
      omega
    refine ⟨q, c + L - 52, ?_, by omega, .inr ⟨by omega, by omega⟩, ?_⟩
    · rw [Nat.min_eq_left (by omega)]
    · rw [hp, ← Nat.mul_assoc, Nat.mul_comm q, hdm]

end Go.Proofs.Ytmmdjajebmihhaa.AM
