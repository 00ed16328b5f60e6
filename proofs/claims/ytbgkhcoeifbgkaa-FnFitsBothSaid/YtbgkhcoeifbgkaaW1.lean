/- Plainly: singles: what is near to a whole number of units, orders, a sum that is rounded. Conditions: those that each lemma names. -/
import Derived.Test.YtbgkhcoeifbgkaaW0
namespace Go.Proofs.Ytbgkhcoeifbgkaa.AM
open Go Go.Proofs
set_option linter.unusedVariables false

theorem s_sw : Ieee.single.signWeight = 2 ^ 31 := by decide
theorem s_inf : Ieee.single.infRung = 255 * 2 ^ 23 := by decide
theorem s_bin : Ieee.single.binade = 2 ^ 23 := by decide
theorem s_lp : Ieee.single.leastPlace = -149 := by decide
theorem s_fb : Ieee.single.fractionBits = 23 := by decide

theorem read_word (neg : Bool) (K e : Nat) (h1 : e * 2 ^ 23 + K < 255 * 2 ^ 23) (h2 : (e = 0 ∧ K ≤ 2 ^ 24) ∨ (2 ^ 23 ≤ K ∧ K ≤ 2 ^ 24)) :
    ∃ (m : Nat) (c : Nat), Ieee.single.read (Ieee.single.word neg (e * 2 ^ 23 + K)) = .number neg m ((c : Int) - 149) ∧ m * 2 ^ c = K * 2 ^ e := by
  have hr : Ieee.single.word neg (e * 2 ^ 23 + K) % Ieee.single.signWeight = e * 2 ^ 23 + K := by
    unfold Ieee.Format.word
    rw [s_sw]
    split <;> omega
  have hn : (Ieee.single.word neg (e * 2 ^ 23 + K) / Ieee.single.signWeight % 2 == 1) = neg := by
    unfold Ieee.Format.word
    rw [s_sw]
    cases neg
    · rw [if_neg (by decide)]
      have : (e * 2 ^ 23 + K) / 2 ^ 31 = 0 := Nat.div_eq_of_lt (by omega)
      rw [this]; rfl
    · rw [if_pos rfl]
      have : (2 ^ 31 + (e * 2 ^ 23 + K)) / 2 ^ 31 = 1 := by omega
      rw [this]; rfl
  unfold Ieee.Format.read
  dsimp only
  rw [hr, hn, s_bin, s_inf, s_lp]
  by_cases c1 : e * 2 ^ 23 + K < 2 ^ 23
  · rw [if_pos c1]
    have : e = 0 := by omega
    subst this
    exact ⟨K, 0, by simp, by simp⟩
  · rw [if_neg c1, if_pos h1]
    by_cases c2 : K < 2 ^ 23
    · exfalso; omega
    by_cases c3 : K = 2 ^ 24
    · have e1 : (e * 2 ^ 23 + K) / 2 ^ 23 = e + 2 := by omega
      have e2 : (e * 2 ^ 23 + K) % 2 ^ 23 = 0 := by omega
      rw [e1, e2]
      refine ⟨2 ^ 23, e + 1, ?_, ?_⟩
      · rw [show ((-149 : Int) + ((e + 2 - 1 : Nat) : Int)) = ((e + 1 : Nat) : Int) - 149 by omega, Nat.add_zero]
      · rw [c3, ← Nat.pow_add, ← Nat.pow_add]
        congr 1
        omega
    · have e1 : (e * 2 ^ 23 + K) / 2 ^ 23 = e + 1 := by omega
      have e2 : (e * 2 ^ 23 + K) % 2 ^ 23 = K - 2 ^ 23 := by omega
      rw [e1, e2]
      refine ⟨K, e, ?_, rfl⟩
      rw [show ((-149 : Int) + ((e + 1 - 1 : Nat) : Int)) = ((e : Nat) : Int) - 149 by omega, show 2 ^ 23 + (K - 2 ^ 23) = K by omega]

theorem near_sg (neg : Bool) (M c : Nat) (h0 : 0 < M) (h : M * 2 ^ c ≤ 201 * 2 ^ 149) :
    ∃ K e : Nat, Ieee.single.nearest neg M ((c : Int) - 149) = Ieee.single.word neg (e * 2 ^ 23 + K) ∧ e * 2 ^ 23 + K < 255 * 2 ^ 23 ∧ ((e = 0 ∧ K ≤ 2 ^ 24) ∨ (2 ^ 23 ≤ K ∧ K ≤ 2 ^ 24)) ∧
      K * 2 ^ e ≤ M * 2 ^ c + 2 ^ 149 ∧ M * 2 ^ c ≤ K * 2 ^ e + 2 ^ 149 := by
  have l1 : 2 ^ M.log2 ≤ M := Nat.log2_self_le (by omega)
  have l2 : M < 2 ^ (M.log2 + 1) := Nat.lt_log2_self
  have hlc : M.log2 + c < 157 := by
    have h1 : 2 ^ (M.log2 + c) ≤ M * 2 ^ c := by rw [Nat.pow_add]; exact Nat.mul_le_mul_right _ l1
    have h2 : 2 ^ (M.log2 + c) < 2 ^ 157 := Nat.lt_of_le_of_lt (Nat.le_trans h1 h) (by decide)
    exact (Nat.pow_lt_pow_iff_right (by decide)).1 h2
  unfold Ieee.Format.nearest
  rw [if_neg (by omega), s_fb, s_lp, s_bin, s_inf]
  dsimp only
  generalize hL : M.log2 = L at *
  by_cases hs : L ≤ 23
  · -- nothing is dropped
    by_cases hd : L + c < 23
    · have hlast : max ((c : Int) - 149 + (L : Int) - (23 : Nat)) (-149) = -149 := by omega
      rw [hlast]
      have e1 : ((c : Int) - 149 - -149).toNat = c := by omega
      have e2 : (-149 - ((c : Int) - 149)).toNat = 0 := by omega
      have e3 : ((-149 : Int) - -149).toNat = 0 := by decide
      rw [e1, e2, e3, cut_zero, Nat.shiftLeft_eq]
      have hk : M * 2 ^ c < 2 ^ 24 := by
        calc M * 2 ^ c < 2 ^ (L + 1) * 2 ^ c := Nat.mul_lt_mul_of_pos_right l2 (Nat.two_pow_pos _)
          _ = 2 ^ (L + 1 + c) := by rw [← Nat.pow_add]
          _ ≤ 2 ^ 24 := Nat.pow_le_pow_right (by decide) (by omega)
      have hx : 0 * 2 ^ 23 + M * 2 ^ c < 255 * 2 ^ 23 := by rw [Nat.zero_mul, Nat.zero_add]; exact Nat.lt_trans hk (by decide)
      refine ⟨M * 2 ^ c, 0, ?_, hx, .inl ⟨Eq.refl 0, Nat.le_of_lt hk⟩, ?_, ?_⟩
      · rw [Nat.min_eq_left (Nat.le_of_lt hx)]
      · rw [Nat.pow_zero, Nat.mul_one]; exact Nat.le_add_right _ _
      · rw [Nat.pow_zero, Nat.mul_one]; exact Nat.le_add_right _ _
    · have hlast : max ((c : Int) - 149 + (L : Int) - (23 : Nat)) (-149) = (c : Int) - 149 + (L : Int) - 23 := by omega
      rw [hlast]
      have e1 : ((c : Int) - 149 - ((c : Int) - 149 + (L : Int) - 23)).toNat = 23 - L := by omega
      have e2 : (((c : Int) - 149 + (L : Int) - 23) - ((c : Int) - 149)).toNat = 0 := by omega
      have e3 : (((c : Int) - 149 + (L : Int) - 23) - -149).toNat = c + L - 23 := by omega
      rw [e1, e2, e3, cut_zero, Nat.shiftLeft_eq]
      have hk1 : M * 2 ^ (23 - L) < 2 ^ 24 := by
        calc M * 2 ^ (23 - L) < 2 ^ (L + 1) * 2 ^ (23 - L) := Nat.mul_lt_mul_of_pos_right l2 (Nat.two_pow_pos _)
          _ = 2 ^ (L + 1 + (23 - L)) := by rw [← Nat.pow_add]
          _ = 2 ^ 24 := by congr 1; omega
      have hk2 : 2 ^ 23 ≤ M * 2 ^ (23 - L) := by
        calc 2 ^ 23 = 2 ^ (L + (23 - L)) := by congr 1; omega
          _ = 2 ^ L * 2 ^ (23 - L) := by rw [← Nat.pow_add]
          _ ≤ M * 2 ^ (23 - L) := Nat.mul_le_mul_right _ l1
      have hv : M * 2 ^ (23 - L) * 2 ^ (c + L - 23) = M * 2 ^ c := by
        rw [Nat.mul_assoc, ← Nat.pow_add]
        congr 2
        omega
      refine ⟨M * 2 ^ (23 - L), c + L - 23, ?_, by omega, .inr ⟨hk2, by omega⟩, by rw [hv]; exact Nat.le_add_right _ _, by rw [hv]; exact Nat.le_add_right _ _⟩
      rw [Nat.min_eq_left (by omega)]
  · -- some digits are dropped
    have hlast : max ((c : Int) - 149 + (L : Int) - (23 : Nat)) (-149) = (c : Int) - 149 + (L : Int) - 23 := by omega
    rw [hlast]
    have e1 : ((c : Int) - 149 - ((c : Int) - 149 + (L : Int) - 23)).toNat = 0 := by omega
    have e2 : (((c : Int) - 149 + (L : Int) - 23) - ((c : Int) - 149)).toNat = L - 23 := by omega
    have e3 : (((c : Int) - 149 + (L : Int) - 23) - -149).toNat = c + L - 23 := by omega
    rw [e1, e2, e3, Nat.shiftLeft_zero]
    have hcut : ∃ k, (k = 0 ∨ k = 1) ∧ Ieee.Toward.even.cut neg M (L - 23) = M / 2 ^ (L - 23) + k := by
      unfold Ieee.Toward.cut
      dsimp only
      rw [hL, Nat.min_eq_left (by omega), Nat.one_shiftLeft]
      generalize (decide (2 ^ (L - 23) < 2 * (M % 2 ^ (L - 23))) || 2 ^ (L - 23) == 2 * (M % 2 ^ (L - 23)) && M / 2 ^ (L - 23) % 2 == 1) = bb
      refine ⟨bb.toNat, ?_, rfl⟩
      cases bb
      · exact .inl rfl
      · exact .inr rfl
    obtain ⟨k, hk, hcut⟩ := hcut
    rw [hcut]
    have hg : 0 < 2 ^ (L - 23) := Nat.two_pow_pos _
    have hq1 : M / 2 ^ (L - 23) < 2 ^ 24 := by
      rw [Nat.div_lt_iff_lt_mul hg, ← Nat.pow_add]
      have : 24 + (L - 23) = L + 1 := by omega
      rw [this]; exact l2
    have hq2 : 2 ^ 23 ≤ M / 2 ^ (L - 23) := by
      rw [Nat.le_div_iff_mul_le hg, ← Nat.pow_add]
      have : 23 + (L - 23) = L := by omega
      rw [this]; exact l1
    have hdm := Nat.div_add_mod M (2 ^ (L - 23))
    have hml := Nat.mod_lt M hg
    generalize M / 2 ^ (L - 23) = q at *
    generalize M % 2 ^ (L - 23) = rr at *
    have hp : 2 ^ (c + L - 23) = 2 ^ (L - 23) * 2 ^ c := by
      rw [← Nat.pow_add]
      congr 1
      omega
    have hp149 : 2 ^ (c + L - 23) ≤ 2 ^ 149 := Nat.pow_le_pow_right (by decide) (by omega)
    have hM : M * 2 ^ c = q * 2 ^ (c + L - 23) + rr * 2 ^ c := by
      rw [hp, ← hdm, Nat.add_mul, Nat.mul_comm (2 ^ (L - 23)) q, Nat.mul_assoc]
    have hrr : rr * 2 ^ c ≤ 2 ^ (c + L - 23) := by
      rw [hp]
      exact Nat.mul_le_mul_right _ (by omega)
    have hkk : k * 2 ^ (c + L - 23) ≤ 2 ^ (c + L - 23) := by
      rcases hk with rfl | rfl
      · simp
      · simp
    refine ⟨q + k, c + L - 23, ?_, by omega, .inr ⟨by omega, by omega⟩, ?_, ?_⟩
    · rw [Nat.min_eq_left (by omega)]
    · rw [hM, Nat.add_mul]; omega
    · rw [hM, Nat.add_mul]; omega

end Go.Proofs.Ytbgkhcoeifbgkaa.AM
