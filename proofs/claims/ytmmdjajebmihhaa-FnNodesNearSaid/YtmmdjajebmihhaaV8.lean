/- Plainly: doubles: what a word reads as, orders. Conditions: those that each lemma names. -/
import Derived.Test.YtmmdjajebmihhaaV7
namespace Go.Proofs.Ytmmdjajebmihhaa.AM
open Go Go.Proofs
set_option linter.unusedVariables false

theorem d_sw : Ieee.double.signWeight = 2 ^ 63 := by decide
theorem d_inf : Ieee.double.infRung = 2047 * 2 ^ 52 := by decide
theorem d_bin : Ieee.double.binade = 2 ^ 52 := by decide
theorem d_lp : Ieee.double.leastPlace = -1074 := by decide
theorem d_fb : Ieee.double.fractionBits = 52 := by decide

theorem readD_word (neg : Bool) (K e : Nat) (h1 : e * 2 ^ 52 + K < 2047 * 2 ^ 52) (h2 : (e = 0 ∧ K ≤ 2 ^ 53) ∨ (2 ^ 52 ≤ K ∧ K ≤ 2 ^ 53)) :
    ∃ (m : Nat) (c : Nat), Ieee.double.read (Ieee.double.word neg (e * 2 ^ 52 + K)) = .number neg m ((c : Int) - 1074) ∧ m * 2 ^ c = K * 2 ^ e := by
  have hr : Ieee.double.word neg (e * 2 ^ 52 + K) % Ieee.double.signWeight = e * 2 ^ 52 + K := by
    unfold Ieee.Format.word
    rw [d_sw]
    split <;> omega
  have hn : (Ieee.double.word neg (e * 2 ^ 52 + K) / Ieee.double.signWeight % 2 == 1) = neg := by
    unfold Ieee.Format.word
    rw [d_sw]
    cases neg
    · rw [if_neg (by decide)]
      have : (e * 2 ^ 52 + K) / 2 ^ 63 = 0 := Nat.div_eq_of_lt (by omega)
      rw [this]; rfl
    · rw [if_pos rfl]
      have : (2 ^ 63 + (e * 2 ^ 52 + K)) / 2 ^ 63 = 1 := by omega
      rw [this]; rfl
  unfold Ieee.Format.read
  dsimp only
  rw [hr, hn, d_bin, d_inf, d_lp]
  by_cases c1 : e * 2 ^ 52 + K < 2 ^ 52
  · rw [if_pos c1]
    have : e = 0 := by omega
    subst this
    exact ⟨K, 0, by simp, by simp⟩
  · rw [if_neg c1, if_pos h1]
    by_cases c2 : K < 2 ^ 52
    · exfalso; omega
    by_cases c3 : K = 2 ^ 53
    · have e1 : (e * 2 ^ 52 + K) / 2 ^ 52 = e + 2 := by omega
      have e2 : (e * 2 ^ 52 + K) % 2 ^ 52 = 0 := by omega
      rw [e1, e2]
      refine ⟨2 ^ 52, e + 1, ?_, ?_⟩
      · rw [show ((-1074 : Int) + ((e + 2 - 1 : Nat) : Int)) = ((e + 1 : Nat) : Int) - 1074 by omega, Nat.add_zero]
      · rw [c3, ← Nat.pow_add, ← Nat.pow_add]
        congr 1
        omega
    · have e1 : (e * 2 ^ 52 + K) / 2 ^ 52 = e + 1 := by omega
      have e2 : (e * 2 ^ 52 + K) % 2 ^ 52 = K - 2 ^ 52 := by omega
      rw [e1, e2]
      refine ⟨K, e, ?_, rfl⟩
      rw [show ((-1074 : Int) + ((e + 1 - 1 : Nat) : Int)) = ((e : Nat) : Int) - 1074 by omega, show 2 ^ 52 + (K - 2 ^ 52) = K by omega]

/-- A number's value, in units of the least place. -/
def VU (s : Bool) (m c : Nat) : Int := if s then -((m * 2 ^ c : Nat) : Int) else ((m * 2 ^ c : Nat) : Int)
def isD (b : Nat) (v : Int) : Prop := ∃ (s : Bool) (m c : Nat), Ieee.double.read b = .number s m ((c : Int) - 1074) ∧ v = VU s m c

theorem signed_V (s : Bool) (m c d : Nat) (h : d ≤ c) : Ieee.signed s m (c - d) * ((2 ^ d : Nat) : Int) = VU s m c := by
  have e : m * 2 ^ (c - d) * 2 ^ d = m * 2 ^ c := by rw [Nat.mul_assoc, ← Nat.pow_add]; congr 2; omega
  unfold Ieee.signed VU
  rw [Nat.shiftLeft_eq]
  split
  · rw [Int.neg_mul, ← Int.natCast_mul, e]
  · rw [← Int.natCast_mul, e]

theorem cmp_mul (a b k : Int) (hk : 0 < k) : compare (a * k) (b * k) = compare a b := by
  have h1 : a * k < b * k ↔ a < b := Int.mul_lt_mul_right hk
  have h2 : b * k < a * k ↔ b < a := Int.mul_lt_mul_right hk
  rw [Int.compare_eq_ite_lt, Int.compare_eq_ite_lt]
  simp only [h1, h2]

theorem order_V (s t : Bool) (m n c d : Nat) : Ieee.Datum.order (.number s m ((c : Int) - 1074)) (.number t n ((d : Int) - 1074)) = some (compare (VU s m c) (VU t n d)) := by
  unfold Ieee.Datum.order
  dsimp only
  have e1 : (((c : Int) - 1074) - min ((c : Int) - 1074) ((d : Int) - 1074)).toNat = c - min c d := by omega
  have e2 : (((d : Int) - 1074) - min ((c : Int) - 1074) ((d : Int) - 1074)).toNat = d - min c d := by omega
  rw [e1, e2, ← signed_V s m c (min c d) (Nat.min_le_left _ _), ← signed_V t n d (min c d) (Nat.min_le_right _ _), cmp_mul]
  exact Int.natCast_pos.2 (Nat.two_pow_pos _)

theorem ordD {a b : Nat} {x y : Int} (ha : isD a x) (hb : isD b y) : FloatKind.f64.format.order a b = some (compare x y) := by
  obtain ⟨s, m, c, h1, rfl⟩ := ha
  obtain ⟨t, n, d, h2, rfl⟩ := hb
  show (Ieee.double.read a).order (Ieee.double.read b) = _
  rw [h1, h2]
  exact order_V s t m n c d


end Go.Proofs.Ytmmdjajebmihhaa.AM
