/- Plainly: doubles that are whole numbers, by their value: what is made, added, taken off and multiplied is exact. Conditions: those that each lemma names. -/
import Derived.Test.YtmmdjajebmihhaaV9
namespace Go.Proofs.Ytmmdjajebmihhaa.AM
open Go Go.Proofs
set_option linter.unusedVariables false
set_option exponentiation.threshold 2000

/-- One, in units of the least place. -/
def TT : Nat := 2 ^ 1074
theorem TT_pos : 0 < TT := Nat.two_pow_pos _
theorem TT_pow (c : Nat) (h : c ≤ 1074) : 2 ^ (1074 - c) * 2 ^ c = TT := by
  unfold TT
  rw [← Nat.pow_add]
  congr 1
  omega
/-- A double is a whole number. -/
def WholeD (b : Nat) (v : Int) : Prop := ∃ (s : Bool) (m c : Nat), Ieee.double.read b = .number s m ((c : Int) - 1074) ∧ m < 2 ^ 53 ∧ VU s m c = v * (TT : Int)

theorem VU_abs (s : Bool) (m c : Nat) : (VU s m c).natAbs = m * 2 ^ c := by
  unfold VU
  cases s
  · rfl
  · rw [if_pos rfl, Int.natAbs_neg]; rfl
theorem VU_neg (s : Bool) (m c : Nat) : VU (!s) m c = -VU s m c := by
  unfold VU
  cases s
  · rfl
  · simp
theorem VU_mul (s t : Bool) (m n c d : Nat) : VU (s ^^ t) (m * n) (c + d) = VU s m c * VU t n d := by
  have e : m * n * 2 ^ (c + d) = m * 2 ^ c * (n * 2 ^ d) := by rw [Nat.pow_add]; simp only [Nat.mul_assoc, Nat.mul_left_comm, Nat.mul_comm]
  unfold VU
  rw [e, Int.natCast_mul]
  generalize ((m * 2 ^ c : Nat) : Int) = x
  generalize ((n * 2 ^ d : Nat) : Int) = y
  cases s <;> cases t <;> simp [Int.neg_mul, Int.mul_neg]
theorem VU_shift (s : Bool) (m c d : Nat) : VU s m (c + d) = VU s m c * ((2 ^ d : Nat) : Int) := by
  have e : m * 2 ^ (c + d) = m * 2 ^ c * 2 ^ d := by rw [Nat.pow_add, Nat.mul_assoc]
  unfold VU
  rw [e, Int.natCast_mul]
  cases s <;> simp [Int.neg_mul]

theorem readD_mlt {b : Nat} {s : Bool} {m : Nat} {p : Int} (h : Ieee.double.read b = .number s m p) : m < 2 ^ 53 := by
  unfold Ieee.Format.read at h
  dsimp only at h
  rw [d_bin, d_inf] at h
  split at h
  · injection h with h1 h2 h3; omega
  · split at h
    · injection h with h1 h2 h3
      have := Nat.mod_lt (b % Ieee.double.signWeight) (show 2 ^ 52 > 0 by decide)
      omega
    · split at h <;> cases h

theorem wholeD_zero (neg : Bool) (p : Int) : WholeD (Ieee.double.nearest neg 0 p) 0 := by
  obtain ⟨m', c', h6, h7⟩ := readD_word neg 0 0 (by decide) (.inl ⟨rfl, by decide⟩)
  refine ⟨neg, m', c', ?_, readD_mlt h6, ?_⟩
  · unfold Ieee.Format.nearest
    rw [if_pos rfl]
    rw [Nat.zero_mul] at h6
    exact h6
  · rw [Nat.zero_mul] at h7
    rw [Int.zero_mul]
    have := VU_abs neg m' c'
    rw [h7] at this
    omega
theorem wholeD_near (neg : Bool) (M c v : Nat) (h0 : 0 < M) (h : M * 2 ^ c = v * TT) (hv : v < 2 ^ 53) : WholeD (Ieee.double.nearest neg M ((c : Int) - 1074)) (if neg then -(v : Int) else v) := by
  obtain ⟨K, e, h1, h2, h3, h4⟩ := nearD_sg neg M c v h0 h hv
  obtain ⟨m, c', h5, h6⟩ := readD_word neg K e h2 h3
  refine ⟨neg, m, c', by rw [h1]; exact h5, readD_mlt h5, ?_⟩
  unfold VU
  rw [h6, h4, h]
  cases neg
  · simp
  · simp [Int.neg_mul]

/-- What is near to a whole number, told with its sign. -/
theorem wholeD_int (neg : Bool) (M c : Nat) (w : Int) (h : VU neg M c = w * (TT : Int)) (hw : w.natAbs < 2 ^ 53) : WholeD (Ieee.double.nearest neg M ((c : Int) - 1074)) w := by
  have ha := VU_abs neg M c
  rw [h, Int.natAbs_mul, Int.natAbs_natCast] at ha
  by_cases h0 : M = 0
  · subst h0
    have : w.natAbs = 0 := by
      rw [Nat.zero_mul] at ha
      rcases Nat.mul_eq_zero.1 ha with h | h
      · exact h
      · exact absurd h (Nat.ne_of_gt TT_pos)
    have : w = 0 := by omega
    rw [this]
    exact wholeD_zero _ _
  · have := wholeD_near neg M c w.natAbs (by omega) ha.symm hw
    have e : (if neg then -(w.natAbs : Int) else (w.natAbs : Int)) = w := by
      unfold VU at h
      have hT : (0 : Int) < (TT : Int) := Int.natCast_pos.2 TT_pos
      have hM : (0 : Int) ≤ ((M * 2 ^ c : Nat) : Int) := Int.natCast_nonneg _
      cases neg
      · simp only [Bool.false_eq_true, if_false] at h ⊢
        have : 0 ≤ w := by
          by_cases hn : 0 ≤ w
          · exact hn
          · have := Int.mul_neg_of_neg_of_pos (show w < 0 by omega) hT
            omega
        omega
      · simp only [if_true] at h ⊢
        have : w ≤ 0 := by
          by_cases hn : w ≤ 0
          · exact hn
          · have := Int.mul_pos (show 0 < w by omega) hT
            omega
        omega
    rw [e] at this
    exact this

theorem wholeD_of (n : Int) (h : n.natAbs < 2 ^ 53) : WholeD (FloatKind.nearest .f64 n) n := by
  show WholeD (Ieee.double.nearest (decide (n < 0)) n.natAbs 0) n
  have : (0 : Int) = ((1074 : Nat) : Int) - 1074 := by decide
  rw [this]
  refine wholeD_int _ _ _ _ ?_ h
  unfold VU
  show (if decide (n < 0) = true then -((n.natAbs * TT : Nat) : Int) else ((n.natAbs * TT : Nat) : Int)) = _
  rw [Int.natCast_mul]
  by_cases hn : n < 0
  · rw [if_pos (by simpa using hn), ← Int.neg_mul]
    congr 1
    omega
  · rw [if_neg (by simpa using hn)]
    congr 1
    omega

theorem sum_whole (s t : Bool) (m n c d : Nat) (v w : Int) (h1 : VU s m c = v * (TT : Int)) (h2 : VU t n d = w * (TT : Int)) (h : (v + w).natAbs < 2 ^ 53) :
    ∃ r, (Ieee.Datum.sum (.number s m ((c : Int) - 1074)) (.number t n ((d : Int) - 1074))).map Ieee.double.write = some r ∧ WholeD r (v + w) := by
  unfold Ieee.Datum.sum
  dsimp only
  have e1 : (((c : Int) - 1074) - min ((c : Int) - 1074) ((d : Int) - 1074)).toNat = c - min c d := by omega
  have e2 : (((d : Int) - 1074) - min ((c : Int) - 1074) ((d : Int) - 1074)).toNat = d - min c d := by omega
  have e3 : min ((c : Int) - 1074) ((d : Int) - 1074) = ((min c d : Nat) : Int) - 1074 := by omega
  rw [e1, e2, e3]
  have hs := signed_V s m c (min c d) (Nat.min_le_left _ _)
  have ht := signed_V t n d (min c d) (Nat.min_le_right _ _)
  have hT : (Ieee.signed s m (c - min c d) + Ieee.signed t n (d - min c d)) * ((2 ^ min c d : Nat) : Int) = (v + w) * (TT : Int) := by rw [Int.add_mul, hs, ht, h1, h2, Int.add_mul]
  generalize Ieee.signed s m (c - min c d) + Ieee.signed t n (d - min c d) = T at *
  generalize min c d = k at *
  refine ⟨_, rfl, ?_⟩
  refine wholeD_int _ _ _ _ ?_ h
  rw [← hT]
  unfold VU
  rw [Int.natCast_mul]
  by_cases h0 : T = 0
  · rw [h0]; simp
  · rw [if_neg h0]
    by_cases hn : T < 0
    · rw [if_pos (by simpa using hn), ← Int.neg_mul]
      congr 1
      omega
    · rw [if_neg (by simpa using hn)]
      congr 1
      omega

theorem addW {a b : Nat} {v w : Int} (ha : WholeD a v) (hb : WholeD b w) (h : (v + w).natAbs < 2 ^ 53) : WholeD (farith .add .f64 a b) (v + w) := by
  obtain ⟨s, m, c, h1, _, h2⟩ := ha
  obtain ⟨t, n, d, h3, _, h4⟩ := hb
  obtain ⟨r, e, hr⟩ := sum_whole s t m n c d v w h2 h4 h
  have : farith .add .f64 a b = (((Ieee.double.read a).sum (Ieee.double.read b)).map Ieee.double.write).getD (qn .f64) := rfl
  rw [this, h1, h3, e]
  exact hr
theorem subW {a b : Nat} {v w : Int} (ha : WholeD a v) (hb : WholeD b w) (h : (v - w).natAbs < 2 ^ 53) : WholeD (farith .sub .f64 a b) (v - w) := by
  obtain ⟨s, m, c, h1, _, h2⟩ := ha
  obtain ⟨t, n, d, h3, _, h4⟩ := hb
  obtain ⟨r, e, hr⟩ := sum_whole s (!t) m n c d v (-w) h2 (by rw [VU_neg, h4, Int.neg_mul]) (by rw [← Int.sub_eq_add_neg]; exact h)
  have : farith .sub .f64 a b = (((Ieee.double.read a).sum (Ieee.double.read b).opposite).map Ieee.double.write).getD (qn .f64) := rfl
  rw [this, h1, h3]
  rw [Int.sub_eq_add_neg]
  show WholeD ((((Ieee.Datum.number s m ((c : Int) - 1074)).sum (Ieee.Datum.number (!t) n ((d : Int) - 1074))).map Ieee.double.write).getD (qn .f64)) _
  rw [e]
  exact hr

theorem whole_place {s : Bool} {m c : Nat} {v : Int} (h : VU s m c = v * (TT : Int)) (hm : m < 2 ^ 53) (h0 : m ≠ 0) : 1022 ≤ c := by
  have ha := VU_abs s m c
  rw [h, Int.natAbs_mul, Int.natAbs_natCast] at ha
  have hv : v.natAbs ≠ 0 := by
    intro e
    rw [e, Nat.zero_mul] at ha
    have := Nat.mul_pos (Nat.pos_of_ne_zero h0) (Nat.two_pow_pos c)
    omega
  apply Classical.byContradiction
  intro hc
  have h3 : m * 2 ^ c < 2 ^ 53 * 2 ^ 1021 := Nat.lt_of_lt_of_le (Nat.mul_lt_mul_of_pos_right hm (Nat.two_pow_pos c)) (Nat.mul_le_mul_left _ (Nat.pow_le_pow_right (by decide) (by omega)))
  have h4 := TT_pow 1021 (by decide)
  rw [show 1074 - 1021 = 53 from rfl] at h4
  rw [h4, ← ha] at h3
  have h5 : 1 * TT ≤ v.natAbs * TT := Nat.mul_le_mul_right _ (by omega)
  omega

theorem mulW {a b : Nat} {v w : Int} (ha : WholeD a v) (hb : WholeD b w) (h : (v * w).natAbs < 2 ^ 53) : WholeD (farith .mul .f64 a b) (v * w) := by
  obtain ⟨s, m, c, h1, hm, h2⟩ := ha
  obtain ⟨t, n, d, h3, hn, h4⟩ := hb
  have e : farith .mul .f64 a b = (((Ieee.double.read a).product (Ieee.double.read b)).map Ieee.double.write).getD (qn .f64) := rfl
  rw [e, h1, h3]
  show WholeD (Ieee.double.nearest (s ^^ t) (m * n) (((c : Int) - 1074) + ((d : Int) - 1074))) _
  have hVV := VU_mul s t m n c d
  rw [h2, h4] at hVV
  by_cases h0 : m * n = 0
  · rw [h0]
    have hz : v * w = 0 := by
      have ha := VU_abs (s ^^ t) (m * n) (c + d)
      rw [h0, Nat.zero_mul] at ha
      have hz : v * (TT : Int) * (w * (TT : Int)) = 0 := by rw [← hVV]; rw [h0]; have := VU_abs (s ^^ t) 0 (c + d); rw [Nat.zero_mul] at this; omega
      have hT : (TT : Int) ≠ 0 := by have := TT_pos; omega
      rcases Int.mul_eq_zero.1 hz with h | h
      · rcases Int.mul_eq_zero.1 h with h | h
        · rw [h, Int.zero_mul]
        · exact absurd h hT
      · rcases Int.mul_eq_zero.1 h with h | h
        · rw [h, Int.mul_zero]
        · exact absurd h hT
    rw [hz]
    exact wholeD_zero _ _
  · have hm0 : m ≠ 0 := by intro e; rw [e, Nat.zero_mul] at h0; exact h0 rfl
    have hn0 : n ≠ 0 := by intro e; rw [e, Nat.mul_zero] at h0; exact h0 rfl
    have c1 := whole_place h2 hm hm0
    have c2 := whole_place h4 hn hn0
    have ep : ((c : Int) - 1074) + ((d : Int) - 1074) = ((c + d - 1074 : Nat) : Int) - 1074 := by omega
    rw [ep]
    refine wholeD_int _ _ _ _ ?_ h
    have hsh := VU_shift (s ^^ t) (m * n) (c + d - 1074) 1074
    rw [show c + d - 1074 + 1074 = c + d by omega, hVV] at hsh
    have hT : (TT : Int) ≠ 0 := by have := TT_pos; omega
    have e2 : ((2 ^ 1074 : Nat) : Int) = (TT : Int) := rfl
    rw [e2] at hsh
    have e3 : v * (TT : Int) * (w * (TT : Int)) = v * w * (TT : Int) * (TT : Int) := by simp only [Int.mul_assoc, Int.mul_left_comm, Int.mul_comm]
    rw [e3] at hsh
    exact (Int.eq_of_mul_eq_mul_right hT hsh).symm

theorem absW {a : Nat} {v : Int} (ha : WholeD a v) : WholeD (a % 2 ^ 63) (v.natAbs : Int) := by
  obtain ⟨s, m, c, h1, hm, h2⟩ := ha
  refine ⟨false, m, c, ?_, hm, ?_⟩
  · unfold Ieee.Format.read at h1 ⊢
    dsimp only at h1 ⊢
    rw [d_sw, d_bin, d_inf, d_lp] at *
    have e1 : a % 2 ^ 63 % 2 ^ 63 = a % 2 ^ 63 := Nat.mod_mod _ _
    have e2 : (a % 2 ^ 63 / 2 ^ 63 % 2 == 1) = false := by
      have : a % 2 ^ 63 / 2 ^ 63 = 0 := Nat.div_eq_of_lt (Nat.mod_lt _ (by decide))
      rw [this]; rfl
    rw [e1, e2]
    split at h1
    · rename_i hc
      rw [if_pos hc]
      injection h1 with q1 q2 q3
      rw [q2, q3]
    · rename_i hc
      rw [if_neg hc]
      split at h1
      · rename_i hc2
        rw [if_pos hc2]
        injection h1 with q1 q2 q3
        rw [q2, q3]
      · split at h1 <;> cases h1
  · have ha := VU_abs s m c
    rw [h2, Int.natAbs_mul, Int.natAbs_natCast] at ha
    unfold VU
    rw [← ha]
    simp

theorem ordW {a b : Nat} {x y : Int} (ha : WholeD a x) (hb : WholeD b y) : FloatKind.f64.format.order a b = some (compare x y) := by
  obtain ⟨s, m, c, h1, _, h2⟩ := ha
  obtain ⟨t, n, d, h3, _, h4⟩ := hb
  rw [ordD ⟨s, m, c, h1, rfl⟩ ⟨t, n, d, h3, rfl⟩, h2, h4, cmp_mul]
  exact Int.natCast_pos.2 TT_pos
theorem ltW {a b : Nat} {x y : Int} (ha : WholeD a x) (hb : WholeD b y) : flt .f64 a b = decide (x < y) := by
  unfold flt
  rw [ordW ha hb, Int.compare_eq_ite_lt]
  by_cases h1 : x < y
  · rw [if_pos h1]; simp [h1]
  · rw [if_neg h1]
    by_cases h2 : y < x
    · rw [if_pos h2]; simp [h1]
    · rw [if_neg h2]; simp [h1]
theorem eqW {a b : Nat} {x y : Int} (ha : WholeD a x) (hb : WholeD b y) : feq .f64 a b = decide (x = y) := by
  unfold feq
  rw [ordW ha hb, Int.compare_eq_ite_lt]
  by_cases h1 : x < y
  · rw [if_pos h1]; simp; omega
  · rw [if_neg h1]
    by_cases h2 : y < x
    · rw [if_pos h2]; simp; omega
    · rw [if_neg h2]; simp; omega

theorem wholeD_e8 : WholeD 4726483295884279808 100000000 := by
  refine ⟨false, 6710886400000000, 1048, by decide +kernel, by decide, ?_⟩
  unfold VU
  simp only [Bool.false_eq_true, if_false]
  rw [← TT_pow 1048 (by decide)]
  generalize 2 ^ 1048 = z
  omega
end Go.Proofs.Ytmmdjajebmihhaa.AM
