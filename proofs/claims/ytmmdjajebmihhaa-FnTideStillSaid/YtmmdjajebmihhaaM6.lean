/- Texts of one proof, joined: an abstract machine for the program, its functions evaluated, plain lemmas. Conditions: those that each lemma names. -/
import Derived.Test.YtmmdjajebmihhaaM5

/- Plainly: the wind at a node. Conditions: short lists. -/
namespace Go.Proofs.Ytmmdjajebmihhaa.AM
open Go Go.Proofs
set_option linter.unusedVariables false

def air (f : FieldT) (i n : Nat) : Nat × Nat := atV (atH f i) n
def hourOf (f : FieldT) (t : Int) : Int := imin (IntKind.i64.wrap (Int.tdiv t 3600)) (IntKind.i64.wrap ((f.2.2.2.1.length : Int) - 1))
def windV (f : FieldT) (n t : Int) : (Nat × Nat) × Bool × Unit := bif fieldOkB f && (hasB f n && inB t 0 10000000) then (air f (hourOf f t).toNat n.toNat, true, ()) else ((0, 0), false, ())
theorem F37_eq (t : Int) : F37 (t, ()) = some (inB t 0 10000000, ()) := by
  have e : F48 (t, 0, 10000000, ()) = some (inB t 0 10000000, ()) := F48_eq _ _ _
  unfold F37 r37
  simp only [K48, G48, e, Option.isSome_some, Option.getD_some, cond_true]

/-- A node that a field has lies within each hour. -/
theorem node_in {f : FieldT} (h : fieldOkB f = true) {n : Int} (hn : hasB f n = true) {i : Nat} (hi : i < f.2.2.2.1.length) : 0 ≤ n ∧ n < ((atH f i).length : Int) := by
  obtain ⟨h1, h2, h3, h4, h5⟩ := okB_wide h
  have h6 := allFrom_iff.1 h5 i (Nat.zero_le _) (by omega)
  simp only [hourOk, Bool.and_eq_true, decide_eq_true_eq] at h6
  simp only [inB, Bool.and_eq_true, decide_eq_true_eq] at h1 h2
  simp only [hasB, inB, Bool.and_eq_true, decide_eq_true_eq] at hn
  have ha : 0 ≤ f.1 * f.2.1 := Int.mul_nonneg (by omega) (by omega)
  have hb : f.1 * f.2.1 ≤ 12 * 12 := Int.mul_le_mul h1.2 h2.2 (by omega) (by omega)
  have e1 : IntKind.i64.wrap (f.1 * f.2.1) = f.1 * f.2.1 := w64 (by omega) (by omega)
  rw [e1] at h6 hn
  rw [w64 (by omega) (by omega)] at hn
  omega
theorem hour_in {f : FieldT} (h : fieldOkB f = true) {t : Int} (ht : inB t 0 10000000 = true) : 0 ≤ hourOf f t ∧ hourOf f t < (f.2.2.2.1.length : Int) := by
  obtain ⟨h1, h2, h3, h4, h5⟩ := okB_wide h
  simp only [inB, Bool.and_eq_true, decide_eq_true_eq] at h4 ht
  have e : Int.tdiv t 3600 = t / 3600 := Int.tdiv_eq_ediv_of_nonneg ht.1
  unfold hourOf
  rw [e, w64 (x := t / 3600) (by omega) (by omega), w64 (x := (f.2.2.2.1.length : Int) - 1) (by omega) (by omega)]
  unfold imin
  split <;> omega
theorem F10_eq (f : FieldT) (n t : Int) (h : HoursG f.2.2.2.1) : F10 (f, n, t, ()) = some (windV f n t) := by
  have e1 : F34 (f, ()) = some (fieldOkB f, ()) := F34_eq f h
  have e2 : F35 (f, n, ()) = some (hasB f n, ()) := F35_eq f n
  have e3 : F37 (t, ()) = some (inB t 0 10000000, ()) := F37_eq t
  unfold F10 r10 windV
  simp only [K34, G34, e1, K35, G35, e2, K37, G37, e3, Option.isSome_some, Option.getD_some, cond_true]
  cases hb : fieldOkB f with
  | false => rfl
  | true =>
  cases hn : hasB f n with
  | false => rfl
  | true =>
  cases ht : inB t 0 10000000 with
  | false => rfl
  | true =>
    obtain ⟨q1, q2⟩ := hour_in hb ht
    have hi : (hourOf f t).toNat < f.2.2.2.1.length := by omega
    obtain ⟨q3, q4⟩ := node_in hb hn hi
    have d1 : (decide (0 ≤ hourOf f t) && decide (hourOf f t < (f.2.2.2.1.length : Int))) = true := by simp only [Bool.and_eq_true, decide_eq_true_eq]; exact ⟨q1, q2⟩
    have d2 : (decide (0 ≤ n) && decide (n < ((atH f (hourOf f t).toNat).length : Int))) = true := by simp only [Bool.and_eq_true, decide_eq_true_eq]; exact ⟨q3, q4⟩
    show (bif (decide (0 ≤ hourOf f t) && decide (hourOf f t < (f.2.2.2.1.length : Int))) then
      bif (decide (0 ≤ n) && decide (n < ((atH f (hourOf f t).toNat).length : Int))) then some (air f (hourOf f t).toNat n.toNat, true, ()) else none else none) = _
    rw [d1, cond_true, d2, cond_true]
    rfl

end Go.Proofs.Ytmmdjajebmihhaa.AM

/- Plainly: a wind is the same as itself. Conditions: none. -/
namespace Go.Proofs.Ytmmdjajebmihhaa.AM
open Go Go.Proofs
set_option linter.unusedVariables false

/-- What a comparison with itself says of a double. -/
theorem same_self (s : Nat) (h : feq .f64 s 0 = true → feq .f64 (farith .quo .f64 4607182418800017408 s) (farith .quo .f64 4607182418800017408 s) = true) : F65 (s, s, ()) = some (true, ()) := by
  unfold F65 r65
  dsimp only
  cases h1 : feq .f64 s s with
  | false => rfl
  | true =>
    cases h2 : feq .f64 s 0 with
    | false => rfl
    | true =>
      simp only [Bool.not_true, cond_false, cond_true, h h2]

theorem read_zero : Ieee.double.read 0 = .number false 0 (-1074) := by decide
theorem zero_read {s : Nat} (h : feq .f64 s 0 = true) : ∃ g e, Ieee.double.read s = .number g 0 e := by
  have o : FloatKind.f64.format.order s 0 = (Ieee.double.read s).order (Ieee.double.read 0) := rfl
  unfold feq at h
  rw [o, read_zero] at h
  cases hr : Ieee.double.read s with
  | nan a b => rw [hr] at h; simp [Ieee.Datum.order] at h
  | infinity a => rw [hr] at h; cases a <;> simp [Ieee.Datum.order] at h
  | number g m e =>
    rw [hr] at h
    simp only [Ieee.Datum.order, beq_iff_eq, Option.some.injEq, Int.compare_eq_ite_lt] at h
    have h0 : Ieee.signed g m (e - min e (-1074)).toNat = 0 := by
      have hz : Ieee.signed false 0 (-1074 - min e (-1074)).toNat = 0 := by simp [Ieee.signed]
      rw [hz] at h
      by_cases h1 : Ieee.signed g m (e - min e (-1074)).toNat < 0
      · rw [if_pos h1] at h; cases h
      · rw [if_neg h1] at h
        by_cases h2 : 0 < Ieee.signed g m (e - min e (-1074)).toNat
        · rw [if_pos h2] at h; cases h
        · omega
    have hm : m = 0 := by
      unfold Ieee.signed at h0
      rw [Nat.shiftLeft_eq] at h0
      have h1 : m * 2 ^ (e - min e (-1074)).toNat = 0 := by
        cases g
        · simp only [Bool.false_eq_true, if_false] at h0; omega
        · simp only [if_true] at h0; omega
      rcases Nat.mul_eq_zero.1 h1 with h2 | h2
      · exact h2
      · have := Nat.two_pow_pos (e - min e (-1074)).toNat; omega
    subst hm
    exact ⟨g, e, rfl⟩

theorem quo_zero {s : Nat} (h : feq .f64 s 0 = true) : feq .f64 (farith .quo .f64 4607182418800017408 s) (farith .quo .f64 4607182418800017408 s) = true := by
  obtain ⟨g, e, hr⟩ := zero_read h
  have h1 : ∃ m i, Ieee.double.read 4607182418800017408 = .number false m i ∧ m ≠ 0 := ⟨2 ^ 52, -52, by decide, by decide⟩
  obtain ⟨m, i, h1, hm⟩ := h1
  have e1 : FloatKind.f64.format.div 4607182418800017408 s = some (Ieee.double.write (.infinity g)) := by
    show ((Ieee.double.read 4607182418800017408).quotient _ (Ieee.double.read s)).map Ieee.double.write = _
    rw [hr, h1]
    simp [Ieee.Datum.quotient, hm]
  have e2 : farith .quo .f64 4607182418800017408 s = Ieee.double.write (.infinity g) := by
    show (FloatKind.f64.format.div 4607182418800017408 s).getD _ = _
    rw [e1]; rfl
  rw [e2]
  cases g <;> decide

theorem F65_eq (s : Nat) : F65 (s, s, ()) = some (true, ()) := same_self s quo_zero
theorem F24_eq (c : Nat × Nat) : F24 (c, c, ()) = some (true, ()) := by
  have e1 : F65 (c.1, c.1, ()) = some (true, ()) := F65_eq _
  have e2 : F65 (c.2, c.2, ()) = some (true, ()) := F65_eq _
  unfold F24 r24
  simp only [K65, G65, e1, e2, Option.isSome_some, Option.getD_some, cond_true]
theorem F13_eq (c : Nat × Nat) : F13 (c, c, ()) = some (true, ()) := by
  have e1 := F24_eq ((convF FloatKind.f32 FloatKind.f64 c.1).snd, (convF FloatKind.f32 FloatKind.f64 c.2).snd)
  unfold F13 r13
  simp only [K24, G24, e1, Option.isSome_some, Option.getD_some, cond_true]

end Go.Proofs.Ytmmdjajebmihhaa.AM

/- Plainly: doubles: what a word reads as, orders. Conditions: those that each lemma names. -/
namespace Go.Proofs.Ytmmdjajebmihhaa.AM
open Go Go.Proofs
set_option linter.unusedVariables false

theorem d_sw : Ieee.double.signWeight = 2 ^ 63 := by decide
theorem d_inf : Ieee.double.infRung = 2047 * 2 ^ 52 := by decide
theorem d_bin : Ieee.double.binade = 2 ^ 52 := by decide
theorem d_lp : Ieee.double.leastPlace = -1074 := by decide
theorem d_fb : Ieee.double.fractionBits = 52 := by decide

theorem readD_word (neg : Bool) (K e : Nat) (h1 : e * 2 ^ 52 + K < 2047 * 2 ^ 52) (h2 : (e = 0 ∧ K ≤ 2 ^ 53) ∨ (2 ^ 52 ≤ K ∧ K ≤ 2 ^ 53)) :
    ∃ (m : Nat) (c : Nat), Ieee.double.read (Ieee.double.word neg (e * 2 ^ 52 + K)) = .number neg m ((c : Int) - 1074) ∧ m * 2 ^ c = K * 2 ^ e := by
  have hr : Ieee.double.word neg (e * 2 ^ 52 + K) % Ieee.double.signWeight = e * 2 ^ 52 + K := by
    unfold Ieee.Format.word
    rw [d_sw]
    split <;> omega
  have hn : (Ieee.double.word neg (e * 2 ^ 52 + K) / Ieee.double.signWeight % 2 == 1) = neg := by
    unfold Ieee.Format.word
    rw [d_sw]
    cases neg
    · rw [if_neg (by decide)]
      have : (e * 2 ^ 52 + K) / 2 ^ 63 = 0 := Nat.div_eq_of_lt (by omega)
      rw [this]; rfl
    · rw [if_pos rfl]
      have : (2 ^ 63 + (e * 2 ^ 52 + K)) / 2 ^ 63 = 1 := by omega
      rw [this]; rfl
  unfold Ieee.Format.read
  dsimp only
  rw [hr, hn, d_bin, d_inf, d_lp]
  by_cases c1 : e * 2 ^ 52 + K < 2 ^ 52
  · rw [if_pos c1]
    have : e = 0 := by omega
    subst this
    exact ⟨K, 0, by simp, by simp⟩
  · rw [if_neg c1, if_pos h1]
    by_cases c2 : K < 2 ^ 52
    · exfalso; omega
    by_cases c3 : K = 2 ^ 53
    · have e1 : (e * 2 ^ 52 + K) / 2 ^ 52 = e + 2 := by omega
      have e2 : (e * 2 ^ 52 + K) % 2 ^ 52 = 0 := by omega
      rw [e1, e2]
      refine ⟨2 ^ 52, e + 1, ?_, ?_⟩
      · rw [show ((-1074 : Int) + ((e + 2 - 1 : Nat) : Int)) = ((e + 1 : Nat) : Int) - 1074 by omega, Nat.add_zero]
      · rw [c3, ← Nat.pow_add, ← Nat.pow_add]
        congr 1
        omega
    · have e1 : (e * 2 ^ 52 + K) / 2 ^ 52 = e + 1 := by omega
      have e2 : (e * 2 ^ 52 + K) % 2 ^ 52 = K - 2 ^ 52 := by omega
      rw [e1, e2]
      refine ⟨K, e, ?_, rfl⟩
      rw [show ((-1074 : Int) + ((e + 1 - 1 : Nat) : Int)) = ((e : Nat) : Int) - 1074 by omega, show 2 ^ 52 + (K - 2 ^ 52) = K by omega]

/-- A number's value, in units of the least place. -/
def VU (s : Bool) (m c : Nat) : Int := if s then -((m * 2 ^ c : Nat) : Int) else ((m * 2 ^ c : Nat) : Int)
def isD (b : Nat) (v : Int) : Prop := ∃ (s : Bool) (m c : Nat), Ieee.double.read b = .number s m ((c : Int) - 1074) ∧ v = VU s m c

theorem signed_V (s : Bool) (m c d : Nat) (h : d ≤ c) : Ieee.signed s m (c - d) * ((2 ^ d : Nat) : Int) = VU s m c := by
  have e : m * 2 ^ (c - d) * 2 ^ d = m * 2 ^ c := by rw [Nat.mul_assoc, ← Nat.pow_add]; congr 2; omega
  unfold Ieee.signed VU
  rw [Nat.shiftLeft_eq]
  split
  · rw [Int.neg_mul, ← Int.natCast_mul, e]
  · rw [← Int.natCast_mul, e]

theorem cmp_mul (a b k : Int) (hk : 0 < k) : compare (a * k) (b * k) = compare a b := by
  have h1 : a * k < b * k ↔ a < b := Int.mul_lt_mul_right hk
  have h2 : b * k < a * k ↔ b < a := Int.mul_lt_mul_right hk
  rw [Int.compare_eq_ite_lt, Int.compare_eq_ite_lt]
  simp only [h1, h2]

theorem order_V (s t : Bool) (m n c d : Nat) : Ieee.Datum.order (.number s m ((c : Int) - 1074)) (.number t n ((d : Int) - 1074)) = some (compare (VU s m c) (VU t n d)) := by
  unfold Ieee.Datum.order
  dsimp only
  have e1 : (((c : Int) - 1074) - min ((c : Int) - 1074) ((d : Int) - 1074)).toNat = c - min c d := by omega
  have e2 : (((d : Int) - 1074) - min ((c : Int) - 1074) ((d : Int) - 1074)).toNat = d - min c d := by omega
  rw [e1, e2, ← signed_V s m c (min c d) (Nat.min_le_left _ _), ← signed_V t n d (min c d) (Nat.min_le_right _ _), cmp_mul]
  exact Int.natCast_pos.2 (Nat.two_pow_pos _)

theorem ordD {a b : Nat} {x y : Int} (ha : isD a x) (hb : isD b y) : FloatKind.f64.format.order a b = some (compare x y) := by
  obtain ⟨s, m, c, h1, rfl⟩ := ha
  obtain ⟨t, n, d, h2, rfl⟩ := hb
  show (Ieee.double.read a).order (Ieee.double.read b) = _
  rw [h1, h2]
  exact order_V s t m n c d


end Go.Proofs.Ytmmdjajebmihhaa.AM

/- Plainly: amounts of doubles; places and legs that are valid: both sides ask the same. Conditions: those that each lemma names. -/
namespace Go.Proofs.Ytmmdjajebmihhaa.AM
open Go Go.Proofs
set_option linter.unusedVariables false

/-! ## A double without its sign -/

def absD (d : Ieee.Datum) : Ieee.Datum := match d with
  | .number _ m e => .number false m e
  | .infinity _ => .infinity false
  | .nan _ f => .nan false f

theorem read_abs (a : Nat) : Ieee.double.read (a % 2 ^ 63) = absD (Ieee.double.read a) := by
  unfold Ieee.Format.read
  dsimp only
  rw [d_sw]
  have e1 : a % 2 ^ 63 % 2 ^ 63 = a % 2 ^ 63 := Nat.mod_mod _ _
  have e2 : (a % 2 ^ 63 / 2 ^ 63 % 2 == 1) = false := by
    have : a % 2 ^ 63 / 2 ^ 63 = 0 := Nat.div_eq_of_lt (Nat.mod_lt _ (by decide))
    rw [this]; rfl
  rw [e1, e2]
  split
  · rfl
  · split
    · rfl
    · split <;> rfl

theorem read_neg (a : Nat) : Ieee.double.read (fneg .f64 a) = (Ieee.double.read a).opposite := by
  have hf : fneg .f64 a = a ^^^ 2 ^ 63 := rfl
  rw [hf]
  unfold Ieee.Format.read
  dsimp only
  rw [d_sw]
  have e1 : (a ^^^ 2 ^ 63) % 2 ^ 63 = a % 2 ^ 63 := by rw [Nat.xor_mod_two_pow, Nat.mod_self, Nat.xor_zero]
  have e2 : ((a ^^^ 2 ^ 63) / 2 ^ 63 % 2 == 1) = !(a / 2 ^ 63 % 2 == 1) := by
    rw [Nat.xor_div_two_pow, Nat.div_self (by decide)]
    have h1 : (a / 2 ^ 63 ^^^ 1) % 2 = (a / 2 ^ 63 % 2) ^^^ 1 := by
      have := Nat.xor_mod_two_pow (a := a / 2 ^ 63) (b := 1) (n := 1)
      simpa using this
    rw [h1]
    rcases Nat.mod_two_eq_zero_or_one (a / 2 ^ 63) with h | h <;> rw [h] <;> rfl
  rw [e1, e2]
  split
  · rfl
  · split
    · rfl
    · split <;> rfl

def amtD (a : Nat) : Nat := bif flt .f64 a 0 then fneg .f64 a else a

theorem amt_order (a c : Nat) : FloatKind.f64.format.order (amtD a) c = FloatKind.f64.format.order (a % 2 ^ 63) c := by
  show (Ieee.double.read (amtD a)).order (Ieee.double.read c) = (Ieee.double.read (a % 2 ^ 63)).order (Ieee.double.read c)
  rw [read_abs]
  have h0 : flt .f64 a 0 = ((Ieee.double.read a).order (Ieee.double.read 0) == some .lt) := rfl
  unfold amtD
  rw [h0, read_zero]
  generalize Ieee.double.read c = d
  cases hr : Ieee.double.read a with
  | nan s f =>
    have : ((Ieee.Datum.nan s f).order (.number false 0 (-1074)) == some Ordering.lt) = false := rfl
    rw [this, cond_false, hr]
    cases d <;> rfl
  | infinity s =>
    cases s with
    | true =>
      have : ((Ieee.Datum.infinity true).order (.number false 0 (-1074)) == some Ordering.lt) = true := rfl
      rw [this, cond_true, read_neg, hr]
      rfl
    | false =>
      have : ((Ieee.Datum.infinity false).order (.number false 0 (-1074)) == some Ordering.lt) = false := rfl
      rw [this, cond_false, hr]
      rfl
  | number s m e =>
    cases s with
    | false =>
      have h1 : ((Ieee.Datum.number false m e).order (.number false 0 (-1074)) == some Ordering.lt) = false := by
        unfold Ieee.Datum.order Ieee.signed
        simp only [Bool.false_eq_true, if_false, Nat.zero_shiftLeft]
        have : ∀ x : Nat, (some (compare ((x : Nat) : Int) ((0 : Nat) : Int)) == some Ordering.lt) = false := by
          intro x
          rw [Int.compare_eq_ite_lt, if_neg (by omega)]
          split <;> rfl
        exact this _
      rw [h1, cond_false, hr]
      rfl
    | true =>
      cases h1 : ((Ieee.Datum.number true m e).order (.number false 0 (-1074)) == some Ordering.lt) with
      | true => rw [cond_true, read_neg, hr]; rfl
      | false =>
        rw [cond_false, hr]
        have hm : m = 0 := by
          unfold Ieee.Datum.order Ieee.signed at h1
          simp only [if_true, Bool.false_eq_true, if_false, Nat.zero_shiftLeft, Nat.shiftLeft_eq] at h1
          rcases Nat.eq_zero_or_pos m with h | h
          · exact h
          · exfalso
            have hp := Nat.mul_pos h (Nat.two_pow_pos (e - min e (-1074)).toNat)
            rw [Int.compare_eq_ite_lt, if_pos (by omega)] at h1
            cases h1
        subst hm
        unfold absD
        cases d with
        | number t n j =>
          unfold Ieee.Datum.order Ieee.signed
          simp
        | infinity t => rfl
        | nan t f => rfl

def le8 (a : Nat) : Bool := flt .f64 a 4726483295884279808 || feq .f64 a 4726483295884279808
theorem le8_amt (a : Nat) : le8 (amtD a) = le8 (a % 2 ^ 63) := by
  unfold le8 flt feq
  rw [amt_order]

def vecB (z : Nat × Nat) : Bool := le8 (z.1 % 2 ^ 63) && le8 (z.2 % 2 ^ 63)
theorem F41_eq (z : Nat × Nat) : F41 (z, ()) = some (vecB z, ()) := by
  unfold F41 r41 vecB
  simp only [K79, G79, cond_true]
  show (bif le8 (z.1 % 2 ^ 63) then some (le8 (z.2 % 2 ^ 63), ()) else some (false, ())) = _
  cases le8 (z.1 % 2 ^ 63) <;> rfl
theorem F64_eq (a : Nat) : F64 (a, ()) = some (amtD a, ()) := by
  unfold F64 r64 amtD
  cases flt .f64 a 0 <;> rfl
theorem F22_eq (z : Nat × Nat) : F22 (z, ()) = some (vecB z, ()) := by
  unfold F22 r22 vecB
  have e1 : F64 (z.1, ()) = some (amtD z.1, ()) := F64_eq z.1
  have e2 : F64 (z.2, ()) = some (amtD z.2, ()) := F64_eq z.2
  simp only [K64, G64, e1, e2, Option.isSome_some, Option.getD_some, cond_true]
  show (bif le8 (amtD z.1) then some (le8 (amtD z.2), ()) else some (false, ())) = _
  rw [le8_amt, le8_amt]
  cases le8 (z.1 % 2 ^ 63) <;> rfl

/-! ## Legs -/

abbrev LegT : Type := Int × Nat × Int × Unit
def paceB (x : Nat) : Bool := (fgt .f32 x 0 || feq .f32 x 0) && (flt .f32 x 1112014848 || feq .f32 x 1112014848)
def legB (g : LegT) : Bool := paceB g.2.1 && inB g.2.2.1 0 100000
theorem F109_eq (x : Nat) : F109 (x, ()) = some (paceB x, ()) := by
  unfold F109 r109 paceB
  show (bif (fgt .f32 x 0 || feq .f32 x 0) then some ((flt .f32 x 1112014848 || feq .f32 x 1112014848), ()) else some (false, ())) = _
  cases (fgt .f32 x 0 || feq .f32 x 0) <;> rfl
theorem F92_eq (g : LegT) : F92 (g, ()) = some (legB g, ()) := by
  have e1 : F109 (g.2.1, ()) = some (paceB g.2.1, ()) := F109_eq _
  have e2 : F48 (g.2.2.1, 0, 100000, ()) = some (inB g.2.2.1 0 100000, ()) := F48_eq _ _ _
  unfold F92 r92 legB
  simp only [K109, G109, e1, K48, G48, e2, Option.isSome_some, Option.getD_some, cond_true]
  cases paceB g.2.1 <;> rfl
theorem F23_eq (g : LegT) : F23 (g, ()) = some (legB g, ()) := by
  have e2 : F39 (g.2.2.1, 0, 100000, ()) = some (inB g.2.2.1 0 100000, ()) := F39_eq _ _ _
  unfold F23 r23 legB paceB
  simp only [K39, G39, e2, Option.isSome_some, Option.getD_some, cond_true]
  show (bif (fgt .f32 g.2.1 0 || feq .f32 g.2.1 0) then (bif (flt .f32 g.2.1 1112014848 || feq .f32 g.2.1 1112014848) then some (inB g.2.2.1 0 100000, ()) else some (false, ())) else some (false, ())) = _
  cases (fgt .f32 g.2.1 0 || feq .f32 g.2.1 0) <;> cases (flt .f32 g.2.1 1112014848 || feq .f32 g.2.1 1112014848) <;> rfl

def atG (l : List LegT) (i : Nat) : LegT := l.getD i (0, 0, 0, ())
def legsB (l : List LegT) : Bool := allFrom (fun i => legB (atG l i)) 0 l.length && decide ((l.length : Int) ≤ 50)
theorem F62_eq (l : List LegT) (h : l.length ≤ 51) : F62 (l, ()) = some (legsB l, ()) := by
  have hl : l62_2 ((l, l, (l.length : Int), (0 : Int), ()), ()) = some (bif allFrom (fun i => legB (atG l i)) 0 l.length then .inl ((l, ()), ()) else .inr ((false, ()), ())) := by
    refine (iter_allB (q := q62_2 K92 G92) (fun k => ((l, l, (l.length : Int), (k : Int), ()), ())) l.length (fun i => legB (atG l i)) _ _ ?_ ?_ _ ?_ : _)
    · intro k f hk
      unfold q62_2
      have e1 : decide ((k : Int) < (l.length : Int)) = true := by simpa using hk
      have e2 : decide (0 ≤ (k : Int)) = true := by simp
      have ha : List.getD l k (zero S53) = atG l k := rfl
      have e3 : F92 (atG l k, ()) = some (legB (atG l k), ()) := F92_eq _
      simp only [w64n k (by omega), e1, e2, Bool.and_self, cond_true, Int.toNat_natCast, ha, K92, G92, e3, Option.isSome_some, Option.getD_some]
      cases legB (atG l k) <;> rfl
    · intro f
      simp [q62_2]
    · simp only [b62_2]; omega
  unfold F62 r62 legsB
  simp only [kL62_2, tL62_2, yL62_2, xL62_2, hl, Option.isSome_some, cond_true]
  cases allFrom (fun i => legB (atG l i)) 0 l.length <;> rfl

end Go.Proofs.Ytmmdjajebmihhaa.AM

/- Plainly: legs of no seconds; the law FnTideStill, in plain terms. Conditions: none. -/
namespace Go.Proofs.Ytmmdjajebmihhaa.AM
open Go Go.Proofs
set_option linter.unusedVariables false

def kTru (y : Den (.cons .bool .nil)) : Option Unit := bif y.1 then some () else none
theorem kTru_ok : ∀ y, kTru y = some () → y = (true, ()) := by
  rintro ⟨b, _⟩ h
  cases b
  · cases h
  · rfl
theorem F7_all (x : Den A7) : F7 x = some (decide ((x.1.length : Int) > 1048576), ()) := rfl

def idle (g : LegT) : LegT := (g.1, g.2.1, 0, ())
theorem idle_at (l : List LegT) (k : Nat) (h : k < l.length) : atG (l.map idle) k = idle (atG l k) := by
  unfold atG
  rw [List.getD_eq_getElem?_getD, List.getD_eq_getElem?_getD, List.getElem?_map, List.getElem?_eq_getElem h]
  rfl
theorem idle_step (l : List LegT) (k : Nat) (h : k < l.length) : (l.mapIdx fun i g => if i < k then idle g else g).set k (idle (atG l k)) = l.mapIdx fun i g => if i < k + 1 then idle g else g := by
  apply List.ext_getElem?
  intro j
  rw [List.getElem?_set, List.getElem?_mapIdx, List.getElem?_mapIdx, List.length_mapIdx]
  by_cases e : k = j
  · subst e
    rw [if_pos rfl, if_pos h, List.getElem?_eq_getElem h]
    unfold atG
    rw [List.getD_eq_getElem?_getD, List.getElem?_eq_getElem h]
    simp
  · rw [if_neg e]
    cases l[j]? with
    | none => rfl
    | some g =>
      simp only [Option.map_some]
      by_cases h1 : j < k
      · rw [if_pos h1, if_pos (by omega)]
      · rw [if_neg h1, if_neg (by omega)]
theorem idle_get (l : List LegT) (k : Nat) (h : k < l.length) : ((l.mapIdx fun i g => if i < k then idle g else g).getD k (zero S53)) = atG l k := by
  unfold atG
  rw [List.getD_eq_getElem?_getD, List.getD_eq_getElem?_getD, List.getElem?_mapIdx, List.getElem?_eq_getElem h]
  simp

/-- All legs are set to no seconds. -/
theorem idle_loop (p : Nat × Nat) (t : Int) (l : List LegT) (td : Den S48) (h : l.length ≤ 51) : l5_5 ((p, t, (), (), 0, ()), l, td, ()) = some ((p, t, (), (), ()), l.map idle, td, ()) := by
  obtain ⟨st, hs, _⟩ := td
  have h0 : l = l.mapIdx fun i g => if i < 0 then idle g else g := by
    apply List.ext_getElem?
    intro j
    rw [List.getElem?_mapIdx]
    cases l[j]? <;> simp
  have h1 : l.map idle = l.mapIdx fun i g => if i < l.length then idle g else g := by
    apply List.ext_getElem?
    intro j
    rw [List.getElem?_mapIdx, List.getElem?_map]
    by_cases hj : j < l.length
    · rw [List.getElem?_eq_getElem hj, Option.map_some, Option.map_some, if_pos hj]
    · rw [List.getElem?_eq_none (by omega)]; rfl
  have e : ((p, t, (), (), ((0 : Nat) : Int), ()), (l.mapIdx fun i g => if i < 0 then idle g else g), (st, hs, ()), ()) = (((p, t, (), (), (0 : Int), ()), l, (st, hs, ()), ()) : V5_5) := by rw [← h0]; rfl
  have key : ∀ m, l.length < m → iter (q5_5 K7 G7 K20 G20 K21 G21 K22 G22 K23 G23 K24 G24) m ((p, t, (), (), (0 : Int), ()), l, (st, hs, ()), ()) = some ((p, t, (), (), ()), l.map idle, (st, hs, ()), ()) := by
    intro m hm
    rw [← e, h1]
    refine iter_all (q := q5_5 K7 G7 K20 G20 K21 G21 K22 G22 K23 G23 K24 G24) (fun k => ((p, t, (), (), (k : Int), ()), (l.mapIdx fun i g => if i < k then idle g else g), (st, hs, ()), ())) l.length
      ((p, t, (), (), ()), (l.mapIdx fun i g => if i < l.length then idle g else g), (st, hs, ()), ()) ?_ ?_ m hm
    · intro k f hk
      unfold q5_5
      have e1 : decide ((k : Int) < ((l.mapIdx fun i g => if i < k then idle g else g).length : Int)) = true := by rw [List.length_mapIdx]; simpa using hk
      have e2 : decide (0 ≤ (k : Int)) = true := by simp
      have e3 := idle_get l k hk
      have e4 := idle_step l k hk
      simp only [w64n k (by omega), e1, e2, Bool.and_self, cond_true, Int.toNat_natCast, e3]
      rw [← e4]
      rfl
    · intro f
      unfold q5_5
      have e1 : decide ((l.length : Int) < ((l.mapIdx fun i g => if i < l.length then idle g else g).length : Int)) = false := by rw [List.length_mapIdx]; simp
      simp only [e1, cond_false]
  unfold l5_5
  refine key _ ?_
  unfold b5_5
  simp only []
  omega

/-- A leg of no seconds is not sailed. -/
theorem no_leg (v : V21_7) (h : v.1.2.2.2.2.1 = 0) : l21_7 v = some (.inl ((v.1.1, v.1.2.1, (), v.1.2.2.2.2.2), v.2.1, ())) := by
  obtain ⟨⟨p, t, _, _, s, ls, n, i, _⟩, ⟨st, hs, _⟩, g, _⟩ := v
  have h : s = 0 := h
  subst h
  have hb : 0 < b21_7 ((p, t, (), (), 0, ls, n, i, ()), (st, hs, ()), g, ()) := by unfold b21_7; omega
  unfold l21_7
  obtain ⟨m, hm⟩ : ∃ m, b21_7 ((p, t, (), (), 0, ls, n, i, ()), (st, hs, ()), g, ()) = m + 1 := ⟨_, (Nat.succ_pred_eq_of_pos hb).symm⟩
  rw [hm]
  show q21_7 _ _ _ _ _ _ _ _ _ _ = _
  unfold q21_7
  rfl

theorem tide_loop (p : Nat × Nat) (t : Int) (l : List LegT) (td : Den S48) (h : l.length ≤ 51) : l21_4 ((p, t, (), l.map idle, ((l.map idle).length : Int), 0, ()), td, ()) = some (.inl ((p, ()), ())) := by
  obtain ⟨st, hs, _⟩ := td
  refine (iter_all (q := q21_4 K41 G41 K62 G62 K28 G28 K63 G63 kL21_7 xL21_7 tL21_7 yL21_7) (fun k => ((p, t, (), l.map idle, ((l.map idle).length : Int), (k : Int), ()), (st, hs, ()), ())) (l.map idle).length (.inl ((p, ()), ())) ?_ ?_ _ ?_ : _)
  · intro k f hk
    have hk' : k < l.length := by rw [List.length_map] at hk; exact hk
    have e1 : decide ((k : Int) < ((l.map idle).length : Int)) = true := by simpa using hk'
    have e2 : decide (0 ≤ (k : Int)) = true := by simp
    have ha : List.getD (l.map idle) k (zero S53) = idle (atG l k) := idle_at l k hk'
    have e3 := no_leg ((p, t, (), (), (idle (atG l k)).2.2.1, l.map idle, ((l.map idle).length : Int), (k : Int), ()), (st, hs, ()), idle (atG l k), ()) rfl
    have e4 : kL21_7 ((p, t, (), (), (idle (atG l k)).2.2.1, l.map idle, ((l.map idle).length : Int), (k : Int), ()), (st, hs, ()), idle (atG l k), ()) = true := by unfold kL21_7; rw [e3]; rfl
    have e5 : tL21_7 ((p, t, (), (), (idle (atG l k)).2.2.1, l.map idle, ((l.map idle).length : Int), (k : Int), ()), (st, hs, ()), idle (atG l k), ()) = false := by unfold tL21_7; rw [e3]; rfl
    have e6 : xL21_7 ((p, t, (), (), (idle (atG l k)).2.2.1, l.map idle, ((l.map idle).length : Int), (k : Int), ()), (st, hs, ()), idle (atG l k), ()) = ((p, t, (), l.map idle, ((l.map idle).length : Int), (k : Int), ()), (st, hs, ()), ()) := by unfold xL21_7; rw [e3]; rfl
    unfold q21_4
    simp only [e1, e2, Bool.and_self, cond_true, Int.toNat_natCast, ha]
    rw [e4, cond_true, e5, cond_false, e6]
    simp only [w64n k (by omega)]
  · intro f
    unfold q21_4
    have e1 : decide (((l.map idle).length : Int) < ((l.map idle).length : Int)) = false := by simp
    simp only [e1, cond_false]
  · unfold b21_4
    show (l.map idle).length < _
    simp only []
    omega

theorem F21_eq (p : Nat × Nat) (t : Int) (l : List LegT) (td : Den S48) (h : l.length ≤ 51) : F21 (p, t, l.map idle, td, ()) = some (bif vecB p && legsB (l.map idle) then (p, true, ()) else ((0, 0), false, ())) := by
  have e1 : F41 (p, ()) = some (vecB p, ()) := F41_eq p
  have e2 : F62 (l.map idle, ()) = some (legsB (l.map idle), ()) := F62_eq _ (by rw [List.length_map]; exact h)
  have e3 := tide_loop p t l td h
  unfold F21 r21
  simp only [K41, G41, e1, K62, G62, e2, Option.isSome_some, Option.getD_some, cond_true]
  cases vecB p
  · rfl
  · cases legsB (l.map idle)
    · rfl
    · simp only [Bool.not_true, cond_false, kL21_4, tL21_4, xL21_4]
      rw [e3]
      rfl

theorem all_loop (p q : Nat × Nat) (ok b : Bool) (l : List LegT) (h : l.length ≤ 51) : l5_11 ((p, (), q, ok, b, 0, ()), l, ()) = some ((p, q, ok, b && allFrom (fun i => legB (atG l i)) 0 l.length, ()), ()) := by
  have gen : ∀ (n k : Nat) (b : Bool) (m : Nat), k + n = l.length → n < m → iter (q5_11 K7 G7 K20 G20 K21 G21 K22 G22 K23 G23 K24 G24) m ((p, (), q, ok, b, (k : Int), ()), l, ()) = some ((p, q, ok, b && allFrom (fun i => legB (atG l i)) k n, ()), ()) := by
    intro n
    induction n with
    | zero =>
      intro k b m hk hm
      obtain ⟨m', rfl⟩ : ∃ m', m = m' + 1 := ⟨m - 1, by omega⟩
      show q5_11 _ _ _ _ _ _ _ _ _ _ _ _ _ _ = _
      unfold q5_11
      have e1 : decide ((k : Int) < (l.length : Int)) = false := by simp; omega
      simp only [e1, cond_false, allFrom, Bool.and_true]
    | succ n ih =>
      intro k b m hk hm
      obtain ⟨m', rfl⟩ : ∃ m', m = m' + 1 := ⟨m - 1, by omega⟩
      show q5_11 _ _ _ _ _ _ _ _ _ _ _ _ (iter _ m') _ = _
      have hk' : k < l.length := by omega
      have e1 : decide ((k : Int) < (l.length : Int)) = true := by simpa using hk'
      have e2 : decide (0 ≤ (k : Int)) = true := by simp
      have ha : List.getD l k (zero S53) = atG l k := rfl
      have e3 : F23 (atG l k, ()) = some (legB (atG l k), ()) := F23_eq _
      generalize hF : iter (q5_11 K7 G7 K20 G20 K21 G21 K22 G22 K23 G23 K24 G24) m' = F
      unfold q5_11
      cases b with
      | false =>
        simp only [e1, cond_true, cond_false, w64n k (by omega), Bool.false_and]
        rw [← hF]
        have := ih (k + 1) false m' (by omega) (by omega)
        rw [Bool.false_and] at this
        exact this
      | true =>
        simp only [e1, e2, Bool.and_self, cond_true, Int.toNat_natCast, ha, K23, G23, e3, Option.isSome_some, Option.getD_some, w64n k (by omega), Bool.true_and, allFrom]
        rw [← hF]
        exact ih (k + 1) (legB (atG l k)) m' (by omega) (by omega)
  exact gen l.length 0 b _ (by omega) (by unfold b5_11; simp only []; omega)

set_option maxRecDepth 100000 in
theorem tideStill (x : Den A5) (w : Wf A5 x) : callN (Γ5 K7 G7 K20 G20 K21 G21 K22 G22 K23 G23 K24 G24 kL5_5 xL5_5 kL5_11 xL5_11) (N5 p20 Q20 e20) (bodyOf Try.f5) (decRH R5 kTru) (encA A5 x) [] = some () := by
  refine Eq.trans (evN5 _ _ _ _ _ _ _ _ _ _ _ _ _ _ _ _ _ _ _ kTru x) ?_
  unfold rN5
  simp only [K7, G7, F7_all, Option.isSome_some, Option.getD_some, cond_true]
  by_cases h0 : (x.1.length : Int) > 1048576
  · simp only [h0, decide_true, cond_true]; rfl
  simp only [h0, decide_false, cond_false]
  haveI := e20
  refine allK_intro fun g => ?_
  have hp : p20 (x, ()) = true := by show decide (x.1.length ≤ 1048576) = true; simp; omega
  have hq : (g.val (x, ())).2.1.length ≤ 51 := g.2 _ hp
  refine all_t hp ?_
  generalize g.val (x, ()) = d at *
  obtain ⟨⟨p, t, _, td, _⟩, l, _⟩ := d
  have hq : l.length ≤ 51 := hq
  have e5 := idle_loop p t l td hq
  have k5 : kL5_5 ((p, t, (), (), 0, ()), l, td, ()) = true := by unfold kL5_5; rw [e5]; rfl
  have x5 : xL5_5 ((p, t, (), (), 0, ()), l, td, ()) = ((p, t, (), (), ()), l.map idle, td, ()) := by unfold xL5_5; rw [e5]; rfl
  refine all_t k5 ?_
  rw [x5]
  have e21 := F21_eq p t l td hq
  have k21 : K21 (p, t, l.map idle, td, ()) = true := by unfold K21; rw [e21]; rfl
  have g21 : G21 (p, t, l.map idle, td, ()) = bif vecB p && legsB (l.map idle) then (p, true, ()) else ((0, 0), false, ()) := by unfold G21; rw [e21]; rfl
  refine all_t k21 ?_
  have hlen : (l.map idle).length ≤ 51 := by rw [List.length_map]; exact hq
  have z1 : feq FloatKind.f64 0 0 = true := by decide +kernel
  have e24 : F24 (p, p, ()) = some (true, ()) := F24_eq p
  have e22 : F22 (p, ()) = some (vecB p, ()) := F22_eq p
  simp only [g21, K22, G22, e22, Option.isSome_some, Option.getD_some, cond_true]
  have e11 := fun q ok b => all_loop p q ok b (l.map idle) hlen
  have k11 : ∀ q ok b, kL5_11 ((p, (), q, ok, b, 0, ()), l.map idle, ()) = true := fun q ok b => by unfold kL5_11; rw [e11]; rfl
  have x11 : ∀ q ok b, xL5_11 ((p, (), q, ok, b, 0, ()), l.map idle, ()) = ((p, q, ok, b && allFrom (fun i => legB (atG (l.map idle) i)) 0 (l.map idle).length, ()), ()) := fun q ok b => by unfold xL5_11; rw [e11]; rfl
  simp only [k11, x11, cond_true, K24, G24]
  unfold legsB
  by_cases h50 : ((l.map idle).length : Int) ≤ 50
  · simp only [h50, decide_true, cond_true, Bool.and_true]
    cases vecB p with
    | false => simp only [Bool.false_and, cond_false, beq_self_eq_true, cond_true, Bool.not_false, z1, Bool.and_self]; rfl
    | true =>
      cases allFrom (fun i => legB (atG (l.map idle) i)) 0 (l.map idle).length with
      | false => simp only [Bool.and_false, cond_false, beq_self_eq_true, cond_true, Bool.not_false, z1, Bool.and_self]; rfl
      | true => simp only [Bool.and_self, cond_true, beq_self_eq_true, Bool.not_true, cond_false, e24, Option.isSome_some, Option.getD_some]; rfl
  · simp only [h50, decide_false, cond_false, Bool.and_false, Bool.false_and, beq_self_eq_true, cond_true, Bool.not_false, z1, Bool.and_self]; rfl

end Go.Proofs.Ytmmdjajebmihhaa.AM
