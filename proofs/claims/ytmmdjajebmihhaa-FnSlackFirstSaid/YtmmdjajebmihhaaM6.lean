/- Texts of one proof, joined: an abstract machine for the program, its functions evaluated, plain lemmas. Conditions: those that each lemma names. -/
import Derived.Test.YtmmdjajebmihhaaM5

/- Plainly: what a field of winds must meet, the other side. Conditions: short lists. -/
namespace Go.Proofs.Ytmmdjajebmihhaa.AM
open Go Go.Proofs
set_option linter.unusedVariables false

theorem hour38 (f : FieldT) (h : HoursG f.2.2.2.1) (k : Nat) (hk : k < f.2.2.2.1.length) : l38_9 (((), (k : Int), (0 : Int), ()), (f, ())) = some (bif hourB (atH f k) then .inl (((), (k : Int), ()), (f, ())) else .inr ((false, ()), ())) := by
  have h6 := atH_len h k
  obtain ⟨a, b, m, hs, _⟩ := f
  have hk : k < hs.length := hk
  have h6 : (atH (a, b, m, hs, ()) k).length ≤ 6 := h6
  refine (iter_allB (q := q38_9 K39 G39 K78 G78) (fun j => (((), (k : Int), (j : Int), ()), ((a, b, m, hs, ()), ()))) (atH (a, b, m, hs, ()) k).length (fun i => velB (atV (atH (a, b, m, hs, ()) k) i)) _ _ ?_ ?_ _ ?_ : _)
  · intro j f hj
    unfold q38_9
    have e1 : decide ((k : Int) < (hs.length : Int)) = true := by simpa using hk
    have e2 : decide (0 ≤ (k : Int)) = true := by simp
    have e4 : decide ((j : Int) < ((atH (a, b, m, hs, ()) k).length : Int)) = true := by simpa using hj
    have e5 : decide (0 ≤ (j : Int)) = true := by simp
    have ha : List.getD hs k (zero (Ty.slice (Ty.cpx FloatKind.f32))) = atH (a, b, m, hs, ()) k := rfl
    have hb : ∀ l : List (Nat × Nat), List.getD l j (zero (Ty.cpx FloatKind.f32)) = atV l j := fun _ => rfl
    have e3 : F78 (atV (atH (a, b, m, hs, ()) k) j, ()) = some (velB (atV (atH (a, b, m, hs, ()) k) j), ()) := F78_eq _
    simp only [w64n j (by omega), e1, e2, Bool.and_self, cond_true, Int.toNat_natCast, ha]
    have hb' : List.getD (atH (a, b, m, hs, ()) k) j (zero (Ty.cpx FloatKind.f32)) = atV (atH (a, b, m, hs, ()) k) j := rfl
    simp only [e4, e5, Bool.and_self, cond_true, hb', K78, G78, e3, Option.isSome_some, Option.getD_some]
    cases velB (atV (atH (a, b, m, hs, ()) k) j) <;> rfl
  · intro f
    unfold q38_9
    have e1 : decide ((k : Int) < (hs.length : Int)) = true := by simpa using hk
    have e2 : decide (0 ≤ (k : Int)) = true := by simp
    have ha : List.getD hs k (zero (Ty.slice (Ty.cpx FloatKind.f32))) = atH (a, b, m, hs, ()) k := rfl
    simp only [e1, e2, Bool.and_self, cond_true, Int.toNat_natCast, ha, Int.lt_irrefl, decide_false, cond_false]
  · simp only [b38_9]; omega

theorem F38_eq (f : FieldT) (h : HoursG f.2.2.2.1) : F38 (f, ()) = some (fieldOkB f, ()) := by
  have h38 := hour38 f h
  obtain ⟨a, b, m, hs, _⟩ := f
  have hlen : hs.length ≤ 8 := h.1
  have hl : l38_4 (((), (0 : Int), ()), (a, b, m, hs, ()), ()) = some (bif allFrom (hourOk (a, b, m, hs, ())) 0 hs.length then .inl ((), ()) else .inr ((false, ()), ())) := by
    refine (iter_allB (q := q38_4 K39 G39 K78 G78 kL38_9 xL38_9 tL38_9 yL38_9) (fun k => (((), (k : Int), ()), (a, b, m, hs, ()), ())) hs.length (hourOk (a, b, m, hs, ())) _ _ ?_ ?_ _ ?_ : _)
    · intro k f hk
      have e3 : l38_9 (((), (k : Int), (0 : Int), ()), ((a, b, m, hs, ()), ())) = some (bif hourB (atH (a, b, m, hs, ()) k) then .inl (((), (k : Int), ()), ((a, b, m, hs, ()), ())) else .inr ((false, ()), ())) := h38 k hk
      unfold q38_4 hourOk
      have e1 : decide ((k : Int) < (hs.length : Int)) = true := by simpa using hk
      have e2 : decide (0 ≤ (k : Int)) = true := by simp
      have ha : List.getD hs k (zero (Ty.slice (Ty.cpx FloatKind.f32))) = atH (a, b, m, hs, ()) k := rfl
      simp only [e1, e2, Bool.and_self, cond_true, Int.toNat_natCast, ha, kL38_9, tL38_9, xL38_9, yL38_9, e3, Option.isSome_some]
      by_cases hc : ((atH (a, b, m, hs, ()) k).length : Int) = IntKind.i64.wrap (a * b)
      · simp only [hc, bne_self_eq_false, cond_false, decide_true, Bool.true_and]
        cases hourB (atH (a, b, m, hs, ()) k)
        · rfl
        · simp only [cond_true, isR, xOf, cond_false, w64n k (by omega)]
      · have : (((atH (a, b, m, hs, ()) k).length : Int) != IntKind.i64.wrap (a * b)) = true := by simpa using hc
        simp only [this, hc, cond_true, decide_false, Bool.false_and, cond_false]
    · intro f
      simp [q38_4]
    · simp only [b38_4]; omega
  have i1 : F39 (a, 2, 12, ()) = some (inB a 2 12, ()) := F39_eq _ _ _
  have i2 : F39 (b, 2, 12, ()) = some (inB b 2 12, ()) := F39_eq _ _ _
  have i3 : F39 (m, 10, 100000, ()) = some (inB m 10 100000, ()) := F39_eq _ _ _
  have i4 : F39 ((hs.length : Int), 1, 24, ()) = some (inB (hs.length : Int) 1 24, ()) := F39_eq _ _ _
  unfold F38 r38 fieldOkB
  simp only [K39, G39, i1, i2, i3, i4, kL38_4, tL38_4, yL38_4, hl, Option.isSome_some, Option.getD_some, cond_true]
  cases inB a 2 12 <;> cases inB b 2 12 <;> cases inB m 10 100000 <;> cases inB (hs.length : Int) 1 24 <;> cases allFrom (hourOk (a, b, m, hs, ())) 0 hs.length <;> rfl

/-! ## Where a node lies -/

def pos (f : FieldT) (n : Int) : Nat × Nat := (FloatKind.nearest .f64 (IntKind.i64.wrap (IntKind.i64.wrap (Int.tdiv n f.1) * f.2.2.1)), FloatKind.nearest .f64 (IntKind.i64.wrap (Int.tmod n f.1 * f.2.2.1)))
def hasB (f : FieldT) (n : Int) : Bool := inB n 0 (IntKind.i64.wrap (IntKind.i64.wrap (f.1 * f.2.1) - 1))
def nodeV (f : FieldT) (n : Int) : (Nat × Nat) × Bool × Unit := bif fieldOkB f && hasB f n then (pos f n, true, ()) else ((0, 0), false, ())
theorem okB_wide {f : FieldT} (h : fieldOkB f = true) : inB f.1 2 12 = true ∧ inB f.2.1 2 12 = true ∧ inB f.2.2.1 10 100000 = true ∧ inB (f.2.2.2.1.length : Int) 1 24 = true ∧ allFrom (hourOk f) 0 f.2.2.2.1.length = true := by
  unfold fieldOkB at h
  simpa only [Bool.and_eq_true] using h
theorem F36_eq (f : FieldT) (n : Int) (h : f.1 ≠ 0) : F36 (f, n, ()) = some (pos f n, ()) := by
  have : (f.1 != 0) = true := by simpa using h
  unfold F36 r36
  simp only [this, cond_true]
  rfl
theorem F40_eq (f : FieldT) (n : Int) (h : f.1 ≠ 0) : F40 (f, n, ()) = some (pos f n, ()) := F36_eq f n h
theorem F35_eq (f : FieldT) (n : Int) : F35 (f, n, ()) = some (hasB f n, ()) := by
  have e : F48 (n, 0, IntKind.i64.wrap (IntKind.i64.wrap (f.1 * f.2.1) - 1), ()) = some (hasB f n, ()) := F48_eq _ _ _
  unfold F35 r35
  simp only [K48, G48, e, Option.isSome_some, Option.getD_some, cond_true]
theorem wide_ne {f : FieldT} (h : fieldOkB f = true) : f.1 ≠ 0 := by
  have := (okB_wide h).1
  simp only [inB, Bool.and_eq_true, decide_eq_true_eq] at this
  omega
theorem F9_eq (f : FieldT) (n : Int) (h : HoursG f.2.2.2.1) : F9 (f, n, ()) = some (nodeV f n) := by
  have e1 : F34 (f, ()) = some (fieldOkB f, ()) := F34_eq f h
  have e2 := F35_eq f n
  unfold F9 r9 nodeV
  simp only [K34, G34, e1, K35, G35, e2, Option.isSome_some, Option.getD_some, cond_true]
  cases hb : fieldOkB f with
  | false => rfl
  | true =>
    have e3 := F36_eq f n (wide_ne hb)
    simp only [K36, G36, e3, Option.isSome_some, Option.getD_some, cond_true]
    cases hasB f n <;> rfl
theorem F11_eq (f : FieldT) (n : Int) (h : HoursG f.2.2.2.1) : F11 (f, n, ()) = some (nodeV f n) := by
  have e1 : F38 (f, ()) = some (fieldOkB f, ()) := F38_eq f h
  have e2 : F39 (n, 0, IntKind.i64.wrap (IntKind.i64.wrap (f.1 * f.2.1) - 1), ()) = some (hasB f n, ()) := F39_eq _ _ _
  unfold F11 r11 nodeV
  simp only [K38, G38, e1, K39, G39, e2, Option.isSome_some, Option.getD_some, cond_true]
  cases hb : fieldOkB f with
  | false => rfl
  | true =>
    have e3 := F40_eq f n (wide_ne hb)
    simp only [K40, G40, e3, Option.isSome_some, Option.getD_some, cond_true]
    cases hasB f n <;> rfl

end Go.Proofs.Ytmmdjajebmihhaa.AM

/- Plainly: the wind at a node. Conditions: short lists. -/
namespace Go.Proofs.Ytmmdjajebmihhaa.AM
open Go Go.Proofs
set_option linter.unusedVariables false

def air (f : FieldT) (i n : Nat) : Nat × Nat := atV (atH f i) n
def hourOf (f : FieldT) (t : Int) : Int := imin (IntKind.i64.wrap (Int.tdiv t 3600)) (IntKind.i64.wrap ((f.2.2.2.1.length : Int) - 1))
def windV (f : FieldT) (n t : Int) : (Nat × Nat) × Bool × Unit := bif fieldOkB f && (hasB f n && inB t 0 10000000) then (air f (hourOf f t).toNat n.toNat, true, ()) else ((0, 0), false, ())
theorem F37_eq (t : Int) : F37 (t, ()) = some (inB t 0 10000000, ()) := by
  have e : F48 (t, 0, 10000000, ()) = some (inB t 0 10000000, ()) := F48_eq _ _ _
  unfold F37 r37
  simp only [K48, G48, e, Option.isSome_some, Option.getD_some, cond_true]

/-- A node that a field has lies within each hour. -/
theorem node_in {f : FieldT} (h : fieldOkB f = true) {n : Int} (hn : hasB f n = true) {i : Nat} (hi : i < f.2.2.2.1.length) : 0 ≤ n ∧ n < ((atH f i).length : Int) := by
  obtain ⟨h1, h2, h3, h4, h5⟩ := okB_wide h
  have h6 := allFrom_iff.1 h5 i (Nat.zero_le _) (by omega)
  simp only [hourOk, Bool.and_eq_true, decide_eq_true_eq] at h6
  simp only [inB, Bool.and_eq_true, decide_eq_true_eq] at h1 h2
  simp only [hasB, inB, Bool.and_eq_true, decide_eq_true_eq] at hn
  have ha : 0 ≤ f.1 * f.2.1 := Int.mul_nonneg (by omega) (by omega)
  have hb : f.1 * f.2.1 ≤ 12 * 12 := Int.mul_le_mul h1.2 h2.2 (by omega) (by omega)
  have e1 : IntKind.i64.wrap (f.1 * f.2.1) = f.1 * f.2.1 := w64 (by omega) (by omega)
  rw [e1] at h6 hn
  rw [w64 (by omega) (by omega)] at hn
  omega
theorem hour_in {f : FieldT} (h : fieldOkB f = true) {t : Int} (ht : inB t 0 10000000 = true) : 0 ≤ hourOf f t ∧ hourOf f t < (f.2.2.2.1.length : Int) := by
  obtain ⟨h1, h2, h3, h4, h5⟩ := okB_wide h
  simp only [inB, Bool.and_eq_true, decide_eq_true_eq] at h4 ht
  have e : Int.tdiv t 3600 = t / 3600 := Int.tdiv_eq_ediv_of_nonneg ht.1
  unfold hourOf
  rw [e, w64 (x := t / 3600) (by omega) (by omega), w64 (x := (f.2.2.2.1.length : Int) - 1) (by omega) (by omega)]
  unfold imin
  split <;> omega
theorem F10_eq (f : FieldT) (n t : Int) (h : HoursG f.2.2.2.1) : F10 (f, n, t, ()) = some (windV f n t) := by
  have e1 : F34 (f, ()) = some (fieldOkB f, ()) := F34_eq f h
  have e2 : F35 (f, n, ()) = some (hasB f n, ()) := F35_eq f n
  have e3 : F37 (t, ()) = some (inB t 0 10000000, ()) := F37_eq t
  unfold F10 r10 windV
  simp only [K34, G34, e1, K35, G35, e2, K37, G37, e3, Option.isSome_some, Option.getD_some, cond_true]
  cases hb : fieldOkB f with
  | false => rfl
  | true =>
  cases hn : hasB f n with
  | false => rfl
  | true =>
  cases ht : inB t 0 10000000 with
  | false => rfl
  | true =>
    obtain ⟨q1, q2⟩ := hour_in hb ht
    have hi : (hourOf f t).toNat < f.2.2.2.1.length := by omega
    obtain ⟨q3, q4⟩ := node_in hb hn hi
    have d1 : (decide (0 ≤ hourOf f t) && decide (hourOf f t < (f.2.2.2.1.length : Int))) = true := by simp only [Bool.and_eq_true, decide_eq_true_eq]; exact ⟨q1, q2⟩
    have d2 : (decide (0 ≤ n) && decide (n < ((atH f (hourOf f t).toNat).length : Int))) = true := by simp only [Bool.and_eq_true, decide_eq_true_eq]; exact ⟨q3, q4⟩
    show (bif (decide (0 ≤ hourOf f t) && decide (hourOf f t < (f.2.2.2.1.length : Int))) then
      bif (decide (0 ≤ n) && decide (n < ((atH f (hourOf f t).toNat).length : Int))) then some (air f (hourOf f t).toNat n.toNat, true, ()) else none else none) = _
    rw [d1, cond_true, d2, cond_true]
    rfl

end Go.Proofs.Ytmmdjajebmihhaa.AM

/- Plainly: a wind is the same as itself. Conditions: none. -/
namespace Go.Proofs.Ytmmdjajebmihhaa.AM
open Go Go.Proofs
set_option linter.unusedVariables false

/-- What a comparison with itself says of a double. -/
theorem same_self (s : Nat) (h : feq .f64 s 0 = true → feq .f64 (farith .quo .f64 4607182418800017408 s) (farith .quo .f64 4607182418800017408 s) = true) : F65 (s, s, ()) = some (true, ()) := by
  unfold F65 r65
  dsimp only
  cases h1 : feq .f64 s s with
  | false => rfl
  | true =>
    cases h2 : feq .f64 s 0 with
    | false => rfl
    | true =>
      simp only [Bool.not_true, cond_false, cond_true, h h2]

theorem read_zero : Ieee.double.read 0 = .number false 0 (-1074) := by decide
theorem zero_read {s : Nat} (h : feq .f64 s 0 = true) : ∃ g e, Ieee.double.read s = .number g 0 e := by
  have o : FloatKind.f64.format.order s 0 = (Ieee.double.read s).order (Ieee.double.read 0) := rfl
  unfold feq at h
  rw [o, read_zero] at h
  cases hr : Ieee.double.read s with
  | nan a b => rw [hr] at h; simp [Ieee.Datum.order] at h
  | infinity a => rw [hr] at h; cases a <;> simp [Ieee.Datum.order] at h
  | number g m e =>
    rw [hr] at h
    simp only [Ieee.Datum.order, beq_iff_eq, Option.some.injEq, Int.compare_eq_ite_lt] at h
    have h0 : Ieee.signed g m (e - min e (-1074)).toNat = 0 := by
      have hz : Ieee.signed false 0 (-1074 - min e (-1074)).toNat = 0 := by simp [Ieee.signed]
      rw [hz] at h
      by_cases h1 : Ieee.signed g m (e - min e (-1074)).toNat < 0
      · rw [if_pos h1] at h; cases h
      · rw [if_neg h1] at h
        by_cases h2 : 0 < Ieee.signed g m (e - min e (-1074)).toNat
        · rw [if_pos h2] at h; cases h
        · omega
    have hm : m = 0 := by
      unfold Ieee.signed at h0
      rw [Nat.shiftLeft_eq] at h0
      have h1 : m * 2 ^ (e - min e (-1074)).toNat = 0 := by
        cases g
        · simp only [Bool.false_eq_true, if_false] at h0; omega
        · simp only [if_true] at h0; omega
      rcases Nat.mul_eq_zero.1 h1 with h2 | h2
      · exact h2
      · have := Nat.two_pow_pos (e - min e (-1074)).toNat; omega
    subst hm
    exact ⟨g, e, rfl⟩

theorem quo_zero {s : Nat} (h : feq .f64 s 0 = true) : feq .f64 (farith .quo .f64 4607182418800017408 s) (farith .quo .f64 4607182418800017408 s) = true := by
  obtain ⟨g, e, hr⟩ := zero_read h
  have h1 : ∃ m i, Ieee.double.read 4607182418800017408 = .number false m i ∧ m ≠ 0 := ⟨2 ^ 52, -52, by decide, by decide⟩
  obtain ⟨m, i, h1, hm⟩ := h1
  have e1 : FloatKind.f64.format.div 4607182418800017408 s = some (Ieee.double.write (.infinity g)) := by
    show ((Ieee.double.read 4607182418800017408).quotient _ (Ieee.double.read s)).map Ieee.double.write = _
    rw [hr, h1]
    simp [Ieee.Datum.quotient, hm]
  have e2 : farith .quo .f64 4607182418800017408 s = Ieee.double.write (.infinity g) := by
    show (FloatKind.f64.format.div 4607182418800017408 s).getD _ = _
    rw [e1]; rfl
  rw [e2]
  cases g <;> decide

theorem F65_eq (s : Nat) : F65 (s, s, ()) = some (true, ()) := same_self s quo_zero
theorem F24_eq (c : Nat × Nat) : F24 (c, c, ()) = some (true, ()) := by
  have e1 : F65 (c.1, c.1, ()) = some (true, ()) := F65_eq _
  have e2 : F65 (c.2, c.2, ()) = some (true, ()) := F65_eq _
  unfold F24 r24
  simp only [K65, G65, e1, e2, Option.isSome_some, Option.getD_some, cond_true]
theorem F13_eq (c : Nat × Nat) : F13 (c, c, ()) = some (true, ()) := by
  have e1 := F24_eq ((convF FloatKind.f32 FloatKind.f64 c.1).snd, (convF FloatKind.f32 FloatKind.f64 c.2).snd)
  unfold F13 r13
  simp only [K24, G24, e1, Option.isSome_some, Option.getD_some, cond_true]

end Go.Proofs.Ytmmdjajebmihhaa.AM

/- Plainly: doubles: what a word reads as, orders. Conditions: those that each lemma names. -/
namespace Go.Proofs.Ytmmdjajebmihhaa.AM
open Go Go.Proofs
set_option linter.unusedVariables false

theorem d_sw : Ieee.double.signWeight = 2 ^ 63 := by decide
theorem d_inf : Ieee.double.infRung = 2047 * 2 ^ 52 := by decide
theorem d_bin : Ieee.double.binade = 2 ^ 52 := by decide
theorem d_lp : Ieee.double.leastPlace = -1074 := by decide
theorem d_fb : Ieee.double.fractionBits = 52 := by decide

theorem readD_word (neg : Bool) (K e : Nat) (h1 : e * 2 ^ 52 + K < 2047 * 2 ^ 52) (h2 : (e = 0 ∧ K ≤ 2 ^ 53) ∨ (2 ^ 52 ≤ K ∧ K ≤ 2 ^ 53)) :
    ∃ (m : Nat) (c : Nat), Ieee.double.read (Ieee.double.word neg (e * 2 ^ 52 + K)) = .number neg m ((c : Int) - 1074) ∧ m * 2 ^ c = K * 2 ^ e := by
  have hr : Ieee.double.word neg (e * 2 ^ 52 + K) % Ieee.double.signWeight = e * 2 ^ 52 + K := by
    unfold Ieee.Format.word
    rw [d_sw]
    split <;> omega
  have hn : (Ieee.double.word neg (e * 2 ^ 52 + K) / Ieee.double.signWeight % 2 == 1) = neg := by
    unfold Ieee.Format.word
    rw [d_sw]
    cases neg
    · rw [if_neg (by decide)]
      have : (e * 2 ^ 52 + K) / 2 ^ 63 = 0 := Nat.div_eq_of_lt (by omega)
      rw [this]; rfl
    · rw [if_pos rfl]
      have : (2 ^ 63 + (e * 2 ^ 52 + K)) / 2 ^ 63 = 1 := by omega
      rw [this]; rfl
  unfold Ieee.Format.read
  dsimp only
  rw [hr, hn, d_bin, d_inf, d_lp]
  by_cases c1 : e * 2 ^ 52 + K < 2 ^ 52
  · rw [if_pos c1]
    have : e = 0 := by omega
    subst this
    exact ⟨K, 0, by simp, by simp⟩
  · rw [if_neg c1, if_pos h1]
    by_cases c2 : K < 2 ^ 52
    · exfalso; omega
    by_cases c3 : K = 2 ^ 53
    · have e1 : (e * 2 ^ 52 + K) / 2 ^ 52 = e + 2 := by omega
      have e2 : (e * 2 ^ 52 + K) % 2 ^ 52 = 0 := by omega
      rw [e1, e2]
      refine ⟨2 ^ 52, e + 1, ?_, ?_⟩
      · rw [show ((-1074 : Int) + ((e + 2 - 1 : Nat) : Int)) = ((e + 1 : Nat) : Int) - 1074 by omega, Nat.add_zero]
      · rw [c3, ← Nat.pow_add, ← Nat.pow_add]
        congr 1
        omega
    · have e1 : (e * 2 ^ 52 + K) / 2 ^ 52 = e + 1 := by omega
      have e2 : (e * 2 ^ 52 + K) % 2 ^ 52 = K - 2 ^ 52 := by omega
      rw [e1, e2]
      refine ⟨K, e, ?_, rfl⟩
      rw [show ((-1074 : Int) + ((e + 1 - 1 : Nat) : Int)) = ((e : Nat) : Int) - 1074 by omega, show 2 ^ 52 + (K - 2 ^ 52) = K by omega]

/-- A number's value, in units of the least place. -/
def VU (s : Bool) (m c : Nat) : Int := if s then -((m * 2 ^ c : Nat) : Int) else ((m * 2 ^ c : Nat) : Int)
def isD (b : Nat) (v : Int) : Prop := ∃ (s : Bool) (m c : Nat), Ieee.double.read b = .number s m ((c : Int) - 1074) ∧ v = VU s m c

theorem signed_V (s : Bool) (m c d : Nat) (h : d ≤ c) : Ieee.signed s m (c - d) * ((2 ^ d : Nat) : Int) = VU s m c := by
  have e : m * 2 ^ (c - d) * 2 ^ d = m * 2 ^ c := by rw [Nat.mul_assoc, ← Nat.pow_add]; congr 2; omega
  unfold Ieee.signed VU
  rw [Nat.shiftLeft_eq]
  split
  · rw [Int.neg_mul, ← Int.natCast_mul, e]
  · rw [← Int.natCast_mul, e]

theorem cmp_mul (a b k : Int) (hk : 0 < k) : compare (a * k) (b * k) = compare a b := by
  have h1 : a * k < b * k ↔ a < b := Int.mul_lt_mul_right hk
  have h2 : b * k < a * k ↔ b < a := Int.mul_lt_mul_right hk
  rw [Int.compare_eq_ite_lt, Int.compare_eq_ite_lt]
  simp only [h1, h2]

theorem order_V (s t : Bool) (m n c d : Nat) : Ieee.Datum.order (.number s m ((c : Int) - 1074)) (.number t n ((d : Int) - 1074)) = some (compare (VU s m c) (VU t n d)) := by
  unfold Ieee.Datum.order
  dsimp only
  have e1 : (((c : Int) - 1074) - min ((c : Int) - 1074) ((d : Int) - 1074)).toNat = c - min c d := by omega
  have e2 : (((d : Int) - 1074) - min ((c : Int) - 1074) ((d : Int) - 1074)).toNat = d - min c d := by omega
  rw [e1, e2, ← signed_V s m c (min c d) (Nat.min_le_left _ _), ← signed_V t n d (min c d) (Nat.min_le_right _ _), cmp_mul]
  exact Int.natCast_pos.2 (Nat.two_pow_pos _)

theorem ordD {a b : Nat} {x y : Int} (ha : isD a x) (hb : isD b y) : FloatKind.f64.format.order a b = some (compare x y) := by
  obtain ⟨s, m, c, h1, rfl⟩ := ha
  obtain ⟨t, n, d, h2, rfl⟩ := hb
  show (Ieee.double.read a).order (Ieee.double.read b) = _
  rw [h1, h2]
  exact order_V s t m n c d


end Go.Proofs.Ytmmdjajebmihhaa.AM

/- Plainly: amounts of doubles; places and legs that are valid: both sides ask the same. Conditions: those that each lemma names. -/
namespace Go.Proofs.Ytmmdjajebmihhaa.AM
open Go Go.Proofs
set_option linter.unusedVariables false

/-! ## A double without its sign -/

def absD (d : Ieee.Datum) : Ieee.Datum := match d with
  | .number _ m e => .number false m e
  | .infinity _ => .infinity false
  | .nan _ f => .nan false f

theorem read_abs (a : Nat) : Ieee.double.read (a % 2 ^ 63) = absD (Ieee.double.read a) := by
  unfold Ieee.Format.read
  dsimp only
  rw [d_sw]
  have e1 : a % 2 ^ 63 % 2 ^ 63 = a % 2 ^ 63 := Nat.mod_mod _ _
  have e2 : (a % 2 ^ 63 / 2 ^ 63 % 2 == 1) = false := by
    have : a % 2 ^ 63 / 2 ^ 63 = 0 := Nat.div_eq_of_lt (Nat.mod_lt _ (by decide))
    rw [this]; rfl
  rw [e1, e2]
  split
  · rfl
  · split
    · rfl
    · split <;> rfl

theorem read_neg (a : Nat) : Ieee.double.read (fneg .f64 a) = (Ieee.double.read a).opposite := by
  have hf : fneg .f64 a = a ^^^ 2 ^ 63 := rfl
  rw [hf]
  unfold Ieee.Format.read
  dsimp only
  rw [d_sw]
  have e1 : (a ^^^ 2 ^ 63) % 2 ^ 63 = a % 2 ^ 63 := by rw [Nat.xor_mod_two_pow, Nat.mod_self, Nat.xor_zero]
  have e2 : ((a ^^^ 2 ^ 63) / 2 ^ 63 % 2 == 1) = !(a / 2 ^ 63 % 2 == 1) := by
    rw [Nat.xor_div_two_pow, Nat.div_self (by decide)]
    have h1 : (a / 2 ^ 63 ^^^ 1) % 2 = (a / 2 ^ 63 % 2) ^^^ 1 := by
      have := Nat.xor_mod_two_pow (a := a / 2 ^ 63) (b := 1) (n := 1)
      simpa using this
    rw [h1]
    rcases Nat.mod_two_eq_zero_or_one (a / 2 ^ 63) with h | h <;> rw [h] <;> rfl
  rw [e1, e2]
  split
  · rfl
  · split
    · rfl
    · split <;> rfl

def amtD (a : Nat) : Nat := bif flt .f64 a 0 then fneg .f64 a else a

theorem amt_order (a c : Nat) : FloatKind.f64.format.order (amtD a) c = FloatKind.f64.format.order (a % 2 ^ 63) c := by
  show (Ieee.double.read (amtD a)).order (Ieee.double.read c) = (Ieee.double.read (a % 2 ^ 63)).order (Ieee.double.read c)
  rw [read_abs]
  have h0 : flt .f64 a 0 = ((Ieee.double.read a).order (Ieee.double.read 0) == some .lt) := rfl
  unfold amtD
  rw [h0, read_zero]
  generalize Ieee.double.read c = d
  cases hr : Ieee.double.read a with
  | nan s f =>
    have : ((Ieee.Datum.nan s f).order (.number false 0 (-1074)) == some Ordering.lt) = false := rfl
    rw [this, cond_false, hr]
    cases d <;> rfl
  | infinity s =>
    cases s with
    | true =>
      have : ((Ieee.Datum.infinity true).order (.number false 0 (-1074)) == some Ordering.lt) = true := rfl
      rw [this, cond_true, read_neg, hr]
      rfl
    | false =>
      have : ((Ieee.Datum.infinity false).order (.number false 0 (-1074)) == some Ordering.lt) = false := rfl
      rw [this, cond_false, hr]
      rfl
  | number s m e =>
    cases s with
    | false =>
      have h1 : ((Ieee.Datum.number false m e).order (.number false 0 (-1074)) == some Ordering.lt) = false := by
        unfold Ieee.Datum.order Ieee.signed
        simp only [Bool.false_eq_true, if_false, Nat.zero_shiftLeft]
        have : ∀ x : Nat, (some (compare ((x : Nat) : Int) ((0 : Nat) : Int)) == some Ordering.lt) = false := by
          intro x
          rw [Int.compare_eq_ite_lt, if_neg (by omega)]
          split <;> rfl
        exact this _
      rw [h1, cond_false, hr]
      rfl
    | true =>
      cases h1 : ((Ieee.Datum.number true m e).order (.number false 0 (-1074)) == some Ordering.lt) with
      | true => rw [cond_true, read_neg, hr]; rfl
      | false =>
        rw [cond_false, hr]
        have hm : m = 0 := by
          unfold Ieee.Datum.order Ieee.signed at h1
          simp only [if_true, Bool.false_eq_true, if_false, Nat.zero_shiftLeft, Nat.shiftLeft_eq] at h1
          rcases Nat.eq_zero_or_pos m with h | h
          · exact h
          · exfalso
            have hp := Nat.mul_pos h (Nat.two_pow_pos (e - min e (-1074)).toNat)
            rw [Int.compare_eq_ite_lt, if_pos (by omega)] at h1
            cases h1
        subst hm
        unfold absD
        cases d with
        | number t n j =>
          unfold Ieee.Datum.order Ieee.signed
          simp
        | infinity t => rfl
        | nan t f => rfl

def le8 (a : Nat) : Bool := flt .f64 a 4726483295884279808 || feq .f64 a 4726483295884279808
theorem le8_amt (a : Nat) : le8 (amtD a) = le8 (a % 2 ^ 63) := by
  unfold le8 flt feq
  rw [amt_order]

def vecB (z : Nat × Nat) : Bool := le8 (z.1 % 2 ^ 63) && le8 (z.2 % 2 ^ 63)
theorem F41_eq (z : Nat × Nat) : F41 (z, ()) = some (vecB z, ()) := by
  unfold F41 r41 vecB
  simp only [K79, G79, cond_true]
  show (bif le8 (z.1 % 2 ^ 63) then some (le8 (z.2 % 2 ^ 63), ()) else some (false, ())) = _
  cases le8 (z.1 % 2 ^ 63) <;> rfl
theorem F64_eq (a : Nat) : F64 (a, ()) = some (amtD a, ()) := by
  unfold F64 r64 amtD
  cases flt .f64 a 0 <;> rfl
theorem F22_eq (z : Nat × Nat) : F22 (z, ()) = some (vecB z, ()) := by
  unfold F22 r22 vecB
  have e1 : F64 (z.1, ()) = some (amtD z.1, ()) := F64_eq z.1
  have e2 : F64 (z.2, ()) = some (amtD z.2, ()) := F64_eq z.2
  simp only [K64, G64, e1, e2, Option.isSome_some, Option.getD_some, cond_true]
  show (bif le8 (amtD z.1) then some (le8 (amtD z.2), ()) else some (false, ())) = _
  rw [le8_amt, le8_amt]
  cases le8 (z.1 % 2 ^ 63) <;> rfl

/-! ## Legs -/

abbrev LegT : Type := Int × Nat × Int × Unit
def paceB (x : Nat) : Bool := (fgt .f32 x 0 || feq .f32 x 0) && (flt .f32 x 1112014848 || feq .f32 x 1112014848)
def legB (g : LegT) : Bool := paceB g.2.1 && inB g.2.2.1 0 100000
theorem F109_eq (x : Nat) : F109 (x, ()) = some (paceB x, ()) := by
  unfold F109 r109 paceB
  show (bif (fgt .f32 x 0 || feq .f32 x 0) then some ((flt .f32 x 1112014848 || feq .f32 x 1112014848), ()) else some (false, ())) = _
  cases (fgt .f32 x 0 || feq .f32 x 0) <;> rfl
theorem F92_eq (g : LegT) : F92 (g, ()) = some (legB g, ()) := by
  have e1 : F109 (g.2.1, ()) = some (paceB g.2.1, ()) := F109_eq _
  have e2 : F48 (g.2.2.1, 0, 100000, ()) = some (inB g.2.2.1 0 100000, ()) := F48_eq _ _ _
  unfold F92 r92 legB
  simp only [K109, G109, e1, K48, G48, e2, Option.isSome_some, Option.getD_some, cond_true]
  cases paceB g.2.1 <;> rfl
theorem F23_eq (g : LegT) : F23 (g, ()) = some (legB g, ()) := by
  have e2 : F39 (g.2.2.1, 0, 100000, ()) = some (inB g.2.2.1 0 100000, ()) := F39_eq _ _ _
  unfold F23 r23 legB paceB
  simp only [K39, G39, e2, Option.isSome_some, Option.getD_some, cond_true]
  show (bif (fgt .f32 g.2.1 0 || feq .f32 g.2.1 0) then (bif (flt .f32 g.2.1 1112014848 || feq .f32 g.2.1 1112014848) then some (inB g.2.2.1 0 100000, ()) else some (false, ())) else some (false, ())) = _
  cases (fgt .f32 g.2.1 0 || feq .f32 g.2.1 0) <;> cases (flt .f32 g.2.1 1112014848 || feq .f32 g.2.1 1112014848) <;> rfl

def atG (l : List LegT) (i : Nat) : LegT := l.getD i (0, 0, 0, ())
def legsB (l : List LegT) : Bool := allFrom (fun i => legB (atG l i)) 0 l.length && decide ((l.length : Int) ≤ 50)
theorem F62_eq (l : List LegT) (h : l.length ≤ 51) : F62 (l, ()) = some (legsB l, ()) := by
  have hl : l62_2 ((l, l, (l.length : Int), (0 : Int), ()), ()) = some (bif allFrom (fun i => legB (atG l i)) 0 l.length then .inl ((l, ()), ()) else .inr ((false, ()), ())) := by
    refine (iter_allB (q := q62_2 K92 G92) (fun k => ((l, l, (l.length : Int), (k : Int), ()), ())) l.length (fun i => legB (atG l i)) _ _ ?_ ?_ _ ?_ : _)
    · intro k f hk
      unfold q62_2
      have e1 : decide ((k : Int) < (l.length : Int)) = true := by simpa using hk
      have e2 : decide (0 ≤ (k : Int)) = true := by simp
      have ha : List.getD l k (zero S53) = atG l k := rfl
      have e3 : F92 (atG l k, ()) = some (legB (atG l k), ()) := F92_eq _
      simp only [w64n k (by omega), e1, e2, Bool.and_self, cond_true, Int.toNat_natCast, ha, K92, G92, e3, Option.isSome_some, Option.getD_some]
      cases legB (atG l k) <;> rfl
    · intro f
      simp [q62_2]
    · simp only [b62_2]; omega
  unfold F62 r62 legsB
  simp only [kL62_2, tL62_2, yL62_2, xL62_2, hl, Option.isSome_some, cond_true]
  cases allFrom (fun i => legB (atG l i)) 0 l.length <;> rfl

end Go.Proofs.Ytmmdjajebmihhaa.AM

/- Plainly: legs of no seconds; the law FnTideStill, in plain terms. Conditions: none. -/
namespace Go.Proofs.Ytmmdjajebmihhaa.AM
open Go Go.Proofs
set_option linter.unusedVariables false

def kTru (y : Den (.cons .bool .nil)) : Option Unit := bif y.1 then some () else none
theorem kTru_ok : ∀ y, kTru y = some () → y = (true, ()) := by
  rintro ⟨b, _⟩ h
  cases b
  · cases h
  · rfl
theorem F7_all (x : Den A7) : F7 x = some (decide ((x.1.length : Int) > 1048576), ()) := rfl

def idle (g : LegT) : LegT := (g.1, g.2.1, 0, ())
theorem idle_at (l : List LegT) (k : Nat) (h : k < l.length) : atG (l.map idle) k = idle (atG l k) := by
  unfold atG
  rw [List.getD_eq_getElem?_getD, List.getD_eq_getElem?_getD, List.getElem?_map, List.getElem?_eq_getElem h]
  rfl
theorem idle_step (l : List LegT) (k : Nat) (h : k < l.length) : (l.mapIdx fun i g => if i < k then idle g else g).set k (idle (atG l k)) = l.mapIdx fun i g => if i < k + 1 then idle g else g := by
  apply List.ext_getElem?
  intro j
  rw [List.getElem?_set, List.getElem?_mapIdx, List.getElem?_mapIdx, List.length_mapIdx]
  by_cases e : k = j
  · subst e
    rw [if_pos rfl, if_pos h, List.getElem?_eq_getElem h]
    unfold atG
    rw [List.getD_eq_getElem?_getD, List.getElem?_eq_getElem h]
    simp
  · rw [if_neg e]
    cases l[j]? with
    | none => rfl
    | some g =>
      simp only [Option.map_some]
      by_cases h1 : j < k
      · rw [if_pos h1, if_pos (by omega)]
      · rw [if_neg h1, if_neg (by omega)]
theorem idle_get (l : List LegT) (k : Nat) (h : k < l.length) : ((l.mapIdx fun i g => if i < k then idle g else g).getD k (zero S53)) = atG l k := by
  unfold atG
  rw [List.getD_eq_getElem?_getD, List.getD_eq_getElem?_getD, List.getElem?_mapIdx, List.getElem?_eq_getElem h]
  simp

/-- All legs are set to no seconds. -/
theorem idle_loop (p : Nat × Nat) (t : Int) (l : List LegT) (td : Den S48) (h : l.length ≤ 51) : l5_5 ((p, t, (), (), 0, ()), l, td, ()) = some ((p, t, (), (), ()), l.map idle, td, ()) := by
  obtain ⟨st, hs, _⟩ := td
  have h0 : l = l.mapIdx fun i g => if i < 0 then idle g else g := by
    apply List.ext_getElem?
    intro j
    rw [List.getElem?_mapIdx]
    cases l[j]? <;> simp
  have h1 : l.map idle = l.mapIdx fun i g => if i < l.length then idle g else g := by
    apply List.ext_getElem?
    intro j
    rw [List.getElem?_mapIdx, List.getElem?_map]
    by_cases hj : j < l.length
    · rw [List.getElem?_eq_getElem hj, Option.map_some, Option.map_some, if_pos hj]
    · rw [List.getElem?_eq_none (by omega)]; rfl
  have e : ((p, t, (), (), ((0 : Nat) : Int), ()), (l.mapIdx fun i g => if i < 0 then idle g else g), (st, hs, ()), ()) = (((p, t, (), (), (0 : Int), ()), l, (st, hs, ()), ()) : V5_5) := by rw [← h0]; rfl
  have key : ∀ m, l.length < m → iter (q5_5 K7 G7 K20 G20 K21 G21 K22 G22 K23 G23 K24 G24) m ((p, t, (), (), (0 : Int), ()), l, (st, hs, ()), ()) = some ((p, t, (), (), ()), l.map idle, (st, hs, ()), ()) := by
    intro m hm
    rw [← e, h1]
    refine iter_all (q := q5_5 K7 G7 K20 G20 K21 G21 K22 G22 K23 G23 K24 G24) (fun k => ((p, t, (), (), (k : Int), ()), (l.mapIdx fun i g => if i < k then idle g else g), (st, hs, ()), ())) l.length
      ((p, t, (), (), ()), (l.mapIdx fun i g => if i < l.length then idle g else g), (st, hs, ()), ()) ?_ ?_ m hm
    · intro k f hk
      unfold q5_5
      have e1 : decide ((k : Int) < ((l.mapIdx fun i g => if i < k then idle g else g).length : Int)) = true := by rw [List.length_mapIdx]; simpa using hk
      have e2 : decide (0 ≤ (k : Int)) = true := by simp
      have e3 := idle_get l k hk
      have e4 := idle_step l k hk
      simp only [w64n k (by omega), e1, e2, Bool.and_self, cond_true, Int.toNat_natCast, e3]
      rw [← e4]
      rfl
    · intro f
      unfold q5_5
      have e1 : decide ((l.length : Int) < ((l.mapIdx fun i g => if i < l.length then idle g else g).length : Int)) = false := by rw [List.length_mapIdx]; simp
      simp only [e1, cond_false]
  unfold l5_5
  refine key _ ?_
  unfold b5_5
  simp only []
  omega

/-- A leg of no seconds is not sailed. -/
theorem no_leg (v : V21_7) (h : v.1.2.2.2.2.1 = 0) : l21_7 v = some (.inl ((v.1.1, v.1.2.1, (), v.1.2.2.2.2.2), v.2.1, ())) := by
  obtain ⟨⟨p, t, _, _, s, ls, n, i, _⟩, ⟨st, hs, _⟩, g, _⟩ := v
  have h : s = 0 := h
  subst h
  have hb : 0 < b21_7 ((p, t, (), (), 0, ls, n, i, ()), (st, hs, ()), g, ()) := by unfold b21_7; omega
  unfold l21_7
  obtain ⟨m, hm⟩ : ∃ m, b21_7 ((p, t, (), (), 0, ls, n, i, ()), (st, hs, ()), g, ()) = m + 1 := ⟨_, (Nat.succ_pred_eq_of_pos hb).symm⟩
  rw [hm]
  show q21_7 _ _ _ _ _ _ _ _ _ _ = _
  unfold q21_7
  rfl

theorem tide_loop (p : Nat × Nat) (t : Int) (l : List LegT) (td : Den S48) (h : l.length ≤ 51) : l21_4 ((p, t, (), l.map idle, ((l.map idle).length : Int), 0, ()), td, ()) = some (.inl ((p, ()), ())) := by
  obtain ⟨st, hs, _⟩ := td
  refine (iter_all (q := q21_4 K41 G41 K62 G62 K28 G28 K63 G63 kL21_7 xL21_7 tL21_7 yL21_7) (fun k => ((p, t, (), l.map idle, ((l.map idle).length : Int), (k : Int), ()), (st, hs, ()), ())) (l.map idle).length (.inl ((p, ()), ())) ?_ ?_ _ ?_ : _)
  · intro k f hk
    have hk' : k < l.length := by rw [List.length_map] at hk; exact hk
    have e1 : decide ((k : Int) < ((l.map idle).length : Int)) = true := by simpa using hk'
    have e2 : decide (0 ≤ (k : Int)) = true := by simp
    have ha : List.getD (l.map idle) k (zero S53) = idle (atG l k) := idle_at l k hk'
    have e3 := no_leg ((p, t, (), (), (idle (atG l k)).2.2.1, l.map idle, ((l.map idle).length : Int), (k : Int), ()), (st, hs, ()), idle (atG l k), ()) rfl
    have e4 : kL21_7 ((p, t, (), (), (idle (atG l k)).2.2.1, l.map idle, ((l.map idle).length : Int), (k : Int), ()), (st, hs, ()), idle (atG l k), ()) = true := by unfold kL21_7; rw [e3]; rfl
    have e5 : tL21_7 ((p, t, (), (), (idle (atG l k)).2.2.1, l.map idle, ((l.map idle).length : Int), (k : Int), ()), (st, hs, ()), idle (atG l k), ()) = false := by unfold tL21_7; rw [e3]; rfl
    have e6 : xL21_7 ((p, t, (), (), (idle (atG l k)).2.2.1, l.map idle, ((l.map idle).length : Int), (k : Int), ()), (st, hs, ()), idle (atG l k), ()) = ((p, t, (), l.map idle, ((l.map idle).length : Int), (k : Int), ()), (st, hs, ()), ()) := by unfold xL21_7; rw [e3]; rfl
    unfold q21_4
    simp only [e1, e2, Bool.and_self, cond_true, Int.toNat_natCast, ha]
    rw [e4, cond_true, e5, cond_false, e6]
    simp only [w64n k (by omega)]
  · intro f
    unfold q21_4
    have e1 : decide (((l.map idle).length : Int) < ((l.map idle).length : Int)) = false := by simp
    simp only [e1, cond_false]
  · unfold b21_4
    show (l.map idle).length < _
    simp only []
    omega

theorem F21_eq (p : Nat × Nat) (t : Int) (l : List LegT) (td : Den S48) (h : l.length ≤ 51) : F21 (p, t, l.map idle, td, ()) = some (bif vecB p && legsB (l.map idle) then (p, true, ()) else ((0, 0), false, ())) := by
  have e1 : F41 (p, ()) = some (vecB p, ()) := F41_eq p
  have e2 : F62 (l.map idle, ()) = some (legsB (l.map idle), ()) := F62_eq _ (by rw [List.length_map]; exact h)
  have e3 := tide_loop p t l td h
  unfold F21 r21
  simp only [K41, G41, e1, K62, G62, e2, Option.isSome_some, Option.getD_some, cond_true]
  cases vecB p
  · rfl
  · cases legsB (l.map idle)
    · rfl
    · simp only [Bool.not_true, cond_false, kL21_4, tL21_4, xL21_4]
      rw [e3]
      rfl

theorem all_loop (p q : Nat × Nat) (ok b : Bool) (l : List LegT) (h : l.length ≤ 51) : l5_11 ((p, (), q, ok, b, 0, ()), l, ()) = some ((p, q, ok, b && allFrom (fun i => legB (atG l i)) 0 l.length, ()), ()) := by
  have gen : ∀ (n k : Nat) (b : Bool) (m : Nat), k + n = l.length → n < m → iter (q5_11 K7 G7 K20 G20 K21 G21 K22 G22 K23 G23 K24 G24) m ((p, (), q, ok, b, (k : Int), ()), l, ()) = some ((p, q, ok, b && allFrom (fun i => legB (atG l i)) k n, ()), ()) := by
    intro n
    induction n with
    | zero =>
      intro k b m hk hm
      obtain ⟨m', rfl⟩ : ∃ m', m = m' + 1 := ⟨m - 1, by omega⟩
      show q5_11 _ _ _ _ _ _ _ _ _ _ _ _ _ _ = _
      unfold q5_11
      have e1 : decide ((k : Int) < (l.length : Int)) = false := by simp; omega
      simp only [e1, cond_false, allFrom, Bool.and_true]
    | succ n ih =>
      intro k b m hk hm
      obtain ⟨m', rfl⟩ : ∃ m', m = m' + 1 := ⟨m - 1, by omega⟩
      show q5_11 _ _ _ _ _ _ _ _ _ _ _ _ (iter _ m') _ = _
      have hk' : k < l.length := by omega
      have e1 : decide ((k : Int) < (l.length : Int)) = true := by simpa using hk'
      have e2 : decide (0 ≤ (k : Int)) = true := by simp
      have ha : List.getD l k (zero S53) = atG l k := rfl
      have e3 : F23 (atG l k, ()) = some (legB (atG l k), ()) := F23_eq _
      generalize hF : iter (q5_11 K7 G7 K20 G20 K21 G21 K22 G22 K23 G23 K24 G24) m' = F
      unfold q5_11
      cases b with
      | false =>
        simp only [e1, cond_true, cond_false, w64n k (by omega), Bool.false_and]
        rw [← hF]
        have := ih (k + 1) false m' (by omega) (by omega)
        rw [Bool.false_and] at this
        exact this
      | true =>
        simp only [e1, e2, Bool.and_self, cond_true, Int.toNat_natCast, ha, K23, G23, e3, Option.isSome_some, Option.getD_some, w64n k (by omega), Bool.true_and, allFrom]
        rw [← hF]
        exact ih (k + 1) (legB (atG l k)) m' (by omega) (by omega)
  exact gen l.length 0 b _ (by omega) (by unfold b5_11; simp only []; omega)

set_option maxRecDepth 100000 in
theorem tideStill (x : Den A5) (w : Wf A5 x) : callN (Γ5 K7 G7 K20 G20 K21 G21 K22 G22 K23 G23 K24 G24 kL5_5 xL5_5 kL5_11 xL5_11) (N5 p20 Q20 e20) (bodyOf Try.f5) (decRH R5 kTru) (encA A5 x) [] = some () := by
  refine Eq.trans (evN5 _ _ _ _ _ _ _ _ _ _ _ _ _ _ _ _ _ _ _ kTru x) ?_
  unfold rN5
  simp only [K7, G7, F7_all, Option.isSome_some, Option.getD_some, cond_true]
  by_cases h0 : (x.1.length : Int) > 1048576
  · simp only [h0, decide_true, cond_true]; rfl
  simp only [h0, decide_false, cond_false]
  haveI := e20
  refine allK_intro fun g => ?_
  have hp : p20 (x, ()) = true := by show decide (x.1.length ≤ 1048576) = true; simp; omega
  have hq : (g.val (x, ())).2.1.length ≤ 51 := g.2 _ hp
  refine all_t hp ?_
  generalize g.val (x, ()) = d at *
  obtain ⟨⟨p, t, _, td, _⟩, l, _⟩ := d
  have hq : l.length ≤ 51 := hq
  have e5 := idle_loop p t l td hq
  have k5 : kL5_5 ((p, t, (), (), 0, ()), l, td, ()) = true := by unfold kL5_5; rw [e5]; rfl
  have x5 : xL5_5 ((p, t, (), (), 0, ()), l, td, ()) = ((p, t, (), (), ()), l.map idle, td, ()) := by unfold xL5_5; rw [e5]; rfl
  refine all_t k5 ?_
  rw [x5]
  have e21 := F21_eq p t l td hq
  have k21 : K21 (p, t, l.map idle, td, ()) = true := by unfold K21; rw [e21]; rfl
  have g21 : G21 (p, t, l.map idle, td, ()) = bif vecB p && legsB (l.map idle) then (p, true, ()) else ((0, 0), false, ()) := by unfold G21; rw [e21]; rfl
  refine all_t k21 ?_
  have hlen : (l.map idle).length ≤ 51 := by rw [List.length_map]; exact hq
  have z1 : feq FloatKind.f64 0 0 = true := by decide +kernel
  have e24 : F24 (p, p, ()) = some (true, ()) := F24_eq p
  have e22 : F22 (p, ()) = some (vecB p, ()) := F22_eq p
  simp only [g21, K22, G22, e22, Option.isSome_some, Option.getD_some, cond_true]
  have e11 := fun q ok b => all_loop p q ok b (l.map idle) hlen
  have k11 : ∀ q ok b, kL5_11 ((p, (), q, ok, b, 0, ()), l.map idle, ()) = true := fun q ok b => by unfold kL5_11; rw [e11]; rfl
  have x11 : ∀ q ok b, xL5_11 ((p, (), q, ok, b, 0, ()), l.map idle, ()) = ((p, q, ok, b && allFrom (fun i => legB (atG (l.map idle) i)) 0 (l.map idle).length, ()), ()) := fun q ok b => by unfold xL5_11; rw [e11]; rfl
  simp only [k11, x11, cond_true, K24, G24]
  unfold legsB
  by_cases h50 : ((l.map idle).length : Int) ≤ 50
  · simp only [h50, decide_true, cond_true, Bool.and_true]
    cases vecB p with
    | false => simp only [Bool.false_and, cond_false, beq_self_eq_true, cond_true, Bool.not_false, z1, Bool.and_self]; rfl
    | true =>
      cases allFrom (fun i => legB (atG (l.map idle) i)) 0 (l.map idle).length with
      | false => simp only [Bool.and_false, cond_false, beq_self_eq_true, cond_true, Bool.not_false, z1, Bool.and_self]; rfl
      | true => simp only [Bool.and_self, cond_true, beq_self_eq_true, Bool.not_true, cond_false, e24, Option.isSome_some, Option.getD_some]; rfl
  · simp only [h50, decide_false, cond_false, Bool.and_false, Bool.false_and, beq_self_eq_true, cond_true, Bool.not_false, z1, Bool.and_self]; rfl

end Go.Proofs.Ytmmdjajebmihhaa.AM

/- Plainly: tides: what both sides ask of them and tell of them is the same. Conditions: short lists. -/
namespace Go.Proofs.Ytmmdjajebmihhaa.AM
open Go Go.Proofs
set_option linter.unusedVariables false

def flows (s : Den S96) : List (Nat × Nat) := [s.snd.fst.fst, s.snd.fst.snd.fst, s.snd.fst.snd.snd.fst, s.snd.fst.snd.snd.snd.fst, s.snd.fst.snd.snd.snd.snd.fst, s.snd.fst.snd.snd.snd.snd.snd.fst, s.snd.fst.snd.snd.snd.snd.snd.snd.fst, s.snd.fst.snd.snd.snd.snd.snd.snd.snd.fst, s.snd.fst.snd.snd.snd.snd.snd.snd.snd.snd.fst, s.snd.fst.snd.snd.snd.snd.snd.snd.snd.snd.snd.fst, s.snd.fst.snd.snd.snd.snd.snd.snd.snd.snd.snd.snd.fst, s.snd.fst.snd.snd.snd.snd.snd.snd.snd.snd.snd.snd.snd.fst, s.snd.fst.snd.snd.snd.snd.snd.snd.snd.snd.snd.snd.snd.snd.fst]
theorem flows_len (s : Den S96) : (flows s).length = 13 := rfl
theorem F77_all (l : List (Nat × Nat)) (h : l.length ≤ 13) : F77 (l, ()) = some (hourB l, ()) := by
  have hl : l77_2 ((l, (l.length : Int), (0 : Int), ()), ()) = some (bif hourB l then .inl ((), ()) else .inr ((false, ()), ())) := by
    refine (iter_allB (q := q77_2 K103 G103) (fun k => ((l, (l.length : Int), (k : Int), ()), ())) l.length (fun i => velB (atV l i)) _ _ ?_ ?_ _ ?_ : _)
    · intro k f hk
      unfold q77_2
      have e1 : decide ((k : Int) < (l.length : Int)) = true := by simpa using hk
      have e2 : decide (0 ≤ (k : Int)) = true := by simp
      have ha : List.getD l k (zero (Ty.cpx FloatKind.f32)) = atV l k := rfl
      have e3 : F103 (atV l k, ()) = some (velB (atV l k), ()) := F103_eq _
      simp only [w64n k (by omega), e1, e2, Bool.and_self, cond_true, Int.toNat_natCast, ha, K103, G103, e3, Option.isSome_some, Option.getD_some]
      cases velB (atV l k) <;> rfl
    · intro f
      simp [q77_2]
    · simp only [b77_2]; omega
  unfold F77 r77
  simp only [kL77_2, tL77_2, yL77_2, hl, Option.isSome_some, cond_true]
  cases hourB l <;> rfl

theorem F95_eq (s : Den S96) : F95 (s, ()) = some (hourB (flows s), ()) := by
  have hl : l95_2 (((), 0, ()), (s.fst, s.snd.fst), ()) = some (bif hourB (flows s) then .inl ((), ()) else .inr ((false, ()), ())) := by
    refine (iter_allB (q := q95_2 K78 G78) (fun k => (((), (k : Int), ()), (s.fst, s.snd.fst), ())) 13 (fun i => velB (atV (flows s) i)) _ _ ?_ ?_ _ ?_ : _)
    · intro k f hk
      unfold q95_2
      have e1 : decide ((k : Int) < 13) = true := by simp; omega
      have e2 : decide (0 ≤ (k : Int)) = true := by simp
      have e3 : F78 ((flows s).getD k (0, 0), ()) = some (velB (atV (flows s) k), ()) := F78_eq _
      generalize velB (atV (flows s) k) = b at e3 ⊢
      simp only [w64n k (by omega), e1, e2, Bool.and_self, cond_true, Int.toNat_natCast]
      unfold flows at e3
      simp only [K78, G78, e3, Option.isSome_some, Option.getD_some, cond_true]
      cases b <;> rfl
    · intro f
      rfl
    · simp only [b95_2]; omega
  unfold F95 r95
  simp only [kL95_2, tL95_2, yL95_2, hl, Option.isSome_some, cond_true]
  cases hourB (flows s) <;> rfl

def stAt (l : List (Den S96)) (i : Nat) : Den S96 := l.getD i (zero S96)
def hiAt (l : List Int) (i : Nat) : Int := l.getD i 0
def statB (s : Den S96) : Bool := vecB s.fst && hourB (flows s)
def highB (hs : List Int) (k : Nat) : Bool := inB (hiAt hs k) 0 10000000 && (decide (k = 0) || !decide (hiAt hs k < IntKind.i64.wrap (hiAt hs (k - 1) + 21600)))
def tideB (t : Den S48) : Bool := inB (t.1.length : Int) 1 20 && (inB (t.2.1.length : Int) 1 60 && (allFrom (fun i => statB (stAt t.1 i)) 0 t.1.length && allFrom (highB t.2.1) 0 t.2.1.length))

theorem F99_eq (t : Den S48) (h : TideG t) : F99 (t, ()) = some (tideB t, ()) := by
  obtain ⟨st, hs, _⟩ := t
  obtain ⟨h1, h2⟩ := h
  have h1 : st.length ≤ 21 := h1
  have h2 : hs.length ≤ 6 := h2
  have hl : l99_4 (((), st, (st.length : Int), 0, ()), (st, hs, ()), ()) = some (bif allFrom (fun i => statB (stAt st i)) 0 st.length then .inl (((), ()), (st, hs, ()), ()) else .inr ((false, ()), ())) := by
    refine (iter_allB (q := q99_4 K48 G48 K41 G41 K77 G77 K37 G37) (fun k => (((), st, (st.length : Int), (k : Int), ()), (st, hs, ()), ())) st.length (fun i => statB (stAt st i)) _ _ ?_ ?_ _ ?_ : _)
    · intro k f hk
      unfold q99_4
      have e1 : decide ((k : Int) < (st.length : Int)) = true := by simpa using hk
      have e2 : decide (0 ≤ (k : Int)) = true := by simp
      have ha : List.getD st k (zero S96) = stAt st k := rfl
      have e3 : F41 ((stAt st k).fst, ()) = some (vecB (stAt st k).fst, ()) := F41_eq _
      have e4 : F77 (flows (stAt st k), ()) = some (hourB (flows (stAt st k)), ()) := F77_all _ (by rw [flows_len]; decide)
      unfold statB
      simp only [w64n k (by omega), e1, e2, Bool.and_self, cond_true, Int.toNat_natCast, ha, K41, G41, e3, Option.isSome_some, Option.getD_some]
      unfold flows at e4 ⊢
      simp only [K77, G77, e4, Option.isSome_some, Option.getD_some]
      cases vecB (stAt st k).fst
      · rfl
      · cases hourB _ <;> rfl
    · intro f
      simp [q99_4]
    · simp only [b99_4]; omega
  have hl2 : l99_10 (((), hs, (hs.length : Int), 0, ()), (st, hs, ()), ()) = some (bif allFrom (highB hs) 0 hs.length then .inl ((), ()) else .inr ((false, ()), ())) := by
    refine (iter_allB (q := q99_10 K48 G48 K41 G41 K77 G77 K37 G37) (fun k => (((), hs, (hs.length : Int), (k : Int), ()), (st, hs, ()), ())) hs.length (highB hs) _ _ ?_ ?_ _ ?_ : _)
    · intro k f hk
      unfold q99_10
      have e1 : decide ((k : Int) < (hs.length : Int)) = true := by simpa using hk
      have e2 : decide (0 ≤ (k : Int)) = true := by simp
      have ha : ∀ i, List.getD hs i (zero (Ty.int IntKind.i64)) = hiAt hs i := fun _ => rfl
      have e3 : F37 (hiAt hs k, ()) = some (inB (hiAt hs k) 0 10000000, ()) := F37_eq _
      unfold highB
      simp only [w64n k (by omega), e1, e2, Bool.and_self, cond_true, Int.toNat_natCast, ha, K37, G37, e3, Option.isSome_some, Option.getD_some]
      cases inB (hiAt hs k) 0 10000000
      · rfl
      · cases k with
        | zero => rfl
        | succ k =>
          have e5 : IntKind.i64.wrap (((k + 1 : Nat) : Int) - 1) = (k : Int) := by rw [w64 (by omega) (by omega)]; omega
          have e6 : decide (((k + 1 : Nat) : Int) > 0) = true := decide_eq_true (by omega)
          have e7 : (decide (0 ≤ (k : Int)) && decide ((k : Int) < (hs.length : Int))) = true := by simp only [Bool.and_eq_true, decide_eq_true_eq]; omega
          simp only [e5, e6, e7, cond_true, Int.toNat_natCast, Bool.not_true, cond_false, Nat.add_sub_cancel, Bool.true_and]
          have e8 : decide (k + 1 = 0) = false := by simp
          rw [e8, Bool.false_or]
          cases decide (hiAt hs (k + 1) < IntKind.i64.wrap (hiAt hs k + 21600)) <;> rfl
    · intro f
      simp [q99_10]
    · simp only [b99_10]; omega
  have i1 : F48 ((st.length : Int), 1, 20, ()) = some (inB (st.length : Int) 1 20, ()) := F48_eq _ _ _
  have i2 : F48 ((hs.length : Int), 1, 60, ()) = some (inB (hs.length : Int) 1 60, ()) := F48_eq _ _ _
  unfold F99 r99 tideB
  simp only [K48, G48, i1, i2, Option.isSome_some, Option.getD_some, cond_true, kL99_4, tL99_4, xL99_4, yL99_4, hl]
  cases inB (st.length : Int) 1 20
  · rfl
  cases inB (hs.length : Int) 1 60
  · rfl
  cases allFrom (fun i => statB (stAt st i)) 0 st.length
  · rfl
  simp only [cond_true, isR, xOf, Bool.not_true, cond_false, kL99_10, tL99_10, yL99_10, hl2, Option.isSome_some]
  cases allFrom (highB hs) 0 hs.length <;> rfl

theorem F68_eq (t : Den S48) (h : TideG t) : F68 (t, ()) = some (tideB t, ()) := by
  obtain ⟨st, hs, _⟩ := t
  obtain ⟨h1, h2⟩ := h
  have h1 : st.length ≤ 21 := h1
  have h2 : hs.length ≤ 6 := h2
  have hl : l68_4 (((), 0, ()), (st, hs, ()), ()) = some (bif allFrom (fun i => statB (stAt st i)) 0 st.length then .inl (((), ()), (st, hs, ()), ()) else .inr ((false, ()), ())) := by
    refine (iter_allB (q := q68_4 K39 G39 K22 G22 K95 G95) (fun k => (((), (k : Int), ()), (st, hs, ()), ())) st.length (fun i => statB (stAt st i)) _ _ ?_ ?_ _ ?_ : _)
    · intro k f hk
      unfold q68_4
      have e1 : decide ((k : Int) < (st.length : Int)) = true := by simpa using hk
      have e2 : decide (0 ≤ (k : Int)) = true := by simp
      have ha : List.getD st k (zero S96) = stAt st k := rfl
      have e3 : F22 ((stAt st k).fst, ()) = some (vecB (stAt st k).fst, ()) := F22_eq _
      have e4 : F95 (stAt st k, ()) = some (hourB (flows (stAt st k)), ()) := F95_eq _
      unfold statB
      simp only [w64n k (by omega), e1, e2, Bool.and_self, cond_true, Int.toNat_natCast, ha, K22, G22, e3, K95, G95, e4, Option.isSome_some, Option.getD_some]
      cases vecB (stAt st k).fst
      · rfl
      · cases hourB _ <;> rfl
    · intro f
      simp [q68_4]
    · simp only [b68_4]; omega
  have hl2 : l68_9 (((), 0, ()), (st, hs, ()), ()) = some (bif allFrom (highB hs) 0 hs.length then .inl ((), ()) else .inr ((false, ()), ())) := by
    refine (iter_allB (q := q68_9 K39 G39 K22 G22 K95 G95) (fun k => (((), (k : Int), ()), (st, hs, ()), ())) hs.length (highB hs) _ _ ?_ ?_ _ ?_ : _)
    · intro k f hk
      unfold q68_9
      have e1 : decide ((k : Int) < (hs.length : Int)) = true := by simpa using hk
      have e2 : decide (0 ≤ (k : Int)) = true := by simp
      have ha : ∀ i, List.getD hs i (zero (Ty.int IntKind.i64)) = hiAt hs i := fun _ => rfl
      have e3 : F39 (hiAt hs k, 0, 10000000, ()) = some (inB (hiAt hs k) 0 10000000, ()) := F39_eq _ _ _
      unfold highB
      simp only [w64n k (by omega), e1, e2, Bool.and_self, cond_true, Int.toNat_natCast, ha, K39, G39, e3, Option.isSome_some, Option.getD_some]
      cases inB (hiAt hs k) 0 10000000
      · rfl
      · cases k with
        | zero => rfl
        | succ k =>
          have e5 : IntKind.i64.wrap (((k + 1 : Nat) : Int) - 1) = (k : Int) := by rw [w64 (by omega) (by omega)]; omega
          have e6 : decide (((k + 1 : Nat) : Int) > 0) = true := decide_eq_true (by omega)
          have e7 : (decide (0 ≤ (k : Int)) && decide ((k : Int) < (hs.length : Int))) = true := by simp only [Bool.and_eq_true, decide_eq_true_eq]; omega
          simp only [e5, e6, e7, cond_true, Int.toNat_natCast, Bool.not_true, cond_false, Nat.add_sub_cancel, Bool.true_and]
          have e8 : decide (k + 1 = 0) = false := by simp
          rw [e8, Bool.false_or]
          cases decide (hiAt hs (k + 1) < IntKind.i64.wrap (hiAt hs k + 21600)) <;> rfl
    · intro f
      simp [q68_9]
    · simp only [b68_9]; omega
  have i1 : F39 ((st.length : Int), 1, 20, ()) = some (inB (st.length : Int) 1 20, ()) := F39_eq _ _ _
  have i2 : F39 ((hs.length : Int), 1, 60, ()) = some (inB (hs.length : Int) 1 60, ()) := F39_eq _ _ _
  unfold F68 r68 tideB
  simp only [K39, G39, i1, i2, Option.isSome_some, Option.getD_some, cond_true, kL68_4, tL68_4, xL68_4, yL68_4, hl]
  cases inB (st.length : Int) 1 20
  · rfl
  cases inB (hs.length : Int) 1 60
  · rfl
  cases allFrom (fun i => statB (stAt st i)) 0 st.length
  · rfl
  simp only [cond_true, isR, xOf, Bool.not_true, cond_false, kL68_9, tL68_9, yL68_9, hl2, Option.isSome_some]
  cases allFrom (highB hs) 0 hs.length <;> rfl

end Go.Proofs.Ytmmdjajebmihhaa.AM

/- Plainly: the stream at a place and a time is the same on both sides. Conditions: short lists. -/
namespace Go.Proofs.Ytmmdjajebmihhaa.AM
open Go Go.Proofs
set_option linter.unusedVariables false

/-! ## The nearest station -/

def farTo (z p : Nat × Nat) : Nat :=
  farith .add .f64 (farith .mul .f64 (farith .sub .f64 z.1 p.1) (farith .sub .f64 z.1 p.1)) (farith .mul .f64 (farith .sub .f64 z.2 p.2) (farith .sub .f64 z.2 p.2))
def nearNext (st : List (Den S96)) (p : Nat × Nat) (k : Nat) (a : Int × Nat) : (Int × Nat) ⊕ ((Int × Unit) × Unit) :=
  bif decide (a.1 < 0) then .inl ((k : Int), farTo (stAt st k).fst p) else bif flt .f64 (farTo (stAt st k).fst p) a.2 then .inl ((k : Int), farTo (stAt st k).fst p) else .inl a
def nearR (st : List (Den S96)) (p : Nat × Nat) : (Int × Unit) × Unit := accFrom (nearNext st p) (fun a => ((a.1, ()), ())) 0 st.length (-1, 0)
def nearV (t : Den S48) (p : Nat × Nat) : Int := bif tideB t && vecB p then (nearR t.1 p).1.1 else -1

theorem near_in (st : List (Den S96)) (p : Nat × Nat) : ∀ (n k : Nat) (a : Int × Nat), (a.1 = -1 ∧ k = 0 ∨ 0 ≤ a.1 ∧ a.1 < (k : Int)) → (((accFrom (nearNext st p) (fun a => ((a.1, ()), ())) k n a).1.1 : Int) = -1 ∧ k + n = 0) ∨ 0 ≤ ((accFrom (nearNext st p) (fun a => ((a.1, ()), ())) k n a).1.1 : Int) ∧ ((accFrom (nearNext st p) (fun a => ((a.1, ()), ())) k n a).1.1 : Int) < ((k + n : Nat) : Int)
  | 0, k, a, h => by
    show ((a.1 : Int) = -1 ∧ k + 0 = 0) ∨ 0 ≤ a.1 ∧ a.1 < ((k + 0 : Nat) : Int)
    rcases h with ⟨h1, h2⟩ | h
    · exact .inl ⟨h1, h2⟩
    · exact .inr ⟨h.1, by omega⟩
  | n + 1, k, a, h => by
    simp only [accFrom]
    have e : k + (n + 1) = k + 1 + n := by omega
    rw [e]
    unfold nearNext
    by_cases h1 : a.1 < 0
    · rw [show decide (a.1 < 0) = true by simpa using h1, cond_true]
      exact near_in st p n (k + 1) _ (.inr ⟨by show (0 : Int) ≤ (k : Int); omega, by show (k : Int) < ((k + 1 : Nat) : Int); omega⟩)
    · rw [show decide (a.1 < 0) = false by simpa using h1, cond_false]
      cases flt .f64 (farTo (stAt st k).fst p) a.2 with
      | true => exact near_in st p n (k + 1) _ (.inr ⟨by show (0 : Int) ≤ (k : Int); omega, by show (k : Int) < ((k + 1 : Nat) : Int); omega⟩)
      | false =>
        refine near_in st p n (k + 1) _ (.inr ?_)
        rcases h with ⟨h2, _⟩ | h
        · omega
        · exact ⟨h.1, by omega⟩

theorem F71_eq (t : Den S48) (p : Nat × Nat) (h : TideG t) : F71 (t, p, ()) = some (nearV t p, ()) := by
  have e1 : F99 (t, ()) = some (tideB t, ()) := F99_eq t h
  have e2 : F41 (p, ()) = some (vecB p, ()) := F41_eq p
  obtain ⟨st, hs, _⟩ := t
  obtain ⟨h1, h2⟩ := h
  have h1 : st.length ≤ 21 := h1
  have hl : l71_5 ((p, -1, 0, st, (st.length : Int), 0, ()), ()) = some (nearR st p) := by
    refine (iter_acc (q := q71_5 K99 G99 K41 G41 K42 G42 K43 G43) (fun k (a : Int × Nat) => ((p, a.1, a.2, st, (st.length : Int), (k : Int), ()), ())) st.length (nearNext st p) (fun a => ((a.1, ()), ())) ?_ ?_ _ st.length 0 (-1, 0) (by omega) ?_ : _)
    · intro k a f hk
      unfold q71_5
      have d1 : decide ((k : Int) < (st.length : Int)) = true := by simpa using hk
      have d2 : decide (0 ≤ (k : Int)) = true := by simp
      have ha : List.getD st k (zero S96) = stAt st k := rfl
      have e3 : F42 ((stAt st k).fst, p, ()) = some ((farith .sub .f64 (stAt st k).fst.1 p.1, farith .sub .f64 (stAt st k).fst.2 p.2), ()) := rfl
      have e4 : F43 ((farith .sub .f64 (stAt st k).fst.1 p.1, farith .sub .f64 (stAt st k).fst.2 p.2), (farith .sub .f64 (stAt st k).fst.1 p.1, farith .sub .f64 (stAt st k).fst.2 p.2), ()) = some (farTo (stAt st k).fst p, ()) := rfl
      unfold nearNext
      simp only [w64n k (by omega), d1, d2, Bool.and_self, cond_true, Int.toNat_natCast, ha, K42, G42, e3, K43, G43, e4, Option.isSome_some, Option.getD_some]
      cases decide (a.1 < 0)
      · cases flt .f64 (farTo (stAt st k).fst p) a.2 <;> rfl
      · rfl
    · intro a f
      simp [q71_5]
    · simp only [b71_5]; omega
  unfold F71 r71 nearV
  simp only [K99, G99, e1, K41, G41, e2, Option.isSome_some, Option.getD_some, cond_true, kL71_5, xL71_5, hl]
  cases tideB (st, hs, ())
  · rfl
  · cases vecB p <;> rfl

theorem F96_eq (t : Den S48) (p : Nat × Nat) (h : TideG t) : F96 (t, p, ()) = some (nearV t p, ()) := by
  have e1 : F68 (t, ()) = some (tideB t, ()) := F68_eq t h
  have e2 : F22 (p, ()) = some (vecB p, ()) := F22_eq p
  obtain ⟨st, hs, _⟩ := t
  obtain ⟨h1, h2⟩ := h
  have h1 : st.length ≤ 21 := h1
  have hl : l96_6 ((p, (), -1, 0, 0, ()), (st, hs, ()), ()) = some (nearR st p) := by
    refine (iter_acc (q := q96_6 K68 G68 K22 G22 K81 G81) (fun k (a : Int × Nat) => ((p, (), a.1, a.2, (k : Int), ()), (st, hs, ()), ())) st.length (nearNext st p) (fun a => ((a.1, ()), ())) ?_ ?_ _ st.length 0 (-1, 0) (by omega) ?_ : _)
    · intro k a f hk
      unfold q96_6
      have d1 : decide ((k : Int) < (st.length : Int)) = true := by simpa using hk
      have d2 : decide (0 ≤ (k : Int)) = true := by simp
      have ha : List.getD st k (zero S96) = stAt st k := rfl
      have e4 : F81 ((farith .sub .f64 (stAt st k).fst.1 p.1, farith .sub .f64 (stAt st k).fst.2 p.2), (farith .sub .f64 (stAt st k).fst.1 p.1, farith .sub .f64 (stAt st k).fst.2 p.2), ()) = some (farTo (stAt st k).fst p, ()) := rfl
      unfold nearNext
      simp only [w64n k (by omega), d1, d2, Bool.and_self, cond_true, Int.toNat_natCast, ha, K81, G81, e4, Option.isSome_some, Option.getD_some]
      cases decide (a.1 < 0)
      · cases flt .f64 (farTo (stAt st k).fst p) a.2 <;> rfl
      · rfl
    · intro a f
      simp [q96_6]
    · simp only [b96_6]; omega
  unfold F96 r96 nearV
  simp only [K68, G68, e1, K22, G22, e2, Option.isSome_some, Option.getD_some, cond_true, kL96_6, xL96_6, hl]
  cases tideB (st, hs, ())
  · rfl
  · cases vecB p <;> rfl

/-! ## The nearest high water -/

def awayI (a b : Int) : Int := bif decide (a > b) then a - b else b - a
def hiNext (hs : List Int) (t : Int) (k : Nat) (b : Int) : Int ⊕ ((Int × Unit) × Unit) := .inl (bif decide (awayI (hiAt hs k) t < awayI (hiAt hs b.toNat) t) then (k : Int) else b)
def hiR (hs : List Int) (t : Int) : (Int × Unit) × Unit := accFrom (hiNext hs t) (fun b => ((b, ()), ())) 0 hs.length 0
def hiV (td : Den S48) (t : Int) : Int := bif tideB td && inB t 0 10000000 then (hiR td.2.1 t).1.1 else -1

theorem hi_range {st : List (Den S96)} {hs : List Int} {u : Unit} (h : tideB (st, hs, u) = true) : 1 ≤ st.length ∧ 1 ≤ hs.length ∧ ∀ i, i < hs.length → 0 ≤ hiAt hs i ∧ hiAt hs i ≤ 10000000 := by
  unfold tideB at h
  simp only [Bool.and_eq_true] at h
  obtain ⟨h1, h2, h3, h4⟩ := h
  simp only [inB, Bool.and_eq_true, decide_eq_true_eq] at h1 h2
  refine ⟨by omega, by omega, fun i hi => ?_⟩
  have := allFrom_iff.1 h4 i (Nat.zero_le _) (by omega)
  unfold highB at this
  simp only [Bool.and_eq_true, inB, decide_eq_true_eq] at this
  exact this.1
theorem stat_ok {st : List (Den S96)} {hs : List Int} {u : Unit} (h : tideB (st, hs, u) = true) {i : Nat} (hi : i < st.length) : statB (stAt st i) = true := by
  unfold tideB at h
  simp only [Bool.and_eq_true] at h
  exact allFrom_iff.1 h.2.2.1 i (Nat.zero_le _) (by omega)

theorem hi_in (hs : List Int) (t : Int) : ∀ (n k : Nat) (b : Int), 0 ≤ b → (b < (k : Int) ∨ b = 0) → 0 ≤ ((accFrom (hiNext hs t) (fun b => ((b, ()), ())) k n b).1.1 : Int) ∧ (((accFrom (hiNext hs t) (fun b => ((b, ()), ())) k n b).1.1 : Int) < ((k + n : Nat) : Int) ∨ ((accFrom (hiNext hs t) (fun b => ((b, ()), ())) k n b).1.1 : Int) = 0)
  | 0, k, b, h0, h => ⟨h0, by rcases h with h | h; exact .inl (by show b < ((k + 0 : Nat) : Int); omega); exact .inr h⟩
  | n + 1, k, b, h0, h => by
    simp only [accFrom]
    have e : k + (n + 1) = k + 1 + n := by omega
    rw [e]
    unfold hiNext
    cases decide (awayI (hiAt hs k) t < awayI (hiAt hs b.toNat) t) with
    | true => exact hi_in hs t n (k + 1) (k : Int) (by omega) (.inl (by omega))
    | false => exact hi_in hs t n (k + 1) b h0 (by rcases h with h | h; exact .inl (by omega); exact .inr h)

theorem away_max (a b : Int) : imax (b - a) (a - b) = awayI a b := by
  unfold imax awayI
  by_cases h : a > b
  · rw [show decide (a > b) = true by simpa using h, cond_true, if_pos (by omega)]
  · rw [show decide (a > b) = false by simpa using h, cond_false]
    by_cases h2 : a - b > b - a
    · omega
    · rw [if_neg h2]

theorem F100_eq (st : List (Den S96)) (hs : List Int) (t i : Int) (hi : 0 ≤ i ∧ i < (hs.length : Int)) (ht : 0 ≤ t ∧ t ≤ 10000000) (hh : 0 ≤ hiAt hs i.toNat ∧ hiAt hs i.toNat ≤ 10000000) :
    F100 ((i, (), (), ()), t, (st, hs, ()), ()) = some ((awayI (hiAt hs i.toNat) t, ()), (t, (st, hs, ()), ())) := by
  have d1 : (decide (0 ≤ i) && decide (i < (hs.length : Int))) = true := by simp only [Bool.and_eq_true, decide_eq_true_eq]; exact hi
  have ha : List.getD hs i.toNat (zero (Ty.int IntKind.i64)) = hiAt hs i.toNat := rfl
  unfold F100 r100
  simp only [d1, cond_true, ha]
  rw [w64 (x := t - hiAt hs i.toNat) (by omega) (by omega), w64 (x := hiAt hs i.toNat - t) (by omega) (by omega), away_max]

theorem F72_eq (td : Den S48) (t : Int) (h : TideG td) : F72 (td, t, ()) = some (hiV td t, ()) := by
  have e1 : F99 (td, ()) = some (tideB td, ()) := F99_eq td h
  have e2 : F37 (t, ()) = some (inB t 0 10000000, ()) := F37_eq t
  obtain ⟨st, hs, _⟩ := td
  obtain ⟨_, h2⟩ := h
  have h2 : hs.length ≤ 6 := h2
  unfold F72 r72 hiV
  simp only [K99, G99, e1, K37, G37, e2, Option.isSome_some, Option.getD_some, cond_true]
  cases hb : tideB (st, hs, ())
  · rfl
  cases ht : inB t 0 10000000
  · rfl
  obtain ⟨_, r2, r3⟩ := hi_range hb
  simp only [inB, Bool.and_eq_true, decide_eq_true_eq] at ht
  have hl : l72_6 (((), 0, (hs.length : Int), 0, ()), (t, ()), (st, hs, ()), ()) = some (hiR hs t) := by
    refine (iter_accI (q := q72_6 K99 G99 K37 G37 K100 G100) (fun k (b : Int) => (((), b, (hs.length : Int), (k : Int), ()), (t, ()), (st, hs, ()), ())) hs.length (hiNext hs t) (fun b => ((b, ()), ())) (fun k b => 0 ≤ b ∧ b < (hs.length : Int)) ?_ ?_ ?_ _ hs.length 0 0 (by omega) ?_ ⟨Int.le_refl 0, by omega⟩ : _)
    · intro k b f hk hb0
      unfold q72_6
      have d1 : decide ((k : Int) < (hs.length : Int)) = true := by simpa using hk
      have e3 : F100 (((k : Int), (), (), ()), t, (st, hs, ()), ()) = some ((awayI (hiAt hs k) t, ()), (t, (st, hs, ()), ())) := F100_eq st hs t k ⟨by omega, by omega⟩ ht (r3 k hk)
      have e4 : F100 ((b, (), (), ()), t, (st, hs, ()), ()) = some ((awayI (hiAt hs b.toNat) t, ()), (t, (st, hs, ()), ())) := F100_eq st hs t b hb0 ht (r3 _ (by omega))
      unfold hiNext
      simp only [w64n k (by omega), d1, cond_true, K100, G100, e3, e4, Option.isSome_some, Option.getD_some]
      cases decide (awayI (hiAt hs k) t < awayI (hiAt hs b.toNat) t) <;> rfl
    · intro k b b' hk hb0 hn
      unfold hiNext at hn
      have hn := Sum.inl.inj hn
      subst hn
      cases decide (awayI (hiAt hs k) t < awayI (hiAt hs b.toNat) t) with
      | true => exact ⟨by show (0 : Int) ≤ (k : Int); omega, by show (k : Int) < _; omega⟩
      | false => exact hb0
    · intro b f _
      simp [q72_6]
    · simp only [b72_6]; omega
  simp only [kL72_6, xL72_6, hl, Option.isSome_some, Option.getD_some, cond_true, Bool.not_true, cond_false, Bool.and_self]

theorem F97_eq (td : Den S48) (t : Int) (h : TideG td) : F97 (td, t, ()) = some (hiV td t, ()) := by
  have e1 : F68 (td, ()) = some (tideB td, ()) := F68_eq td h
  have e2 : F39 (t, 0, 10000000, ()) = some (inB t 0 10000000, ()) := F39_eq _ _ _
  obtain ⟨st, hs, _⟩ := td
  obtain ⟨_, h2⟩ := h
  have h2 : hs.length ≤ 6 := h2
  unfold F97 r97 hiV
  simp only [K68, G68, e1, K39, G39, e2, Option.isSome_some, Option.getD_some, cond_true]
  cases hb : tideB (st, hs, ())
  · rfl
  cases ht : inB t 0 10000000
  · rfl
  obtain ⟨_, r2, r3⟩ := hi_range hb
  simp only [inB, Bool.and_eq_true, decide_eq_true_eq] at ht
  have hA : ∀ a : Int, 0 ≤ a ∧ a ≤ 10000000 → F112 (a, t, ()) = some (awayI a t, ()) := by
    intro a ha
    unfold F112 r112 awayI
    simp only []
    rw [w64 (x := a - t) (by omega) (by omega), w64 (x := t - a) (by omega) (by omega)]
    cases decide (a > t) <;> rfl
  have hfirst : hiR hs t = accFrom (hiNext hs t) (fun b => ((b, ()), ())) 1 (hs.length - 1) 0 := by
    unfold hiR
    obtain ⟨m, hm⟩ : ∃ m, hs.length = m + 1 := ⟨hs.length - 1, by omega⟩
    rw [hm]
    simp only [accFrom]
    unfold hiNext
    have : decide (awayI (hiAt hs 0) t < awayI (hiAt hs (0 : Int).toNat) t) = false := by simp
    rw [this]
    rfl
  have hl : l97_5 ((t, (), 0, 1, ()), (st, hs, ()), ()) = some (hiR hs t) := by
    rw [hfirst]
    refine (iter_accI (q := q97_5 K68 G68 K39 G39 K112 G112) (fun k (b : Int) => ((t, (), b, (k : Int), ()), (st, hs, ()), ())) hs.length (hiNext hs t) (fun b => ((b, ()), ())) (fun k b => 0 ≤ b ∧ b < (hs.length : Int)) ?_ ?_ ?_ _ (hs.length - 1) 1 0 (by omega) ?_ ⟨Int.le_refl 0, by omega⟩ : _)
    · intro k b f hk hb0
      unfold q97_5
      have d1 : decide ((k : Int) < (hs.length : Int)) = true := by simpa using hk
      have d2 : decide (0 ≤ (k : Int)) = true := by simp
      have d3 : (decide (0 ≤ b) && decide (b < (hs.length : Int))) = true := by simp only [Bool.and_eq_true, decide_eq_true_eq]; exact hb0
      have ha : ∀ i, List.getD hs i (zero (Ty.int IntKind.i64)) = hiAt hs i := fun _ => rfl
      have e3 := hA _ (r3 k hk)
      have e4 := hA _ (r3 b.toNat (by omega))
      unfold hiNext
      simp only [w64n k (by omega), d1, d2, d3, Bool.and_self, cond_true, Int.toNat_natCast, ha, K112, G112, e3, e4, Option.isSome_some, Option.getD_some]
      cases decide (awayI (hiAt hs k) t < awayI (hiAt hs b.toNat) t) <;> rfl
    · intro k b b' hk hb0 hn
      unfold hiNext at hn
      have hn := Sum.inl.inj hn
      subst hn
      cases decide (awayI (hiAt hs k) t < awayI (hiAt hs b.toNat) t) with
      | true => exact ⟨by show (0 : Int) ≤ (k : Int); omega, by show (k : Int) < _; omega⟩
      | false => exact hb0
    · intro b f _
      simp [q97_5]
    · simp only [b97_5]; omega
  simp only [kL97_5, xL97_5, hl, Option.isSome_some, Option.getD_some, cond_true, Bool.not_true, cond_false, Bool.and_self]

end Go.Proofs.Ytmmdjajebmihhaa.AM

/- Plainly: the stream at a place and a time, both sides. Conditions: short lists. -/
namespace Go.Proofs.Ytmmdjajebmihhaa.AM
open Go Go.Proofs
set_option linter.unusedVariables false

def clampV (x : Int) : Int := bif decide (x < -21600) then -21600 else imin x 21600
theorem clamp_in (x : Int) : -21600 ≤ clampV x ∧ clampV x ≤ 21600 := by
  unfold clampV imin
  by_cases h : x < -21600
  · rw [show decide (x < -21600) = true by simpa using h, cond_true]; omega
  · rw [show decide (x < -21600) = false by simpa using h, cond_false]
    split <;> omega
theorem F101_eq (x : Int) : F101 (x, -21600, 21600, ()) = some (clampV x, ()) := by
  unfold F101 r101 clampV
  have h : decide ((21600 : Int) < -21600) = false := by decide
  simp only [h, cond_false]
  cases decide (x < -21600) <;> rfl
theorem F113_eq (x : Int) : F113 (x, -21600, 21600, ()) = some (clampV x, ()) := by
  unfold F113 r113 clampV imin
  have h : decide ((21600 : Int) < -21600) = false := by decide
  simp only [h, cond_false]
  cases decide (x < -21600)
  · simp only [cond_false]
    by_cases h2 : x > 21600
    · rw [show decide (x > 21600) = true by simpa using h2, cond_true, if_pos (by omega)]
    · rw [show decide (x > 21600) = false by simpa using h2, cond_false, if_neg (by omega)]
  · rfl

def mixV (a b q : Nat) : Nat := farith .add .f32 a (farith .mul .f32 (farith .sub .f32 b a) q)
def share (r : Int) : Nat := farith .quo .f32 (FloatKind.nearest .f32 r) 1163984896
def mix2 (a b : Nat × Nat) (q : Nat) : Nat × Nat := (mixV a.1 b.1 q, mixV a.2 b.2 q)
def flowV (s : Den S96) (off : Int) : (Nat × Nat) × Bool × Unit :=
  bif !hourB (flows s) then ((0, 0), false, ()) else
    bif ((clampV off + 21600) % 3600 == 0) then (atV (flows s) ((clampV off + 21600) / 3600).toNat, true, ())
    else (mix2 (atV (flows s) ((clampV off + 21600) / 3600).toNat) (atV (flows s) ((clampV off + 21600) / 3600 + 1).toNat) (share ((clampV off + 21600) % 3600)), true, ())

theorem F73_eq (s : Den S96) (off : Int) : F73 (s, off, ()) = some (flowV s off) := by
  have e1 : F77 (flows s, ()) = some (hourB (flows s), ()) := F77_all _ (by rw [flows_len]; decide)
  have e2 : F101 (off, -21600, 21600, ()) = some (clampV off, ()) := F101_eq off
  have e3 : ∀ a b q : Nat, F102 (a, b, q, ()) = some (mixV a b q, ()) := fun _ _ _ => rfl
  obtain ⟨c1, c2⟩ := clamp_in off
  have hfl : [s.snd.fst.fst, s.snd.fst.snd.fst, s.snd.fst.snd.snd.fst, s.snd.fst.snd.snd.snd.fst, s.snd.fst.snd.snd.snd.snd.fst, s.snd.fst.snd.snd.snd.snd.snd.fst, s.snd.fst.snd.snd.snd.snd.snd.snd.fst, s.snd.fst.snd.snd.snd.snd.snd.snd.snd.fst, s.snd.fst.snd.snd.snd.snd.snd.snd.snd.snd.fst, s.snd.fst.snd.snd.snd.snd.snd.snd.snd.snd.snd.fst, s.snd.fst.snd.snd.snd.snd.snd.snd.snd.snd.snd.snd.fst, s.snd.fst.snd.snd.snd.snd.snd.snd.snd.snd.snd.snd.snd.fst, s.snd.fst.snd.snd.snd.snd.snd.snd.snd.snd.snd.snd.snd.snd.fst] = flows s := rfl
  have ha : ∀ i, List.getD (flows s) i (0, 0) = atV (flows s) i := fun _ => rfl
  unfold F73 r73 flowV
  simp only [hfl, K77, G77, e1, K101, G101, e2, Option.isSome_some, Option.getD_some, cond_true]
  generalize clampV off = c at *
  have w1 : IntKind.i64.wrap (c + 21600) = c + 21600 := w64 (by omega) (by omega)
  have t1 : Int.tmod (c + 21600) 3600 = (c + 21600) % 3600 := Int.tmod_eq_emod_of_nonneg (by omega)
  have t2 : Int.tdiv (c + 21600) 3600 = (c + 21600) / 3600 := Int.tdiv_eq_ediv_of_nonneg (by omega)
  have w2 : IntKind.i64.wrap ((c + 21600) / 3600) = (c + 21600) / 3600 := w64 (by omega) (by omega)
  have w3 : IntKind.i64.wrap ((c + 21600) / 3600 + 1) = (c + 21600) / 3600 + 1 := w64 (by omega) (by omega)
  have d1 : (decide (0 ≤ (c + 21600) / 3600) && decide ((c + 21600) / 3600 < 13)) = true := by simp only [Bool.and_eq_true, decide_eq_true_eq]; omega
  simp only [w1, t1, t2, w2, w3, d1, cond_true, ha]
  cases hourB (flows s)
  · rfl
  simp only [Bool.not_true, cond_false]
  by_cases hz : (c + 21600) % 3600 = 0
  · rw [show ((c + 21600) % 3600 == 0) = true by simpa using hz]
    rfl
  · have d2 : (decide (0 ≤ (c + 21600) / 3600 + 1) && decide ((c + 21600) / 3600 + 1 < 13)) = true := by simp only [Bool.and_eq_true, decide_eq_true_eq]; omega
    rw [show ((c + 21600) % 3600 == 0) = false by simpa using hz]
    simp only [cond_false, d2, cond_true, K102, G102, e3, Option.isSome_some, Option.getD_some]
    rfl

theorem F98_eq (s : Den S96) (off : Int) : F98 (s, off, ()) = some (flowV s off) := by
  have e1 : F95 (s, ()) = some (hourB (flows s), ()) := F95_eq s
  have e2 : F113 (off, -21600, 21600, ()) = some (clampV off, ()) := F113_eq off
  have e3 : ∀ a b q : Nat, F114 (a, b, q, ()) = some (mixV a b q, ()) := fun _ _ _ => rfl
  obtain ⟨c1, c2⟩ := clamp_in off
  have hfl : [s.snd.fst.fst, s.snd.fst.snd.fst, s.snd.fst.snd.snd.fst, s.snd.fst.snd.snd.snd.fst, s.snd.fst.snd.snd.snd.snd.fst, s.snd.fst.snd.snd.snd.snd.snd.fst, s.snd.fst.snd.snd.snd.snd.snd.snd.fst, s.snd.fst.snd.snd.snd.snd.snd.snd.snd.fst, s.snd.fst.snd.snd.snd.snd.snd.snd.snd.snd.fst, s.snd.fst.snd.snd.snd.snd.snd.snd.snd.snd.snd.fst, s.snd.fst.snd.snd.snd.snd.snd.snd.snd.snd.snd.snd.fst, s.snd.fst.snd.snd.snd.snd.snd.snd.snd.snd.snd.snd.snd.fst, s.snd.fst.snd.snd.snd.snd.snd.snd.snd.snd.snd.snd.snd.snd.fst] = flows s := rfl
  have ha : ∀ i, List.getD (flows s) i (0, 0) = atV (flows s) i := fun _ => rfl
  unfold F98 r98 flowV
  simp only [hfl, K95, G95, e1, K113, G113, e2, Option.isSome_some, Option.getD_some, cond_true]
  generalize clampV off = c at *
  have w1 : IntKind.i64.wrap (c + 21600) = c + 21600 := w64 (by omega) (by omega)
  have t1 : Int.tmod (c + 21600) 3600 = (c + 21600) % 3600 := Int.tmod_eq_emod_of_nonneg (by omega)
  have t2 : Int.tdiv (c + 21600) 3600 = (c + 21600) / 3600 := Int.tdiv_eq_ediv_of_nonneg (by omega)
  have w2 : IntKind.i64.wrap ((c + 21600) / 3600) = (c + 21600) / 3600 := w64 (by omega) (by omega)
  have w3 : IntKind.i64.wrap ((c + 21600) / 3600 + 1) = (c + 21600) / 3600 + 1 := w64 (by omega) (by omega)
  have d1 : (decide (0 ≤ (c + 21600) / 3600) && decide ((c + 21600) / 3600 < 13)) = true := by simp only [Bool.and_eq_true, decide_eq_true_eq]; omega
  simp only [w1, t1, t2, w2, w3, d1, cond_true, ha]
  cases hourB (flows s)
  · rfl
  simp only [Bool.not_true, cond_false]
  by_cases hz : (c + 21600) % 3600 = 0
  · rw [show ((c + 21600) % 3600 == 0) = true by simpa using hz]
    rfl
  · have d2 : (decide (0 ≤ (c + 21600) / 3600 + 1) && decide ((c + 21600) / 3600 + 1 < 13)) = true := by simp only [Bool.and_eq_true, decide_eq_true_eq]; omega
    rw [show ((c + 21600) % 3600 == 0) = false by simpa using hz]
    simp only [cond_false, d2, cond_true, K114, G114, e3, Option.isSome_some, Option.getD_some]
    rfl

def streamV (td : Den S48) (p : Nat × Nat) (t : Int) : (Nat × Nat) × Bool × Unit :=
  bif decide (nearV td p < 0) || decide (hiV td t < 0) then ((0, 0), false, ()) else flowV (stAt td.1 (nearV td p).toNat) (t - hiAt td.2.1 (hiV td t).toNat)

theorem near_lt {td : Den S48} {p : Nat × Nat} (h : ¬ nearV td p < 0) : tideB td = true ∧ vecB p = true ∧ 0 ≤ nearV td p ∧ nearV td p < (td.1.length : Int) := by
  unfold nearV at h ⊢
  cases hb : tideB td with
  | false => rw [hb] at h; exact absurd h (by simp)
  | true =>
    cases hp : vecB p with
    | false => rw [hb, hp] at h; exact absurd h (by simp)
    | true =>
      rw [hb, hp] at h
      simp only [Bool.and_self, cond_true] at h ⊢
      refine ⟨trivial, trivial, ?_⟩
      have := near_in td.1 p td.1.length 0 (-1, 0) (.inl ⟨rfl, rfl⟩)
      have e : accFrom (nearNext td.1 p) (fun a => ((a.1, ()), ())) 0 td.1.length (-1, 0) = nearR td.1 p := rfl
      rw [e, Nat.zero_add] at this
      omega
theorem hi_lt {td : Den S48} {t : Int} (h : ¬ hiV td t < 0) : tideB td = true ∧ (0 ≤ t ∧ t ≤ 10000000) ∧ 0 ≤ hiV td t ∧ hiV td t < (td.2.1.length : Int) := by
  obtain ⟨st, hs, _⟩ := td
  unfold hiV at h ⊢
  cases hb : tideB (st, hs, ()) with
  | false => rw [hb] at h; exact absurd h (by simp)
  | true =>
    cases ht : inB t 0 10000000 with
    | false => rw [hb, ht] at h; exact absurd h (by simp)
    | true =>
      rw [hb, ht] at h
      simp only [Bool.and_self, cond_true] at h ⊢
      simp only [inB, Bool.and_eq_true, decide_eq_true_eq] at ht
      refine ⟨trivial, ht, ?_⟩
      have h1 := (hi_range hb).2.1
      have := hi_in hs t hs.length 0 0 (Int.le_refl 0) (.inr rfl)
      have e : accFrom (hiNext hs t) (fun b => ((b, ()), ())) 0 hs.length 0 = hiR hs t := rfl
      rw [e, Nat.zero_add] at this
      omega

theorem F28_eq (td : Den S48) (p : Nat × Nat) (t : Int) (h : TideG td) : F28 (td, p, t, ()) = some (streamV td p t) := by
  have e1 : F71 (td, p, ()) = some (nearV td p, ()) := F71_eq td p h
  have e2 : F72 (td, t, ()) = some (hiV td t, ()) := F72_eq td t h
  unfold F28 r28 streamV
  simp only [K71, G71, e1, K72, G72, e2, Option.isSome_some, Option.getD_some, cond_true]
  by_cases h1 : nearV td p < 0
  · simp only [h1, decide_true, cond_true, Bool.true_or]
  by_cases h2 : hiV td t < 0
  · simp only [h1, h2, decide_true, decide_false, cond_true, cond_false, Bool.or_true]
  obtain ⟨_, _, n3, n4⟩ := near_lt h1
  obtain ⟨hb, ht, q3, q4⟩ := hi_lt h2
  have d1 : (decide (0 ≤ nearV td p) && decide (nearV td p < (td.1.length : Int))) = true := by simp only [Bool.and_eq_true, decide_eq_true_eq]; exact ⟨n3, n4⟩
  have d2 : (decide (0 ≤ hiV td t) && decide (hiV td t < (td.2.1.length : Int))) = true := by simp only [Bool.and_eq_true, decide_eq_true_eq]; exact ⟨q3, q4⟩
  obtain ⟨st, hs, _⟩ := td
  have r3 := (hi_range hb).2.2 (hiV (st, hs, ()) t).toNat (by have q4 : hiV (st, hs, ()) t < (hs.length : Int) := q4; have q3 : 0 ≤ hiV (st, hs, ()) t := q3; omega)
  have ha : ∀ i, List.getD hs i (zero (Ty.int IntKind.i64)) = hiAt hs i := fun _ => rfl
  have hs' : ∀ i, List.getD st i (zero S96) = stAt st i := fun _ => rfl
  have w1 : IntKind.i64.wrap (t - hiAt hs (hiV (st, hs, ()) t).toNat) = t - hiAt hs (hiV (st, hs, ()) t).toNat := w64 (by omega) (by omega)
  have e3 := F73_eq (stAt st (nearV (st, hs, ()) p).toNat) (t - hiAt hs (hiV (st, hs, ()) t).toNat)
  simp only [h1, h2, d1, d2, decide_false, cond_false, cond_true, Bool.or_self, ha, hs', w1, K73, G73, e3, Option.isSome_some, Option.getD_some]

theorem F69_eq (td : Den S48) (p : Nat × Nat) (t : Int) (h : TideG td) : F69 (td, p, t, ()) = some (streamV td p t) := by
  have e1 : F96 (td, p, ()) = some (nearV td p, ()) := F96_eq td p h
  have e2 : F97 (td, t, ()) = some (hiV td t, ()) := F97_eq td t h
  unfold F69 r69 streamV
  simp only [K96, G96, e1, K97, G97, e2, Option.isSome_some, Option.getD_some, cond_true]
  by_cases h1 : nearV td p < 0
  · simp only [h1, decide_true, cond_true, Bool.true_or]
  by_cases h2 : hiV td t < 0
  · simp only [h1, h2, decide_true, decide_false, cond_true, cond_false, Bool.or_true]
  obtain ⟨_, _, n3, n4⟩ := near_lt h1
  obtain ⟨hb, ht, q3, q4⟩ := hi_lt h2
  have d1 : (decide (0 ≤ nearV td p) && decide (nearV td p < (td.1.length : Int))) = true := by simp only [Bool.and_eq_true, decide_eq_true_eq]; exact ⟨n3, n4⟩
  have d2 : (decide (0 ≤ hiV td t) && decide (hiV td t < (td.2.1.length : Int))) = true := by simp only [Bool.and_eq_true, decide_eq_true_eq]; exact ⟨q3, q4⟩
  obtain ⟨st, hs, _⟩ := td
  have r3 := (hi_range hb).2.2 (hiV (st, hs, ()) t).toNat (by have q4 : hiV (st, hs, ()) t < (hs.length : Int) := q4; have q3 : 0 ≤ hiV (st, hs, ()) t := q3; omega)
  have ha : ∀ i, List.getD hs i (zero (Ty.int IntKind.i64)) = hiAt hs i := fun _ => rfl
  have hs' : ∀ i, List.getD st i (zero S96) = stAt st i := fun _ => rfl
  have w1 : IntKind.i64.wrap (t - hiAt hs (hiV (st, hs, ()) t).toNat) = t - hiAt hs (hiV (st, hs, ()) t).toNat := w64 (by omega) (by omega)
  have e3 := F98_eq (stAt st (nearV (st, hs, ()) p).toNat) (t - hiAt hs (hiV (st, hs, ()) t).toNat)
  simp only [h1, h2, d1, d2, decide_false, cond_false, cond_true, Bool.or_self, ha, hs', w1, K98, G98, e3, Option.isSome_some, Option.getD_some]

/-! ## Slack water -/

def le3 (a b : Nat) : Bool := flt .f32 a b || feq .f32 a b
def slackB (td : Den S48) (p : Nat × Nat) (m : Nat) (t : Int) : Bool := (streamV td p t).2.1 && (le3 (amt (streamV td p t).1.1) m && le3 (amt (streamV td p t).1.2) m)
def timeK (t : Int) (k : Nat) : Int := IntKind.i64.wrap (t + IntKind.i64.wrap (60 * (k : Int)))
def slackV (td : Den S48) (p : Nat × Nat) (t : Int) (m : Nat) : Int × Bool × Unit := match findFrom (fun k => slackB td p m (timeK t k)) 0 721 with
  | some k => (timeK t k, true, ())
  | none => (0, false, ())

theorem F26_eq (td : Den S48) (p : Nat × Nat) (t : Int) (m : Nat) (h : TideG td) : F26 (td, p, t, m, ()) = some (slackV td p t m) := by
  have hS := fun t => F28_eq td p t h
  obtain ⟨st, hs, _⟩ := td
  have hl : l26_2 ((p, t, m, (), 0, ()), (st, hs, ()), ()) = some (match findFrom (fun k => slackB (st, hs, ()) p m (timeK t k)) 0 721 with | some k => .inr ((timeK t k, true, ()), ()) | none => .inl ((), ())) := by
    refine (iter_find (q := q26_2 K28 G28 K67 G67) (fun k => ((p, t, m, (), (k : Int), ()), (st, hs, ()), ())) 721 (fun k => slackB (st, hs, ()) p m (timeK t k)) (.inl ((), ())) (fun k => .inr ((timeK t k, true, ()), ())) ?_ ?_ _ ?_ : _)
    · intro k f hk
      unfold q26_2 slackB
      have d1 : decide ((k : Int) ≤ 720) = true := by simp; omega
      have e0 : IntKind.i64.wrap (t + IntKind.i64.wrap (60 * (k : Int))) = timeK t k := rfl
      have e1 := hS (timeK t k)
      have e2 : ∀ a, F67 (a, ()) = some (amt a, ()) := F67_eq
      have e3 : ∀ a b, (flt FloatKind.f32 a b || feq FloatKind.f32 a b) = le3 a b := fun _ _ => rfl
      simp only [d1, cond_true, e0, K28, G28, e1, K67, G67, e2, e3, Option.isSome_some, Option.getD_some, w64n k (by omega)]
      generalize streamV (st, hs, ()) p (timeK t k) = y
      obtain ⟨v, ok, _⟩ := y
      cases ok
      · rfl
      · cases le3 (amt v.1) m
        · rfl
        · cases le3 (amt v.2) m <;> rfl
    · intro f
      simp [q26_2]
    · simp only [b26_2]; omega
  unfold F26 r26 slackV
  simp only [kL26_2, tL26_2, yL26_2, hl, Option.isSome_some, cond_true]
  cases findFrom (fun k => slackB (st, hs, ()) p m (timeK t k)) 0 721 <;> rfl

theorem F27_loop (td : Den S48) (p : Nat × Nat) (t : Int) (m : Nat) (h : TideG td) : l27_4 ((p, t, m, (), 0, ()), td, ()) = some (match findFrom (fun k => slackB td p m (timeK t k)) 0 721 with | some k => .inr ((timeK t k, true, ()), ()) | none => .inl ((), ())) := by
  have hS := fun t => F69_eq td p t h
  obtain ⟨st, hs, _⟩ := td
  refine (iter_find (q := q27_4 K68 G68 K22 G22 K39 G39 K69 G69 K70 G70) (fun k => ((p, t, m, (), (k : Int), ()), (st, hs, ()), ())) 721 (fun k => slackB (st, hs, ()) p m (timeK t k)) (.inl ((), ())) (fun k => .inr ((timeK t k, true, ()), ())) ?_ ?_ _ ?_ : _)
  · intro k f hk
    unfold q27_4 slackB
    have d1 : decide ((k : Int) ≤ 720) = true := by simp; omega
    have e0 : IntKind.i64.wrap (t + IntKind.i64.wrap (60 * (k : Int))) = timeK t k := rfl
    have e1 := hS (timeK t k)
    have e2 : ∀ a, F70 (a, ()) = some (amt a, ()) := F70_eq
    have e3 : ∀ a b, (flt FloatKind.f32 a b || feq FloatKind.f32 a b) = le3 a b := fun _ _ => rfl
    simp only [d1, cond_true, e0, K69, G69, e1, K70, G70, e2, e3, Option.isSome_some, Option.getD_some, w64n k (by omega)]
    generalize streamV (st, hs, ()) p (timeK t k) = y
    obtain ⟨v, ok, _⟩ := y
    cases ok
    · rfl
    · cases le3 (amt v.1) m
      · rfl
      · cases le3 (amt v.2) m <;> rfl
  · intro f
    simp [q27_4]
  · simp only [b27_4]; omega

theorem stream_off {td : Den S48} {p : Nat × Nat} {t : Int} (h : (streamV td p t).2.1 = true) : tideB td = true ∧ vecB p = true ∧ 0 ≤ t ∧ t ≤ 10000000 := by
  unfold streamV at h
  by_cases h1 : nearV td p < 0
  · rw [show decide (nearV td p < 0) = true by simpa using h1] at h
    cases h
  · by_cases h2 : hiV td t < 0
    · rw [show decide (hiV td t < 0) = true by simpa using h2, Bool.or_true] at h
      cases h
    · obtain ⟨a, b, _⟩ := near_lt h1
      obtain ⟨_, c, _⟩ := hi_lt h2
      exact ⟨a, b, c.1, c.2⟩
theorem slack_off {td : Den S48} {p : Nat × Nat} {m : Nat} {t : Int} (h : slackB td p m t = true) : tideB td = true ∧ vecB p = true ∧ 0 ≤ t ∧ t ≤ 10000000 := by
  unfold slackB at h
  simp only [Bool.and_eq_true] at h
  exact stream_off h.1
theorem timeK_in {t : Int} {k : Nat} (hk : k < 721) (h0 : -9223372036854775808 ≤ t ∧ t ≤ 9223372036854775807) (h : 0 ≤ timeK t k ∧ timeK t k ≤ 10000000) : timeK t k = t + 60 * (k : Int) := by
  unfold timeK at h ⊢
  rw [w64 (x := 60 * (k : Int)) (by omega) (by omega)] at h ⊢
  by_cases hb : t + 60 * (k : Int) ≤ 9223372036854775807
  · exact w64 (by omega) hb
  · exfalso
    rw [IntKind.wrap_i64] at h
    omega

theorem F27_ok (td : Den S48) (p : Nat × Nat) (t : Int) (m : Nat) (h : TideG td) (h0 : -9223372036854775808 ≤ t ∧ t ≤ 9223372036854775807) : ∃ y, F27 (td, p, t, m, ()) = some y ∧ y.2.1 = (slackV td p t m).2.1 := by
  have e1 : F68 (td, ()) = some (tideB td, ()) := F68_eq td h
  have e2 : F22 (p, ()) = some (vecB p, ()) := F22_eq p
  have e3 : F39 (t, -43260, 10000000, ()) = some (inB t (-43260) 10000000, ()) := F39_eq _ _ _
  have hl := F27_loop td p t m h
  have hno : (tideB td && (vecB p && inB t (-43260) 10000000)) = false → findFrom (fun k => slackB td p m (timeK t k)) 0 721 = none := by
    intro hf
    rw [findFrom_none]
    intro k _ hk
    cases hs : slackB td p m (timeK t k) with
    | false => rfl
    | true =>
      exfalso
      obtain ⟨a, b, c⟩ := slack_off hs
      have e := timeK_in (by omega) h0 c
      rw [e] at c
      rw [a, b] at hf
      simp only [Bool.true_and, inB, Bool.and_eq_false_iff, decide_eq_false_iff_not] at hf
      omega
  unfold F27 r27 slackV
  simp only [K68, G68, e1, K22, G22, e2, K39, G39, e3, Option.isSome_some, Option.getD_some, cond_true]
  cases hb : tideB td with
  | false => exact ⟨_, rfl, by rw [hno (by rw [hb]; rfl)]⟩
  | true =>
  cases hp : vecB p with
  | false => exact ⟨_, rfl, by rw [hno (by rw [hb, hp]; rfl)]⟩
  | true =>
  cases ht : inB t (-43260) 10000000 with
  | false => exact ⟨_, rfl, by rw [hno (by rw [hb, hp, ht]; rfl)]⟩
  | true =>
    simp only [Bool.not_true, cond_false, kL27_4, tL27_4, yL27_4, hl, Option.isSome_some, cond_true]
    cases findFrom (fun k => slackB td p m (timeK t k)) 0 721 with
    | none => exact ⟨_, rfl, rfl⟩
    | some k => exact ⟨_, rfl, rfl⟩

end Go.Proofs.Ytmmdjajebmihhaa.AM

/- Plainly: singles by their size; singles made doubles keep their order. Conditions: those that each lemma names. -/
namespace Go.Proofs.Ytmmdjajebmihhaa.AM
open Go Go.Proofs
set_option linter.unusedVariables false
set_option exponentiation.threshold 2000

theorem s_sw : Ieee.single.signWeight = 2 ^ 31 := by decide
theorem s_inf : Ieee.single.infRung = 255 * 2 ^ 23 := by decide
theorem s_bin : Ieee.single.binade = 2 ^ 23 := by decide
theorem s_lp : Ieee.single.leastPlace = -149 := by decide
theorem s_fb : Ieee.single.fractionBits = 23 := by decide

/-! ## Sizes -/

/-- A single is a number below a power of two. -/
def Sz (b : Nat) (N : Int) : Prop := ∃ s m e, Ieee.single.read b = .number s m e ∧ (m.log2 : Int) + e ≤ N ∧ -149 ≤ e
theorem Sz.mono {b : Nat} {N M : Int} (h : Sz b N) (hM : N ≤ M) : Sz b M := by
  obtain ⟨s, m, e, h1, h2, h3⟩ := h
  exact ⟨s, m, e, h1, by omega, h3⟩
def szB (b : Nat) (N : Int) : Bool := match Ieee.single.read b with
  | .number s m e => decide ((m.log2 : Int) + e ≤ N) && decide (-149 ≤ e)
  | _ => false
theorem szB_ok {b : Nat} {N : Int} (h : szB b N = true) : Sz b N := by
  unfold szB at h
  split at h
  · rename_i s m e hr
    simp only [Bool.and_eq_true, decide_eq_true_eq] at h
    exact ⟨s, m, e, hr, h.1, h.2⟩
  · cases h

theorem log2_le {M k : Nat} (h : M < 2 ^ (k + 1)) : M.log2 ≤ k := by
  rcases Nat.eq_zero_or_pos M with h0 | h0
  · subst h0; simp
  · have := Nat.log2_self_le (n := M) (by omega)
    have h2 := Nat.lt_of_le_of_lt this h
    have := (Nat.pow_lt_pow_iff_right (a := 2) (by decide)).1 h2
    omega

theorem cut_le (neg : Bool) (M d k : Nat) (h : M < 2 ^ (k + d)) : Ieee.Toward.even.cut neg M d ≤ 2 ^ k := by
  unfold Ieee.Toward.cut
  dsimp only
  rw [Nat.one_shiftLeft]
  by_cases hd : d ≤ M.log2 + 2
  · rw [Nat.min_eq_left hd]
    have h1 : M / 2 ^ d < 2 ^ k := by rw [Nat.div_lt_iff_lt_mul (Nat.two_pow_pos _), ← Nat.pow_add]; exact h
    generalize (decide (2 ^ d < 2 * (M % 2 ^ d)) || (2 ^ d == 2 * (M % 2 ^ d) && M / 2 ^ d % 2 == 1)) = b
    cases b <;> simp <;> omega
  · rw [Nat.min_eq_right (by omega)]
    have h0 : M < 2 ^ (M.log2 + 2) := Nat.lt_trans Nat.lt_log2_self (Nat.pow_lt_pow_right (by decide) (by omega))
    have h1 : M / 2 ^ (M.log2 + 2) = 0 := Nat.div_eq_of_lt h0
    rw [h1]
    have hk := Nat.two_pow_pos k
    generalize (decide (2 ^ (M.log2 + 2) < 2 * (M % 2 ^ (M.log2 + 2))) || (2 ^ (M.log2 + 2) == 2 * (M % 2 ^ (M.log2 + 2)) && 0 % 2 == 1)) = b
    cases b <;> simp <;> omega

theorem read_rung (neg : Bool) (r : Nat) (h : r < 255 * 2 ^ 23) : Ieee.single.read (Ieee.single.word neg r) = if r < 2 ^ 23 then .number neg r (-149) else .number neg (2 ^ 23 + r % 2 ^ 23) (-149 + ((r / 2 ^ 23 - 1 : Nat) : Int)) := by
  have hr : Ieee.single.word neg r % Ieee.single.signWeight = r := by
    unfold Ieee.Format.word
    rw [s_sw]
    split <;> omega
  have hn : (Ieee.single.word neg r / Ieee.single.signWeight % 2 == 1) = neg := by
    unfold Ieee.Format.word
    rw [s_sw]
    cases neg
    · rw [if_neg (by decide)]
      have : r / 2 ^ 31 = 0 := Nat.div_eq_of_lt (by omega)
      rw [this]; rfl
    · rw [if_pos rfl]
      have : (2 ^ 31 + r) / 2 ^ 31 = 1 := by omega
      rw [this]; rfl
  unfold Ieee.Format.read
  dsimp only
  rw [hr, hn, s_bin, s_inf, s_lp]
  by_cases c : r < 2 ^ 23
  · rw [if_pos c, if_pos c]
  · rw [if_neg c, if_neg c, if_pos h]

theorem near_sz (neg : Bool) (M : Nat) (p N : Int) (h : (M.log2 : Int) + p ≤ N) (hN : N ≤ 126) (hN2 : -126 ≤ N) : Sz (Ieee.single.nearest neg M p) (N + 1) := by
  have fin : ∀ r : Nat, (r : Int) ≤ (N + 126) * 2 ^ 23 + 2 ^ 24 → Sz (Ieee.single.word neg r) (N + 1) := by
    intro r hr
    have hlt : r < 255 * 2 ^ 23 := by omega
    have := read_rung neg r hlt
    by_cases c : r < 2 ^ 23
    · rw [if_pos c] at this
      refine ⟨_, _, _, this, ?_, Int.le_refl _⟩
      have := log2_le (k := 22) c
      omega
    · rw [if_neg c] at this
      refine ⟨_, _, _, this, ?_, by omega⟩
      have h1 : (2 ^ 23 + r % 2 ^ 23).log2 ≤ 23 := log2_le (k := 23) (by have := Nat.mod_lt r (show 2 ^ 23 > 0 by decide); omega)
      have h2 : ((r / 2 ^ 23 : Nat) : Int) ≤ N + 128 := by omega
      omega
  unfold Ieee.Format.nearest
  by_cases h0 : M = 0
  · rw [if_pos h0]
    exact fin 0 (by omega)
  · rw [if_neg h0, s_fb, s_lp, s_bin, s_inf]
    dsimp only
    have l2 : M < 2 ^ (M.log2 + 1) := Nat.lt_log2_self
    generalize hL : M.log2 = L at *
    obtain ⟨last, hlast⟩ : ∃ last, last = max (p + (L : Int) - (23 : Nat)) (-149) := ⟨_, rfl⟩
    rw [← hlast]
    have hl1 : p + (L : Int) - 23 ≤ last := by omega
    have hl2 : -149 ≤ last := by omega
    have hl3 : last ≤ N - 23 := by omega
    have hcut : Ieee.Toward.even.cut neg (M <<< (p - last).toNat) (last - p).toNat ≤ 2 ^ 24 := by
      refine cut_le _ _ _ 24 ?_
      rw [Nat.shiftLeft_eq]
      have h1 : M * 2 ^ (p - last).toNat < 2 ^ (L + 1 + (p - last).toNat) := by rw [Nat.pow_add]; exact Nat.mul_lt_mul_of_pos_right l2 (Nat.two_pow_pos _)
      exact Nat.lt_of_lt_of_le h1 (Nat.pow_le_pow_right (by decide) (by omega))
    generalize Ieee.Toward.even.cut neg (M <<< (p - last).toNat) (last - p).toNat = K at hcut
    have hk : (((last - -149).toNat * 2 ^ 23 + K : Nat) : Int) ≤ (N + 126) * 2 ^ 23 + 2 ^ 24 := by omega
    exact fin _ (Int.le_trans (Int.ofNat_le.2 (Nat.min_le_left _ _)) hk)

theorem signed_abs (s : Bool) (m k : Nat) : (Ieee.signed s m k).natAbs = m * 2 ^ k := by
  unfold Ieee.signed
  rw [Nat.shiftLeft_eq]
  cases s
  · rfl
  · rw [if_pos rfl, Int.natAbs_neg]; rfl

theorem sum_sz {s t : Bool} {m n : Nat} {e f N : Int} (h1 : (m.log2 : Int) + e ≤ N) (h2 : (n.log2 : Int) + f ≤ N) (he : -149 ≤ e) (hf : -149 ≤ f) (hN : N ≤ 125) (hN2 : -126 ≤ N) :
    ∃ r, (Ieee.Datum.sum (.number s m e) (.number t n f)).map Ieee.single.write = some r ∧ Sz r (N + 2) := by
  unfold Ieee.Datum.sum
  dsimp only
  refine ⟨_, rfl, ?_⟩
  obtain ⟨base, hb⟩ : ∃ base, base = min e f := ⟨_, rfl⟩
  rw [← hb]
  have e1 : N + 2 = N + 1 + 1 := by omega
  rw [e1]
  refine near_sz _ _ _ (N + 1) ?_ (by omega) (by omega)
  have hm : m * 2 ^ (e - base).toNat < 2 ^ (N + 1 - base).toNat := by
    rcases Nat.eq_zero_or_pos m with h0 | h0
    · rw [h0, Nat.zero_mul]; exact Nat.two_pow_pos _
    · have := Nat.lt_log2_self (n := m)
      have h3 : m * 2 ^ (e - base).toNat < 2 ^ (m.log2 + 1 + (e - base).toNat) := by rw [Nat.pow_add]; exact Nat.mul_lt_mul_of_pos_right this (Nat.two_pow_pos _)
      exact Nat.lt_of_lt_of_le h3 (Nat.pow_le_pow_right (by decide) (by omega))
  have hn : n * 2 ^ (f - base).toNat < 2 ^ (N + 1 - base).toNat := by
    rcases Nat.eq_zero_or_pos n with h0 | h0
    · rw [h0, Nat.zero_mul]; exact Nat.two_pow_pos _
    · have := Nat.lt_log2_self (n := n)
      have h3 : n * 2 ^ (f - base).toNat < 2 ^ (n.log2 + 1 + (f - base).toNat) := by rw [Nat.pow_add]; exact Nat.mul_lt_mul_of_pos_right this (Nat.two_pow_pos _)
      exact Nat.lt_of_lt_of_le h3 (Nat.pow_le_pow_right (by decide) (by omega))
  have a1 := signed_abs s m (e - base).toNat
  have a2 := signed_abs t n (f - base).toNat
  have hT : (Ieee.signed s m (e - base).toNat + Ieee.signed t n (f - base).toNat).natAbs < 2 ^ ((N + 1 - base).toNat + 1) := by
    rw [Nat.pow_succ]
    have := Int.natAbs_add_le (Ieee.signed s m (e - base).toNat) (Ieee.signed t n (f - base).toNat)
    omega
  generalize (Ieee.signed s m (e - base).toNat + Ieee.signed t n (f - base).toNat).natAbs = T at hT
  have hlog := log2_le hT
  by_cases hT0 : T = 0
  · subst hT0
    have : (0 : Nat).log2 = 0 := by decide
    rw [this]
    rcases (by omega : base = e ∨ base = f) with h | h <;> omega
  · have hp : (0 : Int) ≤ N + 1 - base := by
      rcases Int.lt_or_le (N + 1 - base) 0 with hlt | hle
      · exfalso
        have hz : (N + 1 - base).toNat = 0 := by omega
        have : T.log2 ≤ 0 := by omega
        -- both are nothing
        rcases (by omega : base = e ∨ base = f) with h | h
        · omega
        · omega
      · exact hle
    omega

theorem add_sz {a b : Nat} {N : Int} (ha : Sz a N) (hb : Sz b N) (hN : N ≤ 125) (hN2 : -126 ≤ N) : Sz (farith .add .f32 a b) (N + 2) := by
  obtain ⟨s, m, e, h1, h2, h3⟩ := ha
  obtain ⟨t, n, f, h4, h5, h6⟩ := hb
  obtain ⟨r, e1, hr⟩ := sum_sz (s := s) (t := t) h2 h5 h3 h6 hN hN2
  have : farith .add .f32 a b = (((Ieee.single.read a).sum (Ieee.single.read b)).map Ieee.single.write).getD (qn .f32) := rfl
  rw [this, h1, h4, e1]
  exact hr
theorem sub_sz {a b : Nat} {N : Int} (ha : Sz a N) (hb : Sz b N) (hN : N ≤ 125) (hN2 : -126 ≤ N) : Sz (farith .sub .f32 a b) (N + 2) := by
  obtain ⟨s, m, e, h1, h2, h3⟩ := ha
  obtain ⟨t, n, f, h4, h5, h6⟩ := hb
  obtain ⟨r, e1, hr⟩ := sum_sz (s := s) (t := !t) h2 h5 h3 h6 hN hN2
  have : farith .sub .f32 a b = (((Ieee.single.read a).sum (Ieee.single.read b).opposite).map Ieee.single.write).getD (qn .f32) := rfl
  rw [this, h1, h4]
  show Sz ((((Ieee.Datum.number s m e).sum (Ieee.Datum.number (!t) n f)).map Ieee.single.write).getD (qn .f32)) _
  rw [e1]
  exact hr
theorem mul_sz {a b : Nat} {N M : Int} (ha : Sz a N) (hb : Sz b M) (hN : N + M ≤ 125) (hN2 : -127 ≤ N + M) : Sz (farith .mul .f32 a b) (N + M + 2) := by
  obtain ⟨s, m, e, h1, h2, h3⟩ := ha
  obtain ⟨t, n, f, h4, h5, h6⟩ := hb
  have : farith .mul .f32 a b = (((Ieee.single.read a).product (Ieee.single.read b)).map Ieee.single.write).getD (qn .f32) := rfl
  rw [this, h1, h4]
  show Sz (Ieee.single.nearest (s ^^ t) (m * n) (e + f)) _
  have e1 : N + M + 2 = N + M + 1 + 1 := by omega
  rw [e1]
  refine near_sz _ _ _ (N + M + 1) ?_ (by omega) (by omega)
  have hl : (m * n).log2 ≤ m.log2 + n.log2 + 1 := by
    refine log2_le ?_
    have l1 := Nat.lt_log2_self (n := m)
    have l2 := Nat.lt_log2_self (n := n)
    have : m * n < 2 ^ (m.log2 + 1) * 2 ^ (n.log2 + 1) := Nat.mul_lt_mul'' l1 l2
    rw [← Nat.pow_add] at this
    exact Nat.lt_of_lt_of_le this (Nat.pow_le_pow_right (by decide) (by omega))
  omega
end Go.Proofs.Ytmmdjajebmihhaa.AM

/- Plainly: singles made doubles keep their values and orders; streams are numbers. Conditions: those that each lemma names. -/
namespace Go.Proofs.Ytmmdjajebmihhaa.AM
open Go Go.Proofs
set_option linter.unusedVariables false
set_option exponentiation.threshold 2000

/-- A single is a number of this value, in units of a double's least place. -/
def isS (b : Nat) (v : Int) : Prop := ∃ (s : Bool) (m c : Nat), Ieee.single.read b = .number s m ((c : Int) - 1074) ∧ v = VU s m c
theorem sz_isS {b : Nat} {N : Int} (h : Sz b N) : ∃ v, isS b v := by
  obtain ⟨s, m, e, h1, _, h3⟩ := h
  refine ⟨_, s, m, (e + 1074).toNat, ?_, rfl⟩
  rw [h1]
  congr 1
  omega
theorem ordS {a b : Nat} {x y : Int} (ha : isS a x) (hb : isS b y) : FloatKind.f32.format.order a b = some (compare x y) := by
  obtain ⟨s, m, c, h1, rfl⟩ := ha
  obtain ⟨t, n, d, h2, rfl⟩ := hb
  show (Ieee.single.read a).order (Ieee.single.read b) = _
  rw [h1, h2]
  exact order_V s t m n c d
theorem isS_zero : isS 0 0 := by
  refine ⟨false, 0, 925, by decide, ?_⟩
  unfold VU
  simp
theorem isD_zero : isD 0 0 := by
  refine ⟨false, 0, 0, by decide, ?_⟩
  unfold VU
  simp
theorem VU_opp (s : Bool) (m c : Nat) : VU (!s) m c = -VU s m c := by
  unfold VU
  cases s
  · rfl
  · simp

theorem ltS {a b : Nat} {x y : Int} (ha : isS a x) (hb : isS b y) : flt .f32 a b = decide (x < y) := by
  unfold flt
  rw [ordS ha hb, Int.compare_eq_ite_lt]
  by_cases h1 : x < y
  · rw [if_pos h1]; simp [h1]
  · rw [if_neg h1]
    by_cases h2 : y < x
    · rw [if_pos h2]; simp [h1]
    · rw [if_neg h2]; simp [h1]
theorem leS {a b : Nat} {x y : Int} (ha : isS a x) (hb : isS b y) : le3 a b = decide (x ≤ y) := by
  unfold le3 flt feq
  rw [ordS ha hb, Int.compare_eq_ite_lt]
  by_cases h1 : x < y
  · rw [if_pos h1]; simp; omega
  · rw [if_neg h1]
    by_cases h2 : y < x
    · rw [if_pos h2]; simp; omega
    · rw [if_neg h2]; simp; omega
theorem ltD {a b : Nat} {x y : Int} (ha : isD a x) (hb : isD b y) : flt .f64 a b = decide (x < y) := by
  unfold flt
  rw [ordD ha hb, Int.compare_eq_ite_lt]
  by_cases h1 : x < y
  · rw [if_pos h1]; simp [h1]
  · rw [if_neg h1]
    by_cases h2 : y < x
    · rw [if_pos h2]; simp [h1]
    · rw [if_neg h2]; simp [h1]
theorem gtD {a b : Nat} {x y : Int} (ha : isD a x) (hb : isD b y) : fgt .f64 a b = decide (y < x) := by
  unfold fgt
  rw [ordD ha hb, Int.compare_eq_ite_lt]
  by_cases h1 : x < y
  · rw [if_pos h1]; simp; omega
  · rw [if_neg h1]
    by_cases h2 : y < x
    · rw [if_pos h2]; simp [h2]
    · rw [if_neg h2]; simp [h2]

theorem read_neg32 (a : Nat) : Ieee.single.read (fneg .f32 a) = (Ieee.single.read a).opposite := by
  have hf : fneg .f32 a = a ^^^ 2 ^ 31 := rfl
  rw [hf]
  unfold Ieee.Format.read
  dsimp only
  rw [s_sw]
  have e1 : (a ^^^ 2 ^ 31) % 2 ^ 31 = a % 2 ^ 31 := by rw [Nat.xor_mod_two_pow, Nat.mod_self, Nat.xor_zero]
  have e2 : ((a ^^^ 2 ^ 31) / 2 ^ 31 % 2 == 1) = !(a / 2 ^ 31 % 2 == 1) := by
    rw [Nat.xor_div_two_pow, Nat.div_self (by decide)]
    have h1 : (a / 2 ^ 31 ^^^ 1) % 2 = (a / 2 ^ 31 % 2) ^^^ 1 := by
      have := Nat.xor_mod_two_pow (a := a / 2 ^ 31) (b := 1) (n := 1)
      simpa using this
    rw [h1]
    rcases Nat.mod_two_eq_zero_or_one (a / 2 ^ 31) with h | h <;> rw [h] <;> rfl
  rw [e1, e2]
  split
  · rfl
  · split
    · rfl
    · split <;> rfl

theorem isS_amt {a : Nat} {v : Int} (h : isS a v) : isS (amt a) (v.natAbs : Int) := by
  have hl := ltS h isS_zero
  unfold amt
  rw [hl]
  by_cases hv : v < 0
  · rw [show decide (v < 0) = true by simpa using hv, cond_true]
    obtain ⟨s, m, c, h1, h2⟩ := h
    refine ⟨!s, m, c, by rw [read_neg32, h1]; rfl, ?_⟩
    rw [VU_opp, ← h2]
    omega
  · rw [show decide (v < 0) = false by simpa using hv, cond_false]
    have : (v.natAbs : Int) = v := by omega
    rw [this]
    exact h
theorem isD_amt {a : Nat} {v : Int} (h : isD a v) : isD (amtD a) (v.natAbs : Int) := by
  have hl := ltD h isD_zero
  unfold amtD
  rw [hl]
  by_cases hv : v < 0
  · rw [show decide (v < 0) = true by simpa using hv, cond_true]
    obtain ⟨s, m, c, h1, h2⟩ := h
    refine ⟨!s, m, c, by rw [read_neg, h1]; rfl, ?_⟩
    rw [VU_opp, ← h2]
    omega
  · rw [show decide (v < 0) = false by simpa using hv, cond_false]
    have : (v.natAbs : Int) = v := by omega
    rw [this]
    exact h

/-- What has few digits is a double. -/
theorem near_exact (neg : Bool) (M c : Nat) (hM : M < 2 ^ 53) (hc : 52 ≤ c) (hlc : M.log2 + c < 2000) : isD (Ieee.double.nearest neg M ((c : Int) - 1074)) (VU neg M c) := by
  by_cases h0 : M = 0
  · subst h0
    obtain ⟨m', c', h6, h7⟩ := readD_word neg 0 0 (by decide) (.inl ⟨rfl, by decide⟩)
    refine ⟨neg, m', c', ?_, ?_⟩
    · unfold Ieee.Format.nearest
      rw [if_pos rfl]
      rw [Nat.zero_mul] at h6
      exact h6
    · unfold VU
      rw [h7]
      simp
  · have hL52 : M.log2 ≤ 52 := log2_le (k := 52) hM
    have l1 : 2 ^ M.log2 ≤ M := Nat.log2_self_le h0
    have l2 : M < 2 ^ (M.log2 + 1) := Nat.lt_log2_self
    have key : ∃ K e : Nat, Ieee.double.nearest neg M ((c : Int) - 1074) = Ieee.double.word neg (e * 2 ^ 52 + K) ∧ e * 2 ^ 52 + K < 2047 * 2 ^ 52 ∧ ((e = 0 ∧ K ≤ 2 ^ 53) ∨ (2 ^ 52 ≤ K ∧ K ≤ 2 ^ 53)) ∧ K * 2 ^ e = M * 2 ^ c := by
      unfold Ieee.Format.nearest
      rw [if_neg h0, d_fb, d_lp, d_bin, d_inf]
      dsimp only
      generalize hL : M.log2 = L at *
      have hlast : max ((c : Int) - 1074 + (L : Int) - (52 : Nat)) (-1074) = (c : Int) - 1074 + (L : Int) - 52 := by omega
      rw [hlast]
      have e1 : ((c : Int) - 1074 - ((c : Int) - 1074 + (L : Int) - 52)).toNat = 52 - L := by omega
      have e2 : (((c : Int) - 1074 + (L : Int) - 52) - ((c : Int) - 1074)).toNat = 0 := by omega
      have e3 : (((c : Int) - 1074 + (L : Int) - 52) - -1074).toNat = c + L - 52 := by omega
      rw [e1, e2, e3, cut_zero, Nat.shiftLeft_eq]
      have hk1 : M * 2 ^ (52 - L) < 2 ^ 53 := by
        have h1 : M * 2 ^ (52 - L) < 2 ^ (L + 1) * 2 ^ (52 - L) := Nat.mul_lt_mul_of_pos_right l2 (Nat.two_pow_pos _)
        rw [← Nat.pow_add, show L + 1 + (52 - L) = 53 by omega] at h1
        exact h1
      have hk2 : 2 ^ 52 ≤ M * 2 ^ (52 - L) := by
        have h1 : 2 ^ L * 2 ^ (52 - L) ≤ M * 2 ^ (52 - L) := Nat.mul_le_mul_right _ l1
        rw [← Nat.pow_add, show L + (52 - L) = 52 by omega] at h1
        exact h1
      have hv : M * 2 ^ (52 - L) * 2 ^ (c + L - 52) = M * 2 ^ c := by
        rw [Nat.mul_assoc, ← Nat.pow_add]
        congr 2
        omega
      refine ⟨M * 2 ^ (52 - L), c + L - 52, ?_, by generalize M * 2 ^ (52 - L) = q at *; clear l1 l2; omega, .inr ⟨hk2, Nat.le_of_lt hk1⟩, hv⟩
      rw [Nat.min_eq_left (by omega)]
    obtain ⟨K, e, h1, h2, h3, h4⟩ := key
    obtain ⟨m', c', h5, h6⟩ := readD_word neg K e h2 h3
    refine ⟨neg, m', c', by rw [h1]; exact h5, ?_⟩
    unfold VU
    rw [h6, h4]

theorem isD_conv {a : Nat} {v : Int} (h : isS a v) : isD (convF .f32 .f64 a).2 v := by
  obtain ⟨s, m, c, h1, rfl⟩ := h
  obtain ⟨hm, he, he2⟩ := single_number (b := a) (show FloatKind.f32.decode a = _ from h1)
  have : (convF .f32 .f64 a).2 = Ieee.double.nearest s m ((c : Int) - 1074) := by
    show refloat .f32 .f64 a = _
    unfold refloat
    rw [show FloatKind.f32.decode a = .number s m ((c : Int) - 1074) from h1]
    rfl
  rw [this]
  have hl := log2_le (k := 23) hm
  exact near_exact s m c (by omega) (by omega) (by omega)

theorem widen_gt {a m : Nat} {v w : Int} (ha : isS a v) (hm : isS m w) : fgt .f64 (amtD (convF .f32 .f64 a).2) (convF .f32 .f64 m).2 = !le3 (amt a) m := by
  rw [gtD (isD_amt (isD_conv ha)) (isD_conv hm), leS (isS_amt ha) hm]
  by_cases h : w < (v.natAbs : Int)
  · rw [show decide (w < (v.natAbs : Int)) = true by simpa using h, show decide ((v.natAbs : Int) ≤ w) = false by simp; omega]; rfl
  · rw [show decide (w < (v.natAbs : Int)) = false by simpa using h, show decide ((v.natAbs : Int) ≤ w) = true by simp; omega]; rfl

/-! ## Streams are numbers -/

theorem le100_sz {a : Nat} (h : le100 a = true) : Sz a 6 := by
  have hamt : ∀ b, (flt .f32 b 1120403456 || feq .f32 b 1120403456) = true → (∀ s, Ieee.single.read b ≠ .infinity s) → Sz b 6 ∨ ∃ m e, Ieee.single.read b = .number true m e := by
    intro b hb hinf
    have ho : FloatKind.f32.format.order b 1120403456 = (Ieee.single.read b).order (Ieee.single.read 1120403456) := rfl
    have hr : Ieee.single.read 1120403456 = .number false 13107200 (-17) := by decide +kernel
    unfold flt feq at hb
    rw [ho, hr] at hb
    cases hq : Ieee.single.read b with
    | nan s f => rw [hq] at hb; simp [Ieee.Datum.order] at hb
    | infinity s => exact absurd hq (hinf s)
    | number s m e =>
      cases s with
      | true => exact .inr ⟨m, e, rfl⟩
      | false =>
        left
        have hsn := single_number (b := b) (show FloatKind.f32.decode b = _ from hq)
        refine ⟨_, m, e, hq, ?_, hsn.2.1⟩
        rw [hq] at hb
        unfold Ieee.Datum.order Ieee.signed at hb
        simp only [Bool.false_eq_true, if_false, Nat.shiftLeft_eq, Int.compare_eq_ite_lt] at hb
        have hle : m * 2 ^ (e - min e (-17)).toNat ≤ 13107200 * 2 ^ ((-17 : Int) - min e (-17)).toNat := by
          by_cases c : ((m * 2 ^ (e - min e (-17)).toNat : Nat) : Int) < ((13107200 * 2 ^ ((-17 : Int) - min e (-17)).toNat : Nat) : Int)
          · omega
          · rw [if_neg c] at hb
            split at hb
            · simp at hb
            · omega
        rcases Int.lt_or_le 6 ((m.log2 : Int) + e) with hlt | hle6
        · exfalso
          have hm0 : m ≠ 0 := by
            intro h0; subst h0
            have : (0 : Nat).log2 = 0 := by decide
            rw [this] at hlt
            obtain ⟨_, q1, q2⟩ := hsn
            have hz : 0 * 2 ^ (e - min e (-17)).toNat = 0 := Nat.zero_mul _
            -- the number is nothing: its place is the least one
            have := single_number (b := b) (show FloatKind.f32.decode b = _ from hq)
            unfold Ieee.Format.read at hq
            dsimp only at hq
            rw [s_bin, s_inf, s_lp] at hq
            split at hq
            · injection hq with _ _ h3; omega
            · split at hq
              · injection hq with _ h2 _; omega
              · split at hq <;> cases hq
          have l1 := Nat.log2_self_le hm0
          have h2 : 2 ^ (m.log2 + (e - min e (-17)).toNat) ≤ m * 2 ^ (e - min e (-17)).toNat := by rw [Nat.pow_add]; exact Nat.mul_le_mul_right _ l1
          have h3 : 13107200 * 2 ^ ((-17 : Int) - min e (-17)).toNat < 2 ^ 24 * 2 ^ ((-17 : Int) - min e (-17)).toNat := Nat.mul_lt_mul_of_pos_right (by decide) (Nat.two_pow_pos _)
          rw [← Nat.pow_add] at h3
          have h4 := Nat.lt_of_le_of_lt (Nat.le_trans h2 hle) h3
          have h5 := (Nat.pow_lt_pow_iff_right (a := 2) (by decide)).1 h4
          omega
        · exact hle6
  unfold le100 at h
  have ho : flt .f32 a 0 = ((Ieee.single.read a).order (.number false 0 (-149)) == some .lt) := by
    show ((Ieee.single.read a).order (Ieee.single.read 0) == some .lt) = _
    rw [show Ieee.single.read 0 = .number false 0 (-149) by decide]
  cases hq : Ieee.single.read a with
  | nan s f =>
    have : amt a = a := by unfold amt; rw [ho, hq]; rfl
    rw [this] at h
    rcases hamt a h (fun s => by rw [hq]; exact fun e => by cases e) with h1 | ⟨m, e, h1⟩
    · exact h1
    · rw [hq] at h1; cases h1
  | infinity s =>
    exfalso
    have hr : Ieee.single.read 1120403456 = .number false 13107200 (-17) := by decide +kernel
    have hb : Ieee.single.read (amt a) = .infinity false := by
      unfold amt
      rw [ho, hq]
      cases s with
      | true => show Ieee.single.read (fneg .f32 a) = _; rw [read_neg32, hq]; rfl
      | false => exact hq
    have o2 : FloatKind.f32.format.order (amt a) 1120403456 = (Ieee.single.read (amt a)).order (Ieee.single.read 1120403456) := rfl
    unfold flt feq at h
    rw [o2, hb, hr] at h
    simp [Ieee.Datum.order] at h
  | number s m e =>
    have hsn := single_number (b := a) (show FloatKind.f32.decode a = _ from hq)
    have hv : ∃ v, isS a v := ⟨_, s, m, (e + 1074).toNat, by rw [hq]; congr 1; omega, rfl⟩
    obtain ⟨v, hv⟩ := hv
    obtain ⟨s', m', c', r1, r2⟩ := isS_amt hv
    rcases hamt (amt a) h (fun s => by rw [r1]; exact fun e => by cases e) with h1 | ⟨m2, e2, h1⟩
    · -- the amount has the same digits
      obtain ⟨s3, m3, e3, q1, q2, q3⟩ := h1
      have hsame : Ieee.single.read (amt a) = .number s m e ∨ Ieee.single.read (amt a) = .number (!s) m e := by
        unfold amt
        cases flt .f32 a 0
        · left; exact hq
        · right; rw [cond_true, read_neg32, hq]; rfl
      rcases hsame with h5 | h5
      · rw [h5] at q1; injection q1 with _ i2 i3; subst i2; subst i3; exact ⟨s, m, e, hq, q2, q3⟩
      · rw [h5] at q1; injection q1 with _ i2 i3; subst i2; subst i3; exact ⟨s, m, e, hq, q2, q3⟩
    · -- a minus before an amount: it is nothing
      rw [r1] at h1
      injection h1 with i1 i2 i3
      subst i1
      have hz : m' * 2 ^ c' = 0 := by
        unfold VU at r2
        simp only [if_true] at r2
        omega
      have hm0 : m' = 0 := by
        rcases Nat.mul_eq_zero.1 hz with h | h
        · exact h
        · exact absurd h (Nat.ne_of_gt (Nat.two_pow_pos _))
      have hsame : Ieee.single.read (amt a) = .number s m e ∨ Ieee.single.read (amt a) = .number (!s) m e := by
        unfold amt
        cases flt .f32 a 0
        · left; exact hq
        · right; rw [cond_true, read_neg32, hq]; rfl
      have hm : m = 0 := by
        rcases hsame with h5 | h5
        · rw [r1] at h5; injection h5 with _ i2 _; omega
        · rw [r1] at h5; injection h5 with _ i2 _; omega
      subst hm
      have : (0 : Nat).log2 = 0 := by decide
      refine ⟨s, 0, e, hq, ?_, hsn.2.1⟩
      rw [this]
      unfold Ieee.Format.read at hq
      dsimp only at hq
      rw [s_bin, s_inf, s_lp] at hq
      split at hq
      · injection hq with _ _ h3; omega
      · split at hq
        · injection hq with _ h2 _; omega
        · split at hq <;> cases hq

theorem share_all : allFrom (fun r => szB (share (r : Int)) 0) 1 3599 = true := by decide +kernel
theorem share_sz {r : Int} (h1 : 1 ≤ r) (h2 : r < 3600) : Sz (share r) 0 := by
  have := allFrom_iff.1 share_all r.toNat (by omega) (by omega)
  have e : ((r.toNat : Nat) : Int) = r := by omega
  rw [e] at this
  exact szB_ok this
theorem mix_sz {a b q : Nat} (ha : Sz a 6) (hb : Sz b 6) (hq : Sz q 0) : Sz (mixV a b q) 12 := by
  have h1 := sub_sz hb ha (by decide) (by decide)
  have h2 := mul_sz h1 hq (by decide) (by decide)
  exact add_sz (ha.mono (show (6 : Int) ≤ 10 by decide)) h2 (by decide) (by decide)

theorem flow_sz {s : Den S96} {off : Int} (h : (flowV s off).2.1 = true) : Sz (flowV s off).1.1 12 ∧ Sz (flowV s off).1.2 12 := by
  obtain ⟨c1, c2⟩ := clamp_in off
  unfold flowV at h ⊢
  cases hb : hourB (flows s) with
  | false => rw [hb] at h; cases h
  | true =>
    have hall : ∀ i, i < 13 → Sz (atV (flows s) i).1 6 ∧ Sz (atV (flows s) i).2 6 := by
      intro i hi
      unfold hourB at hb
      have := allFrom_iff.1 hb i (Nat.zero_le _) (by rw [flows_len]; omega)
      unfold velB at this
      simp only [Bool.and_eq_true] at this
      exact ⟨le100_sz this.1, le100_sz this.2⟩
    simp only [Bool.not_true, cond_false]
    by_cases hz : (clampV off + 21600) % 3600 = 0
    · rw [show ((clampV off + 21600) % 3600 == 0) = true by simpa using hz, cond_true]
      obtain ⟨q1, q2⟩ := hall ((clampV off + 21600) / 3600).toNat (by omega)
      exact ⟨q1.mono (by decide), q2.mono (by decide)⟩
    · rw [show ((clampV off + 21600) % 3600 == 0) = false by simpa using hz, cond_false]
      obtain ⟨q1, q2⟩ := hall ((clampV off + 21600) / 3600).toNat (by omega)
      obtain ⟨q3, q4⟩ := hall ((clampV off + 21600) / 3600 + 1).toNat (by omega)
      have hs := share_sz (r := (clampV off + 21600) % 3600) (by omega) (by omega)
      exact ⟨mix_sz q1 q3 hs, mix_sz q2 q4 hs⟩
theorem stream_num {td : Den S48} {p : Nat × Nat} {t : Int} (h : (streamV td p t).2.1 = true) : (∃ v, isS (streamV td p t).1.1 v) ∧ ∃ w, isS (streamV td p t).1.2 w := by
  unfold streamV at h ⊢
  cases hc : decide (nearV td p < 0) || decide (hiV td t < 0) with
  | true => rw [hc] at h; cases h
  | false =>
    rw [hc] at h
    obtain ⟨h1, h2⟩ := flow_sz (show (flowV (stAt td.1 (nearV td p).toNat) (t - hiAt td.2.1 (hiV td t).toNat)).2.1 = true from h)
    exact ⟨sz_isS h1, sz_isS h2⟩
theorem most_all : allFrom (fun d => szB (farith .quo .f32 (FloatKind.nearest .f32 (IntKind.i64.wrap ((d : Int) - 1))) 1098907648) 6) 0 20 = true := by decide +kernel
theorem most_num {m : Nat} (h : mostG m) : ∃ w, isS m w := by
  obtain ⟨d, h1, h2, rfl⟩ := h
  have := allFrom_iff.1 most_all d.toNat (Nat.zero_le _) (by omega)
  have e : ((d.toNat : Nat) : Int) = d := by omega
  rw [e] at this
  exact sz_isS (szB_ok this)

end Go.Proofs.Ytmmdjajebmihhaa.AM

/- Plainly: the law FnSlackFirst, in plain terms. Conditions: none. -/
namespace Go.Proofs.Ytmmdjajebmihhaa.AM
open Go Go.Proofs
set_option linter.unusedVariables false

theorem F29_eq (a : Nat) : F29 (a, ()) = some (amtD a, ()) := by
  unfold F29 r29 amtD
  cases flt .f64 a 0 <;> rfl

set_option maxRecDepth 100000 in
theorem slackFirst (x : Den A6) (w : Wf A6 x) : callN (Γ6 K7 G7 K25 G25 K26 G26 K27 G27 K28 G28 K29 G29) (N6 pT25 QT25 eT25) (bodyOf Try.f6) (decRH R6 kTru) (encA A6 x) [] = some () := by
  refine Eq.trans (evN6 _ _ _ _ _ _ _ _ _ _ _ _ _ _ _ kTru x) ?_
  unfold rN6
  simp only [K7, G7, F7_all, Option.isSome_some, Option.getD_some, cond_true]
  by_cases h0 : (x.1.length : Int) > 1048576
  · simp only [h0, decide_true, cond_true]; rfl
  simp only [h0, decide_false, cond_false]
  haveI := eT25
  refine allK_intro fun g => ?_
  have hp : pT25 x = true := by show decide (x.1.length ≤ 1048576) = true; simp; omega
  have hq : QT25 x (g.val x) := g.2 _ hp
  refine all_t hp ?_
  generalize g.val x = d at *
  obtain ⟨td, p, t, m, _⟩ := d
  obtain ⟨h1, h2, h3⟩ := hq
  have h1 : TideG td := h1
  have h2 : inI t := h2
  obtain ⟨mw, hmw⟩ := most_num (show mostG m from h3)
  have e26 : F26 (td, p, t, m, ()) = some (slackV td p t m) := F26_eq td p t m h1
  obtain ⟨y27, e27, hy⟩ := F27_ok td p t m h1 h2
  have e28 : ∀ u, F28 (td, p, u, ()) = some (streamV td p u) := fun u => F28_eq td p u h1
  have e29 : ∀ a, F29 (a, ()) = some (amtD a, ()) := F29_eq
  simp only [K26, G26, e26, K27, G27, e27, K28, G28, e28, K29, G29, e29, Option.isSome_some, Option.getD_some, cond_true, hy]
  unfold slackV
  cases hf : findFrom (fun k => slackB td p m (timeK t k)) 0 721 with
  | none =>
    simp only [Bool.not_false, cond_true, beq_self_eq_true]
    rfl
  | some k =>
    obtain ⟨_, k2, k3, k4⟩ := findFrom_some hf
    have k3 : slackB td p m (timeK t k) = true := k3
    obtain ⟨_, _, q1, q2⟩ := slack_off k3
    have ht : timeK t k = t + 60 * (k : Int) := timeK_in (by omega) h2 ⟨q1, q2⟩
    have hk3 := k3
    unfold slackB at hk3
    simp only [Bool.and_eq_true] at hk3
    obtain ⟨s1, s2, s3⟩ := hk3
    obtain ⟨⟨v, hv⟩, ⟨u, hu⟩⟩ := stream_num s1
    have g1 := widen_gt hv hmw
    have g2 := widen_gt hu hmw
    rw [s2] at g1
    rw [s3] at g2
    have i2 := h2
    unfold inI at i2
    have w1 : IntKind.i64.wrap (timeK t k - t) = 60 * (k : Int) := by rw [ht, w64 (by omega) (by omega)]; omega
    have m1 : (Int.tmod (60 * (k : Int)) 60 != 0) = false := by
      rw [Int.tmod_eq_emod_of_nonneg (by omega)]
      have : 60 * (k : Int) % 60 = 0 := by omega
      rw [this]; rfl
    simp only [s1, g1, g2, w1, m1, Bool.not_true, cond_false, beq_self_eq_true, show (!true == true) = false from rfl, show (!(true == true)) = false from rfl]
    by_cases hk0 : k = 0
    · have : (timeK t k == t) = true := by rw [ht, hk0]; simp
      rw [this]
      rfl
    · have e0 : (timeK t k == t) = false := by
        rw [ht]
        simp; omega
      have e1 : decide (timeK t k > t) = true := by rw [ht]; simp; omega
      have e2 : IntKind.i64.wrap (timeK t k - 60) = timeK t (k - 1) := by
        have : timeK t (k - 1) = IntKind.i64.wrap (t + 60 * ((k : Int) - 1)) := by
          unfold timeK
          rw [w64 (x := 60 * ((k - 1 : Nat) : Int)) (by omega) (by omega)]
          congr 1
          omega
        rw [this, ht]
        congr 1
        omega
      have hno := k4 (k - 1) (Nat.zero_le _) (by omega)
      have hno : slackB td p m (timeK t (k - 1)) = false := hno
      simp only [e0, e1, e2, cond_false, cond_true]
      cases hs : (streamV td p (timeK t (k - 1))).2.1 with
      | false => rfl
      | true =>
        obtain ⟨⟨v', hv'⟩, ⟨u', hu'⟩⟩ := stream_num hs
        have g3 := widen_gt hv' hmw
        have g4 := widen_gt hu' hmw
        unfold slackB at hno
        rw [hs, Bool.true_and] at hno
        simp only [g3, g4, Bool.not_true, cond_false]
        cases ha : le3 (amt (streamV td p (timeK t (k - 1))).1.1) m with
        | false => rfl
        | true =>
          rw [ha, Bool.true_and] at hno
          rw [hno]
          rfl
end Go.Proofs.Ytmmdjajebmihhaa.AM
