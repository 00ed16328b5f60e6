/- Plainly: the node that is nearest to where a node is. Conditions: a valid field. -/
import Derived.Test.YtmmdjajebmihhaaW0
namespace Go.Proofs.Ytmmdjajebmihhaa.AM
open Go Go.Proofs
set_option linter.unusedVariables false

/-- Squares of small numbers are small. -/
theorem sq_small {x : Int} {b : Nat} (h : x.natAbs ≤ b) : (x * x).natAbs ≤ b * b := by
  rw [Int.natAbs_mul]; exact Nat.mul_le_mul h h

structure InF (f : FieldT) : Prop where
  w : 2 ≤ f.1 ∧ f.1 ≤ 12
  h : 2 ≤ f.2.1 ∧ f.2.1 ≤ 12
  m : 10 ≤ f.2.2.1 ∧ f.2.2.1 ≤ 100000
theorem inF {f : FieldT} (h : fieldOkB f = true) : InF f := by
  obtain ⟨h1, h2, h3, _, _⟩ := okB_wide h
  simp only [inB, Bool.and_eq_true, decide_eq_true_eq] at h1 h2 h3
  exact ⟨h1, h2, h3⟩
theorem InF.count {f : FieldT} (i : InF f) : IntKind.i64.wrap (f.1 * f.2.1) = f.1 * f.2.1 ∧ 4 ≤ f.1 * f.2.1 ∧ f.1 * f.2.1 ≤ 144 := by
  have hb : f.1 * f.2.1 ≤ 12 * 12 := Int.mul_le_mul i.w.2 i.h.2 (by have := i.h; omega) (by omega)
  have ha : 2 * 2 ≤ f.1 * f.2.1 := Int.mul_le_mul i.w.1 i.h.1 (by omega) (by have := i.w; omega)
  exact ⟨w64 (by omega) (by omega), by omega, by omega⟩

theorem InF.row {f : FieldT} (i : InF f) {n : Int} (h0 : 0 ≤ n) (h1 : n < f.1 * f.2.1) : 0 ≤ n / f.1 ∧ n / f.1 ≤ 11 := by
  have hw := i.w
  refine ⟨Int.ediv_nonneg h0 (by omega), ?_⟩
  have : n / f.1 < f.2.1 := Int.ediv_lt_of_lt_mul (by omega) (by rw [Int.mul_comm]; exact h1)
  have := i.h
  omega
theorem InF.col {f : FieldT} (i : InF f) (n : Int) : 0 ≤ n % f.1 ∧ n % f.1 ≤ 11 := by
  have hw := i.w
  have h1 := Int.emod_nonneg n (show f.1 ≠ 0 by omega)
  have h2 := Int.emod_lt_of_pos n (show 0 < f.1 by omega)
  omega
theorem mul_mesh {a m : Int} (h : 0 ≤ a ∧ a ≤ 11) (hm : 10 ≤ m ∧ m ≤ 100000) : 0 ≤ a * m ∧ a * m ≤ 1100000 := by
  have h1 : a * m ≤ 11 * 100000 := Int.mul_le_mul h.2 hm.2 (by omega) (by omega)
  have h2 : 0 ≤ a * m := Int.mul_nonneg h.1 (by omega)
  omega

def posR (f : FieldT) (n : Int) : Int := n / f.1 * f.2.2.1
def posC (f : FieldT) (n : Int) : Int := n % f.1 * f.2.2.1
theorem posR_in {f : FieldT} (i : InF f) {n : Int} (h0 : 0 ≤ n) (h1 : n < f.1 * f.2.1) : 0 ≤ posR f n ∧ posR f n ≤ 1100000 := mul_mesh (i.row h0 h1) i.m
theorem posC_in {f : FieldT} (i : InF f) (n : Int) : 0 ≤ posC f n ∧ posC f n ≤ 1100000 := mul_mesh (i.col n) i.m

theorem pos_whole {f : FieldT} (i : InF f) {n : Int} (h0 : 0 ≤ n) (h1 : n < f.1 * f.2.1) : WholeD (pos f n).1 (posR f n) ∧ WholeD (pos f n).2 (posC f n) := by
  have hw := i.w
  have e1 : Int.tdiv n f.1 = n / f.1 := Int.tdiv_eq_ediv_of_nonneg h0
  have e2 : Int.tmod n f.1 = n % f.1 := Int.tmod_eq_emod_of_nonneg h0
  have hr := i.row h0 h1
  have hR := posR_in i h0 h1
  have hC := posC_in i n
  have g1 : IntKind.i64.wrap (IntKind.i64.wrap (Int.tdiv n f.1) * f.2.2.1) = posR f n := by
    rw [e1, w64 (x := n / f.1) (by omega) (by omega)]
    exact w64 (by have : n / f.1 * f.2.2.1 = posR f n := rfl; omega) (by have : n / f.1 * f.2.2.1 = posR f n := rfl; omega)
  have g2 : IntKind.i64.wrap (Int.tmod n f.1 * f.2.2.1) = posC f n := by
    rw [e2]
    exact w64 (by have : n % f.1 * f.2.2.1 = posC f n := rfl; omega) (by have : n % f.1 * f.2.2.1 = posC f n := rfl; omega)
  unfold pos
  rw [g1, g2]
  exact ⟨wholeD_of _ (by omega), wholeD_of _ (by omega)⟩

theorem vec_ok {f : FieldT} (i : InF f) {n : Int} (h0 : 0 ≤ n) (h1 : n < f.1 * f.2.1) : F41 (pos f n, ()) = some (true, ()) := by
  obtain ⟨p1, p2⟩ := pos_whole i h0 h1
  have hR := posR_in i h0 h1
  have hC := posC_in i n
  have a1 := absW p1
  have a2 := absW p2
  have l1 : flt .f64 ((pos f n).1 % 2 ^ 63) 4726483295884279808 = true := by rw [ltW a1 wholeD_e8]; simp; omega
  have l2 : flt .f64 ((pos f n).2 % 2 ^ 63) 4726483295884279808 = true := by rw [ltW a2 wholeD_e8]; simp; omega
  unfold F41 r41
  simp only [K79, G79, cond_true]
  rw [l1, l2]
  rfl

/-- The square of how far two nodes lie apart. -/
def apart (f : FieldT) (k n : Int) : Int := (posR f k - posR f n) * (posR f k - posR f n) + (posC f k - posC f n) * (posC f k - posC f n)
def gap (f : FieldT) (k n : Int) : Nat × Nat := (farith .sub .f64 (pos f k).1 (pos f n).1, farith .sub .f64 (pos f k).2 (pos f n).2)
def far (f : FieldT) (k n : Int) : Nat := farith .add .f64 (farith .mul .f64 (gap f k n).1 (gap f k n).1) (farith .mul .f64 (gap f k n).2 (gap f k n).2)
theorem F42_eq (f : FieldT) (k n : Int) : F42 (pos f k, pos f n, ()) = some (gap f k n, ()) := rfl
theorem F43_eq (f : FieldT) (k n : Int) : F43 (gap f k n, gap f k n, ()) = some (far f k n, ()) := rfl
theorem far_whole {f : FieldT} (i : InF f) {k n : Int} (h0 : 0 ≤ n) (h1 : n < f.1 * f.2.1) (k0 : 0 ≤ k) (k1 : k < f.1 * f.2.1) : WholeD (far f k n) (apart f k n) := by
  obtain ⟨p1, p2⟩ := pos_whole i h0 h1
  obtain ⟨q1, q2⟩ := pos_whole i k0 k1
  have hR := posR_in i h0 h1
  have hC := posC_in i n
  have kR := posR_in i k0 k1
  have kC := posC_in i k
  have d1 := subW q1 p1 (by omega)
  have d2 := subW q2 p2 (by omega)
  have s1 := sq_small (x := posR f k - posR f n) (b := 1100000) (by omega)
  have s2 := sq_small (x := posC f k - posC f n) (b := 1100000) (by omega)
  have m1 := mulW d1 d1 (by omega)
  have m2 := mulW d2 d2 (by omega)
  exact addW m1 m2 (by omega)
theorem sq_nonneg' (x : Int) : 0 ≤ x * x := by
  have := Int.natAbs_mul_self (a := x)
  omega
theorem sq_pos' {x : Int} (h : x ≠ 0) : 0 < x * x := by
  have h1 := Int.natAbs_mul_self (a := x)
  have h2 := Nat.mul_pos (Int.natAbs_pos.2 h) (Int.natAbs_pos.2 h)
  omega
theorem apart_self (f : FieldT) (n : Int) : apart f n n = 0 := by
  unfold apart; rw [Int.sub_self, Int.sub_self]; rfl
theorem apart_pos {f : FieldT} (i : InF f) {k n : Int} (h : k ≠ n) : 0 < apart f k n := by
  have hm := i.m
  have hw := i.w
  have a1 := sq_nonneg' (posR f k - posR f n)
  have a2 := sq_nonneg' (posC f k - posC f n)
  unfold apart
  by_cases hr : posR f k = posR f n
  · by_cases hc : posC f k = posC f n
    · exfalso
      have e1 : k / f.1 = n / f.1 := Int.eq_of_mul_eq_mul_right (by omega) hr
      have e2 : k % f.1 = n % f.1 := Int.eq_of_mul_eq_mul_right (by omega) hc
      have e3 := Int.emod_add_mul_ediv k f.1
      have e4 := Int.emod_add_mul_ediv n f.1
      rw [e1, e2] at e3
      omega
    · have := sq_pos' (x := posC f k - posC f n) (by omega)
      omega
  · have := sq_pos' (x := posR f k - posR f n) (by omega)
    omega
theorem wholeD_0 : WholeD 0 0 := wholeD_zero false 0

theorem near_loop {f : FieldT} (i : InF f) {n : Int} (h0 : 0 ≤ n) (h1 : n < f.1 * f.2.1) : l12_5 ((pos f n, (), -1, 0, 0, ()), f, ()) = some ((n, ()), ()) := by
  obtain ⟨hc, c1, c2⟩ := i.count
  have hw := i.w
  refine iter_ind (q := q12_5 K34 G34 K41 G41 K36 G36 K42 G42 K43 G43)
    (fun v => v.1.1 = pos f n ∧ v.2.1 = f ∧ 0 ≤ v.1.2.2.2.2.1 ∧ v.1.2.2.2.2.1 ≤ f.1 * f.2.1 ∧
      (v.1.2.2.2.2.1 = 0 → v.1.2.2.1 = -1) ∧ (0 < v.1.2.2.2.2.1 → v.1.2.2.2.2.1 ≤ n → 0 ≤ v.1.2.2.1 ∧ ∃ L : Int, WholeD v.1.2.2.2.1 L ∧ 0 < L) ∧ (n < v.1.2.2.2.2.1 → v.1.2.2.1 = n ∧ WholeD v.1.2.2.2.1 0))
    (fun v r => r = some ((n, ()), ())) (fun v => (f.1 * f.2.1 - v.1.2.2.2.2.1).toNat) ?_ _ _ ?_ ?_
  · rintro ⟨⟨p, _, best, least, k, _⟩, g, _⟩ F ⟨e1, e2, k0, kN, i1, i2, i3⟩ hF
    dsimp only at e1 e2 k0 kN i1 i2 i3
    subst e1
    subst e2
    unfold q12_5
    dsimp only
    rw [hc]
    by_cases hk : k < g.1 * g.2.1
    · have d1 : decide (k < g.1 * g.2.1) = true := by simpa using hk
      have e3 := F36_eq g k (by omega)
      have e4 := F42_eq g k n
      have e5 := F43_eq g k n
      have hfar := far_whole i h0 h1 k0 hk
      have e6 : IntKind.i64.wrap (k + 1) = k + 1 := w64 (by omega) (by omega)
      simp only [d1, cond_true, K36, G36, e3, K42, G42, e4, K43, G43, e5, Option.isSome_some, Option.getD_some, e6]
      by_cases hb : best < 0
      · have d2 : decide (best < 0) = true := by simpa using hb
        have hk0 : k = 0 := by
          rcases Int.lt_or_le n k with h | h
          · have := (i3 h).1; omega
          · by_cases hz : 0 < k
            · have := (i2 hz h).1; omega
            · omega
        simp only [d2, cond_true]
        refine hF _ ⟨rfl, rfl, by show 0 ≤ k + 1; omega, by show k + 1 ≤ _; omega, fun h => by have h : k + 1 = 0 := h; omega, fun h1 h2 => ?_, fun h => ?_⟩ ?_
        · have h2 : k + 1 ≤ n := h2
          exact ⟨k0, _, hfar, apart_pos i (by omega)⟩
        · have h : n < k + 1 := h
          have hkn : k = n := by omega
          subst hkn
          rw [apart_self] at hfar
          exact ⟨rfl, hfar⟩
        · show (g.1 * g.2.1 - (k + 1)).toNat < (g.1 * g.2.1 - k).toNat
          omega
      · have d2 : decide (best < 0) = false := by simpa using hb
        have hk0 : 0 < k := by
          rcases Int.lt_or_le 0 k with h | h
          · exact h
          · have := i1 (by omega); omega
        simp only [d2, cond_false]
        rcases Int.lt_or_le n k with hnk | hnk
        · obtain ⟨j1, j2⟩ := i3 hnk
          have d3 : flt .f64 (far g k n) least = false := by
            rw [ltW hfar j2]
            have := apart_pos i (show k ≠ n by omega)
            simp; omega
          simp only [d3, cond_false]
          refine hF _ ⟨rfl, rfl, by show 0 ≤ k + 1; omega, by show k + 1 ≤ _; omega, fun h => by have h : k + 1 = 0 := h; omega, fun h1 h2 => ?_, fun h => ⟨j1, j2⟩⟩ ?_
          · have h2 : k + 1 ≤ n := h2
            omega
          · show (g.1 * g.2.1 - (k + 1)).toNat < (g.1 * g.2.1 - k).toNat
            omega
        · obtain ⟨j1, L, j2, j3⟩ := i2 hk0 hnk
          cases d3 : flt .f64 (far g k n) least with
          | true =>
            simp only [cond_true]
            refine hF _ ⟨rfl, rfl, by show 0 ≤ k + 1; omega, by show k + 1 ≤ _; omega, fun h => by have h : k + 1 = 0 := h; omega, fun h1 h2 => ?_, fun h => ?_⟩ ?_
            · have h2 : k + 1 ≤ n := h2
              exact ⟨k0, _, hfar, apart_pos i (by omega)⟩
            · have h : n < k + 1 := h
              have hkn : k = n := by omega
              subst hkn
              rw [apart_self] at hfar
              exact ⟨rfl, hfar⟩
            · show (g.1 * g.2.1 - (k + 1)).toNat < (g.1 * g.2.1 - k).toNat
              omega
          | false =>
            simp only [cond_false]
            have hkn : k ≠ n := by
              intro e
              subst e
              rw [apart_self] at hfar
              rw [ltW hfar j2] at d3
              simp at d3
              omega
            refine hF _ ⟨rfl, rfl, by show 0 ≤ k + 1; omega, by show k + 1 ≤ _; omega, fun h => by have h : k + 1 = 0 := h; omega, fun h1 h2 => ⟨j1, L, j2, j3⟩, fun h => ?_⟩ ?_
            · have h : n < k + 1 := h
              omega
            · show (g.1 * g.2.1 - (k + 1)).toNat < (g.1 * g.2.1 - k).toNat
              omega
    · have d1 : decide (k < g.1 * g.2.1) = false := by simpa using hk
      obtain ⟨j1, j2⟩ := i3 (by omega)
      simp only [d1, cond_false, j1]
  · refine ⟨rfl, rfl, by simp, by show (0 : Int) ≤ _; omega, fun _ => rfl, fun h => absurd h (by simp), fun h => ?_⟩
    exfalso
    have : n < 0 := h
    omega
  · unfold b12_5
    dsimp only
    have := i.h
    have := i.m
    omega

theorem F12_eq {f : FieldT} (h : HoursG f.2.2.2.1) (hb : fieldOkB f = true) {n : Int} (hn : hasB f n = true) : F12 (f, pos f n, ()) = some (n, ()) := by
  have i := inF hb
  obtain ⟨hc, c1, c2⟩ := i.count
  have hn' : 0 ≤ n ∧ n < f.1 * f.2.1 := by
    simp only [hasB, inB, Bool.and_eq_true, decide_eq_true_eq] at hn
    rw [hc, w64 (by omega) (by omega)] at hn
    omega
  have e1 : F34 (f, ()) = some (fieldOkB f, ()) := F34_eq f h
  have e2 := vec_ok i hn'.1 hn'.2
  have e3 := near_loop i hn'.1 hn'.2
  unfold F12 r12
  simp only [K34, G34, e1, hb, K41, G41, e2, kL12_5, xL12_5, e3, Option.isSome_some, Option.getD_some, cond_true, Bool.not_true, cond_false]

end Go.Proofs.Ytmmdjajebmihhaa.AM
