/- Plainly: the law FnRayCut: a step that is cut in its middle passes the ray of a mark alike. Conditions: what every value that is handed over meets. -/
import Derived.Test.YtibbdoohekjmaaaV1
import Derived.Test.YtibbdoohekjmaaaD0
namespace Go.Proofs.Ytibbdoohekjmaaa.AM
open Go Go.Proofs
set_option linter.unusedVariables false

def X (p : Den S22) : Int := p.1
def Y (p : Den S22) : Int := p.2.1
theorem placeB_iff {p : Den S22} : placeB p = true ↔ (-10000 ≤ X p ∧ X p ≤ 10000) ∧ (-10000 ≤ Y p ∧ Y p ≤ 10000) := by
  unfold placeB inB X Y
  simp only [Bool.and_eq_true, decide_eq_true_eq]

theorem mul_20000 {u v : Int} (h1 : -20000 ≤ u) (h2 : u ≤ 20000) (h3 : -20000 ≤ v) (h4 : v ≤ 20000) : -400000000 ≤ u * v ∧ u * v ≤ 400000000 := by
  have k1 : 0 ≤ (20000 - u) * (20000 - v) := Int.mul_nonneg (by omega) (by omega)
  have k2 : 0 ≤ (20000 + u) * (20000 + v) := Int.mul_nonneg (by omega) (by omega)
  have k3 : 0 ≤ (20000 - u) * (20000 + v) := Int.mul_nonneg (by omega) (by omega)
  have k4 : 0 ≤ (20000 + u) * (20000 - v) := Int.mul_nonneg (by omega) (by omega)
  simp only [Int.sub_mul, Int.add_mul, Int.mul_sub, Int.mul_add] at k1 k2 k3 k4
  omega

theorem mul_big {u v : Int} (h1 : -800000000 ≤ u) (h2 : u ≤ 800000000) (h3 : -800000000 ≤ v) (h4 : v ≤ 800000000) : -640000000000000000 ≤ u * v ∧ u * v ≤ 640000000000000000 := by
  have k1 : 0 ≤ (800000000 - u) * (800000000 - v) := Int.mul_nonneg (by omega) (by omega)
  have k2 : 0 ≤ (800000000 + u) * (800000000 + v) := Int.mul_nonneg (by omega) (by omega)
  have k3 : 0 ≤ (800000000 - u) * (800000000 + v) := Int.mul_nonneg (by omega) (by omega)
  have k4 : 0 ≤ (800000000 + u) * (800000000 - v) := Int.mul_nonneg (by omega) (by omega)
  simp only [Int.sub_mul, Int.add_mul, Int.mul_sub, Int.mul_add] at k1 k2 k3 k4
  omega

/-- The cross and the dot of a place, as a mark sees it. -/
def hI (o m p : Den S22) : Int := (X m - X o) * (Y p - Y m) - (Y m - Y o) * (X p - X m)
def uI (o m p : Den S22) : Int := (X m - X o) * (X p - X m) + (Y m - Y o) * (Y p - Y m)

theorem hI_eq {o m p : Den S22} (ho : placeB o = true) (hm : placeB m = true) (hp : placeB p = true) : (G46 (o, m, m, p, ())).1 = hI o m p ∧ -800000000 ≤ hI o m p ∧ hI o m p ≤ 800000000 := by
  rw [placeB_iff] at ho hm hp
  have e : (G46 (o, m, m, p, ())).1 = IntKind.i64.wrap (IntKind.i64.wrap (IntKind.i64.wrap (X m - X o) * IntKind.i64.wrap (Y p - Y m)) - IntKind.i64.wrap (IntKind.i64.wrap (Y m - Y o) * IntKind.i64.wrap (X p - X m))) := rfl
  unfold hI
  have w1 : IntKind.i64.wrap (X m - X o) = X m - X o := w64 (by omega) (by omega)
  have w2 : IntKind.i64.wrap (Y p - Y m) = Y p - Y m := w64 (by omega) (by omega)
  have w3 : IntKind.i64.wrap (Y m - Y o) = Y m - Y o := w64 (by omega) (by omega)
  have w4 : IntKind.i64.wrap (X p - X m) = X p - X m := w64 (by omega) (by omega)
  have b1 := mul_20000 (u := X m - X o) (v := Y p - Y m) (by omega) (by omega) (by omega) (by omega)
  have b2 := mul_20000 (u := Y m - Y o) (v := X p - X m) (by omega) (by omega) (by omega) (by omega)
  have w5 : IntKind.i64.wrap ((X m - X o) * (Y p - Y m)) = (X m - X o) * (Y p - Y m) := w64 (by omega) (by omega)
  have w6 : IntKind.i64.wrap ((Y m - Y o) * (X p - X m)) = (Y m - Y o) * (X p - X m) := w64 (by omega) (by omega)
  rw [w1, w2, w3, w4, w5, w6, w64 (by omega) (by omega)] at e
  exact ⟨e, by omega, by omega⟩

theorem uI_eq {o m p : Den S22} (ho : placeB o = true) (hm : placeB m = true) (hp : placeB p = true) : (G47 (o, m, m, p, ())).1 = uI o m p ∧ -800000000 ≤ uI o m p ∧ uI o m p ≤ 800000000 := by
  rw [placeB_iff] at ho hm hp
  have e : (G47 (o, m, m, p, ())).1 = IntKind.i64.wrap (IntKind.i64.wrap (IntKind.i64.wrap (X m - X o) * IntKind.i64.wrap (X p - X m)) + IntKind.i64.wrap (IntKind.i64.wrap (Y m - Y o) * IntKind.i64.wrap (Y p - Y m))) := rfl
  unfold uI
  have w1 : IntKind.i64.wrap (X m - X o) = X m - X o := w64 (by omega) (by omega)
  have w2 : IntKind.i64.wrap (X p - X m) = X p - X m := w64 (by omega) (by omega)
  have w3 : IntKind.i64.wrap (Y m - Y o) = Y m - Y o := w64 (by omega) (by omega)
  have w4 : IntKind.i64.wrap (Y p - Y m) = Y p - Y m := w64 (by omega) (by omega)
  have b1 := mul_20000 (u := X m - X o) (v := X p - X m) (by omega) (by omega) (by omega) (by omega)
  have b2 := mul_20000 (u := Y m - Y o) (v := Y p - Y m) (by omega) (by omega) (by omega) (by omega)
  have w5 : IntKind.i64.wrap ((X m - X o) * (X p - X m)) = (X m - X o) * (X p - X m) := w64 (by omega) (by omega)
  have w6 : IntKind.i64.wrap ((Y m - Y o) * (Y p - Y m)) = (Y m - Y o) * (Y p - Y m) := w64 (by omega) (by omega)
  rw [w1, w2, w3, w4, w5, w6, w64 (by omega) (by omega)] at e
  exact ⟨e, by omega, by omega⟩

/-- How a step passes a ray, from crosses and dots. -/
def passI (h k u v : Int) : Int := if (v * h - u * k < 0 ∧ h > k) ∨ (v * h - u * k > 0 ∧ h < k) then 0 else if h > 0 ∧ k ≤ 0 then 1 else if h ≤ 0 ∧ k > 0 then -1 else 0

theorem pass_no {o m a b : Den S22} (h : (placeB o && (placeB m && (placeB a && (placeB b && !eqP o m)))) = false) : passN o m a b = 0 := by
  unfold passN G13 F13 r13
  simp only [K18_t, K46_t, K47_t, cond_true, G18_eq]
  have hq : eqP o m = (o.1 == m.1 && o.2.1 == m.2.1) := rfl
  rw [hq] at h
  cases h1 : placeB o
  · rfl
  cases h2 : placeB m
  · rfl
  cases h3 : placeB a
  · rfl
  cases h4 : placeB b
  · rfl
  rw [h1, h2, h3, h4] at h
  simp only [Bool.true_and, Bool.not_eq_false'] at h
  simp only [Bool.not_true, cond_false, h, cond_true]
  rfl

theorem pass_yes {o m a b : Den S22} (ho : placeB o = true) (hm : placeB m = true) (ha : placeB a = true) (hb : placeB b = true) (hq : eqP o m = false) : passN o m a b = passI (hI o m a) (hI o m b) (uI o m a) (uI o m b) := by
  unfold passN G13 F13 r13
  have hq' : (o.1 == m.1 && o.2.1 == m.2.1) = false := hq
  simp only [K18_t, K46_t, K47_t, cond_true, G18_eq, ho, hm, ha, hb, Bool.not_true, cond_false, hq']
  obtain ⟨e1, l1, u1⟩ := hI_eq ho hm ha
  obtain ⟨e2, l2, u2⟩ := hI_eq ho hm hb
  obtain ⟨e3, l3, u3⟩ := uI_eq ho hm ha
  obtain ⟨e4, l4, u4⟩ := uI_eq ho hm hb
  simp only [e1, e2, e3, e4]
  generalize hI o m a = h at *
  generalize hI o m b = k at *
  generalize uI o m a = u at *
  generalize uI o m b = v at *
  have b1 := mul_big l4 u4 l1 u1
  have b2 := mul_big l3 u3 l2 u2
  have w1 : IntKind.i64.wrap (v * h) = v * h := w64 (by omega) (by omega)
  have w2 : IntKind.i64.wrap (u * k) = u * k := w64 (by omega) (by omega)
  have w3 : IntKind.i64.wrap (v * h - u * k) = v * h - u * k := w64 (by omega) (by omega)
  simp only [w1, w2, w3]
  unfold passI
  by_cases c1 : v * h - u * k < 0 <;> by_cases c2 : h > k <;> by_cases c3 : v * h - u * k > 0 <;> by_cases c4 : h < k <;> by_cases c5 : h > 0 <;> by_cases c6 : k ≤ 0 <;> by_cases c7 : h ≤ 0 <;> by_cases c8 : k > 0 <;>
    first | omega | (simp only [c1, c2, c3, c4, c5, c6, c7, c8, decide_true, decide_false, cond_true, cond_false, and_true, and_false, or_true, or_false, if_true, if_false, Option.getD_some])

def sI (x : Int) : Int := if x > 0 then 1 else 0
theorem passI_g {h k u v w : Int} (e : v * h - u * k = w) : passI h k u v = if (w < 0 ∧ h > k) ∨ (w > 0 ∧ h < k) then 0 else sI h - sI k := by
  subst e
  unfold passI sI
  split
  · rfl
  · (repeat' split) <;> omega

theorem pass_cut (h0 t u0 r : Int) : passI h0 (h0 + 2 * t) u0 (u0 + 2 * r) = passI h0 (h0 + t) u0 (u0 + r) + passI (h0 + t) (h0 + 2 * t) (u0 + r) (u0 + 2 * r) := by
  have n1 : (u0 + 2 * r) * h0 - u0 * (h0 + 2 * t) = 2 * (r * h0 - u0 * t) := by
    simp only [Int.add_mul, Int.mul_add, Int.mul_sub, Int.mul_assoc]
    have : u0 * (2 * t) = 2 * (u0 * t) := by rw [← Int.mul_assoc, Int.mul_comm u0 2, Int.mul_assoc]
    omega
  have n2 : (u0 + r) * h0 - u0 * (h0 + t) = r * h0 - u0 * t := by
    simp only [Int.add_mul, Int.mul_add]
    omega
  have n3 : (u0 + 2 * r) * (h0 + t) - (u0 + r) * (h0 + 2 * t) = r * h0 - u0 * t := by
    simp only [Int.add_mul, Int.mul_add, Int.mul_assoc]
    have e1 : u0 * (2 * t) = 2 * (u0 * t) := by rw [← Int.mul_assoc, Int.mul_comm u0 2, Int.mul_assoc]
    have e2 : r * (2 * t) = 2 * (r * t) := by rw [← Int.mul_assoc, Int.mul_comm r 2, Int.mul_assoc]
    omega
  rw [passI_g n1, passI_g n2, passI_g n3]
  generalize r * h0 - u0 * t = w
  by_cases c : (w < 0 ∧ t < 0) ∨ (w > 0 ∧ t > 0)
  · rw [if_pos (by omega), if_pos (by omega), if_pos (by omega)]; rfl
  · rw [if_neg (by omega), if_neg (by omega), if_neg (by omega)]; omega

/-! ## The middle -/

theorem half (d : Int) : (0 ≤ d → 0 ≤ Int.tdiv d 2 ∧ 2 * Int.tdiv d 2 ≤ d) ∧ (d ≤ 0 → d ≤ 2 * Int.tdiv d 2 ∧ Int.tdiv d 2 ≤ 0) := by
  constructor
  · intro h
    rw [Int.tdiv_eq_ediv_of_nonneg h]
    omega
  · intro h
    have e : Int.tdiv d 2 = -(Int.tdiv (-d) 2) := by rw [Int.neg_tdiv, Int.neg_neg]
    rw [e, Int.tdiv_eq_ediv_of_nonneg (by omega)]
    omega

theorem middle_ok {a b : Den S22} (ha : placeB a = true) (hb : placeB b = true) : ∃ dx dy : Int, ∃ m u : Den S22, F19 (a, b, ()) = some (m, u, ()) ∧ X m = X a + dx ∧ Y m = Y a + dy ∧ X u = X a + 2 * dx ∧ Y u = Y a + 2 * dy ∧ placeB m = true ∧ placeB u = true := by
  rw [placeB_iff] at ha hb
  obtain ⟨h1, h2⟩ := half (X b - X a)
  obtain ⟨h3, h4⟩ := half (Y b - Y a)
  have e : F19 (a, b, ()) = some ((IntKind.i64.wrap (X a + IntKind.i64.wrap (Int.tdiv (IntKind.i64.wrap (X b - X a)) 2)), IntKind.i64.wrap (Y a + IntKind.i64.wrap (Int.tdiv (IntKind.i64.wrap (Y b - Y a)) 2)), ()),
      (IntKind.i64.wrap (X a + IntKind.i64.wrap (2 * IntKind.i64.wrap (Int.tdiv (IntKind.i64.wrap (X b - X a)) 2))), IntKind.i64.wrap (Y a + IntKind.i64.wrap (2 * IntKind.i64.wrap (Int.tdiv (IntKind.i64.wrap (Y b - Y a)) 2))), ()), ()) := rfl
  have w1 : IntKind.i64.wrap (X b - X a) = X b - X a := w64 (by omega) (by omega)
  have w2 : IntKind.i64.wrap (Y b - Y a) = Y b - Y a := w64 (by omega) (by omega)
  rw [w1, w2] at e
  generalize Int.tdiv (X b - X a) 2 = dx at *
  generalize Int.tdiv (Y b - Y a) 2 = dy at *
  have w3 : IntKind.i64.wrap dx = dx := w64 (by omega) (by omega)
  have w4 : IntKind.i64.wrap dy = dy := w64 (by omega) (by omega)
  have w5 : IntKind.i64.wrap (2 * dx) = 2 * dx := w64 (by omega) (by omega)
  have w6 : IntKind.i64.wrap (2 * dy) = 2 * dy := w64 (by omega) (by omega)
  have w7 : IntKind.i64.wrap (X a + dx) = X a + dx := w64 (by omega) (by omega)
  have w8 : IntKind.i64.wrap (Y a + dy) = Y a + dy := w64 (by omega) (by omega)
  have w9 : IntKind.i64.wrap (X a + 2 * dx) = X a + 2 * dx := w64 (by omega) (by omega)
  have w0 : IntKind.i64.wrap (Y a + 2 * dy) = Y a + 2 * dy := w64 (by omega) (by omega)
  rw [w3, w4, w5, w6, w7, w8, w9, w0] at e
  refine ⟨dx, dy, _, _, e, rfl, rfl, rfl, rfl, ?_, ?_⟩
  · rw [placeB_iff]
    show (-10000 ≤ X a + dx ∧ X a + dx ≤ 10000) ∧ (-10000 ≤ Y a + dy ∧ Y a + dy ≤ 10000)
    omega
  · rw [placeB_iff]
    show (-10000 ≤ X a + 2 * dx ∧ X a + 2 * dx ≤ 10000) ∧ (-10000 ≤ Y a + 2 * dy ∧ Y a + 2 * dy ≤ 10000)
    omega

theorem pass_bound (o m a b : Den S22) : -1 ≤ passN o m a b ∧ passN o m a b ≤ 1 := by
  cases h : (placeB o && (placeB m && (placeB a && (placeB b && !eqP o m)))) with
  | false => rw [pass_no h]; decide
  | true =>
    simp only [Bool.and_eq_true, Bool.not_eq_true'] at h
    rw [pass_yes h.1 h.2.1 h.2.2.1 h.2.2.2.1 h.2.2.2.2]
    unfold passI
    (repeat' split) <;> decide

theorem noB {a b e : Bool} (h : (a && (b && !e)) = false) (c d : Bool) : (a && (b && (c && (d && !e)))) = false := by
  cases a <;> cases b <;> cases c <;> cases d <;> cases e <;> simp_all

theorem ray_cut {a b o k : Den S22} (ha : placeB a = true) (hb : placeB b = true) : ∃ m u : Den S22, F19 (a, b, ()) = some (m, u, ()) ∧ passN o k a u = IntKind.i64.wrap (passN o k a m + passN o k m u) := by
  obtain ⟨dx, dy, m, u, e, h1, h2, h3, h4, hm, hu⟩ := middle_ok ha hb
  refine ⟨m, u, e, ?_⟩
  cases hq : (placeB o && (placeB k && !eqP o k)) with
  | false =>
    have z : ∀ p q, passN o k p q = 0 := fun p q => pass_no (noB hq _ _)
    rw [z, z, z]; rfl
  | true =>
    simp only [Bool.and_eq_true, Bool.not_eq_true'] at hq
    have hb1 := pass_bound o k a m
    have hb2 := pass_bound o k m u
    rw [w64 (by omega) (by omega), pass_yes hq.1 hq.2.1 ha hu hq.2.2, pass_yes hq.1 hq.2.1 ha hm hq.2.2, pass_yes hq.1 hq.2.1 hm hu hq.2.2]
    have f1 : hI o k m = hI o k a + ((X k - X o) * dy - (Y k - Y o) * dx) := by
      unfold hI
      rw [h1, h2]
      have e1 : Y a + dy - Y k = (Y a - Y k) + dy := by omega
      have e2 : X a + dx - X k = (X a - X k) + dx := by omega
      rw [e1, e2, Int.mul_add, Int.mul_add]
      omega
    have f2 : hI o k u = hI o k a + 2 * ((X k - X o) * dy - (Y k - Y o) * dx) := by
      unfold hI
      rw [h3, h4]
      have e1 : Y a + 2 * dy - Y k = (Y a - Y k) + (dy + dy) := by omega
      have e2 : X a + 2 * dx - X k = (X a - X k) + (dx + dx) := by omega
      rw [e1, e2, Int.mul_add, Int.mul_add, Int.mul_add, Int.mul_add]
      omega
    have f3 : uI o k m = uI o k a + ((X k - X o) * dx + (Y k - Y o) * dy) := by
      unfold uI
      rw [h1, h2]
      have e1 : Y a + dy - Y k = (Y a - Y k) + dy := by omega
      have e2 : X a + dx - X k = (X a - X k) + dx := by omega
      rw [e1, e2, Int.mul_add, Int.mul_add]
      omega
    have f4 : uI o k u = uI o k a + 2 * ((X k - X o) * dx + (Y k - Y o) * dy) := by
      unfold uI
      rw [h3, h4]
      have e1 : Y a + 2 * dy - Y k = (Y a - Y k) + (dy + dy) := by omega
      have e2 : X a + 2 * dx - X k = (X a - X k) + (dx + dx) := by omega
      rw [e1, e2, Int.mul_add, Int.mul_add, Int.mul_add, Int.mul_add]
      omega
    rw [f1, f2, f3, f4]
    exact pass_cut _ _ _ _

/-! ## Draws -/

theorem place_ok (x : I53.den) (h : CurOk x.2.1) : K53 x = true ∧ CurOk (G53 x).2.1 := by
  unfold K53 G53 F53 r53
  have k1 := K54_ok (((), 40, ()), x.2) h
  have c1 := G54_cur (((), 40, ()), x.2) h
  simp only [k1, cond_true]
  generalize G54 (((), 40, ()), x.2) = g1 at *
  cases g1.1.1
  · simp only [cond_false]
    have k2 := K85_ok (((), (), ()), g1.2.1, (((List.replicate 3 (zero (Ty.int IntKind.i64))).set 0 4).set 1 20).set 2 400, ()) c1 (by simp)
    have c2 := G85_cur (((), (), ()), g1.2.1, (((List.replicate 3 (zero (Ty.int IntKind.i64))).set 0 4).set 1 20).set 2 400, ()) c1 (by simp)
    simp only [k2, cond_true]
    generalize G85 (((), (), ()), g1.2.1, (((List.replicate 3 (zero (Ty.int IntKind.i64))).set 0 4).set 1 20).set 2 400, ()) = g2 at *
    generalize IntKind.i64.wrap (IntKind.i64.wrap (2 * g2.1.1) + 1) = n
    have k3 := K73_ok (((), n, ()), g2.2.1, ()) c2
    have c3 := G73_cur (((), n, ()), g2.2.1, ()) c2
    simp only [k3, cond_true]
    have k4 := K73_ok (((), n, ()), (G73 (((), n, ()), g2.2.1, ())).2) c3
    have c4 := G73_cur (((), n, ()), (G73 (((), n, ()), g2.2.1, ())).2) c3
    simp only [k4, cond_true, Option.isSome_some, Option.getD_some]
    exact ⟨trivial, c4⟩
  · simp only [cond_true]
    have k2 := K85_ok (((), (), ()), g1.2.1, ((((List.replicate 4 (zero (Ty.int IntKind.i64))).set 0 10000).set 1 (-10000)).set 2 10001).set 3 9223372036854775807, ()) c1 (by simp)
    have c2 := G85_cur (((), (), ()), g1.2.1, ((((List.replicate 4 (zero (Ty.int IntKind.i64))).set 0 10000).set 1 (-10000)).set 2 10001).set 3 9223372036854775807, ()) c1 (by simp)
    simp only [k2, cond_true]
    generalize G85 (((), (), ()), g1.2.1, ((((List.replicate 4 (zero (Ty.int IntKind.i64))).set 0 10000).set 1 (-10000)).set 2 10001).set 3 9223372036854775807, ()) = g2 at *
    have k3 := K85_ok (((), (), ()), g2.2.1, (((List.replicate 3 (zero (Ty.int IntKind.i64))).set 0 10000).set 1 0).set 2 (-10001), ()) c2 (by simp)
    have c3 := G85_cur (((), (), ()), g2.2.1, (((List.replicate 3 (zero (Ty.int IntKind.i64))).set 0 10000).set 1 0).set 2 (-10001), ()) c2 (by simp)
    simp only [k3, cond_true, Option.isSome_some, Option.getD_some]
    exact ⟨trivial, c3⟩

theorem K17_ok (x : Den A17) (h : x.1.length ≤ 1048576) : K17 x = true := by
  unfold K17 F17 r17
  have k0 := K52_ok (x, ()) h
  have c0 := G52_cur (x, ()) h
  simp only [k0, cond_true]
  generalize G52 (x, ()) = g0 at *
  obtain ⟨k1, c1⟩ := place_ok (((), ()), g0.2) c0
  simp only [k1, cond_true]
  generalize G53 (((), ()), g0.2) = g1 at *
  obtain ⟨k2, c2⟩ := place_ok (((), ()), g1.2) c1
  simp only [k2, cond_true]
  generalize G53 (((), ()), g1.2) = g2 at *
  have k3 := K54_ok (((), 4, ()), g2.2) c2
  have c3 := G54_cur (((), 4, ()), g2.2) c2
  simp only [k3, cond_true]
  generalize G54 (((), 4, ()), g2.2) = g3 at *
  obtain ⟨k4, c4⟩ := place_ok (((), ()), g3.2) c3
  simp only [k4, cond_true]
  generalize G53 (((), ()), g3.2) = g4 at *
  obtain ⟨k5, c5⟩ := place_ok (((), ()), g4.2) c4
  simp only [k5, cond_true]
  cases g3.1.1 <;> simp only [cond_true, cond_false, Option.isSome_some]

theorem F16_eq (x : Den A16) : F16 x = some (decide ((x.1.length : Int) > 1048576), ()) := rfl

theorem rayCut (x : Den A4) (w : Wf A4 x) : F4 x = some (true, ()) := by
  unfold F4 r4
  simp only [K16, G16, F16_eq, Option.isSome_some, Option.getD_some, cond_true]
  by_cases h0 : (x.1.length : Int) > 1048576
  · simp only [h0, decide_true, cond_true]
  · simp only [h0, decide_false, cond_false]
    have k17 := K17_ok x (by omega)
    simp only [k17, cond_true]
    generalize G17 x = d
    obtain ⟨o, m, a, b, _⟩ := d
    simp only [K18_t, G18_eq, cond_true, K15, G15, F15_eq, K13, G13, F13_eq, Option.isSome_some, Option.getD_some]
    cases ha : placeB a with
    | false =>
      have z : passN o m a b = 0 := pass_no (by rw [ha]; cases placeB o <;> cases placeB m <;> rfl)
      simp only [Bool.not_false, cond_true, z]; rfl
    | true =>
      simp only [Bool.not_true, cond_false]
      cases hb : placeB b with
      | false =>
        have z : passN o m a b = 0 := pass_no (by rw [ha, hb]; cases placeB o <;> cases placeB m <;> rfl)
        simp only [Bool.not_false, cond_true, z]; rfl
      | true =>
        obtain ⟨c, u, e, hc⟩ := ray_cut (o := o) (k := m) ha hb
        have e' : F19 (a, b, ()) = some (c, u, ()) := e
        simp only [Bool.not_true, cond_false, K19, G19, e', Option.isSome_some, Option.getD_some, cond_true, hc, beq_self_eq_true]

end Go.Proofs.Ytibbdoohekjmaaa.AM
