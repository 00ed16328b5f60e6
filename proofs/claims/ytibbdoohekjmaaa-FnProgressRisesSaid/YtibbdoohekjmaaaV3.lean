/- Plainly: crossings of a line, and when: both texts answer alike. Conditions: those that each lemma names. -/
import Derived.Test.YtibbdoohekjmaaaV2
namespace Go.Proofs.Ytibbdoohekjmaaa.AM
open Go Go.Proofs
set_option linter.unusedVariables false

theorem K92_t (x : Den A92) : K92 x = true := rfl
theorem K95_t (x : Den A95) : K95 x = true := rfl
theorem G95_eq (x : Den A95) : G95 x = G92 x := rfl
theorem K57_t (x : Den A57) : K57 x = true := by unfold K57; rw [F57_eq]; rfl
theorem K61_t (x : Den A61) : K61 x = true := by unfold K61; rw [F61_eq]; rfl
theorem G57_eq (x : Den A57) : G57 x = (lineB x.1, ()) := by unfold G57; rw [F57_eq]; rfl
theorem G61_eq (x : Den A61) : G61 x = (lineB x.1, ()) := by unfold G61; rw [F61_eq]; rfl

/-- The height over a line. -/
def hN (l : Den S42) (p : Den S22) : Int := (G92 (l, p, ())).1

def sideN (l : Den S42) (p : Den S22) : Int := bif lineB l && placeB p then (bif decide (hN l p < 0) then 1 else bif decide (hN l p > 0) then -1 else 0) else 0
theorem F93_eq (x : Den A93) : F93 x = some (sideN x.1 x.2.1, ()) := by
  unfold F93 r93 sideN hN
  simp only [K57_t, G57_eq, K18_t, G18_eq, K92_t, cond_true]
  have e : G92 (x.1, x.2.1, ()) = G92 x := rfl
  rw [e]
  cases lineB x.1 <;> cases placeB x.2.1 <;> cases decide ((G92 x).1 < 0) <;> cases decide ((G92 x).1 > 0) <;> rfl
theorem F94_eq (x : Den A94) : F94 x = some (sideN x.1 x.2.1, ()) := by
  have e : hN x.1 x.2.1 = (G95 x).1 := rfl
  unfold F94 r94 sideN
  simp only [K61_t, G61_eq, K48_t, G48_eq, K95_t, cond_true, e]
  cases lineB x.1 <;> cases placeB x.2.1 <;> cases decide ((G95 x).1 < 0) <;> cases decide ((G95 x).1 > 0) <;> rfl
theorem K93_t (x : Den A93) : K93 x = true := by unfold K93; rw [F93_eq]; rfl
theorem G93_eq (x : Den A93) : G93 x = (sideN x.1 x.2.1, ()) := by unfold G93; rw [F93_eq]; rfl
theorem K94_t (x : Den A94) : K94 x = true := by unfold K94; rw [F94_eq]; rfl
theorem G94_eq (x : Den A94) : G94 x = (sideN x.1 x.2.1, ()) := by unfold G94; rw [F94_eq]; rfl

/-- Whether both ends of a line lie on one side of a step. -/
def asideB (l : Den S42) (a b : Den S22) : Bool :=
  (decide ((G46 (a, b, a, l.1, ())).1 > 0) && decide ((G46 (a, b, a, l.2.1, ())).1 > 0)) || (decide ((G46 (a, b, a, l.1, ())).1 < 0) && decide ((G46 (a, b, a, l.2.1, ())).1 < 0))
def crossN (l : Den S42) (a b : Den S22) : Int :=
  bif lineB l && (placeB a && (placeB b && !asideB l a b)) then
    (bif decide (sideN l a ≤ 0) && (sideN l b == 1) then 1 else bif (sideN l a == 1) && decide (sideN l b ≤ 0) then -1 else 0) else 0

theorem F77_eq (x : Den A77) : F77 x = some (crossN x.1 x.2.1 x.2.2.1, ()) := by
  unfold F77 r77 crossN asideB
  simp only [K57_t, G57_eq, K18_t, G18_eq, K46_t, K93_t, G93_eq, cond_true]
  have e2 : G46 (x.2.1, x.2.2.1, x.2.1, x.1.2.1, ()) = G46 (x.2.1, x.2.2.1, x.2.1, x.1.2) := rfl
  rw [e2]
  generalize sideN x.1 x.2.1 = s
  generalize sideN x.1 x.2.2.1 = t
  generalize (G46 (x.2.1, x.2.2.1, x.2.1, x.1.1, ())).1 = p
  generalize (G46 (x.2.1, x.2.2.1, x.2.1, x.1.2)).1 = q
  cases lineB x.1
  · rfl
  cases placeB x.2.1
  · rfl
  cases placeB x.2.2.1
  · rfl
  cases decide (p > 0) <;> cases decide (q > 0) <;> cases decide (p < 0) <;> cases decide (q < 0) <;> cases decide (s ≤ 0) <;> cases (t == 1) <;> cases (s == 1) <;> cases decide (t ≤ 0) <;> rfl

theorem F81_eq (x : Den A81) : F81 x = some (crossN x.1 x.2.1 x.2.2.1, ()) := by
  rw [← F77_eq]
  unfold F81 r81 F77 r77
  simp only [K57_t, G57_eq, K18_t, G18_eq, K46_t, K93_t, G93_eq, K61_t, G61_eq, K48_t, G48_eq, K49_t, K50_t, K94_t, G94_eq, cond_true]
  have e1 : (G50 ((G49 (x.2.2.1, x.2.1, ())).1, G49 (x.1.1, x.2.1, ()))) = G46 (x.2.1, x.2.2.1, x.2.1, x.1.1, ()) := rfl
  have e2 : (G50 ((G49 (x.2.2.1, x.2.1, ())).1, G49 (x.1.2.1, x.2.1, ()))) = G46 (x.2.1, x.2.2.1, x.2.1, x.1.2) := rfl
  simp only [e1, e2]

theorem K77_t (x : Den A77) : K77 x = true := by unfold K77; rw [F77_eq]; rfl
theorem G77_eq (x : Den A77) : G77 x = (crossN x.1 x.2.1 x.2.2.1, ()) := by unfold G77; rw [F77_eq]; rfl
theorem K81_t (x : Den A81) : K81 x = true := by unfold K81; rw [F81_eq]; rfl
theorem G81_eq (x : Den A81) : G81 x = (crossN x.1 x.2.1 x.2.2.1, ()) := by unfold G81; rw [F81_eq]; rfl

/-! ## When a line is crossed -/

theorem hN_eq (l : Den S42) (p : Den S22) (hl : lineB l = true) (hp : placeB p = true) :
    hN l p = (l.2.1.1 - l.1.1) * (p.2.1 - l.1.2.1) - (l.2.1.2.1 - l.1.2.1) * (p.1 - l.1.1) ∧ -1600000000 ≤ hN l p ∧ hN l p ≤ 1600000000 := by
  simp only [lineB, placeB, inB, Bool.and_eq_true, decide_eq_true_eq] at hl hp
  obtain ⟨⟨⟨a1, a2⟩, a3, a4⟩, ⟨⟨b1, b2⟩, b3, b4⟩, _⟩ := hl
  obtain ⟨⟨c1, c2⟩, c3, c4⟩ := hp
  have e : hN l p = IntKind.i64.wrap (IntKind.i64.wrap (IntKind.i64.wrap (l.2.1.1 - l.1.1) * IntKind.i64.wrap (p.2.1 - l.1.2.1)) - IntKind.i64.wrap (IntKind.i64.wrap (l.2.1.2.1 - l.1.2.1) * IntKind.i64.wrap (p.1 - l.1.1))) := rfl
  generalize l.1.1 = px at *
  generalize l.1.2.1 = py at *
  generalize l.2.1.1 = sx at *
  generalize l.2.1.2.1 = sy at *
  generalize p.1 = x at *
  generalize p.2.1 = y at *
  have bd : ∀ u v : Int, -20000 ≤ u → u ≤ 20000 → -20000 ≤ v → v ≤ 20000 → -400000000 ≤ u * v ∧ u * v ≤ 400000000 := by
    intro u v h1 h2 h3 h4
    have k1 : 0 ≤ (20000 - u) * (20000 - v) := Int.mul_nonneg (by omega) (by omega)
    have k2 : 0 ≤ (20000 + u) * (20000 + v) := Int.mul_nonneg (by omega) (by omega)
    have k3 : 0 ≤ (20000 - u) * (20000 + v) := Int.mul_nonneg (by omega) (by omega)
    have k4 : 0 ≤ (20000 + u) * (20000 - v) := Int.mul_nonneg (by omega) (by omega)
    simp only [Int.sub_mul, Int.add_mul, Int.mul_sub, Int.mul_add] at k1 k2 k3 k4
    omega
  have w1 : IntKind.i64.wrap (sx - px) = sx - px := w64 (by omega) (by omega)
  have w2 : IntKind.i64.wrap (y - py) = y - py := w64 (by omega) (by omega)
  have w3 : IntKind.i64.wrap (sy - py) = sy - py := w64 (by omega) (by omega)
  have w4 : IntKind.i64.wrap (x - px) = x - px := w64 (by omega) (by omega)
  have b1 := bd (sx - px) (y - py) (by omega) (by omega) (by omega) (by omega)
  have b2 := bd (sy - py) (x - px) (by omega) (by omega) (by omega) (by omega)
  have w5 : IntKind.i64.wrap ((sx - px) * (y - py)) = (sx - px) * (y - py) := w64 (by omega) (by omega)
  have w6 : IntKind.i64.wrap ((sy - py) * (x - px)) = (sy - py) * (x - px) := w64 (by omega) (by omega)
  rw [w1, w2, w3, w4, w5, w6, w64 (by omega) (by omega)] at e
  rw [e]
  exact ⟨rfl, by omega, by omega⟩

/-- A crossing, as the heights tell it. -/
theorem crossN_ne {l : Den S42} {a b : Den S22} (h : crossN l a b ≠ 0) : lineB l = true ∧ placeB a = true ∧ placeB b = true ∧ ((0 ≤ hN l a ∧ hN l b < 0) ∨ (hN l a < 0 ∧ 0 ≤ hN l b)) := by
  unfold crossN at h
  cases h1 : lineB l
  · rw [h1] at h; exact absurd rfl h
  cases h2 : placeB a
  · rw [h1, h2] at h; exact absurd rfl h
  cases h3 : placeB b
  · rw [h1, h2, h3] at h; exact absurd rfl h
  refine ⟨rfl, rfl, rfl, ?_⟩
  have sa : sideN l a = bif decide (hN l a < 0) then 1 else bif decide (hN l a > 0) then -1 else 0 := by unfold sideN; rw [h1, h2]; rfl
  have sb : sideN l b = bif decide (hN l b < 0) then 1 else bif decide (hN l b > 0) then -1 else 0 := by unfold sideN; rw [h1, h3]; rfl
  rw [sa, sb] at h
  by_cases p1 : hN l a < 0 <;> by_cases q1 : hN l b < 0
  · simp [p1, q1] at h
  · exact .inr ⟨p1, by omega⟩
  · exact .inl ⟨by omega, q1⟩
  · exfalso
    apply h
    by_cases p2 : hN l a > 0 <;> by_cases q2 : hN l b > 0 <;> simp [p1, q1, p2, q2]

def pair (s t : Den S95) : List (Den S95) := [s, t]

theorem up_eq {n d : Int} (hn : 0 ≤ n) (hd : 0 < d) (hb : n ≤ 100000000000000000) (hb2 : d ≤ 10000000000) :
    IntKind.i64.wrap (Int.tdiv (n + d - 1) d) = (bif decide (Int.tmod n d > 0) then IntKind.i64.wrap (IntKind.i64.wrap (Int.tdiv n d) + 1) else IntKind.i64.wrap (Int.tdiv n d)) := by
  have hq : 0 ≤ n / d ∧ n / d ≤ n := ⟨Int.ediv_nonneg hn (by omega), Int.ediv_le_self _ hn⟩
  have e1 : Int.tdiv n d = n / d := Int.tdiv_eq_ediv_of_nonneg hn
  have e2 : Int.tmod n d = n % d := Int.tmod_eq_emod_of_nonneg hn
  have e3 : Int.tdiv (n + d - 1) d = (n + d - 1) / d := Int.tdiv_eq_ediv_of_nonneg (by omega)
  have e4 := Int.emod_nonneg n (by omega : d ≠ 0)
  have e5 := Int.emod_lt_of_pos n hd
  have e6 := Int.emod_add_mul_ediv n d
  rw [e1, e2, e3]
  by_cases hm : n % d > 0
  · have : (n + d - 1) / d = n / d + 1 := by
      have h1 : n + d - 1 = (n % d - 1) + d * (n / d + 1) := by rw [Int.mul_add]; omega
      rw [h1, Int.add_mul_ediv_left _ _ (by omega), Int.ediv_eq_zero_of_lt (by omega) (by omega)]
      omega
    simp only [hm, decide_true, cond_true]
    have w1 : IntKind.i64.wrap (n / d) = n / d := w64 (by omega) (by omega)
    rw [this, w1]
  · have : (n + d - 1) / d = n / d := by
      have h1 : n + d - 1 = (d - 1) + d * (n / d) := by omega
      rw [h1, Int.add_mul_ediv_left _ _ (by omega), Int.ediv_eq_zero_of_lt (by omega) (by omega)]
      omega
    simp only [hm, decide_false, cond_false]
    rw [this]

theorem F96_eq (n d : Int) (hd : d ≠ 0) (hs : (0 ≤ n ∧ 0 < d) ∨ (n ≤ 0 ∧ d < 0)) (hb : -100000000000000000 ≤ n ∧ n ≤ 100000000000000000) (hb2 : -10000000000 ≤ d ∧ d ≤ 10000000000) :
    F96 (n, d, ()) = some (if d < 0 then IntKind.i64.wrap (Int.tdiv (-n + -d - 1) (-d)) else IntKind.i64.wrap (Int.tdiv (n + d - 1) d), ()) := by
  unfold F96 r96
  dsimp only
  by_cases h : d < 0
  · have w1 : IntKind.i64.wrap (0 - d) = -d := by rw [w64 (by omega) (by omega)]; omega
    have w2 : IntKind.i64.wrap (0 - n) = -n := by rw [w64 (by omega) (by omega)]; omega
    have e1 : ((-d : Int) != 0) = true := by simp; omega
    simp only [h, decide_true, cond_true, w1, w2, e1, if_pos]
    rw [up_eq (by omega) (by omega) (by omega) (by omega)]
    cases decide ((-n).tmod (-d) > 0) <;> rfl
  · have e1 : (d != 0) = true := by simpa using hd
    simp only [h, decide_false, cond_false, e1, cond_true, if_neg, not_false_eq_true]
    rw [up_eq (by omega) (by omega) (by omega) (by omega)]
    cases decide (n.tmod d > 0) <;> rfl

/-- The time of a sight. -/
def tm (s : Den S95) : Int := s.2.1

def upN (n d : Int) : Int := if d < 0 then IntKind.i64.wrap (Int.tdiv (-n + -d - 1) (-d)) else IntKind.i64.wrap (Int.tdiv (n + d - 1) d)

/-- When a step crosses a line, and whether. -/
def crossT (l : Den S42) (s t : Den S95) : Int × Bool × Unit :=
  bif crossN l s.1 t.1 == 0 then (0, false, ()) else bif !trackB [s, t] then (0, false, ()) else
    (IntKind.i64.wrap (tm s + upN ((tm t - tm s) * hN l s.1) (hN l s.1 - hN l t.1)), true, ())

theorem track2 {s t : Den S95} (h : trackB [s, t] = true) : 0 ≤ tm s ∧ tm s ≤ 10000000 ∧ 0 ≤ tm t ∧ tm t ≤ 10000000 ∧ tm s < tm t := by
  have h0 : allFrom (sightB [s, t]) 0 2 = true := by
    unfold trackB at h
    simp only [Bool.and_eq_true] at h
    exact h.1
  have h1 := allFrom_iff.1 h0 0 (by omega) (by omega)
  have h2 := allFrom_iff.1 h0 1 (by omega) (by omega)
  have e0 : sg [s, t] 0 = s := rfl
  have e1 : sg [s, t] 1 = t := rfl
  simp only [sightB, e0, e1, inB, Bool.and_eq_true, decide_eq_true_eq, Bool.not_eq_true', Nat.sub_self, Nat.lt_add_one, decide_true, Bool.true_and, decide_eq_false_iff_not] at h1 h2
  exact ⟨h1.2.1.1, h1.2.1.2, h2.2.1.1, h2.2.1.2, Int.not_le.1 h2.2.2⟩

theorem mul_bd {u v : Int} (h1 : 0 ≤ u) (h2 : u ≤ 10000000) (h3 : -1600000000 ≤ v) (h4 : v ≤ 1600000000) : -16000000000000000 ≤ u * v ∧ u * v ≤ 16000000000000000 := by
  have k1 : 0 ≤ u * (1600000000 - v) := Int.mul_nonneg h1 (by omega)
  have k2 : 0 ≤ u * (1600000000 + v) := Int.mul_nonneg h1 (by omega)
  rw [Int.mul_sub] at k1
  rw [Int.mul_add] at k2
  omega

theorem cross_facts {l : Den S42} {s t : Den S95} (hc : crossN l s.1 t.1 ≠ 0) (ht : trackB [s, t] = true) :
    IntKind.i64.wrap (hN l s.1 - hN l t.1) = hN l s.1 - hN l t.1 ∧ IntKind.i64.wrap (tm t - tm s) = tm t - tm s ∧ IntKind.i64.wrap ((tm t - tm s) * hN l s.1) = (tm t - tm s) * hN l s.1 ∧
    hN l s.1 - hN l t.1 ≠ 0 ∧ ((0 ≤ (tm t - tm s) * hN l s.1 ∧ 0 < hN l s.1 - hN l t.1) ∨ ((tm t - tm s) * hN l s.1 ≤ 0 ∧ hN l s.1 - hN l t.1 < 0)) ∧
    -100000000000000000 ≤ (tm t - tm s) * hN l s.1 ∧ (tm t - tm s) * hN l s.1 ≤ 100000000000000000 ∧ -10000000000 ≤ hN l s.1 - hN l t.1 ∧ hN l s.1 - hN l t.1 ≤ 10000000000 := by
  obtain ⟨h1, h2, h3, h4⟩ := crossN_ne hc
  obtain ⟨_, b1, b2⟩ := hN_eq l s.1 h1 h2
  obtain ⟨_, c1, c2⟩ := hN_eq l t.1 h1 h3
  obtain ⟨t1, t2, t3, t4, t5⟩ := track2 ht
  have m := mul_bd (u := tm t - tm s) (v := hN l s.1) (by omega) (by omega) b1 b2
  refine ⟨w64 (by omega) (by omega), w64 (by omega) (by omega), w64 (by omega) (by omega), by omega, ?_, by omega, by omega, by omega, by omega⟩
  rcases h4 with h4 | h4
  · exact .inl ⟨Int.mul_nonneg (by omega) h4.1, by omega⟩
  · exact .inr ⟨Int.mul_nonpos_of_nonneg_of_nonpos (by omega) (by omega), by omega⟩

theorem F76_eq (l : Den S42) (s t : Den S95) : F76 (l, s, t, ()) = some (crossT l s t) := by
  unfold F76 r76 crossT
  have e75 : F75 (((List.replicate 2 (zero S95)).set 0 s).set 1 t, ()) = some (trackB [s, t], ()) := F75_eq [s, t] (by simp)
  have eh : ∀ p, (G92 (l, p, ())).1 = hN l p := fun _ => rfl
  have et : ∀ s : Den S95, s.2.1 = tm s := fun _ => rfl
  simp only [K77_t, G77_eq, K75, G75, e75, K92_t, eh, et, Option.isSome_some, Option.getD_some, cond_true]
  cases hc : (crossN l s.1 t.1 == 0)
  · cases ht : trackB [s, t]
    · rfl
    · have hc' : crossN l s.1 t.1 ≠ 0 := by simpa using hc
      obtain ⟨f1, f2, f3, f4, f5, f6, f7, f8, f9⟩ := cross_facts hc' ht
      simp only [cond_false, Bool.not_true, f1, f2, f3, upN]
      generalize (tm t - tm s) * hN l s.1 = n at *
      generalize hN l s.1 - hN l t.1 = d at *
      by_cases hd : d < 0
      · have w1 : IntKind.i64.wrap (0 - d) = -d := by rw [w64 (by omega) (by omega)]; omega
        have w2 : IntKind.i64.wrap (0 - n) = -n := by rw [w64 (by omega) (by omega)]; omega
        have w3 : IntKind.i64.wrap (-n + -d) = -n + -d := w64 (by omega) (by omega)
        have w4 : IntKind.i64.wrap (-n + -d - 1) = -n + -d - 1 := w64 (by omega) (by omega)
        have e1 : ((-d : Int) != 0) = true := by simp; omega
        simp only [hd, decide_true, cond_true, w1, w2, w3, w4, e1, if_true]
      · have w3 : IntKind.i64.wrap (n + d) = n + d := w64 (by omega) (by omega)
        have w4 : IntKind.i64.wrap (n + d - 1) = n + d - 1 := w64 (by omega) (by omega)
        have e1 : (d != 0) = true := by simpa using f4
        simp only [hd, decide_false, cond_false, cond_true, w3, w4, e1, if_false]
  · rfl

theorem F82_eq (l : Den S42) (s t : Den S95) : F82 (l, s, t, ()) = some (crossT l s t) := by
  unfold F82 r82 crossT
  have e70 : F70 (((List.replicate 2 (zero S95)).set 0 s).set 1 t, ()) = some (trackB [s, t], ()) := F70_eq [s, t] (by simp)
  have eh : ∀ p, (G95 (l, p, ())).1 = hN l p := fun _ => rfl
  have et : ∀ s : Den S95, s.2.1 = tm s := fun _ => rfl
  simp only [K81_t, G81_eq, K70, G70, e70, K95_t, eh, et, Option.isSome_some, Option.getD_some, cond_true]
  cases hc : (crossN l s.1 t.1 == 0)
  · cases ht : trackB [s, t]
    · rfl
    · have hc' : crossN l s.1 t.1 ≠ 0 := by simpa using hc
      obtain ⟨f1, f2, f3, f4, f5, f6, f7, f8, f9⟩ := cross_facts hc' ht
      simp only [cond_false, Bool.not_true, f1, f2, f3, K96, G96]
      simp only [F96_eq _ _ f4 f5 ⟨f6, f7⟩ ⟨f8, f9⟩, Option.isSome_some, Option.getD_some, cond_true]
      rfl
  · rfl

theorem K76_t (x : Den A76) : K76 x = true := by unfold K76; rw [show x = (x.1, x.2.1, x.2.2.1, ()) from rfl, F76_eq]; rfl
theorem G76_eq (x : Den A76) : G76 x = crossT x.1 x.2.1 x.2.2.1 := by unfold G76; rw [show x = (x.1, x.2.1, x.2.2.1, ()) from rfl, F76_eq]; rfl
theorem K82_t (x : Den A82) : K82 x = true := by unfold K82; rw [show x = (x.1, x.2.1, x.2.2.1, ()) from rfl, F82_eq]; rfl
theorem G82_eq (x : Den A82) : G82 x = crossT x.1 x.2.1 x.2.2.1 := by unfold G82; rw [show x = (x.1, x.2.1, x.2.2.1, ()) from rfl, F82_eq]; rfl

end Go.Proofs.Ytibbdoohekjmaaa.AM
