/- Plainly: rays, tracks, roundings: what both texts make of them. Conditions: those that each lemma names (a list is not longer than a slice can be; whole numbers have 64 bits). -/
import Derived.Test.YtibbdoohekjmaaaP1
import Derived.Test.YtibbdoohekjmaaaV0
import Derived.Test.YtibbdoohekjmaaaU1
namespace Go.Proofs.Ytibbdoohekjmaaa.AM
open Go Go.Proofs
set_option linter.unusedVariables false

/-! ## Rays -/

theorem isSome_cond {α : Type} (c : Bool) (a b : Option α) : (bif c then a else b).isSome = (bif c then a.isSome else b.isSome) := by cases c <;> rfl
theorem cond_same {α : Type} (c : Bool) (a : α) : (bif c then a else a) = a := by cases c <;> rfl

theorem K46_t (x : Den A46) : K46 x = true := rfl
theorem K47_t (x : Den A47) : K47 x = true := rfl
theorem K49_t (x : Den A49) : K49 x = true := rfl
theorem K50_t (x : Den A50) : K50 x = true := rfl
theorem K51_t (x : Den A51) : K51 x = true := rfl
theorem K18_t (x : Den A18) : K18 x = true := by unfold K18; rw [F18_eq]; rfl
theorem K48_t (x : Den A48) : K48 x = true := by unfold K48; rw [F48_eq]; rfl
theorem G18_eq (x : Den A18) : G18 x = (placeB x.1, ()) := by unfold G18; rw [F18_eq]; rfl
theorem G48_eq (x : Den A48) : G48 x = (placeB x.1, ()) := by unfold G48; rw [F48_eq]; rfl
theorem K13_t (x : Den A13) : K13 x = true := by
  unfold K13 F13 r13; simp only [K18_t, K46_t, K47_t, cond_true, isSome_cond, Option.isSome_some, cond_same]

/-- How a step passes a ray. -/
def passN (o m a b : Den S22) : Int := (G13 (o, m, a, b, ())).1
theorem F13_eq (x : Den A13) : F13 x = some (passN x.1 x.2.1 x.2.2.1 x.2.2.2.1, ()) := by
  have h := K13_t x
  unfold K13 at h
  unfold passN G13
  cases hf : F13 x with
  | none => rw [hf] at h; cases h
  | some y =>
    rfl
theorem F15_eq (x : Den A15) : F15 x = some (passN x.1 x.2.1 x.2.2.1 x.2.2.2.1, ()) := by
  rw [← F13_eq]
  unfold F13 F15 r13 r15
  simp only [K18_t, K46_t, K47_t, K48_t, K49_t, K50_t, K51_t, cond_true, G18_eq, G48_eq]
  rw [show (x.snd.fst.fst == x.fst.fst) = (x.fst.fst == x.snd.fst.fst) from BEq.comm, show (x.snd.fst.snd.fst == x.fst.snd.fst) = (x.fst.snd.fst == x.snd.fst.snd.fst) from BEq.comm]
  rfl

/-! ## Tracks -/

def sg (t : List (Den S95)) (k : Nat) : Den S95 := t.getD k (zero S95)
def sightB (t : List (Den S95)) (k : Nat) : Bool := placeB (sg t k).1 && (inB (sg t k).2.1 0 10000000 && !(decide (0 < k) && decide ((sg t k).2.1 ≤ (sg t (k - 1)).2.1)))
def trackB (t : List (Den S95)) : Bool := allFrom (sightB t) 0 t.length && decide ((t.length : Int) ≤ 200)

theorem F84_eq (x : Den A84) : F84 x = some (inB x.1 0 10000000, ()) := by
  unfold F84 r84
  simp only [K62, G62, F62_eq, Option.isSome_some, Option.getD_some, cond_true]

theorem F75_eq (t : List (Den S95)) (h : t.length ≤ 9223372036854775807) : F75 (t, ()) = some (trackB t, ()) := by
  have hl : l75_2 ((t, (0 : Int), ()), ()) = some (bif allFrom (sightB t) 0 t.length then .inl ((t, ()), ()) else .inr ((false, ()), ())) := by
    refine (iter_allB (q := q75_2 K18 G18 K55 G55) (fun k => ((t, (k : Int), ()), ())) t.length (sightB t) _ _ ?_ ?_ _ ?_ : _)
    · intro k f hk
      have e1 : decide ((k : Int) < (t.length : Int)) = true := by simpa using hk
      have e2 : decide (0 ≤ (k : Int)) = true := by simp
      have ha : ∀ k, t.getD k (zero S95) = sg t k := fun _ => rfl
      unfold q75_2 sightB
      simp only [w64n k (by omega), e1, e2, Bool.and_self, cond_true, Int.toNat_natCast, ha, K18, G18, F18_eq, K55, G55, F55_eq, Option.isSome_some, Option.getD_some]
      cases placeB (sg t k).1
      · rfl
      · cases inB (sg t k).2.1 0 10000000
        · rfl
        · by_cases hk0 : 0 < k
          · have e3 : IntKind.i64.wrap ((k : Int) - 1) = ((k - 1 : Nat) : Int) := by rw [w64 (by omega) (by omega)]; omega
            have e4 : decide (((k - 1 : Nat) : Int) < (t.length : Int)) = true := by simp; omega
            have e5 : decide (0 ≤ ((k - 1 : Nat) : Int)) = true := by simp
            have e6 : decide ((k : Int) > 0) = true := by simpa using hk0
            simp only [e3, e4, e5, e6, Int.toNat_natCast, hk0, decide_true, Bool.and_self, cond_true, Bool.not_true, cond_false, Bool.true_and]
            cases decide ((sg t k).2.1 ≤ (sg t (k - 1)).2.1) <;> rfl
          · have e6 : decide ((k : Int) > 0) = false := by simpa using hk0
            simp only [e6, hk0, decide_false, Bool.not_true, cond_false, Bool.true_and, Bool.false_and, Bool.not_false, cond_true]
    · intro f
      simp [q75_2]
    · simp only [b75_2]; omega
  unfold F75 r75 trackB
  simp only [kL75_2, tL75_2, xL75_2, yL75_2, hl, Option.isSome_some, cond_true]
  cases allFrom (sightB t) 0 t.length
  · rfl
  · simp only [cond_true, isR, xOf, cond_false, Bool.true_and]
    rfl

theorem F70_eq (t : List (Den S95)) (h : t.length ≤ 9223372036854775807) : F70 (t, ()) = some (trackB t, ()) := by
  have hl : l70_4 ((t, t, (t.length : Int), (0 : Int), ()), ()) = some (bif allFrom (sightB t) 0 t.length then .inl ((), ()) else .inr ((false, ()), ())) := by
    refine (iter_allB (q := q70_4 K48 G48 K84 G84) (fun k => ((t, t, (t.length : Int), (k : Int), ()), ())) t.length (sightB t) _ _ ?_ ?_ _ ?_ : _)
    · intro k f hk
      have e1 : decide ((k : Int) < (t.length : Int)) = true := by simpa using hk
      have e2 : decide (0 ≤ (k : Int)) = true := by simp
      have ha : ∀ k, t.getD k (zero S95) = sg t k := fun _ => rfl
      unfold q70_4 sightB
      simp only [w64n k (by omega), e1, e2, Bool.and_self, cond_true, Int.toNat_natCast, ha, K48, G48, F48_eq, K84, G84, F84_eq, Option.isSome_some, Option.getD_some]
      cases placeB (sg t k).1
      · rfl
      · cases inB (sg t k).2.1 0 10000000
        · rfl
        · by_cases hk0 : 0 < k
          · have e3 : IntKind.i64.wrap ((k : Int) - 1) = ((k - 1 : Nat) : Int) := by rw [w64 (by omega) (by omega)]; omega
            have e4 : decide (((k - 1 : Nat) : Int) < (t.length : Int)) = true := by simp; omega
            have e5 : decide (0 ≤ ((k - 1 : Nat) : Int)) = true := by simp
            have e6 : decide ((k : Int) > 0) = true := by simpa using hk0
            simp only [e3, e4, e5, e6, Int.toNat_natCast, hk0, decide_true, Bool.and_self, cond_true, Bool.not_true, cond_false, Bool.true_and]
            cases decide ((sg t k).2.1 ≤ (sg t (k - 1)).2.1) <;> rfl
          · have e6 : decide ((k : Int) > 0) = false := by simpa using hk0
            simp only [e6, hk0, decide_false, Bool.not_true, cond_false, Bool.true_and, Bool.false_and, Bool.not_false, cond_true]
    · intro f
      simp [q70_4]
    · simp only [b70_4]; omega
  unfold F70 r70 trackB
  simp only [kL70_4, tL70_4, yL70_4, hl, Option.isSome_some, cond_true, dgt (t.length : Int)]
  cases decide ((t.length : Int) ≤ 200) <;> cases allFrom (sightB t) 0 t.length <;> rfl

/-! ## Where a mark is rounded -/

/-- What is summed up behind a step. -/
def rndSum (c : Den S45) (k : Nat) (t : List (Den S95)) (i : Nat) (sum : Int) : Int := IntKind.i64.wrap (sum + passN (origin c k) (mk c k).1 (sg t i).1 (sg t (i + 1)).1)
/-- One step of a rounding: what is summed up, or the sight. -/
def rndNext (c : Den S45) (k : Nat) (t : List (Den S95)) (i : Nat) (sum : Int) : Int ⊕ Option Int :=
  bif (rndSum c k t i sum == 1 && !(mk c k).2.1) || (rndSum c k t i sum == -1 && (mk c k).2.1) then .inr (some (((i + 1 : Nat) : Int))) else .inl (rndSum c k t i sum)
def rndO (c : Den S45) (k : Nat) (t : List (Den S95)) (b : Nat) : Option Int := accFrom (rndNext c k t) (fun _ => none) b (t.length - 1 - b) 0
def roundN (c : Den S45) (k : Int) (t : List (Den S95)) (b : Int) : Int :=
  bif courseB c && (trackB t && (inB k 0 ((c.2.1.length : Int) - 1) && inB b 0 ((t.length : Int) - 1))) then (rndO c k.toNat t b.toNat).getD (-1) else -1

/-- A course, cell by cell. -/
abbrev flatC (c : Den S45) : Den (.int .i64) × Den (.int .i64) × Den (.int .i64) × Den (.int .i64) × List (Den S82) × Den (.int .i64) × Den (.int .i64) × Den (.int .i64) × Den (.int .i64) × Unit :=
  (c.1.1.1, c.1.1.2.1, c.1.2.1.1, c.1.2.1.2.1, c.2.1, c.2.2.1.1.1, c.2.2.1.1.2.1, c.2.2.1.2.1.1, c.2.2.1.2.1.2.1, ())

/-- The end of a loop that looks for a number. -/
def found : Option Int → (Unit × Unit) ⊕ ((Int × Unit) × Unit)
  | some n => .inr ((n, ()), ())
  | none => .inl ((), ())

theorem rnd33 (c : Den S45) (k : Nat) (t : List (Den S95)) (b : Nat) (hk : k < c.2.1.length) (hb : b < t.length) (hc : c.2.1.length ≤ 9223372036854775807) (ht : t.length ≤ 9223372036854775807) :
    l33_5 (((k : Int), t, (), (0 : Int), (b : Int), ()), flatC c, ()) = some (found (rndO c k t b)) := by
  unfold rndO
  rw [← accFrom_map found]
  refine (iter_acc (q := q33_5 K21 G21 K75 G75 K55 G55 K58 G58 K13 G13) (fun i s => (((k : Int), t, (), s, (i : Int), ()), flatC c, ())) (t.length - 1) (fun i s => outR found (rndNext c k t i s)) (fun _ => found none) ?_ ?_ _ (t.length - 1 - b) b 0 (by omega) ?_ : _)
  · intro i s f hi
    have e1 : decide ((i : Int) < (t.length : Int)) = true := by simp; omega
    have e2 : decide (0 ≤ (i : Int)) = true := by simp
    have e3 : decide (((i + 1 : Nat) : Int) < (t.length : Int)) = true := by simp; omega
    have e4 : decide (0 ≤ ((i + 1 : Nat) : Int)) = true := by simp; omega
    have e5 : decide (0 ≤ (k : Int)) = true := by simp
    have e6 : decide ((k : Int) < (c.2.1.length : Int)) = true := by simpa using hk
    have h58 : F58 ((((c.1.1.1, c.1.1.2.1, ()), (c.1.2.1.1, c.1.2.1.2.1, ()), ()), c.2.1, ((c.2.2.1.1.1, c.2.2.1.1.2.1, ()), (c.2.2.1.2.1.1, c.2.2.1.2.1.2.1, ()), ()), ()), (k : Int), ()) = some (origin c k, ()) := F58_eq c k (by omega) hc
    have ha : ∀ i, t.getD i (zero S95) = sg t i := fun _ => rfl
    have hb : ∀ i, c.2.1.getD i (zero S82) = mk c i := fun _ => rfl
    have hs : IntKind.i64.wrap (s + passN (origin c k) (mk c k).1 (sg t i).1 (sg t (i + 1)).1) = rndSum c k t i s := rfl
    unfold q33_5 rndNext
    simp only [flatC, w64n i (by omega), e1, e2, e3, e4, e5, e6, Bool.and_self, cond_true, Int.toNat_natCast, ha, hb, K58, G58, h58, K13, G13, F13_eq, Option.isSome_some, Option.getD_some, hs]
    generalize rndSum c k t i s = z
    cases h1 : (z == 1) <;> cases h2 : (z == -1) <;> cases (mk c k).2.1 <;> rfl
  · intro s f
    have e1 : IntKind.i64.wrap (((t.length - 1 : Nat) : Int) + 1) = (t.length : Int) := by rw [w64 (by omega) (by omega)]; omega
    have e2 : decide ((t.length : Int) < (t.length : Int)) = false := by simp
    unfold q33_5
    simp only [e1, e2, cond_false]
    rfl
  · simp only [b33_5]; omega

theorem F33_eq (c : Den S45) (k : Int) (t : List (Den S95)) (b : Int) (hc : c.2.1.length ≤ 9223372036854775807) (ht : t.length ≤ 9223372036854775807) : F33 (c, k, t, b, ()) = some (roundN c k t b, ()) := by
  have w1 : IntKind.i64.wrap ((c.2.1.length : Int) - 1) = (c.2.1.length : Int) - 1 := w64 (by omega) (by omega)
  have w2 : IntKind.i64.wrap ((t.length : Int) - 1) = (t.length : Int) - 1 := w64 (by omega) (by omega)
  unfold F33 r33 roundN
  have h21 : F21 (c, ()) = some (courseB c, ()) := F21_eq c hc
  have h75 : F75 (t, ()) = some (trackB t, ()) := F75_eq t ht
  simp only [K21, G21, h21, K75, G75, h75, K55, G55, F55_eq, w1, w2, Option.isSome_some, Option.getD_some, cond_true]
  cases courseB c
  · rfl
  · cases trackB t
    · rfl
    · cases hi : inB k 0 ((c.2.1.length : Int) - 1)
      · rfl
      · cases hj : inB b 0 ((t.length : Int) - 1)
        · rfl
        · simp only [inB, Bool.and_eq_true, decide_eq_true_eq] at hi hj
          obtain ⟨k, rfl⟩ := Int.eq_ofNat_of_zero_le hi.1
          obtain ⟨b, rfl⟩ := Int.eq_ofNat_of_zero_le hj.1
          have hr : l33_5 (((k : Int), t, (), 0, (b : Int), ()), (c.1.1.1, c.1.1.2.1, c.1.2.1.1, c.1.2.1.2.1, c.2.1, c.2.2.1.1.1, c.2.2.1.1.2.1, c.2.2.1.2.1), ()) = some (found (rndO c k t b)) := rnd33 c k t b (by omega) (by omega) hc ht
          simp only [Bool.not_true, cond_false, Bool.and_self, cond_true, Int.toNat_natCast, kL33_5, tL33_5, yL33_5, hr, Option.isSome_some]
          cases rndO c k t b <;> rfl

theorem rnd26 (c : Den S45) (k : Nat) (t : List (Den S95)) (b : Nat) (hk : k < c.2.1.length) (hb : b < t.length) (hc : c.2.1.length ≤ 9223372036854775807) (ht : t.length ≤ 9223372036854775807) :
    l26_8 (((k : Int), t, (), (bif (mk c k).2.1 then -1 else 1 : Int), (0 : Int), (b : Int), ()), flatC c, ()) = some (found (rndO c k t b)) := by
  unfold rndO
  rw [← accFrom_map found]
  refine (iter_acc (q := q26_8 K23 G23 K70 G70 K62 G62 K63 G63 K15 G15) (fun i s => (((k : Int), t, (), (bif (mk c k).2.1 then -1 else 1 : Int), s, (i : Int), ()), flatC c, ())) (t.length - 1) (fun i s => outR found (rndNext c k t i s)) (fun _ => found none) ?_ ?_ _ (t.length - 1 - b) b 0 (by omega) ?_ : _)
  · intro i s f hi
    have e1 : decide ((i : Int) < (t.length : Int)) = true := by simp; omega
    have e2 : decide (0 ≤ (i : Int)) = true := by simp
    have e3 : decide (((i + 1 : Nat) : Int) < (t.length : Int)) = true := by simp; omega
    have e4 : decide (0 ≤ ((i + 1 : Nat) : Int)) = true := by simp; omega
    have e5 : decide (0 ≤ (k : Int)) = true := by simp
    have e6 : decide ((k : Int) < (c.2.1.length : Int)) = true := by simpa using hk
    have h63 : F63 ((((c.1.1.1, c.1.1.2.1, ()), (c.1.2.1.1, c.1.2.1.2.1, ()), ()), c.2.1, ((c.2.2.1.1.1, c.2.2.1.1.2.1, ()), (c.2.2.1.2.1.1, c.2.2.1.2.1.2.1, ()), ()), ()), (k : Int), ()) = some (origin c k, ()) := F63_eq c k (by omega) hc
    have ha : ∀ i, t.getD i (zero S95) = sg t i := fun _ => rfl
    have hb : ∀ i, c.2.1.getD i (zero S82) = mk c i := fun _ => rfl
    have hs : IntKind.i64.wrap (s + passN (origin c k) (mk c k).1 (sg t i).1 (sg t (i + 1)).1) = rndSum c k t i s := rfl
    unfold q26_8 rndNext
    simp only [flatC, w64n i (by omega), e1, e2, e3, e4, e5, e6, Bool.and_self, cond_true, Int.toNat_natCast, ha, hb, K63, G63, h63, K15, G15, F15_eq, Option.isSome_some, Option.getD_some, hs]
    generalize rndSum c k t i s = z
    cases (mk c k).2.1
    · cases h1 : (z == 1) <;> simp only [cond_false, h1, Bool.not_false, Bool.and_true, Bool.and_false, Bool.or_false, cond_true] <;> rfl
    · cases h2 : (z == -1) <;> simp only [cond_false, h2, Bool.not_true, Bool.and_true, Bool.and_false, Bool.false_or, cond_true] <;> rfl
  · intro s f
    have e1 : IntKind.i64.wrap (((t.length - 1 : Nat) : Int) + 1) = (t.length : Int) := by rw [w64 (by omega) (by omega)]; omega
    have e2 : decide ((t.length : Int) < (t.length : Int)) = false := by simp
    unfold q26_8
    simp only [e1, e2, cond_false]
    rfl
  · simp only [b26_8]; omega

theorem F26_eq (c : Den S45) (k : Int) (t : List (Den S95)) (b : Int) (hc : c.2.1.length ≤ 9223372036854775807) (ht : t.length ≤ 9223372036854775807) : F26 (c, k, t, b, ()) = some (roundN c k t b, ()) := by
  have w1 : IntKind.i64.wrap ((c.2.1.length : Int) - 1) = (c.2.1.length : Int) - 1 := w64 (by omega) (by omega)
  have w2 : IntKind.i64.wrap ((t.length : Int) - 1) = (t.length : Int) - 1 := w64 (by omega) (by omega)
  unfold F26 r26 roundN
  have h23 : F23 (c, ()) = some (courseB c, ()) := F23_eq c hc
  have h70 : F70 (t, ()) = some (trackB t, ()) := F70_eq t ht
  have hb : ∀ i, c.2.1.getD i (zero S82) = mk c i := fun _ => rfl
  simp only [K23, G23, h23, K70, G70, h70, K62, G62, F62_eq, w1, w2, hb, Option.isSome_some, Option.getD_some, cond_true]
  cases courseB c
  · rfl
  · cases trackB t
    · rfl
    · cases hi : inB k 0 ((c.2.1.length : Int) - 1)
      · rfl
      · cases hj : inB b 0 ((t.length : Int) - 1)
        · rfl
        · simp only [inB, Bool.and_eq_true, decide_eq_true_eq] at hi hj
          obtain ⟨k, rfl⟩ := Int.eq_ofNat_of_zero_le hi.1
          obtain ⟨b, rfl⟩ := Int.eq_ofNat_of_zero_le hj.1
          have hr := rnd26 c k t b (by omega) (by omega) hc ht
          have e5 : decide (0 ≤ (k : Int)) = true := by simp
          have e6 : decide ((k : Int) < (c.2.1.length : Int)) = true := by simp; omega
          simp only [Bool.not_true, cond_false, Bool.and_self, cond_true, Int.toNat_natCast, kL26_8, tL26_8, yL26_8, e5, e6]
          cases hm : (mk c k).2.1
          · rw [hm] at hr
            have hr' : l26_8 (((k : Int), t, (), 1, 0, (b : Int), ()), (c.1.1.1, c.1.1.2.1, c.1.2.1.1, c.1.2.1.2.1, c.2.1, c.2.2.1.1.1, c.2.2.1.1.2.1, c.2.2.1.2.1), ()) = some (found (rndO c k t b)) := hr
            simp only [cond_false, hr', Option.isSome_some, cond_true]
            cases rndO c k t b <;> rfl
          · rw [hm] at hr
            have hr' : l26_8 (((k : Int), t, (), -1, 0, (b : Int), ()), (c.1.1.1, c.1.1.2.1, c.1.2.1.1, c.1.2.1.2.1, c.2.1, c.2.2.1.1.1, c.2.2.1.1.2.1, c.2.2.1.2.1), ()) = some (found (rndO c k t b)) := hr
            simp only [hr', Option.isSome_some, cond_true]
            cases rndO c k t b <;> rfl

end Go.Proofs.Ytibbdoohekjmaaa.AM
