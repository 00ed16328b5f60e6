/- Plainly: places, lines, courses: what both texts make of them; the law FnExactCourseOk. Conditions: what every value that is handed over meets. -/
import Derived.Test.YtibbdoohekjmaaaP0
import Derived.Test.YtibbdoohekjmaaaU0
import Derived.IntWalk
namespace Go.Proofs.Ytibbdoohekjmaaa.AM
open Go Go.Proofs
set_option linter.unusedVariables false

/-- A whole number of 64 bits. -/
def I64 (n : Int) : Prop := -9223372036854775808 ≤ n ∧ n ≤ 9223372036854775807
theorem wf_i64 {n : Int} (h : Wf (.int .i64) n) : I64 n := by
  have : (decide ((-9223372036854775808 : Int) ≤ n) && decide (n ≤ 9223372036854775807)) = true := h
  simpa [I64] using this

theorem dlt (a b : Int) : decide (a < b) = !decide (b ≤ a) := by by_cases h : b ≤ a <;> simp [h] <;> omega
theorem dgt (a b : Int) : decide (a > b) = !decide (a ≤ b) := by by_cases h : a ≤ b <;> simp [h] <;> omega
theorem bif_some (c x : Bool) : (bif c then some (x, ()) else some (false, ())) = some (c && x, ()) := by cases c <;> rfl
theorem bif_not (c x : Bool) : (bif !c then some (false, ()) else some (x, ())) = some (c && x, ()) := by cases c <;> rfl

def inB (n lo hi : Int) : Bool := decide (lo ≤ n) && decide (n ≤ hi)
theorem F55_eq (x : Den A55) : F55 x = some (inB x.1 x.2.1 x.2.2.1, ()) := by
  unfold F55 r55 inB
  exact bif_some _ _
theorem F62_eq (x : Den A62) : F62 x = some (inB x.1 x.2.1 x.2.2.1, ()) := F55_eq x

def placeB (p : Den S22) : Bool := inB p.1 (-10000) 10000 && inB p.2.1 (-10000) 10000
theorem F18_eq (x : Den A18) : F18 x = some (placeB x.1, ()) := by
  unfold F18 r18 placeB
  simp only [K55, G55, F55_eq, Option.isSome_some, Option.getD_some, cond_true]
  exact bif_some _ _
theorem F48_eq (x : Den A48) : F48 x = some (placeB x.1, ()) := by
  unfold F48 r48 placeB
  simp only [K62, G62, F62_eq, Option.isSome_some, Option.getD_some, cond_true]
  exact bif_some _ _

def eqP (p q : Den S22) : Bool := p.1 == q.1 && p.2.1 == q.2.1
theorem eqP_iff {p q : Den S22} : eqP p q = true ↔ p = q := by
  obtain ⟨a, b, _⟩ := p
  obtain ⟨c, d, _⟩ := q
  simp [eqP]
theorem eqP_refl (p : Den S22) : eqP p p = true := eqP_iff.2 rfl
theorem eqP_comm (p q : Den S22) : eqP p q = eqP q p := by simp [eqP, BEq.comm]

def lineB (l : Den S42) : Bool := placeB l.1 && (placeB l.2.1 && !eqP l.1 l.2.1)
theorem F57_eq (x : Den A57) : F57 x = some (lineB x.1, ()) := by
  unfold F57 r57 lineB
  simp only [K18, G18, F18_eq, Option.isSome_some, Option.getD_some, cond_true]
  cases placeB x.1.1 <;> cases placeB x.1.2.1 <;> rfl
theorem F61_eq (x : Den A61) : F61 x = some (lineB x.1, ()) := by
  unfold F61 r61 lineB
  simp only [K48, G48, F48_eq, Option.isSome_some, Option.getD_some, cond_true]
  cases placeB x.1.1 <;> cases placeB x.1.2.1 <;> rfl

/-! ## Courses -/

def mk (c : Den S45) (k : Nat) : Den S82 := c.2.1.getD k (zero S82)
def origin (c : Den S45) (k : Nat) : Den S22 := if k = 0 then c.1.1 else (mk c (k - 1)).1
def markB (c : Den S45) (k : Nat) : Bool := placeB (mk c k).1 && !eqP (mk c k).1 (origin c k)
def courseB (c : Den S45) : Bool := lineB c.1 && (lineB c.2.2.1 && (inB c.2.1.length 1 20 && allFrom (markB c) 0 c.2.1.length))

theorem F58_eq (c : Den S45) (k : Nat) (h : k ≤ c.2.1.length) (hl : c.2.1.length ≤ 9223372036854775807) : F58 (c, (k : Int), ()) = some (origin c k, ()) := by
  unfold F58 r58 origin
  by_cases hk : k = 0
  · subst hk; rfl
  · have e1 : ((k : Int) == 0) = false := by simpa using hk
    have e2 : IntKind.i64.wrap ((k : Int) - 1) = ((k - 1 : Nat) : Int) := by rw [w64 (by omega) (by omega)]; omega
    have e3 : decide (0 ≤ ((k - 1 : Nat) : Int)) = true := by simp
    have e4 : decide (((k - 1 : Nat) : Int) < (c.2.1.length : Int)) = true := by simp; omega
    simp only [e1, e2, e3, e4, cond_false, Bool.and_self, cond_true, Int.toNat_natCast, if_neg hk]
    rfl
theorem F63_eq (c : Den S45) (k : Nat) (h : k ≤ c.2.1.length) (hl : c.2.1.length ≤ 9223372036854775807) : F63 (c, (k : Int), ()) = some (origin c k, ()) := F58_eq c k h hl

theorem F21_eq (c : Den S45) (hl : c.2.1.length ≤ 9223372036854775807) : F21 (c, ()) = some (courseB c, ()) := by
  have hlp : l21_4 (((), (0 : Int), ()), (c.1.1.1, c.1.1.2.1, c.1.2.1.1, c.1.2.1.2.1, c.2.1, c.2.2.1.1.1, c.2.2.1.1.2.1, c.2.2.1.2.1.1, c.2.2.1.2.1.2), ()) = some (bif allFrom (markB c) 0 c.2.1.length then .inl ((), ()) else .inr ((false, ()), ())) := by
    refine (iter_allB (q := q21_4 K57 G57 K55 G55 K18 G18 K58 G58) (fun k => (((), (k : Int), ()), (c.1.1.1, c.1.1.2.1, c.1.2.1.1, c.1.2.1.2.1, c.2.1, c.2.2.1.1.1, c.2.2.1.1.2.1, c.2.2.1.2.1.1, c.2.2.1.2.1.2), ())) c.2.1.length (markB c) _ _ ?_ ?_ _ ?_ : _)
    · intro k f hk
      have e1 : decide ((k : Int) < (c.2.1.length : Int)) = true := by simpa using hk
      have e2 : decide (0 ≤ (k : Int)) = true := by simp
      have ha : c.2.1.getD k (zero S82) = mk c k := rfl
      have h58 : F58 (c, (k : Int), ()) = some (origin c k, ()) := F58_eq c k (by omega) hl
      unfold q21_4 markB
      simp only [w64n k (by omega), e1, e2, Bool.and_self, cond_true, Int.toNat_natCast, ha, K18, G18, F18_eq, K58, G58, Option.isSome_some, Option.getD_some]
      have h58' : F58 ((((c.1.1.1, c.1.1.2.1, ()), (c.1.2.1.1, c.1.2.1.2.1, ()), ()), c.2.1, ((c.2.2.1.1.1, c.2.2.1.1.2.1, ()), c.2.2.1.2.1, ()), ()), (k : Int), ()) = some (origin c k, ()) := h58
      simp only [h58', Option.isSome_some, Option.getD_some, cond_true]
      cases placeB (mk c k).1
      · rfl
      · cases hq : eqP (mk c k).1 (origin c k) <;> simp only [Bool.not_true, cond_false, Bool.true_and]
        · have : ((mk c k).1.1 == (origin c k).1 && (mk c k).1.2.1 == (origin c k).2.1) = false := hq
          simp only [this, cond_false, Bool.not_false, cond_true]
        · have : ((mk c k).1.1 == (origin c k).1 && (mk c k).1.2.1 == (origin c k).2.1) = true := hq
          simp only [this, cond_true]
    · intro f
      simp [q21_4]
    · simp only [b21_4]; omega
  unfold F21 r21 courseB
  simp only [K57, G57, F57_eq, K55, G55, F55_eq, Option.isSome_some, Option.getD_some, cond_true, kL21_4, tL21_4, yL21_4]
  have hlp' : l21_4 (((), 0, ()), (c.1.1.1, c.1.1.2.1, c.1.2.1.1, c.1.2.1.2.1, c.2.1, c.2.2.1.1.1, c.2.2.1.1.2.1, c.2.2.1.2.1), ()) = _ := hlp
  cases lineB c.1
  · rfl
  · cases lineB c.2.2.1
    · rfl
    · cases inB c.2.1.length 1 20
      · rfl
      · simp only [Bool.not_true, cond_false, Bool.true_and, hlp', Option.isSome_some, cond_true]
        cases allFrom (markB c) 0 c.2.1.length <;> rfl

theorem F23_eq (c : Den S45) (hl : c.2.1.length ≤ 9223372036854775807) : F23 (c, ()) = some (courseB c, ()) := by
  have hlp : l23_4 (((), c.2.1, (c.2.1.length : Int), (0 : Int), ()), (c.1.1.1, c.1.1.2.1, c.1.2.1.1, c.1.2.1.2.1, c.2.1, c.2.2.1.1.1, c.2.2.1.1.2.1, c.2.2.1.2.1.1, c.2.2.1.2.1.2), ()) = some (bif allFrom (markB c) 0 c.2.1.length then .inl ((), ()) else .inr ((false, ()), ())) := by
    refine (iter_allB (q := q23_4 K61 G61 K62 G62 K48 G48 K63 G63) (fun k => (((), c.2.1, (c.2.1.length : Int), (k : Int), ()), (c.1.1.1, c.1.1.2.1, c.1.2.1.1, c.1.2.1.2.1, c.2.1, c.2.2.1.1.1, c.2.2.1.1.2.1, c.2.2.1.2.1.1, c.2.2.1.2.1.2), ())) c.2.1.length (markB c) _ _ ?_ ?_ _ ?_ : _)
    · intro k f hk
      have e1 : decide ((k : Int) < (c.2.1.length : Int)) = true := by simpa using hk
      have e2 : decide (0 ≤ (k : Int)) = true := by simp
      have ha : c.2.1.getD k (zero S82) = mk c k := rfl
      have h63 : F63 (c, (k : Int), ()) = some (origin c k, ()) := F63_eq c k (by omega) hl
      unfold q23_4 markB
      simp only [w64n k (by omega), e1, e2, Bool.and_self, cond_true, Int.toNat_natCast, ha, K48, G48, F48_eq, K63, G63, Option.isSome_some, Option.getD_some]
      have h63' : F63 ((((c.1.1.1, c.1.1.2.1, ()), (c.1.2.1.1, c.1.2.1.2.1, ()), ()), c.2.1, ((c.2.2.1.1.1, c.2.2.1.1.2.1, ()), c.2.2.1.2.1, ()), ()), (k : Int), ()) = some (origin c k, ()) := h63
      simp only [h63', Option.isSome_some, Option.getD_some, cond_true]
      cases placeB (mk c k).1
      · rfl
      · cases hq : eqP (mk c k).1 (origin c k) <;> simp only [Bool.not_true, cond_false, Bool.true_and]
        · have : ((mk c k).1.1 == (origin c k).1 && (mk c k).1.2.1 == (origin c k).2.1) = false := hq
          simp only [this, cond_false, Bool.not_false, cond_true]
        · have : ((mk c k).1.1 == (origin c k).1 && (mk c k).1.2.1 == (origin c k).2.1) = true := hq
          simp only [this, cond_true]
    · intro f
      simp [q23_4]
    · simp only [b23_4]; omega
  unfold F23 r23 courseB
  simp only [K61, G61, F61_eq, K62, G62, F62_eq, Option.isSome_some, Option.getD_some, cond_true, kL23_4, tL23_4, yL23_4]
  have hlp' : l23_4 (((), c.2.1, (c.2.1.length : Int), 0, ()), (c.1.1.1, c.1.1.2.1, c.1.2.1.1, c.1.2.1.2.1, c.2.1, c.2.2.1.1.1, c.2.2.1.1.2.1, c.2.2.1.2.1), ()) = _ := hlp
  cases lineB c.1
  · rfl
  · cases lineB c.2.2.1
    · rfl
    · cases inB c.2.1.length 1 20
      · rfl
      · simp only [Bool.not_true, cond_false, Bool.true_and, hlp', Option.isSome_some, cond_true]
        cases allFrom (markB c) 0 c.2.1.length <;> rfl

/-! ## Copies, sizes, equality -/

theorem F14_eq (x : Den A14) : F14 x = some x := rfl
theorem F59_eq (x : Den A59) : F59 x = some x := rfl
theorem F86_eq (x : Den A86) : F86 x = some x := rfl

theorem F60_eq (l : List (Den S82)) (h : l.length ≤ 1099511627776) : F60 ((l, ()), ()) = some (((), ()), (l, ())) := by
  have hl : l60_3 ((l, (), (0 : Int), ()), (List.replicate l.length (zero S82), ())) = some (((), ()), (l, ())) := by
    have hr : (List.replicate l.length (zero S82)).length = l.length := by simp
    refine (iter_all (q := q60_3 K86 G86) (fun k => ((l, (), (k : Int), ()), (l.take k ++ (List.replicate l.length (zero S82)).drop k, ()))) l.length _ ?_ ?_ _ ?_ : _)
    · intro k f hk
      have h2 : (l.take k ++ (List.replicate l.length (zero S82)).drop k).length = l.length := by simp; omega
      have h3 := take_drop_set l (List.replicate l.length (zero S82)) k hk hr.symm
      have e1 : decide ((k : Int) < (l.length : Int)) = true := by simpa using hk
      have e2 : decide (0 ≤ (k : Int)) = true := by simp
      unfold q60_3
      simp only [w64n k (by omega), Int.toNat_natCast, getD_lt l k _ hk, h2, e1, e2, Bool.and_self, cond_true, K86, G86, F86_eq, Option.isSome_some, Option.getD_some]
      exact congrArg f (congrArg (fun z => ((l, (), ((k + 1 : Nat) : Int), ()), (z, ()))) h3)
    · intro f
      simp [q60_3]
    · simp [b60_3]
      omega
  unfold F60 r60
  simp only [Int.toNat_natCast, capOk_of h, kL60_3, xL60_3, hl, Option.isSome_some, Option.getD_some, beq_self_eq_true, Bool.and_true, cond_true]
  simp

/-- A course, cell by cell. -/
abbrev flat (c : Den S45) : Den (.int .i64) × Den (.int .i64) × Den (.int .i64) × Den (.int .i64) × Unit × Den (.int .i64) × Den (.int .i64) × Den (.int .i64) × Den (.int .i64) × Unit :=
  (c.1.1.1, c.1.1.2.1, c.1.2.1.1, c.1.2.1.2.1, (), c.2.2.1.1.1, c.2.2.1.1.2.1, c.2.2.1.2.1.1, c.2.2.1.2.1.2.1, ())

theorem F22_eq (c : Den S45) (h : c.2.1.length ≤ 1099511627776) : F22 ((c, ()), ()) = some ((flat c, ()), (c.2.1, ())) := by
  unfold F22 r22
  simp only [K59, G59, F59_eq, K60, G60, Option.isSome_some, Option.getD_some, cond_true]
  simp only [F60_eq c.2.1 h, Option.isSome_some, Option.getD_some, cond_true]

theorem F87_self (x : Den A87) (h : x.1 = x.2.1) : F87 x = some (true, ()) := by
  unfold F87 r87
  simp only [h, bne_self_eq_false, cond_false]
theorem F64_self (x : Den A64) (h : x.1 = x.2.1) : F64 x = some (true, ()) := by
  unfold F64 r64
  simp only [h, K87, G87, F87_self, Option.isSome_some, Option.getD_some, cond_true, Bool.not_true, cond_false]
theorem F88_self (x : Den A88) (h : x.1 = x.2.1) : F88 x = some (true, ()) := by
  unfold F88 r88
  simp only [h, K87, G87, F87_self, Option.isSome_some, Option.getD_some, cond_true, Bool.not_true, cond_false, beq_self_eq_true]

theorem F65_self (l : List (Den S82)) (h : l.length ≤ 1099511627776) : F65 (l, l, ()) = some (true, ()) := by
  have hl : l65_4 ((l, l, (0 : Int), ()), ()) = some (.inl ((), ())) := by
    refine (iter_all (q := q65_4 K88 G88) (fun k => ((l, l, (k : Int), ()), ())) l.length _ ?_ ?_ _ ?_ : _)
    · intro k f hk
      have e1 : decide ((k : Int) < (l.length : Int)) = true := by simpa using hk
      have e2 : decide (0 ≤ (k : Int)) = true := by simp
      unfold q65_4
      simp only [w64n k (by omega), Int.toNat_natCast, getD_lt l k _ hk, e1, e2, Bool.and_self, cond_true, K88, G88, F88_self, Option.isSome_some, Option.getD_some, Bool.not_true, cond_false]
    · intro f
      simp [q65_4]
    · simp [b65_4]
      omega
  unfold F65 r65
  simp [kL65_4, tL65_4, hl, isR]

theorem F24_self (c : Den S45) (h : c.2.1.length ≤ 1099511627776) : F24 (c, c, ()) = some (true, ()) := by
  unfold F24 r24
  simp only [K64, G64, F64_self, K65, G65, F65_self c.2.1 h, Option.isSome_some, Option.getD_some, cond_true, Bool.not_true, cond_false]

/-- A size that is told is below none, or the list is not long. -/
theorem F56_eq (l : List (Den S82)) (left : Int) (hg : l.length ≤ 9223372036854775807) (h0 : 0 ≤ left) (h1 : left ≤ 1048576) :
    F56 (l, left, ()) = some (if left - (l.length : Int) < 0 then -1 else left - (l.length : Int), ()) := by
  unfold F56 r56
  dsimp only
  have hw : IntKind.i64.wrap (left - (l.length : Int)) = left - (l.length : Int) := w64 (by omega) (by omega)
  simp only [hw]
  by_cases h : left - (l.length : Int) < 0 <;> simp [h]

theorem F20_eq (c : Den S45) (left : Int) (hg : c.2.1.length ≤ 9223372036854775807) (h0 : 0 ≤ left) (h1 : left ≤ 1048576) :
    F20 (c, left, ()) = some (if left - (c.2.1.length : Int) < 0 then -1 else left - (c.2.1.length : Int), ()) := by
  unfold F20 r20
  simp only [K56, G56, F56_eq c.2.1 left hg h0 h1, Option.isSome_some, Option.getD_some, cond_true]
  by_cases h : left - (c.2.1.length : Int) < 0
  · simp [h]
  · simp only [h, if_false, decide_false, cond_false]

theorem exCourseOk (x : Den A5) (w : Wf A5 x) : F5 x = some (true, ()) := by
  obtain ⟨c, _⟩ := x
  have hm : maxLen ≤ 9223372036854775807 := by decide
  have hg : c.2.1.length ≤ 9223372036854775807 := Nat.le_trans w.1.2.1.1 hm
  unfold F5 r5
  simp only [K20, G20, F20_eq c 1048576 hg (by decide) (by decide), Option.isSome_some, Option.getD_some, cond_true]
  by_cases h0 : 1048576 - (c.2.1.length : Int) < 0
  · simp [h0]
  · have hl : c.2.1.length ≤ 1099511627776 := by omega
    have h22 : F22 ((c, ()), ()) = _ := F22_eq c hl
    simp only [h0, if_false, decide_false, cond_false, K22, G22, h22, Option.isSome_some, Option.getD_some, cond_true]
    have e21 : F21 (c, ()) = _ := F21_eq c hg
    have e23 : F23 (c, ()) = _ := F23_eq c hg
    have e24 : F24 (c, c, ()) = _ := F24_self c hl
    simp only [K21, G21, K23, G23, K24, G24]
    erw [e21, e23, e24]
    simp

end Go.Proofs.Ytibbdoohekjmaaa.AM
