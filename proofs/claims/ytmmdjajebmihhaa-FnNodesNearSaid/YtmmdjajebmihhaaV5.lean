/- Plainly: what a field of winds must meet, the other side. Conditions: short lists. -/
import Derived.Test.YtmmdjajebmihhaaV4
namespace Go.Proofs.Ytmmdjajebmihhaa.AM
open Go Go.Proofs
set_option linter.unusedVariables false

theorem hour38 (f : FieldT) (h : HoursG f.2.2.2.1) (k : Nat) (hk : k < f.2.2.2.1.length) : l38_9 (((), (k : Int), (0 : Int), ()), (f, ())) = some (bif hourB (atH f k) then .inl (((), (k : Int), ()), (f, ())) else .inr ((false, ()), ())) := by
  have h6 := atH_len h k
  obtain ⟨a, b, m, hs, _⟩ := f
  have hk : k < hs.length := hk
  have h6 : (atH (a, b, m, hs, ()) k).length ≤ 6 := h6
  refine (iter_allB (q := q38_9 K39 G39 K78 G78) (fun j => (((), (k : Int), (j : Int), ()), ((a, b, m, hs, ()), ()))) (atH (a, b, m, hs, ()) k).length (fun i => velB (atV (atH (a, b, m, hs, ()) k) i)) _ _ ?_ ?_ _ ?_ : _)
  · intro j f hj
    unfold q38_9
    have e1 : decide ((k : Int) < (hs.length : Int)) = true := by simpa using hk
    have e2 : decide (0 ≤ (k : Int)) = true := by simp
    have e4 : decide ((j : Int) < ((atH (a, b, m, hs, ()) k).length : Int)) = true := by simpa using hj
    have e5 : decide (0 ≤ (j : Int)) = true := by simp
    have ha : List.getD hs k (zero (Ty.slice (Ty.cpx FloatKind.f32))) = atH (a, b, m, hs, ()) k := rfl
    have hb : ∀ l : List (Nat × Nat), List.getD l j (zero (Ty.cpx FloatKind.f32)) = atV l j := fun _ => rfl
    have e3 : F78 (atV (atH (a, b, m, hs, ()) k) j, ()) = some (velB (atV (atH (a, b, m, hs, ()) k) j), ()) := F78_eq _
    simp only [w64n j (by omega), e1, e2, Bool.and_self, cond_true, Int.toNat_natCast, ha]
    have hb' : List.getD (atH (a, b, m, hs, ()) k) j (zero (Ty.cpx FloatKind.f32)) = atV (atH (a, b, m, hs, ()) k) j := rfl
    simp only [e4, e5, Bool.and_self, cond_true, hb', K78, G78, e3, Option.isSome_some, Option.getD_some]
    cases velB (atV (atH (a, b, m, hs, ()) k) j) <;> rfl
  · intro f
    unfold q38_9
    have e1 : decide ((k : Int) < (hs.length : Int)) = true := by simpa using hk
    have e2 : decide (0 ≤ (k : Int)) = true := by simp
    have ha : List.getD hs k (zero (Ty.slice (Ty.cpx FloatKind.f32))) = atH (a, b, m, hs, ()) k := rfl
    simp only [e1, e2, Bool.and_self, cond_true, Int.toNat_natCast, ha, Int.lt_irrefl, decide_false, cond_false]
  · simp only [b38_9]; omega

theorem F38_eq (f : FieldT) (h : HoursG f.2.2.2.1) : F38 (f, ()) = some (fieldOkB f, ()) := by
  have h38 := hour38 f h
  obtain ⟨a, b, m, hs, _⟩ := f
  have hlen : hs.length ≤ 8 := h.1
  have hl : l38_4 (((), (0 : Int), ()), (a, b, m, hs, ()), ()) = some (bif allFrom (hourOk (a, b, m, hs, ())) 0 hs.length then .inl ((), ()) else .inr ((false, ()), ())) := by
    refine (iter_allB (q := q38_4 K39 G39 K78 G78 kL38_9 xL38_9 tL38_9 yL38_9) (fun k => (((), (k : Int), ()), (a, b, m, hs, ()), ())) hs.length (hourOk (a, b, m, hs, ())) _ _ ?_ ?_ _ ?_ : _)
    · intro k f hk
      have e3 : l38_9 (((), (k : Int), (0 : Int), ()), ((a, b, m, hs, ()), ())) = some (bif hourB (atH (a, b, m, hs, ()) k) then .inl (((), (k : Int), ()), ((a, b, m, hs, ()), ())) else .inr ((false, ()), ())) := h38 k hk
      unfold q38_4 hourOk
      have e1 : decide ((k : Int) < (hs.length : Int)) = true := by simpa using hk
      have e2 : decide (0 ≤ (k : Int)) = true := by simp
      have ha : List.getD hs k (zero (Ty.slice (Ty.cpx FloatKind.f32))) = atH (a, b, m, hs, ()) k := rfl
      simp only [e1, e2, Bool.and_self, cond_true, Int.toNat_natCast, ha, kL38_9, tL38_9, xL38_9, yL38_9, e3, Option.isSome_some]
      by_cases hc : ((atH (a, b, m, hs, ()) k).length : Int) = IntKind.i64.wrap (a * b)
      · simp only [hc, bne_self_eq_false, cond_false, decide_true, Bool.true_and]
        cases hourB (atH (a, b, m, hs, ()) k)
        · rfl
        · simp only [cond_true, isR, xOf, cond_false, w64n k (by omega)]
      · have : (((atH (a, b, m, hs, ()) k).length : Int) != IntKind.i64.wrap (a * b)) = true := by simpa using hc
        simp only [this, hc, cond_true, decide_false, Bool.false_and, cond_false]
    · intro f
      simp [q38_4]
    · simp only [b38_4]; omega
  have i1 : F39 (a, 2, 12, ()) = some (inB a 2 12, ()) := F39_eq _ _ _
  have i2 : F39 (b, 2, 12, ()) = some (inB b 2 12, ()) := F39_eq _ _ _
  have i3 : F39 (m, 10, 100000, ()) = some (inB m 10 100000, ()) := F39_eq _ _ _
  have i4 : F39 ((hs.length : Int), 1, 24, ()) = some (inB (hs.length : Int) 1 24, ()) := F39_eq _ _ _
  unfold F38 r38 fieldOkB
  simp only [K39, G39, i1, i2, i3, i4, kL38_4, tL38_4, yL38_4, hl, Option.isSome_some, Option.getD_some, cond_true]
  cases inB a 2 12 <;> cases inB b 2 12 <;> cases inB m 10 100000 <;> cases inB (hs.length : Int) 1 24 <;> cases allFrom (hourOk (a, b, m, hs, ())) 0 hs.length <;> rfl

/-! ## Where a node lies -/

def pos (f : FieldT) (n : Int) : Nat × Nat := (FloatKind.nearest .f64 (IntKind.i64.wrap (IntKind.i64.wrap (Int.tdiv n f.1) * f.2.2.1)), FloatKind.nearest .f64 (IntKind.i64.wrap (Int.tmod n f.1 * f.2.2.1)))
def hasB (f : FieldT) (n : Int) : Bool := inB n 0 (IntKind.i64.wrap (IntKind.i64.wrap (f.1 * f.2.1) - 1))
def nodeV (f : FieldT) (n : Int) : (Nat × Nat) × Bool × Unit := bif fieldOkB f && hasB f n then (pos f n, true, ()) else ((0, 0), false, ())
theorem okB_wide {f : FieldT} (h : fieldOkB f = true) : inB f.1 2 12 = true ∧ inB f.2.1 2 12 = true ∧ inB f.2.2.1 10 100000 = true ∧ inB (f.2.2.2.1.length : Int) 1 24 = true ∧ allFrom (hourOk f) 0 f.2.2.2.1.length = true := by
  unfold fieldOkB at h
  simpa only [Bool.and_eq_true] using h
theorem F36_eq (f : FieldT) (n : Int) (h : f.1 ≠ 0) : F36 (f, n, ()) = some (pos f n, ()) := by
  have : (f.1 != 0) = true := by simpa using h
  unfold F36 r36
  simp only [this, cond_true]
  rfl
theorem F40_eq (f : FieldT) (n : Int) (h : f.1 ≠ 0) : F40 (f, n, ()) = some (pos f n, ()) := F36_eq f n h
theorem F35_eq (f : FieldT) (n : Int) : F35 (f, n, ()) = some (hasB f n, ()) := by
  have e : F48 (n, 0, IntKind.i64.wrap (IntKind.i64.wrap (f.1 * f.2.1) - 1), ()) = some (hasB f n, ()) := F48_eq _ _ _
  unfold F35 r35
  simp only [K48, G48, e, Option.isSome_some, Option.getD_some, cond_true]
theorem wide_ne {f : FieldT} (h : fieldOkB f = true) : f.1 ≠ 0 := by
  have := (okB_wide h).1
  simp only [inB, Bool.and_eq_true, decide_eq_true_eq] at this
  omega
theorem F9_eq (f : FieldT) (n : Int) (h : HoursG f.2.2.2.1) : F9 (f, n, ()) = some (nodeV f n) := by
  have e1 : F34 (f, ()) = some (fieldOkB f, ()) := F34_eq f h
  have e2 := F35_eq f n
  unfold F9 r9 nodeV
  simp only [K34, G34, e1, K35, G35, e2, Option.isSome_some, Option.getD_some, cond_true]
  cases hb : fieldOkB f with
  | false => rfl
  | true =>
    have e3 := F36_eq f n (wide_ne hb)
    simp only [K36, G36, e3, Option.isSome_some, Option.getD_some, cond_true]
    cases hasB f n <;> rfl
theorem F11_eq (f : FieldT) (n : Int) (h : HoursG f.2.2.2.1) : F11 (f, n, ()) = some (nodeV f n) := by
  have e1 : F38 (f, ()) = some (fieldOkB f, ()) := F38_eq f h
  have e2 : F39 (n, 0, IntKind.i64.wrap (IntKind.i64.wrap (f.1 * f.2.1) - 1), ()) = some (hasB f n, ()) := F39_eq _ _ _
  unfold F11 r11 nodeV
  simp only [K38, G38, e1, K39, G39, e2, Option.isSome_some, Option.getD_some, cond_true]
  cases hb : fieldOkB f with
  | false => rfl
  | true =>
    have e3 := F40_eq f n (wide_ne hb)
    simp only [K40, G40, e3, Option.isSome_some, Option.getD_some, cond_true]
    cases hasB f n <;> rfl

end Go.Proofs.Ytmmdjajebmihhaa.AM
