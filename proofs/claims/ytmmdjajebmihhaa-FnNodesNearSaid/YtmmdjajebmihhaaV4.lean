/- Plainly: what a field of winds must meet; both sides ask the same. Conditions: short lists. -/
import Derived.Test.YtmmdjajebmihhaaV3
namespace Go.Proofs.Ytmmdjajebmihhaa.AM
open Go Go.Proofs
set_option linter.unusedVariables false

def amt (s : Nat) : Nat := bif flt .f32 s 0 then fneg .f32 s else s
theorem F67_eq (s : Nat) : F67 (s, ()) = some (amt s, ()) := by
  unfold F67 r67 amt
  cases flt .f32 s 0 <;> rfl
theorem F70_eq (s : Nat) : F70 (s, ()) = some (amt s, ()) := by
  unfold F70 r70 amt
  cases flt .f32 s 0 <;> rfl
def le100 (s : Nat) : Bool := flt .f32 (amt s) 1120403456 || feq .f32 (amt s) 1120403456
def velB (c : Nat × Nat) : Bool := le100 c.1 && le100 c.2
theorem F103_eq (c : Nat × Nat) : F103 (c, ()) = some (velB c, ()) := by
  unfold F103 r103 velB
  have e1 : F67 (c.1, ()) = some (amt c.1, ()) := F67_eq c.1
  have e2 : F67 (c.2, ()) = some (amt c.2, ()) := F67_eq c.2
  simp only [K67, G67, e1, e2, Option.isSome_some, Option.getD_some, cond_true]
  show (bif le100 c.1 then some (le100 c.2, ()) else some (false, ())) = _
  cases le100 c.1 <;> rfl
theorem F78_eq (c : Nat × Nat) : F78 (c, ()) = some (velB c, ()) := by
  unfold F78 r78 velB
  have e1 : F70 (c.1, ()) = some (amt c.1, ()) := F70_eq c.1
  have e2 : F70 (c.2, ()) = some (amt c.2, ()) := F70_eq c.2
  simp only [K70, G70, e1, e2, Option.isSome_some, Option.getD_some, cond_true]
  show (bif le100 c.1 then some (le100 c.2, ()) else some (false, ())) = _
  cases le100 c.1 <;> rfl

def atV (l : List (Nat × Nat)) (i : Nat) : Nat × Nat := l.getD i (0, 0)
def hourB (l : List (Nat × Nat)) : Bool := allFrom (fun i => velB (atV l i)) 0 l.length
theorem F77_eq (l : List (Nat × Nat)) (h : l.length ≤ 6) : F77 (l, ()) = some (hourB l, ()) := by
  have hl : l77_2 ((l, (l.length : Int), (0 : Int), ()), ()) = some (bif hourB l then .inl ((), ()) else .inr ((false, ()), ())) := by
    refine (iter_allB (q := q77_2 K103 G103) (fun k => ((l, (l.length : Int), (k : Int), ()), ())) l.length (fun i => velB (atV l i)) _ _ ?_ ?_ _ ?_ : _)
    · intro k f hk
      unfold q77_2
      have e1 : decide ((k : Int) < (l.length : Int)) = true := by simpa using hk
      have e2 : decide (0 ≤ (k : Int)) = true := by simp
      have ha : List.getD l k (zero (Ty.cpx FloatKind.f32)) = atV l k := rfl
      have e3 : F103 (atV l k, ()) = some (velB (atV l k), ()) := F103_eq _
      simp only [w64n k (by omega), e1, e2, Bool.and_self, cond_true, Int.toNat_natCast, ha, K103, G103, e3, Option.isSome_some, Option.getD_some]
      cases velB (atV l k) <;> rfl
    · intro f
      simp [q77_2]
    · simp only [b77_2]; omega
  unfold F77 r77
  simp only [kL77_2, tL77_2, yL77_2, hl, Option.isSome_some, cond_true]
  cases hourB l <;> rfl

def inB (x a b : Int) : Bool := decide (a ≤ x) && decide (x ≤ b)
theorem F48_eq (x a b : Int) : F48 (x, a, b, ()) = some (inB x a b, ()) := by
  unfold F48 r48 inB
  show (bif decide (x ≥ a) then some (decide (x ≤ b), ()) else some (false, ())) = _
  show (bif decide (a ≤ x) then some (decide (x ≤ b), ()) else some (false, ())) = _
  cases decide (a ≤ x) <;> rfl
theorem F39_eq (x a b : Int) : F39 (x, a, b, ()) = some (inB x a b, ()) := F48_eq x a b

abbrev FieldT : Type := Int × Int × Int × List (List (Nat × Nat)) × Unit
def atH (f : FieldT) (i : Nat) : List (Nat × Nat) := f.2.2.2.1.getD i []
def hourOk (f : FieldT) (i : Nat) : Bool := decide (((atH f i).length : Int) = IntKind.i64.wrap (f.1 * f.2.1)) && hourB (atH f i)
def fieldOkB (f : FieldT) : Bool := inB f.1 2 12 && (inB f.2.1 2 12 && (inB f.2.2.1 10 100000 && (inB (f.2.2.2.1.length : Int) 1 24 && allFrom (hourOk f) 0 f.2.2.2.1.length)))
theorem atH_len {f : FieldT} (h : HoursG f.2.2.2.1) (i : Nat) : (atH f i).length ≤ 6 := by
  unfold atH
  rw [List.getD_eq_getElem?_getD]
  by_cases hi : i < f.2.2.2.1.length
  · rw [List.getElem?_eq_getElem hi]
    exact h.2 _ (List.getElem_mem hi)
  · rw [List.getElem?_eq_none (by omega)]
    exact Nat.zero_le _

theorem F34_eq (f : FieldT) (h : HoursG f.2.2.2.1) : F34 (f, ()) = some (fieldOkB f, ()) := by
  obtain ⟨a, b, m, hs, _⟩ := f
  have hlen : hs.length ≤ 8 := h.1
  have hl : l34_4 (((), hs, (hs.length : Int), (0 : Int), ()), (a, b, m, hs, ()), ()) = some (bif allFrom (hourOk (a, b, m, hs, ())) 0 hs.length then .inl ((), ()) else .inr ((false, ()), ())) := by
    refine (iter_allB (q := q34_4 K48 G48 K77 G77) (fun k => (((), hs, (hs.length : Int), (k : Int), ()), (a, b, m, hs, ()), ())) hs.length (hourOk (a, b, m, hs, ())) _ _ ?_ ?_ _ ?_ : _)
    · intro k f hk
      unfold q34_4 hourOk
      have e1 : decide ((k : Int) < (hs.length : Int)) = true := by simpa using hk
      have e2 : decide (0 ≤ (k : Int)) = true := by simp
      have ha : List.getD hs k (zero (Ty.slice (Ty.cpx FloatKind.f32))) = atH (a, b, m, hs, ()) k := rfl
      have e3 : F77 (atH (a, b, m, hs, ()) k, ()) = some (hourB (atH (a, b, m, hs, ()) k), ()) := F77_eq _ (atH_len h k)
      simp only [w64n k (by omega), e1, e2, Bool.and_self, cond_true, Int.toNat_natCast, ha, K77, G77, e3, Option.isSome_some, Option.getD_some]
      by_cases hc : ((atH (a, b, m, hs, ()) k).length : Int) = IntKind.i64.wrap (a * b)
      · simp only [hc, bne_self_eq_false, cond_false, decide_true, Bool.true_and]
        cases hourB (atH (a, b, m, hs, ()) k) <;> rfl
      · have : (((atH (a, b, m, hs, ()) k).length : Int) != IntKind.i64.wrap (a * b)) = true := by simpa using hc
        simp only [this, hc, cond_true, decide_false, Bool.false_and, cond_false]
    · intro f
      simp [q34_4]
    · simp only [b34_4]; omega
  have i1 : F48 (a, 2, 12, ()) = some (inB a 2 12, ()) := F48_eq _ _ _
  have i2 : F48 (b, 2, 12, ()) = some (inB b 2 12, ()) := F48_eq _ _ _
  have i3 : F48 (m, 10, 100000, ()) = some (inB m 10 100000, ()) := F48_eq _ _ _
  have i4 : F48 ((hs.length : Int), 1, 24, ()) = some (inB (hs.length : Int) 1 24, ()) := F48_eq _ _ _
  unfold F34 r34 fieldOkB
  simp only [K48, G48, i1, i2, i3, i4, kL34_4, tL34_4, yL34_4, hl, Option.isSome_some, Option.getD_some, cond_true]
  cases inB a 2 12 <;> cases inB b 2 12 <;> cases inB m 10 100000 <;> cases inB (hs.length : Int) 1 24 <;> cases allFrom (hourOk (a, b, m, hs, ())) 0 hs.length <;> rfl

end Go.Proofs.Ytmmdjajebmihhaa.AM
