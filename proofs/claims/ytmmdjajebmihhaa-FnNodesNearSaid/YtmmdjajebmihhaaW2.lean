/- Plainly: the law FnNodesNear, in plain terms. Conditions: none. -/
import Derived.Test.YtmmdjajebmihhaaW1
namespace Go.Proofs.Ytmmdjajebmihhaa.AM
open Go Go.Proofs
set_option linter.unusedVariables false

def kTrue (y : Den (.cons .bool .nil)) : Option Unit := bif y.1 then some () else none
theorem kTrue_ok : ∀ y, kTrue y = some () → y = (true, ()) := by
  rintro ⟨b, _⟩ h
  cases b
  · cases h
  · rfl
theorem F7_eq (x : Den A7) : F7 x = some (decide ((x.1.length : Int) > 1048576), ()) := rfl

set_option maxRecDepth 100000 in
theorem nodesNear (x : Den A3) (w : Wf A3 x) : callN (Γ3 K7 G7 K8 G8 K9 G9 K10 G10 K11 G11 K12 G12 K13 G13) (N3 pT8 QT8 eT8) (bodyOf Try.f3) (decRH R3 kTrue) (encA A3 x) [] = some () := by
  refine Eq.trans (evN3 _ _ _ _ _ _ _ _ _ _ _ _ _ _ _ _ _ kTrue x) ?_
  unfold rN3
  simp only [K7, G7, F7_eq, Option.isSome_some, Option.getD_some, cond_true]
  by_cases h0 : (x.1.length : Int) > 1048576
  · simp only [h0, decide_true, cond_true]; rfl
  simp only [h0, decide_false, cond_false]
  haveI := eT8
  refine allK_intro fun g => ?_
  have hp : pT8 x = true := by show decide (x.1.length ≤ 1048576) = true; simp; omega
  have hq : HoursG (g.val x).1.2.2.2.1 := g.2 _ hp
  refine all_t hp ?_
  generalize g.val x = d at *
  obtain ⟨f, n, t, _⟩ := d
  have hq : HoursG f.2.2.2.1 := hq
  have e9 : F9 (f, n, ()) = some (nodeV f n) := F9_eq f n hq
  have e11 : F11 (f, n, ()) = some (nodeV f n) := F11_eq f n hq
  have e10 : F10 (f, n, t, ()) = some (windV f n t) := F10_eq f n t hq
  simp only [K9, G9, e9, K11, G11, e11, K10, G10, e10, Option.isSome_some, Option.getD_some, cond_true]
  have z1 : feq FloatKind.f64 0 0 = true := by decide +kernel
  have z2 : feq FloatKind.f32 0 0 = true := by decide +kernel
  unfold nodeV windV
  cases hb : fieldOkB f with
  | false => simp only [Bool.false_and, cond_false, bne_self_eq_false, Bool.not_false, beq_self_eq_true, cond_true, z1, z2, Bool.and_self, Bool.not_true]; rfl
  | true =>
  cases hn : hasB f n with
  | false => simp only [Bool.false_and, Bool.true_and, cond_false, bne_self_eq_false, Bool.not_false, beq_self_eq_true, cond_true, z1, z2, Bool.and_self, Bool.not_true]; rfl
  | true =>
  have e12 := F12_eq hq hb hn
  simp only [Bool.and_self, cond_true, Bool.true_and, beq_self_eq_true, Bool.not_true, cond_false, K12, G12, e12, Option.isSome_some, Option.getD_some, bne_self_eq_false, show ((true == true) = true) from rfl, Bool.not_false, show (!true == true) = false from rfl]
  obtain ⟨i1, i2, i3, i4, i5⟩ := okB_wide hb
  have i4' := i4
  simp only [inB, Bool.and_eq_true, decide_eq_true_eq] at i4'
  have e13 : ∀ c, F13 (c, c, ()) = some (true, ()) := F13_eq
  have hL : IntKind.i64.wrap ((f.2.2.2.1.length : Int) - 1) = (f.2.2.2.1.length : Int) - 1 := w64 (by omega) (by omega)
  cases ht : inB t 0 10000000 with
  | false =>
    simp only [cond_false, Bool.not_false, cond_true]
    by_cases h1 : t ≥ 0
    · have h2 : decide (t ≤ 10000000) = false := by
        have h3 : decide (0 ≤ t) = true := by simpa using h1
        unfold inB at ht
        rw [h3, Bool.true_and] at ht
        exact ht
      simp only [h1, decide_true, cond_true, h2, beq_self_eq_true]
      cases decide (IntKind.i64.wrap (Int.tdiv t 3600) > IntKind.i64.wrap ((f.2.2.2.1.length : Int) - 1)) <;> rfl
    · simp only [h1, decide_false, cond_false, beq_self_eq_true, cond_true]
      cases decide (IntKind.i64.wrap (Int.tdiv t 3600) > IntKind.i64.wrap ((f.2.2.2.1.length : Int) - 1)) <;> rfl
  | true =>
    obtain ⟨q1, q2⟩ := hour_in hb ht
    have ht' := ht
    simp only [inB, Bool.and_eq_true, decide_eq_true_eq] at ht'
    have h1 : decide (t ≥ 0) = true := by simpa using ht'.1
    have h2 : decide (t ≤ 10000000) = true := by simpa using ht'.2
    have hT : IntKind.i64.wrap (Int.tdiv t 3600) = t / 3600 := by rw [Int.tdiv_eq_ediv_of_nonneg ht'.1]; exact w64 (by omega) (by omega)
    have hi : (hourOf f t).toNat < f.2.2.2.1.length := by omega
    obtain ⟨q3, q4⟩ := node_in hb hn hi
    have d1 : (decide (0 ≤ hourOf f t) && decide (hourOf f t < (f.2.2.2.1.length : Int))) = true := by simp only [Bool.and_eq_true, decide_eq_true_eq]; exact ⟨q1, q2⟩
    have d2 : (decide (0 ≤ n) && decide (n < ((atH f (hourOf f t).toNat).length : Int))) = true := by simp only [Bool.and_eq_true, decide_eq_true_eq]; exact ⟨q3, q4⟩
    have d3 : ∀ i, List.getD f.2.2.2.1 i (zero (Ty.slice (Ty.cpx FloatKind.f32))) = atH f i := fun _ => rfl
    have d4 : ∀ i, List.getD (atH f i) n.toNat (zero (Ty.cpx FloatKind.f32)) = air f i n.toNat := fun _ => rfl
    simp only [h1, h2, cond_true, beq_self_eq_true, Bool.not_true, cond_false]
    by_cases hh : IntKind.i64.wrap (Int.tdiv t 3600) > IntKind.i64.wrap ((f.2.2.2.1.length : Int) - 1)
    · have e : IntKind.i64.wrap ((f.2.2.2.1.length : Int) - 1) = hourOf f t := by
        unfold hourOf imin
        split <;> omega
      simp only [hh, decide_true, cond_true]
      rw [e]
      simp only [d3, d4, d1, d2, cond_true, K13, G13, e13, Option.isSome_some, Option.getD_some]
      rfl
    · have e : IntKind.i64.wrap (Int.tdiv t 3600) = hourOf f t := by
        unfold hourOf imin
        split <;> omega
      simp only [hh, decide_false, cond_false]
      rw [e]
      simp only [d3, d4, d1, d2, cond_true, K13, G13, e13, Option.isSome_some, Option.getD_some]
      rfl
end Go.Proofs.Ytmmdjajebmihhaa.AM
