/- Plainly: the law FnFitsBoth. Conditions: what every value that is handed over meets. -/
import Derived.Test.YtbgkhcoeifbgkaaW2
namespace Go.Proofs.Ytbgkhcoeifbgkaa.AM
open Go Go.Proofs
set_option linter.unusedVariables false

theorem U201_eq : U201 = 201 * U1 := rfl
theorem num0 : isNum 0 0 := ⟨false, 0, 0, by decide, by unfold VU; simp⟩
theorem read1 : Ieee.single.read 1065353216 = .number false (2 ^ 23) (((126 : Nat) : Int) - 149) := by decide
theorem vu1 : VU false (2 ^ 23) 126 = (U1 : Int) := by unfold VU U1; rw [← Nat.pow_add]; rfl
theorem vu1n : VU true (2 ^ 23) 126 = -(U1 : Int) := by unfold VU U1; rw [← Nat.pow_add]; rfl
theorem num200 : isNum 1128792064 (200 * (U1 : Int)) := by
  refine ⟨false, 13107200, 133, by decide, ?_⟩
  have : 13107200 * 2 ^ 133 = 200 * U1 := by unfold U1; kernel_rfl
  unfold VU
  rw [this]
  simp

theorem sub_one {lo : Nat} {x : Int} (h : isNum lo x) (h0 : 0 ≤ x) (h1 : x ≤ 200 * (U1 : Int)) : ∃ v, isNum (farith .sub .f32 lo 1065353216) v ∧ v ≤ x := by
  obtain ⟨s, m, c, hr, rfl⟩ := h
  have hu := U201_eq
  obtain ⟨r, v, e1, e2, e3, _⟩ := sum_u1 s true m (2 ^ 23) c 126 (by rw [vu1n]; omega)
  rw [vu1n] at e3
  refine ⟨v, ?_, by omega⟩
  have : farith .sub .f32 lo 1065353216 = r := by
    show (((Ieee.single.read lo).sum (Ieee.single.read 1065353216).opposite).map Ieee.single.write).getD _ = r
    rw [hr, read1]
    show (((Ieee.Datum.number s m ((c : Int) - 149)).sum (.number true (2 ^ 23) (((126 : Nat) : Int) - 149))).map Ieee.single.write).getD _ = r
    rw [e1]
    rfl
  rw [this]
  exact e2

theorem add_one {hi : Nat} {x : Int} (h : isNum hi x) (h0 : 0 ≤ x) (h1 : x ≤ 200 * (U1 : Int)) : ∃ v, isNum (farith .add .f32 hi 1065353216) v ∧ x ≤ v := by
  obtain ⟨s, m, c, hr, rfl⟩ := h
  have hu := U201_eq
  obtain ⟨r, v, e1, e2, _, e3⟩ := sum_u1 s false m (2 ^ 23) c 126 (by rw [vu1]; omega)
  rw [vu1] at e3
  refine ⟨v, ?_, by omega⟩
  have : farith .add .f32 hi 1065353216 = r := by
    show (((Ieee.single.read hi).sum (Ieee.single.read 1065353216)).map Ieee.single.write).getD _ = r
    rw [hr, read1, e1]
    rfl
  rw [this]
  exact e2

theorem fits_wide {s : Den S23} {m : Den S25} (hs : sailElem s = true) (h : fitsB s m = true) : fitsWideB s m = true := by
  unfold sailElem at hs
  unfold fitsB at h
  unfold fitsWideB
  rw [Bool.and_eq_true, Bool.and_eq_true, Bool.and_eq_true, Bool.and_eq_true] at hs
  rw [Bool.and_eq_true, Bool.and_eq_true, Bool.and_eq_true] at h
  obtain ⟨_, a1, a2, a3, _⟩ := hs
  obtain ⟨⟨b1, b2⟩, b3, b4⟩ := h
  have a1 : ge32 s.2.1 0 = true := a1
  have a3 : le32 s.2.2.1 1128792064 = true := a3
  have b1 : ge32 m.1 s.2.1 = true := b1
  have b2 : le32 m.1 s.2.2.1 = true := b2
  obtain ⟨⟨x, hx⟩, y, hy⟩ := num_sail num0 num200 a1 a2 a3
  obtain ⟨v, hv⟩ := num_between hx hy b1 b2
  have c1 := (ge_num hx num0).1 a1
  have c2 := (gt_num hy hx).1 a2
  have c3 := (le_num hy num200).1 a3
  have c4 := (ge_num hv hx).1 b1
  have c5 := (le_num hv hy).1 b2
  obtain ⟨p, hp, hp2⟩ := sub_one hx c1 (by omega)
  obtain ⟨q, hq, hq2⟩ := add_one hy (by omega) c3
  have d1 : ge32 m.1 (farith .sub .f32 s.2.1 1065353216) = true := (ge_num hv hp).2 (by omega)
  have d2 : le32 m.1 (farith .add .f32 s.2.2.1 1065353216) = true := (le_num hv hq).2 (by omega)
  have d1 : (fgt .f32 m.1 (farith .sub .f32 s.2.1 1065353216) || feq .f32 m.1 (farith .sub .f32 s.2.1 1065353216)) = true := d1
  have d2 : (flt .f32 m.1 (farith .add .f32 s.2.2.1 1065353216) || feq .f32 m.1 (farith .add .f32 s.2.2.1 1065353216)) = true := d2
  rw [d1, d2, b3, b4]
  rfl

/-! ## The draw -/

def p34 (x : I34.den) : Bool := codeB x.1.1
def Q34 (x : I34.den) (y : O34.den) : Prop := GoodSs y.2.1 ∧ y.2.1.length ≤ 13 ∧ I64 y.1.2.1.2.1
theorem e34 : Nonempty (Ch I34 O34 p34 Q34) := ⟨⟨fun _ => (((), (0, 0, ()), ()), ([], ())), fun _ _ => ⟨(fun _ h => by cases h), Nat.zero_le _, I64_zero⟩⟩⟩
theorem fam34 : FamOK Try.prog 34 (sgFam false I34 O34 p34 Q34 e34) := sgN_ok env34 (N := N34 p59 Q59 e59 p60 Q60 e60) (mkN_ok ⟨fam59, fam60, trivial⟩) is34 noNLoops fun x hx k hk => by
  have h : x.1.1.length ≤ 1048576 := by simpa [p34, codeB] using hx
  refine Eq.trans (evN34 _ _ _ _ _ _ _ _ _ _ _ _ k x) ?_
  unfold rN34
  dsimp only
  have c0 := G58_cur x h
  haveI := e59
  haveI := e60
  refine all_t (K58_ok _ h) ?_
  refine allK_intro fun g => ?_
  have hp : p59 (((), ()), (G58 x).snd) = true := curB_iff.2 c0
  obtain ⟨q1, q2, q3⟩ := g.2 _ hp
  refine all_t hp ?_
  refine allK_intro fun g2 => ?_
  generalize g.val (((), ()), (G58 x).snd) = S at *
  have hp2 : p60 (((), ()), S.snd.fst, ()) = true := curB_iff.2 q1
  obtain ⟨q4, q5⟩ := g2.2 _ hp2
  refine all_t hp2 ?_
  exact hk _ ⟨q2, q3, q5⟩

/-! ## The law -/

theorem best_cases (l : List (Den S23)) (m : Den S25) : bestN l m = -1 ∨ ∃ j : Nat, bestN l m = (j : Int) ∧ j < l.length ∧ sailsB l = true ∧ fitsB (at' l j) m = true := by
  unfold bestN
  cases hs : sailsB l with
  | false => exact .inl rfl
  | true =>
    simp only [cond_true]
    cases hf : findFrom (fun i => fitsB (at' l i) m) 0 l.length with
    | none => exact .inl rfl
    | some j =>
      obtain ⟨_, h2, h3, _⟩ := findFrom_some hf
      exact .inr ⟨j, rfl, by omega, trivial, h3⟩

theorem both_loop (l : List (Den S23)) (m : Den S25) (h : GoodL l) : l8_8 (((), (), bestN l m, (0 : Int), ()), (l, (m, ()))) = some (.inl ((bestN l m, ()), ())) := by
  have hlen := h.len
  have h29 : F29 (l, ()) = some (sailsB l, ()) := F29_eq l h
  cases hs : sailsB l with
  | false =>
    refine (iter_all (q := q8_8 K33 G33 K34 G34 K32 G32 K19 G19 K25 G25 K29 G29) (fun k => (((), (), bestN l m, (k : Int), ()), (l, (m, ())))) 0 _ (fun k f hk => absurd hk (Nat.not_lt_zero _)) ?_ _ ?_ : _)
    · intro f
      unfold q8_8
      simp only [K29, G29, h29, hs, Option.isSome_some, Option.getD_some, cond_true, cond_false]
      cases decide (((0 : Nat) : Int) < (l.length : Int)) <;> rfl
    · exact Nat.lt_of_lt_of_le (m := 1000) (by omega) (Nat.le_add_left _ _)
  | true =>
    refine (iter_all (q := q8_8 K33 G33 K34 G34 K32 G32 K19 G19 K25 G25 K29 G29) (fun k => (((), (), bestN l m, (k : Int), ()), (l, (m, ())))) l.length _ ?_ ?_ _ ?_ : _)
    · intro k f hk
      have e1 : decide ((k : Int) < (l.length : Int)) = true := by simpa using hk
      have e2 : decide (0 ≤ (k : Int)) = true := by simp
      have ha : ∀ k, List.getD l k (zero S23) = at' l k := fun _ => rfl
      have h19 : ∀ i, F19 (at' l i, m, ()) = some (fitsB (at' l i) m, ()) := fun i => F19_eq _
      unfold q8_8
      simp only [e1, e2, Bool.and_self, cond_true, Int.toNat_natCast, ha, K29, G29, h29, hs, K19, G19, h19, Option.isSome_some, Option.getD_some, w64n k (by omega)]
      cases hfit : fitsB (at' l k) m with
      | false => rfl
      | true =>
        simp only [cond_true]
        have hb : ∃ j : Nat, bestN l m = (j : Int) ∧ j ≤ k := by
          unfold bestN
          rw [hs]
          simp only [cond_true]
          cases hf : findFrom (fun i => fitsB (at' l i) m) 0 l.length with
          | none =>
            have := findFrom_none.1 hf k (Nat.zero_le _) (by omega)
            rw [hfit] at this
            cases this
          | some j =>
            obtain ⟨_, _, _, h4⟩ := findFrom_some hf
            refine ⟨j, rfl, ?_⟩
            rcases Nat.lt_or_ge k j with h5 | h5
            · have := h4 k (Nat.zero_le _) h5
              rw [hfit] at this
              cases this
            · exact h5
        obtain ⟨j, hj, hle⟩ := hb
        have d1 : decide (bestN l m < 0) = false := by rw [hj]; simp
        have d2 : decide ((k : Int) < bestN l m) = false := by rw [hj]; simp; omega
        simp only [d1, d2, cond_false]
    · intro f
      unfold q8_8
      simp
    · exact Nat.lt_of_lt_of_le (m := l.length + 1) (by omega) (by unfold b8_8; dsimp only; omega)

theorem nok8 : NOK Try.prog (N8 p34 Q34 e34) := mkN_ok ⟨fam34, trivial⟩
theorem fitsBoth (x : Den A8) (w : Wf A8 x) : callN (Γ8 K33 G33 K34 G34 K32 G32 K19 G19 K25 G25 K29 G29 kL8_8 xL8_8 tL8_8 yL8_8) (N8 p34 Q34 e34) (bodyOf Try.f8) (decRH R8 kTrue) (encA A8 x) [] = some () := by
  refine Eq.trans (evN8 _ _ _ _ _ _ _ _ _ _ _ _ _ _ _ _ _ _ _ kTrue x) ?_
  unfold rN8
  simp only [K33, G33, F33_eq, Option.isSome_some, Option.getD_some, cond_true]
  by_cases h0 : (x.1.length : Int) > 1048576
  · simp only [h0, decide_true, cond_true]; rfl
  · simp only [h0, decide_false, cond_false]
    haveI := e34
    refine allK_intro fun g => ?_
    have hp : p34 (x, ()) = true := by show decide (x.1.length ≤ 1048576) = true; simp; omega
    obtain ⟨q1, q2, q3⟩ := g.2 _ hp
    refine all_t hp ?_
    generalize g.val (x, ()) = d at *
    obtain ⟨⟨_, m, _⟩, l, _⟩ := d
    have hg := GoodSs.good q1 q2
    have e32 : F32 (l, m, ()) = some (bestN l m, ()) := F32_eq l m hg
    have hl := both_loop l m hg
    have q3' : I64 m.2.1 := q3
    simp only [K32, G32, e32, kL8_8, tL8_8, xL8_8, hl, Option.isSome_some, Option.getD_some, cond_true, isR, xOf, cond_false]
    rcases best_cases l m with hb | ⟨j, hb, hj, hs, hfit⟩
    · rw [hb]
      have d1 : decide ((-1 : Int) ≥ (l.length : Int)) = false := decide_eq_false (by omega)
      simp only [d1, cond_false]
      rfl
    · rw [hb]
      have d1 : decide ((j : Int) ≥ (l.length : Int)) = false := by simp; omega
      have d2 : decide ((j : Int) ≥ 0) = true := by simp
      have d4 : decide ((j : Int) < (l.length : Int)) = true := by simpa using hj
      have d5 : decide ((j : Int) ≥ -1) = true := decide_eq_true (by omega)
      have ha : ∀ k, List.getD l k (zero S23) = at' l k := fun _ => rfl
      have h19 : ∀ i, F19 (at' l i, m, ()) = some (fitsB (at' l i) m, ()) := fun i => F19_eq _
      have h25 : F25 (at' l j, m, ()) = some (fitsWideB (at' l j) m, ()) := F25_eq _ (hg.rng j).1 (hg.rng j).2 q3'
      have hel : sailElem (at' l j) = true := by
        unfold sailsB at hs
        rw [Bool.and_eq_true] at hs
        have := allFrom_iff.1 hs.1 j (Nat.zero_le _) (by omega)
        rw [Bool.and_eq_true] at this
        exact this.1
      have hw := fits_wide hel hfit
      simp only [d1, d2, d4, d5, Bool.and_self, cond_true, cond_false, Int.toNat_natCast, ha, K19, G19, h19, hfit, K25, G25, h25, hw, Option.isSome_some, Option.getD_some, Bool.not_true]
      rfl

end Go.Proofs.Ytbgkhcoeifbgkaa.AM
