/- Plainly: the laws FnExactFitsWide and FnExactChanges: both texts answer alike. Conditions: what every value that is handed over meets. -/
import Derived.Test.YtbgkhcoeifbgkaaV0
namespace Go.Proofs.Ytbgkhcoeifbgkaa.AM
open Go Go.Proofs
set_option linter.unusedVariables false

/-- A whole number of 64 bits. -/
def I64 (n : Int) : Prop := -9223372036854775808 ≤ n ∧ n ≤ 9223372036854775807
theorem wf_i64 {n : Int} (h : Wf (.int .i64) n) : I64 n := by
  have : (decide ((-9223372036854775808 : Int) ≤ n) && decide (n ≤ 9223372036854775807)) = true := h
  simpa [I64] using this

/-- Whether a sail fits in the wider sense. -/
def fitsWideB (s : Den S23) (m : Den S25) : Bool :=
  (fgt .f32 m.1 (farith .sub .f32 s.2.1 1065353216) || feq .f32 m.1 (farith .sub .f32 s.2.1 1065353216)) && (flt .f32 m.1 (farith .add .f32 s.2.2.1 1065353216) || feq .f32 m.1 (farith .add .f32 s.2.2.1 1065353216)) &&
    (decide (s.2.2.2.1 ≤ m.2.1) || decide (s.2.2.2.1 - m.2.1 ≤ 5)) && (decide (m.2.1 ≤ s.2.2.2.2.1) || decide (m.2.1 - s.2.2.2.2.1 ≤ 5))

theorem near_s {a b : Int} (ha : I64 a) (hb : I64 b) (h : ¬ b ≤ a) : (decide (0 ≤ IntKind.i64.wrap (b - a)) && decide (IntKind.i64.wrap (b - a) ≤ 5)) = decide (b - a ≤ 5) := by
  unfold I64 at ha hb
  rw [IntKind.wrap_i64, Bool.eq_iff_iff]
  simp only [Bool.and_eq_true, decide_eq_true_eq]
  omega
theorem near_u {a b : Int} (ha : I64 a) (hb : I64 b) (h : ¬ b ≤ a) : decide (IntKind.u64.wrap (IntKind.u64.wrap b - IntKind.u64.wrap a) ≤ 5) = decide (b - a ≤ 5) := by
  unfold I64 at ha hb
  rw [IntKind.wrap_u64, IntKind.wrap_u64, IntKind.wrap_u64, Bool.eq_iff_iff]
  simp only [decide_eq_true_eq]
  omega

theorem dlt (a b : Int) : decide (a < b) = !decide (b ≤ a) := by by_cases h : b ≤ a <;> simp [h] <;> omega

theorem F24_eq (x : Den A24) (h1 : I64 x.1.2.2.2.1) (h2 : I64 x.1.2.2.2.2.1) (h3 : I64 x.2.1.2.1) : F24 x = some (fitsWideB x.1 x.2.1, ()) := by
  unfold F24 r24 fitsWideB
  simp only [K53, G53, F53_eq, Option.isSome_some, Option.getD_some, cond_true, dlt]
  generalize (fgt .f32 x.2.1.1 (farith .sub .f32 x.1.2.1 1065353216) || feq .f32 x.2.1.1 (farith .sub .f32 x.1.2.1 1065353216)) = p
  generalize (flt .f32 x.2.1.1 (farith .add .f32 x.1.2.2.1 1065353216) || feq .f32 x.2.1.1 (farith .add .f32 x.1.2.2.1 1065353216)) = q
  by_cases ha : x.1.2.2.2.1 ≤ x.2.1.2.1 <;> by_cases hb : x.2.1.2.1 ≤ x.1.2.2.2.2.1
  · simp only [ha, hb, decide_true]; cases p <;> cases q <;> rfl
  · simp only [ha, hb, decide_true, decide_false, near_s h2 h3 hb]; cases p <;> cases q <;> rfl
  · simp only [ha, hb, decide_true, decide_false, near_s h3 h1 ha]; cases p <;> cases q <;> cases decide (x.1.2.2.2.1 - x.2.1.2.1 ≤ 5) <;> rfl
  · simp only [ha, hb, decide_false, near_s h3 h1 ha, near_s h2 h3 hb]; cases p <;> cases q <;> cases decide (x.1.2.2.2.1 - x.2.1.2.1 ≤ 5) <;> rfl

theorem F25_eq (x : Den A25) (h1 : I64 x.1.2.2.2.1) (h2 : I64 x.1.2.2.2.2.1) (h3 : I64 x.2.1.2.1) : F25 x = some (fitsWideB x.1 x.2.1, ()) := by
  unfold F25 r25 fitsWideB
  simp only [ge_iff_le]
  generalize (fgt .f32 x.2.1.1 (farith .sub .f32 x.1.2.1 1065353216) || feq .f32 x.2.1.1 (farith .sub .f32 x.1.2.1 1065353216)) = p
  generalize (flt .f32 x.2.1.1 (farith .add .f32 x.1.2.2.1 1065353216) || feq .f32 x.2.1.1 (farith .add .f32 x.1.2.2.1 1065353216)) = q
  by_cases ha : x.1.2.2.2.1 ≤ x.2.1.2.1 <;> by_cases hb : x.2.1.2.1 ≤ x.1.2.2.2.2.1
  · simp only [ha, hb, decide_true]; cases p <;> cases q <;> rfl
  · simp only [ha, hb, decide_true, decide_false, near_u h2 h3 hb]; cases p <;> cases q <;> rfl
  · simp only [ha, hb, decide_true, decide_false, near_u h3 h1 ha]; cases p <;> cases q <;> cases decide (x.1.2.2.2.1 - x.2.1.2.1 ≤ 5) <;> rfl
  · simp only [ha, hb, decide_false, near_u h3 h1 ha, near_u h2 h3 hb]; cases p <;> cases q <;> cases decide (x.1.2.2.2.1 - x.2.1.2.1 ≤ 5) <;> rfl

theorem exFitsWide (x : Den A5) (w : Wf A5 x) : F5 x = some (true, ()) := by
  obtain ⟨⟨_, _, _, h1, h2, _⟩, ⟨_, h3, _⟩, _⟩ := w
  unfold F5 r5
  obtain ⟨y, hy⟩ := F15_ok ((x.fst.fst, x.fst.snd.fst, x.fst.snd.snd.fst, x.fst.snd.snd.snd.fst, x.fst.snd.snd.snd.snd.fst, ()), 1048576, ())
  simp only [K15, G15, hy, K17, G17, F17_eq, K18, G18, F18_eq, K24, G24, K25, G25, Option.isSome_some, Option.getD_some, cond_true]
  rw [F24_eq _ (wf_i64 h1) (wf_i64 h2) (wf_i64 h3), F25_eq _ (wf_i64 h1) (wf_i64 h2) (wf_i64 h3)]
  cases decide (y.fst < 0) <;> simp

/-! ## Loops over lists of whole numbers -/

theorem F21_eq (l : List Int) (h : l.length ≤ 1099511627776) : F21 ((l, ()), ()) = some (((), ()), (l, ())) := by
  have hl : l21_3 ((l, (), (0 : Int), ()), (List.replicate l.length (0 : Int), ())) = some (((), ()), (l, ())) := by
    have hr : (List.replicate l.length (0 : Int)).length = l.length := by simp
    refine (iter_all (q := q21_3) (fun k => ((l, (), (k : Int), ()), (l.take k ++ (List.replicate l.length (0 : Int)).drop k, ()))) l.length _ ?_ ?_ _ ?_ : _)
    · intro k f hk
      have h2 : (l.take k ++ (List.replicate l.length (0 : Int)).drop k).length = l.length := by simp; omega
      have h3 := take_drop_set l (List.replicate l.length (0 : Int)) k hk hr.symm
      unfold q21_3
      simp only [w64n k (by omega), Int.toNat_natCast, getD_lt l k _ hk, h3, h2]
      simp [hk]
    · intro f
      simp [q21_3]
    · simp [b21_3]
      omega
  unfold F21 r21
  have h0 : zero (Ty.int IntKind.i64) = (0 : Int) := rfl
  simp only [Int.toNat_natCast, capOk_of h, kL21_3, xL21_3, h0, hl, Option.isSome_some, Option.getD_some, beq_self_eq_true, Bool.and_true, cond_true]
  simp

theorem F23_eq (l : List Int) (h : l.length ≤ 1099511627776) : F23 (l, l, ()) = some (true, ()) := by
  have hl : l23_4 ((l, l, (0 : Int), ()), ()) = some (.inl ((), ())) := by
    refine (iter_all (q := q23_4) (fun k => ((l, l, (k : Int), ()), ())) l.length _ ?_ ?_ _ ?_ : _)
    · intro k f hk
      unfold q23_4
      simp only [w64n k (by omega), Int.toNat_natCast, getD_lt l k _ hk]
      simp [hk]
    · intro f
      simp [q23_4]
    · simp [b23_4]
      omega
  unfold F23 r23
  simp [kL23_4, tL23_4, hl, isR]

theorem F20_ok (l : List Int) (h : l.length ≤ 1099511627776) : ∃ y, F20 (l, ()) = some y := by
  have hl : ∃ y, l20_3 ((l, (0 : Int), (1 : Int), ()), ()) = some y := by
    refine iter_ind (q := q20_3) (fun v => v.1.1.length ≤ 1099511627776 ∧ 1 ≤ v.1.2.2.1 ∧ v.1.2.2.1 ≤ v.1.1.length + 1) (fun _ r => ∃ y, r = some y) (fun v => (v.1.1.length + 1 - v.1.2.2.1).toNat) ?_ _ _ ⟨h, by simp only; omega, by simp only; omega⟩ (by simp only [b20_3]; omega)
    rintro ⟨⟨l, n, i, _⟩, _⟩ f ⟨h0, h1, h2⟩ ih
    simp only at h0 h1 h2 ih
    unfold q20_3
    by_cases hi : i < l.length
    · have e1 : IntKind.i64.wrap (i - 1) = i - 1 := w64 (by omega) (by omega)
      have e2 : IntKind.i64.wrap (i + 1) = i + 1 := w64 (by omega) (by omega)
      have a1 : decide (0 ≤ i) = true := by simp; omega
      have a2 : decide (0 ≤ i - 1) = true := by simp; omega
      have a3 : decide (i - 1 < (l.length : Int)) = true := by simp; omega
      simp only [e1, e2, a1, a2, a3, hi, decide_true, Bool.and_self, cond_true]
      cases (l.getD i.toNat (zero (Ty.int IntKind.i64)) != l.getD (i - 1).toNat (zero (Ty.int IntKind.i64)))
      · exact ih ((l, n, i + 1, ()), ()) ⟨h0, by simp only; omega, by simp only; omega⟩ (by simp only; omega)
      · exact ih ((l, IntKind.i64.wrap (n + 1), i + 1, ()), ()) ⟨h0, by simp only; omega, by simp only; omega⟩ (by simp only; omega)
    · simp only [hi, decide_false, cond_false]
      exact ⟨_, rfl⟩
  obtain ⟨y, hy⟩ := hl
  unfold F20 r20
  simp only [kL20_3, xL20_3, hy, Option.isSome_some, Option.getD_some, cond_true]
  exact ⟨_, rfl⟩

theorem F22_eq (x : Den A22) : F22 x = F20 x := rfl

theorem exChanges (x : Den A4) (w : Wf A4 x) : F4 x = some (true, ()) := by
  obtain ⟨l, _⟩ := x
  unfold F4 r4
  by_cases hl : (l.length : Int) > 1048576
  · simp [hl]
  · have hn : l.length ≤ 1099511627776 := by omega
    obtain ⟨y, hy⟩ := F20_ok l hn
    simp only [hl, K21, G21, F21_eq l hn, K20, G20, K22, G22, F22_eq, hy, K23, G23, F23_eq l hn, Option.isSome_some, Option.getD_some, decide_false, cond_false, cond_true]
    simp

end Go.Proofs.Ytbgkhcoeifbgkaa.AM
