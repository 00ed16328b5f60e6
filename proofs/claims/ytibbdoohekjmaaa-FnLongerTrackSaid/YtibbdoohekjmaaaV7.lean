/- Plainly: the draws of courses, tracks and places: they give something, and no long list. Conditions: those that each lemma names. -/
import Derived.Test.YtibbdoohekjmaaaV6
namespace Go.Proofs.Ytibbdoohekjmaaa.AM
open Go Go.Proofs
set_option linter.unusedVariables false

theorem near_ok (x : I89.den) (h : CurOk x.2.1) : Pst (F89 x) fun y => CurOk y.2.1 := by
  unfold F89 r89
  dsimp only
  (repeat' (with_reducible first | refine pst_some ?_ | refine pst_t (K73_ok _ (by (repeat ((try dsimp only); first | assumption | (with_reducible first | apply G68_cur | apply G71_cur | apply G72_cur | apply G73_cur | apply G54_cur | apply G53_cur))))) ?_ | refine pst_t (K54_ok _ (by (repeat ((try dsimp only); first | assumption | (with_reducible first | apply G68_cur | apply G71_cur | apply G72_cur | apply G73_cur | apply G54_cur | apply G53_cur))))) ?_ | refine pst_t (K53_ok _ (by (repeat ((try dsimp only); first | assumption | (with_reducible first | apply G68_cur | apply G71_cur | apply G72_cur | apply G73_cur | apply G54_cur | apply G53_cur))))) ?_ | refine pst_b (fun _ => ?_) (fun _ => ?_))) <;> (repeat ((try dsimp only); first | assumption | (with_reducible first | apply G68_cur | apply G71_cur | apply G72_cur | apply G73_cur | apply G54_cur | apply G53_cur)))
theorem K89_ok (x : I89.den) (h : CurOk x.2.1) : K89 x = true := pst_k (near_ok x h)
theorem G89_cur (x : I89.den) (h : CurOk x.2.1) : CurOk (G89 x).2.1 := pst_g _ (near_ok x h)

theorem K90_t (x : Den A90) : K90 x = true := by
  unfold K90 F90 r90
  cases decide (x.2.2.1 < x.2.1) <;> cases decide (x.1 < x.2.1) <;> cases decide (x.1 > x.2.2.1) <;> rfl

theorem K58_in (C : Den S45) (v : Int) (h0 : 0 ≤ v) (h1 : v ≤ (C.2.1.length : Int)) (h2 : C.2.1.length ≤ 1000) : K58 (C, v, ()) = true := by
  have := F58_eq C v.toNat (by omega) (by omega)
  rw [Int.toNat_of_nonneg h0] at this
  unfold K58
  rw [this]
  rfl

theorem sail_place (x : I69.den) (h : CurOk x.2.1) : Pst (F69 x) fun y => CurOk y.2.1 := by
  unfold F69 r69
  dsimp only
  refine pst_t (K54_ok _ (by (repeat ((try dsimp only); first | assumption | (with_reducible first | apply G89_cur | apply G68_cur | apply G71_cur | apply G72_cur | apply G73_cur | apply G54_cur | apply G53_cur))))) ?_
  refine pst_b (fun _ => ?_) (fun _ => ?_)
  · have hl : ∀ a b c d e : Int, 0 < (((((List.replicate 5 (zero (Ty.int IntKind.i64))).set 0 a).set 1 b).set 2 c).set 3 d |>.set 4 e).length := by intros; simp only [List.length_set, List.length_replicate]; decide
    have c1 : CurOk (G54 (((), 15, ()), x.snd)).snd.fst := by (repeat ((try dsimp only); first | assumption | (with_reducible first | apply G89_cur | apply G68_cur | apply G71_cur | apply G72_cur | apply G73_cur | apply G54_cur | apply G53_cur)))
    have k := fun l (h : 0 < l.length) => K85_ok (((), (), ()), (G54 (((), 15, ()), x.snd)).snd.fst, l, ()) c1 h
    have g := fun l (h : 0 < l.length) => G85_cur (((), (), ()), (G54 (((), 15, ()), x.snd)).snd.fst, l, ()) c1 h
    have h5 := hl (-1) x.fst.snd.fst (IntKind.wrap IntKind.i64 (x.fst.snd.fst + 1)) 9223372036854775807 (-9223372036854775808)
    generalize (((((List.replicate 5 (zero (Ty.int IntKind.i64))).set 0 (-1)).set 1 x.fst.snd.fst).set 2 (IntKind.wrap IntKind.i64 (x.fst.snd.fst + 1))).set 3 9223372036854775807).set 4 (-9223372036854775808) = l at *
    refine pst_t (k l h5) ?_
    exact pst_some (g l h5)
  · refine pst_t (K73_ok _ (by (repeat ((try dsimp only); first | assumption | (with_reducible first | apply G89_cur | apply G68_cur | apply G71_cur | apply G72_cur | apply G73_cur | apply G54_cur | apply G53_cur))))) ?_
    exact pst_some (by (repeat ((try dsimp only); first | assumption | (with_reducible first | apply G89_cur | apply G68_cur | apply G71_cur | apply G72_cur | apply G73_cur | apply G54_cur | apply G53_cur))))
theorem K69_ok (x : I69.den) (h : CurOk x.2.1) : K69 x = true := pst_k (sail_place x h)
theorem G69_cur (x : I69.den) (h : CurOk x.2.1) : CurOk (G69 x).2.1 := pst_g _ (sail_place x h)

/-! ## A course -/

theorem crs_loop (v : V66_3) (h : CurOk v.2.1) (h0 : 0 ≤ v.1.2.2.2.1) (h1 : (v.2.2.2.2.1.length : Int) + v.1.2.2.2.1 ≤ 3) (h2 : 1 ≤ (v.2.2.2.2.1.length : Int) + v.1.2.2.2.1) : Pst (l66_3 v) fun y => CurOk y.2.1 ∧ y.2.2.2.2.1.length ≤ 3 ∧ 1 ≤ y.2.2.2.2.1.length := by
  refine iter_ind (q := q66_3 K73 G73 K89 G89 K54 G54 K71 G71) (fun v => CurOk v.2.1 ∧ 0 ≤ v.1.2.2.2.1 ∧ (v.2.2.2.2.1.length : Int) + v.1.2.2.2.1 ≤ 3 ∧ 1 ≤ (v.2.2.2.2.1.length : Int) + v.1.2.2.2.1) (fun _ r => Pst r fun y => CurOk y.2.1 ∧ y.2.2.2.2.1.length ≤ 3 ∧ 1 ≤ y.2.2.2.2.1.length)
    (fun v => v.1.2.2.2.1.toNat) ?_ _ _ ⟨h, h0, h1, h2⟩ (Nat.lt_of_lt_of_le (m := 1000) (by omega) (Nat.le_add_left _ _))
  clear h h0 h1 h2 v
  rintro ⟨⟨_, _, _, k, _⟩, c, b1, b2, l, _⟩ f ⟨g0, g1, g2, g3⟩ ih
  simp only at g0 g1 g2 g3 ih
  unfold q66_3
  dsimp only
  by_cases hk : k > 0
  · refine pst_t (by simpa using hk) ?_
    refine pst_t (K89_ok _ (by (repeat ((try dsimp only); first | assumption | (with_reducible first | apply G69_cur | apply G89_cur | apply G68_cur | apply G71_cur | apply G72_cur | apply G73_cur | apply G54_cur | apply G53_cur))))) ?_
    refine pst_t (K54_ok _ (by (repeat ((try dsimp only); first | assumption | (with_reducible first | apply G69_cur | apply G89_cur | apply G68_cur | apply G71_cur | apply G72_cur | apply G73_cur | apply G54_cur | apply G53_cur))))) ?_
    refine pst_t ?_ ?_
    · refine capOk_of ?_
      simp only [List.length_set, List.length_replicate]
      omega
    have e : IntKind.i64.wrap (k - 1) = k - 1 := w64 (by omega) (by omega)
    refine ih _ ⟨by (repeat ((try dsimp only); first | assumption | (with_reducible first | apply G69_cur | apply G89_cur | apply G68_cur | apply G71_cur | apply G72_cur | apply G73_cur | apply G54_cur | apply G53_cur))), ?_, ?_, ?_⟩ ?_ <;> simp only [e, List.length_append, List.length_set, List.length_replicate] <;> omega
  · have : decide (k > 0) = false := by simpa using hk
    rw [this]
    exact pst_some ⟨g0, by show l.length ≤ 3; omega, by show 1 ≤ l.length; omega⟩

theorem mrk_loop (v : V66_18) (h : CurOk v.2.1) (h1 : v.2.2.2.2.1.length ≤ 22) : Pst (l66_18 v) fun y => CurOk y.2.1 ∧ y.2.2.2.2.1.length ≤ 22 := by
  refine iter_ind (q := q66_18 K73 G73 K89 G89 K54 G54 K71 G71) (fun v => CurOk v.2.1 ∧ v.2.2.2.2.1.length ≤ 22) (fun _ r => Pst r fun y => CurOk y.2.1 ∧ y.2.2.2.2.1.length ≤ 22)
    (fun v => 22 - v.2.2.2.2.1.length) ?_ _ _ ⟨h, h1⟩ (Nat.lt_of_lt_of_le (m := 1000) (by omega) (Nat.le_add_left _ _))
  clear h h1 v
  rintro ⟨⟨_, _, _, _⟩, c, b1, b2, l, _⟩ f ⟨g0, g2⟩ ih
  simp only at g0 g2 ih
  unfold q66_18
  dsimp only
  refine pst_t (K73_ok _ (by (repeat ((try dsimp only); first | assumption | (with_reducible first | apply G69_cur | apply G89_cur | apply G68_cur | apply G71_cur | apply G72_cur | apply G73_cur | apply G54_cur | apply G53_cur))))) ?_
  have b2' : 0 ≤ ((G73 (((), 2, ()), c, ())).fst.fst : Int) ∧ ((G73 (((), 2, ()), c, ())).fst.fst : Int) < 2 := below_bd 2 c g0 (by decide)
  have c2 : CurOk (G73 (((), 2, ()), c, ())).snd.fst := by (repeat ((try dsimp only); first | assumption | (with_reducible first | apply G69_cur | apply G89_cur | apply G68_cur | apply G71_cur | apply G72_cur | apply G73_cur | apply G54_cur | apply G53_cur)))
  generalize G73 (((), 2, ()), c, ()) = D at *
  have bd : ∀ z : Int, z = D.fst.fst → IntKind.i64.wrap (20 + z) ≤ 21 := fun z e => by
    have h1 : 0 ≤ z := e ▸ b2'.1
    have h2 : z < 2 := e ▸ b2'.2
    rw [w64 (by omega) (by omega)]
    omega
  have bd' := bd _ rfl
  by_cases hl : (l.length : Int) < IntKind.i64.wrap (20 + D.fst.fst)
  · refine pst_t (by simpa using hl) ?_
    refine pst_t ?_ ?_
    · refine capOk_of ?_
      simp only [List.length_set, List.length_replicate]
      omega
    have hl' : (l.length : Int) < 21 := Int.lt_of_lt_of_le hl bd'
    refine ih _ ⟨c2, ?_⟩ ?_ <;> simp only [List.length_append, List.length_set, List.length_replicate] <;> omega
  · have : decide ((l.length : Int) < IntKind.i64.wrap (20 + D.fst.fst)) = false := by simpa using hl
    rw [this]
    exact pst_some ⟨c2, g2⟩

theorem mrk_k (v : V66_18) (h : CurOk v.2.1) (h1 : v.2.2.2.2.1.length ≤ 22) : kL66_18 v = true := pst_k (mrk_loop v h h1)
theorem mrk_g (v : V66_18) (h : CurOk v.2.1) (h1 : v.2.2.2.2.1.length ≤ 22) : CurOk (xL66_18 v).2.1 ∧ (xL66_18 v).2.2.2.2.1.length ≤ 22 := pst_g _ (mrk_loop v h h1)

theorem course_ok (x : I66.den) (h : CurOk x.2.1) : Pst (F66 x) fun y => CurOk y.2.1 ∧ y.1.1.2.1.length ≤ 22 := by
  unfold F66 r66
  dsimp only
  refine pst_t (K73_ok _ (by (repeat ((try dsimp only); first | assumption | (with_reducible first | apply G69_cur | apply G89_cur | apply G68_cur | apply G71_cur | apply G72_cur | apply G73_cur | apply G54_cur | apply G53_cur))))) ?_
  refine pst_t (K73_ok _ (by (repeat ((try dsimp only); first | assumption | (with_reducible first | apply G69_cur | apply G89_cur | apply G68_cur | apply G71_cur | apply G72_cur | apply G73_cur | apply G54_cur | apply G53_cur))))) ?_
  have c9 : CurOk (G73 (((), 9, ()), x.snd)).snd.fst := by (repeat ((try dsimp only); first | assumption | (with_reducible first | apply G69_cur | apply G89_cur | apply G68_cur | apply G71_cur | apply G72_cur | apply G73_cur | apply G54_cur | apply G53_cur)))
  have b3 : 0 ≤ ((G73 (((), 3, ()), (G73 (((), 9, ()), x.snd)).snd)).fst.fst : Int) ∧ ((G73 (((), 3, ()), (G73 (((), 9, ()), x.snd)).snd)).fst.fst : Int) < 3 := below_bd 3 (G73 (((), 9, ()), x.snd)).2.1 c9 (by decide)
  have c3 : CurOk (G73 (((), 3, ()), (G73 (((), 9, ()), x.snd)).snd)).snd.fst := by (repeat ((try dsimp only); first | assumption | (with_reducible first | apply G69_cur | apply G89_cur | apply G68_cur | apply G71_cur | apply G72_cur | apply G73_cur | apply G54_cur | apply G53_cur)))
  generalize G73 (((), 3, ()), (G73 (((), 9, ()), x.snd)).snd) = D at *
  generalize G73 (((), 9, ()), x.snd) = B at *
  have bd : ∀ z : Int, z = D.fst.fst → 1 ≤ IntKind.i64.wrap (1 + z) ∧ IntKind.i64.wrap (1 + z) ≤ 3 := fun z e => by
    have h1 : 0 ≤ z := e ▸ b3.1
    have h2 : z < 3 := e ▸ b3.2
    rw [w64 (by omega) (by omega)]
    omega
  have p := crs_loop (((), (), (), IntKind.i64.wrap (1 + D.fst.fst), ()), D.snd.fst, (0, 0, 0, 0, (), 0, 0, 0, 0, ()), (0, -20, IntKind.i64.wrap (B.fst.fst - 4), 20, (), 0, 0, 0, 0, ()), [], ()) c3 (Int.le_trans (by decide) (bd _ rfl).1) (by simpa using (bd _ rfl).2) (by simpa using (bd _ rfl).1)
  refine pst_t (pst_k p) ?_
  obtain ⟨y, ey, hy⟩ := p
  have ex : xL66_3 (((), (), (), IntKind.i64.wrap (1 + D.fst.fst), ()), D.snd.fst, (0, 0, 0, 0, (), 0, 0, 0, 0, ()), (0, -20, IntKind.i64.wrap (B.fst.fst - 4), 20, (), 0, 0, 0, 0, ()), [], ()) = y := by unfold xL66_3; rw [ey]; rfl
  rw [ex]
  obtain ⟨cy, ly, ly1⟩ := hy
  refine pst_t (K89_ok _ (by (repeat ((try dsimp only); first | assumption | (with_reducible first | apply G69_cur | apply G89_cur | apply G68_cur | apply G71_cur | apply G72_cur | apply G73_cur | apply G54_cur | apply G53_cur))))) ?_
  refine pst_t (K89_ok _ (by (repeat ((try dsimp only); first | assumption | (with_reducible first | apply G69_cur | apply G89_cur | apply G68_cur | apply G71_cur | apply G72_cur | apply G73_cur | apply G54_cur | apply G53_cur))))) ?_
  refine pst_t (K73_ok _ (by (repeat ((try dsimp only); first | assumption | (with_reducible first | apply G69_cur | apply G89_cur | apply G68_cur | apply G71_cur | apply G72_cur | apply G73_cur | apply G54_cur | apply G53_cur))))) ?_
  have cA : CurOk (G73 (((), 20, ()), (G89 (((), (50, 20, ()), 20, ()), (G89 (((), (50, -20, ()), 20, ()), y.snd.fst, ())).snd)).snd)).snd.fst := by (repeat ((try dsimp only); first | assumption | (with_reducible first | apply G69_cur | apply G89_cur | apply G68_cur | apply G71_cur | apply G72_cur | apply G73_cur | apply G54_cur | apply G53_cur)))
  generalize G73 (((), 20, ()), (G89 (((), (50, 20, ()), 20, ()), (G89 (((), (50, -20, ()), 20, ()), y.snd.fst, ())).snd)).snd) = A at *
  have l3 : y.2.2.2.2.1.length ≤ 22 := by omega
  refine pst_b (fun _ => ?_) (fun _ => ?_)
  · exact pst_some ⟨cA, by simp⟩
  refine pst_b (fun _ => ?_) (fun _ => ?_)
  · refine pst_t ?_ ?_
    · have : decide (0 < ((y.snd.snd.snd.snd.fst.length : Nat) : Int)) = true := by simp; omega
      rw [this]; rfl
    exact pst_some ⟨cA, by simp only [List.length_set]; exact l3⟩
  refine pst_b (fun _ => ?_) (fun _ => ?_)
  · refine pst_t (K71_ok _ (by (repeat ((try dsimp only); first | assumption | (with_reducible first | apply G69_cur | apply G89_cur | apply G68_cur | apply G71_cur | apply G72_cur | apply G73_cur | apply G54_cur | apply G53_cur))))) ?_
    exact pst_some ⟨by (repeat ((try dsimp only); first | assumption | (with_reducible first | apply G69_cur | apply G89_cur | apply G68_cur | apply G71_cur | apply G72_cur | apply G73_cur | apply G54_cur | apply G53_cur))), l3⟩
  refine pst_b (fun _ => ?_) (fun _ => ?_)
  · exact pst_some ⟨cA, l3⟩
  refine pst_b (fun _ => ?_) (fun _ => ?_)
  · refine pst_t (mrk_k _ cA l3) ?_
    exact pst_some (mrk_g _ cA l3)
  · exact pst_some ⟨cA, l3⟩

theorem K66_ok (x : I66.den) (h : CurOk x.2.1) : K66 x = true := pst_k (course_ok x h)
theorem G66_cur (x : I66.den) (h : CurOk x.2.1) : CurOk (G66 x).2.1 := (pst_g _ (course_ok x h)).1
theorem G66_len (x : I66.den) (h : CurOk x.2.1) : (G66 x).1.1.2.1.length ≤ 22 := (pst_g _ (course_ok x h)).2

/-! ## A track along a course -/


theorem sail_loop (v : V67_5) (h : CurOk v.2.1) (h0 : 0 ≤ v.1.2.2.2.2.2.1) (h1 : v.1.2.2.2.2.2.1 ≤ 60) (h2 : (v.2.2.2.1.length : Int) ≤ v.1.2.2.2.2.2.1) (h3 : v.2.2.1.2.2.2.2.1.length ≤ 22) : Pst (l67_5 v) fun y => CurOk y.2.1 ∧ y.2.2.1.length ≤ 300 := by
  refine iter_ind (q := q67_5 K73 G73 K89 G89 K58 G58 K90 G90 K54 G54) (fun v => CurOk v.2.1 ∧ 0 ≤ v.1.2.2.2.2.2.1 ∧ v.1.2.2.2.2.2.1 ≤ 60 ∧ (v.2.2.2.1.length : Int) ≤ v.1.2.2.2.2.2.1 ∧ v.2.2.1.2.2.2.2.1.length ≤ 22) (fun _ r => Pst r fun y => CurOk y.2.1 ∧ y.2.2.1.length ≤ 300)
    (fun v => 60 - v.1.2.2.2.2.2.1.toNat) ?_ _ _ ⟨h, h0, h1, h2, h3⟩ (Nat.lt_of_lt_of_le (m := 1000) (by omega) (Nat.le_add_left _ _))
  clear h h0 h1 h2 h3 v
  rintro ⟨⟨_, _, _, w, _, i, _⟩, c, ⟨q1, q2, q3, q4, l, q5, q6, q7, q8, _⟩, t, p, _⟩ f ⟨g0, g1, g2, g3, g4⟩ ih
  simp only at g0 g1 g2 g3 g4 ih
  have fin : ∀ {z}, z = t → Pst (some (((), ()), ((c.1, (c.2.1, (c.2.2.1, ()))), (z, ()))) : Option X67_5) fun y => CurOk y.2.1 ∧ y.2.2.1.length ≤ 300 := fun e => pst_some ⟨g0, by rw [e]; show t.length ≤ 300; omega⟩
  unfold q67_5
  dsimp only
  refine pst_b (fun _ => ?_) (fun _ => fin rfl)
  by_cases hi : i < 60
  · refine pst_t (by simpa using hi) ?_
    refine pst_t ?_ ?_
    · refine capOk_of ?_
      simp only [List.length_set, List.length_replicate]
      omega
    refine pst_t (K73_ok _ (by (repeat ((try dsimp only); first | assumption | (with_reducible first | apply G66_cur | apply G69_cur | apply G89_cur | apply G68_cur | apply G71_cur | apply G72_cur | apply G73_cur | apply G54_cur | apply G53_cur))))) ?_
    have e : IntKind.i64.wrap (i + 1) = i + 1 := w64 (by omega) (by omega)
    have hv : 0 ≤ IntKind.i64.wrap (Int.tdiv i 5) := by
      rw [Int.tdiv_eq_ediv_of_nonneg g1, w64 (by omega) (by omega)]
      omega
    generalize IntKind.i64.wrap (Int.tdiv i 5) = v4 at *
    by_cases h4 : v4 < (l.length : Int)
    · refine pst_t (by simpa using h4) ?_
      refine pst_t (K58_in _ _ hv (by show v4 ≤ (l.length : Int); omega) (by show l.length ≤ 1000; omega)) ?_
      have a1 : (decide (0 ≤ v4) && decide (v4 < (l.length : Int))) = true := by simp [hv, h4]
      refine pst_t a1 ?_
      refine pst_t a1 ?_
      (repeat' (with_reducible first | refine pst_t (K73_ok _ (by (repeat ((try dsimp only); first | assumption | (with_reducible first | apply G66_cur | apply G69_cur | apply G89_cur | apply G68_cur | apply G71_cur | apply G72_cur | apply G73_cur | apply G54_cur | apply G53_cur))))) ?_ | refine pst_t (K54_ok _ (by (repeat ((try dsimp only); first | assumption | (with_reducible first | apply G66_cur | apply G69_cur | apply G89_cur | apply G68_cur | apply G71_cur | apply G72_cur | apply G73_cur | apply G54_cur | apply G53_cur))))) ?_ | refine pst_t (K89_ok _ (by (repeat ((try dsimp only); first | assumption | (with_reducible first | apply G66_cur | apply G69_cur | apply G89_cur | apply G68_cur | apply G71_cur | apply G72_cur | apply G73_cur | apply G54_cur | apply G53_cur))))) ?_ | refine pst_t (K90_t _) ?_ | refine pst_b (fun _ => ?_) (fun _ => ?_))) <;> (refine ih _ ⟨by (repeat ((try dsimp only); first | assumption | (with_reducible first | apply G66_cur | apply G69_cur | apply G89_cur | apply G68_cur | apply G71_cur | apply G72_cur | apply G73_cur | apply G54_cur | apply G53_cur))), ?_, ?_, ?_, g4⟩ ?_ <;> simp only [e, List.length_append, List.length_set, List.length_replicate] <;> omega)
    · have : decide (v4 < (l.length : Int)) = false := by simpa using h4
      rw [this]
      simp only [cond_false]
      refine pst_t (K89_ok _ (by (repeat ((try dsimp only); first | assumption | (with_reducible first | apply G66_cur | apply G69_cur | apply G89_cur | apply G68_cur | apply G71_cur | apply G72_cur | apply G73_cur | apply G54_cur | apply G53_cur))))) ?_
      refine ih _ ⟨by (repeat ((try dsimp only); first | assumption | (with_reducible first | apply G66_cur | apply G69_cur | apply G89_cur | apply G68_cur | apply G71_cur | apply G72_cur | apply G73_cur | apply G54_cur | apply G53_cur))), ?_, ?_, ?_, g4⟩ ?_ <;> simp only [e, List.length_append, List.length_set, List.length_replicate] <;> omega
  · have : decide (i < 60) = false := by simpa using hi
    rw [this]
    exact fin rfl

theorem sailD_ok (x : I67.den) (h : CurOk x.2.1) (hl : x.1.2.1.2.1.length ≤ 22) : Pst (F67 x) fun y => CurOk y.2.1 ∧ y.2.2.1.length ≤ 300 := by
  unfold F67 r67
  dsimp only
  refine pst_t (K73_ok _ (by (repeat ((try dsimp only); first | assumption | (with_reducible first | apply G66_cur | apply G69_cur | apply G89_cur | apply G68_cur | apply G71_cur | apply G72_cur | apply G73_cur | apply G54_cur | apply G53_cur))))) ?_
  refine pst_t (K89_ok _ (by (repeat ((try dsimp only); first | assumption | (with_reducible first | apply G66_cur | apply G69_cur | apply G89_cur | apply G68_cur | apply G71_cur | apply G72_cur | apply G73_cur | apply G54_cur | apply G53_cur))))) ?_
  have ck := fun (v : V67_5) h h0 h1 h2 h3 => (pst_k (sail_loop v h h0 h1 h2 h3) : kL67_5 v = true)
  have cg := fun (v : V67_5) h h0 h1 h2 h3 => (pst_g _ (sail_loop v h h0 h1 h2 h3) : CurOk (xL67_5 v).2.1 ∧ (xL67_5 v).2.2.1.length ≤ 300)
  refine pst_t (ck _ (by (repeat ((try dsimp only); first | assumption | (with_reducible first | apply G66_cur | apply G69_cur | apply G89_cur | apply G68_cur | apply G71_cur | apply G72_cur | apply G73_cur | apply G54_cur | apply G53_cur)))) (by simp) (by simp) (by simp) hl) ?_
  exact pst_some (cg _ (by (repeat ((try dsimp only); first | assumption | (with_reducible first | apply G66_cur | apply G69_cur | apply G89_cur | apply G68_cur | apply G71_cur | apply G72_cur | apply G73_cur | apply G54_cur | apply G53_cur)))) (by simp) (by simp) (by simp) hl)
theorem K67_ok (x : I67.den) (h : CurOk x.2.1) (hl : x.1.2.1.2.1.length ≤ 22) : K67 x = true := pst_k (sailD_ok x h hl)
theorem G67_ok (x : I67.den) (h : CurOk x.2.1) (hl : x.1.2.1.2.1.length ≤ 22) : CurOk (G67 x).2.1 ∧ (G67 x).2.2.1.length ≤ 300 := pst_g _ (sailD_ok x h hl)

theorem draw25 (x : Den A25) (h : x.1.length ≤ 1048576) : Pst (F25 x) fun y => y.1.2.1.length ≤ 22 ∧ y.2.2.1.length ≤ 300 := by
  have c0 := G52_cur (x, ()) h
  unfold F25 r25
  dsimp only
  refine pst_t (K52_ok _ h) ?_
  refine pst_t (K66_ok _ (by (repeat ((try dsimp only); first | assumption | (with_reducible first | apply G66_cur | apply G69_cur | apply G89_cur | apply G68_cur | apply G71_cur | apply G72_cur | apply G73_cur | apply G54_cur | apply G53_cur))))) ?_
  have l1 := G66_len (((), ()), (G52 (x, ())).snd) c0
  have c1 := G66_cur (((), ()), (G52 (x, ())).snd) c0
  generalize G66 (((), ()), (G52 (x, ())).snd) = A at *
  refine pst_t (K67_ok _ (by (repeat ((try dsimp only); first | assumption | (with_reducible first | apply G66_cur | apply G69_cur | apply G89_cur | apply G68_cur | apply G71_cur | apply G72_cur | apply G73_cur | apply G54_cur | apply G53_cur)))) l1) ?_
  obtain ⟨c2, l2⟩ := G67_ok (((), A.fst), A.snd) c1 l1
  generalize G67 (((), A.fst), A.snd) = B at *
  refine pst_t (K54_ok _ (by (repeat ((try dsimp only); first | assumption | (with_reducible first | apply G66_cur | apply G69_cur | apply G89_cur | apply G68_cur | apply G71_cur | apply G72_cur | apply G73_cur | apply G54_cur | apply G53_cur))))) ?_
  refine pst_b (fun _ => ?_) (fun _ => ?_)
  · refine pst_t (K68_ok _ (by (repeat ((try dsimp only); first | assumption | (with_reducible first | apply G66_cur | apply G69_cur | apply G89_cur | apply G68_cur | apply G71_cur | apply G72_cur | apply G73_cur | apply G54_cur | apply G53_cur))))) ?_
    have l3 := G68_len (((), ()), (G54 (((), 6, ()), B.snd.fst, ())).snd) (by (repeat ((try dsimp only); first | assumption | (with_reducible first | apply G66_cur | apply G69_cur | apply G89_cur | apply G68_cur | apply G71_cur | apply G72_cur | apply G73_cur | apply G54_cur | apply G53_cur))))
    refine pst_t (K69_ok _ (by (repeat ((try dsimp only); first | assumption | (with_reducible first | apply G66_cur | apply G69_cur | apply G89_cur | apply G68_cur | apply G71_cur | apply G72_cur | apply G73_cur | apply G54_cur | apply G53_cur))))) ?_
    refine pst_t (K54_ok _ (by (repeat ((try dsimp only); first | assumption | (with_reducible first | apply G66_cur | apply G69_cur | apply G89_cur | apply G68_cur | apply G71_cur | apply G72_cur | apply G73_cur | apply G54_cur | apply G53_cur))))) ?_
    refine pst_b (fun _ => ?_) (fun _ => ?_)
    · exact pst_some ⟨l1, l3⟩
    · refine pst_t (K69_ok _ (by (repeat ((try dsimp only); first | assumption | (with_reducible first | apply G66_cur | apply G69_cur | apply G89_cur | apply G68_cur | apply G71_cur | apply G72_cur | apply G73_cur | apply G54_cur | apply G53_cur))))) ?_
      exact pst_some ⟨l1, l3⟩
  · refine pst_t (K69_ok _ (by (repeat ((try dsimp only); first | assumption | (with_reducible first | apply G66_cur | apply G69_cur | apply G89_cur | apply G68_cur | apply G71_cur | apply G72_cur | apply G73_cur | apply G54_cur | apply G53_cur))))) ?_
    refine pst_t (K54_ok _ (by (repeat ((try dsimp only); first | assumption | (with_reducible first | apply G66_cur | apply G69_cur | apply G89_cur | apply G68_cur | apply G71_cur | apply G72_cur | apply G73_cur | apply G54_cur | apply G53_cur))))) ?_
    refine pst_b (fun _ => ?_) (fun _ => ?_)
    · exact pst_some ⟨l1, l2⟩
    · refine pst_t (K69_ok _ (by (repeat ((try dsimp only); first | assumption | (with_reducible first | apply G66_cur | apply G69_cur | apply G89_cur | apply G68_cur | apply G71_cur | apply G72_cur | apply G73_cur | apply G54_cur | apply G53_cur))))) ?_
      exact pst_some ⟨l1, l2⟩

theorem draw30 (x : Den A30) (h : x.1.length ≤ 1048576) : Pst (F30 x) fun y => y.1.2.1.length ≤ 22 ∧ y.2.1.length ≤ 300 := by
  have p := draw25 x h
  have k : K25 x = true := pst_k p
  have g : (G25 x).1.2.1.length ≤ 22 ∧ (G25 x).2.2.1.length ≤ 300 := pst_g _ p
  unfold F30 r30
  dsimp only
  refine pst_t k ?_
  refine pst_b (fun _ => ?_) (fun _ => ?_)
  · exact pst_some g
  · exact pst_some g

end Go.Proofs.Ytibbdoohekjmaaa.AM
