/- Plainly: the cursor that all draws share: it is right from the start on, and what is drawn lies where it should. Conditions: those that each lemma names. -/
import Derived.Test.YtmmdjajebmihhaaP1
import Derived.Test.YtmmdjajebmihhaaU0
namespace Go.Proofs.Ytmmdjajebmihhaa.AM
open Go Go.Proofs
set_option linter.unusedVariables false

/-- A cursor that is right. -/
def CurOk (c : List Int × Int × Int × Unit) : Prop := 0 ≤ c.2.1 ∧ c.1.length ≤ 1048576

theorem and255 (a : Int) : 0 ≤ ibits .and .i64 a 255 ∧ ibits .and .i64 a 255 ≤ 255 := by
  have h : (BitVec.ofInt IntKind.i64.bits a &&& BitVec.ofInt IntKind.i64.bits 255).toNat ≤ 255 := by
    rw [BitVec.toNat_and]
    exact Nat.and_le_right
  have e : ibits .and .i64 a 255 = IntKind.i64.wrap ((BitVec.ofInt IntKind.i64.bits a &&& BitVec.ofInt IntKind.i64.bits 255).toNat : Int) := rfl
  rw [e, w64 (by omega) (by omega)]
  omega

theorem K89_ok (x : I89.den) (h : CurOk x.2.1) : K89 x = true := by
  unfold K89 F89 r89
  have h1 : decide (0 ≤ x.2.1.2.1) = true := decide_eq_true h.1
  cases hc : decide (x.2.1.2.1 < (x.2.1.1.length : Int)) <;> simp only [h1, Bool.and_self, cond_true, cond_false, Option.isSome_some]

theorem G89_ok (x : I89.den) (h : CurOk x.2.1) : CurOk (G89 x).2.1 ∧ 0 ≤ (G89 x).1.1 ∧ (G89 x).1.1 ≤ 255 := by
  unfold G89 F89 r89
  have h1 : decide (0 ≤ x.2.1.2.1) = true := decide_eq_true h.1
  have hl := h.2
  have hi : 0 ≤ x.2.1.2.1 := h.1
  by_cases hlt : x.2.1.2.1 < (x.2.1.1.length : Int)
  · have hlt2 : x.2.1.2.1 < 1048576 := by
      have : ((x.2.1.1.length : Nat) : Int) ≤ 1048576 := by omega
      exact Int.lt_of_lt_of_le hlt this
    have hc : decide (x.2.1.2.1 < (x.2.1.1.length : Int)) = true := decide_eq_true hlt
    simp only [hc, h1, Bool.and_self, cond_true, Option.getD_some]
    refine ⟨⟨?_, hl⟩, (and255 _).1, (and255 _).2⟩
    have hn : ∀ n : Int, 0 ≤ n → n < 1048576 → 0 ≤ IntKind.i64.wrap (n + 1) := fun n h1 h2 => by rw [w64 (by omega) (by omega)]; omega
    exact hn _ hi hlt2
  · have hc : decide (x.2.1.2.1 < (x.2.1.1.length : Int)) = false := decide_eq_false hlt
    simp only [hc, cond_false, Option.getD_some]
    exact ⟨⟨hi, hl⟩, (and255 _).1, (and255 _).2⟩

theorem G89_cur (x : I89.den) (h : CurOk x.2.1) : CurOk (G89 x).2.1 := (G89_ok x h).1

theorem tmod_in {a n : Int} (h : 0 ≤ a) (hn : 0 < n) : 0 ≤ Int.tmod a n ∧ Int.tmod a n < n := by
  rw [Int.tmod_eq_emod_of_nonneg h]
  exact ⟨Int.emod_nonneg _ (by omega), Int.emod_lt_of_pos _ hn⟩

theorem below_ok (n : Int) (c : List Int × Int × Int × Unit) (h : CurOk c) : ∃ (m : Int) (c' : List Int × Int × Int × Unit), F66 (((), n, ()), (c, ())) = some ((m, ()), (c', ())) ∧ CurOk c' ∧ 0 ≤ m ∧ (0 < n → m < n) := by
  unfold F66 r66
  by_cases h0 : n ≤ 0
  · have : decide (n ≤ 0) = true := decide_eq_true h0
    simp only [this, cond_true]
    exact ⟨0, c, rfl, h, by omega, fun h => by omega⟩
  · have e0 : decide (n ≤ 0) = false := decide_eq_false h0
    have e1 : (n != 0) = true := by simp; omega
    have k1 := K89_ok (((), ()), (c, ())) h
    obtain ⟨c1, l1, u1⟩ := G89_ok (((), ()), (c, ())) h
    simp only [e0, cond_false, k1, cond_true, e1]
    generalize G89 (((), ()), (c, ())) = g1 at *
    by_cases h2 : n ≤ 256
    · have : decide (n ≤ 256) = true := decide_eq_true h2
      simp only [this, cond_true]
      exact ⟨_, g1.2.1, rfl, c1, (tmod_in l1 (by omega)).1, fun _ => (tmod_in l1 (by omega)).2⟩
    · have : decide (n ≤ 256) = false := decide_eq_false h2
      simp only [this, cond_false]
      have k2 := K89_ok (((), ()), g1.2) c1
      obtain ⟨c2, l2, u2⟩ := G89_ok (((), ()), g1.2) c1
      simp only [k2, cond_true]
      generalize G89 (((), ()), g1.2) = g2 at *
      have k3 := K89_ok (((), ()), g2.2) c2
      obtain ⟨c3, l3, u3⟩ := G89_ok (((), ()), g2.2) c2
      simp only [k3, cond_true]
      generalize G89 (((), ()), g2.2) = g3 at *
      have k4 := K89_ok (((), ()), g3.2) c3
      obtain ⟨c4, l4, u4⟩ := G89_ok (((), ()), g3.2) c3
      simp only [k4, cond_true]
      generalize G89 (((), ()), g3.2) = g4 at *
      have big : ∀ x y z w : Int, 0 ≤ x → x ≤ 255 → 0 ≤ y → y ≤ 255 → 0 ≤ z → z ≤ 255 → 0 ≤ w → w ≤ 255 →
          0 ≤ IntKind.i64.wrap (IntKind.i64.wrap (IntKind.i64.wrap (IntKind.i64.wrap (x * 16777216) + IntKind.i64.wrap (y * 65536)) + IntKind.i64.wrap (z * 256)) + w) := by
        intro x y z w h1 h2 h3 h4 h5 h6 h7 h8
        have w1 : IntKind.i64.wrap (x * 16777216) = x * 16777216 := w64 (by omega) (by omega)
        have w2 : IntKind.i64.wrap (y * 65536) = y * 65536 := w64 (by omega) (by omega)
        have w3 : IntKind.i64.wrap (z * 256) = z * 256 := w64 (by omega) (by omega)
        have w4 : IntKind.i64.wrap (x * 16777216 + y * 65536) = x * 16777216 + y * 65536 := w64 (by omega) (by omega)
        have w5 : IntKind.i64.wrap (x * 16777216 + y * 65536 + z * 256) = x * 16777216 + y * 65536 + z * 256 := w64 (by omega) (by omega)
        rw [w1, w2, w3, w4, w5, w64 (by omega) (by omega)]
        omega
      have hb := big g1.1.1 g2.1.1 g3.1.1 g4.1.1 l1 u1 l2 u2 l3 u3 l4 u4
      exact ⟨_, g4.2.1, rfl, c4, (tmod_in hb (by omega)).1, fun _ => (tmod_in hb (by omega)).2⟩

theorem K66_ok (x : I66.den) (h : CurOk x.2.1) : K66 x = true := by
  obtain ⟨m, c, he, _⟩ := below_ok x.1.2.1 x.2.1 h
  unfold K66
  rw [show x = (((), x.1.2.1, ()), (x.2.1, ())) from rfl, he]
  rfl
theorem G66_ok (x : I66.den) (h : CurOk x.2.1) : CurOk (G66 x).2.1 ∧ 0 ≤ ((G66 x).1.1 : Int) ∧ ((0 : Int) < x.1.2.1 → ((G66 x).1.1 : Int) < x.1.2.1) := by
  obtain ⟨m, c, he, h1, h2, h3⟩ := below_ok x.1.2.1 x.2.1 h
  unfold G66
  rw [show F66 x = _ from he]
  exact ⟨h1, h2, h3⟩
theorem G66_cur (x : I66.den) (h : CurOk x.2.1) : CurOk (G66 x).2.1 := (G66_ok x h).1

theorem K45_ok (x : I45.den) (h : CurOk x.2.1) : K45 x = true := by
  unfold K45 F45 r45
  simp only [K66_ok (((), x.1.2), x.2) h, cond_true, Option.isSome_some]
theorem G45_cur (x : I45.den) (h : CurOk x.2.1) : CurOk (G45 x).2.1 := by
  unfold G45 F45 r45
  simp only [K66_ok (((), x.1.2), x.2) h, cond_true, Option.getD_some]
  exact G66_cur (((), x.1.2), x.2) h

theorem pick_ok (l : List Int) (c : List Int × Int × Int × Unit) (h : CurOk c) (hl : 0 < l.length) : ∃ (m : Int) (c' : List Int × Int × Int × Unit), F76 (((), (), ()), (c, l, ())) = some ((m, ()), (c', l, ())) ∧ CurOk c' ∧ m ∈ l := by
  obtain ⟨m, c1, he, h1, h2, h3⟩ := below_ok (l.length : Int) c h
  unfold F76 r76
  have e1 : decide (0 ≤ m) = true := decide_eq_true h2
  have h4 : m < (l.length : Int) := h3 (by omega)
  have e2 : decide (m < (l.length : Int)) = true := decide_eq_true h4
  simp only [K66, G66, he, Option.isSome_some, Option.getD_some, cond_true, e1, e2, Bool.and_self]
  refine ⟨_, c1, rfl, h1, ?_⟩
  rw [getD_lt _ _ _ (by omega)]
  exact List.getElem_mem _
theorem K76_ok (x : I76.den) (h : CurOk x.2.1) (hl : 0 < x.2.2.1.length) : K76 x = true := by
  obtain ⟨m, c, he, _⟩ := pick_ok x.2.2.1 x.2.1 h hl
  unfold K76
  rw [show x = (((), (), ()), (x.2.1, x.2.2.1, ())) from rfl, he]
  rfl
theorem G76_ok (x : I76.den) (h : CurOk x.2.1) (hl : 0 < x.2.2.1.length) : CurOk (G76 x).2.1 ∧ (G76 x).1.1 ∈ x.2.2.1 := by
  obtain ⟨m, c, he, h1, h2⟩ := pick_ok x.2.2.1 x.2.1 h hl
  unfold G76
  rw [show F76 x = _ from he]
  exact ⟨h1, h2⟩
theorem G76_cur (x : I76.den) (h : CurOk x.2.1) (hl : 0 < x.2.2.1.length) : CurOk (G76 x).2.1 := (G76_ok x h hl).1

/-! ## A new cursor -/

theorem new_ok (code : List Int) (h : code.length ≤ 1048576) : ∃ c, F30 ((code, ()), ()) = some (((), ()), (c, ())) ∧ CurOk c := by
  have hl : ∃ y, l30_3 ((code, IntKind.i64.wrap (33211 + (code.length : Int)), (0 : Int), ()), ()) = some y ∧ y.1.1 = code := by
    refine iter_ind (q := q30_3) (fun v => v.1.1 = code ∧ 0 ≤ v.1.2.2.1 ∧ v.1.2.2.1 ≤ code.length) (fun _ r => ∃ y, r = some y ∧ y.1.1 = code) (fun v => ((code.length : Int) - v.1.2.2.1).toNat) ?_ _ _ ⟨rfl, by simp only; omega, by simp only; omega⟩ (by simp only [b30_3]; omega)
    rintro ⟨⟨l, hh, i, _⟩, _⟩ f ⟨h0, h1, h2⟩ ih
    simp only at h0 h1 h2 ih
    subst h0
    unfold q30_3
    by_cases hi : i < (l.length : Int)
    · have a1 : decide (0 ≤ i) = true := by simp; omega
      have a2 : decide (i < (l.length : Int)) = true := by simpa using hi
      have e1 : IntKind.i64.wrap (i + 1) = i + 1 := w64 (by omega) (by omega)
      simp only [a1, a2, e1, Bool.and_self, cond_true]
      cases decide (i < 4000)
      · exact ⟨_, rfl, rfl⟩
      · exact ih ((l, _, i + 1, ()), ()) ⟨rfl, by simp only; omega, by simp only; omega⟩ (by simp only; omega)
    · have a2 : decide (i < (l.length : Int)) = false := by simpa using hi
      simp only [a2, cond_false]
      exact ⟨_, rfl, rfl⟩
  obtain ⟨y, hy, hc⟩ := hl
  unfold F30 r30
  simp only [kL30_3, xL30_3, hy, Option.isSome_some, Option.getD_some, cond_true]
  refine ⟨_, rfl, ?_, ?_⟩
  · exact Int.le_refl 0
  · rw [hc]; exact h
theorem K30_ok (x : I30.den) (h : x.1.1.length ≤ 1048576) : K30 x = true := by
  obtain ⟨c, he, _⟩ := new_ok x.1.1 h
  unfold K30
  rw [show x = ((x.1.1, ()), ()) from rfl, he]
  rfl
theorem G30_cur (x : I30.den) (h : x.1.1.length ≤ 1048576) : CurOk (G30 x).2.1 := by
  obtain ⟨c, he, h1⟩ := new_ok x.1.1 h
  unfold G30
  rw [show F30 x = _ from he]
  exact h1

end Go.Proofs.Ytmmdjajebmihhaa.AM
