/- Plainly: the law FnStartLater: a start after the gun, and a later gun. Conditions: what every value that is handed over meets. -/
import Derived.Test.YtibbdoohekjmaaaV4
import Derived.Test.YtibbdoohekjmaaaV5
namespace Go.Proofs.Ytibbdoohekjmaaa.AM
open Go Go.Proofs
set_option linter.unusedVariables false

/-! ## Draws, by what they give -/

/-- There is an answer, and it meets something. -/
def Pst {α : Type} (o : Option α) (P : α → Prop) : Prop := ∃ y, o = some y ∧ P y
theorem pst_some {α : Type} {y : α} {P : α → Prop} (h : P y) : Pst (some y) P := ⟨y, rfl, h⟩
theorem pst_t {α : Type} {c : Bool} {a b : Option α} {P : α → Prop} (hc : c = true) (h : Pst a P) : Pst (bif c then a else b) P := by rw [hc]; exact h
theorem pst_b {α : Type} {c : Bool} {a b : Option α} {P : α → Prop} (h1 : c = true → Pst a P) (h2 : c = false → Pst b P) : Pst (bif c then a else b) P := by
  cases c
  · exact h2 rfl
  · exact h1 rfl
theorem pst_k {α : Type} {o : Option α} {P : α → Prop} (h : Pst o P) : o.isSome = true := by obtain ⟨y, e, _⟩ := h; rw [e]; rfl
theorem pst_g {α : Type} {o : Option α} {P : α → Prop} (z : α) (h : Pst o P) : P (o.getD z) := by obtain ⟨y, e, h⟩ := h; rw [e]; exact h

theorem K53_ok (x : I53.den) (h : CurOk x.2.1) : K53 x = true := (place_ok x h).1
theorem G53_cur (x : I53.den) (h : CurOk x.2.1) : CurOk (G53 x).2.1 := (place_ok x h).2


theorem number_ok (x : I72.den) (h : CurOk x.2.1) : Pst (F72 x) fun y => CurOk y.2.1 := by
  unfold F72 r72
  dsimp only
  refine pst_t (K73_ok _ (by (repeat ((try dsimp only); first | assumption | (with_reducible first | apply G73_cur | apply G54_cur | apply G53_cur))))) ?_
  refine pst_b (fun _ => ?_) (fun _ => ?_)
  · refine pst_t (K85_ok _ (by (repeat ((try dsimp only); first | assumption | (with_reducible first | apply G73_cur | apply G54_cur | apply G53_cur)))) (by simp)) ?_
    exact pst_some (G85_cur _ (by (repeat ((try dsimp only); first | assumption | (with_reducible first | apply G73_cur | apply G54_cur | apply G53_cur)))) (by simp))
  · (repeat' (with_reducible first | refine pst_some ?_ | refine pst_t (K73_ok _ (by (repeat ((try dsimp only); first | assumption | (with_reducible first | apply G73_cur | apply G54_cur | apply G53_cur))))) ?_ | refine pst_t (K54_ok _ (by (repeat ((try dsimp only); first | assumption | (with_reducible first | apply G73_cur | apply G54_cur | apply G53_cur))))) ?_ | refine pst_t (K53_ok _ (by (repeat ((try dsimp only); first | assumption | (with_reducible first | apply G73_cur | apply G54_cur | apply G53_cur))))) ?_ | refine pst_b (fun _ => ?_) (fun _ => ?_))) <;> (repeat ((try dsimp only); first | assumption | (with_reducible first | apply G73_cur | apply G54_cur | apply G53_cur)))
theorem K72_ok (x : I72.den) (h : CurOk x.2.1) : K72 x = true := pst_k (number_ok x h)
theorem G72_cur (x : I72.den) (h : CurOk x.2.1) : CurOk (G72 x).2.1 := pst_g _ (number_ok x h)

theorem line_ok (x : I71.den) (h : CurOk x.2.1) : Pst (F71 x) fun y => CurOk y.2.1 := by
  unfold F71 r71
  dsimp only
  (repeat' (with_reducible first | refine pst_some ?_ | refine pst_t (K73_ok _ (by (repeat ((try dsimp only); first | assumption | (with_reducible first | apply G72_cur | apply G73_cur | apply G54_cur | apply G53_cur))))) ?_ | refine pst_t (K54_ok _ (by (repeat ((try dsimp only); first | assumption | (with_reducible first | apply G72_cur | apply G73_cur | apply G54_cur | apply G53_cur))))) ?_ | refine pst_t (K53_ok _ (by (repeat ((try dsimp only); first | assumption | (with_reducible first | apply G72_cur | apply G73_cur | apply G54_cur | apply G53_cur))))) ?_ | refine pst_b (fun _ => ?_) (fun _ => ?_))) <;> (repeat ((try dsimp only); first | assumption | (with_reducible first | apply G72_cur | apply G73_cur | apply G54_cur | apply G53_cur)))
theorem K71_ok (x : I71.den) (h : CurOk x.2.1) : K71 x = true := pst_k (line_ok x h)
theorem G71_cur (x : I71.den) (h : CurOk x.2.1) : CurOk (G71 x).2.1 := pst_g _ (line_ok x h)

theorem below_bd (n : Int) (c : List Int × Int × Int × Unit) (h : CurOk c) (hn : 0 < n) : 0 ≤ ((G73 (((), n, ()), c, ())).1.1 : Int) ∧ ((G73 (((), n, ()), c, ())).1.1 : Int) < n := by
  obtain ⟨_, h1, h2⟩ := G73_ok (((), n, ()), c, ()) h
  exact ⟨h1, h2 hn⟩

theorem trk_loop (k : Int) (tm0 : Int) (c : List Int × Int × Int × Unit) (h : CurOk c) (h0 : 0 ≤ k) (h1 : k ≤ 300) :
    Pst (l68_6 (((), (), k, tm0, ()), (c, [], ()))) fun y => CurOk y.2.1 ∧ y.2.2.1.length ≤ 300 := by
  refine iter_ind (q := q68_6 K73 G73 K54 G54 K53 G53 K72 G72) (fun v => CurOk v.2.1 ∧ 0 ≤ v.1.2.2.1 ∧ (v.2.2.1.length : Int) + v.1.2.2.1 ≤ 300) (fun _ r => Pst r fun y => CurOk y.2.1 ∧ y.2.2.1.length ≤ 300)
    (fun v => v.1.2.2.1.toNat) ?_ _ _ ⟨h, h0, by simpa using h1⟩ (by simp only [b68_6]; omega)
  rintro ⟨⟨_, _, k, w, _⟩, c, l, _⟩ f ⟨g0, g1, g2⟩ ih
  simp only at g0 g1 g2 ih
  unfold q68_6
  dsimp only
  by_cases hk : k > 0
  · refine pst_t (by simpa using hk) ?_
    refine pst_t (K53_ok _ (by (repeat ((try dsimp only); first | assumption | (with_reducible first | apply G71_cur | apply G72_cur | apply G73_cur | apply G54_cur | apply G53_cur))))) ?_
    refine pst_t ?_ ?_
    · refine capOk_of ?_
      simp only [List.length_set, List.length_replicate]
      omega
    refine pst_t (K73_ok _ (by (repeat ((try dsimp only); first | assumption | (with_reducible first | apply G71_cur | apply G72_cur | apply G73_cur | apply G54_cur | apply G53_cur))))) ?_
    refine pst_t (K54_ok _ (by (repeat ((try dsimp only); first | assumption | (with_reducible first | apply G71_cur | apply G72_cur | apply G73_cur | apply G54_cur | apply G53_cur))))) ?_
    have e : IntKind.i64.wrap (k - 1) = k - 1 := w64 (by omega) (by omega)
    refine pst_b (fun _ => ?_) (fun _ => ?_)
    · refine pst_t (K72_ok _ (by (repeat ((try dsimp only); first | assumption | (with_reducible first | apply G71_cur | apply G72_cur | apply G73_cur | apply G54_cur | apply G53_cur))))) ?_
      refine ih _ ⟨by (repeat ((try dsimp only); first | assumption | (with_reducible first | apply G71_cur | apply G72_cur | apply G73_cur | apply G54_cur | apply G53_cur))), ?_, ?_⟩ ?_ <;> simp only [e, List.length_append, List.length_set, List.length_replicate] <;> omega
    · refine ih _ ⟨by (repeat ((try dsimp only); first | assumption | (with_reducible first | apply G71_cur | apply G72_cur | apply G73_cur | apply G54_cur | apply G53_cur))), ?_, ?_⟩ ?_ <;> simp only [e, List.length_append, List.length_set, List.length_replicate] <;> omega
  · have : decide (k > 0) = false := by simpa using hk
    rw [this]
    exact pst_some ⟨g0, by show l.length ≤ 300; omega⟩

theorem trackD_ok (x : I68.den) (h : CurOk x.2.1) : Pst (F68 x) fun y => CurOk y.2.1 ∧ y.2.2.1.length ≤ 300 := by
  unfold F68 r68
  dsimp only
  refine pst_t (K73_ok _ (by (repeat ((try dsimp only); first | assumption | (with_reducible first | apply G71_cur | apply G72_cur | apply G73_cur | apply G54_cur | apply G53_cur))))) ?_
  refine pst_t (K54_ok _ (by (repeat ((try dsimp only); first | assumption | (with_reducible first | apply G71_cur | apply G72_cur | apply G73_cur | apply G54_cur | apply G53_cur))))) ?_
  have hz : List.replicate 0 (zero S95) = [] := rfl
  rw [hz]
  have b9 : 0 ≤ ((G73 (((), 9, ()), x.snd)).fst.fst : Int) ∧ ((G73 (((), 9, ()), x.snd)).fst.fst : Int) < 9 := below_bd 9 x.2.1 h (by decide)
  have c9 : CurOk (G54 (((), 40, ()), (G73 (((), 9, ()), x.snd)).snd)).snd.fst := by (repeat ((try dsimp only); first | assumption | (with_reducible first | apply G71_cur | apply G72_cur | apply G73_cur | apply G54_cur | apply G53_cur)))
  generalize G54 (((), 40, ()), (G73 (((), 9, ()), x.snd)).snd) = A at *
  generalize G73 (((), 9, ()), x.snd) = B at *
  have b9' : ∀ z : Int, z = B.fst.fst → 0 ≤ z ∧ z ≤ 300 := fun z e => by have h1 : 0 ≤ z := e ▸ b9.1; have h2 : z < 9 := e ▸ b9.2; omega
  refine pst_b (fun _ => ?_) (fun _ => ?_)
  · refine pst_t (K73_ok _ (by (repeat ((try dsimp only); first | assumption | (with_reducible first | apply G71_cur | apply G72_cur | apply G73_cur | apply G54_cur | apply G53_cur))))) ?_
    refine pst_t (K73_ok _ (by (repeat ((try dsimp only); first | assumption | (with_reducible first | apply G71_cur | apply G72_cur | apply G73_cur | apply G54_cur | apply G53_cur))))) ?_
    have b2 : 0 ≤ ((G73 (((), 2, ()), A.snd)).fst.fst : Int) ∧ ((G73 (((), 2, ()), A.snd)).fst.fst : Int) < 2 := below_bd 2 A.2.1 c9 (by decide)
    have c2 : CurOk (G73 (((), 300, ()), (G73 (((), 2, ()), A.snd)).snd)).snd.fst := by (repeat ((try dsimp only); first | assumption | (with_reducible first | apply G71_cur | apply G72_cur | apply G73_cur | apply G54_cur | apply G53_cur)))
    generalize G73 (((), 300, ()), (G73 (((), 2, ()), A.snd)).snd) = C at *
    generalize G73 (((), 2, ()), A.snd) = D at *
    have b2' : ∀ z : Int, z = D.fst.fst → 0 ≤ IntKind.i64.wrap (200 + z) ∧ IntKind.i64.wrap (200 + z) ≤ 300 := fun z e => by
      have h1 : 0 ≤ z := e ▸ b2.1
      have h2 : z < 2 := e ▸ b2.2
      rw [w64 (by omega) (by omega)]
      omega
    have p := trk_loop (IntKind.i64.wrap (200 + D.fst.fst)) C.fst.fst C.snd.fst c2 (b2' _ rfl).1 (b2' _ rfl).2
    refine pst_t (pst_k p) ?_
    exact pst_some (pst_g _ p)
  · refine pst_t (K73_ok _ (by (repeat ((try dsimp only); first | assumption | (with_reducible first | apply G71_cur | apply G72_cur | apply G73_cur | apply G54_cur | apply G53_cur))))) ?_
    have c2 : CurOk (G73 (((), 300, ()), A.snd)).snd.fst := by (repeat ((try dsimp only); first | assumption | (with_reducible first | apply G71_cur | apply G72_cur | apply G73_cur | apply G54_cur | apply G53_cur)))
    generalize G73 (((), 300, ()), A.snd) = C at *
    have p := trk_loop B.fst.fst C.fst.fst C.snd.fst c2 (b9' _ rfl).1 (b9' _ rfl).2
    refine pst_t (pst_k p) ?_
    exact pst_some (pst_g _ p)
theorem K68_ok (x : I68.den) (h : CurOk x.2.1) : K68 x = true := pst_k (trackD_ok x h)
theorem G68_cur (x : I68.den) (h : CurOk x.2.1) : CurOk (G68 x).2.1 := (pst_g _ (trackD_ok x h)).1
theorem G68_len (x : I68.den) (h : CurOk x.2.1) : (G68 x).2.2.1.length ≤ 300 := (pst_g _ (trackD_ok x h)).2

theorem draw27 (x : I27.den) (h : x.1.1.length ≤ 1048576) : Pst (F27 x) fun y => y.2.1.length ≤ 300 := by
  have c0 := G52_cur x h
  unfold F27 r27
  dsimp only
  refine pst_t (K52_ok _ h) ?_
  refine pst_t (K71_ok _ (by (repeat ((try dsimp only); first | assumption | (with_reducible first | apply G68_cur | apply G71_cur | apply G72_cur | apply G73_cur | apply G54_cur | apply G53_cur))))) ?_
  refine pst_t (K68_ok _ (by (repeat ((try dsimp only); first | assumption | (with_reducible first | apply G68_cur | apply G71_cur | apply G72_cur | apply G73_cur | apply G54_cur | apply G53_cur))))) ?_
  have hlen := G68_len (((), ()), (G71 (((), ()), (G52 x).snd)).snd) (by (repeat ((try dsimp only); first | assumption | (with_reducible first | apply G68_cur | apply G71_cur | apply G72_cur | apply G73_cur | apply G54_cur | apply G53_cur))))
  refine pst_t (K54_ok _ (by (repeat ((try dsimp only); first | assumption | (with_reducible first | apply G68_cur | apply G71_cur | apply G72_cur | apply G73_cur | apply G54_cur | apply G53_cur))))) ?_
  refine pst_b (fun _ => ?_) (fun _ => ?_)
  · refine pst_t (K72_ok _ (by (repeat ((try dsimp only); first | assumption | (with_reducible first | apply G68_cur | apply G71_cur | apply G72_cur | apply G73_cur | apply G54_cur | apply G53_cur))))) ?_
    exact pst_some hlen
  · refine pst_t (K73_ok _ (by (repeat ((try dsimp only); first | assumption | (with_reducible first | apply G68_cur | apply G71_cur | apply G72_cur | apply G73_cur | apply G54_cur | apply G53_cur))))) ?_
    exact pst_some hlen

/-! ## The start -/

def startT (l : Den S42) (t : List (Den S95)) (gun : Int) : Int × Bool × Unit :=
  bif trackB t then (match startO l t gun with | some n => (n.2.1, true, ()) | none => (0, false, ())) else (0, false, ())

theorem F28_eq (l : Den S42) (t : List (Den S95)) (gun : Int) (ht : t.length ≤ 9223372036854775807) : F28 (l, t, gun, ()) = some (startT l t gun) := by
  unfold F28 r28 startT
  simp only [K70, G70, F70_eq t ht, K74, G74, F74_eq l t gun ht, Option.isSome_some, Option.getD_some, cond_true]
  cases trackB t
  · rfl
  · cases hs : startO l t gun with
    | none => rfl
    | some n =>
      obtain ⟨i, h1, _⟩ := startO_some hs
      have : decide (n.1 ≥ 0) = true := by rw [h1]; simp
      simp only [Bool.not_true, cond_false, Option.getD_some, this, cond_true]

def foundS2 : Option (Int × Int × Unit) → (Unit × Unit) ⊕ ((Int × Bool × Unit) × Unit)
  | some n => .inr ((n.2.1, true, ()), ())
  | none => .inl ((), ())

theorem start29 (l : Den S42) (t : List (Den S95)) (gun : Int) (h0 : 0 < t.length) (ht : t.length ≤ 9223372036854775807) : l29_4 ((t, gun, (), (0 : Int), ()), (l.1.1, l.1.2.1, l.2.1), ()) = some (foundS2 (startO l t gun)) := by
  unfold startO
  rw [← accFrom_map foundS2]
  refine (iter_acc (q := q29_4 K75 G75 K76 G76 K77 G77) (fun i _ => ((t, gun, (), (i : Int), ()), (l.1.1, l.1.2.1, l.2.1), ())) (t.length - 1) (fun i s => outR foundS2 (startNext l t gun i s)) (fun _ => foundS2 none) ?_ ?_ _ (t.length - 1) 0 () (by omega) ?_ : _)
  · intro i s f hi
    have e1 : decide ((i : Int) < (t.length : Int)) = true := by simp; omega
    have e2 : decide (0 ≤ (i : Int)) = true := by simp
    have e3 : decide (((i + 1 : Nat) : Int) < (t.length : Int)) = true := by simp; omega
    have e4 : decide (0 ≤ ((i + 1 : Nat) : Int)) = true := by simp; omega
    have ha : ∀ i, t.getD i (zero S95) = sg t i := fun _ => rfl
    unfold q29_4 startNext
    simp only [w64n i (by omega), e1, e2, e3, e4, Bool.and_self, cond_true, Int.toNat_natCast, ha, K77_t, G77_eq, K76_t, G76_eq, ge_iff_le]
    have eT : crossT ((l.1.1, l.1.2.1, ()), (l.2.1.1, l.2.1.2), ()) (sg t i) (sg t (i + 1)) = crossT l (sg t i) (sg t (i + 1)) := rfl
    have eC : crossN ((l.1.1, l.1.2.1, ()), (l.2.1.1, l.2.1.2), ()) (sg t i).1 (sg t (i + 1)).1 = crossN l (sg t i).1 (sg t (i + 1)).1 := rfl
    simp only [eT, eC]
    generalize crossT l (sg t i) (sg t (i + 1)) = z
    cases (crossN l (sg t i).1 (sg t (i + 1)).1 == 1) <;> cases z.2.1 <;> cases decide (gun ≤ z.1) <;> rfl
  · intro s f
    have e1 : IntKind.i64.wrap (((t.length - 1 : Nat) : Int) + 1) = (t.length : Int) := by rw [w64 (by omega) (by omega)]; omega
    have e2 : decide ((t.length : Int) < (t.length : Int)) = false := by simp
    unfold q29_4
    simp only [e1, e2, cond_false]
    rfl
  · simp only [b29_4]; omega

theorem F29_eq (l : Den S42) (t : List (Den S95)) (gun : Int) (ht : t.length ≤ 9223372036854775807) : F29 (l, t, gun, ()) = some (startT l t gun) := by
  unfold F29 r29 startT
  simp only [K75, G75, F75_eq t ht, Option.isSome_some, Option.getD_some, cond_true]
  by_cases h0 : t.length = 0
  · have : t = [] := List.eq_nil_of_length_eq_zero h0
    subst this
    cases trackB ([] : List (Den S95)) <;> rfl
  · have h := start29 l t gun (by omega) ht
    simp only [kL29_4, tL29_4, yL29_4, h, Option.isSome_some, cond_true]
    cases trackB t
    · rfl
    · cases startO l t gun <;> rfl

theorem up_in {n d D : Int} (h0 : 0 ≤ n) (hd : 0 < d) (h1 : n ≤ D * d) : 0 ≤ Int.tdiv (n + d - 1) d ∧ Int.tdiv (n + d - 1) d ≤ D := by
  rw [Int.tdiv_eq_ediv_of_nonneg (by omega)]
  refine ⟨Int.ediv_nonneg (by omega) (by omega), ?_⟩
  have : (n + d - 1) / d < D + 1 := Int.ediv_lt_of_lt_mul hd (by rw [Int.add_mul]; omega)
  omega

theorem cross_in {l : Den S42} {s t : Den S95} {n : Int} (h : crossT l s t = (n, true, ())) : 0 ≤ n ∧ n ≤ 10000000 := by
  unfold crossT at h
  cases hc : (crossN l s.1 t.1 == 0)
  · cases ht : trackB [s, t]
    · rw [hc, ht] at h; cases h
    · rw [hc, ht] at h
      have hc' : crossN l s.1 t.1 ≠ 0 := by simpa using hc
      obtain ⟨g1, g2, g3, g4⟩ := crossN_ne hc'
      obtain ⟨t1, t2, t3, t4, t5⟩ := track2 ht
      obtain ⟨f1, f2, f3, f4, f5, f6, f7, f8, f9⟩ := cross_facts hc' ht
      have hn : n = IntKind.i64.wrap (tm s + upN ((tm t - tm s) * hN l s.1) (hN l s.1 - hN l t.1)) := by cases h; rfl
      have hu : 0 ≤ upN ((tm t - tm s) * hN l s.1) (hN l s.1 - hN l t.1) ∧ upN ((tm t - tm s) * hN l s.1) (hN l s.1 - hN l t.1) ≤ tm t - tm s := by
        unfold upN
        rcases g4 with g4 | g4
        · rw [if_neg (by omega)]
          have b := up_in (n := (tm t - tm s) * hN l s.1) (d := hN l s.1 - hN l t.1) (D := tm t - tm s) (Int.mul_nonneg (by omega) g4.1) (by omega) (Int.mul_le_mul_of_nonneg_left (by omega) (by omega))
          rw [w64 (by omega) (by omega)]
          exact b
        · rw [if_pos (by omega)]
          have e : -((tm t - tm s) * hN l s.1) = (tm t - tm s) * (-hN l s.1) := by rw [Int.mul_neg]
          have b := up_in (n := -((tm t - tm s) * hN l s.1)) (d := -(hN l s.1 - hN l t.1)) (D := tm t - tm s) (by rw [e]; exact Int.mul_nonneg (by omega) (by omega)) (by omega) (by rw [e]; exact Int.mul_le_mul_of_nonneg_left (by omega) (by omega))
          rw [w64 (by omega) (by omega)]
          exact b
      rw [hn, w64 (by omega) (by omega)]
      omega
  · rw [hc] at h; cases h

theorem startT_ok {l : Den S42} {t : List (Den S95)} {gun : Int} (h : (startT l t gun).2.1 = true) : gun ≤ (startT l t gun).1 ∧ 0 ≤ (startT l t gun).1 ∧ (startT l t gun).1 ≤ 10000000 := by
  unfold startT at h ⊢
  cases hb : trackB t
  · rw [hb] at h; cases h
  · rw [hb] at h
    cases hs : startO l t gun with
    | none => rw [hs] at h; cases h
    | some n =>
      obtain ⟨i, _, _, h3, _, h5⟩ := startO_some hs
      exact ⟨h3, cross_in h5⟩
theorem startT_no {l : Den S42} {t : List (Den S95)} {gun : Int} (h : (startT l t gun).2.1 = false) : (startT l t gun).1 = 0 := by
  unfold startT at h ⊢
  cases hb : trackB t
  · rfl
  · rw [hb] at h
    cases hs : startO l t gun with
    | none => rfl
    | some n => rw [hs] at h; cases h

theorem startLater (x : Den A7) (w : Wf A7 x) : F7 x = some (true, ()) := by
  unfold F7 r7
  simp only [K16, G16, F16_eq, Option.isSome_some, Option.getD_some, cond_true]
  by_cases h0 : (x.1.length : Int) > 1048576
  · simp only [h0, decide_true, cond_true]
  · simp only [h0, decide_false, cond_false]
    have p := draw27 (x, ()) (by show x.1.length ≤ 1048576; omega)
    have k27 : K27 (x, ()) = true := pst_k p
    have hl : (G27 (x, ())).2.1.length ≤ 300 := pst_g _ p
    simp only [k27, cond_true]
    generalize G27 (x, ()) = d at *
    obtain ⟨⟨l, _, gun, _⟩, t, _⟩ := d
    have hl' : t.length ≤ 9223372036854775807 := by have : t.length ≤ 300 := hl; omega
    have e28 : F28 (l, t, gun, ()) = some (startT l t gun) := F28_eq l t gun hl'
    have e29 : F29 (l, t, gun, ()) = some (startT l t gun) := F29_eq l t gun hl'
    have e28' : F28 (l, t, IntKind.i64.wrap ((startT l t gun).1 + 1), ()) = some (startT l t (IntKind.i64.wrap ((startT l t gun).1 + 1))) := F28_eq l t _ hl'
    simp only [K28, G28, e28, K29, G29, e29, Option.isSome_some, Option.getD_some, cond_true]
    cases hb : (startT l t gun).2.1 with
    | false =>
      have := startT_no hb
      simp only [this]
      rfl
    | true =>
      obtain ⟨g1, g2, g3⟩ := startT_ok hb
      have a1 : decide ((startT l t gun).1 ≥ gun) = true := by simpa using g1
      have a2 : decide ((startT l t gun).1 ≥ 0) = true := by simpa using g2
      have a3 : decide ((startT l t gun).1 ≤ 10000000) = true := by simpa using g3
      simp only [e28', Option.isSome_some, Option.getD_some, cond_true, a1, a2, a3, beq_self_eq_true, Bool.not_true, cond_false]
      cases hb2 : (startT l t (IntKind.i64.wrap ((startT l t gun).1 + 1))).2.1 with
      | false => rfl
      | true =>
        have g := (startT_ok hb2).1
        rw [w64 (by omega) (by omega)] at g
        have e : IntKind.i64.wrap ((startT l t gun).1 + 1) = (startT l t gun).1 + 1 := w64 (by omega) (by omega)
        have a4 : decide ((startT l t ((startT l t gun).1 + 1)).1 > (startT l t gun).1) = true := by simp; omega
        simp only [e, a4, Bool.not_true, cond_false]

end Go.Proofs.Ytibbdoohekjmaaa.AM
