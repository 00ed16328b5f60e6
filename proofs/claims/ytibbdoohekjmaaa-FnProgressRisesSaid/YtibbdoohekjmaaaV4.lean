/- Plainly: the laws FnExactFinishTime and FnExactRaceTime: both texts answer alike. Conditions: what every value that is handed over meets. -/
import Derived.Test.YtibbdoohekjmaaaV3
namespace Go.Proofs.Ytibbdoohekjmaaa.AM
open Go Go.Proofs
set_option linter.unusedVariables false

/-! ## What is known of a rounding -/

theorem rndO_some {c : Den S45} {k : Nat} {t : List (Den S95)} {b : Nat} {n : Int} (h : rndO c k t b = some n) : ∃ j : Nat, n = (j : Int) ∧ b < j ∧ j < t.length := by
  have := accFrom_end (next := rndNext c k t) (e := fun _ => none) (fun x => ∀ n, x = some n → ∃ j : Nat, n = (j : Int) ∧ b < j ∧ j < t.length) (fun _ _ h => by cases h) (n := t.length - 1 - b) (k := b) (a := (0 : Int)) ?_
  · exact this n h
  · intro j a x h1 h2 h3 n hx
    subst hx
    unfold rndNext at h3
    cases hc : (rndSum c k t j a == 1 && !(mk c k).2.1) || (rndSum c k t j a == -1 && (mk c k).2.1) with
    | true => rw [hc] at h3; cases h3; exact ⟨j + 1, rfl, by omega, by omega⟩
    | false => rw [hc] at h3; cases h3

theorem roundN_ge {c : Den S45} {k : Int} {t : List (Den S95)} {b : Int} (h : 0 ≤ roundN c k t b) :
    courseB c = true ∧ trackB t = true ∧ 0 ≤ k ∧ k ≤ (c.2.1.length : Int) - 1 ∧ 0 ≤ b ∧ b ≤ (t.length : Int) - 1 ∧ rndO c k.toNat t b.toNat = some (roundN c k t b) := by
  unfold roundN at h ⊢
  cases hc : courseB c && (trackB t && (inB k 0 ((c.2.1.length : Int) - 1) && inB b 0 ((t.length : Int) - 1))) with
  | false => rw [hc] at h; exact absurd h (by simp)
  | true =>
    rw [hc] at h
    simp only [inB, Bool.and_eq_true, decide_eq_true_eq] at hc
    refine ⟨hc.1, hc.2.1, hc.2.2.1.1, hc.2.2.1.2, hc.2.2.2.1, hc.2.2.2.2, ?_⟩
    simp only [cond_true] at h ⊢
    cases hr : rndO c k.toNat t b.toNat with
    | none => rw [hr] at h; exact absurd h (by decide)
    | some n => rfl

theorem roundN_lt {c : Den S45} {k : Int} {t : List (Den S95)} {b : Int} (h : 0 ≤ roundN c k t b) : b < roundN c k t b ∧ roundN c k t b < (t.length : Int) := by
  obtain ⟨_, _, _, _, h5, _, h7⟩ := roundN_ge h
  obtain ⟨j, e, h8, h9⟩ := rndO_some h7
  rw [e]
  omega

theorem track_len {t : List (Den S95)} (h : trackB t = true) : t.length ≤ 200 := by
  unfold trackB at h
  simp only [Bool.and_eq_true, decide_eq_true_eq] at h
  omega

theorem prog_mem (c : Den S45) (t : List (Den S95)) : ∀ (n k : Nat) (a : Int × List Int), (∀ x ∈ a.2, 0 ≤ x ∧ x < (t.length : Int) ∧ t.length ≤ 200) → ∀ x ∈ (accFrom (prgNext c t) (fun a => (false, a.2)) k n a).2, 0 ≤ x ∧ x < (t.length : Int) ∧ t.length ≤ 200
  | 0, k, a, h => h
  | n + 1, k, a, h => by
    simp only [accFrom]
    cases hn : prgNext c t k a with
    | inl a' =>
      refine prog_mem c t n (k + 1) a' fun x hx => ?_
      unfold prgNext at hn
      cases hd : decide (roundN c k t a.1 < 0) with
      | true => rw [hd] at hn; cases hn
      | false =>
        rw [hd] at hn; cases hn
        simp only [List.mem_append, List.mem_singleton] at hx
        rcases hx with hx | rfl
        · exact h x hx
        · have h0 : 0 ≤ roundN c k t a.1 := by simpa using hd
          exact ⟨h0, (roundN_lt h0).2, track_len (roundN_ge h0).2.1⟩
    | inr x =>
      unfold prgNext at hn
      cases hd : decide (roundN c k t a.1 < 0) with
      | true => rw [hd] at hn; cases hn; exact h
      | false => rw [hd] at hn; cases hn

theorem progL_mem (c : Den S45) (t : List (Den S95)) (b : Int) : ∀ x ∈ progL c t b, 0 ≤ x ∧ x < (t.length : Int) ∧ t.length ≤ 200 := prog_mem c t c.2.1.length 0 (b, []) (by simp)

/-! ## The finish -/

def finNext (l : Den S42) (t : List (Den S95)) (i : Nat) (_ : Unit) : Unit ⊕ Option (Int × Bool × Unit) :=
  bif crossN l (sg t i).1 (sg t (i + 1)).1 == 1 then .inr (some (crossT l (sg t i) (sg t (i + 1)))) else .inl ()
def finO (l : Den S42) (t : List (Den S95)) (i : Nat) : Option (Int × Bool × Unit) := accFrom (finNext l t) (fun _ => none) i (t.length - 1 - i) ()
def foundT : Option (Int × Bool × Unit) → (Unit × Unit) ⊕ ((Int × Bool × Unit) × Unit)
  | some n => .inr (n, ())
  | none => .inl ((), ())
def finT (c : Den S45) (t : List (Den S95)) (b : Int) : Int × Bool × Unit :=
  bif ((progL c t b).length : Int) == 0 then (0, false, ()) else bif decide ((progL c t b).length < c.2.1.length) then (0, false, ()) else
    (finO c.2.2.1 t ((progL c t b).getD ((progL c t b).length - 1) 0).toNat).getD (0, false, ())

theorem fin42 (c : Den S45) (t : List (Den S95)) (b : Nat) (hb : b < t.length) (ht : t.length ≤ 9223372036854775807) : l42_5 ((t, (), (b : Int), ()), flatC c, ()) = some (foundT (finO c.2.2.1 t b)) := by
  unfold finO
  rw [← accFrom_map foundT]
  refine (iter_acc (q := q42_5 K36 G36 K77 G77 K76 G76) (fun i _ => ((t, (), (i : Int), ()), flatC c, ())) (t.length - 1) (fun i s => outR foundT (finNext c.2.2.1 t i s)) (fun _ => foundT none) ?_ ?_ _ (t.length - 1 - b) b () (by omega) ?_ : _)
  · intro i s f hi
    have e1 : decide ((i : Int) < (t.length : Int)) = true := by simp; omega
    have e2 : decide (0 ≤ (i : Int)) = true := by simp
    have e3 : decide (((i + 1 : Nat) : Int) < (t.length : Int)) = true := by simp; omega
    have e4 : decide (0 ≤ ((i + 1 : Nat) : Int)) = true := by simp; omega
    have ha : ∀ i, t.getD i (zero S95) = sg t i := fun _ => rfl
    unfold q42_5 finNext
    simp only [flatC, w64n i (by omega), e1, e2, e3, e4, Bool.and_self, cond_true, Int.toNat_natCast, ha, K77_t, G77_eq, K76_t, G76_eq]
    have el : (((c.2.2.1.1.1, c.2.2.1.1.2.1, ()), (c.2.2.1.2.1.1, c.2.2.1.2.1.2.1, ()), ()) : Den S42) = c.2.2.1 := rfl
    cases hq : (crossN c.2.2.1 (sg t i).1 (sg t (i + 1)).1 == 1)
    · simp only [cond_false]
      rfl
    · simp only [cond_true]
      rfl
  · intro s f
    have e1 : IntKind.i64.wrap (((t.length - 1 : Nat) : Int) + 1) = (t.length : Int) := by rw [w64 (by omega) (by omega)]; omega
    have e2 : decide ((t.length : Int) < (t.length : Int)) = false := by simp
    unfold q42_5
    simp only [e1, e2, cond_false]
    rfl
  · simp only [b42_5]; omega

theorem fin43 (c : Den S45) (t : List (Den S95)) (b : Nat) (hb : b < t.length) (ht : t.length ≤ 9223372036854775807) : l43_5 ((t, (), (b : Int), ()), flatC c, ()) = some (foundT (finO c.2.2.1 t b)) := by
  unfold finO
  rw [← accFrom_map foundT]
  refine (iter_acc (q := q43_5 K31 G31 K81 G81 K82 G82) (fun i _ => ((t, (), (i : Int), ()), flatC c, ())) (t.length - 1) (fun i s => outR foundT (finNext c.2.2.1 t i s)) (fun _ => foundT none) ?_ ?_ _ (t.length - 1 - b) b () (by omega) ?_ : _)
  · intro i s f hi
    have e1 : decide ((i : Int) < (t.length : Int)) = true := by simp; omega
    have e2 : decide (0 ≤ (i : Int)) = true := by simp
    have e3 : decide (((i + 1 : Nat) : Int) < (t.length : Int)) = true := by simp; omega
    have e4 : decide (0 ≤ ((i + 1 : Nat) : Int)) = true := by simp; omega
    have ha : ∀ i, t.getD i (zero S95) = sg t i := fun _ => rfl
    unfold q43_5 finNext
    simp only [flatC, w64n i (by omega), e1, e2, e3, e4, Bool.and_self, cond_true, Int.toNat_natCast, ha, K81_t, G81_eq, K82_t, G82_eq]
    cases hq : (crossN c.2.2.1 (sg t i).1 (sg t (i + 1)).1 == 1)
    · simp only [cond_false]
      rfl
    · simp only [cond_true]
      rfl
  · intro s f
    have e1 : IntKind.i64.wrap (((t.length - 1 : Nat) : Int) + 1) = (t.length : Int) := by rw [w64 (by omega) (by omega)]; omega
    have e2 : decide ((t.length : Int) < (t.length : Int)) = false := by simp
    unfold q43_5
    simp only [e1, e2, cond_false]
    rfl
  · simp only [b43_5]; omega

theorem last_mem {l : List Int} (h : l.length ≠ 0) : l.getD (l.length - 1) 0 ∈ l := by
  rw [getD_lt _ _ _ (by omega)]
  exact List.getElem_mem _

theorem F42_eq (c : Den S45) (t : List (Den S95)) (b : Int) (hc : c.2.1.length ≤ 1099511627776) (ht : t.length ≤ 9223372036854775807) : F42 (c, t, b, ()) = some (finT c t b) := by
  have h36 : F36 ((c, t, b, ()), ()) = some (((), ()), (progL c t b, ())) := F36_eq c t b hc ht
  have hlen := progL_len c t b
  have hmem := progL_mem c t b
  unfold F42 r42 finT
  simp only [K36, G36, h36, Option.isSome_some, Option.getD_some, cond_true]
  generalize progL c t b = l at *
  cases h0 : ((l.length : Int) == 0)
  · have hne : l.length ≠ 0 := by intro e; rw [e] at h0; simp at h0
    have w1 : IntKind.i64.wrap ((l.length : Int) - 1) = ((l.length - 1 : Nat) : Int) := by rw [w64 (by omega) (by omega)]; omega
    have e3 : decide (((l.length - 1 : Nat) : Int) < (l.length : Int)) = true := by simp; omega
    have e4 : decide (0 ≤ ((l.length - 1 : Nat) : Int)) = true := by simp
    obtain ⟨m1, m2, m3⟩ := hmem _ (last_mem hne)
    have hz : l.getD (l.length - 1) (zero (Ty.int IntKind.i64)) = l.getD (l.length - 1) 0 := rfl
    obtain ⟨i, hi⟩ := Int.eq_ofNat_of_zero_le m1
    have hl := fin42 c t i (by omega) ht
    have hl' : l42_5 ((t, (), (i : Int), ()), (c.1.1.1, c.1.1.2.1, c.1.2.1.1, c.1.2.1.2.1, c.2.1, c.2.2.1.1.1, c.2.2.1.1.2.1, c.2.2.1.2.1), ()) = some (foundT (finO c.2.2.1 t i)) := hl
    by_cases hlt : l.length < c.2.1.length
    · have : decide ((l.length : Int) < (c.2.1.length : Int)) = true := by simpa using hlt
      simp only [this, hlt, decide_true, cond_false, cond_true]
    · have : decide ((l.length : Int) < (c.2.1.length : Int)) = false := by simpa using hlt
      simp only [this, hlt, decide_false, cond_false, w1, e3, e4, Bool.and_self, cond_true, Int.toNat_natCast, hz, hi, kL42_5, tL42_5, yL42_5, hl', Option.isSome_some]
      cases finO c.2.2.1 t i <;> rfl
  · rfl

theorem F43_eq (c : Den S45) (t : List (Den S95)) (b : Int) (hc : c.2.1.length ≤ 1099511627776) (ht : t.length ≤ 9223372036854775807) : F43 (c, t, b, ()) = some (finT c t b) := by
  have h31 : F31 ((c, t, b, ()), ()) = some (((), ()), (progL c t b, ())) := F31_eq c t b hc ht
  have hlen := progL_len c t b
  have hmem := progL_mem c t b
  unfold F43 r43 finT
  simp only [K31, G31, h31, Option.isSome_some, Option.getD_some, cond_true]
  generalize progL c t b = l at *
  cases h0 : ((l.length : Int) == 0)
  · have hne : l.length ≠ 0 := by intro e; rw [e] at h0; simp at h0
    have w1 : IntKind.i64.wrap ((l.length : Int) - 1) = ((l.length - 1 : Nat) : Int) := by rw [w64 (by omega) (by omega)]; omega
    have e3 : decide (((l.length - 1 : Nat) : Int) < (l.length : Int)) = true := by simp; omega
    have e4 : decide (0 ≤ ((l.length - 1 : Nat) : Int)) = true := by simp
    obtain ⟨m1, m2, m3⟩ := hmem _ (last_mem hne)
    have hz : l.getD (l.length - 1) (zero (Ty.int IntKind.i64)) = l.getD (l.length - 1) 0 := rfl
    obtain ⟨i, hi⟩ := Int.eq_ofNat_of_zero_le m1
    have hl := fin43 c t i (by omega) ht
    have hl' : l43_5 ((t, (), (i : Int), ()), (c.1.1.1, c.1.1.2.1, c.1.2.1.1, c.1.2.1.2.1, c.2.1, c.2.2.1.1.1, c.2.2.1.1.2.1, c.2.2.1.2.1), ()) = some (foundT (finO c.2.2.1 t i)) := hl
    by_cases hlt : l.length < c.2.1.length
    · have : ((l.length : Int) != (c.2.1.length : Int)) = true := by simp; omega
      simp only [this, hlt, decide_true, cond_false, cond_true]
    · have : ((l.length : Int) != (c.2.1.length : Int)) = false := by simp; omega
      simp only [this, hlt, decide_false, cond_false, w1, e3, e4, Bool.and_self, cond_true, Int.toNat_natCast, hz, hi, kL43_5, tL43_5, yL43_5, hl', Option.isSome_some]
      cases finO c.2.2.1 t i <;> rfl
  · rfl

set_option maxRecDepth 100000 in
theorem exFinishTime (x : Den A11) (w : Wf A11 x) : F11 x = some (true, ()) := by
  obtain ⟨c, t, b, _⟩ := x
  have hm : maxLen ≤ 9223372036854775807 := by decide
  have hg : c.2.1.length ≤ 9223372036854775807 := Nat.le_trans w.1.2.1.1 hm
  have ht : t.length ≤ 9223372036854775807 := Nat.le_trans w.2.1.1 hm
  unfold F11 r11
  simp only [K20, G20, F20_eq c 1048576 hg (by decide) (by decide), Option.isSome_some, Option.getD_some, cond_true]
  by_cases h0 : 1048576 - (c.2.1.length : Int) < 0
  · simp [h0]
  · have hl : c.2.1.length ≤ 1099511627776 := by omega
    have h22 : F22 ((c, ()), ()) = _ := F22_eq c hl
    simp only [h0, if_false, decide_false, cond_false, K32, G32, F32_eq t _ ht (by omega : 0 ≤ 1048576 - (c.2.1.length : Int)) (by omega), Option.isSome_some, Option.getD_some, cond_true]
    by_cases h1 : 1048576 - (c.2.1.length : Int) - (t.length : Int) < 0
    · simp [h1]
    · have hl2 : t.length ≤ 1099511627776 := by omega
      simp only [h1, if_false, decide_false, cond_false, K22, G22, h22, K34, G34, F34_eq t hl2, Option.isSome_some, Option.getD_some, cond_true]
      have e42 : F42 (c, t, b, ()) = some (finT c t b) := F42_eq c t b hl ht
      have e43 : F43 (c, t, b, ()) = some (finT c t b) := F43_eq c t b hl ht
      have e24 : F24 (c, c, ()) = some (true, ()) := F24_self c hl
      simp only [pu, pq]
      simp only [K42, G42, e42, K43, G43, e43, K24, G24, e24, K35, G35, F35_self t hl2, Option.isSome_some, Option.getD_some, cond_true, bne_self_eq_false, cond_false, Bool.not_true]
      cases (finT c t b).2.1 <;> rfl

/-! ## The race -/

def startNext (l : Den S42) (t : List (Den S95)) (gun : Int) (i : Nat) (_ : Unit) : Unit ⊕ Option (Int × Int × Unit) :=
  bif (crossN l (sg t i).1 (sg t (i + 1)).1 == 1) && ((crossT l (sg t i) (sg t (i + 1))).2.1 && decide (gun ≤ (crossT l (sg t i) (sg t (i + 1))).1)) then .inr (some ((i : Int), (crossT l (sg t i) (sg t (i + 1))).1, ())) else .inl ()
def startO (l : Den S42) (t : List (Den S95)) (gun : Int) : Option (Int × Int × Unit) := accFrom (startNext l t gun) (fun _ => none) 0 (t.length - 1) ()
def foundS : Option (Int × Int × Unit) → (Unit × Unit) ⊕ ((Int × Int × Unit) × Unit)
  | some n => .inr (n, ())
  | none => .inl ((), ())
def foundS1 : Option (Int × Int × Unit) → (Unit × Unit) ⊕ ((Int × Unit) × Unit)
  | some n => .inr ((n.1 + 1, ()), ())
  | none => .inl ((), ())

theorem start74 (l : Den S42) (t : List (Den S95)) (gun : Int) (h0 : 0 < t.length) (ht : t.length ≤ 9223372036854775807) : l74_2 ((t, gun, (), (0 : Int), ()), (l.1.1, l.1.2.1, l.2.1), ()) = some (foundS (startO l t gun)) := by
  unfold startO
  rw [← accFrom_map foundS]
  refine (iter_acc (q := q74_2 K81 G81 K82 G82) (fun i _ => ((t, gun, (), (i : Int), ()), (l.1.1, l.1.2.1, l.2.1), ())) (t.length - 1) (fun i s => outR foundS (startNext l t gun i s)) (fun _ => foundS none) ?_ ?_ _ (t.length - 1) 0 () (by omega) ?_ : _)
  · intro i s f hi
    have e1 : decide ((i : Int) < (t.length : Int)) = true := by simp; omega
    have e2 : decide (0 ≤ (i : Int)) = true := by simp
    have e3 : decide (((i + 1 : Nat) : Int) < (t.length : Int)) = true := by simp; omega
    have e4 : decide (0 ≤ ((i + 1 : Nat) : Int)) = true := by simp; omega
    have ha : ∀ i, t.getD i (zero S95) = sg t i := fun _ => rfl
    have el : (((l.1.1, l.1.2.1, ()), l.2.1.1, l.2.1.2, ()) : (Int × Int × Unit) × Int × (Int × Unit) × Unit) = ((l.1.1, l.1.2.1, ()), l.2.1.1, l.2.1.2, ()) := rfl
    unfold q74_2 startNext
    simp only [w64n i (by omega), e1, e2, e3, e4, Bool.and_self, cond_true, Int.toNat_natCast, ha, K81_t, G81_eq, K82_t, G82_eq]
    cases hq : (crossN l (sg t i).1 (sg t (i + 1)).1 == 1)
    · have hq' : (crossN ((l.1.1, l.1.2.1, ()), (l.2.1.1, l.2.1.2), ()) (sg t i).1 (sg t (i + 1)).1 != 1) = true := by rw [bne, show (crossN ((l.1.1, l.1.2.1, ()), (l.2.1.1, l.2.1.2), ()) (sg t i).1 (sg t (i + 1)).1 == 1) = false from hq]; rfl
      simp only [hq', cond_true, Bool.false_and, cond_false]
      rfl
    · have hq' : (crossN ((l.1.1, l.1.2.1, ()), (l.2.1.1, l.2.1.2), ()) (sg t i).1 (sg t (i + 1)).1 != 1) = false := by rw [bne, show (crossN ((l.1.1, l.1.2.1, ()), (l.2.1.1, l.2.1.2), ()) (sg t i).1 (sg t (i + 1)).1 == 1) = true from hq]; rfl
      have eT : crossT ((l.1.1, l.1.2.1, ()), (l.2.1.1, l.2.1.2), ()) (sg t i) (sg t (i + 1)) = crossT l (sg t i) (sg t (i + 1)) := rfl
      simp only [hq', cond_false, Bool.true_and, eT]
      generalize crossT l (sg t i) (sg t (i + 1)) = z
      cases z.2.1
      · rfl
      · simp only [ge_iff_le, Bool.true_and]
        cases decide (gun ≤ z.1) <;> rfl
  · intro s f
    have e1 : IntKind.i64.wrap (((t.length - 1 : Nat) : Int) + 1) = (t.length : Int) := by rw [w64 (by omega) (by omega)]; omega
    have e2 : decide ((t.length : Int) < (t.length : Int)) = false := by simp
    unfold q74_2
    simp only [e1, e2, cond_false]
    rfl
  · simp only [b74_2]; omega

theorem F74_eq (l : Den S42) (t : List (Den S95)) (gun : Int) (ht : t.length ≤ 9223372036854775807) : F74 (l, t, 0, gun, ()) = some ((startO l t gun).getD (-1, 0, ())) := by
  unfold F74 r74
  by_cases h0 : t.length = 0
  · have : t = [] := List.eq_nil_of_length_eq_zero h0
    subst this
    rfl
  · have hl : l74_2 (([], gun, (), (0 : Int), ()), (l.1.1, l.1.2.1, l.2.1), ()) = l74_2 (([], gun, (), (0 : Int), ()), (l.1.1, l.1.2.1, l.2.1), ()) := rfl
    have h := start74 l t gun (by omega) ht
    simp only [kL74_2, tL74_2, yL74_2, h, Option.isSome_some, cond_true]
    cases startO l t gun <;> rfl

theorem start83 (c : Den S45) (t : List (Den S95)) (gun : Int) (h0 : 0 < t.length) (ht : t.length ≤ 9223372036854775807) : l83_2 ((t, gun, (), (0 : Int), ()), flatC c, ()) = some (foundS1 (startO c.1 t gun)) := by
  unfold startO
  rw [← accFrom_map foundS1]
  refine (iter_acc (q := q83_2 K76 G76 K77 G77) (fun i _ => ((t, gun, (), (i : Int), ()), flatC c, ())) (t.length - 1) (fun i s => outR foundS1 (startNext c.1 t gun i s)) (fun _ => foundS1 none) ?_ ?_ _ (t.length - 1) 0 () (by omega) ?_ : _)
  · intro i s f hi
    have e1 : decide ((i : Int) < (t.length : Int)) = true := by simp; omega
    have e2 : decide (0 ≤ (i : Int)) = true := by simp
    have e3 : decide (((i + 1 : Nat) : Int) < (t.length : Int)) = true := by simp; omega
    have e4 : decide (0 ≤ ((i + 1 : Nat) : Int)) = true := by simp; omega
    have ha : ∀ i, t.getD i (zero S95) = sg t i := fun _ => rfl
    unfold q83_2 startNext
    simp only [flatC, w64n i (by omega), e1, e2, e3, e4, Bool.and_self, cond_true, Int.toNat_natCast, ha, K77_t, G77_eq, K76_t, G76_eq, ge_iff_le]
    have eT : crossT ((c.1.1.1, c.1.1.2.1, ()), (c.1.2.1.1, c.1.2.1.2.1, ()), ()) (sg t i) (sg t (i + 1)) = crossT c.1 (sg t i) (sg t (i + 1)) := rfl
    have eC : crossN ((c.1.1.1, c.1.1.2.1, ()), (c.1.2.1.1, c.1.2.1.2.1, ()), ()) (sg t i).1 (sg t (i + 1)).1 = crossN c.1 (sg t i).1 (sg t (i + 1)).1 := rfl
    have e5 : ((i + 1 : Nat) : Int) = (i : Int) + 1 := by simp
    simp only [eT, eC, e5]
    generalize crossT c.1 (sg t i) (sg t (i + 1)) = z
    cases (crossN c.1 (sg t i).1 (sg t (i + 1)).1 == 1) <;> cases z.2.1 <;> cases decide (gun ≤ z.1) <;> rfl
  · intro s f
    have e1 : IntKind.i64.wrap (((t.length - 1 : Nat) : Int) + 1) = (t.length : Int) := by rw [w64 (by omega) (by omega)]; omega
    have e2 : decide ((t.length : Int) < (t.length : Int)) = false := by simp
    unfold q83_2
    simp only [e1, e2, cond_false]
    rfl
  · simp only [b83_2]; omega

theorem F83_eq (c : Den S45) (t : List (Den S95)) (gun : Int) (ht : t.length ≤ 9223372036854775807) : F83 (c, t, gun, ()) = some (match startO c.1 t gun with | some n => n.1 + 1 | none => -1, ()) := by
  unfold F83 r83
  by_cases h0 : t.length = 0
  · have : t = [] := List.eq_nil_of_length_eq_zero h0
    subst this
    rfl
  · have h := start83 c t gun (by omega) ht
    have h' : l83_2 ((t, gun, (), 0, ()), (c.1.1.1, c.1.1.2.1, c.1.2.1.1, c.1.2.1.2.1, c.2.1, c.2.2.1.1.1, c.2.2.1.1.2.1, c.2.2.1.2.1), ()) = some (foundS1 (startO c.1 t gun)) := h
    simp only [kL83_2, tL83_2, yL83_2, h', Option.isSome_some, cond_true]
    cases startO c.1 t gun <;> rfl

theorem startO_some {l : Den S42} {t : List (Den S95)} {gun : Int} {n : Int × Int × Unit} (h : startO l t gun = some n) : ∃ i : Nat, n.1 = (i : Int) ∧ i + 1 < t.length ∧ gun ≤ n.2.1 ∧ crossN l (sg t i).1 (sg t (i + 1)).1 = 1 ∧ crossT l (sg t i) (sg t (i + 1)) = (n.2.1, true, ()) := by
  have := accFrom_end (next := startNext l t gun) (e := fun _ => none) (fun x => ∀ n, x = some n → ∃ i : Nat, n.1 = (i : Int) ∧ i + 1 < t.length ∧ gun ≤ n.2.1 ∧ crossN l (sg t i).1 (sg t (i + 1)).1 = 1 ∧ crossT l (sg t i) (sg t (i + 1)) = (n.2.1, true, ())) (fun _ _ h => by cases h) (n := t.length - 1) (k := 0) (a := ()) ?_
  · exact this n h
  · intro j a x h1 h2 h3 n hx
    subst hx
    unfold startNext at h3
    cases hc : (crossN l (sg t j).1 (sg t (j + 1)).1 == 1) && ((crossT l (sg t j) (sg t (j + 1))).2.1 && decide (gun ≤ (crossT l (sg t j) (sg t (j + 1))).1)) with
    | true =>
      rw [hc] at h3; cases h3
      simp only [Bool.and_eq_true, beq_iff_eq, decide_eq_true_eq] at hc
      refine ⟨j, rfl, by omega, hc.2.2, hc.1, ?_⟩
      have h4 := hc.2.1
      generalize crossT l (sg t j) (sg t (j + 1)) = z at h4 ⊢
      obtain ⟨z1, z2, _⟩ := z
      simp only at h4
      rw [h4]
    | false => rw [hc] at h3; cases h3

def raceT (c : Den S45) (t : List (Den S95)) (gun : Int) : Int × Bool × Unit :=
  bif courseB c && (trackB t && inB gun 0 10000000) then (match startO c.1 t gun with
    | none => (0, false, ())
    | some n => bif (finT c t (n.1 + 1)).2.1 then (IntKind.i64.wrap ((finT c t (n.1 + 1)).1 - gun), true, ()) else (0, false, ())) else (0, false, ())

theorem F44_eq (c : Den S45) (t : List (Den S95)) (gun : Int) (hc : c.2.1.length ≤ 1099511627776) (ht : t.length ≤ 9223372036854775807) : F44 (c, t, gun, ()) = some (raceT c t gun) := by
  unfold F44 r44 raceT
  simp only [K21, G21, F21_eq c (by omega), K75, G75, F75_eq t ht, K55, G55, F55_eq, K83, G83, F83_eq c t gun ht, Option.isSome_some, Option.getD_some, cond_true]
  cases courseB c
  · rfl
  cases trackB t
  · rfl
  cases inB gun 0 10000000
  · rfl
  simp only [Bool.not_true, cond_false, Bool.and_self, cond_true]
  cases hs : startO c.1 t gun with
  | none => rfl
  | some n =>
    obtain ⟨i, hi, h1, _⟩ := startO_some hs
    have e1 : decide (n.1 + 1 < 0) = false := by rw [hi]; simp; omega
    have e2 : F42 (c, t, n.1 + 1, ()) = some (finT c t (n.1 + 1)) := F42_eq c t _ hc ht
    simp only [e1, cond_false, K42, G42, e2, Option.isSome_some, Option.getD_some, cond_true]
    cases (finT c t (n.1 + 1)).2.1 <;> rfl

theorem F45_eq (c : Den S45) (t : List (Den S95)) (gun : Int) (hc : c.2.1.length ≤ 1099511627776) (ht : t.length ≤ 9223372036854775807) : F45 (c, t, gun, ()) = some (raceT c t gun) := by
  have e74 : F74 (c.1, t, 0, gun, ()) = some ((startO c.1 t gun).getD (-1, 0, ())) := F74_eq c.1 t gun ht
  unfold F45 r45 raceT
  simp only [K23, G23, F23_eq c (by omega), K70, G70, F70_eq t ht, K84, G84, F84_eq, K74, G74, e74, Option.isSome_some, Option.getD_some, cond_true]
  cases courseB c
  · rfl
  cases trackB t
  · rfl
  cases inB gun 0 10000000
  · rfl
  simp only [Bool.not_true, cond_false, Bool.and_self, cond_true]
  cases hs : startO c.1 t gun with
  | none => rfl
  | some n =>
    obtain ⟨i, hi, h1, _⟩ := startO_some hs
    have e1 : decide (n.1 < 0) = false := by rw [hi]; simp
    have w : IntKind.i64.wrap (n.1 + 1) = n.1 + 1 := by rw [hi]; exact w64 (by omega) (by omega)
    have e2 : F43 (c, t, n.1 + 1, ()) = some (finT c t (n.1 + 1)) := F43_eq c t _ hc ht
    simp only [Option.getD_some, e1, cond_false, w, K43, G43, e2, Option.isSome_some, cond_true]
    cases (finT c t (n.1 + 1)).2.1 <;> rfl

set_option maxRecDepth 100000 in
theorem exRaceTime (x : Den A12) (w : Wf A12 x) : F12 x = some (true, ()) := by
  obtain ⟨c, t, b, _⟩ := x
  have hm : maxLen ≤ 9223372036854775807 := by decide
  have hg : c.2.1.length ≤ 9223372036854775807 := Nat.le_trans w.1.2.1.1 hm
  have ht : t.length ≤ 9223372036854775807 := Nat.le_trans w.2.1.1 hm
  unfold F12 r12
  simp only [K20, G20, F20_eq c 1048576 hg (by decide) (by decide), Option.isSome_some, Option.getD_some, cond_true]
  by_cases h0 : 1048576 - (c.2.1.length : Int) < 0
  · simp [h0]
  · have hl : c.2.1.length ≤ 1099511627776 := by omega
    have h22 : F22 ((c, ()), ()) = _ := F22_eq c hl
    simp only [h0, if_false, decide_false, cond_false, K32, G32, F32_eq t _ ht (by omega : 0 ≤ 1048576 - (c.2.1.length : Int)) (by omega), Option.isSome_some, Option.getD_some, cond_true]
    by_cases h1 : 1048576 - (c.2.1.length : Int) - (t.length : Int) < 0
    · simp [h1]
    · have hl2 : t.length ≤ 1099511627776 := by omega
      simp only [h1, if_false, decide_false, cond_false, K22, G22, h22, K34, G34, F34_eq t hl2, Option.isSome_some, Option.getD_some, cond_true]
      have e44 : F44 (c, t, b, ()) = some (raceT c t b) := F44_eq c t b hl ht
      have e45 : F45 (c, t, b, ()) = some (raceT c t b) := F45_eq c t b hl ht
      have e24 : F24 (c, c, ()) = some (true, ()) := F24_self c hl
      simp only [pu, pq]
      simp only [K44, G44, e44, K45, G45, e45, K24, G24, e24, K35, G35, F35_self t hl2, Option.isSome_some, Option.getD_some, cond_true, bne_self_eq_false, cond_false, Bool.not_true]
      cases (raceT c t b).2.1 <;> rfl

end Go.Proofs.Ytibbdoohekjmaaa.AM
