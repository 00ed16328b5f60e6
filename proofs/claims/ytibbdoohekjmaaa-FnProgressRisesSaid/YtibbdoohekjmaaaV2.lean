/- Plainly: the laws FnExactRoundedAt and FnExactProgress: both texts answer alike. Conditions: what every value that is handed over meets. -/
import Derived.Test.YtibbdoohekjmaaaV1
namespace Go.Proofs.Ytibbdoohekjmaaa.AM
open Go Go.Proofs
set_option linter.unusedVariables false

/-! ## Copies, sizes, equality of tracks -/

theorem F78_eq (x : Den A78) : F78 x = some x := rfl

theorem F34_eq (l : List (Den S95)) (h : l.length ≤ 1099511627776) : F34 ((l, ()), ()) = some (((), ()), (l, ())) := by
  have hl : l34_3 ((l, (), (0 : Int), ()), (List.replicate l.length (zero S95), ())) = some (((), ()), (l, ())) := by
    have hr : (List.replicate l.length (zero S95)).length = l.length := by simp
    refine (iter_all (q := q34_3 K78 G78) (fun k => ((l, (), (k : Int), ()), (l.take k ++ (List.replicate l.length (zero S95)).drop k, ()))) l.length _ ?_ ?_ _ ?_ : _)
    · intro k f hk
      have h2 : (l.take k ++ (List.replicate l.length (zero S95)).drop k).length = l.length := by simp; omega
      have h3 := take_drop_set l (List.replicate l.length (zero S95)) k hk hr.symm
      have e1 : decide ((k : Int) < (l.length : Int)) = true := by simpa using hk
      have e2 : decide (0 ≤ (k : Int)) = true := by simp
      unfold q34_3
      simp only [w64n k (by omega), Int.toNat_natCast, getD_lt l k _ hk, h2, e1, e2, Bool.and_self, cond_true, K78, G78, F78_eq, Option.isSome_some, Option.getD_some]
      exact congrArg f (congrArg (fun z => ((l, (), ((k + 1 : Nat) : Int), ()), (z, ()))) h3)
    · intro f
      simp [q34_3]
    · simp [b34_3]
      omega
  unfold F34 r34
  simp only [Int.toNat_natCast, capOk_of h, kL34_3, xL34_3, hl, Option.isSome_some, Option.getD_some, beq_self_eq_true, Bool.and_true, cond_true]
  simp

theorem F79_self (x : Den A79) (h : x.1 = x.2.1) : F79 x = some (true, ()) := by
  unfold F79 r79
  simp only [h, K87, G87, F87_self, Option.isSome_some, Option.getD_some, cond_true, Bool.not_true, cond_false, bne_self_eq_false]

theorem F35_self (l : List (Den S95)) (h : l.length ≤ 1099511627776) : F35 (l, l, ()) = some (true, ()) := by
  have hl : l35_4 ((l, l, (0 : Int), ()), ()) = some (.inl ((), ())) := by
    refine (iter_all (q := q35_4 K79 G79) (fun k => ((l, l, (k : Int), ()), ())) l.length _ ?_ ?_ _ ?_ : _)
    · intro k f hk
      have e1 : decide ((k : Int) < (l.length : Int)) = true := by simpa using hk
      have e2 : decide (0 ≤ (k : Int)) = true := by simp
      unfold q35_4
      simp only [w64n k (by omega), Int.toNat_natCast, getD_lt l k _ hk, e1, e2, Bool.and_self, cond_true, K79, G79, F79_self, Option.isSome_some, Option.getD_some, Bool.not_true, cond_false]
    · intro f
      simp [q35_4]
    · simp [b35_4]
      omega
  unfold F35 r35
  simp [kL35_4, tL35_4, hl, isR]

theorem F32_eq (l : List (Den S95)) (left : Int) (hg : l.length ≤ 9223372036854775807) (h0 : 0 ≤ left) (h1 : left ≤ 1048576) :
    F32 (l, left, ()) = some (if left - (l.length : Int) < 0 then -1 else left - (l.length : Int), ()) := by
  unfold F32 r32
  dsimp only
  have hw : IntKind.i64.wrap (left - (l.length : Int)) = left - (l.length : Int) := w64 (by omega) (by omega)
  simp only [hw]
  by_cases h : left - (l.length : Int) < 0 <;> simp [h]

theorem exRoundedAt (x : Den A9) (w : Wf A9 x) : F9 x = some (true, ()) := by
  obtain ⟨c, k, t, b, _⟩ := x
  have hm : maxLen ≤ 9223372036854775807 := by decide
  have hg : c.2.1.length ≤ 9223372036854775807 := Nat.le_trans w.1.2.1.1 hm
  have ht : t.length ≤ 9223372036854775807 := Nat.le_trans w.2.2.1.1 hm
  unfold F9 r9
  simp only [K20, G20, F20_eq c 1048576 hg (by decide) (by decide), Option.isSome_some, Option.getD_some, cond_true]
  by_cases h0 : 1048576 - (c.2.1.length : Int) < 0
  · simp [h0]
  · have hl : c.2.1.length ≤ 1099511627776 := by omega
    have h22 : F22 ((c, ()), ()) = _ := F22_eq c hl
    simp only [h0, if_false, decide_false, cond_false, K32, G32, F32_eq t _ ht (by omega : 0 ≤ 1048576 - (c.2.1.length : Int)) (by omega), Option.isSome_some, Option.getD_some, cond_true]
    by_cases h1 : 1048576 - (c.2.1.length : Int) - (t.length : Int) < 0
    · simp [h1]
    · have hl2 : t.length ≤ 1099511627776 := by omega
      simp only [h1, if_false, decide_false, cond_false, K22, G22, h22, K34, G34, F34_eq t hl2, Option.isSome_some, Option.getD_some, cond_true]
      have e33 : F33 (c, k, t, b, ()) = _ := F33_eq c k t b hg ht
      have e26 : F26 (c, k, t, b, ()) = _ := F26_eq c k t b hg ht
      have e24 : F24 (c, c, ()) = _ := F24_self c hl
      simp only [K33, G33, K26, G26, K24, G24, K35, G35, F35_self t hl2]
      erw [e33, e26, e24]
      simp

/-! ## Progress -/

/-- The roundings so far, and one more; whether it stops, and with what. -/
def prgNext (c : Den S45) (t : List (Den S95)) (k : Nat) (a : Int × List Int) : (Int × List Int) ⊕ (Bool × List Int) :=
  bif decide (roundN c k t a.1 < 0) then .inr (true, a.2) else .inl (roundN c k t a.1, a.2 ++ [roundN c k t a.1])
def progP (c : Den S45) (t : List (Den S95)) (b : Int) : Bool × List Int := accFrom (prgNext c t) (fun a => (false, a.2)) 0 c.2.1.length (b, [])
def progL (c : Den S45) (t : List (Den S95)) (b : Int) : List Int := (progP c t b).2

def g36 (p : Bool × List Int) : X36_3 ⊕ Y36_3 := bif p.1 then .inr (((), ()), (p.2, ())) else .inl (((), ()), (p.2, ()))
def g31 (p : Bool × List Int) : X31_3 := (((), ()), (p.2, ()))

theorem prg_len {c : Den S45} {t : List (Den S95)} {k : Nat} {a a' : Int × List Int} (h : a.2.length = k) (hn : prgNext c t k a = .inl a') : a'.2.length = k + 1 := by
  unfold prgNext at hn
  cases hd : decide (roundN c k t a.1 < 0) with
  | true => rw [hd] at hn; cases hn
  | false => rw [hd] at hn; cases hn; simp [h]

theorem prg36 (c : Den S45) (t : List (Den S95)) (b : Int) (hc : c.2.1.length ≤ 1099511627776) (ht : t.length ≤ 9223372036854775807) :
    l36_3 ((t, b, (), (), (0 : Int), ()), flatC c, (([] : List Int), ())) = some (g36 (progP c t b)) := by
  unfold progP
  rw [← accFrom_map g36]
  refine (iter_accI (q := q36_3 K33 G33) (fun k a => ((t, a.1, (), (), (k : Int), ()), flatC c, (a.2, ()))) c.2.1.length (fun k a => outR g36 (prgNext c t k a)) (fun a => g36 (false, a.2)) (fun k a => a.2.length = k) ?_ ?_ ?_ _ c.2.1.length 0 (b, []) (by omega) ?_ rfl : _)
  · rintro k ⟨bb, out⟩ f hlt ho
    have e1 : decide ((k : Int) < (c.2.1.length : Int)) = true := by simpa using hlt
    have h33 : F33 ((((c.1.1.1, c.1.1.2.1, ()), (c.1.2.1.1, c.1.2.1.2.1, ()), ()), c.2.1, ((c.2.2.1.1.1, c.2.2.1.1.2.1, ()), (c.2.2.1.2.1.1, c.2.2.1.2.1.2.1, ()), ()), ()), (k : Int), t, bb, ()) = some (roundN c k t bb, ()) := F33_eq c k t bb (by omega) ht
    have ho' : out.length = k := ho
    have hcap : capOk (out.length + ((List.replicate 1 (zero (Ty.int IntKind.i64))).set 0 (roundN c k t bb)).length) = true := capOk_of (by simp; omega)
    unfold q36_3 prgNext
    simp only [e1, K33, G33, h33, Option.isSome_some, Option.getD_some, cond_true, w64n k (by omega), hcap]
    cases decide (roundN c k t bb < 0) <;> rfl
  · intro k a a' hk hi hn
    refine prg_len (c := c) (t := t) hi ?_
    cases hp : prgNext c t k a with
    | inl a2 => rw [hp] at hn; cases hn; rfl
    | inr x => rw [hp] at hn; cases hn
  · rintro ⟨bb, out⟩ f _
    have e1 : decide ((c.2.1.length : Int) < (c.2.1.length : Int)) = false := by simp
    unfold q36_3
    simp only [e1, cond_false]
    rfl
  · simp only [b36_3]; omega

theorem F36_eq (c : Den S45) (t : List (Den S95)) (b : Int) (hc : c.2.1.length ≤ 1099511627776) (ht : t.length ≤ 9223372036854775807) : F36 ((c, t, b, ()), ()) = some (((), ()), (progL c t b, ())) := by
  unfold F36 r36
  have h : l36_3 ((t, b, (), (), 0, ()), (c.1.1.1, c.1.1.2.1, c.1.2.1.1, c.1.2.1.2.1, c.2.1, c.2.2.1.1.1, c.2.2.1.1.2.1, c.2.2.1.2.1), List.replicate 0 (zero (Ty.int IntKind.i64)), ()) = some (g36 (progP c t b)) := prg36 c t b hc ht
  simp only [kL36_3, tL36_3, xL36_3, yL36_3, h, Option.isSome_some, cond_true]
  unfold g36 progL
  cases (progP c t b).1 <;> rfl

theorem prg31 (c : Den S45) (t : List (Den S95)) (b : Int) (hc : c.2.1.length ≤ 1099511627776) (ht : t.length ≤ 9223372036854775807) :
    l31_3 ((t, b, (), (), (c.2.1.length : Int), (0 : Int), ()), flatC c, (([] : List Int), ())) = some (g31 (progP c t b)) := by
  unfold progP
  rw [← accFrom_map g31]
  refine (iter_accI (q := q31_3 K26 G26) (fun k a => ((t, a.1, (), (), (c.2.1.length : Int), (k : Int), ()), flatC c, (a.2, ()))) c.2.1.length (fun k a => outR g31 (prgNext c t k a)) (fun a => g31 (false, a.2)) (fun k a => a.2.length = k) ?_ ?_ ?_ _ c.2.1.length 0 (b, []) (by omega) ?_ rfl : _)
  · rintro k ⟨bb, out⟩ f hlt ho
    have e1 : decide ((k : Int) < (c.2.1.length : Int)) = true := by simpa using hlt
    have h26 : F26 ((((c.1.1.1, c.1.1.2.1, ()), (c.1.2.1.1, c.1.2.1.2.1, ()), ()), c.2.1, ((c.2.2.1.1.1, c.2.2.1.1.2.1, ()), (c.2.2.1.2.1.1, c.2.2.1.2.1.2.1, ()), ()), ()), (k : Int), t, bb, ()) = some (roundN c k t bb, ()) := F26_eq c k t bb (by omega) ht
    have ho' : out.length = k := ho
    have hcap : capOk (out.length + ((List.replicate 1 (zero (Ty.int IntKind.i64))).set 0 (roundN c k t bb)).length) = true := capOk_of (by simp; omega)
    unfold q31_3 prgNext
    simp only [e1, K26, G26, h26, Option.isSome_some, Option.getD_some, cond_true, w64n k (by omega), hcap]
    cases decide (roundN c k t bb < 0) <;> rfl
  · intro k a a' hk hi hn
    refine prg_len (c := c) (t := t) hi ?_
    cases hp : prgNext c t k a with
    | inl a2 => rw [hp] at hn; cases hn; rfl
    | inr x => rw [hp] at hn; cases hn
  · rintro ⟨bb, out⟩ f _
    have e1 : decide ((c.2.1.length : Int) < (c.2.1.length : Int)) = false := by simp
    unfold q31_3
    simp only [e1, cond_false]
    rfl
  · simp only [b31_3]; omega

theorem F31_eq (c : Den S45) (t : List (Den S95)) (b : Int) (hc : c.2.1.length ≤ 1099511627776) (ht : t.length ≤ 9223372036854775807) : F31 ((c, t, b, ()), ()) = some (((), ()), (progL c t b, ())) := by
  unfold F31 r31
  have h : l31_3 ((t, b, (), (), (c.2.1.length : Int), 0, ()), (c.1.1.1, c.1.1.2.1, c.1.2.1.1, c.1.2.1.2.1, c.2.1, c.2.2.1.1.1, c.2.2.1.1.2.1, c.2.2.1.2.1), [], ()) = some (g31 (progP c t b)) := prg31 c t b hc ht
  simp only [kL31_3, xL31_3, h, Option.isSome_some, Option.getD_some, cond_true]
  rfl

/-! ## What is written over arguments and results -/

theorem mark80 (l : List (Den S82)) (k0 : Int) (h : l.length ≤ 1099511627776) (h0 : 0 ≤ k0) (h1 : k0 ≤ 1099511627776) : ∃ l', F80 (((), k0, ()), (l, ())) = some ((k0 + 3 * (l.length : Int), ()), (l', ())) := by
  have hl : ∃ l', l80_2 (((), k0, (0 : Int), ()), (l, ())) = some ((k0 + 3 * (l.length : Int), ()), (l', ())) := by
    refine iter_ind (q := q80_2) (fun v => v.2.1.length = l.length ∧ 0 ≤ v.1.2.2.1 ∧ v.1.2.2.1 ≤ l.length ∧ v.1.2.1 = k0 + 3 * v.1.2.2.1) (fun _ r => ∃ l', r = some ((k0 + 3 * (l.length : Int), ()), (l', ()))) (fun v => ((l.length : Int) - v.1.2.2.1).toNat) ?_ _ _ ⟨rfl, by simp only; omega, by simp only; omega, by simp only; omega⟩ (by simp only [b80_2]; omega)
    rintro ⟨⟨_, k, i, _⟩, l2, _⟩ f ⟨h2, h3, h4, h5⟩ ih
    simp only at h2 h3 h4 h5 ih
    unfold q80_2
    by_cases hi : i < (l.length : Int)
    · have a1 : decide (0 ≤ i) = true := by simp; omega
      have a2 : decide (i < (l.length : Int)) = true := by simpa using hi
      have e1 : IntKind.i64.wrap (i + 1) = i + 1 := w64 (by omega) (by omega)
      have e2 : IntKind.i64.wrap (k + 1) = k + 1 := w64 (by omega) (by omega)
      have e3 : IntKind.i64.wrap (k + 1 + 1) = k + 1 + 1 := w64 (by omega) (by omega)
      have e4 : IntKind.i64.wrap (k + 1 + 1 + 1) = k + 1 + 1 + 1 := w64 (by omega) (by omega)
      simp only [List.length_set, h2, a1, a2, e1, e2, e3, e4, Bool.and_self, cond_true]
      exact ih (((), k + 1 + 1 + 1, i + 1, ()), (_, ())) ⟨by simp only [List.length_set, h2], by simp only; omega, by simp only; omega, by simp only; omega⟩ (by simp only; omega)
    · have a2 : decide (i < (l.length : Int)) = false := by simpa using hi
      simp only [h2, a2, cond_false]
      have : i = (l.length : Int) := by omega
      subst this
      exact ⟨l2, by rw [← h5]⟩
  obtain ⟨l', hl⟩ := hl
  unfold F80 r80
  simp only [kL80_2, xL80_2, hl, Option.isSome_some, Option.getD_some, cond_true]
  exact ⟨l', rfl⟩

theorem mark39 (l : List (Den S95)) (k0 : Int) (h : l.length ≤ 1099511627776) (h0 : 0 ≤ k0) (h1 : k0 ≤ 10995116277760) : ∃ l', F39 (((), k0, ()), (l, ())) = some ((k0 + 3 * (l.length : Int), ()), (l', ())) := by
  have hl : ∃ l', l39_2 (((), k0, (0 : Int), ()), (l, ())) = some ((k0 + 3 * (l.length : Int), ()), (l', ())) := by
    refine iter_ind (q := q39_2) (fun v => v.2.1.length = l.length ∧ 0 ≤ v.1.2.2.1 ∧ v.1.2.2.1 ≤ l.length ∧ v.1.2.1 = k0 + 3 * v.1.2.2.1) (fun _ r => ∃ l', r = some ((k0 + 3 * (l.length : Int), ()), (l', ()))) (fun v => ((l.length : Int) - v.1.2.2.1).toNat) ?_ _ _ ⟨rfl, by simp only; omega, by simp only; omega, by simp only; omega⟩ (by simp only [b39_2]; omega)
    rintro ⟨⟨_, k, i, _⟩, l2, _⟩ f ⟨h2, h3, h4, h5⟩ ih
    simp only at h2 h3 h4 h5 ih
    unfold q39_2
    by_cases hi : i < (l.length : Int)
    · have a1 : decide (0 ≤ i) = true := by simp; omega
      have a2 : decide (i < (l.length : Int)) = true := by simpa using hi
      have e1 : IntKind.i64.wrap (i + 1) = i + 1 := w64 (by omega) (by omega)
      have e2 : IntKind.i64.wrap (k + 1) = k + 1 := w64 (by omega) (by omega)
      have e3 : IntKind.i64.wrap (k + 1 + 1) = k + 1 + 1 := w64 (by omega) (by omega)
      have e4 : IntKind.i64.wrap (k + 1 + 1 + 1) = k + 1 + 1 + 1 := w64 (by omega) (by omega)
      simp only [List.length_set, h2, a1, a2, e1, e2, e3, e4, Bool.and_self, cond_true]
      exact ih (((), k + 1 + 1 + 1, i + 1, ()), (_, ())) ⟨by simp only [List.length_set, h2], by simp only; omega, by simp only; omega, by simp only; omega⟩ (by simp only; omega)
    · have a2 : decide (i < (l.length : Int)) = false := by simpa using hi
      simp only [h2, a2, cond_false]
      have : i = (l.length : Int) := by omega
      subst this
      exact ⟨l2, by rw [← h5]⟩
  obtain ⟨l', hl⟩ := hl
  unfold F39 r39
  simp only [kL39_2, xL39_2, hl, Option.isSome_some, Option.getD_some, cond_true]
  exact ⟨l', rfl⟩

theorem mark40 (l : List Int) (k0 : Int) (h : l.length ≤ 1099511627776) (h0 : 0 ≤ k0) (h1 : k0 ≤ 10995116277760) : F40 (((), k0, ()), (l, ())) = some ((k0 + (l.length : Int), ()), (ramp k0 l.length, ())) := by
  have hl : l40_2 (((), k0, (0 : Int), ()), (l, ())) = some ((k0 + (l.length : Int), ()), (ramp k0 l.length, ())) := by
    have := iter_all (q := q40_2) (fun j => (((), k0 + (j : Int), (j : Int), ()), (ramp k0 j ++ l.drop j, ()))) l.length ((k0 + (l.length : Int), ()), (ramp k0 l.length, ())) ?_ ?_ (b40_2 (((), k0, (0 : Int), ()), (l, ()))) (by simp only [b40_2]; omega)
    · unfold l40_2
      simpa [ramp] using this
    · intro j f hj
      have a1 : decide (0 ≤ (j : Int)) = true := by simp
      have a3 : (ramp k0 j ++ l.drop j).length = l.length := by rw [List.length_append, ramp_length, List.length_drop]; omega
      have a2 : decide ((j : Int) < (l.length : Int)) = true := by simpa using hj
      have e2 : IntKind.i64.wrap (k0 + (j : Int) + 1) = k0 + ((j + 1 : Nat) : Int) := by rw [w64 (by omega) (by omega)]; omega
      unfold q40_2
      simp only [a1, a2, a3, e2, w64n j (by omega), Bool.and_self, cond_true, Int.toNat_natCast, ramp_set k0 l j hj]
    · intro f
      have a2 : decide ((l.length : Int) < (l.length : Int)) = false := by simp
      unfold q40_2
      simp only [List.drop_length, List.append_nil, ramp_length, a2, cond_false]
  unfold F40 r40
  simp only [kL40_2, xL40_2, hl, Option.isSome_some, Option.getD_some, cond_true]

theorem held41 (k0 : Int) (n : Nat) (h : n ≤ 1099511627776) (h0 : 0 ≤ k0) (h1 : k0 ≤ 10995116277760) : F41 (ramp k0 n, k0, ()) = some (k0 + (n : Int), ()) := by
  have hl : l41_2 ((ramp k0 n, k0, (0 : Int), ()), ()) = some (.inl ((k0 + (n : Int), ()), ())) := by
    have := iter_all (q := q41_2) (fun j => ((ramp k0 n, k0 + (j : Int), (j : Int), ()), ())) n (.inl ((k0 + (n : Int), ()), ())) ?_ ?_ (b41_2 ((ramp k0 n, k0, (0 : Int), ()), ())) (by simp only [b41_2, ramp_length]; omega)
    · unfold l41_2
      simpa using this
    · intro j f hj
      have a1 : decide (0 ≤ (j : Int)) = true := by simp
      have a2 : decide ((j : Int) < (n : Int)) = true := by simpa using hj
      have e2 : IntKind.i64.wrap (k0 + (j : Int) + 1) = k0 + ((j + 1 : Nat) : Int) := by rw [w64 (by omega) (by omega)]; omega
      have e3 : (ramp k0 n).getD j (zero (Ty.int IntKind.i64)) = k0 + (j : Int) := ramp_get k0 hj
      unfold q41_2
      simp only [ramp_length, a1, a2, e2, e3, w64n j (by omega), Bool.and_self, cond_true, Int.toNat_natCast, bne_self_eq_false, cond_false]
    · intro f
      have a2 : decide ((n : Int) < (n : Int)) = false := by simp
      unfold q41_2
      simp only [ramp_length, a2, cond_false]
  unfold F41 r41
  simp only [kL41_2, tL41_2, xL41_2, hl, Option.isSome_some, cond_true]
  rfl

theorem F37_self (l : List Int) (h : l.length ≤ 1099511627776) : F37 (l, l, ()) = some (true, ()) := by
  have hl : l37_4 ((l, l, (0 : Int), ()), ()) = some (.inl ((), ())) := by
    refine (iter_all (q := q37_4) (fun k => ((l, l, (k : Int), ()), ())) l.length _ ?_ ?_ _ ?_ : _)
    · intro k f hk
      have e1 : decide ((k : Int) < (l.length : Int)) = true := by simpa using hk
      have e2 : decide (0 ≤ (k : Int)) = true := by simp
      unfold q37_4
      simp only [w64n k (by omega), Int.toNat_natCast, getD_lt l k _ hk, e1, e2, Bool.and_self, cond_true, bne_self_eq_false, cond_false]
    · intro f
      simp [q37_4]
    · simp only [b37_4]
      omega
  unfold F37 r37
  simp [kL37_4, tL37_4, hl, isR]

theorem prog_len (c : Den S45) (t : List (Den S95)) : ∀ (n k : Nat) (a : Int × List Int), a.2.length = k → (accFrom (prgNext c t) (fun a => (false, a.2)) k n a).2.length ≤ k + n
  | 0, k, a, h => by simp [accFrom, h]
  | n + 1, k, a, h => by
    simp only [accFrom]
    cases hn : prgNext c t k a with
    | inl a' =>
      have := prog_len c t n (k + 1) a' (prg_len h hn)
      simp only
      omega
    | inr x =>
      simp only
      unfold prgNext at hn
      cases hd : decide (roundN c k t a.1 < 0) with
      | true => rw [hd] at hn; cases hn; simp only; omega
      | false => rw [hd] at hn; cases hn

theorem progL_len (c : Den S45) (t : List (Den S95)) (b : Int) : (progL c t b).length ≤ c.2.1.length := by
  have := prog_len c t c.2.1.length 0 (b, []) rfl
  rw [Nat.zero_add] at this
  exact this

theorem pq {α γ : Type} (p : α × γ) : (p.1, p.2) = p := rfl
theorem pu {α : Type} (p : α × Unit) : (p.1, ()) = p := rfl

set_option maxRecDepth 100000 in
theorem exProgress (x : Den A10) (w : Wf A10 x) : F10 x = some (true, ()) := by
  obtain ⟨c, t, b, _⟩ := x
  have hm : maxLen ≤ 9223372036854775807 := by decide
  have hg : c.2.1.length ≤ 9223372036854775807 := Nat.le_trans w.1.2.1.1 hm
  have ht : t.length ≤ 9223372036854775807 := Nat.le_trans w.2.1.1 hm
  unfold F10 r10
  simp only [K20, G20, F20_eq c 1048576 hg (by decide) (by decide), Option.isSome_some, Option.getD_some, cond_true]
  by_cases h0 : 1048576 - (c.2.1.length : Int) < 0
  · simp [h0]
  · have hl : c.2.1.length ≤ 1099511627776 := by omega
    have h22 : F22 ((c, ()), ()) = _ := F22_eq c hl
    simp only [h0, if_false, decide_false, cond_false, K32, G32, F32_eq t _ ht (by omega : 0 ≤ 1048576 - (c.2.1.length : Int)) (by omega), Option.isSome_some, Option.getD_some, cond_true]
    by_cases h1 : 1048576 - (c.2.1.length : Int) - (t.length : Int) < 0
    · simp [h1]
    · have hl2 : t.length ≤ 1099511627776 := by omega
      simp only [h1, if_false, decide_false, cond_false, K22, G22, h22, K34, G34, F34_eq t hl2, Option.isSome_some, Option.getD_some, cond_true]
      have e36 : F36 ((c, t, b, ()), ()) = _ := F36_eq c t b hl ht
      have e31 : F31 ((c, t, b, ()), ()) = _ := F31_eq c t b hl ht
      have e24 : F24 (c, c, ()) = _ := F24_self c hl
      have hp := progL_len c t b
      obtain ⟨l1, hm1⟩ := mark80 c.2.1 1 hl (by decide) (by decide)
      have e38 : F38 ((flat c, 1, ()), (c.2.1, ())) = some ((1 + 3 * (c.2.1.length : Int), ()), (l1, ())) := by
        unfold F38 r38
        simp only [K80, G80, hm1, Option.isSome_some, Option.getD_some, cond_true]
      obtain ⟨l2, hm2⟩ := mark39 t (1 + 3 * (c.2.1.length : Int)) hl2 (by omega) (by omega)
      have e40 := mark40 (progL c t b) 1 (by omega) (by decide) (by decide)
      have e41 := held41 1 (progL c t b).length (by omega) (by decide) (by decide)
      have e37 := F37_self (progL c t b) (by omega)
      have a1 : decide (1 + 3 * (c.2.1.length : Int) + 3 * (t.length : Int) < 0) = false := by simp; omega
      have a2 : decide (1 + ((progL c t b).length : Int) < 0) = false := by simp; omega
      simp only [flat, pu, pq] at e38 ⊢
      simp only [K36, G36, e36, K31, G31, e31, K24, G24, e24, K35, G35, F35_self t hl2, Option.isSome_some, Option.getD_some, cond_true]
      simp only [K37, G37, e37, K38, G38, e38, Option.isSome_some, Option.getD_some, cond_true, Bool.not_true, cond_false]
      simp only [K39, G39, hm2, K40, G40, e40, K41, G41, e41, a1, a2, Option.isSome_some, Option.getD_some, cond_true, cond_false, bne_self_eq_false]

end Go.Proofs.Ytibbdoohekjmaaa.AM
