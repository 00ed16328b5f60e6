/- Plainly: the laws FnLongerTrack and FnProgressRises. Conditions: what every value that is handed over meets. -/
import Derived.Test.YtibbdoohekjmaaaV7
namespace Go.Proofs.Ytibbdoohekjmaaa.AM
open Go Go.Proofs
set_option linter.unusedVariables false

theorem roundN_neg {c : Den S45} {k : Int} {t : List (Den S95)} {b : Int} (h : roundN c k t b < 0) : roundN c k t b = -1 := by
  unfold roundN at h ⊢
  cases hc : courseB c && (trackB t && (inB k 0 ((c.2.1.length : Int) - 1) && inB b 0 ((t.length : Int) - 1))) with
  | false => rfl
  | true =>
    rw [hc] at h
    simp only [cond_true] at h ⊢
    cases hr : rndO c k.toNat t b.toNat with
    | none => rfl
    | some n =>
      obtain ⟨j, e, _⟩ := rndO_some hr
      rw [hr] at h
      simp only [Option.getD_some] at h
      omega

/-! ## A track that is cut -/

theorem sg_take (t : List (Den S95)) {m i : Nat} (h : i < m) : sg (t.take m) i = sg t i := by
  unfold sg
  rw [List.getD_eq_getElem?_getD, List.getD_eq_getElem?_getD, List.getElem?_take_of_lt h]

theorem trackB_take {t : List (Den S95)} (h : trackB t = true) (m : Nat) : trackB (t.take m) = true := by
  unfold trackB at h ⊢
  simp only [Bool.and_eq_true, decide_eq_true_eq] at h ⊢
  have hl : (t.take m).length = min m t.length := List.length_take
  refine ⟨allFrom_iff.2 fun j h1 h2 => ?_, by omega⟩
  have := allFrom_iff.1 h.1 j h1 (by omega)
  unfold sightB at this ⊢
  rw [sg_take t (by omega), sg_take t (by omega)]
  exact this

theorem acc_cut {A : Type} {next : Nat → A → A ⊕ Option Int} (hx : ∀ j a x, next j a = .inr x → x = some ((j + 1 : Nat) : Int)) : ∀ (m k : Nat) (a : A) (n : Nat), accFrom next (fun _ => none) k m a = some (n : Int) →
    k < n ∧ (∀ m', k + m' < n → accFrom next (fun _ => none) k m' a = none) ∧ (∀ m', n ≤ k + m' → accFrom next (fun _ => none) k m' a = some (n : Int))
  | 0, k, a, n, h => by cases h
  | m + 1, k, a, n, h => by
    simp only [accFrom] at h
    cases hn : next k a with
    | inr x =>
      rw [hn] at h
      have h1 := hx k a x hn
      simp only at h
      rw [h1] at h
      have h2 : k + 1 = n := by
        have : ((k + 1 : Nat) : Int) = (n : Int) := Option.some.inj h
        omega
      refine ⟨by omega, fun m' hm => ?_, fun m' hm => ?_⟩
      · have : m' = 0 := by omega
        subst this
        rfl
      · obtain ⟨j, rfl⟩ : ∃ j, m' = j + 1 := ⟨m' - 1, by omega⟩
        simp only [accFrom, hn]
        rw [h1, h2]
    | inl a' =>
      rw [hn] at h
      obtain ⟨h1, h2, h3⟩ := acc_cut hx m (k + 1) a' n h
      refine ⟨by omega, fun m' hm => ?_, fun m' hm => ?_⟩
      · cases m' with
        | zero => rfl
        | succ j => simp only [accFrom, hn]; exact h2 j (by omega)
      · cases m' with
        | zero => omega
        | succ j => simp only [accFrom, hn]; exact h3 j (by omega)

theorem rndNext_x (c : Den S45) (k : Nat) (t : List (Den S95)) (j : Nat) (a : Int) (x : Option Int) (h : rndNext c k t j a = .inr x) : x = some ((j + 1 : Nat) : Int) := by
  unfold rndNext at h
  cases hc : (rndSum c k t j a == 1 && !(mk c k).2.1) || (rndSum c k t j a == -1 && (mk c k).2.1) with
  | true => rw [hc] at h; cases h; rfl
  | false => rw [hc] at h; cases h

theorem rndO_take (c : Den S45) (k : Nat) (t : List (Den S95)) (b m : Nat) (hm : m ≤ t.length) : rndO c k (t.take m) b = accFrom (rndNext c k t) (fun _ => none) b (m - 1 - b) 0 := by
  unfold rndO
  have hl : (t.take m).length = m := by rw [List.length_take]; omega
  rw [hl]
  refine accFrom_congr fun j a h1 h2 => ?_
  unfold rndNext rndSum
  rw [sg_take t (by omega), sg_take t (by omega)]

theorem longer {c : Den S45} {k : Int} {t : List (Den S95)} {b : Int} {n : Nat} (h : roundN c k t b = (n : Int)) :
    n < t.length ∧ b < (n : Int) ∧ roundN c k (t.take (n + 1)) b = (n : Int) ∧ roundN c k (t.take n) b = -1 := by
  have hge : 0 ≤ roundN c k t b := by omega
  obtain ⟨h1, h2, h3, h4, h5, h6, h7⟩ := roundN_ge hge
  obtain ⟨h8, h9⟩ := roundN_lt hge
  rw [h] at h7 h8 h9
  have hn : n < t.length := by omega
  unfold rndO at h7
  obtain ⟨a1, a2, a3⟩ := acc_cut (rndNext_x c k.toNat t) _ _ _ n h7
  refine ⟨hn, h8, ?_, ?_⟩
  · have hl : (t.take (n + 1)).length = n + 1 := by rw [List.length_take]; omega
    unfold roundN
    have hb : inB b 0 (((t.take (n + 1)).length : Int) - 1) = true := by rw [hl]; unfold inB; simp; omega
    have hk : inB k 0 ((c.2.1.length : Int) - 1) = true := by unfold inB; simp; omega
    rw [h1, trackB_take h2, hk, hb, rndO_take c _ t _ _ (by omega), a3 _ (by omega)]
    rfl
  · unfold roundN
    rw [rndO_take c _ t _ _ (by omega), a2 _ (by omega)]
    cases courseB c && (trackB (t.take n) && (inB k 0 ((c.2.1.length : Int) - 1) && inB b 0 (((t.take n).length : Int) - 1))) <;> rfl

theorem longerTrack (x : Den A6) (w : Wf A6 x) : F6 x = some (true, ()) := by
  unfold F6 r6
  simp only [K16, G16, F16_eq, Option.isSome_some, Option.getD_some, cond_true]
  by_cases h0 : (x.1.length : Int) > 1048576
  · simp only [h0, decide_true, cond_true]
  · simp only [h0, decide_false, cond_false]
    have p := draw25 x (by omega)
    have k25 : K25 x = true := pst_k p
    obtain ⟨l1, l2⟩ : (G25 x).1.2.1.length ≤ 22 ∧ (G25 x).2.2.1.length ≤ 300 := pst_g _ p
    simp only [k25, cond_true]
    generalize G25 x = d at *
    obtain ⟨c, k, t, b, _⟩ := d
    have lc : c.2.1.length ≤ 22 := l1
    have lt : t.length ≤ 300 := l2
    have e26 : ∀ t', t'.length ≤ 300 → F26 (c, k, t', b, ()) = some (roundN c k t' b, ()) := fun t' h => F26_eq c k t' b (by omega) (by omega)
    simp only [K26, G26, e26 t lt, Option.isSome_some, Option.getD_some, cond_true]
    by_cases hn : roundN c k t b < 0
    · rw [roundN_neg hn]
      rfl
    · obtain ⟨n, e⟩ : ∃ n : Nat, roundN c k t b = (n : Int) := ⟨(roundN c k t b).toNat, by omega⟩
      obtain ⟨g1, g2, g3, g4⟩ := longer e
      have e6 : IntKind.i64.wrap ((n : Int) + 1) = ((n + 1 : Nat) : Int) := w64n n (by omega)
      have d1 : decide ((n : Int) < 0) = false := by simp
      have d2 : decide ((n : Int) ≥ (t.length : Int)) = false := by simp; omega
      have d3 : decide ((n : Int) ≤ b) = false := by simp; omega
      have d4 : decide (0 ≤ ((n + 1 : Nat) : Int)) = true := by simp; omega
      have d5 : decide (((n + 1 : Nat) : Int) ≤ (t.length : Int)) = true := by simp; omega
      have d6 : decide (0 ≤ (n : Int)) = true := by simp
      have d7 : decide ((n : Int) ≤ (t.length : Int)) = true := by simp; omega
      have t1 : List.drop (Int.toNat 0) (t.take (n + 1)) = t.take (n + 1) := rfl
      have t2 : List.drop (Int.toNat 0) (t.take n) = t.take n := rfl
      have f1 := e26 (t.take (n + 1)) (by rw [List.length_take]; omega)
      have f2 := e26 (t.take n) (by rw [List.length_take]; omega)
      rw [g3] at f1
      rw [g4] at f2
      simp only [e, d1, d2, d3, e6, d4, d5, d6, d7, cond_true, cond_false, Int.toNat_natCast, t1, t2, f1, f2, Option.isSome_some, Option.getD_some, beq_self_eq_true]
      rfl

/-! ## How the roundings rise -/

def prevAt (b : Int) (l : List Int) (k : Nat) : Int := if k = 0 then b else l.getD (k - 1) 0
structure Rise (c : Den S45) (t : List (Den S95)) (b : Int) (l : List Int) : Prop where
  each : ∀ k : Nat, k < l.length → 0 ≤ roundN c k t (prevAt b l k) ∧ roundN c k t (prevAt b l k) = l.getD k 0

theorem prevAt_app (b : Int) (l : List Int) (r : Int) {k : Nat} (h : k ≤ l.length) : prevAt b (l ++ [r]) k = prevAt b l k := by
  unfold prevAt
  split
  · rfl
  · rw [List.getD_eq_getElem?_getD, List.getD_eq_getElem?_getD, List.getElem?_append_left (by omega)]

theorem rise_app {c : Den S45} {t : List (Den S95)} {b : Int} {l : List Int} (h : Rise c t b l) (h0 : 0 ≤ roundN c (l.length : Nat) t (prevAt b l l.length)) :
    Rise c t b (l ++ [roundN c (l.length : Nat) t (prevAt b l l.length)]) := by
  refine ⟨fun k hk => ?_⟩
  simp only [List.length_append, List.length_singleton] at hk
  rw [prevAt_app _ _ _ (by omega)]
  by_cases hl : k < l.length
  · rw [List.getD_eq_getElem?_getD, List.getElem?_append_left hl, ← List.getD_eq_getElem?_getD]
    exact h.each k hl
  · have : k = l.length := by omega
    subst this
    refine ⟨h0, ?_⟩
    rw [List.getD_eq_getElem?_getD, List.getElem?_append_right (Nat.le_refl _)]
    simp

theorem prog_rise (c : Den S45) (t : List (Den S95)) (b : Int) : ∀ (n k : Nat) (a : Int × List Int), k + n = c.2.1.length → a.2.length = k → a.1 = prevAt b a.2 k → Rise c t b a.2 →
    Rise c t b (accFrom (prgNext c t) (fun a => (false, a.2)) k n a).2 ∧ (accFrom (prgNext c t) (fun a => (false, a.2)) k n a).2.length ≤ c.2.1.length ∧
    ((accFrom (prgNext c t) (fun a => (false, a.2)) k n a).2.length ≠ c.2.1.length → roundN c ((accFrom (prgNext c t) (fun a => (false, a.2)) k n a).2.length : Nat) t (prevAt b (accFrom (prgNext c t) (fun a => (false, a.2)) k n a).2 (accFrom (prgNext c t) (fun a => (false, a.2)) k n a).2.length) < 0)
  | 0, k, a, h1, h2, h3, h4 => ⟨h4, by show a.2.length ≤ _; omega, fun h => absurd (show a.2.length = _ by omega) h⟩
  | n + 1, k, a, h1, h2, h3, h4 => by
    simp only [accFrom]
    by_cases hd : roundN c k t a.1 < 0
    · have : prgNext c t k a = .inr (true, a.2) := by unfold prgNext; rw [decide_eq_true hd]; rfl
      rw [this]
      refine ⟨h4, by show a.2.length ≤ _; omega, fun _ => ?_⟩
      show roundN c (a.2.length : Nat) t (prevAt b a.2 a.2.length) < 0
      rw [h2, ← h3]
      exact hd
    · have : prgNext c t k a = .inl (roundN c k t a.1, a.2 ++ [roundN c k t a.1]) := by unfold prgNext; rw [decide_eq_false hd]; rfl
      rw [this]
      have h5 := rise_app h4 (by rw [h2, ← h3]; omega)
      rw [h2, ← h3] at h5
      refine prog_rise c t b n (k + 1) _ (by omega) (by simp [h2]) ?_ h5
      unfold prevAt
      rw [if_neg (by omega), Nat.add_sub_cancel, List.getD_eq_getElem?_getD, List.getElem?_append_right (by omega)]
      simp [h2]

theorem progL_rise (c : Den S45) (t : List (Den S95)) (b : Int) : Rise c t b (progL c t b) ∧ (progL c t b).length ≤ c.2.1.length ∧ ((progL c t b).length ≠ c.2.1.length → roundN c ((progL c t b).length : Nat) t (prevAt b (progL c t b) (progL c t b).length) < 0) :=
  prog_rise c t b c.2.1.length 0 (b, []) (by omega) rfl rfl ⟨fun k hk => absurd hk (Nat.not_lt_zero _)⟩

theorem rise_loop (c : Den S45) (t : List (Den S95)) (b : Int) (l : List Int) (h : Rise c t b l) (hl : l.length ≤ 22) (hc : c.2.1.length ≤ 22) (ht : t.length ≤ 300) :
    l8_8 (((), t, b, (), (0 : Int), ()), (flatC c, (l, ()))) = some (.inl (((), t, prevAt b l l.length, (), ()), (flatC c, (l, ())))) := by
  refine (iter_all (q := q8_8 K16 G16 K30 G30 K31 G31 K26 G26) (fun k => (((), t, prevAt b l k, (), (k : Int), ()), (flatC c, (l, ())))) l.length _ ?_ ?_ _ ?_ : _)
  · intro k f hk
    obtain ⟨r0, r1⟩ := h.each k hk
    have e26 : F26 (c, (k : Int), t, prevAt b l k, ()) = some (roundN c k t (prevAt b l k), ()) := F26_eq c k t _ (by omega) (by omega)
    have e26' : F26 ((((c.1.1.1, c.1.1.2.1, ()), (c.1.2.1.1, c.1.2.1.2.1, ()), ()), c.2.1, ((c.2.2.1.1.1, c.2.2.1.1.2.1, ()), (c.2.2.1.2.1.1, c.2.2.1.2.1.2.1, ()), ()), ()), (k : Int), t, prevAt b l k, ()) = some (roundN c k t (prevAt b l k), ()) := e26
    have e1 : decide ((k : Int) < (l.length : Int)) = true := by simpa using hk
    have e2 : decide (0 ≤ (k : Int)) = true := by simp
    have e3 : prevAt b l (k + 1) = l.getD k 0 := by unfold prevAt; rw [if_neg (by omega), Nat.add_sub_cancel]
    have e4 : decide (l.getD k 0 ≤ prevAt b l k) = false := by
      have := (roundN_lt r0).1
      rw [r1] at this
      simp; simpa using this
    have e5 : List.getD l k (zero (Ty.int IntKind.i64)) = l.getD k 0 := rfl
    unfold q8_8
    simp only [flatC, e1, e2, Bool.and_self, cond_true, Int.toNat_natCast, K26, G26, e26', Option.isSome_some, Option.getD_some, r1, e5, bne_self_eq_false, cond_false, e4, w64n k (by omega), e3]
  · intro f
    have e1 : decide ((l.length : Int) < (l.length : Int)) = false := by simp
    unfold q8_8
    simp only [e1, cond_false]
  · exact Nat.lt_of_lt_of_le (m := 1000) (by omega) (Nat.le_add_left _ _)

theorem progressRises (x : Den A8) (w : Wf A8 x) : F8 x = some (true, ()) := by
  unfold F8 r8
  simp only [K16, G16, F16_eq, Option.isSome_some, Option.getD_some, cond_true]
  by_cases h0 : (x.1.length : Int) > 1048576
  · simp only [h0, decide_true, cond_true]
  · simp only [h0, decide_false, cond_false]
    have p := draw30 x (by omega)
    have k30 : K30 x = true := pst_k p
    obtain ⟨l1, l2⟩ : (G30 x).1.2.1.length ≤ 22 ∧ (G30 x).2.1.length ≤ 300 := pst_g _ p
    simp only [k30, cond_true]
    generalize G30 x = d at *
    obtain ⟨c, t, b, _⟩ := d
    have lc : c.2.1.length ≤ 22 := l1
    have lt : t.length ≤ 300 := l2
    have e31 : F31 ((c, t, b, ()), ()) = some (((), ()), (progL c t b, ())) := F31_eq c t b (by omega) (by omega)
    obtain ⟨r1, r2, r3⟩ := progL_rise c t b
    simp only [K31, G31, e31, Option.isSome_some, Option.getD_some, cond_true]
    generalize progL c t b = l at *
    have d1 : decide ((l.length : Int) > (c.2.1.length : Int)) = false := by simp; omega
    have hl := rise_loop c t b l r1 (by omega) lc lt
    have hl' : l8_8 (((), t, b, (), 0, ()), (c.1.1.1, c.1.1.2.1, c.1.2.1.1, c.1.2.1.2.1, c.2.1, c.2.2.1.1.1, c.2.2.1.1.2.1, c.2.2.1.2.1), (l, ())) = some (.inl (((), t, prevAt b l l.length, (), ()), (flatC c, (l, ())))) := hl
    simp only [d1, cond_false, kL8_8, tL8_8, xL8_8, yL8_8, hl', Option.isSome_some, cond_true, isR, xOf, flatC]
    by_cases he : l.length = c.2.1.length
    · have d2 : ((l.length : Int) == (c.2.1.length : Int)) = true := by simp [he]
      simp only [d2, cond_true]
    · have d2 : ((l.length : Int) == (c.2.1.length : Int)) = false := by simp; omega
      have e26 : F26 ((((c.1.1.1, c.1.1.2.1, ()), (c.1.2.1.1, c.1.2.1.2.1, ()), ()), c.2.1, ((c.2.2.1.1.1, c.2.2.1.1.2.1, ()), (c.2.2.1.2.1.1, c.2.2.1.2.1.2.1, ()), ()), ()), (l.length : Int), t, prevAt b l l.length, ()) = some (roundN c (l.length : Nat) t (prevAt b l l.length), ()) := F26_eq c _ t _ (by omega) (by omega)
      simp only [d2, cond_false, K26, G26, e26, Option.isSome_some, Option.getD_some, cond_true, roundN_neg (r3 he)]
      rfl

end Go.Proofs.Ytibbdoohekjmaaa.AM
