/- Plainly: going as far as can be gone with one sail, over and over, changes sails no more often than any plan does. Conditions: those that each lemma names. -/
import Derived.Test.YtbgkhcoeifbgkaaV8
namespace Go.Proofs.Ytbgkhcoeifbgkaa.AM
open Go Go.Proofs
set_option linter.unusedVariables false

/-! ## How often something changes -/

def chg (q : Nat → Int) : Nat → Nat
  | 0 => 0
  | 1 => 0
  | i + 2 => chg q (i + 1) + if q (i + 1) = q i then 0 else 1

theorem chg_succ (q : Nat → Int) (i : Nat) : chg q i ≤ chg q (i + 1) := by
  cases i with
  | zero => exact Nat.le_refl _
  | succ i => rw [show chg q (i + 1 + 1) = chg q (i + 1) + (if q (i + 1) = q i then 0 else 1) from rfl]; exact Nat.le_add_right _ _
theorem chg_succ1 (q : Nat → Int) (i : Nat) : chg q (i + 1) ≤ chg q i + 1 := by
  cases i with
  | zero => exact Nat.zero_le _
  | succ i => rw [show chg q (i + 1 + 1) = chg q (i + 1) + (if q (i + 1) = q i then 0 else 1) from rfl]; split <;> omega
theorem chg_mono (q : Nat → Int) {i j : Nat} (h : i ≤ j) : chg q i ≤ chg q j := by
  induction j with
  | zero => have : i = 0 := by omega
            subst this; exact Nat.le_refl _
  | succ j ih =>
    by_cases e : i = j + 1
    · subst e; exact Nat.le_refl _
    · exact Nat.le_trans (ih (by omega)) (chg_succ q j)
theorem chg_congr {q r : Nat → Int} : ∀ {n : Nat}, (∀ k, k < n → q k = r k) → chg q n = chg r n
  | 0, _ => rfl
  | 1, _ => rfl
  | n + 2, h => by
    unfold chg
    rw [chg_congr (n := n + 1) fun k hk => h k (by omega), h (n + 1) (by omega), h n (by omega)]
theorem chg_const {q : Nat → Int} {a : Nat} : ∀ (d : Nat), chg q (a + d + 1) ≤ chg q (a + 1) → ∀ k, a ≤ k → k ≤ a + d → q k = q a
  | 0, _, k, h1, h2 => by have : k = a := by omega
                          rw [this]
  | d + 1, h, k, h1, h2 => by
    have hs : chg q (a + (d + 1) + 1) = chg q (a + d + 1) + if q (a + d + 1) = q (a + d) then 0 else 1 := rfl
    have hm := chg_mono q (show a + 1 ≤ a + d + 1 by omega)
    have he : q (a + d + 1) = q (a + d) := by
      by_cases e : q (a + d + 1) = q (a + d)
      · exact e
      · rw [hs, if_neg e] at h; omega
    have ih := chg_const (q := q) (a := a) d (by rw [hs] at h; omega)
    by_cases hk : k = a + (d + 1)
    · rw [hk, show a + (d + 1) = a + d + 1 by omega, he]
      exact ih (a + d) (by omega) (by omega)
    · exact ih k h1 (by omega)

def qo (l : List Int) (k : Nat) : Int := l.getD k 0
theorem qo_left (l r : List Int) {k : Nat} (h : k < l.length) : qo (l ++ r) k = qo l k := by
  unfold qo
  rw [List.getD_eq_getElem?_getD, List.getD_eq_getElem?_getD, List.getElem?_append_left h]
theorem qo_rep (l : List Int) (n : Nat) (b : Int) {k : Nat} (h1 : l.length ≤ k) (h2 : k < l.length + n) : qo (l ++ List.replicate n b) k = b := by
  unfold qo
  rw [List.getD_eq_getElem?_getD, List.getElem?_append_right h1, List.getElem?_replicate, if_pos (by omega)]
  rfl
theorem chg_app (l : List Int) (b : Int) (N : Nat) : ∀ n, n ≤ N → chg (qo (l ++ List.replicate N b)) (l.length + n) ≤ chg (qo l) l.length + (if l.length = 0 then 0 else 1)
  | 0, _ => by
    rw [Nat.add_zero, chg_congr (r := qo l) fun k hk => qo_left l _ hk]
    omega
  | 1, h => by
    split
    · rename_i e; rw [e]; exact Nat.zero_le _
    · have := chg_succ1 (qo (l ++ List.replicate N b)) l.length
      rw [chg_congr (n := l.length) (r := qo l) fun k hk => qo_left l _ hk] at this
      exact this
  | n + 2, h => by
    have ih := chg_app l b N (n + 1) (by omega)
    have hs : chg (qo (l ++ List.replicate N b)) (l.length + (n + 2)) = chg (qo (l ++ List.replicate N b)) (l.length + (n + 1)) + if qo (l ++ List.replicate N b) (l.length + n + 1) = qo (l ++ List.replicate N b) (l.length + n) then 0 else 1 := rfl
    rw [hs, if_pos, Nat.add_zero]
    · exact ih
    · rw [qo_rep l N b (by omega) (by omega), qo_rep l N b (by omega) (by omega)]

theorem F20_eq (l : List Int) (h : l.length ≤ 1099511627776) : F20 (l, ()) = some ((chg (qo l) l.length : Int), ()) := by
  have hl : l20_3 ((l, (0 : Int), (1 : Int), ()), ()) = some (((chg (qo l) l.length : Int), ()), ()) := by
    by_cases h0 : l.length = 0
    · have : l = [] := List.eq_nil_of_length_eq_zero h0
      subst this
      rfl
    · have hb : ∀ n, chg (qo l) n ≤ n := by
        intro n
        induction n with
        | zero => exact Nat.le_refl _
        | succ n ih => have := chg_succ1 (qo l) n; omega
      have := iter_all (q := q20_3) (fun k => ((l, (chg (qo l) (k + 1) : Int), ((k + 1 : Nat) : Int), ()), ())) (l.length - 1) (((chg (qo l) l.length : Int), ()), ()) ?_ ?_ (b20_3 ((l, (0 : Int), (1 : Int), ()), ())) (by simp only [b20_3]; omega)
      · exact this
      · intro k f hk
        have hbk := hb (k + 1)
        have e0 : IntKind.i64.wrap (((k + 1 : Nat) : Int) - 1) = ((k : Nat) : Int) := by rw [w64 (by omega) (by omega)]; omega
        have e1 : decide (((k + 1 : Nat) : Int) < (l.length : Int)) = true := by simp; omega
        have e2 : decide (0 ≤ ((k + 1 : Nat) : Int)) = true := by simp; omega
        have e3 : decide (0 ≤ (k : Int)) = true := by simp
        have e4 : decide ((k : Int) < (l.length : Int)) = true := by simp; omega
        have g1 : List.getD l (k + 1) (zero (Ty.int IntKind.i64)) = qo l (k + 1) := rfl
        have g2 : List.getD l k (zero (Ty.int IntKind.i64)) = qo l k := rfl
        have e5 : IntKind.i64.wrap ((chg (qo l) (k + 1) : Int) + 1) = ((chg (qo l) (k + 1) + 1 : Nat) : Int) := w64n _ (by omega)
        have hs : chg (qo l) (k + 1 + 1) = chg (qo l) (k + 1) + if qo l (k + 1) = qo l k then 0 else 1 := rfl
        unfold q20_3
        simp only [e0, e1, e2, e3, e4, Bool.and_self, cond_true, Int.toNat_natCast, g1, g2, e5, w64n (k + 1) (by omega), hs]
        by_cases hq : qo l (k + 1) = qo l k
        · have : (qo l (k + 1) != qo l k) = false := by simp [hq]
          simp only [this, cond_false, if_pos hq, Nat.add_zero]
        · have : (qo l (k + 1) != qo l k) = true := by simpa using hq
          simp only [this, cond_true, if_neg hq]
      · intro f
        have he : l.length - 1 + 1 = l.length := by omega
        have e1 : decide ((l.length : Int) < (l.length : Int)) = false := by simp
        unfold q20_3
        simp only [he, e1, cond_false]
  unfold F20 r20
  simp only [kL20_3, xL20_3, hl, Option.isSome_some, Option.getD_some, cond_true]

/-! ## How far a sail goes -/

theorem rea_fit {l : List (Den S23)} {ms : List (Den S25)} {i j k : Nat} (h : k < reaN l ms i j) : fitsWideB (at' l j) (mo ms (i + k)) = true := by
  unfold reaN at h
  cases hf : findFrom (fun k => !fitsWideB (at' l j) (mo ms (i + k))) 0 (ms.length - i) with
  | none =>
    rw [hf] at h
    have := findFrom_none.1 hf k (Nat.zero_le _) (by simpa using h)
    simpa using this
  | some n =>
    rw [hf] at h
    obtain ⟨_, _, _, h4⟩ := findFrom_some hf
    have := h4 k (Nat.zero_le _) (by simpa using h)
    simpa using this
theorem rea_ge {l : List (Den S23)} {ms : List (Den S25)} {i j m : Nat} (h : ∀ k, k < m → fitsWideB (at' l j) (mo ms (i + k)) = true) (hm : m ≤ ms.length - i) : m ≤ reaN l ms i j := by
  unfold reaN
  cases hf : findFrom (fun k => !fitsWideB (at' l j) (mo ms (i + k))) 0 (ms.length - i) with
  | none => exact hm
  | some n =>
    obtain ⟨_, _, h3, _⟩ := findFrom_some hf
    show m ≤ n
    rcases Nat.lt_or_ge n m with h5 | h5
    · have := h n h5
      rw [this] at h3
      cases h3
    · exact h5

theorem bst_max (l : List (Den S23)) (ms : List (Den S25)) (i : Nat) : ∀ n j, j < n → reaN l ms i j ≤ (bst l ms i n).2
  | n + 1, j, h => by
    unfold bst
    by_cases hd : ((bst l ms i n).2 : Int) < (reaN l ms i n : Int)
    · simp only [hd, decide_true, cond_true]
      by_cases e : j = n
      · rw [e]; exact Nat.le_refl _
      · have := bst_max l ms i n j (by omega); omega
    · simp only [hd, decide_false, cond_false]
      by_cases e : j = n
      · rw [e]; omega
      · exact bst_max l ms i n j (by omega)
theorem bst_val (l : List (Den S23)) (ms : List (Den S25)) (i : Nat) : ∀ n, 0 ≤ (bst l ms i n).1 → (bst l ms i n).2 = reaN l ms i (bst l ms i n).1.toNat
  | 0, h => absurd h (by show ¬ (0 ≤ (-1 : Int)); decide)
  | n + 1, h => by
    unfold bst at h ⊢
    by_cases hd : ((bst l ms i n).2 : Int) < (reaN l ms i n : Int)
    · simp only [hd, decide_true, cond_true, Int.toNat_natCast]
    · simp only [hd, decide_false, cond_false] at h ⊢
      exact bst_val l ms i n h

/-- The indices are right so far. -/
def Valid (l : List (Den S23)) (ms : List (Den S25)) (o : List Int) : Prop := ∀ k, k < o.length → planE l ms o k = true
theorem planE_iff {l : List (Den S23)} {ms : List (Den S25)} {o : List Int} {k : Nat} : planE l ms o k = true ↔ (0 ≤ qo o k ∧ qo o k < (l.length : Int)) ∧ fitsWideB (at' l (qo o k).toNat) (mo ms k) = true := by
  unfold planE qo
  simp only [Bool.and_eq_true, decide_eq_true_eq]
  constructor
  · rintro ⟨⟨h1, h2⟩, h3⟩; exact ⟨⟨h1, by omega⟩, h3⟩
  · rintro ⟨⟨h1, h2⟩, h3⟩; exact ⟨⟨h1, by omega⟩, h3⟩

theorem greed_ok (l : List (Den S23)) (ms : List (Den S25)) : ∀ (f : Nat) (out : List Int), out.length ≤ ms.length → ms.length - out.length < f → Valid l ms out →
    match greed l ms f out with
    | none => ∃ i, i < ms.length ∧ (bst l ms i l.length).1 < 0
    | some o => o.length = ms.length ∧ Valid l ms o
  | 0, _, _, h, _ => by omega
  | f + 1, out, h1, h2, hv => by
    unfold greed
    by_cases c : out.length < ms.length
    · simp only [c, decide_true, cond_true]
      by_cases c2 : (bst l ms out.length l.length).1 < 0
      · simp only [c2, decide_true, cond_true]
        exact ⟨out.length, c, c2⟩
      · simp only [c2, decide_false, cond_false]
        have hb := bst_ok l ms out.length l.length
        have hval := bst_val l ms out.length l.length (by omega)
        have hr : 0 ≤ (bst l ms out.length l.length).1 ∧ (bst l ms out.length l.length).1 < (l.length : Int) ∧ 1 ≤ (bst l ms out.length l.length).2 ∧ (bst l ms out.length l.length).2 ≤ ms.length - out.length := by omega
        generalize (bst l ms out.length l.length).1 = b at *
        generalize (bst l ms out.length l.length).2 = n at *
        have hlen : (out ++ List.replicate n b).length = out.length + n := by simp
        refine greed_ok l ms f _ (by omega) (by omega) fun k hk => ?_
        rw [hlen] at hk
        by_cases hk2 : k < out.length
        · have := planE_iff.1 (hv k hk2)
          refine planE_iff.2 ?_
          rw [qo_left out _ hk2]
          exact this
        · refine planE_iff.2 ?_
          rw [qo_rep out n b (by omega) (by omega)]
          refine ⟨⟨hr.1, hr.2.1⟩, ?_⟩
          have := rea_fit (l := l) (ms := ms) (i := out.length) (j := b.toNat) (k := k - out.length) (by omega)
          rw [show out.length + (k - out.length) = k by omega] at this
          exact this
    · simp only [c, decide_false, cond_false]
      exact ⟨by omega, hv⟩

/-- What is known of what has been gone so far, against a plan. -/
def Less (l : List (Den S23)) (ms : List (Den S25)) (p out : List Int) : Prop :=
  out.length = 0 ∨ ∃ a, a < out.length ∧ chg (qo out) out.length ≤ chg (qo p) (a + 1) ∧ ∀ j, j < l.length → reaN l ms a j ≤ out.length - a

theorem greed_best (l : List (Den S23)) (ms : List (Den S25)) (p : List Int) (hp : p.length = ms.length) (hv : Valid l ms p) : ∀ (f : Nat) (out o : List Int), out.length ≤ ms.length → Less l ms p out → greed l ms f out = some o → Less l ms p o
  | 0, _, _, _, _, h => by cases h
  | f + 1, out, o, h1, hg, h => by
    unfold greed at h
    by_cases c : out.length < ms.length
    · simp only [c, decide_true, cond_true] at h
      by_cases c2 : (bst l ms out.length l.length).1 < 0
      · simp only [c2, decide_true, cond_true] at h; cases h
      · simp only [c2, decide_false, cond_false] at h
        have hb := bst_ok l ms out.length l.length
        have hmax := bst_max l ms out.length l.length
        have hr : 1 ≤ (bst l ms out.length l.length).2 ∧ (bst l ms out.length l.length).2 ≤ ms.length - out.length := by omega
        generalize (bst l ms out.length l.length).1 = b at *
        generalize (bst l ms out.length l.length).2 = n at *
        have hlen : (out ++ List.replicate n b).length = out.length + n := by simp
        refine greed_best l ms p hp hv f _ o (by omega) (.inr ⟨out.length, by omega, ?_, fun j hj => by rw [hlen]; have := hmax j hj; omega⟩) h
        have ha := chg_app out b n n (Nat.le_refl _)
        rw [hlen]
        refine Nat.le_trans ha ?_
        rcases hg with h0 | ⟨a, k1, k2, k3⟩
        · rw [if_pos h0, h0]; exact Nat.le_refl _
        · rw [if_neg (by omega)]
          have hm := chg_mono (qo p) (show a + 1 ≤ out.length + 1 by omega)
          by_cases e : chg (qo p) (out.length + 1) ≤ chg (qo p) (a + 1)
          · exfalso
            have hd : a + (out.length - a) = out.length := by omega
            have hc := chg_const (q := qo p) (a := a) (out.length - a) (by rw [hd]; exact e)
            have hpa := planE_iff.1 (hv a (by omega))
            have := rea_ge (l := l) (ms := ms) (i := a) (j := (qo p a).toNat) (m := out.length - a + 1) (fun k hk => by
              have h5 := planE_iff.1 (hv (a + k) (by omega))
              rw [hc (a + k) (by omega) (by omega)] at h5
              exact h5.2) (by omega)
            have := k3 (qo p a).toNat (by omega)
            omega
          · omega
    · simp only [c, decide_false, cond_false] at h
      cases h
      exact hg

theorem greed_no (l : List (Den S23)) (ms : List (Den S25)) (p : List Int) (hp : p.length = ms.length) (hv : Valid l ms p) {i : Nat} (hi : i < ms.length) (hb : (bst l ms i l.length).1 < 0) : False := by
  have hpi := planE_iff.1 (hv i (by omega))
  have h1 := rea_ge (l := l) (ms := ms) (i := i) (j := (qo p i).toNat) (m := 1) (fun k hk => by
    have : k = 0 := by omega
    subst this
    exact hpi.2) (by omega)
  have h2 := bst_max l ms i l.length (qo p i).toNat (by omega)
  have h3 := bst_ok l ms i l.length
  omega

theorem planB_iff {l : List (Den S23)} {ms : List (Den S25)} {p : List Int} : planB l ms p = true ↔ sailsB l = true ∧ ms.length ≤ 60 ∧ p.length = ms.length ∧ Valid l ms p := by
  unfold planB Valid
  simp only [Bool.and_eq_true, decide_eq_true_eq, beq_iff_eq]
  constructor
  · rintro ⟨h1, h2, h3, h4⟩
    exact ⟨h1, by omega, by omega, fun k hk => allFrom_iff.1 h4 k (Nat.zero_le _) (by omega)⟩
  · rintro ⟨h1, h2, h3, h4⟩
    exact ⟨h1, by omega, by omega, allFrom_iff.2 fun k _ hk => h4 k (by omega)⟩

theorem fewest_no {l : List (Den S23)} {ms : List (Den S25)} (h : (fewest l ms).2 = false) : (fewest l ms).1 = [] ∧ ∀ p, planB l ms p = false := by
  unfold fewest at h ⊢
  by_cases c : (sailsB l && decide ((ms.length : Int) ≤ 60)) = true
  · rw [c] at h ⊢
    simp only [cond_true] at h ⊢
    simp only [Bool.and_eq_true, decide_eq_true_eq] at c
    have hk := greed_ok l ms 61 [] (Nat.zero_le _) (by show ms.length - 0 < 61; omega) (fun k hk => absurd hk (Nat.not_lt_zero _))
    cases hg : greed l ms 61 [] with
    | some o => rw [hg] at h; cases h
    | none =>
      rw [hg] at hk
      obtain ⟨i, hi, hb⟩ := hk
      refine ⟨rfl, fun p => ?_⟩
      cases hp : planB l ms p with
      | false => rfl
      | true =>
        obtain ⟨_, _, h3, h4⟩ := planB_iff.1 hp
        exact (greed_no l ms p h3 h4 hi hb).elim
  · have c' : (sailsB l && decide ((ms.length : Int) ≤ 60)) = false := by simpa using c
    rw [c']
    refine ⟨rfl, fun p => ?_⟩
    cases hp : planB l ms p with
    | false => rfl
    | true =>
      obtain ⟨h1, h2, _⟩ := planB_iff.1 hp
      rw [h1] at c'
      simp at c'
      omega

theorem fewest_yes {l : List (Den S23)} {ms : List (Den S25)} (h : (fewest l ms).2 = true) : planB l ms (fewest l ms).1 = true ∧ ∀ p, planB l ms p = true → chg (qo (fewest l ms).1) (fewest l ms).1.length ≤ chg (qo p) p.length := by
  unfold fewest at h ⊢
  by_cases c : (sailsB l && decide ((ms.length : Int) ≤ 60)) = true
  · rw [c] at h ⊢
    simp only [cond_true] at h ⊢
    simp only [Bool.and_eq_true, decide_eq_true_eq] at c
    have hk := greed_ok l ms 61 [] (Nat.zero_le _) (by show ms.length - 0 < 61; omega) (fun k hk => absurd hk (Nat.not_lt_zero _))
    cases hg : greed l ms 61 [] with
    | none => rw [hg] at h; cases h
    | some o =>
      rw [hg] at hk
      refine ⟨planB_iff.2 ⟨c.1, by omega, hk.1, hk.2⟩, fun p hp => ?_⟩
      obtain ⟨_, _, h3, h4⟩ := planB_iff.1 hp
      rcases greed_best l ms p h3 h4 61 [] o (Nat.zero_le _) (.inl rfl) hg with h0 | ⟨a, k1, k2, _⟩
      · show chg (qo o) o.length ≤ _
        rw [h0]; exact Nat.zero_le _
      · refine Nat.le_trans k2 (chg_mono _ ?_)
        have := hk.1
        omega
  · have c' : (sailsB l && decide ((ms.length : Int) ≤ 60)) = false := by simpa using c
    rw [c'] at h
    cases h

end Go.Proofs.Ytbgkhcoeifbgkaa.AM
