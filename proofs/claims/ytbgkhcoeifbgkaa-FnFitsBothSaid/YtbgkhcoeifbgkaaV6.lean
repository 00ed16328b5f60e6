/- Plainly: the law FnExactFewestChanges: both texts answer alike, by going as far as can be gone with one sail. Conditions: what every value that is handed over meets. -/
import Derived.Test.YtbgkhcoeifbgkaaV5
namespace Go.Proofs.Ytbgkhcoeifbgkaa.AM
open Go Go.Proofs
set_option linter.unusedVariables false

/-- How many moments in a row a sail fits, from a moment on. -/
def reaN (l : List (Den S23)) (ms : List (Den S25)) (i j : Nat) : Nat := (findFrom (fun k => !fitsWideB (at' l j) (mo ms (i + k))) 0 (ms.length - i)).getD (ms.length - i)
/-- The first of some sails that goes farthest, and how far. -/
def bst (l : List (Den S23)) (ms : List (Den S25)) (i : Nat) : Nat → Int × Nat
  | 0 => (-1, 0)
  | j + 1 => bif decide (((bst l ms i j).2 : Int) < (reaN l ms i j : Int)) then ((j : Int), reaN l ms i j) else bst l ms i j
/-- Going as far as can be gone, over and over. -/
def greed (l : List (Den S23)) (ms : List (Den S25)) : Nat → List Int → Option (List Int)
  | 0, _ => none
  | f + 1, out => bif decide (out.length < ms.length) then
      (bif decide ((bst l ms out.length l.length).1 < 0) then none else greed l ms f (out ++ List.replicate (bst l ms out.length l.length).2 (bst l ms out.length l.length).1))
    else some out

theorem reaN_le (l : List (Den S23)) (ms : List (Den S25)) (i j : Nat) : reaN l ms i j ≤ ms.length - i := by
  unfold reaN
  cases h : findFrom (fun k => !fitsWideB (at' l j) (mo ms (i + k))) 0 (ms.length - i) with
  | none => exact Nat.le_refl _
  | some k => have := (findFrom_some h).2.1; simp only [Option.getD_some]; omega

theorem bst_ok (l : List (Den S23)) (ms : List (Den S25)) (i : Nat) : ∀ k, ((bst l ms i k).1 = -1 ∧ (bst l ms i k).2 = 0) ∨ (0 ≤ (bst l ms i k).1 ∧ (bst l ms i k).1 < (k : Int) ∧ 1 ≤ (bst l ms i k).2 ∧ (bst l ms i k).2 ≤ ms.length - i)
  | 0 => .inl ⟨rfl, rfl⟩
  | k + 1 => by
    have hr := reaN_le l ms i k
    have ih := bst_ok l ms i k
    unfold bst
    by_cases h : ((bst l ms i k).2 : Int) < (reaN l ms i k : Int)
    · simp only [h, decide_true, cond_true]
      exact .inr ⟨by omega, by omega, by omega, hr⟩
    · simp only [h, decide_false, cond_false]
      rcases ih with ih | ih
      · exact .inl ih
      · exact .inr ⟨ih.1, by omega, ih.2.2⟩

theorem greed_len (l : List (Den S23)) (ms : List (Den S25)) : ∀ f out o, out.length ≤ ms.length → greed l ms f out = some o → o.length ≤ ms.length
  | 0, _, _, _, h => by cases h
  | f + 1, out, o, hl, h => by
    unfold greed at h
    by_cases c : out.length < ms.length
    · simp only [c, decide_true, cond_true] at h
      by_cases c2 : (bst l ms out.length l.length).1 < 0
      · simp only [c2, decide_true, cond_true] at h; cases h
      · simp only [c2, decide_false, cond_false] at h
        refine greed_len l ms f _ o ?_ h
        rcases bst_ok l ms out.length l.length with b | b
        · omega
        · simp only [List.length_append, List.length_replicate]; omega
    · simp only [c, decide_false, cond_false] at h
      cases h
      exact hl

def fewest (l : List (Den S23)) (ms : List (Den S25)) : List Int × Bool := bif sailsB l && decide ((ms.length : Int) ≤ 60) then (match greed l ms 61 [] with | some o => (o, true) | none => ([], false)) else ([], false)
theorem fewest_len (l : List (Den S23)) (ms : List (Den S25)) : (fewest l ms).1.length ≤ 60 := by
  unfold fewest
  by_cases h : (ms.length : Int) ≤ 60
  · cases sailsB l
    · simp
    · simp only [h, decide_true, Bool.and_self, cond_true]
      cases hg : greed l ms 61 [] with
      | none => simp
      | some o => have := greed_len l ms 61 [] o (Nat.zero_le _) hg; simp only; omega
  · simp [h]

/-! ## The given text -/

theorem l44_11_eq (l : List (Den S23)) (ms : List (Den S25)) (h : GoodL l) (hm : GoodM ms) (b n : Int) (out : List Int) (j : Nat) (hj : j < l.length) (ho : out.length ≤ ms.length) :
    l44_11 ((l, ms, (), b, n, (j : Int), (0 : Int), ()), (out, ())) = some ((l, ms, (), b, n, (j : Int), (reaN l ms out.length j : Int), ()), (out, ())) := by
  have hml := hm.len
  have := iter_find (q := q44_11 K27 G27 K24 G24) (fun k => ((l, ms, (), b, n, (j : Int), (k : Int), ()), (out, ()))) (ms.length - out.length) (fun k => !fitsWideB (at' l j) (mo ms (out.length + k)))
    ((l, ms, (), b, n, (j : Int), ((ms.length - out.length : Nat) : Int), ()), (out, ())) (fun k => ((l, ms, (), b, n, (j : Int), (k : Int), ()), (out, ()))) ?_ ?_
    (b44_11 ((l, ms, (), b, n, (j : Int), (0 : Int), ()), (out, ()))) (by simp only [b44_11]; omega)
  · refine Eq.trans this ?_
    unfold reaN
    cases findFrom (fun k => !fitsWideB (at' l j) (mo ms (out.length + k))) 0 (ms.length - out.length) <;> rfl
  · intro k f hk
    have e0 : IntKind.i64.wrap ((out.length : Int) + (k : Int)) = ((out.length + k : Nat) : Int) := by rw [w64 (by omega) (by omega)]; simp
    have e1 : decide (((out.length + k : Nat) : Int) < (ms.length : Int)) = true := by simp; omega
    have e2 : decide (0 ≤ (j : Int)) = true := by simp
    have e3 : decide ((j : Int) < (l.length : Int)) = true := by simpa using hj
    have e4 : decide (0 ≤ ((out.length + k : Nat) : Int)) = true := by simp; omega
    have ha : ∀ k, List.getD l k (zero S23) = at' l k := fun _ => rfl
    have hb : ∀ k, List.getD ms k (zero S25) = mo ms k := fun _ => rfl
    unfold q44_11
    simp only [e0, e1, e2, e3, e4, Bool.and_self, cond_true, Int.toNat_natCast, ha, hb, K24, G24, f24 l ms h hm, Option.isSome_some, Option.getD_some, w64n k (by omega)]
    cases fitsWideB (at' l j) (mo ms (out.length + k)) <;> rfl
  · intro f
    have e0 : IntKind.i64.wrap ((out.length : Int) + ((ms.length - out.length : Nat) : Int)) = (ms.length : Int) := by rw [w64 (by omega) (by omega)]; omega
    have e1 : decide ((ms.length : Int) < (ms.length : Int)) = false := by simp
    unfold q44_11
    simp only [e0, e1, cond_false]

theorem l44_8_eq (l : List (Den S23)) (ms : List (Den S25)) (h : GoodL l) (hm : GoodM ms) (out : List Int) (ho : out.length ≤ ms.length) :
    l44_8 ((l, ms, (), (-1 : Int), (0 : Int), (0 : Int), ()), (out, ())) = some ((l, ms, (), (bst l ms out.length l.length).1, ((bst l ms out.length l.length).2 : Int), ()), (out, ())) := by
  have hlen := h.len
  refine (iter_all (q := q44_8 K27 G27 K24 G24 kL44_11 xL44_11) (fun k => ((l, ms, (), (bst l ms out.length k).1, ((bst l ms out.length k).2 : Int), (k : Int), ()), (out, ()))) l.length _ ?_ ?_ _ ?_ : _)
  · intro k f hk
    have e1 : decide ((k : Int) < (l.length : Int)) = true := by simpa using hk
    have hr := l44_11_eq l ms h hm (bst l ms out.length k).1 ((bst l ms out.length k).2 : Int) out k hk ho
    unfold q44_8
    simp only [e1, cond_true, kL44_11, xL44_11, hr, Option.isSome_some, Option.getD_some, w64n k (by omega)]
    have e : bst l ms out.length (k + 1) = bif decide (((bst l ms out.length k).2 : Int) < (reaN l ms out.length k : Int)) then ((k : Int), reaN l ms out.length k) else bst l ms out.length k := rfl
    rw [e]
    cases decide (((bst l ms out.length k).2 : Int) < (reaN l ms out.length k : Int)) <;> rfl
  · intro f
    simp [q44_8]
  · simp only [b44_8]; omega

theorem l44_18_eq (l : List (Den S23)) (ms : List (Den S25)) (b : Int) (m : Nat) (out : List Int) (ho : out.length + m ≤ 60) :
    l44_18 ((l, ms, (), b, (m : Int), ()), (out, ())) = some ((l, ms, (), ()), (out ++ List.replicate m b, ())) := by
  have := iter_all (q := q44_18 K27 G27 K24 G24) (fun k => ((l, ms, (), b, ((m - k : Nat) : Int), ()), (out ++ List.replicate k b, ()))) m ((l, ms, (), ()), (out ++ List.replicate m b, ())) ?_ ?_
    (b44_18 ((l, ms, (), b, (m : Int), ()), (out, ()))) (by simp only [b44_18]; omega)
  · unfold l44_18
    simpa using this
  · intro k f hk
    have e1 : decide (((m - k : Nat) : Int) > 0) = true := by simp; omega
    have e2 : IntKind.i64.wrap (((m - k : Nat) : Int) - 1) = ((m - (k + 1) : Nat) : Int) := by rw [w64 (by omega) (by omega)]; omega
    have hcap : capOk ((out ++ List.replicate k b).length + [b].length) = true := capOk_of (by simp only [List.length_append, List.length_replicate, List.length_singleton]; omega)
    unfold q44_18
    simp only [e1, cond_true, set_one, hcap, e2, List.append_assoc, ← List.replicate_succ']
  · intro f
    have e1 : decide (((m - m : Nat) : Int) > 0) = false := by simp
    unfold q44_18
    simp only [e1, cond_false]

def gr44 : Option (List Int) → X44_4 ⊕ Y44_4
  | some o => .inl (((), ()), (o, ()))
  | none => .inr (((), (false, ())), ([], ()))

theorem l44_4_eq (l : List (Den S23)) (ms : List (Den S25)) (h : GoodL l) (hm : GoodM ms) (h60 : ms.length ≤ 60) (F : Nat) (hF : ms.length < F) :
    l44_4 ((l, ms, (), ()), ([], ())) = some (gr44 (greed l ms F [])) := by
  have := iter_ind (q := q44_4 K27 G27 K24 G24 kL44_8 xL44_8 kL44_11 xL44_11 kL44_18 xL44_18) (fun v => v.1.1 = l ∧ v.1.2.1 = ms ∧ v.2.1.length ≤ ms.length) (fun v r => ∀ F, ms.length - v.2.1.length < F → r = some (gr44 (greed l ms F v.2.1)))
    (fun v => ms.length - v.2.1.length) ?_ (b44_4 ((l, ms, (), ()), ([], ()))) ((l, ms, (), ()), ([], ())) ⟨rfl, rfl, Nat.zero_le _⟩ (by simp only [b44_4]; omega)
  · exact this F (by simp only [List.length_nil]; omega)
  clear hF F
  rintro ⟨⟨l', ms', _, _⟩, out, _⟩ f ⟨g0, g1, g2⟩ ih F hF
  simp only at g0 g1 g2 ih hF
  subst g0 g1
  obtain ⟨F, rfl⟩ : ∃ G, F = G + 1 := ⟨F - 1, by omega⟩
  unfold q44_4 greed
  have hd : decide ((out.length : Int) < (ms'.length : Int)) = decide (out.length < ms'.length) := by simp
  simp only [hd]
  by_cases c : out.length < ms'.length
  · have hb := bst_ok l' ms' out.length l'.length
    simp only [c, decide_true, cond_true, kL44_8, xL44_8, l44_8_eq l' ms' h hm out g2, Option.isSome_some, Option.getD_some]
    by_cases c2 : (bst l' ms' out.length l'.length).1 < 0
    · simp only [c2, decide_true, cond_true]
      rfl
    · have hm2 : (bst l' ms' out.length l'.length).2 ≤ ms'.length - out.length ∧ 1 ≤ (bst l' ms' out.length l'.length).2 := by omega
      have hq := l44_18_eq l' ms' (bst l' ms' out.length l'.length).1 (bst l' ms' out.length l'.length).2 out (by omega)
      simp only [c2, decide_false, cond_false, kL44_18, xL44_18, hq, Option.isSome_some, Option.getD_some, cond_true]
      have hlen2 : (out ++ List.replicate (bst l' ms' out.length l'.length).2 (bst l' ms' out.length l'.length).1).length = out.length + (bst l' ms' out.length l'.length).2 := by simp
      exact ih ((l', ms', (), ()), (_, ())) ⟨rfl, rfl, by simp only [hlen2]; omega⟩ (by simp only [hlen2]; omega) F (by simp only [hlen2]; omega)
  · simp only [c, decide_false, cond_false]
    rfl

theorem F44_eq (l : List (Den S23)) (ms : List (Den S25)) (h : GoodL l) (hm : GoodM ms) : F44 ((l, ms, ()), ()) = some (((), ((fewest l ms).2, ())), ((fewest l ms).1, ())) := by
  have hz : List.replicate 0 (zero (Ty.int IntKind.i64)) = ([] : List Int) := rfl
  unfold F44 r44 fewest
  simp only [K27, G27, F27_eq l h, Option.isSome_some, Option.getD_some, cond_true, dgt (ms.length : Int), hz]
  cases sailsB l
  · rfl
  by_cases h6 : (ms.length : Int) ≤ 60
  · simp only [h6, decide_true, kL44_4, tL44_4, xL44_4, yL44_4, l44_4_eq l ms h hm (by omega) 61 (by omega)]
    cases greed l ms 61 [] <;> rfl
  · simp only [h6, decide_false]
    rfl

/-! ## The program's own text -/

theorem drop_mo (ms : List (Den S25)) (i k : Nat) : (ms.drop i).getD k (zero S25) = mo ms (i + k) := by
  unfold mo
  rw [List.getD_eq_getElem?_getD, List.getD_eq_getElem?_getD, List.getElem?_drop]

theorem l45_11_eq (l : List (Den S23)) (ms : List (Den S25)) (h : GoodL l) (hm : GoodM ms) (b n : Int) (out : List Int) (j : Nat) (hj : j < l.length) (ho : out.length ≤ ms.length) :
    l45_11 ((l, ms, (), b, n, (j : Int), (), (0 : Int), l, (l.length : Int), (j : Int), ms.drop out.length, ((ms.drop out.length).length : Int), (0 : Int), ()), (out, at' l j, ())) =
      some ((l, ms, (), b, n, (j : Int), (reaN l ms out.length j : Int), l, (l.length : Int), (j : Int), ()), (out, ())) := by
  have hml := hm.len
  have hdl : (ms.drop out.length).length = ms.length - out.length := by simp
  have := iter_find (q := q45_11 K29 G29 K25 G25) (fun k => ((l, ms, (), b, n, (j : Int), (), (k : Int), l, (l.length : Int), (j : Int), ms.drop out.length, ((ms.drop out.length).length : Int), (k : Int), ()), (out, at' l j, ()))) (ms.length - out.length) (fun k => !fitsWideB (at' l j) (mo ms (out.length + k)))
    ((l, ms, (), b, n, (j : Int), ((ms.length - out.length : Nat) : Int), l, (l.length : Int), (j : Int), ()), (out, ())) (fun k => ((l, ms, (), b, n, (j : Int), (k : Int), l, (l.length : Int), (j : Int), ()), (out, ()))) ?_ ?_
    (b45_11 ((l, ms, (), b, n, (j : Int), (), (0 : Int), l, (l.length : Int), (j : Int), ms.drop out.length, ((ms.drop out.length).length : Int), (0 : Int), ()), (out, at' l j, ()))) (by simp only [b45_11]; omega)
  · refine Eq.trans this ?_
    unfold reaN
    cases findFrom (fun k => !fitsWideB (at' l j) (mo ms (out.length + k))) 0 (ms.length - out.length) <;> rfl
  · intro k f hk
    have e1 : decide ((k : Int) < ((ms.length - out.length : Nat) : Int)) = true := by simp; omega
    have e2 : decide (0 ≤ (k : Int)) = true := by simp
    have h25 := f25 l ms h hm j (out.length + k)
    have hb : List.getD (ms.drop out.length) k (zero S25) = mo ms (out.length + k) := drop_mo ms out.length k
    unfold q45_11
    simp only [hdl, e1, e2, Bool.and_self, cond_true, Int.toNat_natCast, hb, K25, G25, h25, Option.isSome_some, Option.getD_some, w64n k (by omega)]
  · intro f
    have e1 : decide (((ms.length - out.length : Nat) : Int) < ((ms.length - out.length : Nat) : Int)) = false := by simp
    unfold q45_11
    simp only [hdl, e1, cond_false]

theorem l45_7_eq (l : List (Den S23)) (ms : List (Den S25)) (h : GoodL l) (hm : GoodM ms) (out : List Int) (ho : out.length ≤ ms.length) :
    l45_7 ((l, ms, (), (-1 : Int), (0 : Int), l, (l.length : Int), (0 : Int), ()), (out, ())) = some ((l, ms, (), (bst l ms out.length l.length).1, ((bst l ms out.length l.length).2 : Int), ()), (out, ())) := by
  have hlen := h.len
  refine (iter_all (q := q45_7 K29 G29 K25 G25 kL45_11 xL45_11) (fun k => ((l, ms, (), (bst l ms out.length k).1, ((bst l ms out.length k).2 : Int), l, (l.length : Int), (k : Int), ()), (out, ()))) l.length _ ?_ ?_ _ ?_ : _)
  · intro k f hk
    have e1 : decide ((k : Int) < (l.length : Int)) = true := by simpa using hk
    have e2 : decide (0 ≤ (k : Int)) = true := by simp
    have e3 : decide (0 ≤ (out.length : Int)) = true := by simp
    have e4 : decide ((out.length : Int) ≤ (ms.length : Int)) = true := by simpa using ho
    have e5 : decide ((ms.length : Int) ≤ (ms.length : Int)) = true := by simp
    have ha : ∀ k, List.getD l k (zero S23) = at' l k := fun _ => rfl
    have hr : l45_11 ((l, ms, (), (bst l ms out.length k).1, ((bst l ms out.length k).2 : Int), (k : Int), (), (0 : Int), l, (l.length : Int), (k : Int), ms.drop out.length, ((ms.drop out.length).length : Int), (0 : Int), ()), (out, ((at' l k).1, (at' l k).2.1, (at' l k).2.2.1, (at' l k).2.2.2.1, (at' l k).2.2.2.2.1, ()), ())) = _ := l45_11_eq l ms h hm (bst l ms out.length k).1 ((bst l ms out.length k).2 : Int) out k hk ho
    unfold q45_7
    simp only [e1, e2, e3, e4, e5, Bool.and_self, cond_true, Int.toNat_natCast, List.take_length, ha, kL45_11, xL45_11, hr, Option.isSome_some, Option.getD_some, w64n k (by omega)]
    have e : bst l ms out.length (k + 1) = bif decide (((bst l ms out.length k).2 : Int) < (reaN l ms out.length k : Int)) then ((k : Int), reaN l ms out.length k) else bst l ms out.length k := rfl
    rw [e]
    cases decide (((bst l ms out.length k).2 : Int) < (reaN l ms out.length k : Int)) <;> rfl
  · intro f
    simp [q45_7]
  · simp only [b45_7]; omega

theorem l45_21_eq (l : List (Den S23)) (ms : List (Den S25)) (b : Int) (m : Nat) (out : List Int) (ho : out.length + m ≤ 60) :
    l45_21 ((l, ms, (), b, (m : Int), ()), (out, ())) = some ((l, ms, (), ()), (out ++ List.replicate m b, ())) := by
  have := iter_all (q := q45_21 K29 G29 K25 G25) (fun k => ((l, ms, (), b, ((m - k : Nat) : Int), ()), (out ++ List.replicate k b, ()))) m ((l, ms, (), ()), (out ++ List.replicate m b, ())) ?_ ?_
    (b45_21 ((l, ms, (), b, (m : Int), ()), (out, ()))) (by simp only [b45_21]; omega)
  · unfold l45_21
    simpa using this
  · intro k f hk
    have e1 : decide (((m - k : Nat) : Int) > 0) = true := by simp; omega
    have e2 : IntKind.i64.wrap (((m - k : Nat) : Int) - 1) = ((m - (k + 1) : Nat) : Int) := by rw [w64 (by omega) (by omega)]; omega
    have hcap : capOk ((out ++ List.replicate k b).length + [b].length) = true := capOk_of (by simp only [List.length_append, List.length_replicate, List.length_singleton]; omega)
    unfold q45_21
    simp only [e1, cond_true, set_one, hcap, e2, List.append_assoc, ← List.replicate_succ']
  · intro f
    have e1 : decide (((m - m : Nat) : Int) > 0) = false := by simp
    unfold q45_21
    simp only [e1, cond_false]

theorem l45_4_eq (l : List (Den S23)) (ms : List (Den S25)) (h : GoodL l) (hm : GoodM ms) (h60 : ms.length ≤ 60) (F : Nat) (hF : ms.length < F) :
    l45_4 ((l, ms, (), ()), ([], ())) = some (gr44 (greed l ms F [])) := by
  have := iter_ind (q := q45_4 K29 G29 K25 G25 kL45_7 xL45_7 kL45_11 xL45_11 kL45_21 xL45_21) (fun v => v.1.1 = l ∧ v.1.2.1 = ms ∧ v.2.1.length ≤ ms.length) (fun v r => ∀ F, ms.length - v.2.1.length < F → r = some (gr44 (greed l ms F v.2.1)))
    (fun v => ms.length - v.2.1.length) ?_ (b45_4 ((l, ms, (), ()), ([], ()))) ((l, ms, (), ()), ([], ())) ⟨rfl, rfl, Nat.zero_le _⟩ (by simp only [b45_4]; omega)
  · exact this F (by simp only [List.length_nil]; omega)
  clear hF F
  rintro ⟨⟨l', ms', _, _⟩, out, _⟩ f ⟨g0, g1, g2⟩ ih F hF
  simp only at g0 g1 g2 ih hF
  subst g0 g1
  obtain ⟨F, rfl⟩ : ∃ G, F = G + 1 := ⟨F - 1, by omega⟩
  unfold q45_4 greed
  have hd : decide ((out.length : Int) < (ms'.length : Int)) = decide (out.length < ms'.length) := by simp
  simp only [hd]
  by_cases c : out.length < ms'.length
  · have hb := bst_ok l' ms' out.length l'.length
    simp only [c, decide_true, cond_true, kL45_7, xL45_7, l45_7_eq l' ms' h hm out g2, Option.isSome_some, Option.getD_some]
    by_cases c2 : (bst l' ms' out.length l'.length).1 < 0
    · simp only [c2, decide_true, cond_true]
      rfl
    · have hm2 : (bst l' ms' out.length l'.length).2 ≤ ms'.length - out.length ∧ 1 ≤ (bst l' ms' out.length l'.length).2 := by omega
      have hq := l45_21_eq l' ms' (bst l' ms' out.length l'.length).1 (bst l' ms' out.length l'.length).2 out (by omega)
      simp only [c2, decide_false, cond_false, kL45_21, xL45_21, hq, Option.isSome_some, Option.getD_some, cond_true]
      have hlen2 : (out ++ List.replicate (bst l' ms' out.length l'.length).2 (bst l' ms' out.length l'.length).1).length = out.length + (bst l' ms' out.length l'.length).2 := by simp
      exact ih ((l', ms', (), ()), (_, ())) ⟨rfl, rfl, by simp only [hlen2]; omega⟩ (by simp only [hlen2]; omega) F (by simp only [hlen2]; omega)
  · simp only [c, decide_false, cond_false]
    rfl

theorem F45_eq (l : List (Den S23)) (ms : List (Den S25)) (h : GoodL l) (hm : GoodM ms) : F45 ((l, ms, ()), ()) = some (((), ((fewest l ms).2, ())), ((fewest l ms).1, ())) := by
  unfold F45 r45 fewest
  simp only [K29, G29, F29_eq l h, Option.isSome_some, Option.getD_some, cond_true, dgt (ms.length : Int)]
  cases sailsB l
  · rfl
  by_cases h6 : (ms.length : Int) ≤ 60
  · simp only [h6, decide_true, kL45_4, tL45_4, xL45_4, yL45_4, l45_4_eq l ms h hm (by omega) 61 (by omega)]
    cases greed l ms 61 [] <;> rfl
  · simp only [h6, decide_false]
    rfl

theorem exFewestChanges (x : Den A12) (w : Wf A12 x) : F12 x = some (true, ()) := by
  obtain ⟨l, ms, _⟩ := x
  have hg := goodL_of w.1
  have hm := goodM_of w.2.1
  obtain ⟨n, hn, hs⟩ := F26_eq l hg
  unfold F12 r12
  simp only [K26, G26, hn, Option.isSome_some, Option.getD_some, cond_true]
  by_cases h0 : n < 0
  · simp [h0]
  · have hs' := hs h0
    have hl : l.length ≤ 1099511627776 := by omega
    obtain ⟨n2, hn2, hs2⟩ := F37_le ms n hs'.2.2 hs'.2.1 hm
    simp only [h0, decide_false, cond_false, K37, G37, hn2, Option.isSome_some, Option.getD_some, cond_true]
    by_cases h1 : n2 < 0
    · simp [h1]
    · have hml : ms.length ≤ 1099511627776 := by have := (hs2 h1).1; omega
      have hr := fewest_len l ms
      obtain ⟨l', hl'⟩ := mark46 l 1 hs'.1 (by decide) (by decide)
      obtain ⟨ms', hms'⟩ := mark47 ms (1 + 5 * (l.length : Int)) (hs2 h1).1 (by omega) (by omega)
      have hneg : decide ((1 + 5 * (l.length : Int)) + 2 * (ms.length : Int) < 0) = false := by simp; omega
      have hneg2 : decide (1 + ((fewest l ms).1.length : Int) < 0) = false := by simp; omega
      have e44 := F44_eq l ms hg hm
      have e45 := F45_eq l ms hg hm
      generalize fewest l ms = o at *
      simp only [h1, decide_false, cond_false, K28, G28, F28_eq l hl, K39, G39, F39_eq ms hml, K44, G44, e44, K45, G45, e45, K23, G23, F23_eq o.1 (by omega), K30, G30, F30_self l hl, K41, G41, F41_self ms hml,
        K46, G46, hl', K47, G47, hms', hneg, K48, G48, mark48 o.1 1 (by omega) (by decide) (by decide), K49, G49, held49 1 o.1.length (by omega) (by decide) (by decide), hneg2, Bool.not_true, bne_self_eq_false, Option.isSome_some, Option.getD_some, cond_true]
      cases o.2 <;> rfl

end Go.Proofs.Ytbgkhcoeifbgkaa.AM
