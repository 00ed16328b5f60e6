/- Plainly: sails: names, lists of sails; what both texts make of them. Conditions: those that each lemma names (a list is not longer than a slice can be). -/
import Derived.Test.YtbgkhcoeifbgkaaV1
import Derived.Test.YtbgkhcoeifbgkaaU1
namespace Go.Proofs.Ytbgkhcoeifbgkaa.AM
open Go Go.Proofs
set_option linter.unusedVariables false

theorem bif_some (c x : Bool) : (bif c then some (x, ()) else some (false, ())) = some (c && x, ()) := by cases c <;> rfl
theorem bstr_refl (a : ByteArray) : bstr a a = true := by simp [bstr]
theorem bstr_comm (a b : ByteArray) : bstr a b = bstr b a := by simp [bstr, BEq.comm]

/-- The letters of a name, from one on. -/
def lettersB (s : ByteArray) : Bool := allFrom (fun i => decide (97 ≤ strAt s i) && decide (strAt s i ≤ 122)) 0 s.size
def noneS : ByteArray := { data := #[110, 111, 110, 101] }
def nameB (s : ByteArray) : Bool := lettersB s && ((decide (1 ≤ (s.size : Int)) && decide ((s.size : Int) ≤ 16)) && !bstr s noneS)

theorem dgt (a b : Int) : decide (a > b) = !decide (a ≤ b) := by by_cases h : a ≤ b <;> simp [h] <;> omega

theorem F54_eq (s : ByteArray) (h : s.size ≤ 9223372036854775807) : F54 (s, ()) = some (nameB s, ()) := by
  have hl : l54_2 ((s, (0 : Int), ()), ()) = some (bif lettersB s then .inl ((s, ()), ()) else .inr ((false, ()), ())) := by
    refine (iter_allB (q := q54_2 K53 G53) (fun k => ((s, (k : Int), ()), ())) s.size (fun i => decide (97 ≤ strAt s i) && decide (strAt s i ≤ 122)) _ _ ?_ ?_ _ ?_ : _)
    · intro k f hk
      unfold q54_2
      simp only [w64n k (by omega), dlt (strAt s k), dgt (strAt s k)]
      have e1 : decide ((k : Int) < (s.size : Int)) = true := by simpa using hk
      have e2 : decide (0 ≤ (k : Int)) = true := by simp
      simp only [e1, e2, Bool.and_self, cond_true]
      cases decide (97 ≤ strAt s k) <;> cases decide (strAt s k ≤ 122) <;> rfl
    · intro f
      simp [q54_2]
    · simp only [b54_2]; omega
  unfold F54 r54 nameB
  simp only [kL54_2, tL54_2, xL54_2, yL54_2, hl, Option.isSome_some, cond_true, K53, G53, F53_eq, Option.getD_some]
  cases lettersB s
  · rfl
  · simp only [cond_true, isR, xOf, cond_false, Bool.true_and]
    exact bif_some _ _

theorem F55_eq (s : ByteArray) (h : s.size ≤ 9223372036854775807) : F55 (s, ()) = some (nameB s, ()) := by
  have hl : l55_2 ((s, (0 : Int), ()), ()) = some (bif lettersB s then .inl ((s, ()), ()) else .inr ((false, ()), ())) := by
    refine (iter_allB (q := q55_2 K52 G52) (fun k => ((s, (k : Int), ()), ())) s.size (fun i => decide (97 ≤ strAt s i) && decide (strAt s i ≤ 122)) _ _ ?_ ?_ _ ?_ : _)
    · intro k f hk
      unfold q55_2
      simp only [w64n k (by omega), dlt (strAt s k), dgt (strAt s k)]
      have e1 : decide ((k : Int) < (s.size : Int)) = true := by simpa using hk
      have e2 : decide (0 ≤ (k : Int)) = true := by simp
      simp only [e1, e2, Bool.and_self, cond_true]
      cases decide (97 ≤ strAt s k) <;> cases decide (strAt s k ≤ 122) <;> rfl
    · intro f
      simp [q55_2]
    · simp only [b55_2]; omega
  unfold F55 r55 nameB
  simp only [kL55_2, tL55_2, xL55_2, yL55_2, hl, Option.isSome_some, cond_true, K52, G52, F52_eq, Option.getD_some]
  cases lettersB s
  · rfl
  · simp only [cond_true, isR, xOf, cond_false, Bool.true_and]
    exact bif_some _ _

/-! ## Lists of sails -/

/-- The sail at an index. -/
def at' (l : List (Den S23)) (i : Nat) : Den S23 := l.getD i (zero S23)

theorem F56_eq (l : List (Den S23)) (s : ByteArray) (h : l.length ≤ 9223372036854775807) : F56 (l, s, ()) = some (match findFrom (fun i => bstr (at' l i).1 s) 0 l.length with | some j => (j : Int) | none => -1, ()) := by
  have hl : l56_2 ((s, l, (l.length : Int), (0 : Int), ()), ()) = some (match findFrom (fun i => bstr (at' l i).1 s) 0 l.length with | some j => .inr (((j : Int), ()), ()) | none => .inl ((), ())) := by
    refine (iter_find (q := q56_2) (fun k => ((s, l, (l.length : Int), (k : Int), ()), ())) l.length (fun i => bstr (at' l i).1 s) _ (fun j => .inr (((j : Int), ()), ())) ?_ ?_ _ ?_ : _)
    · intro k f hk
      unfold q56_2
      have e1 : decide ((k : Int) < (l.length : Int)) = true := by simpa using hk
      have e2 : decide (0 ≤ (k : Int)) = true := by simp
      simp only [w64n k (by omega), e1, e2, Bool.and_self, cond_true, Int.toNat_natCast]
      rfl
    · intro f
      simp [q56_2]
    · simp only [b56_2]; omega
  unfold F56 r56
  simp only [kL56_2, tL56_2, yL56_2, hl, Option.isSome_some, cond_true]
  cases findFrom (fun i => bstr (at' l i).1 s) 0 l.length <;> rfl

/-- A sail by itself is right. -/
def sailElem (s : Den S23) : Bool := nameB s.1 && ((fgt .f32 s.2.1 0 || feq .f32 s.2.1 0) && (fgt .f32 s.2.2.1 s.2.1 && ((flt .f32 s.2.2.1 1128792064 || feq .f32 s.2.2.1 1128792064) &&
  ((decide (0 ≤ s.2.2.2.1) && decide (s.2.2.2.1 ≤ 180)) && (decide (s.2.2.2.1 ≤ s.2.2.2.2.1) && decide (s.2.2.2.2.1 ≤ 180))))))
/-- No sail ahead bears the name. -/
def freshB (l : List (Den S23)) (i : Nat) : Bool := allFrom (fun j => !bstr (at' l j).1 (at' l i).1) 0 i
def sailsB (l : List (Den S23)) : Bool := allFrom (fun i => sailElem (at' l i) && freshB l i) 0 l.length && decide ((l.length : Int) ≤ 12)

/-- What every list of sails meets that comes in. -/
structure GoodL (l : List (Den S23)) : Prop where
  len : l.length ≤ 9223372036854775807
  name : ∀ i, (at' l i).1.size ≤ 9223372036854775807
  rng : ∀ i, I64 (at' l i).2.2.2.1 ∧ I64 (at' l i).2.2.2.2.1

theorem at_mem {l : List (Den S23)} {i : Nat} : at' l i ∈ l ∨ at' l i = zero S23 := by
  unfold at'
  rw [List.getD_eq_getElem?_getD]
  cases h : l[i]? with
  | none => exact .inr rfl
  | some x => exact .inl (List.mem_of_getElem? h)

theorem goodL_of {l : List (Den S23)} (h : Wf (.slice S23) l) : GoodL l := by
  have hm : maxLen ≤ 9223372036854775807 := by decide
  refine ⟨Nat.le_trans h.1 hm, fun i => ?_, fun i => ?_⟩
  · rcases at_mem (l := l) (i := i) with h1 | h1
    · have := (h.2 _ h1).1
      exact Nat.le_trans this hm
    · rw [h1]; exact Nat.zero_le _
  · rcases at_mem (l := l) (i := i) with h1 | h1
    · obtain ⟨_, _, _, h2, h3, _⟩ := h.2 _ h1
      exact ⟨wf_i64 h2, wf_i64 h3⟩
    · rw [h1]; exact ⟨by unfold I64; decide, by unfold I64; decide⟩

theorem fresh_find {l : List (Den S23)} {i : Nat} (hi : i < l.length) : ((match findFrom (fun j => bstr (at' l j).1 (at' l i).1) 0 l.length with | some j => (j : Int) | none => -1) != (i : Int)) = !freshB l i := by
  have hs : bstr (at' l i).1 (at' l i).1 = true := bstr_refl _
  cases h : findFrom (fun j => bstr (at' l j).1 (at' l i).1) 0 l.length with
  | none => have := findFrom_none.1 h i (Nat.zero_le _) (by omega); rw [hs] at this; cases this
  | some j =>
    obtain ⟨h1, h2, h3, h4⟩ := findFrom_some h
    by_cases hji : j = i
    · subst hji
      have : freshB l j = true := allFrom_iff.2 fun k hk1 hk2 => by rw [h4 k (Nat.zero_le _) (by omega)]; rfl
      rw [this]; simp
    · have hlt : j < i := by
        rcases Nat.lt_or_ge j i with h5 | h5
        · exact h5
        · have := h4 i (Nat.zero_le _) (by omega); rw [hs] at this; cases this
      have : freshB l i = false := by
        cases hf : freshB l i with
        | false => rfl
        | true => have := allFrom_iff.1 hf j (Nat.zero_le _) (by omega); rw [h3] at this; cases this
      rw [this]
      simp
      omega

theorem F29_eq (l : List (Den S23)) (h : GoodL l) : F29 (l, ()) = some (sailsB l, ()) := by
  have hl : l29_4 ((l, l, (l.length : Int), (0 : Int), ()), ()) = some (bif allFrom (fun i => sailElem (at' l i) && freshB l i) 0 l.length then .inl ((), ()) else .inr ((false, ()), ())) := by
    refine (iter_allB (q := q29_4 K55 G55 K56 G56 K52 G52) (fun k => ((l, l, (l.length : Int), (k : Int), ()), ())) l.length (fun i => sailElem (at' l i) && freshB l i) _ _ ?_ ?_ _ ?_ : _)
    · intro k f hk
      unfold q29_4 sailElem
      have e1 : decide ((k : Int) < (l.length : Int)) = true := by simpa using hk
      have e2 : decide (0 ≤ (k : Int)) = true := by simp
      have hlen := h.len
      have ha : List.getD l k (zero S23) = at' l k := rfl
      have hf := fresh_find hk
      simp only [w64n k (by omega), e1, e2, Bool.and_self, cond_true, Int.toNat_natCast, ha, K55, G55, F55_eq _ (h.name k), K56, G56, F56_eq l _ h.len, K52, G52, F52_eq, Option.isSome_some, Option.getD_some, hf]
      generalize at' l k = s
      cases nameB s.1 <;> cases freshB l k <;> cases (fgt .f32 s.2.1 0 || feq .f32 s.2.1 0) <;> cases fgt .f32 s.2.2.1 s.2.1 <;> cases (flt .f32 s.2.2.1 1128792064 || feq .f32 s.2.2.1 1128792064) <;>
        cases (decide (0 ≤ s.2.2.2.1) && decide (s.2.2.2.1 ≤ 180)) <;> cases (decide (s.2.2.2.1 ≤ s.2.2.2.2.1) && decide (s.2.2.2.2.1 ≤ 180)) <;> rfl
    · intro f
      simp [q29_4]
    · simp only [b29_4]; omega
  unfold F29 r29 sailsB
  simp only [kL29_4, tL29_4, yL29_4, hl, Option.isSome_some, cond_true, dgt (l.length : Int)]
  cases decide ((l.length : Int) ≤ 12) <;> cases allFrom (fun i => sailElem (at' l i) && freshB l i) 0 l.length <;> rfl

theorem F27_eq (l : List (Den S23)) (h : GoodL l) : F27 (l, ()) = some (sailsB l, ()) := by
  have hlen := h.len
  have hin : ∀ k, k < l.length → l27_8 ((l, (k : Int), (), (0 : Int), ()), at' l k, ()) = some (bif freshB l k then .inl ((l, (k : Int), ()), ()) else .inr ((false, ()), ())) := by
    intro k hk
    refine (iter_allB (q := q27_8 K54 G54 K53 G53) (fun j => ((l, (k : Int), (), (j : Int), ()), at' l k, ())) k (fun j => !bstr (at' l j).1 (at' l k).1) _ _ ?_ ?_ _ ?_ : _)
    · intro j f hj
      unfold q27_8
      have e1 : decide ((j : Int) < (k : Int)) = true := by simpa using hj
      have e2 : decide (0 ≤ (j : Int)) = true := by simp
      have e3 : decide ((j : Int) < (l.length : Int)) = true := by simp; omega
      have ha : List.getD l j (zero S23) = at' l j := rfl
      simp only [w64n j (by omega), e1, e2, e3, Bool.and_self, cond_true, Int.toNat_natCast, ha]
      cases bstr (at' l j).1 (at' l k).1 <;> rfl
    · intro f
      simp [q27_8]
    · simp only [b27_8]; omega
  have hl : l27_2 ((l, (0 : Int), ()), ()) = some (bif allFrom (fun i => sailElem (at' l i) && freshB l i) 0 l.length then .inl ((l, ()), ()) else .inr ((false, ()), ())) := by
    refine (iter_allB (q := q27_2 K54 G54 K53 G53 kL27_8 xL27_8 tL27_8 yL27_8) (fun k => ((l, (k : Int), ()), ())) l.length (fun i => sailElem (at' l i) && freshB l i) _ _ ?_ ?_ _ ?_ : _)
    · intro k f hk
      have hi := hin k hk
      unfold q27_2 sailElem
      have e1 : decide ((k : Int) < (l.length : Int)) = true := by simpa using hk
      have e2 : decide (0 ≤ (k : Int)) = true := by simp
      have ha : List.getD l k (zero S23) = at' l k := rfl
      simp only [e1, e2, Bool.and_self, cond_true, Int.toNat_natCast, ha, K54, G54, F54_eq _ (h.name k), K53, G53, F53_eq, Option.isSome_some, Option.getD_some]
      have hi' : l27_8 ((l, (k : Int), (), (0 : Int), ()), ((at' l k).1, (at' l k).2.1, (at' l k).2.2.1, (at' l k).2.2.2.1, (at' l k).2.2.2.2.1, ()), ()) = _ := hi
      simp only [kL27_8, tL27_8, xL27_8, yL27_8, hi', Option.isSome_some]
      generalize at' l k = s
      cases nameB s.1 <;> cases freshB l k <;> cases (fgt .f32 s.2.1 0 || feq .f32 s.2.1 0) <;> cases fgt .f32 s.2.2.1 s.2.1 <;> cases (flt .f32 s.2.2.1 1128792064 || feq .f32 s.2.2.1 1128792064) <;>
        cases (decide (0 ≤ s.2.2.2.1) && decide (s.2.2.2.1 ≤ 180)) <;> cases (decide (s.2.2.2.1 ≤ s.2.2.2.2.1) && decide (s.2.2.2.2.1 ≤ 180)) <;> first | rfl | (simp only [cond_true, cond_false, isR, xOf, yOf, Bool.and_true, Bool.not_true, w64n k (by omega)]; done) | (simp [isR, xOf, yOf, w64n k (by omega)])
    · intro f
      simp [q27_2]
    · simp only [b27_2]; omega
  unfold F27 r27 sailsB
  simp only [kL27_2, tL27_2, xL27_2, yL27_2, hl, Option.isSome_some, cond_true]
  cases allFrom (fun i => sailElem (at' l i) && freshB l i) 0 l.length
  · rfl
  · simp only [cond_true, isR, xOf, cond_false, Bool.true_and]
    rfl

end Go.Proofs.Ytbgkhcoeifbgkaa.AM
