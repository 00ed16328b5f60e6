/- Plainly: the law FnExactPlanOk: both texts answer alike. Conditions: what every value that is handed over meets. -/
import Derived.Test.YtbgkhcoeifbgkaaV3
namespace Go.Proofs.Ytbgkhcoeifbgkaa.AM
open Go Go.Proofs
set_option linter.unusedVariables false

/-- The moment at an index. -/
def mo (l : List (Den S25)) (i : Nat) : Den S25 := l.getD i (zero S25)
structure GoodM (l : List (Den S25)) : Prop where
  len : l.length ≤ 9223372036854775807
  rng : ∀ i, I64 (mo l i).2.1
theorem mo_mem {l : List (Den S25)} {i : Nat} : mo l i ∈ l ∨ mo l i = zero S25 := by
  unfold mo
  rw [List.getD_eq_getElem?_getD]
  cases h : l[i]? with
  | none => exact .inr rfl
  | some x => exact .inl (List.mem_of_getElem? h)
theorem goodM_of {l : List (Den S25)} (h : Wf (.slice S25) l) : GoodM l := by
  have hm : maxLen ≤ 9223372036854775807 := by decide
  refine ⟨Nat.le_trans h.1 hm, fun i => ?_⟩
  rcases mo_mem (l := l) (i := i) with h1 | h1
  · exact wf_i64 (h.2 _ h1).2.1
  · rw [h1]; unfold I64; decide

/-- One index of a plan: there is such a sail, and it fits in the wider sense. -/
def planE (l : List (Den S23)) (ms : List (Den S25)) (p : List Int) (i : Nat) : Bool :=
  (decide (0 ≤ p.getD i 0) && decide (p.getD i 0 ≤ (l.length : Int) - 1)) && fitsWideB (at' l (p.getD i 0).toNat) (mo ms i)
def planB (l : List (Den S23)) (ms : List (Den S25)) (p : List Int) : Bool :=
  sailsB l && (decide ((ms.length : Int) ≤ 60) && (((p.length : Int) == (ms.length : Int)) && allFrom (planE l ms p) 0 p.length))

theorem f24 (l : List (Den S23)) (ms : List (Den S25)) (h : GoodL l) (hm : GoodM ms) (i j : Nat) : F24 (((at' l i).1, (at' l i).2.1, (at' l i).2.2.1, (at' l i).2.2.2.1, (at' l i).2.2.2.2.1, ()), ((mo ms j).1, (mo ms j).2.1, ()), ()) = some (fitsWideB (at' l i) (mo ms j), ()) := F24_eq ((at' l i), mo ms j, ()) (h.rng i).1 (h.rng i).2 (hm.rng j)
theorem f25 (l : List (Den S23)) (ms : List (Den S25)) (h : GoodL l) (hm : GoodM ms) (i j : Nat) : F25 (((at' l i).1, (at' l i).2.1, (at' l i).2.2.1, (at' l i).2.2.2.1, (at' l i).2.2.2.2.1, ()), ((mo ms j).1, (mo ms j).2.1, ()), ()) = some (fitsWideB (at' l i) (mo ms j), ()) := F25_eq ((at' l i), mo ms j, ()) (h.rng i).1 (h.rng i).2 (hm.rng j)

theorem F38_eq (l : List (Den S23)) (ms : List (Den S25)) (p : List Int) (h : GoodL l) (hm : GoodM ms) : F38 (l, ms, p, ()) = some (planB l ms p, ()) := by
  have hlen := h.len
  have hml := hm.len
  have hw : IntKind.i64.wrap ((l.length : Int) - 1) = (l.length : Int) - 1 := w64 (by omega) (by omega)
  have hl : p.length = ms.length → l38_4 ((l, ms, p, (0 : Int), ()), ()) = some (bif allFrom (planE l ms p) 0 p.length then .inl ((), ()) else .inr ((false, ()), ())) := by
    intro he
    refine (iter_allB (q := q38_4 K27 G27 K53 G53 K24 G24) (fun k => ((l, ms, p, (k : Int), ()), ())) p.length (planE l ms p) _ _ ?_ ?_ _ ?_ : _)
    · intro k f hk
      unfold q38_4 planE
      have e1 : decide ((k : Int) < (p.length : Int)) = true := by simpa using hk
      have e3 : decide ((k : Int) < (ms.length : Int)) = true := by simp; omega
      have e2 : decide (0 ≤ (k : Int)) = true := by simp
      have ha : ∀ k, List.getD l k (zero S23) = at' l k := fun _ => rfl
      have hb : ∀ k, List.getD ms k (zero S25) = mo ms k := fun _ => rfl
      have hz : (zero (Ty.int IntKind.i64) : Int) = 0 := rfl
      have hc : List.getD p k (zero (Ty.int IntKind.i64)) = List.getD p k (0 : Int) := rfl
      simp only [w64n k (by omega), e1, e2, e3, Bool.and_self, cond_true, Int.toNat_natCast, K53, G53, F53_eq, Option.isSome_some, Option.getD_some, hw, ha, hb, hc, K24, G24, f24 l ms h hm]
      generalize List.getD p k (0 : Int) = a
      by_cases h1 : 0 ≤ a <;> by_cases h2 : a ≤ (l.length : Int) - 1
      · have h3 : a < (l.length : Int) := by omega
        cases fitsWideB (at' l a.toNat) (mo ms k) <;> simp [h1, h2, h3]
      · simp [h1, h2]
      · simp [h1, h2]
      · simp [h1, h2]
    · intro f
      simp [q38_4]
    · simp only [b38_4]; omega
  unfold F38 r38 planB
  simp only [K27, G27, F27_eq l h, Option.isSome_some, Option.getD_some, cond_true, kL38_4, tL38_4, yL38_4, dgt (ms.length : Int)]
  cases sailsB l
  · rfl
  cases decide ((ms.length : Int) ≤ 60)
  · rfl
  by_cases he : p.length = ms.length
  · simp only [hl he]
    have : ((p.length : Int) == (ms.length : Int)) = true := by simp [he]
    have hne : ((p.length : Int) != (ms.length : Int)) = false := by simp [he]
    simp only [this, hne]
    cases allFrom (planE l ms p) 0 p.length <;> rfl
  · have : ((p.length : Int) == (ms.length : Int)) = false := by simp; omega
    have hne : ((p.length : Int) != (ms.length : Int)) = true := by simp; omega
    simp only [this, hne]
    rfl

theorem F40_eq (l : List (Den S23)) (ms : List (Den S25)) (p : List Int) (h : GoodL l) (hm : GoodM ms) : F40 (l, ms, p, ()) = some (planB l ms p, ()) := by
  have hlen := h.len
  have hml := hm.len
  have hw : IntKind.i64.wrap ((l.length : Int) - 1) = (l.length : Int) - 1 := w64 (by omega) (by omega)
  have hl : p.length = ms.length → l40_4 ((l, ms, p, (p.length : Int), (0 : Int), ()), ()) = some (bif allFrom (planE l ms p) 0 p.length then .inl ((), ()) else .inr ((false, ()), ())) := by
    intro he
    refine (iter_allB (q := q40_4 K29 G29 K52 G52 K25 G25) (fun k => ((l, ms, p, (p.length : Int), (k : Int), ()), ())) p.length (planE l ms p) _ _ ?_ ?_ _ ?_ : _)
    · intro k f hk
      unfold q40_4 planE
      have e1 : decide ((k : Int) < (p.length : Int)) = true := by simpa using hk
      have e3 : decide ((k : Int) < (ms.length : Int)) = true := by simp; omega
      have e2 : decide (0 ≤ (k : Int)) = true := by simp
      have ha : ∀ k, List.getD l k (zero S23) = at' l k := fun _ => rfl
      have hb : ∀ k, List.getD ms k (zero S25) = mo ms k := fun _ => rfl
      have hc : List.getD p k (zero (Ty.int IntKind.i64)) = List.getD p k (0 : Int) := rfl
      simp only [w64n k (by omega), e1, e2, e3, Bool.and_self, cond_true, Int.toNat_natCast, K52, G52, F52_eq, Option.isSome_some, Option.getD_some, hw, ha, hb, hc, K25, G25, f25 l ms h hm]
      generalize List.getD p k (0 : Int) = a
      by_cases h1 : 0 ≤ a <;> by_cases h2 : a ≤ (l.length : Int) - 1
      · have h3 : a < (l.length : Int) := by omega
        cases fitsWideB (at' l a.toNat) (mo ms k) <;> simp [h1, h2, h3]
      · simp [h1, h2]
      · simp [h1, h2]
      · simp [h1, h2]
    · intro f
      simp [q40_4]
    · simp only [b40_4]; omega
  unfold F40 r40 planB
  simp only [K29, G29, F29_eq l h, Option.isSome_some, Option.getD_some, cond_true, kL40_4, tL40_4, yL40_4, dgt (ms.length : Int)]
  cases sailsB l
  · rfl
  cases decide ((ms.length : Int) ≤ 60)
  · rfl
  by_cases he : p.length = ms.length
  · simp only [hl he]
    have : ((p.length : Int) == (ms.length : Int)) = true := by simp [he]
    have hne : ((p.length : Int) != (ms.length : Int)) = false := by simp [he]
    simp only [this, hne]
    cases allFrom (planE l ms p) 0 p.length <;> rfl
  · have : ((p.length : Int) == (ms.length : Int)) = false := by simp; omega
    have hne : ((p.length : Int) != (ms.length : Int)) = true := by simp; omega
    simp only [this, hne]
    rfl

theorem F37_le (ms : List (Den S25)) (left : Int) (h0 : 0 ≤ left) (h1 : left ≤ 1048576) (hm : GoodM ms) : ∃ n : Int, F37 (ms, left, ()) = some (n, ()) ∧ (¬ n < 0 → ms.length ≤ 1048576 ∧ n ≤ 1048576 ∧ 0 ≤ n) := by
  have hml := hm.len
  have hw : IntKind.i64.wrap (left - (ms.length : Int)) = left - (ms.length : Int) := w64 (by omega) (by omega)
  unfold F37 r37
  simp only [hw]
  by_cases hn : left - (ms.length : Int) < 0
  · exact ⟨-1, by simp [hn], fun h => absurd (by decide) h⟩
  · exact ⟨left - (ms.length : Int), by simp [hn], fun _ => by omega⟩

theorem exPlanOk (x : Den A10) (w : Wf A10 x) : F10 x = some (true, ()) := by
  obtain ⟨l, ms, p, _⟩ := x
  have hg := goodL_of w.1
  have hm := goodM_of w.2.1
  obtain ⟨n, hn, hs⟩ := F26_eq l hg
  unfold F10 r10
  by_cases hp0 : (p.length : Int) > 1048576
  · simp [hp0]
  simp only [hp0, decide_false, cond_false, K26, G26, hn, Option.isSome_some, Option.getD_some, cond_true]
  by_cases h0 : n < 0
  · simp [h0]
  · have hs' := hs h0
    have hl : l.length ≤ 1099511627776 := by omega
    have hp : p.length ≤ 1099511627776 := by omega
    obtain ⟨n2, hn2, hs2⟩ := F37_le ms n hs'.2.2 hs'.2.1 hm
    simp only [h0, decide_false, cond_false, K37, G37, hn2, Option.isSome_some, Option.getD_some, cond_true]
    by_cases h1 : n2 < 0
    · simp [h1]
    · have hml : ms.length ≤ 1099511627776 := by have := (hs2 h1).1; omega
      simp only [h1, decide_false, cond_false, K28, G28, F28_eq l hl, K39, G39, F39_eq ms hml, K21, G21, F21_eq p hp, K38, G38, F38_eq l ms p hg hm, K40, G40, F40_eq l ms p hg hm, K30, G30, F30_self l hl, K41, G41, F41_self ms hml, K23, G23, F23_eq p hp, Option.isSome_some, Option.getD_some, cond_true]
      cases planB l ms p <;> rfl

end Go.Proofs.Ytbgkhcoeifbgkaa.AM
