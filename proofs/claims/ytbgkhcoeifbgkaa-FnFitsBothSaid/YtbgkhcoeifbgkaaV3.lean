/- Plainly: the laws FnExactSailsOk, FnExactBestSail, FnExactKeepSail, FnExactPlanOk: both texts answer alike. Conditions: what every value that is handed over meets. -/
import Derived.Test.YtbgkhcoeifbgkaaV2
namespace Go.Proofs.Ytbgkhcoeifbgkaa.AM
open Go Go.Proofs
set_option linter.unusedVariables false

/-! ## Copies, sizes, equality -/

theorem F28_eq (l : List (Den S23)) (h : l.length ≤ 1099511627776) : F28 ((l, ()), ()) = some (((), ()), (l, ())) := by
  have hl : l28_3 ((l, (), (0 : Int), ()), (List.replicate l.length (zero S23), ())) = some (((), ()), (l, ())) := by
    have hr : (List.replicate l.length (zero S23)).length = l.length := by simp
    refine (iter_all (q := q28_3 K17 G17) (fun k => ((l, (), (k : Int), ()), (l.take k ++ (List.replicate l.length (zero S23)).drop k, ()))) l.length _ ?_ ?_ _ ?_ : _)
    · intro k f hk
      have h2 : (l.take k ++ (List.replicate l.length (zero S23)).drop k).length = l.length := by simp; omega
      have h3 := take_drop_set l (List.replicate l.length (zero S23)) k hk hr.symm
      have e1 : decide ((k : Int) < (l.length : Int)) = true := by simpa using hk
      have e2 : decide (0 ≤ (k : Int)) = true := by simp
      unfold q28_3
      simp only [w64n k (by omega), Int.toNat_natCast, getD_lt l k _ hk, h2, e1, e2, Bool.and_self, cond_true, K17, G17, F17_eq, Option.isSome_some, Option.getD_some]
      exact congrArg f (congrArg (fun z => ((l, (), ((k + 1 : Nat) : Int), ()), (z, ()))) h3)
    · intro f
      simp [q28_3]
    · simp [b28_3]
      omega
  unfold F28 r28
  simp only [Int.toNat_natCast, capOk_of h, kL28_3, xL28_3, hl, Option.isSome_some, Option.getD_some, beq_self_eq_true, Bool.and_true, cond_true]
  simp

theorem F39_eq (l : List (Den S25)) (h : l.length ≤ 1099511627776) : F39 ((l, ()), ()) = some (((), ()), (l, ())) := by
  have hl : l39_3 ((l, (), (0 : Int), ()), (List.replicate l.length (zero S25), ())) = some (((), ()), (l, ())) := by
    have hr : (List.replicate l.length (zero S25)).length = l.length := by simp
    refine (iter_all (q := q39_3 K18 G18) (fun k => ((l, (), (k : Int), ()), (l.take k ++ (List.replicate l.length (zero S25)).drop k, ()))) l.length _ ?_ ?_ _ ?_ : _)
    · intro k f hk
      have h2 : (l.take k ++ (List.replicate l.length (zero S25)).drop k).length = l.length := by simp; omega
      have h3 := take_drop_set l (List.replicate l.length (zero S25)) k hk hr.symm
      have e1 : decide ((k : Int) < (l.length : Int)) = true := by simpa using hk
      have e2 : decide (0 ≤ (k : Int)) = true := by simp
      unfold q39_3
      simp only [w64n k (by omega), Int.toNat_natCast, getD_lt l k _ hk, h2, e1, e2, Bool.and_self, cond_true, K18, G18, F18_eq, Option.isSome_some, Option.getD_some]
      exact congrArg f (congrArg (fun z => ((l, (), ((k + 1 : Nat) : Int), ()), (z, ()))) h3)
    · intro f
      simp [q39_3]
    · simp [b39_3]
      omega
  unfold F39 r39
  simp only [Int.toNat_natCast, capOk_of h, kL39_3, xL39_3, hl, Option.isSome_some, Option.getD_some, beq_self_eq_true, Bool.and_true, cond_true]
  simp

theorem F66_self (x : Den A66) (h : x.1 = x.2.1) : F66 x = some (true, ()) := by
  obtain ⟨a, b, _⟩ := x
  simp only at h
  subst h
  unfold F66 r66
  cases h : feq .f64 a a
  · simp
  · cases h2 : feq .f64 a 0 <;> simp

theorem F57_self (x : Den A57) (h : x.1 = x.2.1) : F57 x = some (true, ()) := by
  obtain ⟨s, t, _⟩ := x
  simp only at h
  subst h
  unfold F57 r57
  simp only [K66, G66, F66_self, bstr_refl, Option.isSome_some, Option.getD_some, Bool.not_true, cond_false, cond_true, bne_self_eq_false]

theorem F61_self (x : Den A61) (h : x.1 = x.2.1) : F61 x = some (true, ()) := by
  obtain ⟨s, t, _⟩ := x
  simp only at h
  subst h
  unfold F61 r61
  simp only [K66, G66, F66_self, Option.isSome_some, Option.getD_some, Bool.not_true, cond_false, cond_true, bne_self_eq_false]

theorem F30_self (l : List (Den S23)) (h : l.length ≤ 1099511627776) : F30 (l, l, ()) = some (true, ()) := by
  have hl : l30_4 ((l, l, (0 : Int), ()), ()) = some (.inl ((), ())) := by
    refine (iter_all (q := q30_4 K57 G57) (fun k => ((l, l, (k : Int), ()), ())) l.length _ ?_ ?_ _ ?_ : _)
    · intro k f hk
      have e1 : decide ((k : Int) < (l.length : Int)) = true := by simpa using hk
      have e2 : decide (0 ≤ (k : Int)) = true := by simp
      unfold q30_4
      simp only [w64n k (by omega), Int.toNat_natCast, getD_lt l k _ hk, e1, e2, Bool.and_self, cond_true, K57, G57, F57_self, Option.isSome_some, Option.getD_some, Bool.not_true, cond_false]
    · intro f
      simp [q30_4]
    · simp [b30_4]
      omega
  unfold F30 r30
  simp [kL30_4, tL30_4, hl, isR]

theorem F41_self (l : List (Den S25)) (h : l.length ≤ 1099511627776) : F41 (l, l, ()) = some (true, ()) := by
  have hl : l41_4 ((l, l, (0 : Int), ()), ()) = some (.inl ((), ())) := by
    refine (iter_all (q := q41_4 K61 G61) (fun k => ((l, l, (k : Int), ()), ())) l.length _ ?_ ?_ _ ?_ : _)
    · intro k f hk
      have e1 : decide ((k : Int) < (l.length : Int)) = true := by simpa using hk
      have e2 : decide (0 ≤ (k : Int)) = true := by simp
      unfold q41_4
      simp only [w64n k (by omega), Int.toNat_natCast, getD_lt l k _ hk, e1, e2, Bool.and_self, cond_true, K61, G61, F61_self, Option.isSome_some, Option.getD_some, Bool.not_true, cond_false]
    · intro f
      simp [q41_4]
    · simp [b41_4]
      omega
  unfold F41 r41
  simp [kL41_4, tL41_4, hl, isR]

theorem F15_le (s : Den S23) (left : Int) (h0 : 0 ≤ left) (h1 : left ≤ 1048576) (h2 : s.1.size ≤ 9223372036854775807) : ∃ n : Int, F15 (s, left, ()) = some (n, ()) ∧ n ≤ 1048576 := by
  unfold F15 r15
  dsimp only
  by_cases hc : IntKind.i64.wrap (left - (↑(ByteArray.size s.1) : Int)) < 0
  · exact ⟨-1, by simp [hc], by decide⟩
  · refine ⟨IntKind.i64.wrap (left - (↑(ByteArray.size s.1) : Int)), by simp [hc], ?_⟩
    rw [IntKind.wrap_i64] at hc ⊢
    omega

theorem sz_loop (l : List (Den S23)) (hg : GoodL l) (left i : Int) (h1 : 0 ≤ i) (h2 : i ≤ l.length) (h3 : left ≤ 1048576) (h4 : 0 ≤ left) :
    ∃ n : Int, (l26_5 ((l, left, i, ()), ()) = some (.inl ((n, ()), ())) ∧ n ≤ 1048576 ∧ 0 ≤ n) ∨ l26_5 ((l, left, i, ()), ()) = some (.inr ((-1, ()), ())) := by
  refine iter_ind (q := q26_5 K15 G15) (fun v => v.1.1 = l ∧ 0 ≤ v.1.2.2.1 ∧ v.1.2.2.1 ≤ l.length ∧ v.1.2.1 ≤ 1048576 ∧ 0 ≤ v.1.2.1) (fun _ r => ∃ n : Int, (r = some (.inl ((n, ()), ())) ∧ n ≤ 1048576 ∧ 0 ≤ n) ∨ r = some (.inr ((-1, ()), ())))
    (fun v => ((l.length : Int) - v.1.2.2.1).toNat) ?_ _ _ ⟨rfl, h1, h2, h3, h4⟩ (by simp only [b26_5]; omega)
  clear h1 h2 h3 h4
  rintro ⟨⟨l', left, i, _⟩, _⟩ f ⟨h0, h1, h2, h3, h4⟩ ih
  simp only at h0 h1 h2 h3 h4 ih
  subst h0
  have hlen := hg.len
  unfold q26_5
  by_cases hi : i < l'.length
  · have e2 : IntKind.i64.wrap (i + 1) = i + 1 := w64 (by omega) (by omega)
    have a1 : decide (0 ≤ i) = true := by simp; omega
    have a3 : decide (i < (l'.length : Int)) = true := by simp; omega
    simp only [e2, a1, a3, Bool.and_self, cond_true, K15, G15]
    have hsz : (l'.getD i.toNat (zero S23)).1.size ≤ 9223372036854775807 := hg.name i.toNat
    generalize l'.getD i.toNat (zero S23) = s at hsz ⊢
    obtain ⟨n, hy, hn⟩ := F15_le (s.1, s.2.1, s.2.2.1, s.2.2.2.1, s.2.2.2.2.1, ()) left h4 h3 hsz
    simp only [hy, Option.isSome_some, Option.getD_some, cond_true]
    by_cases hy0 : n < 0
    · simp only [hy0, decide_true, cond_true]
      exact ⟨0, .inr trivial⟩
    · simp only [hy0, decide_false, cond_false]
      exact ih ((l', n, i + 1, ()), ()) ⟨rfl, by simp only; omega, by simp only; omega, hn, by simp only; omega⟩ (by simp only; omega)
  · simp only [hi, decide_false, cond_false]
    exact ⟨left, .inl ⟨rfl, h3, h4⟩⟩

/-- A size that is told is below none, or the list is not long. -/
theorem F26_eq (l : List (Den S23)) (hg : GoodL l) : ∃ n : Int, F26 (l, 1048576, ()) = some (n, ()) ∧ (¬ n < 0 → l.length ≤ 1048576 ∧ n ≤ 1048576 ∧ 0 ≤ n) := by
  have hlen := hg.len
  unfold F26 r26
  dsimp only
  have hw : IntKind.i64.wrap (1048576 - (l.length : Int)) = 1048576 - (l.length : Int) := w64 (by omega) (by omega)
  simp only [hw]
  by_cases hn : 1048576 - (l.length : Int) < 0
  · exact ⟨-1, by simp [hn], fun h => absurd (by decide) h⟩
  · simp only [hn, decide_false, cond_false, kL26_5, tL26_5, xL26_5, yL26_5]
    obtain ⟨n, h | h⟩ := sz_loop l hg (1048576 - (l.length : Int)) 0 (by decide) (by omega) (by omega) (by omega)
    · simp only [h.1, Option.isSome_some, cond_true, isR, cond_false, xOf]
      exact ⟨n, rfl, fun _ => ⟨by omega, h.2⟩⟩
    · simp only [h, Option.isSome_some, cond_true, isR, yOf]
      exact ⟨-1, rfl, fun h => absurd (by decide) h⟩

theorem exSailsOk (x : Den A6) (w : Wf A6 x) : F6 x = some (true, ()) := by
  obtain ⟨l, _⟩ := x
  have hg := goodL_of w.1
  obtain ⟨n, hn, hs⟩ := F26_eq l hg
  unfold F6 r6
  simp only [K26, G26, hn, Option.isSome_some, Option.getD_some, cond_true]
  by_cases h0 : n < 0
  · simp [h0]
  · have hl : l.length ≤ 1099511627776 := by have := (hs h0).1; omega
    simp only [h0, decide_false, cond_false, K28, G28, F28_eq l hl, K27, G27, F27_eq l hg, K29, G29, F29_eq l hg, K30, G30, F30_self l hl, Option.isSome_some, Option.getD_some, cond_true]
    simp

/-! ## The best sail -/

def bestN (l : List (Den S23)) (m : Den S25) : Int := bif sailsB l then (match findFrom (fun i => fitsB (at' l i) m) 0 l.length with | some j => (j : Int) | none => -1) else -1

theorem F32_eq (l : List (Den S23)) (m : Den S25) (h : GoodL l) : F32 (l, m, ()) = some (bestN l m, ()) := by
  have hlen := h.len
  have hl : l32_4 (((), l, (l.length : Int), (0 : Int), ()), (m.1, m.2.1, ()), ()) = some (match findFrom (fun i => fitsB (at' l i) m) 0 l.length with | some j => .inr (((j : Int), ()), ()) | none => .inl ((), ())) := by
    refine (iter_find (q := q32_4 K29 G29 K19 G19) (fun k => (((), l, (l.length : Int), (k : Int), ()), (m.1, m.2.1, ()), ())) l.length (fun i => fitsB (at' l i) m) _ (fun j => .inr (((j : Int), ()), ())) ?_ ?_ _ ?_ : _)
    · intro k f hk
      unfold q32_4
      have e1 : decide ((k : Int) < (l.length : Int)) = true := by simpa using hk
      have e2 : decide (0 ≤ (k : Int)) = true := by simp
      have ha : List.getD l k (zero S23) = at' l k := rfl
      simp only [w64n k (by omega), e1, e2, Bool.and_self, cond_true, Int.toNat_natCast, ha, K19, G19, F19_eq, Option.isSome_some, Option.getD_some]
    · intro f
      simp [q32_4]
    · simp only [b32_4]; omega
  unfold F32 r32 bestN
  simp only [K29, G29, F29_eq l h, Option.isSome_some, Option.getD_some, cond_true, kL32_4, tL32_4, yL32_4, hl]
  cases sailsB l
  · rfl
  · cases findFrom (fun i => fitsB (at' l i) m) 0 l.length <;> rfl

theorem F31_eq (l : List (Den S23)) (m : Den S25) (h : GoodL l) : F31 (l, m, ()) = some (bestN l m, ()) := by
  have hlen := h.len
  have hl : l31_2 ((l, (), (0 : Int), ()), (m.1, m.2.1, ()), ()) = some (bif sailsB l then (match findFrom (fun i => fitsB (at' l i) m) 0 l.length with | some j => .inr (((j : Int), ()), ()) | none => .inl ((), ())) else .inl ((), ())) := by
    cases hs : sailsB l with
    | true =>
      refine (iter_find (q := q31_2 K27 G27 K16 G16) (fun k => ((l, (), (k : Int), ()), (m.1, m.2.1, ()), ())) l.length (fun i => fitsB (at' l i) m) _ (fun j => .inr (((j : Int), ()), ())) ?_ ?_ _ ?_ : _)
      · intro k f hk
        unfold q31_2
        have e1 : decide ((k : Int) < (l.length : Int)) = true := by simpa using hk
        have e2 : decide (0 ≤ (k : Int)) = true := by simp
        have ha : List.getD l k (zero S23) = at' l k := rfl
        simp only [w64n k (by omega), e1, e2, Bool.and_self, cond_true, Int.toNat_natCast, ha, K27, G27, F27_eq l h, hs, K16, G16, F16_eq, Option.isSome_some, Option.getD_some]
      · intro f
        simp [q31_2]
      · simp only [b31_2]; omega
    | false =>
      show q31_2 K27 G27 K16 G16 (iter (q31_2 K27 G27 K16 G16) (l.length + (0 : Int).natAbs + (m.2.1 : Int).natAbs + 999)) ((l, (), (0 : Int), ()), (m.1, m.2.1, ()), ()) = _
      unfold q31_2
      simp only [K27, G27, F27_eq l h, hs, Option.isSome_some, Option.getD_some, cond_true, cond_false]
      cases decide ((0 : Int) < (l.length : Int)) <;> rfl
  unfold F31 r31 bestN
  simp only [kL31_2, tL31_2, yL31_2, hl]
  cases sailsB l
  · rfl
  · cases findFrom (fun i => fitsB (at' l i) m) 0 l.length <;> rfl

theorem exBestSail (x : Den A7) (w : Wf A7 x) : F7 x = some (true, ()) := by
  obtain ⟨l, m, _⟩ := x
  have hg := goodL_of w.1
  obtain ⟨n, hn, hs⟩ := F26_eq l hg
  unfold F7 r7
  simp only [K26, G26, hn, Option.isSome_some, Option.getD_some, cond_true]
  by_cases h0 : n < 0
  · simp [h0]
  · have hl : l.length ≤ 1099511627776 := by have := (hs h0).1; omega
    simp only [h0, decide_false, cond_false, K28, G28, F28_eq l hl, K18, G18, F18_eq, K31, G31, F31_eq l _ hg, K32, G32, F32_eq l _ hg, K30, G30, F30_self l hl, Option.isSome_some, Option.getD_some, cond_true]
    simp

/-! ## Keeping a sail -/

def keepN (l : List (Den S23)) (at0 : Int) (m : Den S25) : Int :=
  bif sailsB l then (bif (decide (0 ≤ at0) && decide (at0 ≤ (l.length : Int) - 1)) && fitsWideB (at' l at0.toNat) m then at0 else bestN l m) else -1

theorem F35_eq (l : List (Den S23)) (a : Int) (m : Den S25) (h : GoodL l) (hm : I64 m.2.1) : F35 (l, a, m, ()) = some (keepN l a m, ()) := by
  have hlen := h.len
  have hw : IntKind.i64.wrap ((l.length : Int) - 1) = (l.length : Int) - 1 := w64 (by omega) (by omega)
  unfold F35 r35 keepN
  have h24 : ∀ i, F24 (((at' l i).1, (at' l i).2.1, (at' l i).2.2.1, (at' l i).2.2.2.1, (at' l i).2.2.2.2.1, ()), (m.1, m.2.1, ()), ()) = some (fitsWideB (at' l i) m, ()) := fun i => F24_eq ((at' l i), m, ()) (h.rng i).1 (h.rng i).2 hm
  have h31 : F31 (l, (m.1, m.2.1, ()), ()) = some (bestN l m, ()) := F31_eq l m h
  have ha : ∀ k, List.getD l k (zero S23) = at' l k := fun _ => rfl
  simp only [K27, G27, F27_eq l h, K53, G53, F53_eq, K24, G24, K31, G31, hw, ha, h24, h31, Option.isSome_some, Option.getD_some, cond_true]
  cases sailsB l
  · rfl
  · by_cases h1 : 0 ≤ a <;> by_cases h2 : a ≤ (l.length : Int) - 1
    · have h3 : a < (l.length : Int) := by omega
      cases fitsWideB (at' l a.toNat) m <;> simp [h1, h2, h3]
    · simp [h1, h2]
    · simp [h1, h2]
    · simp [h1, h2]

theorem F36_eq (l : List (Den S23)) (a : Int) (m : Den S25) (h : GoodL l) (hm : I64 m.2.1) : F36 (l, a, m, ()) = some (keepN l a m, ()) := by
  have hlen := h.len
  have hw : IntKind.i64.wrap ((l.length : Int) - 1) = (l.length : Int) - 1 := w64 (by omega) (by omega)
  unfold F36 r36 keepN
  have h25 : ∀ i, F25 (((at' l i).1, (at' l i).2.1, (at' l i).2.2.1, (at' l i).2.2.2.1, (at' l i).2.2.2.2.1, ()), (m.1, m.2.1, ()), ()) = some (fitsWideB (at' l i) m, ()) := fun i => F25_eq ((at' l i), m, ()) (h.rng i).1 (h.rng i).2 hm
  have h32 : F32 (l, (m.1, m.2.1, ()), ()) = some (bestN l m, ()) := F32_eq l m h
  have ha : ∀ k, List.getD l k (zero S23) = at' l k := fun _ => rfl
  simp only [K29, G29, F29_eq l h, K52, G52, F52_eq, K25, G25, K32, G32, hw, ha, h25, h32, Option.isSome_some, Option.getD_some, cond_true]
  cases sailsB l
  · rfl
  · by_cases h1 : 0 ≤ a <;> by_cases h2 : a ≤ (l.length : Int) - 1
    · have h3 : a < (l.length : Int) := by omega
      cases fitsWideB (at' l a.toNat) m <;> simp [h1, h2, h3]
    · simp [h1, h2]
    · simp [h1, h2]
    · simp [h1, h2]

theorem exKeepSail (x : Den A9) (w : Wf A9 x) : F9 x = some (true, ()) := by
  obtain ⟨l, a, m, _⟩ := x
  have hg := goodL_of w.1
  have hm : I64 m.2.1 := wf_i64 w.2.2.1.2.1
  obtain ⟨n, hn, hs⟩ := F26_eq l hg
  unfold F9 r9
  simp only [K26, G26, hn, Option.isSome_some, Option.getD_some, cond_true]
  by_cases h0 : n < 0
  · simp [h0]
  · have hl : l.length ≤ 1099511627776 := by have := (hs h0).1; omega
    have h35 : F35 (l, a, (m.1, m.2.1, ()), ()) = some (keepN l a m, ()) := F35_eq l a m hg hm
    have h36 : F36 (l, a, (m.1, m.2.1, ()), ()) = some (keepN l a m, ()) := F36_eq l a m hg hm
    simp only [h0, decide_false, cond_false, K28, G28, F28_eq l hl, K18, G18, F18_eq, K35, G35, h35, K36, G36, h36, K30, G30, F30_self l hl, Option.isSome_some, Option.getD_some, cond_true]
    simp

end Go.Proofs.Ytbgkhcoeifbgkaa.AM
