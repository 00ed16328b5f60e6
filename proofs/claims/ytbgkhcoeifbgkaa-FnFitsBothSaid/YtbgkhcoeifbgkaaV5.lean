/- Plainly: the law FnExactRunSails: both texts answer alike; and the marks that the laws write into what they handed over. Conditions: what every value that is handed over meets. -/
import Derived.Test.YtbgkhcoeifbgkaaV4
import Derived.Test.YtbgkhcoeifbgkaaP1
namespace Go.Proofs.Ytbgkhcoeifbgkaa.AM
open Go Go.Proofs
set_option linter.unusedVariables false

theorem bstrOf_one (n : Int) : (bstrOf [n]).size = 1 := rfl
theorem tdiv10 {n : Int} (h : 0 < n) : 0 ≤ Int.tdiv n 10 ∧ Int.tdiv n 10 < n := by
  rw [Int.tdiv_eq_ediv_of_nonneg (by omega)]
  omega

theorem F64_ok (k : Int) (h0 : 0 < k) (h1 : k ≤ 1099511627776) : ∃ s, F64 (k, ()) = some (s, ()) := by
  have hl : ∃ s, l64_4 ((k, { data := #[] }, ()), ()) = some ((s, ()), ()) ∧ s.size ≤ 1099511627776 := by
    refine iter_ind (q := q64_4) (fun v => 0 ≤ v.1.1 ∧ v.1.1 + (v.1.2.1.size : Int) ≤ 1099511627776) (fun _ r => ∃ s, r = some ((s, ()), ()) ∧ s.size ≤ 1099511627776)
      (fun v => v.1.1.toNat) ?_ _ _ ⟨by simp only; omega, by show k + (0 : Int) ≤ _; omega⟩ (by simp only [b64_4]; omega)
    rintro ⟨⟨n, s, _⟩, _⟩ f ⟨g0, g1⟩ ih
    simp only at g0 g1 ih
    unfold q64_4
    by_cases hn : n > 0
    · obtain ⟨d1, d2⟩ := tdiv10 hn
      have hb : ∀ z : Int, (bstrOf ((List.replicate 1 (zero (Ty.int IntKind.u8))).set 0 z)).size = 1 := fun _ => rfl
      have e1 : IntKind.i64.wrap (Int.tdiv n 10) = Int.tdiv n 10 := w64 (by omega) (by omega)
      have c : decide ((1 : Nat) + s.size ≤ 9223372036854775807) = true := by simp; omega
      simp only [hn, decide_true, cond_true, hb, e1, c]
      refine ih ((Int.tdiv n 10, _ ++ s, ()), ()) ⟨d1, ?_⟩ (by simp only; omega)
      simp only [ByteArray.size_append, hb]
      omega
    · simp only [hn, decide_false, cond_false]
      exact ⟨s, rfl, by omega⟩
  obtain ⟨s, hs, hz⟩ := hl
  unfold F64 r64
  have : decide (k ≤ 0) = false := by simp; omega
  have c : decide ((ByteArray.mk #[109]).size + s.size ≤ 9223372036854775807) = true := by
    have : (ByteArray.mk #[109]).size = 1 := rfl
    rw [this]; simp; omega
  simp only [this, cond_false, kL64_4, xL64_4, hs, Option.isSome_some, Option.getD_some, cond_true, c]
  exact ⟨_, rfl⟩

theorem mark46 (l : List (Den S23)) (k0 : Int) (h : l.length ≤ 1048576) (h0 : 0 < k0) (h1 : k0 ≤ 1048576) : ∃ l', F46 (((), k0, ()), (l, ())) = some ((k0 + 5 * (l.length : Int), ()), (l', ())) := by
  have hl : ∃ l', l46_2 (((), k0, (0 : Int), ()), (l, ())) = some ((k0 + 5 * (l.length : Int), ()), (l', ())) := by
    refine iter_ind (q := q46_2 K64 G64) (fun v => v.2.1.length = l.length ∧ 0 ≤ v.1.2.2.1 ∧ v.1.2.2.1 ≤ l.length ∧ v.1.2.1 = k0 + 5 * v.1.2.2.1) (fun _ r => ∃ l', r = some ((k0 + 5 * (l.length : Int), ()), (l', ())))
      (fun v => ((l.length : Int) - v.1.2.2.1).toNat) ?_ _ _ ⟨rfl, by simp, by simp, by simp⟩ (by simp only [b46_2]; omega)
    rintro ⟨⟨_, k, i, _⟩, l2, _⟩ f ⟨g1, g2, g3, g4⟩ ih
    simp only at g1 g2 g3 g4 ih
    unfold q46_2
    by_cases hi : i < (l.length : Int)
    · obtain ⟨s, hs⟩ := F64_ok k (by omega) (by omega)
      have c0 : decide (i < (l.length : Int)) = true := by simpa using hi
      have c1 : decide (0 ≤ i) = true := by simpa using g2
      have e1 : IntKind.i64.wrap (k + 1) = k + 1 := w64 (by omega) (by omega)
      have e2 : IntKind.i64.wrap (k + 1 + 1) = k + 1 + 1 := w64 (by omega) (by omega)
      have e3 : IntKind.i64.wrap (k + 1 + 1 + 1) = k + 1 + 1 + 1 := w64 (by omega) (by omega)
      have e4 : IntKind.i64.wrap (k + 1 + 1 + 1 + 1) = k + 1 + 1 + 1 + 1 := w64 (by omega) (by omega)
      have e5 : IntKind.i64.wrap (k + 1 + 1 + 1 + 1 + 1) = k + 1 + 1 + 1 + 1 + 1 := w64 (by omega) (by omega)
      have e6 : IntKind.i64.wrap (i + 1) = i + 1 := w64 (by omega) (by omega)
      simp only [List.length_set, g1, c0, c1, K64, G64, hs, Option.isSome_some, Option.getD_some, Bool.and_self, cond_true, e1, e2, e3, e4, e5, e6]
      exact ih (((), _, i + 1, ()), (_, ())) ⟨by simp only [List.length_set, g1], by simp only; omega, by simp only; omega, by simp only; omega⟩ (by simp only; omega)
    · have c0 : decide (i < (l.length : Int)) = false := by simpa using hi
      simp only [g1, c0, cond_false]
      exact ⟨l2, by rw [g4]; have : i = l.length := by omega
                    rw [this]⟩
  obtain ⟨l', hl⟩ := hl
  unfold F46 r46
  simp only [kL46_2, xL46_2, hl, Option.isSome_some, Option.getD_some, cond_true]
  exact ⟨l', rfl⟩

theorem mark47 (l : List (Den S25)) (k0 : Int) (h : l.length ≤ 1048576) (h0 : 0 < k0) (h1 : k0 ≤ 10995116277) : ∃ l', F47 (((), k0, ()), (l, ())) = some ((k0 + 2 * (l.length : Int), ()), (l', ())) := by
  have hl : ∃ l', l47_2 (((), k0, (0 : Int), ()), (l, ())) = some ((k0 + 2 * (l.length : Int), ()), (l', ())) := by
    refine iter_ind (q := q47_2) (fun v => v.2.1.length = l.length ∧ 0 ≤ v.1.2.2.1 ∧ v.1.2.2.1 ≤ l.length ∧ v.1.2.1 = k0 + 2 * v.1.2.2.1) (fun _ r => ∃ l', r = some ((k0 + 2 * (l.length : Int), ()), (l', ())))
      (fun v => ((l.length : Int) - v.1.2.2.1).toNat) ?_ _ _ ⟨rfl, by simp, by simp, by simp⟩ (by simp only [b47_2]; omega)
    rintro ⟨⟨_, k, i, _⟩, l2, _⟩ f ⟨g1, g2, g3, g4⟩ ih
    simp only at g1 g2 g3 g4 ih
    unfold q47_2
    by_cases hi : i < (l.length : Int)
    · have c0 : decide (i < (l.length : Int)) = true := by simpa using hi
      have c1 : decide (0 ≤ i) = true := by simpa using g2
      have e1 : IntKind.i64.wrap (k + 1) = k + 1 := w64 (by omega) (by omega)
      have e2 : IntKind.i64.wrap (k + 1 + 1) = k + 1 + 1 := w64 (by omega) (by omega)
      have e6 : IntKind.i64.wrap (i + 1) = i + 1 := w64 (by omega) (by omega)
      simp only [List.length_set, g1, c0, c1, Bool.and_self, cond_true, e1, e2, e6]
      exact ih (((), _, i + 1, ()), (_, ())) ⟨by simp only [List.length_set, g1], by simp only; omega, by simp only; omega, by simp only; omega⟩ (by simp only; omega)
    · have c0 : decide (i < (l.length : Int)) = false := by simpa using hi
      simp only [g1, c0, cond_false]
      exact ⟨l2, by rw [g4]; have : i = l.length := by omega
                    rw [this]⟩
  obtain ⟨l', hl⟩ := hl
  unfold F47 r47
  simp only [kL47_2, xL47_2, hl, Option.isSome_some, Option.getD_some, cond_true]
  exact ⟨l', rfl⟩

theorem mark48 (l : List Int) (k0 : Int) (h : l.length ≤ 1099511627776) (h0 : 0 ≤ k0) (h1 : k0 ≤ 10995116277760) : F48 (((), k0, ()), (l, ())) = some ((k0 + (l.length : Int), ()), (ramp k0 l.length, ())) := by
  have hl : l48_2 (((), k0, (0 : Int), ()), (l, ())) = some ((k0 + (l.length : Int), ()), (ramp k0 l.length, ())) := by
    have := iter_all (q := q48_2) (fun j => (((), k0 + (j : Int), (j : Int), ()), (ramp k0 j ++ l.drop j, ()))) l.length ((k0 + (l.length : Int), ()), (ramp k0 l.length, ())) ?_ ?_ (b48_2 (((), k0, (0 : Int), ()), (l, ()))) (by simp only [b48_2]; omega)
    · unfold l48_2
      simpa [ramp] using this
    · intro j f hj
      have a1 : decide (0 ≤ (j : Int)) = true := by simp
      have a3 : (ramp k0 j ++ l.drop j).length = l.length := by rw [List.length_append, ramp_length, List.length_drop]; omega
      have a2 : decide ((j : Int) < (l.length : Int)) = true := by simpa using hj
      have e2 : IntKind.i64.wrap (k0 + (j : Int) + 1) = k0 + ((j + 1 : Nat) : Int) := by rw [w64 (by omega) (by omega)]; omega
      unfold q48_2
      simp only [a1, a2, a3, e2, w64n j (by omega), Bool.and_self, cond_true, Int.toNat_natCast, ramp_set k0 l j hj]
    · intro f
      have a2 : decide ((l.length : Int) < (l.length : Int)) = false := by simp
      unfold q48_2
      simp only [List.drop_length, List.append_nil, ramp_length, a2, cond_false]
  unfold F48 r48
  simp only [kL48_2, xL48_2, hl, Option.isSome_some, Option.getD_some, cond_true]

theorem held49 (k0 : Int) (n : Nat) (h : n ≤ 1099511627776) (h0 : 0 ≤ k0) (h1 : k0 ≤ 10995116277760) : F49 (ramp k0 n, k0, ()) = some (k0 + (n : Int), ()) := by
  have hl : l49_2 ((ramp k0 n, k0, (0 : Int), ()), ()) = some (.inl ((k0 + (n : Int), ()), ())) := by
    have := iter_all (q := q49_2) (fun j => ((ramp k0 n, k0 + (j : Int), (j : Int), ()), ())) n (.inl ((k0 + (n : Int), ()), ())) ?_ ?_ (b49_2 ((ramp k0 n, k0, (0 : Int), ()), ())) (by simp only [b49_2, ramp_length]; omega)
    · unfold l49_2
      simpa using this
    · intro j f hj
      have a1 : decide (0 ≤ (j : Int)) = true := by simp
      have a2 : decide ((j : Int) < (n : Int)) = true := by simpa using hj
      have e2 : IntKind.i64.wrap (k0 + (j : Int) + 1) = k0 + ((j + 1 : Nat) : Int) := by rw [w64 (by omega) (by omega)]; omega
      have e3 : (ramp k0 n).getD j (zero (Ty.int IntKind.i64)) = k0 + (j : Int) := ramp_get k0 hj
      unfold q49_2
      simp only [ramp_length, a1, a2, e2, e3, w64n j (by omega), Bool.and_self, cond_true, Int.toNat_natCast, bne_self_eq_false, cond_false]
    · intro f
      have a2 : decide ((n : Int) < (n : Int)) = false := by simp
      unfold q49_2
      simp only [ramp_length, a2, cond_false]
  unfold F49 r49
  simp only [kL49_2, tL49_2, xL49_2, hl, Option.isSome_some, cond_true]
  rfl

/-! ## A run of moments -/

/-- The sail that is up and the sails told, ahead of a moment. -/
def runSt (l : List (Den S23)) (a : Int) (ms : List (Den S25)) : Nat → Int × List Int
  | 0 => (a, [])
  | k + 1 => (keepN l (runSt l a ms k).1 (mo ms k), (runSt l a ms k).2 ++ [keepN l (runSt l a ms k).1 (mo ms k)])
theorem runSt_len (l : List (Den S23)) (a : Int) (ms : List (Den S25)) (k : Nat) : (runSt l a ms k).2.length = k := by
  induction k with
  | zero => rfl
  | succ k ih => simp [runSt, ih]
def runV (l : List (Den S23)) (a : Int) (ms : List (Den S25)) : List Int := bif sailsB l && decide ((ms.length : Int) ≤ 60) then (runSt l a ms ms.length).2 else []
theorem runV_len (l : List (Den S23)) (a : Int) (ms : List (Den S25)) : (runV l a ms).length ≤ 60 := by
  unfold runV
  cases sailsB l
  · simp
  · by_cases h : (ms.length : Int) ≤ 60
    · simp only [h, decide_true, Bool.and_self, cond_true, runSt_len]; omega
    · simp [h]

theorem set_one (z n : Int) : (List.replicate 1 z).set 0 n = [n] := rfl

theorem F50_eq (l : List (Den S23)) (a : Int) (ms : List (Den S25)) (h : GoodL l) (hm : GoodM ms) : F50 ((l, a, ms, ()), ()) = some (((), ()), (runV l a ms, ())) := by
  have hml := hm.len
  have hl : ms.length ≤ 60 → l50_5 ((l, a, ms, (), (0 : Int), ()), ([], ())) = some (((), ()), ((runSt l a ms ms.length).2, ())) := by
    intro h60
    refine (iter_all (q := q50_5 K27 G27 K35 G35) (fun k => ((l, (runSt l a ms k).1, ms, (), (k : Int), ()), ((runSt l a ms k).2, ()))) ms.length _ ?_ ?_ _ ?_ : _)
    · intro k f hk
      have e1 : decide ((k : Int) < (ms.length : Int)) = true := by simpa using hk
      have e2 : decide (0 ≤ (k : Int)) = true := by simp
      have hb : ∀ k, List.getD ms k (zero S25) = mo ms k := fun _ => rfl
      have h35 : ∀ b, F35 (l, b, ((mo ms k).1, (mo ms k).2.1, ()), ()) = some (keepN l b (mo ms k), ()) := fun b => F35_eq l b (mo ms k) h (hm.rng k)
      have hc : ∀ (k : Nat) (n : Int), (runSt l a ms k).2.length + [n].length ≤ 1099511627776 ∨ ¬ k < 60 := by
        intro k n
        rw [runSt_len]
        simp only [List.length_singleton]
        omega
      have hcap : ∀ n : Int, capOk ((runSt l a ms k).2.length + [n].length) = true := fun n => capOk_of ((hc k n).resolve_right (by omega))
      unfold q50_5
      simp only [w64n k (by omega), e1, e2, Bool.and_self, cond_true, Int.toNat_natCast, hb, K35, G35, h35, Option.isSome_some, Option.getD_some, set_one, hcap]
      rfl
    · intro f
      simp [q50_5]
    · simp only [b50_5]; omega
  unfold F50 r50 runV
  have hz : List.replicate 0 (zero (Ty.int IntKind.i64)) = ([] : List Int) := rfl
  simp only [K27, G27, F27_eq l h, Option.isSome_some, Option.getD_some, cond_true, dgt (ms.length : Int), hz]
  cases sailsB l
  · rfl
  by_cases h6 : (ms.length : Int) ≤ 60
  · simp only [h6, decide_true, kL50_5, xL50_5, hl (by omega)]
    rfl
  · simp only [h6, decide_false]
    rfl

theorem F43_eq (l : List (Den S23)) (a : Int) (ms : List (Den S25)) (h : GoodL l) (hm : GoodM ms) : F43 ((l, a, ms, ()), ()) = some (((), ()), (runV l a ms, ())) := by
  have hml := hm.len
  have hl : ms.length ≤ 60 → l43_5 ((l, a, (), ms, (ms.length : Int), (0 : Int), ()), ([], ())) = some (((), ()), ((runSt l a ms ms.length).2, ())) := by
    intro h60
    refine (iter_all (q := q43_5 K29 G29 K36 G36) (fun k => ((l, (runSt l a ms k).1, (), ms, (ms.length : Int), (k : Int), ()), ((runSt l a ms k).2, ()))) ms.length _ ?_ ?_ _ ?_ : _)
    · intro k f hk
      have e1 : decide ((k : Int) < (ms.length : Int)) = true := by simpa using hk
      have e2 : decide (0 ≤ (k : Int)) = true := by simp
      have hb : ∀ k, List.getD ms k (zero S25) = mo ms k := fun _ => rfl
      have h36 : ∀ b, F36 (l, b, ((mo ms k).1, (mo ms k).2.1, ()), ()) = some (keepN l b (mo ms k), ()) := fun b => F36_eq l b (mo ms k) h (hm.rng k)
      have hc : ∀ (k : Nat) (n : Int), (runSt l a ms k).2.length + [n].length ≤ 1099511627776 ∨ ¬ k < 60 := by
        intro k n
        rw [runSt_len]
        simp only [List.length_singleton]
        omega
      have hcap : ∀ n : Int, capOk ((runSt l a ms k).2.length + [n].length) = true := fun n => capOk_of ((hc k n).resolve_right (by omega))
      unfold q43_5
      simp only [w64n k (by omega), e1, e2, Bool.and_self, cond_true, Int.toNat_natCast, hb, K36, G36, h36, Option.isSome_some, Option.getD_some, set_one, hcap]
      rfl
    · intro f
      simp [q43_5]
    · simp only [b43_5]; omega
  unfold F43 r43 runV
  simp only [K29, G29, F29_eq l h, Option.isSome_some, Option.getD_some, cond_true, dgt (ms.length : Int)]
  cases sailsB l
  · rfl
  by_cases h6 : (ms.length : Int) ≤ 60
  · simp only [h6, decide_true, kL43_5, xL43_5, hl (by omega)]
    rfl
  · simp only [h6, decide_false]
    rfl

theorem exRunSails (x : Den A13) (w : Wf A13 x) : F13 x = some (true, ()) := by
  obtain ⟨l, a, ms, _⟩ := x
  have hg := goodL_of w.1
  have hm := goodM_of w.2.2.1
  obtain ⟨n, hn, hs⟩ := F26_eq l hg
  unfold F13 r13
  simp only [K26, G26, hn, Option.isSome_some, Option.getD_some, cond_true]
  by_cases h0 : n < 0
  · simp [h0]
  · have hs' := hs h0
    have hl : l.length ≤ 1099511627776 := by omega
    obtain ⟨n2, hn2, hs2⟩ := F37_le ms n hs'.2.2 hs'.2.1 hm
    simp only [h0, decide_false, cond_false, K37, G37, hn2, Option.isSome_some, Option.getD_some, cond_true]
    by_cases h1 : n2 < 0
    · simp [h1]
    · have hml : ms.length ≤ 1099511627776 := by have := (hs2 h1).1; omega
      have hr := runV_len l a ms
      obtain ⟨l', hl'⟩ := mark46 l 1 hs'.1 (by decide) (by decide)
      obtain ⟨ms', hms'⟩ := mark47 ms (1 + 5 * (l.length : Int)) (hs2 h1).1 (by omega) (by omega)
      have hneg : decide ((1 + 5 * (l.length : Int)) + 2 * (ms.length : Int) < 0) = false := by simp; omega
      have hneg2 : decide (1 + ((runV l a ms).length : Int) < 0) = false := by simp; omega
      have hneg3 : decide ((1 : Int) + ((runV l a ms).length : Int) < 0) = false := hneg2
      simp only [h1, decide_false, cond_false, K28, G28, F28_eq l hl, K39, G39, F39_eq ms hml, K50, G50, F50_eq l a ms hg hm, K43, G43, F43_eq l a ms hg hm, K23, G23, F23_eq (runV l a ms) (by omega), K30, G30, F30_self l hl, K41, G41, F41_self ms hml,
        K46, G46, hl', K47, G47, hms', hneg, K48, G48, mark48 (runV l a ms) 1 (by omega) (by decide) (by decide), K49, G49, held49 1 (runV l a ms).length (by omega) (by decide) (by decide), hneg2, Bool.not_true, bne_self_eq_false, Option.isSome_some, Option.getD_some, cond_true]

end Go.Proofs.Ytbgkhcoeifbgkaa.AM
