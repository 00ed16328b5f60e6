/- Plainly: what fits a sail fits it in the wider sense. Conditions: those that each lemma names. -/
import Derived.Test.YtbgkhcoeifbgkaaW1
namespace Go.Proofs.Ytbgkhcoeifbgkaa.AM
open Go Go.Proofs
set_option linter.unusedVariables false

/-- One, in units of the least place. -/
def U1 : Nat := 2 ^ 149
def U201 : Nat := 201 * 2 ^ 149

theorem near_u1 (neg : Bool) (M c : Nat) (h0 : 0 < M) (h : M * 2 ^ c ≤ U201) :
    ∃ (m c' : Nat), Ieee.single.read (Ieee.single.nearest neg M ((c : Int) - 149)) = .number neg m ((c' : Int) - 149) ∧ m * 2 ^ c' ≤ M * 2 ^ c + U1 ∧ M * 2 ^ c ≤ m * 2 ^ c' + U1 := by
  obtain ⟨K, e, h1, h2, h3, h4, h5⟩ := near_sg neg M c h0 h
  obtain ⟨m, c', h6, h7⟩ := read_word neg K e h2 h3
  refine ⟨m, c', by rw [h1]; exact h6, ?_, ?_⟩
  · rw [h7]; exact h4
  · rw [h7]; exact h5

/-- A number's value, in units of the least place. -/
def VU (s : Bool) (m c : Nat) : Int := if s then -((m * 2 ^ c : Nat) : Int) else ((m * 2 ^ c : Nat) : Int)
def isNum (b : Nat) (v : Int) : Prop := ∃ (s : Bool) (m c : Nat), Ieee.single.read b = .number s m ((c : Int) - 149) ∧ v = VU s m c

theorem signed_V (s : Bool) (m c d : Nat) (h : d ≤ c) : Ieee.signed s m (c - d) * ((2 ^ d : Nat) : Int) = VU s m c := by
  have e : m * 2 ^ (c - d) * 2 ^ d = m * 2 ^ c := by rw [Nat.mul_assoc, ← Nat.pow_add]; congr 2; omega
  unfold Ieee.signed VU
  rw [Nat.shiftLeft_eq]
  split
  · rw [Int.neg_mul, ← Int.natCast_mul, e]
  · rw [← Int.natCast_mul, e]

theorem cmp_mul (a b k : Int) (hk : 0 < k) : compare (a * k) (b * k) = compare a b := by
  have h1 : a * k < b * k ↔ a < b := Int.mul_lt_mul_right hk
  have h2 : b * k < a * k ↔ b < a := Int.mul_lt_mul_right hk
  rw [Int.compare_eq_ite_lt, Int.compare_eq_ite_lt]
  simp only [h1, h2]

theorem order_V (s t : Bool) (m n c d : Nat) : Ieee.Datum.order (.number s m ((c : Int) - 149)) (.number t n ((d : Int) - 149)) = some (compare (VU s m c) (VU t n d)) := by
  unfold Ieee.Datum.order
  dsimp only
  have e1 : (((c : Int) - 149) - min ((c : Int) - 149) ((d : Int) - 149)).toNat = c - min c d := by omega
  have e2 : (((d : Int) - 149) - min ((c : Int) - 149) ((d : Int) - 149)).toNat = d - min c d := by omega
  rw [e1, e2, ← signed_V s m c (min c d) (Nat.min_le_left _ _), ← signed_V t n d (min c d) (Nat.min_le_right _ _), cmp_mul]
  exact Int.natCast_pos.2 (Nat.two_pow_pos _)

theorem ord_num {a b : Nat} {x y : Int} (ha : isNum a x) (hb : isNum b y) : FloatKind.f32.format.order a b = some (compare x y) := by
  obtain ⟨s, m, c, h1, rfl⟩ := ha
  obtain ⟨t, n, d, h2, rfl⟩ := hb
  show (Ieee.single.read a).order (Ieee.single.read b) = _
  rw [h1, h2]
  exact order_V s t m n c d

def ge32 (a b : Nat) : Bool := fgt .f32 a b || feq .f32 a b
def le32 (a b : Nat) : Bool := flt .f32 a b || feq .f32 a b
theorem ge_num {a b : Nat} {x y : Int} (ha : isNum a x) (hb : isNum b y) : ge32 a b = true ↔ y ≤ x := by
  unfold ge32 fgt feq
  rw [ord_num ha hb, Int.compare_eq_ite_lt]
  by_cases h1 : x < y
  · rw [if_pos h1]; simp; omega
  · rw [if_neg h1]
    by_cases h2 : y < x
    · rw [if_pos h2]; simp; omega
    · rw [if_neg h2]; simp; omega
theorem le_num {a b : Nat} {x y : Int} (ha : isNum a x) (hb : isNum b y) : le32 a b = true ↔ x ≤ y := by
  unfold le32 flt feq
  rw [ord_num ha hb, Int.compare_eq_ite_lt]
  by_cases h1 : x < y
  · rw [if_pos h1]; simp; omega
  · rw [if_neg h1]
    by_cases h2 : y < x
    · rw [if_pos h2]; simp; omega
    · rw [if_neg h2]; simp; omega
theorem gt_num {a b : Nat} {x y : Int} (ha : isNum a x) (hb : isNum b y) : fgt .f32 a b = true ↔ y < x := by
  unfold fgt
  rw [ord_num ha hb, Int.compare_eq_ite_lt]
  by_cases h1 : x < y
  · rw [if_pos h1]; simp; omega
  · rw [if_neg h1]
    by_cases h2 : y < x
    · rw [if_pos h2]; simp; omega
    · rw [if_neg h2]; simp; omega

theorem num_of {b : Nat} {s : Bool} {m : Nat} {e : Int} (h : Ieee.single.read b = .number s m e) : ∃ v, isNum b v := by
  obtain ⟨_, h1, _⟩ := single_number (b := b) h
  refine ⟨_, s, m, (e + 149).toNat, ?_, rfl⟩
  rw [h]
  congr 1
  omega

theorem num_between {a lo hi : Nat} {x y : Int} (hlo : isNum lo x) (hhi : isNum hi y) (h1 : ge32 a lo = true) (h2 : le32 a hi = true) : ∃ v, isNum a v := by
  obtain ⟨s, m, c, e1, _⟩ := hlo
  obtain ⟨t, n, d, e2, _⟩ := hhi
  have o1 : FloatKind.f32.format.order a lo = (Ieee.single.read a).order (Ieee.single.read lo) := rfl
  have o2 : FloatKind.f32.format.order a hi = (Ieee.single.read a).order (Ieee.single.read hi) := rfl
  cases hr : Ieee.single.read a with
  | number s m e => exact num_of hr
  | nan s f =>
    unfold ge32 fgt feq at h1
    rw [o1, hr] at h1
    simp [Ieee.Datum.order] at h1
  | infinity s =>
    unfold ge32 fgt feq at h1
    unfold le32 flt feq at h2
    rw [o1, hr, e1] at h1
    rw [o2, hr, e2] at h2
    cases s <;> simp [Ieee.Datum.order] at h1 h2

theorem num_sail {lo hi z w : Nat} {x y : Int} (hz : isNum z x) (hw : isNum w y) (h1 : ge32 lo z = true) (h2 : fgt .f32 hi lo = true) (h3 : le32 hi w = true) : (∃ v, isNum lo v) ∧ ∃ v, isNum hi v := by
  obtain ⟨s, m, c, e1, _⟩ := hz
  obtain ⟨t, n, d, e2, _⟩ := hw
  have o1 : FloatKind.f32.format.order lo z = (Ieee.single.read lo).order (Ieee.single.read z) := rfl
  have o2 : FloatKind.f32.format.order hi lo = (Ieee.single.read hi).order (Ieee.single.read lo) := rfl
  have o3 : FloatKind.f32.format.order hi w = (Ieee.single.read hi).order (Ieee.single.read w) := rfl
  unfold ge32 fgt feq at h1
  unfold fgt at h2
  unfold le32 flt feq at h3
  rw [o1, e1] at h1
  rw [o2] at h2
  rw [o3, e2] at h3
  cases hl : Ieee.single.read lo with
  | nan a b => rw [hl] at h1; simp [Ieee.Datum.order] at h1
  | infinity a =>
    rw [hl] at h1 h2
    cases hh : Ieee.single.read hi with
    | nan p q => rw [hh] at h2; simp [Ieee.Datum.order] at h2
    | infinity p =>
      rw [hh] at h2 h3
      cases a <;> cases p <;> simp [Ieee.Datum.order] at h1 h2 h3
      all_goals exact absurd h2 (by decide)
    | number p q r =>
      rw [hh] at h2
      cases a <;> simp [Ieee.Datum.order] at h1 h2
  | number p q r =>
    refine ⟨num_of hl, ?_⟩
    rw [hl] at h2
    cases hh : Ieee.single.read hi with
    | nan a b => rw [hh] at h2; simp [Ieee.Datum.order] at h2
    | infinity a =>
      rw [hh] at h2 h3
      cases a <;> simp [Ieee.Datum.order] at h2 h3
    | number a b c => exact num_of hh

/-- A sum of two numbers, rounded, is no farther from it than one. -/
theorem sum_u1 (s t : Bool) (m n c d : Nat) (h : (VU s m c + VU t n d).natAbs ≤ U201) :
    ∃ r v, (Ieee.Datum.sum (.number s m ((c : Int) - 149)) (.number t n ((d : Int) - 149))).map Ieee.single.write = some r ∧ isNum r v ∧ v ≤ VU s m c + VU t n d + U1 ∧ VU s m c + VU t n d ≤ v + U1 := by
  unfold Ieee.Datum.sum
  dsimp only
  have e1 : (((c : Int) - 149) - min ((c : Int) - 149) ((d : Int) - 149)).toNat = c - min c d := by omega
  have e2 : (((d : Int) - 149) - min ((c : Int) - 149) ((d : Int) - 149)).toNat = d - min c d := by omega
  have e3 : min ((c : Int) - 149) ((d : Int) - 149) = ((min c d : Nat) : Int) - 149 := by omega
  rw [e1, e2, e3]
  have hs := signed_V s m c (min c d) (Nat.min_le_left _ _)
  have ht := signed_V t n d (min c d) (Nat.min_le_right _ _)
  have hT : (Ieee.signed s m (c - min c d) + Ieee.signed t n (d - min c d)) * ((2 ^ min c d : Nat) : Int) = VU s m c + VU t n d := by rw [Int.add_mul, hs, ht]
  generalize Ieee.signed s m (c - min c d) + Ieee.signed t n (d - min c d) = T at *
  generalize VU s m c + VU t n d = W at *
  generalize min c d = k at *
  refine ⟨Ieee.single.nearest (if T = 0 then s && t else decide (T < 0)) T.natAbs ((k : Int) - 149), ?_⟩
  by_cases h0 : T = 0
  · subst h0
    refine ⟨0, rfl, ?_, ?_, ?_⟩
    · obtain ⟨m', c', h6, h7⟩ := read_word (if (0 : Int) = 0 then s && t else decide ((0 : Int) < 0)) 0 0 (by decide) (.inl ⟨rfl, by decide⟩)
      have e : ∀ nb, Ieee.single.nearest nb (0 : Int).natAbs ((k : Int) - 149) = Ieee.single.word nb (0 * 2 ^ 23 + 0) := by
        intro nb
        unfold Ieee.Format.nearest
        rw [if_pos (Int.natAbs_zero), Nat.zero_mul]
      refine ⟨_, m', c', (by rw [e]; exact h6), ?_⟩
      rw [Nat.zero_mul] at h7
      have : ∀ nb : Bool, (0 : Int) = VU nb m' c' := by
        intro nb
        unfold VU
        rw [h7]
        cases nb <;> rfl
      exact this _
    · rw [Int.zero_mul] at hT; rw [← hT]; omega
    · rw [Int.zero_mul] at hT; rw [← hT]; omega
  · have hab : T.natAbs * 2 ^ k = W.natAbs := by rw [← hT, Int.natAbs_mul, Int.natAbs_natCast]
    obtain ⟨m', c', h6, h7, h8⟩ := near_u1 (if T = 0 then s && t else decide (T < 0)) T.natAbs k (Int.natAbs_pos.2 h0) (by rw [hab]; exact h)
    refine ⟨_, rfl, ⟨_, m', c', h6, rfl⟩, ?_, ?_⟩
    · rw [hab] at h7 h8
      rw [if_neg h0]
      have hW : T < 0 ↔ W < 0 := by
        rw [← hT]
        constructor
        · intro hn; exact Int.mul_neg_of_neg_of_pos hn (Int.natCast_pos.2 (Nat.two_pow_pos _))
        · intro hn
          by_cases hp : T < 0
          · exact hp
          · have := Int.mul_nonneg (show 0 ≤ T by omega) (show (0 : Int) ≤ ((2 ^ k : Nat) : Int) from Int.natCast_nonneg _)
            omega
      unfold VU
      by_cases hn : T < 0
      · have := hW.1 hn
        simp only [hn, decide_true, if_true]
        omega
      · have : ¬ W < 0 := fun h => hn (hW.2 h)
        simp only [hn, decide_false, Bool.false_eq_true, if_false]
        omega
    · rw [hab] at h7 h8
      rw [if_neg h0]
      have hW : T < 0 ↔ W < 0 := by
        rw [← hT]
        constructor
        · intro hn; exact Int.mul_neg_of_neg_of_pos hn (Int.natCast_pos.2 (Nat.two_pow_pos _))
        · intro hn
          by_cases hp : T < 0
          · exact hp
          · have := Int.mul_nonneg (show 0 ≤ T by omega) (show (0 : Int) ≤ ((2 ^ k : Nat) : Int) from Int.natCast_nonneg _)
            omega
      unfold VU
      by_cases hn : T < 0
      · have := hW.1 hn
        simp only [hn, decide_true, if_true]
        omega
      · have : ¬ W < 0 := fun h => hn (hW.2 h)
        simp only [hn, decide_false, Bool.false_eq_true, if_false]
        omega

end Go.Proofs.Ytbgkhcoeifbgkaa.AM
