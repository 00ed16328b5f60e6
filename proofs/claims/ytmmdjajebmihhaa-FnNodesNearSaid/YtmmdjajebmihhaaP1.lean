/- Plain lemmas: loops that carry a value along. Conditions: those that each lemma names. -/
import Derived.Test.YtmmdjajebmihhaaP0
namespace Go.Proofs.Ytmmdjajebmihhaa.AM
open Go
set_option linter.unusedVariables false

/-- A value carried along some numbers in a row, to an end or to a stop. -/
def accFrom {A X : Type} (next : Nat → A → A ⊕ X) (e : A → X) : Nat → Nat → A → X
  | _, 0, a => e a
  | k, n + 1, a => match next k a with
    | .inl a' => accFrom next e (k + 1) n a'
    | .inr x => x

theorem iter_acc {V X A : Type} {q : (V → Option X) → V → Option X} (S : Nat → A → V) (n : Nat) (next : Nat → A → A ⊕ X) (e : A → X)
    (step : ∀ k a f, k < n → q f (S k a) = match next k a with | .inl a' => f (S (k + 1) a') | .inr x => some x) (fin : ∀ a f, q f (S n a) = some (e a)) :
    ∀ m j k a, k + j = n → j < m → iter q m (S k a) = some (accFrom next e k j a)
  | 0, _, _, _, _, h => by omega
  | m + 1, 0, k, a, hk, h => by
    have : k = n := by omega
    subst this
    exact fin _ _
  | m + 1, j + 1, k, a, hk, h => by
    show q (iter q m) (S k a) = _
    rw [step k a _ (by omega)]
    simp only [accFrom]
    cases hs : next k a with
    | inl a' => exact iter_acc S n next e step fin m j (k + 1) a' (by omega) (by omega)
    | inr x => rfl

/-- The same, where what is carried meets something. -/
theorem iter_accI {V X A : Type} {q : (V → Option X) → V → Option X} (S : Nat → A → V) (n : Nat) (next : Nat → A → A ⊕ X) (e : A → X) (I : Nat → A → Prop)
    (step : ∀ k a f, k < n → I k a → q f (S k a) = match next k a with | .inl a' => f (S (k + 1) a') | .inr x => some x) (keep : ∀ k a a', k < n → I k a → next k a = .inl a' → I (k + 1) a') (fin : ∀ a f, I n a → q f (S n a) = some (e a)) :
    ∀ m j k a, k + j = n → j < m → I k a → iter q m (S k a) = some (accFrom next e k j a)
  | 0, _, _, _, _, h, _ => by omega
  | m + 1, 0, k, a, hk, h, hi => by
    have : k = n := by omega
    subst this
    exact fin _ _ hi
  | m + 1, j + 1, k, a, hk, h, hi => by
    show q (iter q m) (S k a) = _
    rw [step k a _ (by omega) hi]
    simp only [accFrom]
    cases hs : next k a with
    | inl a' => exact iter_accI S n next e I step keep fin m j (k + 1) a' (by omega) (by omega) (keep k a a' (by omega) hi hs)
    | inr x => rfl

theorem accFrom_congr {A X : Type} {next next' : Nat → A → A ⊕ X} {e : A → X} : ∀ {n k : Nat} {a : A}, (∀ j a, k ≤ j → j < k + n → next j a = next' j a) → accFrom next e k n a = accFrom next' e k n a
  | 0, _, _, _ => rfl
  | n + 1, k, a, h => by
    simp only [accFrom, h k a (Nat.le_refl _) (by omega)]
    cases next' k a with
    | inl a' => exact accFrom_congr fun j a h1 h2 => h j a (by omega) (by omega)
    | inr x => rfl

def outR {A X Y : Type} (g : X → Y) : A ⊕ X → A ⊕ Y
  | .inl a => .inl a
  | .inr x => .inr (g x)

theorem accFrom_map {A X Y : Type} (g : X → Y) {next : Nat → A → A ⊕ X} {e : A → X} : ∀ {n k : Nat} {a : A}, accFrom (fun i a => outR g (next i a)) (fun a => g (e a)) k n a = g (accFrom next e k n a)
  | 0, _, _ => rfl
  | n + 1, k, a => by
    simp only [accFrom]
    cases next k a with
    | inl a' => exact accFrom_map g
    | inr x => rfl

/-- An answer is a stop's or an end's. -/
theorem accFrom_end {A X : Type} {next : Nat → A → A ⊕ X} {e : A → X} (P : X → Prop) (he : ∀ a, P (e a)) : ∀ {n k : Nat} {a : A}, (∀ j a x, k ≤ j → j < k + n → next j a = .inr x → P x) → P (accFrom next e k n a)
  | 0, _, _, _ => he _
  | n + 1, k, a, h => by
    simp only [accFrom]
    cases hn : next k a with
    | inl a' => exact accFrom_end P he fun j a x h1 h2 h3 => h j a x (by omega) (by omega) h3
    | inr x => exact h k a x (Nat.le_refl _) (by omega) hn

/-! ## Numbers in a row -/

def ramp (k : Int) (n : Nat) : List Int := (List.range n).map fun (j : Nat) => k + (j : Int)
theorem ramp_length (k : Int) (n : Nat) : (ramp k n).length = n := by simp [ramp]
theorem ramp_get (k : Int) {n j : Nat} (h : j < n) : (ramp k n).getD j 0 = k + (j : Int) := by
  rw [getD_lt _ _ _ (by rw [ramp_length]; exact h)]
  simp [ramp]
theorem ramp_set (k : Int) (l : List Int) (j : Nat) (h : j < l.length) : (ramp k j ++ l.drop j).set j (k + (j : Int)) = ramp k (j + 1) ++ l.drop (j + 1) := by
  rw [List.set_append_right _ _ (by rw [ramp_length]; omega), ramp_length, Nat.sub_self, List.drop_eq_getElem_cons h, List.set_cons_zero]
  simp [ramp, List.range_succ]

end Go.Proofs.Ytmmdjajebmihhaa.AM
