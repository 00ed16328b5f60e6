/- Plain lemmas: loops that are iterated, numbers, lists. Conditions: those that each lemma names. -/
import Derived.Test.YtmmdjajebmihhaaC4
import Derived.IntWalk
namespace Go.Proofs.Ytmmdjajebmihhaa.AM
open Go
set_option linter.unusedVariables false

/-- An iteration, by an invariant and a measure. -/
theorem iter_ind {V X : Type} {q : (V → Option X) → V → Option X} (I : V → Prop) (P : V → Option X → Prop) (μ : V → Nat)
    (step : ∀ v f, I v → (∀ v', I v' → μ v' < μ v → P v' (f v')) → P v (q f v)) : ∀ n v, I v → μ v < n → P v (iter q n v)
  | 0, v, _, h => by omega
  | n + 1, v, hi, h => step v _ hi fun v' hi' hm => iter_ind I P μ step n v' hi' (by omega)

/-- The first stop, or the end. -/
def firstStop {X : Type} (stop : Nat → Option X) (e : X) : Nat → Nat → X
  | _, 0 => e
  | k, n + 1 => match stop k with
    | some x => x
    | none => firstStop stop e (k + 1) n

/-- An iteration over counted states. -/
theorem iter_run {V X : Type} {q : (V → Option X) → V → Option X} (S : Nat → V) (n : Nat) (stop : Nat → Option X) (e : X)
    (step : ∀ k f, k < n → q f (S k) = match stop k with | some x => some x | none => f (S (k + 1))) (fin : ∀ f, q f (S n) = some e) :
    ∀ m j k, k + j = n → j < m → iter q m (S k) = some (firstStop stop e k j)
  | 0, _, _, _, h => by omega
  | m + 1, 0, k, hk, h => by
    have : k = n := by omega
    subst this
    exact fin _
  | m + 1, j + 1, k, hk, h => by
    show q (iter q m) (S k) = _
    rw [step k _ (by omega)]
    simp only [firstStop]
    cases hs : stop k with
    | some x => rfl
    | none => exact iter_run S n stop e step fin m j (k + 1) (by omega) (by omega)

theorem firstStop_none {X : Type} {stop : Nat → Option X} {e : X} : ∀ {n k : Nat}, (∀ j, k ≤ j → j < k + n → stop j = none) → firstStop stop e k n = e
  | 0, _, _ => rfl
  | n + 1, k, h => by
    simp only [firstStop, h k (Nat.le_refl _) (by omega)]
    exact firstStop_none fun j h1 h2 => h j (by omega) (by omega)

/-- An iteration over counted states that never stops early. -/
theorem iter_all {V X : Type} {q : (V → Option X) → V → Option X} (S : Nat → V) (n : Nat) (e : X) (step : ∀ k f, k < n → q f (S k) = f (S (k + 1))) (fin : ∀ f, q f (S n) = some e) (m : Nat) (h : n < m) : iter q m (S 0) = some e := by
  have := iter_run S n (fun _ => none) e step fin m n 0 (by omega) h
  rw [firstStop_none fun _ _ _ => rfl] at this
  exact this

/-- Whether all of some numbers in a row meet something. -/
def allFrom (g : Nat → Bool) : Nat → Nat → Bool
  | _, 0 => true
  | k, n + 1 => g k && allFrom g (k + 1) n

theorem allFrom_iff {g : Nat → Bool} : ∀ {n k : Nat}, allFrom g k n = true ↔ ∀ j, k ≤ j → j < k + n → g j = true
  | 0, k => by simp [allFrom]; omega
  | n + 1, k => by
    simp only [allFrom, Bool.and_eq_true, allFrom_iff (n := n)]
    constructor
    · rintro ⟨h1, h2⟩ j h3 h4
      rcases Nat.eq_or_lt_of_le h3 with rfl | h5
      · exact h1
      · exact h2 j h5 (by omega)
    · intro h
      exact ⟨h k (Nat.le_refl _) (by omega), fun j h1 h2 => h j (by omega) (by omega)⟩

theorem allFrom_congr {g h : Nat → Bool} : ∀ {n k : Nat}, (∀ j, k ≤ j → j < k + n → g j = h j) → allFrom g k n = allFrom h k n
  | 0, _, _ => rfl
  | n + 1, k, hh => by
    simp only [allFrom, hh k (Nat.le_refl _) (by omega)]
    rw [allFrom_congr fun j h1 h2 => hh j (by omega) (by omega)]

theorem firstStop_all {X : Type} {stop : Nat → Option X} {g : Nat → Bool} {e s : X} : ∀ {n k : Nat}, (∀ j, k ≤ j → j < k + n → stop j = bif g j then none else some s) → firstStop stop e k n = bif allFrom g k n then e else s
  | 0, _, _ => rfl
  | n + 1, k, h => by
    simp only [firstStop, allFrom, h k (Nat.le_refl _) (by omega)]
    cases g k with
    | false => rfl
    | true => exact firstStop_all fun j h1 h2 => h j (by omega) (by omega)

/-- A loop that asks something of each number, and stops at the first that fails. -/
theorem iter_allB {V X : Type} {q : (V → Option X) → V → Option X} (S : Nat → V) (n : Nat) (g : Nat → Bool) (e s : X) (step : ∀ k f, k < n → q f (S k) = bif g k then f (S (k + 1)) else some s) (fin : ∀ f, q f (S n) = some e) (m : Nat) (h : n < m) :
    iter q m (S 0) = some (bif allFrom g 0 n then e else s) := by
  rw [iter_run S n (fun k => bif g k then none else some s) e (fun k f hk => by rw [step k f hk]; cases g k <;> rfl) fin m n 0 (by omega) h]
  rw [firstStop_all fun _ _ _ => rfl]

/-- The first number in a row that meets something. -/
def findFrom (g : Nat → Bool) : Nat → Nat → Option Nat
  | _, 0 => none
  | k, n + 1 => bif g k then some k else findFrom g (k + 1) n

theorem findFrom_some {g : Nat → Bool} : ∀ {n k j : Nat}, findFrom g k n = some j → k ≤ j ∧ j < k + n ∧ g j = true ∧ ∀ i, k ≤ i → i < j → g i = false
  | 0, k, j, h => by cases h
  | n + 1, k, j, h => by
    simp only [findFrom] at h
    cases hg : g k with
    | true =>
      rw [hg] at h
      cases h
      exact ⟨Nat.le_refl _, by omega, hg, fun i h1 h2 => by omega⟩
    | false =>
      rw [hg] at h
      obtain ⟨h1, h2, h3, h4⟩ := findFrom_some (n := n) h
      refine ⟨by omega, by omega, h3, fun i h5 h6 => ?_⟩
      rcases Nat.eq_or_lt_of_le h5 with rfl | h7
      · exact hg
      · exact h4 i h7 h6

theorem findFrom_none {g : Nat → Bool} : ∀ {n k : Nat}, findFrom g k n = none ↔ ∀ i, k ≤ i → i < k + n → g i = false
  | 0, k => by simp [findFrom]; omega
  | n + 1, k => by
    simp only [findFrom]
    cases hg : g k with
    | true =>
      simp only [cond_true]
      constructor
      · intro h; cases h
      · intro h; rw [h k (Nat.le_refl _) (by omega)] at hg; cases hg
    | false =>
      simp only [cond_false, findFrom_none (n := n)]
      constructor
      · intro h i h1 h2
        rcases Nat.eq_or_lt_of_le h1 with rfl | h3
        · exact hg
        · exact h i h3 (by omega)
      · intro h i h1 h2
        exact h i (by omega) (by omega)

theorem findFrom_congr {g h : Nat → Bool} : ∀ {n k : Nat}, (∀ j, k ≤ j → j < k + n → g j = h j) → findFrom g k n = findFrom h k n
  | 0, _, _ => rfl
  | n + 1, k, hh => by
    simp only [findFrom, hh k (Nat.le_refl _) (by omega)]
    rw [findFrom_congr fun j h1 h2 => hh j (by omega) (by omega)]

/-- A loop that looks for the first number that meets something. -/
theorem iter_find {V X : Type} {q : (V → Option X) → V → Option X} (S : Nat → V) (n : Nat) (g : Nat → Bool) (e : X) (s : Nat → X) (step : ∀ k f, k < n → q f (S k) = bif g k then some (s k) else f (S (k + 1))) (fin : ∀ f, q f (S n) = some e) (m : Nat) (h : n < m) :
    iter q m (S 0) = some (match findFrom g 0 n with | some j => s j | none => e) := by
  rw [iter_run S n (fun k => bif g k then some (s k) else none) e (fun k f hk => by rw [step k f hk]; cases g k <;> rfl) fin m n 0 (by omega) h]
  congr 1
  clear h step fin
  generalize 0 = k
  induction n generalizing k with
  | zero => rfl
  | succ n ih =>
    simp only [firstStop, findFrom]
    cases g k with
    | true => rfl
    | false => exact ih (k + 1)

theorem w64 {x : Int} (h : -9223372036854775808 ≤ x) (h' : x ≤ 9223372036854775807) : IntKind.wrap IntKind.i64 x = x := IntWalk.i64_in x (by omega)

theorem w64n (k : Nat) (h : k < 9223372036854775807) : IntKind.wrap IntKind.i64 ((k : Int) + 1) = ((k + 1 : Nat) : Int) := by rw [w64 (by omega) (by omega)]; simp

theorem capOk_of {n : Nat} (h : n ≤ 1099511627776) : capOk n = true := Nat.ble_eq_true_of_le h

theorem set_take {α : Type} (l : List α) (k : Nat) (x : α) (h : k < l.length) : (l.set k x).take (k + 1) = l.take k ++ [x] := by
  rw [List.take_succ_eq_append_getElem (by simpa using h), List.take_set_of_le (Nat.le_refl k)]
  simp

theorem take_drop_set {α : Type} (l r : List α) (k : Nat) (hk : k < l.length) (h : l.length = r.length) : (l.take k ++ r.drop k).set k l[k] = l.take (k + 1) ++ r.drop (k + 1) := by
  have h1 : (l.take k).length = k := by simp; omega
  rw [List.set_append_right _ _ (by omega), h1, Nat.sub_self]
  have h2 : r.drop k = r[k] :: r.drop (k + 1) := List.drop_eq_getElem_cons (by omega)
  rw [h2, List.set_cons_zero, List.take_succ_eq_append_getElem hk, List.append_assoc]
  rfl

theorem getD_lt {α : Type} (l : List α) (k : Nat) (z : α) (h : k < l.length) : l.getD k z = l[k] := by
  rw [List.getD_eq_getElem?_getD, List.getElem?_eq_getElem h]; rfl

end Go.Proofs.Ytmmdjajebmihhaa.AM
