/- Plainly: the draws of sails and moments: they give something, whatever the language leaves open, and what is given is in its bounds. Conditions: those that each lemma names. -/
import Derived.Test.YtbgkhcoeifbgkaaV6
import Derived.Test.YtbgkhcoeifbgkaaD0
import Derived.Test.YtbgkhcoeifbgkaaUN0
namespace Go.Proofs.Ytbgkhcoeifbgkaa.AM
open Go Go.Proofs
set_option linter.unusedVariables false

/-! ## Draws, by what they give -/

def Pst {α : Type} (o : Option α) (P : α → Prop) : Prop := ∃ y, o = some y ∧ P y
theorem pst_some {α : Type} {y : α} {P : α → Prop} (h : P y) : Pst (some y) P := ⟨y, rfl, h⟩
theorem pst_t {α : Type} {c : Bool} {a b : Option α} {P : α → Prop} (hc : c = true) (h : Pst a P) : Pst (bif c then a else b) P := by rw [hc]; exact h
theorem pst_b {α : Type} {c : Bool} {a b : Option α} {P : α → Prop} (h1 : c = true → Pst a P) (h2 : c = false → Pst b P) : Pst (bif c then a else b) P := by
  cases c
  · exact h2 rfl
  · exact h1 rfl
theorem pst_k {α : Type} {o : Option α} {P : α → Prop} (h : Pst o P) : o.isSome = true := by obtain ⟨y, e, _⟩ := h; rw [e]; rfl
theorem pst_g {α : Type} {o : Option α} {P : α → Prop} (z : α) (h : Pst o P) : P (o.getD z) := by obtain ⟨y, e, h⟩ := h; rw [e]; exact h
theorem all_t {c : Bool} {a b : Option Unit} (hc : c = true) (h : a = some ()) : (bif c then a else b) = some () := by rw [hc]; exact h
theorem all_b {c : Bool} {a b : Option Unit} (h1 : c = true → a = some ()) (h2 : c = false → b = some ()) : (bif c then a else b) = some () := by
  cases c
  · exact h2 rfl
  · exact h1 rfl


theorem odd_ok (x : I75.den) (h : CurOk x.2.1) : Pst (F75 x) fun y => CurOk y.2.1 := by
  unfold F75 r75
  dsimp only
  (repeat' (with_reducible first | refine pst_some ?_ | refine pst_t (K67_ok _ (by (repeat ((try dsimp only); first | assumption | (with_reducible first | apply G67_cur | apply G65_cur))))) ?_ | refine pst_t (K65_ok _ (by (repeat ((try dsimp only); first | assumption | (with_reducible first | apply G67_cur | apply G65_cur))))) ?_ | refine pst_b (fun _ => ?_) (fun _ => ?_))) <;> (repeat ((try dsimp only); first | assumption | (with_reducible first | apply G67_cur | apply G65_cur)))
theorem K75_ok (x : I75.den) (h : CurOk x.2.1) : K75 x = true := pst_k (odd_ok x h)
theorem G75_cur (x : I75.den) (h : CurOk x.2.1) : CurOk (G75 x).2.1 := pst_g _ (odd_ok x h)

theorem real_ok (x : I74.den) (h : CurOk x.2.1) : Pst (F74 x) fun y => CurOk y.2.1 := by
  unfold F74 r74
  dsimp only
  refine pst_t (K65_ok _ (by (repeat ((try dsimp only); first | assumption | (with_reducible first | apply G75_cur | apply G67_cur | apply G65_cur))))) ?_
  refine pst_b (fun _ => ?_) (fun _ => ?_)
  · refine pst_t (K75_ok _ (by (repeat ((try dsimp only); first | assumption | (with_reducible first | apply G75_cur | apply G67_cur | apply G65_cur))))) ?_
    exact pst_some (by (repeat ((try dsimp only); first | assumption | (with_reducible first | apply G75_cur | apply G67_cur | apply G65_cur))))
  · (repeat' (with_reducible first | refine pst_some ?_ | refine pst_t (K67_ok _ (by (repeat ((try dsimp only); first | assumption | (with_reducible first | apply G75_cur | apply G67_cur | apply G65_cur))))) ?_ | refine pst_t (K65_ok _ (by (repeat ((try dsimp only); first | assumption | (with_reducible first | apply G75_cur | apply G67_cur | apply G65_cur))))) ?_ | refine pst_b (fun _ => ?_) (fun _ => ?_))) <;> (repeat ((try dsimp only); first | assumption | (with_reducible first | apply G75_cur | apply G67_cur | apply G65_cur)))
theorem K74_ok (x : I74.den) (h : CurOk x.2.1) : K74 x = true := pst_k (real_ok x h)
theorem G74_cur (x : I74.den) (h : CurOk x.2.1) : CurOk (G74 x).2.1 := pst_g _ (real_ok x h)

theorem number_ok (x : I70.den) (h : CurOk x.2.1) : Pst (F70 x) fun y => CurOk y.2.1 := by
  unfold F70 r70
  dsimp only
  refine pst_t (K67_ok _ (by (repeat ((try dsimp only); first | assumption | (with_reducible first | apply G74_cur | apply G75_cur | apply G67_cur | apply G65_cur))))) ?_
  refine pst_b (fun _ => ?_) (fun _ => ?_)
  · refine pst_t (K71_ok _ (by (repeat ((try dsimp only); first | assumption | (with_reducible first | apply G74_cur | apply G75_cur | apply G67_cur | apply G65_cur)))) (by simp)) ?_
    exact pst_some (G71_cur _ (by (repeat ((try dsimp only); first | assumption | (with_reducible first | apply G74_cur | apply G75_cur | apply G67_cur | apply G65_cur)))) (by simp))
  · (repeat' (with_reducible first | refine pst_some ?_ | refine pst_t (K67_ok _ (by (repeat ((try dsimp only); first | assumption | (with_reducible first | apply G74_cur | apply G75_cur | apply G67_cur | apply G65_cur))))) ?_ | refine pst_t (K65_ok _ (by (repeat ((try dsimp only); first | assumption | (with_reducible first | apply G74_cur | apply G75_cur | apply G67_cur | apply G65_cur))))) ?_ | refine pst_b (fun _ => ?_) (fun _ => ?_))) <;> (repeat ((try dsimp only); first | assumption | (with_reducible first | apply G74_cur | apply G75_cur | apply G67_cur | apply G65_cur)))
theorem K70_ok (x : I70.den) (h : CurOk x.2.1) : K70 x = true := pst_k (number_ok x h)
theorem G70_cur (x : I70.den) (h : CurOk x.2.1) : CurOk (G70 x).2.1 := pst_g _ (number_ok x h)

theorem place_ok (x : I62.den) (h : CurOk x.2.1) : Pst (F62 x) fun y => CurOk y.2.1 := by
  unfold F62 r62
  dsimp only
  refine pst_t (K65_ok _ (by (repeat ((try dsimp only); first | assumption | (with_reducible first | apply G70_cur | apply G74_cur | apply G75_cur | apply G67_cur | apply G65_cur))))) ?_
  refine pst_b (fun _ => ?_) (fun _ => ?_)
  · have hl : ∀ a b c d e : Int, 0 < (((((List.replicate 5 (zero (Ty.int IntKind.i64))).set 0 a).set 1 b).set 2 c).set 3 d |>.set 4 e).length := by intros; simp only [List.length_set, List.length_replicate]; decide
    have c1 : CurOk (G65 (((), 15, ()), x.snd)).snd.fst := by (repeat ((try dsimp only); first | assumption | (with_reducible first | apply G70_cur | apply G74_cur | apply G75_cur | apply G67_cur | apply G65_cur)))
    have k := fun l (h : 0 < l.length) => K71_ok (((), (), ()), (G65 (((), 15, ()), x.snd)).snd.fst, l, ()) c1 h
    have g := fun l (h : 0 < l.length) => G71_cur (((), (), ()), (G65 (((), 15, ()), x.snd)).snd.fst, l, ()) c1 h
    have h5 := hl (-1) x.fst.snd.fst (IntKind.wrap IntKind.i64 (x.fst.snd.fst + 1)) 9223372036854775807 (-9223372036854775808)
    generalize (((((List.replicate 5 (zero (Ty.int IntKind.i64))).set 0 (-1)).set 1 x.fst.snd.fst).set 2 (IntKind.wrap IntKind.i64 (x.fst.snd.fst + 1))).set 3 9223372036854775807).set 4 (-9223372036854775808) = l at *
    refine pst_t (k l h5) ?_
    exact pst_some (g l h5)
  · refine pst_t (K67_ok _ (by (repeat ((try dsimp only); first | assumption | (with_reducible first | apply G70_cur | apply G74_cur | apply G75_cur | apply G67_cur | apply G65_cur))))) ?_
    exact pst_some (by (repeat ((try dsimp only); first | assumption | (with_reducible first | apply G70_cur | apply G74_cur | apply G75_cur | apply G67_cur | apply G65_cur))))
theorem K62_ok (x : I62.den) (h : CurOk x.2.1) : K62 x = true := pst_k (place_ok x h)
theorem G62_cur (x : I62.den) (h : CurOk x.2.1) : CurOk (G62 x).2.1 := pst_g _ (place_ok x h)

theorem pickS_ok (x : I68.den) (h : CurOk x.2.1) (hl : 0 < x.2.2.1.length) : Pst (F68 x) fun y => CurOk y.2.1 ∧ y.1.1 ∈ x.2.2.1 := by
  obtain ⟨m, c1, he, h1, h2, h3⟩ := below_ok (x.2.2.1.length : Int) x.2.1 h
  unfold F68 r68
  have he' : F67 (((), (↑(List.length x.snd.snd.fst) : Int), ()), x.snd.fst, ()) = some ((m, ()), (c1, ())) := he
  have e1 : decide (0 ≤ m) = true := decide_eq_true h2
  have h4 : m < (x.2.2.1.length : Int) := h3 (by omega)
  have e2 : decide (m < (x.2.2.1.length : Int)) = true := decide_eq_true h4
  simp only [K67, G67, he', Option.isSome_some, Option.getD_some, cond_true, e1, e2, Bool.and_self]
  refine pst_some ⟨h1, ?_⟩
  show x.2.2.1.getD m.toNat _ ∈ x.2.2.1
  rw [getD_lt _ _ _ (by omega)]
  exact List.getElem_mem _
theorem K68_ok (x : I68.den) (h : CurOk x.2.1) (hl : 0 < x.2.2.1.length) : K68 x = true := pst_k (pickS_ok x h hl)
theorem G68_ok (x : I68.den) (h : CurOk x.2.1) (hl : 0 < x.2.2.1.length) : CurOk (G68 x).2.1 ∧ (G68 x).1.1 ∈ x.2.2.1 := pst_g _ (pickS_ok x h hl)

theorem K72_t (x : Den A72) : K72 x = true := by
  unfold K72 F72 r72
  cases decide (x.2.2.1 < x.2.1) <;> cases decide (x.1 < x.2.1) <;> cases decide (x.1 > x.2.2.1) <;> rfl

theorem wrapI (n : Int) : I64 (IntKind.i64.wrap n) := by
  unfold I64
  rw [IntKind.wrap_i64]
  omega
theorem G72_I (a : Int) : I64 (G72 (IntKind.i64.wrap a, 0, 180, ())).1 := by
  have h := wrapI a
  unfold G72 F72 r72
  generalize IntKind.i64.wrap a = n at h ⊢
  have e : decide ((180 : Int) < 0) = false := rfl
  simp only [e, cond_false]
  cases decide (n < 0)
  · cases decide (n > 180)
    · exact h
    · show I64 180; unfold I64; decide
  · show I64 0; unfold I64; decide

/-! ## What is known ahead of a draw -/

def curB (c : List Int × Int × Int × Unit) : Bool := decide (0 ≤ c.2.1) && decide (c.1.length ≤ 1048576)
theorem curB_iff {c : List Int × Int × Int × Unit} : curB c = true ↔ CurOk c := by unfold curB CurOk; simp
def curZ : List Int × Int × Int × Unit := ([], 0, 0, ())
theorem curZ_ok : CurOk curZ := ⟨Int.le_refl 0, Nat.zero_le _⟩

/-! ## A single -/

def p69 (x : I69.den) : Bool := curB x.2.1
def Q69 (x : I69.den) (y : O69.den) : Prop := CurOk y.2.1
theorem e69 : Nonempty (Ch I69 O69 p69 Q69) := ⟨⟨fun _ => ((0, ()), (curZ, ())), fun _ _ => curZ_ok⟩⟩
theorem fam69 : FamOK Try.prog 69 (sgFam true I69 O69 p69 Q69 e69) := sgN_ok env69 (N := N69) (mkN_ok trivial) is69 noNLoops fun x hx k hk => by
  have h : CurOk x.2.1 := curB_iff.1 hx
  refine Eq.trans (evN69 _ _ k x) ?_
  unfold rN69
  dsimp only
  refine all_t (K74_ok _ (by (repeat ((try dsimp only); first | assumption | (with_reducible first | apply G62_cur | apply G70_cur | apply G74_cur | apply G75_cur | apply G67_cur | apply G65_cur))))) ?_
  refine all_b (fun hb => ?_) (fun _ => ?_)
  · refine all_t hb ?_
    exact hk _ (by show CurOk _; (repeat ((try dsimp only); first | assumption | (with_reducible first | apply G62_cur | apply G70_cur | apply G74_cur | apply G75_cur | apply G67_cur | apply G65_cur))))
  · exact allK_intro fun z => hk _ (by show CurOk _; (repeat ((try dsimp only); first | assumption | (with_reducible first | apply G62_cur | apply G70_cur | apply G74_cur | apply G75_cur | apply G67_cur | apply G65_cur))))

/-! ## A moment -/

def p60 (x : I60.den) : Bool := curB x.2.1
def Q60 (x : I60.den) (y : O60.den) : Prop := CurOk y.2.1 ∧ I64 y.1.1.2.1
theorem I64_zero : I64 0 := by unfold I64; decide
theorem I64_180 : I64 180 := by unfold I64; decide
theorem e60 : Nonempty (Ch I60 O60 p60 Q60) := ⟨⟨fun _ => (((0, 0, ()), ()), (curZ, ())), fun _ _ => ⟨curZ_ok, I64_zero⟩⟩⟩
theorem below_bd (n : Int) (c : List Int × Int × Int × Unit) (h : CurOk c) (hn : 0 < n) : 0 ≤ ((G67 (((), n, ()), c, ())).1.1 : Int) ∧ ((G67 (((), n, ()), c, ())).1.1 : Int) < n := by
  obtain ⟨_, h1, h2⟩ := G67_ok (((), n, ()), c, ()) h
  exact ⟨h1, h2 hn⟩
theorem fam60 : FamOK Try.prog 60 (sgFam true I60 O60 p60 Q60 e60) := sgN_ok env60 (N := N60 p69 Q69 e69) (mkN_ok ⟨fam69, trivial⟩) is60 noNLoops fun x hx k hk => by
  have h : CurOk x.2.1 := curB_iff.1 hx
  refine Eq.trans (evN60 _ _ _ _ _ _ _ _ _ k x) ?_
  unfold rN60
  dsimp only
  refine all_t (K67_ok _ (by (repeat ((try dsimp only); first | assumption | (with_reducible first | apply G62_cur | apply G70_cur | apply G74_cur | apply G75_cur | apply G67_cur | apply G65_cur))))) ?_
  refine all_t (K67_ok _ (by (repeat ((try dsimp only); first | assumption | (with_reducible first | apply G62_cur | apply G70_cur | apply G74_cur | apply G75_cur | apply G67_cur | apply G65_cur))))) ?_
  have c1 : CurOk (G67 (((), 101, ()), x.snd)).snd.fst := by (repeat ((try dsimp only); first | assumption | (with_reducible first | apply G62_cur | apply G70_cur | apply G74_cur | apply G75_cur | apply G67_cur | apply G65_cur)))
  have b3 : 0 ≤ ((G67 (((), 181, ()), (G67 (((), 101, ()), x.snd)).snd)).fst.fst : Int) ∧ ((G67 (((), 181, ()), (G67 (((), 101, ()), x.snd)).snd)).fst.fst : Int) < 181 := below_bd 181 _ c1 (by decide)
  have c3 : CurOk (G67 (((), 181, ()), (G67 (((), 101, ()), x.snd)).snd)).snd.fst := by (repeat ((try dsimp only); first | assumption | (with_reducible first | apply G62_cur | apply G70_cur | apply G74_cur | apply G75_cur | apply G67_cur | apply G65_cur)))
  generalize G67 (((), 181, ()), (G67 (((), 101, ()), x.snd)).snd) = A at *
  have i3 : ∀ z : Int, z = A.fst.fst → I64 z := fun z e => by have h1 : 0 ≤ z := e ▸ b3.1; have h2 : z < 181 := e ▸ b3.2; unfold I64; omega
  refine all_t (K67_ok _ (by (repeat ((try dsimp only); first | assumption | (with_reducible first | apply G62_cur | apply G70_cur | apply G74_cur | apply G75_cur | apply G67_cur | apply G65_cur))))) ?_
  have c5 : CurOk (G67 (((), 20, ()), A.snd)).snd.fst := by (repeat ((try dsimp only); first | assumption | (with_reducible first | apply G62_cur | apply G70_cur | apply G74_cur | apply G75_cur | apply G67_cur | apply G65_cur)))
  generalize G67 (((), 20, ()), A.snd) = B at *
  refine all_b (fun _ => ?_) (fun _ => ?_)
  · haveI := e69
    refine allK_intro fun g => ?_
    have hp : p69 (((), 300, ()), B.snd) = true := curB_iff.2 c5
    refine all_t hp ?_
    exact hk _ ⟨g.2 _ hp, i3 _ rfl⟩
  · refine all_b (fun _ => ?_) (fun _ => ?_)
    · refine all_t (K70_ok _ (by (repeat ((try dsimp only); first | assumption | (with_reducible first | apply G62_cur | apply G70_cur | apply G74_cur | apply G75_cur | apply G67_cur | apply G65_cur))))) ?_
      exact hk _ ⟨by (repeat ((try dsimp only); first | assumption | (with_reducible first | apply G62_cur | apply G70_cur | apply G74_cur | apply G75_cur | apply G67_cur | apply G65_cur))), wrapI _⟩
    · exact hk _ ⟨c5, i3 _ rfl⟩

/-! ## Sails -/

def GoodS (s : Den S23) : Prop := s.1.size ≤ 1000 ∧ I64 s.2.2.2.1 ∧ I64 s.2.2.2.2.1
def GoodSs (l : List (Den S23)) : Prop := ∀ s ∈ l, GoodS s
theorem goodS_zero : GoodS (zero S23) := ⟨Nat.zero_le _, I64_zero, I64_zero⟩
theorem GoodSs.at {l : List (Den S23)} (h : GoodSs l) (i : Nat) : GoodS (at' l i) := by
  rcases at_mem (l := l) (i := i) with h1 | h1
  · exact h _ h1
  · rw [h1]; exact goodS_zero
theorem GoodSs.app {l : List (Den S23)} {s : Den S23} (h : GoodSs l) (hs : GoodS s) : GoodSs (l ++ [s]) := by
  intro t ht
  rcases List.mem_append.1 ht with h1 | h1
  · exact h t h1
  · rw [List.mem_singleton.1 h1]; exact hs
theorem GoodSs.set {l : List (Den S23)} {i : Nat} {s : Den S23} (h : GoodSs l) (hs : GoodS s) : GoodSs (l.set i s) := by
  intro t ht
  rcases List.mem_or_eq_of_mem_set ht with h1 | h1
  · exact h t h1
  · rw [h1]; exact hs
theorem GoodSs.good {l : List (Den S23)} (h : GoodSs l) (hl : l.length ≤ 13) : GoodL l :=
  ⟨by omega, fun i => by have := (h.at i).1; omega, fun i => ⟨(h.at i).2.1, (h.at i).2.2⟩⟩

theorem set1 {α : Type} (z x : α) : (List.replicate 1 z).set 0 x = [x] := rfl

theorem crt_loop (v : V59_4) (h : CurOk v.2.1) (hn : ∀ s ∈ v.2.2.1, s.size ≤ 1000) (hn6 : v.2.2.1.length = 6) (h0 : 0 ≤ v.1.2.2.2.1) (h1 : (v.2.2.2.1.length : Int) + v.1.2.2.2.1 ≤ 5) (h2 : 1 ≤ (v.2.2.2.1.length : Int) + v.1.2.2.2.1) (hg : GoodSs v.2.2.2.1) :
    Pst (l59_4 v) fun y => CurOk y.2.1 ∧ GoodSs y.2.2.1 ∧ y.2.2.1.length ≤ 5 ∧ 1 ≤ y.2.2.1.length := by
  refine iter_ind (q := q59_4 K67 G67 K65 G65 K68 G68 K69 G69 K70 G70) (fun v => CurOk v.2.1 ∧ (∀ s ∈ v.2.2.1, s.size ≤ 1000) ∧ v.2.2.1.length = 6 ∧ 0 ≤ v.1.2.2.2.1 ∧ (v.2.2.2.1.length : Int) + v.1.2.2.2.1 ≤ 5 ∧ 1 ≤ (v.2.2.2.1.length : Int) + v.1.2.2.2.1 ∧ GoodSs v.2.2.2.1)
    (fun _ r => Pst r fun y => CurOk y.2.1 ∧ GoodSs y.2.2.1 ∧ y.2.2.1.length ≤ 5 ∧ 1 ≤ y.2.2.1.length) (fun v => v.1.2.2.2.1.toNat) ?_ _ _ ⟨h, hn, hn6, h0, h1, h2, hg⟩ (Nat.lt_of_lt_of_le (m := 1000) (by omega) (Nat.le_add_left _ _))
  clear h hn hn6 h0 h1 h2 hg v
  rintro ⟨⟨_, _, _, k, _⟩, c, ns, l, _⟩ f ⟨g0, g1, g2, g3, g4, g5, g6⟩ ih
  simp only at g0 g1 g2 g3 g4 g5 g6 ih
  unfold q59_4
  dsimp only
  by_cases hk : k > 0
  · refine pst_t (by simpa using hk) ?_
    refine pst_t (K67_ok _ (by (repeat ((try dsimp only); first | assumption | (with_reducible first | apply G62_cur | apply G70_cur | apply G74_cur | apply G75_cur | apply G67_cur | apply G65_cur))))) ?_
    refine pst_t (K67_ok _ (by (repeat ((try dsimp only); first | assumption | (with_reducible first | apply G62_cur | apply G70_cur | apply G74_cur | apply G75_cur | apply G67_cur | apply G65_cur))))) ?_
    have c1 : CurOk (G67 (((), 16, ()), c, ())).snd.fst := by (repeat ((try dsimp only); first | assumption | (with_reducible first | apply G62_cur | apply G70_cur | apply G74_cur | apply G75_cur | apply G67_cur | apply G65_cur)))
    have b1 : 0 ≤ ((G67 (((), 100, ()), (G67 (((), 16, ()), c, ())).snd)).fst.fst : Int) ∧ ((G67 (((), 100, ()), (G67 (((), 16, ()), c, ())).snd)).fst.fst : Int) < 100 := below_bd 100 _ c1 (by decide)
    have c2 : CurOk (G67 (((), 100, ()), (G67 (((), 16, ()), c, ())).snd)).snd.fst := by (repeat ((try dsimp only); first | assumption | (with_reducible first | apply G62_cur | apply G70_cur | apply G74_cur | apply G75_cur | apply G67_cur | apply G65_cur)))
    generalize G67 (((), 100, ()), (G67 (((), 16, ()), c, ())).snd) = A at *
    generalize G67 (((), 16, ()), c, ()) = B at *
    have i1 : ∀ z : Int, z = A.fst.fst → I64 z := fun z e => by have h1 : 0 ≤ z := e ▸ b1.1; have h2 : z < 100 := e ▸ b1.2; unfold I64; omega
    refine pst_t ?_ ?_
    · simp; omega
    refine pst_t (K67_ok _ (by (repeat ((try dsimp only); first | assumption | (with_reducible first | apply G62_cur | apply G70_cur | apply G74_cur | apply G75_cur | apply G67_cur | apply G65_cur))))) ?_
    refine pst_t (K67_ok _ (by (repeat ((try dsimp only); first | assumption | (with_reducible first | apply G62_cur | apply G70_cur | apply G74_cur | apply G75_cur | apply G67_cur | apply G65_cur))))) ?_
    refine pst_t (K65_ok _ (by (repeat ((try dsimp only); first | assumption | (with_reducible first | apply G62_cur | apply G70_cur | apply G74_cur | apply G75_cur | apply G67_cur | apply G65_cur))))) ?_
    have e : IntKind.i64.wrap (k - 1) = k - 1 := w64 (by omega) (by omega)
    have hname : (ns.getD (Int.toNat (l.length : Int)) (zero Ty.str)).size ≤ 1000 := by
      rw [Int.toNat_natCast, getD_lt _ _ _ (by omega)]
      exact g1 _ (List.getElem_mem _)
    simp only [set1, List.length_singleton]
    refine pst_b (fun _ => ?_) (fun _ => ?_)
    · refine pst_t (capOk_of (by omega)) ?_
      refine ih _ ⟨by (repeat ((try dsimp only); first | assumption | (with_reducible first | apply G62_cur | apply G70_cur | apply G74_cur | apply G75_cur | apply G67_cur | apply G65_cur))), g1, g2, ?_, ?_, ?_, g6.app ⟨hname, I64_zero, I64_180⟩⟩ ?_ <;> simp only [e, List.length_append, List.length_singleton] <;> omega
    · refine pst_t (capOk_of (by omega)) ?_
      refine ih _ ⟨by (repeat ((try dsimp only); first | assumption | (with_reducible first | apply G62_cur | apply G70_cur | apply G74_cur | apply G75_cur | apply G67_cur | apply G65_cur))), g1, g2, ?_, ?_, ?_, g6.app ⟨hname, i1 _ rfl, wrapI _⟩⟩ ?_ <;> simp only [e, List.length_append, List.length_singleton] <;> omega
  · have : decide (k > 0) = false := by simpa using hk
    rw [this]
    exact pst_some ⟨g0, g6, by show l.length ≤ 5; omega, by show 1 ≤ l.length; omega⟩

theorem many_loop (v : V59_29) (h : CurOk v.2.1) (h1 : v.2.2.1.length ≤ 13) (h2 : 1 ≤ v.2.2.1.length) (hg : GoodSs v.2.2.1) : Pst (l59_29 v) fun y => CurOk y.2.1 ∧ GoodSs y.2.2.1 ∧ y.2.2.1.length ≤ 13 := by
  refine iter_ind (q := q59_29 K67 G67 K65 G65 K68 G68 K69 G69 K70 G70) (fun v => CurOk v.2.1 ∧ v.2.2.1.length ≤ 13 ∧ 1 ≤ v.2.2.1.length ∧ GoodSs v.2.2.1)
    (fun _ r => Pst r fun y => CurOk y.2.1 ∧ GoodSs y.2.2.1 ∧ y.2.2.1.length ≤ 13) (fun v => 13 - v.2.2.1.length) ?_ _ _ ⟨h, h1, h2, hg⟩ (Nat.lt_of_lt_of_le (m := 1000) (by omega) (Nat.le_add_left _ _))
  clear h h1 h2 hg v
  rintro ⟨⟨_, _, _⟩, c, l, _⟩ f ⟨g0, g1, g2, g3⟩ ih
  simp only at g0 g1 g2 g3 ih
  unfold q59_29
  dsimp only
  refine pst_t (K67_ok _ (by (repeat ((try dsimp only); first | assumption | (with_reducible first | apply G62_cur | apply G70_cur | apply G74_cur | apply G75_cur | apply G67_cur | apply G65_cur))))) ?_
  have b2 : 0 ≤ ((G67 (((), 2, ()), c, ())).fst.fst : Int) ∧ ((G67 (((), 2, ()), c, ())).fst.fst : Int) < 2 := below_bd 2 c g0 (by decide)
  have c2 : CurOk (G67 (((), 2, ()), c, ())).snd.fst := by (repeat ((try dsimp only); first | assumption | (with_reducible first | apply G62_cur | apply G70_cur | apply G74_cur | apply G75_cur | apply G67_cur | apply G65_cur)))
  generalize G67 (((), 2, ()), c, ()) = D at *
  have bd : ∀ z : Int, z = D.fst.fst → IntKind.i64.wrap (12 + z) ≤ 13 := fun z e => by
    have h1 : 0 ≤ z := e ▸ b2.1
    have h2 : z < 2 := e ▸ b2.2
    rw [w64 (by omega) (by omega)]
    omega
  have bd' := bd _ rfl
  by_cases hl : (l.length : Int) < IntKind.i64.wrap (12 + D.fst.fst)
  · refine pst_t (by simpa using hl) ?_
    have hl' : (l.length : Int) < 13 := Int.lt_of_lt_of_le hl bd'
    refine pst_t ?_ ?_
    · have : decide (0 < (l.length : Int)) = true := by simp; omega
      rw [this]; rfl
    simp only [set1, List.length_singleton]
    refine pst_t (capOk_of (by omega)) ?_
    refine ih _ ⟨c2, ?_, ?_, g3.app ⟨?_, (g3.at 0).2.1, (g3.at 0).2.2⟩⟩ ?_
    · simp only [List.length_append, List.length_singleton]; omega
    · simp only [List.length_append, List.length_singleton]; omega
    · have hb : ∀ z : Int, (bstrOf [z]).size = 1 := fun _ => rfl
      simp only [ByteArray.size_append, hb]
      show 1 + 1 ≤ 1000
      decide
    · simp only [List.length_append, List.length_singleton]; omega
  · have : decide ((l.length : Int) < IntKind.i64.wrap (12 + D.fst.fst)) = false := by simpa using hl
    rw [this]
    exact pst_some ⟨c2, g3, g1⟩

theorem crt_k (v : V59_4) (h : CurOk v.2.1) (hn : ∀ s ∈ v.2.2.1, s.size ≤ 1000) (hn6 : v.2.2.1.length = 6) (h0 : 0 ≤ v.1.2.2.2.1) (h1 : (v.2.2.2.1.length : Int) + v.1.2.2.2.1 ≤ 5) (h2 : 1 ≤ (v.2.2.2.1.length : Int) + v.1.2.2.2.1) (hg : GoodSs v.2.2.2.1) :
    kL59_4 v = true ∧ CurOk (xL59_4 v).2.1 ∧ GoodSs (xL59_4 v).2.2.1 ∧ (xL59_4 v).2.2.1.length ≤ 5 ∧ 1 ≤ (xL59_4 v).2.2.1.length := ⟨pst_k (crt_loop v h hn hn6 h0 h1 h2 hg), pst_g _ (crt_loop v h hn hn6 h0 h1 h2 hg)⟩
theorem many_k (v : V59_29) (h : CurOk v.2.1) (h1 : v.2.2.1.length ≤ 13) (h2 : 1 ≤ v.2.2.1.length) (hg : GoodSs v.2.2.1) : kL59_29 v = true ∧ CurOk (xL59_29 v).2.1 ∧ GoodSs (xL59_29 v).2.2.1 ∧ (xL59_29 v).2.2.1.length ≤ 13 := ⟨pst_k (many_loop v h h1 h2 hg), pst_g _ (many_loop v h h1 h2 hg)⟩

def p59 (x : I59.den) : Bool := curB x.2.1
def Q59 (x : I59.den) (y : O59.den) : Prop := CurOk y.2.1 ∧ GoodSs y.2.2.1 ∧ y.2.2.1.length ≤ 13
theorem e59 : Nonempty (Ch I59 O59 p59 Q59) := ⟨⟨fun _ => (((), ()), (curZ, ([], ()))), fun _ _ => ⟨curZ_ok, (fun _ h => by cases h), Nat.zero_le _⟩⟩⟩

def names6 : List ByteArray := (((((List.replicate 6 (zero Ty.str)).set 0 { data := #[109, 97, 105, 110] }).set 1 { data := #[106, 105, 98] }).set 2 { data := #[103, 101, 110, 111, 97] }).set 3 { data := #[115, 116, 111, 114, 109] }).set 4 { data := #[99, 111, 100, 101] } |>.set 5 { data := #[107, 105, 116, 101] }
theorem names6_ok : (∀ s ∈ names6, s.size ≤ 1000) ∧ names6.length = 6 := by
  have h : (names6.all fun s => Nat.ble s.size 1000) = true := rfl
  exact ⟨fun s hs => Nat.le_of_ble_eq_true (List.all_eq_true.1 h s hs), rfl⟩
def names5 (s : ByteArray) : List ByteArray := ((((List.replicate 5 (zero Ty.str)).set 0 { data := #[] }).set 1 { data := #[74, 105, 98] }).set 2 { data := #[97, 98, 99, 100, 101, 102, 103, 104, 105, 106, 107, 108, 109, 110, 111, 112, 113] }).set 3 { data := #[97, 98, 99, 100, 101, 102, 103, 104, 105, 106, 107, 108, 109, 110, 111, 112] } |>.set 4 s
theorem names5_ok {s : ByteArray} (h : s.size ≤ 1000) : ∀ t ∈ names5 s, t.size ≤ 1000 := by
  intro t ht
  have h0 : ((((List.replicate 5 (zero Ty.str)).set 0 { data := #[] }).set 1 { data := #[74, 105, 98] }).set 2 { data := #[97, 98, 99, 100, 101, 102, 103, 104, 105, 106, 107, 108, 109, 110, 111, 112, 113] } |>.set 3 { data := #[97, 98, 99, 100, 101, 102, 103, 104, 105, 106, 107, 108, 109, 110, 111, 112] }).all (fun s : ByteArray => Nat.ble s.size 1000) = true := rfl
  rcases List.mem_or_eq_of_mem_set ht with h1 | h1
  · exact Nat.le_of_ble_eq_true (List.all_eq_true.1 h0 t h1)
  · rw [h1]; exact h

theorem fam59 : FamOK Try.prog 59 (sgFam true I59 O59 p59 Q59 e59) := sgN_ok env59 (N := N59 p69 Q69 e69) (mkN_ok ⟨fam69, trivial⟩) is59 noNLoops fun x hx k hk => by
  have h : CurOk x.2.1 := curB_iff.1 hx
  refine Eq.trans (evN59 _ _ _ _ _ _ _ _ _ _ _ _ _ _ _ _ _ k x) ?_
  unfold rN59
  dsimp only
  refine all_t (K67_ok _ (by (repeat ((try dsimp only); first | assumption | (with_reducible first | apply G62_cur | apply G70_cur | apply G74_cur | apply G75_cur | apply G67_cur | apply G65_cur))))) ?_
  have b5 : 0 ≤ ((G67 (((), 5, ()), x.snd)).fst.fst : Int) ∧ ((G67 (((), 5, ()), x.snd)).fst.fst : Int) < 5 := below_bd 5 x.2.1 h (by decide)
  have c5 : CurOk (G67 (((), 5, ()), x.snd)).snd.fst := by (repeat ((try dsimp only); first | assumption | (with_reducible first | apply G62_cur | apply G70_cur | apply G74_cur | apply G75_cur | apply G67_cur | apply G65_cur)))
  generalize G67 (((), 5, ()), x.snd) = D at *
  have bd : ∀ z : Int, z = D.fst.fst → 1 ≤ IntKind.i64.wrap (1 + z) ∧ IntKind.i64.wrap (1 + z) ≤ 5 := fun z e => by
    have h1 : 0 ≤ z := e ▸ b5.1
    have h2 : z < 5 := e ▸ b5.2
    rw [w64 (by omega) (by omega)]
    omega
  obtain ⟨w1, w2⟩ := bd _ rfl
  obtain ⟨k1, cy, gy, ly, ly1⟩ := crt_k (((), (), (), IntKind.i64.wrap (1 + D.fst.fst), ()), D.snd.fst, names6, [], ()) c5 names6_ok.1 names6_ok.2 (by show 0 ≤ IntKind.i64.wrap (1 + D.fst.fst); omega) (by simpa using w2) (by simpa using w1) (fun _ h => by cases h)
  refine all_t k1 ?_
  have hz : List.replicate 0 (zero S23) = [] := rfl
  unfold names6 at cy gy ly ly1
  rw [hz]
  generalize xL59_4 _ = y at *
  refine all_t (K67_ok _ (by (repeat ((try dsimp only); first | assumption | (with_reducible first | apply G62_cur | apply G70_cur | apply G74_cur | apply G75_cur | apply G67_cur | apply G65_cur))))) ?_
  have b12 : 0 ≤ ((G67 (((), (y.2.2.1.length : Int), ()), y.snd.fst, ())).fst.fst : Int) ∧ ((G67 (((), (y.2.2.1.length : Int), ()), y.snd.fst, ())).fst.fst : Int) < (y.2.2.1.length : Int) := below_bd _ y.2.1 cy (by omega)
  have c12 : CurOk (G67 (((), (y.2.2.1.length : Int), ()), y.snd.fst, ())).snd.fst := by (repeat ((try dsimp only); first | assumption | (with_reducible first | apply G62_cur | apply G70_cur | apply G74_cur | apply G75_cur | apply G67_cur | apply G65_cur)))
  generalize G67 (((), (y.2.2.1.length : Int), ()), y.snd.fst, ()) = I at *
  refine all_t (K67_ok _ (by (repeat ((try dsimp only); first | assumption | (with_reducible first | apply G62_cur | apply G70_cur | apply G74_cur | apply G75_cur | apply G67_cur | apply G65_cur))))) ?_
  have c14 : CurOk (G67 (((), 24, ()), I.snd)).snd.fst := by (repeat ((try dsimp only); first | assumption | (with_reducible first | apply G62_cur | apply G70_cur | apply G74_cur | apply G75_cur | apply G67_cur | apply G65_cur)))
  generalize G67 (((), 24, ()), I.snd) = M at *
  have hidx : (decide (0 ≤ I.fst.fst) && decide (I.fst.fst < ((y.snd.snd.fst.length : Nat) : Int))) = true := by
    rw [decide_eq_true b12.1, decide_eq_true b12.2]; rfl
  have hat : ∀ i, GoodS (List.getD y.snd.snd.fst i (zero S23)) := fun i => gy.at i
  refine all_b (fun _ => ?_) (fun _ => ?_)
  · refine all_t ?_ ?_
    · have : decide (0 < ((y.snd.snd.fst.length : Nat) : Int)) = true := by simp; omega
      rw [this]; rfl
    obtain ⟨nm, hnm⟩ : ∃ nm, nm = names5 (List.getD y.snd.snd.fst (Int.toNat 0) (zero S23)).fst := ⟨_, rfl⟩
    have h5 : ∀ t ∈ nm, t.size ≤ 1000 := by rw [hnm]; exact names5_ok (hat _).1
    have h5l : 0 < nm.length := by rw [hnm]; simp [names5]
    unfold names5 at hnm
    rw [← hnm]
    refine all_t (K68_ok (((), (), ()), M.snd.fst, nm, ()) c14 h5l) ?_
    obtain ⟨c22, m22⟩ := G68_ok (((), (), ()), M.snd.fst, nm, ()) c14 h5l
    refine all_t hidx ?_
    exact hk _ ⟨c22, gy.set ⟨h5 _ m22, (hat _).2⟩, by simp only [List.length_set]; omega⟩
  refine all_b (fun _ => ?_) (fun _ => ?_)
  · haveI := e69
    refine allK_intro fun g => ?_
    have hp : p69 (((), 300, ()), M.snd) = true := curB_iff.2 c14
    refine all_t hp ?_
    refine all_t hidx ?_
    exact hk _ ⟨g.2 _ hp, gy.set (hat _), by simp only [List.length_set]; omega⟩
  refine all_b (fun _ => ?_) (fun _ => ?_)
  · haveI := e69
    refine allK_intro fun g => ?_
    have hp : p69 (((), 300, ()), M.snd) = true := curB_iff.2 c14
    refine all_t hp ?_
    refine all_t hidx ?_
    exact hk _ ⟨g.2 _ hp, gy.set (hat _), by simp only [List.length_set]; omega⟩
  refine all_b (fun _ => ?_) (fun _ => ?_)
  · refine all_t (K70_ok _ (by (repeat ((try dsimp only); first | assumption | (with_reducible first | apply G62_cur | apply G70_cur | apply G74_cur | apply G75_cur | apply G67_cur | apply G65_cur))))) ?_
    refine all_t hidx ?_
    exact hk _ ⟨by (repeat ((try dsimp only); first | assumption | (with_reducible first | apply G62_cur | apply G70_cur | apply G74_cur | apply G75_cur | apply G67_cur | apply G65_cur))), gy.set ⟨(hat _).1, (hat _).2.1, wrapI _⟩, by simp only [List.length_set]; omega⟩
  refine all_b (fun _ => ?_) (fun _ => ?_)
  · refine all_t (K70_ok _ (by (repeat ((try dsimp only); first | assumption | (with_reducible first | apply G62_cur | apply G70_cur | apply G74_cur | apply G75_cur | apply G67_cur | apply G65_cur))))) ?_
    refine all_t hidx ?_
    exact hk _ ⟨by (repeat ((try dsimp only); first | assumption | (with_reducible first | apply G62_cur | apply G70_cur | apply G74_cur | apply G75_cur | apply G67_cur | apply G65_cur))), gy.set ⟨(hat _).1, wrapI _, (hat _).2.2⟩, by simp only [List.length_set]; omega⟩
  refine all_b (fun _ => ?_) (fun _ => ?_)
  · exact hk _ ⟨c14, (fun _ h => by cases h), Nat.zero_le _⟩
  refine all_b (fun _ => ?_) (fun _ => ?_)
  · obtain ⟨k2, c16, g16, l16⟩ := many_k (((), (), ()), M.snd.fst, y.snd.snd) c14 (by show y.2.2.1.length ≤ 13; omega) ly1 gy
    refine all_t k2 ?_
    exact hk _ ⟨c16, g16, l16⟩
  · exact hk _ ⟨c14, gy, by show y.2.2.1.length ≤ 13; omega⟩

end Go.Proofs.Ytbgkhcoeifbgkaa.AM
