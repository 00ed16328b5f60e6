/- Plainly: the draws of winds: they give something, whatever the language leaves open. Conditions: those that each lemma names. -/
import Derived.Test.YtmmdjajebmihhaaP1
import Derived.Test.YtmmdjajebmihhaaD0
import Derived.Test.YtmmdjajebmihhaaUN0
namespace Go.Proofs.Ytmmdjajebmihhaa.AM
open Go Go.Proofs
set_option linter.unusedVariables false

/-! ## Draws, by what they give -/

def Pst {α : Type} (o : Option α) (P : α → Prop) : Prop := ∃ y, o = some y ∧ P y
theorem pst_some {α : Type} {y : α} {P : α → Prop} (h : P y) : Pst (some y) P := ⟨y, rfl, h⟩
theorem pst_t {α : Type} {c : Bool} {a b : Option α} {P : α → Prop} (hc : c = true) (h : Pst a P) : Pst (bif c then a else b) P := by rw [hc]; exact h
theorem pst_b {α : Type} {c : Bool} {a b : Option α} {P : α → Prop} (h1 : c = true → Pst a P) (h2 : c = false → Pst b P) : Pst (bif c then a else b) P := by
  cases c
  · exact h2 rfl
  · exact h1 rfl
theorem pst_k {α : Type} {o : Option α} {P : α → Prop} (h : Pst o P) : o.isSome = true := by obtain ⟨y, e, _⟩ := h; rw [e]; rfl
theorem pst_g {α : Type} {o : Option α} {P : α → Prop} (z : α) (h : Pst o P) : P (o.getD z) := by obtain ⟨y, e, h⟩ := h; rw [e]; exact h
theorem all_t {c : Bool} {a b : Option Unit} (hc : c = true) (h : a = some ()) : (bif c then a else b) = some () := by rw [hc]; exact h
theorem all_b {c : Bool} {a b : Option Unit} (h1 : c = true → a = some ()) (h2 : c = false → b = some ()) : (bif c then a else b) = some () := by
  cases c
  · exact h2 rfl
  · exact h1 rfl


theorem odd_ok (x : I106.den) (h : CurOk x.2.1) : Pst (F106 x) fun y => CurOk y.2.1 := by
  unfold F106 r106
  dsimp only
  (repeat' (with_reducible first | refine pst_some ?_ | refine pst_t (K66_ok _ (by (repeat ((try dsimp only); first | assumption | (with_reducible first | apply G66_cur | apply G45_cur))))) ?_ | refine pst_t (K45_ok _ (by (repeat ((try dsimp only); first | assumption | (with_reducible first | apply G66_cur | apply G45_cur))))) ?_ | refine pst_b (fun _ => ?_) (fun _ => ?_))) <;> (repeat ((try dsimp only); first | assumption | (with_reducible first | apply G66_cur | apply G45_cur)))
theorem K106_ok (x : I106.den) (h : CurOk x.2.1) : K106 x = true := pst_k (odd_ok x h)
theorem G106_cur (x : I106.den) (h : CurOk x.2.1) : CurOk (G106 x).2.1 := pst_g _ (odd_ok x h)

theorem real_ok (x : I80.den) (h : CurOk x.2.1) : Pst (F80 x) fun y => CurOk y.2.1 := by
  unfold F80 r80
  dsimp only
  refine pst_t (K45_ok _ (by (repeat ((try dsimp only); first | assumption | (with_reducible first | apply G106_cur | apply G66_cur | apply G45_cur))))) ?_
  refine pst_b (fun _ => ?_) (fun _ => ?_)
  · refine pst_t (K106_ok _ (by (repeat ((try dsimp only); first | assumption | (with_reducible first | apply G106_cur | apply G66_cur | apply G45_cur))))) ?_
    exact pst_some (by (repeat ((try dsimp only); first | assumption | (with_reducible first | apply G106_cur | apply G66_cur | apply G45_cur))))
  · (repeat' (with_reducible first | refine pst_some ?_ | refine pst_t (K66_ok _ (by (repeat ((try dsimp only); first | assumption | (with_reducible first | apply G106_cur | apply G66_cur | apply G45_cur))))) ?_ | refine pst_t (K45_ok _ (by (repeat ((try dsimp only); first | assumption | (with_reducible first | apply G106_cur | apply G66_cur | apply G45_cur))))) ?_ | refine pst_b (fun _ => ?_) (fun _ => ?_))) <;> (repeat ((try dsimp only); first | assumption | (with_reducible first | apply G106_cur | apply G66_cur | apply G45_cur)))
theorem K80_ok (x : I80.den) (h : CurOk x.2.1) : K80 x = true := pst_k (real_ok x h)
theorem G80_cur (x : I80.den) (h : CurOk x.2.1) : CurOk (G80 x).2.1 := pst_g _ (real_ok x h)

theorem number_ok (x : I75.den) (h : CurOk x.2.1) : Pst (F75 x) fun y => CurOk y.2.1 := by
  unfold F75 r75
  dsimp only
  refine pst_t (K66_ok _ (by (repeat ((try dsimp only); first | assumption | (with_reducible first | apply G80_cur | apply G106_cur | apply G66_cur | apply G45_cur))))) ?_
  refine pst_b (fun _ => ?_) (fun _ => ?_)
  · refine pst_t (K76_ok _ (by (repeat ((try dsimp only); first | assumption | (with_reducible first | apply G80_cur | apply G106_cur | apply G66_cur | apply G45_cur)))) (by simp)) ?_
    exact pst_some (G76_cur _ (by (repeat ((try dsimp only); first | assumption | (with_reducible first | apply G80_cur | apply G106_cur | apply G66_cur | apply G45_cur)))) (by simp))
  · (repeat' (with_reducible first | refine pst_some ?_ | refine pst_t (K66_ok _ (by (repeat ((try dsimp only); first | assumption | (with_reducible first | apply G80_cur | apply G106_cur | apply G66_cur | apply G45_cur))))) ?_ | refine pst_t (K45_ok _ (by (repeat ((try dsimp only); first | assumption | (with_reducible first | apply G80_cur | apply G106_cur | apply G66_cur | apply G45_cur))))) ?_ | refine pst_b (fun _ => ?_) (fun _ => ?_))) <;> (repeat ((try dsimp only); first | assumption | (with_reducible first | apply G80_cur | apply G106_cur | apply G66_cur | apply G45_cur)))
theorem K75_ok (x : I75.den) (h : CurOk x.2.1) : K75 x = true := pst_k (number_ok x h)
theorem G75_cur (x : I75.den) (h : CurOk x.2.1) : CurOk (G75 x).2.1 := pst_g _ (number_ok x h)

/-! ## What is known ahead of a draw -/

def curB (c : List Int × Int × Int × Unit) : Bool := decide (0 ≤ c.2.1) && decide (c.1.length ≤ 1048576)
theorem curB_iff {c : List Int × Int × Int × Unit} : curB c = true ↔ CurOk c := by unfold curB CurOk; simp
def curZ : List Int × Int × Int × Unit := ([], 0, 0, ())
theorem curZ_ok : CurOk curZ := ⟨Int.le_refl 0, Nat.zero_le _⟩

/-! ## A single -/

def p107 (x : I107.den) : Bool := curB x.2.1
def Q107 (x : I107.den) (y : O107.den) : Prop := CurOk y.2.1
theorem e107 : Nonempty (Ch I107 O107 p107 Q107) := ⟨⟨fun _ => ((0, ()), (curZ, ())), fun _ _ => curZ_ok⟩⟩
theorem fam107 : FamOK Try.prog 107 (sgFam true I107 O107 p107 Q107 e107) := sgN_ok env107 (N := N107) (mkN_ok trivial) is107 noNLoops fun x hx k hk => by
  have h : CurOk x.2.1 := curB_iff.1 hx
  refine Eq.trans (evN107 _ _ k x) ?_
  unfold rN107
  dsimp only
  refine all_t (K80_ok _ (by (repeat ((try dsimp only); first | assumption | (with_reducible first | apply G75_cur | apply G80_cur | apply G106_cur | apply G66_cur | apply G45_cur))))) ?_
  refine all_b (fun hb => ?_) (fun _ => ?_)
  · refine all_t hb ?_
    exact hk _ (by show CurOk _; (repeat ((try dsimp only); first | assumption | (with_reducible first | apply G75_cur | apply G80_cur | apply G106_cur | apply G66_cur | apply G45_cur))))
  · exact allK_intro fun z => hk _ (by show CurOk _; (repeat ((try dsimp only); first | assumption | (with_reducible first | apply G75_cur | apply G80_cur | apply G106_cur | apply G66_cur | apply G45_cur))))


theorem below_bd (n : Int) (c : List Int × Int × Int × Unit) (h : CurOk c) (hn : 0 < n) : 0 ≤ ((G66 (((), n, ()), c, ())).1.1 : Int) ∧ ((G66 (((), n, ()), c, ())).1.1 : Int) < n := by
  obtain ⟨_, h1, h2⟩ := G66_ok (((), n, ()), c, ()) h
  exact ⟨h1, h2 hn⟩

/-! ## Winds -/

def p90 (x : I90.den) : Bool := curB x.2.1
def Q90 (x : I90.den) (y : O90.den) : Prop := CurOk y.2.1
theorem e90 : Nonempty (Ch I90 O90 p90 Q90) := ⟨⟨fun _ => (((0, 0), ()), (curZ, ())), fun _ _ => curZ_ok⟩⟩
theorem fam90 : FamOK Try.prog 90 (sgFam true I90 O90 p90 Q90 e90) := sgN_ok env90 (N := N90 p107 Q107 e107) (mkN_ok ⟨fam107, trivial⟩) is90 noNLoops fun x hx k hk => by
  have hk : ∀ y : O90.den, CurOk y.2.1 → k y = some () := hk
  have h : CurOk x.2.1 := curB_iff.1 hx
  refine Eq.trans (evN90 _ _ _ _ _ _ _ _ _ _ _ k x) ?_
  unfold rN90
  dsimp only
  haveI := e107
  refine all_t (K45_ok _ (by (repeat ((try dsimp only); first | assumption | (with_reducible first | apply G75_cur | apply G80_cur | apply G106_cur | apply G66_cur | apply G45_cur))))) ?_
  refine all_b (fun _ => ?_) (fun _ => ?_)
  · refine all_t (K106_ok _ (by (repeat ((try dsimp only); first | assumption | (with_reducible first | apply G75_cur | apply G80_cur | apply G106_cur | apply G66_cur | apply G45_cur))))) ?_
    refine all_b (fun h1 => ?_) (fun _ => ?_)
    · refine all_t h1 ?_
      refine all_t (K106_ok _ (by (repeat ((try dsimp only); first | assumption | (with_reducible first | apply G75_cur | apply G80_cur | apply G106_cur | apply G66_cur | apply G45_cur))))) ?_
      refine all_b (fun h2 => ?_) (fun _ => ?_)
      · refine all_t h2 ?_
        exact hk _ (by (repeat ((try dsimp only); first | assumption | (with_reducible first | apply G75_cur | apply G80_cur | apply G106_cur | apply G66_cur | apply G45_cur))))
      · exact allK_intro fun z => hk _ (by (repeat ((try dsimp only); first | assumption | (with_reducible first | apply G75_cur | apply G80_cur | apply G106_cur | apply G66_cur | apply G45_cur))))
    · refine allK_intro fun z => ?_
      refine all_t (K106_ok _ (by (repeat ((try dsimp only); first | assumption | (with_reducible first | apply G75_cur | apply G80_cur | apply G106_cur | apply G66_cur | apply G45_cur))))) ?_
      refine all_b (fun h2 => ?_) (fun _ => ?_)
      · refine all_t h2 ?_
        exact hk _ (by (repeat ((try dsimp only); first | assumption | (with_reducible first | apply G75_cur | apply G80_cur | apply G106_cur | apply G66_cur | apply G45_cur))))
      · exact allK_intro fun z => hk _ (by (repeat ((try dsimp only); first | assumption | (with_reducible first | apply G75_cur | apply G80_cur | apply G106_cur | apply G66_cur | apply G45_cur))))
  · refine all_t (K45_ok _ (by (repeat ((try dsimp only); first | assumption | (with_reducible first | apply G75_cur | apply G80_cur | apply G106_cur | apply G66_cur | apply G45_cur))))) ?_
    have c3 : CurOk (G45 (((), 20, ()), (G45 (((), 30, ()), x.snd)).snd)).snd.fst := by (repeat ((try dsimp only); first | assumption | (with_reducible first | apply G75_cur | apply G80_cur | apply G106_cur | apply G66_cur | apply G45_cur)))
    generalize G45 (((), 20, ()), (G45 (((), 30, ()), x.snd)).snd) = A at *
    refine all_b (fun _ => ?_) (fun _ => ?_)
    · refine all_t (K76_ok _ c3 (by simp)) ?_
      have c9 := G76_cur (((), (), ()), A.snd.fst, ((((List.replicate 4 (zero (Ty.int IntKind.i64))).set 0 100).set 1 (-100)).set 2 101).set 3 0, ()) c3 (by simp)
      refine allK_intro fun g => ?_
      have hp : p107 (((), 100, ()), (G76 (((), (), ()), A.snd.fst, ((((List.replicate 4 (zero (Ty.int IntKind.i64))).set 0 100).set 1 (-100)).set 2 101).set 3 0, ())).snd.fst, ()) = true := curB_iff.2 c9
      refine all_t hp ?_
      exact hk _ (g.2 _ hp)
    · refine allK_intro fun g => ?_
      have hp : p107 (((), 15, ()), A.snd) = true := curB_iff.2 c3
      refine all_t hp ?_
      refine allK_intro fun g2 => ?_
      have hp2 : p107 (((), 15, ()), (g.val (((), 15, ()), A.snd)).snd) = true := curB_iff.2 (g.2 _ hp)
      refine all_t hp2 ?_
      exact hk _ (g2.2 _ hp2)

def p74 (x : I74.den) : Bool := curB x.2.1
def Q74 (x : I74.den) (y : O74.den) : Prop := CurOk y.2.1
theorem e74 : Nonempty (Ch I74 O74 p74 Q74) := ⟨⟨fun _ => (((0, 0), ()), (curZ, ())), fun _ _ => curZ_ok⟩⟩
theorem fam74 : FamOK Try.prog 74 (sgFam true I74 O74 p74 Q74 e74) := sgN_ok env74 (N := N74 p90 Q90 e90) (mkN_ok ⟨fam90, trivial⟩) is74 noNLoops fun x hx k hk => by
  have hk : ∀ y : O74.den, CurOk y.2.1 → k y = some () := hk
  have h : CurOk x.2.1 := curB_iff.1 hx
  refine Eq.trans (evN74 _ _ _ _ _ _ _ _ _ k x) ?_
  unfold rN74
  dsimp only
  haveI := e90
  refine all_t (K45_ok _ (by (repeat ((try dsimp only); first | assumption | (with_reducible first | apply G75_cur | apply G80_cur | apply G106_cur | apply G66_cur | apply G45_cur))))) ?_
  have c1 : CurOk (G45 (((), 12, ()), x.snd)).snd.fst := by (repeat ((try dsimp only); first | assumption | (with_reducible first | apply G75_cur | apply G80_cur | apply G106_cur | apply G66_cur | apply G45_cur)))
  generalize G45 (((), 12, ()), x.snd) = A at *
  refine all_b (fun _ => ?_) (fun _ => ?_)
  · refine allK_intro fun g => ?_
    have hp : p90 (((), ()), A.snd) = true := curB_iff.2 c1
    refine all_t hp ?_
    exact hk _ (g.2 _ hp)
  · refine all_t (K66_ok _ (by (repeat ((try dsimp only); first | assumption | (with_reducible first | apply G75_cur | apply G80_cur | apply G106_cur | apply G66_cur | apply G45_cur))))) ?_
    refine all_t (K66_ok _ (by (repeat ((try dsimp only); first | assumption | (with_reducible first | apply G75_cur | apply G80_cur | apply G106_cur | apply G66_cur | apply G45_cur))))) ?_
    exact hk _ (by (repeat ((try dsimp only); first | assumption | (with_reducible first | apply G75_cur | apply G80_cur | apply G106_cur | apply G66_cur | apply G45_cur))))

end Go.Proofs.Ytmmdjajebmihhaa.AM
