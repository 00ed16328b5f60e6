/- Plainly: the law FnFewest. Conditions: what every value that is handed over meets. -/
import Derived.Test.YtbgkhcoeifbgkaaV9
namespace Go.Proofs.Ytbgkhcoeifbgkaa.AM
open Go Go.Proofs
set_option linter.unusedVariables false

theorem K24_ok {s : Den S23} {m : Den S25} (hs : GoodS s) (hm : I64 m.2.1) : K24 (s, m, ()) = true := by
  unfold K24
  rw [F24_eq (s, m, ()) hs.2.1 hs.2.2 hm]
  rfl
theorem GoodMs.at {l : List (Den S25)} (h : GoodMs l) (i : Nat) : I64 (mo l i).2.1 := by
  rcases mo_mem (l := l) (i := i) with h1 | h1
  · exact h _ h1
  · rw [h1]; exact I64_zero

/-- What a plan that is drawn meets, at every step. -/
structure PlOk (c : List Int × Int × Int × Unit) (l : List (Den S23)) (ms : List (Den S25)) (o : List Int) : Prop where
  cur : CurOk c
  sails : GoodSs l
  ls : l.length ≤ 13
  moms : GoodMs ms
  lm : ms.length ≤ 61
  lo : o.length ≤ 60

theorem one_loop51 (v : V51_10) (h : PlOk v.2.1 v.2.2.1 v.2.2.2.1 v.2.2.2.2.1) (h1 : 0 ≤ v.1.2.2.2.2.1) (h2 : v.1.2.2.2.2.1 < (v.2.2.2.1.length : Int)) (h3 : v.1.2.2.2.2.1 < (v.2.2.2.2.1.length : Int)) (h4 : 0 ≤ v.1.2.2.2.2.2.1) (h5 : v.1.2.2.2.2.2.1 ≤ (v.2.2.1.length : Int)) :
    Pst (l51_10 v) fun y => PlOk y.2.1 y.2.2.1 y.2.2.2.1 y.2.2.2.2.1 ∧ y.1.2.2.2.2.1 = v.1.2.2.2.2.1 ∧ y.2.2.2.2.1.length = v.2.2.2.2.1.length ∧ y.2.2.2.1.length = v.2.2.2.1.length := by
  refine iter_ind (q := q51_10 K58 G58 K59 G59 K63 G63 K50 G50 K65 G65 K24 G24 K62 G62) (fun u => PlOk u.2.1 u.2.2.1 u.2.2.2.1 u.2.2.2.2.1 ∧ u.1.2.2.2.2.1 = v.1.2.2.2.2.1 ∧ u.2.2.2.2.1.length = v.2.2.2.2.1.length ∧ u.2.2.2.1.length = v.2.2.2.1.length ∧ 0 ≤ u.1.2.2.2.2.2.1 ∧ u.1.2.2.2.2.2.1 ≤ (u.2.2.1.length : Int))
    (fun _ r => Pst r fun y => PlOk y.2.1 y.2.2.1 y.2.2.2.1 y.2.2.2.2.1 ∧ y.1.2.2.2.2.1 = v.1.2.2.2.2.1 ∧ y.2.2.2.2.1.length = v.2.2.2.2.1.length ∧ y.2.2.2.1.length = v.2.2.2.1.length)
    (fun u => ((u.2.2.1.length : Int) - u.1.2.2.2.2.2.1).toNat) ?_ _ _ ⟨h, rfl, rfl, rfl, h4, h5⟩ (Nat.lt_of_lt_of_le (m := 1000) (by have := h.ls; omega) (Nat.le_add_left _ _))
  rintro ⟨⟨_, _, _, _, i, j, _⟩, c, l, ms, o, _⟩ f ⟨g0, g1, g2, g3, g4, g5⟩ ih
  simp only at g0 g1 g2 g3 g4 g5 ih
  have e : IntKind.i64.wrap (j + 1) = j + 1 := w64 (by have := g0.ls; omega) (by have := g0.ls; omega)
  have gc := g0.cur
  unfold q51_10
  dsimp only
  by_cases hj : j < (l.length : Int)
  · have d1 : decide (j < (l.length : Int)) = true := by simpa using hj
    have d2 : decide (0 ≤ j) = true := by simpa using g4
    have d3 : decide (0 ≤ i) = true := by simp; omega
    have d4 : decide (i < (ms.length : Int)) = true := by simp; omega
    have d5 : decide (i < (o.length : Int)) = true := by simp; omega
    refine pst_t d1 ?_
    refine pst_t (by rw [d2, d1]; rfl) ?_
    refine pst_t (by rw [d3, d4]; rfl) ?_
    refine pst_t (K24_ok (g0.sails.at _) (g0.moms.at _)) ?_
    have next : ∀ o' c', o'.length = o.length → CurOk c' → Pst (f (((), ((), ((), ((), (i, (j + 1, ())))))), ((c'.1, (c'.2.1, (c'.2.2.1, ()))), (l, (ms, (o', ())))))) fun y => PlOk y.2.1 y.2.2.1 y.2.2.2.1 y.2.2.2.2.1 ∧ y.1.2.2.2.2.1 = v.1.2.2.2.2.1 ∧ y.2.2.2.2.1.length = v.2.2.2.2.1.length ∧ y.2.2.2.1.length = v.2.2.2.1.length := by
      intro o' c' h6 h7
      exact ih _ ⟨⟨h7, g0.sails, g0.ls, g0.moms, g0.lm, by show o'.length ≤ 60; rw [h6]; exact g0.lo⟩, g1, by show o'.length = _; rw [h6]; exact g2, g3, by show 0 ≤ j + 1; omega, by show j + 1 ≤ (l.length : Int); omega⟩ (by show ((l.length : Int) - (j + 1)).toNat < ((l.length : Int) - j).toNat; omega)
    rw [e]
    refine pst_b (fun _ => ?_) (fun _ => next o c rfl gc)
    refine pst_t (by rw [d3, d5]; rfl) ?_
    refine pst_b (fun _ => ?_) (fun _ => ?_)
    · refine pst_t (by rw [d3, d5]; rfl) ?_
      exact next _ c (by simp) gc
    · refine pst_t (K65_ok _ (by (repeat ((try dsimp only); first | assumption | (with_reducible first | apply G62_cur | apply G70_cur | apply G74_cur | apply G75_cur | apply G67_cur | apply G65_cur))))) ?_
      refine pst_b (fun _ => ?_) (fun _ => ?_)
      · refine pst_t (by rw [d3, d5]; rfl) ?_
        exact next _ _ (by simp) (G65_cur (((), 2, ()), c, ()) gc)
      · exact next o _ rfl (G65_cur (((), 2, ()), c, ()) gc)
  · have d1 : decide (j < (l.length : Int)) = false := by simpa using hj
    rw [d1]
    exact pst_some ⟨g0, g1, g2, g3⟩

theorem one_k (v : V51_10) (h : PlOk v.2.1 v.2.2.1 v.2.2.2.1 v.2.2.2.2.1) (h1 : 0 ≤ v.1.2.2.2.2.1) (h2 : v.1.2.2.2.2.1 < (v.2.2.2.1.length : Int)) (h3 : v.1.2.2.2.2.1 < (v.2.2.2.2.1.length : Int)) (h4 : 0 ≤ v.1.2.2.2.2.2.1) (h5 : v.1.2.2.2.2.2.1 ≤ (v.2.2.1.length : Int)) :
    kL51_10 v = true ∧ PlOk (xL51_10 v).2.1 (xL51_10 v).2.2.1 (xL51_10 v).2.2.2.1 (xL51_10 v).2.2.2.2.1 ∧ (xL51_10 v).1.2.2.2.2.1 = v.1.2.2.2.2.1 ∧ (xL51_10 v).2.2.2.2.1.length = v.2.2.2.2.1.length ∧ (xL51_10 v).2.2.2.1.length = v.2.2.2.1.length :=
  ⟨pst_k (one_loop51 v h h1 h2 h3 h4 h5), pst_g _ (one_loop51 v h h1 h2 h3 h4 h5)⟩

theorem all_loop51 (v : V51_6) (h : PlOk v.2.1 v.2.2.1 v.2.2.2.1 v.2.2.2.2.1) (h1 : 0 ≤ v.1.2.2.2.2.1) (h2 : v.1.2.2.2.2.1 ≤ 60) : Pst (l51_6 v) fun y => PlOk y.2.1 y.2.2.1 y.2.2.2.1 y.2.2.2.2.1 := by
  refine iter_ind (q := q51_6 K58 G58 K59 G59 K63 G63 K50 G50 K65 G65 K24 G24 K62 G62 kL51_10 xL51_10) (fun u => PlOk u.2.1 u.2.2.1 u.2.2.2.1 u.2.2.2.2.1 ∧ 0 ≤ u.1.2.2.2.2.1 ∧ u.1.2.2.2.2.1 ≤ 60)
    (fun _ r => Pst r fun y => PlOk y.2.1 y.2.2.1 y.2.2.2.1 y.2.2.2.2.1) (fun u => (60 - u.1.2.2.2.2.1).toNat) ?_ _ _ ⟨h, h1, h2⟩ (Nat.lt_of_lt_of_le (m := 1000) (by omega) (Nat.le_add_left _ _))
  clear h h1 h2 v
  rintro ⟨⟨_, _, _, _, i, _⟩, c, l, ms, o, _⟩ f ⟨g0, g1, g2⟩ ih
  simp only at g0 g1 g2 ih
  have hlo := g0.lo
  have gc := g0.cur
  unfold q51_6
  dsimp only
  refine pst_b (fun hi => ?_) (fun _ => pst_some g0)
  refine pst_b (fun hm => ?_) (fun _ => pst_some g0)
  have hi' : i < (o.length : Int) := by simpa using hi
  have hm' : i < (ms.length : Int) := by simpa using hm
  have e : IntKind.i64.wrap (i + 1) = i + 1 := w64 (by omega) (by omega)
  have d3 : decide (0 ≤ i) = true := by simpa using g1
  refine pst_t (K65_ok _ (by (repeat ((try dsimp only); first | assumption | (with_reducible first | apply G62_cur | apply G70_cur | apply G74_cur | apply G75_cur | apply G67_cur | apply G65_cur))))) ?_
  have c1 : CurOk (G65 (((), 2, ()), c, ())).snd.fst := by (repeat ((try dsimp only); first | assumption | (with_reducible first | apply G62_cur | apply G70_cur | apply G74_cur | apply G75_cur | apply G67_cur | apply G65_cur)))
  generalize G65 (((), 2, ()), c, ()) = A at *
  have go : ∀ (u : V51_10), u = (((), ((), ((), ((), (i, (0, ())))))), (A.snd.fst, (l, (ms, (o, ()))))) → Pst (bif kL51_10 u then f (((), ((), ((), ((), (IntKind.i64.wrap ((xL51_10 u).1.2.2.2.2.1 + 1), ()))))), (((xL51_10 u).2.1.1, ((xL51_10 u).2.1.2.1, ((xL51_10 u).2.1.2.2.1, ()))), ((xL51_10 u).2.2.1, ((xL51_10 u).2.2.2.1, ((xL51_10 u).2.2.2.2.1, ()))))) else none) fun y => PlOk y.2.1 y.2.2.1 y.2.2.2.1 y.2.2.2.2.1 := by
    intro u hu
    obtain ⟨k1, k2, k3, k4, k5⟩ := one_k u (by rw [hu]; exact ⟨c1, g0.sails, g0.ls, g0.moms, g0.lm, g0.lo⟩) (by rw [hu]; exact g1) (by rw [hu]; exact hm') (by rw [hu]; exact hi') (by rw [hu]; exact Int.le_refl 0) (by rw [hu]; show (0 : Int) ≤ (l.length : Int); omega)
    refine pst_t k1 ?_
    have k3' : (xL51_10 u).1.2.2.2.2.1 = i := by rw [k3, hu]
    rw [k3', e]
    exact ih _ ⟨k2, by show 0 ≤ i + 1; omega, by show i + 1 ≤ 60; omega⟩ (by show (60 - (i + 1)).toNat < (60 - i).toNat; omega)
  refine pst_b (fun _ => go _ rfl) (fun _ => ?_)
  refine pst_t (by rw [d3]; simp [hi']) ?_
  refine pst_b (fun _ => go _ rfl) (fun _ => ?_)
  rw [e]
  exact ih _ ⟨⟨c1, g0.sails, g0.ls, g0.moms, g0.lm, g0.lo⟩, by show 0 ≤ i + 1; omega, by show i + 1 ≤ 60; omega⟩ (by show (60 - (i + 1)).toNat < (60 - i).toNat; omega)
theorem all_k (v : V51_6) (h : PlOk v.2.1 v.2.2.1 v.2.2.2.1 v.2.2.2.2.1) (h1 : 0 ≤ v.1.2.2.2.2.1) (h2 : v.1.2.2.2.2.1 ≤ 60) : kL51_6 v = true ∧ PlOk (xL51_6 v).2.1 (xL51_6 v).2.2.1 (xL51_6 v).2.2.2.1 (xL51_6 v).2.2.2.2.1 := ⟨pst_k (all_loop51 v h h1 h2), pst_g _ (all_loop51 v h h1 h2)⟩

def p51 (x : I51.den) : Bool := codeB x.1.1
def Q51 (x : I51.den) (y : O51.den) : Prop := GoodSs y.2.1 ∧ y.2.1.length ≤ 13 ∧ GoodMs y.2.2.1 ∧ y.2.2.1.length ≤ 61 ∧ y.2.2.2.1.length ≤ 61
theorem e51 : Nonempty (Ch I51 O51 p51 Q51) := ⟨⟨fun _ => (((), (), (), ()), ([], [], [], ())), fun _ _ => ⟨(fun _ h => by cases h), Nat.zero_le _, (fun _ h => by cases h), Nat.zero_le _, Nat.zero_le _⟩⟩⟩
theorem fam51 : FamOK Try.prog 51 (sgFam false I51 O51 p51 Q51 e51) := sgN_ok env51 (N := N51 p59 Q59 e59 p63 Q63 e63) (mkN_ok ⟨fam59, fam63, trivial⟩) is51 noNLoops fun x hx k hk => by
  have h : x.1.1.length ≤ 1048576 := by simpa [p51, codeB] using hx
  refine Eq.trans (evN51 _ _ _ _ _ _ _ _ _ _ _ _ _ _ _ _ _ _ _ _ _ _ _ _ k x) ?_
  unfold rN51
  dsimp only
  have c0 := G58_cur x h
  haveI := e59
  haveI := e63
  refine all_t (K58_ok _ h) ?_
  refine allK_intro fun g => ?_
  have hp : p59 (((), ()), (G58 x).snd) = true := curB_iff.2 c0
  obtain ⟨q1, q2, q3⟩ := g.2 _ hp
  refine all_t hp ?_
  refine allK_intro fun g2 => ?_
  generalize g.val (((), ()), (G58 x).snd) = S at *
  have hp2 : p63 (((), ()), S.snd.fst, ()) = true := curB_iff.2 q1
  obtain ⟨q4, q5, q6⟩ := g2.2 _ hp2
  refine all_t hp2 ?_
  generalize g2.val (((), ()), S.snd.fst, ()) = M at *
  have hg := GoodSs.good q2 q3
  have hm := GoodMs.good q5 q6
  have e50 : F50 ((S.snd.snd.fst, 0, M.snd.snd), ()) = some (((), ()), (runV S.snd.snd.fst 0 M.snd.snd.fst, ())) := F50_eq S.snd.snd.fst 0 M.snd.snd.fst hg hm
  have k50 : K50 ((S.snd.snd.fst, 0, M.snd.snd), ()) = true := by unfold K50; rw [e50]; rfl
  have g50 : G50 ((S.snd.snd.fst, 0, M.snd.snd), ()) = (((), ()), (runV S.snd.snd.fst 0 M.snd.snd.fst, ())) := by unfold G50; rw [e50]; rfl
  refine all_t k50 ?_
  rw [g50]
  have hrl := runV_len S.snd.snd.fst 0 M.snd.snd.fst
  generalize runV S.snd.snd.fst 0 M.snd.snd.fst = o at *
  obtain ⟨k6, pl⟩ := all_k (((), (), (), (), 0, ()), M.snd.fst, S.snd.snd.fst, M.snd.snd.fst, (((), ()), o, ()).snd) ⟨q4, q2, q3, q5, q6, hrl⟩ (Int.le_refl 0) (by show (0 : Int) ≤ 60; decide)
  refine all_t k6 ?_
  generalize xL51_6 (((), (), (), (), 0, ()), M.snd.fst, S.snd.snd.fst, M.snd.snd.fst, (((), ()), o, ()).snd) = T at *
  have gc := pl.cur
  have glo := pl.lo
  have fin : ∀ o', o'.length ≤ 61 → k (((), ((), ((), ()))), (T.snd.snd.1, (T.snd.snd.snd.1, (o', ())))) = some () := fun o' ho' => hk _ ⟨pl.sails, pl.ls, pl.moms, pl.lm, ho'⟩
  simp only [set1, List.length_singleton, List.length_set]
  refine all_b (fun hpos => ?_) (fun _ => ?_)
  · have hpos' : 0 < (T.snd.snd.snd.snd.fst.length : Int) := by simpa using hpos
    refine all_t (K65_ok _ (by (repeat ((try dsimp only); first | assumption | (with_reducible first | apply G62_cur | apply G70_cur | apply G74_cur | apply G75_cur | apply G67_cur | apply G65_cur))))) ?_
    refine all_b (fun _ => ?_) (fun _ => ?_)
    · refine all_t (K62_ok _ (by (repeat ((try dsimp only); first | assumption | (with_reducible first | apply G62_cur | apply G70_cur | apply G74_cur | apply G75_cur | apply G67_cur | apply G65_cur))))) ?_
      refine all_t (by rw [decide_eq_true hpos']; rfl) ?_
      refine all_t (K65_ok _ (by (repeat ((try dsimp only); first | assumption | (with_reducible first | apply G62_cur | apply G70_cur | apply G74_cur | apply G75_cur | apply G67_cur | apply G65_cur))))) ?_
      refine all_b (fun _ => ?_) (fun _ => ?_)
      · refine all_t (capOk_of (by omega)) ?_
        exact fin _ (by simp only [List.length_append, List.length_set, List.length_singleton]; omega)
      · exact fin _ (by simp only [List.length_set]; omega)
    · refine all_t (K65_ok _ (by (repeat ((try dsimp only); first | assumption | (with_reducible first | apply G62_cur | apply G70_cur | apply G74_cur | apply G75_cur | apply G67_cur | apply G65_cur))))) ?_
      refine all_b (fun _ => ?_) (fun _ => ?_)
      · refine all_t (capOk_of (by omega)) ?_
        exact fin _ (by simp only [List.length_append, List.length_singleton]; omega)
      · exact fin _ (by omega)
  · refine all_t (K65_ok _ (by (repeat ((try dsimp only); first | assumption | (with_reducible first | apply G62_cur | apply G70_cur | apply G74_cur | apply G75_cur | apply G67_cur | apply G65_cur))))) ?_
    refine all_b (fun _ => ?_) (fun _ => ?_)
    · refine all_t (capOk_of (by omega)) ?_
      exact fin _ (by simp only [List.length_append, List.length_singleton]; omega)
    · exact fin _ (by omega)

/-! ## The law -/

theorem nok14 : NOK Try.prog (N14 p51 Q51 e51) := mkN_ok ⟨fam51, trivial⟩
theorem fewestLaw (x : Den A14) (w : Wf A14 x) : callN (Γ14 K33 G33 K51 G51 K45 G45 K44 G44 K40 G40 K22 G22) (N14 p51 Q51 e51) (bodyOf Try.f14) (decRH R14 kTrue) (encA A14 x) [] = some () := by
  refine Eq.trans (evN14 _ _ _ _ _ _ _ _ _ _ _ _ _ _ _ kTrue x) ?_
  unfold rN14
  simp only [K33, G33, F33_eq, Option.isSome_some, Option.getD_some, cond_true]
  by_cases h0 : (x.1.length : Int) > 1048576
  · simp only [h0, decide_true, cond_true]; rfl
  · simp only [h0, decide_false, cond_false]
    haveI := e51
    refine allK_intro fun g => ?_
    have hp : p51 (x, ()) = true := by show decide (x.1.length ≤ 1048576) = true; simp; omega
    obtain ⟨q1, q2, q3, q4, q5⟩ := g.2 _ hp
    refine all_t hp ?_
    generalize g.val (x, ()) = d at *
    obtain ⟨⟨_, _, _, _⟩, l, ms, o, _⟩ := d
    have hg := GoodSs.good q1 q2
    have hm := GoodMs.good q3 q4
    have q5' : o.length ≤ 61 := q5
    have e45 : F45 ((l, ms, ()), ()) = some (((), ((fewest l ms).2, ())), ((fewest l ms).1, ())) := F45_eq l ms hg hm
    have e44 : F44 ((l, ms, ()), ()) = some (((), ((fewest l ms).2, ())), ((fewest l ms).1, ())) := F44_eq l ms hg hm
    have e40 : ∀ o, F40 (l, ms, o, ()) = some (planB l ms o, ()) := fun o => F40_eq l ms o hg hm
    have hfl := fewest_len l ms
    have e22 : ∀ o : List Int, o.length ≤ 61 → F22 (o, ()) = some ((chg (qo o) o.length : Int), ()) := fun o ho => by rw [F22_eq]; exact F20_eq o (by omega)
    simp only [K45, G45, e45, K44, G44, e44, Option.isSome_some, Option.getD_some, cond_true, beq_self_eq_true, Bool.not_true, cond_false]
    cases hf : (fewest l ms).2 with
    | false =>
      obtain ⟨n1, n2⟩ := fewest_no hf
      simp only [n1, K40, G40, e40, n2, Option.isSome_some, Option.getD_some, cond_true, Bool.not_false]
      rfl
    | true =>
      obtain ⟨y1, y2⟩ := fewest_yes hf
      generalize (fewest l ms).1 = b at *
      simp only [Bool.not_true, cond_false, K40, G40, e40, y1, Option.isSome_some, Option.getD_some, cond_true]
      cases hpo : planB l ms o with
      | false => rfl
      | true =>
        have hle := y2 o hpo
        have : decide ((chg (qo b) b.length : Int) ≤ (chg (qo o) o.length : Int)) = true := by simpa using hle
        simp only [Bool.not_true, cond_false, K22, G22, e22 b (by omega), e22 o q5', Option.isSome_some, Option.getD_some, cond_true, this]
        rfl

end Go.Proofs.Ytbgkhcoeifbgkaa.AM
