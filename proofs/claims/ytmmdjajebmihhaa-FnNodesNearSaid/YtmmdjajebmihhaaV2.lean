/- Plainly: the draw of a field of winds, whole. Conditions: those that each lemma names. -/
import Derived.Test.YtmmdjajebmihhaaV1
namespace Go.Proofs.Ytmmdjajebmihhaa.AM
open Go Go.Proofs
set_option linter.unusedVariables false

def HoursG (l : List (Den (.slice (.cpx .f32)))) : Prop := l.length ≤ 8 ∧ ∀ t ∈ l, List.length t ≤ 6
theorem HoursG.nil : HoursG [] := ⟨Nat.zero_le _, fun _ h => by cases h⟩
def p31 (x : I31.den) : Bool := curB x.2.1
def Q31 (x : I31.den) (y : O31.den) : Prop := CurOk y.2.1 ∧ HoursG y.1.1.2.2.2.1
theorem e31 : Nonempty (Ch I31 O31 p31 Q31) := ⟨⟨fun _ => (((0, 0, 0, [], ()), ()), (curZ, ())), fun _ _ => ⟨curZ_ok, HoursG.nil⟩⟩⟩
theorem field_n (d e : Int) (hd : 0 ≤ d ∧ d < 3) (he : 0 ≤ e ∧ e < 2) : 1 ≤ IntKind.i64.wrap (1 + IntKind.i64.wrap (d * e)) ∧ IntKind.i64.wrap (1 + IntKind.i64.wrap (d * e)) ≤ 3 := by
  have h1 : 0 ≤ d * e ∧ d * e ≤ 2 := by
    rcases (by omega : e = 0 ∨ e = 1) with h1 | h1 <;> rw [h1] <;> omega
  rw [w64 (x := d * e) (by omega) (by omega), w64 (by omega) (by omega)]
  omega
theorem field_w (a : Int) (h : 0 ≤ a ∧ a < 2) : 1 ≤ IntKind.i64.wrap (2 + a) ∧ IntKind.i64.wrap (2 + a) ≤ 3 := by
  rw [w64 (by omega) (by omega)]
  omega

theorem fam31 : FamOK Try.prog 31 (sgFam true I31 O31 p31 Q31 e31) := sgN_ok env31 (N := N31 p74 Q74 e74 pL31_4 QL31_4 eL31_4 pL31_8 QL31_8 eL31_8) (mkN_ok ⟨fam74, trivial⟩) is31 loops31 fun x hx k hk => by
  have hk : ∀ y : O31.den, CurOk y.2.1 ∧ HoursG y.1.1.2.2.2.1 → k y = some () := hk
  have h : CurOk x.2.1 := curB_iff.1 hx
  refine Eq.trans (evN31 _ _ _ _ _ _ _ _ _ _ _ _ _ _ _ _ _ _ _ _ _ _ _ k x) ?_
  unfold rN31
  dsimp only
  haveI := e74
  haveI := eL31_4
  have below : ∀ (n : Int) (c : List Int × Int × Int × Unit), CurOk c → 0 < n → 0 ≤ ((G66 (((), n, ()), c, ())).1.1 : Int) ∧ ((G66 (((), n, ()), c, ())).1.1 : Int) < n := fun n c h hn => below_bd n c h hn
  refine all_t (K66_ok _ (by (repeat ((try dsimp only); first | assumption | (with_reducible first | apply G75_cur | apply G80_cur | apply G106_cur | apply G66_cur | apply G45_cur))))) ?_
  have b1 := below 2 x.2.1 h (by decide)
  have c1 : CurOk (G66 (((), 2, ()), x.snd)).snd.fst := by (repeat ((try dsimp only); first | assumption | (with_reducible first | apply G75_cur | apply G80_cur | apply G106_cur | apply G66_cur | apply G45_cur)))
  generalize hA : G66 (((), 2, ()), x.snd) = A at *
  have b1' : 0 ≤ (A.fst.fst : Int) ∧ (A.fst.fst : Int) < 2 := by rw [← hA]; exact below 2 x.2.1 h (by decide)
  clear hA b1
  refine all_t (K66_ok _ (by (repeat ((try dsimp only); first | assumption | (with_reducible first | apply G75_cur | apply G80_cur | apply G106_cur | apply G66_cur | apply G45_cur))))) ?_
  have c2 : CurOk (G66 (((), 3000, ()), A.snd)).snd.fst := by (repeat ((try dsimp only); first | assumption | (with_reducible first | apply G75_cur | apply G80_cur | apply G106_cur | apply G66_cur | apply G45_cur)))
  generalize G66 (((), 3000, ()), A.snd) = B at *
  refine allK_intro fun g => ?_
  have hp : p74 (((), ()), B.snd) = true := curB_iff.2 c2
  have q1 := g.2 _ hp
  have q1 : CurOk (g.val (((), ()), B.snd)).2.1 := q1
  refine all_t hp ?_
  generalize g.val (((), ()), B.snd) = C at *
  refine all_t (K66_ok _ (by (repeat ((try dsimp only); first | assumption | (with_reducible first | apply G75_cur | apply G80_cur | apply G106_cur | apply G66_cur | apply G45_cur))))) ?_
  have b3 : 0 ≤ ((G66 (((), 3, ()), C.snd)).1.1 : Int) ∧ ((G66 (((), 3, ()), C.snd)).1.1 : Int) < 3 := below 3 C.2.1 q1 (by decide)
  have c3 : CurOk (G66 (((), 3, ()), C.snd)).snd.fst := by (repeat ((try dsimp only); first | assumption | (with_reducible first | apply G75_cur | apply G80_cur | apply G106_cur | apply G66_cur | apply G45_cur)))
  generalize G66 (((), 3, ()), C.snd) = D at *
  refine all_t (K66_ok _ (by (repeat ((try dsimp only); first | assumption | (with_reducible first | apply G75_cur | apply G80_cur | apply G106_cur | apply G66_cur | apply G45_cur))))) ?_
  have b4 : 0 ≤ ((G66 (((), 2, ()), D.snd)).1.1 : Int) ∧ ((G66 (((), 2, ()), D.snd)).1.1 : Int) < 2 := below 2 D.2.1 c3 (by decide)
  have c4 : CurOk (G66 (((), 2, ()), D.snd)).snd.fst := by (repeat ((try dsimp only); first | assumption | (with_reducible first | apply G75_cur | apply G80_cur | apply G106_cur | apply G66_cur | apply G45_cur)))
  generalize G66 (((), 2, ()), D.snd) = E at *
  have hn : 1 ≤ IntKind.i64.wrap (1 + IntKind.i64.wrap (D.fst.fst * E.fst.fst)) ∧ IntKind.i64.wrap (1 + IntKind.i64.wrap (D.fst.fst * E.fst.fst)) ≤ 3 := field_n _ _ b3 b4
  have hw : 1 ≤ IntKind.i64.wrap (2 + A.fst.fst) ∧ IntKind.i64.wrap (2 + A.fst.fst) ≤ 3 := field_w _ b1'
  generalize IntKind.i64.wrap (1 + IntKind.i64.wrap (D.fst.fst * E.fst.fst)) = n at *
  generalize IntKind.i64.wrap (2 + A.fst.fst) = wd at *
  generalize IntKind.i64.wrap (100 + B.fst.fst) = m at *
  have hu : pL31_4 (((), (), (), C.fst.fst, n, ()), E.snd.fst, (0, 0, 0, (), ()), (wd, 2, m, (), ()), [], ()) = true :=
    pL31_4_iff.2 ⟨c4, ⟨hw.1, hw.2, rfl⟩, by show 0 ≤ n; omega, by show (0 : Int) + n ≤ 8; omega, by show 1 ≤ (0 : Int) + n; omega, fun _ h => by cases h⟩
  refine all_t hu ?_
  refine allK_intro fun g => ?_
  obtain ⟨s1, s2, s3, s4, s5⟩ := g.2 _ hu
  generalize g.val (((), (), (), C.fst.fst, n, ()), E.snd.fst, (0, 0, 0, (), ()), (wd, 2, m, (), ()), [], ()) = y at *
  obtain ⟨_, c, b, w, hs, _⟩ := y
  dsimp only at s1 s2 s3 s4 s5
  subst s2
  dsimp only
  have hg : HoursG hs := ⟨s4, fun t ht => by have := s5 t ht; omega⟩
  have c6 : CurOk (G66 (((), 30, ()), c, ())).snd.fst := by (repeat ((try dsimp only); first | assumption | (with_reducible first | apply G75_cur | apply G80_cur | apply G106_cur | apply G66_cur | apply G45_cur)))
  refine all_t (K66_ok _ (by (repeat ((try dsimp only); first | assumption | (with_reducible first | apply G75_cur | apply G80_cur | apply G106_cur | apply G66_cur | apply G45_cur))))) ?_
  generalize G66 (((), 30, ()), c, ()) = F at *
  refine all_b (fun _ => ?_) (fun _ => ?_)
  · refine all_t (K75_ok _ (by (repeat ((try dsimp only); first | assumption | (with_reducible first | apply G75_cur | apply G80_cur | apply G106_cur | apply G66_cur | apply G45_cur))))) ?_
    exact hk _ ⟨by (repeat ((try dsimp only); first | assumption | (with_reducible first | apply G75_cur | apply G80_cur | apply G106_cur | apply G66_cur | apply G45_cur))), hg⟩
  refine all_b (fun _ => hk _ ⟨by (repeat ((try dsimp only); first | assumption | (with_reducible first | apply G75_cur | apply G80_cur | apply G106_cur | apply G66_cur | apply G45_cur))), hg⟩) (fun _ => ?_)
  refine all_b (fun _ => ?_) (fun _ => ?_)
  · refine all_t (K76_ok _ (by (repeat ((try dsimp only); first | assumption | (with_reducible first | apply G75_cur | apply G80_cur | apply G106_cur | apply G66_cur | apply G45_cur)))) (by simp)) ?_
    exact hk _ ⟨G76_cur _ (by (repeat ((try dsimp only); first | assumption | (with_reducible first | apply G75_cur | apply G80_cur | apply G106_cur | apply G66_cur | apply G45_cur)))) (by simp), hg⟩
  refine all_b (fun _ => hk _ ⟨by (repeat ((try dsimp only); first | assumption | (with_reducible first | apply G75_cur | apply G80_cur | apply G106_cur | apply G66_cur | apply G45_cur))), HoursG.nil⟩) (fun _ => ?_)
  refine all_b (fun _ => ?_) (fun _ => hk _ ⟨by (repeat ((try dsimp only); first | assumption | (with_reducible first | apply G75_cur | apply G80_cur | apply G106_cur | apply G66_cur | apply G45_cur))), hg⟩)
  have d0 : (decide ((0 : Int) ≤ 0) && decide ((0 : Int) < (hs.length : Int))) = true := by simp; omega
  refine all_t d0 ?_
  have hm : List.getD hs (Int.toNat 0) (zero (Ty.slice (Ty.cpx FloatKind.f32))) ∈ hs := by
    have h0 : 0 < hs.length := by omega
    show hs.getD 0 _ ∈ hs
    rw [List.getD_eq_getElem?_getD, List.getElem?_eq_getElem h0]
    exact List.getElem_mem h0
  generalize List.getD hs (Int.toNat 0) (zero (Ty.slice (Ty.cpx FloatKind.f32))) = t at *
  have ht := s5 t hm
  have h6 := hg.2 t hm
  refine all_t (by simp; omega) ?_
  refine all_t d0 ?_
  refine hk _ ⟨c6, ?_, ?_⟩
  · show (List.set hs _ _).length ≤ 8
    rw [List.length_set]; exact s4
  · intro u hu
    rcases List.mem_or_eq_of_mem_set hu with h1 | h1
    · exact hg.2 u h1
    · rw [h1]
      simp only [List.length_drop, List.length_take]; omega

end Go.Proofs.Ytmmdjajebmihhaa.AM
