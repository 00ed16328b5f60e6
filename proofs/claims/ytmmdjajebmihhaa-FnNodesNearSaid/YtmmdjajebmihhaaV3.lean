/- Plainly: what the law FnNodesNear is handed. Conditions: those that each lemma names. -/
import Derived.Test.YtmmdjajebmihhaaV2
namespace Go.Proofs.Ytmmdjajebmihhaa.AM
open Go Go.Proofs
set_option linter.unusedVariables false

theorem node_ok (x : I32.den) (h : CurOk x.2.1) : Pst (F32 x) fun y => CurOk y.2.1 := by
  unfold F32 r32
  dsimp only
  refine pst_t (K45_ok _ (by (repeat ((try dsimp only); first | assumption | (with_reducible first | apply G75_cur | apply G80_cur | apply G106_cur | apply G66_cur | apply G45_cur))))) ?_
  refine pst_b (fun _ => ?_) (fun _ => ?_)
  · refine pst_t (K76_ok _ (by (repeat ((try dsimp only); first | assumption | (with_reducible first | apply G75_cur | apply G80_cur | apply G106_cur | apply G66_cur | apply G45_cur)))) (by simp)) ?_
    exact pst_some (G76_cur _ (by (repeat ((try dsimp only); first | assumption | (with_reducible first | apply G75_cur | apply G80_cur | apply G106_cur | apply G66_cur | apply G45_cur)))) (by simp))
  · have c1 : CurOk (G45 (((), 25, ()), x.snd)).snd.fst := by (repeat ((try dsimp only); first | assumption | (with_reducible first | apply G75_cur | apply G80_cur | apply G106_cur | apply G66_cur | apply G45_cur)))
    generalize G45 (((), 25, ()), x.snd) = A at *
    generalize IntKind.i64.wrap (IntKind.i64.wrap (_ * 0) + 4) = z at *
    refine pst_t (K66_ok _ c1) ?_
    exact pst_some (G66_cur _ c1)
theorem K32_ok (x : I32.den) (h : CurOk x.2.1) : K32 x = true := pst_k (node_ok x h)
theorem G32_cur (x : I32.den) (h : CurOk x.2.1) : CurOk (G32 x).2.1 := pst_g _ (node_ok x h)
theorem time_ok (x : I33.den) (h : CurOk x.2.1) : Pst (F33 x) fun y => CurOk y.2.1 := by
  unfold F33 r33
  dsimp only
  refine pst_t (K45_ok _ (by (repeat ((try dsimp only); first | assumption | (with_reducible first | apply G75_cur | apply G80_cur | apply G106_cur | apply G66_cur | apply G45_cur))))) ?_
  refine pst_b (fun _ => ?_) (fun _ => ?_)
  · refine pst_t (K76_ok _ (by (repeat ((try dsimp only); first | assumption | (with_reducible first | apply G75_cur | apply G80_cur | apply G106_cur | apply G66_cur | apply G45_cur)))) (by simp)) ?_
    exact pst_some (G76_cur _ (by (repeat ((try dsimp only); first | assumption | (with_reducible first | apply G75_cur | apply G80_cur | apply G106_cur | apply G66_cur | apply G45_cur)))) (by simp))
  · refine pst_t (K66_ok _ (by (repeat ((try dsimp only); first | assumption | (with_reducible first | apply G75_cur | apply G80_cur | apply G106_cur | apply G66_cur | apply G45_cur))))) ?_
    exact pst_some (by (repeat ((try dsimp only); first | assumption | (with_reducible first | apply G75_cur | apply G80_cur | apply G106_cur | apply G66_cur | apply G45_cur))))
theorem K33_ok (x : I33.den) (h : CurOk x.2.1) : K33 x = true := pst_k (time_ok x h)
theorem G33_cur (x : I33.den) (h : CurOk x.2.1) : CurOk (G33 x).2.1 := pst_g _ (time_ok x h)

def codeB (l : List Int) : Bool := decide (l.length ≤ 1048576)
def pT8 (x : Den A8) : Bool := codeB x.1
def QT8 (x : Den A8) (y : Den R8) : Prop := HoursG y.1.2.2.2.1
theorem eT8 : Nonempty (ChT A8 R8 pT8 QT8) := ⟨⟨fun _ => ((0, 0, 0, [], ()), 0, 0, ()), fun _ _ => HoursG.nil⟩⟩
theorem fam8 : FamOK Try.prog 8 (fnFam A8 R8 pT8 QT8 eT8) := fnN_ok env8 (N := N8 p31 Q31 e31) (mkN_ok ⟨fam31, trivial⟩) is8 noNLoops fun x hx k hk => by
  have hk : ∀ y : Den R8, HoursG y.1.2.2.2.1 → k y = some () := hk
  have h : x.1.length ≤ 1048576 := by simpa [pT8, codeB] using hx
  refine Eq.trans (evN8 _ _ _ _ _ _ _ _ _ _ _ k x) ?_
  unfold rN8
  dsimp only
  have c0 := G30_cur (x, ()) h
  haveI := e31
  refine all_t (K30_ok (x, ()) h) ?_
  refine allK_intro fun g => ?_
  have hp : p31 (((), ()), (G30 (x, ())).snd) = true := curB_iff.2 c0
  obtain ⟨q1, q2⟩ := g.2 _ hp
  refine all_t hp ?_
  generalize g.val (((), ()), (G30 (x, ())).snd) = A at *
  refine all_t (K32_ok _ q1) ?_
  have c1 : CurOk (G32 (((), A.fst), A.snd)).snd.fst := G32_cur (((), A.fst), A.snd) q1
  generalize G32 (((), A.fst), A.snd) = B at *
  refine all_t (K33_ok _ c1) ?_
  exact hk _ q2

theorem nok3 : NOK Try.prog (N3 pT8 QT8 eT8) := mkN_ok ⟨fam8, trivial⟩

end Go.Proofs.Ytmmdjajebmihhaa.AM
