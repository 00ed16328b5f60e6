/- Plainly: the draw of a field of winds. Conditions: those that each lemma names. -/
import Derived.Test.YtmmdjajebmihhaaV0
namespace Go.Proofs.Ytmmdjajebmihhaa.AM
open Go Go.Proofs
set_option linter.unusedVariables false

/-! ## One hour -/

def wideB (b : Int × Int × Int × Unit × Unit) : Bool := decide (1 ≤ b.1) && (decide (b.1 ≤ 3) && decide (b.2.1 = 2))
def pL31_8 (v : V31_8) : Bool := curB v.2.1 && (wideB v.2.2.2.1 && (decide (0 ≤ v.1.2.2.2.2.2.2.1) && (decide (v.1.2.2.2.2.2.2.1 ≤ v.2.2.2.1.1 * 2) && decide ((v.2.2.2.2.2.1.length : Int) = v.1.2.2.2.2.2.2.1))))
def QL31_8 (v : V31_8) (y : X31_8) : Prop := CurOk y.2.1 ∧ y.2.2.2.1 = v.2.2.2.1 ∧ y.1.2.2.2.2.1 = v.1.2.2.2.2.1 ∧ y.2.2.2.2.1 = v.2.2.2.2.1 ∧ (y.2.2.2.2.2.1.length : Int) = v.2.2.2.1.1 * 2
theorem pL31_8_iff {v : V31_8} : pL31_8 v = true ↔ CurOk v.2.1 ∧ (1 ≤ v.2.2.2.1.1 ∧ v.2.2.2.1.1 ≤ 3 ∧ v.2.2.2.1.2.1 = 2) ∧ 0 ≤ v.1.2.2.2.2.2.2.1 ∧ v.1.2.2.2.2.2.2.1 ≤ v.2.2.2.1.1 * 2 ∧ (v.2.2.2.2.2.1.length : Int) = v.1.2.2.2.2.2.2.1 := by
  unfold pL31_8 wideB
  simp only [Bool.and_eq_true, decide_eq_true_eq, curB_iff]
theorem eL31_8 : Nonempty (ChL pL31_8 QL31_8) :=
  ⟨⟨fun v => (((), (), (), (0, 0), v.1.2.2.2.2.1, (), ()), (curZ, (0, 0, 0, (), ()), v.2.2.2.1, v.2.2.2.2.1, List.replicate (v.2.2.2.1.1 * 2).toNat (0, 0), ())),
    fun v hv => ⟨curZ_ok, rfl, rfl, rfl, by
      have h := pL31_8_iff.1 hv
      show ((List.replicate (v.2.2.2.1.1 * 2).toNat ((0 : Nat), (0 : Nat))).length : Int) = v.2.2.2.1.1 * 2
      rw [List.length_replicate]; omega⟩⟩⟩

def pL31_4 (v : V31_4) : Bool := curB v.2.1 && (wideB v.2.2.2.1 && (decide (0 ≤ v.1.2.2.2.2.1) && (decide ((v.2.2.2.2.1.length : Int) + v.1.2.2.2.2.1 ≤ 8) && (decide (1 ≤ (v.2.2.2.2.1.length : Int) + v.1.2.2.2.2.1) && v.2.2.2.2.1.all fun l => decide ((l.length : Int) = v.2.2.2.1.1 * 2)))))
def QL31_4 (v : V31_4) (y : X31_4) : Prop := CurOk y.2.1 ∧ y.2.2.2.1 = v.2.2.2.1 ∧ 1 ≤ y.2.2.2.2.1.length ∧ y.2.2.2.2.1.length ≤ 8 ∧ ∀ l ∈ y.2.2.2.2.1, (List.length l : Int) = v.2.2.2.1.1 * 2
theorem pL31_4_iff {v : V31_4} : pL31_4 v = true ↔ CurOk v.2.1 ∧ (1 ≤ v.2.2.2.1.1 ∧ v.2.2.2.1.1 ≤ 3 ∧ v.2.2.2.1.2.1 = 2) ∧ 0 ≤ v.1.2.2.2.2.1 ∧ (v.2.2.2.2.1.length : Int) + v.1.2.2.2.2.1 ≤ 8 ∧ 1 ≤ (v.2.2.2.2.1.length : Int) + v.1.2.2.2.2.1 ∧ ∀ l ∈ v.2.2.2.2.1, (List.length l : Int) = v.2.2.2.1.1 * 2 := by
  unfold pL31_4 wideB
  simp only [Bool.and_eq_true, decide_eq_true_eq, curB_iff, List.all_eq_true]
theorem eL31_4 : Nonempty (ChL pL31_4 QL31_4) :=
  ⟨⟨fun v => (((), (), (), ()), (curZ, (0, 0, 0, (), ()), v.2.2.2.1, [List.replicate (v.2.2.2.1.1 * 2).toNat (0, 0)], ())),
    fun v hv => ⟨curZ_ok, rfl, Nat.le_refl 1, by show 1 ≤ 8; decide, by
      intro l hl
      have h := pL31_4_iff.1 hv
      rw [List.mem_singleton.1 hl]
      show ((List.replicate (v.2.2.2.1.1 * 2).toNat ((0 : Nat), (0 : Nat))).length : Int) = v.2.2.2.1.1 * 2
      rw [List.length_replicate]; omega⟩⟩⟩

theorem hour_loop (v : V31_8) (hv : pL31_8 v = true) (h : X31_8 → Option Unit) (hq0 : ∀ y, QL31_8 v y → h y = some ()) : ∃ n, iter (qN31_8 K66 G66 K74 G74 K45 G45 K75 G75 K76 G76 kL31_4 xL31_4 kL31_8 xL31_8 p74 Q74 e74 pL31_4 QL31_4 eL31_4 pL31_8 QL31_8 eL31_8 h) n v = some () := by
  have hv := pL31_8_iff.1 hv
  refine ⟨7, ?_⟩
  refine iter_ind (q := qN31_8 K66 G66 K74 G74 K45 G45 K75 G75 K76 G76 kL31_4 xL31_4 kL31_8 xL31_8 p74 Q74 e74 pL31_4 QL31_4 eL31_4 pL31_8 QL31_8 eL31_8 h)
    (fun u => CurOk u.2.1 ∧ u.2.2.2.1 = v.2.2.2.1 ∧ u.1.2.2.2.2.1 = v.1.2.2.2.2.1 ∧ u.2.2.2.2.1 = v.2.2.2.2.1 ∧ 0 ≤ u.1.2.2.2.2.2.2.1 ∧ u.1.2.2.2.2.2.2.1 ≤ v.2.2.2.1.1 * 2 ∧ (u.2.2.2.2.2.1.length : Int) = u.1.2.2.2.2.2.2.1)
    (fun _ r => r = some ()) (fun u => (6 - u.1.2.2.2.2.2.2.1).toNat) ?_ _ _ ⟨hv.1, rfl, rfl, rfl, hv.2.2.1, hv.2.2.2.1, hv.2.2.2.2⟩ (by omega)
  obtain ⟨-, ⟨w1, w2, w3⟩, -, -, -⟩ := hv
  rintro ⟨⟨_, _, _, ⟨w0, w9⟩, n, _, i, _⟩, ⟨c0, c1, c2, _⟩, ⟨b0, b1, b2, _, _⟩, ⟨a0, a1, a2, _, _⟩, hs, l, _⟩ f ⟨g0, g1, g2, g3, g4, g5, g6⟩ ih
  dsimp only at g0 g1 g2 g3 g4 g5 g6 ih
  have ea : a0 = v.2.2.2.1.1 := congrArg (·.1) g1
  have eb : a1 = 2 := (congrArg (·.2.1) g1).trans w3
  unfold qN31_8
  dsimp only
  have ew : IntKind.i64.wrap (a0 * a1) = v.2.2.2.1.1 * 2 := by rw [eb, ea]; exact w64 (by omega) (by omega)
  rw [ew]
  by_cases hk : i < v.2.2.2.1.1 * 2
  · refine all_t (by simpa using hk) ?_
    have e : IntKind.i64.wrap (i + 1) = i + 1 := w64 (by omega) (by omega)
    refine all_t (K45_ok _ (by (repeat ((try dsimp only); first | assumption | (with_reducible first | apply G75_cur | apply G80_cur | apply G106_cur | apply G66_cur | apply G45_cur))))) ?_
    have c5 : CurOk (G45 (((), 3, ()), (c0, c1, c2, ()), ())).snd.fst := by (repeat ((try dsimp only); first | assumption | (with_reducible first | apply G75_cur | apply G80_cur | apply G106_cur | apply G66_cur | apply G45_cur)))
    generalize G45 (((), 3, ()), (c0, c1, c2, ()), ()) = A at *
    rw [e]
    refine all_b (fun _ => ?_) (fun _ => ?_)
    · haveI := e74
      refine allK_intro fun g => ?_
      have hp : p74 (((), ()), A.snd) = true := curB_iff.2 c5
      refine all_t hp ?_
      refine all_t (capOk_of (by simp only [List.length_set, List.length_replicate]; omega)) ?_
      refine ih _ ⟨g.2 _ hp, g1, g2, g3, ?_, ?_, ?_⟩ ?_ <;> simp only [List.length_append, List.length_set, List.length_replicate] <;> omega
    · refine all_t (capOk_of (by simp only [List.length_set, List.length_replicate]; omega)) ?_
      refine ih _ ⟨c5, g1, g2, g3, ?_, ?_, ?_⟩ ?_ <;> simp only [List.length_append, List.length_set, List.length_replicate] <;> omega
  · have hd : decide (i < v.2.2.2.1.1 * 2) = false := by simpa using hk
    rw [hd]
    exact hq0 _ ⟨g0, g1, g2, g3, by show (l.length : Int) = _; omega⟩

theorem field_loop (v : V31_4) (hv : pL31_4 v = true) (h : X31_4 → Option Unit) (hq0 : ∀ y, QL31_4 v y → h y = some ()) : ∃ n, iter (qN31_4 K66 G66 K74 G74 K45 G45 K75 G75 K76 G76 kL31_4 xL31_4 kL31_8 xL31_8 p74 Q74 e74 pL31_4 QL31_4 eL31_4 pL31_8 QL31_8 eL31_8 h) n v = some () := by
  have hv := pL31_4_iff.1 hv
  refine ⟨9, ?_⟩
  refine iter_ind (q := qN31_4 K66 G66 K74 G74 K45 G45 K75 G75 K76 G76 kL31_4 xL31_4 kL31_8 xL31_8 p74 Q74 e74 pL31_4 QL31_4 eL31_4 pL31_8 QL31_8 eL31_8 h)
    (fun u => CurOk u.2.1 ∧ u.2.2.2.1 = v.2.2.2.1 ∧ 0 ≤ u.1.2.2.2.2.1 ∧ (u.2.2.2.2.1.length : Int) + u.1.2.2.2.2.1 ≤ 8 ∧ 1 ≤ (u.2.2.2.2.1.length : Int) + u.1.2.2.2.2.1 ∧ ∀ l ∈ u.2.2.2.2.1, (List.length l : Int) = v.2.2.2.1.1 * 2)
    (fun _ r => r = some ()) (fun u => u.1.2.2.2.2.1.toNat) ?_ _ _ ⟨hv.1, rfl, hv.2.2⟩ (by omega)
  obtain ⟨-, ⟨w1, w2, w3⟩, -, -, -⟩ := hv
  rintro ⟨⟨_, _, _, w0, n, _⟩, ⟨c0, c1, c2, _⟩, ⟨b0, b1, b2, _, _⟩, ⟨a0, a1, a2, _, _⟩, hs, _⟩ f ⟨g0, g1, g2, g3, g4, g5⟩ ih
  dsimp only at g0 g1 g2 g3 g4 g5 ih
  have ea : a0 = v.2.2.2.1.1 := congrArg (·.1) g1
  have eb : a1 = 2 := (congrArg (·.2.1) g1).trans w3
  unfold qN31_4
  dsimp only
  have hz : List.replicate 0 (zero (Ty.cpx FloatKind.f32)) = [] := rfl
  rw [hz]
  by_cases hk : n > 0
  · refine all_t (by simpa using hk) ?_
    have e : IntKind.i64.wrap (n - 1) = n - 1 := w64 (by omega) (by omega)
    have hu : pL31_8 (((), (), (), w0, n, (), 0, ()), (c0, c1, c2, ()), (b0, b1, b2, (), ()), (a0, a1, a2, (), ()), hs, [], ()) = true :=
      pL31_8_iff.2 ⟨g0, ⟨by show 1 ≤ a0; omega, by show a0 ≤ 3; omega, eb⟩, Int.le_refl 0, by show 0 ≤ a0 * 2; omega, rfl⟩
    refine all_t hu ?_
    haveI := eL31_8
    refine allK_intro fun g => ?_
    obtain ⟨q1, q2, q3, q4, q5⟩ := g.2 _ hu
    generalize g.val (((), (), (), w0, n, (), 0, ()), (c0, c1, c2, ()), (b0, b1, b2, (), ()), (a0, a1, a2, (), ()), hs, [], ()) = y at *
    obtain ⟨⟨_, _, _, w, n', _, _⟩, c, b, a, hs', l, _⟩ := y
    dsimp only at q1 q2 q3 q4 q5
    subst q2 q3 q4
    dsimp only
    rw [e]
    refine all_t (capOk_of (by simp only [List.length_set, List.length_replicate]; omega)) ?_
    refine ih _ ⟨q1, g1, ?_, ?_, ?_, ?_⟩ ?_
    · show 0 ≤ n' - 1; omega
    · simp only [List.length_append, List.length_set, List.length_replicate]; omega
    · simp only [List.length_append, List.length_set, List.length_replicate]; omega
    · intro t ht
      rcases List.mem_append.1 ht with h1 | h1
      · exact g5 t h1
      · rw [show t = l from List.mem_singleton.1 h1, q5, ← ea]
    · show (n' - 1).toNat < n'.toNat; omega
  · have hd : decide (n > 0) = false := by simpa using hk
    rw [hd]
    exact hq0 _ ⟨g0, g1, by show 1 ≤ hs.length; omega, by show hs.length ≤ 8; omega, g5⟩

theorem loops31 : NLoopsOK (Γ31 K66 G66 K74 G74 K45 G45 K75 G75 K76 G76 kL31_4 xL31_4 kL31_8 xL31_8) (N31 p74 Q74 e74 pL31_4 QL31_4 eL31_4 pL31_8 QL31_8 eL31_8) (bodyOf Try.f31) := by
  intro c' hc L hL
  have hl : loopsOf (bodyOf Try.f31) = [lc31_4, lc31_8] := by kernel_rfl
  rw [hl] at hc
  rcases List.mem_cons.1 hc with hc | hc
  · subst hc
    have hr : firstRegion lc31_4 = 4 := by kernel_rfl
    rw [hr] at hL
    have hL' : some (loopXN [0, 2, 3, 4, 5] [.boxNil 3 3] 0 [0, 2, 3] [] sh31_4 shX31_4 pL31_4 QL31_4 eL31_4) = some L := hL
    rw [← Option.some.inj hL']
    exact loopXN_sound (sh := sh31_4) (shX := shX31_4) (g := fun h f v => qN31_4 K66 G66 K74 G74 K45 G45 K75 G75 K76 G76 kL31_4 xL31_4 kL31_8 xL31_8 p74 Q74 e74 pL31_4 QL31_4 eL31_4 pL31_8 QL31_8 eL31_8 h f v) (fun h f v => evlN31_4 K66 G66 K74 G74 K45 G45 K75 G75 K76 G76 kL31_4 xL31_4 kL31_8 xL31_8 p74 Q74 e74 pL31_4 QL31_4 eL31_4 pL31_8 QL31_8 eL31_8 h f v) field_loop
  · rw [List.mem_singleton] at hc
    subst hc
    have hr : firstRegion lc31_8 = 8 := by kernel_rfl
    rw [hr] at hL
    have hL' : some (loopXN [0, 2, 3, 4, 5, 6, 7] [] 2 [0, 2, 3, 4, 5, 6] [] sh31_8 shX31_8 pL31_8 QL31_8 eL31_8) = some L := hL
    rw [← Option.some.inj hL']
    exact loopXN_sound (sh := sh31_8) (shX := shX31_8) (g := fun h f v => qN31_8 K66 G66 K74 G74 K45 G45 K75 G75 K76 G76 kL31_4 xL31_4 kL31_8 xL31_8 p74 Q74 e74 pL31_4 QL31_4 eL31_4 pL31_8 QL31_8 eL31_8 h f v) (fun h f v => evlN31_8 K66 G66 K74 G74 K45 G45 K75 G75 K76 G76 kL31_4 xL31_4 kL31_8 xL31_8 p74 Q74 e74 pL31_4 QL31_4 eL31_4 pL31_8 QL31_8 eL31_8 h f v) hour_loop

end Go.Proofs.Ytmmdjajebmihhaa.AM
