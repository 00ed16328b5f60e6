/- Plainly: the law FnKept: a sail that fits in the wider sense is kept, and else the best one is set. Conditions: what every value that is handed over meets. -/
import Derived.Test.YtbgkhcoeifbgkaaV7
namespace Go.Proofs.Ytbgkhcoeifbgkaa.AM
open Go Go.Proofs
set_option linter.unusedVariables false

/-! ## Moments -/

def i64B (n : Int) : Bool := decide (-9223372036854775808 ≤ n) && decide (n ≤ 9223372036854775807)
theorem i64B_iff {n : Int} : i64B n = true ↔ I64 n := by unfold i64B I64; simp
def GoodMs (l : List (Den S25)) : Prop := ∀ m ∈ l, I64 m.2.1
def gmB (l : List (Den S25)) : Bool := l.all fun m => i64B m.2.1
theorem gmB_iff {l : List (Den S25)} : gmB l = true ↔ GoodMs l := by
  unfold gmB GoodMs
  rw [List.all_eq_true]
  exact ⟨fun h m hm => i64B_iff.1 (h m hm), fun h m hm => i64B_iff.2 (h m hm)⟩
theorem GoodMs.app {l : List (Den S25)} {m : Den S25} (h : GoodMs l) (hm : I64 m.2.1) : GoodMs (l ++ [m]) := by
  intro t ht
  rcases List.mem_append.1 ht with h1 | h1
  · exact h t h1
  · rw [List.mem_singleton.1 h1]; exact hm
theorem GoodMs.good {l : List (Den S25)} (h : GoodMs l) (hl : l.length ≤ 61) : GoodM l :=
  ⟨by omega, fun i => by
    rcases mo_mem (l := l) (i := i) with h1 | h1
    · exact h _ h1
    · rw [h1]; exact I64_zero⟩

def pL63_6 (v : V63_6) : Bool := curB v.2.1 && (decide (0 ≤ v.1.2.2.1) && (decide ((v.2.2.1.length : Int) + v.1.2.2.1 ≤ 61) && gmB v.2.2.1))
def QL63_6 (v : V63_6) (y : X63_6) : Prop := CurOk y.2.1 ∧ GoodMs y.2.2.1 ∧ y.2.2.1.length ≤ 61
theorem eL63_6 : Nonempty (ChL pL63_6 QL63_6) := ⟨⟨fun _ => (((), ()), (curZ, ([], ()))), fun _ _ => ⟨curZ_ok, (fun _ h => by cases h), Nat.zero_le _⟩⟩⟩

theorem mom_loop (v : V63_6) (hv : pL63_6 v = true) (h : X63_6 → Option Unit) (hq0 : ∀ y, QL63_6 v y → h y = some ()) : ∃ n, iter (qN63_6 K67 G67 K65 G65 K60 G60 K72 G72 kL63_6 xL63_6 p60 Q60 e60 pL63_6 QL63_6 eL63_6 h) n v = some () := by
  have hq : ∀ y : X63_6, CurOk y.2.1 ∧ GoodMs y.2.2.1 ∧ y.2.2.1.length ≤ 61 → h y = some () := hq0
  clear hq0
  simp only [pL63_6, Bool.and_eq_true, decide_eq_true_eq] at hv
  refine ⟨v.1.2.2.1.toNat + 1, ?_⟩
  refine iter_ind (q := qN63_6 K67 G67 K65 G65 K60 G60 K72 G72 kL63_6 xL63_6 p60 Q60 e60 pL63_6 QL63_6 eL63_6 h) (fun v => CurOk v.2.1 ∧ 0 ≤ v.1.2.2.1 ∧ (v.2.2.1.length : Int) + v.1.2.2.1 ≤ 61 ∧ GoodMs v.2.2.1)
    (fun _ r => r = some ()) (fun v => v.1.2.2.1.toNat) ?_ _ _ ⟨curB_iff.1 hv.1, hv.2.1, hv.2.2.1, gmB_iff.1 hv.2.2.2⟩ (by omega)
  clear hv v
  rintro ⟨⟨_, _, k, _, _⟩, c, l, m, _⟩ f ⟨g0, g1, g2, g3⟩ ih
  simp only at g0 g1 g2 g3 ih
  unfold qN63_6
  dsimp only
  by_cases hk : k > 0
  · refine all_t (by simpa using hk) ?_
    refine all_t (K67_ok _ (by (repeat ((try dsimp only); first | assumption | (with_reducible first | apply G62_cur | apply G70_cur | apply G74_cur | apply G75_cur | apply G67_cur | apply G65_cur))))) ?_
    refine all_t (K67_ok _ (by (repeat ((try dsimp only); first | assumption | (with_reducible first | apply G62_cur | apply G70_cur | apply G74_cur | apply G75_cur | apply G67_cur | apply G65_cur))))) ?_
    refine all_t (K72_t _) ?_
    refine all_t (K65_ok _ (by (repeat ((try dsimp only); first | assumption | (with_reducible first | apply G62_cur | apply G70_cur | apply G74_cur | apply G75_cur | apply G67_cur | apply G65_cur))))) ?_
    have c8 : CurOk (G65 (((), 6, ()), (G67 (((), 21, ()), (G67 (((), 17, ()), c, ())).snd)).snd)).snd.fst := by (repeat ((try dsimp only); first | assumption | (with_reducible first | apply G62_cur | apply G70_cur | apply G74_cur | apply G75_cur | apply G67_cur | apply G65_cur)))
    generalize G65 (((), 6, ()), (G67 (((), 21, ()), (G67 (((), 17, ()), c, ())).snd)).snd) = A at *
    have e : IntKind.i64.wrap (k - 1) = k - 1 := w64 (by omega) (by omega)
    simp only [set1, List.length_singleton]
    refine all_b (fun _ => ?_) (fun _ => ?_)
    · haveI := e60
      refine allK_intro fun g => ?_
      have hp : p60 (((), ()), A.snd) = true := curB_iff.2 c8
      obtain ⟨q1, q2⟩ := g.2 _ hp
      refine all_t hp ?_
      refine all_t (capOk_of (by omega)) ?_
      refine ih _ ⟨q1, ?_, ?_, g3.app q2⟩ ?_ <;> simp only [e, List.length_append, List.length_singleton] <;> omega
    · refine all_t (capOk_of (by omega)) ?_
      refine ih _ ⟨c8, ?_, ?_, g3.app (G72_I _)⟩ ?_ <;> simp only [e, List.length_append, List.length_singleton] <;> omega
  · have : decide (k > 0) = false := by simpa using hk
    rw [this]
    exact hq _ ⟨g0, g3, by show l.length ≤ 61; omega⟩

def p63 (x : I63.den) : Bool := curB x.2.1
def Q63 (x : I63.den) (y : O63.den) : Prop := CurOk y.2.1 ∧ GoodMs y.2.2.1 ∧ y.2.2.1.length ≤ 61
theorem e63 : Nonempty (Ch I63 O63 p63 Q63) := ⟨⟨fun _ => (((), ()), (curZ, ([], ()))), fun _ _ => ⟨curZ_ok, (fun _ h => by cases h), Nat.zero_le _⟩⟩⟩
theorem loops63 : NLoopsOK (Γ63 K67 G67 K65 G65 K60 G60 K72 G72 kL63_6 xL63_6) (N63 p60 Q60 e60 pL63_6 QL63_6 eL63_6) (bodyOf Try.f63) := by
  intro c' hc L hL
  have hl : loopsOf (bodyOf Try.f63) = [lc63_6] := by kernel_rfl
  rw [hl, List.mem_singleton] at hc
  subst hc
  have hr : firstRegion lc63_6 = 6 := by kernel_rfl
  rw [hr] at hL
  have hL' : some (loopXN [0, 3, 4, 5] [] 0 [3] [] sh63_6 shX63_6 pL63_6 QL63_6 eL63_6) = some L := hL
  rw [← Option.some.inj hL']
  exact loopXN_sound (sh := sh63_6) (shX := shX63_6) (g := fun h f v => qN63_6 K67 G67 K65 G65 K60 G60 K72 G72 kL63_6 xL63_6 p60 Q60 e60 pL63_6 QL63_6 eL63_6 h f v) (fun h f v => evlN63_6 K67 G67 K65 G65 K60 G60 K72 G72 kL63_6 xL63_6 p60 Q60 e60 pL63_6 QL63_6 eL63_6 h f v) mom_loop

theorem fam63 : FamOK Try.prog 63 (sgFam true I63 O63 p63 Q63 e63) := sgN_ok env63 (N := N63 p60 Q60 e60 pL63_6 QL63_6 eL63_6) (mkN_ok ⟨fam60, trivial⟩) is63 loops63 fun x hx k hk => by
  have h : CurOk x.2.1 := curB_iff.1 hx
  refine Eq.trans (evN63 _ _ _ _ _ _ _ _ _ _ _ _ _ _ _ _ k x) ?_
  unfold rN63
  dsimp only
  have hz : List.replicate 0 (zero S25) = [] := rfl
  rw [hz]
  refine all_t (K67_ok _ (by (repeat ((try dsimp only); first | assumption | (with_reducible first | apply G62_cur | apply G70_cur | apply G74_cur | apply G75_cur | apply G67_cur | apply G65_cur))))) ?_
  have b9 : 0 ≤ ((G67 (((), 9, ()), x.snd)).fst.fst : Int) ∧ ((G67 (((), 9, ()), x.snd)).fst.fst : Int) < 9 := below_bd 9 x.2.1 h (by decide)
  have c9 : CurOk (G67 (((), 9, ()), x.snd)).snd.fst := by (repeat ((try dsimp only); first | assumption | (with_reducible first | apply G62_cur | apply G70_cur | apply G74_cur | apply G75_cur | apply G67_cur | apply G65_cur)))
  generalize G67 (((), 9, ()), x.snd) = B at *
  refine all_t (K65_ok _ (by (repeat ((try dsimp only); first | assumption | (with_reducible first | apply G62_cur | apply G70_cur | apply G74_cur | apply G75_cur | apply G67_cur | apply G65_cur))))) ?_
  have c3 : CurOk (G65 (((), 30, ()), B.snd)).snd.fst := by (repeat ((try dsimp only); first | assumption | (with_reducible first | apply G62_cur | apply G70_cur | apply G74_cur | apply G75_cur | apply G67_cur | apply G65_cur)))
  generalize G65 (((), 30, ()), B.snd) = A at *
  have pl : ∀ (u : V63_6), CurOk u.2.1 → 0 ≤ u.1.2.2.1 → u.1.2.2.1 ≤ 61 → u.2.2.1 = [] → pL63_6 u = true := by
    intro u h1 h2 h3 h4
    unfold pL63_6
    rw [curB_iff.2 h1, h4]
    simp [gmB, h2, h3]
  haveI := e60
  haveI := eL63_6
  refine all_b (fun _ => ?_) (fun _ => ?_)
  · refine all_t (K67_ok _ (by (repeat ((try dsimp only); first | assumption | (with_reducible first | apply G62_cur | apply G70_cur | apply G74_cur | apply G75_cur | apply G67_cur | apply G65_cur))))) ?_
    have b2 : 0 ≤ ((G67 (((), 2, ()), A.snd)).fst.fst : Int) ∧ ((G67 (((), 2, ()), A.snd)).fst.fst : Int) < 2 := below_bd 2 A.2.1 c3 (by decide)
    have c5 : CurOk (G67 (((), 2, ()), A.snd)).snd.fst := by (repeat ((try dsimp only); first | assumption | (with_reducible first | apply G62_cur | apply G70_cur | apply G74_cur | apply G75_cur | apply G67_cur | apply G65_cur)))
    generalize G67 (((), 2, ()), A.snd) = D at *
    have b2' : ∀ z : Int, z = D.fst.fst → 0 ≤ IntKind.i64.wrap (60 + z) ∧ IntKind.i64.wrap (60 + z) ≤ 61 := fun z e => by
      have h1 : 0 ≤ z := e ▸ b2.1
      have h2 : z < 2 := e ▸ b2.2
      rw [w64 (by omega) (by omega)]
      omega
    refine allK_intro fun g => ?_
    have hp : p60 (((), ()), D.snd) = true := curB_iff.2 c5
    obtain ⟨q1, q2⟩ := g.2 _ hp
    refine all_t hp ?_
    have hu := pl (((), (), IntKind.i64.wrap (60 + D.fst.fst), (), ()), (g.val (((), ()), D.snd)).snd.fst, [], (g.val (((), ()), D.snd)).fst) q1 (b2' _ rfl).1 (b2' _ rfl).2 rfl
    refine all_t hu ?_
    refine allK_intro fun g2 => ?_
    exact hk _ (g2.2 _ hu)
  · refine allK_intro fun g => ?_
    have hp : p60 (((), ()), A.snd) = true := curB_iff.2 c3
    obtain ⟨q1, q2⟩ := g.2 _ hp
    refine all_t hp ?_
    have hb : ∀ z : Int, z = B.fst.fst → 0 ≤ z ∧ z ≤ 61 := fun z e => by have h1 : 0 ≤ z := e ▸ b9.1; have h2 : z < 9 := e ▸ b9.2; omega
    have hu := pl (((), (), B.fst.fst, (), ()), (g.val (((), ()), A.snd)).snd.fst, [], (g.val (((), ()), A.snd)).fst) q1 (hb _ rfl).1 (hb _ rfl).2 rfl
    refine all_t hu ?_
    refine allK_intro fun g2 => ?_
    exact hk _ (g2.2 _ hu)

/-! ## What a law is handed -/

def codeB (l : List Int) : Bool := decide (l.length ≤ 1048576)
def p42 (x : I42.den) : Bool := codeB x.1.1
def Q42 (x : I42.den) (y : O42.den) : Prop := GoodSs y.2.1 ∧ y.2.1.length ≤ 13 ∧ GoodMs y.2.2.1 ∧ y.2.2.1.length ≤ 61
theorem e42 : Nonempty (Ch I42 O42 p42 Q42) := ⟨⟨fun _ => (((), 0, (), ()), ([], [], ())), fun _ _ => ⟨(fun _ h => by cases h), Nat.zero_le _, (fun _ h => by cases h), Nat.zero_le _⟩⟩⟩
theorem fam42 : FamOK Try.prog 42 (sgFam false I42 O42 p42 Q42 e42) := sgN_ok env42 (N := N42 p59 Q59 e59 p63 Q63 e63) (mkN_ok ⟨fam59, fam63, trivial⟩) is42 noNLoops fun x hx k hk => by
  have h : x.1.1.length ≤ 1048576 := by simpa [p42, codeB] using hx
  refine Eq.trans (evN42 _ _ _ _ _ _ _ _ _ _ _ _ _ _ k x) ?_
  unfold rN42
  dsimp only
  have c0 := G58_cur x h
  haveI := e59
  haveI := e63
  refine all_t (K58_ok _ h) ?_
  refine allK_intro fun g => ?_
  have hp : p59 (((), ()), (G58 x).snd) = true := curB_iff.2 c0
  obtain ⟨q1, q2, q3⟩ := g.2 _ hp
  refine all_t hp ?_
  refine all_t (K62_ok _ (by (repeat ((try dsimp only); first | assumption | (with_reducible first | apply G62_cur | apply G70_cur | apply G74_cur | apply G75_cur | apply G67_cur | apply G65_cur))))) ?_
  refine allK_intro fun g2 => ?_
  have c5 : CurOk (G62 (((), ((g.val (((), ()), (G58 x).snd)).snd.snd.fst.length : Int), ()), (g.val (((), ()), (G58 x).snd)).snd.fst, ())).snd.fst := by (repeat ((try dsimp only); first | assumption | (with_reducible first | apply G62_cur | apply G70_cur | apply G74_cur | apply G75_cur | apply G67_cur | apply G65_cur)))
  generalize G62 (((), ((g.val (((), ()), (G58 x).snd)).snd.snd.fst.length : Int), ()), (g.val (((), ()), (G58 x).snd)).snd.fst, ()) = E at *
  have hp2 : p63 (((), ()), E.snd) = true := curB_iff.2 c5
  obtain ⟨q4, q5, q6⟩ := g2.2 _ hp2
  refine all_t hp2 ?_
  exact hk _ ⟨q2, q3, q5, q6⟩

/-! ## The law -/

def kTrue (y : Den (.cons .bool .nil)) : Option Unit := bif y.1 then some () else none
theorem kTrue_ok : ∀ y, kTrue y = some () → y = (true, ()) := by
  rintro ⟨b, _⟩ h
  cases b
  · cases h
  · rfl
theorem F33_eq (x : Den A33) : F33 x = some (decide ((x.1.length : Int) > 1048576), ()) := rfl

theorem run_get (l : List (Den S23)) (a : Int) (ms : List (Den S25)) : ∀ (n k : Nat), k < n → (runSt l a ms n).2.getD k 0 = keepN l (runSt l a ms k).1 (mo ms k)
  | n + 1, k, h => by
    have hl := runSt_len l a ms n
    simp only [runSt]
    by_cases hk : k < n
    · rw [List.getD_eq_getElem?_getD, List.getElem?_append_left (by omega), ← List.getD_eq_getElem?_getD]
      exact run_get l a ms n k hk
    · have : k = n := by omega
      subst this
      rw [List.getD_eq_getElem?_getD, List.getElem?_append_right (by omega), hl]
      simp

theorem kept_loop (l : List (Den S23)) (a : Int) (ms : List (Den S25)) (h : GoodL l) (hm : GoodM ms) (hs : sailsB l = true) (h60 : ms.length ≤ 60) :
    l11_10 (((), a, (), (), (0 : Int), ()), (l, (ms, ((runSt l a ms ms.length).2, ())))) = some (.inl ((), ())) := by
  have hlen := h.len
  refine (iter_all (q := q11_10 K33 G33 K42 G42 K43 G43 K27 G27 K25 G25 K32 G32) (fun k => (((), (runSt l a ms k).1, (), (), (k : Int), ()), (l, (ms, ((runSt l a ms ms.length).2, ()))))) ms.length _ ?_ ?_ _ ?_ : _)
  · intro k f hk
    have hr := runSt_len l a ms ms.length
    have e0 : List.getD (runSt l a ms ms.length).2 k (zero (Ty.int IntKind.i64)) = keepN l (runSt l a ms k).1 (mo ms k) := run_get l a ms ms.length k hk
    have e1 : decide ((k : Int) < (ms.length : Int)) = true := by simpa using hk
    have e2 : decide (0 ≤ (k : Int)) = true := by simp
    have hb : ∀ k, List.getD ms k (zero S25) = mo ms k := fun _ => rfl
    have ha : ∀ k, List.getD l k (zero S23) = at' l k := fun _ => rfl
    have h25 : ∀ i, F25 (at' l i, mo ms k, ()) = some (fitsWideB (at' l i) (mo ms k), ()) := fun i => F25_eq _ (h.rng i).1 (h.rng i).2 (hm.rng k)
    have h32 : F32 (l, mo ms k, ()) = some (bestN l (mo ms k), ()) := F32_eq l _ h
    have hnext : (runSt l a ms (k + 1)).1 = keepN l (runSt l a ms k).1 (mo ms k) := rfl
    unfold q11_10
    simp only [hr, e1, e2, Bool.and_self, cond_true, Int.toNat_natCast, hb, ha, e0, K25, G25, h25, K32, G32, h32, Option.isSome_some, Option.getD_some, w64n k (by omega), hnext]
    unfold keepN
    simp only [hs, cond_true]
    generalize (runSt l a ms k).1 = s
    by_cases h1 : 0 ≤ s
    · have d1 : decide (s ≥ 0) = true := by simpa using h1
      by_cases h2 : s < (l.length : Int)
      · have d2 : decide (s < (l.length : Int)) = true := by simpa using h2
        have d3 : decide (s ≤ (l.length : Int) - 1) = true := by simp; omega
        simp only [d1, d2, d3, Bool.and_self, cond_true, Bool.true_and]
        cases fitsWideB (at' l s.toNat) (mo ms k)
        · simp only [cond_false, Bool.not_false, cond_true, bne_self_eq_false]
        · simp only [cond_true, bne_self_eq_false, Bool.not_true, cond_false]
      · have d2 : decide (s < (l.length : Int)) = false := by simpa using h2
        have d3 : decide (s ≤ (l.length : Int) - 1) = false := by simp; omega
        simp only [d1, d2, d3, cond_true, cond_false, Bool.and_false, Bool.false_and, bne_self_eq_false]
    · have d1 : decide (s ≥ 0) = false := by simpa using h1
      simp only [d1, cond_false, Bool.false_and, bne_self_eq_false]
  · intro f
    have hr := runSt_len l a ms ms.length
    unfold q11_10
    simp [hr]
  · exact Nat.lt_of_lt_of_le (m := 1000) (by omega) (Nat.le_add_left _ _)

theorem nok11 : NOK Try.prog (N11 p42 Q42 e42) := mkN_ok ⟨fam42, trivial⟩
theorem kept (x : Den A11) (w : Wf A11 x) : callN (Γ11 K33 G33 K42 G42 K43 G43 K27 G27 K25 G25 K32 G32 kL11_10 xL11_10 tL11_10 yL11_10) (N11 p42 Q42 e42) (bodyOf Try.f11) (decRH R11 kTrue) (encA A11 x) [] = some () := by
  refine Eq.trans (evN11 _ _ _ _ _ _ _ _ _ _ _ _ _ _ _ _ _ _ _ kTrue x) ?_
  unfold rN11
  simp only [K33, G33, F33_eq, Option.isSome_some, Option.getD_some, cond_true]
  by_cases h0 : (x.1.length : Int) > 1048576
  · simp only [h0, decide_true, cond_true]; rfl
  · simp only [h0, decide_false, cond_false]
    haveI := e42
    refine allK_intro fun g => ?_
    have hp : p42 (x, ()) = true := by show decide (x.1.length ≤ 1048576) = true; simp; omega
    obtain ⟨q1, q2, q3, q4⟩ := g.2 _ hp
    refine all_t hp ?_
    generalize g.val (x, ()) = d at *
    obtain ⟨⟨_, a, _, _⟩, l, ms, _⟩ := d
    have hg := GoodSs.good q1 q2
    have hm := GoodMs.good q3 q4
    have e43 : F43 ((l, a, ms, ()), ()) = some (((), ()), (runV l a ms, ())) := F43_eq l a ms hg hm
    have e27 : F27 (l, ()) = some (sailsB l, ()) := F27_eq l hg
    simp only [K43, G43, e43, K27, G27, e27, Option.isSome_some, Option.getD_some, cond_true]
    unfold runV
    cases hs : sailsB l with
    | false => rfl
    | true =>
      by_cases h6 : (ms.length : Int) ≤ 60
      · have d6 : decide ((ms.length : Int) > 60) = false := by simp; omega
        have hl := kept_loop l a ms hg hm hs (by omega)
        have hne : (((runSt l a ms ms.length).2.length : Int) != (ms.length : Int)) = false := by rw [runSt_len]; simp
        simp only [h6, decide_true, Bool.and_self, cond_true, Bool.not_true, cond_false, d6, hne, kL11_10, tL11_10, hl, Option.isSome_some, isR]
        rfl
      · have d6 : decide ((ms.length : Int) > 60) = true := by simp; omega
        simp only [h6, decide_false, Bool.and_false, Bool.not_true, cond_false, d6, cond_true]
        rfl

end Go.Proofs.Ytbgkhcoeifbgkaa.AM
