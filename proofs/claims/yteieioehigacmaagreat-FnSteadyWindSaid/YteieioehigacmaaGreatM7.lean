/- Texts of one proof, joined: an abstract machine for the program, its functions evaluated, plain lemmas. Conditions: those that each lemma names. -/
import Derived.Test.YteieioehigacmaaGreatM6
import Derived.Test.YteieioehigacmaaGreatM4
import Derived.Test.YteieioehigacmaaGreatM5
set_option linter.unusedVariables false
set_option linter.unusedSimpArgs false
namespace Go.Proofs.YteieioehigacmaaGreat.AM
open Go Go.Proofs
theorem secEta (y : Int × Bool × Unit) : (y.1, y.2.1, ()) = y := rfl
theorem F76_eq (p : PolT) (w way : Nat × Nat) : F76 (p, w, way, ()) = some (bif (sUp p (gustV w)).2.1 then bif (sDown p (gustV w)).2.1 then bif decide (fromV w ≥ 0) then bif decide (bearV way ≥ 0) then inB (btw (fromV w) (bearV way)) (sUp p (gustV w)).1 (sDown p (gustV w)).1 else false else false else false else false, ()) := by
 have e1 : F71 (w, ()) = some (fromV w, ()) := F71_eq w
 have e2 : F72 (way, ()) = some (bearV way, ()) := F72_bear way
 have e3 : F73 (w, ()) = some (gustV w, ()) := F73_eq w
 have e4 : F74 (p, gustV w, ()) = some (sUp p (gustV w)) := F74_eq _ _
 have e5 : F75 (p, gustV w, ()) = some (sDown p (gustV w)) := F75_eq _ _
 have e6 : F78 (fromV w, bearV way, ()) = some (btw (fromV w) (bearV way), ()) := F78_eq _ _
 have e7 : ∀ a b c : Int, F18 (a, b, c, ()) = some (inB a b c, ()) := F18_eq
 unfold F76 r76
 simp only [K71, G71, e1, K72, G72, e2, K73, G73, e3, K74, G74, e4, K75, G75, e5, K78, G78, e6, K18, G18, e7, Option.isSome_some, Option.getD_some, cond_true]
 cases (sUp p (gustV w)).2.1 <;> cases (sDown p (gustV w)).2.1 <;> cases decide (fromV w ≥ 0) <;> cases decide (bearV way ≥ 0) <;> rfl
theorem F81_eq (p : PolT) (w : Nat × Nat) : F81 (p, w, ()) = some (headV w (sUp p (gustV w)).1 (sUp p (gustV w)).2.1) := by
 have e1 : F71 (w, ()) = some (fromV w, ()) := F71_eq w
 have e3 : F73 (w, ()) = some (gustV w, ()) := F73_eq w
 have e4 : F74 (p, gustV w, ()) = some (sUp p (gustV w)) := F74_eq _ _
 have e5 : ∀ n : Int, F111 (n, ()) = some ((md n : Int), ()) := F111_eq
 unfold F81 r81 headV
 simp only [K71, G71, e1, K73, G73, e3, K74, G74, e4, K111, G111, e5, Option.isSome_some, Option.getD_some, cond_true]
 cases decide (fromV w < 0) <;> cases (sUp p (gustV w)).2.1 <;> rfl
theorem F83_eq (p : PolT) (w : Nat × Nat) : F83 (p, w, ()) = some (headV w (sDown p (gustV w)).1 (sDown p (gustV w)).2.1) := by
 have e1 : F71 (w, ()) = some (fromV w, ()) := F71_eq w
 have e3 : F73 (w, ()) = some (gustV w, ()) := F73_eq w
 have e4 : F75 (p, gustV w, ()) = some (sDown p (gustV w)) := F75_eq _ _
 have e5 : ∀ n : Int, F111 (n, ()) = some ((md n : Int), ()) := F111_eq
 unfold F83 r83 headV
 simp only [K71, G71, e1, K73, G73, e3, K75, G75, e4, K111, G111, e5, Option.isSome_some, Option.getD_some, cond_true]
 cases decide (fromV w < 0) <;> cases (sDown p (gustV w)).2.1 <;> rfl
def timeX (p : PolT) (w way : Nat × Nat) : Int × Bool × Unit :=
 bif decide (bearV way < 0) then (0, false, ()) else bif decide (fromV w < 0) then (0, false, ()) else
 bif !(sUp p (gustV w)).2.1 then (0, false, ()) else bif !(sDown p (gustV w)).2.1 then (0, false, ()) else
 bif inB (btw (bearV way) (fromV w)) (sUp p (gustV w)).1 (sDown p (gustV w)).1 then secV (lenW way) (convF .f32 .f64 (speedO p (gustV w) (btw (bearV way) (fromV w))).1).2
 else bif decide (btw (bearV way) (fromV w) > (sDown p (gustV w)).1) then beatV p (gustV w) (sDown p (gustV w)).1 way (headV w (sDown p (gustV w)).1 true).1 (headV w (sDown p (gustV w)).1 true).2.1
 else beatV p (gustV w) (sUp p (gustV w)).1 way (headV w (sUp p (gustV w)).1 true).1 (headV w (sUp p (gustV w)).1 true).2.1
theorem F41_x (p : PolT) (w way : Nat × Nat) : F41 (p, w, way, ()) = some (timeX p w way) := by
 have e1 : F56 (w, ()) = some (gustV w, ()) := F56_eq w
 have e2 : F57 (p, gustV w, ()) = some (sUp p (gustV w)) := (F57_eq _ _).trans (congrArg some (best_up p (gustV w)).symm)
 have e3 : F58 (p, gustV w, ()) = some (sDown p (gustV w)) := (F58_eq _ _).trans (congrArg some (best_down p (gustV w)).symm)
 have e4 : F59 (way, ()) = some (bearV way, ()) := F59_eq way
 have e5 : F60 (w, ()) = some (fromV w, ()) := F60_eq w
 have e6 : F61 (bearV way, fromV w, ()) = some (btw (bearV way) (fromV w), ()) := F61_eq _ _
 have e7 : F62 (way, ()) = some (lenW way, ()) := F62_eq way
 have e8 : ∀ a b c : Int, F22 (a, b, c, ()) = some (inB a b c, ()) := F22_eq
 have e9 : ∀ (a : Int) (b : Bool), F63 (w, a, b, ()) = some (headV w a b) := F63_eq w
 have e10 : ∀ a b : Int, F64 (way, a, b, ()) = some (splitV way a b) := F64_eq way
 have e11 : ∀ a : Int, F65 (p, gustV w, a, ()) = some (speedO p (gustV w) a) := F65_eq p _
 have e12 : ∀ m a : Nat, F66 (m, a, ()) = some (secV m a) := fun m a => (F66_eq m a).1
 unfold F41 r41 timeX beatV
 simp only [K56, G56, e1, K57, G57, e2, K58, G58, e3, K59, G59, e4, K60, G60, e5, K61, G61, e6, K62, G62, e7, K22, G22, e8, K63, G63, e9, K64, G64, e10, K65, G65, e11, K66, G66, e12, Option.isSome_some, Option.getD_some, cond_true, secEta]
 cases decide (bearV way < 0)
 case true => rfl
 cases decide (fromV w < 0)
 case true => rfl
 cases (sUp p (gustV w)).2.1
 case false => rfl
 cases (sDown p (gustV w)).2.1
 case false => rfl
 cases inB (btw (bearV way) (fromV w)) (sUp p (gustV w)).1 (sDown p (gustV w)).1
 case true => rfl
 have key : ∀ a : Int, ∀ q : Nat × Nat × Bool × Unit,
  (bif (!q.2.2.1) then some (((0 : Int), (false, ())) : Int × Bool × Unit) else
   bif flt .f64 q.1 0 then
    bif flt .f64 q.2.1 0 then some (secV (farith .add .f64 0 0) (convF .f32 .f64 (speedO p (gustV w) a).1).2)
    else some (secV (farith .add .f64 0 q.2.1) (convF .f32 .f64 (speedO p (gustV w) a).1).2)
   else
    bif flt .f64 q.2.1 0 then some (secV (farith .add .f64 q.1 0) (convF .f32 .f64 (speedO p (gustV w) a).1).2)
    else some (secV (farith .add .f64 q.1 q.2.1) (convF .f32 .f64 (speedO p (gustV w) a).1).2)) =
  some (bif (!q.2.2.1) then (0, false, ()) else secV (farith .add .f64 (bif flt .f64 q.1 0 then 0 else q.1) (bif flt .f64 q.2.1 0 then 0 else q.2.1)) (convF .f32 .f64 (speedO p (gustV w) a).1).2) := by
  intro a q
  cases q.2.2.1 <;> cases flt .f64 q.1 0 <;> cases flt .f64 q.2.1 0 <;> rfl
 cases decide (btw (bearV way) (fromV w) > (sDown p (gustV w)).1)
 ·exact key _ _
 ·exact key _ _
theorem F52_x (p : PolT) (w way : Nat × Nat) : F52 (p, w, way, ()) = some (timeX p w way) := by
 have e1 : F71 (w, ()) = some (fromV w, ()) := F71_eq w
 have e2 : F72 (way, ()) = some (bearV way, ()) := F72_bear way
 have e3 : F73 (w, ()) = some (gustV w, ()) := F73_eq w
 have e4 : F74 (p, gustV w, ()) = some (sUp p (gustV w)) := F74_eq _ _
 have e5 : F75 (p, gustV w, ()) = some (sDown p (gustV w)) := F75_eq _ _
 have e6 : F76 (p, w, way, ()) = _ := F76_eq p w way
 have e7 : F78 (fromV w, bearV way, ()) = some (btw (bearV way) (fromV w), ()) := (F78_eq _ _).trans (by rw [btw_sym])
 have e8 : F80 (way, ()) = some (lenW way, ()) := F80_eq way
 have e9 : ∀ a : Int, F77 (p, gustV w, a, ()) = some (speedO p (gustV w) a) := F77_eq p _
 have e10 : ∀ m a : Nat, F79 (m, a, ()) = some (secV m a) := F79_eq
 have e11 : F81 (p, w, ()) = _ := F81_eq p w
 have e12 : F83 (p, w, ()) = _ := F83_eq p w
 have e13 : ∀ (a k l : Int), F82 (p, gustV w, a, way, k, l, ()) = some (beatV p (gustV w) a way k l) := fun a k l => F82_eq p (gustV w) a way k l
 unfold F52 r52 timeX
 simp only [K71, G71, e1, K72, G72, e2, K73, G73, e3, K74, G74, e4, K75, G75, e5, K76, G76, e6, K78, G78, e7, K80, G80, e8, K77, G77, e9, K79, G79, e10, K81, G81, e11, K83, G83, e12, K82, G82, e13, Option.isSome_some, Option.getD_some, cond_true, secEta]
 have r1 : (sUp p (gustV w)).2.1 = true -> (sUp p (gustV w)).1 <= 90 := fun h => by
  rw [best_up] at h ⊢
  exact (best_rng upF (by decide) p (gustV w) h).2
 have r2 : (sDown p (gustV w)).2.1 = true -> 91 <= (sDown p (gustV w)).1 := fun h => by
  rw [best_down] at h ⊢
  exact (best_rng downF (by decide) p (gustV w) h).1
 rw [btw_sym (fromV w) (bearV way)]
 generalize btw (bearV way) (fromV w) = a
 cases hu : (sUp p (gustV w)).2.1
 case false => simp only [Bool.not_false, cond_true]; cases decide (bearV way < 0) <;> cases decide (fromV w < 0) <;> rfl
 cases hd : (sDown p (gustV w)).2.1
 case false => simp only [Bool.not_false, Bool.not_true, cond_true, cond_false]; cases decide (bearV way < 0) <;> cases decide (fromV w < 0) <;> rfl
 have r1 := r1 hu
 have r2 := r2 hd
 simp only [Bool.not_true, cond_true, cond_false]
 by_cases hf : fromV w < 0
 ·have : decide (fromV w < 0) = true := decide_eq_true hf
  rw [this]
  cases decide (bearV way < 0) <;> rfl
 by_cases hb : bearV way < 0
 ·have e1 : decide (fromV w < 0) = false := decide_eq_false hf
  have e2 : decide (bearV way < 0) = true := decide_eq_true hb
  rw [e1, e2]
  rfl
 have f1 : decide (fromV w < 0) = false := decide_eq_false hf
 have f2 : decide (bearV way < 0) = false := decide_eq_false hb
 have f3 : decide (fromV w ≥ 0) = true := decide_eq_true (by omega)
 have f4 : decide (bearV way ≥ 0) = true := decide_eq_true (by omega)
 simp only [f1, f2, f3, f4, cond_true, cond_false]
 cases hi : inB a (sUp p (gustV w)).1 (sDown p (gustV w)).1
 case true => rfl
 simp only [cond_false]
 have hn : ¬ ((sUp p (gustV w)).1 <= a /\ a <= (sDown p (gustV w)).1) := by
  intro h
  have : inB a (sUp p (gustV w)).1 (sDown p (gustV w)).1 = true := by unfold inB; simp [h.1, h.2]
  rw [hi] at this; cases this
 generalize (sUp p (gustV w)).1 = u at *
 generalize (sDown p (gustV w)).1 = d at *
 have pick : decide (a < u) = !decide (a > d) := by
  by_cases h1 : a < u
  ·have h2 : ¬ a > d := by omega
   simp [h1, h2]
  ·have h2 : a > d := by omega
   simp [h1, h2]
 rw [show decide (a < u) = !decide (a > d) from pick]
 cases decide (a > d) <;> rfl
theorem F52_eq (p : PolT) (w way : Nat × Nat) : F52 (p, w, way, ()) = some (timeV p w way) := by
 rw [F52_x, <- F41_x, (F41_eq p w way).1]
theorem F33_eq (f : FieldT) (p : PolT) (a b t : Int) (h : HoursG f.2.2.2.1) : F33 (f, p, a, b, t, ()) = some (edgeV f p a b t) := by
 have e1 : F50 (f, a, t, ()) = some (windV f a t) := F50_eq f a t h
 have e2 : ∀ n : Int, F51 (f, n, ()) = some (nodeV f n) := fun n => F51_eq f n h
 have e3 : ∀ x y z : Int, F18 (x, y, z, ()) = some (inB x y z, ()) := F18_eq
 have e4 : ∀ w way : Nat × Nat, F52 (p, w, way, ()) = some (timeV p w way) := F52_eq p
 unfold F33 r33 edgeV linkB nearB
 simp only [K50, G50, e1, K51, G51, e2, K18, G18, e3, Option.isSome_some, Option.getD_some, cond_true]
 cases hw : (windV f a t).2.1
 ·rfl
 have hfb : fieldOkB f = true /\ hasB f a = true := by
  unfold windV at hw
  cases hb : fieldOkB f
  ·rw [hb] at hw; cases hw
  ·cases hc : hasB f a
   ·rw [hb, hc] at hw; cases hw
   ·exact ⟨rfl, rfl⟩
 obtain ⟨hfb, hfa⟩ := hfb
 have hne : (f.1 != 0) = true := by simpa using wide_ne hfb
 have n1 : nodeV f a = (pos f a, true, ()) := by unfold nodeV; rw [hfb, hfa]; rfl
 rw [n1]
 simp only [hne, cond_true, Bool.not_true, cond_false, Bool.true_and]
 cases hb : hasB f b
 ·have n2 : nodeV f b = ((0, 0), false, ()) := by unfold nodeV; rw [hfb, hb]; rfl
  rw [n2]
  rfl
 have n2 : nodeV f b = (pos f b, true, ()) := by unfold nodeV; rw [hfb, hb]; rfl
 rw [n2]
 simp only [Bool.not_true, cond_false, Bool.true_and]
 cases (a == b)
 rotate_left
 ·rfl
 simp only [cond_false, Bool.not_false, Bool.true_and]
 cases inB (IntKind.i64.wrap (IntKind.i64.wrap (Int.tdiv a f.1) - IntKind.i64.wrap (Int.tdiv b f.1))) (-1) 1
 ·rfl
 simp only [Bool.not_true, cond_false, Bool.true_and]
 cases inB (IntKind.i64.wrap (Int.tmod a f.1 - Int.tmod b f.1)) (-1) 1
 ·rfl
 simp only [Bool.not_true, cond_false, cond_true]
 have e5 : F52 (p, (windV f a t).1, (farith .sub .f64 (pos f b).1 (pos f a).1, farith .sub .f64 (pos f b).2 (pos f a).2), ()) = some (timeV p (windV f a t).1 (subC (pos f b) (pos f a))) := e4 _ _
 simp only [K52, G52, e5, Option.isSome_some, Option.getD_some, cond_true]
theorem l12_eq : ∀ (n : Nat) (v : V12_4), HoursG v.2.1.2.2.2.1 -> iter (q12_4 K16 G16 K17 G17 K18 G18 K33 G33) n v = iter (q10_4 K20 G20 K21 G21 K22 G22 K15 G15 K23 G23 K24 G24) n v
 | 0, v, _ => rfl
 | n + 1, v, h => by
   obtain ⟨⟨way, time, _, _, i, _⟩, f, p, _⟩ := v
   have h : HoursG f.2.2.2.1 := h
   have ih := fun v => l12_eq n v
   show q12_4 K16 G16 K17 G17 K18 G18 K33 G33 (iter _ n) _ = q10_4 K20 G20 K21 G21 K22 G22 K15 G15 K23 G23 K24 G24 (iter _ n) _
   generalize iter (q12_4 K16 G16 K17 G17 K18 G18 K33 G33) n = g1 at *
   generalize iter (q10_4 K20 G20 K21 G21 K22 G22 K15 G15 K23 G23 K24 G24) n = g2 at *
   have e1 : ∀ a b t : Int, F33 (f, p, a, b, t, ()) = some (edgeV f p a b t) := fun a b t => F33_eq f p a b t h
   have e2 : ∀ a b t : Int, F24 (f, p, a, b, t, ()) = some (edgeV f p a b t) := fun a b t => F24_eq f p a b t h
   have hg : ∀ (t j : Int), g1 ((way, t, (), (), j, ()), (f, p, ())) = g2 ((way, t, (), (), j, ()), (f, p, ())) := fun t j => ih _ h
   unfold q12_4 q10_4
   simp only [K33, G33, e1, K24, G24, e2, Option.isSome_some, Option.getD_some, cond_true]
   simp only [show ∀ (t j : Int), g1 ((way, t, (), (), j, ()), ((f.1, f.2.1, f.2.2.1, f.2.2.2.1, ()), ((p.1, p.2.1, p.2.2.1, ()), ()))) = g2 ((way, t, (), (), j, ()), ((f.1, f.2.1, f.2.2.1, f.2.2.2.1, ()), ((p.1, p.2.1, p.2.2.1, ()), ()))) from hg]
theorem F12_eq (f : FieldT) (p : PolT) (way : List Int) (t : Int) (h : HoursG f.2.2.2.1) : F12 (f, p, way, t, ()) = F10 (f, p, way, t, ()) := by
 have a1 : F16 (f, ()) = some (fieldOkB f, ()) := F16_eq f h
 have a2 : F17 (p, ()) = some (polarB p, ()) := F17_eq p
 have a3 : ∀ x y z : Int, F18 (x, y, z, ()) = some (inB x y z, ()) := F18_eq
 have b1 : F20 (f, ()) = some (fieldOkB f, ()) := F20_eq f h
 have b2 : F21 (p, ()) = some (polarB p, ()) := F21_eq p
 have b3 : ∀ x y z : Int, F22 (x, y, z, ()) = some (inB x y z, ()) := F22_eq
 have b4 : ∀ n : Int, F15 (f, n, ()) = some (hasB f n, ()) := F15_eq f
 have b5 : F23 (t, ()) = some (inB t 0 10000000, ()) := F23_eq t
 have hl : l12_4 ((way, t, (), (), (1 : Int), ()), (f, p, ())) = l10_4 ((way, t, (), (), (1 : Int), ()), (f, p, ())) := l12_eq _ _ h
 have hh : ∀ n : Int, inB n 0 (IntKind.i64.wrap (IntKind.i64.wrap (f.1 * f.2.1) - 1)) = hasB f n := fun _ => rfl
 unfold F12 r12 F10 r10
 simp only [K16, G16, a1, K17, G17, a2, K18, G18, a3, K20, G20, b1, K21, G21, b2, K22, G22, b3, K15, G15, b4, K23, G23, b5, Option.isSome_some, Option.getD_some, cond_true, kL12_4, tL12_4, xL12_4, yL12_4, kL10_4, tL10_4, xL10_4, yL10_4]
 simp only [hl, hh]
set_option maxRecDepth 100000
set_option maxHeartbeats 0
abbrev I31:Sg:=⟨[.val (S25),.val (S30),.val (.int .i64),.val (.int .i64),.val (.int .i64)],[]⟩
abbrev O31:Sg:=⟨[.own (.int .i64) 0],[.arr (.int .i64)]⟩
abbrev V31_8:Type:=((Unit × (Unit × (Int × Unit))) × ((List (Den (.int .i64))) × ((List (Den (.int .i64))) × Unit)))
def sh31_8:ShS:=⟨[(11,.one (.ref (.int .i64) 0)),(13,.one (.ref (.int .i64) 1)),(14,.one (.int .i64))],[(0,.arr (.int .i64)),(1,.arr (.int .i64))],2,0⟩
abbrev X31_8:Type:=((Unit × Unit) × ((List (Den (.int .i64))) × Unit))
def shX31_8:ShS:=⟨[(11,.one (.ref (.int .i64) 0))],[(0,.arr (.int .i64))],1,0⟩
noncomputable def Γ31 (k16:KA A16) (g16:GA A16 R16) (k17:KA A17) (g17:GA A17 R17) (k18:KA A18) (g18:GA A18 R18) (k19:KI I19) (g19:GI I19 O19) (kl8:V31_8 -> Bool) (xl8:V31_8 -> X31_8):Env:=mkEnv tab eqs [(16,fnMean A16 R16 k16 g16),(17,fnMean A17 R17 k17 g17),(18,fnMean A18 R18 k18 g18),(19,sgMean false I19 O19 k19 g19)] 78 [.tmp 10] [] [] [(8,loopX [11,13,14] [] 0 [11] [] sh31_8 shX31_8 kl8 xl8)] [] []
noncomputable def lc31_8:Code:=(loopsOf (bodyOf Tryz.f31)).getD 0 .skip
def q31_8 (k16:KA A16) (g16:GA A16 R16) (k17:KA A17) (g17:GA A17 R17) (k18:KA A18) (g18:GA A18 R18) (k19:KI I19) (g19:GI I19 O19) (f:V31_8 -> Option (X31_8)) (v:V31_8):Option (X31_8):=
 bif (decide (v.1.2.2.1 ≥ 0)) then
 let v0:=(List.set (List.replicate 1 (zero (Ty.int IntKind.i64))) 0 v.1.2.2.1)
 bif (capOk (List.length v0 + List.length v.2.1)) then
 bif (decide (0 <= v.1.2.2.1) && decide (v.1.2.2.1 < (↑(List.length v.2.2.1):Int))) then
 let v1:=(List.getD v.2.2.1 (Int.toNat v.1.2.2.1) (zero (Ty.int IntKind.i64)))
 let v2:=(v0 ++ v.2.1)
 f (((),((),(v1,()))),(v2,((v.2.2.1),())))
 else
 none
 else
 none
 else
 some (((),()),((v.2.1),()))
theorem evl31_8 (k16:KA A16) (g16:GA A16 R16) (k17:KA A17) (g17:GA A17 R17) (k18:KA A18) (g18:GA A18 R18) (k19:KI I19) (g19:GI I19 O19) (kl8:V31_8 -> Bool) (xl8:V31_8 -> X31_8) (f:V31_8 -> Option (X31_8)) (v:V31_8):EBk (Γ31 k16 g16 k17 g17 k18 g18 k19 g19 kl8 xl8) lc31_8 (roundK [11,13,14] [] 0 [11] [] (atS sh31_8 f) (endX shX31_8)) (mkS sh31_8 v) = q31_8 k16 g16 k17 g17 k18 g18 k19 g19 f v:=by kernel_rfl
def b31_8 (v:V31_8):Nat:=v.1.2.2.1.natAbs + v.2.1.length + v.2.2.1.length + 1000
def l31_8 (v:V31_8):Option (X31_8):=iter (q31_8 K16 G16 K17 G17 K18 G18 K19 G19) (b31_8 v) v
def kL31_8 (v:V31_8):Bool:=(l31_8 v).isSome
def xL31_8 (v:V31_8):X31_8:=(l31_8 v).getD (((),()),([],()))
def r31 (k16:KA A16) (g16:GA A16 R16) (k17:KA A17) (g17:GA A17 R17) (k18:KA A18) (g18:GA A18 R18) (k19:KI I19) (g19:GI I19 O19) (kl8:V31_8 -> Bool) (xl8:V31_8 -> X31_8) (x:I31.den):Option (O31.den):=
 let v0:=(k16 (x.1.1,()))
 bif v0 then
 let v1:=(g16 (x.1.1,()))
 bif (!v1.1) then
 some (((),()),((List.replicate 0 (zero (Ty.int IntKind.i64))),()))
 else
 let v2:=(k17 (x.1.2.1,()))
 bif v2 then
 let v3:=(g17 (x.1.2.1,()))
 bif (!v3.1) then
 some (((),()),((List.replicate 0 (zero (Ty.int IntKind.i64))),()))
 else
 let v4:=(IntKind.wrap IntKind.i64 (x.1.1.1 * x.1.1.2.1))
 let v5:=(IntKind.wrap IntKind.i64 (v4 - 1))
 let v6:=(k18 (x.1.2.2.1,0,v5,()))
 bif v6 then
 let v7:=(g18 (x.1.2.2.1,0,v5,()))
 bif (!v7.1) then
 some (((),()),((List.replicate 0 (zero (Ty.int IntKind.i64))),()))
 else
 let v8:=(k18 (x.1.2.2.2.1,0,v5,()))
 bif v8 then
 let v9:=(g18 (x.1.2.2.2.1,0,v5,()))
 bif (!v9.1) then
 some (((),()),((List.replicate 0 (zero (Ty.int IntKind.i64))),()))
 else
 let v10:=(k18 (x.1.2.2.2.2.1,0,10000000,()))
 bif v10 then
 let v11:=(g18 (x.1.2.2.2.2.1,0,10000000,()))
 bif (!v11.1) then
 some (((),()),((List.replicate 0 (zero (Ty.int IntKind.i64))),()))
 else
 let v12:=(k19 ((x.1.1,x.1.2.1,x.1.2.2.1,x.1.2.2.2.2),()))
 bif v12 then
 let v13:=(g19 ((x.1.1,x.1.2.1,x.1.2.2.1,x.1.2.2.2.2),()))
 bif (decide (0 <= x.1.2.2.2.1) && decide (x.1.2.2.2.1 < (↑(List.length v13.2.1):Int))) then
 let v14:=(List.getD v13.2.1 (Int.toNat x.1.2.2.2.1) (zero (Ty.int IntKind.i64)))
 bif (decide (v14 < 0)) then
 some (((),()),((List.replicate 0 (zero (Ty.int IntKind.i64))),()))
 else
 let v15:=(kl8 (((),(),x.1.2.2.2.1,()),List.replicate 0 (zero (Ty.int IntKind.i64)),v13.2.2))
 bif v15 then
 let v16:=(xl8 (((),(),x.1.2.2.2.1,()),List.replicate 0 (zero (Ty.int IntKind.i64)),v13.2.2))
 some (((),()),(v16.2.1,()))
 else
 none
 else
 none
 else
 none
 else
 none
 else
 none
 else
 none
 else
 none
 else
 none
theorem ev31 (k16:KA A16) (g16:GA A16 R16) (k17:KA A17) (g17:GA A17 R17) (k18:KA A18) (g18:GA A18 R18) (k19:KI I19) (g19:GI I19 O19) (kl8:V31_8 -> Bool) (xl8:V31_8 -> X31_8) (x:I31.den):callS (Γ31 k16 g16 k17 g17 k18 g18 k19 g19 kl8 xl8) (bodyOf Tryz.f31) I31 O31 x = r31 k16 g16 k17 g17 k18 g18 k19 g19 kl8 xl8 x:=by kernel_rfl
def F31 (x:I31.den):Option (O31.den):=r31 K16 G16 K17 G17 K18 G18 K19 G19 kL31_8 xL31_8 x
def K31 (x:I31.den):Bool:=(F31 x).isSome
def G31 (x:I31.den):O31.den:=(F31 x).getD (zeroSg O31)
theorem sem31:SemOK Tryz.prog (31,sgMean false I31 O31 K31 G31):=sg_opt (env_ok mixed tab_ok eqs_ok (.cons sem16 (.cons sem17 (.cons sem18 (.cons sem19 .nil))))) (fnIs Tryz.func31 rfl rfl rfl (by kernel_rfl) (loops_ok (l:=[lc31_8]) (by kernel_rfl) (.cons (one_loop rfl (loopX_sound (sh:=sh31_8) (shX:=shX31_8) (fun f v => evl31_8 K16 G16 K17 G17 K18 G18 K19 G19 kL31_8 xL31_8 f v) b31_8 (((),()),([],())))) (.nil)))) false fun x => ev31 K16 G16 K17 G17 K18 G18 K19 G19 kL31_8 xL31_8 x
abbrev I11:Sg:=⟨[.val (.slice (.int .u8))],[]⟩
abbrev O11:Sg:=⟨[.val (S25),.val (S30),.own (.int .i64) 0,.val (.int .i64)],[.arr (.int .i64)]⟩
abbrev V11_6:Type:=((Unit × (Unit × (Unit × (Unit × (Unit × (Unit × (Int × Unit))))))) × ((Int × (Int × (Int × (Unit × Unit)))) × ((Unit × (Unit × (Unit × Unit))) × (((List (Den (.int .u8))) × (Int × (Int × Unit))) × ((Int × (Int × (Int × ((List (Den (.slice (.cpx .f32)))) × Unit)))) × (((List (Den (.flt .f32))) × ((List (Den (.int .i64))) × ((List (Den (.slice (.flt .f32)))) × Unit))) × ((List (Den (.int .i64))) × Unit)))))))
def sh11_6:ShS:=⟨[(2,.one (.ptr 0 0)),(3,.one (.ptr 1 0)),(6,.one (.ptr 2 0)),(7,.one (.ptr 3 0)),(8,.one (.ptr 4 0)),(9,.one (.ref (.int .i64) 5)),(10,.one (.int .i64))],[(0,.box [.int .i64,.int .i64,.int .i64,.nil (.slice (.cpx .f32))]),(1,.box [.nil (.flt .f32),.nil (.int .i64),.nil (.slice (.flt .f32))]),(2,.box [.sl (.int .u8),.int .i64,.int .i64]),(3,.box [.int .i64,.int .i64,.int .i64,.sl (.slice (.cpx .f32))]),(4,.box [.sl (.flt .f32),.sl (.int .i64),.sl (.slice (.flt .f32))]),(5,.arr (.int .i64))],6,0⟩
abbrev X11_6:Type:=((Unit × (Unit × (Unit × (Unit × (Unit × (Unit × Unit)))))) × ((Int × (Int × (Int × (Unit × Unit)))) × ((Unit × (Unit × (Unit × Unit))) × (((List (Den (.int .u8))) × (Int × (Int × Unit))) × ((Int × (Int × (Int × ((List (Den (.slice (.cpx .f32)))) × Unit)))) × (((List (Den (.flt .f32))) × ((List (Den (.int .i64))) × ((List (Den (.slice (.flt .f32)))) × Unit))) × ((List (Den (.int .i64))) × Unit)))))))
def shX11_6:ShS:=⟨[(2,.one (.ptr 0 0)),(3,.one (.ptr 1 0)),(6,.one (.ptr 2 0)),(7,.one (.ptr 3 0)),(8,.one (.ptr 4 0)),(9,.one (.ref (.int .i64) 5))],[(0,.box [.int .i64,.int .i64,.int .i64,.nil (.slice (.cpx .f32))]),(1,.box [.nil (.flt .f32),.nil (.int .i64),.nil (.slice (.flt .f32))]),(2,.box [.sl (.int .u8),.int .i64,.int .i64]),(3,.box [.int .i64,.int .i64,.int .i64,.sl (.slice (.cpx .f32))]),(4,.box [.sl (.flt .f32),.sl (.int .i64),.sl (.slice (.flt .f32))]),(5,.arr (.int .i64))],6,0⟩
noncomputable def Γ11 (k25:KI I25) (g25:GI I25 O25) (k26:KI I26) (g26:GI I26 O26) (k2027:KI I2027) (g2027:GI I2027 O2027) (k28:KI I28) (g28:GI I28 O28) (k29:KI I29) (g29:GI I29 O29) (k30:KI I30) (g30:GI I30 O30) (k31:KI I31) (g31:GI I31 O31) (k32:KI I32) (g32:GI I32 O32) (kl6:V11_6 -> Bool) (xl6:V11_6 -> X11_6):Env:=mkEnv tab eqs [(25,sgMean false I25 O25 k25 g25),(26,sgMean true I26 O26 k26 g26),(27,sgMean true I2027 O2027 k2027 g2027),(28,sgMean true I28 O28 k28 g28),(29,sgMean true I29 O29 k29 g29),(30,sgMean true I30 O30 k30 g30),(31,sgMean false I31 O31 k31 g31),(32,sgMean true I32 O32 k32 g32)] 51 [.cell 2 26,.cell 3 31,.tmp 4,.tmp 5] [] [] [(6,loopX [2,3,6,7,8,9,10] [] 0 [2,3,6,7,8,9] [] sh11_6 shX11_6 kl6 xl6)] [] []
noncomputable def lc11_6:Code:=(loopsOf (bodyOf Tryz.f11)).getD 0 .skip
def q11_6 (k25:KI I25) (g25:GI I25 O25) (k26:KI I26) (g26:GI I26 O26) (k2027:KI I2027) (g2027:GI I2027 O2027) (k28:KI I28) (g28:GI I28 O28) (k29:KI I29) (g29:GI I29 O29) (k30:KI I30) (g30:GI I30 O30) (k31:KI I31) (g31:GI I31 O31) (k32:KI I32) (g32:GI I32 O32) (f:V11_6 -> Option (X11_6)) (v:V11_6):Option (X11_6):=
 bif (decide (v.1.2.2.2.2.2.2.1 > 0)) then
 let v0:=(k29 (((),v.2.2.2.2.1,()),v.2.2.2.1,()))
 bif v0 then
 let v1:=(g29 (((),v.2.2.2.2.1,()),v.2.2.2.1,()))
 let v2:=(List.set (List.replicate 1 (zero (Ty.int IntKind.i64))) 0 v1.1.1)
 bif (capOk (List.length v.2.2.2.2.2.2.1 + List.length v2)) then
 let v3:=(IntKind.wrap IntKind.i64 (v.1.2.2.2.2.2.2.1 - 1))
 let v4:=(v.2.2.2.2.2.2.1 ++ v2)
 f (((),((),((),((),((),((),(v3,()))))))),(((v.2.1.1),((v.2.1.2.1),((v.2.1.2.2.1),((),())))),(((),((),((),()))),((v1.2.1.1,(v1.2.1.2.1,(v1.2.1.2.2.1,()))),(((v.2.2.2.2.1.1),((v.2.2.2.2.1.2.1),((v.2.2.2.2.1.2.2.1),((v.2.2.2.2.1.2.2.2.1),())))),(((v.2.2.2.2.2.1.1),((v.2.2.2.2.2.1.2.1),((v.2.2.2.2.2.1.2.2.1),()))),(v4,())))))))
 else
 none
 else
 none
 else
 some (((),((),((),((),((),((),())))))),(((v.2.1.1),((v.2.1.2.1),((v.2.1.2.2.1),((),())))),(((),((),((),()))),(((v.2.2.2.1.1),((v.2.2.2.1.2.1),((v.2.2.2.1.2.2.1),()))),(((v.2.2.2.2.1.1),((v.2.2.2.2.1.2.1),((v.2.2.2.2.1.2.2.1),((v.2.2.2.2.1.2.2.2.1),())))),(((v.2.2.2.2.2.1.1),((v.2.2.2.2.2.1.2.1),((v.2.2.2.2.2.1.2.2.1),()))),((v.2.2.2.2.2.2.1),())))))))
theorem evl11_6 (k25:KI I25) (g25:GI I25 O25) (k26:KI I26) (g26:GI I26 O26) (k2027:KI I2027) (g2027:GI I2027 O2027) (k28:KI I28) (g28:GI I28 O28) (k29:KI I29) (g29:GI I29 O29) (k30:KI I30) (g30:GI I30 O30) (k31:KI I31) (g31:GI I31 O31) (k32:KI I32) (g32:GI I32 O32) (kl6:V11_6 -> Bool) (xl6:V11_6 -> X11_6) (f:V11_6 -> Option (X11_6)) (v:V11_6):EBk (Γ11 k25 g25 k26 g26 k2027 g2027 k28 g28 k29 g29 k30 g30 k31 g31 k32 g32 kl6 xl6) lc11_6 (roundK [2,3,6,7,8,9,10] [] 0 [2,3,6,7,8,9] [] (atS sh11_6 f) (endX shX11_6)) (mkS sh11_6 v) = q11_6 k25 g25 k26 g26 k2027 g2027 k28 g28 k29 g29 k30 g30 k31 g31 k32 g32 f v:=by kernel_rfl
def b11_6 (v:V11_6):Nat:=v.1.2.2.2.2.2.2.1.natAbs + v.2.1.1.natAbs + v.2.1.2.1.natAbs + v.2.1.2.2.1.natAbs + v.2.2.2.1.1.length + v.2.2.2.1.2.1.natAbs + v.2.2.2.1.2.2.1.natAbs + v.2.2.2.2.1.1.natAbs + v.2.2.2.2.1.2.1.natAbs + v.2.2.2.2.1.2.2.1.natAbs + v.2.2.2.2.1.2.2.2.1.length + v.2.2.2.2.2.1.1.length + v.2.2.2.2.2.1.2.1.length + v.2.2.2.2.2.1.2.2.1.length + v.2.2.2.2.2.2.1.length + 1000
def l11_6 (v:V11_6):Option (X11_6):=iter (q11_6 K25 G25 K26 G26 K2027 G2027 K28 G28 K29 G29 K30 G30 K31 G31 K32 G32) (b11_6 v) v
def kL11_6 (v:V11_6):Bool:=(l11_6 v).isSome
def xL11_6 (v:V11_6):X11_6:=(l11_6 v).getD (((),((),((),((),((),((),())))))),((0,(0,(0,((),())))),(((),((),((),()))),(([],(0,(0,()))),((0,(0,(0,([],())))),(([],([],([],()))),([],())))))))
def r11 (k25:KI I25) (g25:GI I25 O25) (k26:KI I26) (g26:GI I26 O26) (k2027:KI I2027) (g2027:GI I2027 O2027) (k28:KI I28) (g28:GI I28 O28) (k29:KI I29) (g29:GI I29 O29) (k30:KI I30) (g30:GI I30 O30) (k31:KI I31) (g31:GI I31 O31) (k32:KI I32) (g32:GI I32 O32) (kl6:V11_6 -> Bool) (xl6:V11_6 -> X11_6) (x:I11.den):Option (O11.den):=
 let v0:=(k25 x)
 bif v0 then
 let v1:=(g25 x)
 let v2:=(k26 (((),()),v1.2))
 bif v2 then
 let v3:=(g26 (((),()),v1.2))
 let v4:=(k2027 (((),()),v3.2))
 bif v4 then
 let v5:=(g2027 (((),()),v3.2))
 let v6:=(k28 (((),6,()),v5.2))
 bif v6 then
 let v7:=(g28 (((),6,()),v5.2))
 let v8:=(kl6 (((),(),(),(),(),(),v7.1),(0,0,0,(),()),((),(),(),()),v7.2.1,v3.1.1,v5.1.1,List.replicate 0 (zero (Ty.int IntKind.i64)),()))
 bif v8 then
 let v9:=(xl6 (((),(),(),(),(),(),v7.1),(0,0,0,(),()),((),(),(),()),v7.2.1,v3.1.1,v5.1.1,List.replicate 0 (zero (Ty.int IntKind.i64)),()))
 let v10:=(k30 (((),3,()),v9.2.2.2.1,()))
 bif v10 then
 let v11:=(g30 (((),3,()),v9.2.2.2.1,()))
 bif v11.1.1 then
 bif (decide ((↑(List.length v9.2.2.2.2.2.2.1):Int) > 1)) then
 bif (decide (0 <= 0) && decide (0 < (↑(List.length v9.2.2.2.2.2.2.1):Int))) then
 bif (decide (0 <= 1) && decide (1 < (↑(List.length v9.2.2.2.2.2.2.1):Int))) then
 let v12:=(List.getD v9.2.2.2.2.2.2.1 (Int.toNat 0) (zero (Ty.int IntKind.i64)))
 let v13:=(List.getD v9.2.2.2.2.2.2.1 (Int.toNat 1) (zero (Ty.int IntKind.i64)))
 let v14:=(k31 ((v9.2.2.2.2.1,v9.2.2.2.2.2.1,v12,v13,0,()),()))
 bif v14 then
 let v15:=(k32 (((),()),v11.2))
 bif v15 then
 let v16:=(g32 (((),()),v11.2))
 let v17:=(g31 ((v9.2.2.2.2.1,v9.2.2.2.2.2.1,v12,v13,0,()),()))
 some (((v9.2.2.2.2.1.1,(v9.2.2.2.2.1.2.1,(v9.2.2.2.2.1.2.2.1,(v9.2.2.2.2.1.2.2.2.1,())))),((v9.2.2.2.2.2.1.1,(v9.2.2.2.2.2.1.2.1,(v9.2.2.2.2.2.1.2.2.1,()))),((),(v16.1.1,())))),(v17.2.1,()))
 else
 none
 else
 none
 else
 none
 else
 none
 else
 let v12:=(k32 (((),()),v11.2))
 bif v12 then
 let v13:=(g32 (((),()),v11.2))
 some (((v9.2.2.2.2.1.1,(v9.2.2.2.2.1.2.1,(v9.2.2.2.2.1.2.2.1,(v9.2.2.2.2.1.2.2.2.1,())))),((v9.2.2.2.2.2.1.1,(v9.2.2.2.2.2.1.2.1,(v9.2.2.2.2.2.1.2.2.1,()))),((),(v13.1.1,())))),(v9.2.2.2.2.2.2.1,()))
 else
 none
 else
 let v12:=(k32 (((),()),v11.2))
 bif v12 then
 let v13:=(g32 (((),()),v11.2))
 some (((v9.2.2.2.2.1.1,(v9.2.2.2.2.1.2.1,(v9.2.2.2.2.1.2.2.1,(v9.2.2.2.2.1.2.2.2.1,())))),((v9.2.2.2.2.2.1.1,(v9.2.2.2.2.2.1.2.1,(v9.2.2.2.2.2.1.2.2.1,()))),((),(v13.1.1,())))),(v9.2.2.2.2.2.2.1,()))
 else
 none
 else
 none
 else
 none
 else
 none
 else
 none
 else
 none
 else
 none
theorem ev11 (k25:KI I25) (g25:GI I25 O25) (k26:KI I26) (g26:GI I26 O26) (k2027:KI I2027) (g2027:GI I2027 O2027) (k28:KI I28) (g28:GI I28 O28) (k29:KI I29) (g29:GI I29 O29) (k30:KI I30) (g30:GI I30 O30) (k31:KI I31) (g31:GI I31 O31) (k32:KI I32) (g32:GI I32 O32) (kl6:V11_6 -> Bool) (xl6:V11_6 -> X11_6) (x:I11.den):callS (Γ11 k25 g25 k26 g26 k2027 g2027 k28 g28 k29 g29 k30 g30 k31 g31 k32 g32 kl6 xl6) (bodyOf Tryz.f11) I11 O11 x = r11 k25 g25 k26 g26 k2027 g2027 k28 g28 k29 g29 k30 g30 k31 g31 k32 g32 kl6 xl6 x:=by kernel_rfl
def F11 (x:I11.den):Option (O11.den):=r11 K25 G25 K26 G26 K2027 G2027 K28 G28 K29 G29 K30 G30 K31 G31 K32 G32 kL11_6 xL11_6 x
def K11 (x:I11.den):Bool:=(F11 x).isSome
def G11 (x:I11.den):O11.den:=(F11 x).getD (zeroSg O11)
theorem env11:EnvOK Tryz.prog (Γ11 K25 G25 K26 G26 K2027 G2027 K28 G28 K29 G29 K30 G30 K31 G31 K32 G32 kL11_6 xL11_6):=env_ok mixed tab_ok eqs_ok (.cons sem25 (.cons sem26 (.cons sem2027 (.cons sem28 (.cons sem29 (.cons sem30 (.cons sem31 (.cons sem32 .nil))))))))
theorem is11:FnIs Tryz.prog 11 (Γ11 K25 G25 K26 G26 K2027 G2027 K28 G28 K29 G29 K30 G30 K31 G31 K32 G32 kL11_6 xL11_6) (bodyOf Tryz.f11):=fnIs Tryz.func11 rfl rfl rfl (by kernel_rfl) (loops_ok (l:=[lc11_6]) (by kernel_rfl) (.cons (one_loop rfl (loopX_sound (sh:=sh11_6) (shX:=shX11_6) (fun f v => evl11_6 K25 G25 K26 G26 K2027 G2027 K28 G28 K29 G29 K30 G30 K31 G31 K32 G32 kL11_6 xL11_6 f v) b11_6 (((),((),((),((),((),((),())))))),((0,(0,(0,((),())))),(((),((),((),()))),(([],(0,(0,()))),((0,(0,(0,([],())))),(([],([],([],()))),([],()))))))))) (.nil)))
theorem sem11:SemOK Tryz.prog (11,sgMean false I11 O11 K11 G11):=sg_opt env11 is11 false fun x => ev11 K25 G25 K26 G26 K2027 G2027 K28 G28 K29 G29 K30 G30 K31 G31 K32 G32 kL11_6 xL11_6 x
abbrev A4:Ty:=.cons (.slice (.int .u8)) (.nil)
abbrev R4:Ty:=.cons (.bool) (.nil)
noncomputable def Γ4 (k5:KA A5) (g5:GA A5 R5) (k11:KI I11) (g11:GI I11 O11) (k10:KA A10) (g10:GA A10 R10) (k12:KA A12) (g12:GA A12 R12) (k8:KI I8) (g8:GI I8 O8):Env:=mkEnv tab eqs [(5,fnMean A5 R5 k5 g5),(11,sgMean false I11 O11 k11 g11),(10,fnMean A10 R10 k10 g10),(12,fnMean A12 R12 k12 g12),(8,sgMean false I8 O8 k8 g8)] 85 [.tmp 2] [] [] [] [] []
def r4 (k5:KA A5) (g5:GA A5 R5) (k11:KI I11) (g11:GI I11 O11) (k10:KA A10) (g10:GA A10 R10) (k12:KA A12) (g12:GA A12 R12) (k8:KI I8) (g8:GI I8 O8) (x:Den A4):Option (Den R4):=
 let v0:=(k5 x)
 bif v0 then
 let v1:=(g5 x)
 bif v1.1 then
 some ((true),())
 else
 let v2:=(k11 (x,()))
 bif v2 then
 let v3:=(g11 (x,()))
 let v4:=(k10 (v3.1.1,v3.1.2.1,v3.2.1,v3.1.2.2.2))
 bif v4 then
 let v5:=(k12 (v3.1.1,v3.1.2.1,v3.2.1,v3.1.2.2.2))
 bif v5 then
 let v6:=(g10 (v3.1.1,v3.1.2.1,v3.2.1,v3.1.2.2.2))
 let v7:=(g12 (v3.1.1,v3.1.2.1,v3.2.1,v3.1.2.2.2))
 bif (!v6.2.1 == v7.2.1) then
 some ((false),())
 else
 bif (!v6.2.1) then
 some ((v6.1 == 0),())
 else
 bif (decide (0 <= 0) && decide (0 < (↑(List.length v3.2.1):Int))) then
 let v8:=(List.getD v3.2.1 (Int.toNat 0) (zero (Ty.int IntKind.i64)))
 let v9:=(k8 ((v3.1.1,v3.1.2.1,v8,v3.1.2.2.2),()))
 bif v9 then
 let v10:=(IntKind.wrap IntKind.i64 ((↑(List.length v3.2.1):Int) - 1))
 bif (decide (0 <= v10) && decide (v10 < (↑(List.length v3.2.1):Int))) then
 let v11:=(List.getD v3.2.1 (Int.toNat v10) (zero (Ty.int IntKind.i64)))
 bif (decide (v11 < 0)) then
 some ((false),())
 else
 let v12:=(g8 ((v3.1.1,v3.1.2.1,v8,v3.1.2.2.2),()))
 bif (decide (v11 ≥ (↑(List.length v12.2.1):Int))) then
 some ((false),())
 else
 bif ((↑(List.length v3.1.1.2.2.2.1):Int) != 1) then
 some ((true),())
 else
 bif (decide (0 <= v11) && decide (v11 < (↑(List.length v12.2.1):Int))) then
 let v13:=(List.getD v12.2.1 (Int.toNat v11) (zero (Ty.int IntKind.i64)))
 bif (decide (v13 ≥ 0)) then
 bif (decide (0 <= v11) && decide (v11 < (↑(List.length v12.2.1):Int))) then
 some ((decide (v13 <= v6.1)),())
 else
 none
 else
 some ((false),())
 else
 none
 else
 none
 else
 none
 else
 none
 else
 none
 else
 none
 else
 none
 else
 none
theorem env4:EnvOK Tryz.prog (Γ4 K5 G5 K11 G11 K10 G10 K12 G12 K8 G8):=env_ok mixed tab_ok eqs_ok (.cons sem5 (.cons sem11 (.cons sem10 (.cons sem12 (.cons sem8 .nil)))))
theorem is4:FnIs Tryz.prog 4 (Γ4 K5 G5 K11 G11 K10 G10 K12 G12 K8 G8) (bodyOf Tryz.f4):=fnIs Tryz.func4 rfl rfl rfl (by kernel_rfl) (noLoops (by kernel_rfl))
theorem edge_self (f : FieldT) (p : PolT) (a t : Int) : (edgeV f p a a t).2.1 = false := by
 unfold edgeV linkB
 have : (a == a) = true := by simp
 rw [this]
 simp
theorem rel19x (f : FieldT) (p : PolT) (hf : HoursG f.2.2.2.1) (a : Nat) (T R : List Int) (D : List Bool) (h1 : R.length = T.length) (h3 : T.length <= 1000) (ha : a < T.length) (ht0 : 0 <= tg T a) (ht1 : tg T a <= 10000000) :
 l19_20 (((), (), (), (), (), (a : Int), (0 : Int), ()), (f, p, T, R, D, ())) = some (((), (), (), (), (), ()), (f, p, (relK (fun b => edgeV f p (a : Int) (b : Int) (tg T a)) a (tg T a) T R T.length).1, (relK (fun b => edgeV f p (a : Int) (b : Int) (tg T a)) a (tg T a) T R T.length).2, D, ())) := by
 refine (iter_all (q := q19_20 K33 G33) (fun k => (((), (), (), (), (), (a : Int), (k : Int), ()), (f, p, (relK (fun b => edgeV f p (a : Int) (b : Int) (tg T a)) a (tg T a) T R k).1, (relK (fun b => edgeV f p (a : Int) (b : Int) (tg T a)) a (tg T a) T R k).2, D, ()))) T.length (((), (), (), (), (), ()), (f, p, (relK (fun b => edgeV f p (a : Int) (b : Int) (tg T a)) a (tg T a) T R T.length).1, (relK (fun b => edgeV f p (a : Int) (b : Int) (tg T a)) a (tg T a) T R T.length).2, D, ())) ?_ ?_ (b19_20 (((), (), (), (), (), (a : Int), (0 : Int), ()), (f, p, T, R, D, ()))) ?_ : _)
 ·intro k g hk
  obtain ⟨l1, l2⟩ := relK_len (fun b => edgeV f p (a : Int) (b : Int) (tg T a)) a (tg T a) T R k
  have hE := edge_ok f p (a : Int) (k : Int) (tg T a)
  have hF : F33 (f, p, (a : Int), (k : Int), tg T a, ()) = some (edgeV f p (a : Int) (k : Int) (tg T a)) := F33_eq f p _ _ (tg T a) hf
  have hself : tg (relK (fun b => edgeV f p (a : Int) (b : Int) (tg T a)) a (tg T a) T R k).1 a = tg T a := by
   rw [(relK_at _ _ _ T R h1.symm k (by omega) a).1, if_neg]
   rintro ⟨-, h⟩
   unfold viaB at h
   rw [edge_self] at h
   simp at h
  have hstep : relK (fun b => edgeV f p (a : Int) (b : Int) (tg T a)) a (tg T a) T R (k + 1) = bif viaB (edgeV f p (a : Int) (k : Int) (tg T a)) (tg T a) (tg (relK (fun b => edgeV f p (a : Int) (b : Int) (tg T a)) a (tg T a) T R k).1 k) then ((relK (fun b => edgeV f p (a : Int) (b : Int) (tg T a)) a (tg T a) T R k).1.set k (tg T a + (edgeV f p (a : Int) (k : Int) (tg T a)).1), (relK (fun b => edgeV f p (a : Int) (b : Int) (tg T a)) a (tg T a) T R k).2.set k a) else relK (fun b => edgeV f p (a : Int) (b : Int) (tg T a)) a (tg T a) T R k := rfl
  rw [hstep]
  generalize relK (fun b => edgeV f p (a : Int) (b : Int) (tg T a)) a (tg T a) T R k = TR at *
  obtain ⟨T', R'⟩ := TR
  generalize hEE : edgeV f p (a : Int) (k : Int) (tg T a) = E at *
  obtain ⟨e, ok, _⟩ := E
  unfold q19_20 viaB
  have l1 : T'.length = T.length := l1
  have l2 : R'.length = R.length := l2
  have e1' : decide ((k : Int) < (T'.length : Int)) = true := by simp; omega
  have e1'' : decide ((k : Int) < (R'.length : Int)) = true := by simp; omega
  have e2 : decide (0 <= (k : Int)) = true := by simp
  have e3 : decide (0 <= (a : Int)) = true := by simp
  have e4 : decide ((a : Int) < (T'.length : Int)) = true := by simp; omega
  have ga : List.getD T' k (zero (Ty.int IntKind.i64)) = tg T' k := rfl
  have gb : List.getD T' a (zero (Ty.int IntKind.i64)) = tg T a := hself
  simp only [w64n k (by omega), e1', e1'', e2, e3, e4, Bool.and_self, cond_true, Int.toNat_natCast, ga, gb, K33, G33, hF, Option.isSome_some, Option.getD_some]
  cases ok
  ·rfl
  ·have hb := hE rfl
   have hb : 0 <= e /\ e <= 10000000 := hb
   have hw : IntKind.wrap IntKind.i64 (tg T a + e) = tg T a + e := w64 (by omega) (by omega)
   simp only [hw, Bool.not_true, cond_false, Bool.true_and]
   by_cases hm : tg T a + e <= 10000000
   ·have m1 : decide (tg T a + e > 10000000) = false := by simp; omega
    have m2 : decide (tg T a + e <= 10000000) = true := by simpa using hm
    simp only [m1, m2, cond_false, Bool.true_and]
    cases decide (tg T' k < 0)
    ·simp only [cond_false, Bool.false_or]
     cases decide (tg T' k > tg T a + e) <;> rfl
    ·rfl
   ·have m1 : decide (tg T a + e > 10000000) = true := by simp; omega
    have m2 : decide (tg T a + e <= 10000000) = false := by simpa using hm
    simp only [m1, m2, cond_true, Bool.false_and]
    rfl
 ·intro g
  obtain ⟨l1, l2⟩ := relK_len (fun b => edgeV f p (a : Int) (b : Int) (tg T a)) a (tg T a) T R T.length
  unfold q19_20
  have : decide ((T.length : Int) < ((relK (fun b => edgeV f p (a : Int) (b : Int) (tg T a)) a (tg T a) T R T.length).1.length : Int)) = false := by rw [l1]; simp
  simp only [this, cond_false]
 ·simp only [b19_20]; omega
theorem outer19x (f : FieldT) (p : PolT) (hf : HoursG f.2.2.2.1) (n s : Nat) (t0 : Int) (ht0 : 0 <= t0) (hs : s < n) (hn : n <= 1000) (T R : List Int) (D : List Bool) (ρ : Nat -> Nat) (m : Nat) (h : Inv (edgeV f p) n s t0 T R D ρ m) (hR : tg R s = -1) :
 ∃ T' R' : List Int, l19_10 (((), (), (), (), (), ()), (f, p, T, R, D, ())) = some (.inr (((), (), ()), (T', R', ()))) /\ Fin (edgeV f p) n s t0 T' R' /\ tg R' s = -1 := by
 have hE : ∀ a b t, (edgeV f p a b t).2.1 = true -> 0 <= (edgeV f p a b t).1 := fun a b t hok => (edge_ok f p a b t hok).1
 refine iter_ind (q := q19_10 K33 G33 kL19_12 xL19_12 kL19_20 xL19_20)
  (fun v => ∃ T R D ρ m, v = (((), (), (), (), (), ()), (f, p, T, R, D, ())) /\ Inv (edgeV f p) n s t0 T R D ρ m /\ tg R s = -1)
  (fun v o => ∃ T' R' : List Int, o = some (.inr (((), (), ()), (T', R', ()))) /\ Fin (edgeV f p) n s t0 T' R' /\ tg R' s = -1)
  (fun v => v.2.2.2.2.2.1.count false) ?_ (b19_10 (((), (), (), (), (), ()), (f, p, T, R, D, ()))) (((), (), (), (), (), ()), (f, p, T, R, D, ())) ⟨T, R, D, ρ, m, rfl, h, hR⟩ ?_
 ·rintro v g ⟨T, R, D, ρ, m, rfl, h, hR⟩ ih
  have hsel := sel19_loop f p T R D (by rw [h.lD, h.lT]) (by rw [h.lT]; exact hn)
  unfold q19_10
  simp only [kL19_12, xL19_12, hsel, Option.isSome_some, Option.getD_some, cond_true]
  have hok := selK_ok T D T.length
  have hlt := selK_lt T D T.length
  generalize hA : selK T D T.length = A at *
  by_cases hneg : A < 0
  ·have e1 : decide (A < 0) = true := by simpa using hneg
   rw [e1]
   exact ⟨T, R, rfl, inv_fin h fun i hi => hok.1 hneg i (by rw [h.lT]; exact hi), hR⟩
  ·have e1 : decide (A < 0) = false := by simpa using hneg
   have hAn : A < (T.length : Int) := by omega
   obtain ⟨s1, s2, s3⟩ := hok.2 (by omega)
   obtain ⟨a, ha⟩ : ∃ a : Nat, A = (a : Int) := ⟨A.toNat, by omega⟩
   subst ha
   rw [Int.toNat_natCast] at s1 s2 s3
   have han : a < n := by have := h.lT; omega
   have e2 : decide (0 <= (a : Int)) = true := by simp
   have e3 : decide ((a : Int) < (D.length : Int)) = true := by simp; rw [h.lD]; exact han
   have hval := h.val a han
   have hrel := rel19x f p hf a T R (D.set a true) (by rw [h.lR, h.lT]) (by rw [h.lT]; exact hn) (by rw [h.lT]; exact han) s1 (by omega)
   have hstep := inv_step hE ht0 hs h han s1 s2 (fun i hi => s3 i (by rw [h.lT]; exact hi))
   have hRs : tg (relK (fun b => edgeV f p (a : Int) (b : Int) (tg T a)) a (tg T a) T R n).2 s = -1 := by
    rw [(relK_at _ _ _ T R (by rw [h.lR, h.lT]) n (by rw [h.lT]; exact Nat.le_refl _) s).2, if_neg, hR]
    rintro ⟨-, hv⟩
    rw [viaB_iff] at hv
    obtain ⟨v1, v2, v3⟩ := hv
    have := hE _ _ _ v1
    rw [h.start] at v3
    omega
   rw [h.lT] at hrel
   rw [e1]
   simp only [cond_false, e2, e3, Bool.and_self, cond_true, Int.toNat_natCast, kL19_20, xL19_20]
   rw [hrel]
   simp only [Option.isSome_some, Option.getD_some, cond_true]
   refine ih _ ⟨_, _, _, _, _, rfl, hstep, hRs⟩ ?_
   show (D.set a true).count false < D.count false
   have := dg_count (D := D) (a := a) (by rw [h.lD]; exact han) s2
   omega
 ·show D.count false < _
  have h1 : D.count false <= D.length := List.count_le_length
  simp only [b19_10]
  omega
theorem F19_fin (f : FieldT) (p : PolT) (s t : Int) (hf : HoursG f.2.2.2.1) (hfo : fieldOkB f = true) (hs : hasB f s = true) (ht : inB t 0 10000000 = true) :
 ∃ T R : List Int, F19 ((f, p, s, t, ()), ()) = some (((), (), ()), (T, R, ())) /\ Fin (edgeV f p) (nodes f) s.toNat t T R /\ tg R s.toNat = -1 := by
 obtain ⟨k1, k2, k3, k4⟩ := nodes_ok hfo
 rw [k4] at hs
 simp only [decide_eq_true_eq] at hs
 simp only [inB, Bool.and_eq_true, decide_eq_true_eq] at ht
 have hg := grow_loop f p s t (nodes f) k1 (by omega)
 have hg' : l19_4 ((s, t, (), (), (), (), (0 : Int), ()), (f, p, List.replicate 0 (zero (Ty.int IntKind.i64)), List.replicate 0 (zero (Ty.int IntKind.i64)), ())) = some ((s, t, (), (), (), (), ()), (f, p, List.replicate (nodes f) (-1), List.replicate (nodes f) (-1), ())) := hg
 have hrl : (List.replicate (nodes f) (-1 : Int)).length = nodes f := List.length_replicate
 have hrep : ∀ i, i < nodes f -> tg (List.replicate (nodes f) (-1)) i = -1 := fun i hi => by
  unfold tg
  rw [List.getD_eq_getElem?_getD, List.getElem?_replicate, if_pos hi]
  rfl
 have hinv : Inv (edgeV f p) (nodes f) s.toNat t ((List.replicate (nodes f) (-1)).set s.toNat t) (List.replicate (nodes f) (-1)) (List.replicate (nodes f) false) (fun _ => 0) 0 := by
  have hTs : ∀ i, i < nodes f -> tg ((List.replicate (nodes f) (-1)).set s.toNat t) i = if s.toNat = i then t else -1 := by
   intro i hi
   rw [tg_set _ _ _ _ (by rw [hrl]; omega), hrep i hi]
  have hD : ∀ i, dg (List.replicate (nodes f) false) i = false := by
   intro i
   unfold dg
   rw [List.getD_eq_getElem?_getD, List.getElem?_replicate]
   split <;> rfl
  refine ⟨by rw [List.length_set, hrl], hrl, List.length_replicate, fun i hi => ?_, ?_, fun i hi hd => ?_, fun i j hi hj hd => ?_, fun i hi his h0 => ?_, fun a b ha hb hd => ?_, ?_⟩
  ·rw [hTs i hi]
   split
   ·right; omega
   ·left; rfl
  ·rw [hTs _ (by omega), if_pos rfl]
  ·rw [hD] at hd; cases hd
  ·rw [hD] at hd; cases hd
  ·rw [hTs i hi, if_neg (fun h => his h.symm)] at h0
   omega
  ·rw [hD] at hd; cases hd
  ·rw [List.count_replicate_self]; omega
 obtain ⟨T, R, o1, o2, o3⟩ := outer19x f p hf (nodes f) s.toNat t ht.1 (by omega) (by omega) _ _ _ _ _ hinv (hrep _ (by omega))
 have o1' : l19_10 (((), (), (), (), (), ()), (f, p, (List.replicate (nodes f) (-1)).set s.toNat t, List.replicate (nodes f) (-1), List.replicate (nodes f) (zero Ty.bool), ())) = some (.inr (((), (), ()), (T, R, ()))) := o1
 refine ⟨T, R, ?_, o2, o3⟩
 unfold F19 r19
 have e5' : capOk (nodes f) = true := capOk_of (by omega)
 have e8 : decide (0 <= (nodes f : Int)) = true := by simp
 have e9 : ((nodes f : Int) == (nodes f : Int)) = true := by simp
 have e6 : decide (0 <= s) = true := by simpa using hs.1
 have e7 : decide (s < (nodes f : Int)) = true := by simpa using hs.2
 simp only [kL19_4, xL19_4, hg', Option.isSome_some, Option.getD_some, cond_true, List.length_replicate, Int.toNat_natCast, e5', e8, e9, Bool.and_self, e6, e7, kL19_10, tL19_10, yL19_10, o1']
 rfl
theorem back31 {E : EdgeT} {n s : Nat} {t0 : Int} {T R : List Int} (hF : Fin E n s t0 T R) (hR : tg R s = -1) (hs : s < n) (hn : n <= 1000) (g : Nat) (hg : g < n) (hg0 : 0 <= tg T g) :
 ∃ l : List Int, l31_8 (((), (), (g : Int), ()), ([], R, ())) = some (((), ()), (l, ())) := by
 obtain ⟨ρ, hρ, hfrm⟩ := hF.frm
 refine iter_ind (q := q31_8 K16 G16 K17 G17 K18 G18 K19 G19)
  (fun v => (∃ (i : Nat) (l : List Int), v = (((), (), (i : Int), ()), (l, R, ())) /\ i < n /\ 0 <= tg T i /\ l.length + ρ i <= n) ∨ ∃ l : List Int, v = (((), (), (-1 : Int), ()), (l, R, ())))
  (fun v o => ∃ l : List Int, o = some (((), ()), (l, ())))
  (fun v => bif decide ((v.1.2.2.1 : Int) < 0) then 0 else ρ (v.1.2.2.1 : Int).toNat + 1) ?_ _ _ (.inl ⟨g, [], rfl, hg, hg0, ?_⟩) ?_
 ·rintro v cont (⟨i, l, rfl, hi, hi0, hlen⟩ | ⟨l, rfl⟩) ih
  ·unfold q31_8
   have e1 : decide ((i : Int) ≥ 0) = true := by simp
   have e2 : decide (0 <= (i : Int)) = true := by simp
   have e3 : decide ((i : Int) < (R.length : Int)) = true := by simp; rw [hF.lR]; exact hi
   have hcap : capOk (1 + l.length) = true := capOk_of (by omega)
   have hset : (List.replicate 1 (zero (Ty.int IntKind.i64))).set 0 (i : Int) = [(i : Int)] := rfl
   have hz : List.getD R i (zero (Ty.int IntKind.i64)) = tg R i := rfl
   simp only [e1, e2, e3, Bool.and_self, cond_true, Int.toNat_natCast, hz]
   rw [hset]
   show ∃ l' : List Int, (bif capOk (1 + l.length) then _ else none) = _
   rw [hcap]
   simp only [cond_true]
   by_cases e : i = s
   ·subst e
    rw [hR]
    refine ih _ (.inr ⟨_, rfl⟩) ?_
    have : decide ((i : Int) < 0) = false := by simp
    show (bif decide ((-1 : Int) < 0) then 0 else _) < (bif decide ((i : Int) < 0) then 0 else _)
    rw [this]
    exact Nat.succ_pos _
   ·obtain ⟨a, a1, a2, a3, a4, a5, a6⟩ := hfrm i hi e hi0
    rw [a2]
    refine ih _ (.inl ⟨a, _, rfl, a1, a3, ?_⟩) ?_
    ·simp only [List.length_append, List.length_singleton]; omega
    ·have d1 : decide ((i : Int) < 0) = false := by simp
     have d2 : decide ((a : Int) < 0) = false := by simp
     show (bif decide ((a : Int) < 0) then 0 else ρ (a : Int).toNat + 1) < (bif decide ((i : Int) < 0) then 0 else ρ (i : Int).toNat + 1)
     rw [d1, d2, Int.toNat_natCast, Int.toNat_natCast]
     simp only [cond_false]
     omega
  ·unfold q31_8
   exact ⟨l, rfl⟩
 ·have := hρ g hg hg0
  show 0 + ρ g <= n
  omega
 ·have d1 : decide ((g : Int) < 0) = false := by simp
  have := hρ g hg hg0
  have := hF.lR
  show (bif decide ((g : Int) < 0) then 0 else ρ (g : Int).toNat + 1) < b31_8 _
  rw [d1, Int.toNat_natCast]
  simp only [cond_false, b31_8]
  omega
theorem way31 (f : FieldT) (p : PolT) (s g t : Int) (hf : HoursG f.2.2.2.1) : ∃ l : List Int, F31 ((f, p, s, g, t, ()), ()) = some (((), ()), (l, ())) := by
 have a1 : F16 (f, ()) = some (fieldOkB f, ()) := F16_eq f hf
 have a2 : F17 (p, ()) = some (polarB p, ()) := F17_eq p
 have a3 : ∀ x y z : Int, F18 (x, y, z, ()) = some (inB x y z, ()) := F18_eq
 have hh : ∀ n : Int, inB n 0 (IntKind.i64.wrap (IntKind.i64.wrap (f.1 * f.2.1) - 1)) = hasB f n := fun _ => rfl
 unfold F31 r31
 simp only [K16, G16, a1, K17, G17, a2, K18, G18, a3, hh, Option.isSome_some, Option.getD_some, cond_true]
 cases c1 : fieldOkB f
 ·exact ⟨_, rfl⟩
 cases c2 : polarB p
 ·exact ⟨_, rfl⟩
 cases c3 : hasB f s
 ·exact ⟨_, rfl⟩
 cases c4 : hasB f g
 ·exact ⟨_, rfl⟩
 cases c5 : inB t 0 10000000
 ·exact ⟨_, rfl⟩
 obtain ⟨k1, k2, k3, k4⟩ := nodes_ok c1
 obtain ⟨T, R, h19, hF, hR⟩ := F19_fin f p s t hf c1 c3 c5
 have h19 : F19 ((f, p, s, t, ()), ()) = some (((), (), ()), (T, R, ())) := h19
 rw [k4] at c3 c4
 simp only [decide_eq_true_eq] at c3 c4
 obtain ⟨g', hg'⟩ : ∃ g' : Nat, g = (g' : Int) := ⟨g.toNat, by omega⟩
 subst hg'
 have e1 : decide (0 <= (g' : Int)) = true := by simp
 have e2 : decide ((g' : Int) < (T.length : Int)) = true := by simp; rw [hF.lT]; omega
 have hz : List.getD T g' (zero (Ty.int IntKind.i64)) = tg T g' := rfl
 simp only [K19, G19, h19, Option.isSome_some, Option.getD_some, Bool.not_true, cond_false, cond_true, e1, e2, Bool.and_self, Int.toNat_natCast, hz]
 cases c6 : decide (tg T g' < 0)
 ·have c6 : 0 <= tg T g' := by simpa using c6
  obtain ⟨l, hl⟩ := back31 hF hR (by omega) (by omega) g' (by omega) c6
  have hl' : l31_8 (((), (), (g' : Int), ()), (List.replicate 0 (zero (Ty.int IntKind.i64)), R, ())) = some (((), ()), (l, ())) := hl
  simp only [cond_false, kL31_8, xL31_8, hl', Option.isSome_some, Option.getD_some, cond_true]
  exact ⟨l, rfl⟩
 ·exact ⟨_, rfl⟩
noncomputable def N11 (p26:KI I26) (Q26:QI I26 O26) (e26:Nonempty (Ch I26 O26 p26 Q26)) (p2027:KI I2027) (Q2027:QI I2027 O2027) (e2027:Nonempty (Ch I2027 O2027 p2027 Q2027)):NEnv:=mkN [(26,sgFam true I26 O26 p26 Q26 e26),(27,sgFam true I2027 O2027 p2027 Q2027 e2027)] []
noncomputable def rN11 (k25:KI I25) (g25:GI I25 O25) (k26:KI I26) (g26:GI I26 O26) (k2027:KI I2027) (g2027:GI I2027 O2027) (k28:KI I28) (g28:GI I28 O28) (k29:KI I29) (g29:GI I29 O29) (k30:KI I30) (g30:GI I30 O30) (k31:KI I31) (g31:GI I31 O31) (k32:KI I32) (g32:GI I32 O32) (kl6:V11_6 -> Bool) (xl6:V11_6 -> X11_6) (p26:KI I26) (Q26:QI I26 O26) (e26:Nonempty (Ch I26 O26 p26 Q26)) (p2027:KI I2027) (Q2027:QI I2027 O2027) (e2027:Nonempty (Ch I2027 O2027 p2027 Q2027)) (h:O11.den -> Option Unit) (x:I11.den):Option Unit:=
 let v0:=(k25 x)
 bif v0 then
 allK fun (c26_4:Ch I26 O26 p26 Q26) =>
 let v1:=(g25 x)
 let v2:=(p26 (((),()),v1.2))
 bif v2 then
 allK fun (c2027_8:Ch I2027 O2027 p2027 Q2027) =>
 let v3:=(c26_4.val (((),()),v1.2))
 let v4:=(p2027 (((),()),v3.2))
 bif v4 then
 let v5:=(c2027_8.val (((),()),v3.2))
 let v6:=(k28 (((),6,()),v5.2))
 bif v6 then
 let v7:=(g28 (((),6,()),v5.2))
 let v8:=(kl6 (((),(),(),(),(),(),v7.1),(0,0,0,(),()),((),(),(),()),v7.2.1,v3.1.1,v5.1.1,List.replicate 0 (zero (Ty.int IntKind.i64)),()))
 bif v8 then
 let v9:=(xl6 (((),(),(),(),(),(),v7.1),(0,0,0,(),()),((),(),(),()),v7.2.1,v3.1.1,v5.1.1,List.replicate 0 (zero (Ty.int IntKind.i64)),()))
 let v10:=(k30 (((),3,()),v9.2.2.2.1,()))
 bif v10 then
 let v11:=(g30 (((),3,()),v9.2.2.2.1,()))
 bif v11.1.1 then
 bif (decide ((↑(List.length v9.2.2.2.2.2.2.1):Int) > 1)) then
 bif (decide (0 <= 0) && decide (0 < (↑(List.length v9.2.2.2.2.2.2.1):Int))) then
 bif (decide (0 <= 1) && decide (1 < (↑(List.length v9.2.2.2.2.2.2.1):Int))) then
 let v12:=(List.getD v9.2.2.2.2.2.2.1 (Int.toNat 0) (zero (Ty.int IntKind.i64)))
 let v13:=(List.getD v9.2.2.2.2.2.2.1 (Int.toNat 1) (zero (Ty.int IntKind.i64)))
 let v14:=(k31 ((v9.2.2.2.2.1,v9.2.2.2.2.2.1,v12,v13,0,()),()))
 bif v14 then
 let v15:=(k32 (((),()),v11.2))
 bif v15 then
 let v16:=(g32 (((),()),v11.2))
 let v17:=(g31 ((v9.2.2.2.2.1,v9.2.2.2.2.2.1,v12,v13,0,()),()))
 h (((v9.2.2.2.2.1.1,(v9.2.2.2.2.1.2.1,(v9.2.2.2.2.1.2.2.1,(v9.2.2.2.2.1.2.2.2.1,())))),((v9.2.2.2.2.2.1.1,(v9.2.2.2.2.2.1.2.1,(v9.2.2.2.2.2.1.2.2.1,()))),((),(v16.1.1,())))),(v17.2.1,()))
 else
 none
 else
 none
 else
 none
 else
 none
 else
 let v12:=(k32 (((),()),v11.2))
 bif v12 then
 let v13:=(g32 (((),()),v11.2))
 h (((v9.2.2.2.2.1.1,(v9.2.2.2.2.1.2.1,(v9.2.2.2.2.1.2.2.1,(v9.2.2.2.2.1.2.2.2.1,())))),((v9.2.2.2.2.2.1.1,(v9.2.2.2.2.2.1.2.1,(v9.2.2.2.2.2.1.2.2.1,()))),((),(v13.1.1,())))),(v9.2.2.2.2.2.2.1,()))
 else
 none
 else
 let v12:=(k32 (((),()),v11.2))
 bif v12 then
 let v13:=(g32 (((),()),v11.2))
 h (((v9.2.2.2.2.1.1,(v9.2.2.2.2.1.2.1,(v9.2.2.2.2.1.2.2.1,(v9.2.2.2.2.1.2.2.2.1,())))),((v9.2.2.2.2.2.1.1,(v9.2.2.2.2.2.1.2.1,(v9.2.2.2.2.2.1.2.2.1,()))),((),(v13.1.1,())))),(v9.2.2.2.2.2.2.1,()))
 else
 none
 else
 none
 else
 none
 else
 none
 else
 none
 else
 none
 else
 none
theorem evN11 (k25:KI I25) (g25:GI I25 O25) (k26:KI I26) (g26:GI I26 O26) (k2027:KI I2027) (g2027:GI I2027 O2027) (k28:KI I28) (g28:GI I28 O28) (k29:KI I29) (g29:GI I29 O29) (k30:KI I30) (g30:GI I30 O30) (k31:KI I31) (g31:GI I31 O31) (k32:KI I32) (g32:GI I32 O32) (kl6:V11_6 -> Bool) (xl6:V11_6 -> X11_6) (p26:KI I26) (Q26:QI I26 O26) (e26:Nonempty (Ch I26 O26 p26 Q26)) (p2027:KI I2027) (Q2027:QI I2027 O2027) (e2027:Nonempty (Ch I2027 O2027 p2027 Q2027)) (h:O11.den -> Option Unit) (x:I11.den):callSN (Γ11 k25 g25 k26 g26 k2027 g2027 k28 g28 k29 g29 k30 g30 k31 g31 k32 g32 kl6 xl6) (N11 p26 Q26 e26 p2027 Q2027 e2027) (bodyOf Tryz.f11) I11 O11 h x = rN11 k25 g25 k26 g26 k2027 g2027 k28 g28 k29 g29 k30 g30 k31 g31 k32 g32 kl6 xl6 p26 Q26 e26 p2027 Q2027 e2027 h x:=by kernel_rfl
noncomputable def N4 (p11:KI I11) (Q11:QI I11 O11) (e11:Nonempty (Ch I11 O11 p11 Q11)):NEnv:=mkN [(11,sgFam false I11 O11 p11 Q11 e11)] []
noncomputable def rN4 (k5:KA A5) (g5:GA A5 R5) (k11:KI I11) (g11:GI I11 O11) (k10:KA A10) (g10:GA A10 R10) (k12:KA A12) (g12:GA A12 R12) (k8:KI I8) (g8:GI I8 O8) (p11:KI I11) (Q11:QI I11 O11) (e11:Nonempty (Ch I11 O11 p11 Q11)) (h:Den R4 -> Option Unit) (x:Den A4):Option Unit:=
 let v0:=(k5 x)
 bif v0 then
 let v1:=(g5 x)
 bif v1.1 then
 h ((true),())
 else
 allK fun (c11_6:Ch I11 O11 p11 Q11) =>
 let v2:=(p11 (x,()))
 bif v2 then
 let v3:=(c11_6.val (x,()))
 let v4:=(k10 (v3.1.1,v3.1.2.1,v3.2.1,v3.1.2.2.2))
 bif v4 then
 let v5:=(k12 (v3.1.1,v3.1.2.1,v3.2.1,v3.1.2.2.2))
 bif v5 then
 let v6:=(g10 (v3.1.1,v3.1.2.1,v3.2.1,v3.1.2.2.2))
 let v7:=(g12 (v3.1.1,v3.1.2.1,v3.2.1,v3.1.2.2.2))
 bif (!v6.2.1 == v7.2.1) then
 h ((false),())
 else
 bif (!v6.2.1) then
 h ((v6.1 == 0),())
 else
 bif (decide (0 <= 0) && decide (0 < (↑(List.length v3.2.1):Int))) then
 let v8:=(List.getD v3.2.1 (Int.toNat 0) (zero (Ty.int IntKind.i64)))
 let v9:=(k8 ((v3.1.1,v3.1.2.1,v8,v3.1.2.2.2),()))
 bif v9 then
 let v10:=(IntKind.wrap IntKind.i64 ((↑(List.length v3.2.1):Int) - 1))
 bif (decide (0 <= v10) && decide (v10 < (↑(List.length v3.2.1):Int))) then
 let v11:=(List.getD v3.2.1 (Int.toNat v10) (zero (Ty.int IntKind.i64)))
 bif (decide (v11 < 0)) then
 h ((false),())
 else
 let v12:=(g8 ((v3.1.1,v3.1.2.1,v8,v3.1.2.2.2),()))
 bif (decide (v11 ≥ (↑(List.length v12.2.1):Int))) then
 h ((false),())
 else
 bif ((↑(List.length v3.1.1.2.2.2.1):Int) != 1) then
 h ((true),())
 else
 bif (decide (0 <= v11) && decide (v11 < (↑(List.length v12.2.1):Int))) then
 let v13:=(List.getD v12.2.1 (Int.toNat v11) (zero (Ty.int IntKind.i64)))
 bif (decide (v13 ≥ 0)) then
 bif (decide (0 <= v11) && decide (v11 < (↑(List.length v12.2.1):Int))) then
 h ((decide (v13 <= v6.1)),())
 else
 none
 else
 h ((false),())
 else
 none
 else
 none
 else
 none
 else
 none
 else
 none
 else
 none
 else
 none
 else
 none
theorem evN4 (k5:KA A5) (g5:GA A5 R5) (k11:KI I11) (g11:GI I11 O11) (k10:KA A10) (g10:GA A10 R10) (k12:KA A12) (g12:GA A12 R12) (k8:KI I8) (g8:GI I8 O8) (p11:KI I11) (Q11:QI I11 O11) (e11:Nonempty (Ch I11 O11 p11 Q11)) (h:Den R4 -> Option Unit) (x:Den A4):callN (Γ4 k5 g5 k11 g11 k10 g10 k12 g12 k8 g8) (N4 p11 Q11 e11) (bodyOf Tryz.f4) (decRH R4 h) (encA A4 x) [] = rN4 k5 g5 k11 g11 k10 g10 k12 g12 k8 g8 p11 Q11 e11 h x:=by kernel_rfl
def kTrueS (y : Den (.cons .bool .nil)) : Option Unit := bif y.1 then some () else none
theorem kTrueS_ok : ∀ y, kTrueS y = some () -> y = (true, ()) := by
 rintro ⟨b, _⟩ h
 cases b
 ·cases h
 ·rfl
theorem F5_big (x : Den A5) : F5 x = some (decide ((x.1.length : Int) > 1048576), ()) := rfl
theorem tn6 (a : Int) (h : a <= 6) : a.toNat < 1000 := by omega
def lenN (l : List Int) (a : Int) : Prop := (l.length : Int) + a <= 6
theorem zl6 (a : Int) (h : a <= 6) : lenN [] a := by simpa [lenN] using h
theorem nodes_loop (v : V11_6) (hc : CurOk v.2.2.2.1) (hn : (v.1.2.2.2.2.2.2.1 : Int) <= 6) (hw : v.2.2.2.2.2.2.1 = []) :
 Pst (l11_6 v) fun y => CurOk y.2.2.2.1 /\ y.2.2.2.2.1 = v.2.2.2.2.1 /\ y.2.2.2.2.2.1 = v.2.2.2.2.2.1 := by
 unfold l11_6
 refine iter_ind (q := q11_6 K25 G25 K26 G26 K2027 G2027 K28 G28 K29 G29 K30 G30 K31 G31 K32 G32)
  (fun u => CurOk u.2.2.2.1 /\ u.2.2.2.2.1 = v.2.2.2.2.1 /\ u.2.2.2.2.2.1 = v.2.2.2.2.2.1 /\ (u.1.2.2.2.2.2.2.1 : Int) <= 6 /\ lenN u.2.2.2.2.2.2.1 u.1.2.2.2.2.2.2.1)
  (fun _ r => Pst r fun y => CurOk y.2.2.2.1 /\ y.2.2.2.2.1 = v.2.2.2.2.1 /\ y.2.2.2.2.2.1 = v.2.2.2.2.2.1)
  (fun u => (u.1.2.2.2.2.2.2.1 : Int).toNat) ?_ _ _ ⟨hc, rfl, rfl, hn, by rw [hw]; exact zl6 _ hn⟩ (Nat.lt_of_lt_of_le (tn6 _ hn) (Nat.le_add_left _ _))
 clear hc hn hw
 rintro ⟨⟨_, _, _, _, _, _, n, _⟩, ⟨b0, b1, b2, _, _⟩, _, ⟨c0, c1, c2, _⟩, f, p, way, _⟩ g ⟨g0, g1, g2, g3, g4⟩ ih
 dsimp only at g0 g1 g2 g3 g4 ih
 have g4' : (way.length : Int) + n <= 6 := g4
 unfold q11_6
 dsimp only
 by_cases hk : n > 0
 ·refine pst_t (by simpa using hk) ?_
  refine pst_t (K29_ok _ g0) ?_
  refine pst_t (capOk_of (by simp only [List.length_set, List.length_replicate]; omega)) ?_
  have e : IntKind.i64.wrap (n - 1) = n - 1 := w64 (by omega) (by omega)
  rw [e]
  refine ih _ ⟨G29_cur (((), f, ()), (c0, c1, c2, ()), ()) g0, g1, g2, ?_, ?_⟩ ?_
  ·show n - 1 <= 6; omega
  ·unfold lenN; simp only [List.length_append, List.length_set, List.length_replicate]; omega
  ·show (n - 1).toNat < n.toNat; omega
 ·have hd : decide (n > 0) = false := by simpa using hk
  rw [hd]
  exact pst_some ⟨g0, g1, g2⟩
def p11 (x : I11.den) : Bool := codeB x.1.1
def Q11 (x : I11.den) (y : O11.den) : Prop := HoursG y.1.1.2.2.2.1
theorem e11 : Nonempty (Ch I11 O11 p11 Q11) := ⟨⟨fun _ => (((0, 0, 0, [], ()), ([], [], [], ()), (), 0, ()), ([], ())), fun _ _ => HoursG.nil⟩⟩
theorem six_a (b : Int) (h : 0 <= b /\ b < 6) : b <= 6 := by omega
theorem fam11 : FamOK Tryz.prog 11 (sgFam false I11 O11 p11 Q11 e11) := sgN_ok env11 (N := N11 p26 Q26 e26 p2027 Q2027 e2027) (mkN_ok ⟨fam26, fam2027, trivial⟩) is11 noNLoops fun x hx k hk => by
 have hk : ∀ y : O11.den, HoursG y.1.1.2.2.2.1 -> k y = some () := hk
 have h : x.1.1.length <= 1048576 := by simpa [p11, codeB] using hx
 refine Eq.trans (evN11 _ _ _ _ _ _ _ _ _ _ _ _ _ _ _ _ _ _ _ _ _ _ _ _ k x) ?_
 unfold rN11
 dsimp only
 have c0 := G25_cur x h
 haveI := e26
 haveI := e2027
 refine all_t (K25_ok x h) ?_
 refine allK_intro fun g => ?_
 have hp : p26 (((), ()), (G25 x).snd) = true := curB_iff.2 c0
 obtain ⟨q1, q2⟩ := g.2 _ hp
 refine all_t hp ?_
 generalize g.val (((), ()), (G25 x).snd) = A at *
 refine allK_intro fun g2 => ?_
 have hp2 : p2027 (((), ()), A.snd) = true := curB_iff.2 q1
 obtain ⟨q3, q4⟩ := g2.2 _ hp2
 refine all_t hp2 ?_
 generalize g2.val (((), ()), A.snd) = B at *
 refine all_t (K28_ok _ q3) ?_
 have b3 := below_bd 6 B.2.1 q3 (by decide)
 have b3 : 0 <= ((G28 (((), 6, ()), B.snd)).1.1 : Int) /\ ((G28 (((), 6, ()), B.snd)).1.1 : Int) < 6 := b3
 have c3 : CurOk (G28 (((), 6, ()), B.snd)).2.1 := G28_cur (((), 6, ()), B.snd) q3
 generalize G28 (((), 6, ()), B.snd) = C at *
 have hl := nodes_loop (((), (), (), (), (), (), C.fst), (0, 0, 0, (), ()), ((), (), (), ()), C.snd.fst, A.fst.fst, B.fst.fst, List.replicate 0 (zero (Ty.int IntKind.i64)), ()) c3 (six_a _ b3) rfl
 refine all_t (pst_k hl) ?_
 have hx := pst_g (α := X11_6) (((), ((), ((), ((), ((), ((), ())))))), ((0, (0, (0, ((), ())))), (((), ((), ((), ()))), (([], (0, (0, ()))), ((0, (0, (0, ([], ())))), (([], ([], ([], ()))), ([], ()))))))) hl
 change CurOk (xL11_6 _).2.2.2.1 /\ (xL11_6 _).2.2.2.2.1 = A.fst.fst /\ (xL11_6 _).2.2.2.2.2.1 = B.fst.fst at hx
 generalize xL11_6 (((), (), (), (), (), (), C.fst), (0, 0, 0, (), ()), ((), (), (), ()), C.snd.fst, A.fst.fst, B.fst.fst, List.replicate 0 (zero (Ty.int IntKind.i64)), ()) = D at *
 obtain ⟨_, _, _, c, f, p, way, _⟩ := D
 dsimp only at hx ⊢
 obtain ⟨d1, d2, d3⟩ := hx
 subst d2 d3
 have c5 : CurOk (G30 (((), 3, ()), c, ())).2.1 := G30_cur (((), 3, ()), c, ()) d1
 refine all_t (K30_ok _ d1) ?_
 generalize G30 (((), 3, ()), c, ()) = E at *
 refine all_b (fun _ => ?_) (fun _ => ?_)
 ·refine all_b (fun h1 => ?_) (fun _ => ?_)
  ·have h1 : (way.length : Int) > 1 := by simpa using h1
   refine all_t (by simp; omega) ?_
   refine all_t (by simp; omega) ?_
   have h31 : ∀ s g : Int, (F31 ((A.1.1, B.1.1, s, g, 0, ()), ())).isSome = true := fun s g => by
    obtain ⟨l, hl⟩ := way31 A.1.1 B.1.1 s g 0 q2
    rw [hl]; rfl
   refine all_t (h31 _ _) ?_
   refine all_t (K32_ok _ c5) ?_
   exact hk _ q2
  ·refine all_t (K32_ok _ c5) ?_
   exact hk _ q2
 ·refine all_t (K32_ok _ c5) ?_
  exact hk _ q2
theorem nok4 : NOK Tryz.prog (N4 p11 Q11 e11) := mkN_ok ⟨fam11, trivial⟩
theorem inI2 (a : Int) (n : Nat) (h1 : 0 <= a) (h2 : a < (n : Int)) : (decide (0 <= a) && decide (a < (n : Int))) = true := by simp [h1, h2]
theorem F10_any (f : FieldT) (p : PolT) (way : List Int) (t : Int) (hf : HoursG f.2.2.2.1) : F10 (f, p, way, t, ()) = some (0, false, ()) ∨
 ∃ (m : Int) (T : List Int), F10 (f, p, way, t, ()) = some (m, true, ()) /\ 1 <= way.length /\ way.length <= 200 /\ F8 ((f, p, tg way 0, t, ()), ()) = some (((), ()), (T, ())) /\
   0 <= tg way (way.length - 1) /\ tg way (way.length - 1) < (T.length : Int) /\ (f.2.2.2.1.length = 1 -> 0 <= tg T (tg way (way.length - 1)).toNat /\ tg T (tg way (way.length - 1)).toNat <= m) := by
 have b1 : F20 (f, ()) = some (fieldOkB f, ()) := F20_eq f hf
 have b2 : F21 (p, ()) = some (polarB p, ()) := F21_eq p
 have b3 : ∀ x y z : Int, F22 (x, y, z, ()) = some (inB x y z, ()) := F22_eq
 have b4 : ∀ n : Int, F15 (f, n, ()) = some (hasB f n, ()) := F15_eq f
 have b5 : F23 (t, ()) = some (inB t 0 10000000, ()) := F23_eq t
 have hz : List.getD way 0 (zero (Ty.int IntKind.i64)) = tg way 0 := rfl
 have hz0 : (0 : Int).toNat = 0 := rfl
 unfold F10 r10
 simp only [K20, G20, b1, K21, G21, b2, K22, G22, b3, K15, G15, b4, K23, G23, b5, Option.isSome_some, Option.getD_some, cond_true, hz0, hz]
 cases c1 : fieldOkB f
 ·exact .inl rfl
 cases c2 : polarB p
 ·exact .inl rfl
 cases c3 : inB (way.length : Int) 1 200
 ·exact .inl rfl
 have c3' := c3
 simp only [inB, Bool.and_eq_true, decide_eq_true_eq] at c3'
 have e0 : decide ((0 : Int) < (way.length : Int)) = true := by simp; omega
 simp only [Bool.not_true, cond_false, e0, cond_true, Int.le_refl, decide_true, Bool.and_self]
 cases c4 : hasB f (tg way 0)
 ·exact .inl rfl
 cases c5 : inB t 0 10000000
 ·exact .inl rfl
 obtain ⟨k1, k2, k3, k4⟩ := nodes_ok c1
 have c4' := c4
 rw [k4] at c4'
 simp only [decide_eq_true_eq] at c4'
 have hask : askB f p (tg way 0) t = true := by unfold askB; rw [c1, c2, c4, c5]; rfl
 obtain ⟨T, R, h14, hF⟩ := front_yes f p (tg way 0) t hf hask
 have h8 := F8_yes h14
 have hsail := sail_any hf c1 c5 hF (by omega) way (by omega) (by omega) (by omega)
 simp only [Bool.not_true, cond_false, kL10_4, tL10_4, xL10_4, yL10_4]
 rcases hsail with ⟨y, h1, h2⟩ | ⟨m, h1, h2, h3, h4⟩
 ·rw [h1]
  subst h2
  exact .inl rfl
 ·rw [h1]
  refine .inr ⟨m, T, rfl, by omega, by omega, h8, h2, ?_, h4⟩
  rw [hF.lT]; exact h3
set_option maxRecDepth 100000 in
theorem steadyWind (x : Den A4) (w : Wf A4 x) : callN (Γ4 K5 G5 K11 G11 K10 G10 K12 G12 K8 G8) (N4 p11 Q11 e11) (bodyOf Tryz.f4) (decRH R4 kTrueS) (encA A4 x) [] = some () := by
 refine Eq.trans (evN4 _ _ _ _ _ _ _ _ _ _ _ _ _ kTrueS x) ?_
 unfold rN4
 simp only [K5, G5, F5_big, Option.isSome_some, Option.getD_some, cond_true]
 by_cases h0 : (x.1.length : Int) > 1048576
 ·simp only [h0, decide_true, cond_true]; rfl
 simp only [h0, decide_false, cond_false]
 haveI := e11
 refine allK_intro fun g => ?_
 have hp : p11 (x, ()) = true := by show decide (x.1.length <= 1048576) = true; simp; omega
 have hq : HoursG (g.val (x, ())).1.1.2.2.2.1 := g.2 _ hp
 refine all_t hp ?_
 generalize g.val (x, ()) = d at *
 obtain ⟨⟨f, p, _, t, _⟩, way, _⟩ := d
 have hq : HoursG f.2.2.2.1 := hq
 have h12 : F12 (f, p, way, t, ()) = F10 (f, p, way, t, ()) := F12_eq f p way t hq
 have tge : ∀ l : List Int, ∀ i, List.getD l i (zero (Ty.int IntKind.i64)) = tg l i := fun _ _ => rfl
 dsimp only
 simp only [tge]
 rcases F10_any f p way t hq with h10 | ⟨m, T, h10, l1, l2, h8, n1, n2, n3⟩
 ·have h10 : F10 (f, p, way, t, ()) = some (0, false, ()) := h10
  simp only [K10, G10, K12, G12, h12, h10, Option.isSome_some, Option.getD_some, cond_true]
  rfl
 ·have h10 : F10 (f, p, way, t, ()) = some (m, true, ()) := h10
  have h8 : F8 ((f, p, tg way (Int.toNat 0), t, ()), ()) = some (((), ()), (T, ())) := h8
  have e6 : IntKind.i64.wrap ((way.length : Int) - 1) = ((way.length - 1 : Nat) : Int) := by rw [w64 (by omega) (by omega)]; omega
  simp only [K10, G10, K12, G12, h12, h10, Option.isSome_some, Option.getD_some, cond_true, beq_self_eq_true, Bool.not_true, cond_false, K8, G8, h8, e6, Int.toNat_natCast]
  refine all_t (by simp; omega) ?_
  refine all_t (by simp; omega) ?_
  have e3 : decide (tg way (way.length - 1) < 0) = false := by simp; omega
  have e4 : decide (tg way (way.length - 1) ≥ (T.length : Int)) = false := by simp; omega
  simp only [e3, e4, cond_false]
  by_cases h1 : f.2.2.2.1.length = 1
  ·obtain ⟨t1, t2⟩ := n3 h1
   have e5 : ((f.2.2.2.1.length : Int) != 1) = false := by rw [h1]; rfl
   have e7 : decide (tg T (tg way (way.length - 1)).toNat ≥ 0) = true := by simpa using t1
   have e8 : decide (tg T (tg way (way.length - 1)).toNat <= m) = true := by simpa using t2
   have e9 := inI2 (tg way (way.length - 1)) T.length n1 n2
   simp only [e5, cond_false, e9, cond_true, e7, e8]
   rfl
  ·have e5 : ((f.2.2.2.1.length : Int) != 1) = true := by simp; omega
   simp only [e5, cond_true]
   rfl
end Go.Proofs.YteieioehigacmaaGreat.AM
