/- The abstract machine: functions of the model's own that answer at once; functions whose answers are open on the way and not in the end. Conditions: those that each lemma names. -/
import Derived.Test.YtmmdjajebmihhaaN3
namespace Go.Proofs.Ytmmdjajebmihhaa.AM
open Go Go.RowKit
set_option linter.unusedVariables false

section
variable {P : Program} {Γ : Env} {N : NEnv}

/-- A function without a body, that the model answers itself. -/
structure ExtIs (P : Program) (f : Nat) (e : Array Value → Sem Value) : Prop where
  is : ∃ fn, P.funcs[f]? = some fn ∧ (fn.name == "runtime.NumGoroutine") = false ∧ fn.body.isNone = true ∧ Extern.findNext fn = none ∧ Extern.find fn = some e

theorem ExtIs.run {f : Nat} {e : Array Value → Sem Value} (h : ExtIs P f e) {vs : Array Value} {w w' : World} {v : Value} (hr : (e vs).run P w = .ok v w') : (callFunc f vs).run P w = .ok (.value v) w' := by
  obtain ⟨fn, h1, h2, h3, h4, h5⟩ := h.is
  have h2' : ¬ fn.name = "runtime.NumGoroutine" := by simpa using h2
  have h3' : fn.body = none := by simpa using h3
  simp [callFunc, h1, h2', h3', h4, h5, hr]

/-- A family for such a function. -/
def extFam (A R : Ty) (ι : Type) (inh : Nonempty ι) (g : ι → Den A → Den R) : Fam := ⟨ι, inh, fun z => fnMean A R (fun _ => true) (g z), false⟩

theorem ext_ok {f : Nat} {e : Array Value → Sem Value} (he : ExtIs P f e) {A R : Ty} {ι : Type} {inh : Nonempty ι} {g : ι → Den A → Den R}
    (h : ∀ (x : Den A) (vs : Array Value) (β : Bt) (K : Ks) (w : World), All2 (WR β K) (encA A x) vs.toList → ∃ v w' z, (e vs).run P w = .ok v w' ∧ Still w w' ∧ OutR β K (encA R (g z x)) v) : FamOK P f (extFam A R ι inh g) := by
  refine ⟨fun _ => rfl, ?_⟩
  intro args ins hruns β0 K0 w0 vs hk hm hfr hv
  obtain ⟨z0⟩ := inh
  obtain ⟨rs0, outs0, hrun⟩ := hruns z0
  cases ins with
  | cons _ _ => simp [extFam, fnMean] at hrun
  | nil =>
    simp only [extFam, fnMean] at hrun
    split at hrun
    · rename_i x hx
      obtain ⟨v, w', z, h1, h2, h3⟩ := h x vs β0 K0 w0 (decA_ok hx hv)
      refine .inr ⟨v, w', he.run h1, z, encA R (g z x), [], v, β0, K0, ?_, rfl, ?_⟩
      · simp only [extFam, fnMean, hx]
      · exact ⟨KLe.refl _, hk.still h2, fun _ _ e => .inl e, ⟨fun k b e => by simp [getO] at e, fun k k' b b' _ _ _ e => by simp [getO] at e, fun k b _ _ e => by simp [getO] at e⟩, fun k _ => hfr k (Nat.zero_le _), h3, Fr.still h2, fun x hx => by
          obtain ⟨k, b, y, e, _⟩ := hx
          simp [getO] at e, BLe.refl _, Nat.le_refl _⟩
    · cases hrun

/-- Choices of answers of a function of values. -/
abbrev ChT (A R : Ty) (ok : Den A → Bool) (Q : Den A → Den R → Prop) : Type := { g : Den A → Den R // ∀ x, ok x = true → Q x (g x) }
def fnFam (A R : Ty) (ok : Den A → Bool) (Q : Den A → Den R → Prop) (hne : Nonempty (ChT A R ok Q)) : Fam := ⟨ChT A R ok Q, hne, fun g => fnMean A R ok g.1, false⟩

theorem fnN_ok (env : EnvOK P Γ) (hN : NOK P N) {f : Nat} {c : Code} (hf : FnIs P f Γ c) (hNL : NLoopsOK Γ N c) {A R : Ty} {ok : Den A → Bool} {Q : Den A → Den R → Prop} {hne : Nonempty (ChT A R ok Q)}
    (h : ∀ x, ok x = true → ∀ k : Den R → Option Unit, (∀ y, Q x y → k y = some ()) → callN Γ N c (decRH R k) (encA A x) [] = some ()) : FamOK P f (fnFam A R ok Q hne) := by
  classical
  refine ⟨fun _ => rfl, ?_⟩
  intro args ins hruns β0 K0 w0 vs hk hm hfr hv
  obtain ⟨g0⟩ := hne
  obtain ⟨rs0, outs0, hrun⟩ := hruns g0
  cases ins with
  | cons _ _ => simp [fnFam, fnMean] at hrun
  | nil =>
    simp only [fnFam, fnMean] at hrun
    split at hrun
    · rename_i x hx
      simp only [Option.some.injEq, Prod.mk.injEq] at hrun
      obtain ⟨hok, _, _⟩ := hrun
      have he := h x hok (fun y => if Q x y then some () else none) (fun y hy => if_pos hy)
      refine .inl ⟨hf.ok, (callN_ok env hN hf hNL he hk hm hfr (decA_ok hx hv)).mono ?_⟩
      rintro e w' ⟨v, β, K, rs', outs', rfl, hg, hR⟩
      unfold decRH at hg
      split at hg
      case h_2 => cases hg
      rename_i y hy
      dsimp only at hg
      split at hg
      case isFalse => cases hg
      rename_i hq
      unfold decR at hy
      dsimp only at hy
      split at hy
      · refine ⟨⟨fun u => if u = x then y else g0.1 u, fun u hu => ?_⟩, encA R y, [], v, β, K, ?_, rfl, { hR with out := decR_out hy hR.out }⟩
        · dsimp only
          split
          · rename_i e; rw [e]; exact hq
          · exact g0.2 u hu
        · simp only [fnFam, fnMean, hx, hok, if_pos]
      · cases hy
    · cases hrun

/-- A function whose answers are open on the way, and alike in the end. -/
theorem fnN_sem (env : EnvOK P Γ) (hN : NOK P N) {f : Nat} {c : Code} (hf : FnIs P f Γ c) (hNL : NLoopsOK Γ N c) {A R : Ty} {ok : Den A → Bool} {g : Den A → Den R} {Q : Den A → Den R → Prop}
    (hQ : ∀ x y, Q x y → ∀ β K v, OutR β K (encA R y) v → OutR β K (encA R (g x)) v)
    (h : ∀ x, ok x = true → ∀ k : Den R → Option Unit, (∀ y, Q x y → k y = some ()) → callN Γ N c (decRH R k) (encA A x) [] = some ()) : SemOK P (f, fnMean A R ok g) := by
  classical
  refine ⟨?_, hf.ok⟩
  intro args ins rs outs hrun β0 K0 w0 vs hk hm hfr hv
  cases ins with
  | cons _ _ => simp [fnMean] at hrun
  | nil =>
    simp only [fnMean] at hrun
    split at hrun
    · rename_i x hx
      simp only [Option.some.injEq, Prod.mk.injEq] at hrun
      obtain ⟨hok, rfl, rfl⟩ := hrun
      have he := h x hok (fun y => if Q x y then some () else none) (fun y hy => if_pos hy)
      refine (callN_ok env hN hf hNL he hk hm hfr (decA_ok hx hv)).mono ?_
      rintro e w' ⟨v, β, K, rs', outs', rfl, hg, hR⟩
      unfold decRH at hg
      split at hg
      case h_2 => cases hg
      rename_i y hy
      dsimp only at hg
      split at hg
      case isFalse => cases hg
      rename_i hq
      unfold decR at hy
      dsimp only at hy
      split at hy
      · exact ⟨v, β, K, rfl, { hR with out := hQ x y hq β K v (decR_out hy hR.out) }⟩
      · cases hy
    · cases hrun
end

/-! ## A double's bits -/

theorem ext_bits {P : Program} {f : Nat} (he : ExtIs P f Extern.MathFloatBits.float64bits) {inh : Nonempty { z : Nat // isNaN .f64 z = true }} :
    FamOK P f (extFam (.cons (.flt .f64) .nil) (.cons (.int .u64) .nil) { z : Nat // isNaN .f64 z = true } inh (fun z x => ((((bif isNaN .f64 x.1 then z.1 else x.1 : Nat) : Int)), ()))) := by
  refine ext_ok he fun x vs β K w hv => ?_
  obtain ⟨b, _⟩ := x
  obtain ⟨z0⟩ := inh
  rcases vs with ⟨l⟩
  cases l with
  | nil => exact hv.elim
  | cons v r =>
    cases r with
    | cons _ _ => exact hv.2.elim
    | nil =>
      obtain ⟨b', rfl, hb⟩ := hv.1
      have hb : FEq .f64 b b' := hb
      by_cases hn : isNaN .f64 b = true
      · refine ⟨.int .u64 b', w, ⟨b', FEq.nan_left hb hn⟩, rfl, Still.refl w, ?_⟩
        show Value.int .u64 b' = .int .u64 _
        rw [hn]
        rfl
      · rcases hb with rfl | ⟨h1, _⟩
        · refine ⟨.int .u64 b, w, z0, rfl, Still.refl w, ?_⟩
          show Value.int .u64 b = .int .u64 _
          rw [Bool.eq_false_iff.2 hn]
          rfl
        · exact absurd h1 hn

theorem ext_frombits {P : Program} {f : Nat} (he : ExtIs P f Extern.MathFloatBits.float64frombits) :
    FamOK P f (extFam (.cons (.int .u64) .nil) (.cons (.flt .f64) .nil) Unit ⟨()⟩ (fun _ x => ((x.1 : Int).toNat, ()))) := by
  refine ext_ok he fun x vs β K w hv => ?_
  obtain ⟨n, _⟩ := x
  rcases vs with ⟨l⟩
  cases l with
  | nil => exact hv.elim
  | cons v r =>
    cases r with
    | cons _ _ => exact hv.2.elim
    | nil =>
      have hv1 : v = .int .u64 n := hv.1
      subst hv1
      exact ⟨.float .f64 (n : Int).toNat, w, (), rfl, Still.refl w, ⟨_, rfl, .inl rfl⟩⟩

end Go.Proofs.Ytmmdjajebmihhaa.AM
