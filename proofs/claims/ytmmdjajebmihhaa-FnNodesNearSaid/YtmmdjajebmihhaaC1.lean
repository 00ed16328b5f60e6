/- The abstract machine: meanings by types; a law's call. Conditions: those that each lemma names. -/
import Derived.Test.YtmmdjajebmihhaaC0
import Derived.Below
namespace Go.Proofs.Ytmmdjajebmihhaa.AM
open Go Go.RowKit
set_option linter.unusedVariables false

def decC (t : Ty) (cs : List C) : Option (Den t) := match dec t cs with
  | some (x, []) => some x
  | _ => none

def decW : (t : Ty) → W → Option (Den t)
  | .nil, .agg cs => decC .nil cs
  | .cons a b, .agg cs => decC (.cons a b) cs
  | .bool, .one c => decC .bool [c]
  | .int k, .one c => decC (.int k) [c]
  | .flt k, .one c => decC (.flt k) [c]
  | .cpx k, .one c => decC (.cpx k) [c]
  | .str, .one c => decC .str [c]
  | .slice t, .one c => decC (.slice t) [c]
  | _, _ => none

def decA : (t : Ty) → List W → Option (Den t)
  | .nil, [] => some ()
  | .cons a b, w :: ws => match decW a w with
    | some x => match decA b ws with
      | some y => some (x, y)
      | none => none
    | none => none
  | _, _ => none

def encA : (t : Ty) → Den t → List W
  | .cons a b, p => encW a p.1 :: encA b p.2
  | _, _ => []

theorem decC_DR {β : Bt} {K : Ks} {t : Ty} {cs : List C} {x : Den t} {vs : List Value} (h : decC t cs = some x) (hv : All2 (CR β K) cs vs) : DR K t x vs := by
  unfold decC at h
  split at h
  · rename_i y e
    cases h
    obtain ⟨v1, v2, rfl, hd, h2⟩ := dec_DR t e hv
    cases v2 with
    | nil => rw [List.append_nil]; exact hd
    | cons _ _ => exact h2.elim
  · cases h

theorem decW_ok {β : Bt} {K : Ks} {t : Ty} {u : W} {x : Den t} {v : Value} (h : decW t u = some x) (hv : WR β K u v) : WR β K (encW t x) v := by
  have one : ∀ c, decC t [c] = some x → CR β K c v → All2 (CR β K) (AM.enc t x) [v] := fun c hc hcr => DR.enc t (decC_DR hc ⟨hcr, trivial⟩)
  unfold decW at h
  split at h <;> first | cases h; done | skip
  · obtain ⟨arr, rfl, ha⟩ := hv
    exact ⟨arr, rfl, DR.enc _ (decC_DR h ha)⟩
  · obtain ⟨arr, rfl, ha⟩ := hv
    exact ⟨arr, rfl, DR.enc _ (decC_DR h ha)⟩
  · exact (one _ h hv).1
  · exact (one _ h hv).1
  · exact (one _ h hv).1
  · exact (one _ h hv).1
  · exact (one _ h hv).1
  · exact (one _ h hv).1

theorem decA_ok {β : Bt} {K : Ks} : ∀ {t : Ty} {us : List W} {x : Den t} {vs : List Value}, decA t us = some x → All2 (WR β K) us vs → All2 (WR β K) (encA t x) vs := by
  intro t
  induction t with
  | nil =>
    intro us x vs h hv
    cases us with
    | nil => exact hv
    | cons _ _ => simp [decA] at h
  | cons a b _ ihb =>
    intro us x vs h hv
    cases us with
    | nil => simp [decA] at h
    | cons u us =>
      simp only [decA] at h
      split at h
      · rename_i y hy
        split at h
        · rename_i z hz
          cases h
          cases vs with
          | nil => exact hv.elim
          | cons v vs => exact ⟨decW_ok hy hv.1, ihb hz hv.2⟩
        · cases h
      · cases h
  | _ => intro us x vs h; cases us <;> simp [decA] at h

/-- A function that neither writes nor hands out a slice of its own: where it may be asked, and what it answers. -/
def fnMean (A R : Ty) (ok : Den A → Bool) (g : Den A → Den R) : Mean := ⟨false, fun ws ins => match ins with
  | [] => match decA A ws with
    | some x => some (ok x, encA R (g x), [])
    | none => none
  | _ => none⟩

def mkEnv (tab : List (Nat × TI)) (eqs : List Nat) (sems : List (Nat × Mean)) (nt : Nat) (res : List ResultVar) (frz : List Nat) (cut : List (Nat × (List Nat × List Cv))) (loops : List (Nat × LoopM)) (past : List (Nat × (List Nat × List Cv))) (rown : List Cv) : Env :=
  { tab := look tab, sem := look sems, eqT := hasN eqs, nt, res, frz, cut, loops, past, rown }

def AllP {α : Type} (R : α → Prop) : List α → Prop
  | [] => True
  | x :: r => R x ∧ AllP R r

theorem AllP.mem {α : Type} {R : α → Prop} : ∀ {l : List α}, AllP R l → ∀ x ∈ l, R x
  | [], _, x, h => by cases h
  | y :: r, h, x, hx => by
    rcases List.mem_cons.1 hx with rfl | hx
    · exact h.1
    · exact h.2.mem x hx

theorem AllP.nil {α : Type} {R : α → Prop} : AllP R [] := trivial
theorem AllP.cons {α : Type} {R : α → Prop} {x : α} {r : List α} (h : R x) (hs : AllP R r) : AllP R (x :: r) := ⟨h, hs⟩

def SemOK (P : Program) (x : Nat × Mean) : Prop := MeanOK P x.1 x.2 ∧ FnOK P x.1

theorem env_ok {P : Program} {tab : List (Nat × TI)} {eqs : List Nat} {sems : List (Nat × Mean)} (hm : P.follows .mixedOrders = true) (ht : tabB P tab = true) (he : AllP (EqOK P) eqs) (hs : AllP (SemOK P) sems) {nt : Nat} {res : List ResultVar} {frz : List Nat} {cut : List (Nat × (List Nat × List Cv))} {loops : List (Nat × LoopM)} {past : List (Nat × (List Nat × List Cv))} {rown : List Cv} :
    EnvOK P (mkEnv tab eqs sems nt res frz cut loops past rown) :=
  ⟨tabB_ok ht, fun f sm e => hs.mem (f, sm) (look_mem e), (fun t e => he.mem t (hasN_iff.1 e)), hm⟩

section
variable {P : Program} {Γ : Env}

/-- Results, read. -/
def decR (R : Ty) : List W × List (Option Blk) → Option (Den R) := fun p => match p.2 with
  | [] => decA R p.1
  | _ => none

theorem decA_len : ∀ {t : Ty} {us : List W} {x : Den t}, decA t us = some x → (encA t x).length = us.length := by
  intro t
  induction t with
  | nil => intro us x h; cases us with
    | nil => rfl
    | cons _ _ => simp [decA] at h
  | cons a b _ ihb =>
    intro us x h
    cases us with
    | nil => simp [decA] at h
    | cons u us =>
      simp only [decA] at h
      split at h
      · split at h
        · rename_i z hz
          cases h
          simp [encA, ihb hz]
        · cases h
      · cases h
  | _ => intro us x h; cases us <;> simp [decA] at h

theorem decR_out {β : Bt} {K : Ks} {R : Ty} {rs : List W} {r : Den R} {v : Value} (h : decA R rs = some r) (hv : OutR β K rs v) : OutR β K (encA R r) v := by
  have hl := decA_len h
  unfold OutR at hv ⊢
  match rs, encA R r, hl, (fun vs => decA_ok (β := β) (K := K) (vs := vs) h) with
  | [], [], _, _ => exact hv
  | [u], [u'], _, hk => exact (hk [v] ⟨hv, trivial⟩).1
  | u :: u2 :: us, y :: y2 :: ys, _, hk =>
    obtain ⟨arr, e, ha⟩ := hv
    exact ⟨arr, e, hk arr.toList ha⟩

theorem fn_ok (env : EnvOK P Γ) {f : Nat} {c : Code} (hf : FnIs P f Γ c) {A R : Ty} {ok : Den A → Bool} {g : Den A → Den R} (h : ∀ x, ok x = true → callK Γ c (decR R) (encA A x) [] = some (g x)) : SemOK P (f, fnMean A R ok g) := by
  refine ⟨?_, hf.ok⟩
  intro args ins rs outs hrun β0 K0 w0 vs hk hm hfr hv
  cases ins with
  | cons _ _ => simp [fnMean] at hrun
  | nil =>
    simp only [fnMean] at hrun
    split at hrun
    · rename_i x hx
      simp only [Option.some.injEq, Prod.mk.injEq] at hrun
      obtain ⟨hok, rfl, rfl⟩ := hrun
      refine (callK_ok env hf (h x hok) hk hm hfr (decA_ok hx hv)).mono ?_
      rintro e w' ⟨v, β, K, rs', outs', rfl, hg, hR⟩
      unfold decR at hg
      dsimp only at hg
      split at hg
      · exact ⟨v, β, K, rfl, { hR with out := decR_out hg hR.out }⟩
      · cases hg
    · cases hrun

/-- The same, from a function that may fail. -/
theorem fn_opt (env : EnvOK P Γ) {f : Nat} {c : Code} (hf : FnIs P f Γ c) {A R : Ty} {p : Den A → Option (Den R)} (h : ∀ x, callK Γ c (decR R) (encA A x) [] = p x) : SemOK P (f, fnMean A R (fun x => (p x).isSome) (fun x => (p x).getD (zero R))) :=
  fn_ok env hf fun x hx => by
    rw [h x]
    cases hp : p x with
    | none => rw [hp] at hx; cases hx
    | some r => rfl

/-- A law's call: it answers true, and what there was stays. -/
theorem law_ok (env : EnvOK P Γ) {f : Nat} {c : Code} (hf : FnIs P f Γ c) {args : List W} (h : callK Γ c (decR (.cons .bool .nil)) args [] = some (true, ())) {w : World} {vs : Array Value}
    (hv : All2 (WR (fun _ => none) (memK w)) args vs.toList) : Calls P f vs w fun e w' => e = .returned (.bool true) ∧ Below w.heap.size w w' := by
  have hm : MR (fun _ => none) (memK w) (getL []) w := ⟨fun k b e => by simp [getL] at e, fun k k' b b' _ _ _ e => by simp [getL] at e, fun k b _ _ e => by simp [getL] at e⟩
  refine (callK_ok env hf h (memK_ok w) hm (fun _ _ => rfl) hv).mono ?_
  rintro e w' ⟨v, β, K, rs, outs', rfl, hg, hR⟩
  have hno : ∀ x, ¬ Own (fun _ => none) (getL []) x := by rintro x ⟨k, b, y, e, _⟩; simp [getL] at e
  unfold decR at hg
  dsimp only at hg
  split at hg
  · have hout : v = .bool true := decR_out hg hR.out
    exact ⟨by rw [hout], hR.fr.os, hR.fr.tape, hR.fr.output, hR.fr.size, fun k hk => hR.fr.block k hk (hno k)⟩
  · cases hg
end

end Go.Proofs.Ytmmdjajebmihhaa.AM
