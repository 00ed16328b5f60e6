/- The abstract machine: a call does what its function's meaning says. Conditions: those that each lemma names. -/
import Derived.Test.YtmmdjajebmihhaaA9
namespace Go.Proofs.Ytmmdjajebmihhaa.AM
open Go
set_option linter.unusedVariables false

/-! ## New names -/

theorem All2.ofMap {α γ : Type} {f : α → Option γ} : ∀ {as : List α} {cs : List γ}, mapO f as = some cs → All2 (fun a c => f a = some c) as cs
  | [], cs, h => by simp only [mapO, Option.some.injEq] at h; subst h; trivial
  | a :: as, cs, h => by
    simp only [mapO] at h
    split at h
    · rename_i y hy
      split at h
      · rename_i hys; cases h; exact ⟨hy, All2.ofMap hys⟩
      · cases h
    · cases h

theorem PR.ren {β β' : Bt} {σ : Nat → Option Nat} (hσ : ∀ k k' h, σ k = some k' → β k = some h → β' k' = some h) {k k' off : Nat} {v : Value} (hk : σ k = some k') (h : PR β k off v) : PR β' k' off v := by
  obtain ⟨y, b, h1, h2, h3⟩ := h
  exact ⟨y, b, hσ _ _ _ hk h1, h2, h3⟩

theorem renC_ok {β β' : Bt} {K : Ks} {σ : Nat → Option Nat} (hσ : ∀ k k' h, σ k = some k' → β k = some h → β' k' = some h) {c c' : C} {v : Value} (hc : renC σ c = some c') (h : CR β K c v) : CR β' K c' v := by
  cases c with
  | ref t k =>
    simp only [renC, Option.map_eq_some_iff] at hc
    obtain ⟨k', hk, rfl⟩ := hc
    obtain ⟨y, a, n, c, h1, h2⟩ := h
    exact ⟨y, a, n, c, hσ _ _ _ hk h1, h2⟩
  | ptr k o =>
    simp only [renC, Option.map_eq_some_iff] at hc
    obtain ⟨k', hk, rfl⟩ := hc
    exact PR.ren hσ hk h
  | eptr k t i o =>
    simp only [renC, Option.map_eq_some_iff] at hc
    obtain ⟨k', hk, rfl⟩ := hc
    obtain ⟨y, b, n, c, h1, h2⟩ := h
    exact ⟨y, b, n, c, hσ _ _ _ hk h1, h2⟩
  | fn f caps =>
    simp only [renC, Option.map_eq_some_iff] at hc
    obtain ⟨caps', hk, rfl⟩ := hc
    obtain ⟨cs, h1, h2⟩ := h
    exact ⟨cs, h1, mapO_all2 hk h2 fun k k' u _ hkk hu => PR.ren hσ hkk hu⟩
  | _ => simp only [renC, Option.some.injEq] at hc; subst hc; exact h

theorem renW_ok {β β' : Bt} {K : Ks} {σ : Nat → Option Nat} (hσ : ∀ k k' h, σ k = some k' → β k = some h → β' k' = some h) {c c' : W} {v : Value} (hc : renW σ c = some c') (h : WR β K c v) : WR β' K c' v := by
  cases c with
  | one c =>
    simp only [renW, Option.map_eq_some_iff] at hc
    obtain ⟨c', hk, rfl⟩ := hc
    exact renC_ok hσ hk h
  | agg cs =>
    simp only [renW, Option.map_eq_some_iff] at hc
    obtain ⟨cs', hk, rfl⟩ := hc
    obtain ⟨arr, e, h⟩ := h
    exact ⟨arr, e, mapO_all2 hk h fun c c' u _ hkk hu => renC_ok hσ hkk hu⟩

theorem renV_ok {β β' : Bt} {K : Ks} {σ : Nat → Option Nat} (hσ : ∀ k k' h, σ k = some k' → β k = some h → β' k' = some h) {c c' : V} {v : Value} (hc : renV σ c = some c') (h : VR β K c v) : VR β' K c' v := by
  cases c with
  | val c =>
    simp only [renV, Option.map_eq_some_iff] at hc
    obtain ⟨c', hk, rfl⟩ := hc
    exact renW_ok hσ hk h
  | tup cs =>
    simp only [renV, Option.map_eq_some_iff] at hc
    obtain ⟨cs', hk, rfl⟩ := hc
    obtain ⟨arr, e, h⟩ := h
    exact ⟨arr, e, mapO_all2 hk h fun c c' u _ hkk hu => renW_ok hσ hkk hu⟩

theorem renB_ok {β β' : Bt} {K : Ks} {σ : Nat → Option Nat} {w : World} (hσ : ∀ k k' h, σ k = some k' → β k = some h → β' k' = some h) {b b' : Blk} {y : Hd} (hc : renB σ b = some b') (h : BR β K b y w) : BR β' K b' y w := by
  cases b with
  | box cs =>
    simp only [renB, Option.map_eq_some_iff] at hc
    obtain ⟨cs', hk, rfl⟩ := hc
    obtain ⟨x, arr, T, e, hh, h⟩ := h
    exact ⟨x, arr, T, e, hh, mapO_all2 hk h fun c c' u _ hkk hu => renC_ok hσ hkk hu⟩
  | arr t l =>
    simp only [renB, Option.some.injEq] at hc
    subst hc
    exact h

theorem outV_map {β β' : Bt} {K K' : Ks} {f : W → Option W} {rs rs' : List W} {v : Value} (hr : mapO f rs = some rs') (h : OutR β K rs v) (hf : ∀ c c' u, c ∈ rs → f c = some c' → WR β K c u → WR β' K' c' u) : VR β' K' (outV rs') v := by
  have ha := All2.ofMap hr
  unfold OutR at h
  cases rs with
  | nil => cases rs' with
    | nil =>
      obtain ⟨arr, e, h⟩ := h
      refine ⟨arr, e, ?_⟩
      cases hq : arr.toList with
      | nil => trivial
      | cons _ _ => rw [hq] at h; exact h.elim
    | cons _ _ => exact ha.elim
  | cons x r =>
    cases rs' with
    | nil => exact ha.elim
    | cons x' r' =>
      cases r with
      | nil => cases r' with
        | nil => exact hf x x' v (List.mem_cons_self ..) ha.1 h
        | cons _ _ => exact ha.2.elim
      | cons y r =>
        cases r' with
        | nil => exact ha.2.elim
        | cons y' r' =>
          obtain ⟨arr, e, h⟩ := h
          exact ⟨arr, e, mapO_all2 hr h fun c c' u hm hkk hu => hf c c' u hm hkk hu⟩

theorem outV_ren {β β' : Bt} {K : Ks} {σ : Nat → Option Nat} (hσ : ∀ k k' h, σ k = some k' → β k = some h → β' k' = some h) {rs rs' : List W} {v : Value} (hr : mapO (renW σ) rs = some rs') (h : OutR β K rs v) : VR β' K (outV rs') v :=
  outV_map hr h fun c c' u _ hc hu => renW_ok hσ hc hu

theorem outV_mono {β : Bt} {K K' : Ks} {rs : List W} {v : Value} (h : OutR β K rs v) (hm : ∀ c ∈ rs, ∀ u, WR β K c u → WR β K' c u) : OutR β K' rs v := by
  unfold OutR at h ⊢
  cases rs with
  | nil =>
    obtain ⟨arr, e, h⟩ := h
    refine ⟨arr, e, ?_⟩
    cases hq : arr.toList with
    | nil => trivial
    | cons _ _ => rw [hq] at h; exact h.elim
  | cons x r => cases r with
    | nil => exact hm x (List.mem_cons_self ..) v h
    | cons y r =>
      obtain ⟨arr, e, h⟩ := h
      exact ⟨arr, e, All2.mono_mem (fun c u hc hu => hm c hc u hu) h⟩

theorem bare_CR {β : Bt} {K K' : Ks} {c : C} (hb : bare c = true) {v : Value} (h : CR β K c v) : CR β K' c v := by
  cases c <;> first | exact h | (simp [bare] at hb)

theorem bare_WR {β : Bt} {K K' : Ks} {c : W} (hb : c.cells.all bare = true) {v : Value} (h : WR β K c v) : WR β K' c v := by
  cases c with
  | one c => exact bare_CR (by simpa [W.cells] using hb) h
  | agg cs =>
    obtain ⟨arr, e, h⟩ := h
    exact ⟨arr, e, All2.mono_mem (fun c u hc hu => bare_CR (List.all_eq_true.1 hb c hc) hu) h⟩

theorem flat_BR {β : Bt} {K K' : Ks} {b : Blk} (hb : flatB (some b) = true) {y : Hd} {w : World} (h : BR β K b y w) : BR β K' b y w := by
  cases b with
  | box cs =>
    obtain ⟨x, arr, T, e, hh, h⟩ := h
    exact ⟨x, arr, T, e, hh, All2.mono_mem (fun c u hc hu => bare_CR (List.all_eq_true.1 (by simpa [flatB] using hb) c hc) hu) h⟩
  | arr t l =>
    rcases h with h | ⟨x, cap, cur, T, e, hh, h1, h2, h3, h4⟩
    · exact .inl h
    · exact .inr ⟨x, cap, cur, T, e, hh, h1, h2, h3, fun i hi => DR.flat t (by simpa [flatB] using hb) (h4 i hi)⟩

/-! ## The step of a call -/

section
variable {P : Program} {Γ : Env} {β : Bt} {K : Ks} {get : Get} {n : Nat} {w : World} {ρ : Operand → V} {a : Act} {o : Oper}

theorem StepOK.call {f : Nat} {vs : Array Value} {post : Value → World → Prop} (hx : (execOp a.eval o).run P w = .ok (.enter f vs) w) (hc : Calls P f vs w fun e w' => ∃ v, e = .returned v ∧ post v w') : StepOK P o a w post := by
  intro next Q hn
  simp only [Oper.wp, hx, Oper.upon]
  refine hc.mono fun e w' he => ?_
  obtain ⟨v, rfl, hp⟩ := he
  exact hn v w' hp

theorem exec_call (h : Pre P Γ β K get n w ρ a) {c : Call} {f : Operand} {g : Nat} {caps : List Nat} {ws : List W} (ho : o.op = .call c) (hc : c.callee = .value f) (hf : ρ f = .val (.one (.fn g caps)))
    (hw : valsW (c.args.toList.map ρ) = some ws) (hfn : FnOK P g) : ∃ vs : Array Value, (execOp a.eval o).run P w = .ok (.enter g vs) w ∧ All2 (WR β K) (ws ++ caps.map fun k => .one (.ptr k 0)) vs.toList := by
  obtain ⟨cs, hfv, hcs⟩ := h.one hf
  obtain ⟨fn, h1, h2, h3⟩ := hfn.body
  refine ⟨(c.args.map a.eval) ++ cs.toArray, ?_, ?_⟩
  · have hb : ¬ fn.body = none := by intro e; rw [e] at h2; cases h2
    have h3' : ¬ fn.name = "runtime.NumGoroutine" := by simpa using h3
    simp [execOp, ho, resolve, hc, hfv, Deferred.ofValue, invoke, callFunc, h1, h3', hb]
  · rw [Array.toList_append]
    refine All2.append ?_ ?_
    · have hl : All2 (fun (x : V) (u : Value) => VR β K x u) (c.args.toList.map ρ) (c.args.map a.eval).toList := by
        rw [Array.toList_map]
        generalize c.args.toList = l
        induction l with
        | nil => trivial
        | cons x r ih => exact ⟨h.val x, ih⟩
      refine mapO_all2 hw hl fun x c u _ hx hu => ?_
      split at hx
      · cases hx; exact hu
      · cases hx
    · simp only []
      clear hf hfv
      induction caps generalizing cs with
      | nil => cases cs with
        | nil => trivial
        | cons _ _ => exact hcs.elim
      | cons k caps ih => cases cs with
        | nil => exact hcs.elim
        | cons u cs => exact ⟨hcs.1, ih cs hcs.2⟩

/-! ### A call that is handed nothing to write -/

theorem roC_free (hm : MR β K get w) {ks : List Nat} {c c' : C} {v : Value} (hc : roC get c = some c') (hv : CR β K c v) (hk : ∀ k ∈ keysC c, k ∈ ks) (β0 : Bt) : CR β0 (frzK β K get w ks) c' v := by
  have := roC_ok hm hc hv hk
  cases c with
  | ref t k =>
    simp only [roC] at hc
    split at hc
    · split at hc
      · cases hc; exact this
      · cases hc
    · cases hc
  | fn f caps =>
    cases caps with
    | nil => simp only [roC, Option.some.injEq] at hc; subst hc; obtain ⟨cs, e, h⟩ := this; cases cs with
      | nil => exact ⟨[], e, trivial⟩
      | cons _ _ => exact h.elim
    | cons k ks => simp [roC] at hc
  | ptr k o => simp [roC] at hc
  | eptr k t i o => simp [roC] at hc
  | _ => simp only [roC, Option.some.injEq] at hc; subst hc; exact this

theorem roW_free (hm : MR β K get w) {ks : List Nat} {c c' : W} {v : Value} (hc : roW get c = some c') (hv : WR β K c v) (hk : ∀ k ∈ keysW c, k ∈ ks) (β0 : Bt) : WR β0 (frzK β K get w ks) c' v := by
  cases c with
  | one c =>
    simp only [roW, Option.map_eq_some_iff] at hc
    obtain ⟨c', hc, rfl⟩ := hc
    exact roC_free hm hc hv (fun k h => hk k (by simpa [keysW, W.cells] using h)) β0
  | agg cs =>
    simp only [roW, Option.map_eq_some_iff] at hc
    obtain ⟨cs', hc, rfl⟩ := hc
    obtain ⟨arr, e, h⟩ := hv
    exact ⟨arr, e, mapO_all2 hc h fun c c' u hmem hcc hu => roC_free hm hcc hu (fun k hkk => hk k (List.mem_flatMap.2 ⟨c, hmem, hkk⟩)) β0⟩

/-- The keys of a call's results, behind those that there are. -/
def addBs (β : Bt) (n : Nat) (β' : Bt) : Bt := fun k => if n ≤ k then β' (k - n) else β k

theorem upds_nil : ∀ (outs : List (Option Blk)) (n : Nat) (k : Nat), look (upds [] outs n) k = if n ≤ k then (outs[k - n]?) else none
  | [], n, k => by simp [upds, look]
  | b :: r, n, k => by
    simp only [upds, look]
    split
    · rename_i h; have := nbeq_eq h; subst this; simp
    · rename_i h
      have hne : n ≠ k := fun e => by subst e; simp at h
      rw [upds_nil r (n + 1) k]
      by_cases hk : n ≤ k
      · rw [if_pos (by omega), if_pos hk]
        have : k - n = (k - (n + 1)) + 1 := by omega
        rw [this]; simp
      · rw [if_neg (by omega), if_neg hk]

theorem getU_upds {outs : List (Option Blk)} {n : Nat} {get : Get} {k : Nat} {b : Blk} (h : getU (upds [] outs n) get k = some b) (hg : ∀ k, n ≤ k → get k = none) :
    (n ≤ k ∧ getO outs (k - n) = some b) ∨ (k < n ∧ get k = some b) := by
  unfold getU at h
  rw [upds_nil] at h
  by_cases hk : n ≤ k
  · rw [if_pos hk] at h
    left
    refine ⟨hk, ?_⟩
    unfold getO
    cases hq : outs[k - n]? with
    | none => rw [hq] at h; dsimp only at h; rw [hg k hk] at h; cases h
    | some x => rw [hq] at h; dsimp only at h; rw [h]; rfl
  · rw [if_neg hk] at h
    exact .inr ⟨by omega, h⟩

theorem Pre.gnone (h : Pre P Γ β K get n w ρ a) : ∀ k, n ≤ k → get k = none := by
  intro k hk
  cases hq : get k with
  | none => rfl
  | some b =>
    obtain ⟨y, hy, _⟩ := h.mr.blk k b hq
    rw [h.fresh k hk] at hy
    cases hy

theorem mapO_getO {σ : Nat → Option Nat} {outs outs' : List (Option Blk)} (h : mapO (renOB σ) outs = some outs') {i : Nat} {b : Blk} (hb : getO outs' i = some b) : ∃ b0, getO outs i = some b0 ∧ renB σ b0 = some b := by
  have ha := All2.ofMap h
  unfold getO at hb ⊢
  cases hq : outs'[i]? with
  | none => rw [hq] at hb; cases hb
  | some x =>
    rw [hq] at hb
    have hx : x = some b := hb
    subst hx
    obtain ⟨y, hy, hr⟩ := ha.get?' hq
    rw [hy]
    cases y with
    | none => simp [renOB] at hr
    | some b0 =>
      refine ⟨b0, rfl, ?_⟩
      simp only [renOB, Option.map_eq_some_iff, Option.some.injEq] at hr
      obtain ⟨b1, h1, h2⟩ := hr
      rw [h1, h2]

theorem ok_callRo (h : Pre P Γ β K get n w ρ a) {c : Call} {f : Operand} {g : Nat} {caps : List Nat} {ws : List W} {sm : Mean} {frz : Bool} {out : Out} (ho : o.op = .call c) (hc : c.callee = .value f) (hf : ρ f = .val (.one (.fn g caps)))
    (hw : valsW (c.args.toList.map ρ) = some ws) (hsm : Γ.sem g = some sm) (hl : callRo sm frz get n (ws ++ caps.map fun k => .one (.ptr k 0)) = some out) (hok : out.ok = true) : StepOK P o a w (PostE β K get n w out) := by
  obtain ⟨hmean, hfn⟩ := h.env.sem g sm hsm
  obtain ⟨vs, hx, hvs⟩ := exec_call h ho hc hf hw hfn
  generalize (ws ++ caps.map fun k => W.one (C.ptr k 0)) = args at hl hvs
  simp only [callRo] at hl
  split at hl
  case h_2 => cases hl
  rename_i args' hargs
  split at hl
  case h_2 => cases hl
  rename_i ok rs outs hrun
  have hok' : ok = true := by
    split at hl
    · cases hl
    · split at hl
      · split at hl
        · cases hl; exact hok
        · cases hl
      · split at hl
        · cases hl; exact hok
        · cases hl
  subst hok'
  refine StepOK.call hx ?_
  have hK1 := frzK_ok (β := β) (get := get) (ks := args.flatMap keysW) h.kok
  have hargs' : All2 (WR (fun _ => none) (frzK β K get w (args.flatMap keysW))) args' vs.toList :=
    mapO_all2 hargs hvs fun c c' u hmem hcc hu => roW_free h.mr hcc hu (fun k hk => List.mem_flatMap.2 ⟨c, hmem, hk⟩) _
  have hM0 : MR (fun _ => none) (frzK β K get w (args.flatMap keysW)) (getL []) w := ⟨fun k b e => by simp [getL] at e, fun k k' b b' _ _ _ e => by simp [getL] at e, fun k b _ _ e => by simp [getL] at e⟩
  refine (hmean args' [] rs outs hrun (fun _ => none) _ w vs hK1 hM0 (fun _ _ => rfl) hargs').mono ?_
  rintro e w' ⟨v, β', K', rfl, hR⟩
  refine ⟨v, rfl, ?_⟩
  have hempty : ∀ x, ¬ Own (fun _ => none) (getL []) x := by rintro x ⟨k, b, y, e, _⟩; simp [getL] at e
  have hheap : ∀ b, b < w.heap.size → w'.heap[b]? = w.heap[b]? := fun b hb => hR.fr.block b hb (hempty b)
  have hownb : ∀ x, Own β' (getO outs) x → w.heap.size ≤ x := fun x hx => (hR.own x hx).resolve_left (hempty x)
  have hgn := h.gnone
  have hfr : Fr (Own β get) w w' := ⟨hR.fr.os, hR.fr.tape, hR.fr.output, hR.fr.size, fun b hb _ => hheap b hb⟩
  -- the blocks that nobody writes, behind the call
  have main : ∀ (K2 : Ks), (∀ b arr, w.heap.size ≤ b → K2 b = some arr → ∃ T fz, w'.heap[b]? = some (.cells arr T fz)) →
      ∃ K3 : Ks, KLe K K3 ∧ KOK K3 w' ∧ (∀ x, x < w.heap.size → K3 x = K x) ∧ (∀ x, w.heap.size ≤ x → K3 x = K2 x) := by
    intro K2 h2
    refine ⟨fun b => if w.heap.size ≤ b then K2 b else K b, ?_, ?_, fun x hx => ?_, fun x hx => ?_⟩
    · intro b arr e
      have := h.kok.lt e
      dsimp only
      rw [if_neg (by omega)]; exact e
    · intro b arr e
      dsimp only at e
      split at e
      · exact h2 b arr ‹_› e
      · rename_i hb
        rw [hheap b (by omega)]
        exact h.kok b arr e
    · dsimp only; rw [if_neg (by omega)]
    · dsimp only; rw [if_pos hx]
  have noref : (args.all fun w => w.cells.all fun c => !isRef c) = true → frzK β K get w (args.flatMap keysW) = K := by
    intro hn
    have hk : args.flatMap keysW = [] := by
      rw [List.flatMap_eq_nil_iff]
      intro u hu
      have hu2 := List.all_eq_true.1 hn u hu
      obtain ⟨u', hu', hro⟩ : ∃ u', u' ∈ args' ∧ roW get u = some u' := by
        obtain ⟨i, hi, he⟩ := List.mem_iff_getElem.1 hu
        obtain ⟨u', h1, h2⟩ := (All2.ofMap hargs).get? (List.getElem?_eq_getElem hi)
        rw [he] at h2
        exact ⟨u', List.mem_of_getElem? h1, h2⟩
      unfold keysW
      rw [List.flatMap_eq_nil_iff]
      intro cc hcc
      have h3 := List.all_eq_true.1 hu2 cc hcc
      have h4 : ∃ c', roC get cc = some c' := by
        cases u with
        | one c0 =>
          simp only [W.cells, List.mem_singleton] at hcc
          subst hcc
          simp only [roW, Option.map_eq_some_iff] at hro
          exact ⟨hro.choose, hro.choose_spec.1⟩
        | agg cs =>
          simp only [roW, Option.map_eq_some_iff] at hro
          obtain ⟨cs', h5, _⟩ := hro
          obtain ⟨i, hi, he⟩ := List.mem_iff_getElem.1 (show cc ∈ cs from hcc)
          obtain ⟨c', _, h6⟩ := (All2.ofMap h5).get? (List.getElem?_eq_getElem hi)
          rw [he] at h6
          exact ⟨c', h6⟩
      obtain ⟨c', h4⟩ := h4
      cases cc with
      | ref t k => simp [isRef] at h3
      | ptr k o => simp [roC] at h4
      | eptr k t i o => simp [roC] at h4
      | fn f caps => cases caps with
        | nil => rfl
        | cons _ _ => simp [roC] at h4
      | _ => rfl
    rw [hk]
    funext b
    unfold frzK
    cases hq : K b with
    | some _ => rfl
    | none =>
      dsimp only
      rw [if_neg]
      rintro ⟨k, hk, _⟩
      simp at hk
  split at hl
  · cases hl
  · rename_i hcond
    split at hl
    · -- given away
      split at hl
      · rename_i rs' hrs'
        cases hl
        have hnr : (args.all fun w => w.cells.all fun c => !isRef c) = true := by simpa using hcond
        have hKe := noref hnr
        obtain ⟨K3, hle3, hok3, hlo, hhi⟩ := main (frzK β' K' (getO outs) w' (rs.flatMap keysW)) (fun b arr _ e => frzK_ok hR.kok b arr e)
        have hle : KLe (frzK β' K' (getO outs) w' (rs.flatMap keysW)) K3 := by
          intro b arr e
          by_cases hb : w.heap.size ≤ b
          · rw [hhi b hb]; exact e
          · rw [hlo b (by omega)]
            unfold frzK at e
            split at e
            · rename_i x hx
              cases e
              rcases hR.knew b _ hx with h1 | h1 | h1
              · rw [hKe] at h1; exact h1
              · exact absurd h1 (hempty b)
              · omega
            · split at e
              · rename_i hex
                obtain ⟨k, _, c, y, h1, h2, h3⟩ := hex
                have := hownb b ⟨k, c, y, h1, h2, h3⟩
                omega
              · cases e
        refine ⟨β, K3, BLe.refl β, hle3, hok3, ?_, ?_, h.fresh, Nat.le_refl _, hfr, fun x hx => .inl hx, (fun b arr e => by
          by_cases hb : w.heap.size ≤ b
          · exact .inr (.inr hb)
          · rw [hlo b (by omega)] at e; exact .inl e), fun _ _ => rfl⟩
        · refine outV_map hrs' hR.out fun c c' u hm hcc hu => ?_
          exact WR.mono (BLe.refl β) hle (roW_free hR.mr hcc hu (fun k hk => List.mem_flatMap.2 ⟨c, hm, hk⟩) β)
        · refine h.mr.step (BLe.refl β) hle3 fun k b e => .inl ⟨e, fun x y f g => ?_⟩
          have hx := h.mr.lt ⟨k, b, y, e, f, g⟩
          exact ⟨hheap x hx, by rw [hlo x hx]; exact h.mr.ro k b y x e f g⟩
      · cases hl
    · split at hl
      · rename_i rs' outs' hrs' houts'
        cases hl
        obtain ⟨K3, hle3, hok3, hlo, hhi⟩ := main K' (fun b arr _ e => hR.kok b arr e)
        -- what the results say of memory
        have hcase : KLe K' K3 ∨ ((∀ c ∈ rs, c.cells.all bare = true) ∧ ∀ b ∈ outs, flatB b = true) := by
          simp only [Bool.or_eq_true, Bool.and_eq_true] at hcond
          rcases hcond with hnr | ⟨⟨_, h1⟩, h2⟩
          · left
            have hKe := noref hnr
            intro b arr e
            by_cases hb : w.heap.size ≤ b
            · rw [hhi b hb]; exact e
            · rw [hlo b (by omega)]
              rcases hR.knew b arr e with h1 | h1 | h1
              · rw [hKe] at h1; exact h1
              · exact absurd h1 (hempty b)
              · omega
          · exact .inr ⟨List.all_eq_true.1 h1, List.all_eq_true.1 h2⟩
        have hout : OutR β' K3 rs v := outV_mono hR.out fun c hc u hu => by
          rcases hcase with hle | ⟨h1, _⟩
          · exact WR.mono (BLe.refl _) hle hu
          · exact bare_WR (h1 c hc) hu
        have hblk : ∀ i b y, getO outs i = some b → BR β' K' b y w' → BR β' K3 b y w' := by
          intro i b y hi hb
          rcases hcase with hle | ⟨_, h2⟩
          · exact hb.mono (BLe.refl _) hle
          · refine flat_BR (h2 _ ?_) hb
            unfold getO at hi
            cases hq : outs[i]? with
            | none => rw [hq] at hi; cases hi
            | some x => rw [hq] at hi; have hx : x = some b := hi; subst hx; exact List.mem_of_getElem? hq
        have hσ : ∀ k k' y, (fun i => some (n + i)) k = some k' → β' k = some y → addBs β n β' k' = some y := by
          intro k k' y e hy
          cases e
          unfold addBs
          rw [if_pos (by omega), Nat.add_sub_cancel_left]
          exact hy
        have hble : BLe β (addBs β n β') := by
          intro k y e
          unfold addBs
          rw [if_neg]
          · exact e
          · intro hk
            rw [h.fresh k hk] at e
            cases e
        refine ⟨addBs β n β', K3, hble, hle3, hok3, outV_ren hσ hrs' hout, ?_, ?_, by simp, hfr, ?_, (fun b arr e => by
          by_cases hb : w.heap.size ≤ b
          · exact .inr (.inr hb)
          · rw [hlo b (by omega)] at e; exact .inl e), fun k hk => by unfold addBs; rw [if_neg (by omega)]⟩
        · refine h.mr.step hble hle3 ?_
          intro k b e
          rcases getU_upds e hgn with ⟨hk, e1⟩ | ⟨hk, e1⟩
          · right
            obtain ⟨b0, e2, e3⟩ := mapO_getO houts' e1
            obtain ⟨y, hy, hbr⟩ := hR.mr.blk _ _ e2
            refine ⟨y, by unfold addBs; rw [if_pos hk]; exact hy, renB_ok hσ e3 (hblk _ _ _ e2 hbr), fun x hx => ?_⟩
            have hxs := hownb x ⟨_, b0, y, e2, hy, hx⟩
            refine ⟨by rw [hhi x hxs]; exact hR.mr.ro _ _ _ _ e2 hy hx, fun k' b' y' e' f' g' => ?_⟩
            rcases getU_upds e' hgn with ⟨hk', e1'⟩ | ⟨hk', e1'⟩
            · obtain ⟨b0', e2', _⟩ := mapO_getO houts' e1'
              unfold addBs at f'
              rw [if_pos hk'] at f'
              have := hR.mr.sep _ _ _ _ _ _ x e2' e2 f' hy g' hx
              omega
            · unfold addBs at f'
              rw [if_neg (by omega)] at f'
              have := h.mr.lt ⟨k', b', y', e1', f', g'⟩
              omega
          · refine .inl ⟨e1, fun x y f g => ?_⟩
            have hx := h.mr.lt ⟨k, b, y, e1, f, g⟩
            exact ⟨hheap x hx, by rw [hlo x hx]; exact h.mr.ro k b y x e1 f g⟩
        · intro k hk
          dsimp only at hk
          unfold addBs
          rw [if_pos (by omega)]
          exact hR.fresh _ (by omega)
        · rintro x ⟨k, b, y, e, f, g⟩
          rcases getU_upds e hgn with ⟨hk, e1⟩ | ⟨hk, e1⟩
          · right
            obtain ⟨b0, e2, e3⟩ := mapO_getO houts' e1
            unfold addBs at f
            rw [if_pos hk] at f
            exact hownb x ⟨_, b0, y, e2, f, g⟩
          · left
            unfold addBs at f
            rw [if_neg (by omega)] at f
            exact ⟨k, b, y, e1, f, g⟩
      · cases hl
end

end Go.Proofs.Ytmmdjajebmihhaa.AM
