/- The abstract machine: a function does what its evaluation says. Conditions: the table and the callees' meanings are right. -/
import Derived.Test.YtmmdjajebmihhaaB8
namespace Go.Proofs.Ytmmdjajebmihhaa.AM
open Go
set_option linter.unusedVariables false

section
variable {P : Program} {Γ : Env}

theorem initT_look : ∀ {args : List W} {i : Nat} {β : Bt} {K : Ks} {vs : List Value}, All2 (WR β K) args vs → ∀ t, VR β K (match look (initT i args) (i + t) with | some v => v | none => pois) (vs.getD t undef) ∧ ∀ j, j < i → look (initT i args) j = none
  | [], i, β, K, vs, h, t => ⟨by simp only [initT, look]; exact pois_VR, fun j _ => rfl⟩
  | u :: r, i, β, K, [], h, t => h.elim
  | u :: r, i, β, K, v :: vs, h, t => by
    refine ⟨?_, fun j hj => ?_⟩
    · cases t with
      | zero =>
        simp only [initT, look, Nat.add_zero, Nat.beq_refl]
        exact h.1
      | succ t =>
        simp only [initT, look]
        rw [nbeq_ne (by omega)]
        have := (initT_look (i := i + 1) h.2 t).1
        rw [show i + 1 + t = i + (t + 1) by omega] at this
        exact this
    · simp only [initT, look]
      rw [nbeq_ne (by omega)]
      exact (initT_look (i := i + 1) h.2 t).2 j (by omega)

theorem initM_look : ∀ {ins : List Blk} {i : Nat} (k : Nat), look (initM i ins) (i + k) = (ins[k]?).map some
  | [], i, k => rfl
  | b :: r, i, 0 => by simp [initM, look]
  | b :: r, i, k + 1 => by
    simp only [initM, look]
    rw [nbeq_ne (by omega)]
    have := initM_look (ins := r) (i := i + 1) k
    rw [show i + 1 + k = i + (k + 1) by omega] at this
    rw [this]
    simp

theorem initM_get (args : List W) (ins : List Blk) : (initS args ins).get = getL ins := by
  funext k
  unfold St.get initS getL
  dsimp only
  have := initM_look (ins := ins) (i := 0) k
  rw [Nat.zero_add] at this
  rw [this]
  cases ins[k]? <;> rfl

theorem upto_get : ∀ (m p : Nat), (upto m)[p]? = if p < m then some p else none
  | 0, p => by simp [upto]
  | m + 1, p => by
    simp only [upto]
    have hl : (upto m).length = m := by
      clear p
      induction m with
      | zero => rfl
      | succ m ih => simp [upto, ih]
    rw [List.getElem?_append, hl]
    split
    · rename_i h
      rw [upto_get m p, if_pos h, if_pos (by omega)]
    · rename_i h
      by_cases e : p = m
      · subst e
        simp
      · rw [if_neg (by omega), List.getElem?_eq_none (by simp; omega)]

theorem upto_length : ∀ (m : Nat), (upto m).length = m
  | 0 => rfl
  | m + 1 => by simp [upto, upto_length m]

/-- The results of a call. -/
theorem res_ok {z : Start} {fn : Func} (env : EnvOK P Γ) (hres : fn.results.toList = Γ.res) {β : Bt} {K : Ks} {s : St} {a : Act} {w : World} (h : SRf P Γ z β K s.fs a w) {ws : List W} (hw : mapO (resW Γ s) Γ.res = some ws) :
    ∃ v, (results fn a.tmps).run P w = .ok v w ∧ OutR β K ws v := by
  have key : ∀ (rs : List ResultVar) (ws : List W), mapO (resW Γ s) rs = some ws → ∃ vs : List Value, All2 (WR β K) ws vs ∧
      (rs.mapM (fun (x : ResultVar) => match x with
        | .tmp t => (pure (a.tmps.getD t undef) : Go.Sem Value)
        | .cell b t => do loadVar t (← asAddr (a.tmps.getD b undef)))).run P w = .ok vs w := by
    intro rs
    induction rs with
    | nil => intro ws hw; simp only [mapO, Option.some.injEq] at hw; subst hw; exact ⟨[], trivial, by simp⟩
    | cons x rs ih =>
      intro ws hw
      simp only [mapO] at hw
      split at hw
      · rename_i y hy
        split at hw
        · rename_i ys hys
          cases hw
          obtain ⟨vs, h1, h2⟩ := ih ys hys
          cases x with
          | tmp t =>
            simp only [resW] at hy
            split at hy
            · rename_i u hu
              cases hy
              have hv := h.tmp t
              rw [show s.fs.T t = .val y from hu] at hv
              refine ⟨a.tmps.getD t undef :: vs, ⟨hv, h1⟩, ?_⟩
              rw [List.mapM_cons]
              simp only [Sem.run_bind, Sem.run_pure, Result.andThen_ok, h2]
            · cases hy
          | cell b t =>
            simp only [resW] at hy
            split at hy
            · rename_i ti hti
              split at hy
              · rename_i out hout
                split at hy
                · rename_i u hu
                  cases hy
                  obtain ⟨bb, off, u', v, e1, e2, e3, e4⟩ := load_run (P := P) (get := s.get) (n := 0) (env.tab t ti hti) h.kok h.mr (h.tmp b) hout
                  simp only [AM.pure1, Option.some.injEq] at e4
                  rw [← e4] at hu
                  cases hu
                  refine ⟨v :: vs, ⟨e3, h1⟩, ?_⟩
                  have ha : (do loadVar t (← asAddr (a.tmps.getD b undef)) : Go.Sem Value).run P w = .ok v w := by
                    rw [e1, Sem.run_bind]
                    simp only [asAddr, Sem.run_pure, Result.andThen_ok, e2]
                  rw [List.mapM_cons, Sem.run_bind]
                  dsimp only
                  rw [ha]
                  simp only [Result.andThen_ok, Sem.run_bind, h2, Sem.run_pure]
                · cases hy
              · cases hy
            · cases hy
        · cases hw
      · cases hw
  obtain ⟨vs, h1, h2⟩ := key _ _ hw
  rw [← hres] at h2
  refine ⟨if h : vs.toArray.size = 1 then vs.toArray[0] else .tuple vs.toArray, ?_, ?_⟩
  · unfold results
    rw [Array.mapM_eq_mapM_toList, Sem.run_bind, Sem.run_map]
    erw [h2]
    rfl
  · unfold OutR
    cases ws with
    | nil => cases vs with
      | nil => exact ⟨#[], rfl, trivial⟩
      | cons _ _ => exact h1.elim
    | cons x r => cases vs with
      | nil => exact h1.elim
      | cons v vs => cases r with
        | nil => cases vs with
          | nil => exact h1.1
          | cons _ _ => exact h1.2.elim
        | cons y r => cases vs with
          | nil => exact h1.2.elim
          | cons v' vs => exact ⟨(v :: v' :: vs).toArray, by simp, by simpa using h1⟩

/-- What a function is asked for. -/
structure FnIs (P : Program) (f : Nat) (Γ : Env) (c : Code) : Prop where
  loops : LoopsOK Γ c
  is : ∃ fn, P.funcs[f]? = some fn ∧ fn.body = some c ∧ fn.results.toList = Γ.res ∧ fn.ntmps = Γ.nt ∧ (fn.name == "runtime.NumGoroutine") = false

theorem FnIs.ok {f : Nat} {c : Code} (h : FnIs P f Γ c) : FnOK P f := by
  obtain ⟨fn, h1, h2, _, _, h3⟩ := h.is
  exact ⟨fn, h1, by rw [h2]; rfl, h3⟩

theorem callK_ok {R : Type} (env : EnvOK P Γ) {f : Nat} {c : Code} (hf : FnIs P f Γ c) {g : List W × List (Option Blk) → Option R} {args : List W} {ins : List Blk} {r : R} (h : callK Γ c g args ins = some r)
    {β0 : Bt} {K0 : Ks} {w0 : World} {vs : Array Value} (hk : KOK K0 w0) (hm : MR β0 K0 (getL ins) w0) (hfr : ∀ k, ins.length ≤ k → β0 k = none) (hv : All2 (WR β0 K0) args vs.toList) :
    Calls P f vs w0 fun e w' => ∃ v β K rs outs, e = .returned v ∧ g (rs, outs) = some r ∧ Ret ins outs rs β0 K0 w0 v w' β K := by
  obtain ⟨fn, hfn, hbody, hres, hnt, _⟩ := hf.is
  unfold callK at h
  split at h
  case h_2 => cases h
  rename_i hle
  have hle : args.length ≤ Γ.nt := by simpa using hle
  have hlen : args.length = vs.size := by simpa using hv.length
  refine calls_of_wp hfn hbody ?_
  rw [hnt]
  let z : Start := ⟨β0, K0, w0, ins.length, Own β0 (getL ins)⟩
  have h0 : SR P Γ z (initS args ins) { tmps := vs ++ Array.replicate (Γ.nt - vs.size) undef, defers := [] } w0 := by
    refine ⟨rfl, β0, K0, ⟨fun t => ?_, by simp; omega, rfl, hk, ?_, hfr, KLe.refl _, fun b arr e => .inl e, Fr.refl _ _, ?_, fun k y _ e => e, Nat.le_refl _⟩⟩
    · have h1 := (initT_look (i := 0) hv t).1
      rw [Nat.zero_add] at h1
      have h2 : (vs ++ Array.replicate (Γ.nt - vs.size) undef).getD t undef = vs.toList.getD t undef := by
        simp only [Array.getD_eq_getD_getElem?, List.getD_eq_getElem?_getD, Array.getElem?_toList]
        rw [Array.getElem?_append]
        split
        · rfl
        · rename_i hlt
          rw [Array.getElem?_replicate, Array.getElem?_eq_none (xs := vs) (by omega)]
          split <;> rfl
      show VR β0 K0 ((initS args ins).tmpV t) ((vs ++ Array.replicate (Γ.nt - vs.size) undef).getD t undef)
      rw [h2]
      exact h1
    · show MR β0 K0 (initS args ins).get w0
      rw [initM_get]; exact hm
    · intro x hx
      left
      have : (initS args ins).fs.G = getL ins := initM_get args ins
      rw [this] at hx
      exact hx
  refine wp_mono (EBk_ok env c hf.loops _ _ r h _ _ h0) fun e a w he => ?_
  have main : ∀ s, SR P Γ z s a w → (match fin Γ s with | some r => g r | none => none) = some r → a.defers = [] ∧ ∃ v, (results fn a.tmps).run P w = .ok v w ∧ ∃ v' β K rs outs, Ending.returned v = .returned v' ∧ g (rs, outs) = some r ∧ Ret ins outs rs β0 K0 w0 v' w β K := by
    intro s hs hg
    split at hg
    case h_2 => cases hg
    rename_i ro hfin
    obtain ⟨rs, outs⟩ := ro
    obtain ⟨hm', β, K, hs⟩ := hs
    unfold fin at hfin
    split at hfin
    · cases hfin
    · rename_i ws hws
      obtain ⟨v, hr1, hr2⟩ := res_ok env hres hs hws
      dsimp only at hfin
      generalize hksd : reach s.get reachFuel (upto s.m ++ ws.flatMap keysW) (upto 0) = ks at hfin
      have hnd : (upFrom ks s.m).Nodup := by
        rw [upFrom_eq, ← hksd]
        exact List.Pairwise.filter _ (reach_nodup _ _ _ _ (by simp [upto]))
      have hge : ∀ k ∈ upFrom ks s.m, s.m ≤ k := by
        intro k hk
        rw [upFrom_eq, List.mem_filter] at hk
        simpa using hk.2
      generalize upFrom ks s.m = rest at hfin hnd hge
      split at hfin
      · rename_i ws' outs' h1 h2
        cases hfin
        have hlo : outs.length = s.m + rest.length := by rw [mapO_length h2, List.length_append, upto_length]
        have hsrc : ∀ k' b', getO outs k' = some b' → ∃ k b, newKey rest s.m k = some k' ∧ s.get k = some b ∧ renB (newKey rest s.m) b = some b' := by
          intro k' b' e
          unfold getO at e
          cases hq : outs[k']? with
          | none => rw [hq] at e; cases e
          | some x =>
            rw [hq] at e
            have hx : x = some b' := e
            subst hx
            obtain ⟨k, hk, hr⟩ := (All2.ofMap h2).get?' hq
            have hnk : newKey rest s.m k = some k' := by
              rw [List.getElem?_append, upto_length] at hk
              unfold newKey
              split at hk
              · rename_i hlt
                rw [upto_get, if_pos hlt] at hk
                have hkk : k' = k := Option.some.inj hk
                rw [← hkk, show Nat.blt k' s.m = true by simpa [Nat.blt_eq] using hlt]
              · rename_i hlt
                have h3 := hge k (List.mem_of_getElem? hk)
                rw [show Nat.blt k s.m = false from Bool.eq_false_iff.2 fun e => by rw [Nat.blt_eq] at e; omega]
                dsimp only
                rw [indexN_of hnd hk]
                congr 1
                omega
            cases hg0 : s.get k with
            | none => rw [hg0] at hr; simp [renOB] at hr
            | some b0 =>
              rw [hg0] at hr
              simp only [renOB, Option.map_eq_some_iff, Option.some.injEq] at hr
              obtain ⟨b1, h4, h5⟩ := hr
              exact ⟨k, b0, hnk, hg0, by rw [h4, h5]⟩
        refine ⟨hs.defers, v, hr1, v, renBt β rest s.m, K, rs, outs, rfl, hg, ⟨hs.kle, hs.kok, hs.knew, hs.mr.ren renBt_ok hsrc, fun k hk => renBt_ge (by omega), ?_, hs.fr, fun x hx => hs.own x (hx.ren hs.mr renBt_ok hsrc), ?_, ?_⟩⟩
        · have h3 : VR (renBt β rest s.m) K (outV rs) v := outV_map h1 hr2 fun c c' u _ hcc hu => renW_ok renBt_ok hcc hu
          exact h3
        · intro k y e
          have hkm : k < ins.length := by
            rcases Nat.lt_or_ge k ins.length with h3 | h3
            · exact h3
            · rw [hfr k h3] at e; cases e
          have hzm : s.m = ins.length := hm'
          rw [renBt_lt (by omega)]
          exact hs.ble k y hkm e
        · have hzm : s.m = ins.length := hm'
          omega
      · cases hfin
  cases e with
  | normal => obtain ⟨s, hs, hg⟩ := he; exact main s hs hg
  | ret => obtain ⟨s, hs, hg⟩ := he; exact main s hs hg
  | exit i => obtain ⟨s, hs, hg⟩ := he; cases hg
  | _ => exact he.elim

/-- The meaning of a function, from its evaluation. -/
theorem mean_ok (env : EnvOK P Γ) {f : Nat} {c : Code} (hf : FnIs P f Γ c) {sm : Mean} (h : ∀ args ins rs outs, sm.run args ins = some (true, rs, outs) → callK Γ c some args ins = some (rs, outs)) : MeanOK P f sm := by
  intro args ins rs outs hrun β0 K0 w0 vs hk hm hfr hv
  have hc := h args ins rs outs hrun
  refine (callK_ok env hf hc hk hm hfr hv).mono ?_
  rintro e w' ⟨v, β, K, rs', outs', rfl, hg, hR⟩
  cases hg
  exact ⟨v, β, K, rfl, hR⟩

end

end Go.Proofs.Ytmmdjajebmihhaa.AM
