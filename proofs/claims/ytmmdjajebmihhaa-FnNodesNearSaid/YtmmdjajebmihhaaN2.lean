/- The abstract machine: code and calls where answers are open. Conditions: those that each lemma names. -/
import Derived.Test.YtmmdjajebmihhaaN1
namespace Go.Proofs.Ytmmdjajebmihhaa.AM
open Go
set_option linter.unusedVariables false

/-- Some ends of a loop: by return?, behind it, at the return. -/
structure SFam where
  ι : Type
  inh : Nonempty ι
  out : ι → Bool × St × St

structure NLoop where
  m : LoopM
  run : St → Option (Bool × SFam)

structure NEnv where
  fam : Nat → Option Fam
  loops : Nat → Option NLoop

def outK {R : Type} (L : LoopM) (K : Ex → St → Option R) (p : Bool × St × St) : Option R := match p.1 with
  | true => K .ret p.2.2
  | false => K (.exit L.ex) p.2.1

noncomputable def runN {R : Type} (L : NLoop) (K : Ex → St → Option R) (s : St) : Option R :=
  match canon L.m.live L.m.own s with
  | none => none
  | some s0 => match L.run s0 with
    | none => none
    | some (ok, fam) => match ok with
      | true => allK fun z => outK L.m K (fam.out z)
      | false => none

noncomputable def EBn {R : Type} (Γ : Env) (N : NEnv) : Code → (Ex → St → Option R) → St → Option R
  | .seq x y, K, s => EBn Γ N x (fun e s' => match e with
    | .normal => EBn Γ N y K s'
    | e => K e s') s
  | .cond c x y, K, s => match s.val c with
    | .val (.one (.bool b)) => match b with
      | true => EBn Γ N x (joinK (look Γ.cut (condT c)) K) (s.putC c true)
      | false => EBn Γ N y (joinK (look Γ.cut (condT c)) K) (s.putC c false)
    | _ => none
  | .block id x, K, s => EBn Γ N x (blockK id (look Γ.past id) K) s
  | .loop c, K, s => match N.loops (firstRegion c) with
    | some L => runN L K s
    | none => EBk Γ (.loop c) K s
  | .region id ops d, K, s => match d with
    | false => opsN Γ N.fam ops ops.toList (fun s' => K .normal s') s
    | true => EBk Γ (.region id ops true) K s
  | .skip, K, s => K .normal s
  | .label _, K, s => K .normal s
  | .exit id, K, s => K (.exit id) s
  | .ret, K, s => EBk Γ .ret K s
  | _, _, _ => none

noncomputable def loopN {R : Type} (Γ : Env) (N : NEnv) (c : Code) (L : LoopM) (K : Ex → St → Option R) : Nat → St → Option R
  | 0, _ => none
  | k + 1, s => EBn Γ N c (roundK L.live L.own L.ex L.past L.pown (loopN Γ N c L K k) K) s

/-- A loop's meaning is right. -/
def NLoopSound (Γ : Env) (N : NEnv) (c : Code) (L : NLoop) : Prop :=
  ∀ s0 fam, L.run s0 = some (true, fam) → ∀ (R : Type) (K : Ex → St → Option R) (r : R), (∀ z, outK L.m K (fam.out z) = some r) → ∃ n, loopN Γ N c L.m K n s0 = some r

def NLoopsOK (Γ : Env) (N : NEnv) (c : Code) : Prop := ∀ c' ∈ loopsOf c, ∀ L, N.loops (firstRegion c') = some L → NLoopSound Γ N c' L

def NOK (P : Program) (N : NEnv) : Prop := ∀ f fam, N.fam f = some fam → FamOK P f fam

/-- The whole of a function. -/
noncomputable def callN {R : Type} (Γ : Env) (N : NEnv) (c : Code) (f : List W × List (Option Blk) → Option R) (args : List W) (ins : List Blk) : Option R :=
  match Nat.ble args.length Γ.nt with
  | true => EBn Γ N c (fun e s => match e with
    | .exit _ => none
    | _ => match fin Γ s with
      | some r => f r
      | none => none) (initS args ins)
  | false => none

section
variable {P : Program} {Γ : Env} {z : Start}

theorem loop_okN {R : Type} {N : NEnv} {c : Code} {L : LoopM} {K : Ex → St → Option R} {r : R}
    (hc : ∀ (K : Ex → St → Option R) s r, EBn Γ N c K s = some r → ∀ a w, SR P Γ z s a w → c.wp P (Lands P Γ z K r) a w) (n : Nat) {s : St} (h : loopN Γ N c L K n s = some r) {a : Act} {w : World} (hs : SR P Γ z s a w) :
    (Code.loop c).wp P (Lands P Γ z K r) a w := by
  classical
  let J : Act → World → Nat → Prop := fun a w k => ∃ s, SR P Γ z s a w ∧ loopN Γ N c L K k s = some r
  let I : Act → World → Prop := fun a w => ∃ k, J a w k
  have hmin : ∀ a w, I a w → ∃ k, J a w k ∧ ∀ j, j < k → ¬ J a w j := fun a w ⟨k, hk⟩ => least k hk
  let μ : Act → World → Nat := fun a w => if h : I a w then (hmin a w h).choose else 0
  have hμ : ∀ a w, I a w → J a w (μ a w) ∧ ∀ j, j < μ a w → ¬ J a w j := by
    intro a w hI
    have : μ a w = (hmin a w hI).choose := dif_pos hI
    rw [this]
    exact (hmin a w hI).choose_spec
  refine wp_loop I μ ⟨n, s, hs, h⟩ fun a w hI => ?_
  obtain ⟨⟨s, hs, hk⟩, _⟩ := hμ a w hI
  cases hn : μ a w with
  | zero => rw [hn] at hk; simp [loopN] at hk
  | succ k =>
    rw [hn] at hk
    simp only [loopN] at hk
    refine wp_mono (hc _ s r hk a w hs) fun e a' w' he => ?_
    cases e with
    | normal =>
      obtain ⟨s', hs', hk'⟩ := he
      unfold roundK at hk'
      dsimp only at hk'
      split at hk'
      · rename_i s'' hc'
        have hJ : J a' w' k := ⟨s'', canon_ok hs' hc', hk'⟩
        have hI' : I a' w' := ⟨k, hJ⟩
        refine ⟨hI', ?_⟩
        have h2 := (hμ a' w' hI').2 k
        rcases Nat.lt_or_ge k (μ a' w') with h3 | h3
        · exact absurd hJ (h2 h3)
        · omega
      · cases hk'
    | exit i => exact endK_ok (ex := L.ex) (past := L.past) (pown := L.pown) (.exit i) a' w' he
    | ret => exact endK_ok (ex := L.ex) (past := L.past) (pown := L.pown) .ret a' w' he
    | _ => exact he

theorem EBn_ok {R : Type} (env : EnvOK P Γ) {N : NEnv} (hN : NOK P N) : ∀ (c : Code), LoopsOK Γ c → NLoopsOK Γ N c → ∀ (K : Ex → St → Option R) (s : St) (r : R), EBn Γ N c K s = some r → ∀ a w, SR P Γ z s a w → c.wp P (Lands P Γ z K r) a w := by
  intro c
  induction c with
  | skip => exact fun _ _ K s r h a w hs => wp_skip ⟨s, hs, h⟩
  | label l => exact fun _ _ K s r h a w hs => wp_label ⟨s, hs, h⟩
  | exit id => exact fun _ _ K s r h a w hs => wp_exit ⟨s, hs, h⟩
  | ret => exact fun hL _ K s r h a w hs => EBk_ok env .ret hL K s r h a w hs
  | seq x y ihx ihy =>
    intro hL hM K s r h a w hs
    unfold EBn at h
    refine wp_seq (wp_mono (ihx (fun c' hc' => hL c' (List.mem_append_left _ hc')) (fun c' hc' => hM c' (List.mem_append_left _ hc')) _ s r h a w hs) fun e a' w' he => ?_)
    cases e with
    | normal =>
      obtain ⟨s', hs', hk⟩ := he
      exact ihy (fun c' hc' => hL c' (List.mem_append_right _ hc')) (fun c' hc' => hM c' (List.mem_append_right _ hc')) K s' r hk a' w' hs'
    | exit i => exact he
    | ret => exact he
    | _ => exact he
  | cond c x y ihx ihy =>
    intro hL hM K s r h a w hs
    unfold EBn at h
    split at h
    · rename_i b hb
      obtain ⟨hm, β, Ks, hf⟩ := hs
      have hv := eval_ok hf.tmp c
      rw [← val_fs, hb] at hv
      have hev : a.eval c = .bool b := hv
      have hput : ∀ b', b = b' → SR P Γ z (s.putC c b') a w := by
        intro b' e
        subst e
        cases c with
        | tmp t =>
          have := put_same s t (boolV b) hb
          exact ⟨hm, β, Ks, by rw [show (s.putC (.tmp t) b).fs = (s.put t (boolV b)).fs from rfl, this]; exact hf⟩
        | _ => exact ⟨hm, β, Ks, hf⟩
      refine wp_cond hev ?_
      cases b with
      | true => exact wp_mono (ihx (fun c' hc' => hL c' (List.mem_append_left _ hc')) (fun c' hc' => hM c' (List.mem_append_left _ hc')) _ _ r h a w (hput true rfl)) joinK_ok
      | false => exact wp_mono (ihy (fun c' hc' => hL c' (List.mem_append_right _ hc')) (fun c' hc' => hM c' (List.mem_append_right _ hc')) _ _ r h a w (hput false rfl)) joinK_ok
    · cases h
  | block id x ih =>
    intro hL hM K s r h a w hs
    unfold EBn at h
    exact wp_block (wp_mono (ih hL hM _ s r h a w hs) blockK_ok)
  | loop x ih =>
    intro hL hM K s r h a w hs
    unfold EBn at h
    split at h
    · rename_i L hl
      unfold runN at h
      split at h
      · cases h
      · rename_i s0 hc0
        split at h
        · cases h
        · rename_i ok fam hrun
          split at h
          case h_2 => cases h
          obtain ⟨n, hn⟩ := hM x (List.mem_cons_self ..) L hl s0 fam hrun R K r (allK_spec h)
          exact loop_okN (L := L.m) (ih (fun c' hc' => hL c' (List.mem_cons_of_mem _ hc')) (fun c' hc' => hM c' (List.mem_cons_of_mem _ hc'))) n hn (canon_ok hs hc0)
    · exact EBk_ok env (.loop x) hL K s r h a w hs
  | region id ops d =>
    intro hL hM K s r h a w hs
    cases d with
    | false =>
      unfold EBn at h
      refine wp_region ?_
      rw [List.range_eq_range']
      have := opsN_ok env hN (ops := ops) (Q := Lands P Γ z K r) (r := r) (K := fun s' => K .normal s') (fun s' a w h1 h2 => ⟨s', h1, h2⟩) ops.toList 0 rfl (by simp) s h a w hs
      rw [Array.length_toList] at this
      exact this
    | true =>
      unfold EBn at h
      exact EBk_ok env (.region id ops true) (fun c' hc' => by cases hc') K s r h a w hs
  | _ => intro _ _ K s r h; simp [EBn] at h

theorem callN_ok {R : Type} (env : EnvOK P Γ) {N : NEnv} (hN : NOK P N) {f : Nat} {c : Code} (hf : FnIs P f Γ c) (hNL : NLoopsOK Γ N c) {g : List W × List (Option Blk) → Option R} {args : List W} {ins : List Blk} {r : R} (h : callN Γ N c g args ins = some r)
    {β0 : Bt} {K0 : Ks} {w0 : World} {vs : Array Value} (hk : KOK K0 w0) (hm : MR β0 K0 (getL ins) w0) (hfr : ∀ k, ins.length ≤ k → β0 k = none) (hv : All2 (WR β0 K0) args vs.toList) :
    Calls P f vs w0 fun e w' => ∃ v β K rs outs, e = .returned v ∧ g (rs, outs) = some r ∧ Ret ins outs rs β0 K0 w0 v w' β K := by
  obtain ⟨fn, hfn, hbody, hres, hnt, _⟩ := hf.is
  unfold callN at h
  split at h
  case h_2 => cases h
  rename_i hle
  have hle : args.length ≤ Γ.nt := by simpa using hle
  have hlen : args.length = vs.size := by simpa using hv.length
  refine calls_of_wp hfn hbody ?_
  rw [hnt]
  let z : Start := ⟨β0, K0, w0, ins.length, Own β0 (getL ins)⟩
  have h0 : SR P Γ z (initS args ins) { tmps := vs ++ Array.replicate (Γ.nt - vs.size) undef, defers := [] } w0 := by
    refine ⟨rfl, β0, K0, ⟨fun t => ?_, by simp; omega, rfl, hk, ?_, hfr, KLe.refl _, fun b arr e => .inl e, Fr.refl _ _, ?_, fun k y _ e => e, Nat.le_refl _⟩⟩
    · have h1 := (initT_look (i := 0) hv t).1
      rw [Nat.zero_add] at h1
      have h2 : (vs ++ Array.replicate (Γ.nt - vs.size) undef).getD t undef = vs.toList.getD t undef := by
        simp only [Array.getD_eq_getD_getElem?, List.getD_eq_getElem?_getD, Array.getElem?_toList]
        rw [Array.getElem?_append]
        split
        · rfl
        · rename_i hlt
          rw [Array.getElem?_replicate, Array.getElem?_eq_none (xs := vs) (by omega)]
          split <;> rfl
      show VR β0 K0 ((initS args ins).tmpV t) ((vs ++ Array.replicate (Γ.nt - vs.size) undef).getD t undef)
      rw [h2]
      exact h1
    · show MR β0 K0 (initS args ins).get w0
      rw [initM_get]; exact hm
    · intro x hx
      left
      have : (initS args ins).fs.G = getL ins := initM_get args ins
      rw [this] at hx
      exact hx
  refine wp_mono (EBn_ok env hN c hf.loops hNL _ _ r h _ _ h0) fun e a w he => ?_
  have main : ∀ s, SR P Γ z s a w → (match fin Γ s with | some r => g r | none => none) = some r → a.defers = [] ∧ ∃ v, (results fn a.tmps).run P w = .ok v w ∧ ∃ v' β K rs outs, Ending.returned v = .returned v' ∧ g (rs, outs) = some r ∧ Ret ins outs rs β0 K0 w0 v' w β K := by
    intro s hs hg
    split at hg
    case h_2 => cases hg
    rename_i ro hfin
    obtain ⟨rs, outs⟩ := ro
    obtain ⟨hm', β, K, hs⟩ := hs
    unfold fin at hfin
    split at hfin
    · cases hfin
    · rename_i ws hws
      obtain ⟨v, hr1, hr2⟩ := res_ok env hres hs hws
      dsimp only at hfin
      generalize hksd : reach s.get reachFuel (upto s.m ++ ws.flatMap keysW) (upto 0) = ks at hfin
      have hnd : (upFrom ks s.m).Nodup := by
        rw [upFrom_eq, ← hksd]
        exact List.Pairwise.filter _ (reach_nodup _ _ _ _ (by simp [upto]))
      have hge : ∀ k ∈ upFrom ks s.m, s.m ≤ k := by
        intro k hk
        rw [upFrom_eq, List.mem_filter] at hk
        simpa using hk.2
      generalize upFrom ks s.m = rest at hfin hnd hge
      split at hfin
      · rename_i ws' outs' h1 h2
        cases hfin
        have hlo : outs.length = s.m + rest.length := by rw [mapO_length h2, List.length_append, upto_length]
        have hsrc : ∀ k' b', getO outs k' = some b' → ∃ k b, newKey rest s.m k = some k' ∧ s.get k = some b ∧ renB (newKey rest s.m) b = some b' := by
          intro k' b' e
          unfold getO at e
          cases hq : outs[k']? with
          | none => rw [hq] at e; cases e
          | some x =>
            rw [hq] at e
            have hx : x = some b' := e
            subst hx
            obtain ⟨k, hk, hr⟩ := (All2.ofMap h2).get?' hq
            have hnk : newKey rest s.m k = some k' := by
              rw [List.getElem?_append, upto_length] at hk
              unfold newKey
              split at hk
              · rename_i hlt
                rw [upto_get, if_pos hlt] at hk
                have hkk : k' = k := Option.some.inj hk
                rw [← hkk, show Nat.blt k' s.m = true by simpa [Nat.blt_eq] using hlt]
              · rename_i hlt
                have h3 := hge k (List.mem_of_getElem? hk)
                rw [show Nat.blt k s.m = false from Bool.eq_false_iff.2 fun e => by rw [Nat.blt_eq] at e; omega]
                dsimp only
                rw [indexN_of hnd hk]
                congr 1
                omega
            cases hg0 : s.get k with
            | none => rw [hg0] at hr; simp [renOB] at hr
            | some b0 =>
              rw [hg0] at hr
              simp only [renOB, Option.map_eq_some_iff, Option.some.injEq] at hr
              obtain ⟨b1, h4, h5⟩ := hr
              exact ⟨k, b0, hnk, hg0, by rw [h4, h5]⟩
        refine ⟨hs.defers, v, hr1, v, renBt β rest s.m, K, rs, outs, rfl, hg, ⟨hs.kle, hs.kok, hs.knew, hs.mr.ren renBt_ok hsrc, fun k hk => renBt_ge (by omega), ?_, hs.fr, fun x hx => hs.own x (hx.ren hs.mr renBt_ok hsrc), ?_, ?_⟩⟩
        · have h3 : VR (renBt β rest s.m) K (outV rs) v := outV_map h1 hr2 fun c c' u _ hcc hu => renW_ok renBt_ok hcc hu
          exact h3
        · intro k y e
          have hkm : k < ins.length := by
            rcases Nat.lt_or_ge k ins.length with h3 | h3
            · exact h3
            · rw [hfr k h3] at e; cases e
          have hzm : s.m = ins.length := hm'
          rw [renBt_lt (by omega)]
          exact hs.ble k y hkm e
        · have hzm : s.m = ins.length := hm'
          omega
      · cases hfin
  cases e with
  | normal => obtain ⟨s, hs, hg⟩ := he; exact main s hs hg
  | ret => obtain ⟨s, hs, hg⟩ := he; exact main s hs hg
  | exit i => obtain ⟨s, hs, hg⟩ := he; cases hg
  | _ => exact he.elim
end

end Go.Proofs.Ytmmdjajebmihhaa.AM
