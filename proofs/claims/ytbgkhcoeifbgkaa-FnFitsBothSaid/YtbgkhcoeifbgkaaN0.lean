/- The abstract machine: calls whose answer is open (the text of the language leaves a part of it open): a family of meanings, one of which each call meets. Conditions: those that each lemma names. -/
import Derived.Test.YtbgkhcoeifbgkaaB9
namespace Go.Proofs.Ytbgkhcoeifbgkaa.AM
open Go
set_option linter.unusedVariables false

/-- Some meanings of a function, one of which each call of it meets. -/
structure Fam where
  ι : Type
  inh : Nonempty ι
  mean : ι → Mean
  own : Bool

/-- A function is called and ends so: its body does, or it is a function of the model's own that answers at once. -/
def DoesCall (P : Program) (f : Nat) (vs : Array Value) (w : World) (Q : Ending → World → Prop) : Prop :=
  (FnOK P f ∧ Calls P f vs w Q) ∨ ∃ v w', (callFunc f vs).run P w = .ok (.value v) w' ∧ Q (.returned v) w'

theorem DoesCall.mono {P : Program} {f : Nat} {vs : Array Value} {w : World} {Q Q' : Ending → World → Prop} (h : DoesCall P f vs w Q) (hq : ∀ e w', Q e w' → Q' e w') : DoesCall P f vs w Q' := by
  rcases h with ⟨h1, h2⟩ | ⟨v, w', h1, h2⟩
  · exact .inl ⟨h1, h2.mono hq⟩
  · exact .inr ⟨v, w', h1, hq _ _ h2⟩

structure FamOK (P : Program) (f : Nat) (fam : Fam) : Prop where
  own : ∀ z, (fam.mean z).own = fam.own
  mean : ∀ (args : List W) (ins : List Blk), (∀ z, ∃ rs outs, (fam.mean z).run args ins = some (true, rs, outs)) →
    ∀ (β0 : Bt) (K0 : Ks) (w0 : World) (vs : Array Value), KOK K0 w0 → MR β0 K0 (getL ins) w0 → (∀ k, ins.length ≤ k → β0 k = none) → All2 (WR β0 K0) args vs.toList →
    DoesCall P f vs w0 fun e w' => ∃ z rs outs v β K, (fam.mean z).run args ins = some (true, rs, outs) ∧ e = .returned v ∧ Ret ins outs rs β0 K0 w0 v w' β K

section
variable {P : Program} {Γ : Env} {β : Bt} {K : Ks} {get : Get} {n : Nat} {w : World} {ρ : Operand → V} {a : Act} {o : Oper}

theorem exec_callN (h : Pre P Γ β K get n w ρ a) {c : Call} {f : Operand} {g : Nat} {caps : List Nat} {ws : List W} (ho : o.op = .call c) (hc : c.callee = .value f) (hf : ρ f = .val (.one (.fn g caps)))
    (hw : valsW (c.args.toList.map ρ) = some ws) : ∃ vs : Array Value, (∀ r, (callFunc g vs).run P w = r → (execOp a.eval o).run P w = r) ∧ All2 (WR β K) (ws ++ caps.map fun k => .one (.ptr k 0)) vs.toList := by
  obtain ⟨cs, hfv, hcs⟩ := h.one hf
  refine ⟨(c.args.map a.eval) ++ cs.toArray, ?_, ?_⟩
  · intro r hr
    rw [← hr]
    simp [execOp, ho, resolve, hc, hfv, Deferred.ofValue, invoke]
  · rw [Array.toList_append]
    refine All2.append ?_ ?_
    · have hl : All2 (fun (x : V) (u : Value) => VR β K x u) (c.args.toList.map ρ) (c.args.map a.eval).toList := by
        rw [Array.toList_map]
        generalize c.args.toList = l
        induction l with
        | nil => trivial
        | cons x r ih => exact ⟨h.val x, ih⟩
      refine mapO_all2 hw hl fun x c u _ hx hu => ?_
      split at hx
      · cases hx; exact hu
      · cases hx
    · simp only []
      clear hf hfv
      induction caps generalizing cs with
      | nil => cases cs with
        | nil => trivial
        | cons _ _ => exact hcs.elim
      | cons k caps ih => cases cs with
        | nil => exact hcs.elim
        | cons u cs => exact ⟨hcs.1, ih cs hcs.2⟩

theorem callFunc_enter {g : Nat} {vs : Array Value} (hfn : FnOK P g) (w : World) : (callFunc g vs).run P w = .ok (.enter g vs) w := by
  obtain ⟨fn, h1, h2, h3⟩ := hfn.body
  have hb : ¬ fn.body = none := by intro e; rw [e] at h2; cases h2
  have h3' : ¬ fn.name = "runtime.NumGoroutine" := by simpa using h3
  simp [callFunc, h1, h3', hb]

theorem step_callN {g : Nat} {vs : Array Value} {post : Value → World → Prop} (hx : ∀ r, (callFunc g vs).run P w = r → (execOp a.eval o).run P w = r) (hc : DoesCall P g vs w fun e w' => ∃ v, e = .returned v ∧ post v w') : StepOK P o a w post := by
  rcases hc with ⟨h1, h2⟩ | ⟨v, w', h1, v', h2, h3⟩
  · exact StepOK.call (hx _ (callFunc_enter h1 w)) h2
  · cases h2
    exact StepOK.value (hx _ h1) h3

theorem ok_callMutN (h : Pre P Γ β K get n w ρ a) {c : Call} {f : Operand} {g : Nat} {caps : List Nat} {ws : List W} {fam : Fam} {out : fam.ι → Out} (ho : o.op = .call c) (hc : c.callee = .value f) (hf : ρ f = .val (.one (.fn g caps)))
    (hw : valsW (c.args.toList.map ρ) = some ws) (hfam : FamOK P g fam) (hl : ∀ z, callMut (fam.mean z) get n (ws ++ caps.map fun k => .one (.ptr k 0)) = some (out z)) (hok : ∀ z, (out z).ok = true) : StepOK P o a w (fun v w' => ∃ z, PostE β K get n w (out z) v w') := by
  obtain ⟨_, hmean⟩ := hfam
  obtain ⟨vs, hx, hvs⟩ := exec_callN h ho hc hf hw
  generalize (ws ++ caps.map fun k => W.one (C.ptr k 0)) = args at hl hvs
  simp only [callMut] at hl
  generalize hks : reach get reachFuel (args.flatMap keysW) [] = ks at hl
  have hnd : ks.Nodup := by rw [← hks]; exact reach_nodup _ _ _ _ (by simp)
  obtain ⟨z0⟩ := fam.inh
  obtain ⟨args', hargs⟩ : ∃ args', mapO (renW fun k => indexN ks k 0) args = some args' := by
    cases hq : mapO (renW fun k => indexN ks k 0) args with
    | none => have := hl z0; rw [hq] at this; cases this
    | some x => exact ⟨x, rfl⟩
  obtain ⟨ins, hins⟩ : ∃ ins, mapO (fun k => (get k).bind (renB fun k => indexN ks k 0)) ks = some ins := by
    cases hq : mapO (fun k => (get k).bind (renB fun k => indexN ks k 0)) ks with
    | none => have := hl z0; rw [hargs, hq] at this; cases this
    | some x => exact ⟨x, rfl⟩
  have hl : ∀ z, ∃ rs outs rs' outs', (fam.mean z).run args' ins = some (true, rs, outs) ∧ Nat.ble ks.length outs.length = true ∧ mapO (renW fun i => some (keyAt ks n i)) rs = some rs' ∧ mapO (renOB fun i => some (keyAt ks n i)) outs = some outs' ∧
      out z = ⟨true, outV rs', upds ks outs' n, n + (outs.length - ks.length)⟩ := by
    intro z
    have h1 := hl z
    rw [hargs, hins] at h1
    dsimp only at h1
    split at h1
    case h_2 => cases h1
    rename_i ok rs outs hrun
    split at h1
    case h_2 => cases h1
    rename_i rs' outs' hlen hrs' houts'
    have h2 := Option.some.inj h1
    have h3 := hok z
    rw [← h2] at h3
    dsimp only at h3
    subst h3
    exact ⟨rs, outs, rs', outs', hrun, hlen, hrs', houts', h2.symm⟩
  have hinl : ins.length = ks.length := mapO_length hins
  -- the blocks that are lent
  have hin : ∀ p b, getL ins p = some b → ∃ k b0 y, ks[p]? = some k ∧ get k = some b0 ∧ renB (fun k => indexN ks k 0) b0 = some b ∧ β k = some y ∧ BR β K b0 y w := by
    intro p b e
    obtain ⟨k, hk, hb⟩ := (All2.ofMap hins).get?' e
    cases hg : get k with
    | none => rw [hg] at hb; cases hb
    | some b0 =>
      rw [hg] at hb
      obtain ⟨y, hy, hbr⟩ := h.mr.blk k b0 hg
      exact ⟨k, b0, y, hk, hg, hb, hy, hbr⟩
  have hksome : ∀ (p k : Nat), ks[p]? = some k → ∃ b0 y, get k = some b0 ∧ β k = some y := by
    intro p k hk
    obtain ⟨b, _, hb⟩ := (All2.ofMap hins).get? hk
    cases hg : get k with
    | none => rw [hg] at hb; cases hb
    | some b0 =>
      obtain ⟨y, hy, _⟩ := h.mr.blk k b0 hg
      exact ⟨b0, y, rfl, hy⟩
  have hklt : ∀ x ∈ ks, x < n := by
    intro x hx
    obtain ⟨p, hp, he⟩ := List.mem_iff_getElem.1 hx
    obtain ⟨b0, y, _, hy⟩ := hksome p x (by rw [List.getElem?_eq_getElem hp, he])
    rcases Nat.lt_or_ge x n with h1 | h1
    · exact h1
    · rw [h.fresh x h1] at hy; cases hy
  have hσ0 : ∀ k k' y, (fun k => indexN ks k 0) k = some k' → β k = some y → (fun i => (ks[i]?).bind β) k' = some y := by
    intro k k' y e hy
    obtain ⟨p, hp, hk⟩ := indexN_spec e
    have : k' = p := by omega
    subst this
    dsimp only
    rw [hk]; exact hy
  have hM0 : MR (fun i => (ks[i]?).bind β) K (getL ins) w := by
    refine ⟨fun p b e => ?_, fun p p' b b' y y' x e e' f f' g g' => ?_, fun p b y x e f g => ?_⟩
    · obtain ⟨k, b0, y, hk, hg, hb, hy, hbr⟩ := hin p b e
      exact ⟨y, by show (ks[p]?).bind β = some y; rw [hk]; exact hy, renB_ok hσ0 hb hbr⟩
    · obtain ⟨k, b0, z, hk, hg, hb, hy, hbr⟩ := hin p b e
      obtain ⟨k', b0', z', hk', hg', hb', hy', hbr'⟩ := hin p' b' e'
      try dsimp only at f f'
      rw [hk] at f; rw [hk'] at f'
      have hkk := h.mr.sep k k' b0 b0' y y' x hg hg' f f' g g'
      subst hkk
      exact (List.getElem?_inj (List.getElem?_eq_some_iff.1 hk).1 hnd).1 (hk.trans hk'.symm)
    · obtain ⟨k, b0, z, hk, hg, hb, hy, hbr⟩ := hin p b e
      try dsimp only at f
      rw [hk] at f
      exact h.mr.ro k b0 y x hg f g
  have hargs' : All2 (WR (fun i => (ks[i]?).bind β) K) args' vs.toList := mapO_all2 hargs hvs fun c c' u _ hcc hu => renW_ok hσ0 hcc hu
  refine step_callN hx ?_
  refine (hmean args' ins (fun z => by obtain ⟨rs, outs, _, _, h1, _⟩ := hl z; exact ⟨rs, outs, h1⟩) _ K w vs h.kok hM0 (fun k hk => by rw [List.getElem?_eq_none (by omega)]; rfl) hargs').mono ?_
  rintro e w' ⟨z, rs, outs, v, β', K', hrz, rfl, hR⟩
  refine ⟨v, rfl, z, ?_⟩
  obtain ⟨rs2, outs2, rs', outs', hrun, hlen, hrs', houts', hout⟩ := hl z
  rw [hrz] at hrun
  cases hrun
  rw [hout]
  have hlen : ks.length ≤ outs.length := by simpa using hlen
  have hown : ∀ x, Own (fun i => (ks[i]?).bind β) (getL ins) x → ∃ (p k : Nat) (b0 : Blk) (y : Hd), ks[p]? = some k ∧ get k = some b0 ∧ β k = some y ∧ y.b = some x := by
    rintro x ⟨p, b, y, e, f, g⟩
    obtain ⟨k, b0, z, hk, hg, hb, hy, hbr⟩ := hin p b e
    try dsimp only at f
    rw [hk] at f
    exact ⟨p, k, b0, y, hk, hg, f, g⟩
  have hold : ∀ k b y x, get k = some b → β k = some y → y.b = some x → k ∉ ks → ¬ Own (fun i => (ks[i]?).bind β) (getL ins) x := by
    intro k b y x e f g hk ho'
    obtain ⟨p, k', b0, y', h1, h2, h3, h4⟩ := hown x ho'
    have := h.mr.sep k k' b b0 y y' x e h2 f h3 g h4
    subst this
    exact hk (List.mem_of_getElem? h1)
  have hgn := h.gnone
  have hβ'' : ∀ k, k < n → (fun k => if n ≤ k then β' (ks.length + (k - n)) else β k) k = β k := fun k hk => by dsimp only; rw [if_neg (by omega)]
  have hβn : ∀ k, n ≤ k → (fun k => if n ≤ k then β' (ks.length + (k - n)) else β k) k = β' (ks.length + (k - n)) := fun k hk => by dsimp only; rw [if_pos hk]
  generalize hβe : (fun k => if n ≤ k then β' (ks.length + (k - n)) else β k) = β'' at hβ'' hβn
  have hble : BLe β β'' := by
    intro k y e
    rw [hβ'' k]
    · exact e
    · rcases Nat.lt_or_ge k n with h1 | h1
      · exact h1
      · rw [h.fresh k h1] at e; cases e
  have hσ : ∀ k k' y, (fun i => some (keyAt ks n i)) k = some k' → β' k = some y → β'' k' = some y := by
    intro k k' y e hy
    cases e
    rcases Nat.lt_or_ge k ks.length with h1 | h1
    · have hk := List.getElem?_eq_getElem h1
      rw [keyAt_lt hk]
      obtain ⟨b0, z, h2, h3⟩ := hksome k _ hk
      have h4 := hR.ble k z (by show (ks[k]?).bind β = some z; rw [hk]; exact h3)
      rw [hy] at h4; cases h4
      rw [hβ'' _ (hklt _ (List.mem_of_getElem? hk))]
      exact h3
    · rw [keyAt_ge h1, hβn _ (by omega)]
      have : ks.length + (n + (k - ks.length) - n) = k := by omega
      rw [this]; exact hy
  -- a key behind the call
  have hcase : ∀ k b, getU (upds ks outs' n) get k = some b → (∃ (p : Nat) (b0 : Blk), ((∃ hp : ks[p]? = some k, True) ∨ (n ≤ k ∧ p = ks.length + (k - n))) ∧ getO outs p = some b0 ∧ renB (fun i => some (keyAt ks n i)) b0 = some b ∧ β'' k = β' p) ∨ (k ∉ ks ∧ k < n ∧ get k = some b) := by
    intro k b e
    have hll : ks.length ≤ outs'.length := by rw [mapO_length houts']; exact hlen
    obtain ⟨hl1, hl2⟩ := upds_look (ks := ks) (outs := outs') (n := n) (k := k) hll hklt hnd
    by_cases hk : k ∈ ks
    · obtain ⟨p, hp, he⟩ := List.mem_iff_getElem.1 hk
      have hpk : ks[p]? = some k := by rw [List.getElem?_eq_getElem hp, he]
      have h1 := hl1 p hpk
      unfold getU at e
      rw [h1] at e
      have hpo : p < outs'.length := by omega
      rw [List.getElem?_eq_getElem hpo] at e
      have hgo : getO outs' p = some b := by unfold getO; rw [List.getElem?_eq_getElem hpo]; exact e
      obtain ⟨b0, h3, h4⟩ := mapO_getO houts' hgo
      left
      refine ⟨p, b0, .inl ⟨hpk, trivial⟩, h3, h4, ?_⟩
      obtain ⟨y, hy, _⟩ := hR.mr.blk p b0 h3
      rw [hy]
      exact hσ p k y (by show some (keyAt ks n p) = some k; rw [keyAt_lt hpk]) hy
    · have h1 := hl2 hk
      unfold getU at e
      rw [h1] at e
      by_cases hkn : n ≤ k
      · rw [if_pos hkn] at e
        left
        cases hq : outs'[ks.length + (k - n)]? with
        | none => rw [hq] at e; dsimp only at e; rw [hgn k hkn] at e; cases e
        | some x =>
          rw [hq] at e
          dsimp only at e
          subst e
          have hgo : getO outs' (ks.length + (k - n)) = some b := by unfold getO; rw [hq]; rfl
          obtain ⟨b0, h3, h4⟩ := mapO_getO houts' hgo
          exact ⟨_, b0, .inr ⟨hkn, rfl⟩, h3, h4, hβn k hkn⟩
      · rw [if_neg hkn] at e
        exact .inr ⟨hk, by omega, e⟩
  have hsame : ∀ (k k' p : Nat), ((∃ hp : ks[p]? = some k, True) ∨ (n ≤ k ∧ p = ks.length + (k - n))) → ((∃ hp : ks[p]? = some k', True) ∨ (n ≤ k' ∧ p = ks.length + (k' - n))) → k = k' := by
    intro k k' p h1 h2
    rcases h1 with ⟨h1, _⟩ | ⟨h1, h3⟩ <;> rcases h2 with ⟨h2, _⟩ | ⟨h2, h4⟩
    · rw [h1] at h2; cases h2; rfl
    · have := (List.getElem?_eq_some_iff.1 h1).1; omega
    · have := (List.getElem?_eq_some_iff.1 h2).1; omega
    · omega
  refine ⟨β'', K', hble, hR.kle, hR.kok, outV_ren hσ hrs' hR.out, ?_, ?_, by dsimp only; omega, ?_, ?_, (fun b arr e => by
    rcases hR.knew b arr e with h1 | h1 | h1
    · exact .inl h1
    · obtain ⟨p, k, b0, y, _, h2, h3, h4⟩ := hown b h1
      exact .inr (.inl ⟨k, b0, y, h2, h3, h4⟩)
    · exact .inr (.inr h1)), hβ''⟩
  · refine h.mr.step hble hR.kle ?_
    intro k b e
    rcases hcase k b e with ⟨p, b0, hp, h1, h2, h3⟩ | ⟨hk, hkn, e1⟩
    · right
      obtain ⟨y, hy, hbr⟩ := hR.mr.blk p b0 h1
      refine ⟨y, by rw [h3]; exact hy, renB_ok hσ h2 hbr, fun x hx => ⟨hR.mr.ro p b0 y x h1 hy hx, fun k' b' y' e' f' g' => ?_⟩⟩
      rcases hcase k' b' e' with ⟨p', b0', hp', h1', h2', h3'⟩ | ⟨hk', hkn', e1'⟩
      · rw [h3'] at f'
        have := hR.mr.sep p' p b0' b0 y' y x h1' h1 f' hy g' hx
        subst this
        exact hsame k' k p' hp' hp
      · rw [hβ'' k' hkn'] at f'
        exfalso
        rcases hR.own x ⟨p, b0, y, h1, hy, hx⟩ with h5 | h5
        · exact hold k' b' y' x e1' f' g' hk' h5
        · have := h.mr.lt ⟨k', b', y', e1', f', g'⟩
          omega
    · refine .inl ⟨e1, fun x y f g => ?_⟩
      have hx := h.mr.lt ⟨k, b, y, e1, f, g⟩
      have hno := hold k b y x e1 f g hk
      refine ⟨hR.fr.block x hx hno, ?_⟩
      cases hq : K' x with
      | none => rfl
      | some arr =>
        rcases hR.knew x arr hq with h1 | h1 | h1
        · rw [h.mr.ro k b y x e1 f g] at h1; cases h1
        · exact absurd h1 hno
        · omega
  · intro k hk
    dsimp only at hk
    rw [hβn k (by omega)]
    exact hR.fresh _ (by omega)
  · refine ⟨hR.fr.os, hR.fr.tape, hR.fr.output, hR.fr.size, fun x hx hn => hR.fr.block x hx fun h1 => hn ?_⟩
    obtain ⟨p, k, b0, y, _, h2, h3, h4⟩ := hown x h1
    exact ⟨k, b0, y, h2, h3, h4⟩
  · rintro x ⟨k, b, y, e, f, g⟩
    rcases hcase k b e with ⟨p, b0, hp, h1, h2, h3⟩ | ⟨hk, hkn, e1⟩
    · rw [h3] at f
      rcases hR.own x ⟨p, b0, y, h1, f, g⟩ with h5 | h5
      · obtain ⟨_, k', b0', y', _, h2, h3, h4⟩ := hown x h5
        exact .inl ⟨k', b0', y', h2, h3, h4⟩
      · exact .inr h5
    · rw [hβ'' k hkn] at f
      exact .inl ⟨k, b, y, e1, f, g⟩


theorem ok_callRoN (h : Pre P Γ β K get n w ρ a) {c : Call} {f : Operand} {g : Nat} {caps : List Nat} {ws : List W} {fam : Fam} {frz : Bool} {out : fam.ι → Out} (ho : o.op = .call c) (hc : c.callee = .value f) (hf : ρ f = .val (.one (.fn g caps)))
    (hw : valsW (c.args.toList.map ρ) = some ws) (hfam : FamOK P g fam) (hl : ∀ z, callRo (fam.mean z) frz get n (ws ++ caps.map fun k => .one (.ptr k 0)) = some (out z)) (hok : ∀ z, (out z).ok = true) : StepOK P o a w (fun v w' => ∃ z, PostE β K get n w (out z) v w') := by
  obtain ⟨_, hmean⟩ := hfam
  obtain ⟨vs, hx, hvs⟩ := exec_callN h ho hc hf hw
  generalize (ws ++ caps.map fun k => W.one (C.ptr k 0)) = args at hl hvs
  simp only [callRo] at hl
  obtain ⟨z0⟩ := fam.inh
  obtain ⟨args', hargs⟩ : ∃ args', mapO (roW get) args = some args' := by
    cases hq : mapO (roW get) args with
    | none => have := hl z0; rw [hq] at this; cases this
    | some x => exact ⟨x, rfl⟩
  have hrun : ∀ z, ∃ rs outs, (fam.mean z).run args' [] = some (true, rs, outs) := by
    intro z
    have h1 := hl z
    rw [hargs] at h1
    dsimp only at h1
    split at h1
    case h_2 => cases h1
    rename_i ok rs outs hr
    have hok' : ok = true := by
      have h3 := hok z
      split at h1
      · cases h1
      · split at h1
        · split at h1
          · have h2 := Option.some.inj h1; rw [← h2] at h3; exact h3
          · cases h1
        · split at h1
          · have h2 := Option.some.inj h1; rw [← h2] at h3; exact h3
          · cases h1
    subst hok'
    exact ⟨rs, outs, hr⟩
  refine step_callN hx ?_
  have hK1 := frzK_ok (β := β) (get := get) (ks := args.flatMap keysW) h.kok
  have hargs' : All2 (WR (fun _ => none) (frzK β K get w (args.flatMap keysW))) args' vs.toList :=
    mapO_all2 hargs hvs fun c c' u hmem hcc hu => roW_free h.mr hcc hu (fun k hk => List.mem_flatMap.2 ⟨c, hmem, hk⟩) _
  have hM0 : MR (fun _ => none) (frzK β K get w (args.flatMap keysW)) (getL []) w := ⟨fun k b e => by simp [getL] at e, fun k k' b b' _ _ _ e => by simp [getL] at e, fun k b _ _ e => by simp [getL] at e⟩
  refine (hmean args' [] hrun (fun _ => none) _ w vs hK1 hM0 (fun _ _ => rfl) hargs').mono ?_
  rintro e w' ⟨z, rs, outs, v, β', K', hrz, rfl, hR⟩
  refine ⟨v, rfl, z, ?_⟩
  have hl := hl z
  generalize out z = out at hl
  rw [hargs] at hl
  dsimp only at hl
  rw [hrz] at hl
  dsimp only at hl
  have hempty : ∀ x, ¬ Own (fun _ => none) (getL []) x := by rintro x ⟨k, b, y, e, _⟩; simp [getL] at e
  have hheap : ∀ b, b < w.heap.size → w'.heap[b]? = w.heap[b]? := fun b hb => hR.fr.block b hb (hempty b)
  have hownb : ∀ x, Own β' (getO outs) x → w.heap.size ≤ x := fun x hx => (hR.own x hx).resolve_left (hempty x)
  have hgn := h.gnone
  have hfr : Fr (Own β get) w w' := ⟨hR.fr.os, hR.fr.tape, hR.fr.output, hR.fr.size, fun b hb _ => hheap b hb⟩
  -- the blocks that nobody writes, behind the call
  have main : ∀ (K2 : Ks), (∀ b arr, w.heap.size ≤ b → K2 b = some arr → ∃ T fz, w'.heap[b]? = some (.cells arr T fz)) →
      ∃ K3 : Ks, KLe K K3 ∧ KOK K3 w' ∧ (∀ x, x < w.heap.size → K3 x = K x) ∧ (∀ x, w.heap.size ≤ x → K3 x = K2 x) := by
    intro K2 h2
    refine ⟨fun b => if w.heap.size ≤ b then K2 b else K b, ?_, ?_, fun x hx => ?_, fun x hx => ?_⟩
    · intro b arr e
      have := h.kok.lt e
      dsimp only
      rw [if_neg (by omega)]; exact e
    · intro b arr e
      dsimp only at e
      split at e
      · exact h2 b arr ‹_› e
      · rename_i hb
        rw [hheap b (by omega)]
        exact h.kok b arr e
    · dsimp only; rw [if_neg (by omega)]
    · dsimp only; rw [if_pos hx]
  have noref : (args.all fun w => w.cells.all fun c => !isRef c) = true → frzK β K get w (args.flatMap keysW) = K := by
    intro hn
    have hk : args.flatMap keysW = [] := by
      rw [List.flatMap_eq_nil_iff]
      intro u hu
      have hu2 := List.all_eq_true.1 hn u hu
      obtain ⟨u', hu', hro⟩ : ∃ u', u' ∈ args' ∧ roW get u = some u' := by
        obtain ⟨i, hi, he⟩ := List.mem_iff_getElem.1 hu
        obtain ⟨u', h1, h2⟩ := (All2.ofMap hargs).get? (List.getElem?_eq_getElem hi)
        rw [he] at h2
        exact ⟨u', List.mem_of_getElem? h1, h2⟩
      unfold keysW
      rw [List.flatMap_eq_nil_iff]
      intro cc hcc
      have h3 := List.all_eq_true.1 hu2 cc hcc
      have h4 : ∃ c', roC get cc = some c' := by
        cases u with
        | one c0 =>
          simp only [W.cells, List.mem_singleton] at hcc
          subst hcc
          simp only [roW, Option.map_eq_some_iff] at hro
          exact ⟨hro.choose, hro.choose_spec.1⟩
        | agg cs =>
          simp only [roW, Option.map_eq_some_iff] at hro
          obtain ⟨cs', h5, _⟩ := hro
          obtain ⟨i, hi, he⟩ := List.mem_iff_getElem.1 (show cc ∈ cs from hcc)
          obtain ⟨c', _, h6⟩ := (All2.ofMap h5).get? (List.getElem?_eq_getElem hi)
          rw [he] at h6
          exact ⟨c', h6⟩
      obtain ⟨c', h4⟩ := h4
      cases cc with
      | ref t k => simp [isRef] at h3
      | ptr k o => simp [roC] at h4
      | eptr k t i o => simp [roC] at h4
      | fn f caps => cases caps with
        | nil => rfl
        | cons _ _ => simp [roC] at h4
      | _ => rfl
    rw [hk]
    funext b
    unfold frzK
    cases hq : K b with
    | some _ => rfl
    | none =>
      dsimp only
      rw [if_neg]
      rintro ⟨k, hk, _⟩
      simp at hk
  split at hl
  · cases hl
  · rename_i hcond
    split at hl
    · -- given away
      split at hl
      · rename_i rs' hrs'
        cases hl
        have hnr : (args.all fun w => w.cells.all fun c => !isRef c) = true := by simpa using hcond
        have hKe := noref hnr
        obtain ⟨K3, hle3, hok3, hlo, hhi⟩ := main (frzK β' K' (getO outs) w' (rs.flatMap keysW)) (fun b arr _ e => frzK_ok hR.kok b arr e)
        have hle : KLe (frzK β' K' (getO outs) w' (rs.flatMap keysW)) K3 := by
          intro b arr e
          by_cases hb : w.heap.size ≤ b
          · rw [hhi b hb]; exact e
          · rw [hlo b (by omega)]
            unfold frzK at e
            split at e
            · rename_i x hx
              cases e
              rcases hR.knew b _ hx with h1 | h1 | h1
              · rw [hKe] at h1; exact h1
              · exact absurd h1 (hempty b)
              · omega
            · split at e
              · rename_i hex
                obtain ⟨k, _, c, y, h1, h2, h3⟩ := hex
                have := hownb b ⟨k, c, y, h1, h2, h3⟩
                omega
              · cases e
        refine ⟨β, K3, BLe.refl β, hle3, hok3, ?_, ?_, h.fresh, Nat.le_refl _, hfr, fun x hx => .inl hx, (fun b arr e => by
          by_cases hb : w.heap.size ≤ b
          · exact .inr (.inr hb)
          · rw [hlo b (by omega)] at e; exact .inl e), fun _ _ => rfl⟩
        · refine outV_map hrs' hR.out fun c c' u hm hcc hu => ?_
          exact WR.mono (BLe.refl β) hle (roW_free hR.mr hcc hu (fun k hk => List.mem_flatMap.2 ⟨c, hm, hk⟩) β)
        · refine h.mr.step (BLe.refl β) hle3 fun k b e => .inl ⟨e, fun x y f g => ?_⟩
          have hx := h.mr.lt ⟨k, b, y, e, f, g⟩
          exact ⟨hheap x hx, by rw [hlo x hx]; exact h.mr.ro k b y x e f g⟩
      · cases hl
    · split at hl
      · rename_i rs' outs' hrs' houts'
        cases hl
        obtain ⟨K3, hle3, hok3, hlo, hhi⟩ := main K' (fun b arr _ e => hR.kok b arr e)
        -- what the results say of memory
        have hcase : KLe K' K3 ∨ ((∀ c ∈ rs, c.cells.all bare = true) ∧ ∀ b ∈ outs, flatB b = true) := by
          simp only [Bool.or_eq_true, Bool.and_eq_true] at hcond
          rcases hcond with hnr | ⟨⟨_, h1⟩, h2⟩
          · left
            have hKe := noref hnr
            intro b arr e
            by_cases hb : w.heap.size ≤ b
            · rw [hhi b hb]; exact e
            · rw [hlo b (by omega)]
              rcases hR.knew b arr e with h1 | h1 | h1
              · rw [hKe] at h1; exact h1
              · exact absurd h1 (hempty b)
              · omega
          · exact .inr ⟨List.all_eq_true.1 h1, List.all_eq_true.1 h2⟩
        have hout : OutR β' K3 rs v := outV_mono hR.out fun c hc u hu => by
          rcases hcase with hle | ⟨h1, _⟩
          · exact WR.mono (BLe.refl _) hle hu
          · exact bare_WR (h1 c hc) hu
        have hblk : ∀ i b y, getO outs i = some b → BR β' K' b y w' → BR β' K3 b y w' := by
          intro i b y hi hb
          rcases hcase with hle | ⟨_, h2⟩
          · exact hb.mono (BLe.refl _) hle
          · refine flat_BR (h2 _ ?_) hb
            unfold getO at hi
            cases hq : outs[i]? with
            | none => rw [hq] at hi; cases hi
            | some x => rw [hq] at hi; have hx : x = some b := hi; subst hx; exact List.mem_of_getElem? hq
        have hσ : ∀ k k' y, (fun i => some (n + i)) k = some k' → β' k = some y → addBs β n β' k' = some y := by
          intro k k' y e hy
          cases e
          unfold addBs
          rw [if_pos (by omega), Nat.add_sub_cancel_left]
          exact hy
        have hble : BLe β (addBs β n β') := by
          intro k y e
          unfold addBs
          rw [if_neg]
          · exact e
          · intro hk
            rw [h.fresh k hk] at e
            cases e
        refine ⟨addBs β n β', K3, hble, hle3, hok3, outV_ren hσ hrs' hout, ?_, ?_, by simp, hfr, ?_, (fun b arr e => by
          by_cases hb : w.heap.size ≤ b
          · exact .inr (.inr hb)
          · rw [hlo b (by omega)] at e; exact .inl e), fun k hk => by unfold addBs; rw [if_neg (by omega)]⟩
        · refine h.mr.step hble hle3 ?_
          intro k b e
          rcases getU_upds e hgn with ⟨hk, e1⟩ | ⟨hk, e1⟩
          · right
            obtain ⟨b0, e2, e3⟩ := mapO_getO houts' e1
            obtain ⟨y, hy, hbr⟩ := hR.mr.blk _ _ e2
            refine ⟨y, by unfold addBs; rw [if_pos hk]; exact hy, renB_ok hσ e3 (hblk _ _ _ e2 hbr), fun x hx => ?_⟩
            have hxs := hownb x ⟨_, b0, y, e2, hy, hx⟩
            refine ⟨by rw [hhi x hxs]; exact hR.mr.ro _ _ _ _ e2 hy hx, fun k' b' y' e' f' g' => ?_⟩
            rcases getU_upds e' hgn with ⟨hk', e1'⟩ | ⟨hk', e1'⟩
            · obtain ⟨b0', e2', _⟩ := mapO_getO houts' e1'
              unfold addBs at f'
              rw [if_pos hk'] at f'
              have := hR.mr.sep _ _ _ _ _ _ x e2' e2 f' hy g' hx
              omega
            · unfold addBs at f'
              rw [if_neg (by omega)] at f'
              have := h.mr.lt ⟨k', b', y', e1', f', g'⟩
              omega
          · refine .inl ⟨e1, fun x y f g => ?_⟩
            have hx := h.mr.lt ⟨k, b, y, e1, f, g⟩
            exact ⟨hheap x hx, by rw [hlo x hx]; exact h.mr.ro k b y x e1 f g⟩
        · intro k hk
          dsimp only at hk
          unfold addBs
          rw [if_pos (by omega)]
          exact hR.fresh _ (by omega)
        · rintro x ⟨k, b, y, e, f, g⟩
          rcases getU_upds e hgn with ⟨hk, e1⟩ | ⟨hk, e1⟩
          · right
            obtain ⟨b0, e2, e3⟩ := mapO_getO houts' e1
            unfold addBs at f
            rw [if_pos hk] at f
            exact hownb x ⟨_, b0, y, e2, f, g⟩
          · left
            unfold addBs at f
            rw [if_neg (by omega)] at f
            exact ⟨k, b, y, e1, f, g⟩
      · cases hl
end

end Go.Proofs.Ytbgkhcoeifbgkaa.AM
