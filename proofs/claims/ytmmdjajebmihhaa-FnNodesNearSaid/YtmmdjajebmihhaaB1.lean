/- The abstract machine: a call that is handed something to write does what its function's meaning says; and all operations together. Conditions: those that each lemma names. -/
import Derived.Test.YtmmdjajebmihhaaB0
namespace Go.Proofs.Ytmmdjajebmihhaa.AM
open Go
set_option linter.unusedVariables false

theorem reach_nodup (get : Get) : ∀ (f : Nat) (todo acc : List Nat), acc.Nodup → (reach get f todo acc).Nodup
  | 0, _, acc, h => by simpa [reach] using h
  | f + 1, [], acc, h => by simpa [reach] using h
  | f + 1, k :: todo, acc, h => by
    unfold reach
    split
    · exact reach_nodup get f todo acc h
    · rename_i hk
      have hn : (acc ++ [k]).Nodup := by
        rw [List.nodup_append]
        refine ⟨h, by simp, ?_⟩
        intro a ha b hb
        simp only [List.mem_singleton] at hb
        subst hb
        intro e
        subst e
        exact hasN_false hk ha
      split
      · exact reach_nodup get f _ _ hn
      · exact reach_nodup get f _ _ hn

theorem indexN_spec : ∀ {ks : List Nat} {k i j : Nat}, indexN ks k i = some j → ∃ p, j = i + p ∧ ks[p]? = some k
  | [], _, _, _, h => by simp [indexN] at h
  | x :: r, k, i, j, h => by
    unfold indexN at h
    split at h
    · rename_i hx
      have := nbeq_eq hx
      cases h
      exact ⟨0, rfl, by simp [this]⟩
    · obtain ⟨p, h1, h2⟩ := indexN_spec h
      exact ⟨p + 1, by omega, by simpa using h2⟩

theorem keyAt_lt : ∀ {ks : List Nat} {n p k : Nat}, ks[p]? = some k → keyAt ks n p = k
  | [], _, _, _, h => by simp at h
  | x :: r, n, 0, k, h => by simpa [keyAt] using h
  | x :: r, n, p + 1, k, h => by simp only [keyAt]; exact keyAt_lt (by simpa using h)

theorem keyAt_ge : ∀ {ks : List Nat} {n p : Nat}, ks.length ≤ p → keyAt ks n p = n + (p - ks.length)
  | [], n, p, _ => by simp [keyAt]
  | x :: r, n, 0, h => by simp at h
  | x :: r, n, p + 1, h => by
    simp only [keyAt]
    rw [keyAt_ge (by simpa using h)]
    simp

theorem upds_look : ∀ {ks : List Nat} {outs : List (Option Blk)} {n k : Nat}, ks.length ≤ outs.length → (∀ x ∈ ks, x < n) → ks.Nodup →
    (∀ (p : Nat), ks[p]? = some k → look (upds ks outs n) k = outs[p]?) ∧ (k ∉ ks → look (upds ks outs n) k = if n ≤ k then outs[ks.length + (k - n)]? else none)
  | [], outs, n, k, _, _, _ => by
    refine ⟨fun p h => by simp at h, fun _ => ?_⟩
    rw [upds_nil]
    simp
  | x :: r, [], n, k, h, _, _ => by simp at h
  | x :: r, b :: outs, n, k, h, hlt, hnd => by
    obtain ⟨ih1, ih2⟩ := upds_look (ks := r) (outs := outs) (n := n) (k := k) (by simpa using h) (fun y hy => hlt y (List.mem_cons_of_mem _ hy)) (List.nodup_cons.1 hnd).2
    have hx := hlt x (List.mem_cons_self ..)
    refine ⟨fun p hp => ?_, fun hk => ?_⟩
    · cases p with
      | zero =>
        simp only [List.getElem?_cons_zero, Option.some.injEq] at hp
        subst hp
        simp [upds, look]
      | succ p =>
        simp only [List.getElem?_cons_succ] at hp
        have hne : x ≠ k := fun e => by
          subst e
          exact (List.nodup_cons.1 hnd).1 (List.mem_of_getElem? hp)
        simp only [upds, look, nbeq_ne hne, List.getElem?_cons_succ]
        exact ih1 p hp
    · have hne : x ≠ k := fun e => hk (by subst e; exact List.mem_cons_self ..)
      simp only [upds, look, nbeq_ne hne]
      rw [ih2 fun hm => hk (List.mem_cons_of_mem _ hm)]
      split
      · have : (x :: r).length + (k - n) = (r.length + (k - n)) + 1 := by simp; omega
        rw [this]; simp
      · rfl

section
variable {P : Program} {Γ : Env} {β : Bt} {K : Ks} {get : Get} {n : Nat} {w : World} {ρ : Operand → V} {a : Act} {o : Oper}

theorem ok_callMut (h : Pre P Γ β K get n w ρ a) {c : Call} {f : Operand} {g : Nat} {caps : List Nat} {ws : List W} {sm : Mean} {out : Out} (ho : o.op = .call c) (hc : c.callee = .value f) (hf : ρ f = .val (.one (.fn g caps)))
    (hw : valsW (c.args.toList.map ρ) = some ws) (hsm : Γ.sem g = some sm) (hl : callMut sm get n (ws ++ caps.map fun k => .one (.ptr k 0)) = some out) (hok : out.ok = true) : StepOK P o a w (PostE β K get n w out) := by
  obtain ⟨hmean, hfn⟩ := h.env.sem g sm hsm
  obtain ⟨vs, hx, hvs⟩ := exec_call h ho hc hf hw hfn
  generalize (ws ++ caps.map fun k => W.one (C.ptr k 0)) = args at hl hvs
  simp only [callMut] at hl
  generalize hks : reach get reachFuel (args.flatMap keysW) [] = ks at hl
  have hnd : ks.Nodup := by rw [← hks]; exact reach_nodup _ _ _ _ (by simp)
  split at hl
  case h_2 => cases hl
  rename_i args' ins hargs hins
  split at hl
  case h_2 => cases hl
  rename_i ok rs outs hrun
  split at hl
  case h_2 => cases hl
  rename_i rs' outs' hlen hrs' houts'
  cases hl
  dsimp only at hok
  subst hok
  have hlen : ks.length ≤ outs.length := by simpa using hlen
  have hinl : ins.length = ks.length := mapO_length hins
  -- the blocks that are lent
  have hin : ∀ p b, getL ins p = some b → ∃ k b0 y, ks[p]? = some k ∧ get k = some b0 ∧ renB (fun k => indexN ks k 0) b0 = some b ∧ β k = some y ∧ BR β K b0 y w := by
    intro p b e
    obtain ⟨k, hk, hb⟩ := (All2.ofMap hins).get?' e
    cases hg : get k with
    | none => rw [hg] at hb; cases hb
    | some b0 =>
      rw [hg] at hb
      obtain ⟨y, hy, hbr⟩ := h.mr.blk k b0 hg
      exact ⟨k, b0, y, hk, hg, hb, hy, hbr⟩
  have hksome : ∀ (p k : Nat), ks[p]? = some k → ∃ b0 y, get k = some b0 ∧ β k = some y := by
    intro p k hk
    obtain ⟨b, _, hb⟩ := (All2.ofMap hins).get? hk
    cases hg : get k with
    | none => rw [hg] at hb; cases hb
    | some b0 =>
      obtain ⟨y, hy, _⟩ := h.mr.blk k b0 hg
      exact ⟨b0, y, rfl, hy⟩
  have hklt : ∀ x ∈ ks, x < n := by
    intro x hx
    obtain ⟨p, hp, he⟩ := List.mem_iff_getElem.1 hx
    obtain ⟨b0, y, _, hy⟩ := hksome p x (by rw [List.getElem?_eq_getElem hp, he])
    rcases Nat.lt_or_ge x n with h1 | h1
    · exact h1
    · rw [h.fresh x h1] at hy; cases hy
  have hσ0 : ∀ k k' y, (fun k => indexN ks k 0) k = some k' → β k = some y → (fun i => (ks[i]?).bind β) k' = some y := by
    intro k k' y e hy
    obtain ⟨p, hp, hk⟩ := indexN_spec e
    have : k' = p := by omega
    subst this
    dsimp only
    rw [hk]; exact hy
  have hM0 : MR (fun i => (ks[i]?).bind β) K (getL ins) w := by
    refine ⟨fun p b e => ?_, fun p p' b b' y y' x e e' f f' g g' => ?_, fun p b y x e f g => ?_⟩
    · obtain ⟨k, b0, y, hk, hg, hb, hy, hbr⟩ := hin p b e
      exact ⟨y, by show (ks[p]?).bind β = some y; rw [hk]; exact hy, renB_ok hσ0 hb hbr⟩
    · obtain ⟨k, b0, z, hk, hg, hb, hy, hbr⟩ := hin p b e
      obtain ⟨k', b0', z', hk', hg', hb', hy', hbr'⟩ := hin p' b' e'
      try dsimp only at f f'
      rw [hk] at f; rw [hk'] at f'
      have hkk := h.mr.sep k k' b0 b0' y y' x hg hg' f f' g g'
      subst hkk
      exact (List.getElem?_inj (List.getElem?_eq_some_iff.1 hk).1 hnd).1 (hk.trans hk'.symm)
    · obtain ⟨k, b0, z, hk, hg, hb, hy, hbr⟩ := hin p b e
      try dsimp only at f
      rw [hk] at f
      exact h.mr.ro k b0 y x hg f g
  have hargs' : All2 (WR (fun i => (ks[i]?).bind β) K) args' vs.toList := mapO_all2 hargs hvs fun c c' u _ hcc hu => renW_ok hσ0 hcc hu
  refine StepOK.call hx ?_
  refine (hmean args' ins rs outs hrun _ K w vs h.kok hM0 (fun k hk => by rw [List.getElem?_eq_none (by omega)]; rfl) hargs').mono ?_
  rintro e w' ⟨v, β', K', rfl, hR⟩
  refine ⟨v, rfl, ?_⟩
  have hown : ∀ x, Own (fun i => (ks[i]?).bind β) (getL ins) x → ∃ (p k : Nat) (b0 : Blk) (y : Hd), ks[p]? = some k ∧ get k = some b0 ∧ β k = some y ∧ y.b = some x := by
    rintro x ⟨p, b, y, e, f, g⟩
    obtain ⟨k, b0, z, hk, hg, hb, hy, hbr⟩ := hin p b e
    try dsimp only at f
    rw [hk] at f
    exact ⟨p, k, b0, y, hk, hg, f, g⟩
  have hold : ∀ k b y x, get k = some b → β k = some y → y.b = some x → k ∉ ks → ¬ Own (fun i => (ks[i]?).bind β) (getL ins) x := by
    intro k b y x e f g hk ho'
    obtain ⟨p, k', b0, y', h1, h2, h3, h4⟩ := hown x ho'
    have := h.mr.sep k k' b b0 y y' x e h2 f h3 g h4
    subst this
    exact hk (List.mem_of_getElem? h1)
  have hgn := h.gnone
  have hβ'' : ∀ k, k < n → (fun k => if n ≤ k then β' (ks.length + (k - n)) else β k) k = β k := fun k hk => by dsimp only; rw [if_neg (by omega)]
  have hβn : ∀ k, n ≤ k → (fun k => if n ≤ k then β' (ks.length + (k - n)) else β k) k = β' (ks.length + (k - n)) := fun k hk => by dsimp only; rw [if_pos hk]
  generalize hβe : (fun k => if n ≤ k then β' (ks.length + (k - n)) else β k) = β'' at hβ'' hβn
  have hble : BLe β β'' := by
    intro k y e
    rw [hβ'' k]
    · exact e
    · rcases Nat.lt_or_ge k n with h1 | h1
      · exact h1
      · rw [h.fresh k h1] at e; cases e
  have hσ : ∀ k k' y, (fun i => some (keyAt ks n i)) k = some k' → β' k = some y → β'' k' = some y := by
    intro k k' y e hy
    cases e
    rcases Nat.lt_or_ge k ks.length with h1 | h1
    · have hk := List.getElem?_eq_getElem h1
      rw [keyAt_lt hk]
      obtain ⟨b0, z, h2, h3⟩ := hksome k _ hk
      have h4 := hR.ble k z (by show (ks[k]?).bind β = some z; rw [hk]; exact h3)
      rw [hy] at h4; cases h4
      rw [hβ'' _ (hklt _ (List.mem_of_getElem? hk))]
      exact h3
    · rw [keyAt_ge h1, hβn _ (by omega)]
      have : ks.length + (n + (k - ks.length) - n) = k := by omega
      rw [this]; exact hy
  -- a key behind the call
  have hcase : ∀ k b, getU (upds ks outs' n) get k = some b → (∃ (p : Nat) (b0 : Blk), ((∃ hp : ks[p]? = some k, True) ∨ (n ≤ k ∧ p = ks.length + (k - n))) ∧ getO outs p = some b0 ∧ renB (fun i => some (keyAt ks n i)) b0 = some b ∧ β'' k = β' p) ∨ (k ∉ ks ∧ k < n ∧ get k = some b) := by
    intro k b e
    have hll : ks.length ≤ outs'.length := by rw [mapO_length houts']; exact hlen
    obtain ⟨hl1, hl2⟩ := upds_look (ks := ks) (outs := outs') (n := n) (k := k) hll hklt hnd
    by_cases hk : k ∈ ks
    · obtain ⟨p, hp, he⟩ := List.mem_iff_getElem.1 hk
      have hpk : ks[p]? = some k := by rw [List.getElem?_eq_getElem hp, he]
      have h1 := hl1 p hpk
      unfold getU at e
      rw [h1] at e
      have hpo : p < outs'.length := by omega
      rw [List.getElem?_eq_getElem hpo] at e
      have hgo : getO outs' p = some b := by unfold getO; rw [List.getElem?_eq_getElem hpo]; exact e
      obtain ⟨b0, h3, h4⟩ := mapO_getO houts' hgo
      left
      refine ⟨p, b0, .inl ⟨hpk, trivial⟩, h3, h4, ?_⟩
      obtain ⟨y, hy, _⟩ := hR.mr.blk p b0 h3
      rw [hy]
      exact hσ p k y (by show some (keyAt ks n p) = some k; rw [keyAt_lt hpk]) hy
    · have h1 := hl2 hk
      unfold getU at e
      rw [h1] at e
      by_cases hkn : n ≤ k
      · rw [if_pos hkn] at e
        left
        cases hq : outs'[ks.length + (k - n)]? with
        | none => rw [hq] at e; dsimp only at e; rw [hgn k hkn] at e; cases e
        | some x =>
          rw [hq] at e
          dsimp only at e
          subst e
          have hgo : getO outs' (ks.length + (k - n)) = some b := by unfold getO; rw [hq]; rfl
          obtain ⟨b0, h3, h4⟩ := mapO_getO houts' hgo
          exact ⟨_, b0, .inr ⟨hkn, rfl⟩, h3, h4, hβn k hkn⟩
      · rw [if_neg hkn] at e
        exact .inr ⟨hk, by omega, e⟩
  have hsame : ∀ (k k' p : Nat), ((∃ hp : ks[p]? = some k, True) ∨ (n ≤ k ∧ p = ks.length + (k - n))) → ((∃ hp : ks[p]? = some k', True) ∨ (n ≤ k' ∧ p = ks.length + (k' - n))) → k = k' := by
    intro k k' p h1 h2
    rcases h1 with ⟨h1, _⟩ | ⟨h1, h3⟩ <;> rcases h2 with ⟨h2, _⟩ | ⟨h2, h4⟩
    · rw [h1] at h2; cases h2; rfl
    · have := (List.getElem?_eq_some_iff.1 h1).1; omega
    · have := (List.getElem?_eq_some_iff.1 h2).1; omega
    · omega
  refine ⟨β'', K', hble, hR.kle, hR.kok, outV_ren hσ hrs' hR.out, ?_, ?_, by dsimp only; omega, ?_, ?_, (fun b arr e => by
    rcases hR.knew b arr e with h1 | h1 | h1
    · exact .inl h1
    · obtain ⟨p, k, b0, y, _, h2, h3, h4⟩ := hown b h1
      exact .inr (.inl ⟨k, b0, y, h2, h3, h4⟩)
    · exact .inr (.inr h1)), hβ''⟩
  · refine h.mr.step hble hR.kle ?_
    intro k b e
    rcases hcase k b e with ⟨p, b0, hp, h1, h2, h3⟩ | ⟨hk, hkn, e1⟩
    · right
      obtain ⟨y, hy, hbr⟩ := hR.mr.blk p b0 h1
      refine ⟨y, by rw [h3]; exact hy, renB_ok hσ h2 hbr, fun x hx => ⟨hR.mr.ro p b0 y x h1 hy hx, fun k' b' y' e' f' g' => ?_⟩⟩
      rcases hcase k' b' e' with ⟨p', b0', hp', h1', h2', h3'⟩ | ⟨hk', hkn', e1'⟩
      · rw [h3'] at f'
        have := hR.mr.sep p' p b0' b0 y' y x h1' h1 f' hy g' hx
        subst this
        exact hsame k' k p' hp' hp
      · rw [hβ'' k' hkn'] at f'
        exfalso
        rcases hR.own x ⟨p, b0, y, h1, hy, hx⟩ with h5 | h5
        · exact hold k' b' y' x e1' f' g' hk' h5
        · have := h.mr.lt ⟨k', b', y', e1', f', g'⟩
          omega
    · refine .inl ⟨e1, fun x y f g => ?_⟩
      have hx := h.mr.lt ⟨k, b, y, e1, f, g⟩
      have hno := hold k b y x e1 f g hk
      refine ⟨hR.fr.block x hx hno, ?_⟩
      cases hq : K' x with
      | none => rfl
      | some arr =>
        rcases hR.knew x arr hq with h1 | h1 | h1
        · rw [h.mr.ro k b y x e1 f g] at h1; cases h1
        · exact absurd h1 hno
        · omega
  · intro k hk
    dsimp only at hk
    rw [hβn k (by omega)]
    exact hR.fresh _ (by omega)
  · refine ⟨hR.fr.os, hR.fr.tape, hR.fr.output, hR.fr.size, fun x hx hn => hR.fr.block x hx fun h1 => hn ?_⟩
    obtain ⟨p, k, b0, y, _, h2, h3, h4⟩ := hown x h1
    exact ⟨k, b0, y, h2, h3, h4⟩
  · rintro x ⟨k, b, y, e, f, g⟩
    rcases hcase k b e with ⟨p, b0, hp, h1, h2, h3⟩ | ⟨hk, hkn, e1⟩
    · rw [h3] at f
      rcases hR.own x ⟨p, b0, y, h1, f, g⟩ with h5 | h5
      · obtain ⟨_, k', b0', y', _, h2, h3, h4⟩ := hown x h5
        exact .inl ⟨k', b0', y', h2, h3, h4⟩
      · exact .inr h5
    · rw [hβ'' k hkn] at f
      exact .inl ⟨k, b, y, e1, f, g⟩

end

end Go.Proofs.Ytmmdjajebmihhaa.AM
