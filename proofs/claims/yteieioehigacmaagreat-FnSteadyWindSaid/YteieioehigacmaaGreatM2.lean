/- Texts of one proof, joined: an abstract machine for the program, its functions evaluated, plain lemmas. Conditions: those that each lemma names. -/
import Derived.Test.YteieioehigacmaaGreatM1
import Derived.WideShapes
import Derived.ChangeShapes
import Derived.ChangeArms
import Derived.Below
import Derived.IntWalk
set_option linter.unusedVariables false
set_option linter.unusedSimpArgs false
namespace Go.Proofs.YteieioehigacmaaGreat.AM
open Go
theorem reach_nodup (get : Get) : ∀ (f : Nat) (todo acc : List Nat), acc.Nodup -> (reach get f todo acc).Nodup
 | 0, _, acc, h => by simpa [reach] using h
 | f + 1, [], acc, h => by simpa [reach] using h
 | f + 1, k :: todo, acc, h => by
   unfold reach
   split
   ·exact reach_nodup get f todo acc h
   ·rename_i hk
    have hn : (acc ++ [k]).Nodup := by
     rw [List.nodup_append]
     refine ⟨h, by simp, ?_⟩
     intro a ha b hb
     simp only [List.mem_singleton] at hb
     subst hb
     intro e
     subst e
     exact hasN_false hk ha
    split
    ·exact reach_nodup get f _ _ hn
    ·exact reach_nodup get f _ _ hn
theorem indexN_spec : ∀ {ks : List Nat} {k i j : Nat}, indexN ks k i = some j -> ∃ p, j = i + p /\ ks[p]? = some k
 | [], _, _, _, h => by simp [indexN] at h
 | x :: r, k, i, j, h => by
   unfold indexN at h
   split at h
   ·rename_i hx
    have := nbeq_eq hx
    cases h
    exact ⟨0, rfl, by simp [this]⟩
   ·obtain ⟨p, h1, h2⟩ := indexN_spec h
    exact ⟨p + 1, by omega, by simpa using h2⟩
theorem keyAt_lt : ∀ {ks : List Nat} {n p k : Nat}, ks[p]? = some k -> keyAt ks n p = k
 | [], _, _, _, h => by simp at h
 | x :: r, n, 0, k, h => by simpa [keyAt] using h
 | x :: r, n, p + 1, k, h => by simp only [keyAt]; exact keyAt_lt (by simpa using h)
theorem keyAt_ge : ∀ {ks : List Nat} {n p : Nat}, ks.length <= p -> keyAt ks n p = n + (p - ks.length)
 | [], n, p, _ => by simp [keyAt]
 | x :: r, n, 0, h => by simp at h
 | x :: r, n, p + 1, h => by
   simp only [keyAt]
   rw [keyAt_ge (by simpa using h)]
   simp
theorem upds_look : ∀ {ks : List Nat} {outs : List (Option Blk)} {n k : Nat}, ks.length <= outs.length -> (∀ x ∈ ks, x < n) -> ks.Nodup ->
 (∀ (p : Nat), ks[p]? = some k -> look (upds ks outs n) k = outs[p]?) /\ (k ∉ ks -> look (upds ks outs n) k = if n <= k then outs[ks.length + (k - n)]? else none)
 | [], outs, n, k, _, _, _ => by
   refine ⟨fun p h => by simp at h, fun _ => ?_⟩
   rw [upds_nil]
   simp
 | x :: r, [], n, k, h, _, _ => by simp at h
 | x :: r, b :: outs, n, k, h, hlt, hnd => by
   obtain ⟨ih1, ih2⟩ := upds_look (ks := r) (outs := outs) (n := n) (k := k) (by simpa using h) (fun y hy => hlt y (List.mem_cons_of_mem _ hy)) (List.nodup_cons.1 hnd).2
   have hx := hlt x (List.mem_cons_self ..)
   refine ⟨fun p hp => ?_, fun hk => ?_⟩
   ·cases p with
    | zero =>
      simp only [List.getElem?_cons_zero, Option.some.injEq] at hp
      subst hp
      simp [upds, look]
    | succ p =>
      simp only [List.getElem?_cons_succ] at hp
      have hne : x ≠ k := fun e => by
       subst e
       exact (List.nodup_cons.1 hnd).1 (List.mem_of_getElem? hp)
      simp only [upds, look, nbeq_ne hne, List.getElem?_cons_succ]
      exact ih1 p hp
   ·have hne : x ≠ k := fun e => hk (by subst e; exact List.mem_cons_self ..)
    simp only [upds, look, nbeq_ne hne]
    rw [ih2 fun hm => hk (List.mem_cons_of_mem _ hm)]
    split
    ·have : (x :: r).length + (k - n) = (r.length + (k - n)) + 1 := by simp; omega
     rw [this]; simp
    ·rfl
section
variable {P : Program} {Γ : Env} {β : Bt} {K : Ks} {get : Get} {n : Nat} {w : World} {ρ : Operand -> V} {a : Act} {o : Oper}
theorem ok_callMut (h : Pre P Γ β K get n w ρ a) {c : Call} {f : Operand} {g : Nat} {caps : List Nat} {ws : List W} {sm : Mean} {out : Out} (ho : o.op = .call c) (hc : c.callee = .value f) (hf : ρ f = .val (.one (.fn g caps)))
 (hw : valsW (c.args.toList.map ρ) = some ws) (hsm : Γ.sem g = some sm) (hl : callMut sm get n (ws ++ caps.map fun k => .one (.ptr k 0)) = some out) (hok : out.ok = true) : StepOK P o a w (PostE β K get n w out) := by
 obtain ⟨hmean, hfn⟩ := h.env.sem g sm hsm
 obtain ⟨vs, hx, hvs⟩ := exec_call h ho hc hf hw hfn
 generalize (ws ++ caps.map fun k => W.one (C.ptr k 0)) = args at hl hvs
 simp only [callMut] at hl
 generalize hks : reach get reachFuel (args.flatMap keysW) [] = ks at hl
 have hnd : ks.Nodup := by rw [<- hks]; exact reach_nodup _ _ _ _ (by simp)
 split at hl
 case h_2 => cases hl
 rename_i args' ins hargs hins
 split at hl
 case h_2 => cases hl
 rename_i ok rs outs hrun
 split at hl
 case h_2 => cases hl
 rename_i rs' outs' hlen hrs' houts'
 cases hl
 dsimp only at hok
 subst hok
 have hlen : ks.length <= outs.length := by simpa using hlen
 have hinl : ins.length = ks.length := mapO_length hins
 have hin : ∀ p b, getL ins p = some b -> ∃ k b0 y, ks[p]? = some k /\ get k = some b0 /\ renB (fun k => indexN ks k 0) b0 = some b /\ β k = some y /\ BR β K b0 y w := by
  intro p b e
  obtain ⟨k, hk, hb⟩ := (All2.ofMap hins).get?' e
  cases hg : get k with
  | none => rw [hg] at hb; cases hb
  | some b0 =>
    rw [hg] at hb
    obtain ⟨y, hy, hbr⟩ := h.mr.blk k b0 hg
    exact ⟨k, b0, y, hk, hg, hb, hy, hbr⟩
 have hksome : ∀ (p k : Nat), ks[p]? = some k -> ∃ b0 y, get k = some b0 /\ β k = some y := by
  intro p k hk
  obtain ⟨b, _, hb⟩ := (All2.ofMap hins).get? hk
  cases hg : get k with
  | none => rw [hg] at hb; cases hb
  | some b0 =>
    obtain ⟨y, hy, _⟩ := h.mr.blk k b0 hg
    exact ⟨b0, y, rfl, hy⟩
 have hklt : ∀ x ∈ ks, x < n := by
  intro x hx
  obtain ⟨p, hp, he⟩ := List.mem_iff_getElem.1 hx
  obtain ⟨b0, y, _, hy⟩ := hksome p x (by rw [List.getElem?_eq_getElem hp, he])
  rcases Nat.lt_or_ge x n with h1 | h1
  ·exact h1
  ·rw [h.fresh x h1] at hy; cases hy
 have hσ0 : ∀ k k' y, (fun k => indexN ks k 0) k = some k' -> β k = some y -> (fun i => (ks[i]?).bind β) k' = some y := by
  intro k k' y e hy
  obtain ⟨p, hp, hk⟩ := indexN_spec e
  have : k' = p := by omega
  subst this
  dsimp only
  rw [hk]; exact hy
 have hM0 : MR (fun i => (ks[i]?).bind β) K (getL ins) w := by
  refine ⟨fun p b e => ?_, fun p p' b b' y y' x e e' f f' g g' => ?_, fun p b y x e f g => ?_⟩
  ·obtain ⟨k, b0, y, hk, hg, hb, hy, hbr⟩ := hin p b e
   exact ⟨y, by show (ks[p]?).bind β = some y; rw [hk]; exact hy, renB_ok hσ0 hb hbr⟩
  ·obtain ⟨k, b0, z, hk, hg, hb, hy, hbr⟩ := hin p b e
   obtain ⟨k', b0', z', hk', hg', hb', hy', hbr'⟩ := hin p' b' e'
   try dsimp only at f f'
   rw [hk] at f; rw [hk'] at f'
   have hkk := h.mr.sep k k' b0 b0' y y' x hg hg' f f' g g'
   subst hkk
   exact (List.getElem?_inj (List.getElem?_eq_some_iff.1 hk).1 hnd).1 (hk.trans hk'.symm)
  ·obtain ⟨k, b0, z, hk, hg, hb, hy, hbr⟩ := hin p b e
   try dsimp only at f
   rw [hk] at f
   exact h.mr.ro k b0 y x hg f g
 have hargs' : All2 (WR (fun i => (ks[i]?).bind β) K) args' vs.toList := mapO_all2 hargs hvs fun c c' u _ hcc hu => renW_ok hσ0 hcc hu
 refine StepOK.call hx ?_
 refine (hmean args' ins rs outs hrun _ K w vs h.kok hM0 (fun k hk => by rw [List.getElem?_eq_none (by omega)]; rfl) hargs').mono ?_
 rintro e w' ⟨v, β', K', rfl, hR⟩
 refine ⟨v, rfl, ?_⟩
 have hown : ∀ x, Own (fun i => (ks[i]?).bind β) (getL ins) x -> ∃ (p k : Nat) (b0 : Blk) (y : Hd), ks[p]? = some k /\ get k = some b0 /\ β k = some y /\ y.b = some x := by
  rintro x ⟨p, b, y, e, f, g⟩
  obtain ⟨k, b0, z, hk, hg, hb, hy, hbr⟩ := hin p b e
  try dsimp only at f
  rw [hk] at f
  exact ⟨p, k, b0, y, hk, hg, f, g⟩
 have hold : ∀ k b y x, get k = some b -> β k = some y -> y.b = some x -> k ∉ ks -> ¬ Own (fun i => (ks[i]?).bind β) (getL ins) x := by
  intro k b y x e f g hk ho'
  obtain ⟨p, k', b0, y', h1, h2, h3, h4⟩ := hown x ho'
  have := h.mr.sep k k' b b0 y y' x e h2 f h3 g h4
  subst this
  exact hk (List.mem_of_getElem? h1)
 have hgn := h.gnone
 have hβ'' : ∀ k, k < n -> (fun k => if n <= k then β' (ks.length + (k - n)) else β k) k = β k := fun k hk => by dsimp only; rw [if_neg (by omega)]
 have hβn : ∀ k, n <= k -> (fun k => if n <= k then β' (ks.length + (k - n)) else β k) k = β' (ks.length + (k - n)) := fun k hk => by dsimp only; rw [if_pos hk]
 generalize hβe : (fun k => if n <= k then β' (ks.length + (k - n)) else β k) = β'' at hβ'' hβn
 have hble : BLe β β'' := by
  intro k y e
  rw [hβ'' k]
  ·exact e
  ·rcases Nat.lt_or_ge k n with h1 | h1
   ·exact h1
   ·rw [h.fresh k h1] at e; cases e
 have hσ : ∀ k k' y, (fun i => some (keyAt ks n i)) k = some k' -> β' k = some y -> β'' k' = some y := by
  intro k k' y e hy
  cases e
  rcases Nat.lt_or_ge k ks.length with h1 | h1
  ·have hk := List.getElem?_eq_getElem h1
   rw [keyAt_lt hk]
   obtain ⟨b0, z, h2, h3⟩ := hksome k _ hk
   have h4 := hR.ble k z (by show (ks[k]?).bind β = some z; rw [hk]; exact h3)
   rw [hy] at h4; cases h4
   rw [hβ'' _ (hklt _ (List.mem_of_getElem? hk))]
   exact h3
  ·rw [keyAt_ge h1, hβn _ (by omega)]
   have : ks.length + (n + (k - ks.length) - n) = k := by omega
   rw [this]; exact hy
 have hcase : ∀ k b, getU (upds ks outs' n) get k = some b -> (∃ (p : Nat) (b0 : Blk), ((∃ hp : ks[p]? = some k, True) ∨ (n <= k /\ p = ks.length + (k - n))) /\ getO outs p = some b0 /\ renB (fun i => some (keyAt ks n i)) b0 = some b /\ β'' k = β' p) ∨ (k ∉ ks /\ k < n /\ get k = some b) := by
  intro k b e
  have hll : ks.length <= outs'.length := by rw [mapO_length houts']; exact hlen
  obtain ⟨hl1, hl2⟩ := upds_look (ks := ks) (outs := outs') (n := n) (k := k) hll hklt hnd
  by_cases hk : k ∈ ks
  ·obtain ⟨p, hp, he⟩ := List.mem_iff_getElem.1 hk
   have hpk : ks[p]? = some k := by rw [List.getElem?_eq_getElem hp, he]
   have h1 := hl1 p hpk
   unfold getU at e
   rw [h1] at e
   have hpo : p < outs'.length := by omega
   rw [List.getElem?_eq_getElem hpo] at e
   have hgo : getO outs' p = some b := by unfold getO; rw [List.getElem?_eq_getElem hpo]; exact e
   obtain ⟨b0, h3, h4⟩ := mapO_getO houts' hgo
   left
   refine ⟨p, b0, .inl ⟨hpk, trivial⟩, h3, h4, ?_⟩
   obtain ⟨y, hy, _⟩ := hR.mr.blk p b0 h3
   rw [hy]
   exact hσ p k y (by show some (keyAt ks n p) = some k; rw [keyAt_lt hpk]) hy
  ·have h1 := hl2 hk
   unfold getU at e
   rw [h1] at e
   by_cases hkn : n <= k
   ·rw [if_pos hkn] at e
    left
    cases hq : outs'[ks.length + (k - n)]? with
    | none => rw [hq] at e; dsimp only at e; rw [hgn k hkn] at e; cases e
    | some x =>
      rw [hq] at e
      dsimp only at e
      subst e
      have hgo : getO outs' (ks.length + (k - n)) = some b := by unfold getO; rw [hq]; rfl
      obtain ⟨b0, h3, h4⟩ := mapO_getO houts' hgo
      exact ⟨_, b0, .inr ⟨hkn, rfl⟩, h3, h4, hβn k hkn⟩
   ·rw [if_neg hkn] at e
    exact .inr ⟨hk, by omega, e⟩
 have hsame : ∀ (k k' p : Nat), ((∃ hp : ks[p]? = some k, True) ∨ (n <= k /\ p = ks.length + (k - n))) -> ((∃ hp : ks[p]? = some k', True) ∨ (n <= k' /\ p = ks.length + (k' - n))) -> k = k' := by
  intro k k' p h1 h2
  rcases h1 with ⟨h1, _⟩ | ⟨h1, h3⟩ <;> rcases h2 with ⟨h2, _⟩ | ⟨h2, h4⟩
  ·rw [h1] at h2; cases h2; rfl
  ·have := (List.getElem?_eq_some_iff.1 h1).1; omega
  ·have := (List.getElem?_eq_some_iff.1 h2).1; omega
  ·omega
 refine ⟨β'', K', hble, hR.kle, hR.kok, outV_ren hσ hrs' hR.out, ?_, ?_, by dsimp only; omega, ?_, ?_, (fun b arr e => by
  rcases hR.knew b arr e with h1 | h1 | h1
  ·exact .inl h1
  ·obtain ⟨p, k, b0, y, _, h2, h3, h4⟩ := hown b h1
   exact .inr (.inl ⟨k, b0, y, h2, h3, h4⟩)
  ·exact .inr (.inr h1)), hβ''⟩
 ·refine h.mr.step hble hR.kle ?_
  intro k b e
  rcases hcase k b e with ⟨p, b0, hp, h1, h2, h3⟩ | ⟨hk, hkn, e1⟩
  ·right
   obtain ⟨y, hy, hbr⟩ := hR.mr.blk p b0 h1
   refine ⟨y, by rw [h3]; exact hy, renB_ok hσ h2 hbr, fun x hx => ⟨hR.mr.ro p b0 y x h1 hy hx, fun k' b' y' e' f' g' => ?_⟩⟩
   rcases hcase k' b' e' with ⟨p', b0', hp', h1', h2', h3'⟩ | ⟨hk', hkn', e1'⟩
   ·rw [h3'] at f'
    have := hR.mr.sep p' p b0' b0 y' y x h1' h1 f' hy g' hx
    subst this
    exact hsame k' k p' hp' hp
   ·rw [hβ'' k' hkn'] at f'
    exfalso
    rcases hR.own x ⟨p, b0, y, h1, hy, hx⟩ with h5 | h5
    ·exact hold k' b' y' x e1' f' g' hk' h5
    ·have := h.mr.lt ⟨k', b', y', e1', f', g'⟩
     omega
  ·refine .inl ⟨e1, fun x y f g => ?_⟩
   have hx := h.mr.lt ⟨k, b, y, e1, f, g⟩
   have hno := hold k b y x e1 f g hk
   have hnj : ¬ Jk K x := h.mr.nj e1 f g
   refine ⟨hR.fr.block x hx fun h1 => h1.elim hno hnj, ?_⟩
   cases hq : K' x with
   | none => rfl
   | some arr =>
     rcases hR.knew x arr hq with h1 | h1 | h1
     ·rw [h.mr.ro k b y x e1 f g] at h1; cases h1
     ·exact absurd h1 hno
     ·omega
 ·intro k hk
  dsimp only at hk
  rw [hβn k (by omega)]
  exact hR.fresh _ (by omega)
 ·refine ⟨hR.fr.os, hR.fr.tape, hR.fr.output, hR.fr.size, fun x hx hn => hR.fr.block x hx fun h1 => hn (h1.elim (fun h1 => .inl ?_) .inr)⟩
  obtain ⟨p, k, b0, y, _, h2, h3, h4⟩ := hown x h1
  exact ⟨k, b0, y, h2, h3, h4⟩
 ·rintro x ⟨k, b, y, e, f, g⟩
  rcases hcase k b e with ⟨p, b0, hp, h1, h2, h3⟩ | ⟨hk, hkn, e1⟩
  ·rw [h3] at f
   rcases hR.own x ⟨p, b0, y, h1, f, g⟩ with h5 | h5
   ·obtain ⟨_, k', b0', y', _, h2, h3, h4⟩ := hown x h5
    exact .inl ⟨k', b0', y', h2, h3, h4⟩
   ·exact .inr h5
  ·rw [hβ'' k hkn] at f
   exact .inl ⟨k, b, y, e1, f, g⟩
end
section
variable {P : Program} {Γ : Env} {β : Bt} {K : Ks} {get : Get} {n : Nat} {w : World} {ρ : Operand -> V} {a : Act} {o : Oper}
theorem args1 {c : Call} {v : V} (h : c.args.toList.map ρ = [v]) : ∃ x, c.args.toList = [x] /\ ρ x = v := by
 cases hq : c.args.toList with
 | nil => rw [hq] at h; simp at h
 | cons x r => cases r with
   | nil => rw [hq] at h; exact ⟨x, rfl, by simpa using h⟩
   | cons _ _ => rw [hq] at h; simp at h
theorem args2 {c : Call} {v u : V} (h : c.args.toList.map ρ = [v, u]) : ∃ x y, c.args.toList = [x, y] /\ ρ x = v /\ ρ y = u := by
 cases hq : c.args.toList with
 | nil => rw [hq] at h; simp at h
 | cons x r => cases r with
   | nil => rw [hq] at h; simp at h
   | cons y r => cases r with
     | nil => rw [hq] at h; exact ⟨x, y, rfl, by simpa using h⟩
     | cons _ _ => rw [hq] at h; simp at h
theorem ok_builtin (h : Pre P Γ β K get n w ρ a) {c : Call} {b : Builtin} {out : Out} (ho : o.op = .call c) (hc : c.callee = .builtin b)
 (hl : actBuiltin Γ get n b c.argTypes.toList (c.args.toList.map ρ) = some out) (hok : out.ok = true) : StepOK P o a w (PostE β K get n w out) := by
 unfold actBuiltin at hl
 split at hl
 ·rename_i cc hargs
  obtain ⟨x, h1, h2⟩ := args1 hargs
  split at hl
  ·rename_i t hts
   split at hl
   ·rename_i ti ht
    exact ok_len h ho hc hts h1 ht h2 hl
   ·cases hl
  ·cases hl
 ·rename_i s x hargs
  obtain ⟨xs, xx, h1, h2, h3⟩ := args2 hargs
  split at hl
  ·rename_i st xt hts
   split at hl
   ·rename_i hbe
    have := nbeq_eq hbe
    subst this
    split at hl
    ·rename_i si ht
     split at hl
     ·rename_i hsort
      split at hl
      ·rename_i ei he
       split at hl
       ·rename_i hchk
        simp only [Bool.and_eq_true] at hchk
        have hts' : c.argTypes = #[st, st] := by cases hq : c.argTypes; simp_all
        have hargs' : c.args = #[xs, xx] := by cases hq : c.args; simp_all
        exact ok_append h ho hc hts' hargs' ht hsort he (nbeq_eq hchk.1) (by simpa [Nat.blt_eq] using hchk.2) h2 h3 hl hok
       ·cases hl
      ·cases hl
     ·cases hl
    ·cases hl
   ·cases hl
  ·cases hl
 ·rename_i hargs
  obtain ⟨x, h1, h2⟩ := args1 hargs
  exact ok_real h ho h1 h2 (.inl ⟨hc, hl⟩)
 ·rename_i hargs
  obtain ⟨x, h1, h2⟩ := args1 hargs
  exact ok_real h ho h1 h2 (.inr ⟨hc, hl⟩)
 ·rename_i k p k' q hargs
  obtain ⟨x, y, h1, h2, h3⟩ := args2 hargs
  split at hl
  ·rename_i hk
   have : k = k' := by simpa [fkindEq] using hk
   subst this
   exact ok_complex h ho h1 h2 h3 hc hl
  ·cases hl
 ·rename_i k p k' q hargs
  obtain ⟨x, y, h1, h2, h3⟩ := args2 hargs
  split at hl
  ·rename_i hk
   have : k = k' := by simpa [kindEq] using hk
   subst this
   exact ok_minmax h ho h1 h2 h3 (.inl ⟨hc, hl⟩)
  ·cases hl
 ·rename_i k p k' q hargs
  obtain ⟨x, y, h1, h2, h3⟩ := args2 hargs
  split at hl
  ·rename_i hk
   have : k = k' := by simpa [kindEq] using hk
   subst this
   exact ok_minmax h ho h1 h2 h3 (.inr ⟨hc, hl⟩)
  ·cases hl
 ·rename_i k p k' q hargs
  obtain ⟨x, y, h1, h2, h3⟩ := args2 hargs
  split at hl
  ·rename_i hk
   have : k = k' := by simpa [fkindEq] using hk
   subst this
   exact ok_fminmax h ho h1 h2 h3 (.inl ⟨hc, hl⟩)
  ·cases hl
 ·rename_i k p k' q hargs
  obtain ⟨x, y, h1, h2, h3⟩ := args2 hargs
  split at hl
  ·rename_i hk
   have : k = k' := by simpa [fkindEq] using hk
   subst this
   exact ok_fminmax h ho h1 h2 h3 (.inr ⟨hc, hl⟩)
  ·cases hl
 ·cases hl
theorem isBoolC_some {c : C} {b : Bool} (h : isBoolC c = some b) : c = .bool b := by
 cases c <;> simp [isBoolC] at h
 subst h; rfl
set_option maxHeartbeats 2000000 in
theorem act_ok (h : Pre P Γ β K get n w ρ a) {out : Out} (hl : act Γ o ρ get n = some out) (hok : out.ok = true) : StepOK P o a w (PostE β K get n w out) := by
 unfold act at hl
 split at hl
 ·rename_i x ho
  cases hl
  exact ok_move h (.inl ho)
 ·rename_i x ho
  cases hl
  exact ok_move h (.inr ho)
 ·rename_i c x y ho
  split at hl
  ·rename_i t hc
   cases hl
   exact ok_pick h ho hc
  ·cases hl
 ·rename_i t ho
  split at hl
  ·rename_i ti ht
   cases hl
   exact ok_alloc h ho ht
  ·cases hl
 ·rename_i t x ho
  split at hl
  ·rename_i u hu
   split at hl
   ·rename_i hs
    cases hl
    exact ok_box h ho hu hs
   ·cases hl
  ·cases hl
 ·rename_i t parts ho
  split at hl
  ·rename_i ti ht
   split at hl
   ·rename_i hs
    split at hl
    ·rename_i ps hp
     split at hl
     ·rename_i cs hsure hf
      exact ok_build h ho ht hs hp hsure hf hl
     ·cases hl
    ·cases hl
   ·rename_i m hs
    split at hl
    ·rename_i ei hp he
     exact ok_buildArr h ho ht hs he hp hl
    ·cases hl
   ·cases hl
  ·cases hl
 ·rename_i t len parts ho
  split at hl
  ·rename_i ti ht
   split at hl
   ·rename_i hs
    split at hl
    ·rename_i ei he
     split at hl
     ·rename_i ps hp
      split at hl
      ·rename_i hchk
       simp only [Bool.and_eq_true] at hchk
       obtain ⟨⟨⟨h1, h2⟩, h3⟩, h4⟩ := hchk
       split at hl
       ·rename_i l hlit
        cases hl
        exact ok_buildSlice h ho ht hs he hp h4 (by simpa using h1) (nbeq_eq h2) (by simpa [Nat.blt_eq] using h3) hlit
       ·cases hl
      ·cases hl
     ·cases hl
    ·cases hl
   ·cases hl
  ·cases hl
 ·rename_i t x ho
  split at hl
  ·rename_i ti ht
   exact ok_load h ho ht hl
  ·cases hl
 ·rename_i t x y ho
  split at hl
  ·rename_i ti u ht hu
   exact ok_store h ho ht hu hl
  ·cases hl
 ·rename_i x ho
  split at hl
  ·rename_i hx; cases hl; exact ok_nilCheck h ho hx (.inl ⟨_, _, rfl⟩)
  ·rename_i hx; cases hl; exact ok_nilCheck h ho hx (.inr (.inl ⟨_, _, _, _, rfl⟩))
  ·rename_i hx; cases hl; exact ok_nilCheck h ho hx (.inr (.inr (.inl ⟨_, _, _, _, rfl⟩)))
  ·rename_i hx; cases hl; exact ok_nilCheck h ho hx (.inr (.inr (.inr ⟨_, _, rfl⟩)))
  ·cases hl
 ·rename_i op t x y t' ho
  split at hl
  ·rename_i c d hx hy
   split at hl
   ·rename_i p q hp hq
    split at hl
    ·rename_i ti ht
     split at hl
     ·rename_i e hs hb
      rw [isBoolC_some hp] at hx
      rw [isBoolC_some hq] at hy
      exact ok_binB h ho hx hy ht hs hb hl
     ·cases hl
    ·cases hl
   ·split at hl
    ·rename_i ok e hb
     exact ok_binOp h ho hx hy hb hl hok
    ·cases hl
  ·rename_i cs ds hx hy
   split at hl
   ·rename_i e ht hb
    exact ok_binA h ho hx hy ht hb hl
   ·cases hl
  ·cases hl
 ·rename_i op t x ho
  split at hl
  ·rename_i c hx
   split at hl
   ·rename_i c' hc
    exact ok_unOp h ho hx hc hl
   ·cases hl
  ·cases hl
 ·rename_i src dst x ho
  split at hl
  ·rename_i si di c hs hd hx
   split at hl
   ·rename_i ok c' hc
    exact ok_convert h ho hs hd hx hc hl hok
   ·split at hl
    ·rename_i s hc
     exact ok_convS h ho hs hd hx hc hl
    ·cases hl
  ·cases hl
 ·rename_i t xl xc ho
  split at hl
  ·rename_i ti kl l kc c ht hxl hxc
   split at hl
   ·rename_i hs
    split at hl
    ·rename_i ei he
     split at hl
     ·rename_i hchk
      simp only [Bool.and_eq_true] at hchk
      obtain ⟨⟨h1, h2⟩, h3⟩ := hchk
      cases hl
      simp only [Bool.and_eq_true, decide_eq_true_eq, beq_iff_eq] at hok
      have := ok_makeSlice h ho ht hs he (by simpa using h1) (nbeq_eq h2) (by simpa [Nat.blt_eq] using h3) hxl hxc hok.1.1 (by have := capOk_le hok.1.2; have h0 := hok.1.1; rwa [Int.toNat_of_nonneg h0] at this) hok.2
      intro next Q hn
      refine this next Q fun v w' hp => hn v w' ?_
      obtain ⟨β', K', hp⟩ := hp
      exact ⟨β', K', hp.ble, hp.kle, hp.kok, hp.vr, hp.mr, hp.fresh, hp.le, hp.fr, hp.own, hp.knew, hp.dom⟩
     ·cases hl
    ·cases hl
   ·cases hl
  ·cases hl
 ·rename_i t x lo hi mx ho
  split at hl
  ·rename_i ti ht
   split at hl
   ·rename_i s hs hx
    split at hl
    ·rename_i l r h1 h2
     exact ok_sliceStr h ho ht hs hx h1 h2 hl hok
    ·cases hl
   ·rename_i ty s hs hx
    split at hl
    ·rename_i ei he
     split at hl
     ·rename_i hsz
      split at hl
      ·rename_i l r h1 h2
       exact ok_sliceSl h ho ht hs he (nbeq_eq hsz) hx h1 h2 hl hok
      ·cases hl
     ·cases hl
    ·cases hl
   ·rename_i ty k hs hx
    split at hl
    ·rename_i ei he
     exact ok_sliceRef h ho ht hs he hx hl hok
    ·cases hl
   ·rename_i m hs
    split at hl
    ·split at hl
     ·rename_i ei he
      exact ok_slArr h ho ht hs he hl
     ·cases hl
    ·cases hl
   ·cases hl
  ·cases hl
 ·rename_i t x f ho
  split at hl
  ·rename_i ti ht
   split at hl
   ·rename_i hs
    split at hl
    ·rename_i off size ag hf
     split at hl
     ·cases hl
     ·rename_i h0
      exact ok_fieldAddr h ho ht hs hf (fun e => by subst e; simp at h0) hl
    ·cases hl
   ·cases hl
  ·cases hl
 ·rename_i t x f ho
  split at hl
  ·rename_i ti ht
   split at hl
   ·rename_i hs
    split at hl
    ·rename_i off size ag hf
     split at hl
     ·rename_i cs hx
      split at hl
      ·rename_i u hu
       exact ok_field h ho ht hs hf hx hu hl
      ·cases hl
     ·cases hl
    ·cases hl
   ·cases hl
  ·cases hl
 ·rename_i t x i ho
  split at hl
  ·rename_i ti ht
   split at hl
   ·rename_i hs
    split at hl
    ·rename_i ei he
     exact ok_indexAddr h ho ht hs he hl hok
    ·cases hl
   ·rename_i m hs
    split at hl
    ·rename_i ei he
     exact ok_idxArr h ho ht hs he hl hok
    ·cases hl
   ·cases hl
  ·cases hl
 ·rename_i t x i ho
  split at hl
  ·rename_i ti ht
   split at hl
   ·rename_i hs
    split at hl
    ·rename_i s k j hx hj
     exact ok_index h ho ht hs hx hj hl hok
    ·cases hl
   ·cases hl
  ·cases hl
 ·rename_i fn first caps ho
  split at hl
  ·rename_i f hf
   split at hl
   ·rename_i ks hk
    exact ok_makeFunc h ho rfl hf hk hl
   ·cases hl
  ·cases hl
 ·rename_i x i ho
  split at hl
  ·rename_i ws hx
   split at hl
   ·rename_i u hu
    exact ok_extract h ho hx hu hl
   ·cases hl
  ·cases hl
 ·rename_i c ho
  split at hl
  ·rename_i b hc
   exact ok_builtin h ho hc hl hok
  ·rename_i f hc
   split at hl
   ·rename_i g caps ws hf hw
    unfold callF at hl
    split at hl
    ·rename_i sm hsm
     split at hl
     ·exact ok_callMut h ho hc hf hw hsm hl hok
     ·exact ok_callRo h ho hc hf hw hsm hl hok
    ·cases hl
   ·cases hl
  ·cases hl
 ·cases hl
end
theorem mapO_congr {α γ : Type} {f g : α -> Option γ} : ∀ {l : List α}, (∀ x ∈ l, f x = g x) -> mapO f l = mapO g l
 | [], _ => rfl
 | x :: r, h => by
   simp only [mapO]
   rw [h x (List.mem_cons_self ..), mapO_congr fun y hy => h y (List.mem_cons_of_mem _ hy)]
theorem act_rho {Γ : Env} {o : Oper} {ρ ρ' : Operand -> V} {get : Get} {n : Nat} (h : ∀ x ∈ o.op.operands, ρ x = ρ' x) : act Γ o ρ get n = act Γ o ρ' get n := by
 obtain ⟨dst, op, type, pos, after, guard⟩ := o
 cases op <;> simp only [Op.operands] at h <;> simp only [act]
 case build t ps =>
  have : mapO (fun p => match ρ p.2 with | .val w => some (p.1, w) | .tup _ => none) ps.toList = mapO (fun p => match ρ' p.2 with | .val w => some (p.1, w) | .tup _ => none) ps.toList :=
   mapO_congr fun p hp => by rw [h p.2 (by simpa using ⟨p.1, by simpa using hp⟩)]
  erw [this]; first | done | rfl
 case buildSlice t n ps =>
  have : mapO (fun p => match ρ p.2 with | .val w => some (p.1, w) | .tup _ => none) ps.toList = mapO (fun p => match ρ' p.2 with | .val w => some (p.1, w) | .tup _ => none) ps.toList :=
   mapO_congr fun p hp => by rw [h p.2 (by simpa using ⟨p.1, by simpa using hp⟩)]
  erw [this]; first | done | rfl
 case makeFunc fn first captured =>
  have : mapO (fun x => match ρ x with | .val (.one (.ptr k 0)) => some k | _ => none) captured.toList = mapO (fun x => match ρ' x with | .val (.one (.ptr k 0)) => some k | _ => none) captured.toList :=
   mapO_congr fun p hp => by rw [h p (by simp; exact .inr (by simpa using hp))]
  erw [this]; first | done | rfl
 case call c =>
  have hargs : c.args.toList.map ρ = c.args.toList.map ρ' := List.map_congr_left fun x hx => h x (by simp [Call.operands]; exact .inr (by simpa using hx))
  rw [hargs]
  cases hc : c.callee with
  | value f => have hf : ρ f = ρ' f := h f (by simp [Call.operands, hc]); simp only [hf]
  | invoke r m => rfl
  | builtin b => rfl
 case slice t x lo hi mx =>
  have hx : ρ x = ρ' x := h x (by simp)
  have hlo : lo.map ρ = lo.map ρ' := by cases lo with
   | none => rfl
   | some y => simp [h y (by simp)]
  have hhi : hi.map ρ = hi.map ρ' := by cases hi with
   | none => rfl
   | some y => simp [h y (by simp)]
  rw [hx, hlo, hhi]
 all_goals (first | rfl | (simp_all; done))
section
variable {get get' : Get}
theorem roC_congr {c : C} (h : ∀ k ∈ keysC c, get k = get' k) : roC get c = roC get' c := by
 cases c with
 | ref t k => simp only [roC]; rw [h k (by simp [keysC])]
 | asl t k o m => simp only [roC]; rw [h k (by simp [keysC])]
 | fn f caps => cases caps <;> rfl
 | _ => rfl
theorem roW_congr {c : W} (h : ∀ k ∈ keysW c, get k = get' k) : roW get c = roW get' c := by
 cases c with
 | one c => simp only [roW]; rw [roC_congr fun k hk => h k (by simpa [keysW, W.cells] using hk)]
 | agg cs => simp only [roW]; rw [mapO_congr (f := roC get) (l := cs) fun c hc => roC_congr fun k hk => h k (List.mem_flatMap.2 ⟨c, hc, hk⟩)]
theorem roCs_congr {cs : List C} (h : ∀ k ∈ cs.flatMap keysC, get k = get' k) : mapO (roC get) cs = mapO (roC get') cs :=
 mapO_congr fun c hc => roC_congr fun k hk => h k (List.mem_flatMap.2 ⟨c, hc, hk⟩)
theorem litElems_congr {t : Ty} : ∀ {ps : List (Nat × W)} {l : List (Den t)}, (∀ k ∈ ps.flatMap (fun p => keysW p.2), get k = get' k) -> litElems get t l ps = litElems get' t l ps
 | [], l, _ => rfl
 | (i, u) :: ps, l, h => by
   simp only [litElems]
   rw [roCs_congr (get' := get') (fun k hk => h k (List.mem_flatMap.2 ⟨(i, u), List.mem_cons_self .., hk⟩))]
   have ih : ∀ l, litElems get t l ps = litElems get' t l ps := fun l => litElems_congr fun k hk => h k (by
    obtain ⟨p, hp, hk⟩ := List.mem_flatMap.1 hk
    exact List.mem_flatMap.2 ⟨p, List.mem_cons_of_mem _ hp, hk⟩)
   simp only [ih]
theorem elemsOf_congr {t : Ty} {c : C} (h : ∀ k ∈ keysC c, get k = get' k) : elemsOf get t c = elemsOf get' t c := by
 cases c with
 | ref t k => simp only [elemsOf]; rw [h k (by simp [keysC])]
 | _ => rfl
theorem actLoad_congr {n : Nat} {ag : Bool} {size : Nat} {v : V} (h : ∀ k ∈ keysV v, get k = get' k) : actLoad get n ag size v = actLoad get' n ag size v := by
 cases v with
 | tup ws => rfl
 | val u => cases u with
   | agg cs => rfl
   | one c => cases c with
     | ptr k off => simp only [actLoad]; rw [h k (by simp [keysV, keysW, W.cells, keysC])]
     | eptr k t i off => simp only [actLoad]; rw [h k (by simp [keysV, keysW, W.cells, keysC])]
     | aptr k off m j => simp only [actLoad]; rw [h k (by simp [keysV, keysW, W.cells, keysC])]
     | aeptr k t i off m j => simp only [actLoad]; rw [h k (by simp [keysV, keysW, W.cells, keysC])]
     | _ => rfl
theorem actStore_congr {n : Nat} {size : Nat} {u : W} {v : V} (h : ∀ k ∈ keysV v ++ keysW u, get k = get' k) : actStore get n size u v = actStore get' n size u v := by
 have hu : mapO (roC get) u.cells = mapO (roC get') u.cells := roCs_congr fun k hk => h k (List.mem_append_right _ hk)
 cases v with
 | tup ws => rfl
 | val x => cases x with
   | agg cs => rfl
   | one c => cases c with
     | ptr k off => simp only [actStore]; rw [h k (by simp [keysV, keysW, W.cells, keysC])]
     | eptr k t i off => simp only [actStore]; rw [h k (by simp [keysV, keysW, W.cells, keysC]), hu]
     | aptr k off m j => simp only [actStore]; rw [h k (by simp [keysV, keysW, W.cells, keysC])]
     | aeptr k t i off m j => simp only [actStore]; rw [h k (by simp [keysV, keysW, W.cells, keysC])]
     | rptr t l i off => cases t <;> rfl
     | _ => rfl
theorem actLen_congr {n : Nat} {s : Srt} {c : C} (h : ∀ k ∈ keysC c, get k = get' k) : actLen get n s c = actLen get' n s c := by
 cases c with
 | ref t k => cases s <;> simp only [actLen]; rw [h k (by simp [keysC])]
 | _ => cases s <;> rfl
theorem actAppend_congr {n : Nat} {t : Ty} {bytes : Nat} {s x : C} (h : ∀ k ∈ keysC s ++ keysC x, get k = get' k) : actAppend get n t bytes s x = actAppend get' n t bytes s x := by
 unfold actAppend
 rw [elemsOf_congr (get' := get') fun k hk => h k (List.mem_append_right _ hk)]
 cases s with
 | ref t k => dsimp only; rw [h k (by simp [keysC])]
 | _ => rfl
theorem actBuiltin_congr {Γ : Env} {n : Nat} {b : Builtin} {ts : List Nat} {args : List V} (h : ∀ k ∈ args.flatMap keysV, get k = get' k) : actBuiltin Γ get n b ts args = actBuiltin Γ get' n b ts args := by
 have h1 : ∀ c, args = [.val (.one c)] -> ∀ s, actLen get n s c = actLen get' n s c := fun c e s => actLen_congr fun k hk => h k (by subst e; simpa [keysV, keysW, W.cells] using hk)
 have h2 : ∀ c d, args = [.val (.one c), .val (.one d)] -> ∀ t by', actAppend get n t by' c d = actAppend get' n t by' c d := fun c d e t by' => actAppend_congr fun k hk => h k (by subst e; simpa [keysV, keysW, W.cells] using hk)
 unfold actBuiltin
 split
 ·simp only [h1 _ rfl]
 ·simp only [h2 _ _ rfl]
 ·rfl
 ·rfl
 ·rfl
 ·rfl
 ·rfl
 ·rfl
 ·rfl
 ·simp_all
theorem reach_acc (get : Get) : ∀ (f : Nat) (todo acc : List Nat) (k : Nat), k ∈ acc -> k ∈ reach get f todo acc
 | 0, _, acc, k, h => by simpa [reach] using h
 | f + 1, [], acc, k, h => by simpa [reach] using h
 | f + 1, j :: todo, acc, k, h => by
   unfold reach
   split
   ·exact reach_acc get f todo acc k h
   ·split
    ·exact reach_acc get f _ _ k (List.mem_append_left _ h)
    ·exact reach_acc get f _ _ k (List.mem_append_left _ h)
theorem reach_congr : ∀ (f : Nat) (todo acc : List Nat), (∀ k ∈ reach get f todo acc, get k = get' k) -> reach get f todo acc = reach get' f todo acc
 | 0, _, acc, h => rfl
 | f + 1, [], acc, h => rfl
 | f + 1, j :: todo, acc, h => by
   have hj : hasN acc j = false -> get j = get' j := by
    intro e
    refine h j ?_
    unfold reach
    rw [e]
    dsimp only
    split
    ·exact reach_acc get f _ _ j (List.mem_append_right _ (by simp))
    ·exact reach_acc get f _ _ j (List.mem_append_right _ (by simp))
   unfold reach at h ⊢
   cases hq : hasN acc j with
   | true =>
     rw [hq] at h
     exact reach_congr f todo acc h
   | false =>
     rw [hq] at h
     dsimp only at h ⊢
     rw [hj hq] at h ⊢
     split at h
     ·exact reach_congr f _ _ h
     ·exact reach_congr f _ _ h
theorem callMut_congr {sm : Mean} {n : Nat} {args : List W} (h : ∀ k ∈ reach get reachFuel (args.flatMap keysW) [], get k = get' k) : callMut sm get n args = callMut sm get' n args := by
 unfold callMut
 rw [<- reach_congr _ _ _ h]
 dsimp only
 rw [mapO_congr (f := fun k => (get k).bind (renB fun k => indexN (reach get reachFuel (args.flatMap keysW) []) k 0)) fun k hk => by rw [h k hk]]
theorem callRo_congr {sm : Mean} {frz : Bool} {n : Nat} {args : List W} (h : ∀ k ∈ args.flatMap keysW, get k = get' k) : callRo sm frz get n args = callRo sm frz get' n args := by
 unfold callRo
 rw [mapO_congr (f := roW get) fun c hc => roW_congr fun k hk => h k (List.mem_flatMap.2 ⟨c, hc, hk⟩)]
theorem valsW_keys : ∀ {vs : List V} {ws : List W}, valsW vs = some ws -> vs.flatMap keysV = ws.flatMap keysW
 | [], ws, h => by simp only [valsW, mapO, Option.some.injEq] at h; subst h; rfl
 | v :: vs, ws, h => by
   unfold valsW at h
   simp only [mapO] at h
   split at h
   ·rename_i y hy
    split at h
    ·rename_i ys hys
     cases h
     have := valsW_keys (vs := vs) (ws := ys) hys
     cases v with
     | tup _ => cases hy
     | val u => cases hy; simp [keysV, this]
    ·cases h
   ·cases h
theorem flatMap_ptr : ∀ (caps : List Nat), ((caps.map fun k => W.one (.ptr k 0)).flatMap keysW) = caps
 | [] => rfl
 | k :: r => by simp only [List.map_cons, List.flatMap_cons, flatMap_ptr r]; rfl
theorem nilOf_keys {Γ : Env} {t : Nat} {x : Operand} {v : V} {k : Nat} (h : k ∈ keysV (nilOf Γ t x v)) : k ∈ keysV v := by
 unfold nilOf at h
 split at h
 ·exact h
 ·split at h
  ·split at h
   ·split at h
    ·simp [keysV, keysW, W.cells, keysC] at h
    ·exact h
   ·exact h
  ·exact h
theorem act_get {Γ : Env} {o : Oper} {ρ : Operand -> V} {n : Nat} (h : ∀ k ∈ fpOp o ρ get, get k = get' k) : act Γ o ρ get n = act Γ o ρ get' n := by
 obtain ⟨dst, op, type, pos, after, guard⟩ := o
 cases op <;> simp only [fpOp] at h <;> simp only [act]
 case load t x =>
  split
  ·exact actLoad_congr h
  ·rfl
 case store t x y =>
  split
  ·rename_i ti u ht hu
   refine actStore_congr fun k hk => h k ?_
   rcases List.mem_append.1 hk with hk | hk
   ·exact List.mem_append_left _ hk
   ·exact List.mem_append_right _ (nilOf_keys (Γ := Γ) (t := t) (x := y) (by rw [hu]; exact hk))
  ·rfl
 case convert src dst x =>
  split
  ·rename_i si di c hs hd hx
   split
   ·rfl
   ·have : convS Γ get si di c = convS Γ get' si di c := by
     unfold convS
     rw [elemsOf_congr (get' := get') fun k hk => h k (by rw [hx]; simpa [keysV, keysW, W.cells] using hk)]
    rw [this]
  ·rfl
 case indexAddr t x i =>
  split
  ·split
   ·split
    ·split
     ·rfl
     ·rename_i t k _ j hx hi
      rw [hx] at h
      rw [h k (by simp [keysV, keysW, W.cells, keysC])]
     ·rfl
     ·rfl
    ·rfl
   ·rfl
   ·rfl
  ·rfl
 case slice t x lo hi mx =>
  split
  ·split
   ·rfl
   ·rfl
   ·rename_i t' k hs hx
    rw [hx] at h
    split
    ·unfold actSlRef
     rw [h k (by simp [keysV, keysW, W.cells, keysC])]
    ·rfl
   ·rfl
   ·rfl
  ·rfl
 case buildSlice t len parts =>
  split
  ·split
   ·split
    ·split
     ·rename_i ps hps
      split
      ·rw [litElems_congr (get' := get') fun k hk => h k ?_]
       obtain ⟨p, hp, hk⟩ := List.mem_flatMap.1 hk
       obtain ⟨q, hq, he⟩ := mapO_mem hps p hp
       refine List.mem_flatMap.2 ⟨q, hq, ?_⟩
       split at he
       ·rename_i u hu
        cases he
        rw [hu]
        exact hk
       ·cases he
      ·rfl
     ·rfl
    ·rfl
   ·rfl
  ·rfl
 case call c =>
  split
  ·rename_i b hb
   refine actBuiltin_congr fun k hk => h k ?_
   refine List.mem_append_left _ (List.mem_append_left _ ?_)
   simpa [List.flatMap_map] using hk
  ·rename_i f hf
   split
   ·rename_i g caps ws hg hw
    rw [hf] at h
    dsimp only at h
    have hkeys : (c.args.toList.flatMap fun x => keysV (ρ x)) ++ keysV (ρ f) = (ws ++ caps.map fun k => W.one (.ptr k 0)).flatMap keysW := by
     have h1 := valsW_keys hw
     rw [List.flatMap_append, <- h1, flatMap_ptr, hg, List.flatMap_map]
     simp [keysV, keysW, W.cells, keysC]
    rw [hkeys] at h
    unfold callF
    split
    ·split
     ·exact callMut_congr fun k hk => h k (List.mem_append_right _ hk)
     ·exact callRo_congr fun k hk => h k (List.mem_append_left _ hk)
    ·rfl
   ·rfl
  ·rfl
end
theorem allLt_iff : ∀ {l : List Nat} {n : Nat}, allLt n l = true -> ∀ k ∈ l, k < n
 | [], _, _, _, h => by cases h
 | x :: r, n, h, k, hk => by
   simp only [allLt, Bool.and_eq_true] at h
   rcases List.mem_cons.1 hk with rfl | hk
   ·simpa [Nat.blt_eq] using h.1
   ·exact allLt_iff h.2 k hk
def below (β : Bt) (n : Nat) : Bt := fun k => if k < n then β k else none
theorem below_lt {β : Bt} {n k : Nat} (h : k < n) : below β n k = β k := if_pos h
theorem below_ge {β : Bt} {n k : Nat} (h : n <= k) : below β n k = none := if_neg (by omega)
theorem below_le {β : Bt} {n : Nat} : BLe (below β n) β := fun k h e => by
 unfold below at e
 split at e
 ·exact e
 ·cases e
theorem PR.below {β : Bt} {n k off : Nat} {v : Value} (hk : k < n) (h : PR β k off v) : PR (below β n) k off v := by
 obtain ⟨y, b, h1, h2, h3⟩ := h
 exact ⟨y, b, by rw [below_lt hk]; exact h1, h2, h3⟩
theorem CR.below {β : Bt} {K : Ks} {n : Nat} {c : C} {v : Value} (hk : ∀ k ∈ keysC c, k < n) (h : CR β K c v) : CR (below β n) K c v := by
 cases c with
 | ref t k =>
   obtain ⟨y, a, m, c, h1, h2⟩ := h
   exact ⟨y, a, m, c, by rw [below_lt (hk k (by simp [keysC]))]; exact h1, h2⟩
 | ptr k o => exact PR.below (hk k (by simp [keysC])) h
 | eptr k t i o =>
   obtain ⟨y, a, m, c, h1, h2⟩ := h
   exact ⟨y, a, m, c, by rw [below_lt (hk k (by simp [keysC]))]; exact h1, h2⟩
 | fn f caps =>
   obtain ⟨cs, h1, h2⟩ := h
   exact ⟨cs, h1, h2.mono_mem fun k u hm hu => PR.below (hk k hm) hu⟩
 | aptr k o m j => exact ⟨h.1, PR.below (hk k (by simp [keysC])) h.2⟩
 | aeptr k t i o m j =>
   obtain ⟨h0, y, a, q, c, h1, h2⟩ := h
   exact ⟨h0, y, a, q, c, by rw [below_lt (hk k (by simp [keysC]))]; exact h1, h2⟩
 | asl t k o m =>
   obtain ⟨b, c, h1, h2⟩ := h
   exact ⟨b, c, PR.below (hk k (by simp [keysC])) h1, h2⟩
 | _ => exact h
theorem WR.below {β : Bt} {K : Ks} {n : Nat} {c : W} {v : Value} (hk : ∀ k ∈ keysW c, k < n) (h : WR β K c v) : WR (below β n) K c v := by
 cases c with
 | one c => exact CR.below (fun k hh => hk k (by simpa [keysW, W.cells] using hh)) h
 | agg cs =>
   obtain ⟨arr, e, h⟩ := h
   exact ⟨arr, e, h.mono_mem fun c u hm hu => CR.below (fun k hh => hk k (List.mem_flatMap.2 ⟨c, hm, hh⟩)) hu⟩
theorem VR.below {β : Bt} {K : Ks} {n : Nat} {c : V} {v : Value} (hk : ∀ k ∈ keysV c, k < n) (h : VR β K c v) : VR (below β n) K c v := by
 cases c with
 | val c => exact WR.below hk h
 | tup ws =>
   obtain ⟨arr, e, h⟩ := h
   exact ⟨arr, e, h.mono_mem fun c u hm hu => WR.below (fun k hh => hk k (List.mem_flatMap.2 ⟨c, hm, hh⟩)) hu⟩
theorem BR.below {β : Bt} {K : Ks} {n : Nat} {b : Blk} {y : Hd} {w : World} (hk : ∀ k ∈ keysB (some b), k < n) (h : BR β K b y w) : BR (below β n) K b y w := by
 cases b with
 | box cs =>
   obtain ⟨x, arr, T, e, hh, h⟩ := h
   exact ⟨x, arr, T, e, hh, h.mono_mem fun c u hm hu => CR.below (fun k hh => hk k (List.mem_flatMap.2 ⟨c, hm, hh⟩)) hu⟩
 | arr t l => exact h
theorem pois_VR {β : Bt} {K : Ks} {v : Value} : VR β K pois v := trivial
structure Post1 (β : Bt) (K : Ks) (get : Get) (n : Nat) (w : World) (out : Out) (v : Value) (w' : World) (β' : Bt) (K' : Ks) : Prop where
 ble : BLe β β'
 kle : KLe K K'
 kok : KOK K' w'
 vr : VR β' K' out.v v
 mr : MR β' K' (getU out.upd get) w'
 dom : ∀ k, β' k ≠ none -> β k ≠ none ∨ (n <= k /\ k < out.n)
 fr : Fr (OwnJ β K get) w w'
 own : ∀ x, Own β' (getU out.upd get) x -> Own β get x ∨ w.heap.size <= x
 knew : ∀ b arr, K' b = some arr -> K b = some arr ∨ Own β get b ∨ w.heap.size <= b
theorem Own.mono {β β' : Bt} {get get' : Get} (hb : BLe β β') (hg : ∀ k b, get k = some b -> get' k = some b) {x : Nat} (h : Own β get x) : Own β' get' x := by
 obtain ⟨k, b, y, e, f, g⟩ := h
 exact ⟨k, b, y, hg _ _ e, hb _ _ f, g⟩
theorem Fr.mono {S S' : Nat -> Prop} {a b : World} (h : Fr S a b) (hs : ∀ x, S x -> S' x) : Fr S' a b :=
 ⟨h.os, h.tape, h.output, h.size, fun k hk hn => h.block k hk fun e => hn (hs k e)⟩
section
variable {P : Program} {Γ : Env} {β : Bt} {K : Ks} {w : World} {a : Act} {o : Oper}
theorem one_fam {ι : Type} (inh : Nonempty ι) {ρ : Operand -> V} {G Gc : Get} {n : Nat} {out : ι -> Out} (env : EnvOK P Γ)
 (hstep : ∀ (ρr : Operand -> V) (Gr : Get), (∀ x ∈ o.op.operands, ρ x = ρr x) -> (∀ k ∈ fpOp o ρ G, G k = Gr k) -> Pre P Γ (below β n) K Gr n w ρr a -> StepOK P o a w (fun v w' => ∃ z, PostE (below β n) K Gr n w (out z) v w'))
 (hkb : ∀ z, kbOp o ρ G n (out z).n = true)
 (hg : ∀ k ∈ fpOp o ρ G, Gc k = G k) (kok : KOK K w) (mr : MR β K Gc w) (fresh : ∀ z k, n <= k -> k < (out z).n -> β k = none) (val : ∀ x ∈ o.op.operands, VR β K (ρ x) (a.eval x)) :
 StepOK P o a w (fun v w' => ∃ z β' K', Post1 β K Gc n w (out z) v w' β' K') := by
 classical
 obtain ⟨z0⟩ := inh
 have hkb0 := hkb z0
 simp only [kbOp, Bool.and_eq_true] at hkb0
 obtain ⟨⟨⟨_, k2⟩, k3⟩, k4⟩ := hkb0
 have k2 := allLt_iff k2
 have k3 := allLt_iff k3
 have k4 := allLt_iff k4
 obtain ⟨ρr, hρ⟩ : ∃ ρr : Operand -> V, ρr = fun x => if x ∈ o.op.operands then ρ x else pois := ⟨_, rfl⟩
 obtain ⟨Gr, hG⟩ : ∃ Gr : Get, Gr = fun k => if k ∈ fpOp o ρ G then G k else none := ⟨_, rfl⟩
 have eρ : ∀ x ∈ o.op.operands, ρ x = ρr x := fun x hx => by rw [hρ]; dsimp only; rw [if_pos hx]
 have eG : ∀ k ∈ fpOp o ρ G, G k = Gr k := fun k hk => by rw [hG]; dsimp only; rw [if_pos hk]
 have hGr : ∀ k b, Gr k = some b -> k ∈ fpOp o ρ G /\ G k = some b /\ Gc k = some b /\ k < n := by
  intro k b e
  rw [hG] at e
  dsimp only at e
  split at e
  ·rename_i hk
   exact ⟨hk, e, by rw [hg k hk]; exact e, k3 k hk⟩
  ·cases e
 have hpre : Pre P Γ (below β n) K Gr n w ρr a := by
  refine ⟨env, kok, ⟨?_, ?_, ?_⟩, fun k hk => below_ge hk, ?_⟩
  ·intro k b e
   obtain ⟨h1, h2, h3, h4⟩ := hGr k b e
   obtain ⟨y, hy, hbr⟩ := mr.blk k b h3
   refine ⟨y, by rw [below_lt h4]; exact hy, hbr.below fun j hj => k4 j (List.mem_flatMap.2 ⟨k, h1, ?_⟩)⟩
   rw [h2]; exact hj
  ·intro k k' b b' y y' x e e' f f' g g'
   exact mr.sep k k' b b' y y' x (hGr k b e).2.2.1 (hGr k' b' e').2.2.1 (below_le _ _ f) (below_le _ _ f') g g'
  ·intro k b y x e f g
   exact mr.ro k b y x (hGr k b e).2.2.1 (below_le _ _ f) g
  ·intro x
   rw [hρ]
   dsimp only
   split
   ·rename_i hx
    exact (val x hx).below fun k hk => k2 k (List.mem_flatMap.2 ⟨x, by simpa using hx, hk⟩)
   ·exact pois_VR
 have hstep := hstep ρr Gr eρ eG hpre
 intro next Q hn
 refine hstep next Q fun v w' hp => hn v w' ?_
 obtain ⟨z, β1, K1, hp⟩ := hp
 have fresh := fresh z
 have k1 : n <= (out z).n := by
  have := hkb z
  simp only [kbOp, Bool.and_eq_true] at this
  simpa using this.1.1.1
 refine ⟨z, ?_⟩
 generalize out z = out at *
 have hownr : ∀ x, Own (below β n) Gr x -> ∃ k b y, k ∈ fpOp o ρ G /\ Gc k = some b /\ β k = some y /\ y.b = some x := by
  rintro x ⟨k, b, y, e, f, g⟩
  exact ⟨k, b, y, (hGr k b e).1, (hGr k b e).2.2.1, below_le _ _ f, g⟩
 have hnot : ∀ k b y x, Gc k = some b -> β k = some y -> y.b = some x -> k ∉ fpOp o ρ G -> ¬ Own (below β n) Gr x := by
  intro k b y x e f g hk hx
  obtain ⟨k', b', y', h1, h2, h3, h4⟩ := hownr x hx
  have := mr.sep k k' b b' y y' x e h2 f h3 g h4
  subst this
  exact hk h1
 obtain ⟨β2, hβ2⟩ : ∃ β2 : Bt, β2 = fun k => match β k with | some y => some y | none => if n <= k /\ k < out.n then β1 k else none := ⟨_, rfl⟩
 have hle : BLe β β2 := fun k y e => by rw [hβ2]; dsimp only; rw [e]
 have hle1 : BLe β1 β2 := by
  intro k y e
  have hlt : k < out.n := by
   rcases Nat.lt_or_ge k out.n with h1 | h1
   ·exact h1
   ·rw [hp.fresh k h1] at e; cases e
  rcases Nat.lt_or_ge k n with h1 | h1
  ·rw [hp.dom k h1, below_lt h1] at e
   exact hle _ _ e
  ·rw [hβ2]
   dsimp only
   rw [fresh k h1 hlt]
   dsimp only
   rw [if_pos ⟨h1, hlt⟩]
   exact e
 have hcase : ∀ k b, getU out.upd Gc k = some b -> getU out.upd Gr k = some b ∨ (k ∉ fpOp o ρ G /\ Gc k = some b) := by
  intro k b e
  unfold getU at e ⊢
  cases hq : look out.upd k with
  | some x => rw [hq] at e; left; exact e
  | none =>
    rw [hq] at e
    dsimp only at e ⊢
    by_cases hk : k ∈ fpOp o ρ G
    ·left
     rw [hG]
     dsimp only
     rw [if_pos hk, <- hg k hk]
     exact e
    ·exact .inr ⟨hk, e⟩
 have hold : ∀ k b y x, Gc k = some b -> β k = some y -> y.b = some x -> k ∉ fpOp o ρ G -> w'.heap[x]? = w.heap[x]? /\ K1 x = none := by
  intro k b y x e f g hk
  have hx := mr.lt ⟨k, b, y, e, f, g⟩
  have hno := hnot k b y x e f g hk
  have hnj : ¬ Jk K x := mr.nj e f g
  refine ⟨hp.fr.block x hx fun h1 => h1.elim hno hnj, ?_⟩
  cases hq : K1 x with
  | none => rfl
  | some arr =>
    rcases hp.knew x arr hq with h1 | h1 | h1
    ·rw [mr.ro k b y x e f g] at h1; cases h1
    ·exact absurd h1 hno
    ·omega
 have hβ : ∀ k b y, Gc k = some b -> β2 k = some y -> β k = some y := by
  intro k b y e f
  obtain ⟨z, hz, _⟩ := mr.blk k b e
  have := hle _ _ hz
  rw [f] at this; cases this
  exact hz
 refine ⟨β2, K1, hle, hp.kle, hp.kok, hp.vr.mono hle1 (KLe.refl _), ?_, ?_, hp.fr.mono fun x hx => hx.imp (fun hx => hx.mono below_le fun k b e => (hGr k b e).2.2.1) id, ?_, fun b arr e => ?_⟩
 ·refine mr.step hle hp.kle ?_
  intro k b e
  rcases hcase k b e with h1 | ⟨h1, h2⟩
  ·right
   obtain ⟨y, hy, hbr⟩ := hp.mr.blk k b h1
   refine ⟨y, hle1 _ _ hy, hbr.mono hle1 (KLe.refl _), fun x hx => ⟨hp.mr.ro k b y x h1 hy hx, fun k' b' y' e' f' g' => ?_⟩⟩
   rcases hcase k' b' e' with h1' | ⟨h1', h2'⟩
   ·obtain ⟨z, hz, _⟩ := hp.mr.blk k' b' h1'
    have := hle1 _ _ hz
    rw [f'] at this; cases this
    exact hp.mr.sep k' k b' b y' y x h1' h1 hz hy g' hx
   ·exfalso
    have f2 := hβ k' b' y' h2' f'
    rcases hp.own x ⟨k, b, y, h1, hy, hx⟩ with h5 | h5
    ·exact hnot k' b' y' x h2' f2 g' h1' h5
    ·have := mr.lt ⟨k', b', y', h2', f2, g'⟩
     omega
  ·exact .inl ⟨h2, fun x y f g => hold k b y x h2 f g h1⟩
 ·intro k hk
  rw [hβ2] at hk
  dsimp only at hk
  cases hq : β k with
  | some y => left; simp
  | none =>
    rw [hq] at hk
    dsimp only at hk
    split at hk
    ·right; assumption
    ·exact absurd rfl hk
 ·rintro x ⟨k, b, y, e, f, g⟩
  rcases hcase k b e with h1 | ⟨h1, h2⟩
  ·obtain ⟨z, hz, _⟩ := hp.mr.blk k b h1
   have := hle1 _ _ hz
   rw [f] at this; cases this
   rcases hp.own x ⟨k, b, y, h1, hz, g⟩ with h5 | h5
   ·obtain ⟨k', b', y', _, h6, h7, h8⟩ := hownr x h5
    exact .inl ⟨k', b', y', h6, h7, h8⟩
   ·exact .inr h5
  ·exact .inl ⟨k, b, y, h2, hβ k b y h2 f, g⟩
 ·rcases hp.knew b arr e with h1 | h1 | h1
  ·exact .inl h1
  ·obtain ⟨k', b', y', _, h6, h7, h8⟩ := hownr b h1
   exact .inr (.inl ⟨k', b', y', h6, h7, h8⟩)
  ·exact .inr (.inr h1)
theorem one_ok {ρ : Operand -> V} {G Gc : Get} {n : Nat} {out : Out} (env : EnvOK P Γ) (hact : act Γ o ρ G n = some out) (hok : out.ok = true) (hkb : kbOp o ρ G n out.n = true)
 (hg : ∀ k ∈ fpOp o ρ G, Gc k = G k) (kok : KOK K w) (mr : MR β K Gc w) (fresh : ∀ k, n <= k -> k < out.n -> β k = none) (val : ∀ x ∈ o.op.operands, VR β K (ρ x) (a.eval x)) :
 StepOK P o a w (fun v w' => ∃ β' K', Post1 β K Gc n w out v w' β' K') := by
 have := one_fam (ι := Unit) ⟨()⟩ (P := P) (β := β) (K := K) (w := w) (a := a) (o := o) (ρ := ρ) (G := G) (Gc := Gc) (n := n) (out := fun _ => out) env (fun ρr Gr h1 h2 hpre next Q hn => by
  refine act_ok hpre (out := out) ?_ hok next Q fun v w' hp => hn v w' ⟨(), hp⟩
  rw [<- hact, <- act_rho (ρ := ρ) (ρ' := ρr) h1]
  exact (act_get fun k hk => h2 k hk).symm) (fun _ => hkb) hg kok mr (fun _ => fresh) val
 intro next Q hn
 exact this next Q fun v w' hp => hn v w' (by obtain ⟨_, h⟩ := hp; exact h)
end
structure FS where
 T : Nat -> V
 G : Get
 n : Nat
def St.fs (s : St) : FS := ⟨s.tmpV, s.get, s.n⟩
structure Res where
 v : V
 upd : List (Nat × Option Blk)
 run : Bool
def valT (T : Nat -> V) : Operand -> V
 | .tmp t => T t
 | .const v => constV v
 | .func f => .val (.one (.fn f []))
 | .global _ => pois
theorem val_fs (s : St) : s.val = valT s.fs.T := by
 funext x
 cases x <;> rfl
def putT (T : Nat -> V) (d : Option Nat) (v : V) : Nat -> V := fun t => if d = some t then v else T t
def gtmp (ops : Array Oper) (g : Nat) : Option Nat := (ops[g]?).bind (·.dst)
structure StepR (Γ : Env) (ops : Array Oper) (o : Oper) (F : FS) (E : Ent) (X : Res) (F' : FS) : Prop where
 T : F'.T = putT F.T o.dst X.v
 G : F'.G = getU X.upd F.G
 dst : dstOk Γ o.dst = true
 exec : X.run = true -> (o.guard = none ∨ ∃ g want t, o.guard = some (g, want) /\ gtmp ops g = some t /\ F.T t = boolV want) /\
  ∃ out, act Γ o (valT F.T) F.G F.n = some out /\ out.ok = true /\ X.v = out.v /\ X.upd = out.upd /\ F'.n = out.n /\
    E = ⟨fpOp o (valT F.T) F.G, out.upd.map (·.1), kbOp o (valT F.T) F.G F.n out.n⟩
 skip : X.run = false -> (∃ g want t, o.guard = some (g, want) /\ gtmp ops g = some t /\ (F.T t = boolV (!want) ∨ F.T t = .tup [])) /\ X.v = .tup [] /\ X.upd = [] /\ F'.n = F.n /\ E = ⟨[], [], true⟩
theorem putO_T (s : St) (d : Option Nat) (v : V) : (s.putO d v).fs.T = putT s.fs.T d v := by
 funext t
 cases d with
 | none => rfl
 | some e =>
   unfold putT
   show (s.put e v).tmpV t = _
   unfold St.tmpV St.put
   simp only [look]
   by_cases h : e = t
   ·subst h; simp
   ·rw [nbeq_ne h]
    simp [h]
    rfl
theorem putO_get (s : St) (d : Option Nat) (v : V) : (s.putO d v).fs.G = s.fs.G /\ (s.putO d v).fs.n = s.fs.n /\ (s.putO d v).m = s.m := by
 cases d <;> exact ⟨rfl, rfl, rfl⟩
theorem put_same (s : St) (t : Nat) (v : V) (h : s.tmpV t = v) : (s.put t v).fs = s.fs := by
 unfold St.fs
 have : (s.put t v).tmpV = s.tmpV := by
  funext j
  unfold St.tmpV St.put at *
  simp only [look]
  by_cases e : t = j
  ·subst e; simp; exact h.symm
  ·rw [nbeq_ne e]
 rw [this]
 rfl
theorem apply_G (s : St) (out : Out) : (s.apply out).fs.G = getU out.upd s.fs.G := by
 funext k
 show (s.apply out).get k = getU out.upd s.get k
 unfold St.apply St.get getU
 dsimp only
 rw [look_app]
 cases look out.upd k <;> rfl
section
variable {Γ : Env} {ops : Array Oper} {R : Type}
theorem runK_spec {o : Oper} {K : St -> Ent -> Option R} {s : St} {r : R} (h : runK Γ o K s = some r) :
 ∃ out, act Γ o (valT s.fs.T) s.fs.G s.fs.n = some out /\ out.ok = true /\ dstOk Γ o.dst = true /\
   K ((s.apply out).putO o.dst out.v) ⟨fpOp o (valT s.fs.T) s.fs.G, out.upd.map (·.1), kbOp o (valT s.fs.T) s.fs.G s.fs.n out.n⟩ = some r := by
 unfold runK at h
 rw [val_fs] at h
 split at h
 ·cases h
 ·rename_i out ha
  split at h
  ·rename_i hd
   split at h
   ·rename_i hok
    exact ⟨out, ha, hok, hd, h⟩
   ·cases h
  ·cases h
theorem execK_spec {o : Oper} {K : St -> Ent -> Option R} {s : St} {r : R} (h : execK Γ o K s = some r) :
 ∃ (s1 : St) (out : Out), s1.fs = s.fs /\ s1.m = s.m /\ act Γ o (valT s.fs.T) s.fs.G s.fs.n = some out /\ out.ok = true /\ dstOk Γ o.dst = true /\
   K ((s1.apply out).putO o.dst out.v) ⟨fpOp o (valT s.fs.T) s.fs.G, out.upd.map (·.1), kbOp o (valT s.fs.T) s.fs.G s.fs.n out.n⟩ = some r := by
 unfold execK at h
 split at h
 ·split at h
  ·rename_i b hb
   cases b with
   | true =>
     obtain ⟨out, h1, h2, h3, h4⟩ := runK_spec h
     have hs := put_same s _ (boolV true) hb
     rw [hs] at h1 h4
     exact ⟨_, out, hs, rfl, h1, h2, h3, h4⟩
   | false =>
     obtain ⟨out, h1, h2, h3, h4⟩ := runK_spec h
     have hs := put_same s _ (boolV false) hb
     rw [hs] at h1 h4
     exact ⟨_, out, hs, rfl, h1, h2, h3, h4⟩
  ·cases h
 ·obtain ⟨out, h1, h2, h3, h4⟩ := runK_spec h
  exact ⟨s, out, rfl, rfl, h1, h2, h3, h4⟩
theorem exec_step {o : Oper} {K : St -> Ent -> Option R} {s : St} {r : R} (hg : o.guard = none ∨ ∃ g want t, o.guard = some (g, want) /\ gtmp ops g = some t /\ s.fs.T t = boolV want) (h : execK Γ o K s = some r) :
 ∃ s' E X, StepR Γ ops o s.fs E X s'.fs /\ s'.m = s.m /\ K s' E = some r := by
 obtain ⟨s1, out, h0, hm, h1, h2, h3, h4⟩ := execK_spec h
 refine ⟨_, _, ⟨out.v, out.upd, true⟩, ⟨?_, ?_, h3, fun _ => ⟨hg, out, h1, h2, rfl, rfl, ?_, rfl⟩, (fun e => by cases e)⟩, ?_, h4⟩
 ·rw [putO_T]
  show putT (s1.apply out).fs.T o.dst out.v = _
  rw [show (s1.apply out).fs.T = s1.fs.T from rfl, h0]
 ·rw [(putO_get _ _ _).1, apply_G, h0]
 ·rw [(putO_get _ _ _).2.1]; rfl
 ·rw [(putO_get _ _ _).2.2]; exact hm
theorem skip_step {o : Oper} {K : St -> Ent -> Option R} {s : St} {r : R} (hg : ∃ g want t, o.guard = some (g, want) /\ gtmp ops g = some t /\ (s.fs.T t = boolV (!want) ∨ s.fs.T t = .tup [])) (h : skipK Γ o K s = some r) :
 ∃ s' E X, StepR Γ ops o s.fs E X s'.fs /\ s'.m = s.m /\ K s' E = some r := by
 unfold skipK at h
 split at h
 ·rename_i hd
  refine ⟨_, _, ⟨.tup [], [], false⟩, ⟨putO_T s o.dst _, ?_, hd, (fun e => by cases e), fun _ => ⟨hg, rfl, rfl, (putO_get _ _ _).2.1, rfl⟩⟩, (putO_get _ _ _).2.2, h⟩
  rw [(putO_get _ _ _).1]
  rfl
 ·cases h
theorem opsK_step {o : Oper} {L : List Oper} {s : St} {tr : List Ent} {K : St -> List Ent -> Option R} {r : R} (h : opsK Γ ops (o :: L) s tr K = some r) :
 ∃ s' E X, StepR Γ ops o s.fs E X s'.fs /\ s'.m = s.m /\ opsK Γ ops L s' (E :: tr) K = some r := by
 unfold opsK at h
 split at h
 ·rename_i hg
  exact exec_step (.inl hg) h
 ·rename_i g want hg
  split at h
  ·cases h
  ·rename_i t ht
   split at h
   ·rename_i b hb
    have hT : s.fs.T t = boolV b := hb
    have key : ∀ {s1 : St} {K' : St -> Ent -> Option R}, s1.fs = s.fs -> s1.m = s.m -> ∀ c, b = c -> (want = c -> execK Γ o K' s1 = some r -> ∃ s' E X, StepR Γ ops o s.fs E X s'.fs /\ s'.m = s.m /\ K' s' E = some r) /\
     (want = !c -> skipK Γ o K' s1 = some r -> ∃ s' E X, StepR Γ ops o s.fs E X s'.fs /\ s'.m = s.m /\ K' s' E = some r) := by
     intro s1 K' h0 hm c hc
     subst hc
     refine ⟨fun hw hx => ?_, fun hw hx => ?_⟩
     ·obtain ⟨s', E, X, h1, h2, h3⟩ := exec_step (ops := ops) (.inr ⟨g, want, t, hg, ht, by rw [h0, hw]; exact hT⟩) hx
      exact ⟨s', E, X, by rw [<- h0]; exact h1, h2.trans hm, h3⟩
     ·obtain ⟨s', E, X, h1, h2, h3⟩ := skip_step (ops := ops) ⟨g, want, t, hg, ht, .inl (by rw [h0, hw, Bool.not_not]; exact hT)⟩ hx
      exact ⟨s', E, X, by rw [<- h0]; exact h1, h2.trans hm, h3⟩
    cases b with
    | true =>
      have e := put_same s t (boolV true) hT
      cases want with
      | true => exact (key e rfl true rfl).1 rfl h
      | false => exact (key e rfl true rfl).2 rfl h
    | false =>
      have e := put_same s t (boolV false) hT
      cases want with
      | true => exact (key e rfl false rfl).2 rfl h
      | false => exact (key e rfl false rfl).1 rfl h
   ·rename_i hb
    exact skip_step ⟨g, want, t, hg, ht, .inr hb⟩ h
   ·cases h
def ncons {α : Type} (x : α) (f : Nat -> α) : Nat -> α
 | 0 => x
 | i + 1 => f i
theorem opsK_run : ∀ (L : List Oper) {s : St} {tr : List Ent} {K : St -> List Ent -> Option R} {r : R}, opsK Γ ops L s tr K = some r ->
 ∃ (F : Nat -> FS) (E : Nat -> Ent) (X : Nat -> Res) (s' : St), F 0 = s.fs /\ F L.length = s'.fs /\ s'.m = s.m /\ (∀ i o, L[i]? = some o -> StepR Γ ops o (F i) (E i) (X i) (F (i + 1))) /\
   K s' (((List.range L.length).map E).reverse ++ tr) = some r
 | [], s, tr, K, r, h => ⟨fun _ => s.fs, fun _ => ⟨[], [], true⟩, fun _ => ⟨.tup [], [], true⟩, s, rfl, rfl, rfl, fun i o e => by simp at e, by simpa [opsK] using h⟩
 | o :: L, s, tr, K, r, h => by
   obtain ⟨s1, E0, X0, h1, h2, h3⟩ := opsK_step h
   obtain ⟨F, E, X, s', f0, fl, fm, fs, fk⟩ := opsK_run L h3
   refine ⟨ncons s.fs F, ncons E0 E, ncons X0 X, s', rfl, fl, fm.trans h2, ?_, ?_⟩
   ·intro i o' e
    cases i with
    | zero =>
      simp only [List.getElem?_cons_zero, Option.some.injEq] at e
      subst e
      show StepR Γ ops o s.fs E0 X0 (F 0)
      rw [f0]
      exact h1
    | succ i => exact fs i o' (by simpa using e)
   ·rw [<- fk]
    congr 1
    rw [List.length_cons, List.range_succ_eq_map, List.map_cons, List.map_map, List.reverse_cons, List.append_assoc]
    rfl
end
structure Start where
 β : Bt
 K : Ks
 w : World
 m : Nat
 S : Nat -> Prop
def Start.J (z : Start) (x : Nat) : Prop := z.S x ∨ Jk z.K x
theorem jsub {z : Start} {β : Bt} {K : Ks} {get : Get} (own : ∀ x, Own β get x -> z.S x ∨ z.w.heap.size <= x) (knew : ∀ b arr, K b = some arr -> z.K b = some arr ∨ z.S b ∨ z.w.heap.size <= b) :
 ∀ x, x < z.w.heap.size -> OwnJ β K get x -> z.J x := by
 rintro x hx (h | ⟨arr, e⟩)
 ·exact .inl ((own x h).resolve_right (by omega))
 ·rcases knew x _ e with h1 | h1 | h1
  ·exact .inr ⟨arr, h1⟩
  ·exact .inl h1
  ·omega
structure SRf (P : Program) (Γ : Env) (z : Start) (β : Bt) (K : Ks) (F : FS) (a : Act) (w : World) : Prop where
 tmp : ∀ t, VR β K (F.T t) (a.tmps.getD t undef)
 nt : a.tmps.size = Γ.nt
 defers : a.defers = []
 kok : KOK K w
 mr : MR β K F.G w
 fresh : ∀ k, F.n <= k -> β k = none
 kle : KLe z.K K
 knew : ∀ b arr, K b = some arr -> z.K b = some arr ∨ z.S b ∨ z.w.heap.size <= b
 fr : Fr z.J z.w w
 own : ∀ x, Own β F.G x -> z.S x ∨ z.w.heap.size <= x
 ble : ∀ k h, k < z.m -> z.β k = some h -> β k = some h
 le : z.m <= F.n
theorem tmp_put {β β' : Bt} {K K' : Ks} {a : Act} {Γ : Env} {T : Nat -> V} {d : Option Nat} {x : V} {v : Value} (h : ∀ t, VR β K (T t) (a.tmps.getD t undef)) (hb : BLe β β') (hk : KLe K K') (hn : a.tmps.size = Γ.nt) (hd : dstOk Γ d = true) (hv : VR β' K' x v) :
 (∀ t, VR β' K' (putT T d x t) ((a.put d v).tmps.getD t undef)) /\ (a.put d v).tmps.size = Γ.nt /\ (a.put d v).defers = a.defers := by
 cases d with
 | none => exact ⟨fun t => (h t).mono hb hk, hn, rfl⟩
 | some e =>
   have he : e < a.tmps.size := by rw [hn]; simpa [dstOk, Nat.blt_eq] using hd
   refine ⟨fun t => ?_, by simpa [Act.put] using hn, rfl⟩
   unfold putT
   by_cases ht : e = t
   ·subst ht
    rw [if_pos rfl]
    have : (a.put (some e) v).tmps.getD e undef = v := by simp [Act.put, he]
    rw [this]
    exact hv
   ·rw [if_neg (fun e' => ht (by cases e'; rfl))]
    have : (a.put (some e) v).tmps.getD t undef = a.tmps.getD t undef := by simp [Act.put, Array.getElem?_setIfInBounds_ne ht]
    rw [this]
    exact (h t).mono hb hk
theorem constC_ok {β : Bt} {K : Ks} (v : Value) : CR β K (constC v) v := by
 cases v with
 | bool b => rfl
 | int k n => rfl
 | float k b => exact ⟨b, rfl, FEq.refl k b⟩
 | complex k x y => exact ⟨x, y, rfl, FEq.refl k x, FEq.refl k y⟩
 | string s => rfl
 | _ => trivial
theorem constV_ok {β : Bt} {K : Ks} (v : Value) : VR β K (constV v) v := by
 have key : ∀ v, VR β K (.val (.one (constC v))) v := fun v => constC_ok v
 cases v with
 | agg cs =>
   refine ⟨cs, rfl, ?_⟩
   generalize cs.toList = l
   induction l with
   | nil => trivial
   | cons x r ih => exact ⟨constC_ok x, ih⟩
 | _ => simp only [constV]; exact key _
theorem eval_ok {β : Bt} {K : Ks} {T : Nat -> V} {a : Act} (h : ∀ t, VR β K (T t) (a.tmps.getD t undef)) (x : Operand) : VR β K (valT T x) (a.eval x) := by
 cases x with
 | tmp t => exact h t
 | const v => exact constV_ok v
 | global g => exact pois_VR
 | func f => exact ⟨[], rfl, trivial⟩
section
variable {P : Program} {Γ : Env} {z : Start} {ops : Array Oper} {Q : Exit -> Act -> World -> Prop}
theorem yield_bool {a : Act} {g t : Nat} {b : Bool} (hg : gtmp ops g = some t) (h : a.tmps.getD t undef = .bool b) : yielded ops a.tmps g = some b := by
 have ht : a.tmps[t]? = some (.bool b) := by
  cases hq : a.tmps[t]? with
  | none => simp [hq, undef] at h
  | some v => simp [hq] at h; rw [h]
 unfold yielded
 unfold gtmp at hg
 rw [hg]
 simp [ht]
theorem yield_tup {a : Act} {g t : Nat} {arr : Array Value} (hg : gtmp ops g = some t) (h : a.tmps.getD t undef = .tuple arr) : yielded ops a.tmps g = none := by
 unfold yielded
 unfold gtmp at hg
 rw [hg]
 cases hq : a.tmps[t]? with
 | none => simp [hq]
 | some v => simp [hq] at h; simp [hq, h]
theorem wanted_run {β : Bt} {K : Ks} {a : Act} {o : Oper} {F F' : FS} {E : Ent} {X : Res} {T : Nat -> V} (h : StepR Γ ops o F E X F')
 (hv : ∀ g want t, o.guard = some (g, want) -> gtmp ops g = some t -> VR β K (F.T t) (a.tmps.getD t undef)) : Region.wanted o (yielded ops a.tmps) = X.run := by
 cases hr : X.run with
 | true =>
   rcases (h.exec hr).1 with hg | ⟨g, want, t, hg, ht, hT⟩
   ·simp [Region.wanted, hg]
   ·have := hv g want t hg ht
    rw [hT] at this
    simp [Region.wanted, hg, yield_bool ht this]
 | false =>
   obtain ⟨⟨g, want, t, hg, ht, hT⟩, _⟩ := h.skip hr
   have := hv g want t hg ht
   rcases hT with hT | hT
   ·rw [hT] at this
    simp [Region.wanted, hg, yield_bool ht this]
   ·rw [hT] at this
    obtain ⟨arr, e, _⟩ := this
    simp [Region.wanted, hg, yield_tup ht e]
theorem SRf.next {β β' : Bt} {K K' : Ks} {F F' : FS} {a : Act} {w w' : World} {d : Option Nat} {x : V} {v : Value} {out : Out} (h : SRf P Γ z β K F a w) (hd : dstOk Γ d = true)
 (hp : Post β K F.G F.n w out v w' β' K') (hT : F'.T = putT F.T d out.v) (hG : F'.G = getU out.upd F.G) (hn : F'.n = out.n) : SRf P Γ z β' K' F' (a.put d v) w' := by
 obtain ⟨h1, h2, h3⟩ := tmp_put h.tmp hp.ble hp.kle h.nt hd hp.vr
 refine ⟨by rw [hT]; exact h1, h2, h3.trans h.defers, hp.kok, by rw [hG]; exact hp.mr, by rw [hn]; exact hp.fresh, h.kle.trans hp.kle, ?_, ?_, ?_, fun k y hk e => hp.ble _ _ (h.ble k y hk e), by rw [hn]; exact Nat.le_trans h.le hp.le⟩
 ·intro b arr e
  rcases hp.knew b arr e with h4 | h4 | h4
  ·exact h.knew b arr h4
  ·exact .inr (h.own b h4)
  ·exact .inr (.inr (Nat.le_trans h.fr.size h4))
 ·exact h.fr.trans hp.fr (jsub h.own h.knew)
 ·intro x hx
  rw [hG] at hx
  rcases hp.own x hx with h4 | h4
  ·exact h.own x h4
  ·exact .inr (Nat.le_trans h.fr.size h4)
theorem SRf.skip {β : Bt} {K : Ks} {F F' : FS} {a : Act} {w : World} {d : Option Nat} (h : SRf P Γ z β K F a w) (hd : dstOk Γ d = true) (hT : F'.T = putT F.T d (.tup [])) (hG : F'.G = F.G) (hn : F'.n = F.n) :
 SRf P Γ z β K F' (a.put d undef) w := by
 obtain ⟨h1, h2, h3⟩ := tmp_put (x := .tup []) (v := undef) h.tmp (BLe.refl β) (KLe.refl K) h.nt hd ⟨#[], rfl, trivial⟩
 exact ⟨by rw [hT]; exact h1, h2, h3.trans h.defers, h.kok, by rw [hG]; exact h.mr, by rw [hn]; exact h.fresh, h.kle, h.knew, h.fr, by rw [hG]; exact h.own, h.ble, by rw [hn]; exact h.le⟩
theorem region_text (env : EnvOK P Γ) {F : Nat -> FS} {E : Nat -> Ent} {X : Nat -> Res} (hs : ∀ i o, ops[i]? = some o -> StepR Γ ops o (F i) (E i) (X i) (F (i + 1)))
 (hQ : ∀ β K a w, SRf P Γ z β K (F ops.size) a w -> Q .normal a w) : ∀ (k i : Nat), i + k = ops.size -> ∀ β K a w, SRf P Γ z β K (F i) a w -> wpOps P ops Q (List.range' i k) a w := by
 intro k
 induction k with
 | zero =>
   intro i hi β K a w h
   have : i = ops.size := by omega
   subst this
   exact hQ β K a w h
 | succ k ih =>
   intro i hi β K a w h
   rw [List.range'_succ, wpOps_cons]
   have hlt : i < ops.size := by omega
   have ho : ops[i]? = some ops[i] := Array.getElem?_eq_getElem hlt
   have hstep := hs i _ ho
   have hw := wanted_run (β := β) (K := K) (a := a) (T := (F i).T) hstep fun _ _ t _ _ => h.tmp t
   unfold wpOp
   rw [ho]
   dsimp only
   rw [hw]
   cases hr : (X i).run with
   | true =>
     rw [if_pos rfl]
     left
     obtain ⟨_, out, h1, h2, h3, h4, h5, _⟩ := hstep.exec hr
     refine act_ok (ρ := valT (F i).T) (get := (F i).G) (n := (F i).n) ⟨env, h.kok, h.mr, h.fresh, fun x => eval_ok h.tmp x⟩ h1 h2 _ _ fun v w' hp => ?_
     obtain ⟨β', K', hp⟩ := hp
     exact ih (i + 1) (by omega) β' K' _ _ (h.next (x := out.v) hstep.dst hp (by rw [hstep.T, h3]) (by rw [hstep.G, h4]) h5)
   | false =>
     rw [if_neg (by simp)]
     obtain ⟨_, h1, h2, h3, _⟩ := hstep.skip hr
     exact ih (i + 1) (by omega) β K _ _ (h.skip hstep.dst (by rw [hstep.T, h1]) (by rw [hstep.G, h2]; rfl) h3)
def TD (T0 : Nat -> V) (dst : Nat -> Option Nat) (v : Nat -> V) (D : Nat -> Bool) : Nat -> Nat -> V
 | 0, t => T0 t
 | i + 1, t => if D i = true /\ dst i = some t then v i else TD T0 dst v D i t
def GD (G0 : Get) (upd : Nat -> List (Nat × Option Blk)) (D : Nat -> Bool) : Nat -> Get
 | 0 => G0
 | i + 1 => if D i = true then getU (upd i) (GD G0 upd D i) else GD G0 upd D i
def addD (D : Nat -> Bool) (i : Nat) : Nat -> Bool := fun k => D k || Nat.beq k i
section
variable {T0 : Nat -> V} {dst : Nat -> Option Nat} {vs : Nat -> V} {G0 : Get} {upd : Nat -> List (Nat × Option Blk)} {D D' : Nat -> Bool}
theorem TD_congr {t : Nat} : ∀ (N : Nat), (∀ p, p < N -> dst p = some t -> D p = D' p) -> TD T0 dst vs D N t = TD T0 dst vs D' N t
 | 0, _ => rfl
 | N + 1, h => by
   simp only [TD]
   rw [TD_congr N fun p hp e => h p (by omega) e]
   by_cases e : dst N = some t
   ·rw [h N (by omega) e]
   ·rw [if_neg (fun h => e h.2), if_neg (fun h => e h.2)]
theorem look_none {α : Type} : ∀ {l : List (Nat × α)} {k : Nat}, k ∉ l.map (·.1) -> look l k = none
 | [], k, _ => rfl
 | (j, x) :: r, k, h => by
   simp only [List.map_cons, List.mem_cons, not_or] at h
   simp only [look]
   rw [nbeq_ne (fun e => h.1 e.symm)]
   exact look_none h.2
theorem getU_out {l : List (Nat × Option Blk)} {g : Get} {k : Nat} (h : k ∉ l.map (·.1)) : getU l g k = g k := by
 unfold getU
 rw [look_none h]
theorem getU_in {l : List (Nat × Option Blk)} {g g' : Get} {k : Nat} (h : g k = g' k) : getU l g k = getU l g' k := by
 unfold getU
 rw [h]
theorem GD_congr {k : Nat} : ∀ (N : Nat), (∀ p, p < N -> k ∈ (upd p).map (·.1) -> D p = D' p) -> GD G0 upd D N k = GD G0 upd D' N k
 | 0, _ => rfl
 | N + 1, h => by
   have ih := GD_congr N fun p hp e => h p (by omega) e
   simp only [GD]
   by_cases e : k ∈ (upd N).map (·.1)
   ·rw [h N (by omega) e]
    split
    ·exact getU_in ih
    ·exact ih
   ·have h1 : ∀ (g : Get), (if D N = true then getU (upd N) g else g) k = g k := by
     intro g; split
     ·exact getU_out e
     ·rfl
    have h2 : ∀ (g : Get), (if D' N = true then getU (upd N) g else g) k = g k := by
     intro g; split
     ·exact getU_out e
     ·rfl
    rw [h1, h2, ih]
theorem addD_ne {i p : Nat} (h : p ≠ i) : addD D i p = D p := by simp [addD, nbeq_ne h]
theorem addD_self {i : Nat} : addD D i i = true := by simp [addD]
theorem TD_add {i : Nat} {t : Nat} (hi : D i = false) : ∀ (N : Nat), i < N -> (∀ p, i < p -> p < N -> D p = true -> ∀ t, dst i = some t -> dst p ≠ some t) ->
 TD T0 dst vs (addD D i) N t = putT (TD T0 dst vs D N) (dst i) (vs i) t
 | 0, h, _ => by omega
 | N + 1, hlt, h => by
   by_cases hN : i = N
   ·subst hN
    simp only [TD, addD_self, hi, true_and, Bool.false_eq_true, false_and, if_false, putT]
    rw [TD_congr (D' := D) i fun p hp _ => addD_ne (by omega)]
   ·have ih := TD_add (t := t) hi N (by omega) fun p h1 h2 => h p h1 (by omega)
    simp only [TD]
    rw [addD_ne (fun e => hN e.symm), ih]
    unfold putT
    dsimp only
    by_cases e : D N = true /\ dst N = some t
    ·rw [if_pos e, if_neg fun e' => h N (by omega) (by omega) e.1 t e' e.2, if_pos e]
    ·rw [if_neg e, if_neg e]
theorem GD_add {i : Nat} {k : Nat} (hi : D i = false) : ∀ (N : Nat), i < N -> (∀ p, i < p -> p < N -> D p = true -> k ∈ (upd i).map (·.1) -> k ∉ (upd p).map (·.1)) ->
 GD G0 upd (addD D i) N k = getU (upd i) (GD G0 upd D N) k
 | 0, h, _ => by omega
 | N + 1, hlt, h => by
   by_cases hN : i = N
   ·subst hN
    simp only [GD, addD_self, hi, Bool.false_eq_true, if_false, if_true]
    exact getU_in (GD_congr (D' := D) i fun p hp _ => addD_ne (by omega))
   ·have ih := GD_add (k := k) hi N (by omega) fun p h1 h2 => h p h1 (by omega)
    simp only [GD]
    rw [addD_ne (fun e => hN e.symm)]
    cases hD : D N with
    | false => simp only [Bool.false_eq_true, if_false]; exact ih
    | true =>
      simp only [if_true]
      by_cases hk : k ∈ (upd i).map (·.1)
      ·have hk2 := h N (by omega) (by omega) hD hk
       rw [getU_out hk2, ih]
       unfold getU
       cases hl : look (upd i) k with
       | some b => rfl
       | none =>
         dsimp only
         exact (getU_out hk2).symm
      ·rw [getU_out hk]
       rw [getU_out hk] at ih
       exact getU_in ih
theorem TD_past {i : Nat} {t : Nat} : ∀ (N : Nat), i <= N -> TD T0 dst vs (fun p => Nat.blt p i) N t = TD T0 dst vs (fun _ => true) i t
 | 0, h => by
   have : i = 0 := by omega
   subst this; rfl
 | N + 1, h => by
   by_cases hN : i = N + 1
   ·subst hN
    exact TD_congr _ fun p hp _ => by simpa [Nat.blt_eq] using hp
   ·simp only [TD]
    rw [if_neg (fun e => by have := e.1; simp [Nat.blt_eq] at this; omega)]
    exact TD_past N (by omega)
theorem GD_past {i : Nat} : ∀ (N : Nat), i <= N -> GD G0 upd (fun p => Nat.blt p i) N = GD G0 upd (fun _ => true) i
 | 0, h => by
   have : i = 0 := by omega
   subst this; rfl
 | N + 1, h => by
   by_cases hN : i = N + 1
   ·subst hN
    funext k
    exact GD_congr _ fun p hp _ => by simpa [Nat.blt_eq] using hp
   ·simp only [GD]
    rw [if_neg (fun e => by simp [Nat.blt_eq] at e; omega)]
    exact GD_past N (by omega)
end
def bound (D : Nat -> Bool) (o : Oper) : Prop := ∀ e ∈ o.after, Region.binds .any e = true -> D e.on = true
theorem ancOf_bit {acc : List Nat} {j : Nat} : ∀ {l : List Edge}, (ancOf acc l).testBit j = true -> ∃ e ∈ l, Region.binds .any e = true /\ (j = e.on ∨ (acc.getD e.on 0).testBit j = true)
 | [], h => by simp [ancOf] at h
 | e :: r, h => by
   unfold ancOf at h
   split at h
   ·rename_i hb
    simp only [Nat.lor_eq, Nat.shiftLeft_eq', Nat.testBit_or, Bool.or_eq_true] at h
    rcases h with (h | h) | h
    ·refine ⟨e, List.mem_cons_self .., hb, .inl ?_⟩
     rw [Nat.one_shiftLeft, Nat.testBit_two_pow] at h
     simpa using (of_decide_eq_true h).symm
    ·exact ⟨e, List.mem_cons_self .., hb, .inr h⟩
    ·obtain ⟨e', h1, h2⟩ := ancOf_bit h
     exact ⟨e', List.mem_cons_of_mem _ h1, h2⟩
   ·obtain ⟨e', h1, h2⟩ := ancOf_bit h
    exact ⟨e', List.mem_cons_of_mem _ h1, h2⟩
theorem ancs_bit {D : Nat -> Bool} : ∀ (L : List Oper) (acc : List Nat), (∀ i o, L[i]? = some o -> D (acc.length + i) = true -> bound D o) -> (∀ p x, acc[p]? = some x -> D p = true -> ∀ j, x.testBit j = true -> D j = true) ->
 ∀ p x, (ancs L acc)[p]? = some x -> D p = true -> ∀ j, x.testBit j = true -> D j = true
 | [], acc, _, h => h
 | o :: L, acc, hc, h => by
   unfold ancs
   refine ancs_bit L _ ?_ ?_
   ·intro i o' e hD
    refine hc (i + 1) o' (by simpa using e) ?_
    rw [<- hD]; congr 1; simp; omega
   ·intro p x e hD j hj
    rw [List.getElem?_append] at e
    split at e
    ·exact h p x e hD j hj
    ·rename_i hp
     have hp0 : p - acc.length = 0 := by
      have := (List.getElem?_eq_some_iff.1 e).1
      simpa using this
     rw [hp0] at e
     simp only [List.getElem?_cons_zero, Option.some.injEq] at e
     subst e
     have hpe : p = acc.length := by omega
     subst hpe
     obtain ⟨ed, h1, h2, h3⟩ := ancOf_bit hj
     have hb := hc 0 o rfl (by simpa using hD) ed (by simpa using h1) h2
     rcases h3 with rfl | h3
     ·exact hb
     ·rw [List.getD_eq_getElem?_getD] at h3
      cases hq : acc[ed.on]? with
      | none => rw [hq] at h3; simp at h3
      | some y =>
        rw [hq] at h3
        exact h _ y hq hb j (by simpa using h3)
theorem ancs_length : ∀ (L : List Oper) (acc : List Nat), (ancs L acc).length = acc.length + L.length
 | [], acc => by simp [ancs]
 | o :: L, acc => by unfold ancs; rw [ancs_length L]; simp; omega
def PairOk (ops : Array Oper) (anc j : Nat) (o o' : Oper) (e e' : Ent) : Prop := anc.testBit j = true ∨ (indep e e' = true /\ apartB ops o o' = true)
theorem againstB_spec {anc : Nat} {o : Oper} {e : Ent} : ∀ {l : List (Nat × Oper × Ent)}, againstB ops anc o e l = true -> ∀ j o' e', (j, o', e') ∈ l -> PairOk ops anc j o o' e e'
 | [], _, _, _, _, h => by cases h
 | (i, x, y) :: r, h, j, o', e', hm => by
   simp only [againstB, Bool.and_eq_true] at h
   rcases List.mem_cons.1 hm with hm | hm
   ·have h0 := h.1
    have hj : j = i := congrArg (fun x : Nat × Oper × Ent => x.1) hm
    have ho : o' = x := congrArg (fun x : Nat × Oper × Ent => x.2.1) hm
    have he : e' = y := congrArg (fun x : Nat × Oper × Ent => x.2.2) hm
    rw [hj, ho, he]
    cases hb : Nat.testBit anc i with
    | true => exact .inl hb
    | false =>
      rw [hb] at h0
      exact .inr (by simpa using h0)
   ·exact againstB_spec h.2 j o' e' hm
theorem pairsB_spec : ∀ {as : List Nat} {L : List Oper} {es : List Ent} {i : Nat} {before : List (Nat × Oper × Ent)}, pairsB ops as (number3 i L es) before = true -> ∀ p a o e, as[p]? = some a -> L[p]? = some o -> es[p]? = some e ->
 (∀ j o' e', (j, o', e') ∈ before -> PairOk ops a j o o' e e') /\ ∀ q o' e', q < p -> L[q]? = some o' -> es[q]? = some e' -> PairOk ops a (i + q) o o' e e'
 | [], _, _, _, _, _, _, _, _, _, h, _, _ => by simp at h
 | _ :: _, [], _, _, _, _, _, _, _, _, _, h, _ => by simp at h
 | _ :: _, _ :: _, [], _, _, _, _, _, _, _, _, _, h => by simp at h
 | a0 :: as, o0 :: L, e0 :: es, i, before, h, p, a, o, e, h1, h2, h3 => by
   simp only [number3, pairsB, Bool.and_eq_true] at h
   cases p with
   | zero =>
     simp only [List.getElem?_cons_zero, Option.some.injEq] at h1 h2 h3
     subst h1; subst h2; subst h3
     exact ⟨againstB_spec h.1, fun q _ _ hq => by omega⟩
   | succ p =>
     obtain ⟨h4, h5⟩ := pairsB_spec h.2 p a o e (by simpa using h1) (by simpa using h2) (by simpa using h3)
     refine ⟨fun j o' e' hm => h4 j o' e' (List.mem_cons_of_mem _ hm), fun q o' e' hq g1 g2 => ?_⟩
     cases q with
     | zero =>
       simp only [List.getElem?_cons_zero, Option.some.injEq] at g1 g2
       subst g1; subst g2
       exact h4 i o0 e0 (List.mem_cons_self ..)
     | succ q =>
       have := h5 q o' e' (by omega) (by simpa using g1) (by simpa using g2)
       rw [show i + (q + 1) = i + 1 + q by omega]
       exact this
theorem edgesB_spec : ∀ {L : List Oper} {i : Nat}, edgesB i L = true -> ∀ p o, L[p]? = some o -> ∀ e ∈ o.after, Region.binds .any e = true -> e.on < i + p
 | [], _, _, _, _, h, _, _, _ => by simp at h
 | o0 :: L, i, h, p, o, ho, e, he, hb => by
   simp only [edgesB, Bool.and_eq_true, List.all_eq_true] at h
   cases p with
   | zero =>
     simp only [List.getElem?_cons_zero, Option.some.injEq] at ho
     subst ho
     have := h.1 e (by simpa using he)
     rw [hb] at this
     simpa [Nat.blt_eq] using this
   | succ p =>
     have := edgesB_spec h.2 p o (by simpa using ho) e he hb
     omega
theorem disj_spec : ∀ {l l' : List Nat}, disj l l' = true -> ∀ k ∈ l, k ∉ l'
 | [], _, _, _, h => by cases h
 | x :: r, l', h, k, hk => by
   unfold disj at h
   split at h
   ·cases h
   ·rename_i hx
    rcases List.mem_cons.1 hk with rfl | hk
    ·exact hasN_false hx
    ·exact disj_spec h k hk
structure Indep (a b : Ent) : Prop where
 fu : ∀ k ∈ a.fp, k ∉ b.up
 uf : ∀ k ∈ b.fp, k ∉ a.up
 uu : ∀ k ∈ a.up, k ∉ b.up
theorem indep_spec {a b : Ent} (h : indep a b = true) : Indep a b := by
 simp only [indep, Bool.and_eq_true] at h
 exact ⟨disj_spec h.1.1, disj_spec h.1.2, disj_spec h.2⟩
structure Apart (ops : Array Oper) (x y : Oper) : Prop where
 xy : ∀ d, x.dst = some d -> d ∉ looks ops y
 yx : ∀ d, y.dst = some d -> d ∉ looks ops x
 dd : ∀ d, x.dst = some d -> y.dst ≠ some d
theorem apart_spec {x y : Oper} (h : apartB ops x y = true) : Apart ops x y := by
 simp only [apartB, Bool.and_eq_true] at h
 refine ⟨fun d hd => ?_, fun d hd => ?_, fun d hd hd' => ?_⟩
 ·have := h.1.1
  rw [hd] at this
  exact hasN_false (by simpa using this)
 ·have := h.1.2
  rw [hd] at this
  exact hasN_false (by simpa using this)
 ·have := h.2
  rw [hd, hd'] at this
  simp at this
structure Both (ops : Array Oper) (E : Nat -> Ent) (i j : Nat) : Prop where
 ind : Indep (E i) (E j)
 apart : ∀ o o', ops[i]? = some o -> ops[j]? = some o' -> Apart ops o o'
theorem draw_spec {E : Nat -> Ent} (h : drawOk ops (((List.range ops.size).map E).reverse ++ []) = true) :
 (∀ (D : Nat -> Bool), (∀ i o, ops[i]? = some o -> D i = true -> bound D o) -> ∀ i j, j < i -> i < ops.size -> D i = true -> D j = false -> Both ops E i j) /\
 (∀ i o, ops[i]? = some o -> ∀ e ∈ o.after, Region.binds .any e = true -> e.on < i) /\ ∀ i, i < ops.size -> (E i).kb = true := by
 simp only [drawOk, List.append_nil, List.reverse_reverse, Bool.and_eq_true] at h
 obtain ⟨⟨h1, h2⟩, h3⟩ := h
 refine ⟨?_, ?_, ?_⟩
 ·intro D hD i j hj hi hDi hDj
  have hlen : i < (ancs ops.toList []).length := by rw [ancs_length]; simpa using hi
  have ha := List.getElem?_eq_getElem hlen
  have hoi : ops.toList[i]? = some ops[i] := by rw [Array.getElem?_toList]; exact Array.getElem?_eq_getElem hi
  have hoj : ops.toList[j]? = some ops[j] := by rw [Array.getElem?_toList]; exact Array.getElem?_eq_getElem (by omega)
  have hei : ((List.range ops.size).map E)[i]? = some (E i) := by simp [hi]
  have hej : ((List.range ops.size).map E)[j]? = some (E j) := by rw [List.getElem?_map, List.getElem?_range (by omega)]; rfl
  have := (pairsB_spec h1 i _ _ _ ha hoi hei).2 j _ _ hj hoj hej
  rw [Nat.zero_add] at this
  rcases this with hb | ⟨hb1, hb2⟩
  ·have := ancs_bit (D := D) ops.toList [] (fun i o e hd => hD i o (by rw [<- Array.getElem?_toList]; exact e) (by simpa using hd)) (fun p x e => by simp at e) i _ ha hDi j hb
   rw [hDj] at this
   cases this
  ·refine ⟨indep_spec hb1, fun o o' e e' => ?_⟩
   rw [Array.getElem?_eq_getElem hi] at e
   rw [Array.getElem?_eq_getElem (by omega)] at e'
   cases e; cases e'
   exact apart_spec hb2
 ·intro i o ho e he hb
  have := edgesB_spec h2 i o (by rw [Array.getElem?_toList]; exact ho) e he hb
  omega
 ·intro i hi
  have := List.all_eq_true.1 h3 (E i) (by
   rw [List.mem_reverse, List.mem_map]
   exact ⟨i, by simpa using hi, rfl⟩)
  exact this
end
def cnt (D : Nat -> Bool) : Nat -> Nat
 | 0 => 0
 | i + 1 => (if D i = true then 0 else 1) + cnt D i
theorem cnt_zero {D : Nat -> Bool} : ∀ {N : Nat}, cnt D N = 0 -> ∀ i, i < N -> D i = true
 | 0, _, _, h => by omega
 | N + 1, h, i, hi => by
   simp only [cnt] at h
   by_cases e : D N = true
   ·rw [if_pos e] at h
    by_cases hN : i = N
    ·subst hN; exact e
    ·exact cnt_zero (N := N) (D := D) (by omega) i (by omega)
   ·rw [if_neg e] at h; omega
theorem cnt_congr {D D' : Nat -> Bool} : ∀ {N : Nat}, (∀ i, i < N -> D i = D' i) -> cnt D N = cnt D' N
 | 0, _ => rfl
 | N + 1, h => by
   simp only [cnt]
   rw [h N (by omega), cnt_congr fun i hi => h i (by omega)]
theorem cnt_add {D : Nat -> Bool} {i : Nat} (hi : D i = false) : ∀ {N : Nat}, i < N -> cnt (addD D i) N + 1 = cnt D N
 | 0, h => by omega
 | N + 1, h => by
   simp only [cnt]
   by_cases hN : i = N
   ·subst hN
    rw [addD_self, hi, cnt_congr (D' := D) fun j hj => addD_ne (by omega)]
    simp; omega
   ·have := cnt_add hi (N := N) (by omega)
    rw [addD_ne (fun e => hN e.symm)]
    omega
section
variable {P : Program} {Γ : Env} {z : Start} {ops : Array Oper} {Q : Exit -> Act -> World -> Prop} {F : Nat -> FS} {E : Nat -> Ent} {X : Nat -> Res}
structure Rgn (Γ : Env) (ops : Array Oper) (F : Nat -> FS) (E : Nat -> Ent) (X : Nat -> Res) : Prop where
 step : ∀ i o, ops[i]? = some o -> StepR Γ ops o (F i) (E i) (X i) (F (i + 1))
 both : ∀ (D : Nat -> Bool), (∀ i o, ops[i]? = some o -> D i = true -> bound D o) -> ∀ i j, j < i -> i < ops.size -> D i = true -> D j = false -> Both ops E i j
 edge : ∀ i o, ops[i]? = some o -> ∀ e ∈ o.after, Region.binds .any e = true -> e.on < i
 kb : ∀ i, i < ops.size -> (E i).kb = true
abbrev TX (ops : Array Oper) (F : Nat -> FS) (X : Nat -> Res) (D : Nat -> Bool) : Nat -> V := TD (F 0).T (gtmp ops) (fun i => (X i).v) D ops.size
abbrev GX (ops : Array Oper) (F : Nat -> FS) (X : Nat -> Res) (D : Nat -> Bool) : Get := GD (F 0).G (fun i => (X i).upd) D ops.size
theorem gtmp_of {i : Nat} {o : Oper} (h : ops[i]? = some o) : gtmp ops i = o.dst := by unfold gtmp; rw [h]; rfl
theorem Rgn.up (R : Rgn Γ ops F E X) {i : Nat} {o : Oper} (h : ops[i]? = some o) : (E i).up = (X i).upd.map (·.1) := by
 have hs := R.step i o h
 cases hr : (X i).run with
 | true => obtain ⟨_, out, _, _, _, h4, _, h6⟩ := hs.exec hr; rw [h6, h4]
 | false => obtain ⟨_, _, h4, _, h6⟩ := hs.skip hr; rw [h6, h4]; rfl
theorem Rgn.T (R : Rgn Γ ops F E X) : ∀ i, i <= ops.size -> (F i).T = TD (F 0).T (gtmp ops) (fun i => (X i).v) (fun _ => true) i
 | 0, _ => rfl
 | i + 1, h => by
   have ho : ops[i]? = some ops[i] := Array.getElem?_eq_getElem (by omega)
   rw [(R.step i _ ho).T, R.T i (by omega)]
   funext t
   simp only [TD, putT, gtmp_of ho, true_and]
theorem Rgn.G (R : Rgn Γ ops F E X) : ∀ i, i <= ops.size -> (F i).G = GD (F 0).G (fun i => (X i).upd) (fun _ => true) i
 | 0, _ => rfl
 | i + 1, h => by
   have ho : ops[i]? = some ops[i] := Array.getElem?_eq_getElem (by omega)
   rw [(R.step i _ ho).G, R.G i (by omega)]
   simp only [GD, if_true]
theorem Rgn.n1 (R : Rgn Γ ops F E X) {i : Nat} (h : i < ops.size) : (F i).n <= (F (i + 1)).n := by
 have ho : ops[i]? = some ops[i] := Array.getElem?_eq_getElem h
 have hs := R.step i _ ho
 cases hr : (X i).run with
 | true =>
   obtain ⟨_, out, _, _, _, _, h5, h6⟩ := hs.exec hr
   have := R.kb i h
   rw [h6] at this
   simp only [kbOp, Bool.and_eq_true] at this
   rw [h5]
   simpa using this.1.1.1
 | false => obtain ⟨_, _, _, h5, _⟩ := hs.skip hr; omega
theorem Rgn.n (R : Rgn Γ ops F E X) {i : Nat} : ∀ {j : Nat}, i <= j -> j <= ops.size -> (F i).n <= (F j).n
 | 0, h, _ => by
   have : i = 0 := by omega
   subst this; exact Nat.le_refl _
 | j + 1, h, h' => by
   by_cases e : i = j + 1
   ·subst e; exact Nat.le_refl _
   ·exact Nat.le_trans (R.n (j := j) (by omega) (by omega)) (R.n1 (by omega))
def Closed (ops : Array Oper) (D : Nat -> Bool) : Prop := ∀ i o, ops[i]? = some o -> D i = true -> bound D o
theorem Closed.add {D : Nat -> Bool} (h : Closed ops D) {i : Nat} {o : Oper} (hi : ops[i]? = some o) (hb : bound D o) : Closed ops (addD D i) := by
 intro j o' hj hD e he hbb
 by_cases hji : j = i
 ·subst hji
  rw [hi] at hj; cases hj
  simp [addD, hb e he hbb]
 ·rw [addD_ne hji] at hD
  simp [addD, h j o' hj hD e he hbb]
theorem Rgn.lookT (R : Rgn Γ ops F E X) {D : Nat -> Bool} {i : Nat} {o : Oper} (hc : Closed ops D) (hi : ops[i]? = some o) (hb : bound D o) (hD : D i = false) {t : Nat} (ht : t ∈ looks ops o) : TX ops F X D t = (F i).T t := by
 have hlt : i < ops.size := (Array.getElem?_eq_some_iff.1 hi).1
 rw [R.T i (by omega), <- TD_past (T0 := (F 0).T) (dst := gtmp ops) (vs := fun i => (X i).v) (t := t) ops.size (by omega)]
 refine TD_congr _ fun p hp e => ?_
 have hop : ops[p]? = some ops[p] := Array.getElem?_eq_getElem hp
 rw [gtmp_of hop] at e
 rcases Nat.lt_trichotomy p i with h | h | h
 ·rw [show Nat.blt p i = true by simpa [Nat.blt_eq] using h]
  cases hq : D p with
  | true => rfl
  | false =>
    have := R.both _ (hc.add hi hb) i p h hlt addD_self (by rw [addD_ne (by omega)]; exact hq)
    exact absurd ht ((this.apart _ _ hi hop).yx t e)
 ·subst h
  rw [hD]
  exact (Bool.eq_false_iff.2 fun e => by rw [Nat.blt_eq] at e; omega).symm
 ·rw [show Nat.blt p i = false by
   cases hq : Nat.blt p i with
   | false => rfl
   | true => rw [Nat.blt_eq] at hq; omega]
  cases hq : D p with
  | false => rfl
  | true =>
    have := R.both D hc p i h hp hq hD
    exact absurd ht ((this.apart _ _ hop hi).xy t e)
theorem Rgn.lookG (R : Rgn Γ ops F E X) {D : Nat -> Bool} {i : Nat} {o : Oper} (hc : Closed ops D) (hi : ops[i]? = some o) (hb : bound D o) (hD : D i = false) {k : Nat} (hk : k ∈ (E i).fp) : GX ops F X D k = (F i).G k := by
 have hlt : i < ops.size := (Array.getElem?_eq_some_iff.1 hi).1
 rw [R.G i (by omega), <- GD_past (G0 := (F 0).G) (upd := fun i => (X i).upd) ops.size (by omega)]
 refine GD_congr _ fun p hp e => ?_
 have hop : ops[p]? = some ops[p] := Array.getElem?_eq_getElem hp
 rw [<- R.up hop] at e
 rcases Nat.lt_trichotomy p i with h | h | h
 ·rw [show Nat.blt p i = true by simpa [Nat.blt_eq] using h]
  cases hq : D p with
  | true => rfl
  | false =>
    have := R.both _ (hc.add hi hb) i p h hlt addD_self (by rw [addD_ne (by omega)]; exact hq)
    exact absurd e (this.ind.fu k hk)
 ·subst h
  rw [hD]
  exact (Bool.eq_false_iff.2 fun e => by rw [Nat.blt_eq] at e; omega).symm
 ·rw [show Nat.blt p i = false by
   cases hq : Nat.blt p i with
   | false => rfl
   | true => rw [Nat.blt_eq] at hq; omega]
  cases hq : D p with
  | false => rfl
  | true =>
    have := R.both D hc p i h hp hq hD
    exact absurd e (this.ind.uf k hk)
theorem Rgn.addT (R : Rgn Γ ops F E X) {D : Nat -> Bool} {i : Nat} {o : Oper} (hc : Closed ops D) (hi : ops[i]? = some o) (hD : D i = false) : TX ops F X (addD D i) = putT (TX ops F X D) o.dst (X i).v := by
 have hlt : i < ops.size := (Array.getElem?_eq_some_iff.1 hi).1
 funext t
 rw [<- gtmp_of hi]
 refine TD_add hD _ hlt fun p h1 h2 h3 t e e' => ?_
 have hop : ops[p]? = some ops[p] := Array.getElem?_eq_getElem h2
 rw [gtmp_of hi] at e
 rw [gtmp_of hop] at e'
 exact ((R.both D hc p i h1 h2 h3 hD).apart _ _ hop hi).dd t e' e
theorem Rgn.addG (R : Rgn Γ ops F E X) {D : Nat -> Bool} {i : Nat} {o : Oper} (hc : Closed ops D) (hi : ops[i]? = some o) (hD : D i = false) : GX ops F X (addD D i) = getU (X i).upd (GX ops F X D) := by
 have hlt : i < ops.size := (Array.getElem?_eq_some_iff.1 hi).1
 funext k
 refine GD_add hD _ hlt fun p h1 h2 h3 e e' => ?_
 have hop : ops[p]? = some ops[p] := Array.getElem?_eq_getElem h2
 rw [<- R.up hi] at e
 rw [<- R.up hop] at e'
 exact (R.both D hc p i h1 h2 h3 hD).ind.uu k e' e
structure DS (P : Program) (Γ : Env) (z : Start) (ops : Array Oper) (F : Nat -> FS) (X : Nat -> Res) (D : Nat -> Bool) (β : Bt) (K : Ks) (a : Act) (w : World) : Prop where
 tmp : ∀ t, VR β K (TX ops F X D t) (a.tmps.getD t undef)
 nt : a.tmps.size = Γ.nt
 defers : a.defers = []
 kok : KOK K w
 mr : MR β K (GX ops F X D) w
 dom : ∀ k, β k ≠ none -> k < (F 0).n ∨ ∃ i, i < ops.size /\ D i = true /\ (F i).n <= k /\ k < (F (i + 1)).n
 kle : KLe z.K K
 knew : ∀ b arr, K b = some arr -> z.K b = some arr ∨ z.S b ∨ z.w.heap.size <= b
 fr : Fr z.J z.w w
 own : ∀ x, Own β (GX ops F X D) x -> z.S x ∨ z.w.heap.size <= x
 ble : ∀ k h, k < z.m -> z.β k = some h -> β k = some h
 le : z.m <= (F 0).n
theorem DS.free (R : Rgn Γ ops F E X) {D : Nat -> Bool} {β : Bt} {K : Ks} {a : Act} {w : World} (h : DS P Γ z ops F X D β K a w) {i : Nat} (hi : i < ops.size) (hD : D i = false) : ∀ k, (F i).n <= k -> k < (F (i + 1)).n -> β k = none := by
 intro k h1 h2
 cases hq : β k with
 | none => rfl
 | some y =>
   exfalso
   rcases h.dom k (by rw [hq]; simp) with h3 | ⟨j, h3, h4, h5, h6⟩
   ·have := R.n (i := 0) (j := i) (by omega) (by omega)
    omega
   ·rcases Nat.lt_trichotomy j i with h7 | h7 | h7
    ·have := R.n (i := j + 1) (j := i) (by omega) (by omega)
     omega
    ·subst h7; rw [hD] at h4; cases h4
    ·have := R.n (i := i + 1) (j := j) (by omega) (by omega)
     omega
theorem DS.step {Γ' : Env} (env : EnvOK P Γ') (R : Rgn Γ ops F E X) {D : Nat -> Bool} {β : Bt} {K : Ks} {a : Act} {w : World} (h : DS P Γ z ops F X D β K a w) (hc : Closed ops D) {i : Nat} {o : Oper} (hi : ops[i]? = some o) (heq : ∀ T G n, act Γ o (valT T) G n = act Γ' o (valT T) G n) (hb : bound D o) (hD : D i = false)
 {next : Act -> World -> Prop} (hn : ∀ β K a w, DS P Γ z ops F X (addD D i) β K a w -> next a w) : wpOp P ops Q i next a w := by
 have hlt : i < ops.size := (Array.getElem?_eq_some_iff.1 hi).1
 have hs := R.step i o hi
 have hlook : ∀ t, t ∈ looks ops o -> VR β K ((F i).T t) (a.tmps.getD t undef) := fun t ht => by rw [<- R.lookT hc hi hb hD ht]; exact h.tmp t
 have hw := wanted_run (β := β) (K := K) (a := a) (T := (F i).T) hs fun g want t hg ht => hlook t (by
  unfold looks
  rw [hg]
  dsimp only
  unfold gtmp at ht
  rw [ht]
  exact List.mem_append_right _ (List.mem_singleton.2 rfl))
 unfold wpOp
 rw [hi]
 dsimp only
 rw [hw]
 cases hr : (X i).run with
 | true =>
   rw [if_pos rfl]
   left
   obtain ⟨_, out, h1, h2, h3, h4, h5, h6⟩ := hs.exec hr
   have hkb := R.kb i hlt
   have hfp : (E i).fp = fpOp o (valT (F i).T) (F i).G := by rw [h6]
   rw [h6] at hkb
   dsimp only at hkb
   rw [heq] at h1
   refine one_ok (Gc := GX ops F X D) (β := β) (K := K) env h1 h2 hkb (fun k hk => R.lookG hc hi hb hD (by rw [hfp]; exact hk)) h.kok h.mr (by rw [<- h5]; exact h.free R hlt hD) ?_ _ _ fun v w' hp => ?_
   ·intro x hx
    cases x with
    | tmp t =>
      refine hlook t ?_
      unfold looks looksO
      exact List.mem_append_left _ (List.mem_filterMap.2 ⟨.tmp t, by simpa using hx, rfl⟩)
    | const v => exact constV_ok v
    | global g => exact pois_VR
    | func f => exact ⟨[], rfl, trivial⟩
   ·obtain ⟨β', K', hp⟩ := hp
    obtain ⟨g1, g2, g3⟩ := tmp_put (Γ := Γ) (d := o.dst) (x := out.v) (v := v) h.tmp hp.ble hp.kle h.nt hs.dst hp.vr
    refine hn β' K' _ _ ⟨?_, g2, g3.trans h.defers, hp.kok, ?_, ?_, h.kle.trans hp.kle, ?_, ?_, ?_, fun k y hk e => hp.ble _ _ (h.ble k y hk e), h.le⟩
    ·rw [R.addT hc hi hD, h3]; exact g1
    ·rw [R.addG hc hi hD, h4]; exact hp.mr
    ·intro k hk
     rcases hp.dom k hk with h7 | ⟨h7, h8⟩
     ·rcases h.dom k h7 with h9 | ⟨j, h9, h10, h11⟩
      ·exact .inl h9
      ·exact .inr ⟨j, h9, by simp [addD, h10], h11⟩
     ·exact .inr ⟨i, hlt, addD_self, h7, by rw [h5]; exact h8⟩
    ·intro b arr e
     rcases hp.knew b arr e with h7 | h7 | h7
     ·exact h.knew b arr h7
     ·exact .inr (h.own b h7)
     ·exact .inr (.inr (Nat.le_trans h.fr.size h7))
    ·exact h.fr.trans hp.fr (jsub h.own h.knew)
    ·intro x hx
     rw [R.addG hc hi hD, h4] at hx
     rcases hp.own x hx with h7 | h7
     ·exact h.own x h7
     ·exact .inr (Nat.le_trans h.fr.size h7)
 | false =>
   rw [if_neg (by simp)]
   obtain ⟨_, h1, h2, h3, _⟩ := hs.skip hr
   obtain ⟨g1, g2, g3⟩ := tmp_put (Γ := Γ) (d := o.dst) (x := .tup []) (v := undef) h.tmp (BLe.refl β) (KLe.refl K) h.nt hs.dst ⟨#[], rfl, trivial⟩
   have hG : GX ops F X (addD D i) = GX ops F X D := by rw [R.addG hc hi hD, h2]; rfl
   refine hn β K _ _ ⟨?_, g2, g3.trans h.defers, h.kok, by rw [hG]; exact h.mr, ?_, h.kle, h.knew, h.fr, by rw [hG]; exact h.own, h.ble, h.le⟩
   ·rw [R.addT hc hi hD, h1]; exact g1
   ·intro k hk
    rcases h.dom k hk with h9 | ⟨j, h9, h10, h11⟩
    ·exact .inl h9
    ·exact .inr ⟨j, h9, by simp [addD, h10], h11⟩
theorem DS.all (R : Rgn Γ ops F E X) {D : Nat -> Bool} {β : Bt} {K : Ks} {a : Act} {w : World} (h : DS P Γ z ops F X D β K a w) (hD : ∀ i, i < ops.size -> D i = true) : SRf P Γ z β K (F ops.size) a w := by
 have hT : TX ops F X D = (F ops.size).T := by
  rw [R.T _ (Nat.le_refl _)]
  funext t
  exact TD_congr _ fun p hp _ => hD p hp
 have hG : GX ops F X D = (F ops.size).G := by
  rw [R.G _ (Nat.le_refl _)]
  funext t
  exact GD_congr _ fun p hp _ => hD p hp
 refine ⟨by rw [<- hT]; exact h.tmp, h.nt, h.defers, h.kok, by rw [<- hG]; exact h.mr, ?_, h.kle, h.knew, h.fr, by rw [<- hG]; exact h.own, h.ble, Nat.le_trans h.le (R.n (Nat.zero_le _) (Nat.le_refl _))⟩
 intro k hk
 cases hq : β k with
 | none => rfl
 | some y =>
   exfalso
   rcases h.dom k (by rw [hq]; simp) with h3 | ⟨j, h3, _, _, h6⟩
   ·have := R.n (i := 0) (j := ops.size) (by omega) (Nat.le_refl _)
    omega
   ·have := R.n (i := j + 1) (j := ops.size) (by omega) (Nat.le_refl _)
    omega
theorem region_any (env : EnvOK P Γ) (R : Rgn Γ ops F E X) (hQ : ∀ β K a w, SRf P Γ z β K (F ops.size) a w -> Q .normal a w) :
 ∀ (fuel : Nat) (listed : Array Bool), listed.size = ops.size -> cnt (fun k => listed.getD k false) ops.size <= fuel -> Closed ops (fun k => listed.getD k false) ->
 ∀ β K a w, DS P Γ z ops F X (fun k => listed.getD k false) β K a w -> wpAny P .any ops Q fuel listed a w := by
 have hall : ∀ (listed : Array Bool), listed.size = ops.size -> Region.ready .any ops listed = [] -> ∀ i, i < ops.size -> listed.getD i false = true := by
  intro listed hsz hr i
  induction i using Nat.strongRecOn with
  | _ i ih =>
    intro hi
    cases hq : listed.getD i false with
    | true => rfl
    | false =>
      exfalso
      have ho : ops[i]? = some ops[i] := Array.getElem?_eq_getElem hi
      have : i ∈ Region.ready .any ops listed := by
       rw [mem_ready]
       refine ⟨?_, _, ho, fun e he hb => ?_⟩
       ·have hlt : i < listed.size := by omega
        simp [hlt] at hq ⊢
        exact hq
       ·have hlt := R.edge i _ ho e he hb
        exact ih e.on hlt (by omega)
      rw [hr] at this
      cases this
 intro fuel
 induction fuel with
 | zero =>
   intro listed hsz hc hcl β K a w h
   have hD := cnt_zero (Nat.le_zero.1 hc)
   refine ⟨?_, hQ β K a w (h.all R hD)⟩
   cases hr : Region.ready .any ops listed with
   | nil => rfl
   | cons i r =>
     exfalso
     have hm : i ∈ Region.ready .any ops listed := by rw [hr]; exact List.mem_cons_self ..
     obtain ⟨h1, o, ho, _⟩ := mem_ready.1 hm
     have hlt : i < ops.size := (Array.getElem?_eq_some_iff.1 ho).1
     have h2 := hD i hlt
     have hlt2 : i < listed.size := by omega
     simp [hlt2] at h1 h2
     rw [h1] at h2
     cases h2
 | succ fuel ih =>
   intro listed hsz hc hcl β K a w h
   refine ⟨fun hr => hQ β K a w (h.all R (hall listed hsz hr)), fun i hi => ?_⟩
   obtain ⟨h1, o, ho, h2⟩ := mem_ready.1 hi
   have hlt : i < ops.size := (Array.getElem?_eq_some_iff.1 ho).1
   have hlt2 : i < listed.size := by omega
   have hDi : (fun k => listed.getD k false) i = false := by
    simp [hlt2] at h1 ⊢
    exact h1
   have hD' : (fun k => (listed.setIfInBounds i true).getD k false) = addD (fun k => listed.getD k false) i := by
    funext k
    by_cases hk : k = i
    ·subst hk
     rw [addD_self]
     simp [hlt2]
    ·rw [addD_ne hk]
     exact getD_set_ne false (Ne.symm hk)
   have hbo : bound (fun k => listed.getD k false) o := fun e he hb => h2 e he hb
   refine h.step env R hcl ho (fun _ _ _ => rfl) hbo hDi fun β' K' a' w' h' => ?_
   refine ih (listed.setIfInBounds i true) (by simpa using hsz) ?_ ?_ β' K' a' w' (by rw [hD']; exact h')
   ·rw [hD']
    have := cnt_add (D := fun k => listed.getD k false) hDi hlt
    omega
   ·rw [hD']
    exact hcl.add ho hbo
theorem DS.start (R : Rgn Γ ops F E X) {β : Bt} {K : Ks} {a : Act} {w : World} (h : SRf P Γ z β K (F 0) a w) {D : Nat -> Bool} (hD : ∀ i, D i = false) : DS P Γ z ops F X D β K a w := by
 have hT : ∀ N t, TD (F 0).T (gtmp ops) (fun i => (X i).v) D N t = (F 0).T t := by
  intro N t
  induction N with
  | zero => rfl
  | succ N ih => simp only [TD, hD N, Bool.false_eq_true, false_and, if_false]; exact ih
 have hG : ∀ N, GD (F 0).G (fun i => (X i).upd) D N = (F 0).G := by
  intro N
  induction N with
  | zero => rfl
  | succ N ih => simp only [GD, hD N, Bool.false_eq_true, if_false]; exact ih
 refine ⟨fun t => by rw [show TX ops F X D t = (F 0).T t from hT _ t]; exact h.tmp t, h.nt, h.defers, h.kok, by rw [show GX ops F X D = (F 0).G from hG _]; exact h.mr, ?_, h.kle, h.knew, h.fr, by rw [show GX ops F X D = (F 0).G from hG _]; exact h.own, h.ble, h.le⟩
 intro k hk
 left
 rcases Nat.lt_or_ge k (F 0).n with h1 | h1
 ·exact h1
 ·exact absurd (h.fresh k h1) hk
end
theorem MR.ren {β β' : Bt} {K : Ks} {get get' : Get} {w : World} {σ : Nat -> Option Nat} (h : MR β K get w) (hσ : ∀ k k' h, σ k = some k' -> β k = some h -> β' k' = some h)
 (hs : ∀ k' b', get' k' = some b' -> ∃ k b, σ k = some k' /\ get k = some b /\ renB σ b = some b') : MR β' K get' w := by
 refine ⟨fun k' b' e => ?_, fun k k' b b' y y' x e e' f f' g g' => ?_, fun k' b' y x e f g => ?_⟩
 ·obtain ⟨k, b, h1, h2, h3⟩ := hs k' b' e
  obtain ⟨y, h4, h5⟩ := h.blk k b h2
  exact ⟨y, hσ _ _ _ h1 h4, renB_ok hσ h3 h5⟩
 ·obtain ⟨j, c, h1, h2, _⟩ := hs k b e
  obtain ⟨j', c', h1', h2', _⟩ := hs k' b' e'
  obtain ⟨u, h4, _⟩ := h.blk j c h2
  obtain ⟨u', h4', _⟩ := h.blk j' c' h2'
  have h5 := hσ _ _ _ h1 h4
  have h5' := hσ _ _ _ h1' h4'
  rw [f] at h5; rw [f'] at h5'
  cases h5; cases h5'
  have := h.sep j j' c c' _ _ x h2 h2' h4 h4' g g'
  subst this
  rw [h1] at h1'
  cases h1'
  rfl
 ·obtain ⟨j, c, h1, h2, _⟩ := hs k' b' e
  obtain ⟨u, h4, _⟩ := h.blk j c h2
  have h5 := hσ _ _ _ h1 h4
  rw [f] at h5; cases h5
  exact h.ro j c _ x h2 h4 g
theorem Own.ren {β β' : Bt} {K : Ks} {get get' : Get} {w : World} {σ : Nat -> Option Nat} (h : MR β K get w) (hσ : ∀ k k' h, σ k = some k' -> β k = some h -> β' k' = some h)
 (hs : ∀ k' b', get' k' = some b' -> ∃ k b, σ k = some k' /\ get k = some b /\ renB σ b = some b') {x : Nat} (ho : Own β' get' x) : Own β get x := by
 obtain ⟨k', b', y, e, f, g⟩ := ho
 obtain ⟨j, c, h1, h2, _⟩ := hs k' b' e
 obtain ⟨u, h4, _⟩ := h.blk j c h2
 have h5 := hσ _ _ _ h1 h4
 rw [f] at h5; cases h5
 exact ⟨j, c, _, h2, h4, g⟩
theorem upFrom_eq : ∀ (l : List Nat) (m : Nat), upFrom l m = l.filter fun k => Nat.ble m k
 | [], _ => rfl
 | k :: r, m => by
   unfold upFrom
   cases h : Nat.ble m k with
   | true => rw [List.filter_cons_of_pos (by exact h), upFrom_eq r m]
   | false => rw [List.filter_cons_of_neg (by rw [h]; simp), upFrom_eq r m]
theorem indexN_of : ∀ {ks : List Nat} {k i p : Nat}, ks.Nodup -> ks[p]? = some k -> indexN ks k i = some (i + p)
 | [], _, _, _, _, h => by simp at h
 | x :: r, k, i, 0, hn, h => by
   simp only [List.getElem?_cons_zero, Option.some.injEq] at h
   subst h
   simp [indexN]
 | x :: r, k, i, p + 1, hn, h => by
   simp only [List.getElem?_cons_succ] at h
   have hne : x ≠ k := fun e => by
    subst e
    exact (List.nodup_cons.1 hn).1 (List.mem_of_getElem? h)
   simp only [indexN, nbeq_ne hne]
   rw [indexN_of (List.nodup_cons.1 hn).2 h]
   congr 1
   omega
def renBt (β : Bt) (rest : List Nat) (m : Nat) : Bt := fun k => if k < m then β k else (rest[k - m]?).bind β
theorem renBt_ok {β : Bt} {rest : List Nat} {m : Nat} : ∀ k k' h, newKey rest m k = some k' -> β k = some h -> renBt β rest m k' = some h := by
 intro k k' h e hb
 unfold newKey at e
 split at e
 ·rename_i hlt
  cases e
  unfold renBt
  rw [if_pos (by simpa [Nat.blt_eq] using hlt)]
  exact hb
 ·obtain ⟨p, h1, h2⟩ := indexN_spec e
  unfold renBt
  rw [if_neg (by omega)]
  have : k' - m = p := by omega
  rw [this, h2]
  exact hb
theorem renBt_lt {β : Bt} {rest : List Nat} {m k : Nat} (h : k < m) : renBt β rest m k = β k := if_pos h
theorem renBt_ge {β : Bt} {rest : List Nat} {m k : Nat} (h : m + rest.length <= k) : renBt β rest m k = none := by
 unfold renBt
 rw [if_neg (by omega), List.getElem?_eq_none (by omega)]
 rfl
theorem memOf_look {get : Get} {σ : Nat -> Option Nat} : ∀ {ks : List Nat} {l : List (Nat × Option Blk)}, memOf get σ ks = some l -> ∀ k' b', look l k' = some (some b') -> ∃ k b, σ k = some k' /\ get k = some b /\ renB σ b = some b'
 | [], l, h, k', b', e => by simp only [memOf, Option.some.injEq] at h; subst h; simp [look] at e
 | k :: r, l, h, k', b', e => by
   simp only [memOf] at h
   split at h
   ·rename_i j b l' h1 h2 h3
    cases h
    simp only [look] at e
    split at e
    ·rename_i hj
     have := nbeq_eq hj
     subst this
     cases e
     cases hg : get k with
     | none => rw [hg] at h2; simp [renOB] at h2
     | some b0 =>
       rw [hg] at h2
       simp only [renOB, Option.map_eq_some_iff, Option.some.injEq] at h2
       obtain ⟨b1, h4, h5⟩ := h2
       exact ⟨k, b0, h1, hg, by rw [h4, h5]⟩
    ·exact memOf_look h3 k' b' e
   ·cases h
theorem live_look {s : St} {σ : Nat -> Option Nat} : ∀ {live : List Nat} {l : List (Nat × V)}, mapO (fun t => (renV σ (s.tmpV t)).map fun v => (t, v)) live = some l -> ∀ t v, look l t = some v -> renV σ (s.tmpV t) = some v
 | [], l, h, t, v, e => by simp only [mapO, Option.some.injEq] at h; subst h; simp [look] at e
 | j :: r, l, h, t, v, e => by
   simp only [mapO] at h
   split at h
   ·rename_i y hy
    split at h
    ·rename_i ys hys
     cases h
     simp only [Option.map_eq_some_iff] at hy
     obtain ⟨u, h1, h2⟩ := hy
     subst h2
     simp only [look] at e
     split at e
     ·rename_i hj
      have := nbeq_eq hj
      subst this
      cases e
      exact h1
     ·exact live_look hys t v e
    ·cases h
   ·cases h
section
variable {P : Program} {Γ : Env} {z : Start}
def SR (P : Program) (Γ : Env) (z : Start) (s : St) (a : Act) (w : World) : Prop := s.m = z.m /\ ∃ β K, SRf P Γ z β K s.fs a w
theorem SRf.still {β : Bt} {K : Ks} {F : FS} {a : Act} {w w' : World} (h : SRf P Γ z β K F a w) (s : Still w w') : SRf P Γ z β K F a w' :=
 ⟨h.tmp, h.nt, h.defers, h.kok.still s, h.mr.still s, h.fresh, h.kle, h.knew, ⟨s.os.trans h.fr.os, s.tape.trans h.fr.tape, s.output.trans h.fr.output, by rw [s.heap]; exact h.fr.size, fun b hb hn => by rw [s.heap]; exact h.fr.block b hb hn⟩, h.own, h.ble, h.le⟩
theorem SRf.turn {β β' : Bt} {K K' : Ks} {F F' : FS} {a : Act} {w : World} (h : SRf P Γ z β K F a w) (hb : ∀ k h, k < z.m -> β k = some h -> β' k = some h) (hk : KLe K K') (kok : KOK K' w)
 (knew : ∀ b arr, K' b = some arr -> K b = some arr ∨ Own β F.G b ∨ w.heap.size <= b) (tmp : ∀ t, VR β' K' (F'.T t) (a.tmps.getD t undef)) (mr : MR β' K' F'.G w) (fresh : ∀ k, F'.n <= k -> β' k = none)
 (own : ∀ x, Own β' F'.G x -> Own β F.G x) (le : F.n <= F'.n) : SRf P Γ z β' K' F' a w :=
 ⟨tmp, h.nt, h.defers, kok, mr, fresh, h.kle.trans hk, fun b arr e => by
  rcases knew b arr e with h1 | h1 | h1
  ·exact h.knew b arr h1
  ·exact .inr (h.own b h1)
  ·exact .inr (.inr (Nat.le_trans h.fr.size h1)), h.fr, fun x hx => h.own x (own x hx), fun k y hk e => hb k y hk (h.ble k y hk e), Nat.le_trans h.le le⟩
theorem get_cons {s : St} {tm : List (Nat × V)} {n : Nat} {l : List (Nat × Option Blk)} {k : Nat} {b : Blk} (h : (St.get { s with tmps := tm, mem := l ++ s.mem, n := n }) k = some b) : getU l s.get k = some b := by
 induction l with
 | nil => exact h
 | cons p l ih =>
   obtain ⟨j, c⟩ := p
   simp only [St.get, List.cons_append, look, getU] at h ih ⊢
   by_cases hj : j = k
   ·subst hj; simpa using h
   ·rw [nbeq_ne hj] at h ⊢; exact ih h
theorem tmp_cons {s : St} {t : Nat} {v : V} {mm : List (Nat × Option Blk)} {n : Nat} (j : Nat) : (St.tmpV { s with tmps := (t, v) :: s.tmps, mem := mm, n := n }) j = if t = j then v else s.tmpV j := by
 unfold St.tmpV
 simp only [look]
 by_cases hj : t = j
 ·subst hj; simp
 ·rw [nbeq_ne hj, if_neg hj]
theorem new_nil {β : Bt} {K : Ks} {s : St} {a : Act} {w : World} (h : SRf P Γ z β K s.fs a w) {ty : Ty} {ad : Option Addr} :
 (∀ k b, s.get k = some b -> k ≠ s.n) /\ BLe β (addB β s.n ⟨.slice ad 0 0, none⟩) /\ (∀ K', CR (addB β s.n ⟨.slice ad 0 0, none⟩) K' (.ref ty s.n) (.slice ad 0 0)) := by
 have hn : β s.n = none := h.fresh s.n (Nat.le_refl _)
 refine ⟨fun k b e e' => ?_, BLe.add _ hn, fun K' => ⟨_, ad, 0, 0, addB_self .., rfl, rfl⟩⟩
 subst e'
 obtain ⟨y, hy, _⟩ := h.mr.blk _ b e
 rw [hn] at hy; cases hy
theorem set_all2 {α γ : Type} {R : α -> γ -> Prop} : ∀ {as : List α} {bs : List γ} {i : Nat} {x : α}, All2 R as bs -> (∀ y, bs[i]? = some y -> R x y) -> All2 R (as.set i x) bs
 | [], _, _, _, h, _ => h
 | _ :: _, [], _, _, h, _ => h.elim
 | a :: as, b :: bs, 0, x, h, hx => ⟨hx b rfl, h.2⟩
 | a :: as, b :: bs, i + 1, x, h, hx => ⟨h.1, set_all2 h.2 fun y hy => hx y hy⟩
theorem view_ok {a : Act} {w : World} (c : Cv) {s : St} (h0 : SR P Γ z s a w) : SR P Γ z (view c s) a w /\ (view c s).m = s.m := by
 have same : SR P Γ z s a w /\ s.m = s.m := ⟨h0, rfl⟩
 obtain ⟨hm, β, K, h⟩ := h0
 have nilSl : ∀ {β : Bt} {K : Ks} {ty : Ty} {u : Value}, CR β K (.nil ty) u -> CR β K (.sl ty []) u := fun {β K ty u} hu => by
  obtain ⟨ad, rfl⟩ := hu
  exact ⟨ad, 0, 0, rfl, rfl, Nat.le_refl _, .inl rfl⟩
 cases c with
 | sl t =>
   unfold view
   dsimp only
   split
   ·rename_i ty ht
    have hv := h.tmp t
    rw [show s.fs.T t = .val (.one (.nil ty)) from ht] at hv
    refine ⟨⟨hm, β, K, h.turn (fun k y _ e => e) (KLe.refl K) h.kok (fun _ _ e => .inl e) (fun j => ?_) h.mr h.fresh (fun x hx => hx) (Nat.le_refl _)⟩, rfl⟩
    show VR β K (St.tmpV { s with tmps := (t, .val (.one (.sl ty []))) :: s.tmps, mem := s.mem, n := s.n } j) _
    rw [tmp_cons]
    split
    ·rename_i hj; subst hj; exact nilSl (β := β) hv
    ·exact h.tmp j
   ·exact same
 | boxSl t off =>
   unfold view
   dsimp only
   split
   ·rename_i k0 o0 ht
    split
    ·rename_i cs hg
     split
     ·rename_i ty hc
      obtain ⟨y0, hy0, bb, arr, T, rfl, hh, hcs⟩ := h.mr.blk k0 _ hg
      obtain ⟨u, hu, hv⟩ := hcs.get? hc
      have hcase : ∀ k b, (St.get { s with mem := (k0, some (.box (cs.set off (.sl ty [])))) :: s.mem }) k = some b -> (k = k0 /\ b = .box (cs.set off (.sl ty []))) ∨ (k ≠ k0 /\ s.get k = some b) := by
       intro k b e
       rcases getU_cons (get_cons (tm := s.tmps) (n := s.n) (l := [(k0, some (.box (cs.set off (.sl ty []))))]) e) with ⟨rfl, e1⟩ | ⟨h1, h2⟩
       ·cases e1; exact .inl ⟨rfl, rfl⟩
       ·exact .inr ⟨h1, h2⟩
      refine ⟨⟨hm, β, K, h.turn (fun k y _ e => e) (KLe.refl K) h.kok (fun _ _ e => .inl e) (fun j => h.tmp j) ?_ h.fresh ?_ (Nat.le_refl _)⟩, rfl⟩
      ·refine h.mr.step (BLe.refl β) (KLe.refl K) fun k b e => ?_
       rcases hcase k b e with ⟨rfl, rfl⟩ | ⟨h1, h3⟩
       ·refine .inr ⟨_, hy0, ⟨bb, arr, T, rfl, hh, set_all2 hcs fun y hy => by rw [hu] at hy; cases hy; exact nilSl hv⟩, fun x hx => ⟨h.mr.ro k _ _ x hg hy0 hx, fun k' b' y' e' f' g' => ?_⟩⟩
        rcases hcase k' b' e' with ⟨rfl, rfl⟩ | ⟨h1, h3⟩
        ·rfl
        ·exact h.mr.sep k' k b' _ y' _ x h3 hg f' hy0 g' hx
       ·exact .inl ⟨h3, fun x y f g => ⟨rfl, h.mr.ro k b y x h3 f g⟩⟩
      ·rintro x ⟨k, b, y, e, f, g⟩
       rcases hcase k b e with ⟨rfl, rfl⟩ | ⟨h1, h3⟩
       ·exact ⟨k, _, y, hg, f, g⟩
       ·exact ⟨k, b, y, h3, f, g⟩
     ·exact same
    ·exact same
   ·exact same
 | forget t =>
   refine ⟨⟨hm, β, K, h.turn (fun k y _ e => e) (KLe.refl K) h.kok (fun _ _ e => .inl e) (fun j => ?_) h.mr h.fresh (fun x hx => hx) (Nat.le_refl _)⟩, rfl⟩
   show VR β K (St.tmpV { s with tmps := (t, pois) :: s.tmps, mem := s.mem, n := s.n } j) _
   rw [tmp_cons]
   split
   ·exact pois_VR
   ·exact h.tmp j
 | nil t =>
   unfold view
   dsimp only
   split
   ·rename_i ty ht
    refine ⟨⟨hm, ?_⟩, rfl⟩
    have hv := h.tmp t
    rw [show s.fs.T t = .val (.one (.nil ty)) from ht] at hv
    obtain ⟨ad, hv⟩ := hv
    obtain ⟨hgn, hle, hcr⟩ := new_nil h (ty := ty) (ad := ad)
    refine ⟨addB β s.n ⟨.slice ad 0 0, none⟩, K, h.turn (fun k y _ e => hle _ _ e) (KLe.refl K) h.kok (fun _ _ e => .inl e) (fun j => ?_) ?_ ?_ ?_ (Nat.le_succ _)⟩
    ·show VR _ K (St.tmpV { s with tmps := (t, .val (.one (.ref ty s.n))) :: s.tmps, mem := (s.n, some (.arr ty [])) :: s.mem, n := s.n + 1 } j) _
     rw [tmp_cons]
     split
     ·rename_i hj; subst hj; rw [hv]; exact hcr K
     ·exact (h.tmp j).mono hle (KLe.refl K)
    ·refine h.mr.step hle (KLe.refl K) fun k b e => ?_
     rcases getU_cons (get_cons (l := [(s.n, some (.arr ty []))]) e) with ⟨rfl, e1⟩ | ⟨h1, h2⟩
     ·cases e1; exact .inr ⟨_, addB_self .., .inl ⟨rfl, ad, rfl⟩, fun x hx => by cases hx⟩
     ·exact .inl ⟨h2, fun x y f g => ⟨rfl, h.mr.ro k b y x h2 f g⟩⟩
    ·intro k hk
     have hk' : s.n + 1 <= k := hk
     rw [addB_ne _ _ (by omega)]
     exact h.fresh k (by show s.n <= k; omega)
    ·rintro x ⟨k, b, y, e, f, g⟩
     rcases getU_cons (get_cons (l := [(s.n, some (.arr ty []))]) e) with ⟨rfl, e1⟩ | ⟨h1, h2⟩
     ·rw [addB_self] at f; cases f; cases g
     ·rw [addB_ne _ _ h1] at f
      exact ⟨k, b, y, h2, f, g⟩
   ·exact same
 | boxNil t off =>
   unfold view
   dsimp only
   split
   ·rename_i k0 o0 ht
    split
    ·rename_i cs hg
     split
     ·rename_i ty hc
      refine ⟨⟨hm, ?_⟩, rfl⟩
      obtain ⟨y0, hy0, bb, arr, T, rfl, hh, hcs⟩ := h.mr.blk k0 _ hg
      obtain ⟨u, hu, ad, hv⟩ := hcs.get? hc
      obtain ⟨hgn, hle, hcr⟩ := new_nil h (ty := ty) (ad := ad)
      have hk0 : k0 ≠ s.n := hgn k0 _ hg
      have hcase : ∀ k b, (St.get { s with mem := (k0, some (.box (cs.set off (.ref ty s.n)))) :: (s.n, some (.arr ty [])) :: s.mem, n := s.n + 1 }) k = some b ->
       (k = k0 /\ b = .box (cs.set off (.ref ty s.n))) ∨ (k = s.n /\ b = .arr ty []) ∨ (k ≠ k0 /\ k ≠ s.n /\ s.get k = some b) := by
       intro k b e
       rcases getU_cons (get_cons (l := [(k0, some (.box (cs.set off (.ref ty s.n)))), (s.n, some (.arr ty []))]) e) with ⟨rfl, e1⟩ | ⟨h1, h2⟩
       ·cases e1; exact .inl ⟨rfl, rfl⟩
       ·rcases getU_cons h2 with ⟨rfl, e1⟩ | ⟨h3, h4⟩
        ·cases e1; exact .inr (.inl ⟨rfl, rfl⟩)
        ·exact .inr (.inr ⟨h1, h3, h4⟩)
      refine ⟨addB β s.n ⟨.slice ad 0 0, none⟩, K, h.turn (fun k y _ e => hle _ _ e) (KLe.refl K) h.kok (fun _ _ e => .inl e) (fun j => (h.tmp j).mono hle (KLe.refl K)) ?_ ?_ ?_ (Nat.le_succ _)⟩
      ·refine h.mr.step hle (KLe.refl K) fun k b e => ?_
       rcases hcase k b e with ⟨rfl, rfl⟩ | ⟨rfl, rfl⟩ | ⟨h1, h2, h3⟩
       ·refine .inr ⟨_, hle _ _ hy0, ⟨bb, arr, T, rfl, hh, set_all2 (hcs.mono fun _ _ => CR.mono hle (KLe.refl K)) fun y hy => ?_⟩, fun x hx => ⟨h.mr.ro k _ _ x hg hy0 hx, fun k' b' y' e' f' g' => ?_⟩⟩
        ·rw [hu] at hy; cases hy; rw [hv]; exact hcr K
        ·rcases hcase k' b' e' with ⟨rfl, rfl⟩ | ⟨rfl, rfl⟩ | ⟨h1, h2, h3⟩
         ·rfl
         ·rw [addB_self] at f'; cases f'; cases g'
         ·rw [addB_ne _ _ h2] at f'
          exact h.mr.sep k' k b' _ y' _ x h3 hg f' hy0 g' hx
       ·exact .inr ⟨_, addB_self .., .inl ⟨rfl, ad, rfl⟩, fun x hx => by cases hx⟩
       ·exact .inl ⟨h3, fun x y f g => ⟨rfl, h.mr.ro k b y x h3 f g⟩⟩
      ·intro k hk
       have hk' : s.n + 1 <= k := hk
       rw [addB_ne _ _ (by omega)]
       exact h.fresh k (by show s.n <= k; omega)
      ·rintro x ⟨k, b, y, e, f, g⟩
       rcases hcase k b e with ⟨rfl, rfl⟩ | ⟨rfl, rfl⟩ | ⟨h1, h2, h3⟩
       ·rw [addB_ne _ _ hk0] at f
        exact ⟨k, _, y, hg, f, g⟩
       ·rw [addB_self] at f; cases f; cases g
       ·rw [addB_ne _ _ h2] at f
        exact ⟨k, b, y, h3, f, g⟩
     ·exact same
    ·exact same
   ·exact same
 | frz t =>
   unfold view
   dsimp only
   split
   ·rename_i u ht
    split
    ·rename_i u' hu
     refine ⟨⟨hm, ?_⟩, rfl⟩
     have hv := h.tmp t
     rw [show s.fs.T t = .val u from ht] at hv
     have hget : ∀ k b, (St.get { s with tmps := (t, .val u') :: s.tmps, mem := gone (keysW u) ++ s.mem }) k = some b -> k ∉ keysW u /\ s.get k = some b := fun k b e => getU_gone (get_cons (n := s.n) e)
     refine ⟨β, frzK β K s.get w (keysW u), h.turn (fun k y _ e => e) frzK_le (frzK_ok h.kok) frzK_new (fun j => ?_) ?_ h.fresh ?_ (Nat.le_refl _)⟩
     ·show VR _ _ (St.tmpV { s with tmps := (t, .val u') :: s.tmps, mem := gone (keysW u) ++ s.mem } j) _
      rw [tmp_cons (n := s.n)]
      split
      ·rename_i hj; subst hj
       exact roW_free h.mr hu hv (fun k hk => hk) β
      ·exact (h.tmp j).mono (BLe.refl β) frzK_le
     ·refine h.mr.step (BLe.refl β) frzK_le fun k b e => ?_
      obtain ⟨h1, h2⟩ := hget k b e
      exact .inl ⟨h2, fun x y f g => ⟨rfl, frzK_none h.mr h2 h1 f g⟩⟩
     ·rintro x ⟨k, b, y, e, f, g⟩
      obtain ⟨h1, h2⟩ := hget k b e
      exact ⟨k, b, y, h2, f, g⟩
    ·exact same
   ·exact same
 | frzBox t =>
   unfold view
   dsimp only
   split
   ·rename_i k0 o0 ht
    split
    ·rename_i cs hg
     split
     ·rename_i cs' hcs'
      split
      ·rename_i hno
       refine ⟨⟨hm, ?_⟩, rfl⟩
       have hno' : k0 ∉ cs.flatMap keysC := fun e => by rw [hasN_iff.2 e] at hno; cases hno
       obtain ⟨y0, hy0, bb, arr, T, rfl, hh, hcs⟩ := h.mr.blk k0 _ hg
       have hcase : ∀ k b, (St.get { s with mem := (k0, some (.box cs')) :: (gone (cs.flatMap keysC) ++ s.mem) }) k = some b -> (k = k0 /\ b = .box cs') ∨ (k ≠ k0 /\ k ∉ cs.flatMap keysC /\ s.get k = some b) := by
        intro k b e
        rcases getU_cons (get_cons (tm := s.tmps) (n := s.n) (l := (k0, some (.box cs')) :: gone (cs.flatMap keysC)) e) with ⟨rfl, e1⟩ | ⟨h1, h2⟩
        ·cases e1; exact .inl ⟨rfl, rfl⟩
        ·obtain ⟨h3, h4⟩ := getU_gone h2
         exact .inr ⟨h1, h3, h4⟩
       refine ⟨β, frzK β K s.get w (cs.flatMap keysC), h.turn (fun k y _ e => e) frzK_le (frzK_ok h.kok) frzK_new (fun j => (h.tmp j).mono (BLe.refl β) frzK_le) ?_ h.fresh ?_ (Nat.le_refl _)⟩
       ·refine h.mr.step (BLe.refl β) frzK_le fun k b e => ?_
        rcases hcase k b e with ⟨rfl, rfl⟩ | ⟨h1, h2, h3⟩
        ·refine .inr ⟨_, hy0, ⟨bb, arr, T, rfl, hh, ?_⟩, fun x hx => ⟨frzK_none h.mr hg hno' hy0 hx, fun k' b' y' e' f' g' => ?_⟩⟩
         ·have := roW_free h.mr (ks := cs.flatMap keysC) (c := .agg cs) (c' := .agg cs') (show (mapO (roC s.get) cs).map W.agg = some (.agg cs') by rw [hcs']; rfl) ⟨arr, rfl, hcs⟩ (fun k hk => hk) β
          obtain ⟨arr', e1, h2⟩ := this
          cases e1
          exact h2
         ·rcases hcase k' b' e' with ⟨rfl, rfl⟩ | ⟨h1, h2, h3⟩
          ·rfl
          ·exact h.mr.sep k' k b' _ y' _ x h3 hg f' hy0 g' hx
        ·exact .inl ⟨h3, fun x y f g => ⟨rfl, frzK_none h.mr h3 h2 f g⟩⟩
       ·rintro x ⟨k, b, y, e, f, g⟩
        rcases hcase k b e with ⟨rfl, rfl⟩ | ⟨h1, h2, h3⟩
        ·exact ⟨k, _, y, hg, f, g⟩
        ·exact ⟨k, b, y, h3, f, g⟩
      ·exact same
     ·exact same
    ·exact same
   ·exact same
 | jnk t =>
   unfold view
   dsimp only
   split
   ·rename_i k ht
    split
    ·rename_i l hg
     refine ⟨⟨hm, ?_⟩, rfl⟩
     have hv := h.tmp t
     rw [show s.fs.T t = .val (.one (.ref (.flt .f32) k)) from ht] at hv
     obtain ⟨y, ad, m, c, hb, hy, hu⟩ := hv
     obtain ⟨y', hb', hbr⟩ := h.mr.blk k _ hg
     rw [hb] at hb'; cases hb'
     have hget : ∀ j b, (St.get { s with tmps := (t, .val (.one (.sl .jnk (l.map fun _ => ())))) :: s.tmps, mem := (k, none) :: s.mem }) j = some b -> j ≠ k /\ s.get j = some b := fun j b e => by
      rcases getU_cons (get_cons (n := s.n) (l := [(k, none)]) e) with ⟨_, e1⟩ | ⟨h1, h2⟩
      ·cases e1
      ·exact ⟨h1, h2⟩
     rcases hbr with ⟨hl0, a', e'⟩ | ⟨b, cap, cur, T, e', hh, h1, h2, h3, h4⟩
     ·subst e'
      cases hy
      subst hl0
      refine ⟨β, K, h.turn (fun k y _ e => e) (KLe.refl K) h.kok (fun _ _ e => .inl e) (fun j => ?_) ?_ h.fresh ?_ (Nat.le_refl _)⟩
      ·show VR _ _ (St.tmpV { s with tmps := (t, .val (.one (.sl .jnk []))) :: s.tmps, mem := (k, none) :: s.mem } j) _
       rw [tmp_cons (n := s.n)]
       split
       ·rename_i hj; subst hj
        rw [hu]
        exact ⟨_, 0, 0, rfl, rfl, Nat.le_refl _, .inl rfl⟩
       ·exact h.tmp j
      ·refine h.mr.step (BLe.refl β) (KLe.refl K) fun j b e => ?_
       obtain ⟨h1, h2⟩ := hget j b e
       exact .inl ⟨h2, fun x y f g => ⟨rfl, h.mr.ro j b y x h2 f g⟩⟩
      ·rintro x ⟨j, b, y, e, f, g⟩
       obtain ⟨h1, h2⟩ := hget j b e
       exact ⟨j, b, y, h2, f, g⟩
     ·subst e'
      cases hy
      have hKb : K b = none := h.mr.ro k _ _ b hg hb rfl
      obtain ⟨K', hK'⟩ : ∃ K' : Ks, K' = fun x => if x = b then some (true, cur) else K x := ⟨_, rfl⟩
      have hKself : K' b = some (true, cur) := by rw [hK']; simp
      have hKne : ∀ x, x ≠ b -> K' x = K x := fun x hx => by rw [hK']; simp [hx]
      have hle : KLe K K' := fun x z e => by
       rw [hKne x (fun e' => by rw [e', hKb] at e; cases e)]
       exact e
      refine ⟨β, K', h.turn (fun k y _ e => e) hle ?_ ?_ (fun j => ?_) ?_ h.fresh ?_ (Nat.le_refl _)⟩
      ·intro x z e
       by_cases hx : x = b
       ·subst hx
        rw [hKself] at e; cases e
        exact ⟨cur, T, (0, 0), hh, KOK.self fun _ => rfl⟩
       ·rw [hKne x hx] at e
        exact h.kok x z e
      ·intro x z e
       by_cases hx : x = b
       ·subst hx
        exact .inr (.inl ⟨k, _, _, hg, hb, rfl⟩)
       ·rw [hKne x hx] at e
        exact .inl e
      ·show VR _ _ (St.tmpV { s with tmps := (t, .val (.one (.sl .jnk (l.map fun _ => ())))) :: s.tmps, mem := (k, none) :: s.mem } j) _
       rw [tmp_cons (n := s.n)]
       split
       ·rename_i hj; subst hj
        rw [hu]
        refine ⟨_, _, _, rfl, by simp, h1, .inr ⟨b, 0, cur, rfl, hKself, fun i hi => ?_⟩⟩
        have hi' : i < l.length := by simpa using hi
        obtain ⟨q, hq, _⟩ := h4 i hi'
        rw [Nat.zero_add]
        exact ⟨q, hq⟩
       ·exact (h.tmp j).mono (BLe.refl β) hle
      ·refine h.mr.step (BLe.refl β) hle fun j c e => ?_
       obtain ⟨e1, e2⟩ := hget j c e
       refine .inl ⟨e2, fun x y f g => ⟨rfl, ?_⟩⟩
       rw [hKne x (fun e' => by subst e'; exact e1 (h.mr.sep j k c _ y _ x e2 hg f hb g rfl))]
       exact h.mr.ro j c y x e2 f g
      ·rintro x ⟨j, c, y, e, f, g⟩
       obtain ⟨e1, e2⟩ := hget j c e
       exact ⟨j, c, y, e2, f, g⟩
    ·exact same
   ·exact same
theorem coerce_ok {a : Act} {w : World} : ∀ (own : List Cv) {s : St}, SR P Γ z s a w -> SR P Γ z (coerce own s) a w /\ (coerce own s).m = s.m
 | [], s, h => ⟨h, rfl⟩
 | c :: r, s, h => by
   obtain ⟨h1, h2⟩ := view_ok c h
   obtain ⟨h3, h4⟩ := coerce_ok r h1
   exact ⟨h3, h4.trans h2⟩
theorem canon_ok {a : Act} {w : World} {live : List Nat} {own : List Cv} {s s' : St} (h : SR P Γ z s a w) (hc : canon live own s = some s') : SR P Γ z s' a w := by
 obtain ⟨h, _⟩ := coerce_ok own h
 simp only [canon] at hc
 generalize coerce own s = s1 at h hc
 generalize hrest : upFrom (reach s1.get reachFuel (upto s1.m ++ live.flatMap fun t => keysV (s1.tmpV t)) (upto 0)) s1.m = rest at hc
 split at hc
 ·rename_i tmps mem h1 h2
  cases hc
  obtain ⟨hm, β, K, h⟩ := h
  have hs : ∀ k' b', St.get { tmps, mem, n := s1.m + rest.length, m := s1.m } k' = some b' -> ∃ k b, newKey rest s1.m k = some k' /\ s1.get k = some b /\ renB (newKey rest s1.m) b = some b' := by
   intro k' b' e
   unfold St.get at e
   dsimp only at e
   refine memOf_look h2 k' b' ?_
   cases hq : look mem k' with
   | none => rw [hq] at e; cases e
   | some x => rw [hq] at e; dsimp only at e; rw [e]
  refine ⟨hm, renBt β rest s1.m, K, ⟨fun t => ?_, h.nt, h.defers, h.kok, h.mr.ren renBt_ok hs, fun k hk => renBt_ge hk, h.kle, h.knew, h.fr, fun x hx => h.own x (hx.ren h.mr renBt_ok hs), fun k y hk e => ?_, ?_⟩⟩
  ·show VR _ K (St.tmpV { tmps, mem, n := s1.m + rest.length, m := s1.m } t) _
   unfold St.tmpV
   dsimp only
   cases hq : look tmps t with
   | none => exact pois_VR
   | some v => exact renV_ok renBt_ok (live_look h1 t v hq) (h.tmp t)
  ·rw [renBt_lt (by rw [hm]; exact hk)]
   exact h.ble k y hk e
  ·show z.m <= s1.m + rest.length
   omega
 ·cases hc
def Lands {R : Type} (P : Program) (Γ : Env) (z : Start) (K : Ex -> St -> Option R) (r : R) : Exit -> Act -> World -> Prop
 | .normal, a, w => ∃ s, SR P Γ z s a w /\ K .normal s = some r
 | .exit i, a, w => ∃ s, SR P Γ z s a w /\ K (.exit i) s = some r
 | .ret, a, w => ∃ s, SR P Γ z s a w /\ K .ret s = some r
 | _, _, _ => False
theorem joinK_ok {R : Type} {cut : Option (List Nat × List Cv)} {K : Ex -> St -> Option R} {r : R} : ∀ e a w, Lands P Γ z (joinK cut K) r e a w -> Lands P Γ z K r e a w := by
 intro e a w h
 cases e with
 | normal =>
   obtain ⟨s, hs, hk⟩ := h
   unfold joinK at hk
   dsimp only at hk
   split at hk
   ·split at hk
    ·rename_i s' hc
     exact ⟨s', canon_ok hs hc, hk⟩
    ·cases hk
   ·exact ⟨s, hs, hk⟩
 | exit i => exact h
 | ret => exact h
 | _ => exact h
theorem blockK_ok {R : Type} {id : Nat} {cut : Option (List Nat × List Cv)} {K : Ex -> St -> Option R} {r : R} : ∀ e a w, Lands P Γ z (blockK id cut K) r e a w -> Exit.inBlock id (Lands P Γ z K r) e a w := by
 intro e a w h
 cases e with
 | normal =>
   obtain ⟨s, hs, hk⟩ := h
   exact joinK_ok (cut := cut) .normal a w ⟨s, hs, hk⟩
 | exit i =>
   obtain ⟨s, hs, hk⟩ := h
   simp only [Exit.inBlock]
   unfold blockK at hk
   dsimp only at hk
   split at hk
   ·rename_i hb
    rw [if_pos (nbeq_eq hb)]
    exact joinK_ok (cut := cut) .normal a w ⟨s, hs, hk⟩
   ·rename_i hb
    rw [if_neg (fun e => by subst e; simp at hb)]
    exact ⟨s, hs, hk⟩
 | ret => exact h
 | _ => exact h
theorem least {p : Nat -> Prop} : ∀ (n : Nat), p n -> ∃ k, p k /\ ∀ j, j < k -> ¬ p j := by
 intro n
 induction n using Nat.strongRecOn with
 | _ n ih =>
   intro h
   by_cases hq : ∃ j, j < n /\ p j
   ·obtain ⟨j, h1, h2⟩ := hq
    exact ih j h1 h2
   ·exact ⟨n, h, fun j hj hp => hq ⟨j, hj, hp⟩⟩
theorem endK_ok {R : Type} {ex : Nat} {past : List Nat} {pown : List Cv} {K : Ex -> St -> Option R} {r : R} : ∀ e a w, Lands P Γ z (endK ex past pown K) r e a w -> Lands P Γ z K r e a w := by
 intro e a w h
 cases e with
 | normal => obtain ⟨s, hs, hk⟩ := h; cases hk
 | exit i =>
   obtain ⟨s, hs, hk⟩ := h
   unfold endK at hk
   dsimp only at hk
   split at hk
   ·split at hk
    ·rename_i s' hc
     exact ⟨s', canon_ok hs hc, hk⟩
    ·cases hk
   ·cases hk
 | ret => exact h
 | _ => exact h
theorem loop_ok {R : Type} {c : Code} {L : LoopM} {K : Ex -> St -> Option R} {r : R}
 (hc : ∀ (K : Ex -> St -> Option R) s r, EBk Γ c K s = some r -> ∀ a w, SR P Γ z s a w -> c.wp P (Lands P Γ z K r) a w) (n : Nat) {s : St} (h : loopK Γ c L K n s = some r) {a : Act} {w : World} (hs : SR P Γ z s a w) :
 (Code.loop c).wp P (Lands P Γ z K r) a w := by
 classical
 let J : Act -> World -> Nat -> Prop := fun a w k => ∃ s, SR P Γ z s a w /\ loopK Γ c L K k s = some r
 let I : Act -> World -> Prop := fun a w => ∃ k, J a w k
 have hmin : ∀ a w, I a w -> ∃ k, J a w k /\ ∀ j, j < k -> ¬ J a w j := fun a w ⟨k, hk⟩ => least k hk
 let μ : Act -> World -> Nat := fun a w => if h : I a w then (hmin a w h).choose else 0
 have hμ : ∀ a w, I a w -> J a w (μ a w) /\ ∀ j, j < μ a w -> ¬ J a w j := by
  intro a w hI
  have : μ a w = (hmin a w hI).choose := dif_pos hI
  rw [this]
  exact (hmin a w hI).choose_spec
 refine wp_loop I μ ⟨n, s, hs, h⟩ fun a w hI => ?_
 obtain ⟨⟨s, hs, hk⟩, _⟩ := hμ a w hI
 cases hn : μ a w with
 | zero => rw [hn] at hk; simp [loopK] at hk
 | succ k =>
   rw [hn] at hk
   simp only [loopK] at hk
   refine wp_mono (hc _ s r hk a w hs) fun e a' w' he => ?_
   cases e with
   | normal =>
     obtain ⟨s', hs', hk'⟩ := he
     unfold roundK at hk'
     dsimp only at hk'
     split at hk'
     ·rename_i s'' hc'
      have hJ : J a' w' k := ⟨s'', canon_ok hs' hc', hk'⟩
      have hI' : I a' w' := ⟨k, hJ⟩
      refine ⟨hI', ?_⟩
      have h2 := (hμ a' w' hI').2 k
      rcases Nat.lt_or_ge k (μ a' w') with h3 | h3
      ·exact absurd hJ (h2 h3)
      ·omega
     ·cases hk'
   | exit i => exact endK_ok (ex := L.ex) (past := L.past) (pown := L.pown) (.exit i) a' w' he
   | ret => exact endK_ok (ex := L.ex) (past := L.past) (pown := L.pown) .ret a' w' he
   | _ => exact he
theorem EBk_ok {R : Type} (env : EnvOK P Γ) : ∀ (c : Code), LoopsOK Γ c -> ∀ (K : Ex -> St -> Option R) (s : St) (r : R), EBk Γ c K s = some r -> ∀ a w, SR P Γ z s a w -> c.wp P (Lands P Γ z K r) a w := by
 intro c
 induction c with
 | skip => exact fun _ K s r h a w hs => wp_skip ⟨s, hs, h⟩
 | label l => exact fun _ K s r h a w hs => wp_label ⟨s, hs, h⟩
 | exit id => exact fun _ K s r h a w hs => wp_exit ⟨s, hs, h⟩
 | ret =>
   intro _ K s r h a w hs
   unfold EBk at h
   split at h
   ·rename_i s' hc
    exact wp_ret ⟨s', canon_ok hs hc, h⟩
   ·cases h
 | seq x y ihx ihy =>
   intro hL K s r h a w hs
   unfold EBk at h
   refine wp_seq (wp_mono (ihx (fun c' hc' => hL c' (List.mem_append_left _ hc')) _ s r h a w hs) fun e a' w' he => ?_)
   cases e with
   | normal =>
     obtain ⟨s', hs', hk⟩ := he
     exact ihy (fun c' hc' => hL c' (List.mem_append_right _ hc')) K s' r hk a' w' hs'
   | exit i => exact he
   | ret => exact he
   | _ => exact he
 | cond c x y ihx ihy =>
   intro hL K s r h a w hs
   unfold EBk at h
   split at h
   ·rename_i b hb
    obtain ⟨hm, β, Ks, hf⟩ := hs
    have hv := eval_ok hf.tmp c
    rw [<- val_fs, hb] at hv
    have hev : a.eval c = .bool b := hv
    have hput : ∀ b', b = b' -> SR P Γ z (s.putC c b') a w := by
     intro b' e
     subst e
     cases c with
     | tmp t =>
       have := put_same s t (boolV b) hb
       exact ⟨hm, β, Ks, by rw [show (s.putC (.tmp t) b).fs = (s.put t (boolV b)).fs from rfl, this]; exact hf⟩
     | _ => exact ⟨hm, β, Ks, hf⟩
    refine wp_cond hev ?_
    cases b with
    | true => exact wp_mono (ihx (fun c' hc' => hL c' (List.mem_append_left _ hc')) _ _ r h a w (hput true rfl)) joinK_ok
    | false => exact wp_mono (ihy (fun c' hc' => hL c' (List.mem_append_right _ hc')) _ _ r h a w (hput false rfl)) joinK_ok
   ·cases h
 | block id x ih =>
   intro hL K s r h a w hs
   unfold EBk at h
   exact wp_block (wp_mono (ih hL _ s r h a w hs) blockK_ok)
 | loop x ih =>
   intro hL K s r h a w hs
   unfold EBk at h
   split at h
   ·rename_i L hl
    unfold runL at h
    split at h
    ·cases h
    ·rename_i s0 hc0
     split at h
     ·cases h
     ·rename_i ok b s1 s2 hrun
      split at h
      ·cases h
      ·obtain ⟨n, hn⟩ := hL x (List.mem_cons_self ..) L hl s0 b s1 s2 hrun R K
       refine loop_ok (L := L) (ih fun c' hc' => hL c' (List.mem_cons_of_mem _ hc')) n (r := r) (K := K) ?_ (canon_ok hs hc0)
       rw [hn]
       cases b
       ·exact h
       ·exact h
   ·cases h
 | region id ops d =>
   intro hL K s r h a w hs
   unfold EBk at h
   obtain ⟨hm, β, Ks, hf⟩ := hs
   obtain ⟨F, E, X, s', f0, fl, fm, fs, fk⟩ := opsK_run ops.toList h
   have fs' : ∀ i o, ops[i]? = some o -> StepR Γ ops o (F i) (E i) (X i) (F (i + 1)) := fun i o e => fs i o (by rw [Array.getElem?_toList]; exact e)
   rw [Array.length_toList] at fl fk
   have hend : ∀ β K' a w, SRf P Γ z β K' (F ops.size) a w -> SR P Γ z s' a w := fun β K' a w h => ⟨fm.trans hm, β, K', by rw [<- fl]; exact h⟩
   cases d with
   | false =>
     dsimp only at fk
     refine wp_region ?_
     rw [List.range_eq_range']
     refine region_text env fs' (fun β K' a w h => ⟨s', hend β K' a w h, fk⟩) ops.size 0 (by omega) β Ks a w ?_
     rw [f0]; exact hf
   | true =>
     dsimp only at fk
     split at fk
     ·rename_i hd
      obtain ⟨d1, d2, d3⟩ := draw_spec hd
      have R : Rgn Γ ops F E X := ⟨fs', d1, d2, d3⟩
      have hf0 : SRf P Γ z β Ks (F 0) a { w with drawn := w.drawn + 1 } := by
       rw [f0]
       exact hf.still ⟨rfl, rfl, rfl, rfl⟩
      have hrep : ∀ k, (Array.replicate ops.size false).getD k false = false := by
       intro k
       simp only [Array.getD_eq_getD_getElem?, Array.getElem?_replicate]
       split <;> rfl
      refine wp_region_any env.mixed (region_any env R (fun β K' a w h => ⟨s', hend β K' a w h, fk⟩) ops.size _ (by simp) ?_ ?_ β Ks _ _ ?_)
      ·have : ∀ N, cnt (fun k => (Array.replicate ops.size false).getD k false) N = N := by
        intro N
        induction N with
        | zero => rfl
        | succ N ih =>
          simp only [cnt]
          rw [if_neg (by rw [hrep]; simp), ih]
          omega
       rw [this]
       exact Nat.le_refl _
      ·intro i o hi hD
       dsimp only at hD
       rw [hrep] at hD
       cases hD
      ·exact DS.start R hf0 hrep
     ·cases fk
 | _ => intro _ K s r h; simp [EBk] at h
end
section
variable {P : Program} {Γ : Env}
theorem initT_look : ∀ {args : List W} {i : Nat} {β : Bt} {K : Ks} {vs : List Value}, All2 (WR β K) args vs -> ∀ t, VR β K (match look (initT i args) (i + t) with | some v => v | none => pois) (vs.getD t undef) /\ ∀ j, j < i -> look (initT i args) j = none
 | [], i, β, K, vs, h, t => ⟨by simp only [initT, look]; exact pois_VR, fun j _ => rfl⟩
 | u :: r, i, β, K, [], h, t => h.elim
 | u :: r, i, β, K, v :: vs, h, t => by
   refine ⟨?_, fun j hj => ?_⟩
   ·cases t with
    | zero =>
      simp only [initT, look, Nat.add_zero, Nat.beq_refl]
      exact h.1
    | succ t =>
      simp only [initT, look]
      rw [nbeq_ne (by omega)]
      have := (initT_look (i := i + 1) h.2 t).1
      rw [show i + 1 + t = i + (t + 1) by omega] at this
      exact this
   ·simp only [initT, look]
    rw [nbeq_ne (by omega)]
    exact (initT_look (i := i + 1) h.2 t).2 j (by omega)
theorem initM_look : ∀ {ins : List Blk} {i : Nat} (k : Nat), look (initM i ins) (i + k) = (ins[k]?).map some
 | [], i, k => rfl
 | b :: r, i, 0 => by simp [initM, look]
 | b :: r, i, k + 1 => by
   simp only [initM, look]
   rw [nbeq_ne (by omega)]
   have := initM_look (ins := r) (i := i + 1) k
   rw [show i + 1 + k = i + (k + 1) by omega] at this
   rw [this]
   simp
theorem initM_get (args : List W) (ins : List Blk) : (initS args ins).get = getL ins := by
 funext k
 unfold St.get initS getL
 dsimp only
 have := initM_look (ins := ins) (i := 0) k
 rw [Nat.zero_add] at this
 rw [this]
 cases ins[k]? <;> rfl
theorem upto_get : ∀ (m p : Nat), (upto m)[p]? = if p < m then some p else none
 | 0, p => by simp [upto]
 | m + 1, p => by
   simp only [upto]
   have hl : (upto m).length = m := by
    clear p
    induction m with
    | zero => rfl
    | succ m ih => simp [upto, ih]
   rw [List.getElem?_append, hl]
   split
   ·rename_i h
    rw [upto_get m p, if_pos h, if_pos (by omega)]
   ·rename_i h
    by_cases e : p = m
    ·subst e
     simp
    ·rw [if_neg (by omega), List.getElem?_eq_none (by simp; omega)]
theorem upto_length : ∀ (m : Nat), (upto m).length = m
 | 0 => rfl
 | m + 1 => by simp [upto, upto_length m]
theorem res_ok {z : Start} {fn : Func} (env : EnvOK P Γ) (hres : fn.results.toList = Γ.res) {β : Bt} {K : Ks} {s : St} {a : Act} {w : World} (h : SRf P Γ z β K s.fs a w) {ws : List W} (hw : mapO (resW Γ s) Γ.res = some ws) :
 ∃ v, (results fn a.tmps).run P w = .ok v w /\ OutR β K ws v := by
 have key : ∀ (rs : List ResultVar) (ws : List W), mapO (resW Γ s) rs = some ws -> ∃ vs : List Value, All2 (WR β K) ws vs /\
  (rs.mapM (fun (x : ResultVar) => match x with
   | .tmp t => (pure (a.tmps.getD t undef) : Go.Sem Value)
   | .cell b t => do loadVar t (<- asAddr (a.tmps.getD b undef)))).run P w = .ok vs w := by
  intro rs
  induction rs with
  | nil => intro ws hw; simp only [mapO, Option.some.injEq] at hw; subst hw; exact ⟨[], trivial, by simp⟩
  | cons x rs ih =>
    intro ws hw
    simp only [mapO] at hw
    split at hw
    ·rename_i y hy
     split at hw
     ·rename_i ys hys
      cases hw
      obtain ⟨vs, h1, h2⟩ := ih ys hys
      cases x with
      | tmp t =>
        simp only [resW] at hy
        split at hy
        ·rename_i u hu
         cases hy
         have hv := h.tmp t
         rw [show s.fs.T t = .val y from hu] at hv
         refine ⟨a.tmps.getD t undef :: vs, ⟨hv, h1⟩, ?_⟩
         rw [List.mapM_cons]
         simp only [Sem.run_bind, Sem.run_pure, Result.andThen_ok, h2]
        ·cases hy
      | cell b t =>
        simp only [resW] at hy
        split at hy
        ·rename_i ti hti
         split at hy
         ·rename_i out hout
          split at hy
          ·rename_i u hu
           cases hy
           obtain ⟨bb, off, u', v, e1, e2, e3, e4⟩ := load_run (P := P) (get := s.get) (n := 0) (env.tab t ti hti) h.kok h.mr (h.tmp b) hout
           simp only [AM.pure1, Option.some.injEq] at e4
           rw [<- e4] at hu
           cases hu
           refine ⟨v :: vs, ⟨e3, h1⟩, ?_⟩
           have ha : (do loadVar t (<- asAddr (a.tmps.getD b undef)) : Go.Sem Value).run P w = .ok v w := by
            rw [e1, Sem.run_bind]
            simp only [asAddr, Sem.run_pure, Result.andThen_ok, e2]
           rw [List.mapM_cons, Sem.run_bind]
           dsimp only
           rw [ha]
           simp only [Result.andThen_ok, Sem.run_bind, h2, Sem.run_pure]
          ·cases hy
         ·cases hy
        ·cases hy
     ·cases hw
    ·cases hw
 obtain ⟨vs, h1, h2⟩ := key _ _ hw
 rw [<- hres] at h2
 refine ⟨if h : vs.toArray.size = 1 then vs.toArray[0] else .tuple vs.toArray, ?_, ?_⟩
 ·unfold results
  rw [Array.mapM_eq_mapM_toList, Sem.run_bind, Sem.run_map]
  erw [h2]
  rfl
 ·unfold OutR
  cases ws with
  | nil => cases vs with
    | nil => exact ⟨#[], rfl, trivial⟩
    | cons _ _ => exact h1.elim
  | cons x r => cases vs with
    | nil => exact h1.elim
    | cons v vs => cases r with
      | nil => cases vs with
        | nil => exact h1.1
        | cons _ _ => exact h1.2.elim
      | cons y r => cases vs with
        | nil => exact h1.2.elim
        | cons v' vs => exact ⟨(v :: v' :: vs).toArray, by simp, by simpa using h1⟩
structure FnIs (P : Program) (f : Nat) (Γ : Env) (c : Code) : Prop where
 loops : LoopsOK Γ c
 is : ∃ fn, P.funcs[f]? = some fn /\ fn.body = some c /\ fn.results.toList = Γ.res /\ fn.ntmps = Γ.nt /\ (fn.name == "runtime.NumGoroutine") = false
theorem FnIs.ok {f : Nat} {c : Code} (h : FnIs P f Γ c) : FnOK P f := by
 obtain ⟨fn, h1, h2, _, _, h3⟩ := h.is
 exact ⟨fn, h1, by rw [h2]; rfl, h3⟩
theorem callK_ok {R : Type} (env : EnvOK P Γ) {f : Nat} {c : Code} (hf : FnIs P f Γ c) {g : List W × List (Option Blk) -> Option R} {args : List W} {ins : List Blk} {r : R} (h : callK Γ c g args ins = some r)
 {β0 : Bt} {K0 : Ks} {w0 : World} {vs : Array Value} (hk : KOK K0 w0) (hm : MR β0 K0 (getL ins) w0) (hfr : ∀ k, ins.length <= k -> β0 k = none) (hv : All2 (WR β0 K0) args vs.toList) :
 Calls P f vs w0 fun e w' => ∃ v β K rs outs, e = .returned v /\ g (rs, outs) = some r /\ Ret ins outs rs β0 K0 w0 v w' β K := by
 obtain ⟨fn, hfn, hbody, hres, hnt, _⟩ := hf.is
 unfold callK at h
 split at h
 case h_2 => cases h
 rename_i hle
 have hle : args.length <= Γ.nt := by simpa using hle
 have hlen : args.length = vs.size := by simpa using hv.length
 refine calls_of_wp hfn hbody ?_
 rw [hnt]
 let z : Start := ⟨β0, K0, w0, ins.length, Own β0 (getL ins)⟩
 have h0 : SR P Γ z (initS args ins) { tmps := vs ++ Array.replicate (Γ.nt - vs.size) undef, defers := [] } w0 := by
  refine ⟨rfl, β0, K0, ⟨fun t => ?_, by simp; omega, rfl, hk, ?_, hfr, KLe.refl _, fun b arr e => .inl e, Fr.refl _ _, ?_, fun k y _ e => e, Nat.le_refl _⟩⟩
  ·have h1 := (initT_look (i := 0) hv t).1
   rw [Nat.zero_add] at h1
   have h2 : (vs ++ Array.replicate (Γ.nt - vs.size) undef).getD t undef = vs.toList.getD t undef := by
    simp only [Array.getD_eq_getD_getElem?, List.getD_eq_getElem?_getD, Array.getElem?_toList]
    rw [Array.getElem?_append]
    split
    ·rfl
    ·rename_i hlt
     rw [Array.getElem?_replicate, Array.getElem?_eq_none (xs := vs) (by omega)]
     split <;> rfl
   show VR β0 K0 ((initS args ins).tmpV t) ((vs ++ Array.replicate (Γ.nt - vs.size) undef).getD t undef)
   rw [h2]
   exact h1
  ·show MR β0 K0 (initS args ins).get w0
   rw [initM_get]; exact hm
  ·intro x hx
   left
   have : (initS args ins).fs.G = getL ins := initM_get args ins
   rw [this] at hx
   exact hx
 refine wp_mono (EBk_ok env c hf.loops _ _ r h _ _ h0) fun e a w he => ?_
 have main : ∀ s, SR P Γ z s a w -> (match fin Γ s with | some r => g r | none => none) = some r -> a.defers = [] /\ ∃ v, (results fn a.tmps).run P w = .ok v w /\ ∃ v' β K rs outs, Ending.returned v = .returned v' /\ g (rs, outs) = some r /\ Ret ins outs rs β0 K0 w0 v' w β K := by
  intro s hs hg
  split at hg
  case h_2 => cases hg
  rename_i ro hfin
  obtain ⟨rs, outs⟩ := ro
  obtain ⟨hm', β, K, hs⟩ := hs
  unfold fin at hfin
  split at hfin
  ·cases hfin
  ·rename_i ws hws
   obtain ⟨v, hr1, hr2⟩ := res_ok env hres hs hws
   dsimp only at hfin
   generalize hksd : reach s.get reachFuel (upto s.m ++ ws.flatMap keysW) (upto 0) = ks at hfin
   have hnd : (upFrom ks s.m).Nodup := by
    rw [upFrom_eq, <- hksd]
    exact List.Pairwise.filter _ (reach_nodup _ _ _ _ (by simp [upto]))
   have hge : ∀ k ∈ upFrom ks s.m, s.m <= k := by
    intro k hk
    rw [upFrom_eq, List.mem_filter] at hk
    simpa using hk.2
   generalize upFrom ks s.m = rest at hfin hnd hge
   split at hfin
   ·rename_i ws' outs' h1 h2
    cases hfin
    have hlo : outs.length = s.m + rest.length := by rw [mapO_length h2, List.length_append, upto_length]
    have hsrc : ∀ k' b', getO outs k' = some b' -> ∃ k b, newKey rest s.m k = some k' /\ s.get k = some b /\ renB (newKey rest s.m) b = some b' := by
     intro k' b' e
     unfold getO at e
     cases hq : outs[k']? with
     | none => rw [hq] at e; cases e
     | some x =>
       rw [hq] at e
       have hx : x = some b' := e
       subst hx
       obtain ⟨k, hk, hr⟩ := (All2.ofMap h2).get?' hq
       have hnk : newKey rest s.m k = some k' := by
        rw [List.getElem?_append, upto_length] at hk
        unfold newKey
        split at hk
        ·rename_i hlt
         rw [upto_get, if_pos hlt] at hk
         have hkk : k' = k := Option.some.inj hk
         rw [<- hkk, show Nat.blt k' s.m = true by simpa [Nat.blt_eq] using hlt]
        ·rename_i hlt
         have h3 := hge k (List.mem_of_getElem? hk)
         rw [show Nat.blt k s.m = false from Bool.eq_false_iff.2 fun e => by rw [Nat.blt_eq] at e; omega]
         dsimp only
         rw [indexN_of hnd hk]
         congr 1
         omega
       cases hg0 : s.get k with
       | none => rw [hg0] at hr; simp [renOB] at hr
       | some b0 =>
         rw [hg0] at hr
         simp only [renOB, Option.map_eq_some_iff, Option.some.injEq] at hr
         obtain ⟨b1, h4, h5⟩ := hr
         exact ⟨k, b0, hnk, hg0, by rw [h4, h5]⟩
    refine ⟨hs.defers, v, hr1, v, renBt β rest s.m, K, rs, outs, rfl, hg, ⟨hs.kle, hs.kok, hs.knew, hs.mr.ren renBt_ok hsrc, fun k hk => renBt_ge (by omega), ?_, hs.fr, fun x hx => hs.own x (hx.ren hs.mr renBt_ok hsrc), ?_, ?_⟩⟩
    ·have h3 : VR (renBt β rest s.m) K (outV rs) v := outV_map h1 hr2 fun c c' u _ hcc hu => renW_ok renBt_ok hcc hu
     exact h3
    ·intro k y e
     have hkm : k < ins.length := by
      rcases Nat.lt_or_ge k ins.length with h3 | h3
      ·exact h3
      ·rw [hfr k h3] at e; cases e
     have hzm : s.m = ins.length := hm'
     rw [renBt_lt (by omega)]
     exact hs.ble k y hkm e
    ·have hzm : s.m = ins.length := hm'
     omega
   ·cases hfin
 cases e with
 | normal => obtain ⟨s, hs, hg⟩ := he; exact main s hs hg
 | ret => obtain ⟨s, hs, hg⟩ := he; exact main s hs hg
 | exit i => obtain ⟨s, hs, hg⟩ := he; cases hg
 | _ => exact he.elim
end
open Go Go.ChangeShapes Go.WideShapes
def cellB : C -> Value -> Bool
 | .pois, _ => true
 | .bool b, .bool b' => b == b'
 | .int k n, .int k' n' => kindEq k k' && decide (n = n')
 | .flt k b, .float k' b' => fkindEq k k' && Nat.beq b b'
 | .cpx k a b, .complex k' a' b' => fkindEq k k' && Nat.beq a a' && Nat.beq b b'
 | .str s, .string s' => Nat.beq s.size 0 && Nat.beq s'.size 0
 | .nil _, .slice _ n c => Nat.beq n 0 && Nat.beq c 0
 | _, _ => false
theorem bytes_empty {s : ByteArray} (h : s.size = 0) : s = ByteArray.empty := by
 apply ByteArray.ext
 apply Array.eq_empty_of_size_eq_zero
 exact h
theorem cellB_ok {c : C} {v : Value} (h : cellB c v = true) : ZR c v := by
 intro β K
 unfold cellB at h
 split at h
 ·trivial
 ·rename_i b b'
  have : b = b' := by simpa using h
  rw [this]
  rfl
 ·simp only [Bool.and_eq_true, kindEq, decide_eq_true_eq] at h
  obtain ⟨rfl, rfl⟩ := h
  rfl
 ·simp only [Bool.and_eq_true, fkindEq, decide_eq_true_eq] at h
  obtain ⟨rfl, h⟩ := h
  rw [nbeq_eq h]
  exact ⟨_, rfl, FEq.refl _ _⟩
 ·simp only [Bool.and_eq_true, fkindEq, decide_eq_true_eq] at h
  obtain ⟨⟨rfl, h⟩, h'⟩ := h
  rw [nbeq_eq h, nbeq_eq h']
  exact ⟨_, _, rfl, FEq.refl _ _, FEq.refl _ _⟩
 ·simp only [Bool.and_eq_true] at h
  rw [bytes_empty (nbeq_eq h.1), bytes_empty (nbeq_eq h.2)]
  rfl
 ·simp only [Bool.and_eq_true] at h
  rw [nbeq_eq h.1, nbeq_eq h.2]
  exact ⟨_, rfl⟩
 ·cases h
def all2B {α γ : Type} (f : α -> γ -> Bool) : List α -> List γ -> Bool
 | [], [] => true
 | a :: as, b :: bs => f a b && all2B f as bs
 | _, _ => false
theorem all2B_ok {α γ : Type} {f : α -> γ -> Bool} {R : α -> γ -> Prop} (hf : ∀ a b, f a b = true -> R a b) : ∀ {as : List α} {bs : List γ}, all2B f as bs = true -> All2 R as bs
 | [], [], _ => trivial
 | a :: as, b :: bs, h => by
   simp only [all2B, Bool.and_eq_true] at h
   exact ⟨hf _ _ h.1, all2B_ok hf h.2⟩
 | [], _ :: _, h => by cases h
 | _ :: _, [], h => by cases h
def fieldB (P : Program) (f : Field) (x : Nat × Nat × Bool) : Bool :=
 Nat.beq f.offset x.1 && (match P.info? f.type, P.underlying f.type with
  | some fi, some fd => Nat.beq fi.size x.2.1 && (aggD fd == x.2.2)
  | _, _ => false)
def srtB (P : Program) (d : TypeDesc) (ti : TI) : Bool := match ti.sort, d with
 | .slice, .slice e => Nat.beq e ti.elem
 | .array n, .array m e => Nat.beq m n && Nat.beq e ti.elem
 | .string, .string => true
 | .struct, .struct fs => all2B (fieldB P) fs.toList ti.fields
 | .bool, .bool => true
 | .int k, .int k' => kindEq k k'
 | .float k, .float k' => fkindEq k k'
 | .complex k, .complex k' => fkindEq k k'
 | .other, _ => true
 | _, _ => false
theorem fieldB_ok {P : Program} {f : Field} {x : Nat × Nat × Bool} (h : fieldB P f x = true) : f.offset = x.1 /\ ∃ fi fd, P.info? f.type = some fi /\ fi.size = x.2.1 /\ P.underlying f.type = some fd /\ aggD fd = x.2.2 := by
 simp only [fieldB, Bool.and_eq_true] at h
 obtain ⟨h1, h2⟩ := h
 split at h2
 ·rename_i fi fd e1 e2
  simp only [Bool.and_eq_true] at h2
  exact ⟨nbeq_eq h1, fi, fd, e1, nbeq_eq h2.1, e2, by simpa using h2.2⟩
 ·cases h2
theorem srtB_ok {P : Program} {d : TypeDesc} {ti : TI} (h : srtB P d ti = true) : SrtOk P d ti := by
 unfold srtB at h
 unfold SrtOk
 split at h
 ·rename_i e; rw [e]; rw [nbeq_eq h]
 ·rename_i e; simp only [Bool.and_eq_true] at h; rw [e]; dsimp only; rw [nbeq_eq h.1, nbeq_eq h.2]
 ·rename_i e; rw [e]
 ·rename_i e; rw [e]; exact ⟨_, rfl, all2B_ok (fun _ _ => fieldB_ok) h⟩
 ·rename_i e; rw [e]
 ·rename_i e; rw [e]; dsimp only; rw [show _ = _ from of_decide_eq_true h]
 ·rename_i e; rw [e]; dsimp only; rw [show _ = _ from of_decide_eq_true h]
 ·rename_i e; rw [e]; dsimp only; rw [show _ = _ from of_decide_eq_true h]
 ·rename_i e; rw [e]; trivial
 ·cases h
def zeroB : Ty -> List Value -> Option (List Value)
 | .bool, .bool false :: r => some r
 | .int k, .int k' n :: r => match kindEq k k' && decide (n = 0) with | true => some r | false => none
 | .flt k, .float k' b :: r => match fkindEq k k' && Nat.beq b 0 with | true => some r | false => none
 | .cpx k, .complex k' a b :: r => match fkindEq k k' && Nat.beq a 0 && Nat.beq b 0 with | true => some r | false => none
 | .str, .string s :: r => match Nat.beq s.size 0 with | true => some r | false => none
 | .slice _, .slice _ n c :: r => match Nat.beq n 0 && Nat.beq c 0 with | true => some r | false => none
 | .nil, r => some r
 | .cons a b, r => match zeroB a r with
   | some r' => zeroB b r'
   | none => none
 | _, _ => none
theorem zeroB_ok : ∀ (t : Ty) {vs r : List Value}, zeroB t vs = some r -> ∃ v1, vs = v1 ++ r /\ ∀ K, DR K t (zero t) v1 := by
 intro t
 induction t with
 | cons a b iha ihb =>
   intro vs r h
   simp only [zeroB] at h
   split at h
   ·rename_i r' h1
    obtain ⟨v1, rfl, d1⟩ := iha h1
    obtain ⟨v2, rfl, d2⟩ := ihb h
    exact ⟨v1 ++ v2, by simp, fun K => ⟨v1, v2, rfl, d1 K, d2 K⟩⟩
   ·cases h
 | nil => intro vs r h; simp only [zeroB, Option.some.injEq] at h; subst h; exact ⟨[], rfl, fun K => rfl⟩
 | jnk =>
   intro vs r h
   cases vs with
   | nil => simp [zeroB] at h
   | cons v vs => cases v <;> simp [zeroB] at h
 | bool =>
   intro vs r h
   cases vs with
   | nil => simp [zeroB] at h
   | cons v vs =>
     cases v <;> first | (simp [zeroB] at h; done) | skip
     rename_i b
     cases b
     ·simp only [zeroB, Option.some.injEq] at h
      subst h
      exact ⟨[_], rfl, fun K => rfl⟩
     ·simp [zeroB] at h
 | int k =>
   intro vs r h
   cases vs with
   | nil => simp [zeroB] at h
   | cons v vs =>
     cases v <;> simp only [zeroB] at h <;> first | cases h | skip
     split at h
     ·rename_i hb
      simp only [Bool.and_eq_true, kindEq, decide_eq_true_eq] at hb
      obtain ⟨rfl, rfl⟩ := hb
      cases h
      exact ⟨[_], rfl, fun K => rfl⟩
     ·cases h
 | flt k =>
   intro vs r h
   cases vs with
   | nil => simp [zeroB] at h
   | cons v vs =>
     cases v <;> simp only [zeroB] at h <;> first | cases h | skip
     split at h
     ·rename_i hb
      simp only [Bool.and_eq_true, fkindEq, decide_eq_true_eq] at hb
      obtain ⟨rfl, hb⟩ := hb
      rw [nbeq_eq hb]
      cases h
      exact ⟨[_], rfl, fun K => ⟨_, rfl, FEq.refl _ _⟩⟩
     ·cases h
 | cpx k =>
   intro vs r h
   cases vs with
   | nil => simp [zeroB] at h
   | cons v vs =>
     cases v <;> simp only [zeroB] at h <;> first | cases h | skip
     split at h
     ·rename_i hb
      simp only [Bool.and_eq_true, fkindEq, decide_eq_true_eq] at hb
      obtain ⟨⟨rfl, hb⟩, hc⟩ := hb
      rw [nbeq_eq hb, nbeq_eq hc]
      cases h
      exact ⟨[_], rfl, fun K => ⟨_, _, rfl, FEq.refl _ _, FEq.refl _ _⟩⟩
     ·cases h
 | str =>
   intro vs r h
   cases vs with
   | nil => simp [zeroB] at h
   | cons v vs =>
     cases v <;> simp only [zeroB] at h <;> first | cases h | skip
     split at h
     ·rename_i hb
      cases h
      rw [bytes_empty (nbeq_eq hb)]
      exact ⟨[_], rfl, fun K => rfl⟩
     ·cases h
 | slice t ih =>
   intro vs r h
   cases vs with
   | nil => simp [zeroB] at h
   | cons v vs =>
     cases v <;> simp only [zeroB] at h <;> first | cases h | skip
     split at h
     ·rename_i hb
      simp only [Bool.and_eq_true] at hb
      rw [nbeq_eq hb.1, nbeq_eq hb.2]
      cases h
      exact ⟨[_], rfl, fun K => ⟨_, 0, 0, rfl, rfl, Nat.le_refl _, .inl rfl⟩⟩
     ·cases h
def tiB (P : Program) (t : Nat) (ti : TI) : Bool := match P.info? t, P.underlying t with
 | some i, some d => match i.zero with
   | some z => Nat.beq i.size ti.size && Nat.beq i.bytes ti.bytes && (aggD d == ti.agg) && all2B cellB ti.zero z.cells.toList && srtB P d ti &&
    (!Nat.beq ti.ty.size ti.size || (match zeroB ti.ty z.cells.toList with | some [] => true | _ => false)) && Nat.beq z.cells.size i.size
   | none => false
 | _, _ => false
theorem tiB_ok {P : Program} {t : Nat} {ti : TI} (h : tiB P t ti = true) : TIok P t ti := by
 unfold tiB at h
 split at h
 ·rename_i i d h1 h2
  split at h
  ·rename_i z h3
   simp only [Bool.and_eq_true] at h
   obtain ⟨⟨⟨⟨⟨⟨g1, g2⟩, g3⟩, g4⟩, g5⟩, g6⟩, g7⟩ := h
   refine ⟨i, d, z, h1, h2, h3, nbeq_eq g1, nbeq_eq g2, by simpa using g3, all2B_ok (fun _ _ => cellB_ok) g4, srtB_ok g5, fun hs => ?_, nbeq_eq g7⟩
   rw [hs] at g6
   simp only [Nat.beq_refl, Bool.not_true, Bool.false_or] at g6
   split at g6
   ·rename_i hz
    obtain ⟨v1, e, hd⟩ := zeroB_ok _ hz
    rw [List.append_nil] at e
    rw [e]; exact hd
   ·cases g6
  ·cases h
 ·cases h
def tabB (P : Program) (l : List (Nat × TI)) : Bool := l.all fun x => tiB P x.1 x.2
theorem look_mem {α : Type} : ∀ {l : List (Nat × α)} {t : Nat} {x : α}, look l t = some x -> (t, x) ∈ l
 | [], _, _, h => by cases h
 | (k, y) :: r, t, x, h => by
   simp only [look] at h
   split at h
   ·rename_i e
    cases h
    rw [nbeq_eq e]
    exact List.mem_cons_self ..
   ·exact List.mem_cons_of_mem _ (look_mem h)
theorem tabB_ok {P : Program} {l : List (Nat × TI)} (h : tabB P l = true) : ∀ t ti, look l t = some ti -> TIok P t ti := fun t ti e =>
 tiB_ok (List.all_eq_true.1 h _ (look_mem e))
def memK (w : World) : Ks := fun b => match w.heap[b]? with
 | some (.cells arr _ _) => some (false, arr)
 | _ => none
theorem memK_jk (w : World) (x : Nat) : ¬ Jk (memK w) x := by
 rintro ⟨arr, e⟩
 unfold memK at e
 split at e <;> cases e
theorem memK_ok (w : World) : KOK (memK w) w := by
 intro b arr e
 unfold memK at e
 split at e
 ·rename_i a T fz h
  cases e
  exact ⟨a, T, fz, h, KOK.self fun e => by cases e⟩
 ·cases e
def Wf : (t : Ty) -> Den t -> Prop
 | .int k, n => (Lit.int k n).wf = true
 | .flt k, b => (Lit.float k b).wf = true
 | .str, s => s.size <= maxLen
 | .slice t, l => l.length <= maxLen /\ ∀ x ∈ l, Wf t x
 | .cons a b, p => Wf a p.1 /\ Wf b p.2
 | _, _ => True
mutual
def tyB (P : Program) : Ty -> Nat -> Bool
 | .bool, t => match P.underlying t with | some .bool => true | _ => false
 | .int k, t => match P.underlying t with | some (.int k') => kindEq k k' | _ => false
 | .flt k, t => match P.underlying t with | some (.float k') => fkindEq k k' | _ => false
 | .str, t => match P.underlying t with | some .string => true | _ => false
 | .cpx _, _ => false
 | .jnk, _ => false
 | .nil, _ => false
 | .slice e, t => match P.underlying t with
   | some (.slice te) => tyB P e te && Nat.beq (P.cellsOf te) e.size && Nat.blt 0 e.size
   | _ => false
 | .cons a b, t => match P.underlying t with
   | some (.struct fs) => match fs.toList with
     | f :: r => Nat.beq f.offset 0 && tyB P a f.type && Nat.beq (P.cellsOf f.type) a.size && fldB P b r a.size && Nat.beq (P.cellsOf t) (a.size + b.size)
     | [] => false
   | _ => false
def fldB (P : Program) : Ty -> List Field -> Nat -> Bool
 | .nil, fs, _ => fs.isEmpty
 | .cons a b, fs, off => match fs with
   | f :: r => Nat.beq f.offset off && tyB P a f.type && Nat.beq (P.cellsOf f.type) a.size && fldB P b r (off + a.size)
   | [] => false
 | _, _, _ => false
end
theorem tyB_isJ {P : Program} {e : Ty} {t : Nat} (h : tyB P e t = true) : e.isJ = false := by
 cases e with
 | jnk => simp [tyB] at h
 | _ => rfl
theorem mapM_cons_some {α γ : Type} {f : α -> Option γ} {x : α} {l : List α} {ys : List γ} (h : (x :: l).mapM f = some ys) : ∃ y ys', f x = some y /\ l.mapM f = some ys' /\ ys = y :: ys' := by
 rw [List.mapM_cons] at h
 cases h1 : f x with
 | none => rw [h1] at h; cases h
 | some y =>
   rw [h1] at h
   cases h2 : l.mapM f with
   | none => rw [h2] at h; cases h
   | some ys' =>
     rw [h2] at h
     exact ⟨y, ys', rfl, rfl, (Option.some.inj h).symm⟩
theorem mapM_get {α γ : Type} {f : α -> Option γ} : ∀ {l : List α} {ys : List γ}, l.mapM f = some ys -> ys.length = l.length /\ ∀ (i : Nat) x, l[i]? = some x -> ∃ y, ys[i]? = some y /\ f x = some y
 | [], ys, h => by
   have : ys = [] := by simpa using h.symm
   subst this
   exact ⟨rfl, fun i x e => by simp at e⟩
 | x :: l, ys, h => by
   obtain ⟨y, ys', h1, h2, rfl⟩ := mapM_cons_some h
   obtain ⟨h3, h4⟩ := mapM_get h2
   refine ⟨by simp [h3], fun i z e => ?_⟩
   cases i with
   | zero => simp only [List.getElem?_cons_zero, Option.some.injEq] at e; subst e; exact ⟨y, rfl, h1⟩
   | succ i => exact h4 i z (by simpa using e)
theorem range_get {γ : Type} {f : Nat -> Option γ} {n : Nat} {ys : List γ} (h : (List.range n).mapM f = some ys) : ys.length = n /\ ∀ i, i < n -> ∃ y, ys[i]? = some y /\ f i = some y := by
 obtain ⟨h1, h2⟩ := mapM_get h
 exact ⟨by simpa using h1, fun i hi => h2 i i (by simp [hi])⟩
theorem cells_sub {w : World} {base b off n : Nat} {arr : Array Value} {T : TypeId} {fz : Nat × Nat} (hh : w.heap[b]? = some (.cells arr T fz)) {vs : List Value} (h : w.cells? base ⟨b, off, none⟩ n = some vs) : vs = sub arr.toList off n := by
 unfold World.cells? at h
 split at h
 ·obtain ⟨h1, h2⟩ := range_get h
  apply List.ext_getElem?
  intro j
  unfold sub
  rw [List.getElem?_take]
  split
  ·rename_i hj
   obtain ⟨y, e1, e2⟩ := h2 j hj
   rw [e1, List.getElem?_drop, Array.getElem?_toList]
   rw [add_lit] at e2
   unfold World.cell? at e2
   rw [hh] at e2
   simpa using e2.symm
  ·rw [List.getElem?_eq_none (by omega)]
 ·cases h
section
variable {H : Type} {enc : TypeId × Value -> H} {P : Program} {w : World} {base : Nat} {spare : Nat -> Bool} {held : Bool}
theorem trod_DR : ∀ (ty : Ty),
 (∀ (t fuel : Nat) (cs : List Value) (d : DataW H × List MemPlace), tyB P ty t = true -> DataW.trod enc P w base spare held fuel t cs = some d -> ∃ x : Den ty, DR (memK w) ty x cs /\ Wf ty x) /\
 (∀ (fs : List Field) (off fuel : Nat) (cs : List Value), fldB P ty fs off = true -> (∀ f ∈ fs, ∃ y, DataW.trod enc P w base spare held fuel f.type ((cs.drop f.offset).take (P.cellsOf f.type)) = some y) ->
  cs.length = off + ty.size -> ∃ x : Den ty, DR (memK w) ty x (cs.drop off) /\ Wf ty x) := by
 intro ty
 induction ty with
 | bool =>
   refine ⟨fun t fuel cs d ht h => ?_, fun fs off fuel cs h => by simp [fldB] at h⟩
   simp only [tyB] at ht
   split at ht
   ·rename_i hu
    obtain ⟨b, h1, _⟩ := DataW.trod_bool hu h
    exact ⟨b, h1, trivial⟩
   ·cases ht
 | int k =>
   refine ⟨fun t fuel cs d ht h => ?_, fun fs off fuel cs h => by simp [fldB] at h⟩
   simp only [tyB] at ht
   split at ht
   ·rename_i k' hu
    have hk : k = k' := of_decide_eq_true ht
    subst hk
    obtain ⟨n, h1, _, h3⟩ := DataW.trod_int hu h
    exact ⟨n, h1, h3⟩
   ·cases ht
 | flt k =>
   refine ⟨fun t fuel cs d ht h => ?_, fun fs off fuel cs h => by simp [fldB] at h⟩
   simp only [tyB] at ht
   split at ht
   ·rename_i k' hu
    have hk : k = k' := of_decide_eq_true ht
    subst hk
    have : ∃ b, cs = [.float k b] /\ (Lit.float k b).wf = true := by
     cases fuel with
     | zero => simp [DataW.trod] at h
     | succ fuel =>
       unfold DataW.trod at h
       rw [hu] at h
       split at h <;> simp_all
    obtain ⟨b, h1, h3⟩ := this
    exact ⟨b, ⟨b, h1, FEq.refl _ _⟩, h3⟩
   ·cases ht
 | str =>
   refine ⟨fun t fuel cs d ht h => ?_, fun fs off fuel cs h => by simp [fldB] at h⟩
   simp only [tyB] at ht
   split at ht
   ·rename_i hu
    obtain ⟨s, h1, _, h3⟩ := DataW.trod_string hu h
    exact ⟨s, h1, h3⟩
   ·cases ht
 | cpx k => exact ⟨fun t fuel cs d h => by simp [tyB] at h, fun fs off fuel cs h => by simp [fldB] at h⟩
 | jnk => exact ⟨fun t fuel cs d h => by simp [tyB] at h, fun fs off fuel cs h => by simp [fldB] at h⟩
 | nil =>
   refine ⟨fun t fuel cs d h => by simp [tyB] at h, fun fs off fuel cs h hm hl => ?_⟩
   refine ⟨(), ?_, trivial⟩
   show cs.drop off = []
   rw [List.drop_eq_nil_iff]
   simp only [Ty.size] at hl
   omega
 | slice e ih =>
   refine ⟨fun t fuel cs d ht h => ?_, fun fs off fuel cs h => by simp [fldB] at h⟩
   simp only [tyB] at ht
   split at ht
   case h_2 => cases ht
   rename_i te hu
   simp only [Bool.and_eq_true] at ht
   obtain ⟨⟨t1, t2⟩, t3⟩ := ht
   have t2 := nbeq_eq t2
   have t3 : 0 < e.size := by simpa [Nat.blt_eq] using t3
   rcases DataW.trod_slice hu h with ⟨h1, _⟩ | ⟨ad, len, cap, elems, rest, n, _, h1, _, _, h4, h5, h6, h7, h8⟩
   ·exact ⟨[], ⟨none, 0, 0, h1, rfl, Nat.le_refl _, .inl rfl⟩, Nat.zero_le _, fun x hx => by cases hx⟩
   ·rw [t2] at h7
    by_cases hlen : len = 0
    ·subst hlen
     exact ⟨[], ⟨some ad, 0, cap, h1, rfl, Nat.zero_le _, .inl rfl⟩, Nat.zero_le _, fun x hx => by cases hx⟩
    ·have key : ∀ i, i < len -> ∃ y vs, w.cells? base (ad.add (i * e.size)) e.size = some vs /\ DataW.trod enc P w base spare held n te vs = some y := by
      intro i hi
      have := h7 i hi
      rw [List.getElem?_eq_getElem (by omega)] at this
      obtain ⟨vs, g1, g2⟩ := Option.bind_eq_some_iff.1 this
      exact ⟨_, vs, g1, g2⟩
     obtain ⟨y0, vs0, g1, _⟩ := key 0 (by omega)
     have hc0 : ∃ v, w.cell? ad = some v := by
      unfold World.cells? at g1
      split at g1
      ·obtain ⟨_, g3⟩ := range_get g1
       obtain ⟨v, _, g4⟩ := g3 0 t3
       rw [Nat.zero_mul] at g4
       exact ⟨v, g4⟩
      ·cases g1
     obtain ⟨v0, hc0⟩ := hc0
     obtain ⟨b, off, spot⟩ := ad
     unfold World.cell? at hc0
     split at hc0
     case h_2 => cases hc0
     rename_i arr T fz hh
     dsimp only at hh hc0
     cases spot with
     | some q => simp at hc0
     | none =>
       have hK : memK w b = some (e.isJ, arr) := by unfold memK; rw [hh, tyB_isJ t1]
       have each : ∀ i, i < len -> ∃ x : Den e, DR (memK w) e x (sub arr.toList (off + i * e.size) e.size) /\ Wf e x := by
        intro i hi
        obtain ⟨y, vs, g1, g2⟩ := key i hi
        rw [add_lit] at g1
        rw [<- cells_sub hh g1]
        exact ih.1 te n vs y t1 g2
       have : ∃ l : List (Den e), l.length = len /\ ∀ i (hi : i < l.length), DR (memK w) e l[i] (sub arr.toList (off + i * e.size) e.size) /\ Wf e l[i] := by
        clear h8 h7 h6 h5 h4 h1 key hlen
        induction len with
        | zero => exact ⟨[], rfl, fun i hi => by simp at hi⟩
        | succ m ihm =>
          obtain ⟨l, l1, l2⟩ := ihm fun i hi => each i (by omega)
          obtain ⟨x, hx⟩ := each m (by omega)
          refine ⟨l ++ [x], by simp [l1], fun i hi => ?_⟩
          by_cases him : i < l.length
          ·rw [List.getElem_append_left him]
           exact l2 i him
          ·have : i = l.length := by simp at hi; omega
           subst this
           rw [List.getElem_append_right (Nat.le_refl _)]
           simp only [Nat.sub_self, List.getElem_cons_zero]
           rw [l1]
           exact hx
       obtain ⟨l, l1, l2⟩ := this
       refine ⟨l, ⟨some ⟨b, off, none⟩, len, cap, h1, l1.symm, h4, .inr ⟨b, off, arr, rfl, hK, fun i hi => (l2 i hi).1⟩⟩, ?_, fun x hx => ?_⟩
       ·omega
       ·obtain ⟨i, hi, rfl⟩ := List.mem_iff_getElem.1 hx
        exact (l2 i hi).2
 | cons a b iha ihb =>
   have step : ∀ (f : Field) (r : List Field) (off fuel : Nat) (cs : List Value), f.offset = off -> tyB P a f.type = true -> P.cellsOf f.type = a.size -> fldB P b r (off + a.size) = true ->
    (∀ g ∈ f :: r, ∃ y, DataW.trod enc P w base spare held fuel g.type ((cs.drop g.offset).take (P.cellsOf g.type)) = some y) -> cs.length = off + (a.size + b.size) ->
    ∃ x : Den (.cons a b), DR (memK w) (.cons a b) x (cs.drop off) /\ Wf (.cons a b) x := by
    intro f r off fuel cs h1 h2 h3 h4 h5 h6
    obtain ⟨y, hy⟩ := h5 f (List.mem_cons_self ..)
    rw [h1, h3] at hy
    obtain ⟨x1, d1, w1⟩ := iha.1 f.type fuel _ y h2 hy
    obtain ⟨x2, d2, w2⟩ := ihb.2 r (off + a.size) fuel cs h4 (fun g hg => h5 g (List.mem_cons_of_mem _ hg)) (by omega)
    refine ⟨(x1, x2), ⟨_, _, ?_, d1, d2⟩, w1, w2⟩
    rw [<- List.drop_drop]
    exact (List.take_append_drop ..).symm
   refine ⟨fun t fuel cs d ht h => ?_, fun fs off fuel cs h hf hl => ?_⟩
   ·simp only [tyB] at ht
    split at ht
    case h_2 => cases ht
    rename_i fs hu
    obtain ⟨xs, n, _, _, h3, h4, h5⟩ := DataW.trod_struct hu h
    split at ht
    case h_2 => cases ht
    rename_i f r hfs
    simp only [Bool.and_eq_true] at ht
    obtain ⟨⟨⟨⟨g1, g2⟩, g3⟩, g4⟩, g5⟩ := ht
    have := step f r 0 n cs (nbeq_eq g1) g2 (nbeq_eq g3) (by rw [Nat.zero_add]; exact g4) (fun g hg => ?_) (by rw [h3, nbeq_eq g5]; omega)
    ·rw [List.drop_zero] at this
     exact this
    ·rw [<- hfs] at hg
     obtain ⟨i, hi, he⟩ := List.mem_iff_getElem.1 hg
     have hi' : i < fs.size := by simpa using hi
     have he' : fs[i]? = some g := by
      rw [Array.getElem?_eq_getElem hi', <- he]
      simp
     have := h5 i g he'
     rw [List.getElem?_eq_getElem (by omega)] at this
     exact ⟨_, this⟩
   ·cases fs with
    | nil => simp [fldB] at h
    | cons f r =>
      simp only [fldB, Bool.and_eq_true] at h
      obtain ⟨⟨⟨g1, g2⟩, g3⟩, g4⟩ := h
      exact step f r off fuel cs (nbeq_eq g1) g2 (nbeq_eq g3) g4 hf (by simpa [Ty.size] using hl)
def encW : (t : Ty) -> Den t -> W
 | .bool, b => .one (.bool b)
 | .int k, n => .one (.int k n)
 | .flt k, b => .one (.flt k b)
 | .cpx k, p => .one (.cpx k p.1 p.2)
 | .str, s => .one (.str s)
 | .slice t, l => .one (.sl t l)
 | .nil, _ => .agg []
 | .cons a b, p => .agg (AM.enc (.cons a b) p)
 | .jnk, _ => .one .junk
theorem encW_ok {β : Bt} {K : Ks} {t : Ty} {x : Den t} {v : Value} (h : DR K t x v.cells.toList) (hv : match t with | .nil => (∃ cs, v = .agg cs) | .cons _ _ => (∃ cs, v = .agg cs) | _ => v.cells = #[v]) : WR β K (encW t x) v := by
 have he := DR.enc (β := β) t h
 cases t with
 | nil => obtain ⟨cs, rfl⟩ := hv; exact ⟨cs, rfl, he⟩
 | cons a b => obtain ⟨cs, rfl⟩ := hv; exact ⟨cs, rfl, he⟩
 | bool => dsimp only at hv; rw [hv] at he; exact he.1
 | int k => dsimp only at hv; rw [hv] at he; exact he.1
 | flt k => dsimp only at hv; rw [hv] at he; exact he.1
 | cpx k => dsimp only at hv; rw [hv] at he; exact he.1
 | str => dsimp only at hv; rw [hv] at he; exact he.1
 | slice t => dsimp only at hv; rw [hv] at he; exact he.1
 | jnk => dsimp only at hv; rw [hv] at he; exact he.1
theorem arg_ok {ty : Ty} {t : Nat} {v : Value} {d : DataW H} {ps : List MemPlace} {r : Reach} {b0 : Nat} (ht : tyB P ty t = true) (hv : Value.okWide P w r b0 t v) (h : DataW.Trod enc P w base spare held t v d ps) :
 ∃ x : Den ty, Wf ty x /\ ∀ β, WR β (memK w) (encW ty x) v := by
 obtain ⟨fuel, h⟩ := h
 obtain ⟨x, hd, hw⟩ := (trod_DR (H := H) ty).1 t fuel _ _ ht h
 refine ⟨x, hw, fun β => encW_ok hd ?_⟩
 cases ty with
 | nil => simp [tyB] at ht
 | cpx k => simp [tyB] at ht
 | jnk => simp [tyB] at ht
 | cons a b =>
   simp only [tyB] at ht
   split at ht
   ·rename_i fs hu
    obtain ⟨cs, e, _⟩ := okWide_struct hu hv
    exact ⟨cs, e⟩
   ·cases ht
 | bool =>
   simp only [tyB] at ht
   split at ht
   ·rename_i hu; obtain ⟨b, rfl⟩ := okWide_bool hu hv; rfl
   ·cases ht
 | int k =>
   simp only [tyB] at ht
   split at ht
   ·rename_i hu; obtain ⟨b, rfl⟩ := okWide_int hu hv; rfl
   ·cases ht
 | flt k =>
   simp only [tyB] at ht
   split at ht
   ·rename_i hu
    simp only [Value.okWide, hu, Cell.okWide] at hv
    cases v <;> first | rfl | (simp_all [Cell.ok]; done)
   ·cases ht
 | str =>
   simp only [tyB] at ht
   split at ht
   ·rename_i hu; obtain ⟨b, rfl⟩ := okWide_string hu hv; rfl
   ·cases ht
 | slice e =>
   simp only [tyB] at ht
   split at ht
   ·rename_i hu; obtain ⟨a, n, c, rfl⟩ := okWide_slice hu hv; rfl
   ·cases ht
end
open Go Go.RowKit
def decC (t : Ty) (cs : List C) : Option (Den t) := match dec t cs with
 | some (x, []) => some x
 | _ => none
def decW : (t : Ty) -> W -> Option (Den t)
 | .nil, .agg cs => decC .nil cs
 | .cons a b, .agg cs => decC (.cons a b) cs
 | .bool, .one c => decC .bool [c]
 | .int k, .one c => decC (.int k) [c]
 | .flt k, .one c => decC (.flt k) [c]
 | .cpx k, .one c => decC (.cpx k) [c]
 | .str, .one c => decC .str [c]
 | .slice t, .one c => decC (.slice t) [c]
 | _, _ => none
def decA : (t : Ty) -> List W -> Option (Den t)
 | .nil, [] => some ()
 | .cons a b, w :: ws => match decW a w with
   | some x => match decA b ws with
     | some y => some (x, y)
     | none => none
   | none => none
 | _, _ => none
def encA : (t : Ty) -> Den t -> List W
 | .cons a b, p => encW a p.1 :: encA b p.2
 | _, _ => []
theorem decC_DR {β : Bt} {K : Ks} {t : Ty} {cs : List C} {x : Den t} {vs : List Value} (h : decC t cs = some x) (hv : All2 (CR β K) cs vs) : DR K t x vs := by
 unfold decC at h
 split at h
 ·rename_i y e
  cases h
  obtain ⟨v1, v2, rfl, hd, h2⟩ := dec_DR t e hv
  cases v2 with
  | nil => rw [List.append_nil]; exact hd
  | cons _ _ => exact h2.elim
 ·cases h
theorem decW_ok {β : Bt} {K : Ks} {t : Ty} {u : W} {x : Den t} {v : Value} (h : decW t u = some x) (hv : WR β K u v) : WR β K (encW t x) v := by
 have one : ∀ c, decC t [c] = some x -> CR β K c v -> All2 (CR β K) (AM.enc t x) [v] := fun c hc hcr => DR.enc t (decC_DR hc ⟨hcr, trivial⟩)
 unfold decW at h
 split at h <;> first | cases h; done | skip
 ·obtain ⟨arr, rfl, ha⟩ := hv
  exact ⟨arr, rfl, DR.enc _ (decC_DR h ha)⟩
 ·obtain ⟨arr, rfl, ha⟩ := hv
  exact ⟨arr, rfl, DR.enc _ (decC_DR h ha)⟩
 ·exact (one _ h hv).1
 ·exact (one _ h hv).1
 ·exact (one _ h hv).1
 ·exact (one _ h hv).1
 ·exact (one _ h hv).1
 ·exact (one _ h hv).1
theorem decA_ok {β : Bt} {K : Ks} : ∀ {t : Ty} {us : List W} {x : Den t} {vs : List Value}, decA t us = some x -> All2 (WR β K) us vs -> All2 (WR β K) (encA t x) vs := by
 intro t
 induction t with
 | nil =>
   intro us x vs h hv
   cases us with
   | nil => exact hv
   | cons _ _ => simp [decA] at h
 | cons a b _ ihb =>
   intro us x vs h hv
   cases us with
   | nil => simp [decA] at h
   | cons u us =>
     simp only [decA] at h
     split at h
     ·rename_i y hy
      split at h
      ·rename_i z hz
       cases h
       cases vs with
       | nil => exact hv.elim
       | cons v vs => exact ⟨decW_ok hy hv.1, ihb hz hv.2⟩
      ·cases h
     ·cases h
 | _ => intro us x vs h; cases us <;> simp [decA] at h
def fnMean (A R : Ty) (ok : Den A -> Bool) (g : Den A -> Den R) : Mean := ⟨false, fun ws ins => match ins with
 | [] => match decA A ws with
   | some x => some (ok x, encA R (g x), [])
   | none => none
 | _ => none⟩
def mkEnv (tab : List (Nat × TI)) (eqs : List Nat) (sems : List (Nat × Mean)) (nt : Nat) (res : List ResultVar) (frz : List Nat) (cut : List (Nat × (List Nat × List Cv))) (loops : List (Nat × LoopM)) (past : List (Nat × (List Nat × List Cv))) (rown : List Cv) : Env :=
 { tab := look tab, sem := look sems, eqT := hasN eqs, nt, res, frz, cut, loops, past, rown }
def AllP {α : Type} (R : α -> Prop) : List α -> Prop
 | [] => True
 | x :: r => R x /\ AllP R r
theorem AllP.mem {α : Type} {R : α -> Prop} : ∀ {l : List α}, AllP R l -> ∀ x ∈ l, R x
 | [], _, x, h => by cases h
 | y :: r, h, x, hx => by
   rcases List.mem_cons.1 hx with rfl | hx
   ·exact h.1
   ·exact h.2.mem x hx
theorem AllP.nil {α : Type} {R : α -> Prop} : AllP R [] := trivial
theorem AllP.cons {α : Type} {R : α -> Prop} {x : α} {r : List α} (h : R x) (hs : AllP R r) : AllP R (x :: r) := ⟨h, hs⟩
def SemOK (P : Program) (x : Nat × Mean) : Prop := MeanOK P x.1 x.2 /\ FnOK P x.1
theorem env_ok {P : Program} {tab : List (Nat × TI)} {eqs : List Nat} {sems : List (Nat × Mean)} (hm : P.follows .mixedOrders = true) (ht : tabB P tab = true) (he : AllP (EqOK P) eqs) (hs : AllP (SemOK P) sems) {nt : Nat} {res : List ResultVar} {frz : List Nat} {cut : List (Nat × (List Nat × List Cv))} {loops : List (Nat × LoopM)} {past : List (Nat × (List Nat × List Cv))} {rown : List Cv} :
 EnvOK P (mkEnv tab eqs sems nt res frz cut loops past rown) :=
 ⟨tabB_ok ht, fun f sm e => hs.mem (f, sm) (look_mem e), (fun t e => he.mem t (hasN_iff.1 e)), hm⟩
section
variable {P : Program} {Γ : Env}
def decR (R : Ty) : List W × List (Option Blk) -> Option (Den R) := fun p => match p.2 with
 | [] => decA R p.1
 | _ => none
theorem decA_len : ∀ {t : Ty} {us : List W} {x : Den t}, decA t us = some x -> (encA t x).length = us.length := by
 intro t
 induction t with
 | nil => intro us x h; cases us with
   | nil => rfl
   | cons _ _ => simp [decA] at h
 | cons a b _ ihb =>
   intro us x h
   cases us with
   | nil => simp [decA] at h
   | cons u us =>
     simp only [decA] at h
     split at h
     ·split at h
      ·rename_i z hz
       cases h
       simp [encA, ihb hz]
      ·cases h
     ·cases h
 | _ => intro us x h; cases us <;> simp [decA] at h
theorem decR_out {β : Bt} {K : Ks} {R : Ty} {rs : List W} {r : Den R} {v : Value} (h : decA R rs = some r) (hv : OutR β K rs v) : OutR β K (encA R r) v := by
 have hl := decA_len h
 unfold OutR at hv ⊢
 match rs, encA R r, hl, (fun vs => decA_ok (β := β) (K := K) (vs := vs) h) with
 | [], [], _, _ => exact hv
 | [u], [u'], _, hk => exact (hk [v] ⟨hv, trivial⟩).1
 | u :: u2 :: us, y :: y2 :: ys, _, hk =>
   obtain ⟨arr, e, ha⟩ := hv
   exact ⟨arr, e, hk arr.toList ha⟩
theorem fn_ok (env : EnvOK P Γ) {f : Nat} {c : Code} (hf : FnIs P f Γ c) {A R : Ty} {ok : Den A -> Bool} {g : Den A -> Den R} (h : ∀ x, ok x = true -> callK Γ c (decR R) (encA A x) [] = some (g x)) : SemOK P (f, fnMean A R ok g) := by
 refine ⟨?_, hf.ok⟩
 intro args ins rs outs hrun β0 K0 w0 vs hk hm hfr hv
 cases ins with
 | cons _ _ => simp [fnMean] at hrun
 | nil =>
   simp only [fnMean] at hrun
   split at hrun
   ·rename_i x hx
    simp only [Option.some.injEq, Prod.mk.injEq] at hrun
    obtain ⟨hok, rfl, rfl⟩ := hrun
    refine (callK_ok env hf (h x hok) hk hm hfr (decA_ok hx hv)).mono ?_
    rintro e w' ⟨v, β, K, rs', outs', rfl, hg, hR⟩
    unfold decR at hg
    dsimp only at hg
    split at hg
    ·exact ⟨v, β, K, rfl, { hR with out := decR_out hg hR.out }⟩
    ·cases hg
   ·cases hrun
theorem fn_opt (env : EnvOK P Γ) {f : Nat} {c : Code} (hf : FnIs P f Γ c) {A R : Ty} {p : Den A -> Option (Den R)} (h : ∀ x, callK Γ c (decR R) (encA A x) [] = p x) : SemOK P (f, fnMean A R (fun x => (p x).isSome) (fun x => (p x).getD (zero R))) :=
 fn_ok env hf fun x hx => by
  rw [h x]
  cases hp : p x with
  | none => rw [hp] at hx; cases hx
  | some r => rfl
end
def eqFB (P : Program) : List Field -> Nat -> Bool
 | [], _ => true
 | f :: fs, off => Nat.beq f.offset off && decide (f.name ≠ "_") && (match P.info? f.type, P.underlying f.type with
     | some i, some d => Nat.beq i.size 1 && (match d with | .int _ => true | _ => false)
     | _, _ => false) && eqFB P fs (off + 1)
def eqB (P : Program) (t : Nat) : Bool := (match P.underlying t with
 | some (.struct fs) => eqFB P fs.toList 0 && (match P.info? t with | some i => Nat.beq i.size fs.size | none => false)
 | _ => false) && !P.stoodInHeld t && !P.eqGuardType P.depth t
theorem aggEq_len : ∀ {cs ds : List C} {b : Bool}, aggEq cs ds = some b -> cs.length = ds.length /\ (cs = [] -> b = true) /\
 ∀ (c d : C) (r r' : List C), cs = c :: r -> ds = d :: r' -> ∃ e b', aggEq r r' = some b' /\ b = (e && b') /\ ∃ k x y, c = .int k x /\ d = .int k y /\ e = (x == y)
 | [], [], b, h => by
   simp only [aggEq, Option.some.injEq] at h
   exact ⟨rfl, fun _ => h.symm, fun c d r r' e => by cases e⟩
 | [], _ :: _, b, h => by simp [aggEq] at h
 | c :: r, [], b, h => by cases c <;> simp [aggEq] at h
 | c :: r, d :: r', b, h => by
   have main : ∀ e, (match r, r' with | [], [] => some e | _, _ => match aggEq r r' with | some b' => some (e && b') | none => none) = some b -> ∃ b', aggEq r r' = some b' /\ b = (e && b') := by
    intro e he
    split at he
    ·cases he; exact ⟨true, rfl, by simp⟩
    ·split at he
     ·rename_i b' hb; cases he; exact ⟨b', hb, rfl⟩
     ·cases he
   cases c <;> cases d <;> first | (simp [aggEq] at h; done) | skip
   ·rename_i k x k' y
    simp only [aggEq] at h
    split at h
    ·rename_i hk
     have hk : k = k' := of_decide_eq_true hk
     subst hk
     obtain ⟨b', h1, h2⟩ := main (x == y) h
     have hl := (aggEq_len h1).1
     refine ⟨by simp [hl], fun e => (by cases e), fun c d q q' e e' => ?_⟩
     cases e; cases e'
     exact ⟨_, b', h1, h2, k, x, y, rfl, rfl, rfl⟩
    ·cases h
section
variable {P : Program} {w : World} {β : Bt} {K : Ks}
theorem cell_part {t : TypeId} {fi : TypeInfo} {fd : TypeDesc} (hfi : P.info? t = some fi) (hfd : P.underlying t = some fd) (hag : aggD fd = false) (hs : fi.size = 1) {cs : List C} {arr : Array Value} {off : Nat} {c : C} {r : List C}
 (hc : All2 (CR β K) cs arr.toList) (hd : cs.drop off = c :: r) : ∃ v, (part t arr off).run P w = .ok v w /\ CR β K c v :=
 run_part (P := P) (w := w) (u := .one c) false t hfi hfd hag hc (by rw [hs]; simp [takeN, hd, loadW])
theorem eqFields_ok (d : Nat) {xs ys : Array Value} {cs ds : List C} (hx : All2 (CR β K) cs xs.toList) (hy : All2 (CR β K) ds ys.toList) : ∀ (fs : List Field) (off : Nat) (b : Bool), eqFB P fs off = true -> fs.length + off = cs.length -> cs.length = ds.length -> aggEq (cs.drop off) (ds.drop off) = some b ->
 (Op.eqFields (d + 1) xs ys fs).run P w = .ok b w
 | [], off, b, _, hl, hl2, hq => by
   have h1 := (aggEq_len hq).2.1 (by rw [List.drop_eq_nil_iff]; simp at hl; omega)
   subst h1
   simp [Op.eqFields]
 | f :: fs, off, b, hf, hl, hl2, hq => by
   simp only [eqFB, Bool.and_eq_true] at hf
   obtain ⟨⟨⟨f1, f2⟩, f3⟩, f4⟩ := hf
   have f1 := nbeq_eq f1
   have f2 : f.name ≠ "_" := of_decide_eq_true f2
   simp only [List.length_cons] at hl
   have hlt : off < cs.length := by omega
   have hlt2 : off < ds.length := by omega
   have d1 : cs.drop off = cs[off] :: cs.drop (off + 1) := List.drop_eq_getElem_cons hlt
   have d2 : ds.drop off = ds[off] :: ds.drop (off + 1) := List.drop_eq_getElem_cons hlt2
   obtain ⟨e, b', g1, g2, g3⟩ := (aggEq_len hq).2.2 _ _ _ _ d1 d2
   split at f3
   case h_2 => cases f3
   rename_i i ud hi hu
   simp only [Bool.and_eq_true] at f3
   obtain ⟨f5, f6⟩ := f3
   have hag : aggD ud = false := by
    split at f6 <;> first | rfl | cases f6
   obtain ⟨v, r1, c1⟩ := cell_part (w := w) hi hu hag (nbeq_eq f5) hx d1
   obtain ⟨v', r2, c2⟩ := cell_part (w := w) hi hu hag (nbeq_eq f5) hy d2
   have heq : (Op.equalIn (d + 1) f.type v v').run P w = .ok e w := by
    obtain ⟨k, x, y, e1, e2, e3⟩ := g3
    rw [e1] at c1; rw [e2] at c2
    rw [show v = _ from c1, show v' = _ from c2, e3]
    split at f6
    ·exact run_equalIn_int w d f.type k _ x y hu
    ·cases f6
   have ih := eqFields_ok d hx hy fs (off + 1) b' f4 (by omega) hl2 g1
   rw [<- f1] at r1 r2
   simp only [Op.eqFields]
   rw [if_pos f2]
   simp only [Sem.run_bind, r1, r2, heq, Result.andThen_ok]
   cases e with
   | false => simp [g2]
   | true =>
     simp only [Bool.not_true, Bool.false_eq_true, if_false]
     rw [ih, g2]
     simp
end
theorem eqB_ok {P : Program} {t : Nat} (h : eqB P t = true) : EqOK P t := by
 simp only [eqB, Bool.and_eq_true] at h
 obtain ⟨⟨h1, h2⟩, h3⟩ := h
 split at h1
 case h_2 => cases h1
 rename_i fs hu
 simp only [Bool.and_eq_true] at h1
 have hf : P.fieldsOf t = fs := by unfold Program.fieldsOf; rw [hu]
 refine ⟨by simpa using h3, fun cs ds xs ys b β K w hln hq hx hy => ?_⟩
 rw [run_equalIn_struct w 9999 t xs ys (by rw [hf]; exact hu) (by simpa using h2), hf]
 have hlen := (aggEq_len hq).1
 obtain ⟨h4, h5⟩ := h1
 split at h5
 ·rename_i i hi
  have h6 := hln i hi
  have h7 := nbeq_eq h5
  exact eqFields_ok 9998 hx hy fs.toList 0 b h4 (by simp; omega) hlen (by simpa using hq)
 ·cases h5
def eqsB (P : Program) (l : List Nat) : Bool := l.all (eqB P)
theorem eqsB_ok {P : Program} : ∀ {l : List Nat}, eqsB P l = true -> AllP (EqOK P) l
 | [], _ => trivial
 | t :: r, h => by
   simp only [eqsB, List.all_cons, Bool.and_eq_true] at h
   exact ⟨eqB_ok h.1, eqsB_ok h.2⟩
section
variable {Γ : Env}
theorem runK_nat (o : Oper) (s : St) : (∀ (R : Type) (K : St -> Ent -> Option R), runK Γ o K s = none) ∨ ∃ s' e, ∀ (R : Type) (K : St -> Ent -> Option R), runK Γ o K s = K s' e := by
 cases h : act Γ o s.val s.get s.n with
 | none => left; intro R K; simp only [runK, h]
 | some out =>
   cases h1 : dstOk Γ o.dst with
   | false => left; intro R K; simp only [runK, h, h1]
   | true =>
     cases h2 : out.ok with
     | false => left; intro R K; simp only [runK, h, h1, h2]
     | true => right; exact ⟨_, _, fun R K => by simp only [runK, h, h1, h2]; rfl⟩
theorem execK_nat (o : Oper) (s : St) : (∀ (R : Type) (K : St -> Ent -> Option R), execK Γ o K s = none) ∨ ∃ s' e, ∀ (R : Type) (K : St -> Ent -> Option R), execK Γ o K s = K s' e := by
 unfold execK
 split
 ·split
  ·rename_i b _
   cases b with
   | true => exact runK_nat o _
   | false => exact runK_nat o _
  ·exact .inl fun _ _ => rfl
 ·exact runK_nat o s
theorem skipK_nat (o : Oper) (s : St) : (∀ (R : Type) (K : St -> Ent -> Option R), skipK Γ o K s = none) ∨ ∃ s' e, ∀ (R : Type) (K : St -> Ent -> Option R), skipK Γ o K s = K s' e := by
 unfold skipK
 cases dstOk Γ o.dst with
 | true => exact .inr ⟨_, _, fun _ _ => rfl⟩
 | false => exact .inl fun _ _ => rfl
theorem opsK_nat (ops : Array Oper) : ∀ (L : List Oper) (s : St) (tr : List Ent), (∀ (R : Type) (K : St -> List Ent -> Option R), opsK Γ ops L s tr K = none) ∨ ∃ s' tr', ∀ (R : Type) (K : St -> List Ent -> Option R), opsK Γ ops L s tr K = K s' tr'
 | [], s, tr => .inr ⟨s, tr, fun _ _ => rfl⟩
 | o :: L, s, tr => by
   have next : ∀ (X : ∀ (R : Type), (St -> Ent -> Option R) -> Option R), ((∀ R K, X R K = none) ∨ ∃ s' e, ∀ R K, X R K = K s' e) ->
    (∀ (R : Type) (K : St -> List Ent -> Option R), X R (fun s' e => opsK Γ ops L s' (e :: tr) K) = none) ∨ ∃ s' tr', ∀ (R : Type) (K : St -> List Ent -> Option R), X R (fun s' e => opsK Γ ops L s' (e :: tr) K) = K s' tr' := by
    intro X hX
    rcases hX with h | ⟨s', e, h⟩
    ·exact .inl fun R K => h R _
    ·rcases opsK_nat ops L s' (e :: tr) with h2 | ⟨s2, t2, h2⟩
     ·exact .inl fun R K => by rw [h]; exact h2 R K
     ·exact .inr ⟨s2, t2, fun R K => by rw [h]; exact h2 R K⟩
   unfold opsK
   split
   ·exact next (fun R K => execK Γ o K s) (execK_nat o s)
   ·split
    ·exact .inl fun _ _ => rfl
    ·rename_i g want hg _ t ht
     split
     ·rename_i b _
      cases b <;> cases want
      ·exact next (fun R K => execK Γ o K (s.put t (boolV false))) (execK_nat o _)
      ·exact next (fun R K => skipK Γ o K (s.put t (boolV false))) (skipK_nat o _)
      ·exact next (fun R K => skipK Γ o K (s.put t (boolV true))) (skipK_nat o _)
      ·exact next (fun R K => execK Γ o K (s.put t (boolV true))) (execK_nat o _)
     ·exact next (fun R K => skipK Γ o K s) (skipK_nat o s)
     ·exact .inl fun _ _ => rfl
def Road (X : ∀ (R : Type), (Ex -> St -> Option R) -> Option R) : Prop := (∀ R K, X R K = none) ∨ ∃ e s', ∀ R K, X R K = K e s'
theorem Road.bind {X : ∀ (R : Type), (Ex -> St -> Option R) -> Option R} (h : Road X) {T : ∀ (R : Type), (Ex -> St -> Option R) -> Ex -> St -> Option R} (hT : ∀ e s, Road fun R K => T R K e s) : Road fun R K => X R (T R K) := by
 rcases h with h | ⟨e, s, h⟩
 ·exact .inl fun R K => h R _
 ·rcases hT e s with h2 | ⟨e', s', h2⟩
  ·exact .inl fun R K => (h R _).trans (h2 R K)
  ·exact .inr ⟨e', s', fun R K => (h R _).trans (h2 R K)⟩
theorem Road.pure (e : Ex) (s : St) : Road fun R K => K e s := .inr ⟨e, s, fun _ _ => rfl⟩
theorem Road.none : Road fun R K => (Option.none : Option R) := .inl fun _ _ => rfl
theorem joinK_road (cut : Option (List Nat × List Cv)) (e : Ex) (s : St) : Road fun R K => joinK cut K e s := by
 cases e with
 | normal =>
   cases cut with
   | none => exact Road.pure .normal s
   | some c =>
     cases h : canon c.1 c.2 s with
     | none => exact .inl fun R K => by simp only [joinK, h]
     | some s' => exact .inr ⟨.normal, s', fun R K => by simp only [joinK, h]⟩
 | exit i => exact Road.pure (.exit i) s
 | ret => exact Road.pure .ret s
theorem blockK_road (id : Nat) (cut : Option (List Nat × List Cv)) (e : Ex) (s : St) : Road fun R K => blockK id cut K e s := by
 cases e with
 | normal => exact joinK_road cut .normal s
 | exit i =>
   cases h : Nat.beq i id with
   | true =>
     have := joinK_road cut .normal s
     unfold Road at this ⊢
     simp only [blockK, h]
     exact this
   | false => exact .inr ⟨.exit i, s, fun R K => by simp only [blockK, h]⟩
 | ret => exact Road.pure .ret s
theorem EBk_road : ∀ (c : Code) (s : St), Road fun R K => EBk (R := R) Γ c K s := by
 intro c
 induction c with
 | skip => exact fun s => Road.pure .normal s
 | label l => exact fun s => Road.pure .normal s
 | exit id => exact fun s => Road.pure (.exit id) s
 | ret =>
   intro s
   cases h : canon (Γ.res.map resT) Γ.rown s with
   | none => exact .inl fun R K => by simp only [EBk, h]
   | some s' => exact .inr ⟨.ret, s', fun R K => by simp only [EBk, h]⟩
 | seq x y ihx ihy =>
   intro s
   refine Road.bind (ihx s) (T := fun R K e s' => match e with | .normal => EBk Γ y K s' | e => K e s') fun e s' => ?_
   cases e with
   | normal => exact ihy s'
   | exit i => exact Road.pure (.exit i) s'
   | ret => exact Road.pure .ret s'
 | cond c x y ihx ihy =>
   intro s
   show Road fun R K => (match s.val c with
    | .val (.one (.bool b)) => match b with
      | true => EBk Γ x (joinK (look Γ.cut (condT c)) K) (s.putC c true)
      | false => EBk Γ y (joinK (look Γ.cut (condT c)) K) (s.putC c false)
    | _ => Option.none : Option R)
   split
   ·rename_i b _
    cases b with
    | true => exact Road.bind (ihx _) (T := fun R K => joinK (look Γ.cut (condT c)) K) fun e s' => joinK_road _ e s'
    | false => exact Road.bind (ihy _) (T := fun R K => joinK (look Γ.cut (condT c)) K) fun e s' => joinK_road _ e s'
   ·exact Road.none
 | block id x ih =>
   intro s
   exact Road.bind (ih s) (T := fun R K => blockK id (look Γ.past id) K) fun e s' => blockK_road _ _ e s'
 | loop x ih =>
   intro s
   cases h : look Γ.loops (firstRegion x) with
   | none => exact .inl fun R K => by simp only [EBk, h]
   | some L =>
     cases h1 : canon L.live L.own s with
     | none => exact .inl fun R K => by simp only [EBk, h, runL, h1]
     | some s0 =>
       cases h2 : L.run s0 with
       | none => exact .inl fun R K => by simp only [EBk, h, runL, h1, h2]
       | some p =>
         obtain ⟨ok, b, s1, s2⟩ := p
         cases ok with
         | false => exact .inl fun R K => by simp only [EBk, h, runL, h1, h2]
         | true => cases b with
           | true => exact .inr ⟨.ret, s2, fun R K => by simp only [EBk, h, runL, h1, h2]⟩
           | false => exact .inr ⟨.exit L.ex, s1, fun R K => by simp only [EBk, h, runL, h1, h2]⟩
 | region id ops d =>
   intro s
   rcases opsK_nat (Γ := Γ) ops ops.toList s [] with h | ⟨s', tr, h⟩
   ·exact .inl fun R K => by simp only [EBk]; exact h R _
   ·cases d with
    | false => exact .inr ⟨.normal, s', fun R K => by simp only [EBk]; exact h R _⟩
    | true =>
      cases hd : drawOk ops tr with
      | true => exact .inr ⟨.normal, s', fun R K => by simp only [EBk]; rw [h R _, hd]⟩
      | false => exact .inl fun R K => by simp only [EBk]; rw [h R _, hd]
 | _ => exact fun s => .inl fun R K => by simp only [EBk]
end
inductive ShC where
 | bool
 | int (k : IntKind)
 | flt (k : FloatKind)
 | cpx (k : FloatKind)
 | str
 | sl (t : Ty)
 | pois
 | nil (t : Ty)
 | ref (t : Ty) (k : Nat)
 | ptr (k o : Nat)
 | fn (f : Nat) (caps : List Nat)
@[reducible] def ShC.den : ShC -> Type
 | .bool => Bool
 | .int _ => Int
 | .flt _ => Nat
 | .cpx _ => Nat × Nat
 | .str => ByteArray
 | .sl t => List (Den t)
 | _ => Unit
def mkC : (c : ShC) -> c.den -> C
 | .bool, b => .bool b
 | .int k, n => .int k n
 | .flt k, b => .flt k b
 | .cpx k, p => .cpx k p.1 p.2
 | .str, s => .str s
 | .sl t, l => .sl t l
 | .pois, _ => .pois
 | .nil t, _ => .nil t
 | .ref t k, _ => .ref t k
 | .ptr k o, _ => .ptr k o
 | .fn f caps, _ => .fn f caps
def sameT (t t' : Ty) : Bool := match same t t' with
 | some _ => true
 | none => false
theorem sameT_eq {t t' : Ty} (h : sameT t t' = true) : t = t' := by
 unfold sameT at h
 split at h
 ·rename_i h' _; exact h'.down
 ·cases h
def eqL : List Nat -> List Nat -> Bool
 | [], [] => true
 | x :: r, y :: q => Nat.beq x y && eqL r q
 | _, _ => false
theorem eqL_eq : ∀ {l r : List Nat}, eqL l r = true -> l = r
 | [], [], _ => rfl
 | x :: r, y :: q, h => by
   simp only [eqL, Bool.and_eq_true] at h
   rw [nbeq_eq h.1, eqL_eq h.2]
 | [], _ :: _, h => by cases h
 | _ :: _, [], h => by cases h
def getC : (c : ShC) -> C -> Option c.den
 | .bool, .bool b => some b
 | .int k, .int k' n => match kindEq k k' with | true => some n | false => none
 | .flt k, .flt k' b => match fkindEq k k' with | true => some b | false => none
 | .cpx k, .cpx k' a b => match fkindEq k k' with | true => some (a, b) | false => none
 | .str, .str s => some s
 | .sl t, .sl t' l => match same t' t with
   | some ⟨h⟩ => some (h ▸ l)
   | none => none
 | .pois, .pois => some ()
 | .nil t, .nil t' => match sameT t t' with | true => some () | false => none
 | .ref t k, .ref t' k' => match sameT t t' && Nat.beq k k' with | true => some () | false => none
 | .ptr k o, .ptr k' o' => match Nat.beq k k' && Nat.beq o o' with | true => some () | false => none
 | .fn f caps, .fn f' caps' => match Nat.beq f f' && eqL caps caps' with | true => some () | false => none
 | _, _ => none
theorem getC_ok {c : ShC} {x : C} {v : c.den} (h : getC c x = some v) : x = mkC c v := by
 cases c <;> cases x <;> simp only [getC] at h <;> first | cases h; done | skip
 ·cases h; rfl
 ·split at h
  ·rename_i hk; have := of_decide_eq_true hk; cases h; subst this; rfl
  ·cases h
 ·split at h
  ·rename_i hk; have := of_decide_eq_true hk; cases h; subst this; rfl
  ·cases h
 ·split at h
  ·rename_i hk; have := of_decide_eq_true hk; cases h; subst this; rfl
  ·cases h
 ·cases h; rfl
 ·split at h
  ·rename_i e _; subst e; cases h; rfl
  ·cases h
 ·rfl
 ·split at h
  ·rename_i hk; rw [<- sameT_eq hk]; rfl
  ·cases h
 ·split at h
  ·rename_i hk; simp only [Bool.and_eq_true] at hk; rw [<- sameT_eq hk.1, <- nbeq_eq hk.2]; rfl
  ·cases h
 ·split at h
  ·rename_i hk; simp only [Bool.and_eq_true] at hk; rw [<- nbeq_eq hk.1, <- nbeq_eq hk.2]; rfl
  ·cases h
 ·split at h
  ·rename_i hk; simp only [Bool.and_eq_true] at hk; rw [<- nbeq_eq hk.1, <- eqL_eq hk.2]; rfl
  ·cases h
@[reducible] def denL : List ShC -> Type
 | [] => Unit
 | c :: r => c.den × denL r
def mkL : (l : List ShC) -> denL l -> List C
 | [], _ => []
 | c :: r, p => mkC c p.1 :: mkL r p.2
def getL' : (l : List ShC) -> List C -> Option (denL l)
 | [], [] => some ()
 | c :: r, x :: xs => match getC c x with
   | some v => match getL' r xs with
     | some w => some (v, w)
     | none => none
   | none => none
 | _, _ => none
theorem getL'_ok : ∀ {l : List ShC} {xs : List C} {v : denL l}, getL' l xs = some v -> xs = mkL l v
 | [], [], _, _ => rfl
 | c :: r, x :: xs, v, h => by
   simp only [getL'] at h
   split at h
   ·rename_i a ha
    split at h
    ·rename_i b hb
     cases h
     rw [getC_ok ha, getL'_ok hb]
     rfl
    ·cases h
   ·cases h
 | [], _ :: _, _, h => by simp [getL'] at h
 | _ :: _, [], _, h => by simp [getL'] at h
inductive ShV where
 | one (c : ShC)
 | agg (cs : List ShC)
 | tup
@[reducible] def ShV.den : ShV -> Type
 | .one c => c.den
 | .agg cs => denL cs
 | .tup => Unit
def mkV : (s : ShV) -> s.den -> V
 | .one c, v => .val (.one (mkC c v))
 | .agg cs, v => .val (.agg (mkL cs v))
 | .tup, _ => .tup []
def getV : (s : ShV) -> V -> Option s.den
 | .one c, .val (.one x) => getC c x
 | .agg cs, .val (.agg xs) => getL' cs xs
 | .tup, .tup [] => some ()
 | _, _ => none
theorem getV_ok {s : ShV} {x : V} {v : s.den} (h : getV s x = some v) : x = mkV s v := by
 unfold getV at h
 split at h
 ·rw [getC_ok h]; rfl
 ·rw [getL'_ok h]; rfl
 ·rfl
 ·cases h
inductive ShB where
 | box (cs : List ShC)
 | arr (t : Ty)
 | gone
@[reducible] def ShB.den : ShB -> Type
 | .box cs => denL cs
 | .arr t => List (Den t)
 | .gone => Unit
def mkB : (s : ShB) -> s.den -> Option Blk
 | .box cs, v => some (.box (mkL cs v))
 | .arr t, l => some (.arr t l)
 | .gone, _ => none
def getB : (s : ShB) -> Option Blk -> Option s.den
 | .box cs, some (.box xs) => getL' cs xs
 | .arr t, some (.arr t' l) => match same t' t with
   | some ⟨h⟩ => some (h ▸ l)
   | none => none
 | .gone, none => some ()
 | _, _ => none
theorem getB_ok {s : ShB} {x : Option Blk} {v : s.den} (h : getB s x = some v) : x = mkB s v := by
 unfold getB at h
 split at h
 ·rw [getL'_ok h]; rfl
 ·split at h
  ·rename_i e _; subst e; cases h; rfl
  ·cases h
 ·rfl
 ·cases h
@[reducible] def denT : List (Nat × ShV) -> Type
 | [] => Unit
 | p :: r => p.2.den × denT r
def mkT : (l : List (Nat × ShV)) -> denT l -> List (Nat × V)
 | [], _ => []
 | p :: r, v => (p.1, mkV p.2 v.1) :: mkT r v.2
def getT : (l : List (Nat × ShV)) -> List (Nat × V) -> Option (denT l)
 | [], [] => some ()
 | p :: r, x :: xs => match Nat.beq p.1 x.1 with
   | true => match getV p.2 x.2 with
     | some v => match getT r xs with
       | some w => some (v, w)
       | none => none
     | none => none
   | false => none
 | _, _ => none
theorem getT_ok : ∀ {l : List (Nat × ShV)} {xs : List (Nat × V)} {v : denT l}, getT l xs = some v -> xs = mkT l v
 | [], [], _, _ => rfl
 | p :: r, (k, x) :: xs, v, h => by
   simp only [getT] at h
   split at h
   ·rename_i hk
    split at h
    ·rename_i a ha
     split at h
     ·rename_i b hb
      cases h
      rw [getV_ok ha, getT_ok hb, <- nbeq_eq hk]
      rfl
     ·cases h
    ·cases h
   ·cases h
 | [], _ :: _, _, h => by simp [getT] at h
 | _ :: _, [], _, h => by simp [getT] at h
@[reducible] def denM : List (Nat × ShB) -> Type
 | [] => Unit
 | p :: r => p.2.den × denM r
def mkM : (l : List (Nat × ShB)) -> denM l -> List (Nat × Option Blk)
 | [], _ => []
 | p :: r, v => (p.1, mkB p.2 v.1) :: mkM r v.2
def getM : (l : List (Nat × ShB)) -> List (Nat × Option Blk) -> Option (denM l)
 | [], [] => some ()
 | p :: r, x :: xs => match Nat.beq p.1 x.1 with
   | true => match getB p.2 x.2 with
     | some v => match getM r xs with
       | some w => some (v, w)
       | none => none
     | none => none
   | false => none
 | _, _ => none
theorem getM_ok : ∀ {l : List (Nat × ShB)} {xs : List (Nat × Option Blk)} {v : denM l}, getM l xs = some v -> xs = mkM l v
 | [], [], _, _ => rfl
 | p :: r, (k, x) :: xs, v, h => by
   simp only [getM] at h
   split at h
   ·rename_i hk
    split at h
    ·rename_i a ha
     split at h
     ·rename_i b hb
      cases h
      rw [getB_ok ha, getM_ok hb, <- nbeq_eq hk]
      rfl
     ·cases h
    ·cases h
   ·cases h
 | [], _ :: _, _, h => by simp [getM] at h
 | _ :: _, [], _, h => by simp [getM] at h
structure ShS where
 tmps : List (Nat × ShV)
 mem : List (Nat × ShB)
 n : Nat
 m : Nat
@[reducible] def ShS.den (s : ShS) : Type := denT s.tmps × denM s.mem
def mkS (s : ShS) (v : s.den) : St := ⟨mkT s.tmps v.1, mkM s.mem v.2, s.n, s.m⟩
def getS (sh : ShS) (s : St) : Option sh.den := match Nat.beq sh.n s.n && Nat.beq sh.m s.m with
 | true => match getT sh.tmps s.tmps with
   | some v => match getM sh.mem s.mem with
     | some w => some (v, w)
     | none => none
   | none => none
 | false => none
theorem getS_ok {sh : ShS} {s : St} {v : sh.den} (h : getS sh s = some v) : s = mkS sh v := by
 obtain ⟨tmps, mem, n, m⟩ := s
 simp only [getS] at h
 split at h
 ·rename_i hk
  simp only [Bool.and_eq_true] at hk
  split at h
  ·rename_i a ha
   split at h
   ·rename_i b hb
    cases h
    rw [getT_ok ha, getM_ok hb, <- nbeq_eq hk.1, <- nbeq_eq hk.2]
    rfl
   ·cases h
  ·cases h
 ·cases h
def atS {R : Type} (sh : ShS) (f : sh.den -> Option R) (s : St) : Option R := match getS sh s with
 | some v => f v
 | none => none
def endS (shX shR : ShS) (e : Ex) (s : St) : Option (shX.den ⊕ shR.den) := match e with
 | .normal => none
 | .exit _ => atS shX (fun v => some (.inl v)) s
 | .ret => atS shR (fun v => some (.inr v)) s
def endX (shX : ShS) (e : Ex) (s : St) : Option shX.den := match e with
 | .exit _ => atS shX some s
 | _ => none
def iter {V X : Type} (g : (V -> Option X) -> V -> Option X) : Nat -> V -> Option X
 | 0, _ => none
 | n + 1, v => g (iter g n) v
def loopR (live : List Nat) (own : List Cv) (ex : Nat) (past : List Nat) (pown : List Cv) (sh shX shR : ShS) (k t : sh.den -> Bool) (x : sh.den -> shX.den) (y : sh.den -> shR.den) : LoopM :=
 ⟨live, own, ex, past, pown, fun s => match getS sh s with
  | some v => some (k v, t v, mkS shX (x v), mkS shR (y v))
  | none => none⟩
def loopX (live : List Nat) (own : List Cv) (ex : Nat) (past : List Nat) (pown : List Cv) (sh shX : ShS) (k : sh.den -> Bool) (x : sh.den -> shX.den) : LoopM :=
 ⟨live, own, ex, past, pown, fun s => match getS sh s with
  | some v => some (k v, false, mkS shX (x v), s)
  | none => none⟩
def isR {X Y : Type} : Option (X ⊕ Y) -> Bool
 | some (.inr _) => true
 | _ => false
def xOf {X Y : Type} (d : X) : Option (X ⊕ Y) -> X
 | some (.inl x) => x
 | _ => d
def yOf {X Y : Type} (d : Y) : Option (X ⊕ Y) -> Y
 | some (.inr y) => y
 | _ => d
theorem loopR_sound {Γ : Env} {c : Code} {live : List Nat} {own : List Cv} {ex : Nat} {past : List Nat} {pown : List Cv} {sh shX shR : ShS} {g : (sh.den -> Option (shX.den ⊕ shR.den)) -> sh.den -> Option (shX.den ⊕ shR.den)}
 (h : ∀ f v, EBk Γ c (roundK live own ex past pown (atS sh f) (endS shX shR)) (mkS sh v) = g f v) (bd : sh.den -> Nat) (dx : shX.den) (dr : shR.den) :
 LoopSound Γ c (loopR live own ex past pown sh shX shR (fun v => (iter g (bd v) v).isSome) (fun v => isR (iter g (bd v) v)) (fun v => xOf dx (iter g (bd v) v)) (fun v => yOf dr (iter g (bd v) v))) := by
 intro s0 b s1 s2 hrun R K
 generalize hL : loopR live own ex past pown sh shX shR _ _ _ _ = L at hrun
 have hl : L.live = live /\ L.own = own /\ L.ex = ex /\ L.past = past /\ L.pown = pown := by subst hL; exact ⟨rfl, rfl, rfl, rfl, rfl⟩
 have main : ∀ n v y, iter g n v = some y -> loopK Γ c L K n (mkS sh v) = (match y with | .inl x => K (.exit ex) (mkS shX x) | .inr x => K .ret (mkS shR x)) := by
  intro n
  induction n with
  | zero => intro v y hy; cases hy
  | succ n ih =>
    intro v y hy
    simp only [iter] at hy
    rw [<- h] at hy
    simp only [loopK, hl.1, hl.2.1, hl.2.2.1, hl.2.2.2.1, hl.2.2.2.2]
    rcases EBk_road (Γ := Γ) c (mkS sh v) with hn | ⟨e, s', hr⟩
    ·dsimp only at hn; rw [hn] at hy; cases hy
    ·dsimp only at hr
     rw [hr] at hy ⊢
     cases e with
     | normal =>
       simp only [roundK] at hy ⊢
       split at hy
       ·rename_i s'' hc
        unfold atS at hy
        split at hy
        ·rename_i v' hv'
         rw [getS_ok hv']
         exact ih v' y hy
        ·cases hy
       ·cases hy
     | exit i =>
       simp only [roundK, endK] at hy ⊢
       split at hy
       ·rename_i hb
        split at hy
        ·rename_i s'' hc
         simp only [endS, atS] at hy
         split at hy
         ·rename_i v' hv'
          cases hy
          rw [getS_ok hv', nbeq_eq hb]
         ·cases hy
        ·cases hy
       ·cases hy
     | ret =>
       simp only [roundK, endK, endS, atS] at hy ⊢
       split at hy
       ·rename_i v' hv'
        cases hy
        rw [getS_ok hv']
       ·cases hy
 subst hL
 simp only [loopR] at hrun
 split at hrun
 ·rename_i v hv
  simp only [Option.some.injEq, Prod.mk.injEq] at hrun
  obtain ⟨h1, h2, h3, h4⟩ := hrun
  cases hi : iter g (bd v) v with
  | none => rw [hi] at h1; cases h1
  | some y =>
    have hm := main (bd v) v y hi
    rw [hi] at h2 h3 h4
    refine ⟨bd v, ?_⟩
    rw [getS_ok hv]
    refine hm.trans ?_
    cases y with
    | inl x => subst h2; subst h3; rfl
    | inr x => subst h2; subst h4; rfl
 ·cases hrun
theorem loopX_sound {Γ : Env} {c : Code} {live : List Nat} {own : List Cv} {ex : Nat} {past : List Nat} {pown : List Cv} {sh shX : ShS} {g : (sh.den -> Option shX.den) -> sh.den -> Option shX.den}
 (h : ∀ f v, EBk Γ c (roundK live own ex past pown (atS sh f) (endX shX)) (mkS sh v) = g f v) (bd : sh.den -> Nat) (dx : shX.den) :
 LoopSound Γ c (loopX live own ex past pown sh shX (fun v => (iter g (bd v) v).isSome) (fun v => (iter g (bd v) v).getD dx)) := by
 intro s0 b s1 s2 hrun R K
 generalize hL : loopX live own ex past pown sh shX _ _ = L at hrun
 have hl : L.live = live /\ L.own = own /\ L.ex = ex /\ L.past = past /\ L.pown = pown := by subst hL; exact ⟨rfl, rfl, rfl, rfl, rfl⟩
 have main : ∀ n v y, iter g n v = some y -> loopK Γ c L K n (mkS sh v) = K (.exit ex) (mkS shX y) := by
  intro n
  induction n with
  | zero => intro v y hy; cases hy
  | succ n ih =>
    intro v y hy
    simp only [iter] at hy
    rw [<- h] at hy
    simp only [loopK, hl.1, hl.2.1, hl.2.2.1, hl.2.2.2.1, hl.2.2.2.2]
    rcases EBk_road (Γ := Γ) c (mkS sh v) with hn | ⟨e, s', hr⟩
    ·dsimp only at hn; rw [hn] at hy; cases hy
    ·dsimp only at hr
     rw [hr] at hy ⊢
     cases e with
     | normal =>
       simp only [roundK] at hy ⊢
       split at hy
       ·rename_i s'' hc
        unfold atS at hy
        split at hy
        ·rename_i v' hv'
         rw [getS_ok hv']
         exact ih v' y hy
        ·cases hy
       ·cases hy
     | exit i =>
       simp only [roundK, endK] at hy ⊢
       split at hy
       ·rename_i hb
        split at hy
        ·rename_i s'' hc
         simp only [endX, atS] at hy
         split at hy
         ·rename_i v' hv'
          cases hy
          rw [getS_ok hv', nbeq_eq hb]
         ·cases hy
        ·cases hy
       ·cases hy
     | ret => simp only [roundK, endK, endX] at hy; cases hy
 subst hL
 simp only [loopX] at hrun
 split at hrun
 ·rename_i v hv
  simp only [Option.some.injEq, Prod.mk.injEq] at hrun
  obtain ⟨h1, h2, h3, h4⟩ := hrun
  cases hi : iter g (bd v) v with
  | none => rw [hi] at h1; cases h1
  | some y =>
    have hm := main (bd v) v y hi
    rw [hi] at h3
    refine ⟨bd v, ?_⟩
    rw [getS_ok hv]
    refine hm.trans ?_
    subst h2; subst h3; rfl
 ·cases hrun
theorem loops_ok {Γ : Env} {c : Code} {l : List Code} (h : loopsOf c = l) (ha : AllP (fun c' => ∀ L, look Γ.loops (firstRegion c') = some L -> LoopSound Γ c' L) l) : LoopsOK Γ c :=
 fun c' hc => ha.mem c' (by rw [<- h]; exact hc)
theorem one_loop {Γ : Env} {c : Code} {L0 : LoopM} (hl : look Γ.loops (firstRegion c) = some L0) (hs : LoopSound Γ c L0) : ∀ L, look Γ.loops (firstRegion c) = some L -> LoopSound Γ c L := by
 intro L h
 rw [hl] at h
 cases h
 exact hs
def getCl : (c : ShC) -> C -> Option c.den
 | .sl t, .nil _ => some []
 | .pois, _ => some ()
 | c, x => getC c x
theorem getCl_ok {β : Bt} {K : Ks} {c : ShC} {x : C} {v : c.den} (h : getCl c x = some v) {u : Value} (hu : CR β K x u) : CR β K (mkC c v) u := by
 unfold getCl at h
 split at h
 ·cases h
  obtain ⟨a, rfl⟩ := hu
  exact ⟨a, 0, 0, rfl, rfl, Nat.le_refl _, .inl rfl⟩
 ·trivial
 ·rw [<- getC_ok h]; exact hu
def getLl : (l : List ShC) -> List C -> Option (denL l)
 | [], [] => some ()
 | c :: r, x :: xs => match getCl c x with
   | some v => match getLl r xs with
     | some w => some (v, w)
     | none => none
   | none => none
 | _, _ => none
theorem getLl_ok {β : Bt} {K : Ks} : ∀ {l : List ShC} {xs : List C} {v : denL l}, getLl l xs = some v -> ∀ {us : List Value}, All2 (CR β K) xs us -> All2 (CR β K) (mkL l v) us
 | [], [], _, _, us, hu => hu
 | c :: r, x :: xs, v, h, us, hu => by
   simp only [getLl] at h
   split at h
   ·rename_i a ha
    split at h
    ·rename_i b hb
     cases h
     cases us with
     | nil => exact hu.elim
     | cons u us => exact ⟨getCl_ok ha hu.1, getLl_ok hb hu.2⟩
    ·cases h
   ·cases h
 | [], _ :: _, _, h, _, _ => by simp [getLl] at h
 | _ :: _, [], _, h, _, _ => by simp [getLl] at h
inductive Kn where
 | val (t : Ty)
 | own (t : Ty) (k : Nat)
 | ptr (k : Nat)
 | mix (cs : List ShC)
 | fnv (f : Nat) (ks : List Nat)
@[reducible] def Kn.den : Kn -> Type
 | .val t => Den t
 | .mix cs => denL cs
 | _ => Unit
def encK : (k : Kn) -> k.den -> W
 | .val t, x => encW t x
 | .own t k, _ => .one (.ref t k)
 | .ptr k, _ => .one (.ptr k 0)
 | .mix cs, x => .agg (mkL cs x)
 | .fnv f ks, _ => .one (.fn f ks)
def sameNs : List Nat -> List Nat -> Bool
 | [], [] => true
 | a :: r, b :: s => Nat.beq a b && sameNs r s
 | _, _ => false
theorem sameNs_eq : ∀ {l m : List Nat}, sameNs l m = true -> l = m
 | [], [], _ => rfl
 | a :: r, b :: s, h => by
   simp only [sameNs, Bool.and_eq_true] at h
   rw [nbeq_eq h.1, sameNs_eq h.2]
 | [], _ :: _, h => by simp [sameNs] at h
 | _ :: _, [], h => by simp [sameNs] at h
def decK : (k : Kn) -> W -> Option k.den
 | .val t, w => decW t w
 | .own t k, .one (.ref t' k') => match sameT t t' && Nat.beq k k' with
   | true => some ()
   | false => none
 | .ptr k, .one (.ptr k' o) => match Nat.beq k k' && Nat.beq o 0 with
   | true => some ()
   | false => none
 | .mix cs, .agg xs => getLl cs xs
 | .fnv f ks, .one (.fn f' ks') => match Nat.beq f f' && sameNs ks ks' with
   | true => some ()
   | false => none
 | _, _ => none
theorem decK_ok {β : Bt} {K : Ks} {k : Kn} {u : W} {x : k.den} (h : decK k u = some x) {v : Value} (hv : WR β K u v) : WR β K (encK k x) v := by
 unfold decK at h
 split at h
 ·exact decW_ok h hv
 ·split at h
  ·rename_i hk
   simp only [Bool.and_eq_true] at hk
   rw [<- sameT_eq hk.1, <- nbeq_eq hk.2] at hv
   exact hv
  ·cases h
 ·split at h
  ·rename_i hk
   simp only [Bool.and_eq_true] at hk
   rw [<- nbeq_eq hk.1, nbeq_eq hk.2] at hv
   exact hv
  ·cases h
 ·obtain ⟨arr, rfl, ha⟩ := hv
  exact ⟨arr, rfl, getLl_ok h ha⟩
 ·split at h
  ·rename_i hk
   simp only [Bool.and_eq_true] at hk
   rw [<- nbeq_eq hk.1, <- sameNs_eq hk.2] at hv
   exact hv
  ·cases h
 ·cases h
@[reducible] def denKs : List Kn -> Type
 | [] => Unit
 | k :: r => k.den × denKs r
def encKs : (l : List Kn) -> denKs l -> List W
 | [], _ => []
 | k :: r, x => encK k x.1 :: encKs r x.2
def decKs : (l : List Kn) -> List W -> Option (denKs l)
 | [], [] => some ()
 | k :: r, w :: ws => match decK k w with
   | some x => match decKs r ws with
     | some y => some (x, y)
     | none => none
   | none => none
 | _, _ => none
theorem decKs_ok {β : Bt} {K : Ks} : ∀ {l : List Kn} {us : List W} {x : denKs l}, decKs l us = some x -> ∀ {vs : List Value}, All2 (WR β K) us vs -> All2 (WR β K) (encKs l x) vs
 | [], [], _, _, vs, hv => hv
 | k :: r, u :: us, x, h, vs, hv => by
   simp only [decKs] at h
   split at h
   ·rename_i a ha
    split at h
    ·rename_i b hb
     cases h
     cases vs with
     | nil => exact hv.elim
     | cons v vs => exact ⟨decK_ok ha hv.1, decKs_ok hb hv.2⟩
    ·cases h
   ·cases h
 | [], _ :: _, _, h, _, _ => by simp [decKs] at h
 | _ :: _, [], _, h, _, _ => by simp [decKs] at h
theorem decKs_len : ∀ {l : List Kn} {us : List W} {x : denKs l}, decKs l us = some x -> (encKs l x).length = us.length
 | [], [], _, _ => rfl
 | k :: r, u :: us, x, h => by
   simp only [decKs] at h
   split at h
   ·split at h
    ·rename_i b hb
     cases h
     simp [encKs, decKs_len hb]
    ·cases h
   ·cases h
 | [], _ :: _, _, h => by simp [decKs] at h
 | _ :: _, [], _, h => by simp [decKs] at h
inductive Bn where
 | box (t : Ty)
 | boxC (cs : List ShC)
 | arr (t : Ty)
 | gone
@[reducible] def Bn.den : Bn -> Type
 | .box t => Den t
 | .boxC cs => denL cs
 | .arr t => List (Den t)
 | .gone => Unit
def encB : (b : Bn) -> b.den -> Option Blk
 | .box t, x => some (.box (AM.enc t x))
 | .boxC cs, x => some (.box (mkL cs x))
 | .arr t, l => some (.arr t l)
 | .gone, _ => none
def decB : (b : Bn) -> Option Blk -> Option b.den
 | .box t, some (.box cs) => decC t cs
 | .boxC cs, some (.box xs) => getLl cs xs
 | .arr t, some (.arr t' l) => match same t' t with
   | some ⟨h⟩ => some (h ▸ l)
   | none => none
 | .gone, _ => some ()
 | _, _ => none
def BLax (b b' : Blk) : Prop := ∀ β K h w, BR β K b h w -> BR β K b' h w
theorem decB_ok {b : Bn} {o : Option Blk} {x : b.den} (h : decB b o = some x) {b' : Blk} (hb : encB b x = some b') : ∃ b0, o = some b0 /\ BLax b0 b' := by
 unfold decB at h
 split at h
 ·cases hb
  refine ⟨_, rfl, fun β K h' w hr => ?_⟩
  obtain ⟨y, arr, T, e, hh, hc⟩ := hr
  exact ⟨y, arr, T, e, hh, DR.enc _ (decC_DR h hc)⟩
 ·cases hb
  refine ⟨_, rfl, fun β K h' w hr => ?_⟩
  obtain ⟨y, arr, T, e, hh, hc⟩ := hr
  exact ⟨y, arr, T, e, hh, getLl_ok h hc⟩
 ·split at h
  ·rename_i e _
   subst e
   cases h
   cases hb
   exact ⟨_, rfl, fun _ _ _ _ hr => hr⟩
  ·cases h
 ·cases hb
 ·cases h
@[reducible] def denBs : List Bn -> Type
 | [] => Unit
 | k :: r => k.den × denBs r
def encBs : (l : List Bn) -> denBs l -> List (Option Blk)
 | [], _ => []
 | b :: r, x => encB b x.1 :: encBs r x.2
def decBs : (l : List Bn) -> List (Option Blk) -> Option (denBs l)
 | [], [] => some ()
 | b :: r, o :: os => match decB b o with
   | some x => match decBs r os with
     | some y => some (x, y)
     | none => none
   | none => none
 | _, _ => none
theorem decBs_ok : ∀ {l : List Bn} {os : List (Option Blk)} {x : denBs l}, decBs l os = some x -> (encBs l x).length = os.length /\ ∀ p b', getO (encBs l x) p = some b' -> ∃ b, getO os p = some b /\ BLax b b'
 | [], [], _, _ => ⟨rfl, fun p b' e => by simp [encBs, getO] at e⟩
 | k :: r, o :: os, x, h => by
   simp only [decBs] at h
   split at h
   ·rename_i a ha
    split at h
    ·rename_i b hb
     cases h
     obtain ⟨h1, h2⟩ := decBs_ok hb
     refine ⟨by simp [encBs, h1], fun p b' e => ?_⟩
     cases p with
     | zero =>
       have e' : encB k a = some b' := by simpa [encBs, getO] using e
       obtain ⟨b0, h3, h4⟩ := decB_ok ha e'
       exact ⟨b0, by simpa [getO] using h3, h4⟩
     | succ p =>
       have := h2 p b' (by simpa [encBs, getO] using e)
       simpa [getO] using this
    ·cases h
   ·cases h
 | [], _ :: _, _, h => by simp [decBs] at h
 | _ :: _, [], _, h => by simp [decBs] at h
def insOf : List (Option Blk) -> Option (List Blk)
 | [] => some []
 | some b :: r => match insOf r with
   | some l => some (b :: l)
   | none => none
 | none :: _ => none
theorem insOf_get : ∀ {os : List (Option Blk)} {ins : List Blk}, insOf os = some ins -> ins.length = os.length /\ getL ins = getO os
 | [], ins, h => by simp only [insOf, Option.some.injEq] at h; subst h; exact ⟨rfl, by funext p; simp [getL, getO]⟩
 | some b :: r, ins, h => by
   simp only [insOf] at h
   split at h
   ·rename_i l hl
    cases h
    obtain ⟨h1, h2⟩ := insOf_get hl
    refine ⟨by simp [h1], ?_⟩
    funext p
    cases p with
    | zero => simp [getL, getO]
    | succ p =>
      have := congrFun h2 p
      simpa [getL, getO] using this
   ·cases h
 | none :: _, _, h => by simp [insOf] at h
theorem getO_some (ins : List Blk) : getO (ins.map some) = getL ins := by
 funext p
 simp only [getO, getL, List.getElem?_map]
 cases ins[p]? <;> rfl
theorem MR.lax {β : Bt} {K : Ks} {get get' : Get} {w : World} (h : MR β K get w) (hg : ∀ p b', get' p = some b' -> ∃ b, get p = some b /\ BLax b b') : MR β K get' w := by
 refine ⟨fun k b e => ?_, fun k k' b b' y y' x e e' f f' g g' => ?_, fun k b y x e f g => ?_⟩
 ·obtain ⟨b0, h1, h2⟩ := hg k b e
  obtain ⟨y, h3, h4⟩ := h.blk k b0 h1
  exact ⟨y, h3, h2 _ _ _ _ h4⟩
 ·obtain ⟨b0, h1, _⟩ := hg k b e
  obtain ⟨b1, h2, _⟩ := hg k' b' e'
  exact h.sep k k' b0 b1 y y' x h1 h2 f f' g g'
 ·obtain ⟨b0, h1, _⟩ := hg k b e
  exact h.ro k b0 y x h1 f g
theorem Own.lax {β : Bt} {get get' : Get} (hg : ∀ p b', get' p = some b' -> ∃ b, get p = some b /\ BLax b b') {x : Nat} (h : Own β get' x) : Own β get x := by
 obtain ⟨k, b, y, e, f, g⟩ := h
 obtain ⟨b0, h1, _⟩ := hg k b e
 exact ⟨k, b0, y, h1, f, g⟩
structure Sg where
 ws : List Kn
 bs : List Bn
@[reducible] def Sg.den (s : Sg) : Type := denKs s.ws × denBs s.bs
def decO (O : Sg) : List W × List (Option Blk) -> Option O.den := fun p => match decKs O.ws p.1 with
 | some x => match decBs O.bs p.2 with
   | some y => some (x, y)
   | none => none
 | none => none
def zeroC : (c : ShC) -> c.den
 | .bool => false
 | .int _ => (0 : Int)
 | .flt _ => (0 : Nat)
 | .cpx _ => ((0, 0) : Nat × Nat)
 | .str => ByteArray.empty
 | .sl t => ([] : List (Den t))
 | .pois => ()
 | .nil _ => ()
 | .ref _ _ => ()
 | .ptr _ _ => ()
 | .fn _ _ => ()
def zeroL : (l : List ShC) -> denL l
 | [] => ()
 | c :: r => (zeroC c, zeroL r)
def zeroKs : (l : List Kn) -> denKs l
 | [] => ()
 | .val t :: r => (zero t, zeroKs r)
 | .mix cs :: r => (zeroL cs, zeroKs r)
 | .own _ _ :: r => ((), zeroKs r)
 | .ptr _ :: r => ((), zeroKs r)
 | .fnv _ _ :: r => ((), zeroKs r)
def zeroBs : (l : List Bn) -> denBs l
 | [] => ()
 | .box t :: r => (zero t, zeroBs r)
 | .boxC cs :: r => (zeroL cs, zeroBs r)
 | .arr t :: r => (([] : List (Den t)), zeroBs r)
 | .gone :: r => ((), zeroBs r)
def zeroSg (O : Sg) : O.den := (zeroKs O.ws, zeroBs O.bs)
def sgMean (own : Bool) (I O : Sg) (ok : I.den -> Bool) (g : I.den -> O.den) : Mean := ⟨own, fun ws ins => match decO I (ws, ins.map some) with
 | some x => match insOf (encBs I.bs x.2) with
   | some _ => some (ok x, encKs O.ws (g x).1, encBs O.bs (g x).2)
   | none => none
 | none => none⟩
theorem decKs_out {β : Bt} {K : Ks} {l : List Kn} {rs : List W} {x : denKs l} {v : Value} (h : decKs l rs = some x) (hv : OutR β K rs v) : OutR β K (encKs l x) v := by
 have hl := decKs_len h
 unfold OutR at hv ⊢
 match rs, encKs l x, hl, (fun vs => decKs_ok (β := β) (K := K) h (vs := vs)) with
 | [], [], _, _ => exact hv
 | [u], [u'], _, hk => exact (hk [v] ⟨hv, trivial⟩).1
 | u :: u2 :: us, y :: y2 :: ys, _, hk =>
   obtain ⟨arr, e, ha⟩ := hv
   exact ⟨arr, e, hk arr.toList ha⟩
section
variable {P : Program} {Γ : Env}
def callS (Γ : Env) (c : Code) (I O : Sg) (x : I.den) : Option O.den := match insOf (encBs I.bs x.2) with
 | some ins => callK Γ c (decO O) (encKs I.ws x.1) ins
 | none => none
theorem sg_ok (env : EnvOK P Γ) {f : Nat} {c : Code} (hf : FnIs P f Γ c) {own : Bool} {I O : Sg} {ok : I.den -> Bool} {g : I.den -> O.den} (h : ∀ x, ok x = true -> callS Γ c I O x = some (g x)) : SemOK P (f, sgMean own I O ok g) := by
 refine ⟨?_, hf.ok⟩
 intro args ins rs outs hrun β0 K0 w0 vs hk hm hfr hv
 simp only [sgMean, decO] at hrun
 split at hrun
 case h_2 => cases hrun
 rename_i x hx
 split at hx
 case h_2 => cases hx
 rename_i x1 hx1
 split at hx
 case h_2 => cases hx
 rename_i x2 hx2
 cases hx
 split at hrun
 case h_2 => cases hrun
 rename_i ins' hins'
 simp only [Option.some.injEq, Prod.mk.injEq] at hrun
 obtain ⟨hok, rfl, rfl⟩ := hrun
 obtain ⟨hl1, hg1⟩ := decBs_ok hx2
 obtain ⟨hl2, hg2⟩ := insOf_get hins'
 rw [getO_some] at hg1
 rw [<- hg2] at hg1
 have hlen : ins'.length = ins.length := by rw [hl2, hl1]; simp
 have he := h (x1, x2) hok
 simp only [callS, hins'] at he
 refine (callK_ok env hf he hk (hm.lax hg1) (fun k hk => hfr k (by omega)) (decKs_ok hx1 hv)).mono ?_
 rintro e w' ⟨v, β, K, rs', outs', rfl, hg, hR⟩
 simp only [decO] at hg
 split at hg
 case h_2 => cases hg
 rename_i y1 hy1
 split at hg
 case h_2 => cases hg
 rename_i y2 hy2
 obtain ⟨hl3, hg3⟩ := decBs_ok hy2
 have hl3' : (encBs O.bs (y1, y2).2).length = outs'.length := hl3
 have hgx : g (x1, x2) = (y1, y2) := by simpa using hg.symm
 rw [hgx]
 have hown : ∀ b, Own β0 (getL ins') b -> Own β0 (getL ins) b := fun b hb => hb.lax hg1
 refine ⟨v, β, K, rfl, ⟨hR.kle, hR.kok, fun b arr e => ?_, hR.mr.lax hg3, fun k hk => hR.fresh k (by simp only at hk hl3'; omega), decKs_out hy1 hR.out, ⟨hR.fr.os, hR.fr.tape, hR.fr.output, hR.fr.size, fun b hb hn => hR.fr.block b hb fun hc => hn (hc.imp (hown b) id)⟩, fun x hx => ?_, hR.ble, ?_⟩⟩
 ·rcases hR.knew b arr e with h1 | h1 | h1
  ·exact .inl h1
  ·exact .inr (.inl (hown b h1))
  ·exact .inr (.inr h1)
 ·rcases hR.own x (hx.lax hg3) with h1 | h1
  ·exact .inl (hown x h1)
  ·exact .inr h1
 ·have := hR.le
  simp only at hl3' ⊢
  omega
theorem sg_opt (env : EnvOK P Γ) {f : Nat} {c : Code} (hf : FnIs P f Γ c) (own : Bool) {I O : Sg} {p : I.den -> Option O.den} (h : ∀ x, callS Γ c I O x = p x) : SemOK P (f, sgMean own I O (fun x => (p x).isSome) (fun x => (p x).getD (zeroSg O))) :=
 sg_ok env hf fun x hx => by
  rw [h x]
  cases hp : p x with
  | none => rw [hp] at hx; cases hx
  | some r => rfl
end
theorem iter_ind {V X : Type} {q : (V -> Option X) -> V -> Option X} (I : V -> Prop) (P : V -> Option X -> Prop) (μ : V -> Nat)
 (step : ∀ v f, I v -> (∀ v', I v' -> μ v' < μ v -> P v' (f v')) -> P v (q f v)) : ∀ n v, I v -> μ v < n -> P v (iter q n v)
 | 0, v, _, h => by omega
 | n + 1, v, hi, h => step v _ hi fun v' hi' hm => iter_ind I P μ step n v' hi' (by omega)
def firstStop {X : Type} (stop : Nat -> Option X) (e : X) : Nat -> Nat -> X
 | _, 0 => e
 | k, n + 1 => match stop k with
   | some x => x
   | none => firstStop stop e (k + 1) n
theorem iter_run {V X : Type} {q : (V -> Option X) -> V -> Option X} (S : Nat -> V) (n : Nat) (stop : Nat -> Option X) (e : X)
 (step : ∀ k f, k < n -> q f (S k) = match stop k with | some x => some x | none => f (S (k + 1))) (fin : ∀ f, q f (S n) = some e) :
 ∀ m j k, k + j = n -> j < m -> iter q m (S k) = some (firstStop stop e k j)
 | 0, _, _, _, h => by omega
 | m + 1, 0, k, hk, h => by
   have : k = n := by omega
   subst this
   exact fin _
 | m + 1, j + 1, k, hk, h => by
   show q (iter q m) (S k) = _
   rw [step k _ (by omega)]
   simp only [firstStop]
   cases hs : stop k with
   | some x => rfl
   | none => exact iter_run S n stop e step fin m j (k + 1) (by omega) (by omega)
theorem firstStop_none {X : Type} {stop : Nat -> Option X} {e : X} : ∀ {n k : Nat}, (∀ j, k <= j -> j < k + n -> stop j = none) -> firstStop stop e k n = e
 | 0, _, _ => rfl
 | n + 1, k, h => by
   simp only [firstStop, h k (Nat.le_refl _) (by omega)]
   exact firstStop_none fun j h1 h2 => h j (by omega) (by omega)
theorem iter_all {V X : Type} {q : (V -> Option X) -> V -> Option X} (S : Nat -> V) (n : Nat) (e : X) (step : ∀ k f, k < n -> q f (S k) = f (S (k + 1))) (fin : ∀ f, q f (S n) = some e) (m : Nat) (h : n < m) : iter q m (S 0) = some e := by
 have := iter_run S n (fun _ => none) e step fin m n 0 (by omega) h
 rw [firstStop_none fun _ _ _ => rfl] at this
 exact this
def allFrom (g : Nat -> Bool) : Nat -> Nat -> Bool
 | _, 0 => true
 | k, n + 1 => g k && allFrom g (k + 1) n
theorem allFrom_iff {g : Nat -> Bool} : ∀ {n k : Nat}, allFrom g k n = true ↔ ∀ j, k <= j -> j < k + n -> g j = true
 | 0, k => by simp [allFrom]; omega
 | n + 1, k => by
   simp only [allFrom, Bool.and_eq_true, allFrom_iff (n := n)]
   constructor
   ·rintro ⟨h1, h2⟩ j h3 h4
    rcases Nat.eq_or_lt_of_le h3 with rfl | h5
    ·exact h1
    ·exact h2 j h5 (by omega)
   ·intro h
    exact ⟨h k (Nat.le_refl _) (by omega), fun j h1 h2 => h j (by omega) (by omega)⟩
theorem firstStop_all {X : Type} {stop : Nat -> Option X} {g : Nat -> Bool} {e s : X} : ∀ {n k : Nat}, (∀ j, k <= j -> j < k + n -> stop j = bif g j then none else some s) -> firstStop stop e k n = bif allFrom g k n then e else s
 | 0, _, _ => rfl
 | n + 1, k, h => by
   simp only [firstStop, allFrom, h k (Nat.le_refl _) (by omega)]
   cases g k with
   | false => rfl
   | true => exact firstStop_all fun j h1 h2 => h j (by omega) (by omega)
theorem iter_allB {V X : Type} {q : (V -> Option X) -> V -> Option X} (S : Nat -> V) (n : Nat) (g : Nat -> Bool) (e s : X) (step : ∀ k f, k < n -> q f (S k) = bif g k then f (S (k + 1)) else some s) (fin : ∀ f, q f (S n) = some e) (m : Nat) (h : n < m) :
 iter q m (S 0) = some (bif allFrom g 0 n then e else s) := by
 rw [iter_run S n (fun k => bif g k then none else some s) e (fun k f hk => by rw [step k f hk]; cases g k <;> rfl) fin m n 0 (by omega) h]
 rw [firstStop_all fun _ _ _ => rfl]
def findFrom (g : Nat -> Bool) : Nat -> Nat -> Option Nat
 | _, 0 => none
 | k, n + 1 => bif g k then some k else findFrom g (k + 1) n
theorem findFrom_some {g : Nat -> Bool} : ∀ {n k j : Nat}, findFrom g k n = some j -> k <= j /\ j < k + n /\ g j = true /\ ∀ i, k <= i -> i < j -> g i = false
 | 0, k, j, h => by cases h
 | n + 1, k, j, h => by
   simp only [findFrom] at h
   cases hg : g k with
   | true =>
     rw [hg] at h
     cases h
     exact ⟨Nat.le_refl _, by omega, hg, fun i h1 h2 => by omega⟩
   | false =>
     rw [hg] at h
     obtain ⟨h1, h2, h3, h4⟩ := findFrom_some (n := n) h
     refine ⟨by omega, by omega, h3, fun i h5 h6 => ?_⟩
     rcases Nat.eq_or_lt_of_le h5 with rfl | h7
     ·exact hg
     ·exact h4 i h7 h6
theorem findFrom_none {g : Nat -> Bool} : ∀ {n k : Nat}, findFrom g k n = none ↔ ∀ i, k <= i -> i < k + n -> g i = false
 | 0, k => by simp [findFrom]; omega
 | n + 1, k => by
   simp only [findFrom]
   cases hg : g k with
   | true =>
     simp only [cond_true]
     constructor
     ·intro h; cases h
     ·intro h; rw [h k (Nat.le_refl _) (by omega)] at hg; cases hg
   | false =>
     simp only [cond_false, findFrom_none (n := n)]
     constructor
     ·intro h i h1 h2
      rcases Nat.eq_or_lt_of_le h1 with rfl | h3
      ·exact hg
      ·exact h i h3 (by omega)
     ·intro h i h1 h2
      exact h i (by omega) (by omega)
theorem iter_find {V X : Type} {q : (V -> Option X) -> V -> Option X} (S : Nat -> V) (n : Nat) (g : Nat -> Bool) (e : X) (s : Nat -> X) (step : ∀ k f, k < n -> q f (S k) = bif g k then some (s k) else f (S (k + 1))) (fin : ∀ f, q f (S n) = some e) (m : Nat) (h : n < m) :
 iter q m (S 0) = some (match findFrom g 0 n with | some j => s j | none => e) := by
 rw [iter_run S n (fun k => bif g k then some (s k) else none) e (fun k f hk => by rw [step k f hk]; cases g k <;> rfl) fin m n 0 (by omega) h]
 congr 1
 clear h step fin
 generalize 0 = k
 induction n generalizing k with
 | zero => rfl
 | succ n ih =>
   simp only [firstStop, findFrom]
   cases g k with
   | true => rfl
   | false => exact ih (k + 1)
theorem w64 {x : Int} (h : -9223372036854775808 <= x) (h' : x <= 9223372036854775807) : IntKind.wrap IntKind.i64 x = x := IntWalk.i64_in x (by omega)
theorem w64n (k : Nat) (h : k < 9223372036854775807) : IntKind.wrap IntKind.i64 ((k : Int) + 1) = ((k + 1 : Nat) : Int) := by rw [w64 (by omega) (by omega)]; simp
theorem capOk_of {n : Nat} (h : n <= 1099511627776) : capOk n = true := Nat.ble_eq_true_of_le h
theorem getD_lt {α : Type} (l : List α) (k : Nat) (z : α) (h : k < l.length) : l.getD k z = l[k] := by
 rw [List.getD_eq_getElem?_getD, List.getElem?_eq_getElem h]; rfl
structure Fam where
 ι : Type
 inh : Nonempty ι
 mean : ι -> Mean
 own : Bool
def DoesCall (P : Program) (f : Nat) (vs : Array Value) (w : World) (Q : Ending -> World -> Prop) : Prop :=
 (FnOK P f /\ Calls P f vs w Q) ∨ ∃ v w', (callFunc f vs).run P w = .ok (.value v) w' /\ Q (.returned v) w'
theorem DoesCall.mono {P : Program} {f : Nat} {vs : Array Value} {w : World} {Q Q' : Ending -> World -> Prop} (h : DoesCall P f vs w Q) (hq : ∀ e w', Q e w' -> Q' e w') : DoesCall P f vs w Q' := by
 rcases h with ⟨h1, h2⟩ | ⟨v, w', h1, h2⟩
 ·exact .inl ⟨h1, h2.mono hq⟩
 ·exact .inr ⟨v, w', h1, hq _ _ h2⟩
structure FamOK (P : Program) (f : Nat) (fam : Fam) : Prop where
 own : ∀ z, (fam.mean z).own = fam.own
 mean : ∀ (args : List W) (ins : List Blk), (∀ z, ∃ rs outs, (fam.mean z).run args ins = some (true, rs, outs)) ->
  ∀ (β0 : Bt) (K0 : Ks) (w0 : World) (vs : Array Value), KOK K0 w0 -> MR β0 K0 (getL ins) w0 -> (∀ k, ins.length <= k -> β0 k = none) -> All2 (WR β0 K0) args vs.toList ->
  DoesCall P f vs w0 fun e w' => ∃ z rs outs v β K, (fam.mean z).run args ins = some (true, rs, outs) /\ e = .returned v /\ Ret ins outs rs β0 K0 w0 v w' β K
section
variable {P : Program} {Γ : Env} {β : Bt} {K : Ks} {get : Get} {n : Nat} {w : World} {ρ : Operand -> V} {a : Act} {o : Oper}
theorem exec_callN (h : Pre P Γ β K get n w ρ a) {c : Call} {f : Operand} {g : Nat} {caps : List Nat} {ws : List W} (ho : o.op = .call c) (hc : c.callee = .value f) (hf : ρ f = .val (.one (.fn g caps)))
 (hw : valsW (c.args.toList.map ρ) = some ws) : ∃ vs : Array Value, (∀ r, (callFunc g vs).run P w = r -> (execOp a.eval o).run P w = r) /\ All2 (WR β K) (ws ++ caps.map fun k => .one (.ptr k 0)) vs.toList := by
 obtain ⟨cs, hfv, hcs⟩ := h.one hf
 refine ⟨(c.args.map a.eval) ++ cs.toArray, ?_, ?_⟩
 ·intro r hr
  rw [<- hr]
  simp [execOp, ho, resolve, hc, hfv, Deferred.ofValue, invoke]
 ·rw [Array.toList_append]
  refine All2.append ?_ ?_
  ·have hl : All2 (fun (x : V) (u : Value) => VR β K x u) (c.args.toList.map ρ) (c.args.map a.eval).toList := by
    rw [Array.toList_map]
    generalize c.args.toList = l
    induction l with
    | nil => trivial
    | cons x r ih => exact ⟨h.val x, ih⟩
   refine mapO_all2 hw hl fun x c u _ hx hu => ?_
   split at hx
   ·cases hx; exact hu
   ·cases hx
  ·simp only []
   clear hf hfv
   induction caps generalizing cs with
   | nil => cases cs with
     | nil => trivial
     | cons _ _ => exact hcs.elim
   | cons k caps ih => cases cs with
     | nil => exact hcs.elim
     | cons u cs => exact ⟨hcs.1, ih cs hcs.2⟩
theorem callFunc_enter {g : Nat} {vs : Array Value} (hfn : FnOK P g) (w : World) : (callFunc g vs).run P w = .ok (.enter g vs) w := by
 obtain ⟨fn, h1, h2, h3⟩ := hfn.body
 have hb : ¬ fn.body = none := by intro e; rw [e] at h2; cases h2
 have h3' : ¬ fn.name = "runtime.NumGoroutine" := by simpa using h3
 simp [callFunc, h1, h3', hb]
theorem step_callN {g : Nat} {vs : Array Value} {post : Value -> World -> Prop} (hx : ∀ r, (callFunc g vs).run P w = r -> (execOp a.eval o).run P w = r) (hc : DoesCall P g vs w fun e w' => ∃ v, e = .returned v /\ post v w') : StepOK P o a w post := by
 rcases hc with ⟨h1, h2⟩ | ⟨v, w', h1, v', h2, h3⟩
 ·exact StepOK.call (hx _ (callFunc_enter h1 w)) h2
 ·cases h2
  exact StepOK.value (hx _ h1) h3
theorem ok_callMutN (h : Pre P Γ β K get n w ρ a) {c : Call} {f : Operand} {g : Nat} {caps : List Nat} {ws : List W} {fam : Fam} {out : fam.ι -> Out} (ho : o.op = .call c) (hc : c.callee = .value f) (hf : ρ f = .val (.one (.fn g caps)))
 (hw : valsW (c.args.toList.map ρ) = some ws) (hfam : FamOK P g fam) (hl : ∀ z, callMut (fam.mean z) get n (ws ++ caps.map fun k => .one (.ptr k 0)) = some (out z)) (hok : ∀ z, (out z).ok = true) : StepOK P o a w (fun v w' => ∃ z, PostE β K get n w (out z) v w') := by
 obtain ⟨_, hmean⟩ := hfam
 obtain ⟨vs, hx, hvs⟩ := exec_callN h ho hc hf hw
 generalize (ws ++ caps.map fun k => W.one (C.ptr k 0)) = args at hl hvs
 simp only [callMut] at hl
 generalize hks : reach get reachFuel (args.flatMap keysW) [] = ks at hl
 have hnd : ks.Nodup := by rw [<- hks]; exact reach_nodup _ _ _ _ (by simp)
 obtain ⟨z0⟩ := fam.inh
 obtain ⟨args', hargs⟩ : ∃ args', mapO (renW fun k => indexN ks k 0) args = some args' := by
  cases hq : mapO (renW fun k => indexN ks k 0) args with
  | none => have := hl z0; rw [hq] at this; cases this
  | some x => exact ⟨x, rfl⟩
 obtain ⟨ins, hins⟩ : ∃ ins, mapO (fun k => (get k).bind (renB fun k => indexN ks k 0)) ks = some ins := by
  cases hq : mapO (fun k => (get k).bind (renB fun k => indexN ks k 0)) ks with
  | none => have := hl z0; rw [hargs, hq] at this; cases this
  | some x => exact ⟨x, rfl⟩
 have hl : ∀ z, ∃ rs outs rs' outs', (fam.mean z).run args' ins = some (true, rs, outs) /\ Nat.ble ks.length outs.length = true /\ mapO (renW fun i => some (keyAt ks n i)) rs = some rs' /\ mapO (renOB fun i => some (keyAt ks n i)) outs = some outs' /\
  out z = ⟨true, outV rs', upds ks outs' n, n + (outs.length - ks.length)⟩ := by
  intro z
  have h1 := hl z
  rw [hargs, hins] at h1
  dsimp only at h1
  split at h1
  case h_2 => cases h1
  rename_i ok rs outs hrun
  split at h1
  case h_2 => cases h1
  rename_i rs' outs' hlen hrs' houts'
  have h2 := Option.some.inj h1
  have h3 := hok z
  rw [<- h2] at h3
  dsimp only at h3
  subst h3
  exact ⟨rs, outs, rs', outs', hrun, hlen, hrs', houts', h2.symm⟩
 have hinl : ins.length = ks.length := mapO_length hins
 have hin : ∀ p b, getL ins p = some b -> ∃ k b0 y, ks[p]? = some k /\ get k = some b0 /\ renB (fun k => indexN ks k 0) b0 = some b /\ β k = some y /\ BR β K b0 y w := by
  intro p b e
  obtain ⟨k, hk, hb⟩ := (All2.ofMap hins).get?' e
  cases hg : get k with
  | none => rw [hg] at hb; cases hb
  | some b0 =>
    rw [hg] at hb
    obtain ⟨y, hy, hbr⟩ := h.mr.blk k b0 hg
    exact ⟨k, b0, y, hk, hg, hb, hy, hbr⟩
 have hksome : ∀ (p k : Nat), ks[p]? = some k -> ∃ b0 y, get k = some b0 /\ β k = some y := by
  intro p k hk
  obtain ⟨b, _, hb⟩ := (All2.ofMap hins).get? hk
  cases hg : get k with
  | none => rw [hg] at hb; cases hb
  | some b0 =>
    obtain ⟨y, hy, _⟩ := h.mr.blk k b0 hg
    exact ⟨b0, y, rfl, hy⟩
 have hklt : ∀ x ∈ ks, x < n := by
  intro x hx
  obtain ⟨p, hp, he⟩ := List.mem_iff_getElem.1 hx
  obtain ⟨b0, y, _, hy⟩ := hksome p x (by rw [List.getElem?_eq_getElem hp, he])
  rcases Nat.lt_or_ge x n with h1 | h1
  ·exact h1
  ·rw [h.fresh x h1] at hy; cases hy
 have hσ0 : ∀ k k' y, (fun k => indexN ks k 0) k = some k' -> β k = some y -> (fun i => (ks[i]?).bind β) k' = some y := by
  intro k k' y e hy
  obtain ⟨p, hp, hk⟩ := indexN_spec e
  have : k' = p := by omega
  subst this
  dsimp only
  rw [hk]; exact hy
 have hM0 : MR (fun i => (ks[i]?).bind β) K (getL ins) w := by
  refine ⟨fun p b e => ?_, fun p p' b b' y y' x e e' f f' g g' => ?_, fun p b y x e f g => ?_⟩
  ·obtain ⟨k, b0, y, hk, hg, hb, hy, hbr⟩ := hin p b e
   exact ⟨y, by show (ks[p]?).bind β = some y; rw [hk]; exact hy, renB_ok hσ0 hb hbr⟩
  ·obtain ⟨k, b0, z, hk, hg, hb, hy, hbr⟩ := hin p b e
   obtain ⟨k', b0', z', hk', hg', hb', hy', hbr'⟩ := hin p' b' e'
   try dsimp only at f f'
   rw [hk] at f; rw [hk'] at f'
   have hkk := h.mr.sep k k' b0 b0' y y' x hg hg' f f' g g'
   subst hkk
   exact (List.getElem?_inj (List.getElem?_eq_some_iff.1 hk).1 hnd).1 (hk.trans hk'.symm)
  ·obtain ⟨k, b0, z, hk, hg, hb, hy, hbr⟩ := hin p b e
   try dsimp only at f
   rw [hk] at f
   exact h.mr.ro k b0 y x hg f g
 have hargs' : All2 (WR (fun i => (ks[i]?).bind β) K) args' vs.toList := mapO_all2 hargs hvs fun c c' u _ hcc hu => renW_ok hσ0 hcc hu
 refine step_callN hx ?_
 refine (hmean args' ins (fun z => by obtain ⟨rs, outs, _, _, h1, _⟩ := hl z; exact ⟨rs, outs, h1⟩) _ K w vs h.kok hM0 (fun k hk => by rw [List.getElem?_eq_none (by omega)]; rfl) hargs').mono ?_
 rintro e w' ⟨z, rs, outs, v, β', K', hrz, rfl, hR⟩
 refine ⟨v, rfl, z, ?_⟩
 obtain ⟨rs2, outs2, rs', outs', hrun, hlen, hrs', houts', hout⟩ := hl z
 rw [hrz] at hrun
 cases hrun
 rw [hout]
 have hlen : ks.length <= outs.length := by simpa using hlen
 have hown : ∀ x, Own (fun i => (ks[i]?).bind β) (getL ins) x -> ∃ (p k : Nat) (b0 : Blk) (y : Hd), ks[p]? = some k /\ get k = some b0 /\ β k = some y /\ y.b = some x := by
  rintro x ⟨p, b, y, e, f, g⟩
  obtain ⟨k, b0, z, hk, hg, hb, hy, hbr⟩ := hin p b e
  try dsimp only at f
  rw [hk] at f
  exact ⟨p, k, b0, y, hk, hg, f, g⟩
 have hold : ∀ k b y x, get k = some b -> β k = some y -> y.b = some x -> k ∉ ks -> ¬ Own (fun i => (ks[i]?).bind β) (getL ins) x := by
  intro k b y x e f g hk ho'
  obtain ⟨p, k', b0, y', h1, h2, h3, h4⟩ := hown x ho'
  have := h.mr.sep k k' b b0 y y' x e h2 f h3 g h4
  subst this
  exact hk (List.mem_of_getElem? h1)
 have hgn := h.gnone
 have hβ'' : ∀ k, k < n -> (fun k => if n <= k then β' (ks.length + (k - n)) else β k) k = β k := fun k hk => by dsimp only; rw [if_neg (by omega)]
 have hβn : ∀ k, n <= k -> (fun k => if n <= k then β' (ks.length + (k - n)) else β k) k = β' (ks.length + (k - n)) := fun k hk => by dsimp only; rw [if_pos hk]
 generalize hβe : (fun k => if n <= k then β' (ks.length + (k - n)) else β k) = β'' at hβ'' hβn
 have hble : BLe β β'' := by
  intro k y e
  rw [hβ'' k]
  ·exact e
  ·rcases Nat.lt_or_ge k n with h1 | h1
   ·exact h1
   ·rw [h.fresh k h1] at e; cases e
 have hσ : ∀ k k' y, (fun i => some (keyAt ks n i)) k = some k' -> β' k = some y -> β'' k' = some y := by
  intro k k' y e hy
  cases e
  rcases Nat.lt_or_ge k ks.length with h1 | h1
  ·have hk := List.getElem?_eq_getElem h1
   rw [keyAt_lt hk]
   obtain ⟨b0, z, h2, h3⟩ := hksome k _ hk
   have h4 := hR.ble k z (by show (ks[k]?).bind β = some z; rw [hk]; exact h3)
   rw [hy] at h4; cases h4
   rw [hβ'' _ (hklt _ (List.mem_of_getElem? hk))]
   exact h3
  ·rw [keyAt_ge h1, hβn _ (by omega)]
   have : ks.length + (n + (k - ks.length) - n) = k := by omega
   rw [this]; exact hy
 have hcase : ∀ k b, getU (upds ks outs' n) get k = some b -> (∃ (p : Nat) (b0 : Blk), ((∃ hp : ks[p]? = some k, True) ∨ (n <= k /\ p = ks.length + (k - n))) /\ getO outs p = some b0 /\ renB (fun i => some (keyAt ks n i)) b0 = some b /\ β'' k = β' p) ∨ (k ∉ ks /\ k < n /\ get k = some b) := by
  intro k b e
  have hll : ks.length <= outs'.length := by rw [mapO_length houts']; exact hlen
  obtain ⟨hl1, hl2⟩ := upds_look (ks := ks) (outs := outs') (n := n) (k := k) hll hklt hnd
  by_cases hk : k ∈ ks
  ·obtain ⟨p, hp, he⟩ := List.mem_iff_getElem.1 hk
   have hpk : ks[p]? = some k := by rw [List.getElem?_eq_getElem hp, he]
   have h1 := hl1 p hpk
   unfold getU at e
   rw [h1] at e
   have hpo : p < outs'.length := by omega
   rw [List.getElem?_eq_getElem hpo] at e
   have hgo : getO outs' p = some b := by unfold getO; rw [List.getElem?_eq_getElem hpo]; exact e
   obtain ⟨b0, h3, h4⟩ := mapO_getO houts' hgo
   left
   refine ⟨p, b0, .inl ⟨hpk, trivial⟩, h3, h4, ?_⟩
   obtain ⟨y, hy, _⟩ := hR.mr.blk p b0 h3
   rw [hy]
   exact hσ p k y (by show some (keyAt ks n p) = some k; rw [keyAt_lt hpk]) hy
  ·have h1 := hl2 hk
   unfold getU at e
   rw [h1] at e
   by_cases hkn : n <= k
   ·rw [if_pos hkn] at e
    left
    cases hq : outs'[ks.length + (k - n)]? with
    | none => rw [hq] at e; dsimp only at e; rw [hgn k hkn] at e; cases e
    | some x =>
      rw [hq] at e
      dsimp only at e
      subst e
      have hgo : getO outs' (ks.length + (k - n)) = some b := by unfold getO; rw [hq]; rfl
      obtain ⟨b0, h3, h4⟩ := mapO_getO houts' hgo
      exact ⟨_, b0, .inr ⟨hkn, rfl⟩, h3, h4, hβn k hkn⟩
   ·rw [if_neg hkn] at e
    exact .inr ⟨hk, by omega, e⟩
 have hsame : ∀ (k k' p : Nat), ((∃ hp : ks[p]? = some k, True) ∨ (n <= k /\ p = ks.length + (k - n))) -> ((∃ hp : ks[p]? = some k', True) ∨ (n <= k' /\ p = ks.length + (k' - n))) -> k = k' := by
  intro k k' p h1 h2
  rcases h1 with ⟨h1, _⟩ | ⟨h1, h3⟩ <;> rcases h2 with ⟨h2, _⟩ | ⟨h2, h4⟩
  ·rw [h1] at h2; cases h2; rfl
  ·have := (List.getElem?_eq_some_iff.1 h1).1; omega
  ·have := (List.getElem?_eq_some_iff.1 h2).1; omega
  ·omega
 refine ⟨β'', K', hble, hR.kle, hR.kok, outV_ren hσ hrs' hR.out, ?_, ?_, by dsimp only; omega, ?_, ?_, (fun b arr e => by
  rcases hR.knew b arr e with h1 | h1 | h1
  ·exact .inl h1
  ·obtain ⟨p, k, b0, y, _, h2, h3, h4⟩ := hown b h1
   exact .inr (.inl ⟨k, b0, y, h2, h3, h4⟩)
  ·exact .inr (.inr h1)), hβ''⟩
 ·refine h.mr.step hble hR.kle ?_
  intro k b e
  rcases hcase k b e with ⟨p, b0, hp, h1, h2, h3⟩ | ⟨hk, hkn, e1⟩
  ·right
   obtain ⟨y, hy, hbr⟩ := hR.mr.blk p b0 h1
   refine ⟨y, by rw [h3]; exact hy, renB_ok hσ h2 hbr, fun x hx => ⟨hR.mr.ro p b0 y x h1 hy hx, fun k' b' y' e' f' g' => ?_⟩⟩
   rcases hcase k' b' e' with ⟨p', b0', hp', h1', h2', h3'⟩ | ⟨hk', hkn', e1'⟩
   ·rw [h3'] at f'
    have := hR.mr.sep p' p b0' b0 y' y x h1' h1 f' hy g' hx
    subst this
    exact hsame k' k p' hp' hp
   ·rw [hβ'' k' hkn'] at f'
    exfalso
    rcases hR.own x ⟨p, b0, y, h1, hy, hx⟩ with h5 | h5
    ·exact hold k' b' y' x e1' f' g' hk' h5
    ·have := h.mr.lt ⟨k', b', y', e1', f', g'⟩
     omega
  ·refine .inl ⟨e1, fun x y f g => ?_⟩
   have hx := h.mr.lt ⟨k, b, y, e1, f, g⟩
   have hno := hold k b y x e1 f g hk
   have hnj : ¬ Jk K x := h.mr.nj e1 f g
   refine ⟨hR.fr.block x hx fun h1 => h1.elim hno hnj, ?_⟩
   cases hq : K' x with
   | none => rfl
   | some arr =>
     rcases hR.knew x arr hq with h1 | h1 | h1
     ·rw [h.mr.ro k b y x e1 f g] at h1; cases h1
     ·exact absurd h1 hno
     ·omega
 ·intro k hk
  dsimp only at hk
  rw [hβn k (by omega)]
  exact hR.fresh _ (by omega)
 ·refine ⟨hR.fr.os, hR.fr.tape, hR.fr.output, hR.fr.size, fun x hx hn => hR.fr.block x hx fun h1 => hn (h1.elim (fun h1 => .inl ?_) .inr)⟩
  obtain ⟨p, k, b0, y, _, h2, h3, h4⟩ := hown x h1
  exact ⟨k, b0, y, h2, h3, h4⟩
 ·rintro x ⟨k, b, y, e, f, g⟩
  rcases hcase k b e with ⟨p, b0, hp, h1, h2, h3⟩ | ⟨hk, hkn, e1⟩
  ·rw [h3] at f
   rcases hR.own x ⟨p, b0, y, h1, f, g⟩ with h5 | h5
   ·obtain ⟨_, k', b0', y', _, h2, h3, h4⟩ := hown x h5
    exact .inl ⟨k', b0', y', h2, h3, h4⟩
   ·exact .inr h5
  ·rw [hβ'' k hkn] at f
   exact .inl ⟨k, b, y, e1, f, g⟩
theorem ok_callRoN (h : Pre P Γ β K get n w ρ a) {c : Call} {f : Operand} {g : Nat} {caps : List Nat} {ws : List W} {fam : Fam} {frz : Bool} {out : fam.ι -> Out} (ho : o.op = .call c) (hc : c.callee = .value f) (hf : ρ f = .val (.one (.fn g caps)))
 (hw : valsW (c.args.toList.map ρ) = some ws) (hfam : FamOK P g fam) (hl : ∀ z, callRo (fam.mean z) frz get n (ws ++ caps.map fun k => .one (.ptr k 0)) = some (out z)) (hok : ∀ z, (out z).ok = true) : StepOK P o a w (fun v w' => ∃ z, PostE β K get n w (out z) v w') := by
 obtain ⟨_, hmean⟩ := hfam
 obtain ⟨vs, hx, hvs⟩ := exec_callN h ho hc hf hw
 generalize (ws ++ caps.map fun k => W.one (C.ptr k 0)) = args at hl hvs
 simp only [callRo] at hl
 obtain ⟨z0⟩ := fam.inh
 obtain ⟨args', hargs⟩ : ∃ args', mapO (roW get) args = some args' := by
  cases hq : mapO (roW get) args with
  | none => have := hl z0; rw [hq] at this; cases this
  | some x => exact ⟨x, rfl⟩
 have hrun : ∀ z, ∃ rs outs, (fam.mean z).run args' [] = some (true, rs, outs) := by
  intro z
  have h1 := hl z
  rw [hargs] at h1
  dsimp only at h1
  split at h1
  case h_2 => cases h1
  rename_i ok rs outs hr
  have hok' : ok = true := by
   have h3 := hok z
   split at h1
   ·cases h1
   ·split at h1
    ·split at h1
     ·have h2 := Option.some.inj h1; rw [<- h2] at h3; exact h3
     ·cases h1
    ·split at h1
     ·have h2 := Option.some.inj h1; rw [<- h2] at h3; exact h3
     ·cases h1
  subst hok'
  exact ⟨rs, outs, hr⟩
 refine step_callN hx ?_
 have hK1 := frzK_ok (β := β) (get := get) (ks := args.flatMap keysW) h.kok
 have hargs' : All2 (WR (fun _ => none) (frzK β K get w (args.flatMap keysW))) args' vs.toList :=
  mapO_all2 hargs hvs fun c c' u hmem hcc hu => roW_free h.mr hcc hu (fun k hk => List.mem_flatMap.2 ⟨c, hmem, hk⟩) _
 have hM0 : MR (fun _ => none) (frzK β K get w (args.flatMap keysW)) (getL []) w := ⟨fun k b e => by simp [getL] at e, fun k k' b b' _ _ _ e => by simp [getL] at e, fun k b _ _ e => by simp [getL] at e⟩
 refine (hmean args' [] hrun (fun _ => none) _ w vs hK1 hM0 (fun _ _ => rfl) hargs').mono ?_
 rintro e w' ⟨z, rs, outs, v, β', K', hrz, rfl, hR⟩
 refine ⟨v, rfl, z, ?_⟩
 have hl := hl z
 generalize out z = out at hl
 rw [hargs] at hl
 dsimp only at hl
 rw [hrz] at hl
 dsimp only at hl
 have hempty : ∀ x, ¬ Own (fun _ => none) (getL []) x := by rintro x ⟨k, b, y, e, _⟩; simp [getL] at e
 have hheap : ∀ b, b < w.heap.size -> ¬ Jk K b -> w'.heap[b]? = w.heap[b]? := fun b hb hj => hR.fr.block b hb fun h1 => h1.elim (hempty b) fun h2 => hj (frzK_jk.1 h2)
 have hownb : ∀ x, Own β' (getO outs) x -> w.heap.size <= x := fun x hx => (hR.own x hx).resolve_left (hempty x)
 have hgn := h.gnone
 have hfr : Fr (OwnJ β K get) w w' := ⟨hR.fr.os, hR.fr.tape, hR.fr.output, hR.fr.size, fun b hb hn => hheap b hb fun h1 => hn (.inr h1)⟩
 have main : ∀ (K2 : Ks), (∀ b x, w.heap.size <= b -> K2 b = some x -> ∃ cur T fz, w'.heap[b]? = some (.cells cur T fz) /\ (x.1 = false -> cur = x.2) /\ (x.1 = true -> fz = (0, 0) /\ All2 VJ x.2.toList cur.toList)) ->
  ∃ K3 : Ks, KLe K K3 /\ KOK K3 w' /\ (∀ x, x < w.heap.size -> K3 x = K x) /\ (∀ x, w.heap.size <= x -> K3 x = K2 x) := by
  intro K2 h2
  refine ⟨fun b => if w.heap.size <= b then K2 b else K b, ?_, ?_, fun x hx => ?_, fun x hx => ?_⟩
  ·intro b arr e
   have := h.kok.lt e
   dsimp only
   rw [if_neg (by omega)]; exact e
  ·intro b arr e
   dsimp only at e
   split at e
   ·exact h2 b arr ‹_› e
   ·exact hR.kok b arr (hR.kle b arr (frzK_le b arr e))
  ·dsimp only; rw [if_neg (by omega)]
  ·dsimp only; rw [if_pos hx]
 have noref : (args.all fun w => w.cells.all fun c => !isRef c) = true -> frzK β K get w (args.flatMap keysW) = K := by
  intro hn
  have hk : args.flatMap keysW = [] := by
   rw [List.flatMap_eq_nil_iff]
   intro u hu
   have hu2 := List.all_eq_true.1 hn u hu
   obtain ⟨u', hu', hro⟩ : ∃ u', u' ∈ args' /\ roW get u = some u' := by
    obtain ⟨i, hi, he⟩ := List.mem_iff_getElem.1 hu
    obtain ⟨u', h1, h2⟩ := (All2.ofMap hargs).get? (List.getElem?_eq_getElem hi)
    rw [he] at h2
    exact ⟨u', List.mem_of_getElem? h1, h2⟩
   unfold keysW
   rw [List.flatMap_eq_nil_iff]
   intro cc hcc
   have h3 := List.all_eq_true.1 hu2 cc hcc
   have h4 : ∃ c', roC get cc = some c' := by
    cases u with
    | one c0 =>
      simp only [W.cells, List.mem_singleton] at hcc
      subst hcc
      simp only [roW, Option.map_eq_some_iff] at hro
      exact ⟨hro.choose, hro.choose_spec.1⟩
    | agg cs =>
      simp only [roW, Option.map_eq_some_iff] at hro
      obtain ⟨cs', h5, _⟩ := hro
      obtain ⟨i, hi, he⟩ := List.mem_iff_getElem.1 (show cc ∈ cs from hcc)
      obtain ⟨c', _, h6⟩ := (All2.ofMap h5).get? (List.getElem?_eq_getElem hi)
      rw [he] at h6
      exact ⟨c', h6⟩
   obtain ⟨c', h4⟩ := h4
   cases cc with
   | ref t k => simp [isRef] at h3
   | ptr k o => simp [roC] at h4
   | eptr k t i o => simp [roC] at h4
   | aptr k o m j => simp [roC] at h4
   | aeptr k t i o m j => simp [roC] at h4
   | asl t k o m => simp [isRef] at h3
   | fn f caps => cases caps with
     | nil => rfl
     | cons _ _ => simp [roC] at h4
   | _ => rfl
  rw [hk]
  funext b
  unfold frzK
  cases hq : K b with
  | some _ => rfl
  | none =>
    dsimp only
    rw [if_neg]
    rintro ⟨k, hk, _⟩
    simp at hk
 split at hl
 ·cases hl
 ·rename_i hcond
  split at hl
  ·
   split at hl
   ·rename_i rs' hrs'
    cases hl
    have hnr : (args.all fun w => w.cells.all fun c => !isRef c) = true := by simpa using hcond
    have hKe := noref hnr
    obtain ⟨K3, hle3, hok3, hlo, hhi⟩ := main (frzK β' K' (getO outs) w' (rs.flatMap keysW)) (fun b arr _ e => frzK_ok hR.kok b arr e)
    have hle : KLe (frzK β' K' (getO outs) w' (rs.flatMap keysW)) K3 := by
     intro b arr e
     by_cases hb : w.heap.size <= b
     ·rw [hhi b hb]; exact e
     ·rw [hlo b (by omega)]
      unfold frzK at e
      split at e
      ·rename_i x hx
       cases e
       rcases hR.knew b _ hx with h1 | h1 | h1
       ·rw [hKe] at h1; exact h1
       ·exact absurd h1 (hempty b)
       ·omega
      ·split at e
       ·rename_i hex
        obtain ⟨k, _, c, y, h1, h2, h3⟩ := hex
        have := hownb b ⟨k, c, y, h1, h2, h3⟩
        omega
       ·cases e
    refine ⟨β, K3, BLe.refl β, hle3, hok3, ?_, ?_, h.fresh, Nat.le_refl _, hfr, fun x hx => .inl hx, (fun b arr e => by
     by_cases hb : w.heap.size <= b
     ·exact .inr (.inr hb)
     ·rw [hlo b (by omega)] at e; exact .inl e), fun _ _ => rfl⟩
    ·refine outV_map hrs' hR.out fun c c' u hm hcc hu => ?_
     exact WR.mono (BLe.refl β) hle (roW_free hR.mr hcc hu (fun k hk => List.mem_flatMap.2 ⟨c, hm, hk⟩) β)
    ·refine h.mr.step (BLe.refl β) hle3 fun k b e => .inl ⟨e, fun x y f g => ?_⟩
     have hx := h.mr.lt ⟨k, b, y, e, f, g⟩
     exact ⟨hheap x hx (h.mr.nj e f g), by rw [hlo x hx]; exact h.mr.ro k b y x e f g⟩
   ·cases hl
  ·split at hl
   ·rename_i rs' outs' hrs' houts'
    cases hl
    obtain ⟨K3, hle3, hok3, hlo, hhi⟩ := main K' (fun b arr _ e => hR.kok b arr e)
    have hcase : KLe K' K3 ∨ ((∀ c ∈ rs, c.cells.all bare = true) /\ ∀ b ∈ outs, flatB b = true) := by
     simp only [Bool.or_eq_true, Bool.and_eq_true] at hcond
     rcases hcond with hnr | ⟨⟨_, h1⟩, h2⟩
     ·left
      have hKe := noref hnr
      intro b arr e
      by_cases hb : w.heap.size <= b
      ·rw [hhi b hb]; exact e
      ·rw [hlo b (by omega)]
       rcases hR.knew b arr e with h1 | h1 | h1
       ·rw [hKe] at h1; exact h1
       ·exact absurd h1 (hempty b)
       ·omega
     ·exact .inr ⟨List.all_eq_true.1 h1, List.all_eq_true.1 h2⟩
    have hout : OutR β' K3 rs v := outV_mono hR.out fun c hc u hu => by
     rcases hcase with hle | ⟨h1, _⟩
     ·exact WR.mono (BLe.refl _) hle hu
     ·exact bare_WR (h1 c hc) hu
    have hblk : ∀ i b y, getO outs i = some b -> BR β' K' b y w' -> BR β' K3 b y w' := by
     intro i b y hi hb
     rcases hcase with hle | ⟨_, h2⟩
     ·exact hb.mono (BLe.refl _) hle
     ·refine flat_BR (h2 _ ?_) hb
      unfold getO at hi
      cases hq : outs[i]? with
      | none => rw [hq] at hi; cases hi
      | some x => rw [hq] at hi; have hx : x = some b := hi; subst hx; exact List.mem_of_getElem? hq
    have hσ : ∀ k k' y, (fun i => some (n + i)) k = some k' -> β' k = some y -> addBs β n β' k' = some y := by
     intro k k' y e hy
     cases e
     unfold addBs
     rw [if_pos (by omega), Nat.add_sub_cancel_left]
     exact hy
    have hble : BLe β (addBs β n β') := by
     intro k y e
     unfold addBs
     rw [if_neg]
     ·exact e
     ·intro hk
      rw [h.fresh k hk] at e
      cases e
    refine ⟨addBs β n β', K3, hble, hle3, hok3, outV_ren hσ hrs' hout, ?_, ?_, by simp, hfr, ?_, (fun b arr e => by
     by_cases hb : w.heap.size <= b
     ·exact .inr (.inr hb)
     ·rw [hlo b (by omega)] at e; exact .inl e), fun k hk => by unfold addBs; rw [if_neg (by omega)]⟩
    ·refine h.mr.step hble hle3 ?_
     intro k b e
     rcases getU_upds e hgn with ⟨hk, e1⟩ | ⟨hk, e1⟩
     ·right
      obtain ⟨b0, e2, e3⟩ := mapO_getO houts' e1
      obtain ⟨y, hy, hbr⟩ := hR.mr.blk _ _ e2
      refine ⟨y, by unfold addBs; rw [if_pos hk]; exact hy, renB_ok hσ e3 (hblk _ _ _ e2 hbr), fun x hx => ?_⟩
      have hxs := hownb x ⟨_, b0, y, e2, hy, hx⟩
      refine ⟨by rw [hhi x hxs]; exact hR.mr.ro _ _ _ _ e2 hy hx, fun k' b' y' e' f' g' => ?_⟩
      rcases getU_upds e' hgn with ⟨hk', e1'⟩ | ⟨hk', e1'⟩
      ·obtain ⟨b0', e2', _⟩ := mapO_getO houts' e1'
       unfold addBs at f'
       rw [if_pos hk'] at f'
       have := hR.mr.sep _ _ _ _ _ _ x e2' e2 f' hy g' hx
       omega
      ·unfold addBs at f'
       rw [if_neg (by omega)] at f'
       have := h.mr.lt ⟨k', b', y', e1', f', g'⟩
       omega
     ·refine .inl ⟨e1, fun x y f g => ?_⟩
      have hx := h.mr.lt ⟨k, b, y, e1, f, g⟩
      exact ⟨hheap x hx (h.mr.nj e1 f g), by rw [hlo x hx]; exact h.mr.ro k b y x e1 f g⟩
    ·intro k hk
     dsimp only at hk
     unfold addBs
     rw [if_pos (by omega)]
     exact hR.fresh _ (by omega)
    ·rintro x ⟨k, b, y, e, f, g⟩
     rcases getU_upds e hgn with ⟨hk, e1⟩ | ⟨hk, e1⟩
     ·right
      obtain ⟨b0, e2, e3⟩ := mapO_getO houts' e1
      unfold addBs at f
      rw [if_pos hk] at f
      exact hownb x ⟨_, b0, y, e2, f, g⟩
     ·left
      unfold addBs at f
      rw [if_neg (by omega)] at f
      exact ⟨k, b, y, e1, f, g⟩
   ·cases hl
end
def AllSpec {ι R : Type} (F : (ι -> Option R) -> Option R) : Prop := (∀ f r, F f = some r -> ∀ z, f z = some r) /\ (Nonempty ι -> ∀ f r, (∀ z, f z = some r) -> F f = some r)
instance {ι R : Type} : Nonempty { F : (ι -> Option R) -> Option R // AllSpec F } := by
 classical
 refine ⟨⟨fun f => if h : ∃ r, ∀ z, f z = some r then some h.choose else none, fun f r h => ?_, fun ⟨z⟩ f r h => ?_⟩⟩
 ·dsimp only at h
  split at h
  ·rename_i hx
   cases h
   exact hx.choose_spec
  ·cases h
 ·have hx : ∃ r, ∀ z, f z = some r := ⟨r, h⟩
  dsimp only
  rw [dif_pos hx]
  exact (hx.choose_spec z).symm.trans (h z)
@[irreducible] noncomputable def allS (ι R : Type) : { F : (ι -> Option R) -> Option R // AllSpec F } := Classical.choice inferInstance
noncomputable def allK {ι R : Type} (f : ι -> Option R) : Option R := (allS ι R).1 f
theorem allK_spec {ι R : Type} {f : ι -> Option R} {r : R} (h : allK f = some r) : ∀ z, f z = some r := (allS ι R).2.1 f r h
theorem allK_intro {ι R : Type} [inh : Nonempty ι] {f : ι -> Option R} {r : R} (h : ∀ z, f z = some r) : allK f = some r := (allS ι R).2.2 inh f r h
def Env.withSem (Γ : Env) (f : Nat) (sm : Mean) : Env := { Γ with sem := fun g => match Nat.beq f g with | true => some sm | false => Γ.sem g }
def Bits32 : Type := { z : Nat // z < 4294967296 }
inductive Alt where
 | no
 | call (f : Nat) (fam : Fam)
 | narrow (b : Nat)
def altConv (si : Option TI) (di : Option TI) (v : V) : Alt := match si, di, v with
 | some _, some di, .val (.one (.flt s b)) => match s with
   | .f64 => match di.sort with
     | .float d => match d with
       | .f32 => .narrow b
       | _ => .no
     | _ => .no
   | _ => .no
 | _, _, _ => .no
def altOf (Γ : Env) (N : Nat -> Option Fam) (o : Oper) (ρ : Operand -> V) : Alt := match o.guard with
 | some _ => .no
 | none => match o.op with
   | .call c => match c.callee with
     | .value x => match x with
       | .func f => match N f with
         | some fam => .call f fam
         | none => .no
       | _ => .no
     | _ => .no
   | .convert src dst x => altConv (Γ.tab src) (Γ.tab dst) (ρ x)
   | _ => .no
noncomputable def opsN {R : Type} (Γ : Env) (N : Nat -> Option Fam) (ops : Array Oper) : List Oper -> (St -> Option R) -> St -> Option R
 | [], K, s => K s
 | o :: rest, K, s => match altOf Γ N o s.val with
   | .no => opsK Γ ops [o] s [] (fun s' _ => opsN Γ N ops rest K s')
   | .call f fam => allK fun z : fam.ι => runK (Γ.withSem f (fam.mean z)) o (fun s' _ => opsN Γ N ops rest K s') s
   | .narrow b => match narrowOk b with
     | true => opsK Γ ops [o] s [] (fun s' _ => opsN Γ N ops rest K s')
     | false => match dstOk Γ o.dst with
       | true => allK fun z : Bits32 => opsN Γ N ops rest K (s.putO o.dst (.val (.one (.flt .f32 z.1))))
       | false => none
theorem run_narrow (P : Program) {b b' : Nat} (h : FEq .f64 b b') (hb : narrowOk b = false) (w : World) :
 ∃ (r : Nat) (w' : World), r < 4294967296 /\ (Conv.floatToFloat .f64 b' .f32).run P w = .ok (.float .f32 r) w' /\ Still w w' := by
 unfold narrowOk at hb
 rw [Bool.not_eq_false'] at hb
 split at hb
 ·rename_i s m e hdec
  have he : b = b' := by
   rcases h with h | ⟨h1, _⟩
   ·exact h
   ·obtain ⟨sg, f, hr⟩ := decode_nan h1
    unfold FloatKind.decode at hdec
    rw [hr] at hdec
    cases hdec
  subst he
  unfold Conv.floatToFloat
  rw [if_neg (by decide), hdec]
  dsimp only
  rw [if_pos hb]
  refine ⟨_, _, ?_, by simp only [Sem.run_bind, run_choose, Question.forced, Sem.run_pure]; rfl, drawn_still w⟩
  exact Nat.mod_lt _ (by decide)
 ·cases hb
section
variable {P : Program} {Γ : Env} {z : Start} {ops : Array Oper} {N : Nat -> Option Fam}
theorem ok_narrow {β : Bt} {K : Ks} {get : Get} {n : Nat} {w : World} {ρ : Operand -> V} {a : Act} {o : Oper} (h : Pre P Γ β K get n w ρ a) {b : Nat} (ha : altOf Γ N o ρ = .narrow b) (hb : narrowOk b = false) :
 StepOK P o a w (fun v w' => ∃ z : Bits32, PostE β K get n w ⟨true, .val (.one (.flt .f32 z.1)), [], n⟩ v w') := by
 unfold altOf at ha
 split at ha
 ·cases ha
 split at ha
 ·split at ha
  ·split at ha
   ·split at ha <;> cases ha
   ·cases ha
  ·cases ha
 ·rename_i src dst x ho
  unfold altConv at ha
  split at ha
  case h_2 => cases ha
  rename_i si di s b1 hs hd hx
  split at ha
  case h_2 => cases ha
  split at ha
  case h_2 => cases ha
  rename_i d hk
  split at ha
  case h_2 => cases ha
  cases ha
  obtain ⟨_, d1, _, _, hd1, _⟩ := (h.env.tab src si hs).ex
  obtain ⟨_, d2, _, _, hd2, _, _, _, _, _, hso, _⟩ := (h.env.tab dst di hd).ex
  have hv := h.one hx
  obtain ⟨b', he, hf⟩ := hv
  simp only [SrtOk, hk] at hso
  subst hso
  have exec : ∀ v w', (convert src dst (a.eval x)).run P w = .ok v w' -> (execOp a.eval o).run P w = .ok (.value v) w' := fun v w' hr =>
   exec_v (s := convert src dst (a.eval x)) (by simp [execOp, ho]) hr
  rw [he] at exec
  obtain ⟨r, w', h1, h2, h3⟩ := run_narrow P hf hb w
  have hp : pure1 n true (.one (.flt .f32 r)) = some ⟨true, .val (.one (.flt .f32 r)), [], n⟩ := rfl
  intro next Q hn
  refine (h.pure1 hp (u := .float .f32 r) ⟨_, rfl, .inl rfl⟩ (exec _ w' ?_) h3) next Q fun v w2 hpost => hn v w2 ⟨⟨r, h1⟩, hpost⟩
  simp [convert, run_underlying hd1, run_underlying hd2, h2]
 ·cases ha
theorem act_callN {Γ : Env} {o : Oper} {c : Call} {f : Nat} {T : Nat -> V} {G : Get} {n : Nat} (ho : o.op = .call c) (hc : c.callee = .value (.func f)) :
 act Γ o (valT T) G n = match valsW (c.args.toList.map (valT T)) with
  | some ws => callF Γ o G n f (ws ++ ([] : List Nat).map fun k => .one (.ptr k 0))
  | none => none := by
 unfold act
 simp only [ho, hc, valT]
 cases valsW (c.args.toList.map (valT T)) <;> rfl
theorem ok_callN {β : Bt} {K : Ks} {w : World} {F : FS} {a : Act} {o : Oper} (h : Pre P Γ β K F.G F.n w (valT F.T) a) {f : Nat} {fam : Fam} (hfam : FamOK P f fam) (ha : altOf Γ N o (valT F.T) = .call f fam)
 {out : fam.ι -> Out} (hl : ∀ z, act (Γ.withSem f (fam.mean z)) o (valT F.T) F.G F.n = some (out z)) (hok : ∀ z, (out z).ok = true) :
 StepOK P o a w (fun v w' => ∃ z, PostE β K F.G F.n w (out z) v w') := by
 unfold altOf at ha
 split at ha
 ·cases ha
 split at ha
 ·rename_i c ho
  split at ha
  case h_2 => cases ha
  rename_i x hc
  split at ha
  case h_2 => cases ha
  rename_i g
  split at ha
  case h_2 => cases ha
  cases ha
  have hsem : ∀ z, (Γ.withSem f (fam.mean z)).sem f = some (fam.mean z) := fun z => by simp [Env.withSem]
  cases hw : valsW (c.args.toList.map (valT F.T)) with
  | none =>
    obtain ⟨z0⟩ := fam.inh
    have := hl z0
    rw [act_callN ho hc, hw] at this
    cases this
  | some ws =>
    have hl' : ∀ z, (match (fam.mean z).own with | true => callMut (fam.mean z) F.G F.n (ws ++ ([] : List Nat).map fun k => .one (.ptr k 0)) | false => callRo (fam.mean z) (match o.dst with | some d => hasN Γ.frz d | none => false) F.G F.n (ws ++ ([] : List Nat).map fun k => .one (.ptr k 0))) = some (out z) := by
     intro z
     have := hl z
     rw [act_callN ho hc, hw] at this
     dsimp only at this
     unfold callF at this
     rw [hsem z] at this
     exact this
    have hf : valT F.T (.func f) = .val (.one (.fn f [])) := rfl
    cases hown : fam.own with
    | true => exact ok_callMutN h ho hc hf hw hfam (fun z => by have := hl' z; rw [hfam.own z, hown] at this; exact this) hok
    | false => exact ok_callRoN h ho hc hf hw hfam (fun z => by have := hl' z; rw [hfam.own z, hown] at this; exact this) hok
 ·unfold altConv at ha
  split at ha
  case h_2 => cases ha
  split at ha
  case h_2 => cases ha
  split at ha
  case h_2 => cases ha
  split at ha <;> cases ha
 ·cases ha
theorem alt_guard {o : Oper} {ρ : Operand -> V} (h : altOf Γ N o ρ ≠ .no) : o.guard = none := by
 unfold altOf at h
 split at h
 ·exact absurd rfl h
 ·assumption
theorem opsN_ok {R : Type} (env : EnvOK P Γ) (hN : ∀ f fam, N f = some fam -> FamOK P f fam) {Q : Exit -> Act -> World -> Prop} {r : R} {K : St -> Option R} (hQ : ∀ s' a w, SR P Γ z s' a w -> K s' = some r -> Q .normal a w) :
 ∀ (L : List Oper) (i : Nat), ops.toList.drop i = L -> i + L.length = ops.size -> ∀ s, opsN Γ N ops L K s = some r -> ∀ a w, SR P Γ z s a w -> wpOps P ops Q (List.range' i L.length) a w
 | [], i, _, _, s, h, a, w, hs => hQ s a w hs h
 | o :: rest, i, hd, hi, s, h, a, w, hs => by
   rw [List.length_cons, List.range'_succ, wpOps_cons]
   simp only [List.length_cons] at hi
   have ho : ops[i]? = some o := by
    have : (ops.toList.drop i)[0]? = some o := by rw [hd]; rfl
    rw [List.getElem?_drop, Nat.add_zero, Array.getElem?_toList] at this
    exact this
   have hrest : ops.toList.drop (i + 1) = rest := by rw [<- List.drop_drop, hd]; rfl
   have ih := opsN_ok env hN hQ rest (i + 1) hrest (by omega)
   obtain ⟨hm, β, Ks, hf⟩ := hs
   have det : opsK Γ ops [o] s [] (fun s' _ => opsN Γ N ops rest K s') = some r -> wpOp P ops Q i (wpOps P ops Q (List.range' (i + 1) rest.length)) a w := by
    intro h
    obtain ⟨s', E, X, hstep, hm', h2⟩ := opsK_step h
    have h2 : opsN Γ N ops rest K s' = some r := h2
    have hw := wanted_run (β := β) (K := Ks) (a := a) (T := s.fs.T) hstep fun _ _ t _ _ => hf.tmp t
    unfold wpOp
    rw [ho]
    dsimp only
    rw [hw]
    cases hr : X.run with
    | true =>
      rw [if_pos rfl]
      left
      obtain ⟨_, out, h1, h2', h3, h4, h5, _⟩ := hstep.exec hr
      refine act_ok (ρ := valT s.fs.T) (get := s.fs.G) (n := s.fs.n) ⟨env, hf.kok, hf.mr, hf.fresh, fun x => eval_ok hf.tmp x⟩ h1 h2' _ _ fun v w' hp => ?_
      obtain ⟨β', K', hp⟩ := hp
      exact ih s' h2 _ _ ⟨hm'.trans hm, β', K', hf.next (x := out.v) hstep.dst hp (by rw [hstep.T, h3]) (by rw [hstep.G, h4]) h5⟩
    | false =>
      rw [if_neg (by simp)]
      obtain ⟨_, h1, h2', h3, _⟩ := hstep.skip hr
      exact ih s' h2 _ _ ⟨hm'.trans hm, β, Ks, hf.skip hstep.dst (by rw [hstep.T, h1]) (by rw [hstep.G, h2']; rfl) h3⟩
   have hpre : Pre P Γ β Ks s.fs.G s.fs.n w (valT s.fs.T) a := ⟨env, hf.kok, hf.mr, hf.fresh, fun x => eval_ok hf.tmp x⟩
   unfold opsN at h
   rw [val_fs] at h
   have wanted : o.guard = none -> Region.wanted o (yielded ops a.tmps) = true := fun hg => by simp [Region.wanted, hg]
   split at h
   ·exact det h
   ·rename_i f fam halt
    have hg := alt_guard (o := o) (by rw [halt]; exact fun e => by cases e)
    have hfam : N f = some fam := by
     unfold altOf at halt
     rw [hg] at halt
     dsimp only at halt
     split at halt
     ·split at halt
      ·split at halt
       ·split at halt
        ·cases halt; assumption
        ·cases halt
       ·cases halt
      ·cases halt
     ·unfold altConv at halt
      split at halt
      case h_2 => cases halt
      split at halt
      case h_2 => cases halt
      split at halt
      case h_2 => cases halt
      split at halt <;> cases halt
     ·cases halt
    have hall := allK_spec h
    have hspec := fun z => runK_spec (hall z)
    obtain ⟨out, hout⟩ := Classical.axiomOfChoice hspec
    unfold wpOp
    rw [ho]
    dsimp only
    rw [wanted hg, if_pos rfl]
    left
    refine ok_callN (F := s.fs) hpre (hN f fam hfam) halt (out := out) (fun z => (hout z).1) (fun z => (hout z).2.1) _ _ fun v w' hp => ?_
    obtain ⟨zz, β', K', hp⟩ := hp
    obtain ⟨_, _, h3, h4⟩ := hout zz
    refine ih _ h4 _ _ ⟨(by rw [(putO_get _ _ _).2.2]; exact hm), β', K', hf.next (x := (out zz).v) h3 hp ?_ ?_ ?_⟩
    ·rw [putO_T]; rfl
    ·rw [(putO_get _ _ _).1, apply_G]
    ·rw [(putO_get _ _ _).2.1]; rfl
   ·rename_i b halt
    have hg := alt_guard (o := o) (by rw [halt]; exact fun e => by cases e)
    split at h
    ·exact det h
    ·rename_i hnb
     split at h
     ·rename_i hdst
      have hall := allK_spec h
      unfold wpOp
      rw [ho]
      dsimp only
      rw [wanted hg, if_pos rfl]
      left
      refine ok_narrow hpre halt hnb _ _ fun v w' hp => ?_
      obtain ⟨zz, β', K', hp⟩ := hp
      refine ih _ (hall zz) _ _ ⟨(by rw [(putO_get _ _ _).2.2]; exact hm), β', K', hf.next (x := .val (.one (.flt .f32 zz.1))) hdst hp ?_ ?_ ?_⟩
      ·rw [putO_T]
      ·rw [(putO_get _ _ _).1]; rfl
      ·rw [(putO_get _ _ _).2.1]
     ·cases h
end
end Go.Proofs.YteieioehigacmaaGreat.AM
