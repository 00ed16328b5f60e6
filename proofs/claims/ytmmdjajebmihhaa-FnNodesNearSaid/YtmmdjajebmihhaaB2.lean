/- The abstract machine: every operation that it does, the model does alike. Conditions: the table and the callees' meanings are right. -/
import Derived.Test.YtmmdjajebmihhaaB1
namespace Go.Proofs.Ytmmdjajebmihhaa.AM
open Go
set_option linter.unusedVariables false

section
variable {P : Program} {Γ : Env} {β : Bt} {K : Ks} {get : Get} {n : Nat} {w : World} {ρ : Operand → V} {a : Act} {o : Oper}

theorem args1 {c : Call} {v : V} (h : c.args.toList.map ρ = [v]) : ∃ x, c.args.toList = [x] ∧ ρ x = v := by
  cases hq : c.args.toList with
  | nil => rw [hq] at h; simp at h
  | cons x r => cases r with
    | nil => rw [hq] at h; exact ⟨x, rfl, by simpa using h⟩
    | cons _ _ => rw [hq] at h; simp at h
theorem args2 {c : Call} {v u : V} (h : c.args.toList.map ρ = [v, u]) : ∃ x y, c.args.toList = [x, y] ∧ ρ x = v ∧ ρ y = u := by
  cases hq : c.args.toList with
  | nil => rw [hq] at h; simp at h
  | cons x r => cases r with
    | nil => rw [hq] at h; simp at h
    | cons y r => cases r with
      | nil => rw [hq] at h; exact ⟨x, y, rfl, by simpa using h⟩
      | cons _ _ => rw [hq] at h; simp at h

theorem ok_builtin (h : Pre P Γ β K get n w ρ a) {c : Call} {b : Builtin} {out : Out} (ho : o.op = .call c) (hc : c.callee = .builtin b)
    (hl : actBuiltin Γ get n b c.argTypes.toList (c.args.toList.map ρ) = some out) (hok : out.ok = true) : StepOK P o a w (PostE β K get n w out) := by
  unfold actBuiltin at hl
  split at hl
  · rename_i cc hargs
    obtain ⟨x, h1, h2⟩ := args1 hargs
    split at hl
    · rename_i t hts
      split at hl
      · rename_i ti ht
        exact ok_len h ho hc hts h1 ht h2 hl
      · cases hl
    · cases hl
  · rename_i s x hargs
    obtain ⟨xs, xx, h1, h2, h3⟩ := args2 hargs
    split at hl
    · rename_i st xt hts
      split at hl
      · rename_i hbe
        have := nbeq_eq hbe
        subst this
        split at hl
        · rename_i si ht
          split at hl
          · rename_i hsort
            split at hl
            · rename_i ei he
              split at hl
              · rename_i hchk
                simp only [Bool.and_eq_true] at hchk
                have hts' : c.argTypes = #[st, st] := by cases hq : c.argTypes; simp_all
                have hargs' : c.args = #[xs, xx] := by cases hq : c.args; simp_all
                exact ok_append h ho hc hts' hargs' ht hsort he (nbeq_eq hchk.1) (by simpa [Nat.blt_eq] using hchk.2) h2 h3 hl hok
              · cases hl
            · cases hl
          · cases hl
        · cases hl
      · cases hl
    · cases hl
  · rename_i hargs
    obtain ⟨x, h1, h2⟩ := args1 hargs
    exact ok_real h ho h1 h2 (.inl ⟨hc, hl⟩)
  · rename_i hargs
    obtain ⟨x, h1, h2⟩ := args1 hargs
    exact ok_real h ho h1 h2 (.inr ⟨hc, hl⟩)
  · rename_i k p k' q hargs
    obtain ⟨x, y, h1, h2, h3⟩ := args2 hargs
    split at hl
    · rename_i hk
      have : k = k' := by simpa [fkindEq] using hk
      subst this
      exact ok_complex h ho h1 h2 h3 hc hl
    · cases hl
  · rename_i k p k' q hargs
    obtain ⟨x, y, h1, h2, h3⟩ := args2 hargs
    split at hl
    · rename_i hk
      have : k = k' := by simpa [kindEq] using hk
      subst this
      exact ok_minmax h ho h1 h2 h3 (.inl ⟨hc, hl⟩)
    · cases hl
  · rename_i k p k' q hargs
    obtain ⟨x, y, h1, h2, h3⟩ := args2 hargs
    split at hl
    · rename_i hk
      have : k = k' := by simpa [kindEq] using hk
      subst this
      exact ok_minmax h ho h1 h2 h3 (.inr ⟨hc, hl⟩)
    · cases hl
  · cases hl

theorem isBoolC_some {c : C} {b : Bool} (h : isBoolC c = some b) : c = .bool b := by
  cases c <;> simp [isBoolC] at h
  subst h; rfl

set_option maxHeartbeats 2000000 in
theorem act_ok (h : Pre P Γ β K get n w ρ a) {out : Out} (hl : act Γ o ρ get n = some out) (hok : out.ok = true) : StepOK P o a w (PostE β K get n w out) := by
  unfold act at hl
  split at hl
  · rename_i x ho
    cases hl
    exact ok_move h (.inl ho)
  · rename_i x ho
    cases hl
    exact ok_move h (.inr ho)
  · rename_i c x y ho
    split at hl
    · rename_i t hc
      cases hl
      exact ok_pick h ho hc
    · cases hl
  · rename_i t ho
    split at hl
    · rename_i ti ht
      cases hl
      exact ok_alloc h ho ht
    · cases hl
  · rename_i t x ho
    split at hl
    · rename_i u hu
      split at hl
      · rename_i hs
        cases hl
        exact ok_box h ho hu hs
      · cases hl
    · cases hl
  · rename_i t parts ho
    split at hl
    · rename_i ti ht
      split at hl
      · rename_i hs
        split at hl
        · rename_i ps hp
          split at hl
          · rename_i cs hsure hf
            exact ok_build h ho ht hs hp hsure hf hl
          · cases hl
        · cases hl
      · cases hl
    · cases hl
  · rename_i t len parts ho
    split at hl
    · rename_i ti ht
      split at hl
      · rename_i hs
        split at hl
        · rename_i ei he
          split at hl
          · rename_i ps hp
            split at hl
            · rename_i hchk
              simp only [Bool.and_eq_true] at hchk
              obtain ⟨⟨⟨h1, h2⟩, h3⟩, h4⟩ := hchk
              split at hl
              · rename_i l hlit
                cases hl
                exact ok_buildSlice h ho ht hs he hp h4 (by simpa using h1) (nbeq_eq h2) (by simpa [Nat.blt_eq] using h3) hlit
              · cases hl
            · cases hl
          · cases hl
        · cases hl
      · cases hl
    · cases hl
  · rename_i t x ho
    split at hl
    · rename_i ti ht
      exact ok_load h ho ht hl
    · cases hl
  · rename_i t x y ho
    split at hl
    · rename_i ti u ht hu
      exact ok_store h ho ht hu hl
    · cases hl
  · rename_i x ho
    split at hl
    · rename_i hx; cases hl; exact ok_nilCheck h ho hx (.inl ⟨_, _, rfl⟩)
    · rename_i hx; cases hl; exact ok_nilCheck h ho hx (.inr (.inl ⟨_, _, _, _, rfl⟩))
    · rename_i hx; cases hl; exact ok_nilCheck h ho hx (.inr (.inr (.inl ⟨_, _, _, _, rfl⟩)))
    · rename_i hx; cases hl; exact ok_nilCheck h ho hx (.inr (.inr (.inr ⟨_, _, rfl⟩)))
    · cases hl
  · rename_i op t x y t' ho
    split at hl
    · rename_i c d hx hy
      split at hl
      · rename_i p q hp hq
        split at hl
        · rename_i ti ht
          split at hl
          · rename_i e hs hb
            rw [isBoolC_some hp] at hx
            rw [isBoolC_some hq] at hy
            exact ok_binB h ho hx hy ht hs hb hl
          · cases hl
        · cases hl
      · split at hl
        · rename_i ok e hb
          exact ok_binOp h ho hx hy hb hl hok
        · cases hl
    · rename_i cs ds hx hy
      split at hl
      · rename_i e ht hb
        exact ok_binA h ho hx hy ht hb hl
      · cases hl
    · cases hl
  · rename_i op t x ho
    split at hl
    · rename_i c hx
      split at hl
      · rename_i c' hc
        exact ok_unOp h ho hx hc hl
      · cases hl
    · cases hl
  · rename_i src dst x ho
    split at hl
    · rename_i si di c hs hd hx
      split at hl
      · rename_i ok c' hc
        exact ok_convert h ho hs hd hx hc hl hok
      · split at hl
        · rename_i s hc
          exact ok_convS h ho hs hd hx hc hl
        · cases hl
    · cases hl
  · rename_i t xl xc ho
    split at hl
    · rename_i ti kl l kc c ht hxl hxc
      split at hl
      · rename_i hs
        split at hl
        · rename_i ei he
          split at hl
          · rename_i hchk
            simp only [Bool.and_eq_true] at hchk
            obtain ⟨⟨h1, h2⟩, h3⟩ := hchk
            cases hl
            simp only [Bool.and_eq_true, decide_eq_true_eq, beq_iff_eq] at hok
            have := ok_makeSlice h ho ht hs he (by simpa using h1) (nbeq_eq h2) (by simpa [Nat.blt_eq] using h3) hxl hxc hok.1.1 (by have := capOk_le hok.1.2; have h0 := hok.1.1; rwa [Int.toNat_of_nonneg h0] at this) hok.2
            intro next Q hn
            refine this next Q fun v w' hp => hn v w' ?_
            obtain ⟨β', K', hp⟩ := hp
            exact ⟨β', K', hp.ble, hp.kle, hp.kok, hp.vr, hp.mr, hp.fresh, hp.le, hp.fr, hp.own, hp.knew, hp.dom⟩
          · cases hl
        · cases hl
      · cases hl
    · cases hl
  · rename_i t x lo hi mx ho
    split at hl
    · rename_i ti ht
      split at hl
      · rename_i s hs hx
        split at hl
        · rename_i l r h1 h2
          exact ok_sliceStr h ho ht hs hx h1 h2 hl hok
        · cases hl
      · rename_i ty s hs hx
        split at hl
        · rename_i ei he
          split at hl
          · rename_i hsz
            split at hl
            · rename_i l r h1 h2
              exact ok_sliceSl h ho ht hs he (nbeq_eq hsz) hx h1 h2 hl hok
            · cases hl
          · cases hl
        · cases hl
      · cases hl
    · cases hl
  · rename_i t x f ho
    split at hl
    · rename_i ti ht
      split at hl
      · rename_i hs
        split at hl
        · rename_i off size ag hf
          split at hl
          · cases hl
          · rename_i h0
            exact ok_fieldAddr h ho ht hs hf (fun e => by subst e; simp at h0) hl
        · cases hl
      · cases hl
    · cases hl
  · rename_i t x f ho
    split at hl
    · rename_i ti ht
      split at hl
      · rename_i hs
        split at hl
        · rename_i off size ag hf
          split at hl
          · rename_i cs hx
            split at hl
            · rename_i u hu
              exact ok_field h ho ht hs hf hx hu hl
            · cases hl
          · cases hl
        · cases hl
      · cases hl
    · cases hl
  · rename_i t x i ho
    split at hl
    · rename_i ti ht
      split at hl
      · rename_i hs
        split at hl
        · rename_i ei he
          exact ok_indexAddr h ho ht hs he hl hok
        · cases hl
      · cases hl
    · cases hl
  · rename_i t x i ho
    split at hl
    · rename_i ti ht
      split at hl
      · rename_i hs
        split at hl
        · rename_i s k j hx hj
          exact ok_index h ho ht hs hx hj hl hok
        · cases hl
      · cases hl
    · cases hl
  · rename_i fn first caps ho
    split at hl
    · rename_i f hf
      split at hl
      · rename_i ks hk
        exact ok_makeFunc h ho rfl hf hk hl
      · cases hl
    · cases hl
  · rename_i x i ho
    split at hl
    · rename_i ws hx
      split at hl
      · rename_i u hu
        exact ok_extract h ho hx hu hl
      · cases hl
    · cases hl
  · rename_i c ho
    split at hl
    · rename_i b hc
      exact ok_builtin h ho hc hl hok
    · rename_i f hc
      split at hl
      · rename_i g caps ws hf hw
        unfold callF at hl
        split at hl
        · rename_i sm hsm
          split at hl
          · exact ok_callMut h ho hc hf hw hsm hl hok
          · exact ok_callRo h ho hc hf hw hsm hl hok
        · cases hl
      · cases hl
    · cases hl
  · cases hl
end

end Go.Proofs.Ytmmdjajebmihhaa.AM
