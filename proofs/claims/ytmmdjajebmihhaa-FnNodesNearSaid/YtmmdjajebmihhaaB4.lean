/- The abstract machine: an operation of a region whose order is open, wherever it comes. Conditions: those that each lemma names. -/
import Derived.Test.YtmmdjajebmihhaaB3
namespace Go.Proofs.Ytmmdjajebmihhaa.AM
open Go
set_option linter.unusedVariables false

theorem allLt_iff : ∀ {l : List Nat} {n : Nat}, allLt n l = true → ∀ k ∈ l, k < n
  | [], _, _, _, h => by cases h
  | x :: r, n, h, k, hk => by
    simp only [allLt, Bool.and_eq_true] at h
    rcases List.mem_cons.1 hk with rfl | hk
    · simpa [Nat.blt_eq] using h.1
    · exact allLt_iff h.2 k hk

/-- What is known of the keys below n. -/
def below (β : Bt) (n : Nat) : Bt := fun k => if k < n then β k else none

theorem below_lt {β : Bt} {n k : Nat} (h : k < n) : below β n k = β k := if_pos h
theorem below_ge {β : Bt} {n k : Nat} (h : n ≤ k) : below β n k = none := if_neg (by omega)
theorem below_le {β : Bt} {n : Nat} : BLe (below β n) β := fun k h e => by
  unfold below at e
  split at e
  · exact e
  · cases e

theorem PR.below {β : Bt} {n k off : Nat} {v : Value} (hk : k < n) (h : PR β k off v) : PR (below β n) k off v := by
  obtain ⟨y, b, h1, h2, h3⟩ := h
  exact ⟨y, b, by rw [below_lt hk]; exact h1, h2, h3⟩

theorem CR.below {β : Bt} {K : Ks} {n : Nat} {c : C} {v : Value} (hk : ∀ k ∈ keysC c, k < n) (h : CR β K c v) : CR (below β n) K c v := by
  cases c with
  | ref t k =>
    obtain ⟨y, a, m, c, h1, h2⟩ := h
    exact ⟨y, a, m, c, by rw [below_lt (hk k (by simp [keysC]))]; exact h1, h2⟩
  | ptr k o => exact PR.below (hk k (by simp [keysC])) h
  | eptr k t i o =>
    obtain ⟨y, a, m, c, h1, h2⟩ := h
    exact ⟨y, a, m, c, by rw [below_lt (hk k (by simp [keysC]))]; exact h1, h2⟩
  | fn f caps =>
    obtain ⟨cs, h1, h2⟩ := h
    exact ⟨cs, h1, h2.mono_mem fun k u hm hu => PR.below (hk k hm) hu⟩
  | _ => exact h

theorem WR.below {β : Bt} {K : Ks} {n : Nat} {c : W} {v : Value} (hk : ∀ k ∈ keysW c, k < n) (h : WR β K c v) : WR (below β n) K c v := by
  cases c with
  | one c => exact CR.below (fun k hh => hk k (by simpa [keysW, W.cells] using hh)) h
  | agg cs =>
    obtain ⟨arr, e, h⟩ := h
    exact ⟨arr, e, h.mono_mem fun c u hm hu => CR.below (fun k hh => hk k (List.mem_flatMap.2 ⟨c, hm, hh⟩)) hu⟩

theorem VR.below {β : Bt} {K : Ks} {n : Nat} {c : V} {v : Value} (hk : ∀ k ∈ keysV c, k < n) (h : VR β K c v) : VR (below β n) K c v := by
  cases c with
  | val c => exact WR.below hk h
  | tup ws =>
    obtain ⟨arr, e, h⟩ := h
    exact ⟨arr, e, h.mono_mem fun c u hm hu => WR.below (fun k hh => hk k (List.mem_flatMap.2 ⟨c, hm, hh⟩)) hu⟩

theorem BR.below {β : Bt} {K : Ks} {n : Nat} {b : Blk} {y : Hd} {w : World} (hk : ∀ k ∈ keysB (some b), k < n) (h : BR β K b y w) : BR (below β n) K b y w := by
  cases b with
  | box cs =>
    obtain ⟨x, arr, T, e, hh, h⟩ := h
    exact ⟨x, arr, T, e, hh, h.mono_mem fun c u hm hu => CR.below (fun k hh => hk k (List.mem_flatMap.2 ⟨c, hm, hh⟩)) hu⟩
  | arr t l => exact h

theorem pois_VR {β : Bt} {K : Ks} {v : Value} : VR β K pois v := trivial

/-- What a step leaves, the other keys being as they were. -/
structure Post1 (β : Bt) (K : Ks) (get : Get) (n : Nat) (w : World) (out : Out) (v : Value) (w' : World) (β' : Bt) (K' : Ks) : Prop where
  ble : BLe β β'
  kle : KLe K K'
  kok : KOK K' w'
  vr : VR β' K' out.v v
  mr : MR β' K' (getU out.upd get) w'
  dom : ∀ k, β' k ≠ none → β k ≠ none ∨ (n ≤ k ∧ k < out.n)
  fr : Fr (Own β get) w w'
  own : ∀ x, Own β' (getU out.upd get) x → Own β get x ∨ w.heap.size ≤ x
  knew : ∀ b arr, K' b = some arr → K b = some arr ∨ Own β get b ∨ w.heap.size ≤ b

theorem Own.mono {β β' : Bt} {get get' : Get} (hb : BLe β β') (hg : ∀ k b, get k = some b → get' k = some b) {x : Nat} (h : Own β get x) : Own β' get' x := by
  obtain ⟨k, b, y, e, f, g⟩ := h
  exact ⟨k, b, y, hg _ _ e, hb _ _ f, g⟩

theorem Fr.mono {S S' : Nat → Prop} {a b : World} (h : Fr S a b) (hs : ∀ x, S x → S' x) : Fr S' a b :=
  ⟨h.os, h.tape, h.output, h.size, fun k hk hn => h.block k hk fun e => hn (hs k e)⟩

section
variable {P : Program} {Γ : Env} {β : Bt} {K : Ks} {w : World} {a : Act} {o : Oper}

theorem one_ok {ρ : Operand → V} {G Gc : Get} {n : Nat} {out : Out} (env : EnvOK P Γ) (hact : act Γ o ρ G n = some out) (hok : out.ok = true) (hkb : kbOp o ρ G n out.n = true)
    (hg : ∀ k ∈ fpOp o ρ G, Gc k = G k) (kok : KOK K w) (mr : MR β K Gc w) (fresh : ∀ k, n ≤ k → k < out.n → β k = none) (val : ∀ x ∈ o.op.operands, VR β K (ρ x) (a.eval x)) :
    StepOK P o a w (fun v w' => ∃ β' K', Post1 β K Gc n w out v w' β' K') := by
  classical
  simp only [kbOp, Bool.and_eq_true] at hkb
  obtain ⟨⟨⟨k1, k2⟩, k3⟩, k4⟩ := hkb
  have k1 : n ≤ out.n := by simpa using k1
  have k2 := allLt_iff k2
  have k3 := allLt_iff k3
  have k4 := allLt_iff k4
  obtain ⟨ρr, hρ⟩ : ∃ ρr : Operand → V, ρr = fun x => if x ∈ o.op.operands then ρ x else pois := ⟨_, rfl⟩
  obtain ⟨Gr, hG⟩ : ∃ Gr : Get, Gr = fun k => if k ∈ fpOp o ρ G then G k else none := ⟨_, rfl⟩
  have hact' : act Γ o ρr Gr n = some out := by
    rw [← hact, ← act_rho (ρ := ρ) (ρ' := ρr)]
    · exact (act_get fun k hk => by rw [hG]; dsimp only; rw [if_pos hk]).symm
    · intro x hx; rw [hρ]; dsimp only; rw [if_pos hx]
  have hGr : ∀ k b, Gr k = some b → k ∈ fpOp o ρ G ∧ G k = some b ∧ Gc k = some b ∧ k < n := by
    intro k b e
    rw [hG] at e
    dsimp only at e
    split at e
    · rename_i hk
      exact ⟨hk, e, by rw [hg k hk]; exact e, k3 k hk⟩
    · cases e
  have hpre : Pre P Γ (below β n) K Gr n w ρr a := by
    refine ⟨env, kok, ⟨?_, ?_, ?_⟩, fun k hk => below_ge hk, ?_⟩
    · intro k b e
      obtain ⟨h1, h2, h3, h4⟩ := hGr k b e
      obtain ⟨y, hy, hbr⟩ := mr.blk k b h3
      refine ⟨y, by rw [below_lt h4]; exact hy, hbr.below fun j hj => k4 j (List.mem_flatMap.2 ⟨k, h1, ?_⟩)⟩
      rw [h2]; exact hj
    · intro k k' b b' y y' x e e' f f' g g'
      exact mr.sep k k' b b' y y' x (hGr k b e).2.2.1 (hGr k' b' e').2.2.1 (below_le _ _ f) (below_le _ _ f') g g'
    · intro k b y x e f g
      exact mr.ro k b y x (hGr k b e).2.2.1 (below_le _ _ f) g
    · intro x
      rw [hρ]
      dsimp only
      split
      · rename_i hx
        exact (val x hx).below fun k hk => k2 k (List.mem_flatMap.2 ⟨x, by simpa using hx, hk⟩)
      · exact pois_VR
  have hstep := act_ok hpre hact' hok
  intro next Q hn
  refine hstep next Q fun v w' hp => hn v w' ?_
  obtain ⟨β1, K1, hp⟩ := hp
  have hownr : ∀ x, Own (below β n) Gr x → ∃ k b y, k ∈ fpOp o ρ G ∧ Gc k = some b ∧ β k = some y ∧ y.b = some x := by
    rintro x ⟨k, b, y, e, f, g⟩
    exact ⟨k, b, y, (hGr k b e).1, (hGr k b e).2.2.1, below_le _ _ f, g⟩
  have hnot : ∀ k b y x, Gc k = some b → β k = some y → y.b = some x → k ∉ fpOp o ρ G → ¬ Own (below β n) Gr x := by
    intro k b y x e f g hk hx
    obtain ⟨k', b', y', h1, h2, h3, h4⟩ := hownr x hx
    have := mr.sep k k' b b' y y' x e h2 f h3 g h4
    subst this
    exact hk h1
  obtain ⟨β2, hβ2⟩ : ∃ β2 : Bt, β2 = fun k => match β k with | some y => some y | none => if n ≤ k ∧ k < out.n then β1 k else none := ⟨_, rfl⟩
  have hle : BLe β β2 := fun k y e => by rw [hβ2]; dsimp only; rw [e]
  have hle1 : BLe β1 β2 := by
    intro k y e
    have hlt : k < out.n := by
      rcases Nat.lt_or_ge k out.n with h1 | h1
      · exact h1
      · rw [hp.fresh k h1] at e; cases e
    rcases Nat.lt_or_ge k n with h1 | h1
    · rw [hp.dom k h1, below_lt h1] at e
      exact hle _ _ e
    · rw [hβ2]
      dsimp only
      rw [fresh k h1 hlt]
      dsimp only
      rw [if_pos ⟨h1, hlt⟩]
      exact e
  -- a key behind the step: touched, or not
  have hcase : ∀ k b, getU out.upd Gc k = some b → getU out.upd Gr k = some b ∨ (k ∉ fpOp o ρ G ∧ Gc k = some b) := by
    intro k b e
    unfold getU at e ⊢
    cases hq : look out.upd k with
    | some x => rw [hq] at e; left; exact e
    | none =>
      rw [hq] at e
      dsimp only at e ⊢
      by_cases hk : k ∈ fpOp o ρ G
      · left
        rw [hG]
        dsimp only
        rw [if_pos hk, ← hg k hk]
        exact e
      · exact .inr ⟨hk, e⟩
  have hold : ∀ k b y x, Gc k = some b → β k = some y → y.b = some x → k ∉ fpOp o ρ G → w'.heap[x]? = w.heap[x]? ∧ K1 x = none := by
    intro k b y x e f g hk
    have hx := mr.lt ⟨k, b, y, e, f, g⟩
    have hno := hnot k b y x e f g hk
    refine ⟨hp.fr.block x hx hno, ?_⟩
    cases hq : K1 x with
    | none => rfl
    | some arr =>
      rcases hp.knew x arr hq with h1 | h1 | h1
      · rw [mr.ro k b y x e f g] at h1; cases h1
      · exact absurd h1 hno
      · omega
  have hβ : ∀ k b y, Gc k = some b → β2 k = some y → β k = some y := by
    intro k b y e f
    obtain ⟨z, hz, _⟩ := mr.blk k b e
    have := hle _ _ hz
    rw [f] at this; cases this
    exact hz
  refine ⟨β2, K1, hle, hp.kle, hp.kok, hp.vr.mono hle1 (KLe.refl _), ?_, ?_, hp.fr.mono fun x hx => hx.mono below_le fun k b e => (hGr k b e).2.2.1, ?_, fun b arr e => ?_⟩
  · refine mr.step hle hp.kle ?_
    intro k b e
    rcases hcase k b e with h1 | ⟨h1, h2⟩
    · right
      obtain ⟨y, hy, hbr⟩ := hp.mr.blk k b h1
      refine ⟨y, hle1 _ _ hy, hbr.mono hle1 (KLe.refl _), fun x hx => ⟨hp.mr.ro k b y x h1 hy hx, fun k' b' y' e' f' g' => ?_⟩⟩
      rcases hcase k' b' e' with h1' | ⟨h1', h2'⟩
      · obtain ⟨z, hz, _⟩ := hp.mr.blk k' b' h1'
        have := hle1 _ _ hz
        rw [f'] at this; cases this
        exact hp.mr.sep k' k b' b y' y x h1' h1 hz hy g' hx
      · exfalso
        have f2 := hβ k' b' y' h2' f'
        rcases hp.own x ⟨k, b, y, h1, hy, hx⟩ with h5 | h5
        · exact hnot k' b' y' x h2' f2 g' h1' h5
        · have := mr.lt ⟨k', b', y', h2', f2, g'⟩
          omega
    · exact .inl ⟨h2, fun x y f g => hold k b y x h2 f g h1⟩
  · intro k hk
    rw [hβ2] at hk
    dsimp only at hk
    cases hq : β k with
    | some y => left; simp
    | none =>
      rw [hq] at hk
      dsimp only at hk
      split at hk
      · right; assumption
      · exact absurd rfl hk
  · rintro x ⟨k, b, y, e, f, g⟩
    rcases hcase k b e with h1 | ⟨h1, h2⟩
    · obtain ⟨z, hz, _⟩ := hp.mr.blk k b h1
      have := hle1 _ _ hz
      rw [f] at this; cases this
      rcases hp.own x ⟨k, b, y, h1, hz, g⟩ with h5 | h5
      · obtain ⟨k', b', y', _, h6, h7, h8⟩ := hownr x h5
        exact .inl ⟨k', b', y', h6, h7, h8⟩
      · exact .inr h5
    · exact .inl ⟨k, b, y, h2, hβ k b y h2 f, g⟩
  · rcases hp.knew b arr e with h1 | h1 | h1
    · exact .inl h1
    · obtain ⟨k', b', y', _, h6, h7, h8⟩ := hownr b h1
      exact .inr (.inl ⟨k', b', y', h6, h7, h8⟩)
    · exact .inr (.inr h1)
end

end Go.Proofs.Ytmmdjajebmihhaa.AM
