/- The abstract machine: code does what its evaluation says. Conditions: the table and the callees' meanings are right. -/
import Derived.Test.YtibbdoohekjmaaaB7
namespace Go.Proofs.Ytibbdoohekjmaaa.AM
open Go
set_option linter.unusedVariables false

/-! ## New names for all keys -/

theorem MR.ren {β β' : Bt} {K : Ks} {get get' : Get} {w : World} {σ : Nat → Option Nat} (h : MR β K get w) (hσ : ∀ k k' h, σ k = some k' → β k = some h → β' k' = some h)
    (hs : ∀ k' b', get' k' = some b' → ∃ k b, σ k = some k' ∧ get k = some b ∧ renB σ b = some b') : MR β' K get' w := by
  refine ⟨fun k' b' e => ?_, fun k k' b b' y y' x e e' f f' g g' => ?_, fun k' b' y x e f g => ?_⟩
  · obtain ⟨k, b, h1, h2, h3⟩ := hs k' b' e
    obtain ⟨y, h4, h5⟩ := h.blk k b h2
    exact ⟨y, hσ _ _ _ h1 h4, renB_ok hσ h3 h5⟩
  · obtain ⟨j, c, h1, h2, _⟩ := hs k b e
    obtain ⟨j', c', h1', h2', _⟩ := hs k' b' e'
    obtain ⟨u, h4, _⟩ := h.blk j c h2
    obtain ⟨u', h4', _⟩ := h.blk j' c' h2'
    have h5 := hσ _ _ _ h1 h4
    have h5' := hσ _ _ _ h1' h4'
    rw [f] at h5; rw [f'] at h5'
    cases h5; cases h5'
    have := h.sep j j' c c' _ _ x h2 h2' h4 h4' g g'
    subst this
    rw [h1] at h1'
    cases h1'
    rfl
  · obtain ⟨j, c, h1, h2, _⟩ := hs k' b' e
    obtain ⟨u, h4, _⟩ := h.blk j c h2
    have h5 := hσ _ _ _ h1 h4
    rw [f] at h5; cases h5
    exact h.ro j c _ x h2 h4 g

theorem Own.ren {β β' : Bt} {K : Ks} {get get' : Get} {w : World} {σ : Nat → Option Nat} (h : MR β K get w) (hσ : ∀ k k' h, σ k = some k' → β k = some h → β' k' = some h)
    (hs : ∀ k' b', get' k' = some b' → ∃ k b, σ k = some k' ∧ get k = some b ∧ renB σ b = some b') {x : Nat} (ho : Own β' get' x) : Own β get x := by
  obtain ⟨k', b', y, e, f, g⟩ := ho
  obtain ⟨j, c, h1, h2, _⟩ := hs k' b' e
  obtain ⟨u, h4, _⟩ := h.blk j c h2
  have h5 := hσ _ _ _ h1 h4
  rw [f] at h5; cases h5
  exact ⟨j, c, _, h2, h4, g⟩

theorem upFrom_eq : ∀ (l : List Nat) (m : Nat), upFrom l m = l.filter fun k => Nat.ble m k
  | [], _ => rfl
  | k :: r, m => by
    unfold upFrom
    cases h : Nat.ble m k with
    | true => rw [List.filter_cons_of_pos (by exact h), upFrom_eq r m]
    | false => rw [List.filter_cons_of_neg (by rw [h]; simp), upFrom_eq r m]

theorem indexN_of : ∀ {ks : List Nat} {k i p : Nat}, ks.Nodup → ks[p]? = some k → indexN ks k i = some (i + p)
  | [], _, _, _, _, h => by simp at h
  | x :: r, k, i, 0, hn, h => by
    simp only [List.getElem?_cons_zero, Option.some.injEq] at h
    subst h
    simp [indexN]
  | x :: r, k, i, p + 1, hn, h => by
    simp only [List.getElem?_cons_succ] at h
    have hne : x ≠ k := fun e => by
      subst e
      exact (List.nodup_cons.1 hn).1 (List.mem_of_getElem? h)
    simp only [indexN, nbeq_ne hne]
    rw [indexN_of (List.nodup_cons.1 hn).2 h]
    congr 1
    omega

/-- What is known of the keys behind a renaming. -/
def renBt (β : Bt) (rest : List Nat) (m : Nat) : Bt := fun k => if k < m then β k else (rest[k - m]?).bind β

theorem renBt_ok {β : Bt} {rest : List Nat} {m : Nat} : ∀ k k' h, newKey rest m k = some k' → β k = some h → renBt β rest m k' = some h := by
  intro k k' h e hb
  unfold newKey at e
  split at e
  · rename_i hlt
    cases e
    unfold renBt
    rw [if_pos (by simpa [Nat.blt_eq] using hlt)]
    exact hb
  · obtain ⟨p, h1, h2⟩ := indexN_spec e
    unfold renBt
    rw [if_neg (by omega)]
    have : k' - m = p := by omega
    rw [this, h2]
    exact hb

theorem renBt_lt {β : Bt} {rest : List Nat} {m k : Nat} (h : k < m) : renBt β rest m k = β k := if_pos h
theorem renBt_ge {β : Bt} {rest : List Nat} {m k : Nat} (h : m + rest.length ≤ k) : renBt β rest m k = none := by
  unfold renBt
  rw [if_neg (by omega), List.getElem?_eq_none (by omega)]
  rfl

theorem memOf_look {get : Get} {σ : Nat → Option Nat} : ∀ {ks : List Nat} {l : List (Nat × Option Blk)}, memOf get σ ks = some l → ∀ k' b', look l k' = some (some b') → ∃ k b, σ k = some k' ∧ get k = some b ∧ renB σ b = some b'
  | [], l, h, k', b', e => by simp only [memOf, Option.some.injEq] at h; subst h; simp [look] at e
  | k :: r, l, h, k', b', e => by
    simp only [memOf] at h
    split at h
    · rename_i j b l' h1 h2 h3
      cases h
      simp only [look] at e
      split at e
      · rename_i hj
        have := nbeq_eq hj
        subst this
        cases e
        cases hg : get k with
        | none => rw [hg] at h2; simp [renOB] at h2
        | some b0 =>
          rw [hg] at h2
          simp only [renOB, Option.map_eq_some_iff, Option.some.injEq] at h2
          obtain ⟨b1, h4, h5⟩ := h2
          exact ⟨k, b0, h1, hg, by rw [h4, h5]⟩
      · exact memOf_look h3 k' b' e
    · cases h

theorem live_look {s : St} {σ : Nat → Option Nat} : ∀ {live : List Nat} {l : List (Nat × V)}, mapO (fun t => (renV σ (s.tmpV t)).map fun v => (t, v)) live = some l → ∀ t v, look l t = some v → renV σ (s.tmpV t) = some v
  | [], l, h, t, v, e => by simp only [mapO, Option.some.injEq] at h; subst h; simp [look] at e
  | j :: r, l, h, t, v, e => by
    simp only [mapO] at h
    split at h
    · rename_i y hy
      split at h
      · rename_i ys hys
        cases h
        simp only [Option.map_eq_some_iff] at hy
        obtain ⟨u, h1, h2⟩ := hy
        subst h2
        simp only [look] at e
        split at e
        · rename_i hj
          have := nbeq_eq hj
          subst this
          cases e
          exact h1
        · exact live_look hys t v e
      · cases h
    · cases h

section
variable {P : Program} {Γ : Env} {z : Start}

def SR (P : Program) (Γ : Env) (z : Start) (s : St) (a : Act) (w : World) : Prop := s.m = z.m ∧ ∃ β K, SRf P Γ z β K s.fs a w

theorem SRf.still {β : Bt} {K : Ks} {F : FS} {a : Act} {w w' : World} (h : SRf P Γ z β K F a w) (s : Still w w') : SRf P Γ z β K F a w' :=
  ⟨h.tmp, h.nt, h.defers, h.kok.still s, h.mr.still s, h.fresh, h.kle, h.knew, ⟨s.os.trans h.fr.os, s.tape.trans h.fr.tape, s.output.trans h.fr.output, by rw [s.heap]; exact h.fr.size, fun b hb hn => by rw [s.heap]; exact h.fr.block b hb hn⟩, h.own, h.ble, h.le⟩

theorem coerce_ok {a : Act} {w : World} : ∀ (own : List Nat) {s : St}, SR P Γ z s a w → SR P Γ z (coerce own s) a w ∧ (coerce own s).m = s.m
  | [], s, h => ⟨h, rfl⟩
  | t :: r, s, h => by
    unfold coerce
    split
    · rename_i ty ht
      obtain ⟨hm, β, K, h⟩ := h
      have hv := h.tmp t
      rw [show s.fs.T t = .val (.one (.nil ty)) from ht] at hv
      obtain ⟨ad, hv⟩ := hv
      have hn : β s.n = none := h.fresh s.n (Nat.le_refl _)
      have hle := BLe.add (⟨.slice ad 0 0, none⟩ : Hd) hn
      refine coerce_ok r (s := { s with tmps := (t, .val (.one (.ref ty s.n))) :: s.tmps, mem := (s.n, some (.arr ty [])) :: s.mem, n := s.n + 1 }) ⟨hm, addB β s.n ⟨.slice ad 0 0, none⟩, K, ?_⟩
      have hgn : ∀ k b, s.get k = some b → k ≠ s.n := by
        intro k b e e'
        subst e'
        obtain ⟨y, hy, _⟩ := h.mr.blk _ b e
        rw [hn] at hy; cases hy
      have hget : ∀ k b, (St.get { s with tmps := (t, .val (.one (.ref ty s.n))) :: s.tmps, mem := (s.n, some (.arr ty [])) :: s.mem, n := s.n + 1 }) k = some b → (k = s.n ∧ b = .arr ty []) ∨ (k ≠ s.n ∧ s.get k = some b) := by
        intro k b e
        unfold St.get at e
        simp only [look] at e
        by_cases hk : s.n = k
        · subst hk
          simp at e
          exact .inl ⟨rfl, e.symm⟩
        · rw [nbeq_ne hk] at e
          exact .inr ⟨fun e' => hk e'.symm, e⟩
      refine ⟨fun j => ?_, h.nt, h.defers, h.kok, ?_, ?_, h.kle, h.knew, h.fr, ?_, fun k y hk e => hle _ _ (h.ble k y hk e), ?_⟩
      · show VR _ K (St.tmpV { s with tmps := (t, .val (.one (.ref ty s.n))) :: s.tmps, mem := (s.n, some (.arr ty [])) :: s.mem, n := s.n + 1 } j) _
        unfold St.tmpV
        simp only [look]
        by_cases hj : t = j
        · subst hj
          simp only [Nat.beq_refl]
          exact ⟨_, ad, 0, 0, addB_self .., rfl, hv⟩
        · rw [nbeq_ne hj]
          exact (h.tmp j).mono hle (KLe.refl K)
      · refine h.mr.step hle (KLe.refl K) fun k b e => ?_
        rcases hget k b e with ⟨rfl, rfl⟩ | ⟨h1, h2⟩
        · exact .inr ⟨_, addB_self .., .inl ⟨rfl, ad, rfl⟩, fun x hx => by cases hx⟩
        · exact .inl ⟨h2, fun x y f g => ⟨rfl, h.mr.ro k b y x h2 f g⟩⟩
      · intro k hk
        have hk' : s.n + 1 ≤ k := hk
        rw [addB_ne _ _ (by omega)]
        exact h.fresh k (by show s.n ≤ k; omega)
      · rintro x ⟨k, b, y, e, f, g⟩
        rcases hget k b e with ⟨rfl, rfl⟩ | ⟨h1, h2⟩
        · rw [addB_self] at f; cases f; cases g
        · rw [addB_ne _ _ h1] at f
          exact h.own x ⟨k, b, y, h2, f, g⟩
      · exact Nat.le_trans h.le (Nat.le_succ _)
    · exact coerce_ok r h

theorem canon_ok {a : Act} {w : World} {live own : List Nat} {s s' : St} (h : SR P Γ z s a w) (hc : canon live own s = some s') : SR P Γ z s' a w := by
  obtain ⟨h, _⟩ := coerce_ok own h
  simp only [canon] at hc
  generalize coerce own s = s1 at h hc
  generalize hrest : upFrom (reach s1.get reachFuel (upto s1.m ++ live.flatMap fun t => keysV (s1.tmpV t)) (upto 0)) s1.m = rest at hc
  split at hc
  · rename_i tmps mem h1 h2
    cases hc
    obtain ⟨hm, β, K, h⟩ := h
    have hs : ∀ k' b', St.get { tmps, mem, n := s1.m + rest.length, m := s1.m } k' = some b' → ∃ k b, newKey rest s1.m k = some k' ∧ s1.get k = some b ∧ renB (newKey rest s1.m) b = some b' := by
      intro k' b' e
      unfold St.get at e
      dsimp only at e
      refine memOf_look h2 k' b' ?_
      cases hq : look mem k' with
      | none => rw [hq] at e; cases e
      | some x => rw [hq] at e; dsimp only at e; rw [e]
    refine ⟨hm, renBt β rest s1.m, K, ⟨fun t => ?_, h.nt, h.defers, h.kok, h.mr.ren renBt_ok hs, fun k hk => renBt_ge hk, h.kle, h.knew, h.fr, fun x hx => h.own x (hx.ren h.mr renBt_ok hs), fun k y hk e => ?_, ?_⟩⟩
    · show VR _ K (St.tmpV { tmps, mem, n := s1.m + rest.length, m := s1.m } t) _
      unfold St.tmpV
      dsimp only
      cases hq : look tmps t with
      | none => exact pois_VR
      | some v => exact renV_ok renBt_ok (live_look h1 t v hq) (h.tmp t)
    · rw [renBt_lt (by rw [hm]; exact hk)]
      exact h.ble k y hk e
    · show z.m ≤ s1.m + rest.length
      omega
  · cases hc

/-! ## Code -/

def Lands {R : Type} (P : Program) (Γ : Env) (z : Start) (K : Ex → St → Option R) (r : R) : Exit → Act → World → Prop
  | .normal, a, w => ∃ s, SR P Γ z s a w ∧ K .normal s = some r
  | .exit i, a, w => ∃ s, SR P Γ z s a w ∧ K (.exit i) s = some r
  | .ret, a, w => ∃ s, SR P Γ z s a w ∧ K .ret s = some r
  | _, _, _ => False

theorem joinK_ok {R : Type} {cut : Option (List Nat)} {K : Ex → St → Option R} {r : R} : ∀ e a w, Lands P Γ z (joinK cut K) r e a w → Lands P Γ z K r e a w := by
  intro e a w h
  cases e with
  | normal =>
    obtain ⟨s, hs, hk⟩ := h
    unfold joinK at hk
    dsimp only at hk
    split at hk
    · split at hk
      · rename_i s' hc
        exact ⟨s', canon_ok hs hc, hk⟩
      · cases hk
    · exact ⟨s, hs, hk⟩
  | exit i => exact h
  | ret => exact h
  | _ => exact h

theorem blockK_ok {R : Type} {id : Nat} {cut : Option (List Nat)} {K : Ex → St → Option R} {r : R} : ∀ e a w, Lands P Γ z (blockK id cut K) r e a w → Exit.inBlock id (Lands P Γ z K r) e a w := by
  intro e a w h
  cases e with
  | normal =>
    obtain ⟨s, hs, hk⟩ := h
    exact joinK_ok (cut := cut) .normal a w ⟨s, hs, hk⟩
  | exit i =>
    obtain ⟨s, hs, hk⟩ := h
    simp only [Exit.inBlock]
    unfold blockK at hk
    dsimp only at hk
    split at hk
    · rename_i hb
      rw [if_pos (nbeq_eq hb)]
      exact joinK_ok (cut := cut) .normal a w ⟨s, hs, hk⟩
    · rename_i hb
      rw [if_neg (fun e => by subst e; simp at hb)]
      exact ⟨s, hs, hk⟩
  | ret => exact h
  | _ => exact h

theorem least {p : Nat → Prop} : ∀ (n : Nat), p n → ∃ k, p k ∧ ∀ j, j < k → ¬ p j := by
  intro n
  induction n using Nat.strongRecOn with
  | _ n ih =>
    intro h
    by_cases hq : ∃ j, j < n ∧ p j
    · obtain ⟨j, h1, h2⟩ := hq
      exact ih j h1 h2
    · exact ⟨n, h, fun j hj hp => hq ⟨j, hj, hp⟩⟩

theorem loop_ok {R : Type} {fuel : Nat} {c : Code} {cn : St → Option St} {K : Ex → St → Option R} {r : R} (hcn : ∀ s s' a w, SR P Γ z s a w → cn s = some s' → SR P Γ z s' a w)
    (hc : ∀ (K : Ex → St → Option R) s r, EBk Γ fuel c K s = some r → ∀ a w, SR P Γ z s a w → c.wp P (Lands P Γ z K r) a w) (n : Nat) {s : St} (h : loopK (fun K s => EBk Γ fuel c K s) cn K n s = some r) {a : Act} {w : World} (hs : SR P Γ z s a w) :
    (Code.loop c).wp P (Lands P Γ z K r) a w := by
  classical
  let J : Act → World → Nat → Prop := fun a w k => ∃ s, SR P Γ z s a w ∧ loopK (fun K s => EBk Γ fuel c K s) cn K k s = some r
  let I : Act → World → Prop := fun a w => ∃ k, J a w k
  have hmin : ∀ a w, I a w → ∃ k, J a w k ∧ ∀ j, j < k → ¬ J a w j := fun a w ⟨k, hk⟩ => least k hk
  let μ : Act → World → Nat := fun a w => if h : I a w then (hmin a w h).choose else 0
  have hμ : ∀ a w, I a w → J a w (μ a w) ∧ ∀ j, j < μ a w → ¬ J a w j := by
    intro a w hI
    have : μ a w = (hmin a w hI).choose := dif_pos hI
    rw [this]
    exact (hmin a w hI).choose_spec
  refine wp_loop I μ ⟨n, s, hs, h⟩ fun a w hI => ?_
  obtain ⟨⟨s, hs, hk⟩, _⟩ := hμ a w hI
  cases hn : μ a w with
  | zero => rw [hn] at hk; simp [loopK] at hk
  | succ k =>
    rw [hn] at hk
    simp only [loopK] at hk
    refine wp_mono (hc _ s r hk a w hs) fun e a' w' he => ?_
    cases e with
    | normal =>
      obtain ⟨s', hs', hk'⟩ := he
      dsimp only at hk'
      split at hk'
      · rename_i s'' hc'
        have hJ : J a' w' k := ⟨s'', hcn _ _ _ _ hs' hc', hk'⟩
        have hI' : I a' w' := ⟨k, hJ⟩
        refine ⟨hI', ?_⟩
        have h2 := (hμ a' w' hI').2 k
        rcases Nat.lt_or_ge k (μ a' w') with h3 | h3
        · exact absurd hJ (h2 h3)
        · omega
      · cases hk'
    | exit i => exact he
    | ret => exact he
    | _ => exact he

theorem EBk_ok {R : Type} (env : EnvOK P Γ) {fuel : Nat} : ∀ (c : Code) (K : Ex → St → Option R) (s : St) (r : R), EBk Γ fuel c K s = some r → ∀ a w, SR P Γ z s a w → c.wp P (Lands P Γ z K r) a w := by
  intro c
  induction c with
  | skip => exact fun K s r h a w hs => wp_skip ⟨s, hs, h⟩
  | label l => exact fun K s r h a w hs => wp_label ⟨s, hs, h⟩
  | exit id => exact fun K s r h a w hs => wp_exit ⟨s, hs, h⟩
  | ret => exact fun K s r h a w hs => wp_ret ⟨s, hs, h⟩
  | seq x y ihx ihy =>
    intro K s r h a w hs
    unfold EBk at h
    refine wp_seq (wp_mono (ihx _ s r h a w hs) fun e a' w' he => ?_)
    cases e with
    | normal =>
      obtain ⟨s', hs', hk⟩ := he
      exact ihy K s' r hk a' w' hs'
    | exit i => exact he
    | ret => exact he
    | _ => exact he
  | cond c x y ihx ihy =>
    intro K s r h a w hs
    unfold EBk at h
    split at h
    · rename_i b hb
      obtain ⟨hm, β, Ks, hf⟩ := hs
      have hv := eval_ok hf.tmp c
      rw [← val_fs, hb] at hv
      have hev : a.eval c = .bool b := hv
      have hput : ∀ b', b = b' → SR P Γ z (s.putC c b') a w := by
        intro b' e
        subst e
        cases c with
        | tmp t =>
          have := put_same s t (boolV b) hb
          exact ⟨hm, β, Ks, by rw [show (s.putC (.tmp t) b).fs = (s.put t (boolV b)).fs from rfl, this]; exact hf⟩
        | _ => exact ⟨hm, β, Ks, hf⟩
      refine wp_cond hev ?_
      cases b with
      | true => exact wp_mono (ihx _ _ r h a w (hput true rfl)) joinK_ok
      | false => exact wp_mono (ihy _ _ r h a w (hput false rfl)) joinK_ok
    · cases h
  | block id x ih =>
    intro K s r h a w hs
    unfold EBk at h
    exact wp_block (wp_mono (ih _ s r h a w hs) blockK_ok)
  | loop x ih =>
    intro K s r h a w hs
    unfold EBk at h
    split at h
    · split at h
      · rename_i live own _ _ s0 hc0
        exact loop_ok (fun s s' a w hs hc => canon_ok hs hc) ih _ h (canon_ok hs hc0)
      · cases h
    · cases h
  | region id ops d =>
    intro K s r h a w hs
    unfold EBk at h
    obtain ⟨hm, β, Ks, hf⟩ := hs
    obtain ⟨F, E, X, s', f0, fl, fm, fs, fk⟩ := opsK_run ops.toList h
    have fs' : ∀ i o, ops[i]? = some o → StepR Γ ops o (F i) (E i) (X i) (F (i + 1)) := fun i o e => fs i o (by rw [Array.getElem?_toList]; exact e)
    rw [Array.length_toList] at fl fk
    have hend : ∀ β K' a w, SRf P Γ z β K' (F ops.size) a w → SR P Γ z s' a w := fun β K' a w h => ⟨fm.trans hm, β, K', by rw [← fl]; exact h⟩
    cases d with
    | false =>
      dsimp only at fk
      refine wp_region ?_
      rw [List.range_eq_range']
      refine region_text env fs' (fun β K' a w h => ⟨s', hend β K' a w h, fk⟩) ops.size 0 (by omega) β Ks a w ?_
      rw [f0]; exact hf
    | true =>
      dsimp only at fk
      split at fk
      · rename_i hd
        obtain ⟨d1, d2, d3⟩ := draw_spec hd
        have R : Rgn Γ ops F E X := ⟨fs', d1, d2, d3⟩
        have hf0 : SRf P Γ z β Ks (F 0) a { w with drawn := w.drawn + 1 } := by
          rw [f0]
          exact hf.still ⟨rfl, rfl, rfl, rfl⟩
        have hrep : ∀ k, (Array.replicate ops.size false).getD k false = false := by
          intro k
          simp only [Array.getD_eq_getD_getElem?, Array.getElem?_replicate]
          split <;> rfl
        refine wp_region_any env.mixed (region_any env R (fun β K' a w h => ⟨s', hend β K' a w h, fk⟩) ops.size _ (by simp) ?_ ?_ β Ks _ _ ?_)
        · have : ∀ N, cnt (fun k => (Array.replicate ops.size false).getD k false) N = N := by
            intro N
            induction N with
            | zero => rfl
            | succ N ih =>
              simp only [cnt]
              rw [if_neg (by rw [hrep]; simp), ih]
              omega
          rw [this]
          exact Nat.le_refl _
        · intro i o hi hD
          dsimp only at hD
          rw [hrep] at hD
          cases hD
        · exact DS.start R hf0 hrep
      · cases fk
  | _ => intro K s r h; simp [EBk] at h
end

end Go.Proofs.Ytibbdoohekjmaaa.AM
