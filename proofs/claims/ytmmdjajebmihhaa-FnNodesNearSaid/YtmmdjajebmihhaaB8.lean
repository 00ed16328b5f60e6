/- The abstract machine: code does what its evaluation says. Conditions: the table and the callees' meanings are right. -/
import Derived.Test.YtmmdjajebmihhaaB7
namespace Go.Proofs.Ytmmdjajebmihhaa.AM
open Go
set_option linter.unusedVariables false

/-! ## New names for all keys -/

theorem MR.ren {β β' : Bt} {K : Ks} {get get' : Get} {w : World} {σ : Nat → Option Nat} (h : MR β K get w) (hσ : ∀ k k' h, σ k = some k' → β k = some h → β' k' = some h)
    (hs : ∀ k' b', get' k' = some b' → ∃ k b, σ k = some k' ∧ get k = some b ∧ renB σ b = some b') : MR β' K get' w := by
  refine ⟨fun k' b' e => ?_, fun k k' b b' y y' x e e' f f' g g' => ?_, fun k' b' y x e f g => ?_⟩
  · obtain ⟨k, b, h1, h2, h3⟩ := hs k' b' e
    obtain ⟨y, h4, h5⟩ := h.blk k b h2
    exact ⟨y, hσ _ _ _ h1 h4, renB_ok hσ h3 h5⟩
  · obtain ⟨j, c, h1, h2, _⟩ := hs k b e
    obtain ⟨j', c', h1', h2', _⟩ := hs k' b' e'
    obtain ⟨u, h4, _⟩ := h.blk j c h2
    obtain ⟨u', h4', _⟩ := h.blk j' c' h2'
    have h5 := hσ _ _ _ h1 h4
    have h5' := hσ _ _ _ h1' h4'
    rw [f] at h5; rw [f'] at h5'
    cases h5; cases h5'
    have := h.sep j j' c c' _ _ x h2 h2' h4 h4' g g'
    subst this
    rw [h1] at h1'
    cases h1'
    rfl
  · obtain ⟨j, c, h1, h2, _⟩ := hs k' b' e
    obtain ⟨u, h4, _⟩ := h.blk j c h2
    have h5 := hσ _ _ _ h1 h4
    rw [f] at h5; cases h5
    exact h.ro j c _ x h2 h4 g

theorem Own.ren {β β' : Bt} {K : Ks} {get get' : Get} {w : World} {σ : Nat → Option Nat} (h : MR β K get w) (hσ : ∀ k k' h, σ k = some k' → β k = some h → β' k' = some h)
    (hs : ∀ k' b', get' k' = some b' → ∃ k b, σ k = some k' ∧ get k = some b ∧ renB σ b = some b') {x : Nat} (ho : Own β' get' x) : Own β get x := by
  obtain ⟨k', b', y, e, f, g⟩ := ho
  obtain ⟨j, c, h1, h2, _⟩ := hs k' b' e
  obtain ⟨u, h4, _⟩ := h.blk j c h2
  have h5 := hσ _ _ _ h1 h4
  rw [f] at h5; cases h5
  exact ⟨j, c, _, h2, h4, g⟩

theorem upFrom_eq : ∀ (l : List Nat) (m : Nat), upFrom l m = l.filter fun k => Nat.ble m k
  | [], _ => rfl
  | k :: r, m => by
    unfold upFrom
    cases h : Nat.ble m k with
    | true => rw [List.filter_cons_of_pos (by exact h), upFrom_eq r m]
    | false => rw [List.filter_cons_of_neg (by rw [h]; simp), upFrom_eq r m]

theorem indexN_of : ∀ {ks : List Nat} {k i p : Nat}, ks.Nodup → ks[p]? = some k → indexN ks k i = some (i + p)
  | [], _, _, _, _, h => by simp at h
  | x :: r, k, i, 0, hn, h => by
    simp only [List.getElem?_cons_zero, Option.some.injEq] at h
    subst h
    simp [indexN]
  | x :: r, k, i, p + 1, hn, h => by
    simp only [List.getElem?_cons_succ] at h
    have hne : x ≠ k := fun e => by
      subst e
      exact (List.nodup_cons.1 hn).1 (List.mem_of_getElem? h)
    simp only [indexN, nbeq_ne hne]
    rw [indexN_of (List.nodup_cons.1 hn).2 h]
    congr 1
    omega

/-- What is known of the keys behind a renaming. -/
def renBt (β : Bt) (rest : List Nat) (m : Nat) : Bt := fun k => if k < m then β k else (rest[k - m]?).bind β

theorem renBt_ok {β : Bt} {rest : List Nat} {m : Nat} : ∀ k k' h, newKey rest m k = some k' → β k = some h → renBt β rest m k' = some h := by
  intro k k' h e hb
  unfold newKey at e
  split at e
  · rename_i hlt
    cases e
    unfold renBt
    rw [if_pos (by simpa [Nat.blt_eq] using hlt)]
    exact hb
  · obtain ⟨p, h1, h2⟩ := indexN_spec e
    unfold renBt
    rw [if_neg (by omega)]
    have : k' - m = p := by omega
    rw [this, h2]
    exact hb

theorem renBt_lt {β : Bt} {rest : List Nat} {m k : Nat} (h : k < m) : renBt β rest m k = β k := if_pos h
theorem renBt_ge {β : Bt} {rest : List Nat} {m k : Nat} (h : m + rest.length ≤ k) : renBt β rest m k = none := by
  unfold renBt
  rw [if_neg (by omega), List.getElem?_eq_none (by omega)]
  rfl

theorem memOf_look {get : Get} {σ : Nat → Option Nat} : ∀ {ks : List Nat} {l : List (Nat × Option Blk)}, memOf get σ ks = some l → ∀ k' b', look l k' = some (some b') → ∃ k b, σ k = some k' ∧ get k = some b ∧ renB σ b = some b'
  | [], l, h, k', b', e => by simp only [memOf, Option.some.injEq] at h; subst h; simp [look] at e
  | k :: r, l, h, k', b', e => by
    simp only [memOf] at h
    split at h
    · rename_i j b l' h1 h2 h3
      cases h
      simp only [look] at e
      split at e
      · rename_i hj
        have := nbeq_eq hj
        subst this
        cases e
        cases hg : get k with
        | none => rw [hg] at h2; simp [renOB] at h2
        | some b0 =>
          rw [hg] at h2
          simp only [renOB, Option.map_eq_some_iff, Option.some.injEq] at h2
          obtain ⟨b1, h4, h5⟩ := h2
          exact ⟨k, b0, h1, hg, by rw [h4, h5]⟩
      · exact memOf_look h3 k' b' e
    · cases h

theorem live_look {s : St} {σ : Nat → Option Nat} : ∀ {live : List Nat} {l : List (Nat × V)}, mapO (fun t => (renV σ (s.tmpV t)).map fun v => (t, v)) live = some l → ∀ t v, look l t = some v → renV σ (s.tmpV t) = some v
  | [], l, h, t, v, e => by simp only [mapO, Option.some.injEq] at h; subst h; simp [look] at e
  | j :: r, l, h, t, v, e => by
    simp only [mapO] at h
    split at h
    · rename_i y hy
      split at h
      · rename_i ys hys
        cases h
        simp only [Option.map_eq_some_iff] at hy
        obtain ⟨u, h1, h2⟩ := hy
        subst h2
        simp only [look] at e
        split at e
        · rename_i hj
          have := nbeq_eq hj
          subst this
          cases e
          exact h1
        · exact live_look hys t v e
      · cases h
    · cases h

section
variable {P : Program} {Γ : Env} {z : Start}

def SR (P : Program) (Γ : Env) (z : Start) (s : St) (a : Act) (w : World) : Prop := s.m = z.m ∧ ∃ β K, SRf P Γ z β K s.fs a w

theorem SRf.still {β : Bt} {K : Ks} {F : FS} {a : Act} {w w' : World} (h : SRf P Γ z β K F a w) (s : Still w w') : SRf P Γ z β K F a w' :=
  ⟨h.tmp, h.nt, h.defers, h.kok.still s, h.mr.still s, h.fresh, h.kle, h.knew, ⟨s.os.trans h.fr.os, s.tape.trans h.fr.tape, s.output.trans h.fr.output, by rw [s.heap]; exact h.fr.size, fun b hb hn => by rw [s.heap]; exact h.fr.block b hb hn⟩, h.own, h.ble, h.le⟩

/-- The same world, seen otherwise. -/
theorem SRf.turn {β β' : Bt} {K K' : Ks} {F F' : FS} {a : Act} {w : World} (h : SRf P Γ z β K F a w) (hb : ∀ k h, k < z.m → β k = some h → β' k = some h) (hk : KLe K K') (kok : KOK K' w)
    (knew : ∀ b arr, K' b = some arr → K b = some arr ∨ Own β F.G b ∨ w.heap.size ≤ b) (tmp : ∀ t, VR β' K' (F'.T t) (a.tmps.getD t undef)) (mr : MR β' K' F'.G w) (fresh : ∀ k, F'.n ≤ k → β' k = none)
    (own : ∀ x, Own β' F'.G x → Own β F.G x) (le : F.n ≤ F'.n) : SRf P Γ z β' K' F' a w :=
  ⟨tmp, h.nt, h.defers, kok, mr, fresh, h.kle.trans hk, fun b arr e => by
    rcases knew b arr e with h1 | h1 | h1
    · exact h.knew b arr h1
    · exact .inr (h.own b h1)
    · exact .inr (.inr (Nat.le_trans h.fr.size h1)), h.fr, fun x hx => h.own x (own x hx), fun k y hk e => hb k y hk (h.ble k y hk e), Nat.le_trans h.le le⟩

theorem get_cons {s : St} {tm : List (Nat × V)} {n : Nat} {l : List (Nat × Option Blk)} {k : Nat} {b : Blk} (h : (St.get { s with tmps := tm, mem := l ++ s.mem, n := n }) k = some b) : getU l s.get k = some b := by
  induction l with
  | nil => exact h
  | cons p l ih =>
    obtain ⟨j, c⟩ := p
    simp only [St.get, List.cons_append, look, getU] at h ih ⊢
    by_cases hj : j = k
    · subst hj; simpa using h
    · rw [nbeq_ne hj] at h ⊢; exact ih h

theorem tmp_cons {s : St} {t : Nat} {v : V} {mm : List (Nat × Option Blk)} {n : Nat} (j : Nat) : (St.tmpV { s with tmps := (t, v) :: s.tmps, mem := mm, n := n }) j = if t = j then v else s.tmpV j := by
  unfold St.tmpV
  simp only [look]
  by_cases hj : t = j
  · subst hj; simp
  · rw [nbeq_ne hj, if_neg hj]

theorem new_nil {β : Bt} {K : Ks} {s : St} {a : Act} {w : World} (h : SRf P Γ z β K s.fs a w) {ty : Ty} {ad : Option Addr} :
    (∀ k b, s.get k = some b → k ≠ s.n) ∧ BLe β (addB β s.n ⟨.slice ad 0 0, none⟩) ∧ (∀ K', CR (addB β s.n ⟨.slice ad 0 0, none⟩) K' (.ref ty s.n) (.slice ad 0 0)) := by
  have hn : β s.n = none := h.fresh s.n (Nat.le_refl _)
  refine ⟨fun k b e e' => ?_, BLe.add _ hn, fun K' => ⟨_, ad, 0, 0, addB_self .., rfl, rfl⟩⟩
  subst e'
  obtain ⟨y, hy, _⟩ := h.mr.blk _ b e
  rw [hn] at hy; cases hy

theorem set_all2 {α γ : Type} {R : α → γ → Prop} : ∀ {as : List α} {bs : List γ} {i : Nat} {x : α}, All2 R as bs → (∀ y, bs[i]? = some y → R x y) → All2 R (as.set i x) bs
  | [], _, _, _, h, _ => h
  | _ :: _, [], _, _, h, _ => h.elim
  | a :: as, b :: bs, 0, x, h, hx => ⟨hx b rfl, h.2⟩
  | a :: as, b :: bs, i + 1, x, h, hx => ⟨h.1, set_all2 h.2 fun y hy => hx y hy⟩

theorem view_ok {a : Act} {w : World} (c : Cv) {s : St} (h0 : SR P Γ z s a w) : SR P Γ z (view c s) a w ∧ (view c s).m = s.m := by
  have same : SR P Γ z s a w ∧ s.m = s.m := ⟨h0, rfl⟩
  obtain ⟨hm, β, K, h⟩ := h0
  have nilSl : ∀ {β : Bt} {K : Ks} {ty : Ty} {u : Value}, CR β K (.nil ty) u → CR β K (.sl ty []) u := fun {β K ty u} hu => by
    obtain ⟨ad, rfl⟩ := hu
    exact ⟨ad, 0, 0, rfl, rfl, Nat.le_refl _, .inl rfl⟩
  cases c with
  | sl t =>
    unfold view
    dsimp only
    split
    · rename_i ty ht
      have hv := h.tmp t
      rw [show s.fs.T t = .val (.one (.nil ty)) from ht] at hv
      refine ⟨⟨hm, β, K, h.turn (fun k y _ e => e) (KLe.refl K) h.kok (fun _ _ e => .inl e) (fun j => ?_) h.mr h.fresh (fun x hx => hx) (Nat.le_refl _)⟩, rfl⟩
      show VR β K (St.tmpV { s with tmps := (t, .val (.one (.sl ty []))) :: s.tmps, mem := s.mem, n := s.n } j) _
      rw [tmp_cons]
      split
      · rename_i hj; subst hj; exact nilSl (β := β) hv
      · exact h.tmp j
    · exact same
  | boxSl t off =>
    unfold view
    dsimp only
    split
    · rename_i k0 o0 ht
      split
      · rename_i cs hg
        split
        · rename_i ty hc
          obtain ⟨y0, hy0, bb, arr, T, rfl, hh, hcs⟩ := h.mr.blk k0 _ hg
          obtain ⟨u, hu, hv⟩ := hcs.get? hc
          have hcase : ∀ k b, (St.get { s with mem := (k0, some (.box (cs.set off (.sl ty [])))) :: s.mem }) k = some b → (k = k0 ∧ b = .box (cs.set off (.sl ty []))) ∨ (k ≠ k0 ∧ s.get k = some b) := by
            intro k b e
            rcases getU_cons (get_cons (tm := s.tmps) (n := s.n) (l := [(k0, some (.box (cs.set off (.sl ty []))))]) e) with ⟨rfl, e1⟩ | ⟨h1, h2⟩
            · cases e1; exact .inl ⟨rfl, rfl⟩
            · exact .inr ⟨h1, h2⟩
          refine ⟨⟨hm, β, K, h.turn (fun k y _ e => e) (KLe.refl K) h.kok (fun _ _ e => .inl e) (fun j => h.tmp j) ?_ h.fresh ?_ (Nat.le_refl _)⟩, rfl⟩
          · refine h.mr.step (BLe.refl β) (KLe.refl K) fun k b e => ?_
            rcases hcase k b e with ⟨rfl, rfl⟩ | ⟨h1, h3⟩
            · refine .inr ⟨_, hy0, ⟨bb, arr, T, rfl, hh, set_all2 hcs fun y hy => by rw [hu] at hy; cases hy; exact nilSl hv⟩, fun x hx => ⟨h.mr.ro k _ _ x hg hy0 hx, fun k' b' y' e' f' g' => ?_⟩⟩
              rcases hcase k' b' e' with ⟨rfl, rfl⟩ | ⟨h1, h3⟩
              · rfl
              · exact h.mr.sep k' k b' _ y' _ x h3 hg f' hy0 g' hx
            · exact .inl ⟨h3, fun x y f g => ⟨rfl, h.mr.ro k b y x h3 f g⟩⟩
          · rintro x ⟨k, b, y, e, f, g⟩
            rcases hcase k b e with ⟨rfl, rfl⟩ | ⟨h1, h3⟩
            · exact ⟨k, _, y, hg, f, g⟩
            · exact ⟨k, b, y, h3, f, g⟩
        · exact same
      · exact same
    · exact same
  | forget t =>
    refine ⟨⟨hm, β, K, h.turn (fun k y _ e => e) (KLe.refl K) h.kok (fun _ _ e => .inl e) (fun j => ?_) h.mr h.fresh (fun x hx => hx) (Nat.le_refl _)⟩, rfl⟩
    show VR β K (St.tmpV { s with tmps := (t, pois) :: s.tmps, mem := s.mem, n := s.n } j) _
    rw [tmp_cons]
    split
    · exact pois_VR
    · exact h.tmp j
  | nil t =>
    unfold view
    dsimp only
    split
    · rename_i ty ht
      refine ⟨⟨hm, ?_⟩, rfl⟩
      have hv := h.tmp t
      rw [show s.fs.T t = .val (.one (.nil ty)) from ht] at hv
      obtain ⟨ad, hv⟩ := hv
      obtain ⟨hgn, hle, hcr⟩ := new_nil h (ty := ty) (ad := ad)
      refine ⟨addB β s.n ⟨.slice ad 0 0, none⟩, K, h.turn (fun k y _ e => hle _ _ e) (KLe.refl K) h.kok (fun _ _ e => .inl e) (fun j => ?_) ?_ ?_ ?_ (Nat.le_succ _)⟩
      · show VR _ K (St.tmpV { s with tmps := (t, .val (.one (.ref ty s.n))) :: s.tmps, mem := (s.n, some (.arr ty [])) :: s.mem, n := s.n + 1 } j) _
        rw [tmp_cons]
        split
        · rename_i hj; subst hj; rw [hv]; exact hcr K
        · exact (h.tmp j).mono hle (KLe.refl K)
      · refine h.mr.step hle (KLe.refl K) fun k b e => ?_
        rcases getU_cons (get_cons (l := [(s.n, some (.arr ty []))]) e) with ⟨rfl, e1⟩ | ⟨h1, h2⟩
        · cases e1; exact .inr ⟨_, addB_self .., .inl ⟨rfl, ad, rfl⟩, fun x hx => by cases hx⟩
        · exact .inl ⟨h2, fun x y f g => ⟨rfl, h.mr.ro k b y x h2 f g⟩⟩
      · intro k hk
        have hk' : s.n + 1 ≤ k := hk
        rw [addB_ne _ _ (by omega)]
        exact h.fresh k (by show s.n ≤ k; omega)
      · rintro x ⟨k, b, y, e, f, g⟩
        rcases getU_cons (get_cons (l := [(s.n, some (.arr ty []))]) e) with ⟨rfl, e1⟩ | ⟨h1, h2⟩
        · rw [addB_self] at f; cases f; cases g
        · rw [addB_ne _ _ h1] at f
          exact ⟨k, b, y, h2, f, g⟩
    · exact same
  | boxNil t off =>
    unfold view
    dsimp only
    split
    · rename_i k0 o0 ht
      split
      · rename_i cs hg
        split
        · rename_i ty hc
          refine ⟨⟨hm, ?_⟩, rfl⟩
          obtain ⟨y0, hy0, bb, arr, T, rfl, hh, hcs⟩ := h.mr.blk k0 _ hg
          obtain ⟨u, hu, ad, hv⟩ := hcs.get? hc
          obtain ⟨hgn, hle, hcr⟩ := new_nil h (ty := ty) (ad := ad)
          have hk0 : k0 ≠ s.n := hgn k0 _ hg
          have hcase : ∀ k b, (St.get { s with mem := (k0, some (.box (cs.set off (.ref ty s.n)))) :: (s.n, some (.arr ty [])) :: s.mem, n := s.n + 1 }) k = some b →
              (k = k0 ∧ b = .box (cs.set off (.ref ty s.n))) ∨ (k = s.n ∧ b = .arr ty []) ∨ (k ≠ k0 ∧ k ≠ s.n ∧ s.get k = some b) := by
            intro k b e
            rcases getU_cons (get_cons (l := [(k0, some (.box (cs.set off (.ref ty s.n)))), (s.n, some (.arr ty []))]) e) with ⟨rfl, e1⟩ | ⟨h1, h2⟩
            · cases e1; exact .inl ⟨rfl, rfl⟩
            · rcases getU_cons h2 with ⟨rfl, e1⟩ | ⟨h3, h4⟩
              · cases e1; exact .inr (.inl ⟨rfl, rfl⟩)
              · exact .inr (.inr ⟨h1, h3, h4⟩)
          refine ⟨addB β s.n ⟨.slice ad 0 0, none⟩, K, h.turn (fun k y _ e => hle _ _ e) (KLe.refl K) h.kok (fun _ _ e => .inl e) (fun j => (h.tmp j).mono hle (KLe.refl K)) ?_ ?_ ?_ (Nat.le_succ _)⟩
          · refine h.mr.step hle (KLe.refl K) fun k b e => ?_
            rcases hcase k b e with ⟨rfl, rfl⟩ | ⟨rfl, rfl⟩ | ⟨h1, h2, h3⟩
            · refine .inr ⟨_, hle _ _ hy0, ⟨bb, arr, T, rfl, hh, set_all2 (hcs.mono fun _ _ => CR.mono hle (KLe.refl K)) fun y hy => ?_⟩, fun x hx => ⟨h.mr.ro k _ _ x hg hy0 hx, fun k' b' y' e' f' g' => ?_⟩⟩
              · rw [hu] at hy; cases hy; rw [hv]; exact hcr K
              · rcases hcase k' b' e' with ⟨rfl, rfl⟩ | ⟨rfl, rfl⟩ | ⟨h1, h2, h3⟩
                · rfl
                · rw [addB_self] at f'; cases f'; cases g'
                · rw [addB_ne _ _ h2] at f'
                  exact h.mr.sep k' k b' _ y' _ x h3 hg f' hy0 g' hx
            · exact .inr ⟨_, addB_self .., .inl ⟨rfl, ad, rfl⟩, fun x hx => by cases hx⟩
            · exact .inl ⟨h3, fun x y f g => ⟨rfl, h.mr.ro k b y x h3 f g⟩⟩
          · intro k hk
            have hk' : s.n + 1 ≤ k := hk
            rw [addB_ne _ _ (by omega)]
            exact h.fresh k (by show s.n ≤ k; omega)
          · rintro x ⟨k, b, y, e, f, g⟩
            rcases hcase k b e with ⟨rfl, rfl⟩ | ⟨rfl, rfl⟩ | ⟨h1, h2, h3⟩
            · rw [addB_ne _ _ hk0] at f
              exact ⟨k, _, y, hg, f, g⟩
            · rw [addB_self] at f; cases f; cases g
            · rw [addB_ne _ _ h2] at f
              exact ⟨k, b, y, h3, f, g⟩
        · exact same
      · exact same
    · exact same
  | frz t =>
    unfold view
    dsimp only
    split
    · rename_i u ht
      split
      · rename_i u' hu
        refine ⟨⟨hm, ?_⟩, rfl⟩
        have hv := h.tmp t
        rw [show s.fs.T t = .val u from ht] at hv
        have hget : ∀ k b, (St.get { s with tmps := (t, .val u') :: s.tmps, mem := gone (keysW u) ++ s.mem }) k = some b → k ∉ keysW u ∧ s.get k = some b := fun k b e => getU_gone (get_cons (n := s.n) e)
        refine ⟨β, frzK β K s.get w (keysW u), h.turn (fun k y _ e => e) frzK_le (frzK_ok h.kok) frzK_new (fun j => ?_) ?_ h.fresh ?_ (Nat.le_refl _)⟩
        · show VR _ _ (St.tmpV { s with tmps := (t, .val u') :: s.tmps, mem := gone (keysW u) ++ s.mem } j) _
          rw [tmp_cons (n := s.n)]
          split
          · rename_i hj; subst hj
            exact roW_free h.mr hu hv (fun k hk => hk) β
          · exact (h.tmp j).mono (BLe.refl β) frzK_le
        · refine h.mr.step (BLe.refl β) frzK_le fun k b e => ?_
          obtain ⟨h1, h2⟩ := hget k b e
          exact .inl ⟨h2, fun x y f g => ⟨rfl, frzK_none h.mr h2 h1 f g⟩⟩
        · rintro x ⟨k, b, y, e, f, g⟩
          obtain ⟨h1, h2⟩ := hget k b e
          exact ⟨k, b, y, h2, f, g⟩
      · exact same
    · exact same
  | frzBox t =>
    unfold view
    dsimp only
    split
    · rename_i k0 o0 ht
      split
      · rename_i cs hg
        split
        · rename_i cs' hcs'
          split
          · rename_i hno
            refine ⟨⟨hm, ?_⟩, rfl⟩
            have hno' : k0 ∉ cs.flatMap keysC := fun e => by rw [hasN_iff.2 e] at hno; cases hno
            obtain ⟨y0, hy0, bb, arr, T, rfl, hh, hcs⟩ := h.mr.blk k0 _ hg
            have hcase : ∀ k b, (St.get { s with mem := (k0, some (.box cs')) :: (gone (cs.flatMap keysC) ++ s.mem) }) k = some b → (k = k0 ∧ b = .box cs') ∨ (k ≠ k0 ∧ k ∉ cs.flatMap keysC ∧ s.get k = some b) := by
              intro k b e
              rcases getU_cons (get_cons (tm := s.tmps) (n := s.n) (l := (k0, some (.box cs')) :: gone (cs.flatMap keysC)) e) with ⟨rfl, e1⟩ | ⟨h1, h2⟩
              · cases e1; exact .inl ⟨rfl, rfl⟩
              · obtain ⟨h3, h4⟩ := getU_gone h2
                exact .inr ⟨h1, h3, h4⟩
            refine ⟨β, frzK β K s.get w (cs.flatMap keysC), h.turn (fun k y _ e => e) frzK_le (frzK_ok h.kok) frzK_new (fun j => (h.tmp j).mono (BLe.refl β) frzK_le) ?_ h.fresh ?_ (Nat.le_refl _)⟩
            · refine h.mr.step (BLe.refl β) frzK_le fun k b e => ?_
              rcases hcase k b e with ⟨rfl, rfl⟩ | ⟨h1, h2, h3⟩
              · refine .inr ⟨_, hy0, ⟨bb, arr, T, rfl, hh, ?_⟩, fun x hx => ⟨frzK_none h.mr hg hno' hy0 hx, fun k' b' y' e' f' g' => ?_⟩⟩
                · have := roW_free h.mr (ks := cs.flatMap keysC) (c := .agg cs) (c' := .agg cs') (show (mapO (roC s.get) cs).map W.agg = some (.agg cs') by rw [hcs']; rfl) ⟨arr, rfl, hcs⟩ (fun k hk => hk) β
                  obtain ⟨arr', e1, h2⟩ := this
                  cases e1
                  exact h2
                · rcases hcase k' b' e' with ⟨rfl, rfl⟩ | ⟨h1, h2, h3⟩
                  · rfl
                  · exact h.mr.sep k' k b' _ y' _ x h3 hg f' hy0 g' hx
              · exact .inl ⟨h3, fun x y f g => ⟨rfl, frzK_none h.mr h3 h2 f g⟩⟩
            · rintro x ⟨k, b, y, e, f, g⟩
              rcases hcase k b e with ⟨rfl, rfl⟩ | ⟨h1, h2, h3⟩
              · exact ⟨k, _, y, hg, f, g⟩
              · exact ⟨k, b, y, h3, f, g⟩
          · exact same
        · exact same
      · exact same
    · exact same

theorem coerce_ok {a : Act} {w : World} : ∀ (own : List Cv) {s : St}, SR P Γ z s a w → SR P Γ z (coerce own s) a w ∧ (coerce own s).m = s.m
  | [], s, h => ⟨h, rfl⟩
  | c :: r, s, h => by
    obtain ⟨h1, h2⟩ := view_ok c h
    obtain ⟨h3, h4⟩ := coerce_ok r h1
    exact ⟨h3, h4.trans h2⟩

theorem canon_ok {a : Act} {w : World} {live : List Nat} {own : List Cv} {s s' : St} (h : SR P Γ z s a w) (hc : canon live own s = some s') : SR P Γ z s' a w := by
  obtain ⟨h, _⟩ := coerce_ok own h
  simp only [canon] at hc
  generalize coerce own s = s1 at h hc
  generalize hrest : upFrom (reach s1.get reachFuel (upto s1.m ++ live.flatMap fun t => keysV (s1.tmpV t)) (upto 0)) s1.m = rest at hc
  split at hc
  · rename_i tmps mem h1 h2
    cases hc
    obtain ⟨hm, β, K, h⟩ := h
    have hs : ∀ k' b', St.get { tmps, mem, n := s1.m + rest.length, m := s1.m } k' = some b' → ∃ k b, newKey rest s1.m k = some k' ∧ s1.get k = some b ∧ renB (newKey rest s1.m) b = some b' := by
      intro k' b' e
      unfold St.get at e
      dsimp only at e
      refine memOf_look h2 k' b' ?_
      cases hq : look mem k' with
      | none => rw [hq] at e; cases e
      | some x => rw [hq] at e; dsimp only at e; rw [e]
    refine ⟨hm, renBt β rest s1.m, K, ⟨fun t => ?_, h.nt, h.defers, h.kok, h.mr.ren renBt_ok hs, fun k hk => renBt_ge hk, h.kle, h.knew, h.fr, fun x hx => h.own x (hx.ren h.mr renBt_ok hs), fun k y hk e => ?_, ?_⟩⟩
    · show VR _ K (St.tmpV { tmps, mem, n := s1.m + rest.length, m := s1.m } t) _
      unfold St.tmpV
      dsimp only
      cases hq : look tmps t with
      | none => exact pois_VR
      | some v => exact renV_ok renBt_ok (live_look h1 t v hq) (h.tmp t)
    · rw [renBt_lt (by rw [hm]; exact hk)]
      exact h.ble k y hk e
    · show z.m ≤ s1.m + rest.length
      omega
  · cases hc

/-! ## Code -/

def Lands {R : Type} (P : Program) (Γ : Env) (z : Start) (K : Ex → St → Option R) (r : R) : Exit → Act → World → Prop
  | .normal, a, w => ∃ s, SR P Γ z s a w ∧ K .normal s = some r
  | .exit i, a, w => ∃ s, SR P Γ z s a w ∧ K (.exit i) s = some r
  | .ret, a, w => ∃ s, SR P Γ z s a w ∧ K .ret s = some r
  | _, _, _ => False

theorem joinK_ok {R : Type} {cut : Option (List Nat × List Cv)} {K : Ex → St → Option R} {r : R} : ∀ e a w, Lands P Γ z (joinK cut K) r e a w → Lands P Γ z K r e a w := by
  intro e a w h
  cases e with
  | normal =>
    obtain ⟨s, hs, hk⟩ := h
    unfold joinK at hk
    dsimp only at hk
    split at hk
    · split at hk
      · rename_i s' hc
        exact ⟨s', canon_ok hs hc, hk⟩
      · cases hk
    · exact ⟨s, hs, hk⟩
  | exit i => exact h
  | ret => exact h
  | _ => exact h

theorem blockK_ok {R : Type} {id : Nat} {cut : Option (List Nat × List Cv)} {K : Ex → St → Option R} {r : R} : ∀ e a w, Lands P Γ z (blockK id cut K) r e a w → Exit.inBlock id (Lands P Γ z K r) e a w := by
  intro e a w h
  cases e with
  | normal =>
    obtain ⟨s, hs, hk⟩ := h
    exact joinK_ok (cut := cut) .normal a w ⟨s, hs, hk⟩
  | exit i =>
    obtain ⟨s, hs, hk⟩ := h
    simp only [Exit.inBlock]
    unfold blockK at hk
    dsimp only at hk
    split at hk
    · rename_i hb
      rw [if_pos (nbeq_eq hb)]
      exact joinK_ok (cut := cut) .normal a w ⟨s, hs, hk⟩
    · rename_i hb
      rw [if_neg (fun e => by subst e; simp at hb)]
      exact ⟨s, hs, hk⟩
  | ret => exact h
  | _ => exact h

theorem least {p : Nat → Prop} : ∀ (n : Nat), p n → ∃ k, p k ∧ ∀ j, j < k → ¬ p j := by
  intro n
  induction n using Nat.strongRecOn with
  | _ n ih =>
    intro h
    by_cases hq : ∃ j, j < n ∧ p j
    · obtain ⟨j, h1, h2⟩ := hq
      exact ih j h1 h2
    · exact ⟨n, h, fun j hj hp => hq ⟨j, hj, hp⟩⟩

theorem endK_ok {R : Type} {ex : Nat} {past : List Nat} {pown : List Cv} {K : Ex → St → Option R} {r : R} : ∀ e a w, Lands P Γ z (endK ex past pown K) r e a w → Lands P Γ z K r e a w := by
  intro e a w h
  cases e with
  | normal => obtain ⟨s, hs, hk⟩ := h; cases hk
  | exit i =>
    obtain ⟨s, hs, hk⟩ := h
    unfold endK at hk
    dsimp only at hk
    split at hk
    · split at hk
      · rename_i s' hc
        exact ⟨s', canon_ok hs hc, hk⟩
      · cases hk
    · cases hk
  | ret => exact h
  | _ => exact h

theorem loop_ok {R : Type} {c : Code} {L : LoopM} {K : Ex → St → Option R} {r : R}
    (hc : ∀ (K : Ex → St → Option R) s r, EBk Γ c K s = some r → ∀ a w, SR P Γ z s a w → c.wp P (Lands P Γ z K r) a w) (n : Nat) {s : St} (h : loopK Γ c L K n s = some r) {a : Act} {w : World} (hs : SR P Γ z s a w) :
    (Code.loop c).wp P (Lands P Γ z K r) a w := by
  classical
  let J : Act → World → Nat → Prop := fun a w k => ∃ s, SR P Γ z s a w ∧ loopK Γ c L K k s = some r
  let I : Act → World → Prop := fun a w => ∃ k, J a w k
  have hmin : ∀ a w, I a w → ∃ k, J a w k ∧ ∀ j, j < k → ¬ J a w j := fun a w ⟨k, hk⟩ => least k hk
  let μ : Act → World → Nat := fun a w => if h : I a w then (hmin a w h).choose else 0
  have hμ : ∀ a w, I a w → J a w (μ a w) ∧ ∀ j, j < μ a w → ¬ J a w j := by
    intro a w hI
    have : μ a w = (hmin a w hI).choose := dif_pos hI
    rw [this]
    exact (hmin a w hI).choose_spec
  refine wp_loop I μ ⟨n, s, hs, h⟩ fun a w hI => ?_
  obtain ⟨⟨s, hs, hk⟩, _⟩ := hμ a w hI
  cases hn : μ a w with
  | zero => rw [hn] at hk; simp [loopK] at hk
  | succ k =>
    rw [hn] at hk
    simp only [loopK] at hk
    refine wp_mono (hc _ s r hk a w hs) fun e a' w' he => ?_
    cases e with
    | normal =>
      obtain ⟨s', hs', hk'⟩ := he
      unfold roundK at hk'
      dsimp only at hk'
      split at hk'
      · rename_i s'' hc'
        have hJ : J a' w' k := ⟨s'', canon_ok hs' hc', hk'⟩
        have hI' : I a' w' := ⟨k, hJ⟩
        refine ⟨hI', ?_⟩
        have h2 := (hμ a' w' hI').2 k
        rcases Nat.lt_or_ge k (μ a' w') with h3 | h3
        · exact absurd hJ (h2 h3)
        · omega
      · cases hk'
    | exit i => exact endK_ok (ex := L.ex) (past := L.past) (pown := L.pown) (.exit i) a' w' he
    | ret => exact endK_ok (ex := L.ex) (past := L.past) (pown := L.pown) .ret a' w' he
    | _ => exact he

theorem EBk_ok {R : Type} (env : EnvOK P Γ) : ∀ (c : Code), LoopsOK Γ c → ∀ (K : Ex → St → Option R) (s : St) (r : R), EBk Γ c K s = some r → ∀ a w, SR P Γ z s a w → c.wp P (Lands P Γ z K r) a w := by
  intro c
  induction c with
  | skip => exact fun _ K s r h a w hs => wp_skip ⟨s, hs, h⟩
  | label l => exact fun _ K s r h a w hs => wp_label ⟨s, hs, h⟩
  | exit id => exact fun _ K s r h a w hs => wp_exit ⟨s, hs, h⟩
  | ret =>
    intro _ K s r h a w hs
    unfold EBk at h
    split at h
    · rename_i s' hc
      exact wp_ret ⟨s', canon_ok hs hc, h⟩
    · cases h
  | seq x y ihx ihy =>
    intro hL K s r h a w hs
    unfold EBk at h
    refine wp_seq (wp_mono (ihx (fun c' hc' => hL c' (List.mem_append_left _ hc')) _ s r h a w hs) fun e a' w' he => ?_)
    cases e with
    | normal =>
      obtain ⟨s', hs', hk⟩ := he
      exact ihy (fun c' hc' => hL c' (List.mem_append_right _ hc')) K s' r hk a' w' hs'
    | exit i => exact he
    | ret => exact he
    | _ => exact he
  | cond c x y ihx ihy =>
    intro hL K s r h a w hs
    unfold EBk at h
    split at h
    · rename_i b hb
      obtain ⟨hm, β, Ks, hf⟩ := hs
      have hv := eval_ok hf.tmp c
      rw [← val_fs, hb] at hv
      have hev : a.eval c = .bool b := hv
      have hput : ∀ b', b = b' → SR P Γ z (s.putC c b') a w := by
        intro b' e
        subst e
        cases c with
        | tmp t =>
          have := put_same s t (boolV b) hb
          exact ⟨hm, β, Ks, by rw [show (s.putC (.tmp t) b).fs = (s.put t (boolV b)).fs from rfl, this]; exact hf⟩
        | _ => exact ⟨hm, β, Ks, hf⟩
      refine wp_cond hev ?_
      cases b with
      | true => exact wp_mono (ihx (fun c' hc' => hL c' (List.mem_append_left _ hc')) _ _ r h a w (hput true rfl)) joinK_ok
      | false => exact wp_mono (ihy (fun c' hc' => hL c' (List.mem_append_right _ hc')) _ _ r h a w (hput false rfl)) joinK_ok
    · cases h
  | block id x ih =>
    intro hL K s r h a w hs
    unfold EBk at h
    exact wp_block (wp_mono (ih hL _ s r h a w hs) blockK_ok)
  | loop x ih =>
    intro hL K s r h a w hs
    unfold EBk at h
    split at h
    · rename_i L hl
      unfold runL at h
      split at h
      · cases h
      · rename_i s0 hc0
        split at h
        · cases h
        · rename_i ok b s1 s2 hrun
          split at h
          · cases h
          · obtain ⟨n, hn⟩ := hL x (List.mem_cons_self ..) L hl s0 b s1 s2 hrun R K
            refine loop_ok (L := L) (ih fun c' hc' => hL c' (List.mem_cons_of_mem _ hc')) n (r := r) (K := K) ?_ (canon_ok hs hc0)
            rw [hn]
            cases b
            · exact h
            · exact h
    · cases h
  | region id ops d =>
    intro hL K s r h a w hs
    unfold EBk at h
    obtain ⟨hm, β, Ks, hf⟩ := hs
    obtain ⟨F, E, X, s', f0, fl, fm, fs, fk⟩ := opsK_run ops.toList h
    have fs' : ∀ i o, ops[i]? = some o → StepR Γ ops o (F i) (E i) (X i) (F (i + 1)) := fun i o e => fs i o (by rw [Array.getElem?_toList]; exact e)
    rw [Array.length_toList] at fl fk
    have hend : ∀ β K' a w, SRf P Γ z β K' (F ops.size) a w → SR P Γ z s' a w := fun β K' a w h => ⟨fm.trans hm, β, K', by rw [← fl]; exact h⟩
    cases d with
    | false =>
      dsimp only at fk
      refine wp_region ?_
      rw [List.range_eq_range']
      refine region_text env fs' (fun β K' a w h => ⟨s', hend β K' a w h, fk⟩) ops.size 0 (by omega) β Ks a w ?_
      rw [f0]; exact hf
    | true =>
      dsimp only at fk
      split at fk
      · rename_i hd
        obtain ⟨d1, d2, d3⟩ := draw_spec hd
        have R : Rgn Γ ops F E X := ⟨fs', d1, d2, d3⟩
        have hf0 : SRf P Γ z β Ks (F 0) a { w with drawn := w.drawn + 1 } := by
          rw [f0]
          exact hf.still ⟨rfl, rfl, rfl, rfl⟩
        have hrep : ∀ k, (Array.replicate ops.size false).getD k false = false := by
          intro k
          simp only [Array.getD_eq_getD_getElem?, Array.getElem?_replicate]
          split <;> rfl
        refine wp_region_any env.mixed (region_any env R (fun β K' a w h => ⟨s', hend β K' a w h, fk⟩) ops.size _ (by simp) ?_ ?_ β Ks _ _ ?_)
        · have : ∀ N, cnt (fun k => (Array.replicate ops.size false).getD k false) N = N := by
            intro N
            induction N with
            | zero => rfl
            | succ N ih =>
              simp only [cnt]
              rw [if_neg (by rw [hrep]; simp), ih]
              omega
          rw [this]
          exact Nat.le_refl _
        · intro i o hi hD
          dsimp only at hD
          rw [hrep] at hD
          cases hD
        · exact DS.start R hf0 hrep
      · cases fk
  | _ => intro _ K s r h; simp [EBk] at h
end

end Go.Proofs.Ytmmdjajebmihhaa.AM
