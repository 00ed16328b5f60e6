/- The abstract machine: a region whose order is open does what its run says, in every order. Conditions: the check of the region passed. -/
import Derived.Test.YtmmdjajebmihhaaB6
namespace Go.Proofs.Ytmmdjajebmihhaa.AM
open Go
set_option linter.unusedVariables false

def cnt (D : Nat → Bool) : Nat → Nat
  | 0 => 0
  | i + 1 => (if D i = true then 0 else 1) + cnt D i

theorem cnt_zero {D : Nat → Bool} : ∀ {N : Nat}, cnt D N = 0 → ∀ i, i < N → D i = true
  | 0, _, _, h => by omega
  | N + 1, h, i, hi => by
    simp only [cnt] at h
    by_cases e : D N = true
    · rw [if_pos e] at h
      by_cases hN : i = N
      · subst hN; exact e
      · exact cnt_zero (N := N) (D := D) (by omega) i (by omega)
    · rw [if_neg e] at h; omega

theorem cnt_congr {D D' : Nat → Bool} : ∀ {N : Nat}, (∀ i, i < N → D i = D' i) → cnt D N = cnt D' N
  | 0, _ => rfl
  | N + 1, h => by
    simp only [cnt]
    rw [h N (by omega), cnt_congr fun i hi => h i (by omega)]

theorem cnt_add {D : Nat → Bool} {i : Nat} (hi : D i = false) : ∀ {N : Nat}, i < N → cnt (addD D i) N + 1 = cnt D N
  | 0, h => by omega
  | N + 1, h => by
    simp only [cnt]
    by_cases hN : i = N
    · subst hN
      rw [addD_self, hi, cnt_congr (D' := D) fun j hj => addD_ne (by omega)]
      simp; omega
    · have := cnt_add hi (N := N) (by omega)
      rw [addD_ne (fun e => hN e.symm)]
      omega

section
variable {P : Program} {Γ : Env} {z : Start} {ops : Array Oper} {Q : Exit → Act → World → Prop} {F : Nat → FS} {E : Nat → Ent} {X : Nat → Res}

/-- The run of a region, and what its check says. -/
structure Rgn (Γ : Env) (ops : Array Oper) (F : Nat → FS) (E : Nat → Ent) (X : Nat → Res) : Prop where
  step : ∀ i o, ops[i]? = some o → StepR Γ ops o (F i) (E i) (X i) (F (i + 1))
  both : ∀ (D : Nat → Bool), (∀ i o, ops[i]? = some o → D i = true → bound D o) → ∀ i j, j < i → i < ops.size → D i = true → D j = false → Both ops E i j
  edge : ∀ i o, ops[i]? = some o → ∀ e ∈ o.after, Region.binds .any e = true → e.on < i
  kb : ∀ i, i < ops.size → (E i).kb = true

abbrev TX (ops : Array Oper) (F : Nat → FS) (X : Nat → Res) (D : Nat → Bool) : Nat → V := TD (F 0).T (gtmp ops) (fun i => (X i).v) D ops.size
abbrev GX (ops : Array Oper) (F : Nat → FS) (X : Nat → Res) (D : Nat → Bool) : Get := GD (F 0).G (fun i => (X i).upd) D ops.size

theorem gtmp_of {i : Nat} {o : Oper} (h : ops[i]? = some o) : gtmp ops i = o.dst := by unfold gtmp; rw [h]; rfl

theorem Rgn.up (R : Rgn Γ ops F E X) {i : Nat} {o : Oper} (h : ops[i]? = some o) : (E i).up = (X i).upd.map (·.1) := by
  have hs := R.step i o h
  cases hr : (X i).run with
  | true => obtain ⟨_, out, _, _, _, h4, _, h6⟩ := hs.exec hr; rw [h6, h4]
  | false => obtain ⟨_, _, h4, _, h6⟩ := hs.skip hr; rw [h6, h4]; rfl

theorem Rgn.T (R : Rgn Γ ops F E X) : ∀ i, i ≤ ops.size → (F i).T = TD (F 0).T (gtmp ops) (fun i => (X i).v) (fun _ => true) i
  | 0, _ => rfl
  | i + 1, h => by
    have ho : ops[i]? = some ops[i] := Array.getElem?_eq_getElem (by omega)
    rw [(R.step i _ ho).T, R.T i (by omega)]
    funext t
    simp only [TD, putT, gtmp_of ho, true_and]

theorem Rgn.G (R : Rgn Γ ops F E X) : ∀ i, i ≤ ops.size → (F i).G = GD (F 0).G (fun i => (X i).upd) (fun _ => true) i
  | 0, _ => rfl
  | i + 1, h => by
    have ho : ops[i]? = some ops[i] := Array.getElem?_eq_getElem (by omega)
    rw [(R.step i _ ho).G, R.G i (by omega)]
    simp only [GD, if_true]

theorem Rgn.n1 (R : Rgn Γ ops F E X) {i : Nat} (h : i < ops.size) : (F i).n ≤ (F (i + 1)).n := by
  have ho : ops[i]? = some ops[i] := Array.getElem?_eq_getElem h
  have hs := R.step i _ ho
  cases hr : (X i).run with
  | true =>
    obtain ⟨_, out, _, _, _, _, h5, h6⟩ := hs.exec hr
    have := R.kb i h
    rw [h6] at this
    simp only [kbOp, Bool.and_eq_true] at this
    rw [h5]
    simpa using this.1.1.1
  | false => obtain ⟨_, _, _, h5, _⟩ := hs.skip hr; omega

theorem Rgn.n (R : Rgn Γ ops F E X) {i : Nat} : ∀ {j : Nat}, i ≤ j → j ≤ ops.size → (F i).n ≤ (F j).n
  | 0, h, _ => by
    have : i = 0 := by omega
    subst this; exact Nat.le_refl _
  | j + 1, h, h' => by
    by_cases e : i = j + 1
    · subst e; exact Nat.le_refl _
    · exact Nat.le_trans (R.n (j := j) (by omega) (by omega)) (R.n1 (by omega))

/-- A set of operations that has with each the ones that it waits for. -/
def Closed (ops : Array Oper) (D : Nat → Bool) : Prop := ∀ i o, ops[i]? = some o → D i = true → bound D o

theorem Closed.add {D : Nat → Bool} (h : Closed ops D) {i : Nat} {o : Oper} (hi : ops[i]? = some o) (hb : bound D o) : Closed ops (addD D i) := by
  intro j o' hj hD e he hbb
  by_cases hji : j = i
  · subst hji
    rw [hi] at hj; cases hj
    simp [addD, hb e he hbb]
  · rw [addD_ne hji] at hD
    simp [addD, h j o' hj hD e he hbb]

theorem Rgn.lookT (R : Rgn Γ ops F E X) {D : Nat → Bool} {i : Nat} {o : Oper} (hc : Closed ops D) (hi : ops[i]? = some o) (hb : bound D o) (hD : D i = false) {t : Nat} (ht : t ∈ looks ops o) : TX ops F X D t = (F i).T t := by
  have hlt : i < ops.size := (Array.getElem?_eq_some_iff.1 hi).1
  rw [R.T i (by omega), ← TD_past (T0 := (F 0).T) (dst := gtmp ops) (vs := fun i => (X i).v) (t := t) ops.size (by omega)]
  refine TD_congr _ fun p hp e => ?_
  have hop : ops[p]? = some ops[p] := Array.getElem?_eq_getElem hp
  rw [gtmp_of hop] at e
  rcases Nat.lt_trichotomy p i with h | h | h
  · rw [show Nat.blt p i = true by simpa [Nat.blt_eq] using h]
    cases hq : D p with
    | true => rfl
    | false =>
      have := R.both _ (hc.add hi hb) i p h hlt addD_self (by rw [addD_ne (by omega)]; exact hq)
      exact absurd ht ((this.apart _ _ hi hop).yx t e)
  · subst h
    rw [hD]
    exact (Bool.eq_false_iff.2 fun e => by rw [Nat.blt_eq] at e; omega).symm
  · rw [show Nat.blt p i = false by
      cases hq : Nat.blt p i with
      | false => rfl
      | true => rw [Nat.blt_eq] at hq; omega]
    cases hq : D p with
    | false => rfl
    | true =>
      have := R.both D hc p i h hp hq hD
      exact absurd ht ((this.apart _ _ hop hi).xy t e)

theorem Rgn.lookG (R : Rgn Γ ops F E X) {D : Nat → Bool} {i : Nat} {o : Oper} (hc : Closed ops D) (hi : ops[i]? = some o) (hb : bound D o) (hD : D i = false) {k : Nat} (hk : k ∈ (E i).fp) : GX ops F X D k = (F i).G k := by
  have hlt : i < ops.size := (Array.getElem?_eq_some_iff.1 hi).1
  rw [R.G i (by omega), ← GD_past (G0 := (F 0).G) (upd := fun i => (X i).upd) ops.size (by omega)]
  refine GD_congr _ fun p hp e => ?_
  have hop : ops[p]? = some ops[p] := Array.getElem?_eq_getElem hp
  rw [← R.up hop] at e
  rcases Nat.lt_trichotomy p i with h | h | h
  · rw [show Nat.blt p i = true by simpa [Nat.blt_eq] using h]
    cases hq : D p with
    | true => rfl
    | false =>
      have := R.both _ (hc.add hi hb) i p h hlt addD_self (by rw [addD_ne (by omega)]; exact hq)
      exact absurd e (this.ind.fu k hk)
  · subst h
    rw [hD]
    exact (Bool.eq_false_iff.2 fun e => by rw [Nat.blt_eq] at e; omega).symm
  · rw [show Nat.blt p i = false by
      cases hq : Nat.blt p i with
      | false => rfl
      | true => rw [Nat.blt_eq] at hq; omega]
    cases hq : D p with
    | false => rfl
    | true =>
      have := R.both D hc p i h hp hq hD
      exact absurd e (this.ind.uf k hk)

theorem Rgn.addT (R : Rgn Γ ops F E X) {D : Nat → Bool} {i : Nat} {o : Oper} (hc : Closed ops D) (hi : ops[i]? = some o) (hD : D i = false) : TX ops F X (addD D i) = putT (TX ops F X D) o.dst (X i).v := by
  have hlt : i < ops.size := (Array.getElem?_eq_some_iff.1 hi).1
  funext t
  rw [← gtmp_of hi]
  refine TD_add hD _ hlt fun p h1 h2 h3 t e e' => ?_
  have hop : ops[p]? = some ops[p] := Array.getElem?_eq_getElem h2
  rw [gtmp_of hi] at e
  rw [gtmp_of hop] at e'
  exact ((R.both D hc p i h1 h2 h3 hD).apart _ _ hop hi).dd t e' e

theorem Rgn.addG (R : Rgn Γ ops F E X) {D : Nat → Bool} {i : Nat} {o : Oper} (hc : Closed ops D) (hi : ops[i]? = some o) (hD : D i = false) : GX ops F X (addD D i) = getU (X i).upd (GX ops F X D) := by
  have hlt : i < ops.size := (Array.getElem?_eq_some_iff.1 hi).1
  funext k
  refine GD_add hD _ hlt fun p h1 h2 h3 e e' => ?_
  have hop : ops[p]? = some ops[p] := Array.getElem?_eq_getElem h2
  rw [← R.up hi] at e
  rw [← R.up hop] at e'
  exact (R.both D hc p i h1 h2 h3 hD).ind.uu k e' e

/-- Some operations of the region are done. -/
structure DS (P : Program) (Γ : Env) (z : Start) (ops : Array Oper) (F : Nat → FS) (X : Nat → Res) (D : Nat → Bool) (β : Bt) (K : Ks) (a : Act) (w : World) : Prop where
  tmp : ∀ t, VR β K (TX ops F X D t) (a.tmps.getD t undef)
  nt : a.tmps.size = Γ.nt
  defers : a.defers = []
  kok : KOK K w
  mr : MR β K (GX ops F X D) w
  dom : ∀ k, β k ≠ none → k < (F 0).n ∨ ∃ i, i < ops.size ∧ D i = true ∧ (F i).n ≤ k ∧ k < (F (i + 1)).n
  kle : KLe z.K K
  knew : ∀ b arr, K b = some arr → z.K b = some arr ∨ z.S b ∨ z.w.heap.size ≤ b
  fr : Fr z.S z.w w
  own : ∀ x, Own β (GX ops F X D) x → z.S x ∨ z.w.heap.size ≤ x
  ble : ∀ k h, k < z.m → z.β k = some h → β k = some h
  le : z.m ≤ (F 0).n

theorem DS.free (R : Rgn Γ ops F E X) {D : Nat → Bool} {β : Bt} {K : Ks} {a : Act} {w : World} (h : DS P Γ z ops F X D β K a w) {i : Nat} (hi : i < ops.size) (hD : D i = false) : ∀ k, (F i).n ≤ k → k < (F (i + 1)).n → β k = none := by
  intro k h1 h2
  cases hq : β k with
  | none => rfl
  | some y =>
    exfalso
    rcases h.dom k (by rw [hq]; simp) with h3 | ⟨j, h3, h4, h5, h6⟩
    · have := R.n (i := 0) (j := i) (by omega) (by omega)
      omega
    · rcases Nat.lt_trichotomy j i with h7 | h7 | h7
      · have := R.n (i := j + 1) (j := i) (by omega) (by omega)
        omega
      · subst h7; rw [hD] at h4; cases h4
      · have := R.n (i := i + 1) (j := j) (by omega) (by omega)
        omega

theorem DS.step (env : EnvOK P Γ) (R : Rgn Γ ops F E X) {D : Nat → Bool} {β : Bt} {K : Ks} {a : Act} {w : World} (h : DS P Γ z ops F X D β K a w) (hc : Closed ops D) {i : Nat} {o : Oper} (hi : ops[i]? = some o) (hb : bound D o) (hD : D i = false)
    {next : Act → World → Prop} (hn : ∀ β K a w, DS P Γ z ops F X (addD D i) β K a w → next a w) : wpOp P ops Q i next a w := by
  have hlt : i < ops.size := (Array.getElem?_eq_some_iff.1 hi).1
  have hs := R.step i o hi
  have hlook : ∀ t, t ∈ looks ops o → VR β K ((F i).T t) (a.tmps.getD t undef) := fun t ht => by rw [← R.lookT hc hi hb hD ht]; exact h.tmp t
  have hw := wanted_run (β := β) (K := K) (a := a) (T := (F i).T) hs fun g want t hg ht => hlook t (by
    unfold looks
    rw [hg]
    dsimp only
    unfold gtmp at ht
    rw [ht]
    exact List.mem_append_right _ (List.mem_singleton.2 rfl))
  unfold wpOp
  rw [hi]
  dsimp only
  rw [hw]
  cases hr : (X i).run with
  | true =>
    rw [if_pos rfl]
    left
    obtain ⟨_, out, h1, h2, h3, h4, h5, h6⟩ := hs.exec hr
    have hkb := R.kb i hlt
    have hfp : (E i).fp = fpOp o (valT (F i).T) (F i).G := by rw [h6]
    rw [h6] at hkb
    dsimp only at hkb
    refine one_ok (Gc := GX ops F X D) (β := β) (K := K) env h1 h2 hkb (fun k hk => R.lookG hc hi hb hD (by rw [hfp]; exact hk)) h.kok h.mr (by rw [← h5]; exact h.free R hlt hD) ?_ _ _ fun v w' hp => ?_
    · intro x hx
      cases x with
      | tmp t =>
        refine hlook t ?_
        unfold looks looksO
        exact List.mem_append_left _ (List.mem_filterMap.2 ⟨.tmp t, by simpa using hx, rfl⟩)
      | const v => exact constV_ok v
      | global g => exact pois_VR
      | func f => exact ⟨[], rfl, trivial⟩
    · obtain ⟨β', K', hp⟩ := hp
      obtain ⟨g1, g2, g3⟩ := tmp_put (Γ := Γ) (d := o.dst) (x := out.v) (v := v) h.tmp hp.ble hp.kle h.nt hs.dst hp.vr
      refine hn β' K' _ _ ⟨?_, g2, g3.trans h.defers, hp.kok, ?_, ?_, h.kle.trans hp.kle, ?_, ?_, ?_, fun k y hk e => hp.ble _ _ (h.ble k y hk e), h.le⟩
      · rw [R.addT hc hi hD, h3]; exact g1
      · rw [R.addG hc hi hD, h4]; exact hp.mr
      · intro k hk
        rcases hp.dom k hk with h7 | ⟨h7, h8⟩
        · rcases h.dom k h7 with h9 | ⟨j, h9, h10, h11⟩
          · exact .inl h9
          · exact .inr ⟨j, h9, by simp [addD, h10], h11⟩
        · exact .inr ⟨i, hlt, addD_self, h7, by rw [h5]; exact h8⟩
      · intro b arr e
        rcases hp.knew b arr e with h7 | h7 | h7
        · exact h.knew b arr h7
        · exact .inr (h.own b h7)
        · exact .inr (.inr (Nat.le_trans h.fr.size h7))
      · exact h.fr.trans hp.fr fun x hx hs => (h.own x hs).resolve_right (by omega)
      · intro x hx
        rw [R.addG hc hi hD, h4] at hx
        rcases hp.own x hx with h7 | h7
        · exact h.own x h7
        · exact .inr (Nat.le_trans h.fr.size h7)
  | false =>
    rw [if_neg (by simp)]
    obtain ⟨_, h1, h2, h3, _⟩ := hs.skip hr
    obtain ⟨g1, g2, g3⟩ := tmp_put (Γ := Γ) (d := o.dst) (x := .tup []) (v := undef) h.tmp (BLe.refl β) (KLe.refl K) h.nt hs.dst ⟨#[], rfl, trivial⟩
    have hG : GX ops F X (addD D i) = GX ops F X D := by rw [R.addG hc hi hD, h2]; rfl
    refine hn β K _ _ ⟨?_, g2, g3.trans h.defers, h.kok, by rw [hG]; exact h.mr, ?_, h.kle, h.knew, h.fr, by rw [hG]; exact h.own, h.ble, h.le⟩
    · rw [R.addT hc hi hD, h1]; exact g1
    · intro k hk
      rcases h.dom k hk with h9 | ⟨j, h9, h10, h11⟩
      · exact .inl h9
      · exact .inr ⟨j, h9, by simp [addD, h10], h11⟩

theorem DS.all (R : Rgn Γ ops F E X) {D : Nat → Bool} {β : Bt} {K : Ks} {a : Act} {w : World} (h : DS P Γ z ops F X D β K a w) (hD : ∀ i, i < ops.size → D i = true) : SRf P Γ z β K (F ops.size) a w := by
  have hT : TX ops F X D = (F ops.size).T := by
    rw [R.T _ (Nat.le_refl _)]
    funext t
    exact TD_congr _ fun p hp _ => hD p hp
  have hG : GX ops F X D = (F ops.size).G := by
    rw [R.G _ (Nat.le_refl _)]
    funext t
    exact GD_congr _ fun p hp _ => hD p hp
  refine ⟨by rw [← hT]; exact h.tmp, h.nt, h.defers, h.kok, by rw [← hG]; exact h.mr, ?_, h.kle, h.knew, h.fr, by rw [← hG]; exact h.own, h.ble, Nat.le_trans h.le (R.n (Nat.zero_le _) (Nat.le_refl _))⟩
  intro k hk
  cases hq : β k with
  | none => rfl
  | some y =>
    exfalso
    rcases h.dom k (by rw [hq]; simp) with h3 | ⟨j, h3, _, _, h6⟩
    · have := R.n (i := 0) (j := ops.size) (by omega) (Nat.le_refl _)
      omega
    · have := R.n (i := j + 1) (j := ops.size) (by omega) (Nat.le_refl _)
      omega

theorem region_any (env : EnvOK P Γ) (R : Rgn Γ ops F E X) (hQ : ∀ β K a w, SRf P Γ z β K (F ops.size) a w → Q .normal a w) :
    ∀ (fuel : Nat) (listed : Array Bool), listed.size = ops.size → cnt (fun k => listed.getD k false) ops.size ≤ fuel → Closed ops (fun k => listed.getD k false) →
    ∀ β K a w, DS P Γ z ops F X (fun k => listed.getD k false) β K a w → wpAny P .any ops Q fuel listed a w := by
  have hall : ∀ (listed : Array Bool), listed.size = ops.size → Region.ready .any ops listed = [] → ∀ i, i < ops.size → listed.getD i false = true := by
    intro listed hsz hr i
    induction i using Nat.strongRecOn with
    | _ i ih =>
      intro hi
      cases hq : listed.getD i false with
      | true => rfl
      | false =>
        exfalso
        have ho : ops[i]? = some ops[i] := Array.getElem?_eq_getElem hi
        have : i ∈ Region.ready .any ops listed := by
          rw [mem_ready]
          refine ⟨?_, _, ho, fun e he hb => ?_⟩
          · have hlt : i < listed.size := by omega
            simp [hlt] at hq ⊢
            exact hq
          · have hlt := R.edge i _ ho e he hb
            exact ih e.on hlt (by omega)
        rw [hr] at this
        cases this
  intro fuel
  induction fuel with
  | zero =>
    intro listed hsz hc hcl β K a w h
    have hD := cnt_zero (Nat.le_zero.1 hc)
    refine ⟨?_, hQ β K a w (h.all R hD)⟩
    cases hr : Region.ready .any ops listed with
    | nil => rfl
    | cons i r =>
      exfalso
      have hm : i ∈ Region.ready .any ops listed := by rw [hr]; exact List.mem_cons_self ..
      obtain ⟨h1, o, ho, _⟩ := mem_ready.1 hm
      have hlt : i < ops.size := (Array.getElem?_eq_some_iff.1 ho).1
      have h2 := hD i hlt
      have hlt2 : i < listed.size := by omega
      simp [hlt2] at h1 h2
      rw [h1] at h2
      cases h2
  | succ fuel ih =>
    intro listed hsz hc hcl β K a w h
    refine ⟨fun hr => hQ β K a w (h.all R (hall listed hsz hr)), fun i hi => ?_⟩
    obtain ⟨h1, o, ho, h2⟩ := mem_ready.1 hi
    have hlt : i < ops.size := (Array.getElem?_eq_some_iff.1 ho).1
    have hlt2 : i < listed.size := by omega
    have hDi : (fun k => listed.getD k false) i = false := by
      simp [hlt2] at h1 ⊢
      exact h1
    have hD' : (fun k => (listed.setIfInBounds i true).getD k false) = addD (fun k => listed.getD k false) i := by
      funext k
      by_cases hk : k = i
      · subst hk
        rw [addD_self]
        simp [hlt2]
      · rw [addD_ne hk]
        exact getD_set_ne false (Ne.symm hk)
    have hbo : bound (fun k => listed.getD k false) o := fun e he hb => h2 e he hb
    refine h.step env R hcl ho hbo hDi fun β' K' a' w' h' => ?_
    refine ih (listed.setIfInBounds i true) (by simpa using hsz) ?_ ?_ β' K' a' w' (by rw [hD']; exact h')
    · rw [hD']
      have := cnt_add (D := fun k => listed.getD k false) hDi hlt
      omega
    · rw [hD']
      exact hcl.add ho hbo

theorem DS.start (R : Rgn Γ ops F E X) {β : Bt} {K : Ks} {a : Act} {w : World} (h : SRf P Γ z β K (F 0) a w) {D : Nat → Bool} (hD : ∀ i, D i = false) : DS P Γ z ops F X D β K a w := by
  have hT : ∀ N t, TD (F 0).T (gtmp ops) (fun i => (X i).v) D N t = (F 0).T t := by
    intro N t
    induction N with
    | zero => rfl
    | succ N ih => simp only [TD, hD N, Bool.false_eq_true, false_and, if_false]; exact ih
  have hG : ∀ N, GD (F 0).G (fun i => (X i).upd) D N = (F 0).G := by
    intro N
    induction N with
    | zero => rfl
    | succ N ih => simp only [GD, hD N, Bool.false_eq_true, if_false]; exact ih
  refine ⟨fun t => by rw [show TX ops F X D t = (F 0).T t from hT _ t]; exact h.tmp t, h.nt, h.defers, h.kok, by rw [show GX ops F X D = (F 0).G from hG _]; exact h.mr, ?_, h.kle, h.knew, h.fr, by rw [show GX ops F X D = (F 0).G from hG _]; exact h.own, h.ble, h.le⟩
  intro k hk
  left
  rcases Nat.lt_or_ge k (F 0).n with h1 | h1
  · exact h1
  · exact absurd (h.fresh k h1) hk

end

end Go.Proofs.Ytmmdjajebmihhaa.AM
