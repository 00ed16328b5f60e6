/- The abstract machine: a region does what its run says, in the order of the text and in every order that is open. Conditions: those that each lemma names. -/
import Derived.Test.YtmmdjajebmihhaaB5
namespace Go.Proofs.Ytmmdjajebmihhaa.AM
open Go
set_option linter.unusedVariables false

/-! ## What a step leaves of a state -/

section
variable {P : Program} {Γ : Env} {z : Start} {ops : Array Oper} {Q : Exit → Act → World → Prop}

theorem yield_bool {a : Act} {g t : Nat} {b : Bool} (hg : gtmp ops g = some t) (h : a.tmps.getD t undef = .bool b) : yielded ops a.tmps g = some b := by
  have ht : a.tmps[t]? = some (.bool b) := by
    cases hq : a.tmps[t]? with
    | none => simp [hq, undef] at h
    | some v => simp [hq] at h; rw [h]
  unfold yielded
  unfold gtmp at hg
  rw [hg]
  simp [ht]

theorem yield_tup {a : Act} {g t : Nat} {arr : Array Value} (hg : gtmp ops g = some t) (h : a.tmps.getD t undef = .tuple arr) : yielded ops a.tmps g = none := by
  unfold yielded
  unfold gtmp at hg
  rw [hg]
  cases hq : a.tmps[t]? with
  | none => simp [hq]
  | some v => simp [hq] at h; simp [hq, h]

theorem wanted_run {β : Bt} {K : Ks} {a : Act} {o : Oper} {F F' : FS} {E : Ent} {X : Res} {T : Nat → V} (h : StepR Γ ops o F E X F')
    (hv : ∀ g want t, o.guard = some (g, want) → gtmp ops g = some t → VR β K (F.T t) (a.tmps.getD t undef)) : Region.wanted o (yielded ops a.tmps) = X.run := by
  cases hr : X.run with
  | true =>
    rcases (h.exec hr).1 with hg | ⟨g, want, t, hg, ht, hT⟩
    · simp [Region.wanted, hg]
    · have := hv g want t hg ht
      rw [hT] at this
      simp [Region.wanted, hg, yield_bool ht this]
  | false =>
    obtain ⟨⟨g, want, t, hg, ht, hT⟩, _⟩ := h.skip hr
    have := hv g want t hg ht
    rcases hT with hT | hT
    · rw [hT] at this
      simp [Region.wanted, hg, yield_bool ht this]
    · rw [hT] at this
      obtain ⟨arr, e, _⟩ := this
      simp [Region.wanted, hg, yield_tup ht e]

theorem SRf.next {β β' : Bt} {K K' : Ks} {F F' : FS} {a : Act} {w w' : World} {d : Option Nat} {x : V} {v : Value} {out : Out} (h : SRf P Γ z β K F a w) (hd : dstOk Γ d = true)
    (hp : Post β K F.G F.n w out v w' β' K') (hT : F'.T = putT F.T d out.v) (hG : F'.G = getU out.upd F.G) (hn : F'.n = out.n) : SRf P Γ z β' K' F' (a.put d v) w' := by
  obtain ⟨h1, h2, h3⟩ := tmp_put h.tmp hp.ble hp.kle h.nt hd hp.vr
  refine ⟨by rw [hT]; exact h1, h2, h3.trans h.defers, hp.kok, by rw [hG]; exact hp.mr, by rw [hn]; exact hp.fresh, h.kle.trans hp.kle, ?_, ?_, ?_, fun k y hk e => hp.ble _ _ (h.ble k y hk e), by rw [hn]; exact Nat.le_trans h.le hp.le⟩
  · intro b arr e
    rcases hp.knew b arr e with h4 | h4 | h4
    · exact h.knew b arr h4
    · exact .inr (h.own b h4)
    · exact .inr (.inr (Nat.le_trans h.fr.size h4))
  · exact h.fr.trans hp.fr fun x hx hs => (h.own x hs).resolve_right (by omega)
  · intro x hx
    rw [hG] at hx
    rcases hp.own x hx with h4 | h4
    · exact h.own x h4
    · exact .inr (Nat.le_trans h.fr.size h4)

theorem SRf.skip {β : Bt} {K : Ks} {F F' : FS} {a : Act} {w : World} {d : Option Nat} (h : SRf P Γ z β K F a w) (hd : dstOk Γ d = true) (hT : F'.T = putT F.T d (.tup [])) (hG : F'.G = F.G) (hn : F'.n = F.n) :
    SRf P Γ z β K F' (a.put d undef) w := by
  obtain ⟨h1, h2, h3⟩ := tmp_put (x := .tup []) (v := undef) h.tmp (BLe.refl β) (KLe.refl K) h.nt hd ⟨#[], rfl, trivial⟩
  exact ⟨by rw [hT]; exact h1, h2, h3.trans h.defers, h.kok, by rw [hG]; exact h.mr, by rw [hn]; exact h.fresh, h.kle, h.knew, h.fr, by rw [hG]; exact h.own, h.ble, by rw [hn]; exact h.le⟩

theorem region_text (env : EnvOK P Γ) {F : Nat → FS} {E : Nat → Ent} {X : Nat → Res} (hs : ∀ i o, ops[i]? = some o → StepR Γ ops o (F i) (E i) (X i) (F (i + 1)))
    (hQ : ∀ β K a w, SRf P Γ z β K (F ops.size) a w → Q .normal a w) : ∀ (k i : Nat), i + k = ops.size → ∀ β K a w, SRf P Γ z β K (F i) a w → wpOps P ops Q (List.range' i k) a w := by
  intro k
  induction k with
  | zero =>
    intro i hi β K a w h
    have : i = ops.size := by omega
    subst this
    exact hQ β K a w h
  | succ k ih =>
    intro i hi β K a w h
    rw [List.range'_succ, wpOps_cons]
    have hlt : i < ops.size := by omega
    have ho : ops[i]? = some ops[i] := Array.getElem?_eq_getElem hlt
    have hstep := hs i _ ho
    have hw := wanted_run (β := β) (K := K) (a := a) (T := (F i).T) hstep fun _ _ t _ _ => h.tmp t
    unfold wpOp
    rw [ho]
    dsimp only
    rw [hw]
    cases hr : (X i).run with
    | true =>
      rw [if_pos rfl]
      left
      obtain ⟨_, out, h1, h2, h3, h4, h5, _⟩ := hstep.exec hr
      refine act_ok (ρ := valT (F i).T) (get := (F i).G) (n := (F i).n) ⟨env, h.kok, h.mr, h.fresh, fun x => eval_ok h.tmp x⟩ h1 h2 _ _ fun v w' hp => ?_
      obtain ⟨β', K', hp⟩ := hp
      exact ih (i + 1) (by omega) β' K' _ _ (h.next (x := out.v) hstep.dst hp (by rw [hstep.T, h3]) (by rw [hstep.G, h4]) h5)
    | false =>
      rw [if_neg (by simp)]
      obtain ⟨_, h1, h2, h3, _⟩ := hstep.skip hr
      exact ih (i + 1) (by omega) β K _ _ (h.skip hstep.dst (by rw [hstep.T, h1]) (by rw [hstep.G, h2]; rfl) h3)

/-! ## What has been done so far, whatever its order -/

def TD (T0 : Nat → V) (dst : Nat → Option Nat) (v : Nat → V) (D : Nat → Bool) : Nat → Nat → V
  | 0, t => T0 t
  | i + 1, t => if D i = true ∧ dst i = some t then v i else TD T0 dst v D i t

def GD (G0 : Get) (upd : Nat → List (Nat × Option Blk)) (D : Nat → Bool) : Nat → Get
  | 0 => G0
  | i + 1 => if D i = true then getU (upd i) (GD G0 upd D i) else GD G0 upd D i

def addD (D : Nat → Bool) (i : Nat) : Nat → Bool := fun k => D k || Nat.beq k i

section
variable {T0 : Nat → V} {dst : Nat → Option Nat} {vs : Nat → V} {G0 : Get} {upd : Nat → List (Nat × Option Blk)} {D D' : Nat → Bool}

theorem TD_congr {t : Nat} : ∀ (N : Nat), (∀ p, p < N → dst p = some t → D p = D' p) → TD T0 dst vs D N t = TD T0 dst vs D' N t
  | 0, _ => rfl
  | N + 1, h => by
    simp only [TD]
    rw [TD_congr N fun p hp e => h p (by omega) e]
    by_cases e : dst N = some t
    · rw [h N (by omega) e]
    · rw [if_neg (fun h => e h.2), if_neg (fun h => e h.2)]

theorem look_none {α : Type} : ∀ {l : List (Nat × α)} {k : Nat}, k ∉ l.map (·.1) → look l k = none
  | [], k, _ => rfl
  | (j, x) :: r, k, h => by
    simp only [List.map_cons, List.mem_cons, not_or] at h
    simp only [look]
    rw [nbeq_ne (fun e => h.1 e.symm)]
    exact look_none h.2

theorem getU_out {l : List (Nat × Option Blk)} {g : Get} {k : Nat} (h : k ∉ l.map (·.1)) : getU l g k = g k := by
  unfold getU
  rw [look_none h]

theorem getU_in {l : List (Nat × Option Blk)} {g g' : Get} {k : Nat} (h : g k = g' k) : getU l g k = getU l g' k := by
  unfold getU
  rw [h]

theorem GD_congr {k : Nat} : ∀ (N : Nat), (∀ p, p < N → k ∈ (upd p).map (·.1) → D p = D' p) → GD G0 upd D N k = GD G0 upd D' N k
  | 0, _ => rfl
  | N + 1, h => by
    have ih := GD_congr N fun p hp e => h p (by omega) e
    simp only [GD]
    by_cases e : k ∈ (upd N).map (·.1)
    · rw [h N (by omega) e]
      split
      · exact getU_in ih
      · exact ih
    · have h1 : ∀ (g : Get), (if D N = true then getU (upd N) g else g) k = g k := by
        intro g; split
        · exact getU_out e
        · rfl
      have h2 : ∀ (g : Get), (if D' N = true then getU (upd N) g else g) k = g k := by
        intro g; split
        · exact getU_out e
        · rfl
      rw [h1, h2, ih]

theorem addD_ne {i p : Nat} (h : p ≠ i) : addD D i p = D p := by simp [addD, nbeq_ne h]
theorem addD_self {i : Nat} : addD D i i = true := by simp [addD]

theorem TD_add {i : Nat} {t : Nat} (hi : D i = false) : ∀ (N : Nat), i < N → (∀ p, i < p → p < N → D p = true → ∀ t, dst i = some t → dst p ≠ some t) →
    TD T0 dst vs (addD D i) N t = putT (TD T0 dst vs D N) (dst i) (vs i) t
  | 0, h, _ => by omega
  | N + 1, hlt, h => by
    by_cases hN : i = N
    · subst hN
      simp only [TD, addD_self, hi, true_and, Bool.false_eq_true, false_and, if_false, putT]
      rw [TD_congr (D' := D) i fun p hp _ => addD_ne (by omega)]
    · have ih := TD_add (t := t) hi N (by omega) fun p h1 h2 => h p h1 (by omega)
      simp only [TD]
      rw [addD_ne (fun e => hN e.symm), ih]
      unfold putT
      dsimp only
      by_cases e : D N = true ∧ dst N = some t
      · rw [if_pos e, if_neg fun e' => h N (by omega) (by omega) e.1 t e' e.2, if_pos e]
      · rw [if_neg e, if_neg e]

theorem GD_add {i : Nat} {k : Nat} (hi : D i = false) : ∀ (N : Nat), i < N → (∀ p, i < p → p < N → D p = true → k ∈ (upd i).map (·.1) → k ∉ (upd p).map (·.1)) →
    GD G0 upd (addD D i) N k = getU (upd i) (GD G0 upd D N) k
  | 0, h, _ => by omega
  | N + 1, hlt, h => by
    by_cases hN : i = N
    · subst hN
      simp only [GD, addD_self, hi, Bool.false_eq_true, if_false, if_true]
      exact getU_in (GD_congr (D' := D) i fun p hp _ => addD_ne (by omega))
    · have ih := GD_add (k := k) hi N (by omega) fun p h1 h2 => h p h1 (by omega)
      simp only [GD]
      rw [addD_ne (fun e => hN e.symm)]
      cases hD : D N with
      | false => simp only [Bool.false_eq_true, if_false]; exact ih
      | true =>
        simp only [if_true]
        by_cases hk : k ∈ (upd i).map (·.1)
        · have hk2 := h N (by omega) (by omega) hD hk
          rw [getU_out hk2, ih]
          unfold getU
          cases hl : look (upd i) k with
          | some b => rfl
          | none =>
            dsimp only
            exact (getU_out hk2).symm
        · rw [getU_out hk]
          rw [getU_out hk] at ih
          exact getU_in ih

theorem TD_past {i : Nat} {t : Nat} : ∀ (N : Nat), i ≤ N → TD T0 dst vs (fun p => Nat.blt p i) N t = TD T0 dst vs (fun _ => true) i t
  | 0, h => by
    have : i = 0 := by omega
    subst this; rfl
  | N + 1, h => by
    by_cases hN : i = N + 1
    · subst hN
      exact TD_congr _ fun p hp _ => by simpa [Nat.blt_eq] using hp
    · simp only [TD]
      rw [if_neg (fun e => by have := e.1; simp [Nat.blt_eq] at this; omega)]
      exact TD_past N (by omega)

theorem GD_past {i : Nat} : ∀ (N : Nat), i ≤ N → GD G0 upd (fun p => Nat.blt p i) N = GD G0 upd (fun _ => true) i
  | 0, h => by
    have : i = 0 := by omega
    subst this; rfl
  | N + 1, h => by
    by_cases hN : i = N + 1
    · subst hN
      funext k
      exact GD_congr _ fun p hp _ => by simpa [Nat.blt_eq] using hp
    · simp only [GD]
      rw [if_neg (fun e => by simp [Nat.blt_eq] at e; omega)]
      exact GD_past N (by omega)
end

/-! ## What the check of an open region says -/

def bound (D : Nat → Bool) (o : Oper) : Prop := ∀ e ∈ o.after, Region.binds .any e = true → D e.on = true

theorem ancOf_bit {acc : List Nat} {j : Nat} : ∀ {l : List Edge}, (ancOf acc l).testBit j = true → ∃ e ∈ l, Region.binds .any e = true ∧ (j = e.on ∨ (acc.getD e.on 0).testBit j = true)
  | [], h => by simp [ancOf] at h
  | e :: r, h => by
    unfold ancOf at h
    split at h
    · rename_i hb
      simp only [Nat.lor_eq, Nat.shiftLeft_eq', Nat.testBit_or, Bool.or_eq_true] at h
      rcases h with (h | h) | h
      · refine ⟨e, List.mem_cons_self .., hb, .inl ?_⟩
        rw [Nat.one_shiftLeft, Nat.testBit_two_pow] at h
        simpa using (of_decide_eq_true h).symm
      · exact ⟨e, List.mem_cons_self .., hb, .inr h⟩
      · obtain ⟨e', h1, h2⟩ := ancOf_bit h
        exact ⟨e', List.mem_cons_of_mem _ h1, h2⟩
    · obtain ⟨e', h1, h2⟩ := ancOf_bit h
      exact ⟨e', List.mem_cons_of_mem _ h1, h2⟩

theorem ancs_bit {D : Nat → Bool} : ∀ (L : List Oper) (acc : List Nat), (∀ i o, L[i]? = some o → D (acc.length + i) = true → bound D o) → (∀ p x, acc[p]? = some x → D p = true → ∀ j, x.testBit j = true → D j = true) →
    ∀ p x, (ancs L acc)[p]? = some x → D p = true → ∀ j, x.testBit j = true → D j = true
  | [], acc, _, h => h
  | o :: L, acc, hc, h => by
    unfold ancs
    refine ancs_bit L _ ?_ ?_
    · intro i o' e hD
      refine hc (i + 1) o' (by simpa using e) ?_
      rw [← hD]; congr 1; simp; omega
    · intro p x e hD j hj
      rw [List.getElem?_append] at e
      split at e
      · exact h p x e hD j hj
      · rename_i hp
        have hp0 : p - acc.length = 0 := by
          have := (List.getElem?_eq_some_iff.1 e).1
          simpa using this
        rw [hp0] at e
        simp only [List.getElem?_cons_zero, Option.some.injEq] at e
        subst e
        have hpe : p = acc.length := by omega
        subst hpe
        obtain ⟨ed, h1, h2, h3⟩ := ancOf_bit hj
        have hb := hc 0 o rfl (by simpa using hD) ed (by simpa using h1) h2
        rcases h3 with rfl | h3
        · exact hb
        · rw [List.getD_eq_getElem?_getD] at h3
          cases hq : acc[ed.on]? with
          | none => rw [hq] at h3; simp at h3
          | some y =>
            rw [hq] at h3
            exact h _ y hq hb j (by simpa using h3)

theorem ancs_length : ∀ (L : List Oper) (acc : List Nat), (ancs L acc).length = acc.length + L.length
  | [], acc => by simp [ancs]
  | o :: L, acc => by unfold ancs; rw [ancs_length L]; simp; omega

def PairOk (ops : Array Oper) (anc j : Nat) (o o' : Oper) (e e' : Ent) : Prop := anc.testBit j = true ∨ (indep e e' = true ∧ apartB ops o o' = true)

theorem againstB_spec {anc : Nat} {o : Oper} {e : Ent} : ∀ {l : List (Nat × Oper × Ent)}, againstB ops anc o e l = true → ∀ j o' e', (j, o', e') ∈ l → PairOk ops anc j o o' e e'
  | [], _, _, _, _, h => by cases h
  | (i, x, y) :: r, h, j, o', e', hm => by
    simp only [againstB, Bool.and_eq_true] at h
    rcases List.mem_cons.1 hm with hm | hm
    · have h0 := h.1
      have hj : j = i := congrArg (fun x : Nat × Oper × Ent => x.1) hm
      have ho : o' = x := congrArg (fun x : Nat × Oper × Ent => x.2.1) hm
      have he : e' = y := congrArg (fun x : Nat × Oper × Ent => x.2.2) hm
      rw [hj, ho, he]
      cases hb : Nat.testBit anc i with
      | true => exact .inl hb
      | false =>
        rw [hb] at h0
        exact .inr (by simpa using h0)
    · exact againstB_spec h.2 j o' e' hm

theorem pairsB_spec : ∀ {as : List Nat} {L : List Oper} {es : List Ent} {i : Nat} {before : List (Nat × Oper × Ent)}, pairsB ops as (number3 i L es) before = true → ∀ p a o e, as[p]? = some a → L[p]? = some o → es[p]? = some e →
    (∀ j o' e', (j, o', e') ∈ before → PairOk ops a j o o' e e') ∧ ∀ q o' e', q < p → L[q]? = some o' → es[q]? = some e' → PairOk ops a (i + q) o o' e e'
  | [], _, _, _, _, _, _, _, _, _, h, _, _ => by simp at h
  | _ :: _, [], _, _, _, _, _, _, _, _, _, h, _ => by simp at h
  | _ :: _, _ :: _, [], _, _, _, _, _, _, _, _, _, h => by simp at h
  | a0 :: as, o0 :: L, e0 :: es, i, before, h, p, a, o, e, h1, h2, h3 => by
    simp only [number3, pairsB, Bool.and_eq_true] at h
    cases p with
    | zero =>
      simp only [List.getElem?_cons_zero, Option.some.injEq] at h1 h2 h3
      subst h1; subst h2; subst h3
      exact ⟨againstB_spec h.1, fun q _ _ hq => by omega⟩
    | succ p =>
      obtain ⟨h4, h5⟩ := pairsB_spec h.2 p a o e (by simpa using h1) (by simpa using h2) (by simpa using h3)
      refine ⟨fun j o' e' hm => h4 j o' e' (List.mem_cons_of_mem _ hm), fun q o' e' hq g1 g2 => ?_⟩
      cases q with
      | zero =>
        simp only [List.getElem?_cons_zero, Option.some.injEq] at g1 g2
        subst g1; subst g2
        exact h4 i o0 e0 (List.mem_cons_self ..)
      | succ q =>
        have := h5 q o' e' (by omega) (by simpa using g1) (by simpa using g2)
        rw [show i + (q + 1) = i + 1 + q by omega]
        exact this

theorem edgesB_spec : ∀ {L : List Oper} {i : Nat}, edgesB i L = true → ∀ p o, L[p]? = some o → ∀ e ∈ o.after, Region.binds .any e = true → e.on < i + p
  | [], _, _, _, _, h, _, _, _ => by simp at h
  | o0 :: L, i, h, p, o, ho, e, he, hb => by
    simp only [edgesB, Bool.and_eq_true, List.all_eq_true] at h
    cases p with
    | zero =>
      simp only [List.getElem?_cons_zero, Option.some.injEq] at ho
      subst ho
      have := h.1 e (by simpa using he)
      rw [hb] at this
      simpa [Nat.blt_eq] using this
    | succ p =>
      have := edgesB_spec h.2 p o (by simpa using ho) e he hb
      omega

theorem disj_spec : ∀ {l l' : List Nat}, disj l l' = true → ∀ k ∈ l, k ∉ l'
  | [], _, _, _, h => by cases h
  | x :: r, l', h, k, hk => by
    unfold disj at h
    split at h
    · cases h
    · rename_i hx
      rcases List.mem_cons.1 hk with rfl | hk
      · exact hasN_false hx
      · exact disj_spec h k hk

structure Indep (a b : Ent) : Prop where
  fu : ∀ k ∈ a.fp, k ∉ b.up
  uf : ∀ k ∈ b.fp, k ∉ a.up
  uu : ∀ k ∈ a.up, k ∉ b.up

theorem indep_spec {a b : Ent} (h : indep a b = true) : Indep a b := by
  simp only [indep, Bool.and_eq_true] at h
  exact ⟨disj_spec h.1.1, disj_spec h.1.2, disj_spec h.2⟩

structure Apart (ops : Array Oper) (x y : Oper) : Prop where
  xy : ∀ d, x.dst = some d → d ∉ looks ops y
  yx : ∀ d, y.dst = some d → d ∉ looks ops x
  dd : ∀ d, x.dst = some d → y.dst ≠ some d

theorem apart_spec {x y : Oper} (h : apartB ops x y = true) : Apart ops x y := by
  simp only [apartB, Bool.and_eq_true] at h
  refine ⟨fun d hd => ?_, fun d hd => ?_, fun d hd hd' => ?_⟩
  · have := h.1.1
    rw [hd] at this
    exact hasN_false (by simpa using this)
  · have := h.1.2
    rw [hd] at this
    exact hasN_false (by simpa using this)
  · have := h.2
    rw [hd, hd'] at this
    simp at this

/-- Two operations of the region that may come in either order. -/
structure Both (ops : Array Oper) (E : Nat → Ent) (i j : Nat) : Prop where
  ind : Indep (E i) (E j)
  apart : ∀ o o', ops[i]? = some o → ops[j]? = some o' → Apart ops o o'

theorem draw_spec {E : Nat → Ent} (h : drawOk ops (((List.range ops.size).map E).reverse ++ []) = true) :
    (∀ (D : Nat → Bool), (∀ i o, ops[i]? = some o → D i = true → bound D o) → ∀ i j, j < i → i < ops.size → D i = true → D j = false → Both ops E i j) ∧
    (∀ i o, ops[i]? = some o → ∀ e ∈ o.after, Region.binds .any e = true → e.on < i) ∧ ∀ i, i < ops.size → (E i).kb = true := by
  simp only [drawOk, List.append_nil, List.reverse_reverse, Bool.and_eq_true] at h
  obtain ⟨⟨h1, h2⟩, h3⟩ := h
  refine ⟨?_, ?_, ?_⟩
  · intro D hD i j hj hi hDi hDj
    have hlen : i < (ancs ops.toList []).length := by rw [ancs_length]; simpa using hi
    have ha := List.getElem?_eq_getElem hlen
    have hoi : ops.toList[i]? = some ops[i] := by rw [Array.getElem?_toList]; exact Array.getElem?_eq_getElem hi
    have hoj : ops.toList[j]? = some ops[j] := by rw [Array.getElem?_toList]; exact Array.getElem?_eq_getElem (by omega)
    have hei : ((List.range ops.size).map E)[i]? = some (E i) := by simp [hi]
    have hej : ((List.range ops.size).map E)[j]? = some (E j) := by rw [List.getElem?_map, List.getElem?_range (by omega)]; rfl
    have := (pairsB_spec h1 i _ _ _ ha hoi hei).2 j _ _ hj hoj hej
    rw [Nat.zero_add] at this
    rcases this with hb | ⟨hb1, hb2⟩
    · have := ancs_bit (D := D) ops.toList [] (fun i o e hd => hD i o (by rw [← Array.getElem?_toList]; exact e) (by simpa using hd)) (fun p x e => by simp at e) i _ ha hDi j hb
      rw [hDj] at this
      cases this
    · refine ⟨indep_spec hb1, fun o o' e e' => ?_⟩
      rw [Array.getElem?_eq_getElem hi] at e
      rw [Array.getElem?_eq_getElem (by omega)] at e'
      cases e; cases e'
      exact apart_spec hb2
  · intro i o ho e he hb
    have := edgesB_spec h2 i o (by rw [Array.getElem?_toList]; exact ho) e he hb
    omega
  · intro i hi
    have := List.all_eq_true.1 h3 (E i) (by
      rw [List.mem_reverse, List.mem_map]
      exact ⟨i, by simpa using hi, rfl⟩)
    exact this
end

end Go.Proofs.Ytmmdjajebmihhaa.AM
