/- The abstract machine: each operation that it does, the model does alike (second part: stores, slices that are given away). Conditions: those that each lemma names. -/
import Derived.Test.YtmmdjajebmihhaaA4
namespace Go.Proofs.Ytmmdjajebmihhaa.AM
open Go
set_option linter.unusedVariables false

/-! ## Slices that are given away -/

open Classical in
/-- The blocks that nobody writes, and those of some keys besides. -/
noncomputable def frzK (β : Bt) (K : Ks) (get : Get) (w : World) (ks : List Nat) : Ks := fun b => match K b with
  | some a => some a
  | none => if ∃ k ∈ ks, ∃ c y, get k = some c ∧ β k = some y ∧ y.b = some b then (match w.heap[b]? with
    | some (.cells arr _ _) => some arr
    | _ => none) else none

section
variable {β : Bt} {K : Ks} {get : Get} {w : World} {ks : List Nat}

theorem frzK_le : KLe K (frzK β K get w ks) := fun b arr e => by simp [frzK, e]

theorem frzK_ok (h : KOK K w) : KOK (frzK β K get w ks) w := by
  intro b arr e
  unfold frzK at e
  split at e
  · rename_i a ha; cases e; exact h b _ ha
  · split at e
    · split at e
      · rename_i arr' T fz hh; cases e; exact ⟨T, fz, hh⟩
      · cases e
    · cases e

theorem frzK_new : ∀ b arr, frzK β K get w ks b = some arr → K b = some arr ∨ Own β get b ∨ w.heap.size ≤ b := by
  intro b arr e
  unfold frzK at e
  split at e
  · rename_i x hx; exact .inl (hx.trans e)
  · split at e
    · rename_i hex
      obtain ⟨k, _, c, y, h1, h2, h3⟩ := hex
      exact .inr (.inl ⟨k, c, y, h1, h2, h3⟩)
    · cases e

theorem frzK_none (h : MR β K get w) {k : Nat} {c : Blk} {y : Hd} {x : Nat} (hg : get k = some c) (hk : k ∉ ks) (hb : β k = some y) (hx : y.b = some x) : frzK β K get w ks x = none := by
  unfold frzK
  rw [h.ro k c y x hg hb hx]
  dsimp only
  rw [if_neg]
  rintro ⟨k', hk', c', y', hg', hb', hx'⟩
  have := h.sep k k' c c' y y' x hg hg' hb hb' hx hx'
  subst this
  exact hk hk'

theorem frzK_some (h : MR β K get w) {k : Nat} {c : Blk} {y : Hd} {x : Nat} {arr : Array Value} {T : TypeId} {fz : Nat × Nat} (hg : get k = some c) (hk : k ∈ ks) (hb : β k = some y) (hx : y.b = some x) (hh : w.heap[x]? = some (.cells arr T fz)) :
    frzK β K get w ks x = some arr := by
  unfold frzK
  rw [h.ro k c y x hg hb hx]
  dsimp only
  rw [if_pos ⟨k, hk, c, y, hg, hb, hx⟩, hh]

/-- A slice of the call's own as one that nobody writes. -/
theorem arr_ro (h : MR β K get w) {k : Nat} {t : Ty} {l : List (Den t)} (hg : get k = some (.arr t l)) (hk : k ∈ ks) {y : Hd} (hb : β k = some y) : DR (frzK β K get w ks) (.slice t) l [y.v] := by
  obtain ⟨y', hb', hr⟩ := h.blk k _ hg
  rw [hb] at hb'; cases hb'
  rcases hr with ⟨rfl, a, rfl⟩ | ⟨b, cap, cur, T, rfl, hh, h1, h2, h3, h4⟩
  · exact ⟨a, 0, 0, rfl, rfl, Nat.le_refl _, .inl rfl⟩
  · refine ⟨_, _, _, rfl, rfl, h1, .inr ⟨b, 0, cur, rfl, frzK_some h hg hk hb rfl hh, fun i hi => ?_⟩⟩
    rw [Nat.zero_add]
    exact DR.mono frzK_le t (h4 i hi)

theorem roC_ok (h : MR β K get w) {c c' : C} {v : Value} (hc : roC get c = some c') (hv : CR β K c v) (hk : ∀ k ∈ keysC c, k ∈ ks) : CR β (frzK β K get w ks) c' v := by
  cases c with
  | ref t k =>
    simp only [roC] at hc
    split at hc
    · rename_i t' l hg
      split at hc
      · rename_i e _
        subst e
        cases hc
        obtain ⟨y, a, n, c, hb, hy, rfl⟩ := hv
        have := arr_ro h hg (hk k (by simp [keysC])) hb
        rw [hy] at this
        exact this
      · cases hc
    · cases hc
  | fn f caps =>
    cases caps with
    | nil => simp only [roC, Option.some.injEq] at hc; subst hc; exact CR.mono (BLe.refl β) frzK_le hv
    | cons k ks => simp [roC] at hc
  | ptr k o => simp [roC] at hc
  | eptr k t i o => simp [roC] at hc
  | _ => simp only [roC, Option.some.injEq] at hc; subst hc; exact CR.mono (BLe.refl β) frzK_le hv

theorem mapO_all2 {α γ δ : Type} {f : α → Option γ} {R : α → δ → Prop} {R' : γ → δ → Prop} : ∀ {as : List α} {cs : List γ} {ds : List δ}, mapO f as = some cs → All2 R as ds → (∀ a c d, a ∈ as → f a = some c → R a d → R' c d) → All2 R' cs ds
  | [], cs, ds, h, ha, _ => by
    simp only [mapO, Option.some.injEq] at h
    subst h
    cases ds with
    | nil => trivial
    | cons d ds => exact ha.elim
  | a :: as, cs, ds, h, ha, hf => by
    simp only [mapO] at h
    split at h
    · rename_i y hy
      split at h
      · rename_i ys hys
        cases h
        cases ds with
        | nil => exact ha.elim
        | cons d ds => exact ⟨hf a y d (List.mem_cons_self ..) hy ha.1, mapO_all2 hys ha.2 fun a c d hm => hf a c d (List.mem_cons_of_mem _ hm)⟩
      · cases h
    · cases h

theorem mapO_length {α γ : Type} {f : α → Option γ} : ∀ {as : List α} {cs : List γ}, mapO f as = some cs → cs.length = as.length
  | [], cs, h => by simp only [mapO, Option.some.injEq] at h; subst h; rfl
  | a :: as, cs, h => by
    simp only [mapO] at h
    split at h
    · split at h
      · rename_i hys; cases h; simp [mapO_length hys]
      · cases h
    · cases h

theorem mapO_mem {α γ : Type} {f : α → Option γ} : ∀ {as : List α} {cs : List γ}, mapO f as = some cs → ∀ c ∈ cs, ∃ a ∈ as, f a = some c
  | [], cs, h => by simp only [mapO, Option.some.injEq] at h; subst h; simp
  | a :: as, cs, h => by
    simp only [mapO] at h
    split at h
    · rename_i y hy
      split at h
      · rename_i ys hys
        cases h
        intro c hc
        rcases List.mem_cons.1 hc with rfl | hc
        · exact ⟨a, List.mem_cons_self .., hy⟩
        · obtain ⟨a', h1, h2⟩ := mapO_mem hys c hc
          exact ⟨a', List.mem_cons_of_mem _ h1, h2⟩
      · cases h
    · cases h

theorem hasN_iff : ∀ {l : List Nat} {k : Nat}, hasN l k = true ↔ k ∈ l
  | [], k => by simp [hasN]
  | x :: r, k => by
    unfold hasN
    split
    · rename_i h; have := nbeq_eq h; subst this; simp
    · rename_i h
      have hne : x ≠ k := fun e => by subst e; simp at h
      rw [hasN_iff]
      simp [hne.symm]
theorem hasN_false {l : List Nat} {k : Nat} (h : hasN l k = false) : k ∉ l := fun hm => by rw [hasN_iff.2 hm] at h; cases h

end

/-! ## Lists that are written in the middle -/

theorem sub_splice_other (cur vs : List Value) (p o n : Nat) (hp : p + vs.length ≤ cur.length) (h : o + n ≤ p ∨ p + vs.length ≤ o) :
    sub (cur.take p ++ vs ++ cur.drop (p + vs.length)) o n = sub cur o n := by
  apply List.ext_getElem?
  intro j
  unfold sub
  simp only [List.getElem?_take, List.getElem?_drop]
  split
  · rename_i hj
    simp only [List.getElem?_append, List.length_append, List.length_take, List.getElem?_take, List.getElem?_drop]
    rcases h with h | h
    · rw [if_pos (by omega), if_pos (by omega), if_pos (by omega)]
    · rw [if_neg (by omega)]
      congr 1
      omega
  · rfl

theorem sub_splice_in (cur vs : List Value) (o n off : Nat) (hl : o + n ≤ cur.length) (h : off + vs.length ≤ n) :
    sub (cur.take (o + off) ++ vs ++ cur.drop (o + off + vs.length)) o n = (sub cur o n).take off ++ vs ++ (sub cur o n).drop (off + vs.length) := by
  apply List.ext_getElem?
  intro j
  unfold sub
  simp only [List.getElem?_take, List.getElem?_drop, List.getElem?_append, List.length_append, List.length_take, List.length_drop, List.take_take]
  by_cases h1 : j < off
  · repeat (first | rw [if_pos (by omega)] | rw [if_neg (by omega)])
  · by_cases h2 : j < off + vs.length
    · repeat (first | rw [if_pos (by omega)] | rw [if_neg (by omega)])
      congr 1
      omega
    · by_cases h3 : j < n
      · repeat (first | rw [if_pos (by omega)] | rw [if_neg (by omega)])
        congr 1
        omega
      · repeat (first | rw [if_pos (by omega)] | rw [if_neg (by omega)])

section
variable {P : Program} {Γ : Env} {β : Bt} {K : Ks} {get : Get} {n : Nat} {w : World} {ρ : Operand → V} {a : Act} {o : Oper}

/-- A block of the call's own is written; others may be given away. -/
theorem Post.write (h : Pre P Γ β K get n w ρ a) {k b : Nat} {c0 c1 : Blk} {y : Hd} {cur : Array Value} {gone : List Nat} {ok : Bool}
    (hg : get k = some c0) (hb : β k = some y) (hy : y.b = some b) (hng : k ∉ gone)
    (hbr : BR β (frzK β K get w gone) c1 y (w.setRow b cur)) :
    PostE β K get n w ⟨ok, pois, (k, some c1) :: gone.map (fun k => (k, none)), n⟩ undef (w.setRow b cur) := by
  have hlt := h.mr.lt ⟨k, c0, y, hg, hb, hy⟩
  refine ⟨β, frzK β K get w gone, BLe.refl β, frzK_le, ?_, trivial, ?_, h.fresh, Nat.le_refl _, ⟨rfl, rfl, rfl, by simp, ?_⟩, ?_, frzK_new, fun _ _ => rfl⟩
  · intro x arr e
    have hx : x ≠ b := fun e' => by
      subst e'
      rw [frzK_none h.mr hg hng hb hy] at e
      cases e
    rw [setRow_other w b x cur hx]
    exact frzK_ok h.kok x arr e
  · refine h.mr.step (BLe.refl β) frzK_le ?_
    intro j c e
    rcases getU_cons e with ⟨rfl, e1⟩ | ⟨e1, e2⟩
    · cases e1
      refine .inr ⟨y, hb, hbr, fun x hx => ?_⟩
      rw [hy] at hx; cases hx
      refine ⟨frzK_none h.mr hg hng hb hy, fun k' b' y' e' f' g' => ?_⟩
      rcases getU_cons e' with ⟨rfl, _⟩ | ⟨e3, e4⟩
      · rfl
      · obtain ⟨_, e5⟩ := getU_gone e4
        exact h.mr.sep k' j b' c0 y' y b e5 hg f' hb g' hy
    · obtain ⟨e3, e4⟩ := getU_gone e2
      refine .inl ⟨e4, fun x z f g => ⟨setRow_other w b x cur ?_, frzK_none h.mr e4 e3 f g⟩⟩
      intro e'
      subst e'
      exact e1 (h.mr.sep j k c c0 z y x e4 hg f hb g hy)
  · intro x hx hn
    exact setRow_other w b x cur fun e => hn ⟨k, c0, y, hg, hb, by rw [hy, e]⟩
  · rintro x ⟨j, c, z, e, f, g⟩
    rcases getU_cons e with ⟨rfl, e1⟩ | ⟨e1, e2⟩
    · exact .inl ⟨j, c0, z, hg, f, g⟩
    · obtain ⟨_, e4⟩ := getU_gone e2
      exact .inl ⟨j, c, z, e4, f, g⟩

theorem run_storeAt (t : TypeId) {i : TypeInfo} (hi : P.info? t = some i) {b off : Nat} {cur : Array Value} {T : TypeId} {v : Value} (hh : w.heap[b]? = some (.cells cur T (0, 0)))
    (hs : v.cells.size = i.size) (hfit : off + v.cells.size ≤ cur.size) (h1 : ∀ x ∈ v.cells.toList, x.oneCell' = true) :
    (Instr.storeAt t (.pointer (some ⟨b, off, none⟩)) v).run P w = .ok () (w.setRow b (cur.toList.take off ++ v.cells.toList ++ cur.toList.drop (off + v.cells.toList.length)).toArray) := by
  have hst := run_storeCells_at P b off T v.cells.toList 0 cur w hh (by simpa using hfit) h1
  simp only [Nat.add_zero] at hst
  simp [Instr.storeAt, Instr.sureAddr, storeVar, sizeOf, typeInfo, hi, hs, hst]

theorem setN_all2 {R : C → Value → Prop} {cs new : List C} {vs nv : List Value} (h : All2 R cs vs) (h' : All2 R new nv) (off : Nat) :
    All2 R (setN cs off new) (vs.take off ++ nv ++ vs.drop (off + nv.length)) := by
  unfold setN
  rw [h'.length]
  exact ((h.take off).append h').append (h.drop _)

theorem ok_store (h : Pre P Γ β K get n w ρ a) {t : TypeId} {ti : TI} {x y : Operand} {u : W} {out : Out} (ho : o.op = .store t x y) (ht : Γ.tab t = some ti) (hu : nilOf Γ t y (ρ y) = .val u)
    (hl : actStore get n ti.size u (ρ x) = some out) : StepOK P o a w (PostE β K get n w out) := by
  obtain ⟨i, d, z, hi, hd, hz, hs, _⟩ := (h.env.tab t ti ht).ex
  have hv := h.val x
  have hw : WR β K u (a.eval y) := by have := nilOf_ok h t y; rw [hu] at this; exact this
  have exec : ∀ (w' : World), (Instr.storeAt t (a.eval x) (a.eval y)).run P w = .ok () w' → (execOp a.eval o).run P w = .ok .skip w' := by
    intro w' hr
    simp [execOp, ho, hr]
  cases hx : ρ x with
  | tup ws => rw [hx] at hl; simp [actStore] at hl
  | val ux =>
    rw [hx] at hl hv
    cases ux with
    | agg cs => simp [actStore] at hl
    | one c =>
      cases c with
      | ptr k off =>
        simp only [actStore] at hl
        obtain ⟨hd', b, hb, hp, he⟩ := hv
        split at hl
        · rename_i cs hg
          split at hl
          · rename_i hchk
            cases hl
            simp only [Bool.and_eq_true] at hchk
            obtain ⟨⟨hc1, hc2⟩, hc3⟩ := hchk
            have hc1 := nbeq_eq hc1
            have hc2 : off + ti.size ≤ cs.length := by simpa using hc2
            have hcells := hw.cells hc3
            obtain ⟨hd'', hb', b', arr, T, rfl, hh, hc⟩ := h.mr.blk k _ hg
            rw [hb] at hb'; cases hb'
            cases hp
            have hsz : (a.eval y).cells.size = i.size := by rw [hs, ← hc1]; exact hcells.length.symm
            have hal := hc.length
            have hr := run_storeAt (P := P) (w := w) t hi (v := a.eval y) (off := off) hh hsz (by simp at hal; omega) (hcells.oneCell hc3)
            rw [← he] at hr
            refine StepOK.skip (exec _ hr) ?_
            refine Post.write (gone := []) h hg hb rfl (by simp) ?_
            refine ⟨b, _, T, rfl, setRow_heap w b arr _ T _ hh, ?_⟩
            rw [List.toList_toArray]
            exact (setN_all2 hc hcells off).mono fun _ _ => CR.mono (BLe.refl β) frzK_le
          · cases hl
        · cases hl
      | eptr k t' j off =>
        simp only [actStore] at hl
        obtain ⟨hd', b, m, c, hb, hp, hj, he⟩ := hv
        split at hl
        · rename_i t'' l hg
          split at hl
          · rename_i e _
            subst e
            split at hl
            · rename_i cs hcs
              split at hl
              · rename_i hchk
                simp only [Bool.and_eq_true, Bool.not_eq_true'] at hchk
                obtain ⟨⟨⟨hc1, hc2⟩, hc3⟩, hsure⟩ := hchk
                have hc1 := nbeq_eq hc1
                have hc2 : off + ti.size ≤ t''.size := by simpa using hc2
                have hng : k ∉ u.cells.flatMap keysC := hasN_false hc3
                split at hl
                · rename_i xx hdec
                  cases hl
                  have hcells := hw.cells hsure
                  have hro : All2 (CR β (frzK β K get w (u.cells.flatMap keysC))) cs (a.eval y).cells.toList :=
                    mapO_all2 hcs hcells fun cc cc' vv hm hf hr => roC_ok h.mr hf hr fun k hk => List.mem_flatMap.2 ⟨cc, hm, hk⟩
                  obtain ⟨hd'', hb', hbr⟩ := h.mr.blk k _ hg
                  rw [hb] at hb'; cases hb'
                  rcases hbr with ⟨_, a', e'⟩ | ⟨b', cap, cur, T, e', hh, h1, h2, h3, h4⟩
                  · subst e'; cases hp; omega
                  · subst e'
                    cases hp
                    have hx1 : l.getD j (zero t'') = l[j] := by simp [List.getElem?_eq_getElem hj]
                    have hdec : dec t'' (setN (enc t'' (l.getD j (zero t''))) off cs) = some (xx, []) := hdec
                    rw [hx1] at hdec
                    have hlen : (a.eval y).cells.toList.length = ti.size := by rw [← hro.length, hc1]
                    have hsz : (a.eval y).cells.size = i.size := by rw [hs, ← hlen]; simp
                    have hfit : j * t''.size + t''.size ≤ cur.size := by
                      rw [h3, ← Nat.succ_mul]; exact Nat.mul_le_mul_right _ (by omega)
                    have hr := run_storeAt (P := P) (w := w) t hi (v := a.eval y) (off := j * t''.size + off) hh hsz (by rw [hsz, hs]; omega) (fun x hx => by
                      have := All2.oneCell hsure hcells x hx; exact this)
                    rw [← he] at hr
                    refine StepOK.skip (exec _ hr) ?_
                    refine Post.write h hg hb rfl hng ?_
                    refine .inr ⟨b, c, _, T, by simp, setRow_heap w b cur _ T _ hh, by simpa using h1, h2, ?_, ?_⟩
                    · simp only [List.size_toArray, List.length_append, List.length_take, List.length_drop, Array.length_toList]
                      rw [Array.length_toList] at hlen
                      omega
                    · intro q hq
                      rw [List.toList_toArray]
                      have hq' : q < l.length := by simpa using hq
                      by_cases hqj : q = j
                      · subst hqj
                        rw [List.getElem_set_self]
                        rw [sub_splice_in _ _ _ _ _ (by simpa using hfit) (by rw [hlen]; exact hc2)]
                        have henc := (DR.enc (β := β) t'' (h4 q hj)).mono fun _ _ => CR.mono (BLe.refl β) (frzK_le (β := β) (get := get) (w := w) (ks := u.cells.flatMap keysC))
                        obtain ⟨v1, v2, e1, e2, e3⟩ := dec_DR t'' hdec (setN_all2 henc hro off)
                        cases v2 with
                        | nil => rw [e1]; simpa using e2
                        | cons _ _ => exact e3.elim
                      · rw [List.getElem_set_ne (by omega)]
                        rw [sub_splice_other _ _ _ _ _ (by simp only [Array.length_toList] at *; omega) ?_]
                        · exact DR.mono frzK_le _ (h4 q hq')
                        · rcases Nat.lt_or_ge q j with hlt | hge
                          · left
                            have : q * t''.size + t''.size ≤ j * t''.size := by rw [← Nat.succ_mul]; exact Nat.mul_le_mul_right _ hlt
                            omega
                          · right
                            have : j * t''.size + t''.size ≤ q * t''.size := by rw [← Nat.succ_mul]; exact Nat.mul_le_mul_right _ (by omega)
                            rw [hlen]
                            omega
                · cases hl
              · cases hl
            · cases hl
          · cases hl
        · cases hl
      | _ => simp [actStore] at hl
end

end Go.Proofs.Ytmmdjajebmihhaa.AM
