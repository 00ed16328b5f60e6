/- The abstract machine: each operation that it does, the model does alike (first part). Conditions: those that each lemma names. -/
import Derived.Test.YtmmdjajebmihhaaF0
namespace Go.Proofs.Ytmmdjajebmihhaa.AM
open Go
set_option linter.unusedVariables false

/-- What is known ahead of an operation. -/
structure Pre (P : Program) (Γ : Env) (β : Bt) (K : Ks) (get : Get) (n : Nat) (w : World) (ρ : Operand → V) (a : Act) : Prop where
  env : EnvOK P Γ
  kok : KOK K w
  mr : MR β K get w
  fresh : ∀ k, n ≤ k → β k = none
  val : ∀ x, VR β K (ρ x) (a.eval x)

section
variable {P : Program} {Γ : Env} {β : Bt} {K : Ks} {get : Get} {n : Nat} {w : World} {ρ : Operand → V} {a : Act} {o : Oper}

theorem Pre.pure (h : Pre P Γ β K get n w ρ a) {v : V} {u : Value} {ok : Bool} {w' : World} (hv : VR β K v u) (hr : (execOp a.eval o).run P w = .ok (.value u) w') (s : Still w w') :
    StepOK P o a w (PostE β K get n w ⟨ok, v, [], n⟩) := StepOK.value hr (Post.pure h.kok h.mr h.fresh s hv)

theorem Pre.pure1 (h : Pre P Γ β K get n w ρ a) {c : W} {ok : Bool} {out : Out} (ho : pure1 n ok c = some out) {u : Value} {w' : World} (hv : WR β K c u)
    (hr : (execOp a.eval o).run P w = .ok (.value u) w') (s : Still w w') : StepOK P o a w (PostE β K get n w out) := by
  simp only [AM.pure1, Option.some.injEq] at ho
  subst ho
  exact h.pure hv hr s

theorem nilOf_ok (h : Pre P Γ β K get n w ρ a) (t : Nat) (x : Operand) : VR β K (nilOf Γ t x (ρ x)) (a.eval x) := by
  unfold nilOf
  split
  · exact h.val x
  · rename_i hx
    have e : ∃ ad, a.eval x = .slice ad 0 0 := by
      unfold isNilC at hx
      split at hx
      · simp only [Bool.and_eq_true] at hx
        have h1 := nbeq_eq hx.1
        have h2 := nbeq_eq hx.2
        subst h1; subst h2
        exact ⟨none, rfl⟩
      · cases hx
    split
    · split
      · split
        · exact e
        · exact h.val x
      · exact h.val x
    · exact h.val x

theorem ok_move (h : Pre P Γ β K get n w ρ a) {x : Operand} (ho : o.op = .move x ∨ o.op = .assign x) : StepOK P o a w (PostE β K get n w ⟨true, nilOf Γ o.type x (ρ x), [], n⟩) := by
  refine h.pure (nilOf_ok h _ x) (w' := w) ?_ (Still.refl w)
  rcases ho with ho | ho <;> simp [execOp, ho]

theorem ok_pick (h : Pre P Γ β K get n w ρ a) {c x y : Operand} {t : Bool} (ho : o.op = .pick c x y) (hc : ρ c = .val (.one (.bool t))) :
    StepOK P o a w (PostE β K get n w ⟨true, pickV t (ρ x) (ρ y), [], n⟩) := by
  have e : a.eval c = .bool t := by have := h.val c; rw [hc] at this; exact this
  refine h.pure (u := if t = true then a.eval x else a.eval y) (w' := w) ?_ ?_ (Still.refl w)
  · cases t
    · exact h.val y
    · exact h.val x
  · simp [execOp, ho, e, asBool]

theorem ok_alloc (h : Pre P Γ β K get n w ρ a) {t : TypeId} {ti : TI} (ho : o.op = .alloc t) (ht : Γ.tab t = some ti) :
    StepOK P o a w (PostE β K get n w ⟨true, .val (.one (.ptr n 0)), [(n, some (.box ti.zero))], n + 1⟩) := by
  obtain ⟨i, d, z, hi, hd, hz, hs, hby, ha, hzr, _⟩ := (h.env.tab t ti ht).ex
  have hr : (execOp a.eval o).run P w = .ok (.value (.pointer (some ⟨w.heap.size, 0, none⟩))) (w.alloc (.cells z.cells t)) := by
    refine exec_v (s := Instr.alloc t true (.tuple #[])) ?_ ?_
    · simp [execOp, ho]
    · simp [Instr.alloc, zeroValue, typeInfo, hi, hz, newVar, newRow]
  refine StepOK.value hr ?_
  have hn := h.fresh n (Nat.le_refl _)
  refine Post.alloc (gone := []) (h := ⟨.pointer (some ⟨w.heap.size, 0, none⟩), some w.heap.size⟩) h.kok h.mr h.fresh (Still.refl w) (KLe.refl K) h.kok ?_ rfl ?_ ?_
  · intro k c x y e _ f g; exact h.mr.ro k c y x e f g
  · exact ⟨w.heap.size, z.cells, t, rfl, heap_push_new w _, hzr.mono fun _ _ hh => hh _ _⟩
  · exact ⟨_, w.heap.size, addB_self .., rfl, rfl⟩

theorem ok_box (h : Pre P Γ β K get n w ρ a) {t : TypeId} {x : Operand} {u : W} (ho : o.op = .box t x) (hx : ρ x = .val u) (hs : u.cells.all sure = true) :
    StepOK P o a w (PostE β K get n w ⟨true, .val (.one (.ptr n 0)), [(n, some (.box u.cells))], n + 1⟩) := by
  have hv : WR β K u (a.eval x) := by have := h.val x; rw [hx] at this; exact this
  have hr : (execOp a.eval o).run P w = .ok (.value (.pointer (some ⟨w.heap.size, 0, none⟩))) (w.alloc (.cells (a.eval x).cells t)) := by
    refine exec_v (s := Instr.box t (a.eval x)) ?_ ?_
    · simp [execOp, ho]
    · simp [Instr.box, newVar, newRow]
  refine StepOK.value hr ?_
  have hn := h.fresh n (Nat.le_refl _)
  refine Post.alloc (gone := []) (h := ⟨.pointer (some ⟨w.heap.size, 0, none⟩), some w.heap.size⟩) h.kok h.mr h.fresh (Still.refl w) (KLe.refl K) h.kok ?_ rfl ?_ ?_
  · intro k c x y e _ f g; exact h.mr.ro k c y x e f g
  · exact ⟨w.heap.size, (a.eval x).cells, t, rfl, heap_push_new w _, (hv.cells hs).mono fun _ _ => CR.mono (BLe.add _ hn) (KLe.refl K)⟩
  · exact ⟨_, w.heap.size, addB_self .., rfl, rfl⟩

theorem load_run {t : TypeId} {ti : TI} (hti : TIok P t ti) (hkok : KOK K w) (hmr : MR β K get w) {x : V} {v0 : Value} (hv : VR β K x v0) {out : Out} (hl : actLoad get n ti.agg ti.size x = some out) :
    ∃ b off u v, v0 = .pointer (some ⟨b, off, none⟩) ∧ (loadVar t ⟨b, off, none⟩).run P w = .ok v w ∧ WR β K u v ∧ AM.pure1 n true u = some out := by
  have fin : ∀ (b off : Nat) (arr : Array Value) (T : TypeId) (fz : Nat × Nat) (cs : List C) (u : W), v0 = .pointer (some ⟨b, off, none⟩) → w.heap[b]? = some (.cells arr T fz) →
      All2 (CR β K) cs (sub arr.toList off ti.size) → loadW ti.agg ti.size cs = some u → AM.pure1 n true u = some out → ∃ b off u v, v0 = .pointer (some ⟨b, off, none⟩) ∧ (loadVar t ⟨b, off, none⟩).run P w = .ok v w ∧ WR β K u v ∧ AM.pure1 n true u = some out := by
    intro b off arr T fz cs u he hh hc hu hp
    obtain ⟨v, hr, hw⟩ := run_loadVar_sub hti hh hc hu
    exact ⟨b, off, u, v, he, hr, hw, hp⟩
  cases x with
  | tup ws => simp [actLoad] at hl
  | val u =>
    cases u with
    | agg cs => simp [actLoad] at hl
    | one c =>
      cases c with
      | ptr k off =>
        simp only [actLoad] at hl
        obtain ⟨hd, b, hb, hp, he⟩ := hv
        split at hl
        · rename_i cs hg
          split at hl
          · rename_i u hu
            obtain ⟨hd', hb', b', arr, T, rfl, hh, hc⟩ := hmr.blk k _ hg
            rw [hb] at hb'; cases hb'
            cases hp
            exact fin b off arr T (0, 0) _ u he hh (hc.sub' off ti.size) hu hl
          · cases hl
        · cases hl
      | eptr k t' i off =>
        simp only [actLoad] at hl
        obtain ⟨hd, b, m, c, hb, hp, hi, he⟩ := hv
        split at hl
        · rename_i t'' l hg
          split at hl
          · rename_i e _
            subst e
            split at hl
            · rename_i u hu
              obtain ⟨hd', hb', hbr⟩ := hmr.blk k _ hg
              rw [hb] at hb'; cases hb'
              rcases hbr with ⟨_, a', e'⟩ | ⟨b', cap, cur, T, e', hh, h1, h2, h3, h4⟩
              · subst e'; cases hp; omega
              · subst e'
                cases hp
                have hx1 : l.getD i (zero t'') = l[i] := by simp [List.getElem?_eq_getElem hi]
                rw [hx1] at hu
                have hd4 := DR.enc (β := β) t'' (h4 i hi)
                have hlen := enc_size t'' l[i]
                refine fin b _ cur T (0, 0) _ u he hh ?_ hu hl
                exact part_fits hd4 hlen (loadW_len hu)
            · cases hl
          · cases hl
        · cases hl
      | rptr t' l i off =>
        simp only [actLoad] at hl
        obtain ⟨hi, b, o', arr, hK, hall, he⟩ := hv
        split at hl
        · rename_i u hu
          obtain ⟨T, fz, hh⟩ := hkok b arr hK
          have hx1 : l.getD i (zero t') = l[i] := by simp [List.getElem?_eq_getElem hi]
          rw [hx1] at hu
          exact fin b _ arr T fz _ u he hh (part_fits (DR.enc (β := β) t' (hall i hi)) (enc_size t' l[i]) (loadW_len hu)) hu hl
        · cases hl
      | _ => simp [actLoad] at hl

theorem ok_load (h : Pre P Γ β K get n w ρ a) {t : TypeId} {ti : TI} {x : Operand} {out : Out} (ho : o.op = .load t x) (ht : Γ.tab t = some ti) (hl : actLoad get n ti.agg ti.size (ρ x) = some out) :
    StepOK P o a w (PostE β K get n w out) := by
  obtain ⟨b, off, u, v, he, hr, hw, hp⟩ := load_run (h.env.tab t ti ht) h.kok h.mr (h.val x) hl
  refine h.pure1 hp hw (w' := w) ?_ (Still.refl w)
  refine exec_v (s := Instr.loadAt t (a.eval x)) (by simp [execOp, ho]) ?_
  simp [Instr.loadAt, he, Instr.sureAddr, hr]
end

end Go.Proofs.Ytmmdjajebmihhaa.AM
