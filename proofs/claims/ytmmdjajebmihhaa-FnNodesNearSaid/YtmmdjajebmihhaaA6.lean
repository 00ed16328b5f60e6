/- The abstract machine: each operation that it does, the model does alike (third part: numbers, places, parts). Conditions: those that each lemma names. -/
import Derived.Test.YtmmdjajebmihhaaA5
namespace Go.Proofs.Ytmmdjajebmihhaa.AM
open Go
set_option linter.unusedVariables false

section
variable {P : Program} {Γ : Env} {β : Bt} {K : Ks} {get : Get} {n : Nat} {w : World} {ρ : Operand → V} {a : Act} {o : Oper}

theorem Pre.one (h : Pre P Γ β K get n w ρ a) {x : Operand} {c : C} (hx : ρ x = .val (.one c)) : CR β K c (a.eval x) := by
  have := h.val x; rw [hx] at this; exact this
theorem Pre.agg (h : Pre P Γ β K get n w ρ a) {x : Operand} {cs : List C} (hx : ρ x = .val (.agg cs)) : ∃ arr : Array Value, a.eval x = .agg arr ∧ All2 (CR β K) cs arr.toList := by
  have := h.val x; rw [hx] at this; exact this

theorem ok_nilCheck (h : Pre P Γ β K get n w ρ a) {x : Operand} {c : C} (ho : o.op = .nilCheck x) (hx : ρ x = .val (.one c))
    (hc : (∃ k o, c = .ptr k o) ∨ (∃ k t i o, c = .eptr k t i o) ∨ (∃ t l i o, c = .rptr t l i o) ∨ (∃ f cs, c = .fn f cs)) :
    StepOK P o a w (PostE β K get n w ⟨true, .val (.one c), [], n⟩) := by
  have hv := h.one hx
  refine h.pure (u := a.eval x) (w' := w) hv ?_ (Still.refl w)
  rcases hc with ⟨k, o', rfl⟩ | ⟨k, t, i, o', rfl⟩ | ⟨t, l, i, o', rfl⟩ | ⟨f, cs, rfl⟩
  · obtain ⟨_, _, _, _, he⟩ := hv; simp [execOp, ho, he]
  · obtain ⟨_, _, _, _, _, _, _, he⟩ := hv; simp [execOp, ho, he]
  · obtain ⟨_, _, _, _, _, _, he⟩ := hv; simp [execOp, ho, he]
  · obtain ⟨_, he, _⟩ := hv; simp [execOp, ho, he]

theorem All2.nth {α γ : Type} {R : α → γ → Prop} {as : List α} {cs : List γ} {i : Nat} {c : γ} (h : All2 R as cs) (hc : cs[i]? = some c) : ∃ x, as[i]? = some x ∧ R x c := h.get?' hc

theorem ok_fieldAddr (h : Pre P Γ β K get n w ρ a) {t : TypeId} {ti : TI} {x : Operand} {f : Nat} {off size : Nat} {ag : Bool} {out : Out} (ho : o.op = .fieldAddr t x f) (ht : Γ.tab t = some ti)
    (hs : ti.sort = .struct) (hf : ti.fields[f]? = some (off, size, ag)) (h0 : size ≠ 0)
    (hl : (match ρ x with
          | .val (.one (.ptr k o)) => pure1 n true (.one (.ptr k (o + off)))
          | .val (.one (.eptr k ty i o)) => pure1 n true (.one (.eptr k ty i (o + off)))
          | .val (.one (.rptr ty l i o)) => pure1 n true (.one (.rptr ty l i (o + off)))
          | _ => none) = some out) : StepOK P o a w (PostE β K get n w out) := by
  obtain ⟨i, d, z, hi, hd, hz, _, _, _, _, hso, _⟩ := (h.env.tab t ti ht).ex
  simp only [SrtOk, hs] at hso
  obtain ⟨fs, rfl, hfs⟩ := hso
  obtain ⟨fl, hfl, hoff, fi, fd, hfi, hfsz, _⟩ := hfs.nth hf
  have hfl' : fs[f]? = some fl := by simpa using hfl
  have key : ∀ (b q : Nat), a.eval x = .pointer (some ⟨b, q, none⟩) → (execOp a.eval o).run P w = .ok (.value (.pointer (some ⟨b, q + off, none⟩))) w := by
    intro b q he
    refine exec_v (s := Instr.fieldAt t (a.eval x) f) (by simp [execOp, ho]) ?_
    have hne : ¬ fi.size = 0 := by rw [hfsz]; exact h0
    simp [Instr.fieldAt, run_underlying hd, hfl', he, Instr.sureAddr, fieldPlace, run_sizeOf' hfi, hne, add_lit, hoff]
  split at hl
  · rename_i k q hx
    obtain ⟨hd', b, hb, hp, he⟩ := h.one hx
    exact h.pure1 hl (u := .pointer (some ⟨b, q + off, none⟩)) ⟨hd', b, hb, hp, rfl⟩ (key b q he) (Still.refl w)
  · rename_i k ty j q hx
    obtain ⟨hd', b, m, c, hb, hp, hj, he⟩ := h.one hx
    exact h.pure1 hl (u := .pointer (some ⟨b, j * ty.size + (q + off), none⟩)) ⟨hd', b, m, c, hb, hp, hj, rfl⟩ (by rw [← Nat.add_assoc]; exact key b _ he) (Still.refl w)
  · rename_i ty l j q hx
    obtain ⟨hj, b, o', arr, hK, hall, he⟩ := h.one hx
    exact h.pure1 hl (u := .pointer (some ⟨b, o' + j * ty.size + (q + off), none⟩)) ⟨hj, b, o', arr, hK, hall, rfl⟩ (by rw [← Nat.add_assoc]; exact key b _ he) (Still.refl w)
  · cases hl

theorem run_part (ag : Bool) (t : TypeId) {fi : TypeInfo} {fd : TypeDesc} (hfi : P.info? t = some fi) (hfd : P.underlying t = some fd) (hag : aggD fd = ag) {cs : List C} {arr : Array Value} {off : Nat} {u : W}
    (hc : All2 (CR β K) cs arr.toList) (hu : loadW ag fi.size (takeN cs off fi.size) = some u) : ∃ v, (part t arr off).run P w = .ok v w ∧ WR β K u v := by
  have hsub := hc.sub' off fi.size
  have hl := loadW_len hu
  unfold part
  rw [Sem.run_bind, run_isAgg' hfd, Result.andThen_ok, hag]
  cases ag with
  | true =>
    simp only [loadW] at hu
    split at hu
    · cases hu
      refine ⟨.agg (arr.extract off (off + fi.size)), by simp [run_sizeOf' hfi], ⟨_, rfl, ?_⟩⟩
      rw [Array.toList_extract]
      have e : List.extract arr.toList off (off + fi.size) = sub arr.toList off fi.size := by
        simp [List.extract, sub]
      rw [e]
      exact hsub
    · cases hu
  | false =>
    simp only [loadW] at hu
    split at hu
    · rename_i h1
      have h1 := nbeq_eq h1
      split at hu
      · rename_i c hcs
        cases hu
        rw [hcs] at hsub
        cases hs : sub arr.toList off fi.size with
        | nil => rw [hs] at hsub; exact hsub.elim
        | cons v vs =>
          rw [hs] at hsub
          have hv : arr[off]? = some v := by
            have : (sub arr.toList off fi.size)[0]? = some v := by rw [hs]; rfl
            unfold sub at this
            rw [List.getElem?_take] at this
            split at this
            · rw [List.getElem?_drop] at this; simpa using this
            · cases this
          exact ⟨v, by simp [hv], hsub.1⟩
      · cases hu
    · cases hu

theorem ok_field (h : Pre P Γ β K get n w ρ a) {t : TypeId} {ti : TI} {x : Operand} {f : Nat} {off size : Nat} {ag : Bool} {cs : List C} {u : W} (ho : o.op = .field t x f) (ht : Γ.tab t = some ti)
    (hs : ti.sort = .struct) (hf : ti.fields[f]? = some (off, size, ag)) (hx : ρ x = .val (.agg cs)) (hu : loadW ag size (takeN cs off size) = some u) {out : Out} (hp : AM.pure1 n true u = some out) :
    StepOK P o a w (PostE β K get n w out) := by
  obtain ⟨i, d, z, hi, hd, hz, _, _, _, _, hso, _⟩ := (h.env.tab t ti ht).ex
  simp only [SrtOk, hs] at hso
  obtain ⟨fs, rfl, hfs⟩ := hso
  obtain ⟨fl, hfl, hoff, fi, fd, hfi, hfsz, hfd, hag⟩ := hfs.nth hf
  have hfl' : fs[f]? = some fl := by simpa using hfl
  obtain ⟨arr, he, hc⟩ := h.agg hx
  dsimp only at hoff hfsz hag
  subst hoff hfsz hag
  obtain ⟨v, hr, hv⟩ := run_part (P := P) (w := w) _ fl.type hfi hfd rfl hc hu
  refine h.pure1 hp hv ?_ (Still.refl w)
  refine exec_v (s := Instr.field t (a.eval x) f) (by simp [execOp, ho]) ?_
  simp [Instr.field, run_underlying hd, hfl', he, asAgg, hr]

theorem elem_size {t : TypeId} {ti : TI} (ht : TIok P t ti) : ∃ i, P.info? t = some i ∧ i.size = ti.size := by
  obtain ⟨i, _, _, hi, _, _, hs, _⟩ := ht.ex
  exact ⟨i, hi, hs⟩

/-- The place of an element. -/
theorem run_indexAt {t e : TypeId} {ei : TypeInfo} (hd : P.underlying t = some (.slice e)) (hei : P.info? e = some ei) {b q m c : Nat} {k : IntKind} {j : Int} (h0 : 0 ≤ j) (h1 : j < m) :
    (Instr.indexAt t (.slice (some ⟨b, q, none⟩) m c) (.int k j)).run P w = .ok (.pointer (some ⟨b, q + j.toNat * ei.size, none⟩)) w := by
  simp [Instr.indexAt, asIntOf, run_underlying hd, h0, h1, run_sizeOf' hei, add_lit]

theorem ok_indexAddr (h : Pre P Γ β K get n w ρ a) {t : TypeId} {ti ei : TI} {x i : Operand} {out : Out} (ho : o.op = .indexAddr t x i) (ht : Γ.tab t = some ti) (hs : ti.sort = .slice) (he : Γ.tab ti.elem = some ei)
    (hl : (match ρ x, ρ i with
    | .val (.one (.sl t l)), .val (.one (.int _ j)) => match Nat.beq t.size ei.size with
      | true => pure1 n (decide (0 ≤ j) && decide (j < (l.length : Int))) (.one (.rptr t l j.toNat 0))
      | false => none
    | .val (.one (.ref t k)), .val (.one (.int _ j)) => match get k with
      | some (.arr t' l) => match Nat.beq t.size ei.size, same t' t with
        | true, some _ => pure1 n (decide (0 ≤ j) && decide (j < (l.length : Int))) (.one (.eptr k t j.toNat 0))
        | _, _ => none
      | _ => none
    | .val (.one (.nil t)), .val (.one (.int _ _)) => pure1 n false (.one (.rptr t [] 0 0))
    | _, _ => none) = some out) (hok : out.ok = true) : StepOK P o a w (PostE β K get n w out) := by
  obtain ⟨ii, d, z, hi, hd, hz, _, _, _, _, hso, _⟩ := (h.env.tab t ti ht).ex
  simp only [SrtOk, hs] at hso
  subst hso
  obtain ⟨eii, hei, hes⟩ := elem_size (h.env.tab _ ei he)
  split at hl
  · rename_i ty l k j hx hj
    split at hl
    · rename_i hsz
      have hsz := nbeq_eq hsz
      have hp := hl
      simp only [pure1, Option.some.injEq] at hp
      subst hp
      simp only [Bool.and_eq_true, decide_eq_true_eq] at hok
      obtain ⟨ad, m, c, hv, hm, hmc, hrest⟩ := h.one hx
      have hjv : a.eval i = .int k j := h.one hj
      simp only [List.cons.injEq, and_true] at hv
      rcases hrest with h0 | ⟨b, q, arr, rfl, hK, hall⟩
      · omega
      · refine h.pure1 hl (u := .pointer (some ⟨b, q + j.toNat * eii.size, none⟩)) ?_ (w' := w) ?_ (Still.refl w)
        · refine ⟨by omega, b, q, arr, hK, hall, ?_⟩
          rw [hes, ← hsz]; rfl
        · refine exec_v (s := Instr.indexAt t (a.eval x) (a.eval i)) (by simp [execOp, ho]) ?_
          rw [hv, hjv]
          exact run_indexAt hd hei hok.1 (by omega)
    · cases hl
  · rename_i ty key k j hx hj
    split at hl
    · rename_i t' l hg
      split at hl
      · rename_i hsz hsame
        have e : t' = ty := by
          cases hq : same t' ty with
          | none => rw [hq] at hsame; cases hsame
          | some p => exact p.down
        subst e
        have hsz := nbeq_eq hsz
        have hp := hl
        simp only [pure1, Option.some.injEq] at hp
        subst hp
        simp only [Bool.and_eq_true, decide_eq_true_eq] at hok
        obtain ⟨y, ad, m, c, hb, hy, hv⟩ := h.one hx
        have hjv : a.eval i = .int k j := h.one hj
        obtain ⟨y', hb', hbr⟩ := h.mr.blk key _ hg
        rw [hb] at hb'; cases hb'
        rcases hbr with ⟨rfl, a', rfl⟩ | ⟨b, cap, cur, T, rfl, hh, h1, h2, h3, h4⟩
        · simp at hok; omega
        · cases hy
          refine h.pure1 hl (u := .pointer (some ⟨b, 0 + j.toNat * eii.size, none⟩)) ?_ (w' := w) ?_ (Still.refl w)
          · refine ⟨_, b, l.length, _, hb, rfl, by omega, ?_⟩
            rw [hes, ← hsz]; simp
          · refine exec_v (s := Instr.indexAt t (a.eval x) (a.eval i)) (by simp [execOp, ho]) ?_
            rw [hv, hjv]
            exact run_indexAt hd hei hok.1 (by omega)
      · cases hl
    · cases hl
  · simp only [pure1, Option.some.injEq] at hl
    subst hl
    cases hok
  · cases hl

theorem ok_index (h : Pre P Γ β K get n w ρ a) {t : TypeId} {ti : TI} {x i : Operand} {s : ByteArray} {k : IntKind} {j : Int} {out : Out} (ho : o.op = .index t x i) (ht : Γ.tab t = some ti) (hs : ti.sort = .string)
    (hx : ρ x = .val (.one (.str s))) (hj : ρ i = .val (.one (.int k j))) (hl : pure1 n (decide (0 ≤ j) && decide (j < (s.size : Int))) (.one (.int .u8 (strAt s j))) = some out) (hok : out.ok = true) :
    StepOK P o a w (PostE β K get n w out) := by
  obtain ⟨ii, d, z, hi, hd, hz, _, _, _, _, hso, _⟩ := (h.env.tab t ti ht).ex
  simp only [SrtOk, hs] at hso
  subst hso
  have hp := hl
  simp only [pure1, Option.some.injEq] at hp
  subst hp
  simp only [Bool.and_eq_true, decide_eq_true_eq] at hok
  have e1 : a.eval x = .string s := h.one hx
  have e2 : a.eval i = .int k j := h.one hj
  refine h.pure1 hl (u := .int .u8 (strAt s j)) rfl (w' := w) ?_ (Still.refl w)
  refine exec_v (s := Instr.index t (a.eval x) (a.eval i)) (by simp [execOp, ho]) ?_
  have hlt : j.toNat < s.size := by omega
  have hget : s[j.toNat]? = some s[j.toNat] := ByteArray.getElem?_lt' s _ hlt
  have hdat : s.data.toList.getD j.toNat 0 = s[j.toNat] := by
    have : j.toNat < s.data.toList.length := by simpa using hlt
    simp [List.getD, List.getElem?_eq_getElem this]
    rfl
  rw [e1, e2]
  have hd2 : s.data[j.toNat]?.getD 0 = s[j.toNat] := by simpa [List.getD] using hdat
  simp [Instr.index, asIntOf, run_underlying hd, hok.1, hget, strAt, hd2]

theorem ok_unOp (h : Pre P Γ β K get n w ρ a) {op : UnOp} {t : TypeId} {x : Operand} {c c' : C} {out : Out} (ho : o.op = .unOp op t x) (hx : ρ x = .val (.one c)) (hc : unC op c = some c')
    (hl : pure1 n true (.one c') = some out) : StepOK P o a w (PostE β K get n w out) := by
  have hv := h.one hx
  have exec : ∀ u, (Op.unary op (a.eval x)).run P w = .ok u w → (execOp a.eval o).run P w = .ok (.value u) w := fun u hr =>
    exec_v (s := Op.unary op (a.eval x)) (by simp [execOp, ho]) hr
  cases c with
  | int k m =>
    cases op <;> simp only [unC, Option.some.injEq, reduceCtorEq] at hc
    subst hc
    refine h.pure1 hl (u := .int k (k.wrap (0 - m))) rfl (exec _ ?_) (Still.refl w)
    rw [show a.eval x = .int k m from hv]
    simp [Op.unary, Op.intArith]
  | flt k b =>
    cases op <;> simp only [unC, Option.some.injEq, reduceCtorEq] at hc
    subst hc
    obtain ⟨b', he, hf⟩ := hv
    refine h.pure1 hl (u := .float k (fneg k b')) ⟨_, rfl, fneg_congr hf⟩ (exec _ ?_) (Still.refl w)
    rw [he]
    simp [Op.unary, Op.negFloat, fneg]
  | cpx k p q =>
    cases op <;> simp only [unC, Option.some.injEq, reduceCtorEq] at hc
    subst hc
    obtain ⟨p', q', he, hf, hf'⟩ := hv
    refine h.pure1 hl (u := .complex k (fneg k p') (fneg k q')) ⟨_, _, rfl, fneg_congr hf, fneg_congr hf'⟩ (exec _ ?_) (Still.refl w)
    rw [he]
    simp [Op.unary, Op.negFloat, fneg]
  | bool b =>
    cases op <;> simp only [unC, Option.some.injEq, reduceCtorEq] at hc
    subst hc
    refine h.pure1 hl (u := .bool (!b)) rfl (exec _ ?_) (Still.refl w)
    rw [show a.eval x = .bool b from hv]
    simp [Op.unary]
  | _ => simp [unC] at hc

theorem ok_extract (h : Pre P Γ β K get n w ρ a) {x : Operand} {i : Nat} {ws : List W} {u : W} {out : Out} (ho : o.op = .extract x i) (hx : ρ x = .tup ws) (hu : ws[i]? = some u)
    (hl : pure1 n true u = some out) : StepOK P o a w (PostE β K get n w out) := by
  have hv := h.val x
  rw [hx] at hv
  obtain ⟨arr, he, ha⟩ := hv
  obtain ⟨v, hv, hr⟩ := ha.get? hu
  have hv' : arr[i]? = some v := by simpa using hv
  refine h.pure1 hl hr (w' := w) ?_ (Still.refl w)
  refine exec_v (s := Instr.extract (a.eval x) i) (by simp [execOp, ho]) ?_
  rw [he]
  simp [Instr.extract, hv']

end

end Go.Proofs.Ytmmdjajebmihhaa.AM
