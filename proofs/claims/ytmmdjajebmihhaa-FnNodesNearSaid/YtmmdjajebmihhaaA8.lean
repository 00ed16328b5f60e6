/- The abstract machine: each operation that it does, the model does alike (fifth part: what is made, literals, the built-in functions). Conditions: those that each lemma names. -/
import Derived.Test.YtmmdjajebmihhaaA7
namespace Go.Proofs.Ytmmdjajebmihhaa.AM
open Go
set_option linter.unusedVariables false

theorem look_app {α : Type} : ∀ (l r : List (Nat × α)) (k : Nat), look (l ++ r) k = match look l k with | some b => some b | none => look r k
  | [], r, k => by simp [look]
  | (j, x) :: l, r, k => by
    simp only [List.cons_append, look]
    split
    · rfl
    · exact look_app l r k

/-! ### Cells that repeat -/

theorem madeCells_get (z : Array Value) (m : Nat) {i : Nat} (h : i < m) : (madeCells z m).toList[i]? = some z[i % z.size]! := by
  simp [madeCells, h]

theorem madeCells_sub (z : Array Value) (m i : Nat) (h : i < m) : sub (madeCells z (m * z.size)).toList (i * z.size) z.size = z.toList := by
  apply List.ext_getElem?
  intro j
  unfold sub
  rw [List.getElem?_take]
  split
  · rename_i hj
    rw [List.getElem?_drop]
    have hlt : i * z.size + j < m * z.size := by
      have : i * z.size + z.size ≤ m * z.size := by rw [← Nat.succ_mul]; exact Nat.mul_le_mul_right _ h
      omega
    rw [madeCells_get z _ hlt, Nat.mul_comm i, Nat.mul_add_mod, Nat.mod_eq_of_lt hj]
    simp [hj]
  · rename_i hj
    have : z.toList.length ≤ j := by simp; omega
    rw [List.getElem?_eq_none this]

section
variable {P : Program} {Γ : Env} {β : Bt} {K : Ks} {get : Get} {n : Nat} {w : World} {ρ : Operand → V} {a : Act} {o : Oper}

theorem ok_makeSlice (h : Pre P Γ β K get n w ρ a) {t : TypeId} {ti ei : TI} {xl xc : Operand} {kl kc : IntKind} {l c : Int} (ho : o.op = .makeSlice t xl xc) (ht : Γ.tab t = some ti) (hs : ti.sort = .slice)
    (he : Γ.tab ti.elem = some ei) (hby : ei.bytes ≤ 128) (hsz : ei.ty.size = ei.size) (h0s : 0 < ei.size) (hl : ρ xl = .val (.one (.int kl l))) (hc : ρ xc = .val (.one (.int kc c)))
    (h0 : 0 ≤ l) (h1 : l ≤ sliceCap) (h2 : l = c) :
    StepOK P o a w (PostE β K get n w ⟨true, .val (.one (.ref ei.ty n)), [(n, some (.arr ei.ty (List.replicate l.toNat (zero ei.ty))))], n + 1⟩) := by
  obtain ⟨_, d, _, _, hd, _, _, _, _, _, hso, _⟩ := (h.env.tab t ti ht).ex
  simp only [SrtOk, hs] at hso
  subst hso
  subst h2
  obtain ⟨ii, d', z, hi, hd', hz, hs1, hb1, ha1, _, _, hzt, hzc⟩ := (h.env.tab _ ei he).ex
  have e1 : a.eval xl = .int kl l := h.one hl
  have e2 : a.eval xc = .int kc l := h.one hc
  have hcap : sliceCap = 1099511627776 := rfl
  have hlm : l ≤ 9223372036854775807 := by omega
  have hw : IntKind.i64.wrap l = l :=
    by exact IntWalk.i64_in _ (by omega)
  have hbl : (ii.bytes : Int) * l ≤ 2 ^ 48 := by
    have h3 : (ii.bytes : Int) ≤ 128 := by omega
    have h4 : (ii.bytes : Int) * l ≤ 128 * l := Int.mul_le_mul_of_nonneg_right h3 h0
    omega
  have hr : (Instr.makeSlice t (a.eval xl) (a.eval xc)).run P w = .ok (.slice (some ⟨w.heap.size, 0, none⟩) l.toNat l.toNat) (w.alloc (.cells (madeCells z.cells (l.toNat * ii.size)) ti.elem)) := by
    rw [e1, e2]
    unfold Instr.makeSlice
    have hn1 : ¬ (l < 0) := by omega
    have hn2 : ¬ ((ii.bytes : Int) * l > 2 ^ 48) := by omega
    have hn2' : ¬ ((281474976710656 : Int) < (ii.bytes : Int) * l) := by omega
    simp only [Sem.run_bind, run_underlying hd, Result.andThen_ok]
    by_cases hz0 : l.toNat * ii.size = 0
    · simp [asInt, asIntOf, typeInfo, hi, hw, hn1, hn2', sizeOf, hz0, newRow, madeCells]
      simp [Array.range]
    · simp [asInt, asIntOf, typeInfo, hi, hw, hn1, hn2', sizeOf, hz0, newRow, madeCells, zeroValue, hz]
  refine StepOK.value (exec_v (s := Instr.makeSlice t (a.eval xl) (a.eval xc)) (by simp [execOp, ho]) hr) ?_
  refine Post.alloc (gone := []) (h := ⟨.slice (some ⟨w.heap.size, 0, none⟩) l.toNat l.toNat, some w.heap.size⟩) h.kok h.mr h.fresh (Still.refl w) (KLe.refl K) h.kok ?_ rfl ?_ ?_
  · intro k c x y e _ f g; exact h.mr.ro k c y x e f g
  · refine .inr ⟨w.heap.size, l.toNat, _, ti.elem, by simp, heap_push_new w _, by simp, ?_, ?_, ?_⟩
    · simp only [maxLen]; omega
    · rw [size_madeCells, hsz, hs1]
    · intro i hi'
      have hi2 : i < l.toNat := by simpa using hi'
      rw [List.getElem_replicate]
      have hzs : z.cells.size = ei.ty.size := by rw [hzc, hs1, hsz]
      rw [hs1, ← hsz, ← hzs, madeCells_sub _ _ _ hi2]
      exact hzt hsz K
  · exact ⟨_, _, _, _, addB_self .., rfl, rfl⟩

/-! ### Literals -/

theorem foldl_fill (off : Nat) : ∀ (vs : List Value) (k : Nat) (cells : Array Value), off + k + vs.length ≤ cells.size →
    ((vs.zipIdx k).foldl (fun (cs : Array Value) (x : Value × Nat) => cs.setIfInBounds (off + x.2) x.1) cells).toList = cells.toList.take (off + k) ++ vs ++ cells.toList.drop (off + k + vs.length)
  | [], k, cells, _ => by simp
  | v :: vs, k, cells, h => by
    simp only [List.zipIdx_cons, List.foldl_cons]
    rw [foldl_fill off vs (k + 1) (cells.setIfInBounds (off + k) v) (by simp at h ⊢; omega)]
    have := list_seg_step cells.toList (off + k) v vs (by simp at h ⊢; omega)
    simpa [Array.toList_setIfInBounds, Nat.add_assoc] using this

theorem fill_ok {place : List (Nat × Nat × Bool)} {pl : Nat → Option (Nat × Nat)} (hpl : ∀ (i : Nat) off size ag, place[i]? = some (off, size, ag) → pl i = some (off, size)) :
    ∀ {ps : List (Nat × W)} {vs : List (Nat × Value)} {cs cs' : List C} {arr : Array Value}, fillN place cs ps = some cs' → All2 (fun (p : Nat × W) (q : Nat × Value) => p.1 = q.1 ∧ All2 (CR β K) p.2.cells q.2.cells.toList) ps vs →
      All2 (CR β K) cs arr.toList → ∃ arr', Instr.fill pl arr vs = some arr' ∧ All2 (CR β K) cs' arr'.toList
  | [], [], cs, cs', arr, hf, _, hc => by simp only [fillN, Option.some.injEq] at hf; subst hf; exact ⟨arr, rfl, hc⟩
  | (i, u) :: ps, (j, v) :: vs, cs, cs', arr, hf, hv, hc => by
    obtain ⟨⟨hij, huv⟩, hr⟩ := hv
    dsimp only at hij huv
    subst hij
    simp only [fillN] at hf
    split at hf
    · rename_i off size ag hp
      split at hf
      · rename_i hchk
        simp only [Bool.and_eq_true] at hchk
        have h1 := nbeq_eq hchk.1
        have h2 : off + size ≤ cs.length := by simpa using hchk.2
        have hl := huv.length
        have hl2 := hc.length
        simp only [Array.length_toList] at hl hl2
        have hsz : v.cells.size = size := by rw [← h1]; exact hl.symm
        have hfl := foldl_fill off v.cells.toList 0 arr (by simp; omega)
        obtain ⟨arr', e1, e2⟩ := fill_ok hpl (arr := (v.cells.toList.zipIdx 0).foldl (fun (cs : Array Value) (x : Value × Nat) => cs.setIfInBounds (off + x.2) x.1) arr) hf hr (by
          rw [hfl, Nat.add_zero]
          exact setN_all2 hc huv off)
        refine ⟨arr', ?_, e2⟩
        simp only [Instr.fill, hpl i off size ag hp]
        rw [if_neg (by simp [hsz]; omega)]
        rw [← e1]
        congr 1
        rw [← Array.foldl_toList]
        congr 1
        simp
      · cases hf
    · cases hf
  | [], _ :: _, _, _, _, _, hv, _ => hv.elim
  | _ :: _, [], _, _, _, _, hv, _ => hv.elim

theorem run_mapM {α γ : Type} (f : α → Go.Sem γ) (g : α → γ) : ∀ (l : List α), (∀ x ∈ l, (f x).run P w = .ok (g x) w) → (l.mapM f).run P w = .ok (l.map g) w
  | [], _ => by simp
  | x :: r, h => by
    have h1 := h x (List.mem_cons_self ..)
    have h2 := run_mapM f g r fun y hy => h y (List.mem_cons_of_mem _ hy)
    simp [h1, h2]

theorem run_places {fs : Array Field} {l : List (Nat × Nat × Bool)} (h : FieldsOk P fs l) :
    (Array.mapM (fun (f : Field) => do let s ← Go.sizeOf f.type; pure (f.offset, s)) fs).run P w = .ok (l.map fun x => (x.1, x.2.1)).toArray w := by
  rw [Array.mapM_eq_mapM_toList]
  have hm := run_mapM (P := P) (w := w) (fun (f : Field) => do let s ← Go.sizeOf f.type; pure (f.offset, s)) (fun f => (f.offset, ((P.info? f.type).map (·.size)).getD 0)) fs.toList (by
    intro f hf
    obtain ⟨i, hi, he⟩ := List.mem_iff_getElem.1 hf
    obtain ⟨x, hx, _, fi, fd, h2, h3, _⟩ := h.get? (List.getElem?_eq_getElem hi)
    rw [he] at h2
    simp [run_sizeOf' h2, h2])
  have hl : ∀ (fl : List Field) (l : List (Nat × Nat × Bool)), All2 (fun (f : Field) (x : Nat × Nat × Bool) => f.offset = x.1 ∧ ∃ fi fd, P.info? f.type = some fi ∧ fi.size = x.2.1 ∧ P.underlying f.type = some fd ∧ aggD fd = x.2.2) fl l →
      fl.map (fun f => (f.offset, ((P.info? f.type).map (·.size)).getD 0)) = l.map fun x => (x.1, x.2.1) := by
    intro fl
    induction fl with
    | nil => intro l h; cases l with
      | nil => rfl
      | cons _ _ => exact h.elim
    | cons f fl ih => intro l h; cases l with
      | nil => exact h.elim
      | cons x l =>
        obtain ⟨⟨h1, fi, fd, h2, h3, _⟩, hr⟩ := h
        simp [h2, h3, h1, ih l hr]
  rw [hl _ _ h] at hm
  rw [Sem.run_map, hm]
  rfl

theorem ok_parts (h : Pre P Γ β K get n w ρ a) {parts : List (Nat × Operand)} {ps : List (Nat × W)} (hp : mapO (fun p => match ρ p.2 with | .val w => some (p.1, w) | .tup _ => none) parts = some ps) :
    All2 (fun (p : Nat × W) (q : Nat × Value) => p.1 = q.1 ∧ WR β K p.2 q.2) ps (parts.map fun x => (x.1, a.eval x.2)) := by
  have : All2 (fun (x : Nat × Operand) (q : Nat × Value) => q = (x.1, a.eval x.2)) parts (parts.map fun x => (x.1, a.eval x.2)) := by
    clear hp
    induction parts with
    | nil => trivial
    | cons x r ih => exact ⟨rfl, ih⟩
  refine mapO_all2 hp this fun x p q hm hx hq => ?_
  subst hq
  split at hx
  · rename_i u hu
    cases hx
    have := h.val x.2
    rw [hu] at this
    exact ⟨rfl, this⟩
  · cases hx

theorem ok_build (h : Pre P Γ β K get n w ρ a) {t : TypeId} {ti : TI} {parts : Array (Nat × Operand)} {ps : List (Nat × W)} {cs : List C} {out : Out} (ho : o.op = .build t parts) (ht : Γ.tab t = some ti) (hs : ti.sort = .struct)
    (hp : mapO (fun p => match ρ p.2 with | .val w => some (p.1, w) | .tup _ => none) parts.toList = some ps) (hsure : ps.all (fun p => p.2.cells.all sure) = true) (hf : fillN ti.fields ti.zero ps = some cs)
    (hl : pure1 n true (.agg cs) = some out) : StepOK P o a w (PostE β K get n w out) := by
  obtain ⟨i, d, z, hi, hd, hz, _, _, _, hzr, hso, _⟩ := (h.env.tab t ti ht).ex
  simp only [SrtOk, hs] at hso
  obtain ⟨fs, rfl, hfs⟩ := hso
  have hpr := ok_parts h hp
  have hpc : All2 (fun (p : Nat × W) (q : Nat × Value) => p.1 = q.1 ∧ All2 (CR β K) p.2.cells q.2.cells.toList) ps (parts.toList.map fun x => (x.1, a.eval x.2)) := by
    refine All2.mono_mem (fun p q hm hq => ⟨hq.1, WR.cells ?_ hq.2⟩) hpr
    exact List.all_eq_true.1 hsure p hm
  have hpl : ∀ (i : Nat) off size ag, ti.fields[i]? = some (off, size, ag) → (fun (x : Nat) => (ti.fields.map fun x => (x.1, x.2.1)).toArray[x]?) i = some (off, size) := by
    intro i off size ag he
    simp [he]
  obtain ⟨arr, e1, e2⟩ := fill_ok (arr := z.cells) hpl hf hpc (hzr.mono fun _ _ hh => hh β K)
  refine h.pure1 hl (u := .agg arr) ⟨arr, rfl, e2⟩ (w' := w) ?_ (Still.refl w)
  have hparts : (parts.map fun (x : Nat × Operand) => match x with | (i, x) => (i, a.eval x)).toList = parts.toList.map fun x => (x.1, a.eval x.2) := by simp
  refine exec_v (s := Instr.build t (parts.map fun (x : Nat × Operand) => match x with | (i, x) => (i, a.eval x))) (by simp [execOp, ho]) ?_
  unfold Instr.build
  simp only [zeroValue, typeInfo, Sem.run_bind, run_program, Result.andThen_ok, hi, hz, run_underlying hd, run_places hfs, Sem.run_pure]
  rw [hparts, e1]
  rfl

theorem lit_ok (h : MR β K get w) {ks : List Nat} (t : Ty) : ∀ {ps : List (Nat × W)} {vs : List (Nat × Value)} {l l' : List (Den t)} {arr : Array Value} {len : Nat}, litElems get t l ps = some l' →
      All2 (fun (p : Nat × W) (q : Nat × Value) => p.1 = q.1 ∧ All2 (CR β K) p.2.cells q.2.cells.toList) ps vs → (∀ p ∈ ps, ∀ k ∈ keysW p.2, k ∈ ks) → l.length = len → arr.size = len * t.size →
      (∀ i (hi : i < l.length), DR (frzK β K get w ks) t l[i] (sub arr.toList (i * t.size) t.size)) →
      ∃ arr', Instr.fill (fun i => some (i * t.size, t.size)) arr vs = some arr' ∧ l'.length = len ∧ arr'.size = len * t.size ∧ ∀ i (hi : i < l'.length), DR (frzK β K get w ks) t l'[i] (sub arr'.toList (i * t.size) t.size)
  | [], [], l, l', arr, len, hf, _, _, hl, ha, hd => by simp only [litElems, Option.some.injEq] at hf; subst hf; exact ⟨arr, rfl, hl, ha, hd⟩
  | (i, u) :: ps, (j, v) :: vs, l, l', arr, len, hf, hv, hk, hl, ha, hd => by
    obtain ⟨⟨hij, huv⟩, hr⟩ := hv
    dsimp only at hij huv
    subst hij
    simp only [litElems] at hf
    split at hf
    · rename_i cs hcs
      split at hf
      · rename_i x hx
        split at hf
        · rename_i hlt
          have hlt : i < l.length := by simpa [Nat.blt_eq] using hlt
          have hro : All2 (CR β (frzK β K get w ks)) cs v.cells.toList :=
            mapO_all2 hcs huv fun cc cc' vv hm hff hrr => roC_ok h hff hrr fun k hkk => hk (i, u) (List.mem_cons_self ..) k (List.mem_flatMap.2 ⟨cc, hm, hkk⟩)
          obtain ⟨v1, v2, e1, e2, e3⟩ := dec_DR t hx hro
          have e1' : v.cells.toList = v1 := by
            cases v2 with
            | nil => simpa using e1
            | cons _ _ => exact e3.elim
          rw [← e1'] at e2
          have hvl := DR.length t e2
          have hvs : v.cells.size = t.size := by simpa using hvl
          have hfit : i * t.size + t.size ≤ arr.size := by rw [ha, ← Nat.succ_mul]; exact Nat.mul_le_mul_right _ (by omega)
          have hfl := foldl_fill (i * t.size) v.cells.toList 0 arr (by rw [hvl]; omega)
          rw [Nat.add_zero] at hfl
          obtain ⟨arr', f1, f2, f3, f4⟩ := lit_ok h t (len := len) (arr := (v.cells.toList.zipIdx 0).foldl (fun (cs : Array Value) (x : Value × Nat) => cs.setIfInBounds (i * t.size + x.2) x.1) arr) hf hr
            (fun p hp => hk p (List.mem_cons_of_mem _ hp)) (by simpa using hl) (by
              rw [← Array.length_toList, hfl]
              simp only [List.length_append, List.length_take, List.length_drop, Array.length_toList]
              rw [Array.length_toList] at hvl
              omega) (by
              intro q hq
              have hq' : q < l.length := by simpa using hq
              rw [hfl]
              by_cases hqi : q = i
              · subst hqi
                rw [List.getElem_set_self]
                have := sub_splice_in arr.toList v.cells.toList (q * t.size) t.size 0 (by simpa using hfit) (by rw [hvl]; omega)
                rw [Nat.add_zero] at this
                rw [this]
                have h2 : (sub arr.toList (q * t.size) t.size).drop (0 + v.cells.toList.length) = [] := by
                  rw [List.drop_eq_nil_iff, sub_length (by simpa using hfit), hvl]; omega
                rw [h2]
                simpa using e2
              · rw [List.getElem_set_ne (by omega)]
                rw [sub_splice_other _ _ _ _ _ (by rw [hvl]; simpa using hfit)]
                · exact hd q hq'
                · rw [hvl]
                  rcases Nat.lt_or_ge q i with hlt' | hge
                  · left
                    have : q * t.size + t.size ≤ i * t.size := by rw [← Nat.succ_mul]; exact Nat.mul_le_mul_right _ hlt'
                    omega
                  · right
                    have : i * t.size + t.size ≤ q * t.size := by rw [← Nat.succ_mul]; exact Nat.mul_le_mul_right _ (by omega)
                    omega)
          refine ⟨arr', ?_, f2, f3, f4⟩
          simp only [Instr.fill]
          rw [if_neg (by simp [hvs]; omega)]
          rw [← f1]
          congr 1
          rw [← Array.foldl_toList]
          congr 1
          simp
        · cases hf
      · cases hf
    · cases hf
  | [], _ :: _, _, _, _, _, _, hv, _, _, _, _ => hv.elim
  | _ :: _, [], _, _, _, _, _, hv, _, _, _, _ => hv.elim

theorem ok_buildSlice (h : Pre P Γ β K get n w ρ a) {t : TypeId} {ti ei : TI} {len : Nat} {parts : Array (Nat × Operand)} {ps : List (Nat × W)} {l : List (Den ei.ty)} (ho : o.op = .buildSlice t len parts) (ht : Γ.tab t = some ti) (hs : ti.sort = .slice)
    (he : Γ.tab ti.elem = some ei) (hp : mapO (fun p => match ρ p.2 with | .val w => some (p.1, w) | .tup _ => none) parts.toList = some ps) (hsure : ps.all (fun p => p.2.cells.all sure) = true) (hlen : len * ei.size ≤ 1000000) (hsz : ei.ty.size = ei.size) (h0s : 0 < ei.size)
    (hf : litElems get ei.ty (List.replicate len (zero ei.ty)) ps = some l) :
    StepOK P o a w (PostE β K get n w ⟨true, .val (.one (.ref ei.ty n)), (n, some (.arr ei.ty l)) :: (ps.flatMap fun p => keysW p.2).map (fun k => (k, none)), n + 1⟩) := by
  obtain ⟨_, d, _, _, hd, _, _, _, _, _, hso, _⟩ := (h.env.tab t ti ht).ex
  simp only [SrtOk, hs] at hso
  subst hso
  obtain ⟨ii, d', z, hi, hd', hz, hs1, hb1, ha1, _, _, hzt, hzc⟩ := (h.env.tab _ ei he).ex
  have hpr := ok_parts h hp
  have hpc : All2 (fun (p : Nat × W) (q : Nat × Value) => p.1 = q.1 ∧ All2 (CR β K) p.2.cells q.2.cells.toList) ps (parts.toList.map fun x => (x.1, a.eval x.2)) := by
    refine All2.mono_mem (fun p q hm hq => ⟨hq.1, WR.cells ?_ hq.2⟩) hpr
    exact List.all_eq_true.1 hsure p hm
  have hzs : z.cells.size = ei.ty.size := by rw [hzc, hs1, hsz]
  have hparts : (parts.map fun (x : Nat × Operand) => match x with | (i, x) => (i, a.eval x)).toList = parts.toList.map fun x => (x.1, a.eval x.2) := by simp
  obtain ⟨arr', f1, f2, f3, f4⟩ := lit_ok (ks := ps.flatMap fun p => keysW p.2) h.mr ei.ty (arr := madeCells z.cells (len * z.cells.size)) (len := len) hf hpc
    (fun p hp k hk => List.mem_flatMap.2 ⟨p, hp, hk⟩) (by simp) (by rw [size_madeCells, hzs]) (by
      intro i hi'
      rw [List.getElem_replicate, ← hzs, madeCells_sub _ _ _ (by simpa using hi')]
      exact hzt hsz _)
  have hr : (Instr.buildSlice t len (parts.map fun (x : Nat × Operand) => match x with | (i, x) => (i, a.eval x))).run P w = .ok (.slice (some ⟨w.heap.size, 0, none⟩) len len) (w.alloc (.cells arr' ti.elem)) := by
    unfold Instr.buildSlice
    have hn : ¬ (2 ^ 24 < len * ii.size) := by rw [hs1]; omega
    have hn' : ¬ (16777216 < len * ii.size) := by rw [hs1]; omega
    rw [hzs] at f1
    simp only [hsz] at f1
    rw [← hs1] at f1
    simp only [Sem.run_bind, run_underlying hd, Result.andThen_ok, run_sizeOf' hi]
    have hlp : ∀ (zc : Array Value), (Array.map (fun x => zc[x % zc.size]!) (Array.range (len * ii.size))) = madeCells z.cells (len * ii.size) → (match Instr.fill (fun i => some (i * ii.size, ii.size)) (Array.map (fun x => zc[x % zc.size]!) (Array.range (len * ii.size)))
        (parts.map fun (x : Nat × Operand) => match x with | (i, x) => (i, a.eval x)).toList with
        | some cells => do
          let y ← newRow ti.elem cells
          pure (Value.slice (some y) len len)
        | _ => stuck "buildSlice: a part of the wrong size" : Go.Sem Value).run P w = .ok (.slice (some ⟨w.heap.size, 0, none⟩) len len) (w.alloc (.cells arr' ti.elem)) := by
      intro zc hzc
      rw [hzc, hparts, f1]
      simp [newRow]
    rw [if_neg (by simpa using hn')]
    by_cases hz0 : len * ii.size = 0
    · rw [if_pos hz0]
      simp only [pure_bind]
      exact hlp #[] (by rw [hz0]; simp [madeCells])
    · rw [if_neg hz0]
      simp only [Sem.run_bind, zeroValue, typeInfo, run_program, Result.andThen_ok, hi, hz, Sem.run_pure]
      exact hlp z.cells rfl
  refine StepOK.value (exec_v (s := Instr.buildSlice t len (parts.map fun (x : Nat × Operand) => match x with | (i, x) => (i, a.eval x))) (by simp [execOp, ho]) hr) ?_
  refine Post.alloc (h := ⟨.slice (some ⟨w.heap.size, 0, none⟩) len len, some w.heap.size⟩) h.kok h.mr h.fresh (Still.refl w) (frzK_le (β := β) (get := get) (w := w) (ks := ps.flatMap fun p => keysW p.2)) (frzK_ok h.kok) ?_ rfl ?_ ?_ frzK_new
  · intro k c x y e hk f g; exact frzK_none h.mr e hk f g
  · refine .inr ⟨w.heap.size, len, arr', ti.elem, by simp [f2], heap_push_new w _, by omega, ?_, f3, f4⟩
    simp only [maxLen]
    have : len * 1 ≤ len * ei.size := Nat.mul_le_mul_left _ (by omega)
    omega
  · exact ⟨_, _, _, _, addB_self .., rfl, rfl⟩
end

end Go.Proofs.Ytmmdjajebmihhaa.AM
