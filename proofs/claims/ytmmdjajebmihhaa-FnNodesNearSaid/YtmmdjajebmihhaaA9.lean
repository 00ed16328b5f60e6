/- The abstract machine: each operation that it does, the model does alike (sixth part: append and the other built-in functions). Conditions: those that each lemma names. -/
import Derived.Test.YtmmdjajebmihhaaA8
import Derived.Laws.BytesString
namespace Go.Proofs.Ytmmdjajebmihhaa.AM
open Go
set_option linter.unusedVariables false

section
variable {P : Program} {Γ : Env} {β : Bt} {K : Ks} {get : Get} {n : Nat} {w : World} {ρ : Operand → V} {a : Act} {o : Oper}

/-- A slice, whoever owns it, and its cells. -/
structure Src (K : Ks) (w : World) (t : Ty) (l : List (Den t)) (v : Value) (news : List Value) : Prop where
  val : ∃ ad c, v = .slice ad l.length c ∧ (l.length = 0 ∨ ∃ x, ad = some x ∧ ∀ (j : Nat) (u : Value), news[j]? = some u → w.cell? (x.add j) = some u)
  len : news.length = l.length * t.size
  one : ∀ u ∈ news, u.oneCell' = true
  el : ∀ i (h : i < l.length), DR K t l[i] (sub news (i * t.size) t.size)

theorem src_of {t : Ty} {l : List (Den t)} {b q c : Nat} {arr : Array Value} {T : TypeId} {fz : Nat × Nat} (h0 : 0 < t.size) (hh : w.heap[b]? = some (.cells arr T fz))
    (hd : ∀ i (h : i < l.length), DR K t l[i] (sub arr.toList (q + i * t.size) t.size)) : Src K w t l (.slice (some ⟨b, q, none⟩) l.length c) (sub arr.toList q (l.length * t.size)) := by
  have hfit : l.length ≠ 0 → q + l.length * t.size ≤ arr.toList.length := by
    intro hne
    have hi : l.length - 1 < l.length := by omega
    have := DR.length t (hd (l.length - 1) hi)
    simp only [sub, List.length_take, List.length_drop] at this
    have h2 : (l.length - 1) * t.size + t.size = l.length * t.size := by
      rw [← Nat.succ_mul]; congr 1; omega
    omega
  have hsub : ∀ i, i < l.length → sub (sub arr.toList q (l.length * t.size)) (i * t.size) t.size = sub arr.toList (q + i * t.size) t.size := by
    intro i hi
    refine sub_sub _ _ _ _ _ ?_
    rw [← Nat.succ_mul]; exact Nat.mul_le_mul_right _ hi
  refine ⟨⟨_, c, rfl, ?_⟩, ?_, ?_, ?_⟩
  · right
    refine ⟨_, rfl, fun j u hj => ?_⟩
    rw [add_lit, cell_of_row w b _ arr T fz hh]
    unfold sub at hj
    rw [List.getElem?_take] at hj
    split at hj
    · rw [List.getElem?_drop] at hj; simpa using hj
    · cases hj
  · by_cases hne : l.length = 0
    · simp [hne, sub]
    · exact sub_length (hfit hne)
  · intro u hu
    obtain ⟨j, hj, he⟩ := List.mem_iff_getElem.1 hu
    by_cases hne : l.length = 0
    · simp [hne, sub] at hj
    · have hlen := sub_length (hfit hne)
      rw [hlen] at hj
      have hi : j / t.size < l.length := (Nat.div_lt_iff_lt_mul h0).2 hj
      refine DR.oneCell t (hd _ hi) u ?_
      rw [← hsub _ hi]
      have hm : j % t.size < t.size := Nat.mod_lt _ h0
      refine List.mem_iff_getElem?.2 ⟨j % t.size, ?_⟩
      have hje : j / t.size * t.size + j % t.size = j := by rw [Nat.mul_comm]; exact Nat.div_add_mod j t.size
      show (((sub arr.toList q (l.length * t.size)).drop (j / t.size * t.size)).take t.size)[j % t.size]? = some u
      rw [List.getElem?_take, if_pos hm, List.getElem?_drop, hje]
      rw [List.getElem?_eq_getElem (by rw [hlen]; exact hj), he]
  · intro i hi
    rw [hsub i hi]
    exact hd i hi

theorem src_nil {t : Ty} {ad : Option Addr} {c : Nat} : Src K w t [] (.slice ad 0 c) [] :=
  ⟨⟨ad, c, rfl, .inl rfl⟩, by simp, by simp, fun i h => by simp at h⟩

theorem elems_ok (hk : KOK K w) (hm : MR β K get w) {t : Ty} {c : C} {v : Value} {l : List (Den t)} {kx : List Nat} (h0 : 0 < t.size) (he : elemsOf get t c = some (l, kx)) (hv : CR β K c v) :
    ∃ news, Src K w t l v news := by
  cases c with
  | nil t' =>
    simp only [elemsOf, Option.some.injEq, Prod.mk.injEq] at he
    obtain ⟨rfl, rfl⟩ := he
    obtain ⟨ad, rfl⟩ := hv
    exact ⟨[], src_nil⟩
  | sl t' l' =>
    simp only [elemsOf] at he
    split at he
    · rename_i e _
      subst e
      simp only [Option.some.injEq, Prod.mk.injEq] at he
      obtain ⟨rfl, rfl⟩ := he
      obtain ⟨ad, m, c, hvv, hmm, hmc, hr⟩ := hv
      simp only [List.cons.injEq, and_true] at hvv
      subst hmm
      rcases hr with hz | ⟨b, q, arr, rfl, hK, hall⟩
      · have : l' = [] := List.eq_nil_of_length_eq_zero hz
        subst this
        rw [hvv]
        exact ⟨[], src_nil⟩
      · obtain ⟨T, fz, hh⟩ := hk b arr hK
        rw [hvv]
        exact ⟨_, src_of h0 hh hall⟩
    · cases he
  | ref t' k =>
    simp only [elemsOf] at he
    split at he
    · rename_i t'' l' hg
      split at he
      · rename_i e _
        subst e
        simp only [Option.some.injEq, Prod.mk.injEq] at he
        obtain ⟨rfl, rfl⟩ := he
        obtain ⟨y, ad, m, c, hb, hy, rfl⟩ := hv
        obtain ⟨y', hb', hbr⟩ := hm.blk k _ hg
        rw [hb] at hb'; cases hb'
        rcases hbr with ⟨rfl, a', rfl⟩ | ⟨b, cap, cur, T, rfl, hh, h1, h2, h3, h4⟩
        · cases hy
          exact ⟨[], src_nil⟩
        · cases hy
          exact ⟨_, src_of (q := 0) h0 hh (fun i hi => by rw [Nat.zero_add]; exact h4 i hi)⟩
      · cases he
    · cases he
  | _ => simp [elemsOf] at he

theorem bytes_ints : ∀ {l : List Int} {news : List Value}, news.length = l.length * (Ty.int .u8).size → (∀ i (h : i < l.length), DR K (.int .u8) l[i] (sub news (i * (Ty.int .u8).size) (Ty.int .u8).size)) → news = l.map (Value.int .u8) := by
  intro l news hl h
  have hl' : news.length = l.length := by simpa [Ty.size] using hl
  refine List.ext_getElem (by simp [hl']) fun i h1 h2 => ?_
  have := h i (by omega)
  simp only [Ty.size, Nat.mul_one] at this
  have hs : sub news i 1 = [news[i]] := by
    unfold sub
    rw [List.drop_eq_getElem_cons h1]
    rfl
  rw [hs] at this
  have h3 : [news[i]] = [Value.int .u8 l[i]] := this
  simpa using h3

theorem ok_convS (h : Pre P Γ β K get n w ρ a) {src dst : TypeId} {si di : TI} {x : Operand} {c : C} {s : ByteArray} {out : Out} (ho : o.op = .convert src dst x) (hs : Γ.tab src = some si) (hd : Γ.tab dst = some di)
    (hx : ρ x = .val (.one c)) (hc : convS Γ get si di c = some s) (hl : pure1 n true (.one (.str s)) = some out) : StepOK P o a w (PostE β K get n w out) := by
  obtain ⟨_, d1, _, _, hd1, _, _, _, _, _, hso1, _⟩ := (h.env.tab src si hs).ex
  obtain ⟨_, d2, _, _, hd2, _, _, _, _, _, hso2, _⟩ := (h.env.tab dst di hd).ex
  unfold convS at hc
  split at hc
  · rename_i hk1 hk2
    simp only [SrtOk, hk1] at hso1
    simp only [SrtOk, hk2] at hso2
    subst hso1; subst hso2
    split at hc
    · rename_i ei hei
      obtain ⟨_, d3, _, _, hd3, _, _, _, _, _, hso3, _⟩ := (h.env.tab _ ei hei).ex
      split at hc
      · rename_i k hk3
        simp only [SrtOk, hk3] at hso3
        subst hso3
        split at hc
        · rename_i hb
          have hk : k = .u8 := by cases k <;> simp_all [isByteK]
          subst hk
          split at hc
          · rename_i l ks he
            cases hc
            have hv := h.one hx
            obtain ⟨news, hsrc⟩ := elems_ok h.kok h.mr (by decide) he hv
            obtain ⟨ad, cp, hval, hcell⟩ := hsrc.val
            have hn := bytes_ints hsrc.len hsrc.el
            refine h.pure1 hl (u := .string (bstrOf l)) rfl (exec_v (s := convert src dst (a.eval x)) (by simp [execOp, ho]) ?_) (Still.refl w)
            rw [hval, run_convert_bytes_string w src dst _ ad _ _ hd1 hd3 hd2]
            rcases hcell with hz | ⟨y, rfl, hcell⟩
            · have : l = [] := List.eq_nil_of_length_eq_zero hz
              subst this
              cases ad with
              | none => rfl
              | some y => exact run_bytesToString w y 0 cp [] (by simp [loadCells, loadCellsFrom])
            · have hlo := run_loadCells_list (P := P) w y news hcell
              refine run_bytesToString w y l.length cp l ?_
              rw [hn] at hlo
              simpa using hlo
          · cases hc
        · cases hc
      · cases hc
    · cases hc
  · cases hc

/-- An operation that is a built-in function. -/
theorem exec_b {b : Builtin} {c : Call} (ho : o.op = .call c) (hc : c.callee = .builtin b) {s : TypeId → Array Value → Go.Sem Value} {v : Value} {w' : World}
    (hb : ∀ ty consts args, builtin b c.argTypes ty consts args = (do let x ← s ty args; pure (Next.value x))) (hr : (s o.type (c.args.map a.eval)).run P w = .ok v w') : (execOp a.eval o).run P w = .ok (.value v) w' := by
  simp [execOp, ho, resolve, hc, invoke, hb, hr]

/-- A key with no block. -/
theorem Post.alloc0 {β : Bt} {K : Ks} {get : Get} {n : Nat} {w w1 : World} {b : Blk} {ok : Bool} {h : Hd} {v : V} {gone : List Nat}
    (hk : KOK K w) (hm : MR β K get w) (hf : ∀ k, n ≤ k → β k = none) (s : Still w w1) (hh : h.b = none)
    (hb : BR (addB β n h) K b h w1) (hv : VR (addB β n h) K v h.v) :
    PostE β K get n w ⟨ok, v, (n, some b) :: gone.map (fun k => (k, none)), n + 1⟩ h.v w1 := by
  have hn : β n = none := hf n (Nat.le_refl _)
  refine ⟨addB β n h, K, BLe.add h hn, KLe.refl K, hk.still s, hv, ?_, ?_, by simp, Fr.still s, ?_, fun _ _ e => .inl e, fun k hk => addB_ne _ _ (by omega)⟩
  · refine hm.step (BLe.add h hn) (KLe.refl K) ?_
    intro k c e
    rcases getU_cons e with ⟨rfl, e1⟩ | ⟨e1, e2⟩
    · cases e1
      exact .inr ⟨h, addB_self .., hb, fun x hx => by rw [hh] at hx; cases hx⟩
    · obtain ⟨e3, e4⟩ := getU_gone e2
      exact .inl ⟨e4, fun x y f g => ⟨by rw [s.heap], hm.ro k c y x e4 f g⟩⟩
  · intro k hkk
    rw [addB_ne _ _ (by simp at hkk; omega)]
    exact hf k (by simp at hkk; omega)
  · rintro x ⟨k, c, y, e, f, g⟩
    rcases getU_cons e with ⟨rfl, e1⟩ | ⟨e1, e2⟩
    · rw [addB_self] at f; cases f
      rw [hh] at g; cases g
    · obtain ⟨_, e4⟩ := getU_gone e2
      rw [addB_ne _ _ e1] at f
      exact .inl ⟨k, c, y, e4, f, g⟩

/-- A block that goes on under another key. -/
theorem Post.moved {β : Bt} {K : Ks} {get : Get} {n : Nat} {w : World} {c0 b : Blk} {ok : Bool} {h y : Hd} {v : V} {k g : Nat} {cur : Array Value}
    (hk : KOK K w) (hm : MR β K get w) (hf : ∀ k, n ≤ k → β k = none) (hg : get k = some c0) (hy : β k = some y) (hyb : y.b = some g) (hh : h.b = some g)
    (hb : BR (addB β n h) K b h (w.setRow g cur)) (hv : VR (addB β n h) K v h.v) :
    PostE β K get n w ⟨ok, v, [(n, some b), (k, none)], n + 1⟩ h.v (w.setRow g cur) := by
  have hn : β n = none := hf n (Nat.le_refl _)
  have hkg : K g = none := hm.ro k c0 y g hg hy hyb
  refine ⟨addB β n h, K, BLe.add h hn, KLe.refl K, ?_, hv, ?_, ?_, by simp, ⟨rfl, rfl, rfl, by simp, ?_⟩, ?_, fun _ _ e => .inl e, fun k hk => addB_ne _ _ (by omega)⟩
  · intro x arr e
    have hx : x ≠ g := fun e' => by subst e'; rw [hkg] at e; cases e
    rw [setRow_other w g x cur hx]
    exact hk x arr e
  · refine hm.step (BLe.add h hn) (KLe.refl K) ?_
    intro j c e
    rcases getU_cons e with ⟨rfl, e1⟩ | ⟨e1, e2⟩
    · cases e1
      refine .inr ⟨h, addB_self .., hb, fun x hx => ?_⟩
      rw [hh] at hx; cases hx
      refine ⟨hkg, fun k' b' y' e' f' g' => ?_⟩
      rcases getU_cons e' with ⟨rfl, _⟩ | ⟨e3, e4⟩
      · rfl
      · rcases getU_one e4 with ⟨_, e5⟩ | ⟨e5, e6⟩
        · cases e5
        · rw [addB_ne _ _ e3] at f'
          exact absurd (hm.sep k' k b' c0 y' y g e6 hg f' hy g' hyb) e5
    · rcases getU_one e2 with ⟨_, e5⟩ | ⟨e5, e6⟩
      · cases e5
      · refine .inl ⟨e6, fun x z f g' => ⟨setRow_other w g x cur fun e' => ?_, hm.ro j c z x e6 f g'⟩⟩
        subst e'
        exact e5 (hm.sep j k c c0 z y x e6 hg f hy g' hyb)
  · intro j hjj
    rw [addB_ne _ _ (by simp at hjj; omega)]
    exact hf j (by simp at hjj; omega)
  · intro x hx hn'
    exact setRow_other w g x cur fun e => hn' ⟨k, c0, y, hg, hy, by rw [hyb, e]⟩
  · rintro x ⟨j, c, z, e, f, g'⟩
    rcases getU_cons e with ⟨rfl, e1⟩ | ⟨e1, e2⟩
    · rw [addB_self] at f; cases f
      rw [hh] at g'; cases g'
      exact .inl ⟨k, c0, y, hg, hy, hyb⟩
    · rcases getU_one e2 with ⟨_, e5⟩ | ⟨e5, e6⟩
      · cases e5
      · rw [addB_ne _ _ e1] at f
        exact .inl ⟨j, c, z, e6, f, g'⟩

theorem sub_append_left (x y : List Value) (o m : Nat) (h : o + m ≤ x.length) : sub (x ++ y) o m = sub x o m := by
  unfold sub
  rw [List.drop_append_of_le_length (by omega), List.take_append_of_le_length (by simp; omega)]
theorem sub_append_right (x y : List Value) (o m : Nat) : sub (x ++ y) (x.length + o) m = sub y o m := by
  unfold sub
  have e : x.drop (x.length + o) = [] := List.drop_eq_nil_of_le (by omega)
  rw [List.drop_append, e]
  simp

/-- The elements of two lists, one behind the other. -/
theorem el_append {t : Ty} {l l' : List (Den t)} {xs ys : List Value} (hx : xs.length = l.length * t.size) (h : ∀ i (hi : i < l.length), DR K t l[i] (sub xs (i * t.size) t.size))
    (h' : ∀ i (hi : i < l'.length), DR K t l'[i] (sub ys (i * t.size) t.size)) (rest : List Value) (hy : ys.length = l'.length * t.size) :
    ∀ i (hi : i < (l ++ l').length), DR K t (l ++ l')[i] (sub (xs ++ ys ++ rest) (i * t.size) t.size) := by
  intro i hi
  have hs : i * t.size + t.size ≤ (xs ++ ys).length := by
    rw [List.length_append, hx, hy, ← Nat.add_mul, ← Nat.succ_mul]
    exact Nat.mul_le_mul_right _ (by have := hi; simp at this; omega)
  rw [sub_append_left _ _ _ _ hs]
  by_cases hl : i < l.length
  · rw [List.getElem_append_left hl, sub_append_left]
    · exact h i hl
    · rw [hx, ← Nat.succ_mul]; exact Nat.mul_le_mul_right _ hl
  · rw [List.getElem_append_right (by omega)]
    have e : i * t.size = xs.length + (i - l.length) * t.size := by
      rw [hx, ← Nat.add_mul]; congr 1; omega
    rw [e, sub_append_right]
    exact h' _ _

theorem run_append_room' (t ty e : TypeId) (i : TypeInfo) (ht : P.underlying t = some (.slice e)) (hi : P.info? e = some i)
    (g sLen sCap : Nat) (cur : Array Value) (T : TypeId) (hg : w.heap[g]? = some (.cells cur T (0, 0)))
    (ad : Option Addr) (m c : Nat) (news : List Value) (hl : news.length = m * i.size) (hnews : m = 0 ∨ ∃ x, ad = some x ∧ ∀ (j : Nat) (u : Value), news[j]? = some u → w.cell? (x.add j) = some u) (h1 : ∀ u ∈ news, u.oneCell' = true)
    (hroom : sLen + m ≤ sCap) (hfit : sLen * i.size + news.length ≤ cur.size) :
    (Builtin.append_ #[t, t] ty #[.slice (some ⟨g, 0, none⟩) sLen sCap, .slice ad m c]).run P w =
      .ok (.slice (some ⟨g, 0, none⟩) (sLen + m) sCap) (w.setRow g (cur.toList.take (sLen * i.size) ++ news ++ cur.toList.drop (sLen * i.size + news.length)).toArray) := by
  have hf : (Builtin.firstCells i.size m (.slice ad m c)).run P w = .ok news.toArray w := by
    rcases hnews with rfl | ⟨x, rfl, hn⟩
    · have : news = [] := List.eq_nil_of_length_eq_zero (by simpa using hl)
      subst this
      cases ad with
      | none => simp [Builtin.firstCells]
      | some x => simp [Builtin.firstCells, loadCells, loadCellsFrom]
    · exact run_firstCells_some (P := P) w i.size m x m c news hl hn
  have hst := run_storeCells_at P g (sLen * i.size) T news 0 cur w hg (by simpa using hfit) h1
  simp only [Nat.add_zero] at hst
  simp [Builtin.append_, run_underlying ht, sizeOf, typeInfo, hi, Builtin.lenOf, hroom, hf, add_lit, hst]

theorem run_append_none (t ty e : TypeId) (i : TypeInfo) (ht : P.underlying t = some (.slice e)) (hi : P.info? e = some i) (s ad : Option Addr) (c : Nat) :
    (Builtin.append_ #[t, t] ty #[.slice s 0 0, .slice ad 0 c]).run P w = .ok (.slice s 0 0) w := by
  have hf : (Builtin.firstCells i.size 0 (.slice ad 0 c)).run P w = .ok #[] w := by
    cases ad with
    | none => simp [Builtin.firstCells]
    | some x => simp [Builtin.firstCells, loadCells, loadCellsFrom]
  cases s with
  | none => simp [Builtin.append_, run_underlying ht, sizeOf, typeInfo, hi, Builtin.lenOf, hf]
  | some x => simp [Builtin.append_, run_underlying ht, sizeOf, typeInfo, hi, Builtin.lenOf, hf, storeCells]

/-- Where a slice must grow: a new block. -/
theorem grow_ok (h : Pre P Γ β K get n w ρ a) {st e : TypeId} {ei : TI} {ii : TypeInfo} {z : Value} (hu : P.underlying st = some (.slice e)) (hi : P.info? e = some ii) (hz : ii.zero = some z) (hs1 : ii.size = ei.size) (hb1 : ii.bytes = ei.bytes)
    (hzc : z.cells.size = ii.size) (hby : ei.bytes ≤ 128) (hsz : ei.ty.size = ei.size) (h0s : 0 < ei.size) (ty : TypeId)
    {s : Option Addr} {sLen sCap : Nat} {l l' : List (Den ei.ty)} {olds news : List Value} (hol : olds.length = l.length * ei.ty.size) (hsl : sLen = l.length)
    (hov : sLen = 0 ∨ ∃ x, s = some x ∧ ∀ (j : Nat) (u : Value), olds[j]? = some u → w.cell? (x.add j) = some u) (hoe : ∀ i (h : i < l.length), DR K ei.ty l[i] (sub olds (i * ei.ty.size) ei.ty.size))
    {v : Value} (hsrc : Src K w ei.ty l' v news) (hgrow : sCap < sLen + l'.length) (hcap : (l.length : Int) + (l'.length : Int) ≤ sliceCap) {gone : List Nat} {ok : Bool} (hexec : ∀ u w', (Builtin.append_ #[st, st] ty #[.slice s sLen sCap, v]).run P w = .ok u w' → (execOp a.eval o).run P w = .ok (.value u) w')
    (hnone : s = none → sCap = 0) (hle : sLen ≤ sCap) :
    StepOK P o a w (PostE β K get n w ⟨ok, .val (.one (.ref ei.ty n)), (n, some (.arr ei.ty (l ++ l'))) :: gone.map (fun k => (k, none)), n + 1⟩) := by
  have hc0 : sliceCap = 1099511627776 := rfl
  obtain ⟨ad, c, rfl, hnv⟩ := hsrc.val
  have hl := hsrc.len
  by_cases hm0 : l'.length = 0
  · -- nothing is appended: there is room
    omega
  · obtain ⟨x, rfl, hnews⟩ := hnv.resolve_left hm0
    have hfits : (sLen + l'.length) * ii.bytes ≤ 140737488355328 := by
      have h1 : (sLen + l'.length) * ii.bytes ≤ (sLen + l'.length) * 128 := Nat.mul_le_mul_left _ (by omega)
      have h2 : sLen + l'.length ≤ 1099511627776 := by omega
      omega
    have hcm : ∀ old, grownCap w (sLen + l'.length) old e ≤ maxLen := fun old => grownCap_le_maxLen w _ old e (by simp only [maxLen]; omega)
    have hr : (Builtin.append_ #[st, st] ty #[.slice s sLen sCap, .slice (some x) l'.length c]).run P w = .ok (.slice (some ⟨w.heap.size, 0, none⟩) (sLen + l'.length) (grownCap w (sLen + l'.length) sCap e))
        (w.drew.alloc (.cells (olds.toArray ++ news.toArray ++ Builtin.zeroCells z.cells (grownCap w (sLen + l'.length) sCap e - (sLen + l'.length))) e)) := by
      cases s with
      | none =>
        have e0 : sCap = 0 := hnone rfl
        subst e0
        have e1 : sLen = 0 := by rcases hov with hov | ⟨x, hx, _⟩; exact hov; cases hx
        have e2 : olds = [] := List.eq_nil_of_length_eq_zero (by rw [hol, ← hsl, e1]; simp)
        subst e2
        subst e1
        have := run_append_nil (P := P) w st ty e ii z hu hi hz x l'.length c news (by rw [hl, hsz, hs1]) hnews (by omega) (by omega) (by rw [Nat.zero_add] at hfits; omega)
        simpa using this
      | some y =>
        refine run_append_grow (P := P) w st ty e ii z hu hi hz y sLen sCap olds (by rw [hol, hsl, hsz, hs1]) ?_ x l'.length c news (by rw [hl, hsz, hs1]) hnews hgrow (by omega) (growslice_fits hgrow hfits)
        intro j u hj
        rcases hov with h0 | ⟨y', hy', hov⟩
        · have : olds = [] := List.eq_nil_of_length_eq_zero (by rw [hol, ← hsl, h0]; simp)
          subst this
          simp at hj
        · cases hy'
          exact hov j u hj
    refine StepOK.value (hexec _ _ hr) ?_
    have hst : Still w w.drew := ⟨rfl, rfl, rfl, rfl⟩
    refine Post.alloc (h := ⟨.slice (some ⟨w.heap.size, 0, none⟩) (sLen + l'.length) (grownCap w (sLen + l'.length) sCap e), some w.heap.size⟩) h.kok h.mr h.fresh hst (KLe.refl K) h.kok ?_ rfl ?_ ?_
    · intro k c x y e _ f g; exact h.mr.ro k c y x e f g
    · have hge := grownCap_ge w (sLen + l'.length) sCap e
      refine .inr ⟨w.heap.size, grownCap w (sLen + l'.length) sCap e, _, e, by simp [hsl], heap_push_new w.drew _, by simp; omega, hcm _, ?_, ?_⟩
      · simp only [Array.size_append, List.size_toArray, size_zeroCells, hzc, hol, hl, hs1, hsz, ← Nat.add_mul]
        congr 1
        omega
      · simp only [Array.toList_append]
        exact el_append hol hoe hsrc.el _ hl
    · exact ⟨_, _, _, _, addB_self .., rfl, rfl⟩

set_option maxHeartbeats 1000000 in
theorem ok_append (h : Pre P Γ β K get n w ρ a) {c : Call} {st : TypeId} {si ei : TI} {xs xx : Operand} {s x : C} {out : Out} (ho : o.op = .call c) (hc : c.callee = .builtin .append) (hts : c.argTypes = #[st, st]) (hargs : c.args = #[xs, xx])
    (ht : Γ.tab st = some si) (hsort : si.sort = .slice) (he : Γ.tab si.elem = some ei) (hsz : ei.ty.size = ei.size) (h0s : 0 < ei.size) (hs : ρ xs = .val (.one s)) (hx : ρ xx = .val (.one x))
    (hl : actAppend get n ei.ty ei.bytes s x = some out) (hok : out.ok = true) : StepOK P o a w (PostE β K get n w out) := by
  obtain ⟨_, d, _, _, hd, _, _, _, _, _, hso, _⟩ := (h.env.tab st si ht).ex
  simp only [SrtOk, hsort] at hso
  subst hso
  obtain ⟨ii, d', z, hi, hd', hz, hs1, hb1, ha1, _, _, hzt, hzc⟩ := (h.env.tab _ ei he).ex
  have h0 : 0 < ei.ty.size := by omega
  have exec : ∀ u w', (Builtin.append_ #[st, st] o.type #[a.eval xs, a.eval xx]).run P w = .ok u w' → (execOp a.eval o).run P w = .ok (.value u) w' := by
    intro u w' hr
    refine exec_b (b := .append) (s := fun ty args => Builtin.append_ c.argTypes ty args) ho hc (fun ty consts args => rfl) ?_
    rw [hts, hargs]; simpa using hr
  unfold actAppend at hl
  split at hl
  · cases hl
  rename_i hby
  have hby : ei.bytes ≤ 128 := by simpa using hby
  split at hl
  · cases hl
  rename_i new kx hel
  obtain ⟨news, hsrc⟩ := elems_ok h.kok h.mr h0 hel (h.one hx)
  have hsv := h.one hs
  -- a slice without room
  have bare : ∀ (sa : Option Addr) (gone : List Nat) (ok : Bool), a.eval xs = .slice sa 0 0 → (new.length : Int) ≤ sliceCap →
      StepOK P o a w (PostE β K get n w ⟨ok, .val (.one (.ref ei.ty n)), (n, some (.arr ei.ty new)) :: gone.map (fun k => (k, none)), n + 1⟩) := by
    intro sa gone ok hv hcap
    by_cases hm0 : new.length = 0
    · obtain ⟨ad, c', hxv, _⟩ := hsrc.val
      have hr := run_append_none (P := P) (w := w) st o.type si.elem ii hd hi sa ad c'
      rw [← hm0, ← hxv, hm0, ← hv] at hr
      refine StepOK.value (exec _ _ hr) ?_
      have e : new = [] := List.eq_nil_of_length_eq_zero hm0
      subst e
      rw [hv]
      exact Post.alloc0 (h := ⟨.slice sa 0 0, none⟩) h.kok h.mr h.fresh (Still.refl w) rfl (.inl ⟨rfl, sa, rfl⟩) ⟨_, _, _, _, addB_self .., rfl, rfl⟩
    · have := grow_ok (l := []) (l' := new) (olds := []) (news := news) (s := sa) (sLen := 0) (sCap := 0) (gone := gone) (ok := ok) h hd hi hz hs1 hb1 hzc hby hsz h0s o.type (by simp) rfl (.inl rfl) (fun i hi => by simp at hi) hsrc (by omega) (by simpa using hcap)
        (fun u w' hr => exec u w' (by rw [hv]; exact hr)) (fun _ => rfl) (Nat.le_refl _)
      simpa using this
  split at hl
  · cases hl
    obtain ⟨sa, hv⟩ := hsv
    exact bare sa [] _ hv (capOk_le hok)
  · rename_i ty key
    split at hl
    · rename_i t' l hg
      split at hl
      · rename_i e _
        subst e
        split at hl
        · cases hl
        · rename_i hkx
          cases hl
          have hcap : (l.length : Int) + (new.length : Int) ≤ sliceCap := by have := capOk_le hok; simpa using this
          obtain ⟨y, ad, m, c', hb, hy, hv⟩ := hsv
          obtain ⟨y', hb', hbr⟩ := h.mr.blk key _ hg
          rw [hb] at hb'; cases hb'
          rcases hbr with ⟨hl0, a', rfl⟩ | ⟨b, cap, cur, T, rfl, hh, h1, h2, h3, h4⟩
          · cases hy
            have hl0' : l = [] := hl0
            subst hl0'
            have := bare _ [key] (capOk (([] : List (Den ei.ty)).length + new.length)) hv (by simpa using hcap)
            exact this
          · cases hy
            have hold := src_of (K := K) (w := w) (q := 0) (c := c') h0 hh (l := l) (fun i hi => by rw [Nat.zero_add]; exact h4 i hi)
            by_cases hroom : l.length + new.length ≤ c'
            · obtain ⟨ad', c'', hxv, hnv⟩ := hsrc.val
              have hnl := hsrc.len
              have hfit : l.length * ii.size + news.length ≤ cur.size := by
                rw [hnl, h3, hs1, hsz, ← Nat.add_mul]; exact Nat.mul_le_mul_right _ hroom
              have hr := run_append_room' (P := P) (w := w) st o.type si.elem ii hd hi b l.length c' cur T hh ad' new.length c'' news (by rw [hnl, hsz, hs1]) hnv hsrc.one hroom hfit
              rw [← hxv, ← hv] at hr
              refine StepOK.value (exec _ _ hr) ?_
              refine Post.moved (h := ⟨.slice (some ⟨b, 0, none⟩) (l.length + new.length) c', some b⟩) h.kok h.mr h.fresh hg hb rfl rfl ?_ ⟨_, _, _, _, addB_self .., rfl, rfl⟩
              refine .inr ⟨b, c', _, T, by simp, setRow_heap w b cur _ T _ hh, by simpa using hroom, h2, ?_, ?_⟩
              · simp only [List.size_toArray, List.length_append, List.length_take, List.length_drop, Array.length_toList]
                omega
              · rw [List.toList_toArray, hs1, ← hsz]
                have e1 : cur.toList.take (l.length * ei.ty.size) = sub cur.toList 0 (l.length * ei.ty.size) := by simp [sub]
                rw [e1]
                exact el_append hold.len hold.el hsrc.el _ hnl
            · exact grow_ok (l := l) (l' := new) (olds := sub cur.toList 0 (l.length * ei.ty.size)) (news := news) (s := some ⟨b, 0, none⟩) (sLen := l.length) (sCap := c') (gone := [key]) h hd hi hz hs1 hb1 hzc hby hsz h0s o.type hold.len rfl
                (by
                  obtain ⟨ad2, c2, e2, h5⟩ := hold.val
                  rcases h5 with h5 | ⟨x, hx1, hx2⟩
                  · exact .inl h5
                  · cases e2
                    exact .inr ⟨x, hx1, hx2⟩) hold.el hsrc (by omega) hcap
                (fun u w' hr => exec u w' (by rw [hv]; exact hr)) (fun hn => by cases hn) h1
      · cases hl
    · cases hl
  · cases hl

theorem ok_len (h : Pre P Γ β K get n w ρ a) {c : Call} {t : TypeId} {ti : TI} {x : Operand} {cc : C} {out : Out} (ho : o.op = .call c) (hc : c.callee = .builtin .len) (hts : c.argTypes.toList = [t]) (hargs : c.args.toList = [x]) (ht : Γ.tab t = some ti) (hx : ρ x = .val (.one cc))
    (hl : actLen get n ti.sort cc = some out) : StepOK P o a w (PostE β K get n w out) := by
  obtain ⟨_, d, _, _, hd, _, _, _, _, _, hso, _⟩ := (h.env.tab t ti ht).ex
  have hts' : c.argTypes = #[t] := by cases hq : c.argTypes; simp_all
  have hargs' : c.args = #[x] := by cases hq : c.args; simp_all
  have hv := h.one hx
  have exec : ∀ u, (Builtin.len_ #[t] o.type #[a.eval x]).run P w = .ok u w → (execOp a.eval o).run P w = .ok (.value u) w := by
    intro u hr
    refine exec_b (b := .len) (s := fun ty args => Builtin.len_ c.argTypes ty args) ho hc (fun ty consts args => rfl) ?_
    rw [hts', hargs']; simpa using hr
  have slice : ∀ (ad : Option Addr) (m cp : Nat) (e : TypeId), d = .slice e → a.eval x = .slice ad m cp → (execOp a.eval o).run P w = .ok (.value (.int .i64 m)) w := by
    intro ad m cp e hde hve
    subst hde
    refine exec _ ?_
    rw [hve]
    simp [Builtin.len_, run_underlying hd, goInt]
  unfold actLen at hl
  split at hl
  · rename_i hs
    simp only [SrtOk, hs] at hso
    obtain ⟨ad, hve⟩ := hv
    exact h.pure1 hl (u := .int .i64 0) rfl (slice ad 0 0 _ hso hve) (Still.refl w)
  · rename_i hs
    simp only [SrtOk, hs] at hso
    obtain ⟨ad, m, cp, hve, hm, _⟩ := hv
    simp only [List.cons.injEq, and_true] at hve
    subst hm
    exact h.pure1 hl rfl (slice ad _ cp _ hso hve) (Still.refl w)
  · rename_i hs
    simp only [SrtOk, hs] at hso
    split at hl
    · rename_i l hg
      obtain ⟨y, ad, m, cp, hb, hy, hve⟩ := hv
      obtain ⟨y', hb', hbr⟩ := h.mr.blk _ _ hg
      rw [hb] at hb'; cases hb'
      rcases hbr with ⟨rfl, a', rfl⟩ | ⟨b, cap, cur, T, rfl, _⟩
      · cases hy
        exact h.pure1 hl rfl (slice _ 0 0 _ hso hve) (Still.refl w)
      · cases hy
        exact h.pure1 hl rfl (slice _ _ _ _ hso hve) (Still.refl w)
    · cases hl
  · rename_i hs
    simp only [SrtOk, hs] at hso
    subst hso
    refine h.pure1 hl rfl (exec _ ?_) (Still.refl w)
    rw [show a.eval x = .string _ from hv]
    simp [Builtin.len_, run_underlying hd, goInt]
  · cases hl

theorem ok_real (h : Pre P Γ β K get n w ρ a) {c : Call} {x : Operand} {k : FloatKind} {p q : Nat} {out : Out} (ho : o.op = .call c) (hargs : c.args.toList = [x]) (hx : ρ x = .val (.one (.cpx k p q)))
    (hc : (c.callee = .builtin .real ∧ pure1 n true (.one (.flt k p)) = some out) ∨ (c.callee = .builtin .imag ∧ pure1 n true (.one (.flt k q)) = some out)) : StepOK P o a w (PostE β K get n w out) := by
  have hargs' : c.args = #[x] := by cases hq : c.args; simp_all
  obtain ⟨p', q', hv, hp, hq⟩ := h.one hx
  rcases hc with ⟨hc, hl⟩ | ⟨hc, hl⟩
  · refine h.pure1 hl (u := .float k p') ⟨_, rfl, hp⟩ (w' := w) ?_ (Still.refl w)
    refine exec_b (b := .real) (s := fun ty args => Builtin.real_ c.argTypes ty args) ho hc (fun ty consts args => rfl) ?_
    rw [hargs', show (#[x].map a.eval) = #[Value.complex k p' q'] by simp [hv]]; rfl
  · refine h.pure1 hl (u := .float k q') ⟨_, rfl, hq⟩ (w' := w) ?_ (Still.refl w)
    refine exec_b (b := .imag) (s := fun ty args => Builtin.imag_ c.argTypes ty args) ho hc (fun ty consts args => rfl) ?_
    rw [hargs', show (#[x].map a.eval) = #[Value.complex k p' q'] by simp [hv]]; rfl

theorem ok_complex (h : Pre P Γ β K get n w ρ a) {c : Call} {x y : Operand} {k : FloatKind} {p q : Nat} {out : Out} (ho : o.op = .call c) (hargs : c.args.toList = [x, y]) (hx : ρ x = .val (.one (.flt k p))) (hy : ρ y = .val (.one (.flt k q)))
    (hc : c.callee = .builtin .complex) (hl : pure1 n true (.one (.cpx k p q)) = some out) : StepOK P o a w (PostE β K get n w out) := by
  have hargs' : c.args = #[x, y] := by cases hq : c.args; simp_all
  obtain ⟨p', hv, hp⟩ := h.one hx
  obtain ⟨q', hv', hq⟩ := h.one hy
  refine h.pure1 hl (u := .complex k p' q') ⟨_, _, rfl, hp, hq⟩ (w' := w) ?_ (Still.refl w)
  refine exec_b (b := .complex) (s := fun ty args => Builtin.complex_ c.argTypes ty args) ho hc (fun ty consts args => rfl) ?_
  rw [hargs', show (#[x, y].map a.eval) = #[Value.float k p', Value.float k q'] by simp [hv, hv']]; cases k <;> rfl

theorem ok_minmax (h : Pre P Γ β K get n w ρ a) {c : Call} {x y : Operand} {k : IntKind} {p q : Int} {out : Out} (ho : o.op = .call c) (hargs : c.args.toList = [x, y]) (hx : ρ x = .val (.one (.int k p))) (hy : ρ y = .val (.one (.int k q)))
    (hc : (c.callee = .builtin .max ∧ pure1 n true (.one (.int k (imax p q))) = some out) ∨ (c.callee = .builtin .min ∧ pure1 n true (.one (.int k (imin p q))) = some out)) : StepOK P o a w (PostE β K get n w out) := by
  have hargs' : c.args = #[x, y] := by cases hq : c.args; simp_all
  have hv : a.eval x = .int k p := h.one hx
  have hv' : a.eval y = .int k q := h.one hy
  rcases hc with ⟨hc, hl⟩ | ⟨hc, hl⟩
  · refine h.pure1 hl (u := .int k (imax p q)) rfl (w' := w) ?_ (Still.refl w)
    refine exec_b (b := .max) (s := fun ty args => Builtin.max_ c.argTypes ty args) ho hc (fun ty consts args => rfl) ?_
    rw [hargs']; simp [hv, hv', Builtin.max_, Builtin.max2, imax]
  · refine h.pure1 hl (u := .int k (imin p q)) rfl (w' := w) ?_ (Still.refl w)
    refine exec_b (b := .min) (s := fun ty args => Builtin.min_ c.argTypes ty args) ho hc (fun ty consts args => rfl) ?_
    rw [hargs']; simp [hv, hv', Builtin.min_, Builtin.min2, imin]
end

end Go.Proofs.Ytmmdjajebmihhaa.AM
