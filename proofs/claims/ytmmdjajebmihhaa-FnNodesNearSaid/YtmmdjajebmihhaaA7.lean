/- The abstract machine: each operation that it does, the model does alike (fourth part: reckoning, conversions, parts of slices). Conditions: those that each lemma names. -/
import Derived.Test.YtmmdjajebmihhaaA6
namespace Go.Proofs.Ytmmdjajebmihhaa.AM
open Go
set_option linter.unusedVariables false

section
variable {P : Program} {Γ : Env} {β : Bt} {K : Ks} {get : Get} {n : Nat} {w : World} {ρ : Operand → V} {a : Act} {o : Oper}

theorem run_binI (t : TypeId) {op : BinOp} {k : IntKind} {x y : Int} {ok : Bool} {c : C} (h : binI op k x y = some (ok, c)) (hok : ok = true) (hop : op ≠ .shl ∧ op ≠ .shr) (β : Bt) (K : Ks) :
    ∃ v, (binOp op t (.int k x) (.int k y)).run P w = .ok v w ∧ CR β K c v := by
  cases op <;> simp only [binI, Option.some.injEq, Prod.mk.injEq, reduceCtorEq] at h
  case quo =>
    obtain ⟨rfl, rfl⟩ := h
    have hy : y ≠ 0 := by simpa using hok
    exact ⟨_, by simp [binOp, Op.intDiv, hy], rfl⟩
  case rem =>
    obtain ⟨rfl, rfl⟩ := h
    have hy : y ≠ 0 := by simpa using hok
    exact ⟨_, by simp [binOp, Op.intDiv, hy], rfl⟩
  all_goals
    obtain ⟨rfl, rfl⟩ := h
    refine ⟨_, ?_, rfl⟩
    simp [binOp, Op.intArith, Op.intBits, Op.intCmp, ibits]

theorem run_shift (t : TypeId) {k k' : IntKind} {x y : Int} (h0 : 0 ≤ y) :
    (binOp .shl t (.int k x) (.int k' y)).run P w = .ok (.int k (k.wrap (x * 2 ^ (min y.toNat k.bits)))) w ∧
    (binOp .shr t (.int k x) (.int k' y)).run P w = .ok (.int k (x.fdiv (2 ^ (min y.toNat k.bits)))) w := by
  have : ¬ y < 0 := by omega
  constructor <;> simp [binOp, Op.shift, this]

theorem run_binF (t : TypeId) {op : BinOp} {k : FloatKind} {x x' y y' : Nat} {c : C} (h : binF op k x y = some c) (hx : FEq k x x') (hy : FEq k y y') (β : Bt) (K : Ks) :
    ∃ v w', (binOp op t (.float k x') (.float k y')).run P w = .ok v w' ∧ Still w w' ∧ CR β K c v := by
  have ho := order_congr hx hy
  cases op <;> simp only [binF, Option.some.injEq, reduceCtorEq] at h
  case add =>
    subst h
    obtain ⟨r, w', h1, h2, h3⟩ := run_farith P .add (by simp) k hx hy w
    exact ⟨_, w', by simpa [binOp] using h1, h2, _, rfl, h3⟩
  case sub =>
    subst h
    obtain ⟨r, w', h1, h2, h3⟩ := run_farith P .sub (by simp) k hx hy w
    exact ⟨_, w', by simpa [binOp] using h1, h2, _, rfl, h3⟩
  case mul =>
    subst h
    obtain ⟨r, w', h1, h2, h3⟩ := run_farith P .mul (by simp) k hx hy w
    exact ⟨_, w', by simpa [binOp] using h1, h2, _, rfl, h3⟩
  case quo =>
    subst h
    obtain ⟨r, w', h1, h2, h3⟩ := run_farith P .quo (by simp) k hx hy w
    exact ⟨_, w', by simpa [binOp] using h1, h2, _, rfl, h3⟩
  all_goals
    subst h
    refine ⟨_, w, ?_, Still.refl w, rfl⟩
    simp [binOp, Op.floatCmp, feq, flt, fgt, ho, bne]

theorem run_carith' (P : Program) (op : BinOp) (hop : op = .add ∨ op = .sub) (k : FloatKind) {x x' y y' : Nat} (hx : FEq k x x') (hy : FEq k y y') (w : World) :
    ∃ r w', (Op.Complex.arith op k x' y').run P w = .ok r w' ∧ Still w w' ∧ FEq k (farith op k x y) r := by
  obtain ⟨r, w', h1, h2, h3⟩ := run_farith P op (by rcases hop with rfl | rfl <;> simp) k hx hy w
  exact ⟨r, w', by simp [Op.Complex.arith, h1], h2, h3⟩

theorem run_binX (t : TypeId) {op : BinOp} {k : FloatKind} {p p' q q' r r' s s' : Nat} {c : C} (h : binX op k p q r s = some c) (hp : FEq k p p') (hq : FEq k q q') (hr : FEq k r r') (hs : FEq k s s') (β : Bt) (K : Ks) :
    ∃ v w', (binOp op t (.complex k p' q') (.complex k r' s')).run P w = .ok v w' ∧ Still w w' ∧ CR β K c v := by
  have ho := order_congr hp hr
  have ho' := order_congr hq hs
  cases op <;> simp only [binX, Option.some.injEq, reduceCtorEq] at h
  case add =>
    subst h
    obtain ⟨x, w1, h1, h2, h3⟩ := run_carith' P .add (by simp) k hp hr w
    obtain ⟨y, w2, h4, h5, h6⟩ := run_carith' P .add (by simp) k hq hs w1
    exact ⟨.complex k x y, w2, by simp [binOp, Op.complexOp, h1, h4], ⟨h5.heap.trans h2.heap, h5.os.trans h2.os, h5.tape.trans h2.tape, h5.output.trans h2.output⟩, _, _, rfl, h3, h6⟩
  case sub =>
    subst h
    obtain ⟨x, w1, h1, h2, h3⟩ := run_carith' P .sub (by simp) k hp hr w
    obtain ⟨y, w2, h4, h5, h6⟩ := run_carith' P .sub (by simp) k hq hs w1
    exact ⟨.complex k x y, w2, by simp [binOp, Op.complexOp, h1, h4], ⟨h5.heap.trans h2.heap, h5.os.trans h2.os, h5.tape.trans h2.tape, h5.output.trans h2.output⟩, _, _, rfl, h3, h6⟩
  case eql =>
    subst h
    exact ⟨_, w, run_eql_complex (P := P) w t k p' q' r' s', Still.refl w, by rw [ho, ho']; rfl⟩
  case neq =>
    subst h
    exact ⟨_, w, run_neq_complex (P := P) w t k p' q' r' s', Still.refl w, by rw [ho, ho']; rfl⟩

theorem run_binS (t : TypeId) {op : BinOp} {x y : ByteArray} {ok : Bool} {c : C} (h : binS op x y = some (ok, c)) (hok : ok = true) (β : Bt) (K : Ks) :
    ∃ v, (binOp op t (.string x) (.string y)).run P w = .ok v w ∧ CR β K c v := by
  cases op <;> simp only [binS, Option.some.injEq, Prod.mk.injEq, reduceCtorEq] at h
  case add =>
    obtain ⟨rfl, rfl⟩ := h
    have hs : x.size + y.size ≤ 9223372036854775807 := by simpa using hok
    exact ⟨_, by simpa [binOp] using run_string_add_sum (P := P) w x y hs, rfl⟩
  all_goals
    obtain ⟨rfl, rfl⟩ := h
    refine ⟨_, ?_, rfl⟩
    simp [binOp, Op.stringOp, bstr]

theorem run_eqGuard (op : BinOp) (t : TypeId) (x y : Operand) {u v : Value} (hu : u.oneCell' = true) (hn : u ≠ .nilIface) : (eqGuard op t x y u v).run P w = .ok () w := by
  cases op <;> cases u <;> simp_all [eqGuard, Value.oneCell']

theorem ok_binB (h : Pre P Γ β K get n w ρ a) {op : BinOp} {t t' : TypeId} {ti : TI} {x y : Operand} {p q : Bool} {e : C} {out : Out} (ho : o.op = .binOp op t x y t')
    (hx : ρ x = .val (.one (.bool p))) (hy : ρ y = .val (.one (.bool q))) (ht : Γ.tab t = some ti) (hs : ti.sort = .bool) (hc : binB op p q = some e) (hl : pure1 n true (.one e) = some out) : StepOK P o a w (PostE β K get n w out) := by
  obtain ⟨_, d, _, _, hd, _, _, _, _, _, hso, _⟩ := (h.env.tab t ti ht).ex
  simp only [SrtOk, hs] at hso
  subst hso
  have e1 : a.eval x = .bool p := h.one hx
  have e2 : a.eval y = .bool q := h.one hy
  have exec : ∀ v, (binOp op t (.bool p) (.bool q)).run P w = .ok v w → (execOp a.eval o).run P w = .ok (.value v) w := by
    intro v hr
    refine exec_v (s := do eqGuard op t x y (a.eval x) (a.eval y); binOp op t (a.eval x) (a.eval y)) (by simp [execOp, ho]) ?_
    rw [e1, e2, Sem.run_bind, run_eqGuard op t x y rfl (by simp), Result.andThen_ok, hr]
  have hq := run_equalIn_bool' (P := P) w 9999 t p q hd
  cases op <;> simp only [binB, Option.some.injEq, reduceCtorEq] at hc
  · subst hc
    exact h.pure1 hl (u := .bool (p == q)) rfl (exec _ (by simp [binOp, Op.equal, Op.maxDepth, hq])) (Still.refl w)
  · subst hc
    exact h.pure1 hl (u := .bool (!(p == q))) rfl (exec _ (by simp [binOp, Op.equal, Op.maxDepth, hq])) (Still.refl w)

theorem ok_binOp (h : Pre P Γ β K get n w ρ a) {op : BinOp} {t t' : TypeId} {x y : Operand} {c d e : C} {ok : Bool} {out : Out} (ho : o.op = .binOp op t x y t')
    (hx : ρ x = .val (.one c)) (hy : ρ y = .val (.one d)) (hc : binC op c d = some (ok, e)) (hl : pure1 n ok (.one e) = some out) (hok : out.ok = true) : StepOK P o a w (PostE β K get n w out) := by
  have hp := hl
  simp only [pure1, Option.some.injEq] at hp
  subst hp
  dsimp only at hok
  have hv := h.one hx
  have hu := h.one hy
  have exec : ∀ v w', (a.eval x).oneCell' = true → a.eval x ≠ .nilIface → (binOp op t (a.eval x) (a.eval y)).run P w = .ok v w' → (execOp a.eval o).run P w = .ok (.value v) w' := by
    intro v w' h1 h2 hr
    refine exec_v (s := do eqGuard op t x y (a.eval x) (a.eval y); binOp op t (a.eval x) (a.eval y)) (by simp [execOp, ho]) ?_
    rw [Sem.run_bind, run_eqGuard op t x y h1 h2, Result.andThen_ok, hr]
  cases c with
  | int k p =>
    cases d with
    | int k' q =>
      rw [show a.eval x = .int k p from hv, show a.eval y = .int k' q from hu] at exec
      simp only [binC] at hc
      split at hc
      · simp only [Option.some.injEq, Prod.mk.injEq] at hc
        obtain ⟨rfl, rfl⟩ := hc
        have h0 : 0 ≤ q := by simpa using hok
        exact h.pure1 hl rfl (exec _ _ rfl (by simp) (run_shift t h0).1) (Still.refl w)
      · simp only [Option.some.injEq, Prod.mk.injEq] at hc
        obtain ⟨rfl, rfl⟩ := hc
        have h0 : 0 ≤ q := by simpa using hok
        exact h.pure1 hl rfl (exec _ _ rfl (by simp) (run_shift t h0).2) (Still.refl w)
      · rename_i hn1 hn2
        split at hc
        · rename_i hk
          have hk : k = k' := by simpa [kindEq] using hk
          subst hk
          obtain ⟨v, hr, hv'⟩ := run_binI (P := P) (w := w) t hc hok ⟨by simpa using hn1, by simpa using hn2⟩ β K
          exact h.pure1 hl hv' (exec _ _ rfl (by simp) hr) (Still.refl w)
        · cases hc
    | _ => simp [binC] at hc
  | flt k p =>
    cases d with
    | flt k' q =>
      obtain ⟨p', he, hf⟩ := hv
      obtain ⟨q', he', hf'⟩ := hu
      rw [he, he'] at exec
      simp only [binC] at hc
      split at hc
      · rename_i hk
        have hk : k = k' := by simpa [fkindEq] using hk
        subst hk
        simp only [Option.map_eq_some_iff, Prod.mk.injEq] at hc
        obtain ⟨e', hb, rfl, rfl⟩ := hc
        obtain ⟨v, w', hr, hs, hv'⟩ := run_binF (P := P) (w := w) t hb hf hf' β K
        exact h.pure1 hl hv' (exec _ _ rfl (by simp) hr) hs
      · cases hc
    | _ => simp [binC] at hc
  | cpx k p q =>
    cases d with
    | cpx k' r s =>
      obtain ⟨p', q', he, hf, hg⟩ := hv
      obtain ⟨r', s', he', hf', hg'⟩ := hu
      rw [he, he'] at exec
      simp only [binC] at hc
      split at hc
      · rename_i hk
        have hk : k = k' := by simpa [fkindEq] using hk
        subst hk
        simp only [Option.map_eq_some_iff, Prod.mk.injEq] at hc
        obtain ⟨e', hb, rfl, rfl⟩ := hc
        obtain ⟨v, w', hr, hs, hv'⟩ := run_binX (P := P) (w := w) t hb hf hg hf' hg' β K
        exact h.pure1 hl hv' (exec _ _ rfl (by simp) hr) hs
      · cases hc
    | _ => simp [binC] at hc
  | str p =>
    cases d with
    | str q =>
      rw [show a.eval x = .string p from hv, show a.eval y = .string q from hu] at exec
      simp only [binC] at hc
      obtain ⟨v, hr, hv'⟩ := run_binS (P := P) (w := w) t hc hok β K
      exact h.pure1 hl hv' (exec _ _ rfl (by simp) hr) (Still.refl w)
    | _ => simp [binC] at hc
  | _ => cases d <;> simp [binC] at hc

theorem ok_binA (h : Pre P Γ β K get n w ρ a) {op : BinOp} {t t' : TypeId} {x y : Operand} {cs ds : List C} {e : C} {out : Out} (ho : o.op = .binOp op t x y t')
    (hx : ρ x = .val (.agg cs)) (hy : ρ y = .val (.agg ds)) (ht : (Γ.eqT t && lenIs Γ t cs.length) = true) (hc : binA op cs ds = some e) (hl : pure1 n true (.one e) = some out) : StepOK P o a w (PostE β K get n w out) := by
  obtain ⟨xs, he, hxs⟩ := h.agg hx
  obtain ⟨ys, he', hys⟩ := h.agg hy
  rw [Bool.and_eq_true] at ht
  have hq := h.env.eq t ht.1
  have hln : ∀ i, P.info? t = some i → cs.length = i.size := by
    intro i hi
    have h2 := ht.2
    unfold lenIs at h2
    split at h2
    · rename_i ti hti
      obtain ⟨i', _, _, hi', _, _, hs, _⟩ := (h.env.tab t ti hti).ex
      rw [hi] at hi'
      cases hi'
      rw [nbeq_eq h2, hs]
    · cases h2
  have exec : ∀ v, (binOp op t (.agg xs) (.agg ys)).run P w = .ok v w → (execOp a.eval o).run P w = .ok (.value v) w := by
    intro v hr
    refine exec_v (s := do eqGuard op t x y (a.eval x) (a.eval y); binOp op t (a.eval x) (a.eval y)) (by simp [execOp, ho]) ?_
    rw [he, he', Sem.run_bind, run_eqGuard_agg (P := P) w op t x y xs ys hq.guard, Result.andThen_ok, hr]
  unfold binA at hc
  split at hc
  · rename_i b hb
    have hr := hq.eq cs ds xs ys b β K w hln hb hxs hys
    split at hc
    · cases hc
      exact h.pure1 hl (u := .bool b) rfl (exec _ (by rw [run_eql_struct, hr]; rfl)) (Still.refl w)
    · cases hc
      exact h.pure1 hl (u := .bool (!b)) rfl (exec _ (by rw [run_neq_struct, hr]; rfl)) (Still.refl w)
    · cases hc
  · cases hc

theorem ok_convert (h : Pre P Γ β K get n w ρ a) {src dst : TypeId} {si di : TI} {x : Operand} {c c' : C} {ok : Bool} {out : Out} (ho : o.op = .convert src dst x) (hs : Γ.tab src = some si) (hd : Γ.tab dst = some di)
    (hx : ρ x = .val (.one c)) (hc : convC di.sort c = some (ok, c')) (hl : pure1 n ok (.one c') = some out) (hok : out.ok = true) : StepOK P o a w (PostE β K get n w out) := by
  obtain ⟨_, d1, _, _, hd1, _⟩ := (h.env.tab src si hs).ex
  obtain ⟨_, d2, _, _, hd2, _, _, _, _, _, hso, _⟩ := (h.env.tab dst di hd).ex
  have hp := hl
  simp only [pure1, Option.some.injEq] at hp
  subst hp
  dsimp only at hok
  have hv := h.one hx
  have exec : ∀ v w', (convert src dst (a.eval x)).run P w = .ok v w' → (execOp a.eval o).run P w = .ok (.value v) w' := fun v w' hr =>
    exec_v (s := convert src dst (a.eval x)) (by simp [execOp, ho]) hr
  cases c with
  | int k m =>
    rw [show a.eval x = .int k m from hv] at exec
    simp only [convC] at hc
    split at hc
    · rename_i k' hk
      simp only [SrtOk, hk] at hso
      subst hso
      cases hc
      refine h.pure1 hl (u := .int k' (k'.wrap m)) rfl (exec _ w ?_) (Still.refl w)
      simp [convert, run_underlying hd1, run_underlying hd2, Conv.intToInt]
    · rename_i k' hk
      simp only [SrtOk, hk] at hso
      subst hso
      cases hc
      refine h.pure1 hl (u := .float k' (k'.nearest m)) ⟨_, rfl, .inl rfl⟩ (exec _ w ?_) (Still.refl w)
      simp [convert, run_underlying hd1, run_underlying hd2, Conv.intToFloat]
    · cases hc
  | flt s b =>
    obtain ⟨b', he, hf⟩ := hv
    rw [he] at exec
    simp only [convC] at hc
    split at hc
    · rename_i k' hk
      simp only [SrtOk, hk] at hso
      subst hso
      cases hc
      refine h.pure1 hl (u := .int k' (f2i s b)) rfl (exec _ w ?_) (Still.refl w)
      simp [convert, run_underlying hd1, run_underlying hd2, run_floatToInt' P s k' hf hok w]
    · rename_i k' hk
      simp only [SrtOk, hk] at hso
      subst hso
      cases hc
      obtain ⟨r, w', h1, h2, h3⟩ := run_floatToFloat' P s k' hf hok w
      refine h.pure1 hl (u := .float k' r) ⟨_, rfl, h3⟩ (exec _ w' ?_) h2
      simp [convert, run_underlying hd1, run_underlying hd2, h1]
    · cases hc
  | cpx s p q =>
    obtain ⟨p', q', he, hf, hg⟩ := hv
    rw [he] at exec
    simp only [convC] at hc
    split at hc
    · rename_i k' hk
      simp only [SrtOk, hk] at hso
      subst hso
      cases hc
      simp only [Bool.and_eq_true] at hok
      obtain ⟨r, w1, h1, h2, h3⟩ := run_floatToFloat' P s k' hf hok.1 w
      obtain ⟨r', w2, h4, h5, h6⟩ := run_floatToFloat' P s k' hg hok.2 w1
      refine h.pure1 hl (u := .complex k' r r') ⟨_, _, rfl, h3, h6⟩ (exec _ w2 ?_) ⟨h5.heap.trans h2.heap, h5.os.trans h2.os, h5.tape.trans h2.tape, h5.output.trans h2.output⟩
      simp [convert, run_underlying hd1, run_underlying hd2, Conv.complexToComplex, h1, h4]
    · cases hc
  | str s =>
    rw [show a.eval x = .string s from hv] at exec
    simp only [convC] at hc
    split at hc
    · rename_i hk
      simp only [SrtOk, hk] at hso
      subst hso
      cases hc
      refine h.pure1 hl (u := .string s) rfl (exec _ w ?_) (Still.refl w)
      simp [convert, run_underlying hd1, run_underlying hd2]
    · cases hc
  | _ => simp [convC] at hc

/-! ### Parts of slices -/

theorem sliceBound_rel (h : Pre P Γ β K get n w ρ a) {b : Option Operand} {d r : Int} (hb : sliceBound (b.map ρ) d = some r) : (b = none ∧ r = d) ∨ ∃ x k, b = some x ∧ a.eval x = .int k r := by
  cases b with
  | none => simp [sliceBound] at hb; exact .inl ⟨rfl, hb.symm⟩
  | some x =>
    right
    simp only [Option.map_some] at hb
    cases hx : ρ x with
    | tup ws => rw [hx] at hb; simp [sliceBound] at hb
    | val u =>
      rw [hx] at hb
      cases u with
      | agg cs => simp [sliceBound] at hb
      | one c =>
        cases c <;> simp only [sliceBound, Option.some.injEq, reduceCtorEq] at hb
        subst hb
        exact ⟨x, _, rfl, h.one hx⟩

theorem run_bounds (h : Pre P Γ β K get n w ρ a) (isSlice : Bool) {len cap : Nat} {lo hi : Option Operand} {l r : Int} (hlo : sliceBound (lo.map ρ) 0 = some l) (hhi : sliceBound (hi.map ρ) len = some r)
    (h0 : 0 ≤ l) (h1 : l ≤ r) (h2 : r ≤ len) (hc : len ≤ cap) : (Instr.sliceBounds isSlice len cap (lo.map a.eval) (hi.map a.eval) none).run P w = .ok (l.toNat, r.toNat, cap) w := by
  rcases sliceBound_rel h hlo with ⟨rfl, rfl⟩ | ⟨x, k, rfl, hx⟩ <;> rcases sliceBound_rel h hhi with ⟨rfl, rfl⟩ | ⟨y, k', rfl, hy⟩
  · simp [Instr.sliceBounds]
  · have e := run_sliceBound (P := P) w k' r cap (if isSlice = true then BoundsCode.sliceAcap else BoundsCode.sliceAlen) (by omega) (by omega)
    simp [Instr.sliceBounds, hy, e]
  · have e := run_sliceBound (P := P) w k l len BoundsCode.sliceB (by omega) (by omega)
    simp [Instr.sliceBounds, hx, e]
  · have e := run_sliceBound (P := P) w k' r cap (if isSlice = true then BoundsCode.sliceAcap else BoundsCode.sliceAlen) (by omega) (by omega)
    have e' := run_sliceBound (P := P) w k l r.toNat BoundsCode.sliceB (by omega) (by omega)
    simp [Instr.sliceBounds, hx, hy, e, e']

theorem ok_sliceStr (h : Pre P Γ β K get n w ρ a) {t : TypeId} {ti : TI} {x : Operand} {lo hi : Option Operand} {s : ByteArray} {l r : Int} {out : Out} (ho : o.op = .slice t x lo hi none) (ht : Γ.tab t = some ti) (hs : ti.sort = .string)
    (hx : ρ x = .val (.one (.str s))) (hlo : sliceBound (lo.map ρ) 0 = some l) (hhi : sliceBound (hi.map ρ) s.size = some r)
    (hl : pure1 n (decide (0 ≤ l) && decide (l ≤ r) && decide (r ≤ (s.size : Int))) (.one (.str (s.extract l.toNat r.toNat))) = some out) (hok : out.ok = true) : StepOK P o a w (PostE β K get n w out) := by
  obtain ⟨_, d, _, _, hd, _, _, _, _, _, hso, _⟩ := (h.env.tab t ti ht).ex
  simp only [SrtOk, hs] at hso
  subst hso
  have hp := hl
  simp only [pure1, Option.some.injEq] at hp
  subst hp
  simp only [Bool.and_eq_true, decide_eq_true_eq] at hok
  have hb := run_bounds h false hlo hhi hok.1.1 hok.1.2 hok.2 (Nat.le_refl _)
  refine h.pure1 hl (u := .string (s.extract l.toNat r.toNat)) rfl (w' := w) ?_ (Still.refl w)
  refine exec_v (s := Instr.sliceAt t (a.eval x) (lo.map a.eval) (hi.map a.eval) none) (by simp [execOp, ho]) ?_
  rw [show a.eval x = .string s from h.one hx]
  simp [Instr.sliceAt, Instr.slice, run_underlying hd, hb]

theorem ok_sliceSl (h : Pre P Γ β K get n w ρ a) {t : TypeId} {ti ei : TI} {x : Operand} {lo hi : Option Operand} {ty : Ty} {s : List (Den ty)} {l r : Int} {out : Out} (ho : o.op = .slice t x lo hi none) (ht : Γ.tab t = some ti) (hs : ti.sort = .slice)
    (he : Γ.tab ti.elem = some ei) (hsz : ty.size = ei.size)
    (hx : ρ x = .val (.one (.sl ty s))) (hlo : sliceBound (lo.map ρ) 0 = some l) (hhi : sliceBound (hi.map ρ) s.length = some r)
    (hl : pure1 n (decide (0 ≤ l) && decide (l ≤ r) && decide (r ≤ (s.length : Int))) (.one (.sl ty ((s.take r.toNat).drop l.toNat))) = some out) (hok : out.ok = true) : StepOK P o a w (PostE β K get n w out) := by
  obtain ⟨_, d, _, _, hd, _, _, _, _, _, hso, _⟩ := (h.env.tab t ti ht).ex
  simp only [SrtOk, hs] at hso
  subst hso
  obtain ⟨eii, hei, hes⟩ := elem_size (h.env.tab _ ei he)
  have hp := hl
  simp only [pure1, Option.some.injEq] at hp
  subst hp
  simp only [Bool.and_eq_true, decide_eq_true_eq] at hok
  obtain ⟨⟨h0, h1⟩, h2⟩ := hok
  obtain ⟨ad, m, c, hv, hm, hmc, hrest⟩ := h.one hx
  simp only [List.cons.injEq, and_true] at hv
  subst hm
  have hb := run_bounds h true hlo hhi h0 h1 h2 hmc
  refine h.pure1 hl (u := .slice (if c = l.toNat then ad else ad.map (·.add (l.toNat * eii.size))) (r.toNat - l.toNat) (c - l.toNat)) ?_ (w' := w) ?_ (Still.refl w)
  · have hlen : ((s.take r.toNat).drop l.toNat).length = r.toNat - l.toNat := by simp; omega
    refine ⟨_, _, _, rfl, hlen.symm, by omega, ?_⟩
    by_cases hz : r.toNat - l.toNat = 0
    · exact .inl hz
    · right
      rcases hrest with hz' | ⟨b, q, arr, rfl, hK, hall⟩
      · omega
      · refine ⟨b, q + l.toNat * ty.size, arr, ?_, hK, fun i hi => ?_⟩
        · rw [if_neg (by omega)]
          simp [add_lit, hes, hsz]
        · have hi' : l.toNat + i < s.length := by rw [hlen] at hi; omega
          have e : ((s.take r.toNat).drop l.toNat)[i] = s[l.toNat + i] := by simp
          rw [e]
          have := hall (l.toNat + i) hi'
          rw [Nat.add_mul, ← Nat.add_assoc] at this
          exact this
  · refine exec_v (s := Instr.sliceAt t (a.eval x) (lo.map a.eval) (hi.map a.eval) none) (by simp [execOp, ho]) ?_
    rw [hv]
    simp [Instr.sliceAt, Instr.slice, run_underlying hd, hb, run_sizeOf' hei]

theorem ok_makeFunc (h : Pre P Γ β K get n w ρ a) {fn : Fn} {f : Nat} {first caps : Array Operand} {ks : List Nat} {out : Out} (ho : o.op = .makeFunc fn first caps) (hf : fn = .func f) (h1 : first.toList = [])
    (hk : mapO (fun x => match ρ x with | .val (.one (.ptr k 0)) => some k | _ => none) caps.toList = some ks) (hl : pure1 n true (.one (.fn f ks)) = some out) : StepOK P o a w (PostE β K get n w out) := by
  subst hf
  have hfirst : first = #[] := by cases first; simp_all
  subst hfirst
  refine h.pure1 hl (u := .func (.func f) #[] (caps.map a.eval)) ?_ (w' := w) ?_ (Still.refl w)
  · refine ⟨caps.toList.map a.eval, by cases caps; simp, ?_⟩
    have : All2 (fun (x : Operand) (v : Value) => v = a.eval x) caps.toList (caps.toList.map a.eval) := by
      induction caps.toList with
      | nil => trivial
      | cons x r ih => exact ⟨rfl, ih⟩
    refine mapO_all2 hk this fun x k v hm hx hv => ?_
    subst hv
    split at hx
    · rename_i k' he
      cases hx
      exact h.one he
    · cases hx
  · refine exec_v (s := Instr.makeFunc (.func f) (Array.map a.eval #[]) (Array.map a.eval caps)) (by simp [execOp, ho]) ?_
    simp [Instr.makeFunc]
end

end Go.Proofs.Ytmmdjajebmihhaa.AM
