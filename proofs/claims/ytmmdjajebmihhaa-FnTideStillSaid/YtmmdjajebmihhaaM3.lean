/- Texts of one proof, joined: an abstract machine for the program, its functions evaluated, plain lemmas. Conditions: those that each lemma names. -/
import Derived.Test.YtmmdjajebmihhaaM2
import Derived.Test.YtmmdjajebmihhaaProg
import Derived.Test.YtmmdjajebmihhaaChecked

/- The types of the program that this seat proves about, as the abstract machine takes them; its functions' codes. Printed by gen.py. -/
namespace Go.Proofs.Ytmmdjajebmihhaa.AM
open Go Go.Proofs
set_option linter.unusedVariables false

abbrev S25 : Ty := .cons (.int .i64) (.cons (.int .i64) (.cons (.int .i64) (.cons (.slice (.slice (.cpx .f32))) (.nil))))
abbrev S53 : Ty := .cons (.int .i64) (.cons (.flt .f32) (.cons (.int .i64) (.nil)))
abbrev S96 : Ty := .cons (.cpx .f64) (.cons (.cons (.cpx .f32) (.cons (.cpx .f32) (.cons (.cpx .f32) (.cons (.cpx .f32) (.cons (.cpx .f32) (.cons (.cpx .f32) (.cons (.cpx .f32) (.cons (.cpx .f32) (.cons (.cpx .f32) (.cons (.cpx .f32) (.cons (.cpx .f32) (.cons (.cpx .f32) (.cons (.cpx .f32) (.nil)))))))))))))) (.nil))
abbrev S48 : Ty := .cons (.slice (S96)) (.cons (.slice (.int .i64)) (.nil))
abbrev S98 : Ty := .cons (.slice (.int .u8)) (.cons (.int .i64) (.cons (.int .i64) (.nil)))

def tab : List (Nat × TI) := [
  (2, ⟨1, 8, false, .int .i64, [.int .i64 0], [], 0, .int .i64⟩),
  (3, ⟨1, 8, false, .int .i64, [.int .i64 0], [], 0, .int .i64⟩),
  (4, ⟨1, 1, false, .bool, [.bool false], [], 0, .bool⟩),
  (5, ⟨1, 1, false, .int .u8, [.int .u8 0], [], 0, .int .u8⟩),
  (10, ⟨1, 16, false, .str, [.str ByteArray.empty], [], 0, .string⟩),
  (22, ⟨1, 24, false, .slice (.int .u8), [.nil (.int .u8)], [], 5, .slice⟩),
  (24, ⟨1, 24, false, .slice (.slice (.cpx .f32)), [.nil (.slice (.cpx .f32))], [], 37, .slice⟩),
  (26, ⟨4, 48, true, S25, [.int .i64 0, .int .i64 0, .int .i64 0, .nil (.slice (.cpx .f32))], [(0, 1, false), (1, 1, false), (2, 1, false), (3, 1, false)], 0, .struct⟩),
  (29, ⟨1, 16, false, .cpx .f64, [.cpx .f64 0 0], [], 0, .complex .f64⟩),
  (32, ⟨1, 8, false, .cpx .f32, [.cpx .f32 0 0], [], 0, .complex .f32⟩),
  (37, ⟨1, 24, false, .slice (.cpx .f32), [.nil (.cpx .f32)], [], 32, .slice⟩),
  (41, ⟨1, 8, false, .flt .f64, [.flt .f64 0], [], 0, .float .f64⟩),
  (45, ⟨1, 24, false, .slice (S53), [.nil (S53)], [], 54, .slice⟩),
  (46, ⟨1, 24, false, .slice (S96), [.nil (S96)], [], 97, .slice⟩),
  (47, ⟨1, 24, false, .slice (.int .i64), [.nil (.int .i64)], [], 3, .slice⟩),
  (49, ⟨2, 48, true, S48, [.nil (S96), .nil (.int .i64)], [(0, 1, false), (1, 1, false)], 0, .struct⟩),
  (52, ⟨1, 4, false, .flt .f32, [.flt .f32 0], [], 0, .float .f32⟩),
  (54, ⟨3, 24, true, S53, [.int .i64 0, .flt .f32 0, .int .i64 0], [(0, 1, false), (1, 1, false), (2, 1, false)], 0, .struct⟩),
  (95, ⟨13, 104, true, .cons (.cpx .f32) (.cons (.cpx .f32) (.cons (.cpx .f32) (.cons (.cpx .f32) (.cons (.cpx .f32) (.cons (.cpx .f32) (.cons (.cpx .f32) (.cons (.cpx .f32) (.cons (.cpx .f32) (.cons (.cpx .f32) (.cons (.cpx .f32) (.cons (.cpx .f32) (.cons (.cpx .f32) (.nil))))))))))))), [.cpx .f32 0 0, .cpx .f32 0 0, .cpx .f32 0 0, .cpx .f32 0 0, .cpx .f32 0 0, .cpx .f32 0 0, .cpx .f32 0 0, .cpx .f32 0 0, .cpx .f32 0 0, .cpx .f32 0 0, .cpx .f32 0 0, .cpx .f32 0 0, .cpx .f32 0 0], [], 32, .array 13⟩),
  (97, ⟨14, 120, true, S96, [.cpx .f64 0 0, .cpx .f32 0 0, .cpx .f32 0 0, .cpx .f32 0 0, .cpx .f32 0 0, .cpx .f32 0 0, .cpx .f32 0 0, .cpx .f32 0 0, .cpx .f32 0 0, .cpx .f32 0 0, .cpx .f32 0 0, .cpx .f32 0 0, .cpx .f32 0 0, .cpx .f32 0 0], [(0, 1, false), (1, 13, true)], 0, .struct⟩),
  (99, ⟨3, 40, true, S98, [.nil (.int .u8), .int .i64 0, .int .i64 0], [(0, 1, false), (1, 1, false), (2, 1, false)], 0, .struct⟩)]

def eqs : List Nat := []

theorem eqs_ok : AllP (EqOK Try.prog) eqs := eqsB_ok (by kernel_rfl)
theorem tab_ok : tabB Try.prog tab = true := by kernel_rfl
theorem mixed : Try.prog.follows .mixedOrders = true := Try.checked.mixed

def bodyOf (f : Func) : Code := match f.body with
  | some c => c
  | none => .skip

theorem fnIs {f : Nat} {fn : Func} {Γ : Env} (h : Try.prog.funcs[f]? = some fn) (hb : fn.body = some (bodyOf fn)) (hr : fn.results.toList = Γ.res) (hn : fn.ntmps = Γ.nt) (hname : (fn.name == "runtime.NumGoroutine") = false) (hl : LoopsOK Γ (bodyOf fn)) : FnIs Try.prog f Γ (bodyOf fn) :=
  ⟨hl, fn, h, hb, hr, hn, hname⟩

theorem noLoops {Γ : Env} {c : Code} (h : loopsOf c = []) : LoopsOK Γ c := fun c' hc => by rw [h] at hc; cases hc

end Go.Proofs.Ytmmdjajebmihhaa.AM

/- The abstract machine: calls whose answer is open (the text of the language leaves a part of it open): a family of meanings, one of which each call meets. Conditions: those that each lemma names. -/
namespace Go.Proofs.Ytmmdjajebmihhaa.AM
open Go
set_option linter.unusedVariables false

/-- Some meanings of a function, one of which each call of it meets. -/
structure Fam where
  ι : Type
  inh : Nonempty ι
  mean : ι → Mean
  own : Bool

/-- A function is called and ends so: its body does, or it is a function of the model's own that answers at once. -/
def DoesCall (P : Program) (f : Nat) (vs : Array Value) (w : World) (Q : Ending → World → Prop) : Prop :=
  (FnOK P f ∧ Calls P f vs w Q) ∨ ∃ v w', (callFunc f vs).run P w = .ok (.value v) w' ∧ Q (.returned v) w'

theorem DoesCall.mono {P : Program} {f : Nat} {vs : Array Value} {w : World} {Q Q' : Ending → World → Prop} (h : DoesCall P f vs w Q) (hq : ∀ e w', Q e w' → Q' e w') : DoesCall P f vs w Q' := by
  rcases h with ⟨h1, h2⟩ | ⟨v, w', h1, h2⟩
  · exact .inl ⟨h1, h2.mono hq⟩
  · exact .inr ⟨v, w', h1, hq _ _ h2⟩

structure FamOK (P : Program) (f : Nat) (fam : Fam) : Prop where
  own : ∀ z, (fam.mean z).own = fam.own
  mean : ∀ (args : List W) (ins : List Blk), (∀ z, ∃ rs outs, (fam.mean z).run args ins = some (true, rs, outs)) →
    ∀ (β0 : Bt) (K0 : Ks) (w0 : World) (vs : Array Value), KOK K0 w0 → MR β0 K0 (getL ins) w0 → (∀ k, ins.length ≤ k → β0 k = none) → All2 (WR β0 K0) args vs.toList →
    DoesCall P f vs w0 fun e w' => ∃ z rs outs v β K, (fam.mean z).run args ins = some (true, rs, outs) ∧ e = .returned v ∧ Ret ins outs rs β0 K0 w0 v w' β K

section
variable {P : Program} {Γ : Env} {β : Bt} {K : Ks} {get : Get} {n : Nat} {w : World} {ρ : Operand → V} {a : Act} {o : Oper}

theorem exec_callN (h : Pre P Γ β K get n w ρ a) {c : Call} {f : Operand} {g : Nat} {caps : List Nat} {ws : List W} (ho : o.op = .call c) (hc : c.callee = .value f) (hf : ρ f = .val (.one (.fn g caps)))
    (hw : valsW (c.args.toList.map ρ) = some ws) : ∃ vs : Array Value, (∀ r, (callFunc g vs).run P w = r → (execOp a.eval o).run P w = r) ∧ All2 (WR β K) (ws ++ caps.map fun k => .one (.ptr k 0)) vs.toList := by
  obtain ⟨cs, hfv, hcs⟩ := h.one hf
  refine ⟨(c.args.map a.eval) ++ cs.toArray, ?_, ?_⟩
  · intro r hr
    rw [← hr]
    simp [execOp, ho, resolve, hc, hfv, Deferred.ofValue, invoke]
  · rw [Array.toList_append]
    refine All2.append ?_ ?_
    · have hl : All2 (fun (x : V) (u : Value) => VR β K x u) (c.args.toList.map ρ) (c.args.map a.eval).toList := by
        rw [Array.toList_map]
        generalize c.args.toList = l
        induction l with
        | nil => trivial
        | cons x r ih => exact ⟨h.val x, ih⟩
      refine mapO_all2 hw hl fun x c u _ hx hu => ?_
      split at hx
      · cases hx; exact hu
      · cases hx
    · simp only []
      clear hf hfv
      induction caps generalizing cs with
      | nil => cases cs with
        | nil => trivial
        | cons _ _ => exact hcs.elim
      | cons k caps ih => cases cs with
        | nil => exact hcs.elim
        | cons u cs => exact ⟨hcs.1, ih cs hcs.2⟩

theorem callFunc_enter {g : Nat} {vs : Array Value} (hfn : FnOK P g) (w : World) : (callFunc g vs).run P w = .ok (.enter g vs) w := by
  obtain ⟨fn, h1, h2, h3⟩ := hfn.body
  have hb : ¬ fn.body = none := by intro e; rw [e] at h2; cases h2
  have h3' : ¬ fn.name = "runtime.NumGoroutine" := by simpa using h3
  simp [callFunc, h1, h3', hb]

theorem step_callN {g : Nat} {vs : Array Value} {post : Value → World → Prop} (hx : ∀ r, (callFunc g vs).run P w = r → (execOp a.eval o).run P w = r) (hc : DoesCall P g vs w fun e w' => ∃ v, e = .returned v ∧ post v w') : StepOK P o a w post := by
  rcases hc with ⟨h1, h2⟩ | ⟨v, w', h1, v', h2, h3⟩
  · exact StepOK.call (hx _ (callFunc_enter h1 w)) h2
  · cases h2
    exact StepOK.value (hx _ h1) h3

theorem ok_callMutN (h : Pre P Γ β K get n w ρ a) {c : Call} {f : Operand} {g : Nat} {caps : List Nat} {ws : List W} {fam : Fam} {out : fam.ι → Out} (ho : o.op = .call c) (hc : c.callee = .value f) (hf : ρ f = .val (.one (.fn g caps)))
    (hw : valsW (c.args.toList.map ρ) = some ws) (hfam : FamOK P g fam) (hl : ∀ z, callMut (fam.mean z) get n (ws ++ caps.map fun k => .one (.ptr k 0)) = some (out z)) (hok : ∀ z, (out z).ok = true) : StepOK P o a w (fun v w' => ∃ z, PostE β K get n w (out z) v w') := by
  obtain ⟨_, hmean⟩ := hfam
  obtain ⟨vs, hx, hvs⟩ := exec_callN h ho hc hf hw
  generalize (ws ++ caps.map fun k => W.one (C.ptr k 0)) = args at hl hvs
  simp only [callMut] at hl
  generalize hks : reach get reachFuel (args.flatMap keysW) [] = ks at hl
  have hnd : ks.Nodup := by rw [← hks]; exact reach_nodup _ _ _ _ (by simp)
  obtain ⟨z0⟩ := fam.inh
  obtain ⟨args', hargs⟩ : ∃ args', mapO (renW fun k => indexN ks k 0) args = some args' := by
    cases hq : mapO (renW fun k => indexN ks k 0) args with
    | none => have := hl z0; rw [hq] at this; cases this
    | some x => exact ⟨x, rfl⟩
  obtain ⟨ins, hins⟩ : ∃ ins, mapO (fun k => (get k).bind (renB fun k => indexN ks k 0)) ks = some ins := by
    cases hq : mapO (fun k => (get k).bind (renB fun k => indexN ks k 0)) ks with
    | none => have := hl z0; rw [hargs, hq] at this; cases this
    | some x => exact ⟨x, rfl⟩
  have hl : ∀ z, ∃ rs outs rs' outs', (fam.mean z).run args' ins = some (true, rs, outs) ∧ Nat.ble ks.length outs.length = true ∧ mapO (renW fun i => some (keyAt ks n i)) rs = some rs' ∧ mapO (renOB fun i => some (keyAt ks n i)) outs = some outs' ∧
      out z = ⟨true, outV rs', upds ks outs' n, n + (outs.length - ks.length)⟩ := by
    intro z
    have h1 := hl z
    rw [hargs, hins] at h1
    dsimp only at h1
    split at h1
    case h_2 => cases h1
    rename_i ok rs outs hrun
    split at h1
    case h_2 => cases h1
    rename_i rs' outs' hlen hrs' houts'
    have h2 := Option.some.inj h1
    have h3 := hok z
    rw [← h2] at h3
    dsimp only at h3
    subst h3
    exact ⟨rs, outs, rs', outs', hrun, hlen, hrs', houts', h2.symm⟩
  have hinl : ins.length = ks.length := mapO_length hins
  -- the blocks that are lent
  have hin : ∀ p b, getL ins p = some b → ∃ k b0 y, ks[p]? = some k ∧ get k = some b0 ∧ renB (fun k => indexN ks k 0) b0 = some b ∧ β k = some y ∧ BR β K b0 y w := by
    intro p b e
    obtain ⟨k, hk, hb⟩ := (All2.ofMap hins).get?' e
    cases hg : get k with
    | none => rw [hg] at hb; cases hb
    | some b0 =>
      rw [hg] at hb
      obtain ⟨y, hy, hbr⟩ := h.mr.blk k b0 hg
      exact ⟨k, b0, y, hk, hg, hb, hy, hbr⟩
  have hksome : ∀ (p k : Nat), ks[p]? = some k → ∃ b0 y, get k = some b0 ∧ β k = some y := by
    intro p k hk
    obtain ⟨b, _, hb⟩ := (All2.ofMap hins).get? hk
    cases hg : get k with
    | none => rw [hg] at hb; cases hb
    | some b0 =>
      obtain ⟨y, hy, _⟩ := h.mr.blk k b0 hg
      exact ⟨b0, y, rfl, hy⟩
  have hklt : ∀ x ∈ ks, x < n := by
    intro x hx
    obtain ⟨p, hp, he⟩ := List.mem_iff_getElem.1 hx
    obtain ⟨b0, y, _, hy⟩ := hksome p x (by rw [List.getElem?_eq_getElem hp, he])
    rcases Nat.lt_or_ge x n with h1 | h1
    · exact h1
    · rw [h.fresh x h1] at hy; cases hy
  have hσ0 : ∀ k k' y, (fun k => indexN ks k 0) k = some k' → β k = some y → (fun i => (ks[i]?).bind β) k' = some y := by
    intro k k' y e hy
    obtain ⟨p, hp, hk⟩ := indexN_spec e
    have : k' = p := by omega
    subst this
    dsimp only
    rw [hk]; exact hy
  have hM0 : MR (fun i => (ks[i]?).bind β) K (getL ins) w := by
    refine ⟨fun p b e => ?_, fun p p' b b' y y' x e e' f f' g g' => ?_, fun p b y x e f g => ?_⟩
    · obtain ⟨k, b0, y, hk, hg, hb, hy, hbr⟩ := hin p b e
      exact ⟨y, by show (ks[p]?).bind β = some y; rw [hk]; exact hy, renB_ok hσ0 hb hbr⟩
    · obtain ⟨k, b0, z, hk, hg, hb, hy, hbr⟩ := hin p b e
      obtain ⟨k', b0', z', hk', hg', hb', hy', hbr'⟩ := hin p' b' e'
      try dsimp only at f f'
      rw [hk] at f; rw [hk'] at f'
      have hkk := h.mr.sep k k' b0 b0' y y' x hg hg' f f' g g'
      subst hkk
      exact (List.getElem?_inj (List.getElem?_eq_some_iff.1 hk).1 hnd).1 (hk.trans hk'.symm)
    · obtain ⟨k, b0, z, hk, hg, hb, hy, hbr⟩ := hin p b e
      try dsimp only at f
      rw [hk] at f
      exact h.mr.ro k b0 y x hg f g
  have hargs' : All2 (WR (fun i => (ks[i]?).bind β) K) args' vs.toList := mapO_all2 hargs hvs fun c c' u _ hcc hu => renW_ok hσ0 hcc hu
  refine step_callN hx ?_
  refine (hmean args' ins (fun z => by obtain ⟨rs, outs, _, _, h1, _⟩ := hl z; exact ⟨rs, outs, h1⟩) _ K w vs h.kok hM0 (fun k hk => by rw [List.getElem?_eq_none (by omega)]; rfl) hargs').mono ?_
  rintro e w' ⟨z, rs, outs, v, β', K', hrz, rfl, hR⟩
  refine ⟨v, rfl, z, ?_⟩
  obtain ⟨rs2, outs2, rs', outs', hrun, hlen, hrs', houts', hout⟩ := hl z
  rw [hrz] at hrun
  cases hrun
  rw [hout]
  have hlen : ks.length ≤ outs.length := by simpa using hlen
  have hown : ∀ x, Own (fun i => (ks[i]?).bind β) (getL ins) x → ∃ (p k : Nat) (b0 : Blk) (y : Hd), ks[p]? = some k ∧ get k = some b0 ∧ β k = some y ∧ y.b = some x := by
    rintro x ⟨p, b, y, e, f, g⟩
    obtain ⟨k, b0, z, hk, hg, hb, hy, hbr⟩ := hin p b e
    try dsimp only at f
    rw [hk] at f
    exact ⟨p, k, b0, y, hk, hg, f, g⟩
  have hold : ∀ k b y x, get k = some b → β k = some y → y.b = some x → k ∉ ks → ¬ Own (fun i => (ks[i]?).bind β) (getL ins) x := by
    intro k b y x e f g hk ho'
    obtain ⟨p, k', b0, y', h1, h2, h3, h4⟩ := hown x ho'
    have := h.mr.sep k k' b b0 y y' x e h2 f h3 g h4
    subst this
    exact hk (List.mem_of_getElem? h1)
  have hgn := h.gnone
  have hβ'' : ∀ k, k < n → (fun k => if n ≤ k then β' (ks.length + (k - n)) else β k) k = β k := fun k hk => by dsimp only; rw [if_neg (by omega)]
  have hβn : ∀ k, n ≤ k → (fun k => if n ≤ k then β' (ks.length + (k - n)) else β k) k = β' (ks.length + (k - n)) := fun k hk => by dsimp only; rw [if_pos hk]
  generalize hβe : (fun k => if n ≤ k then β' (ks.length + (k - n)) else β k) = β'' at hβ'' hβn
  have hble : BLe β β'' := by
    intro k y e
    rw [hβ'' k]
    · exact e
    · rcases Nat.lt_or_ge k n with h1 | h1
      · exact h1
      · rw [h.fresh k h1] at e; cases e
  have hσ : ∀ k k' y, (fun i => some (keyAt ks n i)) k = some k' → β' k = some y → β'' k' = some y := by
    intro k k' y e hy
    cases e
    rcases Nat.lt_or_ge k ks.length with h1 | h1
    · have hk := List.getElem?_eq_getElem h1
      rw [keyAt_lt hk]
      obtain ⟨b0, z, h2, h3⟩ := hksome k _ hk
      have h4 := hR.ble k z (by show (ks[k]?).bind β = some z; rw [hk]; exact h3)
      rw [hy] at h4; cases h4
      rw [hβ'' _ (hklt _ (List.mem_of_getElem? hk))]
      exact h3
    · rw [keyAt_ge h1, hβn _ (by omega)]
      have : ks.length + (n + (k - ks.length) - n) = k := by omega
      rw [this]; exact hy
  -- a key behind the call
  have hcase : ∀ k b, getU (upds ks outs' n) get k = some b → (∃ (p : Nat) (b0 : Blk), ((∃ hp : ks[p]? = some k, True) ∨ (n ≤ k ∧ p = ks.length + (k - n))) ∧ getO outs p = some b0 ∧ renB (fun i => some (keyAt ks n i)) b0 = some b ∧ β'' k = β' p) ∨ (k ∉ ks ∧ k < n ∧ get k = some b) := by
    intro k b e
    have hll : ks.length ≤ outs'.length := by rw [mapO_length houts']; exact hlen
    obtain ⟨hl1, hl2⟩ := upds_look (ks := ks) (outs := outs') (n := n) (k := k) hll hklt hnd
    by_cases hk : k ∈ ks
    · obtain ⟨p, hp, he⟩ := List.mem_iff_getElem.1 hk
      have hpk : ks[p]? = some k := by rw [List.getElem?_eq_getElem hp, he]
      have h1 := hl1 p hpk
      unfold getU at e
      rw [h1] at e
      have hpo : p < outs'.length := by omega
      rw [List.getElem?_eq_getElem hpo] at e
      have hgo : getO outs' p = some b := by unfold getO; rw [List.getElem?_eq_getElem hpo]; exact e
      obtain ⟨b0, h3, h4⟩ := mapO_getO houts' hgo
      left
      refine ⟨p, b0, .inl ⟨hpk, trivial⟩, h3, h4, ?_⟩
      obtain ⟨y, hy, _⟩ := hR.mr.blk p b0 h3
      rw [hy]
      exact hσ p k y (by show some (keyAt ks n p) = some k; rw [keyAt_lt hpk]) hy
    · have h1 := hl2 hk
      unfold getU at e
      rw [h1] at e
      by_cases hkn : n ≤ k
      · rw [if_pos hkn] at e
        left
        cases hq : outs'[ks.length + (k - n)]? with
        | none => rw [hq] at e; dsimp only at e; rw [hgn k hkn] at e; cases e
        | some x =>
          rw [hq] at e
          dsimp only at e
          subst e
          have hgo : getO outs' (ks.length + (k - n)) = some b := by unfold getO; rw [hq]; rfl
          obtain ⟨b0, h3, h4⟩ := mapO_getO houts' hgo
          exact ⟨_, b0, .inr ⟨hkn, rfl⟩, h3, h4, hβn k hkn⟩
      · rw [if_neg hkn] at e
        exact .inr ⟨hk, by omega, e⟩
  have hsame : ∀ (k k' p : Nat), ((∃ hp : ks[p]? = some k, True) ∨ (n ≤ k ∧ p = ks.length + (k - n))) → ((∃ hp : ks[p]? = some k', True) ∨ (n ≤ k' ∧ p = ks.length + (k' - n))) → k = k' := by
    intro k k' p h1 h2
    rcases h1 with ⟨h1, _⟩ | ⟨h1, h3⟩ <;> rcases h2 with ⟨h2, _⟩ | ⟨h2, h4⟩
    · rw [h1] at h2; cases h2; rfl
    · have := (List.getElem?_eq_some_iff.1 h1).1; omega
    · have := (List.getElem?_eq_some_iff.1 h2).1; omega
    · omega
  refine ⟨β'', K', hble, hR.kle, hR.kok, outV_ren hσ hrs' hR.out, ?_, ?_, by dsimp only; omega, ?_, ?_, (fun b arr e => by
    rcases hR.knew b arr e with h1 | h1 | h1
    · exact .inl h1
    · obtain ⟨p, k, b0, y, _, h2, h3, h4⟩ := hown b h1
      exact .inr (.inl ⟨k, b0, y, h2, h3, h4⟩)
    · exact .inr (.inr h1)), hβ''⟩
  · refine h.mr.step hble hR.kle ?_
    intro k b e
    rcases hcase k b e with ⟨p, b0, hp, h1, h2, h3⟩ | ⟨hk, hkn, e1⟩
    · right
      obtain ⟨y, hy, hbr⟩ := hR.mr.blk p b0 h1
      refine ⟨y, by rw [h3]; exact hy, renB_ok hσ h2 hbr, fun x hx => ⟨hR.mr.ro p b0 y x h1 hy hx, fun k' b' y' e' f' g' => ?_⟩⟩
      rcases hcase k' b' e' with ⟨p', b0', hp', h1', h2', h3'⟩ | ⟨hk', hkn', e1'⟩
      · rw [h3'] at f'
        have := hR.mr.sep p' p b0' b0 y' y x h1' h1 f' hy g' hx
        subst this
        exact hsame k' k p' hp' hp
      · rw [hβ'' k' hkn'] at f'
        exfalso
        rcases hR.own x ⟨p, b0, y, h1, hy, hx⟩ with h5 | h5
        · exact hold k' b' y' x e1' f' g' hk' h5
        · have := h.mr.lt ⟨k', b', y', e1', f', g'⟩
          omega
    · refine .inl ⟨e1, fun x y f g => ?_⟩
      have hx := h.mr.lt ⟨k, b, y, e1, f, g⟩
      have hno := hold k b y x e1 f g hk
      refine ⟨hR.fr.block x hx hno, ?_⟩
      cases hq : K' x with
      | none => rfl
      | some arr =>
        rcases hR.knew x arr hq with h1 | h1 | h1
        · rw [h.mr.ro k b y x e1 f g] at h1; cases h1
        · exact absurd h1 hno
        · omega
  · intro k hk
    dsimp only at hk
    rw [hβn k (by omega)]
    exact hR.fresh _ (by omega)
  · refine ⟨hR.fr.os, hR.fr.tape, hR.fr.output, hR.fr.size, fun x hx hn => hR.fr.block x hx fun h1 => hn ?_⟩
    obtain ⟨p, k, b0, y, _, h2, h3, h4⟩ := hown x h1
    exact ⟨k, b0, y, h2, h3, h4⟩
  · rintro x ⟨k, b, y, e, f, g⟩
    rcases hcase k b e with ⟨p, b0, hp, h1, h2, h3⟩ | ⟨hk, hkn, e1⟩
    · rw [h3] at f
      rcases hR.own x ⟨p, b0, y, h1, f, g⟩ with h5 | h5
      · obtain ⟨_, k', b0', y', _, h2, h3, h4⟩ := hown x h5
        exact .inl ⟨k', b0', y', h2, h3, h4⟩
      · exact .inr h5
    · rw [hβ'' k hkn] at f
      exact .inl ⟨k, b, y, e1, f, g⟩


theorem ok_callRoN (h : Pre P Γ β K get n w ρ a) {c : Call} {f : Operand} {g : Nat} {caps : List Nat} {ws : List W} {fam : Fam} {frz : Bool} {out : fam.ι → Out} (ho : o.op = .call c) (hc : c.callee = .value f) (hf : ρ f = .val (.one (.fn g caps)))
    (hw : valsW (c.args.toList.map ρ) = some ws) (hfam : FamOK P g fam) (hl : ∀ z, callRo (fam.mean z) frz get n (ws ++ caps.map fun k => .one (.ptr k 0)) = some (out z)) (hok : ∀ z, (out z).ok = true) : StepOK P o a w (fun v w' => ∃ z, PostE β K get n w (out z) v w') := by
  obtain ⟨_, hmean⟩ := hfam
  obtain ⟨vs, hx, hvs⟩ := exec_callN h ho hc hf hw
  generalize (ws ++ caps.map fun k => W.one (C.ptr k 0)) = args at hl hvs
  simp only [callRo] at hl
  obtain ⟨z0⟩ := fam.inh
  obtain ⟨args', hargs⟩ : ∃ args', mapO (roW get) args = some args' := by
    cases hq : mapO (roW get) args with
    | none => have := hl z0; rw [hq] at this; cases this
    | some x => exact ⟨x, rfl⟩
  have hrun : ∀ z, ∃ rs outs, (fam.mean z).run args' [] = some (true, rs, outs) := by
    intro z
    have h1 := hl z
    rw [hargs] at h1
    dsimp only at h1
    split at h1
    case h_2 => cases h1
    rename_i ok rs outs hr
    have hok' : ok = true := by
      have h3 := hok z
      split at h1
      · cases h1
      · split at h1
        · split at h1
          · have h2 := Option.some.inj h1; rw [← h2] at h3; exact h3
          · cases h1
        · split at h1
          · have h2 := Option.some.inj h1; rw [← h2] at h3; exact h3
          · cases h1
    subst hok'
    exact ⟨rs, outs, hr⟩
  refine step_callN hx ?_
  have hK1 := frzK_ok (β := β) (get := get) (ks := args.flatMap keysW) h.kok
  have hargs' : All2 (WR (fun _ => none) (frzK β K get w (args.flatMap keysW))) args' vs.toList :=
    mapO_all2 hargs hvs fun c c' u hmem hcc hu => roW_free h.mr hcc hu (fun k hk => List.mem_flatMap.2 ⟨c, hmem, hk⟩) _
  have hM0 : MR (fun _ => none) (frzK β K get w (args.flatMap keysW)) (getL []) w := ⟨fun k b e => by simp [getL] at e, fun k k' b b' _ _ _ e => by simp [getL] at e, fun k b _ _ e => by simp [getL] at e⟩
  refine (hmean args' [] hrun (fun _ => none) _ w vs hK1 hM0 (fun _ _ => rfl) hargs').mono ?_
  rintro e w' ⟨z, rs, outs, v, β', K', hrz, rfl, hR⟩
  refine ⟨v, rfl, z, ?_⟩
  have hl := hl z
  generalize out z = out at hl
  rw [hargs] at hl
  dsimp only at hl
  rw [hrz] at hl
  dsimp only at hl
  have hempty : ∀ x, ¬ Own (fun _ => none) (getL []) x := by rintro x ⟨k, b, y, e, _⟩; simp [getL] at e
  have hheap : ∀ b, b < w.heap.size → w'.heap[b]? = w.heap[b]? := fun b hb => hR.fr.block b hb (hempty b)
  have hownb : ∀ x, Own β' (getO outs) x → w.heap.size ≤ x := fun x hx => (hR.own x hx).resolve_left (hempty x)
  have hgn := h.gnone
  have hfr : Fr (Own β get) w w' := ⟨hR.fr.os, hR.fr.tape, hR.fr.output, hR.fr.size, fun b hb _ => hheap b hb⟩
  -- the blocks that nobody writes, behind the call
  have main : ∀ (K2 : Ks), (∀ b arr, w.heap.size ≤ b → K2 b = some arr → ∃ T fz, w'.heap[b]? = some (.cells arr T fz)) →
      ∃ K3 : Ks, KLe K K3 ∧ KOK K3 w' ∧ (∀ x, x < w.heap.size → K3 x = K x) ∧ (∀ x, w.heap.size ≤ x → K3 x = K2 x) := by
    intro K2 h2
    refine ⟨fun b => if w.heap.size ≤ b then K2 b else K b, ?_, ?_, fun x hx => ?_, fun x hx => ?_⟩
    · intro b arr e
      have := h.kok.lt e
      dsimp only
      rw [if_neg (by omega)]; exact e
    · intro b arr e
      dsimp only at e
      split at e
      · exact h2 b arr ‹_› e
      · rename_i hb
        rw [hheap b (by omega)]
        exact h.kok b arr e
    · dsimp only; rw [if_neg (by omega)]
    · dsimp only; rw [if_pos hx]
  have noref : (args.all fun w => w.cells.all fun c => !isRef c) = true → frzK β K get w (args.flatMap keysW) = K := by
    intro hn
    have hk : args.flatMap keysW = [] := by
      rw [List.flatMap_eq_nil_iff]
      intro u hu
      have hu2 := List.all_eq_true.1 hn u hu
      obtain ⟨u', hu', hro⟩ : ∃ u', u' ∈ args' ∧ roW get u = some u' := by
        obtain ⟨i, hi, he⟩ := List.mem_iff_getElem.1 hu
        obtain ⟨u', h1, h2⟩ := (All2.ofMap hargs).get? (List.getElem?_eq_getElem hi)
        rw [he] at h2
        exact ⟨u', List.mem_of_getElem? h1, h2⟩
      unfold keysW
      rw [List.flatMap_eq_nil_iff]
      intro cc hcc
      have h3 := List.all_eq_true.1 hu2 cc hcc
      have h4 : ∃ c', roC get cc = some c' := by
        cases u with
        | one c0 =>
          simp only [W.cells, List.mem_singleton] at hcc
          subst hcc
          simp only [roW, Option.map_eq_some_iff] at hro
          exact ⟨hro.choose, hro.choose_spec.1⟩
        | agg cs =>
          simp only [roW, Option.map_eq_some_iff] at hro
          obtain ⟨cs', h5, _⟩ := hro
          obtain ⟨i, hi, he⟩ := List.mem_iff_getElem.1 (show cc ∈ cs from hcc)
          obtain ⟨c', _, h6⟩ := (All2.ofMap h5).get? (List.getElem?_eq_getElem hi)
          rw [he] at h6
          exact ⟨c', h6⟩
      obtain ⟨c', h4⟩ := h4
      cases cc with
      | ref t k => simp [isRef] at h3
      | ptr k o => simp [roC] at h4
      | eptr k t i o => simp [roC] at h4
      | aptr k o m j => simp [roC] at h4
      | aeptr k t i o m j => simp [roC] at h4
      | asl t k o m => simp [isRef] at h3
      | fn f caps => cases caps with
        | nil => rfl
        | cons _ _ => simp [roC] at h4
      | _ => rfl
    rw [hk]
    funext b
    unfold frzK
    cases hq : K b with
    | some _ => rfl
    | none =>
      dsimp only
      rw [if_neg]
      rintro ⟨k, hk, _⟩
      simp at hk
  split at hl
  · cases hl
  · rename_i hcond
    split at hl
    · -- given away
      split at hl
      · rename_i rs' hrs'
        cases hl
        have hnr : (args.all fun w => w.cells.all fun c => !isRef c) = true := by simpa using hcond
        have hKe := noref hnr
        obtain ⟨K3, hle3, hok3, hlo, hhi⟩ := main (frzK β' K' (getO outs) w' (rs.flatMap keysW)) (fun b arr _ e => frzK_ok hR.kok b arr e)
        have hle : KLe (frzK β' K' (getO outs) w' (rs.flatMap keysW)) K3 := by
          intro b arr e
          by_cases hb : w.heap.size ≤ b
          · rw [hhi b hb]; exact e
          · rw [hlo b (by omega)]
            unfold frzK at e
            split at e
            · rename_i x hx
              cases e
              rcases hR.knew b _ hx with h1 | h1 | h1
              · rw [hKe] at h1; exact h1
              · exact absurd h1 (hempty b)
              · omega
            · split at e
              · rename_i hex
                obtain ⟨k, _, c, y, h1, h2, h3⟩ := hex
                have := hownb b ⟨k, c, y, h1, h2, h3⟩
                omega
              · cases e
        refine ⟨β, K3, BLe.refl β, hle3, hok3, ?_, ?_, h.fresh, Nat.le_refl _, hfr, fun x hx => .inl hx, (fun b arr e => by
          by_cases hb : w.heap.size ≤ b
          · exact .inr (.inr hb)
          · rw [hlo b (by omega)] at e; exact .inl e), fun _ _ => rfl⟩
        · refine outV_map hrs' hR.out fun c c' u hm hcc hu => ?_
          exact WR.mono (BLe.refl β) hle (roW_free hR.mr hcc hu (fun k hk => List.mem_flatMap.2 ⟨c, hm, hk⟩) β)
        · refine h.mr.step (BLe.refl β) hle3 fun k b e => .inl ⟨e, fun x y f g => ?_⟩
          have hx := h.mr.lt ⟨k, b, y, e, f, g⟩
          exact ⟨hheap x hx, by rw [hlo x hx]; exact h.mr.ro k b y x e f g⟩
      · cases hl
    · split at hl
      · rename_i rs' outs' hrs' houts'
        cases hl
        obtain ⟨K3, hle3, hok3, hlo, hhi⟩ := main K' (fun b arr _ e => hR.kok b arr e)
        -- what the results say of memory
        have hcase : KLe K' K3 ∨ ((∀ c ∈ rs, c.cells.all bare = true) ∧ ∀ b ∈ outs, flatB b = true) := by
          simp only [Bool.or_eq_true, Bool.and_eq_true] at hcond
          rcases hcond with hnr | ⟨⟨_, h1⟩, h2⟩
          · left
            have hKe := noref hnr
            intro b arr e
            by_cases hb : w.heap.size ≤ b
            · rw [hhi b hb]; exact e
            · rw [hlo b (by omega)]
              rcases hR.knew b arr e with h1 | h1 | h1
              · rw [hKe] at h1; exact h1
              · exact absurd h1 (hempty b)
              · omega
          · exact .inr ⟨List.all_eq_true.1 h1, List.all_eq_true.1 h2⟩
        have hout : OutR β' K3 rs v := outV_mono hR.out fun c hc u hu => by
          rcases hcase with hle | ⟨h1, _⟩
          · exact WR.mono (BLe.refl _) hle hu
          · exact bare_WR (h1 c hc) hu
        have hblk : ∀ i b y, getO outs i = some b → BR β' K' b y w' → BR β' K3 b y w' := by
          intro i b y hi hb
          rcases hcase with hle | ⟨_, h2⟩
          · exact hb.mono (BLe.refl _) hle
          · refine flat_BR (h2 _ ?_) hb
            unfold getO at hi
            cases hq : outs[i]? with
            | none => rw [hq] at hi; cases hi
            | some x => rw [hq] at hi; have hx : x = some b := hi; subst hx; exact List.mem_of_getElem? hq
        have hσ : ∀ k k' y, (fun i => some (n + i)) k = some k' → β' k = some y → addBs β n β' k' = some y := by
          intro k k' y e hy
          cases e
          unfold addBs
          rw [if_pos (by omega), Nat.add_sub_cancel_left]
          exact hy
        have hble : BLe β (addBs β n β') := by
          intro k y e
          unfold addBs
          rw [if_neg]
          · exact e
          · intro hk
            rw [h.fresh k hk] at e
            cases e
        refine ⟨addBs β n β', K3, hble, hle3, hok3, outV_ren hσ hrs' hout, ?_, ?_, by simp, hfr, ?_, (fun b arr e => by
          by_cases hb : w.heap.size ≤ b
          · exact .inr (.inr hb)
          · rw [hlo b (by omega)] at e; exact .inl e), fun k hk => by unfold addBs; rw [if_neg (by omega)]⟩
        · refine h.mr.step hble hle3 ?_
          intro k b e
          rcases getU_upds e hgn with ⟨hk, e1⟩ | ⟨hk, e1⟩
          · right
            obtain ⟨b0, e2, e3⟩ := mapO_getO houts' e1
            obtain ⟨y, hy, hbr⟩ := hR.mr.blk _ _ e2
            refine ⟨y, by unfold addBs; rw [if_pos hk]; exact hy, renB_ok hσ e3 (hblk _ _ _ e2 hbr), fun x hx => ?_⟩
            have hxs := hownb x ⟨_, b0, y, e2, hy, hx⟩
            refine ⟨by rw [hhi x hxs]; exact hR.mr.ro _ _ _ _ e2 hy hx, fun k' b' y' e' f' g' => ?_⟩
            rcases getU_upds e' hgn with ⟨hk', e1'⟩ | ⟨hk', e1'⟩
            · obtain ⟨b0', e2', _⟩ := mapO_getO houts' e1'
              unfold addBs at f'
              rw [if_pos hk'] at f'
              have := hR.mr.sep _ _ _ _ _ _ x e2' e2 f' hy g' hx
              omega
            · unfold addBs at f'
              rw [if_neg (by omega)] at f'
              have := h.mr.lt ⟨k', b', y', e1', f', g'⟩
              omega
          · refine .inl ⟨e1, fun x y f g => ?_⟩
            have hx := h.mr.lt ⟨k, b, y, e1, f, g⟩
            exact ⟨hheap x hx, by rw [hlo x hx]; exact h.mr.ro k b y x e1 f g⟩
        · intro k hk
          dsimp only at hk
          unfold addBs
          rw [if_pos (by omega)]
          exact hR.fresh _ (by omega)
        · rintro x ⟨k, b, y, e, f, g⟩
          rcases getU_upds e hgn with ⟨hk, e1⟩ | ⟨hk, e1⟩
          · right
            obtain ⟨b0, e2, e3⟩ := mapO_getO houts' e1
            unfold addBs at f
            rw [if_pos hk] at f
            exact hownb x ⟨_, b0, y, e2, f, g⟩
          · left
            unfold addBs at f
            rw [if_neg (by omega)] at f
            exact ⟨k, b, y, e1, f, g⟩
      · cases hl
end

end Go.Proofs.Ytmmdjajebmihhaa.AM

/- The abstract machine: evaluation where the language leaves an answer open: for all answers alike. Conditions: those that each lemma names. -/
namespace Go.Proofs.Ytmmdjajebmihhaa.AM
open Go
set_option linter.unusedVariables false

/-- What holds of the one answer for all of a family. -/
def AllSpec {ι R : Type} (F : (ι → Option R) → Option R) : Prop := (∀ f r, F f = some r → ∀ z, f z = some r) ∧ (Nonempty ι → ∀ f r, (∀ z, f z = some r) → F f = some r)
instance {ι R : Type} : Nonempty { F : (ι → Option R) → Option R // AllSpec F } := by
  classical
  refine ⟨⟨fun f => if h : ∃ r, ∀ z, f z = some r then some h.choose else none, fun f r h => ?_, fun ⟨z⟩ f r h => ?_⟩⟩
  · dsimp only at h
    split at h
    · rename_i hx
      cases h
      exact hx.choose_spec
    · cases h
  · have hx : ∃ r, ∀ z, f z = some r := ⟨r, h⟩
    dsimp only
    rw [dif_pos hx]
    exact (hx.choose_spec z).symm.trans (h z)
/-- One answer for all of a family, where all agree. -/
@[irreducible] noncomputable def allS (ι R : Type) : { F : (ι → Option R) → Option R // AllSpec F } := Classical.choice inferInstance
noncomputable def allK {ι R : Type} (f : ι → Option R) : Option R := (allS ι R).1 f

theorem allK_spec {ι R : Type} {f : ι → Option R} {r : R} (h : allK f = some r) : ∀ z, f z = some r := (allS ι R).2.1 f r h
theorem allK_intro {ι R : Type} [inh : Nonempty ι] {f : ι → Option R} {r : R} (h : ∀ z, f z = some r) : allK f = some r := (allS ι R).2.2 inh f r h

def Env.withSem (Γ : Env) (f : Nat) (sm : Mean) : Env := { Γ with sem := fun g => match Nat.beq f g with | true => some sm | false => Γ.sem g }

/-- A single's bits. -/
def Bits32 : Type := { z : Nat // z < 4294967296 }

inductive Alt where
  | no
  | call (f : Nat) (fam : Fam)
  | narrow (b : Nat)

def altConv (si : Option TI) (di : Option TI) (v : V) : Alt := match si, di, v with
  | some _, some di, .val (.one (.flt s b)) => match s with
    | .f64 => match di.sort with
      | .float d => match d with
        | .f32 => .narrow b
        | _ => .no
      | _ => .no
    | _ => .no
  | _, _, _ => .no

def altOf (Γ : Env) (N : Nat → Option Fam) (o : Oper) (ρ : Operand → V) : Alt := match o.guard with
  | some _ => .no
  | none => match o.op with
    | .call c => match c.callee with
      | .value x => match x with
        | .func f => match N f with
          | some fam => .call f fam
          | none => .no
        | _ => .no
      | _ => .no
    | .convert src dst x => altConv (Γ.tab src) (Γ.tab dst) (ρ x)
    | _ => .no

noncomputable def opsN {R : Type} (Γ : Env) (N : Nat → Option Fam) (ops : Array Oper) : List Oper → (St → Option R) → St → Option R
  | [], K, s => K s
  | o :: rest, K, s => match altOf Γ N o s.val with
    | .no => opsK Γ ops [o] s [] (fun s' _ => opsN Γ N ops rest K s')
    | .call f fam => allK fun z : fam.ι => runK (Γ.withSem f (fam.mean z)) o (fun s' _ => opsN Γ N ops rest K s') s
    | .narrow b => match narrowOk b with
      | true => opsK Γ ops [o] s [] (fun s' _ => opsN Γ N ops rest K s')
      | false => match dstOk Γ o.dst with
        | true => allK fun z : Bits32 => opsN Γ N ops rest K (s.putO o.dst (.val (.one (.flt .f32 z.1))))
        | false => none

theorem run_narrow (P : Program) {b b' : Nat} (h : FEq .f64 b b') (hb : narrowOk b = false) (w : World) :
    ∃ (r : Nat) (w' : World), r < 4294967296 ∧ (Conv.floatToFloat .f64 b' .f32).run P w = .ok (.float .f32 r) w' ∧ Still w w' := by
  unfold narrowOk at hb
  rw [Bool.not_eq_false'] at hb
  split at hb
  · rename_i s m e hdec
    have he : b = b' := by
      rcases h with h | ⟨h1, _⟩
      · exact h
      · obtain ⟨sg, f, hr⟩ := decode_nan h1
        unfold FloatKind.decode at hdec
        rw [hr] at hdec
        cases hdec
    subst he
    unfold Conv.floatToFloat
    rw [if_neg (by decide), hdec]
    dsimp only
    rw [if_pos hb]
    refine ⟨_, _, ?_, by simp only [Sem.run_bind, run_choose, Question.forced, Sem.run_pure]; rfl, drawn_still w⟩
    exact Nat.mod_lt _ (by decide)
  · cases hb

section
variable {P : Program} {Γ : Env} {z : Start} {ops : Array Oper} {N : Nat → Option Fam}

/-- A narrowing whose answer is open. -/
theorem ok_narrow {β : Bt} {K : Ks} {get : Get} {n : Nat} {w : World} {ρ : Operand → V} {a : Act} {o : Oper} (h : Pre P Γ β K get n w ρ a) {b : Nat} (ha : altOf Γ N o ρ = .narrow b) (hb : narrowOk b = false) :
    StepOK P o a w (fun v w' => ∃ z : Bits32, PostE β K get n w ⟨true, .val (.one (.flt .f32 z.1)), [], n⟩ v w') := by
  unfold altOf at ha
  split at ha
  · cases ha
  split at ha
  · split at ha
    · split at ha
      · split at ha <;> cases ha
      · cases ha
    · cases ha
  · rename_i src dst x ho
    unfold altConv at ha
    split at ha
    case h_2 => cases ha
    rename_i si di s b1 hs hd hx
    split at ha
    case h_2 => cases ha
    split at ha
    case h_2 => cases ha
    rename_i d hk
    split at ha
    case h_2 => cases ha
    cases ha
    obtain ⟨_, d1, _, _, hd1, _⟩ := (h.env.tab src si hs).ex
    obtain ⟨_, d2, _, _, hd2, _, _, _, _, _, hso, _⟩ := (h.env.tab dst di hd).ex
    have hv := h.one hx
    obtain ⟨b', he, hf⟩ := hv
    simp only [SrtOk, hk] at hso
    subst hso
    have exec : ∀ v w', (convert src dst (a.eval x)).run P w = .ok v w' → (execOp a.eval o).run P w = .ok (.value v) w' := fun v w' hr =>
      exec_v (s := convert src dst (a.eval x)) (by simp [execOp, ho]) hr
    rw [he] at exec
    obtain ⟨r, w', h1, h2, h3⟩ := run_narrow P hf hb w
    have hp : pure1 n true (.one (.flt .f32 r)) = some ⟨true, .val (.one (.flt .f32 r)), [], n⟩ := rfl
    intro next Q hn
    refine (h.pure1 hp (u := .float .f32 r) ⟨_, rfl, .inl rfl⟩ (exec _ w' ?_) h3) next Q fun v w2 hpost => hn v w2 ⟨⟨r, h1⟩, hpost⟩
    simp [convert, run_underlying hd1, run_underlying hd2, h2]
  · cases ha

theorem act_callN {Γ : Env} {o : Oper} {c : Call} {f : Nat} {T : Nat → V} {G : Get} {n : Nat} (ho : o.op = .call c) (hc : c.callee = .value (.func f)) :
    act Γ o (valT T) G n = match valsW (c.args.toList.map (valT T)) with
      | some ws => callF Γ o G n f (ws ++ ([] : List Nat).map fun k => .one (.ptr k 0))
      | none => none := by
  unfold act
  simp only [ho, hc, valT]
  cases valsW (c.args.toList.map (valT T)) <;> rfl

/-- A call whose answer is open. -/
theorem ok_callN {β : Bt} {K : Ks} {w : World} {F : FS} {a : Act} {o : Oper} (h : Pre P Γ β K F.G F.n w (valT F.T) a) {f : Nat} {fam : Fam} (hfam : FamOK P f fam) (ha : altOf Γ N o (valT F.T) = .call f fam)
    {out : fam.ι → Out} (hl : ∀ z, act (Γ.withSem f (fam.mean z)) o (valT F.T) F.G F.n = some (out z)) (hok : ∀ z, (out z).ok = true) :
    StepOK P o a w (fun v w' => ∃ z, PostE β K F.G F.n w (out z) v w') := by
  unfold altOf at ha
  split at ha
  · cases ha
  split at ha
  · rename_i c ho
    split at ha
    case h_2 => cases ha
    rename_i x hc
    split at ha
    case h_2 => cases ha
    rename_i g
    split at ha
    case h_2 => cases ha
    cases ha
    have hsem : ∀ z, (Γ.withSem f (fam.mean z)).sem f = some (fam.mean z) := fun z => by simp [Env.withSem]
    cases hw : valsW (c.args.toList.map (valT F.T)) with
    | none =>
      obtain ⟨z0⟩ := fam.inh
      have := hl z0
      rw [act_callN ho hc, hw] at this
      cases this
    | some ws =>
      have hl' : ∀ z, (match (fam.mean z).own with | true => callMut (fam.mean z) F.G F.n (ws ++ ([] : List Nat).map fun k => .one (.ptr k 0)) | false => callRo (fam.mean z) (match o.dst with | some d => hasN Γ.frz d | none => false) F.G F.n (ws ++ ([] : List Nat).map fun k => .one (.ptr k 0))) = some (out z) := by
        intro z
        have := hl z
        rw [act_callN ho hc, hw] at this
        dsimp only at this
        unfold callF at this
        rw [hsem z] at this
        exact this
      have hf : valT F.T (.func f) = .val (.one (.fn f [])) := rfl
      cases hown : fam.own with
      | true => exact ok_callMutN h ho hc hf hw hfam (fun z => by have := hl' z; rw [hfam.own z, hown] at this; exact this) hok
      | false => exact ok_callRoN h ho hc hf hw hfam (fun z => by have := hl' z; rw [hfam.own z, hown] at this; exact this) hok
  · unfold altConv at ha
    split at ha
    case h_2 => cases ha
    split at ha
    case h_2 => cases ha
    split at ha
    case h_2 => cases ha
    split at ha <;> cases ha
  · cases ha

theorem alt_guard {o : Oper} {ρ : Operand → V} (h : altOf Γ N o ρ ≠ .no) : o.guard = none := by
  unfold altOf at h
  split at h
  · exact absurd rfl h
  · assumption

theorem opsN_ok {R : Type} (env : EnvOK P Γ) (hN : ∀ f fam, N f = some fam → FamOK P f fam) {Q : Exit → Act → World → Prop} {r : R} {K : St → Option R} (hQ : ∀ s' a w, SR P Γ z s' a w → K s' = some r → Q .normal a w) :
    ∀ (L : List Oper) (i : Nat), ops.toList.drop i = L → i + L.length = ops.size → ∀ s, opsN Γ N ops L K s = some r → ∀ a w, SR P Γ z s a w → wpOps P ops Q (List.range' i L.length) a w
  | [], i, _, _, s, h, a, w, hs => hQ s a w hs h
  | o :: rest, i, hd, hi, s, h, a, w, hs => by
    rw [List.length_cons, List.range'_succ, wpOps_cons]
    simp only [List.length_cons] at hi
    have ho : ops[i]? = some o := by
      have : (ops.toList.drop i)[0]? = some o := by rw [hd]; rfl
      rw [List.getElem?_drop, Nat.add_zero, Array.getElem?_toList] at this
      exact this
    have hrest : ops.toList.drop (i + 1) = rest := by rw [← List.drop_drop, hd]; rfl
    have ih := opsN_ok env hN hQ rest (i + 1) hrest (by omega)
    obtain ⟨hm, β, Ks, hf⟩ := hs
    have det : opsK Γ ops [o] s [] (fun s' _ => opsN Γ N ops rest K s') = some r → wpOp P ops Q i (wpOps P ops Q (List.range' (i + 1) rest.length)) a w := by
      intro h
      obtain ⟨s', E, X, hstep, hm', h2⟩ := opsK_step h
      have h2 : opsN Γ N ops rest K s' = some r := h2
      have hw := wanted_run (β := β) (K := Ks) (a := a) (T := s.fs.T) hstep fun _ _ t _ _ => hf.tmp t
      unfold wpOp
      rw [ho]
      dsimp only
      rw [hw]
      cases hr : X.run with
      | true =>
        rw [if_pos rfl]
        left
        obtain ⟨_, out, h1, h2', h3, h4, h5, _⟩ := hstep.exec hr
        refine act_ok (ρ := valT s.fs.T) (get := s.fs.G) (n := s.fs.n) ⟨env, hf.kok, hf.mr, hf.fresh, fun x => eval_ok hf.tmp x⟩ h1 h2' _ _ fun v w' hp => ?_
        obtain ⟨β', K', hp⟩ := hp
        exact ih s' h2 _ _ ⟨hm'.trans hm, β', K', hf.next (x := out.v) hstep.dst hp (by rw [hstep.T, h3]) (by rw [hstep.G, h4]) h5⟩
      | false =>
        rw [if_neg (by simp)]
        obtain ⟨_, h1, h2', h3, _⟩ := hstep.skip hr
        exact ih s' h2 _ _ ⟨hm'.trans hm, β, Ks, hf.skip hstep.dst (by rw [hstep.T, h1]) (by rw [hstep.G, h2']; rfl) h3⟩
    have hpre : Pre P Γ β Ks s.fs.G s.fs.n w (valT s.fs.T) a := ⟨env, hf.kok, hf.mr, hf.fresh, fun x => eval_ok hf.tmp x⟩
    unfold opsN at h
    rw [val_fs] at h
    have wanted : o.guard = none → Region.wanted o (yielded ops a.tmps) = true := fun hg => by simp [Region.wanted, hg]
    split at h
    · exact det h
    · rename_i f fam halt
      have hg := alt_guard (o := o) (by rw [halt]; exact fun e => by cases e)
      have hfam : N f = some fam := by
        unfold altOf at halt
        rw [hg] at halt
        dsimp only at halt
        split at halt
        · split at halt
          · split at halt
            · split at halt
              · cases halt; assumption
              · cases halt
            · cases halt
          · cases halt
        · unfold altConv at halt
          split at halt
          case h_2 => cases halt
          split at halt
          case h_2 => cases halt
          split at halt
          case h_2 => cases halt
          split at halt <;> cases halt
        · cases halt
      have hall := allK_spec h
      have hspec := fun z => runK_spec (hall z)
      obtain ⟨out, hout⟩ := Classical.axiomOfChoice hspec
      unfold wpOp
      rw [ho]
      dsimp only
      rw [wanted hg, if_pos rfl]
      left
      refine ok_callN (F := s.fs) hpre (hN f fam hfam) halt (out := out) (fun z => (hout z).1) (fun z => (hout z).2.1) _ _ fun v w' hp => ?_
      obtain ⟨zz, β', K', hp⟩ := hp
      obtain ⟨_, _, h3, h4⟩ := hout zz
      refine ih _ h4 _ _ ⟨(by rw [(putO_get _ _ _).2.2]; exact hm), β', K', hf.next (x := (out zz).v) h3 hp ?_ ?_ ?_⟩
      · rw [putO_T]; rfl
      · rw [(putO_get _ _ _).1, apply_G]
      · rw [(putO_get _ _ _).2.1]; rfl
    · rename_i b halt
      have hg := alt_guard (o := o) (by rw [halt]; exact fun e => by cases e)
      split at h
      · exact det h
      · rename_i hnb
        split at h
        · rename_i hdst
          have hall := allK_spec h
          unfold wpOp
          rw [ho]
          dsimp only
          rw [wanted hg, if_pos rfl]
          left
          refine ok_narrow hpre halt hnb _ _ fun v w' hp => ?_
          obtain ⟨zz, β', K', hp⟩ := hp
          refine ih _ (hall zz) _ _ ⟨(by rw [(putO_get _ _ _).2.2]; exact hm), β', K', hf.next (x := .val (.one (.flt .f32 zz.1))) hdst hp ?_ ?_ ?_⟩
          · rw [putO_T]
          · rw [(putO_get _ _ _).1]; rfl
          · rw [(putO_get _ _ _).2.1]
        · cases h

end

end Go.Proofs.Ytmmdjajebmihhaa.AM

/- The abstract machine: regions in any order that call, once, a function whose answer is open. Conditions: those that each lemma names. -/
namespace Go.Proofs.Ytmmdjajebmihhaa.AM
open Go
set_option linter.unusedVariables false

/-! ## The check -/

/-- Operations that make no block, and look at no blocks but those of their operands. -/
def calmB (o : Oper) : Bool := (match o.guard with
  | none => true
  | some _ => false) && (match o.op with
  | .move _ => true
  | .assign _ => true
  | .load _ _ => true
  | .fieldAddr _ _ _ => true
  | .indexAddr _ _ _ => true
  | _ => false)

def foreign (f : Nat) (o : Oper) : Bool := match o.op with
  | .call c => match c.callee with
    | .value x => match x with
      | .func g => !Nat.beq g f
      | _ => false
    | .builtin _ => true
    | _ => false
  | _ => true

def restB (f p : Nat) : Nat → List Nat → List Oper → Bool
  | i, a :: as, o :: r => (match Nat.beq i p with
    | true => true
    | false => foreign f o && (Nat.blt i p || Nat.testBit a p || calmB o)) && restB f p (i + 1) as r
  | _, [], [] => true
  | _, _, _ => false

def callAlt (N : Nat → Option Fam) (o : Oper) : Option (Nat × Fam) := match o.guard with
  | some _ => none
  | none => match o.op with
    | .call c => match c.callee with
      | .value x => match x with
        | .func f => match N f with
          | some fam => some (f, fam)
          | none => none
        | _ => none
      | _ => none
    | _ => none

def openCall (N : Nat → Option Fam) : Nat → List Oper → Option (Nat × Nat × Fam)
  | _, [] => none
  | i, o :: r => match callAlt N o with
    | some (f, fam) => some (i, f, fam)
    | none => openCall N (i + 1) r

/-- A region whose order is open; a function whose answer is open may be called in it, once. -/
noncomputable def regN {R : Type} (Γ : Env) (N : Nat → Option Fam) (id : Nat) (ops : Array Oper) (K : Ex → St → Option R) (s : St) : Option R :=
  match openCall N 0 ops.toList with
  | none => EBk Γ (.region id ops true) K s
  | some (p, f, fam) => match restB f p 0 (ancs ops.toList []) ops.toList with
    | true => allK fun z : fam.ι => EBk (Γ.withSem f (fam.mean z)) (.region id ops true) K s
    | false => none

theorem callAlt_spec {N : Nat → Option Fam} {o : Oper} {f : Nat} {fam : Fam} (h : callAlt N o = some (f, fam)) : o.guard = none ∧ N f = some fam ∧ ∃ c, o.op = .call c ∧ c.callee = .value (.func f) := by
  unfold callAlt at h
  split at h
  · cases h
  rename_i hg
  split at h
  · rename_i c ho
    split at h
    · rename_i x hc
      split at h
      · split at h
        · rename_i hN
          cases h
          exact ⟨hg, hN, c, ho, hc⟩
        · cases h
      · cases h
    · cases h
  · cases h

theorem openCall_spec {N : Nat → Option Fam} : ∀ {L : List Oper} {i p f : Nat} {fam : Fam}, openCall N i L = some (p, f, fam) → i ≤ p ∧ ∃ o, L[p - i]? = some o ∧ callAlt N o = some (f, fam)
  | [], _, _, _, _, h => by simp [openCall] at h
  | o :: r, i, p, f, fam, h => by
    simp only [openCall] at h
    split at h
    · rename_i hc
      cases h
      exact ⟨Nat.le_refl _, o, by simp, hc⟩
    · obtain ⟨h1, o', h2, h3⟩ := openCall_spec h
      refine ⟨by omega, o', ?_, h3⟩
      rw [show p - i = (p - (i + 1)) + 1 by omega]
      exact h2

theorem restB_spec {f p : Nat} : ∀ {L : List Oper} {as : List Nat} {i : Nat}, restB f p i as L = true → ∀ j o a, L[j]? = some o → as[j]? = some a → i + j ≠ p → foreign f o = true ∧ (i + j < p ∨ a.testBit p = true ∨ calmB o = true)
  | [], _, _, _, j, o, a, ho, _, _ => by simp at ho
  | o0 :: r, [], _, h, _, _, _, _, ha, _ => by simp at ha
  | o0 :: r, a0 :: as, i, h, j, o, a, ho, ha, hj => by
    simp only [restB, Bool.and_eq_true] at h
    cases j with
    | zero =>
      simp only [List.getElem?_cons_zero, Option.some.injEq] at ho ha
      subst ho ha
      have h1 := h.1
      rw [nbeq_ne (by omega)] at h1
      simp only [Bool.and_eq_true, Bool.or_eq_true, Nat.blt_eq] at h1
      refine ⟨h1.1, ?_⟩
      rcases h1.2 with (h2 | h2) | h2
      · exact .inl (by omega)
      · exact .inr (.inl h2)
      · exact .inr (.inr h2)
    | succ j =>
      have := restB_spec h.2 j o a (by simpa using ho) (by simpa using ha) (by omega)
      rw [show i + (j + 1) = i + 1 + j by omega]
      exact this

/-! ## What does not hang on the answer -/

theorem act_foreign {Γ : Env} {f : Nat} {sm : Mean} {o : Oper} (hf : foreign f o = true) (T : Nat → V) (G : Get) (n : Nat) : act (Γ.withSem f sm) o (valT T) G n = act Γ o (valT T) G n := by
  obtain ⟨dst, op, type, pos, after, guard⟩ := o
  cases op with
  | call c =>
    obtain ⟨callee, args, ats⟩ := c
    cases callee with
    | value x =>
      cases x with
      | func g =>
        have hne : Nat.beq f g = false := by
          simp only [foreign, Bool.not_eq_true'] at hf
          refine nbeq_ne fun e => ?_
          subst e
          rw [show Nat.beq f f = true from Nat.beq_refl f] at hf
          cases hf
        simp only [act, valT]
        split
        · rename_i g' caps ws hg hw
          simp only [V.val.injEq, W.one.injEq, C.fn.injEq] at hg
          obtain ⟨rfl, rfl⟩ := hg
          unfold callF
          simp only [Env.withSem, hne]
        · rfl
      | _ => simp [foreign] at hf
    | builtin b => rfl
    | _ => simp [foreign] at hf
  | _ => rfl

theorem fp_calm {o : Oper} (hc : calmB o = true) {ρ ρ' : Operand → V} {G G' : Get} (h : ∀ x ∈ o.op.operands, ρ x = ρ' x) : fpOp o ρ G = fpOp o ρ' G' := by
  obtain ⟨dst, op, type, pos, after, guard⟩ := o
  cases op <;> simp [calmB] at hc <;> simp only [Op.operands] at h <;> simp only [fpOp]
  · rw [h _ (by simp)]
  · rw [h _ (by simp)]

theorem pure1_shift (n : Nat) (b : Bool) (w : W) : pure1 n b w = (pure1 0 b w).map fun x => { x with n := n } := rfl

theorem load_shift (G : Get) (n : Nat) (ag : Bool) (size : Nat) (v : V) : actLoad G n ag size v = (actLoad G 0 ag size v).map fun x => { x with n := n } := by
  unfold actLoad
  repeat' (first | rfl | split)

theorem load_upd {G : Get} {ag : Bool} {size : Nat} {v : V} {out : Out} (h : actLoad G 0 ag size v = some out) : out.upd = [] := by
  unfold actLoad at h
  repeat' (first | (cases h; done) | (simp only [pure1, Option.some.injEq] at h; subst h; rfl) | split at h)

theorem idx_shift (n size m : Nat) (x i : V) : actIdxArr n size m x i = (actIdxArr 0 size m x i).map fun x => { x with n := n } := by
  unfold actIdxArr
  repeat' (first | rfl | split)
theorem idx_upd {size m : Nat} {x i : V} {out : Out} (h : actIdxArr 0 size m x i = some out) : out.upd = [] := by
  unfold actIdxArr at h
  repeat' (first | (cases h; done) | (simp only [pure1, Option.some.injEq] at h; subst h; rfl) | split at h)

theorem act_shift {Γ : Env} {o : Oper} (hc : calmB o = true) (ρ : Operand → V) (G : Get) (n : Nat) : act Γ o ρ G n = (act Γ o ρ G 0).map fun x => { x with n := n } := by
  obtain ⟨dst, op, type, pos, after, guard⟩ := o
  cases op <;> simp [calmB] at hc <;> simp only [act]
  · rfl
  · rfl
  · split
    · exact load_shift _ _ _ _ _
    · rfl
  · repeat' (first | rfl | split)
  · split
    · split
      · split
        · repeat' (first | rfl | split)
        · rfl
      · split
        · exact idx_shift _ _ _ _ _
        · rfl
      · rfl
    · rfl

theorem act_upd {Γ : Env} {o : Oper} (hc : calmB o = true) {ρ : Operand → V} {G : Get} {out : Out} (h : act Γ o ρ G 0 = some out) : out.upd = [] := by
  obtain ⟨dst, op, type, pos, after, guard⟩ := o
  cases op <;> simp [calmB] at hc <;> simp only [act] at h
  · cases h; rfl
  · cases h; rfl
  · split at h
    · exact load_upd h
    · cases h
  · repeat' (first | (cases h; done) | (simp only [pure1, Option.some.injEq] at h; subst h; rfl) | split at h)
  · split at h
    · split at h
      · split at h
        · repeat' (first | (cases h; done) | (simp only [pure1, Option.some.injEq] at h; subst h; rfl) | split at h)
        · cases h
      · split at h
        · exact idx_upd h
        · cases h
      · cases h
    · cases h

theorem act_calm {Γ : Env} {o : Oper} (hc : calmB o = true) {ρ : Operand → V} {G : Get} {n : Nat} {out : Out} (h : act Γ o ρ G n = some out) : out.upd = [] ∧ out.n = n ∧ ∀ n', act Γ o ρ G n' = some { out with n := n' } := by
  rw [act_shift hc] at h
  cases h0 : act Γ o ρ G 0 with
  | none => rw [h0] at h; cases h
  | some x =>
    rw [h0] at h
    cases h
    exact ⟨show x.upd = [] from act_upd hc h0, rfl, fun n' => by rw [act_shift hc, h0]; rfl⟩

section
variable {P : Program} {Γ : Env} {z : Start} {ops : Array Oper} {Q : Exit → Act → World → Prop}

theorem boolV_ne (b : Bool) : boolV b ≠ boolV (!b) := by cases b <;> intro h <;> cases h
theorem boolV_tup (b : Bool) : boolV b ≠ .tup [] := by intro h; cases h

theorem run_agree {Γ1 Γ2 : Env} {o : Oper} {F F' F1 F2 : FS} {E E' : Ent} {X X' : Res} (h1 : StepR Γ1 ops o F E X F1) (h2 : StepR Γ2 ops o F' E' X' F2) (hT : ∀ g want t, o.guard = some (g, want) → gtmp ops g = some t → F.T t = F'.T t) : X.run = X'.run := by
  have key : ∀ {Γ1 Γ2 : Env} {F F' F1 F2 : FS} {E E' : Ent} {X X' : Res}, StepR Γ1 ops o F E X F1 → StepR Γ2 ops o F' E' X' F2 → (∀ g want t, o.guard = some (g, want) → gtmp ops g = some t → F.T t = F'.T t) → X.run = false → X'.run = true → False := by
    intro Γ1 Γ2 F F' F1 F2 E E' X X' h1 h2 hT e1 e2
    obtain ⟨⟨g, want, t, a1, a2, a3⟩, _⟩ := h1.skip e1
    obtain ⟨h, _⟩ := h2.exec e2
    rcases h with h | ⟨g', want', t', b1, b2, b3⟩
    · rw [h] at a1; cases a1
    · have := hT g want t a1 a2
      rw [a1] at b1; cases b1
      rw [a2] at b2; cases b2
      rw [this, b3] at a3
      rcases a3 with a3 | a3
      · exact boolV_ne _ a3
      · exact boolV_tup _ a3
  cases e1 : X.run <;> cases e2 : X'.run
  · rfl
  · exact (key h1 h2 hT e1 e2).elim
  · exact (key h2 h1 (fun g w t a b => (hT g w t a b).symm) e2 e1).elim
  · rfl

theorem StepR.det {Γ1 Γ2 : Env} {o : Oper} {F F1 F2 : FS} {E E' : Ent} {X X' : Res} (h1 : StepR Γ1 ops o F E X F1) (h2 : StepR Γ2 ops o F E' X' F2) (heq : ∀ T G n, act Γ1 o (valT T) G n = act Γ2 o (valT T) G n) : X = X' ∧ F1 = F2 := by
  have hrun := run_agree h1 h2 fun _ _ _ _ _ => rfl
  have hX : X = X' ∧ F1.n = F2.n := by
    cases e1 : X.run with
    | true =>
      obtain ⟨_, out, p1, _, p3, p4, p5, _⟩ := h1.exec e1
      obtain ⟨_, out', q1, _, q3, q4, q5, _⟩ := h2.exec (hrun ▸ e1)
      rw [heq, q1] at p1
      cases p1
      refine ⟨?_, by rw [p5, q5]⟩
      obtain ⟨v, u, r⟩ := X
      obtain ⟨v', u', r'⟩ := X'
      dsimp only at p3 p4 q3 q4 hrun
      rw [p3, p4, q3, q4, hrun]
    | false =>
      obtain ⟨_, p1, p2, p3, _⟩ := h1.skip e1
      obtain ⟨_, q1, q2, q3, _⟩ := h2.skip (hrun ▸ e1)
      refine ⟨?_, by rw [p3, q3]⟩
      obtain ⟨v, u, r⟩ := X
      obtain ⟨v', u', r'⟩ := X'
      dsimp only at p1 p2 q1 q2 hrun
      rw [p1, p2, q1, q2, hrun]
  refine ⟨hX.1, ?_⟩
  have hT : F1.T = F2.T := by rw [h1.T, h2.T, hX.1]
  have hG : F1.G = F2.G := by rw [h1.G, h2.G, hX.1]
  obtain ⟨a, b, c⟩ := F1
  obtain ⟨a', b', c'⟩ := F2
  have hn := hX.2
  dsimp only at hT hG hn
  rw [hT, hG, hn]

theorem TD_vs {T0 : Nat → V} {dst : Nat → Option Nat} {vs vs' : Nat → V} {D : Nat → Bool} {t : Nat} : ∀ (N : Nat), (∀ j, j < N → D j = true → vs j = vs' j) → TD T0 dst vs D N t = TD T0 dst vs' D N t
  | 0, _ => rfl
  | N + 1, h => by
    simp only [TD]
    rw [TD_vs N fun j hj => h j (by omega)]
    by_cases e : D N = true ∧ dst N = some t
    · rw [if_pos e, if_pos e, h N (by omega) e.1]
    · rw [if_neg e, if_neg e]
theorem GD_upd {G0 : Get} {upd upd' : Nat → List (Nat × Option Blk)} {D : Nat → Bool} : ∀ (N : Nat), (∀ j, j < N → D j = true → upd j = upd' j) → GD G0 upd D N = GD G0 upd' D N
  | 0, _ => rfl
  | N + 1, h => by
    simp only [GD]
    rw [GD_upd N fun j hj => h j (by omega)]
    by_cases e : D N = true
    · rw [if_pos e, if_pos e, h N (by omega) e]
    · rw [if_neg e, if_neg e]

theorem DS.sem {f : Nat} {sm : Mean} {F : Nat → FS} {X : Nat → Res} {D : Nat → Bool} {β : Bt} {K : Ks} {a : Act} {w : World} (h : DS P Γ z ops F X D β K a w) : DS P (Γ.withSem f sm) z ops F X D β K a w :=
  ⟨h.tmp, h.nt, h.defers, h.kok, h.mr, h.dom, h.kle, h.knew, h.fr, h.own, h.ble, h.le⟩
theorem DS.unsem {f : Nat} {sm : Mean} {F : Nat → FS} {X : Nat → Res} {D : Nat → Bool} {β : Bt} {K : Ks} {a : Act} {w : World} (h : DS P (Γ.withSem f sm) z ops F X D β K a w) : DS P Γ z ops F X D β K a w :=
  ⟨h.tmp, h.nt, h.defers, h.kok, h.mr, h.dom, h.kle, h.knew, h.fr, h.own, h.ble, h.le⟩
theorem SRf.unsem {f : Nat} {sm : Mean} {F : FS} {β : Bt} {K : Ks} {a : Act} {w : World} (h : SRf P (Γ.withSem f sm) z β K F a w) : SRf P Γ z β K F a w :=
  ⟨h.tmp, h.nt, h.defers, h.kok, h.mr, h.fresh, h.kle, h.knew, h.fr, h.own, h.ble, h.le⟩

/-- The runs of a region, one for each answer of its open call. -/
structure Runs (Γ : Env) (ops : Array Oper) (f : Nat) (fam : Fam) (p : Nat) (F : fam.ι → Nat → FS) (E : fam.ι → Nat → Ent) (X : fam.ι → Nat → Res) : Prop where
  rgn : ∀ y, Rgn (Γ.withSem f (fam.mean y)) ops (F y) (E y) (X y)
  start : ∀ y y', F y 0 = F y' 0
  other : ∀ i o, i ≠ p → ops[i]? = some o → foreign f o = true
  late : ∀ i o, p < i → ops[i]? = some o → ∀ D, Closed ops D → D i = true → D p = false → calmB o = true

variable {f : Nat} {fam : Fam} {p : Nat} {F : fam.ι → Nat → FS} {E : fam.ι → Nat → Ent} {X : fam.ι → Nat → Res}

theorem Runs.act (R : Runs Γ ops f fam p F E X) {i : Nat} {o : Oper} (hi : i ≠ p) (ho : ops[i]? = some o) (y y' : fam.ι) (T : Nat → V) (G : Get) (n : Nat) : AM.act (Γ.withSem f (fam.mean y)) o (valT T) G n = AM.act (Γ.withSem f (fam.mean y')) o (valT T) G n := by
  rw [act_foreign (R.other i o hi ho), act_foreign (R.other i o hi ho)]

theorem Runs.pre (R : Runs Γ ops f fam p F E X) (hp : p < ops.size) (y y' : fam.ι) : ∀ i, i ≤ p → F y i = F y' i ∧ ∀ j, j < i → X y j = X y' j
  | 0, _ => ⟨R.start y y', fun j h => by omega⟩
  | i + 1, h => by
    obtain ⟨h1, h2⟩ := R.pre hp y y' i (by omega)
    have ho : ops[i]? = some ops[i] := Array.getElem?_eq_getElem (by omega)
    have s1 := (R.rgn y).step i _ ho
    have s2 := (R.rgn y').step i _ ho
    rw [← h1] at s2
    obtain ⟨e1, e2⟩ := s1.det s2 (R.act (by omega) ho y y')
    refine ⟨e2, fun j hj => ?_⟩
    by_cases e : j = i
    · subst e; exact e1
    · exact h2 j (by omega)

theorem Runs.same (R : Runs Γ ops f fam p F E X) (hp : p < ops.size) (y y' : fam.ι) {D : Nat → Bool} (hc : Closed ops D) (hD : D p = false) : ∀ i, i < ops.size → D i = true → X y i = X y' i ∧ (p < i → (F y (i + 1)).n = (F y i).n) := by
  intro i
  induction i using Nat.strongRecOn with
  | _ i ih =>
    intro hi hDi
    have hne : i ≠ p := fun e => by subst e; rw [hD] at hDi; cases hDi
    rcases Nat.lt_or_ge i p with hlt | hge
    · exact ⟨(R.pre hp y y' p (Nat.le_refl _)).2 i hlt, fun h => by omega⟩
    have hpi : p < i := by omega
    have ho : ops[i]? = some ops[i] := Array.getElem?_eq_getElem hi
    have hcalm := R.late i _ hpi ho D hc hDi hD
    have hg : ops[i].guard = none := by
      unfold calmB at hcalm
      simp only [Bool.and_eq_true] at hcalm
      have := hcalm.1
      split at this
      · assumption
      · cases this
    -- those done ahead of it in the list
    obtain ⟨D', hD'⟩ : ∃ D' : Nat → Bool, D' = fun k => D k && Nat.blt k i := ⟨_, rfl⟩
    have hD'i : D' i = false := by
      rw [hD']
      dsimp only
      rw [show Nat.blt i i = false by
        cases hq : Nat.blt i i with
        | false => rfl
        | true => rw [Nat.blt_eq] at hq; omega, Bool.and_false]
    have hsub : ∀ k, D' k = true → D k = true ∧ k < i := fun k hk => by
      rw [hD'] at hk
      simp only [Bool.and_eq_true, Nat.blt_eq] at hk
      exact hk
    have hin : ∀ k, D k = true → k < i → D' k = true := fun k h1 h2 => by
      rw [hD']
      simp only [Bool.and_eq_true, Nat.blt_eq]
      exact ⟨h1, h2⟩
    have hc' : Closed ops D' := by
      intro k o hk hDk e he hb
      obtain ⟨h1, h2⟩ := hsub k hDk
      have h3 := hc k o hk h1 e he hb
      have h4 := (R.rgn y).edge k o hk e he hb
      exact hin _ h3 (by omega)
    have hb' : bound D' ops[i] := fun e he hb => hin _ (hc i _ ho hDi e he hb) ((R.rgn y).edge i _ ho e he hb)
    have hX : ∀ j, j < ops.size → D' j = true → X y j = X y' j := fun j hj hDj => (ih j (hsub j hDj).2 hj (hsub j hDj).1).1
    have hTX : ∀ t, TX ops (F y) (X y) D' t = TX ops (F y') (X y') D' t := fun t => by
      show TD (F y 0).T (gtmp ops) (fun i => (X y i).v) D' ops.size t = TD (F y' 0).T (gtmp ops) (fun i => (X y' i).v) D' ops.size t
      rw [R.start y y']
      exact TD_vs _ fun j hj hDj => by rw [hX j hj hDj]
    have hGX : GX ops (F y) (X y) D' = GX ops (F y') (X y') D' := by
      show GD (F y 0).G (fun i => (X y i).upd) D' ops.size = GD (F y' 0).G (fun i => (X y' i).upd) D' ops.size
      rw [R.start y y']
      exact GD_upd _ fun j hj hDj => by rw [hX j hj hDj]
    have hT : ∀ t, t ∈ looks ops ops[i] → (F y i).T t = (F y' i).T t := fun t ht => by
      rw [← (R.rgn y).lookT hc' ho hb' hD'i ht, ← (R.rgn y').lookT hc' ho hb' hD'i ht, hTX]
    have hρ : ∀ x ∈ ops[i].op.operands, valT (F y i).T x = valT (F y' i).T x := fun x hx => by
      cases x with
      | tmp t => exact hT t (List.mem_append_left _ (List.mem_filterMap.2 ⟨.tmp t, by simpa using hx, rfl⟩))
      | _ => rfl
    have s1 := (R.rgn y).step i _ ho
    have s2 := (R.rgn y').step i _ ho
    have hrun : ∀ {Γ' : Env} {F1 F2 : FS} {E' : Ent} {X' : Res}, StepR Γ' ops ops[i] F1 E' X' F2 → X'.run = true := by
      intro Γ' F1 F2 E' X' s
      cases e : X'.run with
      | true => rfl
      | false =>
        obtain ⟨⟨g, want, t, a1, _⟩, _⟩ := s.skip e
        rw [hg] at a1; cases a1
    obtain ⟨_, out, p1, _, p3, p4, p5, p6⟩ := s1.exec (hrun s1)
    obtain ⟨_, out', q1, _, q3, q4, q5, q6⟩ := s2.exec (hrun s2)
    have hfp := fp_calm hcalm (G := (F y i).G) (G' := (F y' i).G) hρ
    have hGk : ∀ k ∈ fpOp ops[i] (valT (F y' i).T) (F y i).G, (F y i).G k = (F y' i).G k := fun k hk => by
      have hk1 : k ∈ (E y i).fp := by rw [p6]; dsimp only; rw [hfp, fp_calm hcalm (G' := (F y i).G) (fun _ _ => rfl)]; exact hk
      have hk2 : k ∈ (E y' i).fp := by rw [q6]; dsimp only; rw [fp_calm hcalm (G' := (F y i).G) (fun _ _ => rfl)]; exact hk
      rw [← (R.rgn y).lookG hc' ho hb' hD'i hk1, ← (R.rgn y').lookG hc' ho hb' hD'i hk2, hGX]
    rw [R.act hne ho y y', act_rho hρ, act_get hGk] at p1
    obtain ⟨u1, u2, u3⟩ := act_calm hcalm p1
    rw [u3 (F y' i).n] at q1
    have hout : out' = { out with n := (F y' i).n } := (Option.some.inj q1).symm
    refine ⟨?_, fun _ => by rw [p5, u2]⟩
    have hr1 := hrun s1
    have hr2 := hrun s2
    generalize X y i = A at *
    generalize X y' i = B at *
    obtain ⟨v, u, r⟩ := A
    obtain ⟨v', u', r'⟩ := B
    dsimp only at p3 p4 q3 q4 hr1 hr2
    rw [p3, p4, q3, q4, hr1, hr2, hout]

theorem Runs.TX (R : Runs Γ ops f fam p F E X) (hp : p < ops.size) (y y' : fam.ι) {D : Nat → Bool} (hc : Closed ops D) (hD : D p = false) (t : Nat) : AM.TX ops (F y) (X y) D t = AM.TX ops (F y') (X y') D t := by
  show TD (F y 0).T (gtmp ops) (fun i => (X y i).v) D ops.size t = TD (F y' 0).T (gtmp ops) (fun i => (X y' i).v) D ops.size t
  rw [R.start y y']
  exact TD_vs _ fun j hj hDj => by rw [(R.same hp y y' hc hD j hj hDj).1]
theorem Runs.GX (R : Runs Γ ops f fam p F E X) (hp : p < ops.size) (y y' : fam.ι) {D : Nat → Bool} (hc : Closed ops D) (hD : D p = false) : AM.GX ops (F y) (X y) D = AM.GX ops (F y') (X y') D := by
  show GD (F y 0).G (fun i => (X y i).upd) D ops.size = GD (F y' 0).G (fun i => (X y' i).upd) D ops.size
  rw [R.start y y']
  exact GD_upd _ fun j hj hDj => by rw [(R.same hp y y' hc hD j hj hDj).1]

/-- As long as the open call is not done, what is done does not hang on its answer. -/
theorem Runs.switch (R : Runs Γ ops f fam p F E X) (hp : p < ops.size) (y y' : fam.ι) {D : Nat → Bool} (hc : Closed ops D) (hD : D p = false) {β : Bt} {K : Ks} {a : Act} {w : World}
    (h : DS P Γ z ops (F y) (X y) D β K a w) : DS P Γ z ops (F y') (X y') D β K a w := by
  have hT := R.TX hp y y' hc hD
  have hG := R.GX hp y y' hc hD
  refine ⟨fun t => by rw [← hT t]; exact h.tmp t, h.nt, h.defers, h.kok, by rw [← hG]; exact h.mr, ?_, h.kle, h.knew, h.fr, by rw [← hG]; exact h.own, h.ble, by rw [← R.start y y']; exact h.le⟩
  intro k hk
  rcases h.dom k hk with h1 | ⟨i, h1, h2, h3, h4⟩
  · exact .inl (by rw [← R.start y y']; exact h1)
  · have hne : i ≠ p := fun e => by subst e; rw [hD] at h2; cases h2
    rcases Nat.lt_or_ge i p with hlt | hge
    · refine .inr ⟨i, h1, h2, ?_⟩
      rw [← (R.pre hp y y' i (by omega)).1, ← (R.pre hp y y' (i + 1) (by omega)).1]
      exact ⟨h3, h4⟩
    · have := (R.same hp y y' hc hD i h1 h2).2 (by omega)
      omega

theorem ok_callG {β : Bt} {K : Ks} {get : Get} {n : Nat} {w : World} {ρ : Operand → V} {a : Act} {o : Oper} (h : Pre P Γ β K get n w ρ a) (hfam : FamOK P f fam) {c : Call} (ho : o.op = .call c) (hc : c.callee = .value (.func f))
    (hf : ρ (.func f) = .val (.one (.fn f []))) {out : fam.ι → Out} (hl : ∀ y, AM.act (Γ.withSem f (fam.mean y)) o ρ get n = some (out y)) (hok : ∀ y, (out y).ok = true) :
    StepOK P o a w (fun v w' => ∃ y, PostE β K get n w (out y) v w') := by
  have hsem : ∀ y, (Γ.withSem f (fam.mean y)).sem f = some (fam.mean y) := fun y => by simp [Env.withSem]
  have hact : ∀ y, AM.act (Γ.withSem f (fam.mean y)) o ρ get n = match valsW (c.args.toList.map ρ) with
      | some ws => callF (Γ.withSem f (fam.mean y)) o get n f (ws ++ ([] : List Nat).map fun k => .one (.ptr k 0))
      | none => none := by
    intro y
    unfold AM.act
    simp only [ho, hc, hf]
    cases valsW (c.args.toList.map ρ) <;> rfl
  cases hw : valsW (c.args.toList.map ρ) with
  | none =>
    obtain ⟨y0⟩ := fam.inh
    have := hl y0
    rw [hact, hw] at this
    cases this
  | some ws =>
    have hl' : ∀ y, (match (fam.mean y).own with | true => callMut (fam.mean y) get n (ws ++ ([] : List Nat).map fun k => .one (.ptr k 0)) | false => callRo (fam.mean y) (match o.dst with | some d => hasN Γ.frz d | none => false) get n (ws ++ ([] : List Nat).map fun k => .one (.ptr k 0))) = some (out y) := by
      intro y
      have := hl y
      rw [hact, hw] at this
      dsimp only at this
      unfold callF at this
      rw [hsem y] at this
      exact this
    cases hown : fam.own with
    | true => exact ok_callMutN h ho hc hf hw hfam (fun y => by have := hl' y; rw [hfam.own y, hown] at this; exact this) hok
    | false => exact ok_callRoN h ho hc hf hw hfam (fun y => by have := hl' y; rw [hfam.own y, hown] at this; exact this) hok

theorem Runs.step (R : Runs Γ ops f fam p F E X) (env : EnvOK P Γ) (hfam : FamOK P f fam) {o : Oper} (hp : ops[p]? = some o) (hg : o.guard = none) {c : Call} (hop : o.op = .call c) (hcal : c.callee = .value (.func f))
    {y : fam.ι} {D : Nat → Bool} {β : Bt} {K : Ks} {a : Act} {w : World} (h : DS P Γ z ops (F y) (X y) D β K a w) (hc : Closed ops D) (hb : bound D o) (hD : D p = false)
    {next : Act → World → Prop} (hn : ∀ y' β K a w, DS P Γ z ops (F y') (X y') (addD D p) β K a w → next a w) : wpOp P ops Q p next a w := by
  have hlt : p < ops.size := (Array.getElem?_eq_some_iff.1 hp).1
  have hsw : ∀ y', DS P Γ z ops (F y') (X y') D β K a w := fun y' => R.switch hlt y y' hc hD h
  have hF : ∀ y', F y' p = F y p := fun y' => (R.pre hlt y' y p (Nat.le_refl _)).1
  have hrun : ∀ y', (X y' p).run = true := by
    intro y'
    cases e : (X y' p).run with
    | true => rfl
    | false =>
      obtain ⟨⟨g, want, t, a1, _⟩, _⟩ := ((R.rgn y').step p o hp).skip e
      rw [hg] at a1; cases a1
  have hex := fun y' => (((R.rgn y').step p o hp).exec (hrun y')).2
  obtain ⟨out, hout⟩ := Classical.axiomOfChoice hex
  unfold wpOp
  rw [hp]
  dsimp only
  rw [show Region.wanted o (yielded ops a.tmps) = true by simp [Region.wanted, hg], if_pos rfl]
  left
  have hlook : ∀ t, t ∈ looks ops o → VR β K ((F y p).T t) (a.tmps.getD t undef) := fun t ht => by rw [← (R.rgn y).lookT hc hp hb hD ht]; exact h.tmp t
  refine one_fam (ι := fam.ι) fam.inh (β := β) (K := K) (ρ := valT (F y p).T) (G := (F y p).G) (Gc := AM.GX ops (F y) (X y) D) (n := (F y p).n) (out := out) env ?_ ?_ ?_ h.kok h.mr ?_ ?_ _ _ fun v w' hpost => ?_
  · intro ρr Gr e1 e2 hpre
    refine ok_callG hpre hfam hop hcal ?_ (fun y' => ?_) fun y' => (hout y').2.1
    · rw [← e1 (.func f) (by rw [hop]; simp [Op.operands, Call.operands, hcal])]
      rfl
    · have := (hout y').1
      rw [hF y'] at this
      rw [← this, ← act_rho e1]
      exact (act_get fun k hk => e2 k hk).symm
  · intro y'
    have h1 := (R.rgn y').kb p hlt
    rw [(hout y').2.2.2.2.2, hF y'] at h1
    exact h1
  · intro k hk
    refine (R.rgn y).lookG hc hp hb hD ?_
    rw [(hout y).2.2.2.2.2]
    exact hk
  · intro y' k h1 h2
    refine (hsw y').sem.free (R.rgn y') hlt hD k (by rw [hF y']; exact h1) ?_
    rw [(hout y').2.2.2.2.1]
    exact h2
  · intro x hx
    cases x with
    | tmp t =>
      refine hlook t ?_
      unfold looks looksO
      exact List.mem_append_left _ (List.mem_filterMap.2 ⟨.tmp t, by simpa using hx, rfl⟩)
    | const v => exact constV_ok v
    | global g => exact pois_VR
    | func f => exact ⟨[], rfl, trivial⟩
  · obtain ⟨y', β', K', hp'⟩ := hpost
    have h' := hsw y'
    have hG' := R.GX hlt y y' hc hD
    obtain ⟨_, _, h3, h4, h5, _⟩ := hout y'
    have hs := (R.rgn y').step p o hp
    have hT' : ∀ t, VR β K (AM.TX ops (F y') (X y') D t) (a.tmps.getD t undef) := h'.tmp
    obtain ⟨g1, g2, g3⟩ := tmp_put (Γ := Γ) (d := o.dst) (x := (out y').v) (v := v) hT' hp'.ble hp'.kle h'.nt hs.dst hp'.vr
    refine hn y' β' K' _ _ ⟨?_, g2, g3.trans h'.defers, hp'.kok, ?_, ?_, h'.kle.trans hp'.kle, ?_, ?_, ?_, fun k y hk e => hp'.ble _ _ (h'.ble k y hk e), h'.le⟩
    · rw [(R.rgn y').addT hc hp hD, h3]; exact g1
    · rw [(R.rgn y').addG hc hp hD, h4, ← hG']; exact hp'.mr
    · intro k hk
      rcases hp'.dom k hk with h7 | ⟨h7, h8⟩
      · rcases h'.dom k h7 with h9 | ⟨j, h9, h10, h11⟩
        · exact .inl h9
        · exact .inr ⟨j, h9, by simp [addD, h10], h11⟩
      · exact .inr ⟨p, hlt, addD_self, by rw [hF y']; exact h7, by rw [h5]; exact h8⟩
    · intro b arr e
      rcases hp'.knew b arr e with h7 | h7 | h7
      · exact h.knew b arr h7
      · exact .inr (h.own b h7)
      · exact .inr (.inr (Nat.le_trans h.fr.size h7))
    · exact h.fr.trans hp'.fr fun x hx hs => (h.own x hs).resolve_right (by omega)
    · intro x hx
      rw [(R.rgn y').addG hc hp hD, h4, ← hG'] at hx
      rcases hp'.own x hx with h7 | h7
      · exact h.own x h7
      · exact .inr (Nat.le_trans h.fr.size h7)

theorem Runs.any (R : Runs Γ ops f fam p F E X) (env : EnvOK P Γ) (hfam : FamOK P f fam) {op : Oper} (hp : ops[p]? = some op) (hg : op.guard = none) {c : Call} (hop : op.op = .call c) (hcal : c.callee = .value (.func f))
    (hQ : ∀ y β K a w, SRf P Γ z β K (F y ops.size) a w → Q .normal a w) :
    ∀ (fuel : Nat) (listed : Array Bool), listed.size = ops.size → cnt (fun k => listed.getD k false) ops.size ≤ fuel → Closed ops (fun k => listed.getD k false) →
    ∀ y β K a w, DS P Γ z ops (F y) (X y) (fun k => listed.getD k false) β K a w → wpAny P .any ops Q fuel listed a w := by
  have hall : ∀ (listed : Array Bool), listed.size = ops.size → Region.ready .any ops listed = [] → ∀ i, i < ops.size → listed.getD i false = true := by
    intro listed hsz hr i
    induction i using Nat.strongRecOn with
    | _ i ih =>
      intro hi
      cases hq : listed.getD i false with
      | true => rfl
      | false =>
        exfalso
        have ho : ops[i]? = some ops[i] := Array.getElem?_eq_getElem hi
        have : i ∈ Region.ready .any ops listed := by
          rw [mem_ready]
          refine ⟨?_, _, ho, fun e he hb => ?_⟩
          · have hlt : i < listed.size := by omega
            simp [hlt] at hq ⊢
            exact hq
          · obtain ⟨y0⟩ := fam.inh
            have hlt := (R.rgn y0).edge i _ ho e he hb
            exact ih e.on hlt (by omega)
        rw [hr] at this
        cases this
  intro fuel
  induction fuel with
  | zero =>
    intro listed hsz hc hcl y β K a w h
    have hD := cnt_zero (Nat.le_zero.1 hc)
    refine ⟨?_, hQ y β K a w (h.sem.all (R.rgn y) hD).unsem⟩
    cases hr : Region.ready .any ops listed with
    | nil => rfl
    | cons i r =>
      exfalso
      have hm : i ∈ Region.ready .any ops listed := by rw [hr]; exact List.mem_cons_self ..
      obtain ⟨h1, o, ho, _⟩ := mem_ready.1 hm
      have hlt : i < ops.size := (Array.getElem?_eq_some_iff.1 ho).1
      have h2 := hD i hlt
      have hlt2 : i < listed.size := by omega
      simp [hlt2] at h1 h2
      rw [h1] at h2
      cases h2
  | succ fuel ih =>
    intro listed hsz hc hcl y β K a w h
    refine ⟨fun hr => hQ y β K a w (h.sem.all (R.rgn y) (hall listed hsz hr)).unsem, fun i hi => ?_⟩
    obtain ⟨h1, o, ho, h2⟩ := mem_ready.1 hi
    have hlt : i < ops.size := (Array.getElem?_eq_some_iff.1 ho).1
    have hlt2 : i < listed.size := by omega
    have hDi : (fun k => listed.getD k false) i = false := by
      simp [hlt2] at h1 ⊢
      exact h1
    have hD' : (fun k => (listed.setIfInBounds i true).getD k false) = addD (fun k => listed.getD k false) i := by
      funext k
      by_cases hk : k = i
      · subst hk
        rw [addD_self]
        simp [hlt2]
      · rw [addD_ne hk]
        exact getD_set_ne false (Ne.symm hk)
    have hbo : bound (fun k => listed.getD k false) o := fun e he hb => h2 e he hb
    have hnext : ∀ y' β' K' a' w', DS P Γ z ops (F y') (X y') (addD (fun k => listed.getD k false) i) β' K' a' w' → wpAny P .any ops Q fuel (listed.setIfInBounds i true) a' w' := by
      intro y' β' K' a' w' h'
      refine ih (listed.setIfInBounds i true) (by simpa using hsz) ?_ ?_ y' β' K' a' w' (by rw [hD']; exact h')
      · rw [hD']
        have := cnt_add (D := fun k => listed.getD k false) hDi hlt
        omega
      · rw [hD']
        exact hcl.add ho hbo
    by_cases hip : i = p
    · subst hip
      rw [hp] at ho
      cases ho
      exact R.step env hfam hp hg hop hcal h hcl hbo hDi hnext
    · exact DS.step env (R.rgn y) h.sem hcl ho (fun T G n => act_foreign (R.other i o hip ho) T G n) hbo hDi fun β' K' a' w' h' => hnext y β' K' a' w' h'.unsem

theorem regN_ok {R : Type} (env : EnvOK P Γ) {N : Nat → Option Fam} (hN : ∀ f fam, N f = some fam → FamOK P f fam) {id : Nat} {K : Ex → St → Option R} {s : St} {r : R} (h : regN Γ N id ops K s = some r) {a : Act} {w : World} (hs : SR P Γ z s a w) :
    (Code.region id ops true).wp P (Lands P Γ z K r) a w := by
  unfold regN at h
  split at h
  · exact EBk_ok env (.region id ops true) (fun c' hc' => by cases hc') K s r h a w hs
  · rename_i p f fam hopen
    split at h
    case h_2 => cases h
    rename_i hrest
    obtain ⟨_, op, hop, halt⟩ := openCall_spec hopen
    rw [Nat.sub_zero] at hop
    obtain ⟨hg, hNf, c, hcall, hcal⟩ := callAlt_spec halt
    have hall := allK_spec h
    have hrun : ∀ y : fam.ι, ∃ (q : (Nat → FS) × (Nat → Ent) × (Nat → Res) × St), q.1 0 = s.fs ∧ q.1 ops.size = q.2.2.2.fs ∧ q.2.2.2.m = s.m ∧ (∀ i o, ops[i]? = some o → StepR (Γ.withSem f (fam.mean y)) ops o (q.1 i) (q.2.1 i) (q.2.2.1 i) (q.1 (i + 1))) ∧
        drawOk ops (((List.range ops.size).map q.2.1).reverse ++ []) = true ∧ K .normal q.2.2.2 = some r := by
      intro y
      have hy := hall y
      unfold EBk at hy
      obtain ⟨F, E, X, s', f0, fl, fm, fs, fk⟩ := opsK_run ops.toList hy
      rw [Array.length_toList] at fl fk
      dsimp only at fk
      split at fk
      · rename_i hd
        exact ⟨(F, E, X, s'), f0, fl, fm, fun i o e => fs i o (by rw [Array.getElem?_toList]; exact e), hd, fk⟩
      · cases fk
    obtain ⟨q, hq⟩ := Classical.axiomOfChoice hrun
    have hp : ops[p]? = some op := by rw [← Array.getElem?_toList]; exact hop
    have hlt : p < ops.size := (Array.getElem?_eq_some_iff.1 hp).1
    have R : Runs Γ ops f fam p (fun y => (q y).1) (fun y => (q y).2.1) (fun y => (q y).2.2.1) := by
      refine ⟨fun y => ?_, fun y y' => (hq y).1.trans (hq y').1.symm, fun i o hi ho => ?_, fun i o hi ho D hc hD hDp => ?_⟩
      · obtain ⟨_, _, _, h4, h5, _⟩ := hq y
        obtain ⟨d1, d2, d3⟩ := draw_spec h5
        exact ⟨h4, d1, d2, d3⟩
      · have hlen : i < (ancs ops.toList []).length := by rw [ancs_length]; have := (Array.getElem?_eq_some_iff.1 ho).1; simpa using this
        exact (restB_spec hrest i o _ (by rw [Array.getElem?_toList]; exact ho) (List.getElem?_eq_getElem hlen) (by omega)).1
      · have hlen : i < (ancs ops.toList []).length := by rw [ancs_length]; have := (Array.getElem?_eq_some_iff.1 ho).1; simpa using this
        have ha := List.getElem?_eq_getElem hlen
        rcases (restB_spec hrest i o _ (by rw [Array.getElem?_toList]; exact ho) ha (by omega)).2 with h1 | h1 | h1
        · omega
        · have := ancs_bit (D := D) ops.toList [] (fun i o e hd => hc i o (by rw [← Array.getElem?_toList]; exact e) (by simpa using hd)) (fun p x e => by simp at e) i _ ha hD p h1
          rw [hDp] at this
          cases this
        · exact h1
    obtain ⟨hm, β, Ks, hf⟩ := hs
    obtain ⟨y0⟩ := fam.inh
    have hrep : ∀ k, (Array.replicate ops.size false).getD k false = false := by
      intro k
      simp only [Array.getD_eq_getD_getElem?, Array.getElem?_replicate]
      split <;> rfl
    have hf0 : SRf P (Γ.withSem f (fam.mean y0)) z β Ks ((q y0).1 0) a { w with drawn := w.drawn + 1 } := by
      rw [(hq y0).1]
      have := hf.still (w' := { w with drawn := w.drawn + 1 }) ⟨rfl, rfl, rfl, rfl⟩
      exact ⟨this.tmp, this.nt, this.defers, this.kok, this.mr, this.fresh, this.kle, this.knew, this.fr, this.own, this.ble, this.le⟩
    refine wp_region_any env.mixed (R.any (z := z) env (hN f fam hNf) hp hg hcall hcal (fun y β K' a w h => ⟨(q y).2.2.2, ⟨(hq y).2.2.1.trans hm, β, K', by rw [← (hq y).2.1]; exact h⟩, (hq y).2.2.2.2.2⟩) ops.size _ (by simp) ?_ ?_ y0 β Ks _ _ ?_)
    · have : ∀ N, cnt (fun k => (Array.replicate ops.size false).getD k false) N = N := by
        intro N
        induction N with
        | zero => rfl
        | succ N ih =>
          simp only [cnt]
          rw [if_neg (by rw [hrep]; simp), ih]
          omega
      rw [this]
      exact Nat.le_refl _
    · intro i o hi hD
      dsimp only at hD
      rw [hrep] at hD
      cases hD
    · exact (DS.start (R.rgn y0) hf0 hrep).unsem
end

end Go.Proofs.Ytmmdjajebmihhaa.AM

/- The abstract machine: code and calls where answers are open. Conditions: those that each lemma names. -/
namespace Go.Proofs.Ytmmdjajebmihhaa.AM
open Go
set_option linter.unusedVariables false

/-- Some ends of a loop: by return?, behind it, at the return. -/
structure SFam where
  ι : Type
  inh : Nonempty ι
  out : ι → Bool × St × St

structure NLoop where
  m : LoopM
  run : St → Option (Bool × SFam)

structure NEnv where
  fam : Nat → Option Fam
  loops : Nat → Option NLoop

def outK {R : Type} (L : LoopM) (K : Ex → St → Option R) (p : Bool × St × St) : Option R := match p.1 with
  | true => K .ret p.2.2
  | false => K (.exit L.ex) p.2.1

noncomputable def runN {R : Type} (L : NLoop) (K : Ex → St → Option R) (s : St) : Option R :=
  match canon L.m.live L.m.own s with
  | none => none
  | some s0 => match L.run s0 with
    | none => none
    | some (ok, fam) => match ok with
      | true => allK fun z => outK L.m K (fam.out z)
      | false => none

noncomputable def EBn {R : Type} (Γ : Env) (N : NEnv) : Code → (Ex → St → Option R) → St → Option R
  | .seq x y, K, s => EBn Γ N x (fun e s' => match e with
    | .normal => EBn Γ N y K s'
    | e => K e s') s
  | .cond c x y, K, s => match s.val c with
    | .val (.one (.bool b)) => match b with
      | true => EBn Γ N x (joinK (look Γ.cut (condT c)) K) (s.putC c true)
      | false => EBn Γ N y (joinK (look Γ.cut (condT c)) K) (s.putC c false)
    | _ => none
  | .block id x, K, s => EBn Γ N x (blockK id (look Γ.past id) K) s
  | .loop c, K, s => match N.loops (firstRegion c) with
    | some L => runN L K s
    | none => EBk Γ (.loop c) K s
  | .region id ops d, K, s => match d with
    | false => opsN Γ N.fam ops ops.toList (fun s' => K .normal s') s
    | true => regN Γ N.fam id ops K s
  | .skip, K, s => K .normal s
  | .label _, K, s => K .normal s
  | .exit id, K, s => K (.exit id) s
  | .ret, K, s => EBk Γ .ret K s
  | _, _, _ => none

noncomputable def loopN {R : Type} (Γ : Env) (N : NEnv) (c : Code) (L : LoopM) (K : Ex → St → Option R) : Nat → St → Option R
  | 0, _ => none
  | k + 1, s => EBn Γ N c (roundK L.live L.own L.ex L.past L.pown (loopN Γ N c L K k) K) s

/-- A loop's meaning is right. -/
def NLoopSound (Γ : Env) (N : NEnv) (c : Code) (L : NLoop) : Prop :=
  ∀ s0 fam, L.run s0 = some (true, fam) → ∀ (R : Type) (K : Ex → St → Option R) (r : R), (∀ z, outK L.m K (fam.out z) = some r) → ∃ n, loopN Γ N c L.m K n s0 = some r

def NLoopsOK (Γ : Env) (N : NEnv) (c : Code) : Prop := ∀ c' ∈ loopsOf c, ∀ L, N.loops (firstRegion c') = some L → NLoopSound Γ N c' L

def NOK (P : Program) (N : NEnv) : Prop := ∀ f fam, N.fam f = some fam → FamOK P f fam

/-- The whole of a function. -/
noncomputable def callN {R : Type} (Γ : Env) (N : NEnv) (c : Code) (f : List W × List (Option Blk) → Option R) (args : List W) (ins : List Blk) : Option R :=
  match Nat.ble args.length Γ.nt with
  | true => EBn Γ N c (fun e s => match e with
    | .exit _ => none
    | _ => match fin Γ s with
      | some r => f r
      | none => none) (initS args ins)
  | false => none

section
variable {P : Program} {Γ : Env} {z : Start}

theorem loop_okN {R : Type} {N : NEnv} {c : Code} {L : LoopM} {K : Ex → St → Option R} {r : R}
    (hc : ∀ (K : Ex → St → Option R) s r, EBn Γ N c K s = some r → ∀ a w, SR P Γ z s a w → c.wp P (Lands P Γ z K r) a w) (n : Nat) {s : St} (h : loopN Γ N c L K n s = some r) {a : Act} {w : World} (hs : SR P Γ z s a w) :
    (Code.loop c).wp P (Lands P Γ z K r) a w := by
  classical
  let J : Act → World → Nat → Prop := fun a w k => ∃ s, SR P Γ z s a w ∧ loopN Γ N c L K k s = some r
  let I : Act → World → Prop := fun a w => ∃ k, J a w k
  have hmin : ∀ a w, I a w → ∃ k, J a w k ∧ ∀ j, j < k → ¬ J a w j := fun a w ⟨k, hk⟩ => least k hk
  let μ : Act → World → Nat := fun a w => if h : I a w then (hmin a w h).choose else 0
  have hμ : ∀ a w, I a w → J a w (μ a w) ∧ ∀ j, j < μ a w → ¬ J a w j := by
    intro a w hI
    have : μ a w = (hmin a w hI).choose := dif_pos hI
    rw [this]
    exact (hmin a w hI).choose_spec
  refine wp_loop I μ ⟨n, s, hs, h⟩ fun a w hI => ?_
  obtain ⟨⟨s, hs, hk⟩, _⟩ := hμ a w hI
  cases hn : μ a w with
  | zero => rw [hn] at hk; simp [loopN] at hk
  | succ k =>
    rw [hn] at hk
    simp only [loopN] at hk
    refine wp_mono (hc _ s r hk a w hs) fun e a' w' he => ?_
    cases e with
    | normal =>
      obtain ⟨s', hs', hk'⟩ := he
      unfold roundK at hk'
      dsimp only at hk'
      split at hk'
      · rename_i s'' hc'
        have hJ : J a' w' k := ⟨s'', canon_ok hs' hc', hk'⟩
        have hI' : I a' w' := ⟨k, hJ⟩
        refine ⟨hI', ?_⟩
        have h2 := (hμ a' w' hI').2 k
        rcases Nat.lt_or_ge k (μ a' w') with h3 | h3
        · exact absurd hJ (h2 h3)
        · omega
      · cases hk'
    | exit i => exact endK_ok (ex := L.ex) (past := L.past) (pown := L.pown) (.exit i) a' w' he
    | ret => exact endK_ok (ex := L.ex) (past := L.past) (pown := L.pown) .ret a' w' he
    | _ => exact he

theorem EBn_ok {R : Type} (env : EnvOK P Γ) {N : NEnv} (hN : NOK P N) : ∀ (c : Code), LoopsOK Γ c → NLoopsOK Γ N c → ∀ (K : Ex → St → Option R) (s : St) (r : R), EBn Γ N c K s = some r → ∀ a w, SR P Γ z s a w → c.wp P (Lands P Γ z K r) a w := by
  intro c
  induction c with
  | skip => exact fun _ _ K s r h a w hs => wp_skip ⟨s, hs, h⟩
  | label l => exact fun _ _ K s r h a w hs => wp_label ⟨s, hs, h⟩
  | exit id => exact fun _ _ K s r h a w hs => wp_exit ⟨s, hs, h⟩
  | ret => exact fun hL _ K s r h a w hs => EBk_ok env .ret hL K s r h a w hs
  | seq x y ihx ihy =>
    intro hL hM K s r h a w hs
    unfold EBn at h
    refine wp_seq (wp_mono (ihx (fun c' hc' => hL c' (List.mem_append_left _ hc')) (fun c' hc' => hM c' (List.mem_append_left _ hc')) _ s r h a w hs) fun e a' w' he => ?_)
    cases e with
    | normal =>
      obtain ⟨s', hs', hk⟩ := he
      exact ihy (fun c' hc' => hL c' (List.mem_append_right _ hc')) (fun c' hc' => hM c' (List.mem_append_right _ hc')) K s' r hk a' w' hs'
    | exit i => exact he
    | ret => exact he
    | _ => exact he
  | cond c x y ihx ihy =>
    intro hL hM K s r h a w hs
    unfold EBn at h
    split at h
    · rename_i b hb
      obtain ⟨hm, β, Ks, hf⟩ := hs
      have hv := eval_ok hf.tmp c
      rw [← val_fs, hb] at hv
      have hev : a.eval c = .bool b := hv
      have hput : ∀ b', b = b' → SR P Γ z (s.putC c b') a w := by
        intro b' e
        subst e
        cases c with
        | tmp t =>
          have := put_same s t (boolV b) hb
          exact ⟨hm, β, Ks, by rw [show (s.putC (.tmp t) b).fs = (s.put t (boolV b)).fs from rfl, this]; exact hf⟩
        | _ => exact ⟨hm, β, Ks, hf⟩
      refine wp_cond hev ?_
      cases b with
      | true => exact wp_mono (ihx (fun c' hc' => hL c' (List.mem_append_left _ hc')) (fun c' hc' => hM c' (List.mem_append_left _ hc')) _ _ r h a w (hput true rfl)) joinK_ok
      | false => exact wp_mono (ihy (fun c' hc' => hL c' (List.mem_append_right _ hc')) (fun c' hc' => hM c' (List.mem_append_right _ hc')) _ _ r h a w (hput false rfl)) joinK_ok
    · cases h
  | block id x ih =>
    intro hL hM K s r h a w hs
    unfold EBn at h
    exact wp_block (wp_mono (ih hL hM _ s r h a w hs) blockK_ok)
  | loop x ih =>
    intro hL hM K s r h a w hs
    unfold EBn at h
    split at h
    · rename_i L hl
      unfold runN at h
      split at h
      · cases h
      · rename_i s0 hc0
        split at h
        · cases h
        · rename_i ok fam hrun
          split at h
          case h_2 => cases h
          obtain ⟨n, hn⟩ := hM x (List.mem_cons_self ..) L hl s0 fam hrun R K r (allK_spec h)
          exact loop_okN (L := L.m) (ih (fun c' hc' => hL c' (List.mem_cons_of_mem _ hc')) (fun c' hc' => hM c' (List.mem_cons_of_mem _ hc'))) n hn (canon_ok hs hc0)
    · exact EBk_ok env (.loop x) hL K s r h a w hs
  | region id ops d =>
    intro hL hM K s r h a w hs
    cases d with
    | false =>
      unfold EBn at h
      refine wp_region ?_
      rw [List.range_eq_range']
      have := opsN_ok env hN (ops := ops) (Q := Lands P Γ z K r) (r := r) (K := fun s' => K .normal s') (fun s' a w h1 h2 => ⟨s', h1, h2⟩) ops.toList 0 rfl (by simp) s h a w hs
      rw [Array.length_toList] at this
      exact this
    | true =>
      unfold EBn at h
      exact regN_ok env hN h hs
  | _ => intro _ _ K s r h; simp [EBn] at h

theorem callN_ok {R : Type} (env : EnvOK P Γ) {N : NEnv} (hN : NOK P N) {f : Nat} {c : Code} (hf : FnIs P f Γ c) (hNL : NLoopsOK Γ N c) {g : List W × List (Option Blk) → Option R} {args : List W} {ins : List Blk} {r : R} (h : callN Γ N c g args ins = some r)
    {β0 : Bt} {K0 : Ks} {w0 : World} {vs : Array Value} (hk : KOK K0 w0) (hm : MR β0 K0 (getL ins) w0) (hfr : ∀ k, ins.length ≤ k → β0 k = none) (hv : All2 (WR β0 K0) args vs.toList) :
    Calls P f vs w0 fun e w' => ∃ v β K rs outs, e = .returned v ∧ g (rs, outs) = some r ∧ Ret ins outs rs β0 K0 w0 v w' β K := by
  obtain ⟨fn, hfn, hbody, hres, hnt, _⟩ := hf.is
  unfold callN at h
  split at h
  case h_2 => cases h
  rename_i hle
  have hle : args.length ≤ Γ.nt := by simpa using hle
  have hlen : args.length = vs.size := by simpa using hv.length
  refine calls_of_wp hfn hbody ?_
  rw [hnt]
  let z : Start := ⟨β0, K0, w0, ins.length, Own β0 (getL ins)⟩
  have h0 : SR P Γ z (initS args ins) { tmps := vs ++ Array.replicate (Γ.nt - vs.size) undef, defers := [] } w0 := by
    refine ⟨rfl, β0, K0, ⟨fun t => ?_, by simp; omega, rfl, hk, ?_, hfr, KLe.refl _, fun b arr e => .inl e, Fr.refl _ _, ?_, fun k y _ e => e, Nat.le_refl _⟩⟩
    · have h1 := (initT_look (i := 0) hv t).1
      rw [Nat.zero_add] at h1
      have h2 : (vs ++ Array.replicate (Γ.nt - vs.size) undef).getD t undef = vs.toList.getD t undef := by
        simp only [Array.getD_eq_getD_getElem?, List.getD_eq_getElem?_getD, Array.getElem?_toList]
        rw [Array.getElem?_append]
        split
        · rfl
        · rename_i hlt
          rw [Array.getElem?_replicate, Array.getElem?_eq_none (xs := vs) (by omega)]
          split <;> rfl
      show VR β0 K0 ((initS args ins).tmpV t) ((vs ++ Array.replicate (Γ.nt - vs.size) undef).getD t undef)
      rw [h2]
      exact h1
    · show MR β0 K0 (initS args ins).get w0
      rw [initM_get]; exact hm
    · intro x hx
      left
      have : (initS args ins).fs.G = getL ins := initM_get args ins
      rw [this] at hx
      exact hx
  refine wp_mono (EBn_ok env hN c hf.loops hNL _ _ r h _ _ h0) fun e a w he => ?_
  have main : ∀ s, SR P Γ z s a w → (match fin Γ s with | some r => g r | none => none) = some r → a.defers = [] ∧ ∃ v, (results fn a.tmps).run P w = .ok v w ∧ ∃ v' β K rs outs, Ending.returned v = .returned v' ∧ g (rs, outs) = some r ∧ Ret ins outs rs β0 K0 w0 v' w β K := by
    intro s hs hg
    split at hg
    case h_2 => cases hg
    rename_i ro hfin
    obtain ⟨rs, outs⟩ := ro
    obtain ⟨hm', β, K, hs⟩ := hs
    unfold fin at hfin
    split at hfin
    · cases hfin
    · rename_i ws hws
      obtain ⟨v, hr1, hr2⟩ := res_ok env hres hs hws
      dsimp only at hfin
      generalize hksd : reach s.get reachFuel (upto s.m ++ ws.flatMap keysW) (upto 0) = ks at hfin
      have hnd : (upFrom ks s.m).Nodup := by
        rw [upFrom_eq, ← hksd]
        exact List.Pairwise.filter _ (reach_nodup _ _ _ _ (by simp [upto]))
      have hge : ∀ k ∈ upFrom ks s.m, s.m ≤ k := by
        intro k hk
        rw [upFrom_eq, List.mem_filter] at hk
        simpa using hk.2
      generalize upFrom ks s.m = rest at hfin hnd hge
      split at hfin
      · rename_i ws' outs' h1 h2
        cases hfin
        have hlo : outs.length = s.m + rest.length := by rw [mapO_length h2, List.length_append, upto_length]
        have hsrc : ∀ k' b', getO outs k' = some b' → ∃ k b, newKey rest s.m k = some k' ∧ s.get k = some b ∧ renB (newKey rest s.m) b = some b' := by
          intro k' b' e
          unfold getO at e
          cases hq : outs[k']? with
          | none => rw [hq] at e; cases e
          | some x =>
            rw [hq] at e
            have hx : x = some b' := e
            subst hx
            obtain ⟨k, hk, hr⟩ := (All2.ofMap h2).get?' hq
            have hnk : newKey rest s.m k = some k' := by
              rw [List.getElem?_append, upto_length] at hk
              unfold newKey
              split at hk
              · rename_i hlt
                rw [upto_get, if_pos hlt] at hk
                have hkk : k' = k := Option.some.inj hk
                rw [← hkk, show Nat.blt k' s.m = true by simpa [Nat.blt_eq] using hlt]
              · rename_i hlt
                have h3 := hge k (List.mem_of_getElem? hk)
                rw [show Nat.blt k s.m = false from Bool.eq_false_iff.2 fun e => by rw [Nat.blt_eq] at e; omega]
                dsimp only
                rw [indexN_of hnd hk]
                congr 1
                omega
            cases hg0 : s.get k with
            | none => rw [hg0] at hr; simp [renOB] at hr
            | some b0 =>
              rw [hg0] at hr
              simp only [renOB, Option.map_eq_some_iff, Option.some.injEq] at hr
              obtain ⟨b1, h4, h5⟩ := hr
              exact ⟨k, b0, hnk, hg0, by rw [h4, h5]⟩
        refine ⟨hs.defers, v, hr1, v, renBt β rest s.m, K, rs, outs, rfl, hg, ⟨hs.kle, hs.kok, hs.knew, hs.mr.ren renBt_ok hsrc, fun k hk => renBt_ge (by omega), ?_, hs.fr, fun x hx => hs.own x (hx.ren hs.mr renBt_ok hsrc), ?_, ?_⟩⟩
        · have h3 : VR (renBt β rest s.m) K (outV rs) v := outV_map h1 hr2 fun c c' u _ hcc hu => renW_ok renBt_ok hcc hu
          exact h3
        · intro k y e
          have hkm : k < ins.length := by
            rcases Nat.lt_or_ge k ins.length with h3 | h3
            · exact h3
            · rw [hfr k h3] at e; cases e
          have hzm : s.m = ins.length := hm'
          rw [renBt_lt (by omega)]
          exact hs.ble k y hkm e
        · have hzm : s.m = ins.length := hm'
          omega
      · cases hfin
  cases e with
  | normal => obtain ⟨s, hs, hg⟩ := he; exact main s hs hg
  | ret => obtain ⟨s, hs, hg⟩ := he; exact main s hs hg
  | exit i => obtain ⟨s, hs, hg⟩ := he; cases hg
  | _ => exact he.elim
end

end Go.Proofs.Ytmmdjajebmihhaa.AM

/- The abstract machine: functions and loops whose answers are open, by what they give. Conditions: those that each lemma names. -/
namespace Go.Proofs.Ytmmdjajebmihhaa.AM
open Go Go.RowKit
set_option linter.unusedVariables false

section
variable {Γ : Env} {N : NEnv}

theorem opsK_map {R R' : Type} {ops : Array Oper} {L : List Oper} {s : St} {tr : List Ent} {K : St → List Ent → Option R} {K' : St → List Ent → Option R'} {r : R} {r' : R'} (hK : ∀ s tr, K s tr = some r → K' s tr = some r') (h : opsK Γ ops L s tr K = some r) :
    opsK Γ ops L s tr K' = some r' := by
  rcases opsK_nat (Γ := Γ) ops L s tr with hn | ⟨s', tr', hr⟩
  · rw [hn] at h; cases h
  · rw [hr] at h ⊢; exact hK _ _ h

theorem runK_map {R R' : Type} {o : Oper} {s : St} {K : St → Ent → Option R} {K' : St → Ent → Option R'} {r : R} {r' : R'} (hK : ∀ s e, K s e = some r → K' s e = some r') (h : runK Γ o K s = some r) : runK Γ o K' s = some r' := by
  rcases runK_nat (Γ := Γ) o s with hn | ⟨s', e, hr⟩
  · rw [hn] at h; cases h
  · rw [hr] at h ⊢; exact hK _ _ h

theorem EBk_map {R R' : Type} {c : Code} {s : St} {K : Ex → St → Option R} {K' : Ex → St → Option R'} {r : R} {r' : R'} (hK : ∀ e s, K e s = some r → K' e s = some r') (h : EBk Γ c K s = some r) : EBk Γ c K' s = some r' := by
  rcases EBk_road (Γ := Γ) c s with hn | ⟨e, s', hr⟩
  · dsimp only at hn; rw [hn] at h; cases h
  · dsimp only at hr; rw [hr] at h ⊢; exact hK _ _ h

instance : Nonempty Bits32 := ⟨⟨0, by decide⟩⟩

theorem opsN_map {R R' : Type} {F : Nat → Option Fam} {ops : Array Oper} {r : R} {r' : R'} : ∀ {L : List Oper} {s : St} {K : St → Option R} {K' : St → Option R'}, (∀ s, K s = some r → K' s = some r') → opsN Γ F ops L K s = some r → opsN Γ F ops L K' s = some r'
  | [], s, K, K', hK, h => hK s h
  | o :: rest, s, K, K', hK, h => by
    unfold opsN at h ⊢
    split at h
    · exact opsK_map (fun s _ h => opsN_map hK h) h
    · rename_i f fam _
      haveI := fam.inh
      exact allK_intro fun z => runK_map (fun s _ h => opsN_map hK h) (allK_spec h z)
    · split at h
      · exact opsK_map (fun s _ h => opsN_map hK h) h
      · split at h
        · exact allK_intro fun z => opsN_map hK (allK_spec h z)
        · cases h

theorem joinK_map {R R' : Type} {cut : Option (List Nat × List Cv)} {K : Ex → St → Option R} {K' : Ex → St → Option R'} {r : R} {r' : R'} (hK : ∀ e s, K e s = some r → K' e s = some r') : ∀ e s, joinK cut K e s = some r → joinK cut K' e s = some r' := by
  intro e s h
  unfold joinK at h ⊢
  cases e with
  | normal =>
    cases cut with
    | none => exact hK _ _ h
    | some c =>
      dsimp only at h ⊢
      split at h
      · rename_i s' hc
        exact hK _ _ h
      · cases h
  | exit i => exact hK _ _ h
  | ret => exact hK _ _ h

theorem blockK_map {R R' : Type} {id : Nat} {cut : Option (List Nat × List Cv)} {K : Ex → St → Option R} {K' : Ex → St → Option R'} {r : R} {r' : R'} (hK : ∀ e s, K e s = some r → K' e s = some r') : ∀ e s, blockK id cut K e s = some r → blockK id cut K' e s = some r' := by
  intro e s h
  unfold blockK at h ⊢
  cases e with
  | normal => exact joinK_map hK _ _ h
  | exit i =>
    dsimp only at h ⊢
    split at h
    · exact joinK_map hK _ _ h
    · exact hK _ _ h
  | ret => exact hK _ _ h

theorem EBn_map {R R' : Type} {r : R} {r' : R'} : ∀ (c : Code) {s : St} {K : Ex → St → Option R} {K' : Ex → St → Option R'}, (∀ e s, K e s = some r → K' e s = some r') → EBn Γ N c K s = some r → EBn Γ N c K' s = some r' := by
  intro c
  induction c with
  | skip => intro s K K' hK h; unfold EBn at h ⊢; exact hK _ _ h
  | label l => intro s K K' hK h; unfold EBn at h ⊢; exact hK _ _ h
  | exit i => intro s K K' hK h; unfold EBn at h ⊢; exact hK _ _ h
  | ret => intro s K K' hK h; unfold EBn at h ⊢; exact EBk_map hK h
  | seq x y ihx ihy =>
    intro s K K' hK h
    unfold EBn at h ⊢
    refine ihx (fun e s h => ?_) h
    cases e with
    | normal => exact ihy hK h
    | exit i => exact hK _ _ h
    | ret => exact hK _ _ h
  | cond c x y ihx ihy =>
    intro s K K' hK h
    unfold EBn at h ⊢
    split at h
    · rename_i b hb
      cases b with
      | true => exact ihx (joinK_map hK) h
      | false => exact ihy (joinK_map hK) h
    · cases h
  | block id x ih =>
    intro s K K' hK h
    unfold EBn at h ⊢
    exact ih (blockK_map hK) h
  | loop x ih =>
    intro s K K' hK h
    unfold EBn at h ⊢
    split at h
    · rename_i L hl
      unfold runN at h ⊢
      split at h
      · cases h
      · rename_i s0 hc0
        split at h
        · cases h
        · rename_i ok fam hrun
          split at h
          case h_2 => cases h
          haveI := fam.inh
          refine allK_intro fun z => ?_
          have := allK_spec h z
          unfold outK at this ⊢
          split at this
          · exact hK _ _ this
          · exact hK _ _ this
    · exact EBk_map hK h
  | region id ops d =>
    intro s K K' hK h
    cases d with
    | false => unfold EBn at h ⊢; exact opsN_map (fun s h => hK _ _ h) h
    | true =>
      unfold EBn at h ⊢
      dsimp only at h ⊢
      unfold regN at h ⊢
      split at h
      · exact EBk_map hK h
      · rename_i p f fam _
        split at h
        · haveI := fam.inh
          exact allK_intro fun z => EBk_map hK (allK_spec h z)
        · cases h
  | _ => intro s K K' hK h; simp [EBn] at h

/-! ## Loops -/

def endH (shX : ShS) (h : shX.den → Option Unit) (e : Ex) (s : St) : Option Unit := match e with
  | .exit _ => atS shX h s
  | _ => none

/-- Choices of a loop's ends. -/
abbrev ChL {V X : Type} (ok : V → Bool) (Q : V → X → Prop) : Type := { g : V → X // ∀ v, ok v = true → Q v (g v) }

/-- A loop without a return, by where it may be asked and what it may give. -/
def loopXN (live : List Nat) (own : List Cv) (ex : Nat) (past : List Nat) (pown : List Cv) (sh shX : ShS) (ok : sh.den → Bool) (Q : sh.den → shX.den → Prop) (hne : Nonempty (ChL ok Q)) : NLoop :=
  ⟨⟨live, own, ex, past, pown, fun _ => none⟩, fun s => match getS sh s with
    | some v => some (ok v, ⟨ChL ok Q, hne, fun g => (false, mkS shX (g.1 v), mkS shX (g.1 v))⟩)
    | none => none⟩

theorem loopXN_sound {c : Code} {live : List Nat} {own : List Cv} {ex : Nat} {past : List Nat} {pown : List Cv} {sh shX : ShS} {g : (shX.den → Option Unit) → (sh.den → Option Unit) → sh.den → Option Unit}
    (hg : ∀ h f v, EBn Γ N c (roundK live own ex past pown (atS sh f) (endH shX h)) (mkS sh v) = g h f v) {ok : sh.den → Bool} {Q : sh.den → shX.den → Prop} {hne : Nonempty (ChL ok Q)}
    (hi : ∀ v, ok v = true → ∀ h : shX.den → Option Unit, (∀ y, Q v y → h y = some ()) → ∃ n, iter (g h) n v = some ()) : NLoopSound Γ N c (loopXN live own ex past pown sh shX ok Q hne) := by
  classical
  intro s0 fam hrun R K r hz
  simp only [loopXN] at hrun
  split at hrun
  case h_2 => cases hrun
  rename_i v hv
  have hok : ok v = true := by have := Option.some.inj hrun; exact (Prod.mk.inj this).1
  have hfam := (Prod.mk.inj (Option.some.inj hrun)).2
  subst hfam
  obtain ⟨n, hn⟩ := hi v hok (fun y => if Q v y then some () else none) (fun y hy => if_pos hy)
  refine ⟨n, ?_⟩
  rw [getS_ok hv]
  clear hv
  have main : ∀ n v', iter (g fun y => if Q v y then some () else none) n v' = some () → loopN Γ N c (loopXN live own ex past pown sh shX ok Q hne).m K n (mkS sh v') = some r := by
    intro n
    induction n with
    | zero => intro v' h; cases h
    | succ n ih =>
      intro v' h
      simp only [iter] at h
      rw [← hg] at h
      simp only [loopN]
      refine EBn_map c (fun e s he => ?_) h
      cases e with
      | normal =>
        simp only [roundK] at he ⊢
        split at he
        · rename_i s'' hc
          have hc' : canon (loopXN live own ex past pown sh shX ok Q hne).m.live (loopXN live own ex past pown sh shX ok Q hne).m.own s = some s'' := hc
          rw [hc']
          unfold atS at he
          split at he
          · rename_i v'' hv''
            rw [getS_ok hv'']
            exact ih v'' he
          · cases he
        · cases he
      | exit i =>
        simp only [roundK, endK] at he ⊢
        split at he
        · rename_i hb
          split at he
          · rename_i s'' hc
            have hc' : canon (loopXN live own ex past pown sh shX ok Q hne).m.past (loopXN live own ex past pown sh shX ok Q hne).m.pown s = some s'' := hc
            have hb' : Nat.beq i (loopXN live own ex past pown sh shX ok Q hne).m.ex = true := hb
            rw [hb', hc']
            simp only [endH, atS] at he
            split at he
            · rename_i y hy
              split at he
              · rename_i hQ
                obtain ⟨g0⟩ := hne
                have := hz ⟨fun u => if u = v then y else g0.1 u, fun u hu => by
                  dsimp only
                  split
                  · rename_i e; rw [e]; exact hQ
                  · exact g0.2 u hu⟩
                simp only [outK, if_pos] at this
                have e1 : i = ex := nbeq_eq hb
                rw [getS_ok hy, e1]
                exact this
              · cases he
            · cases he
          · cases he
        · cases he
      | ret => simp only [roundK, endK, endH] at he; cases he
  exact main n v hn

/-! ## Functions -/

def lookU.{u} {α : Type u} : List (Nat × α) → Nat → Option α
  | [], _ => none
  | (k, x) :: r, t => match Nat.beq k t with
    | true => some x
    | false => lookU r t

theorem lookU_mem.{u} {α : Type u} : ∀ {l : List (Nat × α)} {t : Nat} {x : α}, lookU l t = some x → (t, x) ∈ l
  | (k, y) :: r, t, x, h => by
    simp only [lookU] at h
    split at h
    · rename_i e
      cases h
      rw [nbeq_eq e]
      exact List.mem_cons_self ..
    · exact List.mem_cons_of_mem _ (lookU_mem h)

def mkN (fams : List (Nat × Fam)) (loops : List (Nat × NLoop)) : NEnv := ⟨lookU fams, lookU loops⟩

def AllU.{u} {α : Type u} (R : α → Prop) : List α → Prop
  | [] => True
  | x :: r => R x ∧ AllU R r
theorem AllU.mem.{u} {α : Type u} {R : α → Prop} : ∀ {l : List α}, AllU R l → ∀ x ∈ l, R x
  | y :: r, h, x, hx => by
    rcases List.mem_cons.1 hx with rfl | hx
    · exact h.1
    · exact h.2.mem x hx

theorem mkN_ok {P : Program} {fams : List (Nat × Fam)} {loops : List (Nat × NLoop)} (h : AllU (fun x => FamOK P x.1 x.2) fams) : NOK P (mkN fams loops) := fun f fam e => h.mem (f, fam) (lookU_mem e)

theorem noNLoops {Γ : Env} {fams : List (Nat × Fam)} {c : Code} : NLoopsOK Γ (mkN fams []) c := fun c' hc L h => by cases h


def decH (O : Sg) {R : Type} (h : O.den → Option R) (p : List W × List (Option Blk)) : Option R := match decO O p with
  | some y => h y
  | none => none
def decRH (R : Ty) {T : Type} (h : Den R → Option T) (p : List W × List (Option Blk)) : Option T := match decR R p with
  | some y => h y
  | none => none

/-- The evaluation of a function over what it takes, and what is made of its answers. -/
noncomputable def callSN (Γ : Env) (N : NEnv) (c : Code) (I O : Sg) (h : O.den → Option Unit) (x : I.den) : Option Unit := match insOf (encBs I.bs x.2) with
  | some ins => callN Γ N c (decH O h) (encKs I.ws x.1) ins
  | none => none

/-- Choices of answers. -/
abbrev Ch (I O : Sg) (ok : I.den → Bool) (Q : I.den → O.den → Prop) : Type := { g : I.den → O.den // ∀ x, ok x = true → Q x (g x) }

def sgFam (own : Bool) (I O : Sg) (ok : I.den → Bool) (Q : I.den → O.den → Prop) (hne : Nonempty (Ch I O ok Q)) : Fam := ⟨Ch I O ok Q, hne, fun g => sgMean own I O ok g.1, own⟩
end

section
variable {P : Program} {Γ : Env} {N : NEnv}

theorem sgN_ok (env : EnvOK P Γ) (hN : NOK P N) {f : Nat} {c : Code} (hf : FnIs P f Γ c) (hNL : NLoopsOK Γ N c) {own : Bool} {I O : Sg} {ok : I.den → Bool} {Q : I.den → O.den → Prop} {hne : Nonempty (Ch I O ok Q)}
    (h : ∀ x, ok x = true → ∀ k : O.den → Option Unit, (∀ y, Q x y → k y = some ()) → callSN Γ N c I O k x = some ()) : FamOK P f (sgFam own I O ok Q hne) := by
  classical
  refine ⟨fun _ => rfl, ?_⟩
  intro args ins hruns β0 K0 w0 vs hk hm hfr hv
  obtain ⟨g0⟩ := hne
  obtain ⟨rs0, outs0, hrun⟩ := hruns g0
  simp only [sgFam, sgMean, decO] at hrun
  split at hrun
  case h_2 => cases hrun
  rename_i x hx
  split at hx
  case h_2 => cases hx
  rename_i x1 hx1
  split at hx
  case h_2 => cases hx
  rename_i x2 hx2
  cases hx
  split at hrun
  case h_2 => cases hrun
  rename_i ins' hins'
  simp only [Option.some.injEq, Prod.mk.injEq] at hrun
  obtain ⟨hok, _, _⟩ := hrun
  obtain ⟨hl1, hg1⟩ := decBs_ok hx2
  obtain ⟨hl2, hg2⟩ := insOf_get hins'
  rw [getO_some] at hg1
  rw [← hg2] at hg1
  have hlen : ins'.length = ins.length := by rw [hl2, hl1]; simp
  have he := h (x1, x2) hok (fun y => if Q (x1, x2) y then some () else none) (fun y hy => if_pos hy)
  simp only [callSN, hins'] at he
  refine .inl ⟨hf.ok, (callN_ok env hN hf hNL he hk (hm.lax hg1) (fun k hk => hfr k (by omega)) (decKs_ok hx1 hv)).mono ?_⟩
  rintro e w' ⟨v, β, K, rs', outs', rfl, hg, hR⟩
  simp only [decH] at hg
  split at hg
  case h_2 => cases hg
  rename_i y hy
  split at hg
  case isFalse => cases hg
  rename_i hQ
  simp only [decO] at hy
  split at hy
  case h_2 => cases hy
  rename_i y1 hy1
  split at hy
  case h_2 => cases hy
  rename_i y2 hy2
  cases hy
  obtain ⟨hl3, hg3⟩ := decBs_ok hy2
  have hl3' : (encBs O.bs (y1, y2).2).length = outs'.length := hl3
  have hown : ∀ b, Own β0 (getL ins') b → Own β0 (getL ins) b := fun b hb => hb.lax hg1
  refine ⟨⟨fun x => if x = (x1, x2) then (y1, y2) else g0.1 x, fun x hx => ?_⟩, encKs O.ws y1, encBs O.bs y2, v, β, K, ?_, rfl, ⟨hR.kle, hR.kok, fun b arr e => ?_, hR.mr.lax hg3, fun k hk => hR.fresh k (by simp only at hk hl3'; omega), decKs_out hy1 hR.out, ⟨hR.fr.os, hR.fr.tape, hR.fr.output, hR.fr.size, fun b hb hn => hR.fr.block b hb fun hc => hn (hown b hc)⟩, fun x hx => ?_, hR.ble, ?_⟩⟩
  · dsimp only
    split
    · rename_i e; rw [e]; exact hQ
    · exact g0.2 x hx
  · simp only [sgFam, sgMean, decO, hx1, hx2, hins', hok, if_pos]
  · rcases hR.knew b arr e with h1 | h1 | h1
    · exact .inl h1
    · exact .inr (.inl (hown b h1))
    · exact .inr (.inr h1)
  · rcases hR.own x (hx.lax hg3) with h1 | h1
    · exact .inl (hown x h1)
    · exact .inr h1
  · have := hR.le
    simp only at hl3' ⊢
    omega

/-- A law's call: it answers true, and what there was stays. -/
theorem lawN_ok (env : EnvOK P Γ) (hN : NOK P N) {f : Nat} {c : Code} (hf : FnIs P f Γ c) (hNL : NLoopsOK Γ N c) {args : List W} {k : Den (.cons .bool .nil) → Option Unit} (hk : ∀ y, k y = some () → y = (true, ())) (h : callN Γ N c (decRH (.cons .bool .nil) k) args [] = some ()) {w : World} {vs : Array Value}
    (hv : All2 (WR (fun _ => none) (memK w)) args vs.toList) : Calls P f vs w fun e w' => e = .returned (.bool true) ∧ Below w.heap.size w w' := by
  have hm : MR (fun _ => none) (memK w) (getL []) w := ⟨fun k b e => by simp [getL] at e, fun k k' b b' _ _ _ e => by simp [getL] at e, fun k b _ _ e => by simp [getL] at e⟩
  refine (callN_ok env hN hf hNL h (memK_ok w) hm (fun _ _ => rfl) hv).mono ?_
  rintro e w' ⟨v, β, K, rs, outs', rfl, hg, hR⟩
  have hno : ∀ x, ¬ Own (fun _ => none) (getL []) x := by rintro x ⟨k, b, y, e, _⟩; simp [getL] at e
  unfold decRH at hg
  split at hg
  · rename_i y hy
    have := hk y hg
    subst this
    unfold decR at hy
    dsimp only at hy
    split at hy
    · have hout : v = .bool true := decR_out hy hR.out
      exact ⟨by rw [hout], hR.fr.os, hR.fr.tape, hR.fr.output, hR.fr.size, fun k hk => hR.fr.block k hk (hno k)⟩
    · cases hy
  · cases hg
end

end Go.Proofs.Ytmmdjajebmihhaa.AM

/- The abstract machine: functions of the model's own that answer at once; functions whose answers are open on the way and not in the end. Conditions: those that each lemma names. -/
namespace Go.Proofs.Ytmmdjajebmihhaa.AM
open Go Go.RowKit
set_option linter.unusedVariables false

section
variable {P : Program} {Γ : Env} {N : NEnv}

/-- A function without a body, that the model answers itself. -/
structure ExtIs (P : Program) (f : Nat) (e : Array Value → Sem Value) : Prop where
  is : ∃ fn, P.funcs[f]? = some fn ∧ (fn.name == "runtime.NumGoroutine") = false ∧ fn.body.isNone = true ∧ Extern.findNext fn = none ∧ Extern.find fn = some e

theorem ExtIs.run {f : Nat} {e : Array Value → Sem Value} (h : ExtIs P f e) {vs : Array Value} {w w' : World} {v : Value} (hr : (e vs).run P w = .ok v w') : (callFunc f vs).run P w = .ok (.value v) w' := by
  obtain ⟨fn, h1, h2, h3, h4, h5⟩ := h.is
  have h2' : ¬ fn.name = "runtime.NumGoroutine" := by simpa using h2
  have h3' : fn.body = none := by simpa using h3
  simp [callFunc, h1, h2', h3', h4, h5, hr]

/-- A family for such a function. -/
def extFam (A R : Ty) (ι : Type) (inh : Nonempty ι) (g : ι → Den A → Den R) : Fam := ⟨ι, inh, fun z => fnMean A R (fun _ => true) (g z), false⟩

theorem ext_ok {f : Nat} {e : Array Value → Sem Value} (he : ExtIs P f e) {A R : Ty} {ι : Type} {inh : Nonempty ι} {g : ι → Den A → Den R}
    (h : ∀ (x : Den A) (vs : Array Value) (β : Bt) (K : Ks) (w : World), All2 (WR β K) (encA A x) vs.toList → ∃ v w' z, (e vs).run P w = .ok v w' ∧ Still w w' ∧ OutR β K (encA R (g z x)) v) : FamOK P f (extFam A R ι inh g) := by
  refine ⟨fun _ => rfl, ?_⟩
  intro args ins hruns β0 K0 w0 vs hk hm hfr hv
  obtain ⟨z0⟩ := inh
  obtain ⟨rs0, outs0, hrun⟩ := hruns z0
  cases ins with
  | cons _ _ => simp [extFam, fnMean] at hrun
  | nil =>
    simp only [extFam, fnMean] at hrun
    split at hrun
    · rename_i x hx
      obtain ⟨v, w', z, h1, h2, h3⟩ := h x vs β0 K0 w0 (decA_ok hx hv)
      refine .inr ⟨v, w', he.run h1, z, encA R (g z x), [], v, β0, K0, ?_, rfl, ?_⟩
      · simp only [extFam, fnMean, hx]
      · exact ⟨KLe.refl _, hk.still h2, fun _ _ e => .inl e, ⟨fun k b e => by simp [getO] at e, fun k k' b b' _ _ _ e => by simp [getO] at e, fun k b _ _ e => by simp [getO] at e⟩, fun k _ => hfr k (Nat.zero_le _), h3, Fr.still h2, fun x hx => by
          obtain ⟨k, b, y, e, _⟩ := hx
          simp [getO] at e, BLe.refl _, Nat.le_refl _⟩
    · cases hrun

/-- Choices of answers of a function of values. -/
abbrev ChT (A R : Ty) (ok : Den A → Bool) (Q : Den A → Den R → Prop) : Type := { g : Den A → Den R // ∀ x, ok x = true → Q x (g x) }
def fnFam (A R : Ty) (ok : Den A → Bool) (Q : Den A → Den R → Prop) (hne : Nonempty (ChT A R ok Q)) : Fam := ⟨ChT A R ok Q, hne, fun g => fnMean A R ok g.1, false⟩

theorem fnN_ok (env : EnvOK P Γ) (hN : NOK P N) {f : Nat} {c : Code} (hf : FnIs P f Γ c) (hNL : NLoopsOK Γ N c) {A R : Ty} {ok : Den A → Bool} {Q : Den A → Den R → Prop} {hne : Nonempty (ChT A R ok Q)}
    (h : ∀ x, ok x = true → ∀ k : Den R → Option Unit, (∀ y, Q x y → k y = some ()) → callN Γ N c (decRH R k) (encA A x) [] = some ()) : FamOK P f (fnFam A R ok Q hne) := by
  classical
  refine ⟨fun _ => rfl, ?_⟩
  intro args ins hruns β0 K0 w0 vs hk hm hfr hv
  obtain ⟨g0⟩ := hne
  obtain ⟨rs0, outs0, hrun⟩ := hruns g0
  cases ins with
  | cons _ _ => simp [fnFam, fnMean] at hrun
  | nil =>
    simp only [fnFam, fnMean] at hrun
    split at hrun
    · rename_i x hx
      simp only [Option.some.injEq, Prod.mk.injEq] at hrun
      obtain ⟨hok, _, _⟩ := hrun
      have he := h x hok (fun y => if Q x y then some () else none) (fun y hy => if_pos hy)
      refine .inl ⟨hf.ok, (callN_ok env hN hf hNL he hk hm hfr (decA_ok hx hv)).mono ?_⟩
      rintro e w' ⟨v, β, K, rs', outs', rfl, hg, hR⟩
      unfold decRH at hg
      split at hg
      case h_2 => cases hg
      rename_i y hy
      dsimp only at hg
      split at hg
      case isFalse => cases hg
      rename_i hq
      unfold decR at hy
      dsimp only at hy
      split at hy
      · refine ⟨⟨fun u => if u = x then y else g0.1 u, fun u hu => ?_⟩, encA R y, [], v, β, K, ?_, rfl, { hR with out := decR_out hy hR.out }⟩
        · dsimp only
          split
          · rename_i e; rw [e]; exact hq
          · exact g0.2 u hu
        · simp only [fnFam, fnMean, hx, hok, if_pos]
      · cases hy
    · cases hrun

/-- A function whose answers are open on the way, and alike in the end. -/
theorem fnN_sem (env : EnvOK P Γ) (hN : NOK P N) {f : Nat} {c : Code} (hf : FnIs P f Γ c) (hNL : NLoopsOK Γ N c) {A R : Ty} {ok : Den A → Bool} {g : Den A → Den R} {Q : Den A → Den R → Prop}
    (hQ : ∀ x y, Q x y → ∀ β K v, OutR β K (encA R y) v → OutR β K (encA R (g x)) v)
    (h : ∀ x, ok x = true → ∀ k : Den R → Option Unit, (∀ y, Q x y → k y = some ()) → callN Γ N c (decRH R k) (encA A x) [] = some ()) : SemOK P (f, fnMean A R ok g) := by
  classical
  refine ⟨?_, hf.ok⟩
  intro args ins rs outs hrun β0 K0 w0 vs hk hm hfr hv
  cases ins with
  | cons _ _ => simp [fnMean] at hrun
  | nil =>
    simp only [fnMean] at hrun
    split at hrun
    · rename_i x hx
      simp only [Option.some.injEq, Prod.mk.injEq] at hrun
      obtain ⟨hok, rfl, rfl⟩ := hrun
      have he := h x hok (fun y => if Q x y then some () else none) (fun y hy => if_pos hy)
      refine (callN_ok env hN hf hNL he hk hm hfr (decA_ok hx hv)).mono ?_
      rintro e w' ⟨v, β, K, rs', outs', rfl, hg, hR⟩
      unfold decRH at hg
      split at hg
      case h_2 => cases hg
      rename_i y hy
      dsimp only at hg
      split at hg
      case isFalse => cases hg
      rename_i hq
      unfold decR at hy
      dsimp only at hy
      split at hy
      · exact ⟨v, β, K, rfl, { hR with out := hQ x y hq β K v (decR_out hy hR.out) }⟩
      · cases hy
    · cases hrun
end

/-! ## A double's bits -/

theorem ext_bits {P : Program} {f : Nat} (he : ExtIs P f Extern.MathFloatBits.float64bits) {inh : Nonempty { z : Nat // isNaN .f64 z = true }} :
    FamOK P f (extFam (.cons (.flt .f64) .nil) (.cons (.int .u64) .nil) { z : Nat // isNaN .f64 z = true } inh (fun z x => ((((bif isNaN .f64 x.1 then z.1 else x.1 : Nat) : Int)), ()))) := by
  refine ext_ok he fun x vs β K w hv => ?_
  obtain ⟨b, _⟩ := x
  obtain ⟨z0⟩ := inh
  rcases vs with ⟨l⟩
  cases l with
  | nil => exact hv.elim
  | cons v r =>
    cases r with
    | cons _ _ => exact hv.2.elim
    | nil =>
      obtain ⟨b', rfl, hb⟩ := hv.1
      have hb : FEq .f64 b b' := hb
      by_cases hn : isNaN .f64 b = true
      · refine ⟨.int .u64 b', w, ⟨b', FEq.nan_left hb hn⟩, rfl, Still.refl w, ?_⟩
        show Value.int .u64 b' = .int .u64 _
        rw [hn]
        rfl
      · rcases hb with rfl | ⟨h1, _⟩
        · refine ⟨.int .u64 b, w, z0, rfl, Still.refl w, ?_⟩
          show Value.int .u64 b = .int .u64 _
          rw [Bool.eq_false_iff.2 hn]
          rfl
        · exact absurd h1 hn

theorem ext_frombits {P : Program} {f : Nat} (he : ExtIs P f Extern.MathFloatBits.float64frombits) :
    FamOK P f (extFam (.cons (.int .u64) .nil) (.cons (.flt .f64) .nil) Unit ⟨()⟩ (fun _ x => ((x.1 : Int).toNat, ()))) := by
  refine ext_ok he fun x vs β K w hv => ?_
  obtain ⟨n, _⟩ := x
  rcases vs with ⟨l⟩
  cases l with
  | nil => exact hv.elim
  | cons v r =>
    cases r with
    | cons _ _ => exact hv.2.elim
    | nil =>
      have hv1 : v = .int .u64 n := hv.1
      subst hv1
      exact ⟨.float .f64 (n : Int).toNat, w, (), rfl, Still.refl w, ⟨_, rfl, .inl rfl⟩⟩

end Go.Proofs.Ytmmdjajebmihhaa.AM

/- Plainly: math.Abs: the model answers a double's bits itself; what is made of them. Conditions: none. -/
namespace Go.Proofs.Ytmmdjajebmihhaa.AM
open Go Go.Proofs
set_option linter.unusedVariables false
set_option maxRecDepth 100000
set_option maxHeartbeats 0

theorem ext105 : ExtIs Try.prog 105 Extern.MathFloatBits.float64bits := ⟨_, Try.func105, rfl, rfl, by kernel_rfl, by kernel_rfl⟩
theorem ext104 : ExtIs Try.prog 104 Extern.MathFloatBits.float64frombits := ⟨_, Try.func104, rfl, rfl, by kernel_rfl, by kernel_rfl⟩
abbrev NaN64 : Type := { z : Nat // isNaN .f64 z = true }
theorem nan64 : Nonempty NaN64 := ⟨⟨qn .f64, isNaN_qn _⟩⟩

/- "math.Abs" -/
abbrev A79 : Ty := .cons (.flt .f64) (.nil)
abbrev R79 : Ty := .cons (.flt .f64) (.nil)
noncomputable def N79 : NEnv := mkN [(105, extFam (.cons (.flt .f64) .nil) (.cons (.int .u64) .nil) NaN64 nan64 (fun z x => ((((bif isNaN .f64 x.1 then z.1 else x.1 : Nat) : Int)), ()))), (104, extFam (.cons (.int .u64) .nil) (.cons (.flt .f64) .nil) Unit ⟨()⟩ (fun _ x => ((x.1 : Int).toNat, ())))] []
noncomputable def Γ79 : Env := mkEnv tab eqs [] 7 [.tmp 2] [] [] [] [] []
theorem evN79 (h : Den R79 → Option Unit) (x : Den A79) : callN Γ79 N79 (bodyOf Try.f79) (decRH R79 h) (encA A79 x) [] =
    allK fun (z : NaN64) => allK fun (_ : Unit) => h ((Int.toNat (ibits BinOp.andNot IntKind.u64 (((bif isNaN FloatKind.f64 x.fst then z.1 else x.fst : Nat) : Int)) 9223372036854775808)), ()) := by kernel_rfl

theorem abs_bits (n : Nat) : (ibits .andNot .u64 (n : Int) 9223372036854775808).toNat = n % 2 ^ 63 := by
  have e : ibits .andNot .u64 (n : Int) 9223372036854775808 = IntKind.u64.wrap ((BitVec.ofInt 64 (n : Int) &&& ~~~(BitVec.ofInt 64 9223372036854775808)).toNat : Int) := rfl
  have hy : ~~~(BitVec.ofInt 64 9223372036854775808) = 9223372036854775807#64 := by decide
  rw [e, hy, BitVec.toNat_and]
  have hx : (BitVec.ofInt 64 (n : Int)).toNat = n % 2 ^ 64 := by
    rw [BitVec.toNat_ofInt]
    omega
  have h7 : (9223372036854775807#64).toNat = 2 ^ 63 - 1 := by decide
  rw [hx, h7, Nat.and_two_pow_sub_one_eq_mod, IntKind.wrap_u64]
  omega

theorem isNaN_mod {n : Nat} : isNaN .f64 (n % 2 ^ 63) = isNaN .f64 n := by
  have hs : FloatKind.f64.format.signWeight = 2 ^ 63 := by decide
  rw [Bool.eq_iff_iff, isNaN_iff, isNaN_iff, hs, Nat.mod_mod]

def K79 (x : Den A79) : Bool := true
def G79 (x : Den A79) : Den R79 := (x.1 % 2 ^ 63, ())
theorem env79 : EnvOK Try.prog Γ79 := env_ok mixed tab_ok eqs_ok .nil
theorem is79 : FnIs Try.prog 79 Γ79 (bodyOf Try.f79) := fnIs Try.func79 rfl rfl rfl (by kernel_rfl) (noLoops (by kernel_rfl))
theorem sem79 : SemOK Try.prog (79, fnMean A79 R79 K79 G79) :=
  fnN_sem (N := N79) env79 (mkN_ok ⟨ext_bits ext105, ext_frombits ext104, trivial⟩) is79 noNLoops (Q := fun x y => FEq .f64 (x.1 % 2 ^ 63) y.1)
    (fun x y hq β K v hv => by
      obtain ⟨b, rfl, hb⟩ := hv
      refine ⟨b, rfl, ?_⟩
      have hb : FEq .f64 y.1 b := hb
      show FEq .f64 (x.1 % 2 ^ 63) b
      rcases hq with e | ⟨h1, h2⟩
      · rw [e]; exact hb
      · exact .inr ⟨h1, FEq.nan_left hb h2⟩)
    (fun x _ k hk => by
      rw [evN79]
      haveI := nan64
      refine allK_intro fun z => allK_intro fun _ => hk _ ?_
      rw [abs_bits]
      cases hn : isNaN .f64 x.1 with
      | true => exact .inr ⟨by rw [isNaN_mod]; exact hn, by show isNaN .f64 (z.1 % 2 ^ 63) = true; rw [isNaN_mod]; exact z.2⟩
      | false => exact .inl rfl)

end Go.Proofs.Ytmmdjajebmihhaa.AM

/- What functions of the program make of their arguments; each is what its evaluation says. Printed by fx.py. -/
namespace Go.Proofs.Ytmmdjajebmihhaa.AM
open Go Go.Proofs
set_option linter.unusedVariables false
set_option maxRecDepth 100000
set_option maxHeartbeats 0

/- "loop.example/g03321/laws.big" -/
abbrev A7 : Ty := .cons (.slice (.int .u8)) (.nil)
abbrev R7 : Ty := .cons (.bool) (.nil)
noncomputable def Γ7 : Env := mkEnv tab eqs [] 6 [.tmp 2] [] [] [] [] []
def r7 (x : Den A7) : Option (Den R7) :=
  some ((decide ((↑(List.length x.fst) : Int) > 1048576)), ())
theorem ev7 (x : Den A7) : callK (Γ7) (bodyOf Try.f7) (decR R7) (encA A7 x) [] = r7 x := by kernel_rfl
def F7 (x : Den A7) : Option (Den R7) := r7 x
def K7 (x : Den A7) : Bool := (F7 x).isSome
def G7 (x : Den A7) : Den R7 := (F7 x).getD (zero R7)
theorem env7 : EnvOK Try.prog (Γ7) := env_ok mixed tab_ok eqs_ok .nil
theorem is7 : FnIs Try.prog 7 (Γ7) (bodyOf Try.f7) := fnIs Try.func7 rfl rfl rfl (by kernel_rfl) (noLoops (by kernel_rfl))
theorem sem7 : SemOK Try.prog (7, fnMean A7 R7 K7 G7) := fn_opt env7 is7 fun x => ev7 x

/- "loop.example/g03321/spec.l01New" mode S false -/
abbrev I30 : Sg := ⟨[.val (.slice (.int .u8))], []⟩
abbrev O30 : Sg := ⟨[.ptr 0], [.box (S98)]⟩
abbrev V30_3 : Type := (((List (Den (.int .u8))) × (Int × (Int × Unit))) × Unit)
def sh30_3 : ShS := ⟨[(0, .one (.sl (.int .u8))), (3, .one (.int .i64)), (4, .one (.int .i64))], [], 0, 0⟩
abbrev X30_3 : Type := (((List (Den (.int .u8))) × (Int × Unit)) × Unit)
def shX30_3 : ShS := ⟨[(0, .one (.sl (.int .u8))), (3, .one (.int .i64))], [], 0, 0⟩
noncomputable def Γ30 (kl3 : V30_3 → Bool) (xl3 : V30_3 → X30_3) : Env := mkEnv tab eqs [] 32 [.tmp 2] [] [] [(3, loopX [0, 3, 4] [] 0 [0, 3] [] sh30_3 shX30_3 kl3 xl3)] [] []
noncomputable def lc30_3 : Code := (loopsOf (bodyOf Try.f30)).getD 0 .skip
def q30_3 (f : V30_3 → Option (X30_3)) (v : V30_3) : Option (X30_3) :=
  bif (decide (v.fst.snd.snd.fst < (↑(List.length v.fst.fst) : Int))) then
    bif (decide (v.fst.snd.snd.fst < 4000)) then
      bif (decide (0 ≤ v.fst.snd.snd.fst) && decide (v.fst.snd.snd.fst < (↑(List.length v.fst.fst) : Int))) then
        let v0 := (IntKind.wrap IntKind.i64 (v.fst.snd.fst * 131))
        let v1 := (List.getD v.fst.fst (Int.toNat v.fst.snd.snd.fst) (zero (Ty.int IntKind.u8)))
        let v2 := (IntKind.wrap IntKind.i64 v1)
        let v3 := (IntKind.wrap IntKind.i64 (v0 + v2))
        let v4 := (IntKind.wrap IntKind.i64 (v3 + 7))
        let v5 := (IntKind.wrap IntKind.i64 (v.fst.snd.snd.fst + 1))
        f (((v.fst.1), ((ibits BinOp.and IntKind.i64 v4 1073741823), ((v5), ()))), ())
      else
        none
    else
      some (((v.fst.1), ((v.fst.snd.1), ())), ())
  else
    some (((v.fst.1), ((v.fst.snd.1), ())), ())
theorem evl30_3 (kl3 : V30_3 → Bool) (xl3 : V30_3 → X30_3) (f : V30_3 → Option (X30_3)) (v : V30_3) : EBk (Γ30 kl3 xl3) lc30_3 (roundK [0, 3, 4] [] 0 [0, 3] [] (atS sh30_3 f) (endX shX30_3)) (mkS sh30_3 v) = q30_3 f v := by kernel_rfl
def b30_3 (v : V30_3) : Nat := v.1.1.length + v.1.2.1.natAbs + v.1.2.2.1.natAbs + 1000
def l30_3 (v : V30_3) : Option (X30_3) := iter (q30_3) (b30_3 v) v
def kL30_3 (v : V30_3) : Bool := (l30_3 v).isSome
def xL30_3 (v : V30_3) : X30_3 := (l30_3 v).getD (([], (0, ())), ())
def r30 (kl3 : V30_3 → Bool) (xl3 : V30_3 → X30_3) (x : I30.den) : Option (O30.den) :=
  let v0 := (IntKind.wrap IntKind.i64 (33211 + (↑(List.length x.fst.fst) : Int)))
  let v1 := (kl3 ((x.fst.fst, v0, 0, ()), ()))
  bif (v1) then
    let v2 := (xl3 ((x.fst.fst, v0, 0, ()), ()))
    some (((), ()), (((v2.fst.1), ((0), ((v2.fst.snd.1), ()))), ()))
  else
    none
theorem ev30 (kl3 : V30_3 → Bool) (xl3 : V30_3 → X30_3) (x : I30.den) : callS (Γ30 kl3 xl3) (bodyOf Try.f30) I30 O30 x = r30 kl3 xl3 x := by kernel_rfl
def F30 (x : I30.den) : Option (O30.den) := r30 kL30_3 xL30_3 x
def K30 (x : I30.den) : Bool := (F30 x).isSome
def G30 (x : I30.den) : O30.den := (F30 x).getD (zeroSg O30)
theorem env30 : EnvOK Try.prog (Γ30 kL30_3 xL30_3) := env_ok mixed tab_ok eqs_ok .nil
theorem is30 : FnIs Try.prog 30 (Γ30 kL30_3 xL30_3) (bodyOf Try.f30) := fnIs Try.func30 rfl rfl rfl (by kernel_rfl) (loops_ok (l := [lc30_3]) (by kernel_rfl) (.cons (one_loop rfl (loopX_sound (sh := sh30_3) (shX := shX30_3) (fun f v => evl30_3 kL30_3 xL30_3 f v) b30_3 (([], (0, ())), ()))) (.nil)))
theorem sem30 : SemOK Try.prog (30, sgMean false I30 O30 K30 G30) := sg_opt env30 is30 false fun x => ev30 kL30_3 xL30_3 x

/- "loop.example/g03321/spec.l01Byte" mode S true -/
abbrev I89 : Sg := ⟨[.ptr 0], [.box (S98)]⟩
abbrev O89 : Sg := ⟨[.val (.int .i64)], [.box (S98)]⟩
noncomputable def Γ89 : Env := mkEnv tab eqs [] 58 [.tmp 2] [] [] [] [] []
def r89 (x : I89.den) : Option (O89.den) :=
  bif (decide (x.snd.fst.snd.fst < (↑(List.length x.snd.fst.fst) : Int))) then
    bif (decide (0 ≤ x.snd.fst.snd.fst) && decide (x.snd.fst.snd.fst < (↑(List.length x.snd.fst.fst) : Int))) then
      let v0 := (IntKind.wrap IntKind.i64 (x.snd.fst.snd.snd.fst * 6364136223846793005))
      let v1 := (IntKind.wrap IntKind.i64 (v0 + 1442695040888963407))
      let v2 := (List.getD x.snd.fst.fst (Int.toNat x.snd.fst.snd.fst) (zero (Ty.int IntKind.u8)))
      let v3 := (IntKind.wrap IntKind.i64 v2)
      let v4 := (IntKind.wrap IntKind.i64 (ibits BinOp.and IntKind.i64 (ibits BinOp.xor IntKind.i64 (Int.fdiv v1 (2 ^ min (Int.toNat 33) (IntKind.bits IntKind.i64))) (Int.fdiv v1 (2 ^ min (Int.toNat 45) (IntKind.bits IntKind.i64)))) 255 + v3))
      let v5 := (IntKind.wrap IntKind.i64 (x.snd.fst.snd.fst + 1))
      some (((ibits BinOp.and IntKind.i64 v4 255), ()), (((x.snd.fst.1), ((v5), ((v1), ()))), ()))
    else
      none
  else
    let v0 := (IntKind.wrap IntKind.i64 (x.snd.fst.snd.snd.fst * 6364136223846793005))
    let v1 := (IntKind.wrap IntKind.i64 (v0 + 1442695040888963407))
    some (((ibits BinOp.and IntKind.i64 (ibits BinOp.xor IntKind.i64 (Int.fdiv v1 (2 ^ min (Int.toNat 33) (IntKind.bits IntKind.i64))) (Int.fdiv v1 (2 ^ min (Int.toNat 45) (IntKind.bits IntKind.i64)))) 255), ()), (((x.snd.fst.1), ((x.snd.fst.snd.1), ((v1), ()))), ()))
theorem ev89 (x : I89.den) : callS (Γ89) (bodyOf Try.f89) I89 O89 x = r89 x := by kernel_rfl
def F89 (x : I89.den) : Option (O89.den) := r89 x
def K89 (x : I89.den) : Bool := (F89 x).isSome
def G89 (x : I89.den) : O89.den := (F89 x).getD (zeroSg O89)
theorem env89 : EnvOK Try.prog (Γ89) := env_ok mixed tab_ok eqs_ok .nil
theorem is89 : FnIs Try.prog 89 (Γ89) (bodyOf Try.f89) := fnIs Try.func89 rfl rfl rfl (by kernel_rfl) (noLoops (by kernel_rfl))
theorem sem89 : SemOK Try.prog (89, sgMean true I89 O89 K89 G89) := sg_opt env89 is89 true fun x => ev89 x

/- "loop.example/g03321/spec.l01Below" mode S true -/
abbrev I66 : Sg := ⟨[.ptr 0, .val (.int .i64)], [.box (S98)]⟩
abbrev O66 : Sg := ⟨[.val (.int .i64)], [.box (S98)]⟩
noncomputable def Γ66 (k89 : I89.den → Bool) (g89 : I89.den → O89.den) : Env := mkEnv tab eqs [(89, sgMean true I89 O89 k89 g89)] 37 [.tmp 4] [] [] [] [] []
def r66 (k89 : I89.den → Bool) (g89 : I89.den → O89.den) (x : I66.den) : Option (O66.den) :=
  bif (decide (x.fst.snd.fst ≤ 0)) then
    some (((0), ()), (((x.snd.fst.1), ((x.snd.fst.snd.1), ((x.snd.fst.snd.snd.1), ()))), ()))
  else
    bif (decide (x.fst.snd.fst ≤ 256)) then
      let v0 := (k89 (((), ()), x.snd))
      bif (v0) then
        bif (x.fst.snd.fst != 0) then
          let v1 := (g89 (((), ()), x.snd))
          some (((Int.tmod v1.fst.fst x.fst.snd.fst), ()), (((v1.snd.fst.1), ((v1.snd.fst.snd.1), ((v1.snd.fst.snd.snd.1), ()))), ()))
        else
          none
      else
        none
    else
      let v0 := (k89 (((), ()), x.snd))
      bif (v0) then
        let v1 := (g89 (((), ()), x.snd))
        let v2 := (k89 (((), ()), v1.snd))
        bif (v2) then
          let v3 := (g89 (((), ()), v1.snd))
          let v4 := (k89 (((), ()), v3.snd))
          bif (v4) then
            let v5 := (g89 (((), ()), v3.snd))
            let v6 := (k89 (((), ()), v5.snd))
            bif (v6) then
              bif (x.fst.snd.fst != 0) then
                let v7 := (IntKind.wrap IntKind.i64 (v1.fst.fst * 16777216))
                let v8 := (IntKind.wrap IntKind.i64 (v3.fst.fst * 65536))
                let v9 := (IntKind.wrap IntKind.i64 (v7 + v8))
                let v10 := (IntKind.wrap IntKind.i64 (v5.fst.fst * 256))
                let v11 := (IntKind.wrap IntKind.i64 (v9 + v10))
                let v12 := (g89 (((), ()), v5.snd))
                let v13 := (IntKind.wrap IntKind.i64 (v11 + v12.fst.fst))
                some (((Int.tmod v13 x.fst.snd.fst), ()), (((v12.snd.fst.1), ((v12.snd.fst.snd.1), ((v12.snd.fst.snd.snd.1), ()))), ()))
              else
                none
            else
              none
          else
            none
        else
          none
      else
        none
theorem ev66 (k89 : I89.den → Bool) (g89 : I89.den → O89.den) (x : I66.den) : callS (Γ66 k89 g89) (bodyOf Try.f66) I66 O66 x = r66 k89 g89 x := by kernel_rfl
def F66 (x : I66.den) : Option (O66.den) := r66 K89 G89 x
def K66 (x : I66.den) : Bool := (F66 x).isSome
def G66 (x : I66.den) : O66.den := (F66 x).getD (zeroSg O66)
theorem env66 : EnvOK Try.prog (Γ66 K89 G89) := env_ok mixed tab_ok eqs_ok (.cons sem89 .nil)
theorem is66 : FnIs Try.prog 66 (Γ66 K89 G89) (bodyOf Try.f66) := fnIs Try.func66 rfl rfl rfl (by kernel_rfl) (noLoops (by kernel_rfl))
theorem sem66 : SemOK Try.prog (66, sgMean true I66 O66 K66 G66) := sg_opt env66 is66 true fun x => ev66 K89 G89 x

/- "loop.example/g03321/spec.l01Once" mode S true -/
abbrev I45 : Sg := ⟨[.ptr 0, .val (.int .i64)], [.box (S98)]⟩
abbrev O45 : Sg := ⟨[.val (.bool)], [.box (S98)]⟩
noncomputable def Γ45 (k66 : I66.den → Bool) (g66 : I66.den → O66.den) : Env := mkEnv tab eqs [(66, sgMean true I66 O66 k66 g66)] 9 [.tmp 4] [] [] [] [] []
def r45 (k66 : I66.den → Bool) (g66 : I66.den → O66.den) (x : I45.den) : Option (O45.den) :=
  let v0 := (k66 (((), x.fst.snd), x.snd))
  bif (v0) then
    let v1 := (g66 (((), x.fst.snd), x.snd))
    some (((v1.fst.fst == 0), ()), (((v1.snd.fst.1), ((v1.snd.fst.snd.1), ((v1.snd.fst.snd.snd.1), ()))), ()))
  else
    none
theorem ev45 (k66 : I66.den → Bool) (g66 : I66.den → O66.den) (x : I45.den) : callS (Γ45 k66 g66) (bodyOf Try.f45) I45 O45 x = r45 k66 g66 x := by kernel_rfl
def F45 (x : I45.den) : Option (O45.den) := r45 K66 G66 x
def K45 (x : I45.den) : Bool := (F45 x).isSome
def G45 (x : I45.den) : O45.den := (F45 x).getD (zeroSg O45)
theorem env45 : EnvOK Try.prog (Γ45 K66 G66) := env_ok mixed tab_ok eqs_ok (.cons sem66 .nil)
theorem is45 : FnIs Try.prog 45 (Γ45 K66 G66) (bodyOf Try.f45) := fnIs Try.func45 rfl rfl rfl (by kernel_rfl) (noLoops (by kernel_rfl))
theorem sem45 : SemOK Try.prog (45, sgMean true I45 O45 K45 G45) := sg_opt env45 is45 true fun x => ev45 K66 G66 x

/- "loop.example/g03321/spec.l01Odd" mode S true -/
abbrev I106 : Sg := ⟨[.ptr 0], [.box (S98)]⟩
abbrev O106 : Sg := ⟨[.val (.flt .f64)], [.box (S98)]⟩
noncomputable def Γ106 (k66 : I66.den → Bool) (g66 : I66.den → O66.den) : Env := mkEnv tab eqs [(66, sgMean true I66 O66 k66 g66)] 34 [.tmp 2] [] [] [] [] []
def r106 (k66 : I66.den → Bool) (g66 : I66.den → O66.den) (x : I106.den) : Option (O106.den) :=
  let v0 := (k66 (((), 2, ()), x.snd))
  bif (v0) then
    let v1 := (g66 (((), 2, ()), x.snd))
    let v2 := (k66 (((), 8, ()), v1.snd))
    bif (v2) then
      let v3 := (g66 (((), 8, ()), v1.snd))
      bif (v3.fst.fst == 0) then
        let v4 := (IntKind.wrap IntKind.i64 (v1.fst.fst * 0))
        let v5 := (farith BinOp.quo FloatKind.f64 (FloatKind.nearest FloatKind.f64 v4) (FloatKind.nearest FloatKind.f64 v4))
        some (((v5), ()), (((v3.snd.fst.1), ((v3.snd.fst.snd.1), ((v3.snd.fst.snd.snd.1), ()))), ()))
      else
        bif (v3.fst.fst == 1) then
          let v4 := (IntKind.wrap IntKind.i64 (v1.fst.fst * 0))
          let v5 := (farith BinOp.quo FloatKind.f64 4607182418800017408 (FloatKind.nearest FloatKind.f64 v4))
          some (((v5), ()), (((v3.snd.fst.1), ((v3.snd.fst.snd.1), ((v3.snd.fst.snd.snd.1), ()))), ()))
        else
          bif (v3.fst.fst == 2) then
            let v4 := (IntKind.wrap IntKind.i64 (v1.fst.fst * 0))
            let v5 := (farith BinOp.quo FloatKind.f64 13830554455654793216 (FloatKind.nearest FloatKind.f64 v4))
            some (((v5), ()), (((v3.snd.fst.1), ((v3.snd.fst.snd.1), ((v3.snd.fst.snd.snd.1), ()))), ()))
          else
            bif (v3.fst.fst == 3) then
              let v4 := (IntKind.wrap IntKind.i64 (v1.fst.fst * 0))
              let v5 := (fneg FloatKind.f64 (FloatKind.nearest FloatKind.f64 v4))
              some (((v5), ()), (((v3.snd.fst.1), ((v3.snd.fst.snd.1), ((v3.snd.fst.snd.snd.1), ()))), ()))
            else
              bif (v3.fst.fst == 4) then
                some (((9094988921128908188), ()), (((v3.snd.fst.1), ((v3.snd.fst.snd.1), ((v3.snd.fst.snd.snd.1), ()))), ()))
              else
                bif (v3.fst.fst == 5) then
                  some (((9223372036854775809), ()), (((v3.snd.fst.1), ((v3.snd.fst.snd.1), ((v3.snd.fst.snd.snd.1), ()))), ()))
                else
                  bif (v3.fst.fst == 6) then
                    some (((4412443251819771522), ()), (((v3.snd.fst.1), ((v3.snd.fst.snd.1), ((v3.snd.fst.snd.snd.1), ()))), ()))
                  else
                    let v4 := (IntKind.wrap IntKind.i64 (v1.fst.fst * 0))
                    some (((FloatKind.nearest FloatKind.f64 v4), ()), (((v3.snd.fst.1), ((v3.snd.fst.snd.1), ((v3.snd.fst.snd.snd.1), ()))), ()))
    else
      none
  else
    none
theorem ev106 (k66 : I66.den → Bool) (g66 : I66.den → O66.den) (x : I106.den) : callS (Γ106 k66 g66) (bodyOf Try.f106) I106 O106 x = r106 k66 g66 x := by kernel_rfl
def F106 (x : I106.den) : Option (O106.den) := r106 K66 G66 x
def K106 (x : I106.den) : Bool := (F106 x).isSome
def G106 (x : I106.den) : O106.den := (F106 x).getD (zeroSg O106)
theorem env106 : EnvOK Try.prog (Γ106 K66 G66) := env_ok mixed tab_ok eqs_ok (.cons sem66 .nil)
theorem is106 : FnIs Try.prog 106 (Γ106 K66 G66) (bodyOf Try.f106) := fnIs Try.func106 rfl rfl rfl (by kernel_rfl) (noLoops (by kernel_rfl))
theorem sem106 : SemOK Try.prog (106, sgMean true I106 O106 K106 G106) := sg_opt env106 is106 true fun x => ev106 K66 G66 x

/- "loop.example/g03321/spec.l01PickInt" mode S true -/
abbrev I76 : Sg := ⟨[.ptr 0, .own (.int .i64) 1], [.box (S98), .arr (.int .i64)]⟩
abbrev O76 : Sg := ⟨[.val (.int .i64)], [.box (S98), .arr (.int .i64)]⟩
noncomputable def Γ76 (k66 : I66.den → Bool) (g66 : I66.den → O66.den) : Env := mkEnv tab eqs [(66, sgMean true I66 O66 k66 g66)] 12 [.tmp 4] [] [] [] [] []
def r76 (k66 : I66.den → Bool) (g66 : I66.den → O66.den) (x : I76.den) : Option (O76.den) :=
  let v0 := (k66 (((), (↑(List.length x.snd.snd.fst) : Int), ()), x.snd.fst, ()))
  bif (v0) then
    let v1 := (g66 (((), (↑(List.length x.snd.snd.fst) : Int), ()), x.snd.fst, ()))
    bif (decide (0 ≤ v1.fst.fst) && decide (v1.fst.fst < (↑(List.length x.snd.snd.fst) : Int))) then
      let v2 := (List.getD x.snd.snd.fst (Int.toNat v1.fst.fst) (zero (Ty.int IntKind.i64)))
      some (((v2), ()), (((v1.snd.fst.1), ((v1.snd.fst.snd.1), ((v1.snd.fst.snd.snd.1), ()))), ((x.snd.snd.1), ())))
    else
      none
  else
    none
theorem ev76 (k66 : I66.den → Bool) (g66 : I66.den → O66.den) (x : I76.den) : callS (Γ76 k66 g66) (bodyOf Try.f76) I76 O76 x = r76 k66 g66 x := by kernel_rfl
def F76 (x : I76.den) : Option (O76.den) := r76 K66 G66 x
def K76 (x : I76.den) : Bool := (F76 x).isSome
def G76 (x : I76.den) : O76.den := (F76 x).getD (zeroSg O76)
theorem env76 : EnvOK Try.prog (Γ76 K66 G66) := env_ok mixed tab_ok eqs_ok (.cons sem66 .nil)
theorem is76 : FnIs Try.prog 76 (Γ76 K66 G66) (bodyOf Try.f76) := fnIs Try.func76 rfl rfl rfl (by kernel_rfl) (noLoops (by kernel_rfl))
theorem sem76 : SemOK Try.prog (76, sgMean true I76 O76 K76 G76) := sg_opt env76 is76 true fun x => ev76 K66 G66 x

/- "loop.example/g03321/spec.l01Real" mode S true -/
abbrev I80 : Sg := ⟨[.ptr 0, .val (.int .i64)], [.box (S98)]⟩
abbrev O80 : Sg := ⟨[.val (.flt .f64)], [.box (S98)]⟩
noncomputable def Γ80 (k45 : I45.den → Bool) (g45 : I45.den → O45.den) (k106 : I106.den → Bool) (g106 : I106.den → O106.den) (k66 : I66.den → Bool) (g66 : I66.den → O66.den) : Env := mkEnv tab eqs [(45, sgMean true I45 O45 k45 g45), (106, sgMean true I106 O106 k106 g106), (66, sgMean true I66 O66 k66 g66)] 31 [.tmp 4] [] [] [] [] []
def r80 (k45 : I45.den → Bool) (g45 : I45.den → O45.den) (k106 : I106.den → Bool) (g106 : I106.den → O106.den) (k66 : I66.den → Bool) (g66 : I66.den → O66.den) (x : I80.den) : Option (O80.den) :=
  let v0 := (k45 (((), 40, ()), x.snd))
  bif (v0) then
    let v1 := (g45 (((), 40, ()), x.snd))
    bif (v1.fst.1) then
      let v2 := (k106 (((), ()), v1.snd))
      bif (v2) then
        let v3 := (g106 (((), ()), v1.snd))
        some (((v3.fst.1), ()), (((v3.snd.fst.1), ((v3.snd.fst.snd.1), ((v3.snd.fst.snd.snd.1), ()))), ()))
      else
        none
    else
      let v2 := (IntKind.wrap IntKind.i64 (x.fst.snd.fst * 8))
      let v3 := (IntKind.wrap IntKind.i64 (v2 + 1))
      let v4 := (k66 (((), v3, ()), v1.snd))
      bif (v4) then
        let v5 := (g66 (((), v3, ()), v1.snd))
        let v6 := (k45 (((), 2, ()), v5.snd))
        bif (v6) then
          let v7 := (g45 (((), 2, ()), v5.snd))
          bif (v7.fst.1) then
            let v8 := (IntKind.wrap IntKind.i64 (x.fst.snd.fst * 1000))
            let v9 := (IntKind.wrap IntKind.i64 (v8 + 1))
            let v10 := (k66 (((), v9, ()), v7.snd))
            bif (v10) then
              let v11 := (g66 (((), v9, ()), v7.snd))
              let v12 := (k45 (((), 2, ()), v11.snd))
              bif (v12) then
                let v13 := (g45 (((), 2, ()), v11.snd))
                bif (v13.fst.1) then
                  let v14 := (farith BinOp.quo FloatKind.f64 (FloatKind.nearest FloatKind.f64 v11.fst.fst) 4652007308841189376)
                  let v15 := (fneg FloatKind.f64 v14)
                  some (((v15), ()), (((v13.snd.fst.1), ((v13.snd.fst.snd.1), ((v13.snd.fst.snd.snd.1), ()))), ()))
                else
                  let v14 := (farith BinOp.quo FloatKind.f64 (FloatKind.nearest FloatKind.f64 v11.fst.fst) 4652007308841189376)
                  some (((v14), ()), (((v13.snd.fst.1), ((v13.snd.fst.snd.1), ((v13.snd.fst.snd.snd.1), ()))), ()))
              else
                none
            else
              none
          else
            let v8 := (k45 (((), 2, ()), v7.snd))
            bif (v8) then
              let v9 := (g45 (((), 2, ()), v7.snd))
              bif (v9.fst.1) then
                let v10 := (farith BinOp.quo FloatKind.f64 (FloatKind.nearest FloatKind.f64 v5.fst.fst) 4620693217682128896)
                let v11 := (fneg FloatKind.f64 v10)
                some (((v11), ()), (((v9.snd.fst.1), ((v9.snd.fst.snd.1), ((v9.snd.fst.snd.snd.1), ()))), ()))
              else
                let v10 := (farith BinOp.quo FloatKind.f64 (FloatKind.nearest FloatKind.f64 v5.fst.fst) 4620693217682128896)
                some (((v10), ()), (((v9.snd.fst.1), ((v9.snd.fst.snd.1), ((v9.snd.fst.snd.snd.1), ()))), ()))
            else
              none
        else
          none
      else
        none
  else
    none
theorem ev80 (k45 : I45.den → Bool) (g45 : I45.den → O45.den) (k106 : I106.den → Bool) (g106 : I106.den → O106.den) (k66 : I66.den → Bool) (g66 : I66.den → O66.den) (x : I80.den) : callS (Γ80 k45 g45 k106 g106 k66 g66) (bodyOf Try.f80) I80 O80 x = r80 k45 g45 k106 g106 k66 g66 x := by kernel_rfl
def F80 (x : I80.den) : Option (O80.den) := r80 K45 G45 K106 G106 K66 G66 x
def K80 (x : I80.den) : Bool := (F80 x).isSome
def G80 (x : I80.den) : O80.den := (F80 x).getD (zeroSg O80)
theorem env80 : EnvOK Try.prog (Γ80 K45 G45 K106 G106 K66 G66) := env_ok mixed tab_ok eqs_ok (.cons sem45 (.cons sem106 (.cons sem66 .nil)))
theorem is80 : FnIs Try.prog 80 (Γ80 K45 G45 K106 G106 K66 G66) (bodyOf Try.f80) := fnIs Try.func80 rfl rfl rfl (by kernel_rfl) (noLoops (by kernel_rfl))
theorem sem80 : SemOK Try.prog (80, sgMean true I80 O80 K80 G80) := sg_opt env80 is80 true fun x => ev80 K45 G45 K106 G106 K66 G66 x

/- "loop.example/g03321/spec.l03Single" mode S true -/
abbrev I107 : Sg := ⟨[.ptr 0, .val (.int .i64)], [.box (S98)]⟩
abbrev O107 : Sg := ⟨[.val (.flt .f32)], [.box (S98)]⟩
noncomputable def Γ107 (k80 : I80.den → Bool) (g80 : I80.den → O80.den) : Env := mkEnv tab eqs [(80, sgMean true I80 O80 k80 g80)] 9 [.tmp 4] [] [] [] [] []
def r107 (k80 : I80.den → Bool) (g80 : I80.den → O80.den) (x : I107.den) : Option (O107.den) :=
  let v0 := (k80 (((), x.fst.snd), x.snd))
  bif (v0) then
    let v1 := (g80 (((), x.fst.snd), x.snd))
    bif ((convF FloatKind.f64 FloatKind.f32 v1.fst.fst).1) then
      some ((((convF FloatKind.f64 FloatKind.f32 v1.fst.fst).2), ()), (((v1.snd.fst.1), ((v1.snd.fst.snd.1), ((v1.snd.fst.snd.snd.1), ()))), ()))
    else
      none
  else
    none
theorem ev107 (k80 : I80.den → Bool) (g80 : I80.den → O80.den) (x : I107.den) : callS (Γ107 k80 g80) (bodyOf Try.f107) I107 O107 x = r107 k80 g80 x := by kernel_rfl
def F107 (x : I107.den) : Option (O107.den) := r107 K80 G80 x
def K107 (x : I107.den) : Bool := (F107 x).isSome
def G107 (x : I107.den) : O107.den := (F107 x).getD (zeroSg O107)
theorem env107 : EnvOK Try.prog (Γ107 K80 G80) := env_ok mixed tab_ok eqs_ok (.cons sem80 .nil)
theorem is107 : FnIs Try.prog 107 (Γ107 K80 G80) (bodyOf Try.f107) := fnIs Try.func107 rfl rfl rfl (by kernel_rfl) (noLoops (by kernel_rfl))
theorem sem107 : SemOK Try.prog (107, sgMean true I107 O107 K107 G107) := sg_opt env107 is107 true fun x => ev107 K80 G80 x

/- "loop.example/g03321/spec.l03Air" mode S true -/
abbrev I90 : Sg := ⟨[.ptr 0], [.box (S98)]⟩
abbrev O90 : Sg := ⟨[.val (.cpx .f32)], [.box (S98)]⟩
noncomputable def Γ90 (k45 : I45.den → Bool) (g45 : I45.den → O45.den) (k106 : I106.den → Bool) (g106 : I106.den → O106.den) (k76 : I76.den → Bool) (g76 : I76.den → O76.den) (k107 : I107.den → Bool) (g107 : I107.den → O107.den) : Env := mkEnv tab eqs [(45, sgMean true I45 O45 k45 g45), (106, sgMean true I106 O106 k106 g106), (76, sgMean true I76 O76 k76 g76), (107, sgMean true I107 O107 k107 g107)] 30 [.tmp 2] [] [] [] [] []
def r90 (k45 : I45.den → Bool) (g45 : I45.den → O45.den) (k106 : I106.den → Bool) (g106 : I106.den → O106.den) (k76 : I76.den → Bool) (g76 : I76.den → O76.den) (k107 : I107.den → Bool) (g107 : I107.den → O107.den) (x : I90.den) : Option (O90.den) :=
  let v0 := (k45 (((), 30, ()), x.snd))
  bif (v0) then
    let v1 := (g45 (((), 30, ()), x.snd))
    bif (v1.fst.1) then
      let v2 := (k106 (((), ()), v1.snd))
      bif (v2) then
        let v3 := (g106 (((), ()), v1.snd))
        bif ((convF FloatKind.f64 FloatKind.f32 v3.fst.fst).1) then
          let v4 := (k106 (((), ()), v3.snd))
          bif (v4) then
            let v5 := (g106 (((), ()), v3.snd))
            bif ((convF FloatKind.f64 FloatKind.f32 v5.fst.fst).1) then
              some (((((convF FloatKind.f64 FloatKind.f32 v3.fst.fst).2), ((convF FloatKind.f64 FloatKind.f32 v5.fst.fst).2)), ()), (((v5.snd.fst.1), ((v5.snd.fst.snd.1), ((v5.snd.fst.snd.snd.1), ()))), ()))
            else
              none
          else
            none
        else
          none
      else
        none
    else
      let v2 := (k45 (((), 20, ()), v1.snd))
      bif (v2) then
        let v3 := (g45 (((), 20, ()), v1.snd))
        bif (v3.fst.1) then
          let v4 := (List.set (List.replicate 4 (zero (Ty.int IntKind.i64))) 0 100)
          let v5 := (List.set v4 1 (-100))
          let v6 := (List.set v5 2 101)
          let v7 := (List.set v6 3 0)
          let v8 := (k76 (((), (), ()), v3.snd.fst, v7, ()))
          bif (v8) then
            let v9 := (g76 (((), (), ()), v3.snd.fst, v7, ()))
            let v10 := (k107 (((), 100, ()), v9.snd.fst, ()))
            bif (v10) then
              let v11 := (g107 (((), 100, ()), v9.snd.fst, ()))
              some ((((FloatKind.nearest FloatKind.f32 v9.fst.fst), (v11.fst.1)), ()), (((v11.snd.fst.1), ((v11.snd.fst.snd.1), ((v11.snd.fst.snd.snd.1), ()))), ()))
            else
              none
          else
            none
        else
          let v4 := (k107 (((), 15, ()), v3.snd))
          bif (v4) then
            let v5 := (g107 (((), 15, ()), v3.snd))
            let v6 := (k107 (((), 15, ()), v5.snd))
            bif (v6) then
              let v7 := (g107 (((), 15, ()), v5.snd))
              some ((((v5.fst.1), (v7.fst.1)), ()), (((v7.snd.fst.1), ((v7.snd.fst.snd.1), ((v7.snd.fst.snd.snd.1), ()))), ()))
            else
              none
          else
            none
      else
        none
  else
    none
theorem ev90 (k45 : I45.den → Bool) (g45 : I45.den → O45.den) (k106 : I106.den → Bool) (g106 : I106.den → O106.den) (k76 : I76.den → Bool) (g76 : I76.den → O76.den) (k107 : I107.den → Bool) (g107 : I107.den → O107.den) (x : I90.den) : callS (Γ90 k45 g45 k106 g106 k76 g76 k107 g107) (bodyOf Try.f90) I90 O90 x = r90 k45 g45 k106 g106 k76 g76 k107 g107 x := by kernel_rfl
def F90 (x : I90.den) : Option (O90.den) := r90 K45 G45 K106 G106 K76 G76 K107 G107 x
def K90 (x : I90.den) : Bool := (F90 x).isSome
def G90 (x : I90.den) : O90.den := (F90 x).getD (zeroSg O90)
theorem env90 : EnvOK Try.prog (Γ90 K45 G45 K106 G106 K76 G76 K107 G107) := env_ok mixed tab_ok eqs_ok (.cons sem45 (.cons sem106 (.cons sem76 (.cons sem107 .nil))))
theorem is90 : FnIs Try.prog 90 (Γ90 K45 G45 K106 G106 K76 G76 K107 G107) (bodyOf Try.f90) := fnIs Try.func90 rfl rfl rfl (by kernel_rfl) (noLoops (by kernel_rfl))
theorem sem90 : SemOK Try.prog (90, sgMean true I90 O90 K90 G90) := sg_opt env90 is90 true fun x => ev90 K45 G45 K106 G106 K76 G76 K107 G107 x

/- "loop.example/g03321/spec.l08Wind" mode S true -/
abbrev I74 : Sg := ⟨[.ptr 0], [.box (S98)]⟩
abbrev O74 : Sg := ⟨[.val (.cpx .f32)], [.box (S98)]⟩
noncomputable def Γ74 (k45 : I45.den → Bool) (g45 : I45.den → O45.den) (k90 : I90.den → Bool) (g90 : I90.den → O90.den) (k66 : I66.den → Bool) (g66 : I66.den → O66.den) : Env := mkEnv tab eqs [(45, sgMean true I45 O45 k45 g45), (90, sgMean true I90 O90 k90 g90), (66, sgMean true I66 O66 k66 g66)] 20 [.tmp 2] [] [] [] [] []
def r74 (k45 : I45.den → Bool) (g45 : I45.den → O45.den) (k90 : I90.den → Bool) (g90 : I90.den → O90.den) (k66 : I66.den → Bool) (g66 : I66.den → O66.den) (x : I74.den) : Option (O74.den) :=
  let v0 := (k45 (((), 12, ()), x.snd))
  bif (v0) then
    let v1 := (g45 (((), 12, ()), x.snd))
    bif (v1.fst.1) then
      let v2 := (k90 (((), ()), v1.snd))
      bif (v2) then
        let v3 := (g90 (((), ()), v1.snd))
        some ((((v3.fst.fst.1), (v3.fst.fst.2)), ()), (((v3.snd.fst.1), ((v3.snd.fst.snd.1), ((v3.snd.fst.snd.snd.1), ()))), ()))
      else
        none
    else
      let v2 := (k66 (((), 129, ()), v1.snd))
      bif (v2) then
        let v3 := (g66 (((), 129, ()), v1.snd))
        let v4 := (k66 (((), 129, ()), v3.snd))
        bif (v4) then
          let v5 := (IntKind.wrap IntKind.i64 (v3.fst.fst - 64))
          let v6 := (farith BinOp.quo FloatKind.f32 (FloatKind.nearest FloatKind.f32 v5) 1090519040)
          let v7 := (g66 (((), 129, ()), v3.snd))
          let v8 := (IntKind.wrap IntKind.i64 (v7.fst.fst - 64))
          let v9 := (farith BinOp.quo FloatKind.f32 (FloatKind.nearest FloatKind.f32 v8) 1090519040)
          some ((((v6), (v9)), ()), (((v7.snd.fst.1), ((v7.snd.fst.snd.1), ((v7.snd.fst.snd.snd.1), ()))), ()))
        else
          none
      else
        none
  else
    none
theorem ev74 (k45 : I45.den → Bool) (g45 : I45.den → O45.den) (k90 : I90.den → Bool) (g90 : I90.den → O90.den) (k66 : I66.den → Bool) (g66 : I66.den → O66.den) (x : I74.den) : callS (Γ74 k45 g45 k90 g90 k66 g66) (bodyOf Try.f74) I74 O74 x = r74 k45 g45 k90 g90 k66 g66 x := by kernel_rfl
def F74 (x : I74.den) : Option (O74.den) := r74 K45 G45 K90 G90 K66 G66 x
def K74 (x : I74.den) : Bool := (F74 x).isSome
def G74 (x : I74.den) : O74.den := (F74 x).getD (zeroSg O74)
theorem env74 : EnvOK Try.prog (Γ74 K45 G45 K90 G90 K66 G66) := env_ok mixed tab_ok eqs_ok (.cons sem45 (.cons sem90 (.cons sem66 .nil)))
theorem is74 : FnIs Try.prog 74 (Γ74 K45 G45 K90 G90 K66 G66) (bodyOf Try.f74) := fnIs Try.func74 rfl rfl rfl (by kernel_rfl) (noLoops (by kernel_rfl))
theorem sem74 : SemOK Try.prog (74, sgMean true I74 O74 K74 G74) := sg_opt env74 is74 true fun x => ev74 K45 G45 K90 G90 K66 G66 x

/- "loop.example/g03321/spec.l01Number" mode S true -/
abbrev I75 : Sg := ⟨[.ptr 0], [.box (S98)]⟩
abbrev O75 : Sg := ⟨[.val (.int .i64)], [.box (S98)]⟩
noncomputable def Γ75 (k66 : I66.den → Bool) (g66 : I66.den → O66.den) (k76 : I76.den → Bool) (g76 : I76.den → O76.den) : Env := mkEnv tab eqs [(66, sgMean true I66 O66 k66 g66), (76, sgMean true I76 O76 k76 g76)] 16 [.tmp 2] [] [] [] [] []
def r75 (k66 : I66.den → Bool) (g66 : I66.den → O66.den) (k76 : I76.den → Bool) (g76 : I76.den → O76.den) (x : I75.den) : Option (O75.den) :=
  let v0 := (k66 (((), 4, ()), x.snd))
  bif (v0) then
    let v1 := (g66 (((), 4, ()), x.snd))
    bif (v1.fst.fst == 0) then
      let v2 := (List.set (List.replicate 10 (zero (Ty.int IntKind.i64))) 0 (-1))
      let v3 := (List.set v2 1 0)
      let v4 := (List.set v3 2 127)
      let v5 := (List.set v4 3 128)
      let v6 := (List.set v5 4 16383)
      let v7 := (List.set v6 5 16384)
      let v8 := (List.set v7 6 1000000000)
      let v9 := (List.set v8 7 1000000001)
      let v10 := (List.set v9 8 9223372036854775807)
      let v11 := (List.set v10 9 (-9223372036854775808))
      let v12 := (k76 (((), (), ()), v1.snd.fst, v11, ()))
      bif (v12) then
        let v13 := (g76 (((), (), ()), v1.snd.fst, v11, ()))
        some (((v13.fst.1), ()), (((v13.snd.fst.1), ((v13.snd.fst.snd.1), ((v13.snd.fst.snd.snd.1), ()))), ()))
      else
        none
    else
      bif (v1.fst.fst == 1) then
        let v2 := (k66 (((), 1000000000, ()), v1.snd))
        bif (v2) then
          let v3 := (g66 (((), 1000000000, ()), v1.snd))
          some (((v3.fst.1), ()), (((v3.snd.fst.1), ((v3.snd.fst.snd.1), ((v3.snd.fst.snd.snd.1), ()))), ()))
        else
          none
      else
        let v2 := (k66 (((), 400, ()), v1.snd))
        bif (v2) then
          let v3 := (g66 (((), 400, ()), v1.snd))
          some (((v3.fst.1), ()), (((v3.snd.fst.1), ((v3.snd.fst.snd.1), ((v3.snd.fst.snd.snd.1), ()))), ()))
        else
          none
  else
    none
theorem ev75 (k66 : I66.den → Bool) (g66 : I66.den → O66.den) (k76 : I76.den → Bool) (g76 : I76.den → O76.den) (x : I75.den) : callS (Γ75 k66 g66 k76 g76) (bodyOf Try.f75) I75 O75 x = r75 k66 g66 k76 g76 x := by kernel_rfl
def F75 (x : I75.den) : Option (O75.den) := r75 K66 G66 K76 G76 x
def K75 (x : I75.den) : Bool := (F75 x).isSome
def G75 (x : I75.den) : O75.den := (F75 x).getD (zeroSg O75)
theorem env75 : EnvOK Try.prog (Γ75 K66 G66 K76 G76) := env_ok mixed tab_ok eqs_ok (.cons sem66 (.cons sem76 .nil))
theorem is75 : FnIs Try.prog 75 (Γ75 K66 G66 K76 G76) (bodyOf Try.f75) := fnIs Try.func75 rfl rfl rfl (by kernel_rfl) (noLoops (by kernel_rfl))
theorem sem75 : SemOK Try.prog (75, sgMean true I75 O75 K75 G75) := sg_opt env75 is75 true fun x => ev75 K66 G66 K76 G76 x

/- "loop.example/g03321/spec.l12Field" mode S true -/
abbrev I31 : Sg := ⟨[.ptr 0], [.box (S98)]⟩
abbrev O31 : Sg := ⟨[.val (S25)], [.box (S98)]⟩
abbrev V31_4 : Type := ((Unit × (Unit × (Unit × ((Nat × Nat) × (Int × Unit))))) × (((List (Den (.int .u8))) × (Int × (Int × Unit))) × ((Int × (Int × (Int × (Unit × Unit)))) × ((Int × (Int × (Int × (Unit × Unit)))) × ((List (Den (.slice (.cpx .f32)))) × Unit)))))
def sh31_4 : ShS := ⟨[(0, .one (.ptr 0 0)), (2, .one (.ptr 1 0)), (3, .one (.ptr 2 0)), (4, .one (.cpx .f32)), (5, .one (.int .i64))], [(0, .box [.sl (.int .u8), .int .i64, .int .i64]), (1, .box [.int .i64, .int .i64, .int .i64, .nil (.slice (.cpx .f32))]), (2, .box [.int .i64, .int .i64, .int .i64, .ref (.slice (.cpx .f32)) 3]), (3, .arr (.slice (.cpx .f32)))], 4, 1⟩
abbrev X31_4 : Type := ((Unit × (Unit × (Unit × Unit))) × (((List (Den (.int .u8))) × (Int × (Int × Unit))) × ((Int × (Int × (Int × (Unit × Unit)))) × ((Int × (Int × (Int × (Unit × Unit)))) × ((List (Den (.slice (.cpx .f32)))) × Unit)))))
def shX31_4 : ShS := ⟨[(0, .one (.ptr 0 0)), (2, .one (.ptr 1 0)), (3, .one (.ptr 2 0))], [(0, .box [.sl (.int .u8), .int .i64, .int .i64]), (1, .box [.int .i64, .int .i64, .int .i64, .nil (.slice (.cpx .f32))]), (2, .box [.int .i64, .int .i64, .int .i64, .ref (.slice (.cpx .f32)) 3]), (3, .arr (.slice (.cpx .f32)))], 4, 1⟩
abbrev V31_8 : Type := ((Unit × (Unit × (Unit × ((Nat × Nat) × (Int × (Unit × (Int × Unit))))))) × (((List (Den (.int .u8))) × (Int × (Int × Unit))) × ((Int × (Int × (Int × (Unit × Unit)))) × ((Int × (Int × (Int × (Unit × Unit)))) × ((List (Den (.slice (.cpx .f32)))) × ((List (Den (.cpx .f32))) × Unit))))))
def sh31_8 : ShS := ⟨[(0, .one (.ptr 0 0)), (2, .one (.ptr 1 0)), (3, .one (.ptr 2 0)), (4, .one (.cpx .f32)), (5, .one (.int .i64)), (6, .one (.ref (.cpx .f32) 4)), (7, .one (.int .i64))], [(0, .box [.sl (.int .u8), .int .i64, .int .i64]), (1, .box [.int .i64, .int .i64, .int .i64, .nil (.slice (.cpx .f32))]), (2, .box [.int .i64, .int .i64, .int .i64, .ref (.slice (.cpx .f32)) 3]), (3, .arr (.slice (.cpx .f32))), (4, .arr (.cpx .f32))], 5, 1⟩
abbrev X31_8 : Type := ((Unit × (Unit × (Unit × ((Nat × Nat) × (Int × (Unit × Unit)))))) × (((List (Den (.int .u8))) × (Int × (Int × Unit))) × ((Int × (Int × (Int × (Unit × Unit)))) × ((Int × (Int × (Int × (Unit × Unit)))) × ((List (Den (.slice (.cpx .f32)))) × ((List (Den (.cpx .f32))) × Unit))))))
def shX31_8 : ShS := ⟨[(0, .one (.ptr 0 0)), (2, .one (.ptr 1 0)), (3, .one (.ptr 2 0)), (4, .one (.cpx .f32)), (5, .one (.int .i64)), (6, .one (.ref (.cpx .f32) 4))], [(0, .box [.sl (.int .u8), .int .i64, .int .i64]), (1, .box [.int .i64, .int .i64, .int .i64, .nil (.slice (.cpx .f32))]), (2, .box [.int .i64, .int .i64, .int .i64, .ref (.slice (.cpx .f32)) 3]), (3, .arr (.slice (.cpx .f32))), (4, .arr (.cpx .f32))], 5, 1⟩
noncomputable def Γ31 (k66 : I66.den → Bool) (g66 : I66.den → O66.den) (k74 : I74.den → Bool) (g74 : I74.den → O74.den) (k45 : I45.den → Bool) (g45 : I45.den → O45.den) (k75 : I75.den → Bool) (g75 : I75.den → O75.den) (k76 : I76.den → Bool) (g76 : I76.den → O76.den) (kl4 : V31_4 → Bool) (xl4 : V31_4 → X31_4) (kl8 : V31_8 → Bool) (xl8 : V31_8 → X31_8) : Env := mkEnv tab eqs [(66, sgMean true I66 O66 k66 g66), (74, sgMean true I74 O74 k74 g74), (45, sgMean true I45 O45 k45 g45), (75, sgMean true I75 O75 k75 g75), (76, sgMean true I76 O76 k76 g76)] 85 [.cell 2 26] [] [] [(4, loopX [0, 2, 3, 4, 5] [.boxNil 3 3] 0 [0, 2, 3] [] sh31_4 shX31_4 kl4 xl4), (8, loopX [0, 2, 3, 4, 5, 6, 7] [] 2 [0, 2, 3, 4, 5, 6] [] sh31_8 shX31_8 kl8 xl8)] [] [.frzBox 2]
noncomputable def lc31_4 : Code := (loopsOf (bodyOf Try.f31)).getD 0 .skip
noncomputable def lc31_8 : Code := (loopsOf (bodyOf Try.f31)).getD 1 .skip
def q31_8 (k66 : I66.den → Bool) (g66 : I66.den → O66.den) (k74 : I74.den → Bool) (g74 : I74.den → O74.den) (k45 : I45.den → Bool) (g45 : I45.den → O45.den) (k75 : I75.den → Bool) (g75 : I75.den → O75.den) (k76 : I76.den → Bool) (g76 : I76.den → O76.den) (f : V31_8 → Option (X31_8)) (v : V31_8) : Option (X31_8) :=
  let v0 := (IntKind.wrap IntKind.i64 (v.snd.snd.snd.fst.fst * v.snd.snd.snd.fst.snd.fst))
  bif (decide (v.fst.snd.snd.snd.snd.snd.snd.fst < v0)) then
    let v1 := (k45 (((), 3, ()), v.snd.fst, ()))
    bif (v1) then
      let v2 := (g45 (((), 3, ()), v.snd.fst, ()))
      bif (v2.fst.1) then
        let v3 := (k74 (((), ()), v2.snd))
        bif (v3) then
          let v4 := (g74 (((), ()), v2.snd))
          let v5 := (List.set (List.replicate 1 (zero (Ty.cpx FloatKind.f32))) 0 v4.fst.fst)
          bif (capOk (List.length v.snd.snd.snd.snd.snd.fst + List.length v5)) then
            let v6 := (IntKind.wrap IntKind.i64 (v.fst.snd.snd.snd.snd.snd.snd.fst + 1))
            let v7 := (v.snd.snd.snd.snd.snd.fst ++ v5)
            f (((), ((), ((), (((v4.fst.fst.1), (v4.fst.fst.2)), ((v.fst.snd.snd.snd.snd.1), ((), ((v6), ()))))))), (((v4.snd.fst.1), ((v4.snd.fst.snd.1), ((v4.snd.fst.snd.snd.1), ()))), (((v.snd.snd.fst.1), ((v.snd.snd.fst.snd.1), ((v.snd.snd.fst.snd.snd.1), ((), ())))), (((v.snd.snd.snd.fst.1), ((v.snd.snd.snd.fst.snd.1), ((v.snd.snd.snd.fst.snd.snd.1), ((), ())))), ((v.snd.snd.snd.snd.1), ((v7), ()))))))
          else
            none
        else
          none
      else
        let v3 := (List.set (List.replicate 1 (zero (Ty.cpx FloatKind.f32))) 0 v.fst.snd.snd.snd.fst)
        bif (capOk (List.length v.snd.snd.snd.snd.snd.fst + List.length v3)) then
          let v4 := (IntKind.wrap IntKind.i64 (v.fst.snd.snd.snd.snd.snd.snd.fst + 1))
          let v5 := (v.snd.snd.snd.snd.snd.fst ++ v3)
          f (((), ((), ((), (((v.fst.snd.snd.snd.fst.1), (v.fst.snd.snd.snd.fst.2)), ((v.fst.snd.snd.snd.snd.1), ((), ((v4), ()))))))), (((v2.snd.fst.1), ((v2.snd.fst.snd.1), ((v2.snd.fst.snd.snd.1), ()))), (((v.snd.snd.fst.1), ((v.snd.snd.fst.snd.1), ((v.snd.snd.fst.snd.snd.1), ((), ())))), (((v.snd.snd.snd.fst.1), ((v.snd.snd.snd.fst.snd.1), ((v.snd.snd.snd.fst.snd.snd.1), ((), ())))), ((v.snd.snd.snd.snd.1), ((v5), ()))))))
        else
          none
    else
      none
  else
    some (((), ((), ((), (((v.fst.snd.snd.snd.fst.1), (v.fst.snd.snd.snd.fst.2)), ((v.fst.snd.snd.snd.snd.1), ((), ())))))), (((v.snd.fst.1), ((v.snd.fst.snd.1), ((v.snd.fst.snd.snd.1), ()))), (((v.snd.snd.fst.1), ((v.snd.snd.fst.snd.1), ((v.snd.snd.fst.snd.snd.1), ((), ())))), (((v.snd.snd.snd.fst.1), ((v.snd.snd.snd.fst.snd.1), ((v.snd.snd.snd.fst.snd.snd.1), ((), ())))), ((v.snd.snd.snd.snd.1), ((v.snd.snd.snd.snd.snd.1), ()))))))
theorem evl31_8 (k66 : I66.den → Bool) (g66 : I66.den → O66.den) (k74 : I74.den → Bool) (g74 : I74.den → O74.den) (k45 : I45.den → Bool) (g45 : I45.den → O45.den) (k75 : I75.den → Bool) (g75 : I75.den → O75.den) (k76 : I76.den → Bool) (g76 : I76.den → O76.den) (kl4 : V31_4 → Bool) (xl4 : V31_4 → X31_4) (kl8 : V31_8 → Bool) (xl8 : V31_8 → X31_8) (f : V31_8 → Option (X31_8)) (v : V31_8) : EBk (Γ31 k66 g66 k74 g74 k45 g45 k75 g75 k76 g76 kl4 xl4 kl8 xl8) lc31_8 (roundK [0, 2, 3, 4, 5, 6, 7] [] 2 [0, 2, 3, 4, 5, 6] [] (atS sh31_8 f) (endX shX31_8)) (mkS sh31_8 v) = q31_8 k66 g66 k74 g74 k45 g45 k75 g75 k76 g76 f v := by kernel_rfl
def b31_8 (v : V31_8) : Nat := v.1.2.2.2.2.1.natAbs + v.1.2.2.2.2.2.2.1.natAbs + v.2.1.1.length + v.2.1.2.1.natAbs + v.2.1.2.2.1.natAbs + v.2.2.1.1.natAbs + v.2.2.1.2.1.natAbs + v.2.2.1.2.2.1.natAbs + v.2.2.2.1.1.natAbs + v.2.2.2.1.2.1.natAbs + v.2.2.2.1.2.2.1.natAbs + v.2.2.2.2.1.length + v.2.2.2.2.2.1.length + 1000
def l31_8 (v : V31_8) : Option (X31_8) := iter (q31_8 K66 G66 K74 G74 K45 G45 K75 G75 K76 G76) (b31_8 v) v
def kL31_8 (v : V31_8) : Bool := (l31_8 v).isSome
def xL31_8 (v : V31_8) : X31_8 := (l31_8 v).getD (((), ((), ((), ((0, 0), (0, ((), ())))))), (([], (0, (0, ()))), ((0, (0, (0, ((), ())))), ((0, (0, (0, ((), ())))), ([], ([], ()))))))
def q31_4 (k66 : I66.den → Bool) (g66 : I66.den → O66.den) (k74 : I74.den → Bool) (g74 : I74.den → O74.den) (k45 : I45.den → Bool) (g45 : I45.den → O45.den) (k75 : I75.den → Bool) (g75 : I75.den → O75.den) (k76 : I76.den → Bool) (g76 : I76.den → O76.den) (kl8 : V31_8 → Bool) (xl8 : V31_8 → X31_8) (f : V31_4 → Option (X31_4)) (v : V31_4) : Option (X31_4) :=
  bif (decide (v.fst.snd.snd.snd.snd.fst > 0)) then
    let v0 := (kl8 (((), (), (), v.fst.snd.snd.snd.fst, v.fst.snd.snd.snd.snd.fst, (), 0, ()), v.snd.fst, (v.snd.snd.fst.fst, v.snd.snd.fst.snd.fst, v.snd.snd.fst.snd.snd.fst, (), ()), (v.snd.snd.snd.fst.fst, v.snd.snd.snd.fst.snd.fst, v.snd.snd.snd.fst.snd.snd.fst, (), ()), v.snd.snd.snd.snd.fst, List.replicate 0 (zero (Ty.cpx FloatKind.f32)), ()))
    bif (v0) then
      let v1 := (xl8 (((), (), (), v.fst.snd.snd.snd.fst, v.fst.snd.snd.snd.snd.fst, (), 0, ()), v.snd.fst, (v.snd.snd.fst.fst, v.snd.snd.fst.snd.fst, v.snd.snd.fst.snd.snd.fst, (), ()), (v.snd.snd.snd.fst.fst, v.snd.snd.snd.fst.snd.fst, v.snd.snd.snd.fst.snd.snd.fst, (), ()), v.snd.snd.snd.snd.fst, List.replicate 0 (zero (Ty.cpx FloatKind.f32)), ()))
      let v2 := (List.set (List.replicate 1 (zero (Ty.slice (Ty.cpx FloatKind.f32)))) 0 v1.snd.snd.snd.snd.snd.fst)
      bif (capOk (List.length v1.snd.snd.snd.snd.fst + List.length v2)) then
        let v3 := (IntKind.wrap IntKind.i64 (v1.fst.snd.snd.snd.snd.fst - 1))
        let v4 := (v1.snd.snd.snd.snd.fst ++ v2)
        f (((), ((), ((), (((v1.fst.snd.snd.snd.fst.1), (v1.fst.snd.snd.snd.fst.2)), ((v3), ()))))), (((v1.snd.fst.1), ((v1.snd.fst.snd.1), ((v1.snd.fst.snd.snd.1), ()))), (((v1.snd.snd.fst.1), ((v1.snd.snd.fst.snd.1), ((v1.snd.snd.fst.snd.snd.1), ((), ())))), (((v1.snd.snd.snd.fst.1), ((v1.snd.snd.snd.fst.snd.1), ((v1.snd.snd.snd.fst.snd.snd.1), ((), ())))), ((v4), ())))))
      else
        none
    else
      none
  else
    some (((), ((), ((), ()))), (((v.snd.fst.1), ((v.snd.fst.snd.1), ((v.snd.fst.snd.snd.1), ()))), (((v.snd.snd.fst.1), ((v.snd.snd.fst.snd.1), ((v.snd.snd.fst.snd.snd.1), ((), ())))), (((v.snd.snd.snd.fst.1), ((v.snd.snd.snd.fst.snd.1), ((v.snd.snd.snd.fst.snd.snd.1), ((), ())))), ((v.snd.snd.snd.snd.1), ())))))
theorem evl31_4 (k66 : I66.den → Bool) (g66 : I66.den → O66.den) (k74 : I74.den → Bool) (g74 : I74.den → O74.den) (k45 : I45.den → Bool) (g45 : I45.den → O45.den) (k75 : I75.den → Bool) (g75 : I75.den → O75.den) (k76 : I76.den → Bool) (g76 : I76.den → O76.den) (kl4 : V31_4 → Bool) (xl4 : V31_4 → X31_4) (kl8 : V31_8 → Bool) (xl8 : V31_8 → X31_8) (f : V31_4 → Option (X31_4)) (v : V31_4) : EBk (Γ31 k66 g66 k74 g74 k45 g45 k75 g75 k76 g76 kl4 xl4 kl8 xl8) lc31_4 (roundK [0, 2, 3, 4, 5] [.boxNil 3 3] 0 [0, 2, 3] [] (atS sh31_4 f) (endX shX31_4)) (mkS sh31_4 v) = q31_4 k66 g66 k74 g74 k45 g45 k75 g75 k76 g76 kl8 xl8 f v := by kernel_rfl
def b31_4 (v : V31_4) : Nat := v.1.2.2.2.2.1.natAbs + v.2.1.1.length + v.2.1.2.1.natAbs + v.2.1.2.2.1.natAbs + v.2.2.1.1.natAbs + v.2.2.1.2.1.natAbs + v.2.2.1.2.2.1.natAbs + v.2.2.2.1.1.natAbs + v.2.2.2.1.2.1.natAbs + v.2.2.2.1.2.2.1.natAbs + v.2.2.2.2.1.length + 1000
def l31_4 (v : V31_4) : Option (X31_4) := iter (q31_4 K66 G66 K74 G74 K45 G45 K75 G75 K76 G76 kL31_8 xL31_8) (b31_4 v) v
def kL31_4 (v : V31_4) : Bool := (l31_4 v).isSome
def xL31_4 (v : V31_4) : X31_4 := (l31_4 v).getD (((), ((), ((), ()))), (([], (0, (0, ()))), ((0, (0, (0, ((), ())))), ((0, (0, (0, ((), ())))), ([], ())))))
def r31 (k66 : I66.den → Bool) (g66 : I66.den → O66.den) (k74 : I74.den → Bool) (g74 : I74.den → O74.den) (k45 : I45.den → Bool) (g45 : I45.den → O45.den) (k75 : I75.den → Bool) (g75 : I75.den → O75.den) (k76 : I76.den → Bool) (g76 : I76.den → O76.den) (kl4 : V31_4 → Bool) (xl4 : V31_4 → X31_4) (kl8 : V31_8 → Bool) (xl8 : V31_8 → X31_8) (x : I31.den) : Option (O31.den) :=
  let v0 := (k66 (((), 2, ()), x.snd))
  bif (v0) then
    let v1 := (g66 (((), 2, ()), x.snd))
    let v2 := (k66 (((), 3000, ()), v1.snd))
    bif (v2) then
      let v3 := (g66 (((), 3000, ()), v1.snd))
      let v4 := (k74 (((), ()), v3.snd))
      bif (v4) then
        let v5 := (g74 (((), ()), v3.snd))
        let v6 := (k66 (((), 3, ()), v5.snd))
        bif (v6) then
          let v7 := (g66 (((), 3, ()), v5.snd))
          let v8 := (k66 (((), 2, ()), v7.snd))
          bif (v8) then
            let v9 := (g66 (((), 2, ()), v7.snd))
            let v10 := (IntKind.wrap IntKind.i64 (v7.fst.fst * v9.fst.fst))
            let v11 := (IntKind.wrap IntKind.i64 (1 + v10))
            let v12 := (IntKind.wrap IntKind.i64 (2 + v1.fst.fst))
            let v13 := (IntKind.wrap IntKind.i64 (100 + v3.fst.fst))
            let v14 := (kl4 (((), (), (), v5.fst.fst, v11, ()), v9.snd.fst, (0, 0, 0, (), ()), (v12, 2, v13, (), ()), [], ()))
            bif (v14) then
              let v15 := (xl4 (((), (), (), v5.fst.fst, v11, ()), v9.snd.fst, (0, 0, 0, (), ()), (v12, 2, v13, (), ()), [], ()))
              let v16 := (k66 (((), 30, ()), v15.snd.fst, ()))
              bif (v16) then
                let v17 := (g66 (((), 30, ()), v15.snd.fst, ()))
                bif (v17.fst.fst == 0) then
                  let v18 := (k75 (((), ()), v17.snd))
                  bif (v18) then
                    let v19 := (g75 (((), ()), v17.snd))
                    some ((((v19.fst.1), ((v15.snd.snd.snd.fst.snd.1), ((v15.snd.snd.snd.fst.snd.snd.1), ((v15.snd.snd.snd.snd.1), ())))), ()), (((v19.snd.fst.1), ((v19.snd.fst.snd.1), ((v19.snd.fst.snd.snd.1), ()))), ()))
                  else
                    none
                else
                  bif (v17.fst.fst == 1) then
                    let v18 := (IntKind.wrap IntKind.i64 (v15.snd.snd.snd.fst.snd.fst + 1))
                    some ((((v15.snd.snd.snd.fst.1), ((v18), ((v15.snd.snd.snd.fst.snd.snd.1), ((v15.snd.snd.snd.snd.1), ())))), ()), (((v17.snd.fst.1), ((v17.snd.fst.snd.1), ((v17.snd.fst.snd.snd.1), ()))), ()))
                  else
                    bif (v17.fst.fst == 2) then
                      let v18 := (List.set (List.replicate 5 (zero (Ty.int IntKind.i64))) 0 9)
                      let v19 := (List.set v18 1 10)
                      let v20 := (List.set v19 2 100000)
                      let v21 := (List.set v20 3 100001)
                      let v22 := (List.set v21 4 (-1))
                      let v23 := (k76 (((), (), ()), v17.snd.fst, v22, ()))
                      bif (v23) then
                        let v24 := (g76 (((), (), ()), v17.snd.fst, v22, ()))
                        some ((((v15.snd.snd.snd.fst.1), ((v15.snd.snd.snd.fst.snd.1), ((v24.fst.1), ((v15.snd.snd.snd.snd.1), ())))), ()), (((v24.snd.fst.1), ((v24.snd.fst.snd.1), ((v24.snd.fst.snd.snd.1), ()))), ()))
                      else
                        none
                    else
                      bif (v17.fst.fst == 3) then
                        some ((((v15.snd.snd.snd.fst.1), ((v15.snd.snd.snd.fst.snd.1), ((v15.snd.snd.snd.fst.snd.snd.1), ((List.replicate 0 (zero (Ty.slice (Ty.cpx FloatKind.f32)))), ())))), ()), (((v17.snd.fst.1), ((v17.snd.fst.snd.1), ((v17.snd.fst.snd.snd.1), ()))), ()))
                      else
                        bif (v17.fst.fst == 4) then
                          bif (decide (0 ≤ 0) && decide (0 < (↑(List.length v15.snd.snd.snd.snd.fst) : Int))) then
                            let v18 := (List.getD v15.snd.snd.snd.snd.fst (Int.toNat 0) (zero (Ty.slice (Ty.cpx FloatKind.f32))))
                            bif (decide (0 ≤ 1) && decide (1 ≤ (↑(List.length v18) : Int)) && decide ((↑(List.length v18) : Int) ≤ (↑(List.length v18) : Int))) then
                              bif (decide (0 ≤ 0) && decide (0 < (↑(List.length v15.snd.snd.snd.snd.fst) : Int))) then
                                let v19 := (List.set v15.snd.snd.snd.snd.fst (Int.toNat 0) (List.drop (Int.toNat 1) (List.take (Int.toNat (↑(List.length v18) : Int)) v18)))
                                some ((((v15.snd.snd.snd.fst.1), ((v15.snd.snd.snd.fst.snd.1), ((v15.snd.snd.snd.fst.snd.snd.1), ((v19), ())))), ()), (((v17.snd.fst.1), ((v17.snd.fst.snd.1), ((v17.snd.fst.snd.snd.1), ()))), ()))
                              else
                                none
                            else
                              none
                          else
                            none
                        else
                          some ((((v15.snd.snd.snd.fst.1), ((v15.snd.snd.snd.fst.snd.1), ((v15.snd.snd.snd.fst.snd.snd.1), ((v15.snd.snd.snd.snd.1), ())))), ()), (((v17.snd.fst.1), ((v17.snd.fst.snd.1), ((v17.snd.fst.snd.snd.1), ()))), ()))
              else
                none
            else
              none
          else
            none
        else
          none
      else
        none
    else
      none
  else
    none
theorem ev31 (k66 : I66.den → Bool) (g66 : I66.den → O66.den) (k74 : I74.den → Bool) (g74 : I74.den → O74.den) (k45 : I45.den → Bool) (g45 : I45.den → O45.den) (k75 : I75.den → Bool) (g75 : I75.den → O75.den) (k76 : I76.den → Bool) (g76 : I76.den → O76.den) (kl4 : V31_4 → Bool) (xl4 : V31_4 → X31_4) (kl8 : V31_8 → Bool) (xl8 : V31_8 → X31_8) (x : I31.den) : callS (Γ31 k66 g66 k74 g74 k45 g45 k75 g75 k76 g76 kl4 xl4 kl8 xl8) (bodyOf Try.f31) I31 O31 x = r31 k66 g66 k74 g74 k45 g45 k75 g75 k76 g76 kl4 xl4 kl8 xl8 x := by kernel_rfl
def F31 (x : I31.den) : Option (O31.den) := r31 K66 G66 K74 G74 K45 G45 K75 G75 K76 G76 kL31_4 xL31_4 kL31_8 xL31_8 x
def K31 (x : I31.den) : Bool := (F31 x).isSome
def G31 (x : I31.den) : O31.den := (F31 x).getD (zeroSg O31)
theorem env31 : EnvOK Try.prog (Γ31 K66 G66 K74 G74 K45 G45 K75 G75 K76 G76 kL31_4 xL31_4 kL31_8 xL31_8) := env_ok mixed tab_ok eqs_ok (.cons sem66 (.cons sem74 (.cons sem45 (.cons sem75 (.cons sem76 .nil)))))
theorem is31 : FnIs Try.prog 31 (Γ31 K66 G66 K74 G74 K45 G45 K75 G75 K76 G76 kL31_4 xL31_4 kL31_8 xL31_8) (bodyOf Try.f31) := fnIs Try.func31 rfl rfl rfl (by kernel_rfl) (loops_ok (l := [lc31_4, lc31_8]) (by kernel_rfl) (.cons (one_loop rfl (loopX_sound (sh := sh31_4) (shX := shX31_4) (fun f v => evl31_4 K66 G66 K74 G74 K45 G45 K75 G75 K76 G76 kL31_4 xL31_4 kL31_8 xL31_8 f v) b31_4 (((), ((), ((), ()))), (([], (0, (0, ()))), ((0, (0, (0, ((), ())))), ((0, (0, (0, ((), ())))), ([], ()))))))) (.cons (one_loop rfl (loopX_sound (sh := sh31_8) (shX := shX31_8) (fun f v => evl31_8 K66 G66 K74 G74 K45 G45 K75 G75 K76 G76 kL31_4 xL31_4 kL31_8 xL31_8 f v) b31_8 (((), ((), ((), ((0, 0), (0, ((), ())))))), (([], (0, (0, ()))), ((0, (0, (0, ((), ())))), ((0, (0, (0, ((), ())))), ([], ([], ())))))))) (.nil))))
theorem sem31 : SemOK Try.prog (31, sgMean true I31 O31 K31 G31) := sg_opt env31 is31 true fun x => ev31 K66 G66 K74 G74 K45 G45 K75 G75 K76 G76 kL31_4 xL31_4 kL31_8 xL31_8 x

/- "loop.example/g03321/spec.l12Node2" mode S true -/
abbrev I32 : Sg := ⟨[.ptr 0, .val (S25)], [.box (S98)]⟩
abbrev O32 : Sg := ⟨[.val (.int .i64)], [.box (S98)]⟩
noncomputable def Γ32 (k45 : I45.den → Bool) (g45 : I45.den → O45.den) (k76 : I76.den → Bool) (g76 : I76.den → O76.den) (k66 : I66.den → Bool) (g66 : I66.den → O66.den) : Env := mkEnv tab eqs [(45, sgMean true I45 O45 k45 g45), (76, sgMean true I76 O76 k76 g76), (66, sgMean true I66 O66 k66 g66)] 17 [.tmp 4] [] [] [] [] []
def r32 (k45 : I45.den → Bool) (g45 : I45.den → O45.den) (k76 : I76.den → Bool) (g76 : I76.den → O76.den) (k66 : I66.den → Bool) (g66 : I66.den → O66.den) (x : I32.den) : Option (O32.den) :=
  let v0 := (k45 (((), 25, ()), x.snd))
  bif (v0) then
    let v1 := (g45 (((), 25, ()), x.snd))
    bif (v1.fst.1) then
      let v2 := (List.set (List.replicate 5 (zero (Ty.int IntKind.i64))) 0 (-1))
      let v3 := (List.set v2 1 9223372036854775807)
      let v4 := (List.set v3 2 4)
      let v5 := (List.set v4 3 6)
      let v6 := (List.set v5 4 9)
      let v7 := (k76 (((), (), ()), v1.snd.fst, v6, ()))
      bif (v7) then
        let v8 := (g76 (((), (), ()), v1.snd.fst, v6, ()))
        some (((v8.fst.1), ()), (((v8.snd.fst.1), ((v8.snd.fst.snd.1), ((v8.snd.fst.snd.snd.1), ()))), ()))
      else
        none
    else
      let v2 := (IntKind.wrap IntKind.i64 ((↑(List.length x.fst.snd.fst.snd.snd.snd.fst) : Int) * 0))
      let v3 := (IntKind.wrap IntKind.i64 (v2 + 4))
      let v4 := (k66 (((), v3, ()), v1.snd))
      bif (v4) then
        let v5 := (g66 (((), v3, ()), v1.snd))
        some (((v5.fst.1), ()), (((v5.snd.fst.1), ((v5.snd.fst.snd.1), ((v5.snd.fst.snd.snd.1), ()))), ()))
      else
        none
  else
    none
theorem ev32 (k45 : I45.den → Bool) (g45 : I45.den → O45.den) (k76 : I76.den → Bool) (g76 : I76.den → O76.den) (k66 : I66.den → Bool) (g66 : I66.den → O66.den) (x : I32.den) : callS (Γ32 k45 g45 k76 g76 k66 g66) (bodyOf Try.f32) I32 O32 x = r32 k45 g45 k76 g76 k66 g66 x := by kernel_rfl
def F32 (x : I32.den) : Option (O32.den) := r32 K45 G45 K76 G76 K66 G66 x
def K32 (x : I32.den) : Bool := (F32 x).isSome
def G32 (x : I32.den) : O32.den := (F32 x).getD (zeroSg O32)
theorem env32 : EnvOK Try.prog (Γ32 K45 G45 K76 G76 K66 G66) := env_ok mixed tab_ok eqs_ok (.cons sem45 (.cons sem76 (.cons sem66 .nil)))
theorem is32 : FnIs Try.prog 32 (Γ32 K45 G45 K76 G76 K66 G66) (bodyOf Try.f32) := fnIs Try.func32 rfl rfl rfl (by kernel_rfl) (noLoops (by kernel_rfl))
theorem sem32 : SemOK Try.prog (32, sgMean true I32 O32 K32 G32) := sg_opt env32 is32 true fun x => ev32 K45 G45 K76 G76 K66 G66 x

/- "loop.example/g03321/spec.l12Time" mode S true -/
abbrev I33 : Sg := ⟨[.ptr 0], [.box (S98)]⟩
abbrev O33 : Sg := ⟨[.val (.int .i64)], [.box (S98)]⟩
noncomputable def Γ33 (k45 : I45.den → Bool) (g45 : I45.den → O45.den) (k76 : I76.den → Bool) (g76 : I76.den → O76.den) (k66 : I66.den → Bool) (g66 : I66.den → O66.den) : Env := mkEnv tab eqs [(45, sgMean true I45 O45 k45 g45), (76, sgMean true I76 O76 k76 g76), (66, sgMean true I66 O66 k66 g66)] 10 [.tmp 2] [] [] [] [] []
def r33 (k45 : I45.den → Bool) (g45 : I45.den → O45.den) (k76 : I76.den → Bool) (g76 : I76.den → O76.den) (k66 : I66.den → Bool) (g66 : I66.den → O66.den) (x : I33.den) : Option (O33.den) :=
  let v0 := (k45 (((), 15, ()), x.snd))
  bif (v0) then
    let v1 := (g45 (((), 15, ()), x.snd))
    bif (v1.fst.1) then
      let v2 := (List.set (List.replicate 5 (zero (Ty.int IntKind.i64))) 0 (-1))
      let v3 := (List.set v2 1 0)
      let v4 := (List.set v3 2 10000000)
      let v5 := (List.set v4 3 10000001)
      let v6 := (List.set v5 4 9999500)
      let v7 := (k76 (((), (), ()), v1.snd.fst, v6, ()))
      bif (v7) then
        let v8 := (g76 (((), (), ()), v1.snd.fst, v6, ()))
        some (((v8.fst.1), ()), (((v8.snd.fst.1), ((v8.snd.fst.snd.1), ((v8.snd.fst.snd.snd.1), ()))), ()))
      else
        none
    else
      let v2 := (k66 (((), 9000, ()), v1.snd))
      bif (v2) then
        let v3 := (g66 (((), 9000, ()), v1.snd))
        some (((v3.fst.1), ()), (((v3.snd.fst.1), ((v3.snd.fst.snd.1), ((v3.snd.fst.snd.snd.1), ()))), ()))
      else
        none
  else
    none
theorem ev33 (k45 : I45.den → Bool) (g45 : I45.den → O45.den) (k76 : I76.den → Bool) (g76 : I76.den → O76.den) (k66 : I66.den → Bool) (g66 : I66.den → O66.den) (x : I33.den) : callS (Γ33 k45 g45 k76 g76 k66 g66) (bodyOf Try.f33) I33 O33 x = r33 k45 g45 k76 g76 k66 g66 x := by kernel_rfl
def F33 (x : I33.den) : Option (O33.den) := r33 K45 G45 K76 G76 K66 G66 x
def K33 (x : I33.den) : Bool := (F33 x).isSome
def G33 (x : I33.den) : O33.den := (F33 x).getD (zeroSg O33)
theorem env33 : EnvOK Try.prog (Γ33 K45 G45 K76 G76 K66 G66) := env_ok mixed tab_ok eqs_ok (.cons sem45 (.cons sem76 (.cons sem66 .nil)))
theorem is33 : FnIs Try.prog 33 (Γ33 K45 G45 K76 G76 K66 G66) (bodyOf Try.f33) := fnIs Try.func33 rfl rfl rfl (by kernel_rfl) (noLoops (by kernel_rfl))
theorem sem33 : SemOK Try.prog (33, sgMean true I33 O33 K33 G33) := sg_opt env33 is33 true fun x => ev33 K45 G45 K76 G76 K66 G66 x

/- "loop.example/g03321/spec.DrawWindAt" -/
abbrev A8 : Ty := .cons (.slice (.int .u8)) (.nil)
abbrev R8 : Ty := .cons (S25) (.cons (.int .i64) (.cons (.int .i64) (.nil)))
noncomputable def Γ8 (k30 : I30.den → Bool) (g30 : I30.den → O30.den) (k31 : I31.den → Bool) (g31 : I31.den → O31.den) (k32 : I32.den → Bool) (g32 : I32.den → O32.den) (k33 : I33.den → Bool) (g33 : I33.den → O33.den) : Env := mkEnv tab eqs [(30, sgMean false I30 O30 k30 g30), (31, sgMean true I31 O31 k31 g31), (32, sgMean true I32 O32 k32 g32), (33, sgMean true I33 O33 k33 g33)] 19 [.cell 2 26, .tmp 3, .tmp 4] [] [] [] [] []
def r8 (k30 : I30.den → Bool) (g30 : I30.den → O30.den) (k31 : I31.den → Bool) (g31 : I31.den → O31.den) (k32 : I32.den → Bool) (g32 : I32.den → O32.den) (k33 : I33.den → Bool) (g33 : I33.den → O33.den) (x : Den A8) : Option (Den R8) :=
  let v0 := (k30 (x, ()))
  bif (v0) then
    let v1 := (g30 (x, ()))
    let v2 := (k31 (((), ()), v1.snd))
    bif (v2) then
      let v3 := (g31 (((), ()), v1.snd))
      let v4 := (k32 (((), v3.fst), v3.snd))
      bif (v4) then
        let v5 := (g32 (((), v3.fst), v3.snd))
        let v6 := (k33 (((), ()), v5.snd))
        bif (v6) then
          let v7 := (g33 (((), ()), v5.snd))
          some (((v3.fst.fst.1), ((v3.fst.fst.snd.1), ((v3.fst.fst.snd.snd.1), ((v3.fst.fst.snd.snd.snd.1), ())))), ((v5.fst.1), ((v7.fst.1), ())))
        else
          none
      else
        none
    else
      none
  else
    none
theorem ev8 (k30 : I30.den → Bool) (g30 : I30.den → O30.den) (k31 : I31.den → Bool) (g31 : I31.den → O31.den) (k32 : I32.den → Bool) (g32 : I32.den → O32.den) (k33 : I33.den → Bool) (g33 : I33.den → O33.den) (x : Den A8) : callK (Γ8 k30 g30 k31 g31 k32 g32 k33 g33) (bodyOf Try.f8) (decR R8) (encA A8 x) [] = r8 k30 g30 k31 g31 k32 g32 k33 g33 x := by kernel_rfl
def F8 (x : Den A8) : Option (Den R8) := r8 K30 G30 K31 G31 K32 G32 K33 G33 x
def K8 (x : Den A8) : Bool := (F8 x).isSome
def G8 (x : Den A8) : Den R8 := (F8 x).getD (zero R8)
theorem env8 : EnvOK Try.prog (Γ8 K30 G30 K31 G31 K32 G32 K33 G33) := env_ok mixed tab_ok eqs_ok (.cons sem30 (.cons sem31 (.cons sem32 (.cons sem33 .nil))))
theorem is8 : FnIs Try.prog 8 (Γ8 K30 G30 K31 G31 K32 G32 K33 G33) (bodyOf Try.f8) := fnIs Try.func8 rfl rfl rfl (by kernel_rfl) (noLoops (by kernel_rfl))
theorem sem8 : SemOK Try.prog (8, fnMean A8 R8 K8 G8) := fn_opt env8 is8 fun x => ev8 K30 G30 K31 G31 K32 G32 K33 G33 x

/- "loop.example/g03321/impl.within" -/
abbrev A48 : Ty := .cons (.int .i64) (.cons (.int .i64) (.cons (.int .i64) (.nil)))
abbrev R48 : Ty := .cons (.bool) (.nil)
noncomputable def Γ48 : Env := mkEnv tab eqs [] 15 [.tmp 6] [] [] [] [] []
def r48 (x : Den A48) : Option (Den R48) :=
  bif (decide (x.fst ≥ x.snd.fst)) then
    some ((decide (x.fst ≤ x.snd.snd.fst)), ())
  else
    some ((false), ())
theorem ev48 (x : Den A48) : callK (Γ48) (bodyOf Try.f48) (decR R48) (encA A48 x) [] = r48 x := by kernel_rfl
def F48 (x : Den A48) : Option (Den R48) := r48 x
def K48 (x : Den A48) : Bool := (F48 x).isSome
def G48 (x : Den A48) : Den R48 := (F48 x).getD (zero R48)
theorem env48 : EnvOK Try.prog (Γ48) := env_ok mixed tab_ok eqs_ok .nil
theorem is48 : FnIs Try.prog 48 (Γ48) (bodyOf Try.f48) := fnIs Try.func48 rfl rfl rfl (by kernel_rfl) (noLoops (by kernel_rfl))
theorem sem48 : SemOK Try.prog (48, fnMean A48 R48 K48 G48) := fn_opt env48 is48 fun x => ev48 x

/- "loop.example/g03321/impl.amount" -/
abbrev A67 : Ty := .cons (.flt .f32) (.nil)
abbrev R67 : Ty := .cons (.flt .f32) (.nil)
noncomputable def Γ67 : Env := mkEnv tab eqs [] 8 [.tmp 2] [] [] [] [] []
def r67 (x : Den A67) : Option (Den R67) :=
  bif (flt FloatKind.f32 x.fst 0) then
    let v0 := (fneg FloatKind.f32 x.fst)
    some ((v0), ())
  else
    some ((x.1), ())
theorem ev67 (x : Den A67) : callK (Γ67) (bodyOf Try.f67) (decR R67) (encA A67 x) [] = r67 x := by kernel_rfl
def F67 (x : Den A67) : Option (Den R67) := r67 x
def K67 (x : Den A67) : Bool := (F67 x).isSome
def G67 (x : Den A67) : Den R67 := (F67 x).getD (zero R67)
theorem env67 : EnvOK Try.prog (Γ67) := env_ok mixed tab_ok eqs_ok .nil
theorem is67 : FnIs Try.prog 67 (Γ67) (bodyOf Try.f67) := fnIs Try.func67 rfl rfl rfl (by kernel_rfl) (noLoops (by kernel_rfl))
theorem sem67 : SemOK Try.prog (67, fnMean A67 R67 K67 G67) := fn_opt env67 is67 fun x => ev67 x

/- "loop.example/g03321/impl.VelocityOk" -/
abbrev A103 : Ty := .cons (.cpx .f32) (.nil)
abbrev R103 : Ty := .cons (.bool) (.nil)
noncomputable def Γ103 (k67 : Den A67 → Bool) (g67 : Den A67 → Den R67) : Env := mkEnv tab eqs [(67, fnMean A67 R67 k67 g67)] 13 [.tmp 2] [] [] [] [] []
def r103 (k67 : Den A67 → Bool) (g67 : Den A67 → Den R67) (x : Den A103) : Option (Den R103) :=
  let v0 := (k67 (x.fst.fst, ()))
  bif (v0) then
    let v1 := (g67 (x.fst.fst, ()))
    bif (flt FloatKind.f32 v1.fst 1120403456 || feq FloatKind.f32 v1.fst 1120403456) then
      let v2 := (k67 (x.fst.snd, ()))
      bif (v2) then
        let v3 := (g67 (x.fst.snd, ()))
        some ((flt FloatKind.f32 v3.fst 1120403456 || feq FloatKind.f32 v3.fst 1120403456), ())
      else
        none
    else
      some ((false), ())
  else
    none
theorem ev103 (k67 : Den A67 → Bool) (g67 : Den A67 → Den R67) (x : Den A103) : callK (Γ103 k67 g67) (bodyOf Try.f103) (decR R103) (encA A103 x) [] = r103 k67 g67 x := by kernel_rfl
def F103 (x : Den A103) : Option (Den R103) := r103 K67 G67 x
def K103 (x : Den A103) : Bool := (F103 x).isSome
def G103 (x : Den A103) : Den R103 := (F103 x).getD (zero R103)
theorem env103 : EnvOK Try.prog (Γ103 K67 G67) := env_ok mixed tab_ok eqs_ok (.cons sem67 .nil)
theorem is103 : FnIs Try.prog 103 (Γ103 K67 G67) (bodyOf Try.f103) := fnIs Try.func103 rfl rfl rfl (by kernel_rfl) (noLoops (by kernel_rfl))
theorem sem103 : SemOK Try.prog (103, fnMean A103 R103 K103 G103) := fn_opt env103 is103 fun x => ev103 K67 G67 x

/- "loop.example/g03321/impl.velocitiesOk" -/
abbrev A77 : Ty := .cons (.slice (.cpx .f32)) (.nil)
abbrev R77 : Ty := .cons (.bool) (.nil)
abbrev V77_2 : Type := (((List (Den (.cpx .f32))) × (Int × (Int × Unit))) × Unit)
def sh77_2 : ShS := ⟨[(5, .one (.sl (.cpx .f32))), (6, .one (.int .i64)), (7, .one (.int .i64))], [], 0, 0⟩
abbrev X77_2 : Type := (Unit × Unit)
def shX77_2 : ShS := ⟨[], [], 0, 0⟩
abbrev Y77_2 : Type := ((Bool × Unit) × Unit)
def shY77_2 : ShS := ⟨[(2, .one (.bool))], [], 0, 0⟩
noncomputable def Γ77 (k103 : Den A103 → Bool) (g103 : Den A103 → Den R103) (kl2 : V77_2 → Bool) (xl2 : V77_2 → X77_2) (tl2 : V77_2 → Bool) (yl2 : V77_2 → Y77_2) : Env := mkEnv tab eqs [(103, fnMean A103 R103 k103 g103)] 15 [.tmp 2] [] [] [(2, loopR [5, 6, 7] [] 0 [] [] sh77_2 shX77_2 shY77_2 kl2 tl2 xl2 yl2)] [] []
noncomputable def lc77_2 : Code := (loopsOf (bodyOf Try.f77)).getD 0 .skip
def q77_2 (k103 : Den A103 → Bool) (g103 : Den A103 → Den R103) (f : V77_2 → Option (X77_2 ⊕ Y77_2)) (v : V77_2) : Option (X77_2 ⊕ Y77_2) :=
  bif (decide (v.fst.snd.snd.fst < v.fst.snd.fst)) then
    bif (decide (0 ≤ v.fst.snd.snd.fst) && decide (v.fst.snd.snd.fst < (↑(List.length v.fst.fst) : Int))) then
      let v0 := (List.getD v.fst.fst (Int.toNat v.fst.snd.snd.fst) (zero (Ty.cpx FloatKind.f32)))
      let v1 := (k103 (v0, ()))
      bif (v1) then
        let v2 := (g103 (v0, ()))
        bif (!v2.fst) then
          some (Sum.inr (((false), ()), ()))
        else
          let v3 := (IntKind.wrap IntKind.i64 (v.fst.snd.snd.fst + 1))
          f (((v.fst.1), ((v.fst.snd.1), ((v3), ()))), ())
      else
        none
    else
      none
  else
    some (Sum.inl ((), ()))
theorem evl77_2 (k103 : Den A103 → Bool) (g103 : Den A103 → Den R103) (kl2 : V77_2 → Bool) (xl2 : V77_2 → X77_2) (tl2 : V77_2 → Bool) (yl2 : V77_2 → Y77_2) (f : V77_2 → Option (X77_2 ⊕ Y77_2)) (v : V77_2) : EBk (Γ77 k103 g103 kl2 xl2 tl2 yl2) lc77_2 (roundK [5, 6, 7] [] 0 [] [] (atS sh77_2 f) (endS shX77_2 shY77_2)) (mkS sh77_2 v) = q77_2 k103 g103 f v := by kernel_rfl
def b77_2 (v : V77_2) : Nat := v.1.1.length + v.1.2.1.natAbs + v.1.2.2.1.natAbs + 1000
def l77_2 (v : V77_2) : Option (X77_2 ⊕ Y77_2) := iter (q77_2 K103 G103) (b77_2 v) v
def kL77_2 (v : V77_2) : Bool := (l77_2 v).isSome
def tL77_2 (v : V77_2) : Bool := isR (l77_2 v)
def xL77_2 (v : V77_2) : X77_2 := xOf ((), ()) (l77_2 v)
def yL77_2 (v : V77_2) : Y77_2 := yOf ((false, ()), ()) (l77_2 v)
def r77 (k103 : Den A103 → Bool) (g103 : Den A103 → Den R103) (kl2 : V77_2 → Bool) (xl2 : V77_2 → X77_2) (tl2 : V77_2 → Bool) (yl2 : V77_2 → Y77_2) (x : Den A77) : Option (Den R77) :=
  let v0 := (kl2 ((x.fst, (↑(List.length x.fst) : Int), 0, ()), ()))
  bif (v0) then
    let v1 := (tl2 ((x.fst, (↑(List.length x.fst) : Int), 0, ()), ()))
    bif (v1) then
      let v2 := (yl2 ((x.fst, (↑(List.length x.fst) : Int), 0, ()), ()))
      some ((v2.fst.1), ())
    else
      some ((true), ())
  else
    none
theorem ev77 (k103 : Den A103 → Bool) (g103 : Den A103 → Den R103) (kl2 : V77_2 → Bool) (xl2 : V77_2 → X77_2) (tl2 : V77_2 → Bool) (yl2 : V77_2 → Y77_2) (x : Den A77) : callK (Γ77 k103 g103 kl2 xl2 tl2 yl2) (bodyOf Try.f77) (decR R77) (encA A77 x) [] = r77 k103 g103 kl2 xl2 tl2 yl2 x := by kernel_rfl
def F77 (x : Den A77) : Option (Den R77) := r77 K103 G103 kL77_2 xL77_2 tL77_2 yL77_2 x
def K77 (x : Den A77) : Bool := (F77 x).isSome
def G77 (x : Den A77) : Den R77 := (F77 x).getD (zero R77)
theorem env77 : EnvOK Try.prog (Γ77 K103 G103 kL77_2 xL77_2 tL77_2 yL77_2) := env_ok mixed tab_ok eqs_ok (.cons sem103 .nil)
theorem is77 : FnIs Try.prog 77 (Γ77 K103 G103 kL77_2 xL77_2 tL77_2 yL77_2) (bodyOf Try.f77) := fnIs Try.func77 rfl rfl rfl (by kernel_rfl) (loops_ok (l := [lc77_2]) (by kernel_rfl) (.cons (one_loop rfl (loopR_sound (sh := sh77_2) (shX := shX77_2) (shR := shY77_2) (fun f v => evl77_2 K103 G103 kL77_2 xL77_2 tL77_2 yL77_2 f v) b77_2 ((), ()) ((false, ()), ()))) (.nil)))
theorem sem77 : SemOK Try.prog (77, fnMean A77 R77 K77 G77) := fn_opt env77 is77 fun x => ev77 K103 G103 kL77_2 xL77_2 tL77_2 yL77_2 x

/- "loop.example/g03321/impl.FieldOk" -/
abbrev A34 : Ty := .cons (S25) (.nil)
abbrev R34 : Ty := .cons (.bool) (.nil)
abbrev V34_4 : Type := ((Unit × ((List (Den (.slice (.cpx .f32)))) × (Int × (Int × Unit)))) × ((Int × (Int × (Int × ((List (Den (.slice (.cpx .f32)))) × Unit)))) × Unit))
def sh34_4 : ShS := ⟨[(1, .one (.ptr 0 0)), (29, .one (.sl (.slice (.cpx .f32)))), (30, .one (.int .i64)), (31, .one (.int .i64))], [(0, .box [.int .i64, .int .i64, .int .i64, .sl (.slice (.cpx .f32))])], 1, 0⟩
abbrev X34_4 : Type := (Unit × Unit)
def shX34_4 : ShS := ⟨[], [], 0, 0⟩
abbrev Y34_4 : Type := ((Bool × Unit) × Unit)
def shY34_4 : ShS := ⟨[(2, .one (.bool))], [], 0, 0⟩
noncomputable def Γ34 (k48 : Den A48 → Bool) (g48 : Den A48 → Den R48) (k77 : Den A77 → Bool) (g77 : Den A77 → Den R77) (kl4 : V34_4 → Bool) (xl4 : V34_4 → X34_4) (tl4 : V34_4 → Bool) (yl4 : V34_4 → Y34_4) : Env := mkEnv tab eqs [(48, fnMean A48 R48 k48 g48), (77, fnMean A77 R77 k77 g77)] 49 [.tmp 2] [] [] [(4, loopR [1, 29, 30, 31] [] 0 [] [] sh34_4 shX34_4 shY34_4 kl4 tl4 xl4 yl4)] [] []
noncomputable def lc34_4 : Code := (loopsOf (bodyOf Try.f34)).getD 0 .skip
def q34_4 (k48 : Den A48 → Bool) (g48 : Den A48 → Den R48) (k77 : Den A77 → Bool) (g77 : Den A77 → Den R77) (f : V34_4 → Option (X34_4 ⊕ Y34_4)) (v : V34_4) : Option (X34_4 ⊕ Y34_4) :=
  bif (decide (v.fst.snd.snd.snd.fst < v.fst.snd.snd.fst)) then
    bif (decide (0 ≤ v.fst.snd.snd.snd.fst) && decide (v.fst.snd.snd.snd.fst < (↑(List.length v.fst.snd.fst) : Int))) then
      let v0 := (List.getD v.fst.snd.fst (Int.toNat v.fst.snd.snd.snd.fst) (zero (Ty.slice (Ty.cpx FloatKind.f32))))
      let v1 := (IntKind.wrap IntKind.i64 (v.snd.fst.fst * v.snd.fst.snd.fst))
      bif ((↑(List.length v0) : Int) != v1) then
        some (Sum.inr (((false), ()), ()))
      else
        let v2 := (k77 (v0, ()))
        bif (v2) then
          let v3 := (g77 (v0, ()))
          bif (!v3.fst) then
            some (Sum.inr (((false), ()), ()))
          else
            let v4 := (IntKind.wrap IntKind.i64 (v.fst.snd.snd.snd.fst + 1))
            f (((), ((v.fst.snd.1), ((v.fst.snd.snd.1), ((v4), ())))), (((v.snd.fst.1), ((v.snd.fst.snd.1), ((v.snd.fst.snd.snd.1), ((v.snd.fst.snd.snd.snd.1), ())))), ()))
        else
          none
    else
      none
  else
    some (Sum.inl ((), ()))
theorem evl34_4 (k48 : Den A48 → Bool) (g48 : Den A48 → Den R48) (k77 : Den A77 → Bool) (g77 : Den A77 → Den R77) (kl4 : V34_4 → Bool) (xl4 : V34_4 → X34_4) (tl4 : V34_4 → Bool) (yl4 : V34_4 → Y34_4) (f : V34_4 → Option (X34_4 ⊕ Y34_4)) (v : V34_4) : EBk (Γ34 k48 g48 k77 g77 kl4 xl4 tl4 yl4) lc34_4 (roundK [1, 29, 30, 31] [] 0 [] [] (atS sh34_4 f) (endS shX34_4 shY34_4)) (mkS sh34_4 v) = q34_4 k48 g48 k77 g77 f v := by kernel_rfl
def b34_4 (v : V34_4) : Nat := v.1.2.1.length + v.1.2.2.1.natAbs + v.1.2.2.2.1.natAbs + v.2.1.1.natAbs + v.2.1.2.1.natAbs + v.2.1.2.2.1.natAbs + v.2.1.2.2.2.1.length + 1000
def l34_4 (v : V34_4) : Option (X34_4 ⊕ Y34_4) := iter (q34_4 K48 G48 K77 G77) (b34_4 v) v
def kL34_4 (v : V34_4) : Bool := (l34_4 v).isSome
def tL34_4 (v : V34_4) : Bool := isR (l34_4 v)
def xL34_4 (v : V34_4) : X34_4 := xOf ((), ()) (l34_4 v)
def yL34_4 (v : V34_4) : Y34_4 := yOf ((false, ()), ()) (l34_4 v)
def r34 (k48 : Den A48 → Bool) (g48 : Den A48 → Den R48) (k77 : Den A77 → Bool) (g77 : Den A77 → Den R77) (kl4 : V34_4 → Bool) (xl4 : V34_4 → X34_4) (tl4 : V34_4 → Bool) (yl4 : V34_4 → Y34_4) (x : Den A34) : Option (Den R34) :=
  let v0 := (k48 (x.fst.fst, 2, 12, ()))
  bif (v0) then
    let v1 := (g48 (x.fst.fst, 2, 12, ()))
    bif (!v1.fst) then
      some ((false), ())
    else
      let v2 := (k48 (x.fst.snd.fst, 2, 12, ()))
      bif (v2) then
        let v3 := (g48 (x.fst.snd.fst, 2, 12, ()))
        bif (!v3.fst) then
          some ((false), ())
        else
          let v4 := (k48 (x.fst.snd.snd.fst, 10, 100000, ()))
          bif (v4) then
            let v5 := (g48 (x.fst.snd.snd.fst, 10, 100000, ()))
            bif (!v5.fst) then
              some ((false), ())
            else
              let v6 := (k48 ((↑(List.length x.fst.snd.snd.snd.fst) : Int), 1, 24, ()))
              bif (v6) then
                let v7 := (g48 ((↑(List.length x.fst.snd.snd.snd.fst) : Int), 1, 24, ()))
                bif (!v7.fst) then
                  some ((false), ())
                else
                  let v8 := (kl4 (((), x.fst.snd.snd.snd.fst, (↑(List.length x.fst.snd.snd.snd.fst) : Int), 0, ()), x))
                  bif (v8) then
                    let v9 := (tl4 (((), x.fst.snd.snd.snd.fst, (↑(List.length x.fst.snd.snd.snd.fst) : Int), 0, ()), x))
                    bif (v9) then
                      let v10 := (yl4 (((), x.fst.snd.snd.snd.fst, (↑(List.length x.fst.snd.snd.snd.fst) : Int), 0, ()), x))
                      some ((v10.fst.1), ())
                    else
                      some ((true), ())
                  else
                    none
              else
                none
          else
            none
      else
        none
  else
    none
theorem ev34 (k48 : Den A48 → Bool) (g48 : Den A48 → Den R48) (k77 : Den A77 → Bool) (g77 : Den A77 → Den R77) (kl4 : V34_4 → Bool) (xl4 : V34_4 → X34_4) (tl4 : V34_4 → Bool) (yl4 : V34_4 → Y34_4) (x : Den A34) : callK (Γ34 k48 g48 k77 g77 kl4 xl4 tl4 yl4) (bodyOf Try.f34) (decR R34) (encA A34 x) [] = r34 k48 g48 k77 g77 kl4 xl4 tl4 yl4 x := by kernel_rfl
def F34 (x : Den A34) : Option (Den R34) := r34 K48 G48 K77 G77 kL34_4 xL34_4 tL34_4 yL34_4 x
def K34 (x : Den A34) : Bool := (F34 x).isSome
def G34 (x : Den A34) : Den R34 := (F34 x).getD (zero R34)
theorem env34 : EnvOK Try.prog (Γ34 K48 G48 K77 G77 kL34_4 xL34_4 tL34_4 yL34_4) := env_ok mixed tab_ok eqs_ok (.cons sem48 (.cons sem77 .nil))
theorem is34 : FnIs Try.prog 34 (Γ34 K48 G48 K77 G77 kL34_4 xL34_4 tL34_4 yL34_4) (bodyOf Try.f34) := fnIs Try.func34 rfl rfl rfl (by kernel_rfl) (loops_ok (l := [lc34_4]) (by kernel_rfl) (.cons (one_loop rfl (loopR_sound (sh := sh34_4) (shX := shX34_4) (shR := shY34_4) (fun f v => evl34_4 K48 G48 K77 G77 kL34_4 xL34_4 tL34_4 yL34_4 f v) b34_4 ((), ()) ((false, ()), ()))) (.nil)))
theorem sem34 : SemOK Try.prog (34, fnMean A34 R34 K34 G34) := fn_opt env34 is34 fun x => ev34 K48 G48 K77 G77 kL34_4 xL34_4 tL34_4 yL34_4 x

/- "(loop.example/g03321/impl.Field).has" -/
abbrev A35 : Ty := .cons (S25) (.cons (.int .i64) (.nil))
abbrev R35 : Ty := .cons (.bool) (.nil)
noncomputable def Γ35 (k48 : Den A48 → Bool) (g48 : Den A48 → Den R48) : Env := mkEnv tab eqs [(48, fnMean A48 R48 k48 g48)] 13 [.tmp 4] [] [] [] [] []
def r35 (k48 : Den A48 → Bool) (g48 : Den A48 → Den R48) (x : Den A35) : Option (Den R35) :=
  let v0 := (IntKind.wrap IntKind.i64 (x.fst.fst * x.fst.snd.fst))
  let v1 := (IntKind.wrap IntKind.i64 (v0 - 1))
  let v2 := (k48 (x.snd.fst, 0, v1, ()))
  bif (v2) then
    let v3 := (g48 (x.snd.fst, 0, v1, ()))
    some ((v3.1), ())
  else
    none
theorem ev35 (k48 : Den A48 → Bool) (g48 : Den A48 → Den R48) (x : Den A35) : callK (Γ35 k48 g48) (bodyOf Try.f35) (decR R35) (encA A35 x) [] = r35 k48 g48 x := by kernel_rfl
def F35 (x : Den A35) : Option (Den R35) := r35 K48 G48 x
def K35 (x : Den A35) : Bool := (F35 x).isSome
def G35 (x : Den A35) : Den R35 := (F35 x).getD (zero R35)
theorem env35 : EnvOK Try.prog (Γ35 K48 G48) := env_ok mixed tab_ok eqs_ok (.cons sem48 .nil)
theorem is35 : FnIs Try.prog 35 (Γ35 K48 G48) (bodyOf Try.f35) := fnIs Try.func35 rfl rfl rfl (by kernel_rfl) (noLoops (by kernel_rfl))
theorem sem35 : SemOK Try.prog (35, fnMean A35 R35 K35 G35) := fn_opt env35 is35 fun x => ev35 K48 G48 x

/- "(loop.example/g03321/impl.Field).at" -/
abbrev A36 : Ty := .cons (S25) (.cons (.int .i64) (.nil))
abbrev R36 : Ty := .cons (.cpx .f64) (.nil)
noncomputable def Γ36 : Env := mkEnv tab eqs [] 22 [.tmp 4] [] [] [] [] []
def r36 (x : Den A36) : Option (Den R36) :=
  bif (x.fst.fst != 0) then
    bif (x.fst.fst != 0) then
      let v0 := (IntKind.wrap IntKind.i64 (Int.tdiv x.snd.fst x.fst.fst))
      let v1 := (IntKind.wrap IntKind.i64 (v0 * x.fst.snd.snd.fst))
      let v2 := (IntKind.wrap IntKind.i64 (Int.tmod x.snd.fst x.fst.fst * x.fst.snd.snd.fst))
      some (((FloatKind.nearest FloatKind.f64 v1), (FloatKind.nearest FloatKind.f64 v2)), ())
    else
      none
  else
    none
theorem ev36 (x : Den A36) : callK (Γ36) (bodyOf Try.f36) (decR R36) (encA A36 x) [] = r36 x := by kernel_rfl
def F36 (x : Den A36) : Option (Den R36) := r36 x
def K36 (x : Den A36) : Bool := (F36 x).isSome
def G36 (x : Den A36) : Den R36 := (F36 x).getD (zero R36)
theorem env36 : EnvOK Try.prog (Γ36) := env_ok mixed tab_ok eqs_ok .nil
theorem is36 : FnIs Try.prog 36 (Γ36) (bodyOf Try.f36) := fnIs Try.func36 rfl rfl rfl (by kernel_rfl) (noLoops (by kernel_rfl))
theorem sem36 : SemOK Try.prog (36, fnMean A36 R36 K36 G36) := fn_opt env36 is36 fun x => ev36 x

/- "loop.example/g03321/impl.NodeAt" -/
abbrev A9 : Ty := .cons (S25) (.cons (.int .i64) (.nil))
abbrev R9 : Ty := .cons (.cpx .f64) (.cons (.bool) (.nil))
noncomputable def Γ9 (k34 : Den A34 → Bool) (g34 : Den A34 → Den R34) (k35 : Den A35 → Bool) (g35 : Den A35 → Den R35) (k36 : Den A36 → Bool) (g36 : Den A36 → Den R36) : Env := mkEnv tab eqs [(34, fnMean A34 R34 k34 g34), (35, fnMean A35 R35 k35 g35), (36, fnMean A36 R36 k36 g36)] 18 [.tmp 4, .tmp 5] [] [] [] [] []
def r9 (k34 : Den A34 → Bool) (g34 : Den A34 → Den R34) (k35 : Den A35 → Bool) (g35 : Den A35 → Den R35) (k36 : Den A36 → Bool) (g36 : Den A36 → Den R36) (x : Den A9) : Option (Den R9) :=
  let v0 := (k34 (x.fst, ()))
  bif (v0) then
    let v1 := (g34 (x.fst, ()))
    bif (!v1.fst) then
      some (((0), (0)), ((false), ()))
    else
      let v2 := (k35 x)
      bif (v2) then
        let v3 := (g35 x)
        bif (!v3.fst) then
          some (((0), (0)), ((false), ()))
        else
          let v4 := (k36 x)
          bif (v4) then
            let v5 := (g36 x)
            some (((v5.fst.1), (v5.fst.2)), ((true), ()))
          else
            none
      else
        none
  else
    none
theorem ev9 (k34 : Den A34 → Bool) (g34 : Den A34 → Den R34) (k35 : Den A35 → Bool) (g35 : Den A35 → Den R35) (k36 : Den A36 → Bool) (g36 : Den A36 → Den R36) (x : Den A9) : callK (Γ9 k34 g34 k35 g35 k36 g36) (bodyOf Try.f9) (decR R9) (encA A9 x) [] = r9 k34 g34 k35 g35 k36 g36 x := by kernel_rfl
def F9 (x : Den A9) : Option (Den R9) := r9 K34 G34 K35 G35 K36 G36 x
def K9 (x : Den A9) : Bool := (F9 x).isSome
def G9 (x : Den A9) : Den R9 := (F9 x).getD (zero R9)
theorem env9 : EnvOK Try.prog (Γ9 K34 G34 K35 G35 K36 G36) := env_ok mixed tab_ok eqs_ok (.cons sem34 (.cons sem35 (.cons sem36 .nil)))
theorem is9 : FnIs Try.prog 9 (Γ9 K34 G34 K35 G35 K36 G36) (bodyOf Try.f9) := fnIs Try.func9 rfl rfl rfl (by kernel_rfl) (noLoops (by kernel_rfl))
theorem sem9 : SemOK Try.prog (9, fnMean A9 R9 K9 G9) := fn_opt env9 is9 fun x => ev9 K34 G34 K35 G35 K36 G36 x

/- "loop.example/g03321/impl.timeOk" -/
abbrev A37 : Ty := .cons (.int .i64) (.nil)
abbrev R37 : Ty := .cons (.bool) (.nil)
noncomputable def Γ37 (k48 : Den A48 → Bool) (g48 : Den A48 → Den R48) : Env := mkEnv tab eqs [(48, fnMean A48 R48 k48 g48)] 5 [.tmp 2] [] [] [] [] []
def r37 (k48 : Den A48 → Bool) (g48 : Den A48 → Den R48) (x : Den A37) : Option (Den R37) :=
  let v0 := (k48 (x.fst, 0, 10000000, ()))
  bif (v0) then
    let v1 := (g48 (x.fst, 0, 10000000, ()))
    some ((v1.1), ())
  else
    none
theorem ev37 (k48 : Den A48 → Bool) (g48 : Den A48 → Den R48) (x : Den A37) : callK (Γ37 k48 g48) (bodyOf Try.f37) (decR R37) (encA A37 x) [] = r37 k48 g48 x := by kernel_rfl
def F37 (x : Den A37) : Option (Den R37) := r37 K48 G48 x
def K37 (x : Den A37) : Bool := (F37 x).isSome
def G37 (x : Den A37) : Den R37 := (F37 x).getD (zero R37)
theorem env37 : EnvOK Try.prog (Γ37 K48 G48) := env_ok mixed tab_ok eqs_ok (.cons sem48 .nil)
theorem is37 : FnIs Try.prog 37 (Γ37 K48 G48) (bodyOf Try.f37) := fnIs Try.func37 rfl rfl rfl (by kernel_rfl) (noLoops (by kernel_rfl))
theorem sem37 : SemOK Try.prog (37, fnMean A37 R37 K37 G37) := fn_opt env37 is37 fun x => ev37 K48 G48 x

/- "loop.example/g03321/impl.WindAt" -/
abbrev A10 : Ty := .cons (S25) (.cons (.int .i64) (.cons (.int .i64) (.nil)))
abbrev R10 : Ty := .cons (.cpx .f32) (.cons (.bool) (.nil))
noncomputable def Γ10 (k34 : Den A34 → Bool) (g34 : Den A34 → Den R34) (k35 : Den A35 → Bool) (g35 : Den A35 → Den R35) (k37 : Den A37 → Bool) (g37 : Den A37 → Den R37) : Env := mkEnv tab eqs [(34, fnMean A34 R34 k34 g34), (35, fnMean A35 R35 k35 g35), (37, fnMean A37 R37 k37 g37)] 36 [.tmp 6, .tmp 7] [] [] [] [] []
def r10 (k34 : Den A34 → Bool) (g34 : Den A34 → Den R34) (k35 : Den A35 → Bool) (g35 : Den A35 → Den R35) (k37 : Den A37 → Bool) (g37 : Den A37 → Den R37) (x : Den A10) : Option (Den R10) :=
  let v0 := (k34 (x.fst, ()))
  bif (v0) then
    let v1 := (g34 (x.fst, ()))
    bif (!v1.fst) then
      some (((0), (0)), ((false), ()))
    else
      let v2 := (k35 (x.fst, x.snd.fst, ()))
      bif (v2) then
        let v3 := (g35 (x.fst, x.snd.fst, ()))
        bif (!v3.fst) then
          some (((0), (0)), ((false), ()))
        else
          let v4 := (k37 x.snd.snd)
          bif (v4) then
            let v5 := (g37 x.snd.snd)
            bif (!v5.fst) then
              some (((0), (0)), ((false), ()))
            else
              let v6 := (IntKind.wrap IntKind.i64 (Int.tdiv x.snd.snd.fst 3600))
              let v7 := (IntKind.wrap IntKind.i64 ((↑(List.length x.fst.snd.snd.snd.fst) : Int) - 1))
              bif (decide (0 ≤ imin v6 v7) && decide (imin v6 v7 < (↑(List.length x.fst.snd.snd.snd.fst) : Int))) then
                let v8 := (List.getD x.fst.snd.snd.snd.fst (Int.toNat (imin v6 v7)) (zero (Ty.slice (Ty.cpx FloatKind.f32))))
                bif (decide (0 ≤ x.snd.fst) && decide (x.snd.fst < (↑(List.length v8) : Int))) then
                  let v9 := (List.getD v8 (Int.toNat x.snd.fst) (zero (Ty.cpx FloatKind.f32)))
                  some (((v9.1), (v9.2)), ((true), ()))
                else
                  none
              else
                none
          else
            none
      else
        none
  else
    none
theorem ev10 (k34 : Den A34 → Bool) (g34 : Den A34 → Den R34) (k35 : Den A35 → Bool) (g35 : Den A35 → Den R35) (k37 : Den A37 → Bool) (g37 : Den A37 → Den R37) (x : Den A10) : callK (Γ10 k34 g34 k35 g35 k37 g37) (bodyOf Try.f10) (decR R10) (encA A10 x) [] = r10 k34 g34 k35 g35 k37 g37 x := by kernel_rfl
def F10 (x : Den A10) : Option (Den R10) := r10 K34 G34 K35 G35 K37 G37 x
def K10 (x : Den A10) : Bool := (F10 x).isSome
def G10 (x : Den A10) : Den R10 := (F10 x).getD (zero R10)
theorem env10 : EnvOK Try.prog (Γ10 K34 G34 K35 G35 K37 G37) := env_ok mixed tab_ok eqs_ok (.cons sem34 (.cons sem35 (.cons sem37 .nil)))
theorem is10 : FnIs Try.prog 10 (Γ10 K34 G34 K35 G35 K37 G37) (bodyOf Try.f10) := fnIs Try.func10 rfl rfl rfl (by kernel_rfl) (noLoops (by kernel_rfl))
theorem sem10 : SemOK Try.prog (10, fnMean A10 R10 K10 G10) := fn_opt env10 is10 fun x => ev10 K34 G34 K35 G35 K37 G37 x

/- "loop.example/g03321/spec.l01In" -/
abbrev A39 : Ty := .cons (.int .i64) (.cons (.int .i64) (.cons (.int .i64) (.nil)))
abbrev R39 : Ty := .cons (.bool) (.nil)
noncomputable def Γ39 : Env := mkEnv tab eqs [] 15 [.tmp 6] [] [] [] [] []
def r39 (x : Den A39) : Option (Den R39) :=
  bif (decide (x.fst ≥ x.snd.fst)) then
    some ((decide (x.fst ≤ x.snd.snd.fst)), ())
  else
    some ((false), ())
theorem ev39 (x : Den A39) : callK (Γ39) (bodyOf Try.f39) (decR R39) (encA A39 x) [] = r39 x := by kernel_rfl
def F39 (x : Den A39) : Option (Den R39) := r39 x
def K39 (x : Den A39) : Bool := (F39 x).isSome
def G39 (x : Den A39) : Den R39 := (F39 x).getD (zero R39)
theorem env39 : EnvOK Try.prog (Γ39) := env_ok mixed tab_ok eqs_ok .nil
theorem is39 : FnIs Try.prog 39 (Γ39) (bodyOf Try.f39) := fnIs Try.func39 rfl rfl rfl (by kernel_rfl) (noLoops (by kernel_rfl))
theorem sem39 : SemOK Try.prog (39, fnMean A39 R39 K39 G39) := fn_opt env39 is39 fun x => ev39 x

/- "loop.example/g03321/spec.l03Amount" -/
abbrev A70 : Ty := .cons (.flt .f32) (.nil)
abbrev R70 : Ty := .cons (.flt .f32) (.nil)
noncomputable def Γ70 : Env := mkEnv tab eqs [] 8 [.tmp 2] [] [] [] [] []
def r70 (x : Den A70) : Option (Den R70) :=
  bif (flt FloatKind.f32 x.fst 0) then
    let v0 := (fneg FloatKind.f32 x.fst)
    some ((v0), ())
  else
    some ((x.1), ())
theorem ev70 (x : Den A70) : callK (Γ70) (bodyOf Try.f70) (decR R70) (encA A70 x) [] = r70 x := by kernel_rfl
def F70 (x : Den A70) : Option (Den R70) := r70 x
def K70 (x : Den A70) : Bool := (F70 x).isSome
def G70 (x : Den A70) : Den R70 := (F70 x).getD (zero R70)
theorem env70 : EnvOK Try.prog (Γ70) := env_ok mixed tab_ok eqs_ok .nil
theorem is70 : FnIs Try.prog 70 (Γ70) (bodyOf Try.f70) := fnIs Try.func70 rfl rfl rfl (by kernel_rfl) (noLoops (by kernel_rfl))
theorem sem70 : SemOK Try.prog (70, fnMean A70 R70 K70 G70) := fn_opt env70 is70 fun x => ev70 x

/- "loop.example/g03321/spec.VelocityOk" -/
abbrev A78 : Ty := .cons (.cpx .f32) (.nil)
abbrev R78 : Ty := .cons (.bool) (.nil)
noncomputable def Γ78 (k70 : Den A70 → Bool) (g70 : Den A70 → Den R70) : Env := mkEnv tab eqs [(70, fnMean A70 R70 k70 g70)] 13 [.tmp 2] [] [] [] [] []
def r78 (k70 : Den A70 → Bool) (g70 : Den A70 → Den R70) (x : Den A78) : Option (Den R78) :=
  let v0 := (k70 (x.fst.fst, ()))
  bif (v0) then
    let v1 := (g70 (x.fst.fst, ()))
    bif (flt FloatKind.f32 v1.fst 1120403456 || feq FloatKind.f32 v1.fst 1120403456) then
      let v2 := (k70 (x.fst.snd, ()))
      bif (v2) then
        let v3 := (g70 (x.fst.snd, ()))
        some ((flt FloatKind.f32 v3.fst 1120403456 || feq FloatKind.f32 v3.fst 1120403456), ())
      else
        none
    else
      some ((false), ())
  else
    none
theorem ev78 (k70 : Den A70 → Bool) (g70 : Den A70 → Den R70) (x : Den A78) : callK (Γ78 k70 g70) (bodyOf Try.f78) (decR R78) (encA A78 x) [] = r78 k70 g70 x := by kernel_rfl
def F78 (x : Den A78) : Option (Den R78) := r78 K70 G70 x
def K78 (x : Den A78) : Bool := (F78 x).isSome
def G78 (x : Den A78) : Den R78 := (F78 x).getD (zero R78)
theorem env78 : EnvOK Try.prog (Γ78 K70 G70) := env_ok mixed tab_ok eqs_ok (.cons sem70 .nil)
theorem is78 : FnIs Try.prog 78 (Γ78 K70 G70) (bodyOf Try.f78) := fnIs Try.func78 rfl rfl rfl (by kernel_rfl) (noLoops (by kernel_rfl))
theorem sem78 : SemOK Try.prog (78, fnMean A78 R78 K78 G78) := fn_opt env78 is78 fun x => ev78 K70 G70 x

/- "loop.example/g03321/spec.FieldOk" -/
abbrev A38 : Ty := .cons (S25) (.nil)
abbrev R38 : Ty := .cons (.bool) (.nil)
abbrev V38_4 : Type := ((Unit × (Int × Unit)) × ((Int × (Int × (Int × ((List (Den (.slice (.cpx .f32)))) × Unit)))) × Unit))
def sh38_4 : ShS := ⟨[(1, .one (.ptr 0 0)), (3, .one (.int .i64))], [(0, .box [.int .i64, .int .i64, .int .i64, .sl (.slice (.cpx .f32))])], 1, 0⟩
abbrev X38_4 : Type := (Unit × Unit)
def shX38_4 : ShS := ⟨[], [], 0, 0⟩
abbrev Y38_4 : Type := ((Bool × Unit) × Unit)
def shY38_4 : ShS := ⟨[(2, .one (.bool))], [], 0, 0⟩
abbrev V38_9 : Type := ((Unit × (Int × (Int × Unit))) × ((Int × (Int × (Int × ((List (Den (.slice (.cpx .f32)))) × Unit)))) × Unit))
def sh38_9 : ShS := ⟨[(1, .one (.ptr 0 0)), (3, .one (.int .i64)), (4, .one (.int .i64))], [(0, .box [.int .i64, .int .i64, .int .i64, .sl (.slice (.cpx .f32))])], 1, 0⟩
abbrev X38_9 : Type := ((Unit × (Int × Unit)) × ((Int × (Int × (Int × ((List (Den (.slice (.cpx .f32)))) × Unit)))) × Unit))
def shX38_9 : ShS := ⟨[(1, .one (.ptr 0 0)), (3, .one (.int .i64))], [(0, .box [.int .i64, .int .i64, .int .i64, .sl (.slice (.cpx .f32))])], 1, 0⟩
abbrev Y38_9 : Type := ((Bool × Unit) × Unit)
def shY38_9 : ShS := ⟨[(2, .one (.bool))], [], 0, 0⟩
noncomputable def Γ38 (k39 : Den A39 → Bool) (g39 : Den A39 → Den R39) (k78 : Den A78 → Bool) (g78 : Den A78 → Den R78) (kl4 : V38_4 → Bool) (xl4 : V38_4 → X38_4) (tl4 : V38_4 → Bool) (yl4 : V38_4 → Y38_4) (kl9 : V38_9 → Bool) (xl9 : V38_9 → X38_9) (tl9 : V38_9 → Bool) (yl9 : V38_9 → Y38_9) : Env := mkEnv tab eqs [(39, fnMean A39 R39 k39 g39), (78, fnMean A78 R78 k78 g78)] 67 [.tmp 2] [] [] [(4, loopR [1, 3] [] 0 [] [] sh38_4 shX38_4 shY38_4 kl4 tl4 xl4 yl4), (9, loopR [1, 3, 4] [] 2 [1, 3] [] sh38_9 shX38_9 shY38_9 kl9 tl9 xl9 yl9)] [] []
noncomputable def lc38_4 : Code := (loopsOf (bodyOf Try.f38)).getD 0 .skip
noncomputable def lc38_9 : Code := (loopsOf (bodyOf Try.f38)).getD 1 .skip
def q38_9 (k39 : Den A39 → Bool) (g39 : Den A39 → Den R39) (k78 : Den A78 → Bool) (g78 : Den A78 → Den R78) (f : V38_9 → Option (X38_9 ⊕ Y38_9)) (v : V38_9) : Option (X38_9 ⊕ Y38_9) :=
  bif (decide (0 ≤ v.fst.snd.fst) && decide (v.fst.snd.fst < (↑(List.length v.snd.fst.snd.snd.snd.fst) : Int))) then
    let v0 := (List.getD v.snd.fst.snd.snd.snd.fst (Int.toNat v.fst.snd.fst) (zero (Ty.slice (Ty.cpx FloatKind.f32))))
    bif (decide (v.fst.snd.snd.fst < (↑(List.length v0) : Int))) then
      bif (decide (0 ≤ v.fst.snd.fst) && decide (v.fst.snd.fst < (↑(List.length v.snd.fst.snd.snd.snd.fst) : Int))) then
        bif (decide (0 ≤ v.fst.snd.snd.fst) && decide (v.fst.snd.snd.fst < (↑(List.length v0) : Int))) then
          let v1 := (List.getD v0 (Int.toNat v.fst.snd.snd.fst) (zero (Ty.cpx FloatKind.f32)))
          let v2 := (k78 (v1, ()))
          bif (v2) then
            let v3 := (g78 (v1, ()))
            bif (!v3.fst) then
              some (Sum.inr (((false), ()), ()))
            else
              let v4 := (IntKind.wrap IntKind.i64 (v.fst.snd.snd.fst + 1))
              f (((), ((v.fst.snd.1), ((v4), ()))), (((v.snd.fst.1), ((v.snd.fst.snd.1), ((v.snd.fst.snd.snd.1), ((v.snd.fst.snd.snd.snd.1), ())))), ()))
          else
            none
        else
          none
      else
        none
    else
      some (Sum.inl (((), ((v.fst.snd.1), ())), (((v.snd.fst.1), ((v.snd.fst.snd.1), ((v.snd.fst.snd.snd.1), ((v.snd.fst.snd.snd.snd.1), ())))), ())))
  else
    none
theorem evl38_9 (k39 : Den A39 → Bool) (g39 : Den A39 → Den R39) (k78 : Den A78 → Bool) (g78 : Den A78 → Den R78) (kl4 : V38_4 → Bool) (xl4 : V38_4 → X38_4) (tl4 : V38_4 → Bool) (yl4 : V38_4 → Y38_4) (kl9 : V38_9 → Bool) (xl9 : V38_9 → X38_9) (tl9 : V38_9 → Bool) (yl9 : V38_9 → Y38_9) (f : V38_9 → Option (X38_9 ⊕ Y38_9)) (v : V38_9) : EBk (Γ38 k39 g39 k78 g78 kl4 xl4 tl4 yl4 kl9 xl9 tl9 yl9) lc38_9 (roundK [1, 3, 4] [] 2 [1, 3] [] (atS sh38_9 f) (endS shX38_9 shY38_9)) (mkS sh38_9 v) = q38_9 k39 g39 k78 g78 f v := by kernel_rfl
def b38_9 (v : V38_9) : Nat := v.1.2.1.natAbs + v.1.2.2.1.natAbs + v.2.1.1.natAbs + v.2.1.2.1.natAbs + v.2.1.2.2.1.natAbs + v.2.1.2.2.2.1.length + 1000
def l38_9 (v : V38_9) : Option (X38_9 ⊕ Y38_9) := iter (q38_9 K39 G39 K78 G78) (b38_9 v) v
def kL38_9 (v : V38_9) : Bool := (l38_9 v).isSome
def tL38_9 (v : V38_9) : Bool := isR (l38_9 v)
def xL38_9 (v : V38_9) : X38_9 := xOf (((), (0, ())), ((0, (0, (0, ([], ())))), ())) (l38_9 v)
def yL38_9 (v : V38_9) : Y38_9 := yOf ((false, ()), ()) (l38_9 v)
def q38_4 (k39 : Den A39 → Bool) (g39 : Den A39 → Den R39) (k78 : Den A78 → Bool) (g78 : Den A78 → Den R78) (kl9 : V38_9 → Bool) (xl9 : V38_9 → X38_9) (tl9 : V38_9 → Bool) (yl9 : V38_9 → Y38_9) (f : V38_4 → Option (X38_4 ⊕ Y38_4)) (v : V38_4) : Option (X38_4 ⊕ Y38_4) :=
  bif (decide (v.fst.snd.fst < (↑(List.length v.snd.fst.snd.snd.snd.fst) : Int))) then
    bif (decide (0 ≤ v.fst.snd.fst) && decide (v.fst.snd.fst < (↑(List.length v.snd.fst.snd.snd.snd.fst) : Int))) then
      let v0 := (List.getD v.snd.fst.snd.snd.snd.fst (Int.toNat v.fst.snd.fst) (zero (Ty.slice (Ty.cpx FloatKind.f32))))
      let v1 := (IntKind.wrap IntKind.i64 (v.snd.fst.fst * v.snd.fst.snd.fst))
      bif ((↑(List.length v0) : Int) != v1) then
        some (Sum.inr (((false), ()), ()))
      else
        let v2 := (kl9 (((), v.fst.snd.fst, 0, ()), v.snd))
        bif (v2) then
          let v3 := (tl9 (((), v.fst.snd.fst, 0, ()), v.snd))
          bif (v3) then
            let v4 := (yl9 (((), v.fst.snd.fst, 0, ()), v.snd))
            some (Sum.inr (((v4.fst.1), ()), ()))
          else
            let v4 := (xl9 (((), v.fst.snd.fst, 0, ()), v.snd))
            let v5 := (IntKind.wrap IntKind.i64 (v4.fst.snd.fst + 1))
            f (((), ((v5), ())), (((v4.snd.fst.1), ((v4.snd.fst.snd.1), ((v4.snd.fst.snd.snd.1), ((v4.snd.fst.snd.snd.snd.1), ())))), ()))
        else
          none
    else
      none
  else
    some (Sum.inl ((), ()))
theorem evl38_4 (k39 : Den A39 → Bool) (g39 : Den A39 → Den R39) (k78 : Den A78 → Bool) (g78 : Den A78 → Den R78) (kl4 : V38_4 → Bool) (xl4 : V38_4 → X38_4) (tl4 : V38_4 → Bool) (yl4 : V38_4 → Y38_4) (kl9 : V38_9 → Bool) (xl9 : V38_9 → X38_9) (tl9 : V38_9 → Bool) (yl9 : V38_9 → Y38_9) (f : V38_4 → Option (X38_4 ⊕ Y38_4)) (v : V38_4) : EBk (Γ38 k39 g39 k78 g78 kl4 xl4 tl4 yl4 kl9 xl9 tl9 yl9) lc38_4 (roundK [1, 3] [] 0 [] [] (atS sh38_4 f) (endS shX38_4 shY38_4)) (mkS sh38_4 v) = q38_4 k39 g39 k78 g78 kl9 xl9 tl9 yl9 f v := by kernel_rfl
def b38_4 (v : V38_4) : Nat := v.1.2.1.natAbs + v.2.1.1.natAbs + v.2.1.2.1.natAbs + v.2.1.2.2.1.natAbs + v.2.1.2.2.2.1.length + 1000
def l38_4 (v : V38_4) : Option (X38_4 ⊕ Y38_4) := iter (q38_4 K39 G39 K78 G78 kL38_9 xL38_9 tL38_9 yL38_9) (b38_4 v) v
def kL38_4 (v : V38_4) : Bool := (l38_4 v).isSome
def tL38_4 (v : V38_4) : Bool := isR (l38_4 v)
def xL38_4 (v : V38_4) : X38_4 := xOf ((), ()) (l38_4 v)
def yL38_4 (v : V38_4) : Y38_4 := yOf ((false, ()), ()) (l38_4 v)
def r38 (k39 : Den A39 → Bool) (g39 : Den A39 → Den R39) (k78 : Den A78 → Bool) (g78 : Den A78 → Den R78) (kl4 : V38_4 → Bool) (xl4 : V38_4 → X38_4) (tl4 : V38_4 → Bool) (yl4 : V38_4 → Y38_4) (kl9 : V38_9 → Bool) (xl9 : V38_9 → X38_9) (tl9 : V38_9 → Bool) (yl9 : V38_9 → Y38_9) (x : Den A38) : Option (Den R38) :=
  let v0 := (k39 (x.fst.fst, 2, 12, ()))
  bif (v0) then
    let v1 := (g39 (x.fst.fst, 2, 12, ()))
    bif (!v1.fst) then
      some ((false), ())
    else
      let v2 := (k39 (x.fst.snd.fst, 2, 12, ()))
      bif (v2) then
        let v3 := (g39 (x.fst.snd.fst, 2, 12, ()))
        bif (!v3.fst) then
          some ((false), ())
        else
          let v4 := (k39 (x.fst.snd.snd.fst, 10, 100000, ()))
          bif (v4) then
            let v5 := (g39 (x.fst.snd.snd.fst, 10, 100000, ()))
            bif (!v5.fst) then
              some ((false), ())
            else
              let v6 := (k39 ((↑(List.length x.fst.snd.snd.snd.fst) : Int), 1, 24, ()))
              bif (v6) then
                let v7 := (g39 ((↑(List.length x.fst.snd.snd.snd.fst) : Int), 1, 24, ()))
                bif (!v7.fst) then
                  some ((false), ())
                else
                  let v8 := (kl4 (((), 0, ()), x))
                  bif (v8) then
                    let v9 := (tl4 (((), 0, ()), x))
                    bif (v9) then
                      let v10 := (yl4 (((), 0, ()), x))
                      some ((v10.fst.1), ())
                    else
                      some ((true), ())
                  else
                    none
              else
                none
          else
            none
      else
        none
  else
    none
theorem ev38 (k39 : Den A39 → Bool) (g39 : Den A39 → Den R39) (k78 : Den A78 → Bool) (g78 : Den A78 → Den R78) (kl4 : V38_4 → Bool) (xl4 : V38_4 → X38_4) (tl4 : V38_4 → Bool) (yl4 : V38_4 → Y38_4) (kl9 : V38_9 → Bool) (xl9 : V38_9 → X38_9) (tl9 : V38_9 → Bool) (yl9 : V38_9 → Y38_9) (x : Den A38) : callK (Γ38 k39 g39 k78 g78 kl4 xl4 tl4 yl4 kl9 xl9 tl9 yl9) (bodyOf Try.f38) (decR R38) (encA A38 x) [] = r38 k39 g39 k78 g78 kl4 xl4 tl4 yl4 kl9 xl9 tl9 yl9 x := by kernel_rfl
def F38 (x : Den A38) : Option (Den R38) := r38 K39 G39 K78 G78 kL38_4 xL38_4 tL38_4 yL38_4 kL38_9 xL38_9 tL38_9 yL38_9 x
def K38 (x : Den A38) : Bool := (F38 x).isSome
def G38 (x : Den A38) : Den R38 := (F38 x).getD (zero R38)
theorem env38 : EnvOK Try.prog (Γ38 K39 G39 K78 G78 kL38_4 xL38_4 tL38_4 yL38_4 kL38_9 xL38_9 tL38_9 yL38_9) := env_ok mixed tab_ok eqs_ok (.cons sem39 (.cons sem78 .nil))
theorem is38 : FnIs Try.prog 38 (Γ38 K39 G39 K78 G78 kL38_4 xL38_4 tL38_4 yL38_4 kL38_9 xL38_9 tL38_9 yL38_9) (bodyOf Try.f38) := fnIs Try.func38 rfl rfl rfl (by kernel_rfl) (loops_ok (l := [lc38_4, lc38_9]) (by kernel_rfl) (.cons (one_loop rfl (loopR_sound (sh := sh38_4) (shX := shX38_4) (shR := shY38_4) (fun f v => evl38_4 K39 G39 K78 G78 kL38_4 xL38_4 tL38_4 yL38_4 kL38_9 xL38_9 tL38_9 yL38_9 f v) b38_4 ((), ()) ((false, ()), ()))) (.cons (one_loop rfl (loopR_sound (sh := sh38_9) (shX := shX38_9) (shR := shY38_9) (fun f v => evl38_9 K39 G39 K78 G78 kL38_4 xL38_4 tL38_4 yL38_4 kL38_9 xL38_9 tL38_9 yL38_9 f v) b38_9 (((), (0, ())), ((0, (0, (0, ([], ())))), ())) ((false, ()), ()))) (.nil))))
theorem sem38 : SemOK Try.prog (38, fnMean A38 R38 K38 G38) := fn_opt env38 is38 fun x => ev38 K39 G39 K78 G78 kL38_4 xL38_4 tL38_4 yL38_4 kL38_9 xL38_9 tL38_9 yL38_9 x

/- "loop.example/g03321/spec.l12Node" -/
abbrev A40 : Ty := .cons (S25) (.cons (.int .i64) (.nil))
abbrev R40 : Ty := .cons (.cpx .f64) (.nil)
noncomputable def Γ40 : Env := mkEnv tab eqs [] 22 [.tmp 4] [] [] [] [] []
def r40 (x : Den A40) : Option (Den R40) :=
  bif (x.fst.fst != 0) then
    bif (x.fst.fst != 0) then
      let v0 := (IntKind.wrap IntKind.i64 (Int.tdiv x.snd.fst x.fst.fst))
      let v1 := (IntKind.wrap IntKind.i64 (v0 * x.fst.snd.snd.fst))
      let v2 := (IntKind.wrap IntKind.i64 (Int.tmod x.snd.fst x.fst.fst * x.fst.snd.snd.fst))
      some (((FloatKind.nearest FloatKind.f64 v1), (FloatKind.nearest FloatKind.f64 v2)), ())
    else
      none
  else
    none
theorem ev40 (x : Den A40) : callK (Γ40) (bodyOf Try.f40) (decR R40) (encA A40 x) [] = r40 x := by kernel_rfl
def F40 (x : Den A40) : Option (Den R40) := r40 x
def K40 (x : Den A40) : Bool := (F40 x).isSome
def G40 (x : Den A40) : Den R40 := (F40 x).getD (zero R40)
theorem env40 : EnvOK Try.prog (Γ40) := env_ok mixed tab_ok eqs_ok .nil
theorem is40 : FnIs Try.prog 40 (Γ40) (bodyOf Try.f40) := fnIs Try.func40 rfl rfl rfl (by kernel_rfl) (noLoops (by kernel_rfl))
theorem sem40 : SemOK Try.prog (40, fnMean A40 R40 K40 G40) := fn_opt env40 is40 fun x => ev40 x

/- "loop.example/g03321/spec.NodeAt" -/
abbrev A11 : Ty := .cons (S25) (.cons (.int .i64) (.nil))
abbrev R11 : Ty := .cons (.cpx .f64) (.cons (.bool) (.nil))
noncomputable def Γ11 (k38 : Den A38 → Bool) (g38 : Den A38 → Den R38) (k39 : Den A39 → Bool) (g39 : Den A39 → Den R39) (k40 : Den A40 → Bool) (g40 : Den A40 → Den R40) : Env := mkEnv tab eqs [(38, fnMean A38 R38 k38 g38), (39, fnMean A39 R39 k39 g39), (40, fnMean A40 R40 k40 g40)] 23 [.tmp 4, .tmp 5] [] [] [] [] []
def r11 (k38 : Den A38 → Bool) (g38 : Den A38 → Den R38) (k39 : Den A39 → Bool) (g39 : Den A39 → Den R39) (k40 : Den A40 → Bool) (g40 : Den A40 → Den R40) (x : Den A11) : Option (Den R11) :=
  let v0 := (k38 (x.fst, ()))
  bif (v0) then
    let v1 := (g38 (x.fst, ()))
    bif (!v1.fst) then
      some (((0), (0)), ((false), ()))
    else
      let v2 := (IntKind.wrap IntKind.i64 (x.fst.fst * x.fst.snd.fst))
      let v3 := (IntKind.wrap IntKind.i64 (v2 - 1))
      let v4 := (k39 (x.snd.fst, 0, v3, ()))
      bif (v4) then
        let v5 := (g39 (x.snd.fst, 0, v3, ()))
        bif (!v5.fst) then
          some (((0), (0)), ((false), ()))
        else
          let v6 := (k40 x)
          bif (v6) then
            let v7 := (g40 x)
            some (((v7.fst.1), (v7.fst.2)), ((true), ()))
          else
            none
      else
        none
  else
    none
theorem ev11 (k38 : Den A38 → Bool) (g38 : Den A38 → Den R38) (k39 : Den A39 → Bool) (g39 : Den A39 → Den R39) (k40 : Den A40 → Bool) (g40 : Den A40 → Den R40) (x : Den A11) : callK (Γ11 k38 g38 k39 g39 k40 g40) (bodyOf Try.f11) (decR R11) (encA A11 x) [] = r11 k38 g38 k39 g39 k40 g40 x := by kernel_rfl
def F11 (x : Den A11) : Option (Den R11) := r11 K38 G38 K39 G39 K40 G40 x
def K11 (x : Den A11) : Bool := (F11 x).isSome
def G11 (x : Den A11) : Den R11 := (F11 x).getD (zero R11)
theorem env11 : EnvOK Try.prog (Γ11 K38 G38 K39 G39 K40 G40) := env_ok mixed tab_ok eqs_ok (.cons sem38 (.cons sem39 (.cons sem40 .nil)))
theorem is11 : FnIs Try.prog 11 (Γ11 K38 G38 K39 G39 K40 G40) (bodyOf Try.f11) := fnIs Try.func11 rfl rfl rfl (by kernel_rfl) (noLoops (by kernel_rfl))
theorem sem11 : SemOK Try.prog (11, fnMean A11 R11 K11 G11) := fn_opt env11 is11 fun x => ev11 K38 G38 K39 G39 K40 G40 x

/- "loop.example/g03321/impl.VectorOk" -/
abbrev A41 : Ty := .cons (.cpx .f64) (.nil)
abbrev R41 : Ty := .cons (.bool) (.nil)
noncomputable def Γ41 (k79 : Den A79 → Bool) (g79 : Den A79 → Den R79) : Env := mkEnv tab eqs [(79, fnMean A79 R79 k79 g79)] 13 [.tmp 2] [] [] [] [] []
def r41 (k79 : Den A79 → Bool) (g79 : Den A79 → Den R79) (x : Den A41) : Option (Den R41) :=
  let v0 := (k79 (x.fst.fst, ()))
  bif (v0) then
    let v1 := (g79 (x.fst.fst, ()))
    bif (flt FloatKind.f64 v1.fst 4726483295884279808 || feq FloatKind.f64 v1.fst 4726483295884279808) then
      let v2 := (k79 (x.fst.snd, ()))
      bif (v2) then
        let v3 := (g79 (x.fst.snd, ()))
        some ((flt FloatKind.f64 v3.fst 4726483295884279808 || feq FloatKind.f64 v3.fst 4726483295884279808), ())
      else
        none
    else
      some ((false), ())
  else
    none
theorem ev41 (k79 : Den A79 → Bool) (g79 : Den A79 → Den R79) (x : Den A41) : callK (Γ41 k79 g79) (bodyOf Try.f41) (decR R41) (encA A41 x) [] = r41 k79 g79 x := by kernel_rfl
def F41 (x : Den A41) : Option (Den R41) := r41 K79 G79 x
def K41 (x : Den A41) : Bool := (F41 x).isSome
def G41 (x : Den A41) : Den R41 := (F41 x).getD (zero R41)
theorem env41 : EnvOK Try.prog (Γ41 K79 G79) := env_ok mixed tab_ok eqs_ok (.cons sem79 .nil)
theorem is41 : FnIs Try.prog 41 (Γ41 K79 G79) (bodyOf Try.f41) := fnIs Try.func41 rfl rfl rfl (by kernel_rfl) (noLoops (by kernel_rfl))
theorem sem41 : SemOK Try.prog (41, fnMean A41 R41 K41 G41) := fn_opt env41 is41 fun x => ev41 K79 G79 x

/- "loop.example/g03321/impl.less" -/
abbrev A42 : Ty := .cons (.cpx .f64) (.cons (.cpx .f64) (.nil))
abbrev R42 : Ty := .cons (.cpx .f64) (.nil)
noncomputable def Γ42 : Env := mkEnv tab eqs [] 16 [.tmp 4] [] [] [] [] []
def r42 (x : Den A42) : Option (Den R42) :=
  let v0 := (farith BinOp.sub FloatKind.f64 x.fst.fst x.snd.fst.fst)
  let v1 := (farith BinOp.sub FloatKind.f64 x.fst.snd x.snd.fst.snd)
  some (((v0), (v1)), ())
theorem ev42 (x : Den A42) : callK (Γ42) (bodyOf Try.f42) (decR R42) (encA A42 x) [] = r42 x := by kernel_rfl
def F42 (x : Den A42) : Option (Den R42) := r42 x
def K42 (x : Den A42) : Bool := (F42 x).isSome
def G42 (x : Den A42) : Den R42 := (F42 x).getD (zero R42)
theorem env42 : EnvOK Try.prog (Γ42) := env_ok mixed tab_ok eqs_ok .nil
theorem is42 : FnIs Try.prog 42 (Γ42) (bodyOf Try.f42) := fnIs Try.func42 rfl rfl rfl (by kernel_rfl) (noLoops (by kernel_rfl))
theorem sem42 : SemOK Try.prog (42, fnMean A42 R42 K42 G42) := fn_opt env42 is42 fun x => ev42 x

/- "loop.example/g03321/impl.Dot" -/
abbrev A43 : Ty := .cons (.cpx .f64) (.cons (.cpx .f64) (.nil))
abbrev R43 : Ty := .cons (.flt .f64) (.nil)
noncomputable def Γ43 : Env := mkEnv tab eqs [] 16 [.tmp 4] [] [] [] [] []
def r43 (x : Den A43) : Option (Den R43) :=
  let v0 := (farith BinOp.mul FloatKind.f64 x.fst.fst x.snd.fst.fst)
  let v1 := (farith BinOp.mul FloatKind.f64 x.fst.snd x.snd.fst.snd)
  let v2 := (farith BinOp.add FloatKind.f64 v0 v1)
  some ((v2), ())
theorem ev43 (x : Den A43) : callK (Γ43) (bodyOf Try.f43) (decR R43) (encA A43 x) [] = r43 x := by kernel_rfl
def F43 (x : Den A43) : Option (Den R43) := r43 x
def K43 (x : Den A43) : Bool := (F43 x).isSome
def G43 (x : Den A43) : Den R43 := (F43 x).getD (zero R43)
theorem env43 : EnvOK Try.prog (Γ43) := env_ok mixed tab_ok eqs_ok .nil
theorem is43 : FnIs Try.prog 43 (Γ43) (bodyOf Try.f43) := fnIs Try.func43 rfl rfl rfl (by kernel_rfl) (noLoops (by kernel_rfl))
theorem sem43 : SemOK Try.prog (43, fnMean A43 R43 K43 G43) := fn_opt env43 is43 fun x => ev43 x

/- "loop.example/g03321/impl.NearNode" -/
abbrev A12 : Ty := .cons (S25) (.cons (.cpx .f64) (.nil))
abbrev R12 : Ty := .cons (.int .i64) (.nil)
abbrev V12_5 : Type := (((Nat × Nat) × (Unit × (Int × (Nat × (Int × Unit))))) × ((Int × (Int × (Int × ((List (Den (.slice (.cpx .f32)))) × Unit)))) × Unit))
def sh12_5 : ShS := ⟨[(1, .one (.cpx .f64)), (2, .one (.ptr 0 0)), (5, .one (.int .i64)), (6, .one (.flt .f64)), (7, .one (.int .i64))], [(0, .box [.int .i64, .int .i64, .int .i64, .sl (.slice (.cpx .f32))])], 1, 0⟩
abbrev X12_5 : Type := ((Int × Unit) × Unit)
def shX12_5 : ShS := ⟨[(5, .one (.int .i64))], [], 0, 0⟩
noncomputable def Γ12 (k34 : Den A34 → Bool) (g34 : Den A34 → Den R34) (k41 : Den A41 → Bool) (g41 : Den A41 → Den R41) (k36 : Den A36 → Bool) (g36 : Den A36 → Den R36) (k42 : Den A42 → Bool) (g42 : Den A42 → Den R42) (k43 : Den A43 → Bool) (g43 : Den A43 → Den R43) (kl5 : V12_5 → Bool) (xl5 : V12_5 → X12_5) : Env := mkEnv tab eqs [(34, fnMean A34 R34 k34 g34), (41, fnMean A41 R41 k41 g41), (36, fnMean A36 R36 k36 g36), (42, fnMean A42 R42 k42 g42), (43, fnMean A43 R43 k43 g43)] 45 [.tmp 4] [] [] [(5, loopX [1, 2, 5, 6, 7] [] 0 [5] [] sh12_5 shX12_5 kl5 xl5)] [] []
noncomputable def lc12_5 : Code := (loopsOf (bodyOf Try.f12)).getD 0 .skip
def q12_5 (k34 : Den A34 → Bool) (g34 : Den A34 → Den R34) (k41 : Den A41 → Bool) (g41 : Den A41 → Den R41) (k36 : Den A36 → Bool) (g36 : Den A36 → Den R36) (k42 : Den A42 → Bool) (g42 : Den A42 → Den R42) (k43 : Den A43 → Bool) (g43 : Den A43 → Den R43) (f : V12_5 → Option (X12_5)) (v : V12_5) : Option (X12_5) :=
  let v0 := (IntKind.wrap IntKind.i64 (v.snd.fst.fst * v.snd.fst.snd.fst))
  bif (decide (v.fst.snd.snd.snd.snd.fst < v0)) then
    let v1 := (k36 (v.snd.fst, v.fst.snd.snd.snd.snd))
    bif (v1) then
      let v2 := (g36 (v.snd.fst, v.fst.snd.snd.snd.snd))
      let v3 := (k42 (v2.fst, v.fst.fst, ()))
      bif (v3) then
        let v4 := (g42 (v2.fst, v.fst.fst, ()))
        let v5 := (k43 (v4.fst, v4))
        bif (v5) then
          bif (decide (v.fst.snd.snd.fst < 0)) then
            let v6 := (g43 (v4.fst, v4))
            let v7 := (IntKind.wrap IntKind.i64 (v.fst.snd.snd.snd.snd.fst + 1))
            f ((((v.fst.fst.1), (v.fst.fst.2)), ((), ((v.fst.snd.snd.snd.snd.1), ((v6.1), ((v7), ()))))), (((v.snd.fst.1), ((v.snd.fst.snd.1), ((v.snd.fst.snd.snd.1), ((v.snd.fst.snd.snd.snd.1), ())))), ()))
          else
            let v6 := (g43 (v4.fst, v4))
            bif (flt FloatKind.f64 v6.fst v.fst.snd.snd.snd.fst) then
              let v7 := (IntKind.wrap IntKind.i64 (v.fst.snd.snd.snd.snd.fst + 1))
              f ((((v.fst.fst.1), (v.fst.fst.2)), ((), ((v.fst.snd.snd.snd.snd.1), ((v6.1), ((v7), ()))))), (((v.snd.fst.1), ((v.snd.fst.snd.1), ((v.snd.fst.snd.snd.1), ((v.snd.fst.snd.snd.snd.1), ())))), ()))
            else
              let v7 := (IntKind.wrap IntKind.i64 (v.fst.snd.snd.snd.snd.fst + 1))
              f ((((v.fst.fst.1), (v.fst.fst.2)), ((), ((v.fst.snd.snd.1), ((v.fst.snd.snd.snd.1), ((v7), ()))))), (((v.snd.fst.1), ((v.snd.fst.snd.1), ((v.snd.fst.snd.snd.1), ((v.snd.fst.snd.snd.snd.1), ())))), ()))
        else
          none
      else
        none
    else
      none
  else
    some (((v.fst.snd.snd.1), ()), ())
theorem evl12_5 (k34 : Den A34 → Bool) (g34 : Den A34 → Den R34) (k41 : Den A41 → Bool) (g41 : Den A41 → Den R41) (k36 : Den A36 → Bool) (g36 : Den A36 → Den R36) (k42 : Den A42 → Bool) (g42 : Den A42 → Den R42) (k43 : Den A43 → Bool) (g43 : Den A43 → Den R43) (kl5 : V12_5 → Bool) (xl5 : V12_5 → X12_5) (f : V12_5 → Option (X12_5)) (v : V12_5) : EBk (Γ12 k34 g34 k41 g41 k36 g36 k42 g42 k43 g43 kl5 xl5) lc12_5 (roundK [1, 2, 5, 6, 7] [] 0 [5] [] (atS sh12_5 f) (endX shX12_5)) (mkS sh12_5 v) = q12_5 k34 g34 k41 g41 k36 g36 k42 g42 k43 g43 f v := by kernel_rfl
def b12_5 (v : V12_5) : Nat := v.1.2.2.1.natAbs + v.1.2.2.2.2.1.natAbs + v.2.1.1.natAbs + v.2.1.2.1.natAbs + v.2.1.2.2.1.natAbs + v.2.1.2.2.2.1.length + 1000
def l12_5 (v : V12_5) : Option (X12_5) := iter (q12_5 K34 G34 K41 G41 K36 G36 K42 G42 K43 G43) (b12_5 v) v
def kL12_5 (v : V12_5) : Bool := (l12_5 v).isSome
def xL12_5 (v : V12_5) : X12_5 := (l12_5 v).getD ((0, ()), ())
def r12 (k34 : Den A34 → Bool) (g34 : Den A34 → Den R34) (k41 : Den A41 → Bool) (g41 : Den A41 → Den R41) (k36 : Den A36 → Bool) (g36 : Den A36 → Den R36) (k42 : Den A42 → Bool) (g42 : Den A42 → Den R42) (k43 : Den A43 → Bool) (g43 : Den A43 → Den R43) (kl5 : V12_5 → Bool) (xl5 : V12_5 → X12_5) (x : Den A12) : Option (Den R12) :=
  let v0 := (k34 (x.fst, ()))
  bif (v0) then
    let v1 := (g34 (x.fst, ()))
    bif (!v1.fst) then
      some ((-1), ())
    else
      let v2 := (k41 x.snd)
      bif (v2) then
        let v3 := (g41 x.snd)
        bif (!v3.fst) then
          some ((-1), ())
        else
          let v4 := (kl5 ((x.snd.fst, (), -1, 0, 0, ()), x.fst, ()))
          bif (v4) then
            let v5 := (xl5 ((x.snd.fst, (), -1, 0, 0, ()), x.fst, ()))
            some ((v5.fst.1), ())
          else
            none
      else
        none
  else
    none
theorem ev12 (k34 : Den A34 → Bool) (g34 : Den A34 → Den R34) (k41 : Den A41 → Bool) (g41 : Den A41 → Den R41) (k36 : Den A36 → Bool) (g36 : Den A36 → Den R36) (k42 : Den A42 → Bool) (g42 : Den A42 → Den R42) (k43 : Den A43 → Bool) (g43 : Den A43 → Den R43) (kl5 : V12_5 → Bool) (xl5 : V12_5 → X12_5) (x : Den A12) : callK (Γ12 k34 g34 k41 g41 k36 g36 k42 g42 k43 g43 kl5 xl5) (bodyOf Try.f12) (decR R12) (encA A12 x) [] = r12 k34 g34 k41 g41 k36 g36 k42 g42 k43 g43 kl5 xl5 x := by kernel_rfl
def F12 (x : Den A12) : Option (Den R12) := r12 K34 G34 K41 G41 K36 G36 K42 G42 K43 G43 kL12_5 xL12_5 x
def K12 (x : Den A12) : Bool := (F12 x).isSome
def G12 (x : Den A12) : Den R12 := (F12 x).getD (zero R12)
theorem env12 : EnvOK Try.prog (Γ12 K34 G34 K41 G41 K36 G36 K42 G42 K43 G43 kL12_5 xL12_5) := env_ok mixed tab_ok eqs_ok (.cons sem34 (.cons sem41 (.cons sem36 (.cons sem42 (.cons sem43 .nil)))))
theorem is12 : FnIs Try.prog 12 (Γ12 K34 G34 K41 G41 K36 G36 K42 G42 K43 G43 kL12_5 xL12_5) (bodyOf Try.f12) := fnIs Try.func12 rfl rfl rfl (by kernel_rfl) (loops_ok (l := [lc12_5]) (by kernel_rfl) (.cons (one_loop rfl (loopX_sound (sh := sh12_5) (shX := shX12_5) (fun f v => evl12_5 K34 G34 K41 G41 K36 G36 K42 G42 K43 G43 kL12_5 xL12_5 f v) b12_5 ((0, ()), ()))) (.nil)))
theorem sem12 : SemOK Try.prog (12, fnMean A12 R12 K12 G12) := fn_opt env12 is12 fun x => ev12 K34 G34 K41 G41 K36 G36 K42 G42 K43 G43 kL12_5 xL12_5 x

/- "loop.example/g03321/laws.same64" -/
abbrev A65 : Ty := .cons (.flt .f64) (.cons (.flt .f64) (.nil))
abbrev R65 : Ty := .cons (.bool) (.nil)
noncomputable def Γ65 : Env := mkEnv tab eqs [] 35 [.tmp 4] [] [] [] [] []
def r65 (x : Den A65) : Option (Den R65) :=
  bif (!feq FloatKind.f64 x.fst x.fst) then
    bif (!feq FloatKind.f64 x.fst x.fst) then
      some ((!feq FloatKind.f64 x.snd.fst x.snd.fst), ())
    else
      some ((false), ())
  else
    bif (!feq FloatKind.f64 x.snd.fst x.snd.fst) then
      bif (!feq FloatKind.f64 x.fst x.fst) then
        some ((!feq FloatKind.f64 x.snd.fst x.snd.fst), ())
      else
        some ((false), ())
    else
      bif (feq FloatKind.f64 x.fst x.snd.fst) then
        bif (!feq FloatKind.f64 x.fst 0) then
          some ((true), ())
        else
          let v0 := (farith BinOp.quo FloatKind.f64 4607182418800017408 x.fst)
          let v1 := (farith BinOp.quo FloatKind.f64 4607182418800017408 x.snd.fst)
          some ((feq FloatKind.f64 v0 v1), ())
      else
        some ((false), ())
theorem ev65 (x : Den A65) : callK (Γ65) (bodyOf Try.f65) (decR R65) (encA A65 x) [] = r65 x := by kernel_rfl
def F65 (x : Den A65) : Option (Den R65) := r65 x
def K65 (x : Den A65) : Bool := (F65 x).isSome
def G65 (x : Den A65) : Den R65 := (F65 x).getD (zero R65)
theorem env65 : EnvOK Try.prog (Γ65) := env_ok mixed tab_ok eqs_ok .nil
theorem is65 : FnIs Try.prog 65 (Γ65) (bodyOf Try.f65) := fnIs Try.func65 rfl rfl rfl (by kernel_rfl) (noLoops (by kernel_rfl))
theorem sem65 : SemOK Try.prog (65, fnMean A65 R65 K65 G65) := fn_opt env65 is65 fun x => ev65 x

/- "loop.example/g03321/laws.same" -/
abbrev A24 : Ty := .cons (.cpx .f64) (.cons (.cpx .f64) (.nil))
abbrev R24 : Ty := .cons (.bool) (.nil)
noncomputable def Γ24 (k65 : Den A65 → Bool) (g65 : Den A65 → Den R65) : Env := mkEnv tab eqs [(65, fnMean A65 R65 k65 g65)] 17 [.tmp 4] [] [] [] [] []
def r24 (k65 : Den A65 → Bool) (g65 : Den A65 → Den R65) (x : Den A24) : Option (Den R24) :=
  let v0 := (k65 (x.fst.fst, x.snd.fst.fst, ()))
  bif (v0) then
    let v1 := (g65 (x.fst.fst, x.snd.fst.fst, ()))
    bif (v1.1) then
      let v2 := (k65 (x.fst.snd, x.snd.fst.snd, ()))
      bif (v2) then
        let v3 := (g65 (x.fst.snd, x.snd.fst.snd, ()))
        some ((v3.1), ())
      else
        none
    else
      some ((false), ())
  else
    none
theorem ev24 (k65 : Den A65 → Bool) (g65 : Den A65 → Den R65) (x : Den A24) : callK (Γ24 k65 g65) (bodyOf Try.f24) (decR R24) (encA A24 x) [] = r24 k65 g65 x := by kernel_rfl
def F24 (x : Den A24) : Option (Den R24) := r24 K65 G65 x
def K24 (x : Den A24) : Bool := (F24 x).isSome
def G24 (x : Den A24) : Den R24 := (F24 x).getD (zero R24)
theorem env24 : EnvOK Try.prog (Γ24 K65 G65) := env_ok mixed tab_ok eqs_ok (.cons sem65 .nil)
theorem is24 : FnIs Try.prog 24 (Γ24 K65 G65) (bodyOf Try.f24) := fnIs Try.func24 rfl rfl rfl (by kernel_rfl) (noLoops (by kernel_rfl))
theorem sem24 : SemOK Try.prog (24, fnMean A24 R24 K24 G24) := fn_opt env24 is24 fun x => ev24 K65 G65 x

/- "loop.example/g03321/laws.sameAir" -/
abbrev A13 : Ty := .cons (.cpx .f32) (.cons (.cpx .f32) (.nil))
abbrev R13 : Ty := .cons (.bool) (.nil)
noncomputable def Γ13 (k24 : Den A24 → Bool) (g24 : Den A24 → Den R24) : Env := mkEnv tab eqs [(24, fnMean A24 R24 k24 g24)] 10 [.tmp 4] [] [] [] [] []
def r13 (k24 : Den A24 → Bool) (g24 : Den A24 → Den R24) (x : Den A13) : Option (Den R13) :=
  let v0 := (k24 (((convF FloatKind.f32 FloatKind.f64 x.fst.fst).snd, (convF FloatKind.f32 FloatKind.f64 x.fst.snd).snd), ((convF FloatKind.f32 FloatKind.f64 x.snd.fst.fst).snd, (convF FloatKind.f32 FloatKind.f64 x.snd.fst.snd).snd), ()))
  bif (v0) then
    let v1 := (g24 (((convF FloatKind.f32 FloatKind.f64 x.fst.fst).snd, (convF FloatKind.f32 FloatKind.f64 x.fst.snd).snd), ((convF FloatKind.f32 FloatKind.f64 x.snd.fst.fst).snd, (convF FloatKind.f32 FloatKind.f64 x.snd.fst.snd).snd), ()))
    some ((v1.1), ())
  else
    none
theorem ev13 (k24 : Den A24 → Bool) (g24 : Den A24 → Den R24) (x : Den A13) : callK (Γ13 k24 g24) (bodyOf Try.f13) (decR R13) (encA A13 x) [] = r13 k24 g24 x := by kernel_rfl
def F13 (x : Den A13) : Option (Den R13) := r13 K24 G24 x
def K13 (x : Den A13) : Bool := (F13 x).isSome
def G13 (x : Den A13) : Den R13 := (F13 x).getD (zero R13)
theorem env13 : EnvOK Try.prog (Γ13 K24 G24) := env_ok mixed tab_ok eqs_ok (.cons sem24 .nil)
theorem is13 : FnIs Try.prog 13 (Γ13 K24 G24) (bodyOf Try.f13) := fnIs Try.func13 rfl rfl rfl (by kernel_rfl) (noLoops (by kernel_rfl))
theorem sem13 : SemOK Try.prog (13, fnMean A13 R13 K13 G13) := fn_opt env13 is13 fun x => ev13 K24 G24 x

/- "loop.example/g03321/laws.FnNodesNear" -/
abbrev A3 : Ty := .cons (.slice (.int .u8)) (.nil)
abbrev R3 : Ty := .cons (.bool) (.nil)
noncomputable def Γ3 (k7 : Den A7 → Bool) (g7 : Den A7 → Den R7) (k8 : Den A8 → Bool) (g8 : Den A8 → Den R8) (k9 : Den A9 → Bool) (g9 : Den A9 → Den R9) (k10 : Den A10 → Bool) (g10 : Den A10 → Den R10) (k11 : Den A11 → Bool) (g11 : Den A11 → Den R11) (k12 : Den A12 → Bool) (g12 : Den A12 → Den R12) (k13 : Den A13 → Bool) (g13 : Den A13 → Den R13) : Env := mkEnv tab eqs [(7, fnMean A7 R7 k7 g7), (8, fnMean A8 R8 k8 g8), (9, fnMean A9 R9 k9 g9), (10, fnMean A10 R10 k10 g10), (11, fnMean A11 R11 k11 g11), (12, fnMean A12 R12 k12 g12), (13, fnMean A13 R13 k13 g13)] 96 [.tmp 2] [] [] [] [] []
def r3 (k7 : Den A7 → Bool) (g7 : Den A7 → Den R7) (k8 : Den A8 → Bool) (g8 : Den A8 → Den R8) (k9 : Den A9 → Bool) (g9 : Den A9 → Den R9) (k10 : Den A10 → Bool) (g10 : Den A10 → Den R10) (k11 : Den A11 → Bool) (g11 : Den A11 → Den R11) (k12 : Den A12 → Bool) (g12 : Den A12 → Den R12) (k13 : Den A13 → Bool) (g13 : Den A13 → Den R13) (x : Den A3) : Option (Den R3) :=
  let v0 := (k7 x)
  bif (v0) then
    let v1 := (g7 x)
    bif (v1.1) then
      some ((true), ())
    else
      let v2 := (k8 x)
      bif (v2) then
        let v3 := (g8 x)
        let v4 := (k9 (v3.fst, v3.snd.fst, ()))
        bif (v4) then
          let v5 := (k10 v3)
          bif (v5) then
            let v6 := (k11 (v3.fst, v3.snd.fst, ()))
            bif (v6) then
              let v7 := (g9 (v3.fst, v3.snd.fst, ()))
              let v8 := (g11 (v3.fst, v3.snd.fst, ()))
              bif (!v7.snd.fst == v8.snd.fst) then
                some ((false), ())
              else
                bif (!v7.snd.fst) then
                  bif (feq FloatKind.f64 v7.fst.fst 0 && feq FloatKind.f64 v7.fst.snd 0) then
                    let v9 := (g10 v3)
                    bif (!v9.snd.fst) then
                      some ((feq FloatKind.f32 v9.fst.fst 0 && feq FloatKind.f32 v9.fst.snd 0), ())
                    else
                      some ((false), ())
                  else
                    some ((false), ())
                else
                  let v9 := (k12 (v3.fst, v7.fst, ()))
                  bif (v9) then
                    let v10 := (g12 (v3.fst, v7.fst, ()))
                    bif (v10.fst != v3.snd.fst) then
                      some ((false), ())
                    else
                      let v11 := (IntKind.wrap IntKind.i64 (Int.tdiv v3.snd.snd.fst 3600))
                      let v12 := (IntKind.wrap IntKind.i64 ((↑(List.length v3.fst.snd.snd.snd.fst) : Int) - 1))
                      bif (decide (v11 > v12)) then
                        bif (decide (v3.snd.snd.fst ≥ 0)) then
                          let v13 := (g10 v3)
                          bif (v13.snd.fst == decide (v3.snd.snd.fst ≤ 10000000)) then
                            bif (!v13.snd.fst) then
                              some ((true), ())
                            else
                              bif (decide (0 ≤ v12) && decide (v12 < (↑(List.length v3.fst.snd.snd.snd.fst) : Int))) then
                                let v14 := (List.getD v3.fst.snd.snd.snd.fst (Int.toNat v12) (zero (Ty.slice (Ty.cpx FloatKind.f32))))
                                bif (decide (0 ≤ v3.snd.fst) && decide (v3.snd.fst < (↑(List.length v14) : Int))) then
                                  let v15 := (List.getD v14 (Int.toNat v3.snd.fst) (zero (Ty.cpx FloatKind.f32)))
                                  let v16 := (k13 (v13.fst, v15, ()))
                                  bif (v16) then
                                    let v17 := (g13 (v13.fst, v15, ()))
                                    some ((v17.1), ())
                                  else
                                    none
                                else
                                  none
                              else
                                none
                          else
                            some ((false), ())
                        else
                          let v13 := (g10 v3)
                          bif (v13.snd.fst == false) then
                            bif (!v13.snd.fst) then
                              some ((true), ())
                            else
                              bif (decide (0 ≤ v12) && decide (v12 < (↑(List.length v3.fst.snd.snd.snd.fst) : Int))) then
                                let v14 := (List.getD v3.fst.snd.snd.snd.fst (Int.toNat v12) (zero (Ty.slice (Ty.cpx FloatKind.f32))))
                                bif (decide (0 ≤ v3.snd.fst) && decide (v3.snd.fst < (↑(List.length v14) : Int))) then
                                  let v15 := (List.getD v14 (Int.toNat v3.snd.fst) (zero (Ty.cpx FloatKind.f32)))
                                  let v16 := (k13 (v13.fst, v15, ()))
                                  bif (v16) then
                                    let v17 := (g13 (v13.fst, v15, ()))
                                    some ((v17.1), ())
                                  else
                                    none
                                else
                                  none
                              else
                                none
                          else
                            some ((false), ())
                      else
                        bif (decide (v3.snd.snd.fst ≥ 0)) then
                          let v13 := (g10 v3)
                          bif (v13.snd.fst == decide (v3.snd.snd.fst ≤ 10000000)) then
                            bif (!v13.snd.fst) then
                              some ((true), ())
                            else
                              bif (decide (0 ≤ v11) && decide (v11 < (↑(List.length v3.fst.snd.snd.snd.fst) : Int))) then
                                let v14 := (List.getD v3.fst.snd.snd.snd.fst (Int.toNat v11) (zero (Ty.slice (Ty.cpx FloatKind.f32))))
                                bif (decide (0 ≤ v3.snd.fst) && decide (v3.snd.fst < (↑(List.length v14) : Int))) then
                                  let v15 := (List.getD v14 (Int.toNat v3.snd.fst) (zero (Ty.cpx FloatKind.f32)))
                                  let v16 := (k13 (v13.fst, v15, ()))
                                  bif (v16) then
                                    let v17 := (g13 (v13.fst, v15, ()))
                                    some ((v17.1), ())
                                  else
                                    none
                                else
                                  none
                              else
                                none
                          else
                            some ((false), ())
                        else
                          let v13 := (g10 v3)
                          bif (v13.snd.fst == false) then
                            bif (!v13.snd.fst) then
                              some ((true), ())
                            else
                              bif (decide (0 ≤ v11) && decide (v11 < (↑(List.length v3.fst.snd.snd.snd.fst) : Int))) then
                                let v14 := (List.getD v3.fst.snd.snd.snd.fst (Int.toNat v11) (zero (Ty.slice (Ty.cpx FloatKind.f32))))
                                bif (decide (0 ≤ v3.snd.fst) && decide (v3.snd.fst < (↑(List.length v14) : Int))) then
                                  let v15 := (List.getD v14 (Int.toNat v3.snd.fst) (zero (Ty.cpx FloatKind.f32)))
                                  let v16 := (k13 (v13.fst, v15, ()))
                                  bif (v16) then
                                    let v17 := (g13 (v13.fst, v15, ()))
                                    some ((v17.1), ())
                                  else
                                    none
                                else
                                  none
                              else
                                none
                          else
                            some ((false), ())
                  else
                    none
            else
              none
          else
            none
        else
          none
      else
        none
  else
    none
theorem ev3 (k7 : Den A7 → Bool) (g7 : Den A7 → Den R7) (k8 : Den A8 → Bool) (g8 : Den A8 → Den R8) (k9 : Den A9 → Bool) (g9 : Den A9 → Den R9) (k10 : Den A10 → Bool) (g10 : Den A10 → Den R10) (k11 : Den A11 → Bool) (g11 : Den A11 → Den R11) (k12 : Den A12 → Bool) (g12 : Den A12 → Den R12) (k13 : Den A13 → Bool) (g13 : Den A13 → Den R13) (x : Den A3) : callK (Γ3 k7 g7 k8 g8 k9 g9 k10 g10 k11 g11 k12 g12 k13 g13) (bodyOf Try.f3) (decR R3) (encA A3 x) [] = r3 k7 g7 k8 g8 k9 g9 k10 g10 k11 g11 k12 g12 k13 g13 x := by kernel_rfl
def F3 (x : Den A3) : Option (Den R3) := r3 K7 G7 K8 G8 K9 G9 K10 G10 K11 G11 K12 G12 K13 G13 x
def K3 (x : Den A3) : Bool := (F3 x).isSome
def G3 (x : Den A3) : Den R3 := (F3 x).getD (zero R3)
theorem env3 : EnvOK Try.prog (Γ3 K7 G7 K8 G8 K9 G9 K10 G10 K11 G11 K12 G12 K13 G13) := env_ok mixed tab_ok eqs_ok (.cons sem7 (.cons sem8 (.cons sem9 (.cons sem10 (.cons sem11 (.cons sem12 (.cons sem13 .nil)))))))
theorem is3 : FnIs Try.prog 3 (Γ3 K7 G7 K8 G8 K9 G9 K10 G10 K11 G11 K12 G12 K13 G13) (bodyOf Try.f3) := fnIs Try.func3 rfl rfl rfl (by kernel_rfl) (noLoops (by kernel_rfl))
theorem sem3 : SemOK Try.prog (3, fnMean A3 R3 K3 G3) := fn_opt env3 is3 fun x => ev3 K7 G7 K8 G8 K9 G9 K10 G10 K11 G11 K12 G12 K13 G13 x

end Go.Proofs.Ytmmdjajebmihhaa.AM

/- Plainly: the cursor that all draws share: it is right from the start on, and what is drawn lies where it should. Conditions: those that each lemma names. -/
namespace Go.Proofs.Ytmmdjajebmihhaa.AM
open Go Go.Proofs
set_option linter.unusedVariables false

/-- A cursor that is right. -/
def CurOk (c : List Int × Int × Int × Unit) : Prop := 0 ≤ c.2.1 ∧ c.1.length ≤ 1048576

theorem and255 (a : Int) : 0 ≤ ibits .and .i64 a 255 ∧ ibits .and .i64 a 255 ≤ 255 := by
  have h : (BitVec.ofInt IntKind.i64.bits a &&& BitVec.ofInt IntKind.i64.bits 255).toNat ≤ 255 := by
    rw [BitVec.toNat_and]
    exact Nat.and_le_right
  have e : ibits .and .i64 a 255 = IntKind.i64.wrap ((BitVec.ofInt IntKind.i64.bits a &&& BitVec.ofInt IntKind.i64.bits 255).toNat : Int) := rfl
  rw [e, w64 (by omega) (by omega)]
  omega

theorem K89_ok (x : I89.den) (h : CurOk x.2.1) : K89 x = true := by
  unfold K89 F89 r89
  have h1 : decide (0 ≤ x.2.1.2.1) = true := decide_eq_true h.1
  cases hc : decide (x.2.1.2.1 < (x.2.1.1.length : Int)) <;> simp only [h1, Bool.and_self, cond_true, cond_false, Option.isSome_some]

theorem G89_ok (x : I89.den) (h : CurOk x.2.1) : CurOk (G89 x).2.1 ∧ 0 ≤ (G89 x).1.1 ∧ (G89 x).1.1 ≤ 255 := by
  unfold G89 F89 r89
  have h1 : decide (0 ≤ x.2.1.2.1) = true := decide_eq_true h.1
  have hl := h.2
  have hi : 0 ≤ x.2.1.2.1 := h.1
  by_cases hlt : x.2.1.2.1 < (x.2.1.1.length : Int)
  · have hlt2 : x.2.1.2.1 < 1048576 := by
      have : ((x.2.1.1.length : Nat) : Int) ≤ 1048576 := by omega
      exact Int.lt_of_lt_of_le hlt this
    have hc : decide (x.2.1.2.1 < (x.2.1.1.length : Int)) = true := decide_eq_true hlt
    simp only [hc, h1, Bool.and_self, cond_true, Option.getD_some]
    refine ⟨⟨?_, hl⟩, (and255 _).1, (and255 _).2⟩
    have hn : ∀ n : Int, 0 ≤ n → n < 1048576 → 0 ≤ IntKind.i64.wrap (n + 1) := fun n h1 h2 => by rw [w64 (by omega) (by omega)]; omega
    exact hn _ hi hlt2
  · have hc : decide (x.2.1.2.1 < (x.2.1.1.length : Int)) = false := decide_eq_false hlt
    simp only [hc, cond_false, Option.getD_some]
    exact ⟨⟨hi, hl⟩, (and255 _).1, (and255 _).2⟩

theorem G89_cur (x : I89.den) (h : CurOk x.2.1) : CurOk (G89 x).2.1 := (G89_ok x h).1

theorem tmod_in {a n : Int} (h : 0 ≤ a) (hn : 0 < n) : 0 ≤ Int.tmod a n ∧ Int.tmod a n < n := by
  rw [Int.tmod_eq_emod_of_nonneg h]
  exact ⟨Int.emod_nonneg _ (by omega), Int.emod_lt_of_pos _ hn⟩

theorem below_ok (n : Int) (c : List Int × Int × Int × Unit) (h : CurOk c) : ∃ (m : Int) (c' : List Int × Int × Int × Unit), F66 (((), n, ()), (c, ())) = some ((m, ()), (c', ())) ∧ CurOk c' ∧ 0 ≤ m ∧ (0 < n → m < n) := by
  unfold F66 r66
  by_cases h0 : n ≤ 0
  · have : decide (n ≤ 0) = true := decide_eq_true h0
    simp only [this, cond_true]
    exact ⟨0, c, rfl, h, by omega, fun h => by omega⟩
  · have e0 : decide (n ≤ 0) = false := decide_eq_false h0
    have e1 : (n != 0) = true := by simp; omega
    have k1 := K89_ok (((), ()), (c, ())) h
    obtain ⟨c1, l1, u1⟩ := G89_ok (((), ()), (c, ())) h
    simp only [e0, cond_false, k1, cond_true, e1]
    generalize G89 (((), ()), (c, ())) = g1 at *
    by_cases h2 : n ≤ 256
    · have : decide (n ≤ 256) = true := decide_eq_true h2
      simp only [this, cond_true]
      exact ⟨_, g1.2.1, rfl, c1, (tmod_in l1 (by omega)).1, fun _ => (tmod_in l1 (by omega)).2⟩
    · have : decide (n ≤ 256) = false := decide_eq_false h2
      simp only [this, cond_false]
      have k2 := K89_ok (((), ()), g1.2) c1
      obtain ⟨c2, l2, u2⟩ := G89_ok (((), ()), g1.2) c1
      simp only [k2, cond_true]
      generalize G89 (((), ()), g1.2) = g2 at *
      have k3 := K89_ok (((), ()), g2.2) c2
      obtain ⟨c3, l3, u3⟩ := G89_ok (((), ()), g2.2) c2
      simp only [k3, cond_true]
      generalize G89 (((), ()), g2.2) = g3 at *
      have k4 := K89_ok (((), ()), g3.2) c3
      obtain ⟨c4, l4, u4⟩ := G89_ok (((), ()), g3.2) c3
      simp only [k4, cond_true]
      generalize G89 (((), ()), g3.2) = g4 at *
      have big : ∀ x y z w : Int, 0 ≤ x → x ≤ 255 → 0 ≤ y → y ≤ 255 → 0 ≤ z → z ≤ 255 → 0 ≤ w → w ≤ 255 →
          0 ≤ IntKind.i64.wrap (IntKind.i64.wrap (IntKind.i64.wrap (IntKind.i64.wrap (x * 16777216) + IntKind.i64.wrap (y * 65536)) + IntKind.i64.wrap (z * 256)) + w) := by
        intro x y z w h1 h2 h3 h4 h5 h6 h7 h8
        have w1 : IntKind.i64.wrap (x * 16777216) = x * 16777216 := w64 (by omega) (by omega)
        have w2 : IntKind.i64.wrap (y * 65536) = y * 65536 := w64 (by omega) (by omega)
        have w3 : IntKind.i64.wrap (z * 256) = z * 256 := w64 (by omega) (by omega)
        have w4 : IntKind.i64.wrap (x * 16777216 + y * 65536) = x * 16777216 + y * 65536 := w64 (by omega) (by omega)
        have w5 : IntKind.i64.wrap (x * 16777216 + y * 65536 + z * 256) = x * 16777216 + y * 65536 + z * 256 := w64 (by omega) (by omega)
        rw [w1, w2, w3, w4, w5, w64 (by omega) (by omega)]
        omega
      have hb := big g1.1.1 g2.1.1 g3.1.1 g4.1.1 l1 u1 l2 u2 l3 u3 l4 u4
      exact ⟨_, g4.2.1, rfl, c4, (tmod_in hb (by omega)).1, fun _ => (tmod_in hb (by omega)).2⟩

theorem K66_ok (x : I66.den) (h : CurOk x.2.1) : K66 x = true := by
  obtain ⟨m, c, he, _⟩ := below_ok x.1.2.1 x.2.1 h
  unfold K66
  rw [show x = (((), x.1.2.1, ()), (x.2.1, ())) from rfl, he]
  rfl
theorem G66_ok (x : I66.den) (h : CurOk x.2.1) : CurOk (G66 x).2.1 ∧ 0 ≤ ((G66 x).1.1 : Int) ∧ ((0 : Int) < x.1.2.1 → ((G66 x).1.1 : Int) < x.1.2.1) := by
  obtain ⟨m, c, he, h1, h2, h3⟩ := below_ok x.1.2.1 x.2.1 h
  unfold G66
  rw [show F66 x = _ from he]
  exact ⟨h1, h2, h3⟩
theorem G66_cur (x : I66.den) (h : CurOk x.2.1) : CurOk (G66 x).2.1 := (G66_ok x h).1

theorem K45_ok (x : I45.den) (h : CurOk x.2.1) : K45 x = true := by
  unfold K45 F45 r45
  simp only [K66_ok (((), x.1.2), x.2) h, cond_true, Option.isSome_some]
theorem G45_cur (x : I45.den) (h : CurOk x.2.1) : CurOk (G45 x).2.1 := by
  unfold G45 F45 r45
  simp only [K66_ok (((), x.1.2), x.2) h, cond_true, Option.getD_some]
  exact G66_cur (((), x.1.2), x.2) h

theorem pick_ok (l : List Int) (c : List Int × Int × Int × Unit) (h : CurOk c) (hl : 0 < l.length) : ∃ (m : Int) (c' : List Int × Int × Int × Unit), F76 (((), (), ()), (c, l, ())) = some ((m, ()), (c', l, ())) ∧ CurOk c' ∧ m ∈ l := by
  obtain ⟨m, c1, he, h1, h2, h3⟩ := below_ok (l.length : Int) c h
  unfold F76 r76
  have e1 : decide (0 ≤ m) = true := decide_eq_true h2
  have h4 : m < (l.length : Int) := h3 (by omega)
  have e2 : decide (m < (l.length : Int)) = true := decide_eq_true h4
  simp only [K66, G66, he, Option.isSome_some, Option.getD_some, cond_true, e1, e2, Bool.and_self]
  refine ⟨_, c1, rfl, h1, ?_⟩
  rw [getD_lt _ _ _ (by omega)]
  exact List.getElem_mem _
theorem K76_ok (x : I76.den) (h : CurOk x.2.1) (hl : 0 < x.2.2.1.length) : K76 x = true := by
  obtain ⟨m, c, he, _⟩ := pick_ok x.2.2.1 x.2.1 h hl
  unfold K76
  rw [show x = (((), (), ()), (x.2.1, x.2.2.1, ())) from rfl, he]
  rfl
theorem G76_ok (x : I76.den) (h : CurOk x.2.1) (hl : 0 < x.2.2.1.length) : CurOk (G76 x).2.1 ∧ (G76 x).1.1 ∈ x.2.2.1 := by
  obtain ⟨m, c, he, h1, h2⟩ := pick_ok x.2.2.1 x.2.1 h hl
  unfold G76
  rw [show F76 x = _ from he]
  exact ⟨h1, h2⟩
theorem G76_cur (x : I76.den) (h : CurOk x.2.1) (hl : 0 < x.2.2.1.length) : CurOk (G76 x).2.1 := (G76_ok x h hl).1

/-! ## A new cursor -/

theorem new_ok (code : List Int) (h : code.length ≤ 1048576) : ∃ c, F30 ((code, ()), ()) = some (((), ()), (c, ())) ∧ CurOk c := by
  have hl : ∃ y, l30_3 ((code, IntKind.i64.wrap (33211 + (code.length : Int)), (0 : Int), ()), ()) = some y ∧ y.1.1 = code := by
    refine iter_ind (q := q30_3) (fun v => v.1.1 = code ∧ 0 ≤ v.1.2.2.1 ∧ v.1.2.2.1 ≤ code.length) (fun _ r => ∃ y, r = some y ∧ y.1.1 = code) (fun v => ((code.length : Int) - v.1.2.2.1).toNat) ?_ _ _ ⟨rfl, by simp only; omega, by simp only; omega⟩ (by simp only [b30_3]; omega)
    rintro ⟨⟨l, hh, i, _⟩, _⟩ f ⟨h0, h1, h2⟩ ih
    simp only at h0 h1 h2 ih
    subst h0
    unfold q30_3
    by_cases hi : i < (l.length : Int)
    · have a1 : decide (0 ≤ i) = true := by simp; omega
      have a2 : decide (i < (l.length : Int)) = true := by simpa using hi
      have e1 : IntKind.i64.wrap (i + 1) = i + 1 := w64 (by omega) (by omega)
      simp only [a1, a2, e1, Bool.and_self, cond_true]
      cases decide (i < 4000)
      · exact ⟨_, rfl, rfl⟩
      · exact ih ((l, _, i + 1, ()), ()) ⟨rfl, by simp only; omega, by simp only; omega⟩ (by simp only; omega)
    · have a2 : decide (i < (l.length : Int)) = false := by simpa using hi
      simp only [a2, cond_false]
      exact ⟨_, rfl, rfl⟩
  obtain ⟨y, hy, hc⟩ := hl
  unfold F30 r30
  simp only [kL30_3, xL30_3, hy, Option.isSome_some, Option.getD_some, cond_true]
  refine ⟨_, rfl, ?_, ?_⟩
  · exact Int.le_refl 0
  · rw [hc]; exact h
theorem K30_ok (x : I30.den) (h : x.1.1.length ≤ 1048576) : K30 x = true := by
  obtain ⟨c, he, _⟩ := new_ok x.1.1 h
  unfold K30
  rw [show x = ((x.1.1, ()), ()) from rfl, he]
  rfl
theorem G30_cur (x : I30.den) (h : x.1.1.length ≤ 1048576) : CurOk (G30 x).2.1 := by
  obtain ⟨c, he, h1⟩ := new_ok x.1.1 h
  unfold G30
  rw [show F30 x = _ from he]
  exact h1

end Go.Proofs.Ytmmdjajebmihhaa.AM
