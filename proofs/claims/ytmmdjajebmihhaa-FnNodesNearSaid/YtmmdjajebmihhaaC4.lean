/- The abstract machine: meanings of functions that write, or hand out what is their own. Conditions: those that each lemma names. -/
import Derived.Test.YtmmdjajebmihhaaC3
namespace Go.Proofs.Ytmmdjajebmihhaa.AM
open Go
set_option linter.unusedVariables false

/-! ## Reading leniently -/

def getCl : (c : ShC) → C → Option c.den
  | .sl t, .nil _ => some []
  | .pois, _ => some ()
  | c, x => getC c x

theorem getCl_ok {β : Bt} {K : Ks} {c : ShC} {x : C} {v : c.den} (h : getCl c x = some v) {u : Value} (hu : CR β K x u) : CR β K (mkC c v) u := by
  unfold getCl at h
  split at h
  · cases h
    obtain ⟨a, rfl⟩ := hu
    exact ⟨a, 0, 0, rfl, rfl, Nat.le_refl _, .inl rfl⟩
  · trivial
  · rw [← getC_ok h]; exact hu

def getLl : (l : List ShC) → List C → Option (denL l)
  | [], [] => some ()
  | c :: r, x :: xs => match getCl c x with
    | some v => match getLl r xs with
      | some w => some (v, w)
      | none => none
    | none => none
  | _, _ => none

theorem getLl_ok {β : Bt} {K : Ks} : ∀ {l : List ShC} {xs : List C} {v : denL l}, getLl l xs = some v → ∀ {us : List Value}, All2 (CR β K) xs us → All2 (CR β K) (mkL l v) us
  | [], [], _, _, us, hu => hu
  | c :: r, x :: xs, v, h, us, hu => by
    simp only [getLl] at h
    split at h
    · rename_i a ha
      split at h
      · rename_i b hb
        cases h
        cases us with
        | nil => exact hu.elim
        | cons u us => exact ⟨getCl_ok ha hu.1, getLl_ok hb hu.2⟩
      · cases h
    · cases h
  | [], _ :: _, _, h, _, _ => by simp [getLl] at h
  | _ :: _, [], _, h, _, _ => by simp [getLl] at h

/-! ## What a function takes and gives -/

/-- 'val': a value; 'own': a slice of the callee's own, in the block k; 'ptr': a variable, the block k; 'mix': a struct with slices of the callee's own. -/
inductive Kn where
  | val (t : Ty)
  | own (t : Ty) (k : Nat)
  | ptr (k : Nat)
  | mix (cs : List ShC)
@[reducible] def Kn.den : Kn → Type
  | .val t => Den t
  | .mix cs => denL cs
  | _ => Unit
def encK : (k : Kn) → k.den → W
  | .val t, x => encW t x
  | .own t k, _ => .one (.ref t k)
  | .ptr k, _ => .one (.ptr k 0)
  | .mix cs, x => .agg (mkL cs x)
def decK : (k : Kn) → W → Option k.den
  | .val t, w => decW t w
  | .own t k, .one (.ref t' k') => match sameT t t' && Nat.beq k k' with
    | true => some ()
    | false => none
  | .ptr k, .one (.ptr k' o) => match Nat.beq k k' && Nat.beq o 0 with
    | true => some ()
    | false => none
  | .mix cs, .agg xs => getLl cs xs
  | _, _ => none

theorem decK_ok {β : Bt} {K : Ks} {k : Kn} {u : W} {x : k.den} (h : decK k u = some x) {v : Value} (hv : WR β K u v) : WR β K (encK k x) v := by
  unfold decK at h
  split at h
  · exact decW_ok h hv
  · split at h
    · rename_i hk
      simp only [Bool.and_eq_true] at hk
      rw [← sameT_eq hk.1, ← nbeq_eq hk.2] at hv
      exact hv
    · cases h
  · split at h
    · rename_i hk
      simp only [Bool.and_eq_true] at hk
      rw [← nbeq_eq hk.1, nbeq_eq hk.2] at hv
      exact hv
    · cases h
  · obtain ⟨arr, rfl, ha⟩ := hv
    exact ⟨arr, rfl, getLl_ok h ha⟩
  · cases h

@[reducible] def denKs : List Kn → Type
  | [] => Unit
  | k :: r => k.den × denKs r
def encKs : (l : List Kn) → denKs l → List W
  | [], _ => []
  | k :: r, x => encK k x.1 :: encKs r x.2
def decKs : (l : List Kn) → List W → Option (denKs l)
  | [], [] => some ()
  | k :: r, w :: ws => match decK k w with
    | some x => match decKs r ws with
      | some y => some (x, y)
      | none => none
    | none => none
  | _, _ => none

theorem decKs_ok {β : Bt} {K : Ks} : ∀ {l : List Kn} {us : List W} {x : denKs l}, decKs l us = some x → ∀ {vs : List Value}, All2 (WR β K) us vs → All2 (WR β K) (encKs l x) vs
  | [], [], _, _, vs, hv => hv
  | k :: r, u :: us, x, h, vs, hv => by
    simp only [decKs] at h
    split at h
    · rename_i a ha
      split at h
      · rename_i b hb
        cases h
        cases vs with
        | nil => exact hv.elim
        | cons v vs => exact ⟨decK_ok ha hv.1, decKs_ok hb hv.2⟩
      · cases h
    · cases h
  | [], _ :: _, _, h, _, _ => by simp [decKs] at h
  | _ :: _, [], _, h, _, _ => by simp [decKs] at h

theorem decKs_len : ∀ {l : List Kn} {us : List W} {x : denKs l}, decKs l us = some x → (encKs l x).length = us.length
  | [], [], _, _ => rfl
  | k :: r, u :: us, x, h => by
    simp only [decKs] at h
    split at h
    · split at h
      · rename_i b hb
        cases h
        simp [encKs, decKs_len hb]
      · cases h
    · cases h
  | [], _ :: _, _, h => by simp [decKs] at h
  | _ :: _, [], _, h => by simp [decKs] at h

/-- A block: 'box': a variable of a value; 'boxC': one with slices of the callee's own; 'arr': an array; 'gone': none that is known. -/
inductive Bn where
  | box (t : Ty)
  | boxC (cs : List ShC)
  | arr (t : Ty)
  | gone
@[reducible] def Bn.den : Bn → Type
  | .box t => Den t
  | .boxC cs => denL cs
  | .arr t => List (Den t)
  | .gone => Unit
def encB : (b : Bn) → b.den → Option Blk
  | .box t, x => some (.box (AM.enc t x))
  | .boxC cs, x => some (.box (mkL cs x))
  | .arr t, l => some (.arr t l)
  | .gone, _ => none
def decB : (b : Bn) → Option Blk → Option b.den
  | .box t, some (.box cs) => decC t cs
  | .boxC cs, some (.box xs) => getLl cs xs
  | .arr t, some (.arr t' l) => match same t' t with
    | some ⟨h⟩ => some (h ▸ l)
    | none => none
  | .gone, _ => some ()
  | _, _ => none

/-- What the one block says the other says, too. -/
def BLax (b b' : Blk) : Prop := ∀ β K h w, BR β K b h w → BR β K b' h w

theorem decB_ok {b : Bn} {o : Option Blk} {x : b.den} (h : decB b o = some x) {b' : Blk} (hb : encB b x = some b') : ∃ b0, o = some b0 ∧ BLax b0 b' := by
  unfold decB at h
  split at h
  · cases hb
    refine ⟨_, rfl, fun β K h' w hr => ?_⟩
    obtain ⟨y, arr, T, e, hh, hc⟩ := hr
    exact ⟨y, arr, T, e, hh, DR.enc _ (decC_DR h hc)⟩
  · cases hb
    refine ⟨_, rfl, fun β K h' w hr => ?_⟩
    obtain ⟨y, arr, T, e, hh, hc⟩ := hr
    exact ⟨y, arr, T, e, hh, getLl_ok h hc⟩
  · split at h
    · rename_i e _
      subst e
      cases h
      cases hb
      exact ⟨_, rfl, fun _ _ _ _ hr => hr⟩
    · cases h
  · cases hb
  · cases h

@[reducible] def denBs : List Bn → Type
  | [] => Unit
  | k :: r => k.den × denBs r
def encBs : (l : List Bn) → denBs l → List (Option Blk)
  | [], _ => []
  | b :: r, x => encB b x.1 :: encBs r x.2
def decBs : (l : List Bn) → List (Option Blk) → Option (denBs l)
  | [], [] => some ()
  | b :: r, o :: os => match decB b o with
    | some x => match decBs r os with
      | some y => some (x, y)
      | none => none
    | none => none
  | _, _ => none

theorem decBs_ok : ∀ {l : List Bn} {os : List (Option Blk)} {x : denBs l}, decBs l os = some x → (encBs l x).length = os.length ∧ ∀ p b', getO (encBs l x) p = some b' → ∃ b, getO os p = some b ∧ BLax b b'
  | [], [], _, _ => ⟨rfl, fun p b' e => by simp [encBs, getO] at e⟩
  | k :: r, o :: os, x, h => by
    simp only [decBs] at h
    split at h
    · rename_i a ha
      split at h
      · rename_i b hb
        cases h
        obtain ⟨h1, h2⟩ := decBs_ok hb
        refine ⟨by simp [encBs, h1], fun p b' e => ?_⟩
        cases p with
        | zero =>
          have e' : encB k a = some b' := by simpa [encBs, getO] using e
          obtain ⟨b0, h3, h4⟩ := decB_ok ha e'
          exact ⟨b0, by simpa [getO] using h3, h4⟩
        | succ p =>
          have := h2 p b' (by simpa [encBs, getO] using e)
          simpa [getO] using this
      · cases h
    · cases h
  | [], _ :: _, _, h => by simp [decBs] at h
  | _ :: _, [], _, h => by simp [decBs] at h

def insOf : List (Option Blk) → Option (List Blk)
  | [] => some []
  | some b :: r => match insOf r with
    | some l => some (b :: l)
    | none => none
  | none :: _ => none

theorem insOf_get : ∀ {os : List (Option Blk)} {ins : List Blk}, insOf os = some ins → ins.length = os.length ∧ getL ins = getO os
  | [], ins, h => by simp only [insOf, Option.some.injEq] at h; subst h; exact ⟨rfl, by funext p; simp [getL, getO]⟩
  | some b :: r, ins, h => by
    simp only [insOf] at h
    split at h
    · rename_i l hl
      cases h
      obtain ⟨h1, h2⟩ := insOf_get hl
      refine ⟨by simp [h1], ?_⟩
      funext p
      cases p with
      | zero => simp [getL, getO]
      | succ p =>
        have := congrFun h2 p
        simpa [getL, getO] using this
    · cases h
  | none :: _, _, h => by simp [insOf] at h

theorem getO_some (ins : List Blk) : getO (ins.map some) = getL ins := by
  funext p
  simp only [getO, getL, List.getElem?_map]
  cases ins[p]? <;> rfl

theorem MR.lax {β : Bt} {K : Ks} {get get' : Get} {w : World} (h : MR β K get w) (hg : ∀ p b', get' p = some b' → ∃ b, get p = some b ∧ BLax b b') : MR β K get' w := by
  refine ⟨fun k b e => ?_, fun k k' b b' y y' x e e' f f' g g' => ?_, fun k b y x e f g => ?_⟩
  · obtain ⟨b0, h1, h2⟩ := hg k b e
    obtain ⟨y, h3, h4⟩ := h.blk k b0 h1
    exact ⟨y, h3, h2 _ _ _ _ h4⟩
  · obtain ⟨b0, h1, _⟩ := hg k b e
    obtain ⟨b1, h2, _⟩ := hg k' b' e'
    exact h.sep k k' b0 b1 y y' x h1 h2 f f' g g'
  · obtain ⟨b0, h1, _⟩ := hg k b e
    exact h.ro k b0 y x h1 f g

theorem Own.lax {β : Bt} {get get' : Get} (hg : ∀ p b', get' p = some b' → ∃ b, get p = some b ∧ BLax b b') {x : Nat} (h : Own β get' x) : Own β get x := by
  obtain ⟨k, b, y, e, f, g⟩ := h
  obtain ⟨b0, h1, _⟩ := hg k b e
  exact ⟨k, b0, y, h1, f, g⟩

/-- What a function takes, or gives: values, and blocks. -/
structure Sg where
  ws : List Kn
  bs : List Bn
@[reducible] def Sg.den (s : Sg) : Type := denKs s.ws × denBs s.bs

def decO (O : Sg) : List W × List (Option Blk) → Option O.den := fun p => match decKs O.ws p.1 with
  | some x => match decBs O.bs p.2 with
    | some y => some (x, y)
    | none => none
  | none => none

def zeroC : (c : ShC) → c.den
  | .bool => false
  | .int _ => (0 : Int)
  | .flt _ => (0 : Nat)
  | .cpx _ => ((0, 0) : Nat × Nat)
  | .str => ByteArray.empty
  | .sl t => ([] : List (Den t))
  | .pois => ()
  | .nil _ => ()
  | .ref _ _ => ()
  | .ptr _ _ => ()
  | .fn _ _ => ()
def zeroL : (l : List ShC) → denL l
  | [] => ()
  | c :: r => (zeroC c, zeroL r)
def zeroKs : (l : List Kn) → denKs l
  | [] => ()
  | .val t :: r => (zero t, zeroKs r)
  | .mix cs :: r => (zeroL cs, zeroKs r)
  | .own _ _ :: r => ((), zeroKs r)
  | .ptr _ :: r => ((), zeroKs r)
def zeroBs : (l : List Bn) → denBs l
  | [] => ()
  | .box t :: r => (zero t, zeroBs r)
  | .boxC cs :: r => (zeroL cs, zeroBs r)
  | .arr t :: r => (([] : List (Den t)), zeroBs r)
  | .gone :: r => ((), zeroBs r)
def zeroSg (O : Sg) : O.den := (zeroKs O.ws, zeroBs O.bs)

/-- A function from what it takes and gives. -/
def sgMean (own : Bool) (I O : Sg) (ok : I.den → Bool) (g : I.den → O.den) : Mean := ⟨own, fun ws ins => match decO I (ws, ins.map some) with
  | some x => match insOf (encBs I.bs x.2) with
    | some _ => some (ok x, encKs O.ws (g x).1, encBs O.bs (g x).2)
    | none => none
  | none => none⟩

theorem decKs_out {β : Bt} {K : Ks} {l : List Kn} {rs : List W} {x : denKs l} {v : Value} (h : decKs l rs = some x) (hv : OutR β K rs v) : OutR β K (encKs l x) v := by
  have hl := decKs_len h
  unfold OutR at hv ⊢
  match rs, encKs l x, hl, (fun vs => decKs_ok (β := β) (K := K) h (vs := vs)) with
  | [], [], _, _ => exact hv
  | [u], [u'], _, hk => exact (hk [v] ⟨hv, trivial⟩).1
  | u :: u2 :: us, y :: y2 :: ys, _, hk =>
    obtain ⟨arr, e, ha⟩ := hv
    exact ⟨arr, e, hk arr.toList ha⟩

section
variable {P : Program} {Γ : Env}

/-- The evaluation of a function over what it takes. -/
def callS (Γ : Env) (c : Code) (I O : Sg) (x : I.den) : Option O.den := match insOf (encBs I.bs x.2) with
  | some ins => callK Γ c (decO O) (encKs I.ws x.1) ins
  | none => none

theorem sg_ok (env : EnvOK P Γ) {f : Nat} {c : Code} (hf : FnIs P f Γ c) {own : Bool} {I O : Sg} {ok : I.den → Bool} {g : I.den → O.den} (h : ∀ x, ok x = true → callS Γ c I O x = some (g x)) : SemOK P (f, sgMean own I O ok g) := by
  refine ⟨?_, hf.ok⟩
  intro args ins rs outs hrun β0 K0 w0 vs hk hm hfr hv
  simp only [sgMean, decO] at hrun
  split at hrun
  case h_2 => cases hrun
  rename_i x hx
  split at hx
  case h_2 => cases hx
  rename_i x1 hx1
  split at hx
  case h_2 => cases hx
  rename_i x2 hx2
  cases hx
  split at hrun
  case h_2 => cases hrun
  rename_i ins' hins'
  simp only [Option.some.injEq, Prod.mk.injEq] at hrun
  obtain ⟨hok, rfl, rfl⟩ := hrun
  obtain ⟨hl1, hg1⟩ := decBs_ok hx2
  obtain ⟨hl2, hg2⟩ := insOf_get hins'
  rw [getO_some] at hg1
  rw [← hg2] at hg1
  have hlen : ins'.length = ins.length := by rw [hl2, hl1]; simp
  have he := h (x1, x2) hok
  simp only [callS, hins'] at he
  refine (callK_ok env hf he hk (hm.lax hg1) (fun k hk => hfr k (by omega)) (decKs_ok hx1 hv)).mono ?_
  rintro e w' ⟨v, β, K, rs', outs', rfl, hg, hR⟩
  simp only [decO] at hg
  split at hg
  case h_2 => cases hg
  rename_i y1 hy1
  split at hg
  case h_2 => cases hg
  rename_i y2 hy2
  obtain ⟨hl3, hg3⟩ := decBs_ok hy2
  have hl3' : (encBs O.bs (y1, y2).2).length = outs'.length := hl3
  have hgx : g (x1, x2) = (y1, y2) := by simpa using hg.symm
  rw [hgx]
  have hown : ∀ b, Own β0 (getL ins') b → Own β0 (getL ins) b := fun b hb => hb.lax hg1
  refine ⟨v, β, K, rfl, ⟨hR.kle, hR.kok, fun b arr e => ?_, hR.mr.lax hg3, fun k hk => hR.fresh k (by simp only at hk hl3'; omega), decKs_out hy1 hR.out, ⟨hR.fr.os, hR.fr.tape, hR.fr.output, hR.fr.size, fun b hb hn => hR.fr.block b hb fun hc => hn (hown b hc)⟩, fun x hx => ?_, hR.ble, ?_⟩⟩
  · rcases hR.knew b arr e with h1 | h1 | h1
    · exact .inl h1
    · exact .inr (.inl (hown b h1))
    · exact .inr (.inr h1)
  · rcases hR.own x (hx.lax hg3) with h1 | h1
    · exact .inl (hown x h1)
    · exact .inr h1
  · have := hR.le
    simp only at hl3' ⊢
    omega

theorem sg_opt (env : EnvOK P Γ) {f : Nat} {c : Code} (hf : FnIs P f Γ c) (own : Bool) {I O : Sg} {p : I.den → Option O.den} (h : ∀ x, callS Γ c I O x = p x) : SemOK P (f, sgMean own I O (fun x => (p x).isSome) (fun x => (p x).getD (zeroSg O))) :=
  sg_ok env hf fun x hx => by
    rw [h x]
    cases hp : p x with
    | none => rw [hp] at hx; cases hx
    | some r => rfl
end

end Go.Proofs.Ytmmdjajebmihhaa.AM
