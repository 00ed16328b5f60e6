/- The abstract machine: the shape of a state, and loops by what a round makes of the shape's values. Conditions: those that each lemma names. -/
import Derived.Test.YtmmdjajebmihhaaC2
namespace Go.Proofs.Ytmmdjajebmihhaa.AM
open Go
set_option linter.unusedVariables false

/-! ## An evaluation takes one road -/

section
variable {Γ : Env}

theorem runK_nat (o : Oper) (s : St) : (∀ (R : Type) (K : St → Ent → Option R), runK Γ o K s = none) ∨ ∃ s' e, ∀ (R : Type) (K : St → Ent → Option R), runK Γ o K s = K s' e := by
  cases h : act Γ o s.val s.get s.n with
  | none => left; intro R K; simp only [runK, h]
  | some out =>
    cases h1 : dstOk Γ o.dst with
    | false => left; intro R K; simp only [runK, h, h1]
    | true =>
      cases h2 : out.ok with
      | false => left; intro R K; simp only [runK, h, h1, h2]
      | true => right; exact ⟨_, _, fun R K => by simp only [runK, h, h1, h2]; rfl⟩

theorem execK_nat (o : Oper) (s : St) : (∀ (R : Type) (K : St → Ent → Option R), execK Γ o K s = none) ∨ ∃ s' e, ∀ (R : Type) (K : St → Ent → Option R), execK Γ o K s = K s' e := by
  unfold execK
  split
  · split
    · rename_i b _
      cases b with
      | true => exact runK_nat o _
      | false => exact runK_nat o _
    · exact .inl fun _ _ => rfl
  · exact runK_nat o s

theorem skipK_nat (o : Oper) (s : St) : (∀ (R : Type) (K : St → Ent → Option R), skipK Γ o K s = none) ∨ ∃ s' e, ∀ (R : Type) (K : St → Ent → Option R), skipK Γ o K s = K s' e := by
  unfold skipK
  cases dstOk Γ o.dst with
  | true => exact .inr ⟨_, _, fun _ _ => rfl⟩
  | false => exact .inl fun _ _ => rfl

theorem opsK_nat (ops : Array Oper) : ∀ (L : List Oper) (s : St) (tr : List Ent), (∀ (R : Type) (K : St → List Ent → Option R), opsK Γ ops L s tr K = none) ∨ ∃ s' tr', ∀ (R : Type) (K : St → List Ent → Option R), opsK Γ ops L s tr K = K s' tr'
  | [], s, tr => .inr ⟨s, tr, fun _ _ => rfl⟩
  | o :: L, s, tr => by
    have next : ∀ (X : ∀ (R : Type), (St → Ent → Option R) → Option R), ((∀ R K, X R K = none) ∨ ∃ s' e, ∀ R K, X R K = K s' e) →
        (∀ (R : Type) (K : St → List Ent → Option R), X R (fun s' e => opsK Γ ops L s' (e :: tr) K) = none) ∨ ∃ s' tr', ∀ (R : Type) (K : St → List Ent → Option R), X R (fun s' e => opsK Γ ops L s' (e :: tr) K) = K s' tr' := by
      intro X hX
      rcases hX with h | ⟨s', e, h⟩
      · exact .inl fun R K => h R _
      · rcases opsK_nat ops L s' (e :: tr) with h2 | ⟨s2, t2, h2⟩
        · exact .inl fun R K => by rw [h]; exact h2 R K
        · exact .inr ⟨s2, t2, fun R K => by rw [h]; exact h2 R K⟩
    unfold opsK
    split
    · exact next (fun R K => execK Γ o K s) (execK_nat o s)
    · split
      · exact .inl fun _ _ => rfl
      · rename_i g want hg _ t ht
        split
        · rename_i b _
          cases b <;> cases want
          · exact next (fun R K => execK Γ o K (s.put t (boolV false))) (execK_nat o _)
          · exact next (fun R K => skipK Γ o K (s.put t (boolV false))) (skipK_nat o _)
          · exact next (fun R K => skipK Γ o K (s.put t (boolV true))) (skipK_nat o _)
          · exact next (fun R K => execK Γ o K (s.put t (boolV true))) (execK_nat o _)
        · exact next (fun R K => skipK Γ o K s) (skipK_nat o s)
        · exact .inl fun _ _ => rfl

def Road (X : ∀ (R : Type), (Ex → St → Option R) → Option R) : Prop := (∀ R K, X R K = none) ∨ ∃ e s', ∀ R K, X R K = K e s'

theorem Road.bind {X : ∀ (R : Type), (Ex → St → Option R) → Option R} (h : Road X) {T : ∀ (R : Type), (Ex → St → Option R) → Ex → St → Option R} (hT : ∀ e s, Road fun R K => T R K e s) : Road fun R K => X R (T R K) := by
  rcases h with h | ⟨e, s, h⟩
  · exact .inl fun R K => h R _
  · rcases hT e s with h2 | ⟨e', s', h2⟩
    · exact .inl fun R K => (h R _).trans (h2 R K)
    · exact .inr ⟨e', s', fun R K => (h R _).trans (h2 R K)⟩

theorem Road.pure (e : Ex) (s : St) : Road fun R K => K e s := .inr ⟨e, s, fun _ _ => rfl⟩
theorem Road.none : Road fun R K => (Option.none : Option R) := .inl fun _ _ => rfl

theorem joinK_road (cut : Option (List Nat × List Cv)) (e : Ex) (s : St) : Road fun R K => joinK cut K e s := by
  cases e with
  | normal =>
    cases cut with
    | none => exact Road.pure .normal s
    | some c =>
      cases h : canon c.1 c.2 s with
      | none => exact .inl fun R K => by simp only [joinK, h]
      | some s' => exact .inr ⟨.normal, s', fun R K => by simp only [joinK, h]⟩
  | exit i => exact Road.pure (.exit i) s
  | ret => exact Road.pure .ret s

theorem blockK_road (id : Nat) (cut : Option (List Nat × List Cv)) (e : Ex) (s : St) : Road fun R K => blockK id cut K e s := by
  cases e with
  | normal => exact joinK_road cut .normal s
  | exit i =>
    cases h : Nat.beq i id with
    | true =>
      have := joinK_road cut .normal s
      unfold Road at this ⊢
      simp only [blockK, h]
      exact this
    | false => exact .inr ⟨.exit i, s, fun R K => by simp only [blockK, h]⟩
  | ret => exact Road.pure .ret s

theorem EBk_road : ∀ (c : Code) (s : St), Road fun R K => EBk (R := R) Γ c K s := by
  intro c
  induction c with
  | skip => exact fun s => Road.pure .normal s
  | label l => exact fun s => Road.pure .normal s
  | exit id => exact fun s => Road.pure (.exit id) s
  | ret =>
    intro s
    cases h : canon (Γ.res.map resT) Γ.rown s with
    | none => exact .inl fun R K => by simp only [EBk, h]
    | some s' => exact .inr ⟨.ret, s', fun R K => by simp only [EBk, h]⟩
  | seq x y ihx ihy =>
    intro s
    refine Road.bind (ihx s) (T := fun R K e s' => match e with | .normal => EBk Γ y K s' | e => K e s') fun e s' => ?_
    cases e with
    | normal => exact ihy s'
    | exit i => exact Road.pure (.exit i) s'
    | ret => exact Road.pure .ret s'
  | cond c x y ihx ihy =>
    intro s
    show Road fun R K => (match s.val c with
      | .val (.one (.bool b)) => match b with
        | true => EBk Γ x (joinK (look Γ.cut (condT c)) K) (s.putC c true)
        | false => EBk Γ y (joinK (look Γ.cut (condT c)) K) (s.putC c false)
      | _ => Option.none : Option R)
    split
    · rename_i b _
      cases b with
      | true => exact Road.bind (ihx _) (T := fun R K => joinK (look Γ.cut (condT c)) K) fun e s' => joinK_road _ e s'
      | false => exact Road.bind (ihy _) (T := fun R K => joinK (look Γ.cut (condT c)) K) fun e s' => joinK_road _ e s'
    · exact Road.none
  | block id x ih =>
    intro s
    exact Road.bind (ih s) (T := fun R K => blockK id (look Γ.past id) K) fun e s' => blockK_road _ _ e s'
  | loop x ih =>
    intro s
    cases h : look Γ.loops (firstRegion x) with
    | none => exact .inl fun R K => by simp only [EBk, h]
    | some L =>
      cases h1 : canon L.live L.own s with
      | none => exact .inl fun R K => by simp only [EBk, h, runL, h1]
      | some s0 =>
        cases h2 : L.run s0 with
        | none => exact .inl fun R K => by simp only [EBk, h, runL, h1, h2]
        | some p =>
          obtain ⟨ok, b, s1, s2⟩ := p
          cases ok with
          | false => exact .inl fun R K => by simp only [EBk, h, runL, h1, h2]
          | true => cases b with
            | true => exact .inr ⟨.ret, s2, fun R K => by simp only [EBk, h, runL, h1, h2]⟩
            | false => exact .inr ⟨.exit L.ex, s1, fun R K => by simp only [EBk, h, runL, h1, h2]⟩
  | region id ops d =>
    intro s
    rcases opsK_nat (Γ := Γ) ops ops.toList s [] with h | ⟨s', tr, h⟩
    · exact .inl fun R K => by simp only [EBk]; exact h R _
    · cases d with
      | false => exact .inr ⟨.normal, s', fun R K => by simp only [EBk]; exact h R _⟩
      | true =>
        cases hd : drawOk ops tr with
        | true => exact .inr ⟨.normal, s', fun R K => by simp only [EBk]; rw [h R _, hd]⟩
        | false => exact .inl fun R K => by simp only [EBk]; rw [h R _, hd]
  | _ => exact fun s => .inl fun R K => by simp only [EBk]
end

/-! ## Shapes -/

inductive ShC where
  | bool
  | int (k : IntKind)
  | flt (k : FloatKind)
  | cpx (k : FloatKind)
  | str
  | sl (t : Ty)
  | pois
  | nil (t : Ty)
  | ref (t : Ty) (k : Nat)
  | ptr (k o : Nat)
  | fn (f : Nat) (caps : List Nat)

@[reducible] def ShC.den : ShC → Type
  | .bool => Bool
  | .int _ => Int
  | .flt _ => Nat
  | .cpx _ => Nat × Nat
  | .str => ByteArray
  | .sl t => List (Den t)
  | _ => Unit

def mkC : (c : ShC) → c.den → C
  | .bool, b => .bool b
  | .int k, n => .int k n
  | .flt k, b => .flt k b
  | .cpx k, p => .cpx k p.1 p.2
  | .str, s => .str s
  | .sl t, l => .sl t l
  | .pois, _ => .pois
  | .nil t, _ => .nil t
  | .ref t k, _ => .ref t k
  | .ptr k o, _ => .ptr k o
  | .fn f caps, _ => .fn f caps

def sameT (t t' : Ty) : Bool := match same t t' with
  | some _ => true
  | none => false

theorem sameT_eq {t t' : Ty} (h : sameT t t' = true) : t = t' := by
  unfold sameT at h
  split at h
  · rename_i h' _; exact h'.down
  · cases h

def eqL : List Nat → List Nat → Bool
  | [], [] => true
  | x :: r, y :: q => Nat.beq x y && eqL r q
  | _, _ => false

theorem eqL_eq : ∀ {l r : List Nat}, eqL l r = true → l = r
  | [], [], _ => rfl
  | x :: r, y :: q, h => by
    simp only [eqL, Bool.and_eq_true] at h
    rw [nbeq_eq h.1, eqL_eq h.2]
  | [], _ :: _, h => by cases h
  | _ :: _, [], h => by cases h

def getC : (c : ShC) → C → Option c.den
  | .bool, .bool b => some b
  | .int k, .int k' n => match kindEq k k' with | true => some n | false => none
  | .flt k, .flt k' b => match fkindEq k k' with | true => some b | false => none
  | .cpx k, .cpx k' a b => match fkindEq k k' with | true => some (a, b) | false => none
  | .str, .str s => some s
  | .sl t, .sl t' l => match same t' t with
    | some ⟨h⟩ => some (h ▸ l)
    | none => none
  | .pois, .pois => some ()
  | .nil t, .nil t' => match sameT t t' with | true => some () | false => none
  | .ref t k, .ref t' k' => match sameT t t' && Nat.beq k k' with | true => some () | false => none
  | .ptr k o, .ptr k' o' => match Nat.beq k k' && Nat.beq o o' with | true => some () | false => none
  | .fn f caps, .fn f' caps' => match Nat.beq f f' && eqL caps caps' with | true => some () | false => none
  | _, _ => none

theorem getC_ok {c : ShC} {x : C} {v : c.den} (h : getC c x = some v) : x = mkC c v := by
  cases c <;> cases x <;> simp only [getC] at h <;> first | cases h; done | skip
  · cases h; rfl
  · split at h
    · rename_i hk; have := of_decide_eq_true hk; cases h; subst this; rfl
    · cases h
  · split at h
    · rename_i hk; have := of_decide_eq_true hk; cases h; subst this; rfl
    · cases h
  · split at h
    · rename_i hk; have := of_decide_eq_true hk; cases h; subst this; rfl
    · cases h
  · cases h; rfl
  · split at h
    · rename_i e _; subst e; cases h; rfl
    · cases h
  · rfl
  · split at h
    · rename_i hk; rw [← sameT_eq hk]; rfl
    · cases h
  · split at h
    · rename_i hk; simp only [Bool.and_eq_true] at hk; rw [← sameT_eq hk.1, ← nbeq_eq hk.2]; rfl
    · cases h
  · split at h
    · rename_i hk; simp only [Bool.and_eq_true] at hk; rw [← nbeq_eq hk.1, ← nbeq_eq hk.2]; rfl
    · cases h
  · split at h
    · rename_i hk; simp only [Bool.and_eq_true] at hk; rw [← nbeq_eq hk.1, ← eqL_eq hk.2]; rfl
    · cases h

@[reducible] def denL : List ShC → Type
  | [] => Unit
  | c :: r => c.den × denL r
def mkL : (l : List ShC) → denL l → List C
  | [], _ => []
  | c :: r, p => mkC c p.1 :: mkL r p.2
def getL' : (l : List ShC) → List C → Option (denL l)
  | [], [] => some ()
  | c :: r, x :: xs => match getC c x with
    | some v => match getL' r xs with
      | some w => some (v, w)
      | none => none
    | none => none
  | _, _ => none
theorem getL'_ok : ∀ {l : List ShC} {xs : List C} {v : denL l}, getL' l xs = some v → xs = mkL l v
  | [], [], _, _ => rfl
  | c :: r, x :: xs, v, h => by
    simp only [getL'] at h
    split at h
    · rename_i a ha
      split at h
      · rename_i b hb
        cases h
        rw [getC_ok ha, getL'_ok hb]
        rfl
      · cases h
    · cases h
  | [], _ :: _, _, h => by simp [getL'] at h
  | _ :: _, [], _, h => by simp [getL'] at h

inductive ShV where
  | one (c : ShC)
  | agg (cs : List ShC)
  | tup
@[reducible] def ShV.den : ShV → Type
  | .one c => c.den
  | .agg cs => denL cs
  | .tup => Unit
def mkV : (s : ShV) → s.den → V
  | .one c, v => .val (.one (mkC c v))
  | .agg cs, v => .val (.agg (mkL cs v))
  | .tup, _ => .tup []
def getV : (s : ShV) → V → Option s.den
  | .one c, .val (.one x) => getC c x
  | .agg cs, .val (.agg xs) => getL' cs xs
  | .tup, .tup [] => some ()
  | _, _ => none
theorem getV_ok {s : ShV} {x : V} {v : s.den} (h : getV s x = some v) : x = mkV s v := by
  unfold getV at h
  split at h
  · rw [getC_ok h]; rfl
  · rw [getL'_ok h]; rfl
  · rfl
  · cases h

inductive ShB where
  | box (cs : List ShC)
  | arr (t : Ty)
  | gone
@[reducible] def ShB.den : ShB → Type
  | .box cs => denL cs
  | .arr t => List (Den t)
  | .gone => Unit
def mkB : (s : ShB) → s.den → Option Blk
  | .box cs, v => some (.box (mkL cs v))
  | .arr t, l => some (.arr t l)
  | .gone, _ => none
def getB : (s : ShB) → Option Blk → Option s.den
  | .box cs, some (.box xs) => getL' cs xs
  | .arr t, some (.arr t' l) => match same t' t with
    | some ⟨h⟩ => some (h ▸ l)
    | none => none
  | .gone, none => some ()
  | _, _ => none
theorem getB_ok {s : ShB} {x : Option Blk} {v : s.den} (h : getB s x = some v) : x = mkB s v := by
  unfold getB at h
  split at h
  · rw [getL'_ok h]; rfl
  · split at h
    · rename_i e _; subst e; cases h; rfl
    · cases h
  · rfl
  · cases h

@[reducible] def denT : List (Nat × ShV) → Type
  | [] => Unit
  | p :: r => p.2.den × denT r
def mkT : (l : List (Nat × ShV)) → denT l → List (Nat × V)
  | [], _ => []
  | p :: r, v => (p.1, mkV p.2 v.1) :: mkT r v.2
def getT : (l : List (Nat × ShV)) → List (Nat × V) → Option (denT l)
  | [], [] => some ()
  | p :: r, x :: xs => match Nat.beq p.1 x.1 with
    | true => match getV p.2 x.2 with
      | some v => match getT r xs with
        | some w => some (v, w)
        | none => none
      | none => none
    | false => none
  | _, _ => none
theorem getT_ok : ∀ {l : List (Nat × ShV)} {xs : List (Nat × V)} {v : denT l}, getT l xs = some v → xs = mkT l v
  | [], [], _, _ => rfl
  | p :: r, (k, x) :: xs, v, h => by
    simp only [getT] at h
    split at h
    · rename_i hk
      split at h
      · rename_i a ha
        split at h
        · rename_i b hb
          cases h
          rw [getV_ok ha, getT_ok hb, ← nbeq_eq hk]
          rfl
        · cases h
      · cases h
    · cases h
  | [], _ :: _, _, h => by simp [getT] at h
  | _ :: _, [], _, h => by simp [getT] at h

@[reducible] def denM : List (Nat × ShB) → Type
  | [] => Unit
  | p :: r => p.2.den × denM r
def mkM : (l : List (Nat × ShB)) → denM l → List (Nat × Option Blk)
  | [], _ => []
  | p :: r, v => (p.1, mkB p.2 v.1) :: mkM r v.2
def getM : (l : List (Nat × ShB)) → List (Nat × Option Blk) → Option (denM l)
  | [], [] => some ()
  | p :: r, x :: xs => match Nat.beq p.1 x.1 with
    | true => match getB p.2 x.2 with
      | some v => match getM r xs with
        | some w => some (v, w)
        | none => none
      | none => none
    | false => none
  | _, _ => none
theorem getM_ok : ∀ {l : List (Nat × ShB)} {xs : List (Nat × Option Blk)} {v : denM l}, getM l xs = some v → xs = mkM l v
  | [], [], _, _ => rfl
  | p :: r, (k, x) :: xs, v, h => by
    simp only [getM] at h
    split at h
    · rename_i hk
      split at h
      · rename_i a ha
        split at h
        · rename_i b hb
          cases h
          rw [getB_ok ha, getM_ok hb, ← nbeq_eq hk]
          rfl
        · cases h
      · cases h
    · cases h
  | [], _ :: _, _, h => by simp [getM] at h
  | _ :: _, [], _, h => by simp [getM] at h

structure ShS where
  tmps : List (Nat × ShV)
  mem : List (Nat × ShB)
  n : Nat
  m : Nat
@[reducible] def ShS.den (s : ShS) : Type := denT s.tmps × denM s.mem
def mkS (s : ShS) (v : s.den) : St := ⟨mkT s.tmps v.1, mkM s.mem v.2, s.n, s.m⟩
def getS (sh : ShS) (s : St) : Option sh.den := match Nat.beq sh.n s.n && Nat.beq sh.m s.m with
  | true => match getT sh.tmps s.tmps with
    | some v => match getM sh.mem s.mem with
      | some w => some (v, w)
      | none => none
    | none => none
  | false => none
theorem getS_ok {sh : ShS} {s : St} {v : sh.den} (h : getS sh s = some v) : s = mkS sh v := by
  obtain ⟨tmps, mem, n, m⟩ := s
  simp only [getS] at h
  split at h
  · rename_i hk
    simp only [Bool.and_eq_true] at hk
    split at h
    · rename_i a ha
      split at h
      · rename_i b hb
        cases h
        rw [getT_ok ha, getM_ok hb, ← nbeq_eq hk.1, ← nbeq_eq hk.2]
        rfl
      · cases h
    · cases h
  · cases h

/-! ## Loops -/

def atS {R : Type} (sh : ShS) (f : sh.den → Option R) (s : St) : Option R := match getS sh s with
  | some v => f v
  | none => none

def endS (shX shR : ShS) (e : Ex) (s : St) : Option (shX.den ⊕ shR.den) := match e with
  | .normal => none
  | .exit _ => atS shX (fun v => some (.inl v)) s
  | .ret => atS shR (fun v => some (.inr v)) s

def endX (shX : ShS) (e : Ex) (s : St) : Option shX.den := match e with
  | .exit _ => atS shX some s
  | _ => none

def iter {V X : Type} (g : (V → Option X) → V → Option X) : Nat → V → Option X
  | 0, _ => none
  | n + 1, v => g (iter g n) v

/-- A loop that may return. -/
def loopR (live : List Nat) (own : List Cv) (ex : Nat) (past : List Nat) (pown : List Cv) (sh shX shR : ShS) (k t : sh.den → Bool) (x : sh.den → shX.den) (y : sh.den → shR.den) : LoopM :=
  ⟨live, own, ex, past, pown, fun s => match getS sh s with
    | some v => some (k v, t v, mkS shX (x v), mkS shR (y v))
    | none => none⟩

/-- A loop that does not. -/
def loopX (live : List Nat) (own : List Cv) (ex : Nat) (past : List Nat) (pown : List Cv) (sh shX : ShS) (k : sh.den → Bool) (x : sh.den → shX.den) : LoopM :=
  ⟨live, own, ex, past, pown, fun s => match getS sh s with
    | some v => some (k v, false, mkS shX (x v), s)
    | none => none⟩

def isR {X Y : Type} : Option (X ⊕ Y) → Bool
  | some (.inr _) => true
  | _ => false
def xOf {X Y : Type} (d : X) : Option (X ⊕ Y) → X
  | some (.inl x) => x
  | _ => d
def yOf {X Y : Type} (d : Y) : Option (X ⊕ Y) → Y
  | some (.inr y) => y
  | _ => d

theorem loopR_sound {Γ : Env} {c : Code} {live : List Nat} {own : List Cv} {ex : Nat} {past : List Nat} {pown : List Cv} {sh shX shR : ShS} {g : (sh.den → Option (shX.den ⊕ shR.den)) → sh.den → Option (shX.den ⊕ shR.den)}
    (h : ∀ f v, EBk Γ c (roundK live own ex past pown (atS sh f) (endS shX shR)) (mkS sh v) = g f v) (bd : sh.den → Nat) (dx : shX.den) (dr : shR.den) :
    LoopSound Γ c (loopR live own ex past pown sh shX shR (fun v => (iter g (bd v) v).isSome) (fun v => isR (iter g (bd v) v)) (fun v => xOf dx (iter g (bd v) v)) (fun v => yOf dr (iter g (bd v) v))) := by
  intro s0 b s1 s2 hrun R K
  generalize hL : loopR live own ex past pown sh shX shR _ _ _ _ = L at hrun
  have hl : L.live = live ∧ L.own = own ∧ L.ex = ex ∧ L.past = past ∧ L.pown = pown := by subst hL; exact ⟨rfl, rfl, rfl, rfl, rfl⟩
  have main : ∀ n v y, iter g n v = some y → loopK Γ c L K n (mkS sh v) = (match y with | .inl x => K (.exit ex) (mkS shX x) | .inr x => K .ret (mkS shR x)) := by
    intro n
    induction n with
    | zero => intro v y hy; cases hy
    | succ n ih =>
      intro v y hy
      simp only [iter] at hy
      rw [← h] at hy
      simp only [loopK, hl.1, hl.2.1, hl.2.2.1, hl.2.2.2.1, hl.2.2.2.2]
      rcases EBk_road (Γ := Γ) c (mkS sh v) with hn | ⟨e, s', hr⟩
      · dsimp only at hn; rw [hn] at hy; cases hy
      · dsimp only at hr
        rw [hr] at hy ⊢
        cases e with
        | normal =>
          simp only [roundK] at hy ⊢
          split at hy
          · rename_i s'' hc
            unfold atS at hy
            split at hy
            · rename_i v' hv'
              rw [getS_ok hv']
              exact ih v' y hy
            · cases hy
          · cases hy
        | exit i =>
          simp only [roundK, endK] at hy ⊢
          split at hy
          · rename_i hb
            split at hy
            · rename_i s'' hc
              simp only [endS, atS] at hy
              split at hy
              · rename_i v' hv'
                cases hy
                rw [getS_ok hv', nbeq_eq hb]
              · cases hy
            · cases hy
          · cases hy
        | ret =>
          simp only [roundK, endK, endS, atS] at hy ⊢
          split at hy
          · rename_i v' hv'
            cases hy
            rw [getS_ok hv']
          · cases hy
  subst hL
  simp only [loopR] at hrun
  split at hrun
  · rename_i v hv
    simp only [Option.some.injEq, Prod.mk.injEq] at hrun
    obtain ⟨h1, h2, h3, h4⟩ := hrun
    cases hi : iter g (bd v) v with
    | none => rw [hi] at h1; cases h1
    | some y =>
      have hm := main (bd v) v y hi
      rw [hi] at h2 h3 h4
      refine ⟨bd v, ?_⟩
      rw [getS_ok hv]
      refine hm.trans ?_
      cases y with
      | inl x => subst h2; subst h3; rfl
      | inr x => subst h2; subst h4; rfl
  · cases hrun

theorem loopX_sound {Γ : Env} {c : Code} {live : List Nat} {own : List Cv} {ex : Nat} {past : List Nat} {pown : List Cv} {sh shX : ShS} {g : (sh.den → Option shX.den) → sh.den → Option shX.den}
    (h : ∀ f v, EBk Γ c (roundK live own ex past pown (atS sh f) (endX shX)) (mkS sh v) = g f v) (bd : sh.den → Nat) (dx : shX.den) :
    LoopSound Γ c (loopX live own ex past pown sh shX (fun v => (iter g (bd v) v).isSome) (fun v => (iter g (bd v) v).getD dx)) := by
  intro s0 b s1 s2 hrun R K
  generalize hL : loopX live own ex past pown sh shX _ _ = L at hrun
  have hl : L.live = live ∧ L.own = own ∧ L.ex = ex ∧ L.past = past ∧ L.pown = pown := by subst hL; exact ⟨rfl, rfl, rfl, rfl, rfl⟩
  have main : ∀ n v y, iter g n v = some y → loopK Γ c L K n (mkS sh v) = K (.exit ex) (mkS shX y) := by
    intro n
    induction n with
    | zero => intro v y hy; cases hy
    | succ n ih =>
      intro v y hy
      simp only [iter] at hy
      rw [← h] at hy
      simp only [loopK, hl.1, hl.2.1, hl.2.2.1, hl.2.2.2.1, hl.2.2.2.2]
      rcases EBk_road (Γ := Γ) c (mkS sh v) with hn | ⟨e, s', hr⟩
      · dsimp only at hn; rw [hn] at hy; cases hy
      · dsimp only at hr
        rw [hr] at hy ⊢
        cases e with
        | normal =>
          simp only [roundK] at hy ⊢
          split at hy
          · rename_i s'' hc
            unfold atS at hy
            split at hy
            · rename_i v' hv'
              rw [getS_ok hv']
              exact ih v' y hy
            · cases hy
          · cases hy
        | exit i =>
          simp only [roundK, endK] at hy ⊢
          split at hy
          · rename_i hb
            split at hy
            · rename_i s'' hc
              simp only [endX, atS] at hy
              split at hy
              · rename_i v' hv'
                cases hy
                rw [getS_ok hv', nbeq_eq hb]
              · cases hy
            · cases hy
          · cases hy
        | ret => simp only [roundK, endK, endX] at hy; cases hy
  subst hL
  simp only [loopX] at hrun
  split at hrun
  · rename_i v hv
    simp only [Option.some.injEq, Prod.mk.injEq] at hrun
    obtain ⟨h1, h2, h3, h4⟩ := hrun
    cases hi : iter g (bd v) v with
    | none => rw [hi] at h1; cases h1
    | some y =>
      have hm := main (bd v) v y hi
      rw [hi] at h3
      refine ⟨bd v, ?_⟩
      rw [getS_ok hv]
      refine hm.trans ?_
      subst h2; subst h3; rfl
  · cases hrun

theorem loops_ok {Γ : Env} {c : Code} {l : List Code} (h : loopsOf c = l) (ha : AllP (fun c' => ∀ L, look Γ.loops (firstRegion c') = some L → LoopSound Γ c' L) l) : LoopsOK Γ c :=
  fun c' hc => ha.mem c' (by rw [← h]; exact hc)

theorem one_loop {Γ : Env} {c : Code} {L0 : LoopM} (hl : look Γ.loops (firstRegion c) = some L0) (hs : LoopSound Γ c L0) : ∀ L, look Γ.loops (firstRegion c) = some L → LoopSound Γ c L := by
  intro L h
  rw [hl] at h
  cases h
  exact hs

end Go.Proofs.Ytmmdjajebmihhaa.AM
