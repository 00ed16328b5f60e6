/- The abstract machine: a region in the order of the text, and what its run shows of each operation. Conditions: those that each lemma names. -/
import Derived.Test.YtmmdjajebmihhaaB4
namespace Go.Proofs.Ytmmdjajebmihhaa.AM
open Go
set_option linter.unusedVariables false

/-! ## The run of a region, operation by operation -/

structure FS where
  T : Nat → V
  G : Get
  n : Nat

def St.fs (s : St) : FS := ⟨s.tmpV, s.get, s.n⟩

structure Res where
  v : V
  upd : List (Nat × Option Blk)
  run : Bool

def valT (T : Nat → V) : Operand → V
  | .tmp t => T t
  | .const v => constV v
  | .func f => .val (.one (.fn f []))
  | .global _ => pois

theorem val_fs (s : St) : s.val = valT s.fs.T := by
  funext x
  cases x <;> rfl

def putT (T : Nat → V) (d : Option Nat) (v : V) : Nat → V := fun t => if d = some t then v else T t

def gtmp (ops : Array Oper) (g : Nat) : Option Nat := (ops[g]?).bind (·.dst)

structure StepR (Γ : Env) (ops : Array Oper) (o : Oper) (F : FS) (E : Ent) (X : Res) (F' : FS) : Prop where
  T : F'.T = putT F.T o.dst X.v
  G : F'.G = getU X.upd F.G
  dst : dstOk Γ o.dst = true
  exec : X.run = true → (o.guard = none ∨ ∃ g want t, o.guard = some (g, want) ∧ gtmp ops g = some t ∧ F.T t = boolV want) ∧
    ∃ out, act Γ o (valT F.T) F.G F.n = some out ∧ out.ok = true ∧ X.v = out.v ∧ X.upd = out.upd ∧ F'.n = out.n ∧
      E = ⟨fpOp o (valT F.T) F.G, out.upd.map (·.1), kbOp o (valT F.T) F.G F.n out.n⟩
  skip : X.run = false → (∃ g want t, o.guard = some (g, want) ∧ gtmp ops g = some t ∧ (F.T t = boolV (!want) ∨ F.T t = .tup [])) ∧ X.v = .tup [] ∧ X.upd = [] ∧ F'.n = F.n ∧ E = ⟨[], [], true⟩

theorem putO_T (s : St) (d : Option Nat) (v : V) : (s.putO d v).fs.T = putT s.fs.T d v := by
  funext t
  cases d with
  | none => rfl
  | some e =>
    unfold putT
    show (s.put e v).tmpV t = _
    unfold St.tmpV St.put
    simp only [look]
    by_cases h : e = t
    · subst h; simp
    · rw [nbeq_ne h]
      simp [h]
      rfl

theorem putO_get (s : St) (d : Option Nat) (v : V) : (s.putO d v).fs.G = s.fs.G ∧ (s.putO d v).fs.n = s.fs.n ∧ (s.putO d v).m = s.m := by
  cases d <;> exact ⟨rfl, rfl, rfl⟩

theorem put_same (s : St) (t : Nat) (v : V) (h : s.tmpV t = v) : (s.put t v).fs = s.fs := by
  unfold St.fs
  have : (s.put t v).tmpV = s.tmpV := by
    funext j
    unfold St.tmpV St.put at *
    simp only [look]
    by_cases e : t = j
    · subst e; simp; exact h.symm
    · rw [nbeq_ne e]
  rw [this]
  rfl

theorem apply_G (s : St) (out : Out) : (s.apply out).fs.G = getU out.upd s.fs.G := by
  funext k
  show (s.apply out).get k = getU out.upd s.get k
  unfold St.apply St.get getU
  dsimp only
  rw [look_app]
  cases look out.upd k <;> rfl

section
variable {Γ : Env} {ops : Array Oper} {R : Type}

theorem runK_spec {o : Oper} {K : St → Ent → Option R} {s : St} {r : R} (h : runK Γ o K s = some r) :
    ∃ out, act Γ o (valT s.fs.T) s.fs.G s.fs.n = some out ∧ out.ok = true ∧ dstOk Γ o.dst = true ∧
      K ((s.apply out).putO o.dst out.v) ⟨fpOp o (valT s.fs.T) s.fs.G, out.upd.map (·.1), kbOp o (valT s.fs.T) s.fs.G s.fs.n out.n⟩ = some r := by
  unfold runK at h
  rw [val_fs] at h
  split at h
  · cases h
  · rename_i out ha
    split at h
    · rename_i hd
      split at h
      · rename_i hok
        exact ⟨out, ha, hok, hd, h⟩
      · cases h
    · cases h

theorem execK_spec {o : Oper} {K : St → Ent → Option R} {s : St} {r : R} (h : execK Γ o K s = some r) :
    ∃ (s1 : St) (out : Out), s1.fs = s.fs ∧ s1.m = s.m ∧ act Γ o (valT s.fs.T) s.fs.G s.fs.n = some out ∧ out.ok = true ∧ dstOk Γ o.dst = true ∧
      K ((s1.apply out).putO o.dst out.v) ⟨fpOp o (valT s.fs.T) s.fs.G, out.upd.map (·.1), kbOp o (valT s.fs.T) s.fs.G s.fs.n out.n⟩ = some r := by
  unfold execK at h
  split at h
  · split at h
    · rename_i b hb
      cases b with
      | true =>
        obtain ⟨out, h1, h2, h3, h4⟩ := runK_spec h
        have hs := put_same s _ (boolV true) hb
        rw [hs] at h1 h4
        exact ⟨_, out, hs, rfl, h1, h2, h3, h4⟩
      | false =>
        obtain ⟨out, h1, h2, h3, h4⟩ := runK_spec h
        have hs := put_same s _ (boolV false) hb
        rw [hs] at h1 h4
        exact ⟨_, out, hs, rfl, h1, h2, h3, h4⟩
    · cases h
  · obtain ⟨out, h1, h2, h3, h4⟩ := runK_spec h
    exact ⟨s, out, rfl, rfl, h1, h2, h3, h4⟩

theorem exec_step {o : Oper} {K : St → Ent → Option R} {s : St} {r : R} (hg : o.guard = none ∨ ∃ g want t, o.guard = some (g, want) ∧ gtmp ops g = some t ∧ s.fs.T t = boolV want) (h : execK Γ o K s = some r) :
    ∃ s' E X, StepR Γ ops o s.fs E X s'.fs ∧ s'.m = s.m ∧ K s' E = some r := by
  obtain ⟨s1, out, h0, hm, h1, h2, h3, h4⟩ := execK_spec h
  refine ⟨_, _, ⟨out.v, out.upd, true⟩, ⟨?_, ?_, h3, fun _ => ⟨hg, out, h1, h2, rfl, rfl, ?_, rfl⟩, (fun e => by cases e)⟩, ?_, h4⟩
  · rw [putO_T]
    show putT (s1.apply out).fs.T o.dst out.v = _
    rw [show (s1.apply out).fs.T = s1.fs.T from rfl, h0]
  · rw [(putO_get _ _ _).1, apply_G, h0]
  · rw [(putO_get _ _ _).2.1]; rfl
  · rw [(putO_get _ _ _).2.2]; exact hm

theorem skip_step {o : Oper} {K : St → Ent → Option R} {s : St} {r : R} (hg : ∃ g want t, o.guard = some (g, want) ∧ gtmp ops g = some t ∧ (s.fs.T t = boolV (!want) ∨ s.fs.T t = .tup [])) (h : skipK Γ o K s = some r) :
    ∃ s' E X, StepR Γ ops o s.fs E X s'.fs ∧ s'.m = s.m ∧ K s' E = some r := by
  unfold skipK at h
  split at h
  · rename_i hd
    refine ⟨_, _, ⟨.tup [], [], false⟩, ⟨putO_T s o.dst _, ?_, hd, (fun e => by cases e), fun _ => ⟨hg, rfl, rfl, (putO_get _ _ _).2.1, rfl⟩⟩, (putO_get _ _ _).2.2, h⟩
    rw [(putO_get _ _ _).1]
    rfl
  · cases h

theorem opsK_step {o : Oper} {L : List Oper} {s : St} {tr : List Ent} {K : St → List Ent → Option R} {r : R} (h : opsK Γ ops (o :: L) s tr K = some r) :
    ∃ s' E X, StepR Γ ops o s.fs E X s'.fs ∧ s'.m = s.m ∧ opsK Γ ops L s' (E :: tr) K = some r := by
  unfold opsK at h
  split at h
  · rename_i hg
    exact exec_step (.inl hg) h
  · rename_i g want hg
    split at h
    · cases h
    · rename_i t ht
      split at h
      · rename_i b hb
        have hT : s.fs.T t = boolV b := hb
        have key : ∀ {s1 : St} {K' : St → Ent → Option R}, s1.fs = s.fs → s1.m = s.m → ∀ c, b = c → (want = c → execK Γ o K' s1 = some r → ∃ s' E X, StepR Γ ops o s.fs E X s'.fs ∧ s'.m = s.m ∧ K' s' E = some r) ∧
            (want = !c → skipK Γ o K' s1 = some r → ∃ s' E X, StepR Γ ops o s.fs E X s'.fs ∧ s'.m = s.m ∧ K' s' E = some r) := by
          intro s1 K' h0 hm c hc
          subst hc
          refine ⟨fun hw hx => ?_, fun hw hx => ?_⟩
          · obtain ⟨s', E, X, h1, h2, h3⟩ := exec_step (ops := ops) (.inr ⟨g, want, t, hg, ht, by rw [h0, hw]; exact hT⟩) hx
            exact ⟨s', E, X, by rw [← h0]; exact h1, h2.trans hm, h3⟩
          · obtain ⟨s', E, X, h1, h2, h3⟩ := skip_step (ops := ops) ⟨g, want, t, hg, ht, .inl (by rw [h0, hw, Bool.not_not]; exact hT)⟩ hx
            exact ⟨s', E, X, by rw [← h0]; exact h1, h2.trans hm, h3⟩
        cases b with
        | true =>
          have e := put_same s t (boolV true) hT
          cases want with
          | true => exact (key e rfl true rfl).1 rfl h
          | false => exact (key e rfl true rfl).2 rfl h
        | false =>
          have e := put_same s t (boolV false) hT
          cases want with
          | true => exact (key e rfl false rfl).2 rfl h
          | false => exact (key e rfl false rfl).1 rfl h
      · rename_i hb
        exact skip_step ⟨g, want, t, hg, ht, .inr hb⟩ h
      · cases h

/-- A state, and those that follow it. -/
def ncons {α : Type} (x : α) (f : Nat → α) : Nat → α
  | 0 => x
  | i + 1 => f i

theorem opsK_run : ∀ (L : List Oper) {s : St} {tr : List Ent} {K : St → List Ent → Option R} {r : R}, opsK Γ ops L s tr K = some r →
    ∃ (F : Nat → FS) (E : Nat → Ent) (X : Nat → Res) (s' : St), F 0 = s.fs ∧ F L.length = s'.fs ∧ s'.m = s.m ∧ (∀ i o, L[i]? = some o → StepR Γ ops o (F i) (E i) (X i) (F (i + 1))) ∧
      K s' (((List.range L.length).map E).reverse ++ tr) = some r
  | [], s, tr, K, r, h => ⟨fun _ => s.fs, fun _ => ⟨[], [], true⟩, fun _ => ⟨.tup [], [], true⟩, s, rfl, rfl, rfl, fun i o e => by simp at e, by simpa [opsK] using h⟩
  | o :: L, s, tr, K, r, h => by
    obtain ⟨s1, E0, X0, h1, h2, h3⟩ := opsK_step h
    obtain ⟨F, E, X, s', f0, fl, fm, fs, fk⟩ := opsK_run L h3
    refine ⟨ncons s.fs F, ncons E0 E, ncons X0 X, s', rfl, fl, fm.trans h2, ?_, ?_⟩
    · intro i o' e
      cases i with
      | zero =>
        simp only [List.getElem?_cons_zero, Option.some.injEq] at e
        subst e
        show StepR Γ ops o s.fs E0 X0 (F 0)
        rw [f0]
        exact h1
      | succ i => exact fs i o' (by simpa using e)
    · rw [← fk]
      congr 1
      rw [List.length_cons, List.range_succ_eq_map, List.map_cons, List.map_map, List.reverse_cons, List.append_assoc]
      rfl

end

/-! ## The state of a call -/

structure Start where
  β : Bt
  K : Ks
  w : World
  m : Nat
  S : Nat → Prop

/-- A state of the call stands for a state of the model. -/
structure SRf (P : Program) (Γ : Env) (z : Start) (β : Bt) (K : Ks) (F : FS) (a : Act) (w : World) : Prop where
  tmp : ∀ t, VR β K (F.T t) (a.tmps.getD t undef)
  nt : a.tmps.size = Γ.nt
  defers : a.defers = []
  kok : KOK K w
  mr : MR β K F.G w
  fresh : ∀ k, F.n ≤ k → β k = none
  kle : KLe z.K K
  knew : ∀ b arr, K b = some arr → z.K b = some arr ∨ z.S b ∨ z.w.heap.size ≤ b
  fr : Fr z.S z.w w
  own : ∀ x, Own β F.G x → z.S x ∨ z.w.heap.size ≤ x
  ble : ∀ k h, k < z.m → z.β k = some h → β k = some h
  le : z.m ≤ F.n

theorem tmp_put {β β' : Bt} {K K' : Ks} {a : Act} {Γ : Env} {T : Nat → V} {d : Option Nat} {x : V} {v : Value} (h : ∀ t, VR β K (T t) (a.tmps.getD t undef)) (hb : BLe β β') (hk : KLe K K') (hn : a.tmps.size = Γ.nt) (hd : dstOk Γ d = true) (hv : VR β' K' x v) :
    (∀ t, VR β' K' (putT T d x t) ((a.put d v).tmps.getD t undef)) ∧ (a.put d v).tmps.size = Γ.nt ∧ (a.put d v).defers = a.defers := by
  cases d with
  | none => exact ⟨fun t => (h t).mono hb hk, hn, rfl⟩
  | some e =>
    have he : e < a.tmps.size := by rw [hn]; simpa [dstOk, Nat.blt_eq] using hd
    refine ⟨fun t => ?_, by simpa [Act.put] using hn, rfl⟩
    unfold putT
    by_cases ht : e = t
    · subst ht
      rw [if_pos rfl]
      have : (a.put (some e) v).tmps.getD e undef = v := by simp [Act.put, he]
      rw [this]
      exact hv
    · rw [if_neg (fun e' => ht (by cases e'; rfl))]
      have : (a.put (some e) v).tmps.getD t undef = a.tmps.getD t undef := by simp [Act.put, Array.getElem?_setIfInBounds_ne ht]
      rw [this]
      exact (h t).mono hb hk

theorem constC_ok {β : Bt} {K : Ks} (v : Value) : CR β K (constC v) v := by
  cases v with
  | bool b => rfl
  | int k n => rfl
  | float k b => exact ⟨b, rfl, FEq.refl k b⟩
  | complex k x y => exact ⟨x, y, rfl, FEq.refl k x, FEq.refl k y⟩
  | string s => rfl
  | _ => trivial

theorem constV_ok {β : Bt} {K : Ks} (v : Value) : VR β K (constV v) v := by
  have key : ∀ v, VR β K (.val (.one (constC v))) v := fun v => constC_ok v
  cases v with
  | agg cs =>
    refine ⟨cs, rfl, ?_⟩
    generalize cs.toList = l
    induction l with
    | nil => trivial
    | cons x r ih => exact ⟨constC_ok x, ih⟩
  | _ => simp only [constV]; exact key _

theorem eval_ok {β : Bt} {K : Ks} {T : Nat → V} {a : Act} (h : ∀ t, VR β K (T t) (a.tmps.getD t undef)) (x : Operand) : VR β K (valT T x) (a.eval x) := by
  cases x with
  | tmp t => exact h t
  | const v => exact constV_ok v
  | global g => exact pois_VR
  | func f => exact ⟨[], rfl, trivial⟩

end Go.Proofs.Ytmmdjajebmihhaa.AM
