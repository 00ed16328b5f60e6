/- The abstract machine: each operation that it does, the model does alike (values, variables, elements). Conditions: those that each lemma names. -/
import Derived.Test.YtmmdjajebmihhaaA2
import Derived.Laws.MakeOwn
import Derived.Laws.OwnMore
import Derived.Laws.StructEq
import Derived.Laws.FloatArith
import Derived.Laws.FloatBits
import Derived.Laws.ComplexArith
import Derived.WalkLawsBesides
import Derived.WalkSpells
namespace Go.Proofs.Ytmmdjajebmihhaa.AM
open Go
set_option linter.unusedVariables false

/-! ## What is asked of a table -/

def aggD : TypeDesc → Bool
  | .struct _ | .array _ _ => true
  | _ => false

def FieldsOk (P : Program) (fs : Array Field) (l : List (Nat × Nat × Bool)) : Prop :=
  All2 (fun (f : Field) (x : Nat × Nat × Bool) => f.offset = x.1 ∧ ∃ fi fd, P.info? f.type = some fi ∧ fi.size = x.2.1 ∧ P.underlying f.type = some fd ∧ aggD fd = x.2.2) fs.toList l

def SrtOk (P : Program) (d : TypeDesc) (ti : TI) : Prop := match ti.sort with
  | .slice => d = .slice ti.elem
  | .array n => d = .array n ti.elem
  | .string => d = .string
  | .struct => ∃ fs, d = .struct fs ∧ FieldsOk P fs ti.fields
  | .bool => d = .bool
  | .int k => d = .int k
  | .float k => d = .float k
  | .complex k => d = .complex k
  | .other => True

def ZR (c : C) (v : Value) : Prop := ∀ β K, CR β K c v

structure TIok (P : Program) (t : Nat) (ti : TI) : Prop where
  ex : ∃ i d z, P.info? t = some i ∧ P.underlying t = some d ∧ i.zero = some z ∧ i.size = ti.size ∧ i.bytes = ti.bytes ∧ aggD d = ti.agg ∧
    All2 ZR ti.zero z.cells.toList ∧ SrtOk P d ti ∧ (ti.ty.size = ti.size → ∀ K, DR K ti.ty (zero ti.ty) z.cells.toList) ∧ z.cells.size = i.size

/-- What two structs of one type make of '=='. -/
structure EqOK (P : Program) (t : Nat) : Prop where
  guard : P.eqGuardType P.depth t = false
  eq : ∀ (cs ds : List C) (xs ys : Array Value) (b : Bool) (β : Bt) (K : Ks) (w : World), (∀ i, P.info? t = some i → cs.length = i.size) → aggEq cs ds = some b → All2 (CR β K) cs xs.toList → All2 (CR β K) ds ys.toList →
    (Op.equalIn 10000 t (.agg xs) (.agg ys)).run P w = .ok b w

def OutR (β : Bt) (K : Ks) (ws : List W) (v : Value) : Prop := VR β K (outV ws) v

def getL (ins : List Blk) : Get := fun k => ins[k]?

/-- What a call leaves. -/
structure Ret (ins : List Blk) (outs : List (Option Blk)) (rs : List W) (β0 : Bt) (K0 : Ks) (w0 : World) (v : Value) (w' : World) (β : Bt) (K : Ks) : Prop where
  kle : KLe K0 K
  kok : KOK K w'
  knew : ∀ b arr, K b = some arr → K0 b = some arr ∨ Own β0 (getL ins) b ∨ w0.heap.size ≤ b
  mr : MR β K (getO outs) w'
  fresh : ∀ k, outs.length ≤ k → β k = none
  out : OutR β K rs v
  fr : Fr (Own β0 (getL ins)) w0 w'
  own : ∀ x, Own β (getO outs) x → Own β0 (getL ins) x ∨ w0.heap.size ≤ x
  ble : BLe β0 β
  le : ins.length ≤ outs.length

/-- A meaning is that of the function f. -/
def MeanOK (P : Program) (f : Nat) (sm : Mean) : Prop :=
  ∀ (args : List W) (ins : List Blk) (rs : List W) (outs : List (Option Blk)), sm.run args ins = some (true, rs, outs) →
  ∀ (β0 : Bt) (K0 : Ks) (w0 : World) (vs : Array Value), KOK K0 w0 → MR β0 K0 (getL ins) w0 → (∀ k, ins.length ≤ k → β0 k = none) → All2 (WR β0 K0) args vs.toList →
  Calls P f vs w0 fun e w' => ∃ v β K, e = .returned v ∧ Ret ins outs rs β0 K0 w0 v w' β K

structure FnOK (P : Program) (f : Nat) : Prop where
  body : ∃ fn, P.funcs[f]? = some fn ∧ fn.body.isSome = true ∧ (fn.name == "runtime.NumGoroutine") = false

structure EnvOK (P : Program) (Γ : Env) : Prop where
  tab : ∀ t ti, Γ.tab t = some ti → TIok P t ti
  sem : ∀ f sm, Γ.sem f = some sm → MeanOK P f sm ∧ FnOK P f
  eq : ∀ t, Γ.eqT t = true → EqOK P t
  mixed : P.follows .mixedOrders = true

/-! ## What an operation leaves -/

def getU (upd : List (Nat × Option Blk)) (get : Get) : Get := fun k => match look upd k with
  | some b => b
  | none => get k

structure Post (β : Bt) (K : Ks) (get : Get) (n : Nat) (w : World) (out : Out) (v : Value) (w' : World) (β' : Bt) (K' : Ks) : Prop where
  ble : BLe β β'
  kle : KLe K K'
  kok : KOK K' w'
  vr : VR β' K' out.v v
  mr : MR β' K' (getU out.upd get) w'
  fresh : ∀ k, out.n ≤ k → β' k = none
  le : n ≤ out.n
  fr : Fr (Own β get) w w'
  own : ∀ x, Own β' (getU out.upd get) x → Own β get x ∨ w.heap.size ≤ x
  knew : ∀ b arr, K' b = some arr → K b = some arr ∨ Own β get b ∨ w.heap.size ≤ b
  dom : ∀ k, k < n → β' k = β k

def PostE (β : Bt) (K : Ks) (get : Get) (n : Nat) (w : World) (out : Out) (v : Value) (w' : World) : Prop := ∃ β' K', Post β K get n w out v w' β' K'

/-- The same heap, and nothing else turned but the count of the draws. -/
structure Still (w w' : World) : Prop where
  heap : w'.heap = w.heap
  os : w'.os = w.os
  tape : w'.tape = w.tape
  output : w'.output = w.output

theorem Still.refl (w : World) : Still w w := ⟨rfl, rfl, rfl, rfl⟩

theorem KOK.still {K : Ks} {w w' : World} (h : KOK K w) (s : Still w w') : KOK K w' := fun b arr e => by rw [s.heap]; exact h b arr e
theorem MR.world {β : Bt} {K : Ks} {get : Get} {w w' : World} (h : MR β K get w) (hw : ∀ x, Own β get x → w'.heap[x]? = w.heap[x]?) : MR β K get w' :=
  ⟨fun k b e => by
    obtain ⟨x, e1, e2⟩ := h.blk k b e
    exact ⟨x, e1, e2.world fun y hy => hw y ⟨k, b, x, e, e1, hy⟩⟩, h.sep, h.ro⟩
theorem MR.still {β : Bt} {K : Ks} {get : Get} {w w' : World} (h : MR β K get w) (s : Still w w') : MR β K get w' := h.world fun _ _ => by rw [s.heap]

theorem Fr.still {S : Nat → Prop} {w w' : World} (s : Still w w') : Fr S w w' := ⟨s.os, s.tape, s.output, by rw [s.heap]; exact Nat.le_refl _, fun _ _ _ => by rw [s.heap]⟩

theorem Post.pure {β : Bt} {K : Ks} {get : Get} {n : Nat} {w w' : World} {v : V} {u : Value} {ok : Bool} (hk : KOK K w) (hm : MR β K get w) (hf : ∀ k, n ≤ k → β k = none) (s : Still w w') (hv : VR β K v u) :
    PostE β K get n w ⟨ok, v, [], n⟩ u w' :=
  ⟨β, K, BLe.refl _, KLe.refl _, hk.still s, hv, hm.still s, hf, Nat.le_refl _, Fr.still s, fun x h => .inl h, fun _ _ e => .inl e, fun _ _ => rfl⟩

/-- The key of a new block. -/
def addB (β : Bt) (n : Nat) (h : Hd) : Bt := fun k => if k = n then some h else β k

theorem BLe.add {β : Bt} {n : Nat} (h : Hd) (hn : β n = none) : BLe β (addB β n h) := by
  intro k x e
  unfold addB
  split
  · rename_i he; subst he; rw [hn] at e; cases e
  · exact e

theorem addB_self (β : Bt) (n : Nat) (h : Hd) : addB β n h n = some h := by simp [addB]
theorem addB_ne (β : Bt) {n k : Nat} (h : Hd) (e : k ≠ n) : addB β n h k = β k := by simp [addB, e]

theorem MR.lt {β : Bt} {K : Ks} {get : Get} {w : World} (h : MR β K get w) {x : Nat} (o : Own β get x) : x < w.heap.size := by
  obtain ⟨k, b, y, e1, e2, e3⟩ := o
  obtain ⟨z, e4, e5⟩ := h.blk k b e1
  rw [e2] at e4
  cases e4
  exact e5.lt e3

/-- The general step of memory: what is left of the old blocks stays, and what is new fits. -/
theorem MR.step {β β' : Bt} {K K' : Ks} {get get' : Get} {w w' : World} (h : MR β K get w) (hb : BLe β β') (hk : KLe K K')
    (cases : ∀ k b, get' k = some b →
      (get k = some b ∧ ∀ x y, β k = some y → y.b = some x → w'.heap[x]? = w.heap[x]? ∧ K' x = none) ∨
      (∃ y, β' k = some y ∧ BR β' K' b y w' ∧ ∀ x, y.b = some x → K' x = none ∧ ∀ k' b' y', get' k' = some b' → β' k' = some y' → y'.b = some x → k' = k)) : MR β' K' get' w' := by
  refine ⟨?_, ?_, ?_⟩
  · intro k b e
    rcases cases k b e with ⟨e1, e2⟩ | ⟨y, e1, e2, _⟩
    · obtain ⟨y, e3, e4⟩ := h.blk k b e1
      exact ⟨y, hb _ _ e3, (e4.world fun x hx => (e2 x y e3 hx).1).mono hb hk⟩
    · exact ⟨y, e1, e2⟩
  · intro k k' b b' y y' x e e' f f' g g'
    rcases cases k b e with ⟨e1, e2⟩ | ⟨z, e1, _, e3⟩
    · rcases cases k' b' e' with ⟨e1', e2'⟩ | ⟨z', e1', _, e3'⟩
      · obtain ⟨u, e4, _⟩ := h.blk k b e1
        obtain ⟨u', e4', _⟩ := h.blk k' b' e1'
        have h1 := hb _ _ e4
        have h2 := hb _ _ e4'
        rw [f] at h1; rw [f'] at h2
        cases h1; cases h2
        exact h.sep k k' b b' _ _ x e1 e1' e4 e4' g g'
      · rw [f'] at e1'; cases e1'
        exact (e3' x g').2 k b y e f g
    · rw [f] at e1; cases e1
      exact ((e3 x g).2 k' b' y' e' f' g').symm
  · intro k b y x e f g
    rcases cases k b e with ⟨e1, e2⟩ | ⟨z, e1, _, e3⟩
    · obtain ⟨u, e4, _⟩ := h.blk k b e1
      have h1 := hb _ _ e4
      rw [f] at h1; cases h1
      exact (e2 x y e4 g).2
    · rw [f] at e1; cases e1
      exact (e3 x g).1

theorem nbeq_ne {a b : Nat} (h : a ≠ b) : Nat.beq a b = false := by
  cases e : Nat.beq a b with
  | false => rfl
  | true => exact absurd (Nat.eq_of_beq_eq_true e) h
theorem nbeq_eq {a b : Nat} (h : Nat.beq a b = true) : a = b := Nat.eq_of_beq_eq_true h

theorem getU_one {k : Nat} {b : Option Blk} {get : Get} {j : Nat} {c : Blk} (h : getU [(k, b)] get j = some c) : (j = k ∧ b = some c) ∨ (j ≠ k ∧ get j = some c) := by
  unfold getU at h
  by_cases e : k = j
  · subst e; simp [look] at h; exact .inl ⟨rfl, h⟩
  · have : Nat.beq k j = false := nbeq_ne e
    simp [look, this] at h
    exact .inr ⟨fun x => e x.symm, h⟩

theorem getU_cons {k : Nat} {b : Option Blk} {r : List (Nat × Option Blk)} {get : Get} {j : Nat} {c : Blk} (h : getU ((k, b) :: r) get j = some c) : (j = k ∧ b = some c) ∨ (j ≠ k ∧ getU r get j = some c) := by
  unfold getU at h
  by_cases e : k = j
  · subst e; simp [look] at h; exact .inl ⟨rfl, h⟩
  · have : Nat.beq k j = false := nbeq_ne e
    simp only [look, this] at h
    exact .inr ⟨fun x => e x.symm, h⟩

/-- What is only let go. -/
theorem getU_gone {ks : List Nat} {get : Get} {j : Nat} {c : Blk} (h : getU (ks.map fun k => (k, none)) get j = some c) : j ∉ ks ∧ get j = some c := by
  induction ks with
  | nil => exact ⟨by simp, h⟩
  | cons k ks ih =>
    rcases getU_cons (by simpa using h) with ⟨_, e⟩ | ⟨e1, e2⟩
    · cases e
    · obtain ⟨h1, h2⟩ := ih e2
      exact ⟨by simp [e1, h1], h2⟩

theorem heap_push_new (w : World) (o : Obj) : (w.alloc o).heap[w.heap.size]? = some o := by
  show (w.heap.push o)[w.heap.size]? = _; simp
theorem heap_push_old (w : World) (o : Obj) {i : Nat} (h : i < w.heap.size) : (w.alloc o).heap[i]? = w.heap[i]? := by
  show (w.heap.push o)[i]? = _; rw [Array.getElem?_push, if_neg (by omega)]

theorem KOK.alloc {K : Ks} {w : World} (h : KOK K w) (o : Obj) : KOK K (w.alloc o) := fun b arr e => by
  rw [heap_push_old w o (h.lt e)]; exact h b arr e

theorem Fr.alloc (S : Nat → Prop) (w : World) (o : Obj) : Fr S w (w.alloc o) := ⟨rfl, rfl, rfl, by simp, fun b hb _ => heap_push_old w o hb⟩

/-- A new block, in a world that is as w was but for its count of draws; other keys may be let go, and may be read from then on. -/
theorem Post.alloc {β : Bt} {K K' : Ks} {get : Get} {n : Nat} {w w1 : World} {b : Blk} {ok : Bool} {arr : Array Value} {T : TypeId} {h : Hd} {v : V} {gone : List Nat}
    (hk : KOK K w) (hm : MR β K get w) (hf : ∀ k, n ≤ k → β k = none) (s : Still w w1) (hk' : KLe K K') (hkok : KOK K' w)
    (hgone : ∀ k c x y, get k = some c → k ∉ gone → β k = some y → y.b = some x → K' x = none)
    (hh : h.b = some w.heap.size)
    (hb : BR (addB β n h) K' b h (w1.alloc (.cells arr T))) (hv : VR (addB β n h) K' v h.v)
    (hnew : ∀ b arr, K' b = some arr → K b = some arr ∨ Own β get b ∨ w.heap.size ≤ b := by exact fun _ _ e => .inl e) :
    PostE β K get n w ⟨ok, v, (n, some b) :: gone.map (fun k => (k, none)), n + 1⟩ h.v (w1.alloc (.cells arr T)) := by
  have hn : β n = none := hf n (Nat.le_refl _)
  have hle := BLe.add h hn
  have hsz : w1.heap.size = w.heap.size := by rw [s.heap]
  have hold : ∀ x, x < w.heap.size → (w1.alloc (.cells arr T)).heap[x]? = w.heap[x]? := fun x hx => by
    rw [heap_push_old w1 _ (by omega), s.heap]
  refine ⟨addB β n h, K', hle, hk', ?_, hv, ?_, ?_, by simp, ⟨s.os, s.tape, s.output, by simp [s.heap], fun x hx _ => hold x hx⟩, ?_, hnew, fun k hk => addB_ne _ _ (by omega)⟩
  · exact (hkok.still s).alloc _
  · refine hm.step hle hk' ?_
    intro k c e
    rcases getU_cons e with ⟨rfl, e1⟩ | ⟨e1, e2⟩
    · cases e1
      refine .inr ⟨h, addB_self .., hb, fun x hx => ?_⟩
      rw [hh] at hx
      cases hx
      refine ⟨?_, ?_⟩
      · cases hq : K' w.heap.size with
        | none => rfl
        | some a => exact absurd (hkok.lt hq) (by omega)
      · intro k' b' y' e' f' g'
        rcases getU_cons e' with ⟨rfl, _⟩ | ⟨e3, e4⟩
        · rfl
        · obtain ⟨_, e5⟩ := getU_gone e4
          rw [addB_ne _ _ e3] at f'
          have := hm.lt ⟨k', b', y', e5, f', g'⟩
          omega
    · obtain ⟨e3, e4⟩ := getU_gone e2
      refine .inl ⟨e4, fun x y f g => ⟨hold x (hm.lt ⟨k, c, y, e4, f, g⟩), hgone k c x y e4 e3 f g⟩⟩
  · intro k hkk
    rw [addB_ne _ _ (by simp at hkk; omega)]
    exact hf k (by simp at hkk; omega)
  · rintro x ⟨k, c, y, e, f, g⟩
    rcases getU_cons e with ⟨rfl, e1⟩ | ⟨e1, e2⟩
    · rw [addB_self] at f; cases f
      rw [hh] at g; cases g
      exact .inr (Nat.le_refl _)
    · obtain ⟨_, e4⟩ := getU_gone e2
      rw [addB_ne _ _ e1] at f
      exact .inl ⟨k, c, y, e4, f, g⟩

/-! ## Steps -/

def StepOK (P : Program) (o : Oper) (a : Act) (w : World) (post : Value → World → Prop) : Prop :=
  ∀ (next : Act → World → Prop) (Q : Exit → Act → World → Prop), (∀ v w', post v w' → next (a.put o.dst v) w') → o.wp P a w next Q

theorem StepOK.value {P : Program} {o : Oper} {a : Act} {w w' : World} {v : Value} {post : Value → World → Prop} (h : (execOp a.eval o).run P w = .ok (.value v) w') (hp : post v w') : StepOK P o a w post := by
  intro next Q hn
  simp only [Oper.wp, h, Oper.upon]
  exact hn v w' hp

theorem StepOK.skip {P : Program} {o : Oper} {a : Act} {w w' : World} {post : Value → World → Prop} (h : (execOp a.eval o).run P w = .ok .skip w') (hp : post undef w') : StepOK P o a w post := by
  intro next Q hn
  simp only [Oper.wp, h, Oper.upon]
  exact hn undef w' hp

/-- An operation that makes a value. -/
theorem exec_v {P : Program} {o : Oper} {ρ : Operand → Value} {w w' : World} {v : Value} {s : Sem Value} (he : execOp ρ o = (do let x ← s; pure (Next.value x))) (h : s.run P w = .ok v w') :
    (execOp ρ o).run P w = .ok (.value v) w' := by
  rw [he]; simp [h]

/-! ### Cells that are read -/

theorem add_lit (b off j : Nat) : (⟨b, off, none⟩ : Addr).add j = ⟨b, off + j, none⟩ := by unfold Addr.add; split <;> simp_all

theorem run_isAgg' {P : Program} {t : TypeId} {d : TypeDesc} (h : P.underlying t = some d) (w : World) : (isAgg t).run P w = .ok (aggD d) w := by
  unfold isAgg
  rw [Sem.run_bind, run_underlying h w]
  cases d <;> rfl

theorem run_sizeOf' {P : Program} {t : TypeId} {i : TypeInfo} (h : P.info? t = some i) (w : World) : (Go.sizeOf t).run P w = .ok i.size w := by
  simp [sizeOf, typeInfo, h]

theorem sub_length {l : List Value} {o n : Nat} (h : o + n ≤ l.length) : (sub l o n).length = n := by simp [sub]; omega

/-- A value at an address whose cells are known. -/
theorem run_loadVar_sub {P : Program} {t : TypeId} {ti : TI} (ht : TIok P t ti) {w : World} {b off : Nat} {arr : Array Value} {T : TypeId} {fz : Nat × Nat}
    (hh : w.heap[b]? = some (.cells arr T fz)) {β : Bt} {K : Ks} {cs : List C} {u : W} (hc : All2 (CR β K) cs (sub arr.toList off ti.size)) (hu : loadW ti.agg ti.size cs = some u) :
    ∃ v, (loadVar t ⟨b, off, none⟩).run P w = .ok v w ∧ WR β K u v := by
  obtain ⟨i, d, z, hi, hd, hz, hs, hby, ha, _⟩ := ht.ex
  have hlen := hc.length
  have hcell : ∀ (j : Nat) (v : Value), (sub arr.toList off ti.size)[j]? = some v → w.cell? ((⟨b, off, none⟩ : Addr).add j) = some v := by
    intro j v hv
    rw [add_lit, cell_of_row w b _ arr T fz hh]
    unfold sub at hv
    rw [List.getElem?_take] at hv
    split at hv
    · rw [List.getElem?_drop] at hv; simpa using hv
    · cases hv
  unfold loadVar
  rw [Sem.run_bind, run_isAgg' hd, Result.andThen_ok, ha]
  cases hag : ti.agg with
  | true =>
    rw [hag] at hu
    simp only [loadW] at hu
    split at hu
    · rename_i hbeq
      cases hu
      have hl : cs.length = ti.size := by simpa using hbeq
      have hr := run_loadCells_list (P := P) w ⟨b, off, none⟩ (sub arr.toList off ti.size) hcell
      rw [← hlen, hl] at hr
      refine ⟨.agg (sub arr.toList off ti.size).toArray, ?_, ⟨_, rfl, by simpa using hc⟩⟩
      simp [run_sizeOf' hi, hs, hr]
    · cases hu
  | false =>
    rw [hag] at hu
    cases cs with
    | nil => simp [loadW] at hu; split at hu <;> cases hu
    | cons c r =>
      cases r with
      | cons c' r' => simp [loadW] at hu; split at hu <;> cases hu
      | nil =>
        simp only [loadW] at hu
        split at hu
        case h_2 => cases hu
        simp only [Option.some.injEq] at hu
        subst hu
        cases hsub : sub arr.toList off ti.size with
        | nil => rw [hsub] at hc; exact hc.elim
        | cons v vs =>
          rw [hsub] at hc
          have h0 := hcell 0 v (by rw [hsub]; rfl)
          rw [add_lit, Nat.add_zero] at h0
          refine ⟨v, ?_, hc.1⟩
          simp [h0]

theorem takeN_eq (cs : List C) (off n : Nat) : takeN cs off n = (cs.drop off).take n := rfl

theorem All2.sub' {R : C → Value → Prop} {cs : List C} {vs : List Value} (h : All2 R cs vs) (off n : Nat) : All2 R (takeN cs off n) (sub vs off n) := (h.drop off).take n

theorem sub_sub (l : List Value) (o n off k : Nat) (h : off + k ≤ n) : sub (sub l o n) off k = sub l (o + off) k := by
  unfold sub
  rw [List.drop_take, List.take_take, List.drop_drop]
  congr 1
  omega

theorem loadW_len {agg : Bool} {size : Nat} {cs : List C} {u : W} (h : loadW agg size cs = some u) : cs.length = size := by
  cases agg with
  | true =>
    simp only [loadW] at h
    split at h
    · rename_i hb; exact nbeq_eq hb
    · cases h
  | false =>
    simp only [loadW] at h
    split at h
    · rename_i hb
      have hb := nbeq_eq hb
      split at h
      · simp [hb]
      · cases h
    · cases h

/-- Cells of a part, in the whole. -/
theorem part_fits {R : C → Value → Prop} {cs : List C} {l : List Value} {o m : Nat} (h : All2 R cs (sub l o m)) (hm : cs.length = m) {off size : Nat} (hl : (takeN cs off size).length = size) :
    All2 R (takeN cs off size) (sub l (o + off) size) := by
  have := h.sub' off size
  by_cases hfit : off + size ≤ m
  · rwa [sub_sub _ _ _ _ _ hfit] at this
  · simp only [takeN, List.length_take, List.length_drop] at hl
    have h0 : size = 0 := by omega
    subst h0
    simp [takeN, sub, All2]

end Go.Proofs.Ytmmdjajebmihhaa.AM
