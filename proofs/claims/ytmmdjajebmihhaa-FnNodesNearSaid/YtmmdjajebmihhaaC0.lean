/- The abstract machine: a table's types, checked by program; arguments as typed values. Conditions: the checks pass. -/
import Derived.Test.YtmmdjajebmihhaaB9
import Derived.WideShapes
import Derived.ChangeShapes
import Derived.ChangeArms
namespace Go.Proofs.Ytmmdjajebmihhaa.AM
open Go Go.ChangeShapes Go.WideShapes
set_option linter.unusedVariables false

/-! ## A table's types -/

def cellB : C → Value → Bool
  | .pois, _ => true
  | .bool b, .bool b' => b == b'
  | .int k n, .int k' n' => kindEq k k' && decide (n = n')
  | .flt k b, .float k' b' => fkindEq k k' && Nat.beq b b'
  | .cpx k a b, .complex k' a' b' => fkindEq k k' && Nat.beq a a' && Nat.beq b b'
  | .str s, .string s' => Nat.beq s.size 0 && Nat.beq s'.size 0
  | .nil _, .slice _ n c => Nat.beq n 0 && Nat.beq c 0
  | _, _ => false

theorem bytes_empty {s : ByteArray} (h : s.size = 0) : s = ByteArray.empty := by
  apply ByteArray.ext
  apply Array.eq_empty_of_size_eq_zero
  exact h

theorem cellB_ok {c : C} {v : Value} (h : cellB c v = true) : ZR c v := by
  intro β K
  unfold cellB at h
  split at h
  · trivial
  · rename_i b b'
    have : b = b' := by simpa using h
    rw [this]
    rfl
  · simp only [Bool.and_eq_true, kindEq, decide_eq_true_eq] at h
    obtain ⟨rfl, rfl⟩ := h
    rfl
  · simp only [Bool.and_eq_true, fkindEq, decide_eq_true_eq] at h
    obtain ⟨rfl, h⟩ := h
    rw [nbeq_eq h]
    exact ⟨_, rfl, FEq.refl _ _⟩
  · simp only [Bool.and_eq_true, fkindEq, decide_eq_true_eq] at h
    obtain ⟨⟨rfl, h⟩, h'⟩ := h
    rw [nbeq_eq h, nbeq_eq h']
    exact ⟨_, _, rfl, FEq.refl _ _, FEq.refl _ _⟩
  · simp only [Bool.and_eq_true] at h
    rw [bytes_empty (nbeq_eq h.1), bytes_empty (nbeq_eq h.2)]
    rfl
  · simp only [Bool.and_eq_true] at h
    rw [nbeq_eq h.1, nbeq_eq h.2]
    exact ⟨_, rfl⟩
  · cases h

def all2B {α γ : Type} (f : α → γ → Bool) : List α → List γ → Bool
  | [], [] => true
  | a :: as, b :: bs => f a b && all2B f as bs
  | _, _ => false

theorem all2B_ok {α γ : Type} {f : α → γ → Bool} {R : α → γ → Prop} (hf : ∀ a b, f a b = true → R a b) : ∀ {as : List α} {bs : List γ}, all2B f as bs = true → All2 R as bs
  | [], [], _ => trivial
  | a :: as, b :: bs, h => by
    simp only [all2B, Bool.and_eq_true] at h
    exact ⟨hf _ _ h.1, all2B_ok hf h.2⟩
  | [], _ :: _, h => by cases h
  | _ :: _, [], h => by cases h

def fieldB (P : Program) (f : Field) (x : Nat × Nat × Bool) : Bool :=
  Nat.beq f.offset x.1 && (match P.info? f.type, P.underlying f.type with
    | some fi, some fd => Nat.beq fi.size x.2.1 && (aggD fd == x.2.2)
    | _, _ => false)

def srtB (P : Program) (d : TypeDesc) (ti : TI) : Bool := match ti.sort, d with
  | .slice, .slice e => Nat.beq e ti.elem
  | .array n, .array m e => Nat.beq m n && Nat.beq e ti.elem
  | .string, .string => true
  | .struct, .struct fs => all2B (fieldB P) fs.toList ti.fields
  | .bool, .bool => true
  | .int k, .int k' => kindEq k k'
  | .float k, .float k' => fkindEq k k'
  | .complex k, .complex k' => fkindEq k k'
  | .other, _ => true
  | _, _ => false

theorem fieldB_ok {P : Program} {f : Field} {x : Nat × Nat × Bool} (h : fieldB P f x = true) : f.offset = x.1 ∧ ∃ fi fd, P.info? f.type = some fi ∧ fi.size = x.2.1 ∧ P.underlying f.type = some fd ∧ aggD fd = x.2.2 := by
  simp only [fieldB, Bool.and_eq_true] at h
  obtain ⟨h1, h2⟩ := h
  split at h2
  · rename_i fi fd e1 e2
    simp only [Bool.and_eq_true] at h2
    exact ⟨nbeq_eq h1, fi, fd, e1, nbeq_eq h2.1, e2, by simpa using h2.2⟩
  · cases h2

theorem srtB_ok {P : Program} {d : TypeDesc} {ti : TI} (h : srtB P d ti = true) : SrtOk P d ti := by
  unfold srtB at h
  unfold SrtOk
  split at h
  · rename_i e; rw [e]; rw [nbeq_eq h]
  · rename_i e; simp only [Bool.and_eq_true] at h; rw [e]; dsimp only; rw [nbeq_eq h.1, nbeq_eq h.2]
  · rename_i e; rw [e]
  · rename_i e; rw [e]; exact ⟨_, rfl, all2B_ok (fun _ _ => fieldB_ok) h⟩
  · rename_i e; rw [e]
  · rename_i e; rw [e]; dsimp only; rw [show _ = _ from of_decide_eq_true h]
  · rename_i e; rw [e]; dsimp only; rw [show _ = _ from of_decide_eq_true h]
  · rename_i e; rw [e]; dsimp only; rw [show _ = _ from of_decide_eq_true h]
  · rename_i e; rw [e]; trivial
  · cases h

/-- Reads a zero value off the head of some cells. -/
def zeroB : Ty → List Value → Option (List Value)
  | .bool, .bool false :: r => some r
  | .int k, .int k' n :: r => match kindEq k k' && decide (n = 0) with | true => some r | false => none
  | .flt k, .float k' b :: r => match fkindEq k k' && Nat.beq b 0 with | true => some r | false => none
  | .cpx k, .complex k' a b :: r => match fkindEq k k' && Nat.beq a 0 && Nat.beq b 0 with | true => some r | false => none
  | .str, .string s :: r => match Nat.beq s.size 0 with | true => some r | false => none
  | .slice _, .slice _ n c :: r => match Nat.beq n 0 && Nat.beq c 0 with | true => some r | false => none
  | .nil, r => some r
  | .cons a b, r => match zeroB a r with
    | some r' => zeroB b r'
    | none => none
  | _, _ => none

theorem zeroB_ok : ∀ (t : Ty) {vs r : List Value}, zeroB t vs = some r → ∃ v1, vs = v1 ++ r ∧ ∀ K, DR K t (zero t) v1 := by
  intro t
  induction t with
  | cons a b iha ihb =>
    intro vs r h
    simp only [zeroB] at h
    split at h
    · rename_i r' h1
      obtain ⟨v1, rfl, d1⟩ := iha h1
      obtain ⟨v2, rfl, d2⟩ := ihb h
      exact ⟨v1 ++ v2, by simp, fun K => ⟨v1, v2, rfl, d1 K, d2 K⟩⟩
    · cases h
  | nil => intro vs r h; simp only [zeroB, Option.some.injEq] at h; subst h; exact ⟨[], rfl, fun K => rfl⟩
  | bool =>
    intro vs r h
    cases vs with
    | nil => simp [zeroB] at h
    | cons v vs =>
      cases v <;> first | (simp [zeroB] at h; done) | skip
      rename_i b
      cases b
      · simp only [zeroB, Option.some.injEq] at h
        subst h
        exact ⟨[_], rfl, fun K => rfl⟩
      · simp [zeroB] at h
  | int k =>
    intro vs r h
    cases vs with
    | nil => simp [zeroB] at h
    | cons v vs =>
      cases v <;> simp only [zeroB] at h <;> first | cases h | skip
      split at h
      · rename_i hb
        simp only [Bool.and_eq_true, kindEq, decide_eq_true_eq] at hb
        obtain ⟨rfl, rfl⟩ := hb
        cases h
        exact ⟨[_], rfl, fun K => rfl⟩
      · cases h
  | flt k =>
    intro vs r h
    cases vs with
    | nil => simp [zeroB] at h
    | cons v vs =>
      cases v <;> simp only [zeroB] at h <;> first | cases h | skip
      split at h
      · rename_i hb
        simp only [Bool.and_eq_true, fkindEq, decide_eq_true_eq] at hb
        obtain ⟨rfl, hb⟩ := hb
        rw [nbeq_eq hb]
        cases h
        exact ⟨[_], rfl, fun K => ⟨_, rfl, FEq.refl _ _⟩⟩
      · cases h
  | cpx k =>
    intro vs r h
    cases vs with
    | nil => simp [zeroB] at h
    | cons v vs =>
      cases v <;> simp only [zeroB] at h <;> first | cases h | skip
      split at h
      · rename_i hb
        simp only [Bool.and_eq_true, fkindEq, decide_eq_true_eq] at hb
        obtain ⟨⟨rfl, hb⟩, hc⟩ := hb
        rw [nbeq_eq hb, nbeq_eq hc]
        cases h
        exact ⟨[_], rfl, fun K => ⟨_, _, rfl, FEq.refl _ _, FEq.refl _ _⟩⟩
      · cases h
  | str =>
    intro vs r h
    cases vs with
    | nil => simp [zeroB] at h
    | cons v vs =>
      cases v <;> simp only [zeroB] at h <;> first | cases h | skip
      split at h
      · rename_i hb
        cases h
        rw [bytes_empty (nbeq_eq hb)]
        exact ⟨[_], rfl, fun K => rfl⟩
      · cases h
  | slice t ih =>
    intro vs r h
    cases vs with
    | nil => simp [zeroB] at h
    | cons v vs =>
      cases v <;> simp only [zeroB] at h <;> first | cases h | skip
      split at h
      · rename_i hb
        simp only [Bool.and_eq_true] at hb
        rw [nbeq_eq hb.1, nbeq_eq hb.2]
        cases h
        exact ⟨[_], rfl, fun K => ⟨_, 0, 0, rfl, rfl, Nat.le_refl _, .inl rfl⟩⟩
      · cases h

def tiB (P : Program) (t : Nat) (ti : TI) : Bool := match P.info? t, P.underlying t with
  | some i, some d => match i.zero with
    | some z => Nat.beq i.size ti.size && Nat.beq i.bytes ti.bytes && (aggD d == ti.agg) && all2B cellB ti.zero z.cells.toList && srtB P d ti &&
        (!Nat.beq ti.ty.size ti.size || (match zeroB ti.ty z.cells.toList with | some [] => true | _ => false)) && Nat.beq z.cells.size i.size
    | none => false
  | _, _ => false

theorem tiB_ok {P : Program} {t : Nat} {ti : TI} (h : tiB P t ti = true) : TIok P t ti := by
  unfold tiB at h
  split at h
  · rename_i i d h1 h2
    split at h
    · rename_i z h3
      simp only [Bool.and_eq_true] at h
      obtain ⟨⟨⟨⟨⟨⟨g1, g2⟩, g3⟩, g4⟩, g5⟩, g6⟩, g7⟩ := h
      refine ⟨i, d, z, h1, h2, h3, nbeq_eq g1, nbeq_eq g2, by simpa using g3, all2B_ok (fun _ _ => cellB_ok) g4, srtB_ok g5, fun hs => ?_, nbeq_eq g7⟩
      rw [hs] at g6
      simp only [Nat.beq_refl, Bool.not_true, Bool.false_or] at g6
      split at g6
      · rename_i hz
        obtain ⟨v1, e, hd⟩ := zeroB_ok _ hz
        rw [List.append_nil] at e
        rw [e]; exact hd
      · cases g6
    · cases h
  · cases h

def tabB (P : Program) (l : List (Nat × TI)) : Bool := l.all fun x => tiB P x.1 x.2

theorem look_mem {α : Type} : ∀ {l : List (Nat × α)} {t : Nat} {x : α}, look l t = some x → (t, x) ∈ l
  | [], _, _, h => by cases h
  | (k, y) :: r, t, x, h => by
    simp only [look] at h
    split at h
    · rename_i e
      cases h
      rw [nbeq_eq e]
      exact List.mem_cons_self ..
    · exact List.mem_cons_of_mem _ (look_mem h)

theorem tabB_ok {P : Program} {l : List (Nat × TI)} (h : tabB P l = true) : ∀ t ti, look l t = some ti → TIok P t ti := fun t ti e =>
  tiB_ok (List.all_eq_true.1 h _ (look_mem e))

/-! ## What arguments read -/

def memK (w : World) : Ks := fun b => match w.heap[b]? with
  | some (.cells arr _ _) => some arr
  | _ => none

theorem memK_ok (w : World) : KOK (memK w) w := by
  intro b arr e
  unfold memK at e
  split at e
  · rename_i a T fz h
    cases e
    exact ⟨T, fz, h⟩
  · cases e

/-- What every value that is handed over meets. -/
def Wf : (t : Ty) → Den t → Prop
  | .int k, n => (Lit.int k n).wf = true
  | .flt k, b => (Lit.float k b).wf = true
  | .str, s => s.size ≤ maxLen
  | .slice t, l => l.length ≤ maxLen ∧ ∀ x ∈ l, Wf t x
  | .cons a b, p => Wf a p.1 ∧ Wf b p.2
  | _, _ => True

mutual
def tyB (P : Program) : Ty → Nat → Bool
  | .bool, t => match P.underlying t with | some .bool => true | _ => false
  | .int k, t => match P.underlying t with | some (.int k') => kindEq k k' | _ => false
  | .flt k, t => match P.underlying t with | some (.float k') => fkindEq k k' | _ => false
  | .str, t => match P.underlying t with | some .string => true | _ => false
  | .cpx _, _ => false
  | .nil, _ => false
  | .slice e, t => match P.underlying t with
    | some (.slice te) => tyB P e te && Nat.beq (P.cellsOf te) e.size && Nat.blt 0 e.size
    | _ => false
  | .cons a b, t => match P.underlying t with
    | some (.struct fs) => match fs.toList with
      | f :: r => Nat.beq f.offset 0 && tyB P a f.type && Nat.beq (P.cellsOf f.type) a.size && fldB P b r a.size && Nat.beq (P.cellsOf t) (a.size + b.size)
      | [] => false
    | _ => false
def fldB (P : Program) : Ty → List Field → Nat → Bool
  | .nil, fs, _ => fs.isEmpty
  | .cons a b, fs, off => match fs with
    | f :: r => Nat.beq f.offset off && tyB P a f.type && Nat.beq (P.cellsOf f.type) a.size && fldB P b r (off + a.size)
    | [] => false
  | _, _, _ => false
end

theorem mapM_cons_some {α γ : Type} {f : α → Option γ} {x : α} {l : List α} {ys : List γ} (h : (x :: l).mapM f = some ys) : ∃ y ys', f x = some y ∧ l.mapM f = some ys' ∧ ys = y :: ys' := by
  rw [List.mapM_cons] at h
  cases h1 : f x with
  | none => rw [h1] at h; cases h
  | some y =>
    rw [h1] at h
    cases h2 : l.mapM f with
    | none => rw [h2] at h; cases h
    | some ys' =>
      rw [h2] at h
      exact ⟨y, ys', rfl, rfl, (Option.some.inj h).symm⟩

theorem mapM_get {α γ : Type} {f : α → Option γ} : ∀ {l : List α} {ys : List γ}, l.mapM f = some ys → ys.length = l.length ∧ ∀ (i : Nat) x, l[i]? = some x → ∃ y, ys[i]? = some y ∧ f x = some y
  | [], ys, h => by
    have : ys = [] := by simpa using h.symm
    subst this
    exact ⟨rfl, fun i x e => by simp at e⟩
  | x :: l, ys, h => by
    obtain ⟨y, ys', h1, h2, rfl⟩ := mapM_cons_some h
    obtain ⟨h3, h4⟩ := mapM_get h2
    refine ⟨by simp [h3], fun i z e => ?_⟩
    cases i with
    | zero => simp only [List.getElem?_cons_zero, Option.some.injEq] at e; subst e; exact ⟨y, rfl, h1⟩
    | succ i => exact h4 i z (by simpa using e)

theorem range_get {γ : Type} {f : Nat → Option γ} {n : Nat} {ys : List γ} (h : (List.range n).mapM f = some ys) : ys.length = n ∧ ∀ i, i < n → ∃ y, ys[i]? = some y ∧ f i = some y := by
  obtain ⟨h1, h2⟩ := mapM_get h
  exact ⟨by simpa using h1, fun i hi => h2 i i (by simp [hi])⟩

theorem cells_sub {w : World} {base b off n : Nat} {arr : Array Value} {T : TypeId} {fz : Nat × Nat} (hh : w.heap[b]? = some (.cells arr T fz)) {vs : List Value} (h : w.cells? base ⟨b, off, none⟩ n = some vs) : vs = sub arr.toList off n := by
  unfold World.cells? at h
  split at h
  · obtain ⟨h1, h2⟩ := range_get h
    apply List.ext_getElem?
    intro j
    unfold sub
    rw [List.getElem?_take]
    split
    · rename_i hj
      obtain ⟨y, e1, e2⟩ := h2 j hj
      rw [e1, List.getElem?_drop, Array.getElem?_toList]
      rw [add_lit] at e2
      unfold World.cell? at e2
      rw [hh] at e2
      simpa using e2.symm
    · rw [List.getElem?_eq_none (by omega)]
  · cases h

section
variable {H : Type} {enc : TypeId × Value → H} {P : Program} {w : World} {base : Nat} {spare : Nat → Bool} {held : Bool}

theorem trod_DR : ∀ (ty : Ty),
    (∀ (t fuel : Nat) (cs : List Value) (d : DataW H × List MemPlace), tyB P ty t = true → DataW.trod enc P w base spare held fuel t cs = some d → ∃ x : Den ty, DR (memK w) ty x cs ∧ Wf ty x) ∧
    (∀ (fs : List Field) (off fuel : Nat) (cs : List Value), fldB P ty fs off = true → (∀ f ∈ fs, ∃ y, DataW.trod enc P w base spare held fuel f.type ((cs.drop f.offset).take (P.cellsOf f.type)) = some y) →
      cs.length = off + ty.size → ∃ x : Den ty, DR (memK w) ty x (cs.drop off) ∧ Wf ty x) := by
  intro ty
  induction ty with
  | bool =>
    refine ⟨fun t fuel cs d ht h => ?_, fun fs off fuel cs h => by simp [fldB] at h⟩
    simp only [tyB] at ht
    split at ht
    · rename_i hu
      obtain ⟨b, h1, _⟩ := DataW.trod_bool hu h
      exact ⟨b, h1, trivial⟩
    · cases ht
  | int k =>
    refine ⟨fun t fuel cs d ht h => ?_, fun fs off fuel cs h => by simp [fldB] at h⟩
    simp only [tyB] at ht
    split at ht
    · rename_i k' hu
      have hk : k = k' := of_decide_eq_true ht
      subst hk
      obtain ⟨n, h1, _, h3⟩ := DataW.trod_int hu h
      exact ⟨n, h1, h3⟩
    · cases ht
  | flt k =>
    refine ⟨fun t fuel cs d ht h => ?_, fun fs off fuel cs h => by simp [fldB] at h⟩
    simp only [tyB] at ht
    split at ht
    · rename_i k' hu
      have hk : k = k' := of_decide_eq_true ht
      subst hk
      have : ∃ b, cs = [.float k b] ∧ (Lit.float k b).wf = true := by
        cases fuel with
        | zero => simp [DataW.trod] at h
        | succ fuel =>
          unfold DataW.trod at h
          rw [hu] at h
          split at h <;> simp_all
      obtain ⟨b, h1, h3⟩ := this
      exact ⟨b, ⟨b, h1, FEq.refl _ _⟩, h3⟩
    · cases ht
  | str =>
    refine ⟨fun t fuel cs d ht h => ?_, fun fs off fuel cs h => by simp [fldB] at h⟩
    simp only [tyB] at ht
    split at ht
    · rename_i hu
      obtain ⟨s, h1, _, h3⟩ := DataW.trod_string hu h
      exact ⟨s, h1, h3⟩
    · cases ht
  | cpx k => exact ⟨fun t fuel cs d h => by simp [tyB] at h, fun fs off fuel cs h => by simp [fldB] at h⟩
  | nil =>
    refine ⟨fun t fuel cs d h => by simp [tyB] at h, fun fs off fuel cs h hm hl => ?_⟩
    refine ⟨(), ?_, trivial⟩
    show cs.drop off = []
    rw [List.drop_eq_nil_iff]
    simp only [Ty.size] at hl
    omega
  | slice e ih =>
    refine ⟨fun t fuel cs d ht h => ?_, fun fs off fuel cs h => by simp [fldB] at h⟩
    simp only [tyB] at ht
    split at ht
    case h_2 => cases ht
    rename_i te hu
    simp only [Bool.and_eq_true] at ht
    obtain ⟨⟨t1, t2⟩, t3⟩ := ht
    have t2 := nbeq_eq t2
    have t3 : 0 < e.size := by simpa [Nat.blt_eq] using t3
    rcases DataW.trod_slice hu h with ⟨h1, _⟩ | ⟨ad, len, cap, elems, rest, n, _, h1, _, _, h4, h5, h6, h7, h8⟩
    · exact ⟨[], ⟨none, 0, 0, h1, rfl, Nat.le_refl _, .inl rfl⟩, Nat.zero_le _, fun x hx => by cases hx⟩
    · rw [t2] at h7
      by_cases hlen : len = 0
      · subst hlen
        exact ⟨[], ⟨some ad, 0, cap, h1, rfl, Nat.zero_le _, .inl rfl⟩, Nat.zero_le _, fun x hx => by cases hx⟩
      · have key : ∀ i, i < len → ∃ y vs, w.cells? base (ad.add (i * e.size)) e.size = some vs ∧ DataW.trod enc P w base spare held n te vs = some y := by
          intro i hi
          have := h7 i hi
          rw [List.getElem?_eq_getElem (by omega)] at this
          obtain ⟨vs, g1, g2⟩ := Option.bind_eq_some_iff.1 this
          exact ⟨_, vs, g1, g2⟩
        obtain ⟨y0, vs0, g1, _⟩ := key 0 (by omega)
        have hc0 : ∃ v, w.cell? ad = some v := by
          unfold World.cells? at g1
          split at g1
          · obtain ⟨_, g3⟩ := range_get g1
            obtain ⟨v, _, g4⟩ := g3 0 t3
            rw [Nat.zero_mul] at g4
            exact ⟨v, g4⟩
          · cases g1
        obtain ⟨v0, hc0⟩ := hc0
        obtain ⟨b, off, spot⟩ := ad
        unfold World.cell? at hc0
        split at hc0
        case h_2 => cases hc0
        rename_i arr T fz hh
        dsimp only at hh hc0
        cases spot with
        | some q => simp at hc0
        | none =>
          have hK : memK w b = some arr := by unfold memK; rw [hh]
          have each : ∀ i, i < len → ∃ x : Den e, DR (memK w) e x (sub arr.toList (off + i * e.size) e.size) ∧ Wf e x := by
            intro i hi
            obtain ⟨y, vs, g1, g2⟩ := key i hi
            rw [add_lit] at g1
            rw [← cells_sub hh g1]
            exact ih.1 te n vs y t1 g2
          have : ∃ l : List (Den e), l.length = len ∧ ∀ i (hi : i < l.length), DR (memK w) e l[i] (sub arr.toList (off + i * e.size) e.size) ∧ Wf e l[i] := by
            clear h8 h7 h6 h5 h4 h1 key hlen
            induction len with
            | zero => exact ⟨[], rfl, fun i hi => by simp at hi⟩
            | succ m ihm =>
              obtain ⟨l, l1, l2⟩ := ihm fun i hi => each i (by omega)
              obtain ⟨x, hx⟩ := each m (by omega)
              refine ⟨l ++ [x], by simp [l1], fun i hi => ?_⟩
              by_cases him : i < l.length
              · rw [List.getElem_append_left him]
                exact l2 i him
              · have : i = l.length := by simp at hi; omega
                subst this
                rw [List.getElem_append_right (Nat.le_refl _)]
                simp only [Nat.sub_self, List.getElem_cons_zero]
                rw [l1]
                exact hx
          obtain ⟨l, l1, l2⟩ := this
          refine ⟨l, ⟨some ⟨b, off, none⟩, len, cap, h1, l1.symm, h4, .inr ⟨b, off, arr, rfl, hK, fun i hi => (l2 i hi).1⟩⟩, ?_, fun x hx => ?_⟩
          · omega
          · obtain ⟨i, hi, rfl⟩ := List.mem_iff_getElem.1 hx
            exact (l2 i hi).2
  | cons a b iha ihb =>
    have step : ∀ (f : Field) (r : List Field) (off fuel : Nat) (cs : List Value), f.offset = off → tyB P a f.type = true → P.cellsOf f.type = a.size → fldB P b r (off + a.size) = true →
        (∀ g ∈ f :: r, ∃ y, DataW.trod enc P w base spare held fuel g.type ((cs.drop g.offset).take (P.cellsOf g.type)) = some y) → cs.length = off + (a.size + b.size) →
        ∃ x : Den (.cons a b), DR (memK w) (.cons a b) x (cs.drop off) ∧ Wf (.cons a b) x := by
      intro f r off fuel cs h1 h2 h3 h4 h5 h6
      obtain ⟨y, hy⟩ := h5 f (List.mem_cons_self ..)
      rw [h1, h3] at hy
      obtain ⟨x1, d1, w1⟩ := iha.1 f.type fuel _ y h2 hy
      obtain ⟨x2, d2, w2⟩ := ihb.2 r (off + a.size) fuel cs h4 (fun g hg => h5 g (List.mem_cons_of_mem _ hg)) (by omega)
      refine ⟨(x1, x2), ⟨_, _, ?_, d1, d2⟩, w1, w2⟩
      rw [← List.drop_drop]
      exact (List.take_append_drop ..).symm
    refine ⟨fun t fuel cs d ht h => ?_, fun fs off fuel cs h hf hl => ?_⟩
    · simp only [tyB] at ht
      split at ht
      case h_2 => cases ht
      rename_i fs hu
      obtain ⟨xs, n, _, _, h3, h4, h5⟩ := DataW.trod_struct hu h
      split at ht
      case h_2 => cases ht
      rename_i f r hfs
      simp only [Bool.and_eq_true] at ht
      obtain ⟨⟨⟨⟨g1, g2⟩, g3⟩, g4⟩, g5⟩ := ht
      have := step f r 0 n cs (nbeq_eq g1) g2 (nbeq_eq g3) (by rw [Nat.zero_add]; exact g4) (fun g hg => ?_) (by rw [h3, nbeq_eq g5]; omega)
      · rw [List.drop_zero] at this
        exact this
      · rw [← hfs] at hg
        obtain ⟨i, hi, he⟩ := List.mem_iff_getElem.1 hg
        have hi' : i < fs.size := by simpa using hi
        have he' : fs[i]? = some g := by
          rw [Array.getElem?_eq_getElem hi', ← he]
          simp
        have := h5 i g he'
        rw [List.getElem?_eq_getElem (by omega)] at this
        exact ⟨_, this⟩
    · cases fs with
      | nil => simp [fldB] at h
      | cons f r =>
        simp only [fldB, Bool.and_eq_true] at h
        obtain ⟨⟨⟨g1, g2⟩, g3⟩, g4⟩ := h
        exact step f r off fuel cs (nbeq_eq g1) g2 (nbeq_eq g3) g4 hf (by simpa [Ty.size] using hl)

/-- An argument, as an operand of the machine. -/
def encW : (t : Ty) → Den t → W
  | .bool, b => .one (.bool b)
  | .int k, n => .one (.int k n)
  | .flt k, b => .one (.flt k b)
  | .cpx k, p => .one (.cpx k p.1 p.2)
  | .str, s => .one (.str s)
  | .slice t, l => .one (.sl t l)
  | .nil, _ => .agg []
  | .cons a b, p => .agg (AM.enc (.cons a b) p)

theorem encW_cells : ∀ (t : Ty) (x : Den t), (encW t x).cells = AM.enc t x := by
  intro t x
  cases t <;> rfl

/-- A typed value, as a whole operand. -/
theorem encW_ok {β : Bt} {K : Ks} {t : Ty} {x : Den t} {v : Value} (h : DR K t x v.cells.toList) (hv : match t with | .nil => (∃ cs, v = .agg cs) | .cons _ _ => (∃ cs, v = .agg cs) | _ => v.cells = #[v]) : WR β K (encW t x) v := by
  have he := DR.enc (β := β) t h
  cases t with
  | nil => obtain ⟨cs, rfl⟩ := hv; exact ⟨cs, rfl, he⟩
  | cons a b => obtain ⟨cs, rfl⟩ := hv; exact ⟨cs, rfl, he⟩
  | bool => dsimp only at hv; rw [hv] at he; exact he.1
  | int k => dsimp only at hv; rw [hv] at he; exact he.1
  | flt k => dsimp only at hv; rw [hv] at he; exact he.1
  | cpx k => dsimp only at hv; rw [hv] at he; exact he.1
  | str => dsimp only at hv; rw [hv] at he; exact he.1
  | slice t => dsimp only at hv; rw [hv] at he; exact he.1

/-- An argument of a call from outside. -/
theorem arg_ok {ty : Ty} {t : Nat} {v : Value} {d : DataW H} {ps : List MemPlace} {r : Reach} {b0 : Nat} (ht : tyB P ty t = true) (hv : Value.okWide P w r b0 t v) (h : DataW.Trod enc P w base spare held t v d ps) :
    ∃ x : Den ty, Wf ty x ∧ ∀ β, WR β (memK w) (encW ty x) v := by
  obtain ⟨fuel, h⟩ := h
  obtain ⟨x, hd, hw⟩ := (trod_DR (H := H) ty).1 t fuel _ _ ht h
  refine ⟨x, hw, fun β => encW_ok hd ?_⟩
  cases ty with
  | nil => simp [tyB] at ht
  | cpx k => simp [tyB] at ht
  | cons a b =>
    simp only [tyB] at ht
    split at ht
    · rename_i fs hu
      obtain ⟨cs, e, _⟩ := okWide_struct hu hv
      exact ⟨cs, e⟩
    · cases ht
  | bool =>
    simp only [tyB] at ht
    split at ht
    · rename_i hu; obtain ⟨b, rfl⟩ := okWide_bool hu hv; rfl
    · cases ht
  | int k =>
    simp only [tyB] at ht
    split at ht
    · rename_i hu; obtain ⟨b, rfl⟩ := okWide_int hu hv; rfl
    · cases ht
  | flt k =>
    simp only [tyB] at ht
    split at ht
    · rename_i hu
      simp only [Value.okWide, hu, Cell.okWide] at hv
      cases v <;> first | rfl | (simp_all [Cell.ok]; done)
    · cases ht
  | str =>
    simp only [tyB] at ht
    split at ht
    · rename_i hu; obtain ⟨b, rfl⟩ := okWide_string hu hv; rfl
    · cases ht
  | slice e =>
    simp only [tyB] at ht
    split at ht
    · rename_i hu; obtain ⟨a, n, c, rfl⟩ := okWide_slice hu hv; rfl
    · cases ht
end

end Go.Proofs.Ytmmdjajebmihhaa.AM
