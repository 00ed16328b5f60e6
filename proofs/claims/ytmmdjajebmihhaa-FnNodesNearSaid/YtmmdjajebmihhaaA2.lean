/- The abstract machine: how its states stand to the model's worlds. Conditions: those that each lemma names. -/
import Derived.Test.YtmmdjajebmihhaaA1
import Derived.Laws.CopyRow
import Derived.Laws.AppendOwn
import Derived.WalkKit
namespace Go.Proofs.Ytmmdjajebmihhaa.AM
open Go

/-! ## Lists side by side -/

def All2 {α β : Type} (R : α → β → Prop) : List α → List β → Prop
  | [], [] => True
  | a :: as, b :: bs => R a b ∧ All2 R as bs
  | _, _ => False

theorem All2.length {α β : Type} {R : α → β → Prop} : ∀ {as : List α} {bs : List β}, All2 R as bs → as.length = bs.length
  | [], [], _ => rfl
  | _ :: _, _ :: _, h => by simp [h.2.length]
  | [], _ :: _, h => h.elim
  | _ :: _, [], h => h.elim

theorem All2.mono {α β : Type} {R R' : α → β → Prop} (hr : ∀ a b, R a b → R' a b) : ∀ {as : List α} {bs : List β}, All2 R as bs → All2 R' as bs
  | [], [], _ => trivial
  | _ :: _, _ :: _, h => ⟨hr _ _ h.1, h.2.mono hr⟩
  | [], _ :: _, h => h.elim
  | _ :: _, [], h => h.elim

theorem All2.mono_mem {α β : Type} {R R' : α → β → Prop} : ∀ {as : List α} {bs : List β}, (∀ a b, a ∈ as → R a b → R' a b) → All2 R as bs → All2 R' as bs
  | [], [], _, _ => trivial
  | _ :: _, _ :: _, hr, h => ⟨hr _ _ (List.mem_cons_self ..) h.1, All2.mono_mem (fun a b ha => hr a b (List.mem_cons_of_mem _ ha)) h.2⟩
  | [], _ :: _, _, h => h.elim
  | _ :: _, [], _, h => h.elim

theorem All2.append {α β : Type} {R : α → β → Prop} : ∀ {as : List α} {bs : List β} {as' : List α} {bs' : List β}, All2 R as bs → All2 R as' bs' → All2 R (as ++ as') (bs ++ bs')
  | [], [], _, _, _, h' => h'
  | _ :: _, _ :: _, _, _, h, h' => ⟨h.1, h.2.append h'⟩
  | [], _ :: _, _, _, h, _ => h.elim
  | _ :: _, [], _, _, h, _ => h.elim

theorem All2.split {α β : Type} {R : α → β → Prop} : ∀ {as as' : List α} {bs : List β}, All2 R (as ++ as') bs → ∃ b1 b2, bs = b1 ++ b2 ∧ All2 R as b1 ∧ All2 R as' b2
  | [], _, bs, h => ⟨[], bs, rfl, trivial, h⟩
  | _ :: as, as', b :: bs, h => by
    obtain ⟨b1, b2, rfl, h1, h2⟩ := All2.split (as := as) h.2
    exact ⟨b :: b1, b2, rfl, ⟨h.1, h1⟩, h2⟩
  | _ :: _, _, [], h => h.elim

theorem All2.drop {α β : Type} {R : α → β → Prop} : ∀ (n : Nat) {as : List α} {bs : List β}, All2 R as bs → All2 R (as.drop n) (bs.drop n)
  | 0, _, _, h => h
  | _ + 1, [], [], h => h
  | n + 1, _ :: _, _ :: _, h => All2.drop n h.2
  | _ + 1, [], _ :: _, h => h.elim
  | _ + 1, _ :: _, [], h => h.elim

theorem All2.take {α β : Type} {R : α → β → Prop} : ∀ (n : Nat) {as : List α} {bs : List β}, All2 R as bs → All2 R (as.take n) (bs.take n)
  | 0, _, _, _ => trivial
  | _ + 1, [], [], h => h
  | n + 1, _ :: _, _ :: _, h => ⟨h.1, All2.take n h.2⟩
  | _ + 1, [], _ :: _, h => h.elim
  | _ + 1, _ :: _, [], h => h.elim

theorem All2.get? {α β : Type} {R : α → β → Prop} : ∀ {as : List α} {bs : List β} {i : Nat} {a : α}, All2 R as bs → as[i]? = some a → ∃ b, bs[i]? = some b ∧ R a b
  | _ :: _, b :: _, 0, _, h, he => by
    simp only [List.getElem?_cons_zero, Option.some.injEq] at he
    subst he
    exact ⟨b, rfl, h.1⟩
  | _ :: as, _ :: bs, i + 1, a, h, he => by
    simp only [List.getElem?_cons_succ] at he ⊢
    exact All2.get? h.2 he
  | [], [], _, _, _, he => by simp at he
  | [], _ :: _, _, _, h, _ => h.elim
  | _ :: _, [], _, _, h, _ => h.elim

theorem All2.get?' {α β : Type} {R : α → β → Prop} {as : List α} {bs : List β} {i : Nat} {b : β} (h : All2 R as bs) (he : bs[i]? = some b) : ∃ a, as[i]? = some a ∧ R a b := by
  have hl := h.length
  have hi : i < as.length := by rw [hl]; exact (List.getElem?_eq_some_iff.1 he).1
  obtain ⟨b', hb, hr⟩ := h.get? (List.getElem?_eq_getElem hi)
  rw [he] at hb
  cases hb
  exact ⟨_, List.getElem?_eq_getElem hi, hr⟩

theorem All2.of_get {α β : Type} {R : α → β → Prop} : ∀ {as : List α} {bs : List β}, as.length = bs.length → (∀ (i : Nat) a b, as[i]? = some a → bs[i]? = some b → R a b) → All2 R as bs
  | [], [], _, _ => trivial
  | a :: as, b :: bs, hl, h => ⟨h 0 a b rfl rfl, All2.of_get (by simpa using hl) fun i x y hx hy => h (i + 1) x y (by simpa using hx) (by simpa using hy)⟩
  | [], _ :: _, hl, _ => by simp at hl
  | _ :: _, [], hl, _ => by simp at hl

/-! ## Values -/

/-- What is known of a key: the value that leads to it, and the block that is its own. -/
structure Hd where
  v : Value
  b : Option Nat

abbrev Bt := Nat → Option Hd
abbrev Ks := Nat → Option (Array Value)

def isNaN (k : FloatKind) (b : Nat) : Bool := (k.decode b).isNaN
def FEq (k : FloatKind) (a b : Nat) : Prop := a = b ∨ (isNaN k a = true ∧ isNaN k b = true)

theorem FEq.refl (k : FloatKind) (a : Nat) : FEq k a a := .inl rfl

def sub (arr : List Value) (off n : Nat) : List Value := (arr.drop off).take n

/-- A typed value, and the cells that hold it; 'K': the blocks that nobody writes. -/
def DR (K : Ks) : (t : Ty) → Den t → List Value → Prop
  | .bool, b, vs => vs = [.bool b]
  | .int k, n, vs => vs = [.int k n]
  | .flt k, b, vs => ∃ b', vs = [.float k b'] ∧ FEq k b b'
  | .cpx k, p, vs => ∃ a b, vs = [.complex k a b] ∧ FEq k p.1 a ∧ FEq k p.2 b
  | .str, s, vs => vs = [.string s]
  | .slice t, l, vs => ∃ a n c, vs = [.slice a n c] ∧ n = l.length ∧ n ≤ c ∧
      (n = 0 ∨ ∃ b o arr, a = some ⟨b, o, none⟩ ∧ K b = some arr ∧ ∀ i (h : i < l.length), DR K t l[i] (sub arr.toList (o + i * t.size) t.size))
  | .nil, _, vs => vs = []
  | .cons a b, p, vs => ∃ v1 v2, vs = v1 ++ v2 ∧ DR K a p.1 v1 ∧ DR K b p.2 v2

def KLe (K K' : Ks) : Prop := ∀ b arr, K b = some arr → K' b = some arr
theorem KLe.refl (K : Ks) : KLe K K := fun _ _ h => h
theorem KLe.trans {K K' K'' : Ks} (h : KLe K K') (h' : KLe K' K'') : KLe K K'' := fun b arr e => h' b arr (h b arr e)

theorem DR.mono {K K' : Ks} (h : KLe K K') : ∀ (t : Ty) {x : Den t} {vs : List Value}, DR K t x vs → DR K' t x vs := by
  intro t
  induction t with
  | slice t ih =>
    rintro x vs ⟨a, n, c, e, hn, hc, hr⟩
    refine ⟨a, n, c, e, hn, hc, hr.imp id ?_⟩
    rintro ⟨b, o, arr, ha, hb, hi⟩
    exact ⟨b, o, arr, ha, h _ _ hb, fun i hl => ih (hi i hl)⟩
  | cons a b iha ihb =>
    rintro x vs ⟨v1, v2, e, h1, h2⟩
    exact ⟨v1, v2, e, iha h1, ihb h2⟩
  | _ => exact fun h => h

theorem DR.flat {K K' : Ks} : ∀ (t : Ty) {x : Den t} {vs : List Value}, flatT t = true → DR K t x vs → DR K' t x vs := by
  intro t
  induction t with
  | slice t ih => intro x vs h; simp [flatT] at h
  | cons a b iha ihb =>
    intro x vs h
    simp only [flatT, Bool.and_eq_true] at h
    rintro ⟨v1, v2, e, h1, h2⟩
    exact ⟨v1, v2, e, iha h.1 h1, ihb h.2 h2⟩
  | _ => exact fun _ h => h

theorem DR.length {K : Ks} : ∀ (t : Ty) {x : Den t} {vs : List Value}, DR K t x vs → vs.length = t.size := by
  intro t
  induction t with
  | cons a b iha ihb =>
    rintro x vs ⟨v1, v2, rfl, h1, h2⟩
    simp [Ty.size, iha h1, ihb h2]
  | nil => rintro x vs rfl; rfl
  | bool => rintro x vs rfl; rfl
  | int k => rintro x vs rfl; rfl
  | flt k => rintro x vs ⟨_, rfl, _⟩; rfl
  | cpx k => rintro x vs ⟨_, _, rfl, _⟩; rfl
  | str => rintro x vs rfl; rfl
  | slice t ih => rintro x vs ⟨_, _, _, rfl, _⟩; rfl

theorem DR.oneCell {K : Ks} : ∀ (t : Ty) {x : Den t} {vs : List Value}, DR K t x vs → ∀ v ∈ vs, v.oneCell' = true := by
  intro t
  induction t with
  | cons a b iha ihb =>
    rintro x vs ⟨v1, v2, rfl, h1, h2⟩ v hv
    rcases List.mem_append.1 hv with hv | hv
    · exact iha h1 v hv
    · exact ihb h2 v hv
  | nil => rintro x vs rfl v hv; simp at hv
  | bool => rintro x vs rfl v hv; simp at hv; subst hv; rfl
  | int k => rintro x vs rfl v hv; simp at hv; subst hv; rfl
  | flt k => rintro x vs ⟨_, rfl, _⟩ v hv; simp at hv; subst hv; rfl
  | cpx k => rintro x vs ⟨_, _, rfl, _⟩ v hv; simp at hv; subst hv; rfl
  | str => rintro x vs rfl v hv; simp at hv; subst hv; rfl
  | slice t ih => rintro x vs ⟨_, _, _, rfl, _⟩ v hv; simp at hv; subst hv; rfl

/-- A pointer to a cell of a variable. -/
def PR (β : Bt) (k off : Nat) (v : Value) : Prop := ∃ h b, β k = some h ∧ h.v = .pointer (some ⟨b, 0, none⟩) ∧ v = .pointer (some ⟨b, off, none⟩)

def CR (β : Bt) (K : Ks) : C → Value → Prop
  | .pois, _ => True
  | .bool b, v => v = .bool b
  | .int k n, v => v = .int k n
  | .flt k b, v => ∃ b', v = .float k b' ∧ FEq k b b'
  | .cpx k a b, v => ∃ a' b', v = .complex k a' b' ∧ FEq k a a' ∧ FEq k b b'
  | .str s, v => v = .string s
  | .nil _, v => ∃ a, v = .slice a 0 0
  | .sl t l, v => DR K (.slice t) l [v]
  | .ref _ k, v => ∃ h a n c, β k = some h ∧ h.v = .slice a n c ∧ v = .slice a n c
  | .ptr k off, v => PR β k off v
  | .eptr k t i off, v => ∃ h b n c, β k = some h ∧ h.v = .slice (some ⟨b, 0, none⟩) n c ∧ i < n ∧ v = .pointer (some ⟨b, i * t.size + off, none⟩)
  | .rptr t l i off, v => i < l.length ∧ ∃ b o arr, K b = some arr ∧ (∀ i (h : i < l.length), DR K t l[i] (sub arr.toList (o + i * t.size) t.size)) ∧ v = .pointer (some ⟨b, o + i * t.size + off, none⟩)
  | .fn f caps, v => ∃ cs : List Value, v = .func (.func f) #[] cs.toArray ∧ All2 (fun k u => PR β k 0 u) caps cs

def BLe (β β' : Bt) : Prop := ∀ k h, β k = some h → β' k = some h
theorem BLe.refl (β : Bt) : BLe β β := fun _ _ h => h
theorem BLe.trans {β β' β'' : Bt} (h : BLe β β') (h' : BLe β' β'') : BLe β β'' := fun k x e => h' k x (h k x e)

theorem PR.mono {β β' : Bt} (hb : BLe β β') {k off : Nat} {v : Value} (h : PR β k off v) : PR β' k off v := by
  obtain ⟨h, b, h1, h2, h3⟩ := h
  exact ⟨h, b, hb _ _ h1, h2, h3⟩

theorem CR.mono {β β' : Bt} {K K' : Ks} (hb : BLe β β') (hk : KLe K K') {c : C} {v : Value} (h : CR β K c v) : CR β' K' c v := by
  cases c with
  | sl t l => exact DR.mono hk _ h
  | ref t k => obtain ⟨x, a, n, c, h1, h2⟩ := h; exact ⟨x, a, n, c, hb _ _ h1, h2⟩
  | ptr k o => exact PR.mono hb h
  | eptr k t i o => obtain ⟨x, b, n, c, h1, h2⟩ := h; exact ⟨x, b, n, c, hb _ _ h1, h2⟩
  | rptr t l i o =>
    obtain ⟨hi, b, o', arr, h1, h2, h3⟩ := h
    exact ⟨hi, b, o', arr, hk _ _ h1, fun j hj => DR.mono hk _ (h2 j hj), h3⟩
  | fn f caps => obtain ⟨cs, h1, h2⟩ := h; exact ⟨cs, h1, h2.mono fun _ _ => PR.mono hb⟩
  | _ => exact h

theorem CR.oneCell {β : Bt} {K : Ks} {c : C} {v : Value} (hs : sure c = true) (h : CR β K c v) : v.oneCell' = true := by
  cases c with
  | pois => simp [sure] at hs
  | bool b => rw [show v = _ from h]; rfl
  | int k n => rw [show v = _ from h]; rfl
  | flt k b => obtain ⟨_, rfl, _⟩ := h; rfl
  | cpx k a b => obtain ⟨_, _, rfl, _⟩ := h; rfl
  | str s => rw [show v = _ from h]; rfl
  | nil t => obtain ⟨_, rfl⟩ := h; rfl
  | sl t l => exact DR.oneCell _ h v (by simp)
  | ref t k => obtain ⟨_, _, _, _, _, _, rfl⟩ := h; rfl
  | ptr k o => obtain ⟨_, _, _, _, rfl⟩ := h; rfl
  | eptr k t i o => obtain ⟨_, _, _, _, _, _, _, rfl⟩ := h; rfl
  | rptr t l i o => obtain ⟨_, _, _, _, _, _, rfl⟩ := h; rfl
  | fn f caps => obtain ⟨_, rfl, _⟩ := h; rfl

def WR (β : Bt) (K : Ks) : W → Value → Prop
  | .one c, v => CR β K c v
  | .agg cs, v => ∃ arr : Array Value, v = .agg arr ∧ All2 (CR β K) cs arr.toList

def VR (β : Bt) (K : Ks) : V → Value → Prop
  | .val w, v => WR β K w v
  | .tup ws, v => ∃ arr : Array Value, v = .tuple arr ∧ All2 (WR β K) ws arr.toList

theorem WR.mono {β β' : Bt} {K K' : Ks} (hb : BLe β β') (hk : KLe K K') {w : W} {v : Value} (h : WR β K w v) : WR β' K' w v := by
  cases w with
  | one c => exact CR.mono hb hk h
  | agg cs => obtain ⟨arr, e, h⟩ := h; exact ⟨arr, e, h.mono fun _ _ => CR.mono hb hk⟩

theorem VR.mono {β β' : Bt} {K K' : Ks} (hb : BLe β β') (hk : KLe K K') {w : V} {v : Value} (h : VR β K w v) : VR β' K' w v := by
  cases w with
  | val w => exact WR.mono hb hk h
  | tup ws => obtain ⟨arr, e, h⟩ := h; exact ⟨arr, e, h.mono fun _ _ => WR.mono hb hk⟩

/-- The cells of an operand, where all of them are sure. -/
theorem WR.cells {β : Bt} {K : Ks} {w : W} {v : Value} (hs : w.cells.all sure = true) (h : WR β K w v) : All2 (CR β K) w.cells v.cells.toList := by
  cases w with
  | one c =>
    have hc : sure c = true := by simpa [W.cells] using hs
    have h1 := CR.oneCell hc h
    have hv : v.cells = #[v] := by cases v <;> simp_all [Value.cells, Value.oneCell']
    rw [hv]
    exact ⟨h, trivial⟩
  | agg cs => obtain ⟨arr, rfl, h⟩ := h; exact h

theorem All2.oneCell {β : Bt} {K : Ks} : ∀ {cs : List C} {vs : List Value}, cs.all sure = true → All2 (CR β K) cs vs → ∀ v ∈ vs, v.oneCell' = true
  | [], [], _, _ => by simp
  | c :: cs, v :: vs, hs, h => by
    simp only [List.all_cons, Bool.and_eq_true] at hs
    intro x hx
    rcases List.mem_cons.1 hx with rfl | hx
    · exact CR.oneCell hs.1 h.1
    · exact All2.oneCell hs.2 h.2 x hx
  | [], _ :: _, _, h => h.elim
  | _ :: _, [], _, h => h.elim

/-! ## Typed values as cells, and back -/

theorem enc_size : ∀ (t : Ty) (x : Den t), (enc t x).length = t.size := by
  intro t
  induction t with
  | cons a b iha ihb => intro x; simp [enc, Ty.size, iha, ihb]
  | _ => intro x; rfl

theorem enc_sure : ∀ (t : Ty) (x : Den t), (enc t x).all sure = true := by
  intro t
  induction t with
  | cons a b iha ihb => intro x; simp only [enc, List.all_append, iha, ihb, Bool.and_self]
  | _ => intro x; rfl

theorem DR.enc {β : Bt} {K : Ks} : ∀ (t : Ty) {x : Den t} {vs : List Value}, DR K t x vs → All2 (CR β K) (AM.enc t x) vs := by
  intro t
  induction t with
  | cons a b iha ihb =>
    rintro x vs ⟨v1, v2, rfl, h1, h2⟩
    exact (iha h1).append (ihb h2)
  | nil => rintro x vs rfl; trivial
  | bool => rintro x vs rfl; exact ⟨rfl, trivial⟩
  | int k => rintro x vs rfl; exact ⟨rfl, trivial⟩
  | flt k => rintro x vs ⟨b, rfl, h⟩; exact ⟨⟨b, rfl, h⟩, trivial⟩
  | cpx k => rintro x vs ⟨a, b, rfl, h, h'⟩; exact ⟨⟨a, b, rfl, h, h'⟩, trivial⟩
  | str => rintro x vs rfl; exact ⟨rfl, trivial⟩
  | slice t ih =>
    rintro x vs h
    obtain ⟨a, n, c, rfl, h⟩ := h
    exact ⟨⟨a, n, c, rfl, h⟩, trivial⟩

theorem dec_DR {β : Bt} {K : Ks} : ∀ (t : Ty) {cs r : List C} {x : Den t} {vs : List Value}, dec t cs = some (x, r) → All2 (CR β K) cs vs →
    ∃ v1 v2, vs = v1 ++ v2 ∧ DR K t x v1 ∧ All2 (CR β K) r v2 := by
  intro t
  induction t with
  | cons a b iha ihb =>
    intro cs r x vs hd h
    simp only [dec] at hd
    split at hd
    · rename_i y r' h1
      split at hd
      · rename_i z r'' h2
        simp only [Option.some.injEq, Prod.mk.injEq] at hd
        obtain ⟨rfl, rfl⟩ := hd
        obtain ⟨v1, v2, rfl, d1, h⟩ := iha h1 h
        obtain ⟨v3, v4, rfl, d2, h⟩ := ihb h2 h
        exact ⟨v1 ++ v3, v4, by simp, ⟨v1, v3, rfl, d1, d2⟩, h⟩
      · cases hd
    · cases hd
  | nil =>
    intro cs r x vs hd h
    simp only [dec, Option.some.injEq, Prod.mk.injEq] at hd
    obtain ⟨-, rfl⟩ := hd
    exact ⟨[], vs, rfl, rfl, h⟩
  | bool =>
    intro cs r x vs hd h
    cases cs with
    | nil => simp [dec] at hd
    | cons c cs => cases c <;> simp [dec] at hd
                   cases vs with
                   | nil => exact h.elim
                   | cons v vs =>
                     obtain ⟨rfl, rfl⟩ := hd
                     obtain ⟨h1, h2⟩ := h
                     exact ⟨[v], vs, rfl, by rw [show v = _ from h1]; rfl, h2⟩
  | int k =>
    intro cs r x vs hd h
    cases cs with
    | nil => simp [dec] at hd
    | cons c cs => cases c <;> simp [dec] at hd
                   cases vs with
                   | nil => exact h.elim
                   | cons v vs =>
                     obtain ⟨rfl, rfl, rfl⟩ := hd
                     obtain ⟨h1, h2⟩ := h
                     exact ⟨[v], vs, rfl, by rw [show v = _ from h1]; rfl, h2⟩
  | flt k =>
    intro cs r x vs hd h
    cases cs with
    | nil => simp [dec] at hd
    | cons c cs => cases c <;> simp [dec] at hd
                   cases vs with
                   | nil => exact h.elim
                   | cons v vs =>
                     obtain ⟨rfl, rfl, rfl⟩ := hd
                     obtain ⟨⟨b', rfl, h1⟩, h2⟩ := h
                     exact ⟨[_], vs, rfl, ⟨b', rfl, h1⟩, h2⟩
  | cpx k =>
    intro cs r x vs hd h
    cases cs with
    | nil => simp [dec] at hd
    | cons c cs => cases c <;> simp [dec] at hd
                   cases vs with
                   | nil => exact h.elim
                   | cons v vs =>
                     obtain ⟨rfl, rfl, rfl⟩ := hd
                     obtain ⟨⟨a', b', rfl, h1, h3⟩, h2⟩ := h
                     exact ⟨[_], vs, rfl, ⟨a', b', rfl, h1, h3⟩, h2⟩
  | str =>
    intro cs r x vs hd h
    cases cs with
    | nil => simp [dec] at hd
    | cons c cs => cases c <;> simp [dec] at hd
                   cases vs with
                   | nil => exact h.elim
                   | cons v vs =>
                     obtain ⟨rfl, rfl⟩ := hd
                     obtain ⟨h1, h2⟩ := h
                     exact ⟨[v], vs, rfl, by rw [show v = _ from h1]; rfl, h2⟩
  | slice t ih =>
    intro cs r x vs hd h
    cases cs with
    | nil => simp [dec] at hd
    | cons c cs =>
      cases c with
      | sl t' l =>
        simp only [dec] at hd
        split at hd
        · rename_i e _
          subst e
          simp only [Option.some.injEq, Prod.mk.injEq] at hd
          obtain ⟨rfl, rfl⟩ := hd
          cases vs with
          | nil => exact h.elim
          | cons v vs => exact ⟨[v], vs, rfl, h.1, h.2⟩
        · cases hd
      | nil t' =>
        simp only [dec, Option.some.injEq, Prod.mk.injEq] at hd
        obtain ⟨rfl, rfl⟩ := hd
        cases vs with
        | nil => exact h.elim
        | cons v vs =>
          obtain ⟨⟨a, rfl⟩, h2⟩ := h
          exact ⟨[_], vs, rfl, ⟨a, 0, 0, rfl, rfl, Nat.le_refl _, .inl rfl⟩, h2⟩
      | _ => simp [dec] at hd

/-! ## Blocks and memory -/

def BR (β : Bt) (K : Ks) : Blk → Hd → World → Prop
  | .box cs, h, w => ∃ b arr T, h = ⟨.pointer (some ⟨b, 0, none⟩), some b⟩ ∧ w.heap[b]? = some (.cells arr T (0, 0)) ∧ All2 (CR β K) cs arr.toList
  | .arr t l, h, w => (l = [] ∧ ∃ a, h = ⟨.slice a 0 0, none⟩) ∨
      ∃ b cap cur T, h = ⟨.slice (some ⟨b, 0, none⟩) l.length cap, some b⟩ ∧ w.heap[b]? = some (.cells cur T (0, 0)) ∧ l.length ≤ cap ∧ cap ≤ maxLen ∧ cur.size = cap * t.size ∧
        ∀ i (h : i < l.length), DR K t l[i] (sub cur.toList (i * t.size) t.size)

def KOK (K : Ks) (w : World) : Prop := ∀ b arr, K b = some arr → ∃ T fz, w.heap[b]? = some (.cells arr T fz)

structure MR (β : Bt) (K : Ks) (get : Get) (w : World) : Prop where
  blk : ∀ k b, get k = some b → ∃ h, β k = some h ∧ BR β K b h w
  sep : ∀ k k' b b' h h' x, get k = some b → get k' = some b' → β k = some h → β k' = some h' → h.b = some x → h'.b = some x → k = k'
  ro : ∀ k b h x, get k = some b → β k = some h → h.b = some x → K x = none

/-- The blocks that are the call's own. -/
def Own (β : Bt) (get : Get) (x : Nat) : Prop := ∃ k b h, get k = some b ∧ β k = some h ∧ h.b = some x

structure Fr (S : Nat → Prop) (w0 w : World) : Prop where
  os : w.os = w0.os
  tape : w.tape = w0.tape
  output : w.output = w0.output
  size : w0.heap.size ≤ w.heap.size
  block : ∀ b, b < w0.heap.size → ¬ S b → w.heap[b]? = w0.heap[b]?

theorem Fr.refl (S : Nat → Prop) (w : World) : Fr S w w := ⟨rfl, rfl, rfl, Nat.le_refl _, fun _ _ _ => rfl⟩
theorem Fr.trans {S S' : Nat → Prop} {a b c : World} (h : Fr S a b) (h' : Fr S' b c) (hs : ∀ x, x < a.heap.size → S' x → S x) : Fr S a c :=
  ⟨h'.os.trans h.os, h'.tape.trans h.tape, h'.output.trans h.output, Nat.le_trans h.size h'.size, fun k hk hn =>
    (h'.block k (Nat.lt_of_lt_of_le hk h.size) fun e => hn (hs k hk e)).trans (h.block k hk hn)⟩

theorem BR.mono {β β' : Bt} {K K' : Ks} (hb : BLe β β') (hk : KLe K K') {b : Blk} {h : Hd} {w : World} (hr : BR β K b h w) : BR β' K' b h w := by
  cases b with
  | box cs => obtain ⟨x, arr, T, e, hh, hc⟩ := hr; exact ⟨x, arr, T, e, hh, hc.mono fun _ _ => CR.mono hb hk⟩
  | arr t l =>
    rcases hr with hr | ⟨x, cap, cur, T, e, hh, h1, h2, h3, h4⟩
    · exact .inl hr
    · exact .inr ⟨x, cap, cur, T, e, hh, h1, h2, h3, fun i hi => DR.mono hk _ (h4 i hi)⟩

theorem BR.world {β : Bt} {K : Ks} {b : Blk} {h : Hd} {w w' : World} (hr : BR β K b h w) (hw : ∀ x, h.b = some x → w'.heap[x]? = w.heap[x]?) : BR β K b h w' := by
  cases b with
  | box cs => obtain ⟨x, arr, T, rfl, hh, hc⟩ := hr; exact ⟨x, arr, T, rfl, by rw [hw x rfl]; exact hh, hc⟩
  | arr t l =>
    rcases hr with hr | ⟨x, cap, cur, T, rfl, hh, h1⟩
    · exact .inl hr
    · exact .inr ⟨x, cap, cur, T, rfl, by rw [hw x rfl]; exact hh, h1⟩

theorem BR.lt {β : Bt} {K : Ks} {b : Blk} {h : Hd} {w : World} (hr : BR β K b h w) {x : Nat} (hx : h.b = some x) : x < w.heap.size := by
  cases b with
  | box cs => obtain ⟨y, arr, T, rfl, hh, hc⟩ := hr; cases hx; exact (Array.getElem?_eq_some_iff.1 hh).1
  | arr t l =>
    rcases hr with ⟨_, a, rfl⟩ | ⟨y, cap, cur, T, rfl, hh, h1⟩
    · cases hx
    · cases hx; exact (Array.getElem?_eq_some_iff.1 hh).1

theorem KOK.lt {K : Ks} {w : World} (h : KOK K w) {b : Nat} {arr : Array Value} (e : K b = some arr) : b < w.heap.size := by
  obtain ⟨T, fz, hh⟩ := h b arr e
  exact (Array.getElem?_eq_some_iff.1 hh).1

end Go.Proofs.Ytmmdjajebmihhaa.AM
