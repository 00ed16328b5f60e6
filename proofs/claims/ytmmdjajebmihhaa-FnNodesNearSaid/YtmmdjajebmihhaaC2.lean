/- The abstract machine: '==' of structs of whole numbers. Conditions: the check of the type passes. -/
import Derived.Test.YtmmdjajebmihhaaC1
namespace Go.Proofs.Ytmmdjajebmihhaa.AM
open Go
set_option linter.unusedVariables false

def eqFB (P : Program) : List Field → Nat → Bool
  | [], _ => true
  | f :: fs, off => Nat.beq f.offset off && decide (f.name ≠ "_") && (match P.info? f.type, P.underlying f.type with
      | some i, some d => Nat.beq i.size 1 && (match d with | .int _ => true | _ => false)
      | _, _ => false) && eqFB P fs (off + 1)

def eqB (P : Program) (t : Nat) : Bool := (match P.underlying t with
  | some (.struct fs) => eqFB P fs.toList 0 && (match P.info? t with | some i => Nat.beq i.size fs.size | none => false)
  | _ => false) && !P.stoodInHeld t && !P.eqGuardType P.depth t

theorem aggEq_len : ∀ {cs ds : List C} {b : Bool}, aggEq cs ds = some b → cs.length = ds.length ∧ (cs = [] → b = true) ∧
    ∀ (c d : C) (r r' : List C), cs = c :: r → ds = d :: r' → ∃ e b', aggEq r r' = some b' ∧ b = (e && b') ∧ ∃ k x y, c = .int k x ∧ d = .int k y ∧ e = (x == y)
  | [], [], b, h => by
    simp only [aggEq, Option.some.injEq] at h
    exact ⟨rfl, fun _ => h.symm, fun c d r r' e => by cases e⟩
  | [], _ :: _, b, h => by simp [aggEq] at h
  | c :: r, [], b, h => by cases c <;> simp [aggEq] at h
  | c :: r, d :: r', b, h => by
    have main : ∀ e, (match r, r' with | [], [] => some e | _, _ => match aggEq r r' with | some b' => some (e && b') | none => none) = some b → ∃ b', aggEq r r' = some b' ∧ b = (e && b') := by
      intro e he
      split at he
      · cases he; exact ⟨true, rfl, by simp⟩
      · split at he
        · rename_i b' hb; cases he; exact ⟨b', hb, rfl⟩
        · cases he
    cases c <;> cases d <;> first | (simp [aggEq] at h; done) | skip
    · rename_i k x k' y
      simp only [aggEq] at h
      split at h
      · rename_i hk
        have hk : k = k' := of_decide_eq_true hk
        subst hk
        obtain ⟨b', h1, h2⟩ := main (x == y) h
        have hl := (aggEq_len h1).1
        refine ⟨by simp [hl], fun e => (by cases e), fun c d q q' e e' => ?_⟩
        cases e; cases e'
        exact ⟨_, b', h1, h2, k, x, y, rfl, rfl, rfl⟩
      · cases h

section
variable {P : Program} {w : World} {β : Bt} {K : Ks}

theorem cell_part {t : TypeId} {fi : TypeInfo} {fd : TypeDesc} (hfi : P.info? t = some fi) (hfd : P.underlying t = some fd) (hag : aggD fd = false) (hs : fi.size = 1) {cs : List C} {arr : Array Value} {off : Nat} {c : C} {r : List C}
    (hc : All2 (CR β K) cs arr.toList) (hd : cs.drop off = c :: r) : ∃ v, (part t arr off).run P w = .ok v w ∧ CR β K c v :=
  run_part (P := P) (w := w) (u := .one c) false t hfi hfd hag hc (by rw [hs]; simp [takeN, hd, loadW])

theorem eqFields_ok (d : Nat) {xs ys : Array Value} {cs ds : List C} (hx : All2 (CR β K) cs xs.toList) (hy : All2 (CR β K) ds ys.toList) : ∀ (fs : List Field) (off : Nat) (b : Bool), eqFB P fs off = true → fs.length + off = cs.length → cs.length = ds.length → aggEq (cs.drop off) (ds.drop off) = some b →
    (Op.eqFields (d + 1) xs ys fs).run P w = .ok b w
  | [], off, b, _, hl, hl2, hq => by
    have h1 := (aggEq_len hq).2.1 (by rw [List.drop_eq_nil_iff]; simp at hl; omega)
    subst h1
    simp [Op.eqFields]
  | f :: fs, off, b, hf, hl, hl2, hq => by
    simp only [eqFB, Bool.and_eq_true] at hf
    obtain ⟨⟨⟨f1, f2⟩, f3⟩, f4⟩ := hf
    have f1 := nbeq_eq f1
    have f2 : f.name ≠ "_" := of_decide_eq_true f2
    simp only [List.length_cons] at hl
    have hlt : off < cs.length := by omega
    have hlt2 : off < ds.length := by omega
    have d1 : cs.drop off = cs[off] :: cs.drop (off + 1) := List.drop_eq_getElem_cons hlt
    have d2 : ds.drop off = ds[off] :: ds.drop (off + 1) := List.drop_eq_getElem_cons hlt2
    obtain ⟨e, b', g1, g2, g3⟩ := (aggEq_len hq).2.2 _ _ _ _ d1 d2
    split at f3
    case h_2 => cases f3
    rename_i i ud hi hu
    simp only [Bool.and_eq_true] at f3
    obtain ⟨f5, f6⟩ := f3
    have hag : aggD ud = false := by
      split at f6 <;> first | rfl | cases f6
    obtain ⟨v, r1, c1⟩ := cell_part (w := w) hi hu hag (nbeq_eq f5) hx d1
    obtain ⟨v', r2, c2⟩ := cell_part (w := w) hi hu hag (nbeq_eq f5) hy d2
    have heq : (Op.equalIn (d + 1) f.type v v').run P w = .ok e w := by
      obtain ⟨k, x, y, e1, e2, e3⟩ := g3
      rw [e1] at c1; rw [e2] at c2
      rw [show v = _ from c1, show v' = _ from c2, e3]
      split at f6
      · exact run_equalIn_int w d f.type k _ x y hu
      · cases f6
    have ih := eqFields_ok d hx hy fs (off + 1) b' f4 (by omega) hl2 g1
    rw [← f1] at r1 r2
    simp only [Op.eqFields]
    rw [if_pos f2]
    simp only [Sem.run_bind, r1, r2, heq, Result.andThen_ok]
    cases e with
    | false => simp [g2]
    | true =>
      simp only [Bool.not_true, Bool.false_eq_true, if_false]
      rw [ih, g2]
      simp
end

theorem eqB_ok {P : Program} {t : Nat} (h : eqB P t = true) : EqOK P t := by
  simp only [eqB, Bool.and_eq_true] at h
  obtain ⟨⟨h1, h2⟩, h3⟩ := h
  split at h1
  case h_2 => cases h1
  rename_i fs hu
  simp only [Bool.and_eq_true] at h1
  have hf : P.fieldsOf t = fs := by unfold Program.fieldsOf; rw [hu]
  refine ⟨by simpa using h3, fun cs ds xs ys b β K w hln hq hx hy => ?_⟩
  rw [run_equalIn_struct w 9999 t xs ys (by rw [hf]; exact hu) (by simpa using h2), hf]
  have hlen := (aggEq_len hq).1
  obtain ⟨h4, h5⟩ := h1
  split at h5
  · rename_i i hi
    have h6 := hln i hi
    have h7 := nbeq_eq h5
    exact eqFields_ok 9998 hx hy fs.toList 0 b h4 (by simp; omega) hlen (by simpa using hq)
  · cases h5

def eqsB (P : Program) (l : List Nat) : Bool := l.all (eqB P)

theorem eqsB_ok {P : Program} : ∀ {l : List Nat}, eqsB P l = true → AllP (EqOK P) l
  | [], _ => trivial
  | t :: r, h => by
    simp only [eqsB, List.all_cons, Bool.and_eq_true] at h
    exact ⟨eqB_ok h.1, eqsB_ok h.2⟩

end Go.Proofs.Ytmmdjajebmihhaa.AM
