/- The abstract machine: evaluation where the language leaves an answer open: for all answers alike. Conditions: those that each lemma names. -/
import Derived.Test.YtbgkhcoeifbgkaaN0
namespace Go.Proofs.Ytbgkhcoeifbgkaa.AM
open Go
set_option linter.unusedVariables false

/-- What holds of the one answer for all of a family. -/
def AllSpec {ι R : Type} (F : (ι → Option R) → Option R) : Prop := (∀ f r, F f = some r → ∀ z, f z = some r) ∧ (Nonempty ι → ∀ f r, (∀ z, f z = some r) → F f = some r)
instance {ι R : Type} : Nonempty { F : (ι → Option R) → Option R // AllSpec F } := by
  classical
  refine ⟨⟨fun f => if h : ∃ r, ∀ z, f z = some r then some h.choose else none, fun f r h => ?_, fun ⟨z⟩ f r h => ?_⟩⟩
  · dsimp only at h
    split at h
    · rename_i hx
      cases h
      exact hx.choose_spec
    · cases h
  · have hx : ∃ r, ∀ z, f z = some r := ⟨r, h⟩
    dsimp only
    rw [dif_pos hx]
    exact (hx.choose_spec z).symm.trans (h z)
/-- One answer for all of a family, where all agree. -/
@[irreducible] noncomputable def allS (ι R : Type) : { F : (ι → Option R) → Option R // AllSpec F } := Classical.choice inferInstance
noncomputable def allK {ι R : Type} (f : ι → Option R) : Option R := (allS ι R).1 f

theorem allK_spec {ι R : Type} {f : ι → Option R} {r : R} (h : allK f = some r) : ∀ z, f z = some r := (allS ι R).2.1 f r h
theorem allK_intro {ι R : Type} [inh : Nonempty ι] {f : ι → Option R} {r : R} (h : ∀ z, f z = some r) : allK f = some r := (allS ι R).2.2 inh f r h

def Env.withSem (Γ : Env) (f : Nat) (sm : Mean) : Env := { Γ with sem := fun g => match Nat.beq f g with | true => some sm | false => Γ.sem g }

/-- A single's bits. -/
def Bits32 : Type := { z : Nat // z < 4294967296 }

inductive Alt where
  | no
  | call (f : Nat) (fam : Fam)
  | narrow (b : Nat)

def altConv (si : Option TI) (di : Option TI) (v : V) : Alt := match si, di, v with
  | some _, some di, .val (.one (.flt s b)) => match s with
    | .f64 => match di.sort with
      | .float d => match d with
        | .f32 => .narrow b
        | _ => .no
      | _ => .no
    | _ => .no
  | _, _, _ => .no

def altOf (Γ : Env) (N : Nat → Option Fam) (o : Oper) (ρ : Operand → V) : Alt := match o.guard with
  | some _ => .no
  | none => match o.op with
    | .call c => match c.callee with
      | .value x => match x with
        | .func f => match N f with
          | some fam => .call f fam
          | none => .no
        | _ => .no
      | _ => .no
    | .convert src dst x => altConv (Γ.tab src) (Γ.tab dst) (ρ x)
    | _ => .no

noncomputable def opsN {R : Type} (Γ : Env) (N : Nat → Option Fam) (ops : Array Oper) : List Oper → (St → Option R) → St → Option R
  | [], K, s => K s
  | o :: rest, K, s => match altOf Γ N o s.val with
    | .no => opsK Γ ops [o] s [] (fun s' _ => opsN Γ N ops rest K s')
    | .call f fam => allK fun z : fam.ι => runK (Γ.withSem f (fam.mean z)) o (fun s' _ => opsN Γ N ops rest K s') s
    | .narrow b => match narrowOk b with
      | true => opsK Γ ops [o] s [] (fun s' _ => opsN Γ N ops rest K s')
      | false => match dstOk Γ o.dst with
        | true => allK fun z : Bits32 => opsN Γ N ops rest K (s.putO o.dst (.val (.one (.flt .f32 z.1))))
        | false => none

theorem run_narrow (P : Program) {b b' : Nat} (h : FEq .f64 b b') (hb : narrowOk b = false) (w : World) :
    ∃ (r : Nat) (w' : World), r < 4294967296 ∧ (Conv.floatToFloat .f64 b' .f32).run P w = .ok (.float .f32 r) w' ∧ Still w w' := by
  unfold narrowOk at hb
  rw [Bool.not_eq_false'] at hb
  split at hb
  · rename_i s m e hdec
    have he : b = b' := by
      rcases h with h | ⟨h1, _⟩
      · exact h
      · obtain ⟨sg, f, hr⟩ := decode_nan h1
        unfold FloatKind.decode at hdec
        rw [hr] at hdec
        cases hdec
    subst he
    unfold Conv.floatToFloat
    rw [if_neg (by decide), hdec]
    dsimp only
    rw [if_pos hb]
    refine ⟨_, _, ?_, by simp only [Sem.run_bind, run_choose, Question.forced, Sem.run_pure]; rfl, drawn_still w⟩
    exact Nat.mod_lt _ (by decide)
  · cases hb

section
variable {P : Program} {Γ : Env} {z : Start} {ops : Array Oper} {N : Nat → Option Fam}

/-- A narrowing whose answer is open. -/
theorem ok_narrow {β : Bt} {K : Ks} {get : Get} {n : Nat} {w : World} {ρ : Operand → V} {a : Act} {o : Oper} (h : Pre P Γ β K get n w ρ a) {b : Nat} (ha : altOf Γ N o ρ = .narrow b) (hb : narrowOk b = false) :
    StepOK P o a w (fun v w' => ∃ z : Bits32, PostE β K get n w ⟨true, .val (.one (.flt .f32 z.1)), [], n⟩ v w') := by
  unfold altOf at ha
  split at ha
  · cases ha
  split at ha
  · split at ha
    · split at ha
      · split at ha <;> cases ha
      · cases ha
    · cases ha
  · rename_i src dst x ho
    unfold altConv at ha
    split at ha
    case h_2 => cases ha
    rename_i si di s b1 hs hd hx
    split at ha
    case h_2 => cases ha
    split at ha
    case h_2 => cases ha
    rename_i d hk
    split at ha
    case h_2 => cases ha
    cases ha
    obtain ⟨_, d1, _, _, hd1, _⟩ := (h.env.tab src si hs).ex
    obtain ⟨_, d2, _, _, hd2, _, _, _, _, _, hso, _⟩ := (h.env.tab dst di hd).ex
    have hv := h.one hx
    obtain ⟨b', he, hf⟩ := hv
    simp only [SrtOk, hk] at hso
    subst hso
    have exec : ∀ v w', (convert src dst (a.eval x)).run P w = .ok v w' → (execOp a.eval o).run P w = .ok (.value v) w' := fun v w' hr =>
      exec_v (s := convert src dst (a.eval x)) (by simp [execOp, ho]) hr
    rw [he] at exec
    obtain ⟨r, w', h1, h2, h3⟩ := run_narrow P hf hb w
    have hp : pure1 n true (.one (.flt .f32 r)) = some ⟨true, .val (.one (.flt .f32 r)), [], n⟩ := rfl
    intro next Q hn
    refine (h.pure1 hp (u := .float .f32 r) ⟨_, rfl, .inl rfl⟩ (exec _ w' ?_) h3) next Q fun v w2 hpost => hn v w2 ⟨⟨r, h1⟩, hpost⟩
    simp [convert, run_underlying hd1, run_underlying hd2, h2]
  · cases ha

theorem act_callN {Γ : Env} {o : Oper} {c : Call} {f : Nat} {T : Nat → V} {G : Get} {n : Nat} (ho : o.op = .call c) (hc : c.callee = .value (.func f)) :
    act Γ o (valT T) G n = match valsW (c.args.toList.map (valT T)) with
      | some ws => callF Γ o G n f (ws ++ ([] : List Nat).map fun k => .one (.ptr k 0))
      | none => none := by
  unfold act
  simp only [ho, hc, valT]
  cases valsW (c.args.toList.map (valT T)) <;> rfl

/-- A call whose answer is open. -/
theorem ok_callN {β : Bt} {K : Ks} {w : World} {F : FS} {a : Act} {o : Oper} (h : Pre P Γ β K F.G F.n w (valT F.T) a) {f : Nat} {fam : Fam} (hfam : FamOK P f fam) (ha : altOf Γ N o (valT F.T) = .call f fam)
    {out : fam.ι → Out} (hl : ∀ z, act (Γ.withSem f (fam.mean z)) o (valT F.T) F.G F.n = some (out z)) (hok : ∀ z, (out z).ok = true) :
    StepOK P o a w (fun v w' => ∃ z, PostE β K F.G F.n w (out z) v w') := by
  unfold altOf at ha
  split at ha
  · cases ha
  split at ha
  · rename_i c ho
    split at ha
    case h_2 => cases ha
    rename_i x hc
    split at ha
    case h_2 => cases ha
    rename_i g
    split at ha
    case h_2 => cases ha
    cases ha
    have hsem : ∀ z, (Γ.withSem f (fam.mean z)).sem f = some (fam.mean z) := fun z => by simp [Env.withSem]
    cases hw : valsW (c.args.toList.map (valT F.T)) with
    | none =>
      obtain ⟨z0⟩ := fam.inh
      have := hl z0
      rw [act_callN ho hc, hw] at this
      cases this
    | some ws =>
      have hl' : ∀ z, (match (fam.mean z).own with | true => callMut (fam.mean z) F.G F.n (ws ++ ([] : List Nat).map fun k => .one (.ptr k 0)) | false => callRo (fam.mean z) (match o.dst with | some d => hasN Γ.frz d | none => false) F.G F.n (ws ++ ([] : List Nat).map fun k => .one (.ptr k 0))) = some (out z) := by
        intro z
        have := hl z
        rw [act_callN ho hc, hw] at this
        dsimp only at this
        unfold callF at this
        rw [hsem z] at this
        exact this
      have hf : valT F.T (.func f) = .val (.one (.fn f [])) := rfl
      cases hown : fam.own with
      | true => exact ok_callMutN h ho hc hf hw hfam (fun z => by have := hl' z; rw [hfam.own z, hown] at this; exact this) hok
      | false => exact ok_callRoN h ho hc hf hw hfam (fun z => by have := hl' z; rw [hfam.own z, hown] at this; exact this) hok
  · unfold altConv at ha
    split at ha
    case h_2 => cases ha
    split at ha
    case h_2 => cases ha
    split at ha
    case h_2 => cases ha
    split at ha <;> cases ha
  · cases ha

theorem alt_guard {o : Oper} {ρ : Operand → V} (h : altOf Γ N o ρ ≠ .no) : o.guard = none := by
  unfold altOf at h
  split at h
  · exact absurd rfl h
  · assumption

theorem opsN_ok {R : Type} (env : EnvOK P Γ) (hN : ∀ f fam, N f = some fam → FamOK P f fam) {Q : Exit → Act → World → Prop} {r : R} {K : St → Option R} (hQ : ∀ s' a w, SR P Γ z s' a w → K s' = some r → Q .normal a w) :
    ∀ (L : List Oper) (i : Nat), ops.toList.drop i = L → i + L.length = ops.size → ∀ s, opsN Γ N ops L K s = some r → ∀ a w, SR P Γ z s a w → wpOps P ops Q (List.range' i L.length) a w
  | [], i, _, _, s, h, a, w, hs => hQ s a w hs h
  | o :: rest, i, hd, hi, s, h, a, w, hs => by
    rw [List.length_cons, List.range'_succ, wpOps_cons]
    simp only [List.length_cons] at hi
    have ho : ops[i]? = some o := by
      have : (ops.toList.drop i)[0]? = some o := by rw [hd]; rfl
      rw [List.getElem?_drop, Nat.add_zero, Array.getElem?_toList] at this
      exact this
    have hrest : ops.toList.drop (i + 1) = rest := by rw [← List.drop_drop, hd]; rfl
    have ih := opsN_ok env hN hQ rest (i + 1) hrest (by omega)
    obtain ⟨hm, β, Ks, hf⟩ := hs
    have det : opsK Γ ops [o] s [] (fun s' _ => opsN Γ N ops rest K s') = some r → wpOp P ops Q i (wpOps P ops Q (List.range' (i + 1) rest.length)) a w := by
      intro h
      obtain ⟨s', E, X, hstep, hm', h2⟩ := opsK_step h
      have h2 : opsN Γ N ops rest K s' = some r := h2
      have hw := wanted_run (β := β) (K := Ks) (a := a) (T := s.fs.T) hstep fun _ _ t _ _ => hf.tmp t
      unfold wpOp
      rw [ho]
      dsimp only
      rw [hw]
      cases hr : X.run with
      | true =>
        rw [if_pos rfl]
        left
        obtain ⟨_, out, h1, h2', h3, h4, h5, _⟩ := hstep.exec hr
        refine act_ok (ρ := valT s.fs.T) (get := s.fs.G) (n := s.fs.n) ⟨env, hf.kok, hf.mr, hf.fresh, fun x => eval_ok hf.tmp x⟩ h1 h2' _ _ fun v w' hp => ?_
        obtain ⟨β', K', hp⟩ := hp
        exact ih s' h2 _ _ ⟨hm'.trans hm, β', K', hf.next (x := out.v) hstep.dst hp (by rw [hstep.T, h3]) (by rw [hstep.G, h4]) h5⟩
      | false =>
        rw [if_neg (by simp)]
        obtain ⟨_, h1, h2', h3, _⟩ := hstep.skip hr
        exact ih s' h2 _ _ ⟨hm'.trans hm, β, Ks, hf.skip hstep.dst (by rw [hstep.T, h1]) (by rw [hstep.G, h2']; rfl) h3⟩
    have hpre : Pre P Γ β Ks s.fs.G s.fs.n w (valT s.fs.T) a := ⟨env, hf.kok, hf.mr, hf.fresh, fun x => eval_ok hf.tmp x⟩
    unfold opsN at h
    rw [val_fs] at h
    have wanted : o.guard = none → Region.wanted o (yielded ops a.tmps) = true := fun hg => by simp [Region.wanted, hg]
    split at h
    · exact det h
    · rename_i f fam halt
      have hg := alt_guard (o := o) (by rw [halt]; exact fun e => by cases e)
      have hfam : N f = some fam := by
        unfold altOf at halt
        rw [hg] at halt
        dsimp only at halt
        split at halt
        · split at halt
          · split at halt
            · split at halt
              · cases halt; assumption
              · cases halt
            · cases halt
          · cases halt
        · unfold altConv at halt
          split at halt
          case h_2 => cases halt
          split at halt
          case h_2 => cases halt
          split at halt
          case h_2 => cases halt
          split at halt <;> cases halt
        · cases halt
      have hall := allK_spec h
      have hspec := fun z => runK_spec (hall z)
      obtain ⟨out, hout⟩ := Classical.axiomOfChoice hspec
      unfold wpOp
      rw [ho]
      dsimp only
      rw [wanted hg, if_pos rfl]
      left
      refine ok_callN (F := s.fs) hpre (hN f fam hfam) halt (out := out) (fun z => (hout z).1) (fun z => (hout z).2.1) _ _ fun v w' hp => ?_
      obtain ⟨zz, β', K', hp⟩ := hp
      obtain ⟨_, _, h3, h4⟩ := hout zz
      refine ih _ h4 _ _ ⟨(by rw [(putO_get _ _ _).2.2]; exact hm), β', K', hf.next (x := (out zz).v) h3 hp ?_ ?_ ?_⟩
      · rw [putO_T]; rfl
      · rw [(putO_get _ _ _).1, apply_G]
      · rw [(putO_get _ _ _).2.1]; rfl
    · rename_i b halt
      have hg := alt_guard (o := o) (by rw [halt]; exact fun e => by cases e)
      split at h
      · exact det h
      · rename_i hnb
        split at h
        · rename_i hdst
          have hall := allK_spec h
          unfold wpOp
          rw [ho]
          dsimp only
          rw [wanted hg, if_pos rfl]
          left
          refine ok_narrow hpre halt hnb _ _ fun v w' hp => ?_
          obtain ⟨zz, β', K', hp⟩ := hp
          refine ih _ (hall zz) _ _ ⟨(by rw [(putO_get _ _ _).2.2]; exact hm), β', K', hf.next (x := .val (.one (.flt .f32 zz.1))) hdst hp ?_ ?_ ?_⟩
          · rw [putO_T]
          · rw [(putO_get _ _ _).1]; rfl
          · rw [(putO_get _ _ _).2.1]
        · cases h

end

end Go.Proofs.Ytbgkhcoeifbgkaa.AM
