/- The abstract machine: functions and loops whose answers are open, by what they give. Conditions: those that each lemma names. -/
import Derived.Test.YtbgkhcoeifbgkaaN2
import Derived.Test.YtbgkhcoeifbgkaaC4
namespace Go.Proofs.Ytbgkhcoeifbgkaa.AM
open Go Go.RowKit
set_option linter.unusedVariables false

section
variable {Γ : Env} {N : NEnv}

theorem opsK_map {R R' : Type} {ops : Array Oper} {L : List Oper} {s : St} {tr : List Ent} {K : St → List Ent → Option R} {K' : St → List Ent → Option R'} {r : R} {r' : R'} (hK : ∀ s tr, K s tr = some r → K' s tr = some r') (h : opsK Γ ops L s tr K = some r) :
    opsK Γ ops L s tr K' = some r' := by
  rcases opsK_nat (Γ := Γ) ops L s tr with hn | ⟨s', tr', hr⟩
  · rw [hn] at h; cases h
  · rw [hr] at h ⊢; exact hK _ _ h

theorem runK_map {R R' : Type} {o : Oper} {s : St} {K : St → Ent → Option R} {K' : St → Ent → Option R'} {r : R} {r' : R'} (hK : ∀ s e, K s e = some r → K' s e = some r') (h : runK Γ o K s = some r) : runK Γ o K' s = some r' := by
  rcases runK_nat (Γ := Γ) o s with hn | ⟨s', e, hr⟩
  · rw [hn] at h; cases h
  · rw [hr] at h ⊢; exact hK _ _ h

theorem EBk_map {R R' : Type} {c : Code} {s : St} {K : Ex → St → Option R} {K' : Ex → St → Option R'} {r : R} {r' : R'} (hK : ∀ e s, K e s = some r → K' e s = some r') (h : EBk Γ c K s = some r) : EBk Γ c K' s = some r' := by
  rcases EBk_road (Γ := Γ) c s with hn | ⟨e, s', hr⟩
  · dsimp only at hn; rw [hn] at h; cases h
  · dsimp only at hr; rw [hr] at h ⊢; exact hK _ _ h

instance : Nonempty Bits32 := ⟨⟨0, by decide⟩⟩

theorem opsN_map {R R' : Type} {F : Nat → Option Fam} {ops : Array Oper} {r : R} {r' : R'} : ∀ {L : List Oper} {s : St} {K : St → Option R} {K' : St → Option R'}, (∀ s, K s = some r → K' s = some r') → opsN Γ F ops L K s = some r → opsN Γ F ops L K' s = some r'
  | [], s, K, K', hK, h => hK s h
  | o :: rest, s, K, K', hK, h => by
    unfold opsN at h ⊢
    split at h
    · exact opsK_map (fun s _ h => opsN_map hK h) h
    · rename_i f fam _
      haveI := fam.inh
      exact allK_intro fun z => runK_map (fun s _ h => opsN_map hK h) (allK_spec h z)
    · split at h
      · exact opsK_map (fun s _ h => opsN_map hK h) h
      · split at h
        · exact allK_intro fun z => opsN_map hK (allK_spec h z)
        · cases h

theorem joinK_map {R R' : Type} {cut : Option (List Nat × List Cv)} {K : Ex → St → Option R} {K' : Ex → St → Option R'} {r : R} {r' : R'} (hK : ∀ e s, K e s = some r → K' e s = some r') : ∀ e s, joinK cut K e s = some r → joinK cut K' e s = some r' := by
  intro e s h
  unfold joinK at h ⊢
  cases e with
  | normal =>
    cases cut with
    | none => exact hK _ _ h
    | some c =>
      dsimp only at h ⊢
      split at h
      · rename_i s' hc
        exact hK _ _ h
      · cases h
  | exit i => exact hK _ _ h
  | ret => exact hK _ _ h

theorem blockK_map {R R' : Type} {id : Nat} {cut : Option (List Nat × List Cv)} {K : Ex → St → Option R} {K' : Ex → St → Option R'} {r : R} {r' : R'} (hK : ∀ e s, K e s = some r → K' e s = some r') : ∀ e s, blockK id cut K e s = some r → blockK id cut K' e s = some r' := by
  intro e s h
  unfold blockK at h ⊢
  cases e with
  | normal => exact joinK_map hK _ _ h
  | exit i =>
    dsimp only at h ⊢
    split at h
    · exact joinK_map hK _ _ h
    · exact hK _ _ h
  | ret => exact hK _ _ h

theorem EBn_map {R R' : Type} {r : R} {r' : R'} : ∀ (c : Code) {s : St} {K : Ex → St → Option R} {K' : Ex → St → Option R'}, (∀ e s, K e s = some r → K' e s = some r') → EBn Γ N c K s = some r → EBn Γ N c K' s = some r' := by
  intro c
  induction c with
  | skip => intro s K K' hK h; unfold EBn at h ⊢; exact hK _ _ h
  | label l => intro s K K' hK h; unfold EBn at h ⊢; exact hK _ _ h
  | exit i => intro s K K' hK h; unfold EBn at h ⊢; exact hK _ _ h
  | ret => intro s K K' hK h; unfold EBn at h ⊢; exact EBk_map hK h
  | seq x y ihx ihy =>
    intro s K K' hK h
    unfold EBn at h ⊢
    refine ihx (fun e s h => ?_) h
    cases e with
    | normal => exact ihy hK h
    | exit i => exact hK _ _ h
    | ret => exact hK _ _ h
  | cond c x y ihx ihy =>
    intro s K K' hK h
    unfold EBn at h ⊢
    split at h
    · rename_i b hb
      cases b with
      | true => exact ihx (joinK_map hK) h
      | false => exact ihy (joinK_map hK) h
    · cases h
  | block id x ih =>
    intro s K K' hK h
    unfold EBn at h ⊢
    exact ih (blockK_map hK) h
  | loop x ih =>
    intro s K K' hK h
    unfold EBn at h ⊢
    split at h
    · rename_i L hl
      unfold runN at h ⊢
      split at h
      · cases h
      · rename_i s0 hc0
        split at h
        · cases h
        · rename_i ok fam hrun
          split at h
          case h_2 => cases h
          haveI := fam.inh
          refine allK_intro fun z => ?_
          have := allK_spec h z
          unfold outK at this ⊢
          split at this
          · exact hK _ _ this
          · exact hK _ _ this
    · exact EBk_map hK h
  | region id ops d =>
    intro s K K' hK h
    cases d with
    | false => unfold EBn at h ⊢; exact opsN_map (fun s h => hK _ _ h) h
    | true => unfold EBn at h ⊢; exact EBk_map hK h
  | _ => intro s K K' hK h; simp [EBn] at h

/-! ## Loops -/

def endH (shX : ShS) (h : shX.den → Option Unit) (e : Ex) (s : St) : Option Unit := match e with
  | .exit _ => atS shX h s
  | _ => none

/-- Choices of a loop's ends. -/
abbrev ChL {V X : Type} (ok : V → Bool) (Q : V → X → Prop) : Type := { g : V → X // ∀ v, ok v = true → Q v (g v) }

/-- A loop without a return, by where it may be asked and what it may give. -/
def loopXN (live : List Nat) (own : List Cv) (ex : Nat) (past : List Nat) (pown : List Cv) (sh shX : ShS) (ok : sh.den → Bool) (Q : sh.den → shX.den → Prop) (hne : Nonempty (ChL ok Q)) : NLoop :=
  ⟨⟨live, own, ex, past, pown, fun _ => none⟩, fun s => match getS sh s with
    | some v => some (ok v, ⟨ChL ok Q, hne, fun g => (false, mkS shX (g.1 v), mkS shX (g.1 v))⟩)
    | none => none⟩

theorem loopXN_sound {c : Code} {live : List Nat} {own : List Cv} {ex : Nat} {past : List Nat} {pown : List Cv} {sh shX : ShS} {g : (shX.den → Option Unit) → (sh.den → Option Unit) → sh.den → Option Unit}
    (hg : ∀ h f v, EBn Γ N c (roundK live own ex past pown (atS sh f) (endH shX h)) (mkS sh v) = g h f v) {ok : sh.den → Bool} {Q : sh.den → shX.den → Prop} {hne : Nonempty (ChL ok Q)}
    (hi : ∀ v, ok v = true → ∀ h : shX.den → Option Unit, (∀ y, Q v y → h y = some ()) → ∃ n, iter (g h) n v = some ()) : NLoopSound Γ N c (loopXN live own ex past pown sh shX ok Q hne) := by
  classical
  intro s0 fam hrun R K r hz
  simp only [loopXN] at hrun
  split at hrun
  case h_2 => cases hrun
  rename_i v hv
  have hok : ok v = true := by have := Option.some.inj hrun; exact (Prod.mk.inj this).1
  have hfam := (Prod.mk.inj (Option.some.inj hrun)).2
  subst hfam
  obtain ⟨n, hn⟩ := hi v hok (fun y => if Q v y then some () else none) (fun y hy => if_pos hy)
  refine ⟨n, ?_⟩
  rw [getS_ok hv]
  clear hv
  have main : ∀ n v', iter (g fun y => if Q v y then some () else none) n v' = some () → loopN Γ N c (loopXN live own ex past pown sh shX ok Q hne).m K n (mkS sh v') = some r := by
    intro n
    induction n with
    | zero => intro v' h; cases h
    | succ n ih =>
      intro v' h
      simp only [iter] at h
      rw [← hg] at h
      simp only [loopN]
      refine EBn_map c (fun e s he => ?_) h
      cases e with
      | normal =>
        simp only [roundK] at he ⊢
        split at he
        · rename_i s'' hc
          have hc' : canon (loopXN live own ex past pown sh shX ok Q hne).m.live (loopXN live own ex past pown sh shX ok Q hne).m.own s = some s'' := hc
          rw [hc']
          unfold atS at he
          split at he
          · rename_i v'' hv''
            rw [getS_ok hv'']
            exact ih v'' he
          · cases he
        · cases he
      | exit i =>
        simp only [roundK, endK] at he ⊢
        split at he
        · rename_i hb
          split at he
          · rename_i s'' hc
            have hc' : canon (loopXN live own ex past pown sh shX ok Q hne).m.past (loopXN live own ex past pown sh shX ok Q hne).m.pown s = some s'' := hc
            have hb' : Nat.beq i (loopXN live own ex past pown sh shX ok Q hne).m.ex = true := hb
            rw [hb', hc']
            simp only [endH, atS] at he
            split at he
            · rename_i y hy
              split at he
              · rename_i hQ
                obtain ⟨g0⟩ := hne
                have := hz ⟨fun u => if u = v then y else g0.1 u, fun u hu => by
                  dsimp only
                  split
                  · rename_i e; rw [e]; exact hQ
                  · exact g0.2 u hu⟩
                simp only [outK, if_pos] at this
                have e1 : i = ex := nbeq_eq hb
                rw [getS_ok hy, e1]
                exact this
              · cases he
            · cases he
          · cases he
        · cases he
      | ret => simp only [roundK, endK, endH] at he; cases he
  exact main n v hn

/-! ## Functions -/

def lookU.{u} {α : Type u} : List (Nat × α) → Nat → Option α
  | [], _ => none
  | (k, x) :: r, t => match Nat.beq k t with
    | true => some x
    | false => lookU r t

theorem lookU_mem.{u} {α : Type u} : ∀ {l : List (Nat × α)} {t : Nat} {x : α}, lookU l t = some x → (t, x) ∈ l
  | (k, y) :: r, t, x, h => by
    simp only [lookU] at h
    split at h
    · rename_i e
      cases h
      rw [nbeq_eq e]
      exact List.mem_cons_self ..
    · exact List.mem_cons_of_mem _ (lookU_mem h)

def mkN (fams : List (Nat × Fam)) (loops : List (Nat × NLoop)) : NEnv := ⟨lookU fams, lookU loops⟩

def AllU.{u} {α : Type u} (R : α → Prop) : List α → Prop
  | [] => True
  | x :: r => R x ∧ AllU R r
theorem AllU.mem.{u} {α : Type u} {R : α → Prop} : ∀ {l : List α}, AllU R l → ∀ x ∈ l, R x
  | y :: r, h, x, hx => by
    rcases List.mem_cons.1 hx with rfl | hx
    · exact h.1
    · exact h.2.mem x hx

theorem mkN_ok {P : Program} {fams : List (Nat × Fam)} {loops : List (Nat × NLoop)} (h : AllU (fun x => FamOK P x.1 x.2) fams) : NOK P (mkN fams loops) := fun f fam e => h.mem (f, fam) (lookU_mem e)

theorem noNLoops {Γ : Env} {fams : List (Nat × Fam)} {c : Code} : NLoopsOK Γ (mkN fams []) c := fun c' hc L h => by cases h


def decH (O : Sg) {R : Type} (h : O.den → Option R) (p : List W × List (Option Blk)) : Option R := match decO O p with
  | some y => h y
  | none => none
def decRH (R : Ty) {T : Type} (h : Den R → Option T) (p : List W × List (Option Blk)) : Option T := match decR R p with
  | some y => h y
  | none => none

/-- The evaluation of a function over what it takes, and what is made of its answers. -/
noncomputable def callSN (Γ : Env) (N : NEnv) (c : Code) (I O : Sg) (h : O.den → Option Unit) (x : I.den) : Option Unit := match insOf (encBs I.bs x.2) with
  | some ins => callN Γ N c (decH O h) (encKs I.ws x.1) ins
  | none => none

/-- Choices of answers. -/
abbrev Ch (I O : Sg) (ok : I.den → Bool) (Q : I.den → O.den → Prop) : Type := { g : I.den → O.den // ∀ x, ok x = true → Q x (g x) }

def sgFam (own : Bool) (I O : Sg) (ok : I.den → Bool) (Q : I.den → O.den → Prop) (hne : Nonempty (Ch I O ok Q)) : Fam := ⟨Ch I O ok Q, hne, fun g => sgMean own I O ok g.1, own⟩
end

section
variable {P : Program} {Γ : Env} {N : NEnv}

theorem sgN_ok (env : EnvOK P Γ) (hN : NOK P N) {f : Nat} {c : Code} (hf : FnIs P f Γ c) (hNL : NLoopsOK Γ N c) {own : Bool} {I O : Sg} {ok : I.den → Bool} {Q : I.den → O.den → Prop} {hne : Nonempty (Ch I O ok Q)}
    (h : ∀ x, ok x = true → ∀ k : O.den → Option Unit, (∀ y, Q x y → k y = some ()) → callSN Γ N c I O k x = some ()) : FamOK P f (sgFam own I O ok Q hne) := by
  classical
  refine ⟨fun _ => rfl, ?_⟩
  intro args ins hruns β0 K0 w0 vs hk hm hfr hv
  obtain ⟨g0⟩ := hne
  obtain ⟨rs0, outs0, hrun⟩ := hruns g0
  simp only [sgFam, sgMean, decO] at hrun
  split at hrun
  case h_2 => cases hrun
  rename_i x hx
  split at hx
  case h_2 => cases hx
  rename_i x1 hx1
  split at hx
  case h_2 => cases hx
  rename_i x2 hx2
  cases hx
  split at hrun
  case h_2 => cases hrun
  rename_i ins' hins'
  simp only [Option.some.injEq, Prod.mk.injEq] at hrun
  obtain ⟨hok, _, _⟩ := hrun
  obtain ⟨hl1, hg1⟩ := decBs_ok hx2
  obtain ⟨hl2, hg2⟩ := insOf_get hins'
  rw [getO_some] at hg1
  rw [← hg2] at hg1
  have hlen : ins'.length = ins.length := by rw [hl2, hl1]; simp
  have he := h (x1, x2) hok (fun y => if Q (x1, x2) y then some () else none) (fun y hy => if_pos hy)
  simp only [callSN, hins'] at he
  refine .inl ⟨hf.ok, (callN_ok env hN hf hNL he hk (hm.lax hg1) (fun k hk => hfr k (by omega)) (decKs_ok hx1 hv)).mono ?_⟩
  rintro e w' ⟨v, β, K, rs', outs', rfl, hg, hR⟩
  simp only [decH] at hg
  split at hg
  case h_2 => cases hg
  rename_i y hy
  split at hg
  case isFalse => cases hg
  rename_i hQ
  simp only [decO] at hy
  split at hy
  case h_2 => cases hy
  rename_i y1 hy1
  split at hy
  case h_2 => cases hy
  rename_i y2 hy2
  cases hy
  obtain ⟨hl3, hg3⟩ := decBs_ok hy2
  have hl3' : (encBs O.bs (y1, y2).2).length = outs'.length := hl3
  have hown : ∀ b, Own β0 (getL ins') b → Own β0 (getL ins) b := fun b hb => hb.lax hg1
  refine ⟨⟨fun x => if x = (x1, x2) then (y1, y2) else g0.1 x, fun x hx => ?_⟩, encKs O.ws y1, encBs O.bs y2, v, β, K, ?_, rfl, ⟨hR.kle, hR.kok, fun b arr e => ?_, hR.mr.lax hg3, fun k hk => hR.fresh k (by simp only at hk hl3'; omega), decKs_out hy1 hR.out, ⟨hR.fr.os, hR.fr.tape, hR.fr.output, hR.fr.size, fun b hb hn => hR.fr.block b hb fun hc => hn (hown b hc)⟩, fun x hx => ?_, hR.ble, ?_⟩⟩
  · dsimp only
    split
    · rename_i e; rw [e]; exact hQ
    · exact g0.2 x hx
  · simp only [sgFam, sgMean, decO, hx1, hx2, hins', hok, if_pos]
  · rcases hR.knew b arr e with h1 | h1 | h1
    · exact .inl h1
    · exact .inr (.inl (hown b h1))
    · exact .inr (.inr h1)
  · rcases hR.own x (hx.lax hg3) with h1 | h1
    · exact .inl (hown x h1)
    · exact .inr h1
  · have := hR.le
    simp only at hl3' ⊢
    omega

/-- A law's call: it answers true, and what there was stays. -/
theorem lawN_ok (env : EnvOK P Γ) (hN : NOK P N) {f : Nat} {c : Code} (hf : FnIs P f Γ c) (hNL : NLoopsOK Γ N c) {args : List W} {k : Den (.cons .bool .nil) → Option Unit} (hk : ∀ y, k y = some () → y = (true, ())) (h : callN Γ N c (decRH (.cons .bool .nil) k) args [] = some ()) {w : World} {vs : Array Value}
    (hv : All2 (WR (fun _ => none) (memK w)) args vs.toList) : Calls P f vs w fun e w' => e = .returned (.bool true) ∧ Below w.heap.size w w' := by
  have hm : MR (fun _ => none) (memK w) (getL []) w := ⟨fun k b e => by simp [getL] at e, fun k k' b b' _ _ _ e => by simp [getL] at e, fun k b _ _ e => by simp [getL] at e⟩
  refine (callN_ok env hN hf hNL h (memK_ok w) hm (fun _ _ => rfl) hv).mono ?_
  rintro e w' ⟨v, β, K, rs, outs', rfl, hg, hR⟩
  have hno : ∀ x, ¬ Own (fun _ => none) (getL []) x := by rintro x ⟨k, b, y, e, _⟩; simp [getL] at e
  unfold decRH at hg
  split at hg
  · rename_i y hy
    have := hk y hg
    subst this
    unfold decR at hy
    dsimp only at hy
    split at hy
    · have hout : v = .bool true := decR_out hy hR.out
      exact ⟨by rw [hout], hR.fr.os, hR.fr.tape, hR.fr.output, hR.fr.size, fun k hk => hR.fr.block k hk (hno k)⟩
    · cases hy
  · cases hg
end

end Go.Proofs.Ytbgkhcoeifbgkaa.AM
