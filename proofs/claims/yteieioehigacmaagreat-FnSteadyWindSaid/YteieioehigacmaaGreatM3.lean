/- Texts of one proof, joined: an abstract machine for the program, its functions evaluated, plain lemmas. Conditions: those that each lemma names. -/
import Derived.Test.YteieioehigacmaaGreatM2
set_option linter.unusedVariables false
set_option linter.unusedSimpArgs false
namespace Go.Proofs.YteieioehigacmaaGreat.AM
open Go
def calmB (o : Oper) : Bool := (match o.guard with
 | none => true
 | some _ => false) && (match o.op with
 | .move _ => true
 | .assign _ => true
 | .load _ _ => true
 | .fieldAddr _ _ _ => true
 | .indexAddr _ _ _ => true
 | _ => false)
def foreign (f : Nat) (o : Oper) : Bool := match o.op with
 | .call c => match c.callee with
   | .value x => match x with
     | .func g => !Nat.beq g f
     | _ => false
   | .builtin _ => true
   | _ => false
 | _ => true
def restB (f p : Nat) : Nat -> List Nat -> List Oper -> Bool
 | i, a :: as, o :: r => (match Nat.beq i p with
   | true => true
   | false => foreign f o && (Nat.blt i p || Nat.testBit a p || calmB o)) && restB f p (i + 1) as r
 | _, [], [] => true
 | _, _, _ => false
def callAlt (N : Nat -> Option Fam) (o : Oper) : Option (Nat × Fam) := match o.guard with
 | some _ => none
 | none => match o.op with
   | .call c => match c.callee with
     | .value x => match x with
       | .func f => match N f with
         | some fam => some (f, fam)
         | none => none
       | _ => none
     | _ => none
   | _ => none
def openCall (N : Nat -> Option Fam) : Nat -> List Oper -> Option (Nat × Nat × Fam)
 | _, [] => none
 | i, o :: r => match callAlt N o with
   | some (f, fam) => some (i, f, fam)
   | none => openCall N (i + 1) r
noncomputable def regN {R : Type} (Γ : Env) (N : Nat -> Option Fam) (id : Nat) (ops : Array Oper) (K : Ex -> St -> Option R) (s : St) : Option R :=
 match openCall N 0 ops.toList with
 | none => EBk Γ (.region id ops true) K s
 | some (p, f, fam) => match restB f p 0 (ancs ops.toList []) ops.toList with
   | true => allK fun z : fam.ι => EBk (Γ.withSem f (fam.mean z)) (.region id ops true) K s
   | false => none
theorem callAlt_spec {N : Nat -> Option Fam} {o : Oper} {f : Nat} {fam : Fam} (h : callAlt N o = some (f, fam)) : o.guard = none /\ N f = some fam /\ ∃ c, o.op = .call c /\ c.callee = .value (.func f) := by
 unfold callAlt at h
 split at h
 ·cases h
 rename_i hg
 split at h
 ·rename_i c ho
  split at h
  ·rename_i x hc
   split at h
   ·split at h
    ·rename_i hN
     cases h
     exact ⟨hg, hN, c, ho, hc⟩
    ·cases h
   ·cases h
  ·cases h
 ·cases h
theorem openCall_spec {N : Nat -> Option Fam} : ∀ {L : List Oper} {i p f : Nat} {fam : Fam}, openCall N i L = some (p, f, fam) -> i <= p /\ ∃ o, L[p - i]? = some o /\ callAlt N o = some (f, fam)
 | [], _, _, _, _, h => by simp [openCall] at h
 | o :: r, i, p, f, fam, h => by
   simp only [openCall] at h
   split at h
   ·rename_i hc
    cases h
    exact ⟨Nat.le_refl _, o, by simp, hc⟩
   ·obtain ⟨h1, o', h2, h3⟩ := openCall_spec h
    refine ⟨by omega, o', ?_, h3⟩
    rw [show p - i = (p - (i + 1)) + 1 by omega]
    exact h2
theorem restB_spec {f p : Nat} : ∀ {L : List Oper} {as : List Nat} {i : Nat}, restB f p i as L = true -> ∀ j o a, L[j]? = some o -> as[j]? = some a -> i + j ≠ p -> foreign f o = true /\ (i + j < p ∨ a.testBit p = true ∨ calmB o = true)
 | [], _, _, _, j, o, a, ho, _, _ => by simp at ho
 | o0 :: r, [], _, h, _, _, _, _, ha, _ => by simp at ha
 | o0 :: r, a0 :: as, i, h, j, o, a, ho, ha, hj => by
   simp only [restB, Bool.and_eq_true] at h
   cases j with
   | zero =>
     simp only [List.getElem?_cons_zero, Option.some.injEq] at ho ha
     subst ho ha
     have h1 := h.1
     rw [nbeq_ne (by omega)] at h1
     simp only [Bool.and_eq_true, Bool.or_eq_true, Nat.blt_eq] at h1
     refine ⟨h1.1, ?_⟩
     rcases h1.2 with (h2 | h2) | h2
     ·exact .inl (by omega)
     ·exact .inr (.inl h2)
     ·exact .inr (.inr h2)
   | succ j =>
     have := restB_spec h.2 j o a (by simpa using ho) (by simpa using ha) (by omega)
     rw [show i + (j + 1) = i + 1 + j by omega]
     exact this
theorem act_foreign {Γ : Env} {f : Nat} {sm : Mean} {o : Oper} (hf : foreign f o = true) (T : Nat -> V) (G : Get) (n : Nat) : act (Γ.withSem f sm) o (valT T) G n = act Γ o (valT T) G n := by
 obtain ⟨dst, op, type, pos, after, guard⟩ := o
 cases op with
 | call c =>
   obtain ⟨callee, args, ats⟩ := c
   cases callee with
   | value x =>
     cases x with
     | func g =>
       have hne : Nat.beq f g = false := by
        simp only [foreign, Bool.not_eq_true'] at hf
        refine nbeq_ne fun e => ?_
        subst e
        rw [show Nat.beq f f = true from Nat.beq_refl f] at hf
        cases hf
       simp only [act, valT]
       split
       ·rename_i g' caps ws hg hw
        simp only [V.val.injEq, W.one.injEq, C.fn.injEq] at hg
        obtain ⟨rfl, rfl⟩ := hg
        unfold callF
        simp only [Env.withSem, hne]
       ·rfl
     | _ => simp [foreign] at hf
   | builtin b => rfl
   | _ => simp [foreign] at hf
 | _ => rfl
theorem fp_calm {o : Oper} (hc : calmB o = true) {ρ ρ' : Operand -> V} {G G' : Get} (h : ∀ x ∈ o.op.operands, ρ x = ρ' x) : fpOp o ρ G = fpOp o ρ' G' := by
 obtain ⟨dst, op, type, pos, after, guard⟩ := o
 cases op <;> simp [calmB] at hc <;> simp only [Op.operands] at h <;> simp only [fpOp]
 ·rw [h _ (by simp)]
 ·rw [h _ (by simp)]
theorem load_shift (G : Get) (n : Nat) (ag : Bool) (size : Nat) (v : V) : actLoad G n ag size v = (actLoad G 0 ag size v).map fun x => { x with n := n } := by
 unfold actLoad
 repeat' (first | rfl | split)
theorem load_upd {G : Get} {ag : Bool} {size : Nat} {v : V} {out : Out} (h : actLoad G 0 ag size v = some out) : out.upd = [] := by
 unfold actLoad at h
 repeat' (first | (cases h; done) | (simp only [pure1, Option.some.injEq] at h; subst h; rfl) | split at h)
theorem idx_shift (n size m : Nat) (x i : V) : actIdxArr n size m x i = (actIdxArr 0 size m x i).map fun x => { x with n := n } := by
 unfold actIdxArr
 repeat' (first | rfl | split)
theorem idx_upd {size m : Nat} {x i : V} {out : Out} (h : actIdxArr 0 size m x i = some out) : out.upd = [] := by
 unfold actIdxArr at h
 repeat' (first | (cases h; done) | (simp only [pure1, Option.some.injEq] at h; subst h; rfl) | split at h)
theorem act_shift {Γ : Env} {o : Oper} (hc : calmB o = true) (ρ : Operand -> V) (G : Get) (n : Nat) : act Γ o ρ G n = (act Γ o ρ G 0).map fun x => { x with n := n } := by
 obtain ⟨dst, op, type, pos, after, guard⟩ := o
 cases op <;> simp [calmB] at hc <;> simp only [act]
 ·rfl
 ·rfl
 ·split
  ·exact load_shift _ _ _ _ _
  ·rfl
 ·repeat' (first | rfl | split)
 ·split
  ·split
   ·split
    ·repeat' (first | rfl | split)
    ·rfl
   ·split
    ·exact idx_shift _ _ _ _ _
    ·rfl
   ·rfl
  ·rfl
theorem act_upd {Γ : Env} {o : Oper} (hc : calmB o = true) {ρ : Operand -> V} {G : Get} {out : Out} (h : act Γ o ρ G 0 = some out) : out.upd = [] := by
 obtain ⟨dst, op, type, pos, after, guard⟩ := o
 cases op <;> simp [calmB] at hc <;> simp only [act] at h
 ·cases h; rfl
 ·cases h; rfl
 ·split at h
  ·exact load_upd h
  ·cases h
 ·repeat' (first | (cases h; done) | (simp only [pure1, Option.some.injEq] at h; subst h; rfl) | split at h)
 ·split at h
  ·split at h
   ·split at h
    ·repeat' (first | (cases h; done) | (simp only [pure1, Option.some.injEq] at h; subst h; rfl) | split at h)
    ·cases h
   ·split at h
    ·exact idx_upd h
    ·cases h
   ·cases h
  ·cases h
theorem act_calm {Γ : Env} {o : Oper} (hc : calmB o = true) {ρ : Operand -> V} {G : Get} {n : Nat} {out : Out} (h : act Γ o ρ G n = some out) : out.upd = [] /\ out.n = n /\ ∀ n', act Γ o ρ G n' = some { out with n := n' } := by
 rw [act_shift hc] at h
 cases h0 : act Γ o ρ G 0 with
 | none => rw [h0] at h; cases h
 | some x =>
   rw [h0] at h
   cases h
   exact ⟨show x.upd = [] from act_upd hc h0, rfl, fun n' => by rw [act_shift hc, h0]; rfl⟩
section
variable {P : Program} {Γ : Env} {z : Start} {ops : Array Oper} {Q : Exit -> Act -> World -> Prop}
theorem boolV_ne (b : Bool) : boolV b ≠ boolV (!b) := by cases b <;> intro h <;> cases h
theorem boolV_tup (b : Bool) : boolV b ≠ .tup [] := by intro h; cases h
theorem run_agree {Γ1 Γ2 : Env} {o : Oper} {F F' F1 F2 : FS} {E E' : Ent} {X X' : Res} (h1 : StepR Γ1 ops o F E X F1) (h2 : StepR Γ2 ops o F' E' X' F2) (hT : ∀ g want t, o.guard = some (g, want) -> gtmp ops g = some t -> F.T t = F'.T t) : X.run = X'.run := by
 have key : ∀ {Γ1 Γ2 : Env} {F F' F1 F2 : FS} {E E' : Ent} {X X' : Res}, StepR Γ1 ops o F E X F1 -> StepR Γ2 ops o F' E' X' F2 -> (∀ g want t, o.guard = some (g, want) -> gtmp ops g = some t -> F.T t = F'.T t) -> X.run = false -> X'.run = true -> False := by
  intro Γ1 Γ2 F F' F1 F2 E E' X X' h1 h2 hT e1 e2
  obtain ⟨⟨g, want, t, a1, a2, a3⟩, _⟩ := h1.skip e1
  obtain ⟨h, _⟩ := h2.exec e2
  rcases h with h | ⟨g', want', t', b1, b2, b3⟩
  ·rw [h] at a1; cases a1
  ·have := hT g want t a1 a2
   rw [a1] at b1; cases b1
   rw [a2] at b2; cases b2
   rw [this, b3] at a3
   rcases a3 with a3 | a3
   ·exact boolV_ne _ a3
   ·exact boolV_tup _ a3
 cases e1 : X.run <;> cases e2 : X'.run
 ·rfl
 ·exact (key h1 h2 hT e1 e2).elim
 ·exact (key h2 h1 (fun g w t a b => (hT g w t a b).symm) e2 e1).elim
 ·rfl
theorem StepR.det {Γ1 Γ2 : Env} {o : Oper} {F F1 F2 : FS} {E E' : Ent} {X X' : Res} (h1 : StepR Γ1 ops o F E X F1) (h2 : StepR Γ2 ops o F E' X' F2) (heq : ∀ T G n, act Γ1 o (valT T) G n = act Γ2 o (valT T) G n) : X = X' /\ F1 = F2 := by
 have hrun := run_agree h1 h2 fun _ _ _ _ _ => rfl
 have hX : X = X' /\ F1.n = F2.n := by
  cases e1 : X.run with
  | true =>
    obtain ⟨_, out, p1, _, p3, p4, p5, _⟩ := h1.exec e1
    obtain ⟨_, out', q1, _, q3, q4, q5, _⟩ := h2.exec (hrun ▸ e1)
    rw [heq, q1] at p1
    cases p1
    refine ⟨?_, by rw [p5, q5]⟩
    obtain ⟨v, u, r⟩ := X
    obtain ⟨v', u', r'⟩ := X'
    dsimp only at p3 p4 q3 q4 hrun
    rw [p3, p4, q3, q4, hrun]
  | false =>
    obtain ⟨_, p1, p2, p3, _⟩ := h1.skip e1
    obtain ⟨_, q1, q2, q3, _⟩ := h2.skip (hrun ▸ e1)
    refine ⟨?_, by rw [p3, q3]⟩
    obtain ⟨v, u, r⟩ := X
    obtain ⟨v', u', r'⟩ := X'
    dsimp only at p1 p2 q1 q2 hrun
    rw [p1, p2, q1, q2, hrun]
 refine ⟨hX.1, ?_⟩
 have hT : F1.T = F2.T := by rw [h1.T, h2.T, hX.1]
 have hG : F1.G = F2.G := by rw [h1.G, h2.G, hX.1]
 obtain ⟨a, b, c⟩ := F1
 obtain ⟨a', b', c'⟩ := F2
 have hn := hX.2
 dsimp only at hT hG hn
 rw [hT, hG, hn]
theorem TD_vs {T0 : Nat -> V} {dst : Nat -> Option Nat} {vs vs' : Nat -> V} {D : Nat -> Bool} {t : Nat} : ∀ (N : Nat), (∀ j, j < N -> D j = true -> vs j = vs' j) -> TD T0 dst vs D N t = TD T0 dst vs' D N t
 | 0, _ => rfl
 | N + 1, h => by
   simp only [TD]
   rw [TD_vs N fun j hj => h j (by omega)]
   by_cases e : D N = true /\ dst N = some t
   ·rw [if_pos e, if_pos e, h N (by omega) e.1]
   ·rw [if_neg e, if_neg e]
theorem GD_upd {G0 : Get} {upd upd' : Nat -> List (Nat × Option Blk)} {D : Nat -> Bool} : ∀ (N : Nat), (∀ j, j < N -> D j = true -> upd j = upd' j) -> GD G0 upd D N = GD G0 upd' D N
 | 0, _ => rfl
 | N + 1, h => by
   simp only [GD]
   rw [GD_upd N fun j hj => h j (by omega)]
   by_cases e : D N = true
   ·rw [if_pos e, if_pos e, h N (by omega) e]
   ·rw [if_neg e, if_neg e]
theorem DS.sem {f : Nat} {sm : Mean} {F : Nat -> FS} {X : Nat -> Res} {D : Nat -> Bool} {β : Bt} {K : Ks} {a : Act} {w : World} (h : DS P Γ z ops F X D β K a w) : DS P (Γ.withSem f sm) z ops F X D β K a w :=
 ⟨h.tmp, h.nt, h.defers, h.kok, h.mr, h.dom, h.kle, h.knew, h.fr, h.own, h.ble, h.le⟩
theorem DS.unsem {f : Nat} {sm : Mean} {F : Nat -> FS} {X : Nat -> Res} {D : Nat -> Bool} {β : Bt} {K : Ks} {a : Act} {w : World} (h : DS P (Γ.withSem f sm) z ops F X D β K a w) : DS P Γ z ops F X D β K a w :=
 ⟨h.tmp, h.nt, h.defers, h.kok, h.mr, h.dom, h.kle, h.knew, h.fr, h.own, h.ble, h.le⟩
theorem SRf.unsem {f : Nat} {sm : Mean} {F : FS} {β : Bt} {K : Ks} {a : Act} {w : World} (h : SRf P (Γ.withSem f sm) z β K F a w) : SRf P Γ z β K F a w :=
 ⟨h.tmp, h.nt, h.defers, h.kok, h.mr, h.fresh, h.kle, h.knew, h.fr, h.own, h.ble, h.le⟩
structure Runs (Γ : Env) (ops : Array Oper) (f : Nat) (fam : Fam) (p : Nat) (F : fam.ι -> Nat -> FS) (E : fam.ι -> Nat -> Ent) (X : fam.ι -> Nat -> Res) : Prop where
 rgn : ∀ y, Rgn (Γ.withSem f (fam.mean y)) ops (F y) (E y) (X y)
 start : ∀ y y', F y 0 = F y' 0
 other : ∀ i o, i ≠ p -> ops[i]? = some o -> foreign f o = true
 late : ∀ i o, p < i -> ops[i]? = some o -> ∀ D, Closed ops D -> D i = true -> D p = false -> calmB o = true
variable {f : Nat} {fam : Fam} {p : Nat} {F : fam.ι -> Nat -> FS} {E : fam.ι -> Nat -> Ent} {X : fam.ι -> Nat -> Res}
theorem Runs.act (R : Runs Γ ops f fam p F E X) {i : Nat} {o : Oper} (hi : i ≠ p) (ho : ops[i]? = some o) (y y' : fam.ι) (T : Nat -> V) (G : Get) (n : Nat) : AM.act (Γ.withSem f (fam.mean y)) o (valT T) G n = AM.act (Γ.withSem f (fam.mean y')) o (valT T) G n := by
 rw [act_foreign (R.other i o hi ho), act_foreign (R.other i o hi ho)]
theorem Runs.pre (R : Runs Γ ops f fam p F E X) (hp : p < ops.size) (y y' : fam.ι) : ∀ i, i <= p -> F y i = F y' i /\ ∀ j, j < i -> X y j = X y' j
 | 0, _ => ⟨R.start y y', fun j h => by omega⟩
 | i + 1, h => by
   obtain ⟨h1, h2⟩ := R.pre hp y y' i (by omega)
   have ho : ops[i]? = some ops[i] := Array.getElem?_eq_getElem (by omega)
   have s1 := (R.rgn y).step i _ ho
   have s2 := (R.rgn y').step i _ ho
   rw [<- h1] at s2
   obtain ⟨e1, e2⟩ := s1.det s2 (R.act (by omega) ho y y')
   refine ⟨e2, fun j hj => ?_⟩
   by_cases e : j = i
   ·subst e; exact e1
   ·exact h2 j (by omega)
theorem Runs.same (R : Runs Γ ops f fam p F E X) (hp : p < ops.size) (y y' : fam.ι) {D : Nat -> Bool} (hc : Closed ops D) (hD : D p = false) : ∀ i, i < ops.size -> D i = true -> X y i = X y' i /\ (p < i -> (F y (i + 1)).n = (F y i).n) := by
 intro i
 induction i using Nat.strongRecOn with
 | _ i ih =>
   intro hi hDi
   have hne : i ≠ p := fun e => by subst e; rw [hD] at hDi; cases hDi
   rcases Nat.lt_or_ge i p with hlt | hge
   ·exact ⟨(R.pre hp y y' p (Nat.le_refl _)).2 i hlt, fun h => by omega⟩
   have hpi : p < i := by omega
   have ho : ops[i]? = some ops[i] := Array.getElem?_eq_getElem hi
   have hcalm := R.late i _ hpi ho D hc hDi hD
   have hg : ops[i].guard = none := by
    unfold calmB at hcalm
    simp only [Bool.and_eq_true] at hcalm
    have := hcalm.1
    split at this
    ·assumption
    ·cases this
   obtain ⟨D', hD'⟩ : ∃ D' : Nat -> Bool, D' = fun k => D k && Nat.blt k i := ⟨_, rfl⟩
   have hD'i : D' i = false := by
    rw [hD']
    dsimp only
    rw [show Nat.blt i i = false by
     cases hq : Nat.blt i i with
     | false => rfl
     | true => rw [Nat.blt_eq] at hq; omega, Bool.and_false]
   have hsub : ∀ k, D' k = true -> D k = true /\ k < i := fun k hk => by
    rw [hD'] at hk
    simp only [Bool.and_eq_true, Nat.blt_eq] at hk
    exact hk
   have hin : ∀ k, D k = true -> k < i -> D' k = true := fun k h1 h2 => by
    rw [hD']
    simp only [Bool.and_eq_true, Nat.blt_eq]
    exact ⟨h1, h2⟩
   have hc' : Closed ops D' := by
    intro k o hk hDk e he hb
    obtain ⟨h1, h2⟩ := hsub k hDk
    have h3 := hc k o hk h1 e he hb
    have h4 := (R.rgn y).edge k o hk e he hb
    exact hin _ h3 (by omega)
   have hb' : bound D' ops[i] := fun e he hb => hin _ (hc i _ ho hDi e he hb) ((R.rgn y).edge i _ ho e he hb)
   have hX : ∀ j, j < ops.size -> D' j = true -> X y j = X y' j := fun j hj hDj => (ih j (hsub j hDj).2 hj (hsub j hDj).1).1
   have hTX : ∀ t, TX ops (F y) (X y) D' t = TX ops (F y') (X y') D' t := fun t => by
    show TD (F y 0).T (gtmp ops) (fun i => (X y i).v) D' ops.size t = TD (F y' 0).T (gtmp ops) (fun i => (X y' i).v) D' ops.size t
    rw [R.start y y']
    exact TD_vs _ fun j hj hDj => by rw [hX j hj hDj]
   have hGX : GX ops (F y) (X y) D' = GX ops (F y') (X y') D' := by
    show GD (F y 0).G (fun i => (X y i).upd) D' ops.size = GD (F y' 0).G (fun i => (X y' i).upd) D' ops.size
    rw [R.start y y']
    exact GD_upd _ fun j hj hDj => by rw [hX j hj hDj]
   have hT : ∀ t, t ∈ looks ops ops[i] -> (F y i).T t = (F y' i).T t := fun t ht => by
    rw [<- (R.rgn y).lookT hc' ho hb' hD'i ht, <- (R.rgn y').lookT hc' ho hb' hD'i ht, hTX]
   have hρ : ∀ x ∈ ops[i].op.operands, valT (F y i).T x = valT (F y' i).T x := fun x hx => by
    cases x with
    | tmp t => exact hT t (List.mem_append_left _ (List.mem_filterMap.2 ⟨.tmp t, by simpa using hx, rfl⟩))
    | _ => rfl
   have s1 := (R.rgn y).step i _ ho
   have s2 := (R.rgn y').step i _ ho
   have hrun : ∀ {Γ' : Env} {F1 F2 : FS} {E' : Ent} {X' : Res}, StepR Γ' ops ops[i] F1 E' X' F2 -> X'.run = true := by
    intro Γ' F1 F2 E' X' s
    cases e : X'.run with
    | true => rfl
    | false =>
      obtain ⟨⟨g, want, t, a1, _⟩, _⟩ := s.skip e
      rw [hg] at a1; cases a1
   obtain ⟨_, out, p1, _, p3, p4, p5, p6⟩ := s1.exec (hrun s1)
   obtain ⟨_, out', q1, _, q3, q4, q5, q6⟩ := s2.exec (hrun s2)
   have hfp := fp_calm hcalm (G := (F y i).G) (G' := (F y' i).G) hρ
   have hGk : ∀ k ∈ fpOp ops[i] (valT (F y' i).T) (F y i).G, (F y i).G k = (F y' i).G k := fun k hk => by
    have hk1 : k ∈ (E y i).fp := by rw [p6]; dsimp only; rw [hfp, fp_calm hcalm (G' := (F y i).G) (fun _ _ => rfl)]; exact hk
    have hk2 : k ∈ (E y' i).fp := by rw [q6]; dsimp only; rw [fp_calm hcalm (G' := (F y i).G) (fun _ _ => rfl)]; exact hk
    rw [<- (R.rgn y).lookG hc' ho hb' hD'i hk1, <- (R.rgn y').lookG hc' ho hb' hD'i hk2, hGX]
   rw [R.act hne ho y y', act_rho hρ, act_get hGk] at p1
   obtain ⟨u1, u2, u3⟩ := act_calm hcalm p1
   rw [u3 (F y' i).n] at q1
   have hout : out' = { out with n := (F y' i).n } := (Option.some.inj q1).symm
   refine ⟨?_, fun _ => by rw [p5, u2]⟩
   have hr1 := hrun s1
   have hr2 := hrun s2
   generalize X y i = A at *
   generalize X y' i = B at *
   obtain ⟨v, u, r⟩ := A
   obtain ⟨v', u', r'⟩ := B
   dsimp only at p3 p4 q3 q4 hr1 hr2
   rw [p3, p4, q3, q4, hr1, hr2, hout]
theorem Runs.TX (R : Runs Γ ops f fam p F E X) (hp : p < ops.size) (y y' : fam.ι) {D : Nat -> Bool} (hc : Closed ops D) (hD : D p = false) (t : Nat) : AM.TX ops (F y) (X y) D t = AM.TX ops (F y') (X y') D t := by
 show TD (F y 0).T (gtmp ops) (fun i => (X y i).v) D ops.size t = TD (F y' 0).T (gtmp ops) (fun i => (X y' i).v) D ops.size t
 rw [R.start y y']
 exact TD_vs _ fun j hj hDj => by rw [(R.same hp y y' hc hD j hj hDj).1]
theorem Runs.GX (R : Runs Γ ops f fam p F E X) (hp : p < ops.size) (y y' : fam.ι) {D : Nat -> Bool} (hc : Closed ops D) (hD : D p = false) : AM.GX ops (F y) (X y) D = AM.GX ops (F y') (X y') D := by
 show GD (F y 0).G (fun i => (X y i).upd) D ops.size = GD (F y' 0).G (fun i => (X y' i).upd) D ops.size
 rw [R.start y y']
 exact GD_upd _ fun j hj hDj => by rw [(R.same hp y y' hc hD j hj hDj).1]
theorem Runs.switch (R : Runs Γ ops f fam p F E X) (hp : p < ops.size) (y y' : fam.ι) {D : Nat -> Bool} (hc : Closed ops D) (hD : D p = false) {β : Bt} {K : Ks} {a : Act} {w : World}
 (h : DS P Γ z ops (F y) (X y) D β K a w) : DS P Γ z ops (F y') (X y') D β K a w := by
 have hT := R.TX hp y y' hc hD
 have hG := R.GX hp y y' hc hD
 refine ⟨fun t => by rw [<- hT t]; exact h.tmp t, h.nt, h.defers, h.kok, by rw [<- hG]; exact h.mr, ?_, h.kle, h.knew, h.fr, by rw [<- hG]; exact h.own, h.ble, by rw [<- R.start y y']; exact h.le⟩
 intro k hk
 rcases h.dom k hk with h1 | ⟨i, h1, h2, h3, h4⟩
 ·exact .inl (by rw [<- R.start y y']; exact h1)
 ·have hne : i ≠ p := fun e => by subst e; rw [hD] at h2; cases h2
  rcases Nat.lt_or_ge i p with hlt | hge
  ·refine .inr ⟨i, h1, h2, ?_⟩
   rw [<- (R.pre hp y y' i (by omega)).1, <- (R.pre hp y y' (i + 1) (by omega)).1]
   exact ⟨h3, h4⟩
  ·have := (R.same hp y y' hc hD i h1 h2).2 (by omega)
   omega
theorem ok_callG {β : Bt} {K : Ks} {get : Get} {n : Nat} {w : World} {ρ : Operand -> V} {a : Act} {o : Oper} (h : Pre P Γ β K get n w ρ a) (hfam : FamOK P f fam) {c : Call} (ho : o.op = .call c) (hc : c.callee = .value (.func f))
 (hf : ρ (.func f) = .val (.one (.fn f []))) {out : fam.ι -> Out} (hl : ∀ y, AM.act (Γ.withSem f (fam.mean y)) o ρ get n = some (out y)) (hok : ∀ y, (out y).ok = true) :
 StepOK P o a w (fun v w' => ∃ y, PostE β K get n w (out y) v w') := by
 have hsem : ∀ y, (Γ.withSem f (fam.mean y)).sem f = some (fam.mean y) := fun y => by simp [Env.withSem]
 have hact : ∀ y, AM.act (Γ.withSem f (fam.mean y)) o ρ get n = match valsW (c.args.toList.map ρ) with
  | some ws => callF (Γ.withSem f (fam.mean y)) o get n f (ws ++ ([] : List Nat).map fun k => .one (.ptr k 0))
  | none => none := by
  intro y
  unfold AM.act
  simp only [ho, hc, hf]
  cases valsW (c.args.toList.map ρ) <;> rfl
 cases hw : valsW (c.args.toList.map ρ) with
 | none =>
   obtain ⟨y0⟩ := fam.inh
   have := hl y0
   rw [hact, hw] at this
   cases this
 | some ws =>
   have hl' : ∀ y, (match (fam.mean y).own with | true => callMut (fam.mean y) get n (ws ++ ([] : List Nat).map fun k => .one (.ptr k 0)) | false => callRo (fam.mean y) (match o.dst with | some d => hasN Γ.frz d | none => false) get n (ws ++ ([] : List Nat).map fun k => .one (.ptr k 0))) = some (out y) := by
    intro y
    have := hl y
    rw [hact, hw] at this
    dsimp only at this
    unfold callF at this
    rw [hsem y] at this
    exact this
   cases hown : fam.own with
   | true => exact ok_callMutN h ho hc hf hw hfam (fun y => by have := hl' y; rw [hfam.own y, hown] at this; exact this) hok
   | false => exact ok_callRoN h ho hc hf hw hfam (fun y => by have := hl' y; rw [hfam.own y, hown] at this; exact this) hok
theorem Runs.step (R : Runs Γ ops f fam p F E X) (env : EnvOK P Γ) (hfam : FamOK P f fam) {o : Oper} (hp : ops[p]? = some o) (hg : o.guard = none) {c : Call} (hop : o.op = .call c) (hcal : c.callee = .value (.func f))
 {y : fam.ι} {D : Nat -> Bool} {β : Bt} {K : Ks} {a : Act} {w : World} (h : DS P Γ z ops (F y) (X y) D β K a w) (hc : Closed ops D) (hb : bound D o) (hD : D p = false)
 {next : Act -> World -> Prop} (hn : ∀ y' β K a w, DS P Γ z ops (F y') (X y') (addD D p) β K a w -> next a w) : wpOp P ops Q p next a w := by
 have hlt : p < ops.size := (Array.getElem?_eq_some_iff.1 hp).1
 have hsw : ∀ y', DS P Γ z ops (F y') (X y') D β K a w := fun y' => R.switch hlt y y' hc hD h
 have hF : ∀ y', F y' p = F y p := fun y' => (R.pre hlt y' y p (Nat.le_refl _)).1
 have hrun : ∀ y', (X y' p).run = true := by
  intro y'
  cases e : (X y' p).run with
  | true => rfl
  | false =>
    obtain ⟨⟨g, want, t, a1, _⟩, _⟩ := ((R.rgn y').step p o hp).skip e
    rw [hg] at a1; cases a1
 have hex := fun y' => (((R.rgn y').step p o hp).exec (hrun y')).2
 obtain ⟨out, hout⟩ := Classical.axiomOfChoice hex
 unfold wpOp
 rw [hp]
 dsimp only
 rw [show Region.wanted o (yielded ops a.tmps) = true by simp [Region.wanted, hg], if_pos rfl]
 left
 have hlook : ∀ t, t ∈ looks ops o -> VR β K ((F y p).T t) (a.tmps.getD t undef) := fun t ht => by rw [<- (R.rgn y).lookT hc hp hb hD ht]; exact h.tmp t
 refine one_fam (ι := fam.ι) fam.inh (β := β) (K := K) (ρ := valT (F y p).T) (G := (F y p).G) (Gc := AM.GX ops (F y) (X y) D) (n := (F y p).n) (out := out) env ?_ ?_ ?_ h.kok h.mr ?_ ?_ _ _ fun v w' hpost => ?_
 ·intro ρr Gr e1 e2 hpre
  refine ok_callG hpre hfam hop hcal ?_ (fun y' => ?_) fun y' => (hout y').2.1
  ·rw [<- e1 (.func f) (by rw [hop]; simp [Op.operands, Call.operands, hcal])]
   rfl
  ·have := (hout y').1
   rw [hF y'] at this
   rw [<- this, <- act_rho e1]
   exact (act_get fun k hk => e2 k hk).symm
 ·intro y'
  have h1 := (R.rgn y').kb p hlt
  rw [(hout y').2.2.2.2.2, hF y'] at h1
  exact h1
 ·intro k hk
  refine (R.rgn y).lookG hc hp hb hD ?_
  rw [(hout y).2.2.2.2.2]
  exact hk
 ·intro y' k h1 h2
  refine (hsw y').sem.free (R.rgn y') hlt hD k (by rw [hF y']; exact h1) ?_
  rw [(hout y').2.2.2.2.1]
  exact h2
 ·intro x hx
  cases x with
  | tmp t =>
    refine hlook t ?_
    unfold looks looksO
    exact List.mem_append_left _ (List.mem_filterMap.2 ⟨.tmp t, by simpa using hx, rfl⟩)
  | const v => exact constV_ok v
  | global g => exact pois_VR
  | func f => exact ⟨[], rfl, trivial⟩
 ·obtain ⟨y', β', K', hp'⟩ := hpost
  have h' := hsw y'
  have hG' := R.GX hlt y y' hc hD
  obtain ⟨_, _, h3, h4, h5, _⟩ := hout y'
  have hs := (R.rgn y').step p o hp
  have hT' : ∀ t, VR β K (AM.TX ops (F y') (X y') D t) (a.tmps.getD t undef) := h'.tmp
  obtain ⟨g1, g2, g3⟩ := tmp_put (Γ := Γ) (d := o.dst) (x := (out y').v) (v := v) hT' hp'.ble hp'.kle h'.nt hs.dst hp'.vr
  refine hn y' β' K' _ _ ⟨?_, g2, g3.trans h'.defers, hp'.kok, ?_, ?_, h'.kle.trans hp'.kle, ?_, ?_, ?_, fun k y hk e => hp'.ble _ _ (h'.ble k y hk e), h'.le⟩
  ·rw [(R.rgn y').addT hc hp hD, h3]; exact g1
  ·rw [(R.rgn y').addG hc hp hD, h4, <- hG']; exact hp'.mr
  ·intro k hk
   rcases hp'.dom k hk with h7 | ⟨h7, h8⟩
   ·rcases h'.dom k h7 with h9 | ⟨j, h9, h10, h11⟩
    ·exact .inl h9
    ·exact .inr ⟨j, h9, by simp [addD, h10], h11⟩
   ·exact .inr ⟨p, hlt, addD_self, by rw [hF y']; exact h7, by rw [h5]; exact h8⟩
  ·intro b arr e
   rcases hp'.knew b arr e with h7 | h7 | h7
   ·exact h.knew b arr h7
   ·exact .inr (h.own b h7)
   ·exact .inr (.inr (Nat.le_trans h.fr.size h7))
  ·exact h.fr.trans hp'.fr (jsub h.own h.knew)
  ·intro x hx
   rw [(R.rgn y').addG hc hp hD, h4, <- hG'] at hx
   rcases hp'.own x hx with h7 | h7
   ·exact h.own x h7
   ·exact .inr (Nat.le_trans h.fr.size h7)
theorem Runs.any (R : Runs Γ ops f fam p F E X) (env : EnvOK P Γ) (hfam : FamOK P f fam) {op : Oper} (hp : ops[p]? = some op) (hg : op.guard = none) {c : Call} (hop : op.op = .call c) (hcal : c.callee = .value (.func f))
 (hQ : ∀ y β K a w, SRf P Γ z β K (F y ops.size) a w -> Q .normal a w) :
 ∀ (fuel : Nat) (listed : Array Bool), listed.size = ops.size -> cnt (fun k => listed.getD k false) ops.size <= fuel -> Closed ops (fun k => listed.getD k false) ->
 ∀ y β K a w, DS P Γ z ops (F y) (X y) (fun k => listed.getD k false) β K a w -> wpAny P .any ops Q fuel listed a w := by
 have hall : ∀ (listed : Array Bool), listed.size = ops.size -> Region.ready .any ops listed = [] -> ∀ i, i < ops.size -> listed.getD i false = true := by
  intro listed hsz hr i
  induction i using Nat.strongRecOn with
  | _ i ih =>
    intro hi
    cases hq : listed.getD i false with
    | true => rfl
    | false =>
      exfalso
      have ho : ops[i]? = some ops[i] := Array.getElem?_eq_getElem hi
      have : i ∈ Region.ready .any ops listed := by
       rw [mem_ready]
       refine ⟨?_, _, ho, fun e he hb => ?_⟩
       ·have hlt : i < listed.size := by omega
        simp [hlt] at hq ⊢
        exact hq
       ·obtain ⟨y0⟩ := fam.inh
        have hlt := (R.rgn y0).edge i _ ho e he hb
        exact ih e.on hlt (by omega)
      rw [hr] at this
      cases this
 intro fuel
 induction fuel with
 | zero =>
   intro listed hsz hc hcl y β K a w h
   have hD := cnt_zero (Nat.le_zero.1 hc)
   refine ⟨?_, hQ y β K a w (h.sem.all (R.rgn y) hD).unsem⟩
   cases hr : Region.ready .any ops listed with
   | nil => rfl
   | cons i r =>
     exfalso
     have hm : i ∈ Region.ready .any ops listed := by rw [hr]; exact List.mem_cons_self ..
     obtain ⟨h1, o, ho, _⟩ := mem_ready.1 hm
     have hlt : i < ops.size := (Array.getElem?_eq_some_iff.1 ho).1
     have h2 := hD i hlt
     have hlt2 : i < listed.size := by omega
     simp [hlt2] at h1 h2
     rw [h1] at h2
     cases h2
 | succ fuel ih =>
   intro listed hsz hc hcl y β K a w h
   refine ⟨fun hr => hQ y β K a w (h.sem.all (R.rgn y) (hall listed hsz hr)).unsem, fun i hi => ?_⟩
   obtain ⟨h1, o, ho, h2⟩ := mem_ready.1 hi
   have hlt : i < ops.size := (Array.getElem?_eq_some_iff.1 ho).1
   have hlt2 : i < listed.size := by omega
   have hDi : (fun k => listed.getD k false) i = false := by
    simp [hlt2] at h1 ⊢
    exact h1
   have hD' : (fun k => (listed.setIfInBounds i true).getD k false) = addD (fun k => listed.getD k false) i := by
    funext k
    by_cases hk : k = i
    ·subst hk
     rw [addD_self]
     simp [hlt2]
    ·rw [addD_ne hk]
     exact getD_set_ne false (Ne.symm hk)
   have hbo : bound (fun k => listed.getD k false) o := fun e he hb => h2 e he hb
   have hnext : ∀ y' β' K' a' w', DS P Γ z ops (F y') (X y') (addD (fun k => listed.getD k false) i) β' K' a' w' -> wpAny P .any ops Q fuel (listed.setIfInBounds i true) a' w' := by
    intro y' β' K' a' w' h'
    refine ih (listed.setIfInBounds i true) (by simpa using hsz) ?_ ?_ y' β' K' a' w' (by rw [hD']; exact h')
    ·rw [hD']
     have := cnt_add (D := fun k => listed.getD k false) hDi hlt
     omega
    ·rw [hD']
     exact hcl.add ho hbo
   by_cases hip : i = p
   ·subst hip
    rw [hp] at ho
    cases ho
    exact R.step env hfam hp hg hop hcal h hcl hbo hDi hnext
   ·exact DS.step env (R.rgn y) h.sem hcl ho (fun T G n => act_foreign (R.other i o hip ho) T G n) hbo hDi fun β' K' a' w' h' => hnext y β' K' a' w' h'.unsem
theorem regN_ok {R : Type} (env : EnvOK P Γ) {N : Nat -> Option Fam} (hN : ∀ f fam, N f = some fam -> FamOK P f fam) {id : Nat} {K : Ex -> St -> Option R} {s : St} {r : R} (h : regN Γ N id ops K s = some r) {a : Act} {w : World} (hs : SR P Γ z s a w) :
 (Code.region id ops true).wp P (Lands P Γ z K r) a w := by
 unfold regN at h
 split at h
 ·exact EBk_ok env (.region id ops true) (fun c' hc' => by cases hc') K s r h a w hs
 ·rename_i p f fam hopen
  split at h
  case h_2 => cases h
  rename_i hrest
  obtain ⟨_, op, hop, halt⟩ := openCall_spec hopen
  rw [Nat.sub_zero] at hop
  obtain ⟨hg, hNf, c, hcall, hcal⟩ := callAlt_spec halt
  have hall := allK_spec h
  have hrun : ∀ y : fam.ι, ∃ (q : (Nat -> FS) × (Nat -> Ent) × (Nat -> Res) × St), q.1 0 = s.fs /\ q.1 ops.size = q.2.2.2.fs /\ q.2.2.2.m = s.m /\ (∀ i o, ops[i]? = some o -> StepR (Γ.withSem f (fam.mean y)) ops o (q.1 i) (q.2.1 i) (q.2.2.1 i) (q.1 (i + 1))) /\
   drawOk ops (((List.range ops.size).map q.2.1).reverse ++ []) = true /\ K .normal q.2.2.2 = some r := by
   intro y
   have hy := hall y
   unfold EBk at hy
   obtain ⟨F, E, X, s', f0, fl, fm, fs, fk⟩ := opsK_run ops.toList hy
   rw [Array.length_toList] at fl fk
   dsimp only at fk
   split at fk
   ·rename_i hd
    exact ⟨(F, E, X, s'), f0, fl, fm, fun i o e => fs i o (by rw [Array.getElem?_toList]; exact e), hd, fk⟩
   ·cases fk
  obtain ⟨q, hq⟩ := Classical.axiomOfChoice hrun
  have hp : ops[p]? = some op := by rw [<- Array.getElem?_toList]; exact hop
  have hlt : p < ops.size := (Array.getElem?_eq_some_iff.1 hp).1
  have R : Runs Γ ops f fam p (fun y => (q y).1) (fun y => (q y).2.1) (fun y => (q y).2.2.1) := by
   refine ⟨fun y => ?_, fun y y' => (hq y).1.trans (hq y').1.symm, fun i o hi ho => ?_, fun i o hi ho D hc hD hDp => ?_⟩
   ·obtain ⟨_, _, _, h4, h5, _⟩ := hq y
    obtain ⟨d1, d2, d3⟩ := draw_spec h5
    exact ⟨h4, d1, d2, d3⟩
   ·have hlen : i < (ancs ops.toList []).length := by rw [ancs_length]; have := (Array.getElem?_eq_some_iff.1 ho).1; simpa using this
    exact (restB_spec hrest i o _ (by rw [Array.getElem?_toList]; exact ho) (List.getElem?_eq_getElem hlen) (by omega)).1
   ·have hlen : i < (ancs ops.toList []).length := by rw [ancs_length]; have := (Array.getElem?_eq_some_iff.1 ho).1; simpa using this
    have ha := List.getElem?_eq_getElem hlen
    rcases (restB_spec hrest i o _ (by rw [Array.getElem?_toList]; exact ho) ha (by omega)).2 with h1 | h1 | h1
    ·omega
    ·have := ancs_bit (D := D) ops.toList [] (fun i o e hd => hc i o (by rw [<- Array.getElem?_toList]; exact e) (by simpa using hd)) (fun p x e => by simp at e) i _ ha hD p h1
     rw [hDp] at this
     cases this
    ·exact h1
  obtain ⟨hm, β, Ks, hf⟩ := hs
  obtain ⟨y0⟩ := fam.inh
  have hrep : ∀ k, (Array.replicate ops.size false).getD k false = false := by
   intro k
   simp only [Array.getD_eq_getD_getElem?, Array.getElem?_replicate]
   split <;> rfl
  have hf0 : SRf P (Γ.withSem f (fam.mean y0)) z β Ks ((q y0).1 0) a { w with drawn := w.drawn + 1 } := by
   rw [(hq y0).1]
   have := hf.still (w' := { w with drawn := w.drawn + 1 }) ⟨rfl, rfl, rfl, rfl⟩
   exact ⟨this.tmp, this.nt, this.defers, this.kok, this.mr, this.fresh, this.kle, this.knew, this.fr, this.own, this.ble, this.le⟩
  refine wp_region_any env.mixed (R.any (z := z) env (hN f fam hNf) hp hg hcall hcal (fun y β K' a w h => ⟨(q y).2.2.2, ⟨(hq y).2.2.1.trans hm, β, K', by rw [<- (hq y).2.1]; exact h⟩, (hq y).2.2.2.2.2⟩) ops.size _ (by simp) ?_ ?_ y0 β Ks _ _ ?_)
  ·have : ∀ N, cnt (fun k => (Array.replicate ops.size false).getD k false) N = N := by
    intro N
    induction N with
    | zero => rfl
    | succ N ih =>
      simp only [cnt]
      rw [if_neg (by rw [hrep]; simp), ih]
      omega
   rw [this]
   exact Nat.le_refl _
  ·intro i o hi hD
   dsimp only at hD
   rw [hrep] at hD
   cases hD
  ·exact (DS.start (R.rgn y0) hf0 hrep).unsem
end
structure SFam where
 ι : Type
 inh : Nonempty ι
 out : ι -> Bool × St × St
structure NLoop where
 m : LoopM
 run : St -> Option (Bool × SFam)
structure NEnv where
 fam : Nat -> Option Fam
 loops : Nat -> Option NLoop
def outK {R : Type} (L : LoopM) (K : Ex -> St -> Option R) (p : Bool × St × St) : Option R := match p.1 with
 | true => K .ret p.2.2
 | false => K (.exit L.ex) p.2.1
noncomputable def runN {R : Type} (L : NLoop) (K : Ex -> St -> Option R) (s : St) : Option R :=
 match canon L.m.live L.m.own s with
 | none => none
 | some s0 => match L.run s0 with
   | none => none
   | some (ok, fam) => match ok with
     | true => allK fun z => outK L.m K (fam.out z)
     | false => none
noncomputable def EBn {R : Type} (Γ : Env) (N : NEnv) : Code -> (Ex -> St -> Option R) -> St -> Option R
 | .seq x y, K, s => EBn Γ N x (fun e s' => match e with
   | .normal => EBn Γ N y K s'
   | e => K e s') s
 | .cond c x y, K, s => match s.val c with
   | .val (.one (.bool b)) => match b with
     | true => EBn Γ N x (joinK (look Γ.cut (condT c)) K) (s.putC c true)
     | false => EBn Γ N y (joinK (look Γ.cut (condT c)) K) (s.putC c false)
   | _ => none
 | .block id x, K, s => EBn Γ N x (blockK id (look Γ.past id) K) s
 | .loop c, K, s => match N.loops (firstRegion c) with
   | some L => runN L K s
   | none => EBk Γ (.loop c) K s
 | .region id ops d, K, s => match d with
   | false => opsN Γ N.fam ops ops.toList (fun s' => K .normal s') s
   | true => regN Γ N.fam id ops K s
 | .skip, K, s => K .normal s
 | .label _, K, s => K .normal s
 | .exit id, K, s => K (.exit id) s
 | .ret, K, s => EBk Γ .ret K s
 | _, _, _ => none
noncomputable def loopN {R : Type} (Γ : Env) (N : NEnv) (c : Code) (L : LoopM) (K : Ex -> St -> Option R) : Nat -> St -> Option R
 | 0, _ => none
 | k + 1, s => EBn Γ N c (roundK L.live L.own L.ex L.past L.pown (loopN Γ N c L K k) K) s
def NLoopSound (Γ : Env) (N : NEnv) (c : Code) (L : NLoop) : Prop :=
 ∀ s0 fam, L.run s0 = some (true, fam) -> ∀ (R : Type) (K : Ex -> St -> Option R) (r : R), (∀ z, outK L.m K (fam.out z) = some r) -> ∃ n, loopN Γ N c L.m K n s0 = some r
def NLoopsOK (Γ : Env) (N : NEnv) (c : Code) : Prop := ∀ c' ∈ loopsOf c, ∀ L, N.loops (firstRegion c') = some L -> NLoopSound Γ N c' L
def NOK (P : Program) (N : NEnv) : Prop := ∀ f fam, N.fam f = some fam -> FamOK P f fam
noncomputable def callN {R : Type} (Γ : Env) (N : NEnv) (c : Code) (f : List W × List (Option Blk) -> Option R) (args : List W) (ins : List Blk) : Option R :=
 match Nat.ble args.length Γ.nt with
 | true => EBn Γ N c (fun e s => match e with
   | .exit _ => none
   | _ => match fin Γ s with
     | some r => f r
     | none => none) (initS args ins)
 | false => none
section
variable {P : Program} {Γ : Env} {z : Start}
theorem loop_okN {R : Type} {N : NEnv} {c : Code} {L : LoopM} {K : Ex -> St -> Option R} {r : R}
 (hc : ∀ (K : Ex -> St -> Option R) s r, EBn Γ N c K s = some r -> ∀ a w, SR P Γ z s a w -> c.wp P (Lands P Γ z K r) a w) (n : Nat) {s : St} (h : loopN Γ N c L K n s = some r) {a : Act} {w : World} (hs : SR P Γ z s a w) :
 (Code.loop c).wp P (Lands P Γ z K r) a w := by
 classical
 let J : Act -> World -> Nat -> Prop := fun a w k => ∃ s, SR P Γ z s a w /\ loopN Γ N c L K k s = some r
 let I : Act -> World -> Prop := fun a w => ∃ k, J a w k
 have hmin : ∀ a w, I a w -> ∃ k, J a w k /\ ∀ j, j < k -> ¬ J a w j := fun a w ⟨k, hk⟩ => least k hk
 let μ : Act -> World -> Nat := fun a w => if h : I a w then (hmin a w h).choose else 0
 have hμ : ∀ a w, I a w -> J a w (μ a w) /\ ∀ j, j < μ a w -> ¬ J a w j := by
  intro a w hI
  have : μ a w = (hmin a w hI).choose := dif_pos hI
  rw [this]
  exact (hmin a w hI).choose_spec
 refine wp_loop I μ ⟨n, s, hs, h⟩ fun a w hI => ?_
 obtain ⟨⟨s, hs, hk⟩, _⟩ := hμ a w hI
 cases hn : μ a w with
 | zero => rw [hn] at hk; simp [loopN] at hk
 | succ k =>
   rw [hn] at hk
   simp only [loopN] at hk
   refine wp_mono (hc _ s r hk a w hs) fun e a' w' he => ?_
   cases e with
   | normal =>
     obtain ⟨s', hs', hk'⟩ := he
     unfold roundK at hk'
     dsimp only at hk'
     split at hk'
     ·rename_i s'' hc'
      have hJ : J a' w' k := ⟨s'', canon_ok hs' hc', hk'⟩
      have hI' : I a' w' := ⟨k, hJ⟩
      refine ⟨hI', ?_⟩
      have h2 := (hμ a' w' hI').2 k
      rcases Nat.lt_or_ge k (μ a' w') with h3 | h3
      ·exact absurd hJ (h2 h3)
      ·omega
     ·cases hk'
   | exit i => exact endK_ok (ex := L.ex) (past := L.past) (pown := L.pown) (.exit i) a' w' he
   | ret => exact endK_ok (ex := L.ex) (past := L.past) (pown := L.pown) .ret a' w' he
   | _ => exact he
theorem EBn_ok {R : Type} (env : EnvOK P Γ) {N : NEnv} (hN : NOK P N) : ∀ (c : Code), LoopsOK Γ c -> NLoopsOK Γ N c -> ∀ (K : Ex -> St -> Option R) (s : St) (r : R), EBn Γ N c K s = some r -> ∀ a w, SR P Γ z s a w -> c.wp P (Lands P Γ z K r) a w := by
 intro c
 induction c with
 | skip => exact fun _ _ K s r h a w hs => wp_skip ⟨s, hs, h⟩
 | label l => exact fun _ _ K s r h a w hs => wp_label ⟨s, hs, h⟩
 | exit id => exact fun _ _ K s r h a w hs => wp_exit ⟨s, hs, h⟩
 | ret => exact fun hL _ K s r h a w hs => EBk_ok env .ret hL K s r h a w hs
 | seq x y ihx ihy =>
   intro hL hM K s r h a w hs
   unfold EBn at h
   refine wp_seq (wp_mono (ihx (fun c' hc' => hL c' (List.mem_append_left _ hc')) (fun c' hc' => hM c' (List.mem_append_left _ hc')) _ s r h a w hs) fun e a' w' he => ?_)
   cases e with
   | normal =>
     obtain ⟨s', hs', hk⟩ := he
     exact ihy (fun c' hc' => hL c' (List.mem_append_right _ hc')) (fun c' hc' => hM c' (List.mem_append_right _ hc')) K s' r hk a' w' hs'
   | exit i => exact he
   | ret => exact he
   | _ => exact he
 | cond c x y ihx ihy =>
   intro hL hM K s r h a w hs
   unfold EBn at h
   split at h
   ·rename_i b hb
    obtain ⟨hm, β, Ks, hf⟩ := hs
    have hv := eval_ok hf.tmp c
    rw [<- val_fs, hb] at hv
    have hev : a.eval c = .bool b := hv
    have hput : ∀ b', b = b' -> SR P Γ z (s.putC c b') a w := by
     intro b' e
     subst e
     cases c with
     | tmp t =>
       have := put_same s t (boolV b) hb
       exact ⟨hm, β, Ks, by rw [show (s.putC (.tmp t) b).fs = (s.put t (boolV b)).fs from rfl, this]; exact hf⟩
     | _ => exact ⟨hm, β, Ks, hf⟩
    refine wp_cond hev ?_
    cases b with
    | true => exact wp_mono (ihx (fun c' hc' => hL c' (List.mem_append_left _ hc')) (fun c' hc' => hM c' (List.mem_append_left _ hc')) _ _ r h a w (hput true rfl)) joinK_ok
    | false => exact wp_mono (ihy (fun c' hc' => hL c' (List.mem_append_right _ hc')) (fun c' hc' => hM c' (List.mem_append_right _ hc')) _ _ r h a w (hput false rfl)) joinK_ok
   ·cases h
 | block id x ih =>
   intro hL hM K s r h a w hs
   unfold EBn at h
   exact wp_block (wp_mono (ih hL hM _ s r h a w hs) blockK_ok)
 | loop x ih =>
   intro hL hM K s r h a w hs
   unfold EBn at h
   split at h
   ·rename_i L hl
    unfold runN at h
    split at h
    ·cases h
    ·rename_i s0 hc0
     split at h
     ·cases h
     ·rename_i ok fam hrun
      split at h
      case h_2 => cases h
      obtain ⟨n, hn⟩ := hM x (List.mem_cons_self ..) L hl s0 fam hrun R K r (allK_spec h)
      exact loop_okN (L := L.m) (ih (fun c' hc' => hL c' (List.mem_cons_of_mem _ hc')) (fun c' hc' => hM c' (List.mem_cons_of_mem _ hc'))) n hn (canon_ok hs hc0)
   ·exact EBk_ok env (.loop x) hL K s r h a w hs
 | region id ops d =>
   intro hL hM K s r h a w hs
   cases d with
   | false =>
     unfold EBn at h
     refine wp_region ?_
     rw [List.range_eq_range']
     have := opsN_ok env hN (ops := ops) (Q := Lands P Γ z K r) (r := r) (K := fun s' => K .normal s') (fun s' a w h1 h2 => ⟨s', h1, h2⟩) ops.toList 0 rfl (by simp) s h a w hs
     rw [Array.length_toList] at this
     exact this
   | true =>
     unfold EBn at h
     exact regN_ok env hN h hs
 | _ => intro _ _ K s r h; simp [EBn] at h
theorem callN_ok {R : Type} (env : EnvOK P Γ) {N : NEnv} (hN : NOK P N) {f : Nat} {c : Code} (hf : FnIs P f Γ c) (hNL : NLoopsOK Γ N c) {g : List W × List (Option Blk) -> Option R} {args : List W} {ins : List Blk} {r : R} (h : callN Γ N c g args ins = some r)
 {β0 : Bt} {K0 : Ks} {w0 : World} {vs : Array Value} (hk : KOK K0 w0) (hm : MR β0 K0 (getL ins) w0) (hfr : ∀ k, ins.length <= k -> β0 k = none) (hv : All2 (WR β0 K0) args vs.toList) :
 Calls P f vs w0 fun e w' => ∃ v β K rs outs, e = .returned v /\ g (rs, outs) = some r /\ Ret ins outs rs β0 K0 w0 v w' β K := by
 obtain ⟨fn, hfn, hbody, hres, hnt, _⟩ := hf.is
 unfold callN at h
 split at h
 case h_2 => cases h
 rename_i hle
 have hle : args.length <= Γ.nt := by simpa using hle
 have hlen : args.length = vs.size := by simpa using hv.length
 refine calls_of_wp hfn hbody ?_
 rw [hnt]
 let z : Start := ⟨β0, K0, w0, ins.length, Own β0 (getL ins)⟩
 have h0 : SR P Γ z (initS args ins) { tmps := vs ++ Array.replicate (Γ.nt - vs.size) undef, defers := [] } w0 := by
  refine ⟨rfl, β0, K0, ⟨fun t => ?_, by simp; omega, rfl, hk, ?_, hfr, KLe.refl _, fun b arr e => .inl e, Fr.refl _ _, ?_, fun k y _ e => e, Nat.le_refl _⟩⟩
  ·have h1 := (initT_look (i := 0) hv t).1
   rw [Nat.zero_add] at h1
   have h2 : (vs ++ Array.replicate (Γ.nt - vs.size) undef).getD t undef = vs.toList.getD t undef := by
    simp only [Array.getD_eq_getD_getElem?, List.getD_eq_getElem?_getD, Array.getElem?_toList]
    rw [Array.getElem?_append]
    split
    ·rfl
    ·rename_i hlt
     rw [Array.getElem?_replicate, Array.getElem?_eq_none (xs := vs) (by omega)]
     split <;> rfl
   show VR β0 K0 ((initS args ins).tmpV t) ((vs ++ Array.replicate (Γ.nt - vs.size) undef).getD t undef)
   rw [h2]
   exact h1
  ·show MR β0 K0 (initS args ins).get w0
   rw [initM_get]; exact hm
  ·intro x hx
   left
   have : (initS args ins).fs.G = getL ins := initM_get args ins
   rw [this] at hx
   exact hx
 refine wp_mono (EBn_ok env hN c hf.loops hNL _ _ r h _ _ h0) fun e a w he => ?_
 have main : ∀ s, SR P Γ z s a w -> (match fin Γ s with | some r => g r | none => none) = some r -> a.defers = [] /\ ∃ v, (results fn a.tmps).run P w = .ok v w /\ ∃ v' β K rs outs, Ending.returned v = .returned v' /\ g (rs, outs) = some r /\ Ret ins outs rs β0 K0 w0 v' w β K := by
  intro s hs hg
  split at hg
  case h_2 => cases hg
  rename_i ro hfin
  obtain ⟨rs, outs⟩ := ro
  obtain ⟨hm', β, K, hs⟩ := hs
  unfold fin at hfin
  split at hfin
  ·cases hfin
  ·rename_i ws hws
   obtain ⟨v, hr1, hr2⟩ := res_ok env hres hs hws
   dsimp only at hfin
   generalize hksd : reach s.get reachFuel (upto s.m ++ ws.flatMap keysW) (upto 0) = ks at hfin
   have hnd : (upFrom ks s.m).Nodup := by
    rw [upFrom_eq, <- hksd]
    exact List.Pairwise.filter _ (reach_nodup _ _ _ _ (by simp [upto]))
   have hge : ∀ k ∈ upFrom ks s.m, s.m <= k := by
    intro k hk
    rw [upFrom_eq, List.mem_filter] at hk
    simpa using hk.2
   generalize upFrom ks s.m = rest at hfin hnd hge
   split at hfin
   ·rename_i ws' outs' h1 h2
    cases hfin
    have hlo : outs.length = s.m + rest.length := by rw [mapO_length h2, List.length_append, upto_length]
    have hsrc : ∀ k' b', getO outs k' = some b' -> ∃ k b, newKey rest s.m k = some k' /\ s.get k = some b /\ renB (newKey rest s.m) b = some b' := by
     intro k' b' e
     unfold getO at e
     cases hq : outs[k']? with
     | none => rw [hq] at e; cases e
     | some x =>
       rw [hq] at e
       have hx : x = some b' := e
       subst hx
       obtain ⟨k, hk, hr⟩ := (All2.ofMap h2).get?' hq
       have hnk : newKey rest s.m k = some k' := by
        rw [List.getElem?_append, upto_length] at hk
        unfold newKey
        split at hk
        ·rename_i hlt
         rw [upto_get, if_pos hlt] at hk
         have hkk : k' = k := Option.some.inj hk
         rw [<- hkk, show Nat.blt k' s.m = true by simpa [Nat.blt_eq] using hlt]
        ·rename_i hlt
         have h3 := hge k (List.mem_of_getElem? hk)
         rw [show Nat.blt k s.m = false from Bool.eq_false_iff.2 fun e => by rw [Nat.blt_eq] at e; omega]
         dsimp only
         rw [indexN_of hnd hk]
         congr 1
         omega
       cases hg0 : s.get k with
       | none => rw [hg0] at hr; simp [renOB] at hr
       | some b0 =>
         rw [hg0] at hr
         simp only [renOB, Option.map_eq_some_iff, Option.some.injEq] at hr
         obtain ⟨b1, h4, h5⟩ := hr
         exact ⟨k, b0, hnk, hg0, by rw [h4, h5]⟩
    refine ⟨hs.defers, v, hr1, v, renBt β rest s.m, K, rs, outs, rfl, hg, ⟨hs.kle, hs.kok, hs.knew, hs.mr.ren renBt_ok hsrc, fun k hk => renBt_ge (by omega), ?_, hs.fr, fun x hx => hs.own x (hx.ren hs.mr renBt_ok hsrc), ?_, ?_⟩⟩
    ·have h3 : VR (renBt β rest s.m) K (outV rs) v := outV_map h1 hr2 fun c c' u _ hcc hu => renW_ok renBt_ok hcc hu
     exact h3
    ·intro k y e
     have hkm : k < ins.length := by
      rcases Nat.lt_or_ge k ins.length with h3 | h3
      ·exact h3
      ·rw [hfr k h3] at e; cases e
     have hzm : s.m = ins.length := hm'
     rw [renBt_lt (by omega)]
     exact hs.ble k y hkm e
    ·have hzm : s.m = ins.length := hm'
     omega
   ·cases hfin
 cases e with
 | normal => obtain ⟨s, hs, hg⟩ := he; exact main s hs hg
 | ret => obtain ⟨s, hs, hg⟩ := he; exact main s hs hg
 | exit i => obtain ⟨s, hs, hg⟩ := he; cases hg
 | _ => exact he.elim
end
open Go Go.RowKit
section
variable {Γ : Env} {N : NEnv}
theorem opsK_map {R R' : Type} {ops : Array Oper} {L : List Oper} {s : St} {tr : List Ent} {K : St -> List Ent -> Option R} {K' : St -> List Ent -> Option R'} {r : R} {r' : R'} (hK : ∀ s tr, K s tr = some r -> K' s tr = some r') (h : opsK Γ ops L s tr K = some r) :
 opsK Γ ops L s tr K' = some r' := by
 rcases opsK_nat (Γ := Γ) ops L s tr with hn | ⟨s', tr', hr⟩
 ·rw [hn] at h; cases h
 ·rw [hr] at h ⊢; exact hK _ _ h
theorem runK_map {R R' : Type} {o : Oper} {s : St} {K : St -> Ent -> Option R} {K' : St -> Ent -> Option R'} {r : R} {r' : R'} (hK : ∀ s e, K s e = some r -> K' s e = some r') (h : runK Γ o K s = some r) : runK Γ o K' s = some r' := by
 rcases runK_nat (Γ := Γ) o s with hn | ⟨s', e, hr⟩
 ·rw [hn] at h; cases h
 ·rw [hr] at h ⊢; exact hK _ _ h
theorem EBk_map {R R' : Type} {c : Code} {s : St} {K : Ex -> St -> Option R} {K' : Ex -> St -> Option R'} {r : R} {r' : R'} (hK : ∀ e s, K e s = some r -> K' e s = some r') (h : EBk Γ c K s = some r) : EBk Γ c K' s = some r' := by
 rcases EBk_road (Γ := Γ) c s with hn | ⟨e, s', hr⟩
 ·dsimp only at hn; rw [hn] at h; cases h
 ·dsimp only at hr; rw [hr] at h ⊢; exact hK _ _ h
instance : Nonempty Bits32 := ⟨⟨0, by decide⟩⟩
theorem opsN_map {R R' : Type} {F : Nat -> Option Fam} {ops : Array Oper} {r : R} {r' : R'} : ∀ {L : List Oper} {s : St} {K : St -> Option R} {K' : St -> Option R'}, (∀ s, K s = some r -> K' s = some r') -> opsN Γ F ops L K s = some r -> opsN Γ F ops L K' s = some r'
 | [], s, K, K', hK, h => hK s h
 | o :: rest, s, K, K', hK, h => by
   unfold opsN at h ⊢
   split at h
   ·exact opsK_map (fun s _ h => opsN_map hK h) h
   ·rename_i f fam _
    haveI := fam.inh
    exact allK_intro fun z => runK_map (fun s _ h => opsN_map hK h) (allK_spec h z)
   ·split at h
    ·exact opsK_map (fun s _ h => opsN_map hK h) h
    ·split at h
     ·exact allK_intro fun z => opsN_map hK (allK_spec h z)
     ·cases h
theorem joinK_map {R R' : Type} {cut : Option (List Nat × List Cv)} {K : Ex -> St -> Option R} {K' : Ex -> St -> Option R'} {r : R} {r' : R'} (hK : ∀ e s, K e s = some r -> K' e s = some r') : ∀ e s, joinK cut K e s = some r -> joinK cut K' e s = some r' := by
 intro e s h
 unfold joinK at h ⊢
 cases e with
 | normal =>
   cases cut with
   | none => exact hK _ _ h
   | some c =>
     dsimp only at h ⊢
     split at h
     ·rename_i s' hc
      exact hK _ _ h
     ·cases h
 | exit i => exact hK _ _ h
 | ret => exact hK _ _ h
theorem blockK_map {R R' : Type} {id : Nat} {cut : Option (List Nat × List Cv)} {K : Ex -> St -> Option R} {K' : Ex -> St -> Option R'} {r : R} {r' : R'} (hK : ∀ e s, K e s = some r -> K' e s = some r') : ∀ e s, blockK id cut K e s = some r -> blockK id cut K' e s = some r' := by
 intro e s h
 unfold blockK at h ⊢
 cases e with
 | normal => exact joinK_map hK _ _ h
 | exit i =>
   dsimp only at h ⊢
   split at h
   ·exact joinK_map hK _ _ h
   ·exact hK _ _ h
 | ret => exact hK _ _ h
theorem EBn_map {R R' : Type} {r : R} {r' : R'} : ∀ (c : Code) {s : St} {K : Ex -> St -> Option R} {K' : Ex -> St -> Option R'}, (∀ e s, K e s = some r -> K' e s = some r') -> EBn Γ N c K s = some r -> EBn Γ N c K' s = some r' := by
 intro c
 induction c with
 | skip => intro s K K' hK h; unfold EBn at h ⊢; exact hK _ _ h
 | label l => intro s K K' hK h; unfold EBn at h ⊢; exact hK _ _ h
 | exit i => intro s K K' hK h; unfold EBn at h ⊢; exact hK _ _ h
 | ret => intro s K K' hK h; unfold EBn at h ⊢; exact EBk_map hK h
 | seq x y ihx ihy =>
   intro s K K' hK h
   unfold EBn at h ⊢
   refine ihx (fun e s h => ?_) h
   cases e with
   | normal => exact ihy hK h
   | exit i => exact hK _ _ h
   | ret => exact hK _ _ h
 | cond c x y ihx ihy =>
   intro s K K' hK h
   unfold EBn at h ⊢
   split at h
   ·rename_i b hb
    cases b with
    | true => exact ihx (joinK_map hK) h
    | false => exact ihy (joinK_map hK) h
   ·cases h
 | block id x ih =>
   intro s K K' hK h
   unfold EBn at h ⊢
   exact ih (blockK_map hK) h
 | loop x ih =>
   intro s K K' hK h
   unfold EBn at h ⊢
   split at h
   ·rename_i L hl
    unfold runN at h ⊢
    split at h
    ·cases h
    ·rename_i s0 hc0
     split at h
     ·cases h
     ·rename_i ok fam hrun
      split at h
      case h_2 => cases h
      haveI := fam.inh
      refine allK_intro fun z => ?_
      have := allK_spec h z
      unfold outK at this ⊢
      split at this
      ·exact hK _ _ this
      ·exact hK _ _ this
   ·exact EBk_map hK h
 | region id ops d =>
   intro s K K' hK h
   cases d with
   | false => unfold EBn at h ⊢; exact opsN_map (fun s h => hK _ _ h) h
   | true =>
     unfold EBn at h ⊢
     dsimp only at h ⊢
     unfold regN at h ⊢
     split at h
     ·exact EBk_map hK h
     ·rename_i p f fam _
      split at h
      ·haveI := fam.inh
       exact allK_intro fun z => EBk_map hK (allK_spec h z)
      ·cases h
 | _ => intro s K K' hK h; simp [EBn] at h
def endH (shX : ShS) (h : shX.den -> Option Unit) (e : Ex) (s : St) : Option Unit := match e with
 | .exit _ => atS shX h s
 | _ => none
abbrev ChL {V X : Type} (ok : V -> Bool) (Q : V -> X -> Prop) : Type := { g : V -> X // ∀ v, ok v = true -> Q v (g v) }
def loopXN (live : List Nat) (own : List Cv) (ex : Nat) (past : List Nat) (pown : List Cv) (sh shX : ShS) (ok : sh.den -> Bool) (Q : sh.den -> shX.den -> Prop) (hne : Nonempty (ChL ok Q)) : NLoop :=
 ⟨⟨live, own, ex, past, pown, fun _ => none⟩, fun s => match getS sh s with
  | some v => some (ok v, ⟨ChL ok Q, hne, fun g => (false, mkS shX (g.1 v), mkS shX (g.1 v))⟩)
  | none => none⟩
theorem loopXN_sound {c : Code} {live : List Nat} {own : List Cv} {ex : Nat} {past : List Nat} {pown : List Cv} {sh shX : ShS} {g : (shX.den -> Option Unit) -> (sh.den -> Option Unit) -> sh.den -> Option Unit}
 (hg : ∀ h f v, EBn Γ N c (roundK live own ex past pown (atS sh f) (endH shX h)) (mkS sh v) = g h f v) {ok : sh.den -> Bool} {Q : sh.den -> shX.den -> Prop} {hne : Nonempty (ChL ok Q)}
 (hi : ∀ v, ok v = true -> ∀ h : shX.den -> Option Unit, (∀ y, Q v y -> h y = some ()) -> ∃ n, iter (g h) n v = some ()) : NLoopSound Γ N c (loopXN live own ex past pown sh shX ok Q hne) := by
 classical
 intro s0 fam hrun R K r hz
 simp only [loopXN] at hrun
 split at hrun
 case h_2 => cases hrun
 rename_i v hv
 have hok : ok v = true := by have := Option.some.inj hrun; exact (Prod.mk.inj this).1
 have hfam := (Prod.mk.inj (Option.some.inj hrun)).2
 subst hfam
 obtain ⟨n, hn⟩ := hi v hok (fun y => if Q v y then some () else none) (fun y hy => if_pos hy)
 refine ⟨n, ?_⟩
 rw [getS_ok hv]
 clear hv
 have main : ∀ n v', iter (g fun y => if Q v y then some () else none) n v' = some () -> loopN Γ N c (loopXN live own ex past pown sh shX ok Q hne).m K n (mkS sh v') = some r := by
  intro n
  induction n with
  | zero => intro v' h; cases h
  | succ n ih =>
    intro v' h
    simp only [iter] at h
    rw [<- hg] at h
    simp only [loopN]
    refine EBn_map c (fun e s he => ?_) h
    cases e with
    | normal =>
      simp only [roundK] at he ⊢
      split at he
      ·rename_i s'' hc
       have hc' : canon (loopXN live own ex past pown sh shX ok Q hne).m.live (loopXN live own ex past pown sh shX ok Q hne).m.own s = some s'' := hc
       rw [hc']
       unfold atS at he
       split at he
       ·rename_i v'' hv''
        rw [getS_ok hv'']
        exact ih v'' he
       ·cases he
      ·cases he
    | exit i =>
      simp only [roundK, endK] at he ⊢
      split at he
      ·rename_i hb
       split at he
       ·rename_i s'' hc
        have hc' : canon (loopXN live own ex past pown sh shX ok Q hne).m.past (loopXN live own ex past pown sh shX ok Q hne).m.pown s = some s'' := hc
        have hb' : Nat.beq i (loopXN live own ex past pown sh shX ok Q hne).m.ex = true := hb
        rw [hb', hc']
        simp only [endH, atS] at he
        split at he
        ·rename_i y hy
         split at he
         ·rename_i hQ
          obtain ⟨g0⟩ := hne
          have := hz ⟨fun u => if u = v then y else g0.1 u, fun u hu => by
           dsimp only
           split
           ·rename_i e; rw [e]; exact hQ
           ·exact g0.2 u hu⟩
          simp only [outK, if_pos] at this
          have e1 : i = ex := nbeq_eq hb
          rw [getS_ok hy, e1]
          exact this
         ·cases he
        ·cases he
       ·cases he
      ·cases he
    | ret => simp only [roundK, endK, endH] at he; cases he
 exact main n v hn
def lookU.{u} {α : Type u} : List (Nat × α) -> Nat -> Option α
 | [], _ => none
 | (k, x) :: r, t => match Nat.beq k t with
   | true => some x
   | false => lookU r t
theorem lookU_mem.{u} {α : Type u} : ∀ {l : List (Nat × α)} {t : Nat} {x : α}, lookU l t = some x -> (t, x) ∈ l
 | (k, y) :: r, t, x, h => by
   simp only [lookU] at h
   split at h
   ·rename_i e
    cases h
    rw [nbeq_eq e]
    exact List.mem_cons_self ..
   ·exact List.mem_cons_of_mem _ (lookU_mem h)
def mkN (fams : List (Nat × Fam)) (loops : List (Nat × NLoop)) : NEnv := ⟨lookU fams, lookU loops⟩
def AllU.{u} {α : Type u} (R : α -> Prop) : List α -> Prop
 | [] => True
 | x :: r => R x /\ AllU R r
theorem AllU.mem.{u} {α : Type u} {R : α -> Prop} : ∀ {l : List α}, AllU R l -> ∀ x ∈ l, R x
 | y :: r, h, x, hx => by
   rcases List.mem_cons.1 hx with rfl | hx
   ·exact h.1
   ·exact h.2.mem x hx
theorem mkN_ok {P : Program} {fams : List (Nat × Fam)} {loops : List (Nat × NLoop)} (h : AllU (fun x => FamOK P x.1 x.2) fams) : NOK P (mkN fams loops) := fun f fam e => h.mem (f, fam) (lookU_mem e)
theorem noNLoops {Γ : Env} {fams : List (Nat × Fam)} {c : Code} : NLoopsOK Γ (mkN fams []) c := fun c' hc L h => by cases h
def decH (O : Sg) {R : Type} (h : O.den -> Option R) (p : List W × List (Option Blk)) : Option R := match decO O p with
 | some y => h y
 | none => none
def decRH (R : Ty) {T : Type} (h : Den R -> Option T) (p : List W × List (Option Blk)) : Option T := match decR R p with
 | some y => h y
 | none => none
noncomputable def callSN (Γ : Env) (N : NEnv) (c : Code) (I O : Sg) (h : O.den -> Option Unit) (x : I.den) : Option Unit := match insOf (encBs I.bs x.2) with
 | some ins => callN Γ N c (decH O h) (encKs I.ws x.1) ins
 | none => none
abbrev Ch (I O : Sg) (ok : I.den -> Bool) (Q : I.den -> O.den -> Prop) : Type := { g : I.den -> O.den // ∀ x, ok x = true -> Q x (g x) }
def sgFam (own : Bool) (I O : Sg) (ok : I.den -> Bool) (Q : I.den -> O.den -> Prop) (hne : Nonempty (Ch I O ok Q)) : Fam := ⟨Ch I O ok Q, hne, fun g => sgMean own I O ok g.1, own⟩
end
section
variable {P : Program} {Γ : Env} {N : NEnv}
theorem sgN_ok (env : EnvOK P Γ) (hN : NOK P N) {f : Nat} {c : Code} (hf : FnIs P f Γ c) (hNL : NLoopsOK Γ N c) {own : Bool} {I O : Sg} {ok : I.den -> Bool} {Q : I.den -> O.den -> Prop} {hne : Nonempty (Ch I O ok Q)}
 (h : ∀ x, ok x = true -> ∀ k : O.den -> Option Unit, (∀ y, Q x y -> k y = some ()) -> callSN Γ N c I O k x = some ()) : FamOK P f (sgFam own I O ok Q hne) := by
 classical
 refine ⟨fun _ => rfl, ?_⟩
 intro args ins hruns β0 K0 w0 vs hk hm hfr hv
 obtain ⟨g0⟩ := hne
 obtain ⟨rs0, outs0, hrun⟩ := hruns g0
 simp only [sgFam, sgMean, decO] at hrun
 split at hrun
 case h_2 => cases hrun
 rename_i x hx
 split at hx
 case h_2 => cases hx
 rename_i x1 hx1
 split at hx
 case h_2 => cases hx
 rename_i x2 hx2
 cases hx
 split at hrun
 case h_2 => cases hrun
 rename_i ins' hins'
 simp only [Option.some.injEq, Prod.mk.injEq] at hrun
 obtain ⟨hok, _, _⟩ := hrun
 obtain ⟨hl1, hg1⟩ := decBs_ok hx2
 obtain ⟨hl2, hg2⟩ := insOf_get hins'
 rw [getO_some] at hg1
 rw [<- hg2] at hg1
 have hlen : ins'.length = ins.length := by rw [hl2, hl1]; simp
 have he := h (x1, x2) hok (fun y => if Q (x1, x2) y then some () else none) (fun y hy => if_pos hy)
 simp only [callSN, hins'] at he
 refine .inl ⟨hf.ok, (callN_ok env hN hf hNL he hk (hm.lax hg1) (fun k hk => hfr k (by omega)) (decKs_ok hx1 hv)).mono ?_⟩
 rintro e w' ⟨v, β, K, rs', outs', rfl, hg, hR⟩
 simp only [decH] at hg
 split at hg
 case h_2 => cases hg
 rename_i y hy
 split at hg
 case isFalse => cases hg
 rename_i hQ
 simp only [decO] at hy
 split at hy
 case h_2 => cases hy
 rename_i y1 hy1
 split at hy
 case h_2 => cases hy
 rename_i y2 hy2
 cases hy
 obtain ⟨hl3, hg3⟩ := decBs_ok hy2
 have hl3' : (encBs O.bs (y1, y2).2).length = outs'.length := hl3
 have hown : ∀ b, Own β0 (getL ins') b -> Own β0 (getL ins) b := fun b hb => hb.lax hg1
 refine ⟨⟨fun x => if x = (x1, x2) then (y1, y2) else g0.1 x, fun x hx => ?_⟩, encKs O.ws y1, encBs O.bs y2, v, β, K, ?_, rfl, ⟨hR.kle, hR.kok, fun b arr e => ?_, hR.mr.lax hg3, fun k hk => hR.fresh k (by simp only at hk hl3'; omega), decKs_out hy1 hR.out, ⟨hR.fr.os, hR.fr.tape, hR.fr.output, hR.fr.size, fun b hb hn => hR.fr.block b hb fun hc => hn (hc.imp (hown b) id)⟩, fun x hx => ?_, hR.ble, ?_⟩⟩
 ·dsimp only
  split
  ·rename_i e; rw [e]; exact hQ
  ·exact g0.2 x hx
 ·simp only [sgFam, sgMean, decO, hx1, hx2, hins', hok, if_pos]
 ·rcases hR.knew b arr e with h1 | h1 | h1
  ·exact .inl h1
  ·exact .inr (.inl (hown b h1))
  ·exact .inr (.inr h1)
 ·rcases hR.own x (hx.lax hg3) with h1 | h1
  ·exact .inl (hown x h1)
  ·exact .inr h1
 ·have := hR.le
  simp only at hl3' ⊢
  omega
theorem lawN_ok (env : EnvOK P Γ) (hN : NOK P N) {f : Nat} {c : Code} (hf : FnIs P f Γ c) (hNL : NLoopsOK Γ N c) {args : List W} {k : Den (.cons .bool .nil) -> Option Unit} (hk : ∀ y, k y = some () -> y = (true, ())) (h : callN Γ N c (decRH (.cons .bool .nil) k) args [] = some ()) {w : World} {vs : Array Value}
 (hv : All2 (WR (fun _ => none) (memK w)) args vs.toList) : Calls P f vs w fun e w' => e = .returned (.bool true) /\ Below w.heap.size w w' := by
 have hm : MR (fun _ => none) (memK w) (getL []) w := ⟨fun k b e => by simp [getL] at e, fun k k' b b' _ _ _ e => by simp [getL] at e, fun k b _ _ e => by simp [getL] at e⟩
 refine (callN_ok env hN hf hNL h (memK_ok w) hm (fun _ _ => rfl) hv).mono ?_
 rintro e w' ⟨v, β, K, rs, outs', rfl, hg, hR⟩
 have hno : ∀ x, ¬ Own (fun _ => none) (getL []) x := by rintro x ⟨k, b, y, e, _⟩; simp [getL] at e
 unfold decRH at hg
 split at hg
 ·rename_i y hy
  have := hk y hg
  subst this
  unfold decR at hy
  dsimp only at hy
  split at hy
  ·have hout : v = .bool true := decR_out hy hR.out
   exact ⟨by rw [hout], hR.fr.os, hR.fr.tape, hR.fr.output, hR.fr.size, fun k hk => hR.fr.block k hk fun h1 => h1.elim (hno k) (memK_jk w k)⟩
  ·cases hy
 ·cases hg
end
section
variable {P : Program} {Γ : Env} {N : NEnv}
structure ExtIs (P : Program) (f : Nat) (e : Array Value -> Sem Value) : Prop where
 is : ∃ fn, P.funcs[f]? = some fn /\ (fn.name == "runtime.NumGoroutine") = false /\ fn.body.isNone = true /\ Extern.findNext fn = none /\ Extern.find fn = some e
theorem ExtIs.run {f : Nat} {e : Array Value -> Sem Value} (h : ExtIs P f e) {vs : Array Value} {w w' : World} {v : Value} (hr : (e vs).run P w = .ok v w') : (callFunc f vs).run P w = .ok (.value v) w' := by
 obtain ⟨fn, h1, h2, h3, h4, h5⟩ := h.is
 have h2' : ¬ fn.name = "runtime.NumGoroutine" := by simpa using h2
 have h3' : fn.body = none := by simpa using h3
 simp [callFunc, h1, h2', h3', h4, h5, hr]
def extFam (A R : Ty) (ι : Type) (inh : Nonempty ι) (g : ι -> Den A -> Den R) : Fam := ⟨ι, inh, fun z => fnMean A R (fun _ => true) (g z), false⟩
theorem ext_ok {f : Nat} {e : Array Value -> Sem Value} (he : ExtIs P f e) {A R : Ty} {ι : Type} {inh : Nonempty ι} {g : ι -> Den A -> Den R}
 (h : ∀ (x : Den A) (vs : Array Value) (β : Bt) (K : Ks) (w : World), All2 (WR β K) (encA A x) vs.toList -> ∃ v w' z, (e vs).run P w = .ok v w' /\ Still w w' /\ OutR β K (encA R (g z x)) v) : FamOK P f (extFam A R ι inh g) := by
 refine ⟨fun _ => rfl, ?_⟩
 intro args ins hruns β0 K0 w0 vs hk hm hfr hv
 obtain ⟨z0⟩ := inh
 obtain ⟨rs0, outs0, hrun⟩ := hruns z0
 cases ins with
 | cons _ _ => simp [extFam, fnMean] at hrun
 | nil =>
   simp only [extFam, fnMean] at hrun
   split at hrun
   ·rename_i x hx
    obtain ⟨v, w', z, h1, h2, h3⟩ := h x vs β0 K0 w0 (decA_ok hx hv)
    refine .inr ⟨v, w', he.run h1, z, encA R (g z x), [], v, β0, K0, ?_, rfl, ?_⟩
    ·simp only [extFam, fnMean, hx]
    ·exact ⟨KLe.refl _, hk.still h2, fun _ _ e => .inl e, ⟨fun k b e => by simp [getO] at e, fun k k' b b' _ _ _ e => by simp [getO] at e, fun k b _ _ e => by simp [getO] at e⟩, fun k _ => hfr k (Nat.zero_le _), h3, Fr.still h2, fun x hx => by
      obtain ⟨k, b, y, e, _⟩ := hx
      simp [getO] at e, BLe.refl _, Nat.le_refl _⟩
   ·cases hrun
theorem fnN_sem (env : EnvOK P Γ) (hN : NOK P N) {f : Nat} {c : Code} (hf : FnIs P f Γ c) (hNL : NLoopsOK Γ N c) {A R : Ty} {ok : Den A -> Bool} {g : Den A -> Den R} {Q : Den A -> Den R -> Prop}
 (hQ : ∀ x y, Q x y -> ∀ β K v, OutR β K (encA R y) v -> OutR β K (encA R (g x)) v)
 (h : ∀ x, ok x = true -> ∀ k : Den R -> Option Unit, (∀ y, Q x y -> k y = some ()) -> callN Γ N c (decRH R k) (encA A x) [] = some ()) : SemOK P (f, fnMean A R ok g) := by
 classical
 refine ⟨?_, hf.ok⟩
 intro args ins rs outs hrun β0 K0 w0 vs hk hm hfr hv
 cases ins with
 | cons _ _ => simp [fnMean] at hrun
 | nil =>
   simp only [fnMean] at hrun
   split at hrun
   ·rename_i x hx
    simp only [Option.some.injEq, Prod.mk.injEq] at hrun
    obtain ⟨hok, rfl, rfl⟩ := hrun
    have he := h x hok (fun y => if Q x y then some () else none) (fun y hy => if_pos hy)
    refine (callN_ok env hN hf hNL he hk hm hfr (decA_ok hx hv)).mono ?_
    rintro e w' ⟨v, β, K, rs', outs', rfl, hg, hR⟩
    unfold decRH at hg
    split at hg
    case h_2 => cases hg
    rename_i y hy
    dsimp only at hg
    split at hg
    case isFalse => cases hg
    rename_i hq
    unfold decR at hy
    dsimp only at hy
    split at hy
    ·exact ⟨v, β, K, rfl, { hR with out := hQ x y hq β K v (decR_out hy hR.out) }⟩
    ·cases hy
   ·cases hrun
end
theorem ext_bits {P : Program} {f : Nat} (he : ExtIs P f Extern.MathFloatBits.float64bits) {inh : Nonempty { z : Nat // isNaN .f64 z = true }} :
 FamOK P f (extFam (.cons (.flt .f64) .nil) (.cons (.int .u64) .nil) { z : Nat // isNaN .f64 z = true } inh (fun z x => ((((bif isNaN .f64 x.1 then z.1 else x.1 : Nat) : Int)), ()))) := by
 refine ext_ok he fun x vs β K w hv => ?_
 obtain ⟨b, _⟩ := x
 obtain ⟨z0⟩ := inh
 rcases vs with ⟨l⟩
 cases l with
 | nil => exact hv.elim
 | cons v r =>
   cases r with
   | cons _ _ => exact hv.2.elim
   | nil =>
     obtain ⟨b', rfl, hb⟩ := hv.1
     have hb : FEq .f64 b b' := hb
     by_cases hn : isNaN .f64 b = true
     ·refine ⟨.int .u64 b', w, ⟨b', FEq.nan_left hb hn⟩, rfl, Still.refl w, ?_⟩
      show Value.int .u64 b' = .int .u64 _
      rw [hn]
      rfl
     ·rcases hb with rfl | ⟨h1, _⟩
      ·refine ⟨.int .u64 b, w, z0, rfl, Still.refl w, ?_⟩
       show Value.int .u64 b = .int .u64 _
       rw [Bool.eq_false_iff.2 hn]
       rfl
      ·exact absurd h1 hn
theorem ext_frombits {P : Program} {f : Nat} (he : ExtIs P f Extern.MathFloatBits.float64frombits) :
 FamOK P f (extFam (.cons (.int .u64) .nil) (.cons (.flt .f64) .nil) Unit ⟨()⟩ (fun _ x => ((x.1 : Int).toNat, ()))) := by
 refine ext_ok he fun x vs β K w hv => ?_
 obtain ⟨n, _⟩ := x
 rcases vs with ⟨l⟩
 cases l with
 | nil => exact hv.elim
 | cons v r =>
   cases r with
   | cons _ _ => exact hv.2.elim
   | nil =>
     have hv1 : v = .int .u64 n := hv.1
     subst hv1
     exact ⟨.float .f64 (n : Int).toNat, w, (), rfl, Still.refl w, ⟨_, rfl, .inl rfl⟩⟩
@[reducible] def unJ : Ty -> Ty
 | .jnk => .flt .f32
 | .slice t => .slice (unJ t)
 | .cons a b => .cons (unJ a) (unJ b)
 | .bool => .bool
 | .int k => .int k
 | .flt k => .flt k
 | .cpx k => .cpx k
 | .str => .str
 | .nil => .nil
def shp : (t : Ty) -> Den (unJ t) -> Den t
 | .jnk, _ => ()
 | .slice t, l => List.map (shp t) l
 | .cons a b, p => (shp a p.1, shp b p.2)
 | .bool, x => x
 | .int _, x => x
 | .flt _, x => x
 | .cpx _, x => x
 | .str, x => x
 | .nil, x => x
theorem unJ_size : ∀ t, (unJ t).size = t.size := by
 intro t
 induction t with
 | cons a b iha ihb => simp [Ty.size, iha, ihb]
 | _ => rfl
theorem unJ_isJ (t : Ty) : (unJ t).isJ = false := by cases t <;> rfl
def noJ : Ty -> Bool
 | .jnk => false
 | .slice t => noJ t
 | .cons a b => noJ a && noJ b
 | _ => true
theorem noJ_isJ {t : Ty} (h : noJ t = true) : t.isJ = false := by
 cases t with
 | jnk => simp [noJ] at h
 | _ => rfl
def KClean (K K' : Ks) : Prop := ∀ x arr, K x = some (false, arr) -> K' x = some (false, arr)
theorem DR.clean {K K' : Ks} (h : KClean K K') : ∀ (t : Ty) {x : Den t} {vs : List Value}, noJ t = true -> DR K t x vs -> DR K' t x vs := by
 intro t
 induction t with
 | slice t ih =>
   rintro x vs hj ⟨a, n, c, e, hn, hc, hr⟩
   have hj : noJ t = true := hj
   refine ⟨a, n, c, e, hn, hc, hr.imp id ?_⟩
   rintro ⟨b, o, arr, ha, hb, hi⟩
   rw [noJ_isJ hj] at hb
   exact ⟨b, o, arr, ha, by rw [noJ_isJ hj]; exact h _ _ hb, fun i hl => ih hj (hi i hl)⟩
 | cons a b iha ihb =>
   rintro x vs hj ⟨v1, v2, e, h1, h2⟩
   simp only [noJ, Bool.and_eq_true] at hj
   exact ⟨v1, v2, e, iha hj.1 h1, ihb hj.2 h2⟩
 | jnk => intro x vs hj; simp [noJ] at hj
 | _ => exact fun _ h => h
theorem list_of {α γ : Type} {R : α -> γ -> Nat -> Prop} (x : List γ) (h : ∀ i (hi : i < x.length), ∃ y, R y x[i] i) : ∃ l : List α, l.length = x.length /\ ∀ i (h1 : i < l.length) (h2 : i < x.length), R l[i] x[i] i := by
 refine ⟨List.ofFn fun i : Fin x.length => (h i.1 i.2).choose, by simp, fun i h1 h2 => ?_⟩
 rw [List.getElem_ofFn]
 exact (h i h2).choose_spec
theorem DR.told {K Kf : Ks} {w : World} (hk : KOK K w) (h : ∀ x z, K x = some z -> ∃ cur T fz, Kf x = some (false, cur) /\ w.heap[x]? = some (.cells cur T fz)) :
 ∀ (t : Ty) {x : Den t} {vs : List Value}, DR K t x vs -> ∃ x' : Den (unJ t), shp t x' = x /\ DR Kf (unJ t) x' vs := by
 intro t
 induction t with
 | slice t ih =>
   rintro x vs ⟨a, n, c, rfl, hn, hc, hr⟩
   rcases hr with h0 | ⟨b, o, arr, ha, hb, hi⟩
   ·have hx : x = [] := List.eq_nil_of_length_eq_zero (by omega)
    subst hx
    exact ⟨([] : List (Den (unJ t))), rfl, a, n, c, rfl, hn, hc, .inl h0⟩
   ·obtain ⟨cur, T, fz, hh, hsz, hs⟩ := hk.see hb
    obtain ⟨cur', T', fz', hf, hh'⟩ := h b _ hb
    rw [hh] at hh'
    cases hh'
    obtain ⟨l, hl, hR⟩ := list_of (R := fun (y : Den (unJ t)) (z : Den t) i => shp t y = z /\ DR Kf (unJ t) y (sub cur.toList (o + i * t.size) t.size)) x fun i hix => ih (hs _ _ (hi i hix))
    refine ⟨l, ?_, a, n, c, rfl, by rw [hl]; exact hn, hc, .inr ⟨b, o, cur, ha, by rw [unJ_isJ]; exact hf, fun i hil => ?_⟩⟩
    ·show List.map (shp t) l = x
     refine List.ext_getElem (by simpa using hl) fun i h1 h2 => ?_
     rw [List.getElem_map]
     exact (hR i (by simpa using h1) h2).1
    ·rw [unJ_size]
     exact (hR i hil (by rw [<- hl]; exact hil)).2
 | cons a b iha ihb =>
   rintro x vs ⟨v1, v2, e, h1, h2⟩
   obtain ⟨x1, e1, d1⟩ := iha h1
   obtain ⟨x2, e2, d2⟩ := ihb h2
   exact ⟨(x1, x2), by show (shp a x1, shp b x2) = x; rw [e1, e2], v1, v2, e, d1, d2⟩
 | jnk =>
   rintro x vs ⟨n, rfl⟩
   exact ⟨n, rfl, n, rfl, .inl rfl⟩
 | _ => exact fun {x vs} h => ⟨x, rfl, h⟩
theorem encDR {β : Bt} {K : Ks} : ∀ (t : Ty) {x : Den t} {vs : List Value}, All2 (CR β K) (AM.enc t x) vs -> DR K t x vs := by
 intro t
 have one : ∀ {c : C} {vs : List Value}, All2 (CR β K) [c] vs -> ∃ v, vs = [v] /\ CR β K c v := fun {c vs} h => by
  cases vs with
  | nil => exact h.elim
  | cons v vs => cases vs with
    | nil => exact ⟨v, rfl, h.1⟩
    | cons _ _ => exact h.2.elim
 induction t with
 | cons a b iha ihb =>
   intro x vs h
   obtain ⟨v1, v2, rfl, h1, h2⟩ := All2.split h
   exact ⟨v1, v2, rfl, iha h1, ihb h2⟩
 | nil =>
   intro x vs h
   cases vs with
   | nil => rfl
   | cons _ _ => exact h.elim
 | bool => intro x vs h; obtain ⟨v, rfl, h2⟩ := one h; rw [show v = _ from h2]; rfl
 | int k => intro x vs h; obtain ⟨v, rfl, h2⟩ := one h; rw [show v = _ from h2]; rfl
 | flt k => intro x vs h; obtain ⟨v, rfl, b, rfl, h2⟩ := one h; exact ⟨b, rfl, h2⟩
 | cpx k => intro x vs h; obtain ⟨v, rfl, a, b, rfl, h2⟩ := one h; exact ⟨a, b, rfl, h2⟩
 | str => intro x vs h; obtain ⟨v, rfl, h2⟩ := one h; rw [show v = _ from h2]; rfl
 | slice t ih => intro x vs h; obtain ⟨v, rfl, h2⟩ := one h; exact h2
 | jnk => intro x vs h; obtain ⟨v, rfl, n, rfl⟩ := one h; exact ⟨n, rfl⟩
theorem CRs.clean0 {β : Bt} {K K' : Ks} : ∀ {vs : List Value}, All2 (CR β K) [] vs -> All2 (CR β K') [] vs
 | [], _ => trivial
 | _ :: _, h => h.elim
theorem WR.told {K Kf : Ks} {w : World} {β : Bt} (hk : KOK K w) (h : ∀ x z, K x = some z -> ∃ cur T fz, Kf x = some (false, cur) /\ w.heap[x]? = some (.cells cur T fz)) {t : Ty} {x : Den t} {v : Value}
 (hv : WR β K (encW t x) v) : ∃ x' : Den (unJ t), shp t x' = x /\ WR β Kf (encW (unJ t) x') v := by
 cases t with
 | slice t =>
   obtain ⟨x', e, d⟩ := DR.told hk h (.slice t) (show DR K (.slice t) x [v] from hv)
   exact ⟨x', e, d⟩
 | cons a b =>
   obtain ⟨arr, rfl, ha⟩ := hv
   obtain ⟨x', e, d⟩ := DR.told hk h (.cons a b) (encDR (.cons a b) ha)
   exact ⟨x', e, arr, rfl, DR.enc (unJ (.cons a b)) d⟩
 | jnk =>
   obtain ⟨n, rfl⟩ := hv
   exact ⟨n, rfl, n, rfl, .inl rfl⟩
 | nil =>
   obtain ⟨arr, rfl, ha⟩ := hv
   exact ⟨x, rfl, arr, rfl, CRs.clean0 ha⟩
 | _ => exact ⟨x, rfl, hv⟩
@[reducible] def unK : Kn -> Kn
 | .val t => .val (unJ t)
 | k => k
def shpK : (k : Kn) -> (unK k).den -> k.den
 | .val t, x => shp t x
 | .own _ _, x => x
 | .ptr _, x => x
 | .mix _, x => x
 | .fnv _ _, x => x
@[reducible] def unKs : List Kn -> List Kn
 | [] => []
 | k :: r => unK k :: unKs r
def shpKs : (l : List Kn) -> denKs (unKs l) -> denKs l
 | [], x => x
 | k :: r, x => (shpK k x.1, shpKs r x.2)
def isVal : Kn -> Bool
 | .val _ => true
 | _ => false
@[reducible] def unO (O : Sg) : Sg := ⟨unKs O.ws, O.bs⟩
def shpO (O : Sg) (y : (unO O).den) : O.den := (shpKs O.ws y.1, y.2)
theorem outs_told {K Kf : Ks} {w : World} {β : Bt} (hk : KOK K w) (h : ∀ x z, K x = some z -> ∃ cur T fz, Kf x = some (false, cur) /\ w.heap[x]? = some (.cells cur T fz)) :
 ∀ {l : List Kn} (hl : l.all isVal = true) {x : denKs l} {vs : List Value}, All2 (WR β K) (encKs l x) vs -> ∃ x' : denKs (unKs l), shpKs l x' = x /\ All2 (WR β Kf) (encKs (unKs l) x') vs
 | [], _, x, [], hv => ⟨x, rfl, trivial⟩
 | [], _, x, _ :: _, hv => hv.elim
 | .val t :: r, hl, x, [], hv => hv.elim
 | .val t :: r, hl, x, v :: vs, hv => by
   obtain ⟨x1, e1, d1⟩ := WR.told hk h hv.1
   obtain ⟨x2, e2, d2⟩ := outs_told hk h (l := r) (by simpa [isVal] using hl) hv.2
   exact ⟨(x1, x2), by show (shp t x1, shpKs r x2) = x; rw [e1, e2], d1, d2⟩
 | .own _ _ :: r, hl, _, _, _ => by simp [isVal] at hl
 | .ptr _ :: r, hl, _, _, _ => by simp [isVal] at hl
 | .mix _ :: r, hl, _, _, _ => by simp [isVal] at hl
 | .fnv _ _ :: r, hl, _, _, _ => by simp [isVal] at hl
theorem encKs_len : ∀ (l : List Kn) (x : denKs l), (encKs l x).length = l.length
 | [], _ => rfl
 | k :: r, x => by simp [encKs, encKs_len r]
theorem unKs_len : ∀ (l : List Kn), (unKs l).length = l.length
 | [] => rfl
 | k :: r => by simp [unKs_len r]
theorem OutR.told {K Kf : Ks} {w : World} {β : Bt} (hk : KOK K w) (h : ∀ x z, K x = some z -> ∃ cur T fz, Kf x = some (false, cur) /\ w.heap[x]? = some (.cells cur T fz)) {l : List Kn} (hl : l.all isVal = true) {x : denKs l} {v : Value}
 (hv : OutR β K (encKs l x) v) : ∃ x' : denKs (unKs l), shpKs l x' = x /\ OutR β Kf (encKs (unKs l) x') v := by
 have key := fun (vs : List Value) => outs_told (β := β) hk h hl (x := x) (vs := vs)
 have hlen : ∀ x' : denKs (unKs l), (encKs (unKs l) x').length = (encKs l x).length := fun x' => by rw [encKs_len, encKs_len, unKs_len]
 unfold OutR at hv ⊢
 generalize encKs l x = us at hv key hlen
 match us, hv, key, hlen with
 | [], hv, key, hlen =>
   obtain ⟨arr, e, ha⟩ := hv
   obtain ⟨x', e1, d⟩ := key arr.toList ha
   refine ⟨x', e1, ?_⟩
   have := hlen x'
   generalize encKs (unKs l) x' = us' at d this ⊢
   match us', d, this with
   | [], d, _ => exact ⟨arr, e, d⟩
 | [u], hv, key, hlen =>
   obtain ⟨x', e1, d⟩ := key [v] ⟨hv, trivial⟩
   refine ⟨x', e1, ?_⟩
   have := hlen x'
   generalize encKs (unKs l) x' = us' at d this ⊢
   match us', d, this with
   | [u'], d, _ => exact d.1
 | u :: u2 :: us, hv, key, hlen =>
   obtain ⟨arr, e, ha⟩ := hv
   obtain ⟨x', e1, d⟩ := key arr.toList ha
   refine ⟨x', e1, ?_⟩
   have := hlen x'
   generalize encKs (unKs l) x' = us' at d this ⊢
   match us', d, this with
   | y :: y2 :: ys, d, _ => exact ⟨arr, e, d⟩
def noJC : C -> Bool
 | .sl t _ => noJ t
 | .rptr t _ _ _ => noJ t
 | _ => true
def noJW (u : W) : Bool := u.cells.all noJC
def noJB : Blk -> Bool
 | .box cs => cs.all noJC
 | .arr t _ => noJ t
def noJO : Option Blk -> Bool
 | some b => noJB b
 | none => true
theorem CR.clean {β : Bt} {K K' : Ks} (h : KClean K K') {c : C} (hc : noJC c = true) {v : Value} (hv : CR β K c v) : CR β K' c v := by
 cases c with
 | sl t l => exact DR.clean h (.slice t) hc hv
 | rptr t l i o =>
   have hj : noJ t = true := hc
   obtain ⟨hi, b, o', arr, h1, h2, h3⟩ := hv
   rw [noJ_isJ hj] at h1
   exact ⟨hi, b, o', arr, by rw [noJ_isJ hj]; exact h _ _ h1, fun j hjj => DR.clean h t hj (h2 j hjj), h3⟩
 | _ => exact hv
theorem CRs.clean {β : Bt} {K K' : Ks} (h : KClean K K') : ∀ {cs : List C} {vs : List Value}, cs.all noJC = true -> All2 (CR β K) cs vs -> All2 (CR β K') cs vs
 | [], [], _, hv => hv
 | c :: cs, v :: vs, hc, hv => by
   simp only [List.all_cons, Bool.and_eq_true] at hc
   exact ⟨CR.clean h hc.1 hv.1, CRs.clean h hc.2 hv.2⟩
 | [], _ :: _, _, hv => hv.elim
 | _ :: _, [], _, hv => hv.elim
theorem WR.clean {β : Bt} {K K' : Ks} (h : KClean K K') {u : W} (hc : noJW u = true) {v : Value} (hv : WR β K u v) : WR β K' u v := by
 cases u with
 | one c => exact CR.clean h (by simpa [noJW, W.cells] using hc) hv
 | agg cs => obtain ⟨arr, e, ha⟩ := hv; exact ⟨arr, e, CRs.clean h hc ha⟩
theorem WRs.clean {β : Bt} {K K' : Ks} (h : KClean K K') : ∀ {us : List W} {vs : List Value}, us.all noJW = true -> All2 (WR β K) us vs -> All2 (WR β K') us vs
 | [], [], _, hv => hv
 | c :: cs, v :: vs, hc, hv => by
   simp only [List.all_cons, Bool.and_eq_true] at hc
   exact ⟨WR.clean h hc.1 hv.1, WRs.clean h hc.2 hv.2⟩
 | [], _ :: _, _, hv => hv.elim
 | _ :: _, [], _, hv => hv.elim
theorem BR.clean {β : Bt} {K K' : Ks} (h : KClean K K') {b : Blk} (hc : noJB b = true) {y : Hd} {w : World} (hr : BR β K b y w) : BR β K' b y w := by
 cases b with
 | box cs => obtain ⟨x, arr, T, e, hh, ha⟩ := hr; exact ⟨x, arr, T, e, hh, CRs.clean h hc ha⟩
 | arr t l =>
   rcases hr with hr | ⟨x, cap, cur, T, e, hh, h1, h2, h3, h4⟩
   ·exact .inl hr
   ·exact .inr ⟨x, cap, cur, T, e, hh, h1, h2, h3, fun i hi => DR.clean h t hc (h4 i hi)⟩
theorem MR.clean {β : Bt} {K K' : Ks} {get : Get} {w : World} (hm : MR β K get w) (h : KClean K K') (hb : ∀ k b, get k = some b -> noJB b = true) (hro : ∀ x, Own β get x -> K' x = none) : MR β K' get w :=
 ⟨fun k b e => by
  obtain ⟨y, h1, h2⟩ := hm.blk k b e
  exact ⟨y, h1, h2.clean h (hb k b e)⟩, hm.sep, fun k b y x e f g => hro x ⟨k, b, y, e, f, g⟩⟩
theorem getO_all {os : List (Option Blk)} (h : os.all noJO = true) : ∀ k b, getO os k = some b -> noJB b = true := by
 intro k b e
 unfold getO at e
 cases hq : os[k]? with
 | none => rw [hq] at e; cases e
 | some o =>
   rw [hq] at e
   have e : o = some b := e
   have := List.all_eq_true.1 h o (List.mem_of_getElem? hq)
   rw [e] at this
   exact this
section
variable {P : Program} {Γ : Env} {N : NEnv}
theorem sgX_ok (env : EnvOK P Γ) (hN : NOK P N) {f : Nat} {c : Code} (hf : FnIs P f Γ c) (hNL : NLoopsOK Γ N c) {own : Bool} {I O : Sg} {ok : I.den -> Bool} {Q : I.den -> O.den -> Prop} {hne : Nonempty (Ch I (unO O) ok fun x y => Q x (shpO O y))}
 (hv0 : O.ws.all isVal = true) (nI1 : ∀ x, (encKs I.ws x).all noJW = true) (nI2 : ∀ x, (encBs I.bs x).all noJO = true) (nO : ∀ y, (encBs O.bs y).all noJO = true)
 (h : ∀ x, ok x = true -> ∀ k : O.den -> Option Unit, (∀ y, Q x y -> k y = some ()) -> callSN Γ N c I O k x = some ()) : FamOK P f (sgFam own I (unO O) ok (fun x y => Q x (shpO O y)) hne) := by
 classical
 refine ⟨fun _ => rfl, ?_⟩
 intro args ins hruns β0 K0 w0 vs hk hm hfr hv
 obtain ⟨g0⟩ := hne
 obtain ⟨rs0, outs0, hrun⟩ := hruns g0
 simp only [sgFam, sgMean, decO] at hrun
 split at hrun
 case h_2 => cases hrun
 rename_i x hx
 split at hx
 case h_2 => cases hx
 rename_i x1 hx1
 split at hx
 case h_2 => cases hx
 rename_i x2 hx2
 cases hx
 split at hrun
 case h_2 => cases hrun
 rename_i ins' hins'
 simp only [Option.some.injEq, Prod.mk.injEq] at hrun
 obtain ⟨hok, _, _⟩ := hrun
 obtain ⟨hl1, hg1⟩ := decBs_ok hx2
 obtain ⟨hl2, hg2⟩ := insOf_get hins'
 rw [getO_some] at hg1
 rw [<- hg2] at hg1
 have hlen : ins'.length = ins.length := by rw [hl2, hl1]; simp
 have he := h (x1, x2) hok (fun y => if Q (x1, x2) y then some () else none) (fun y hy => if_pos hy)
 simp only [callSN, hins'] at he
 obtain ⟨K0', hK0'⟩ : ∃ K0' : Ks, K0' = fun x => match K0 x with | some (false, arr) => some (false, arr) | _ => none := ⟨_, rfl⟩
 have hc0 : KClean K0 K0' := fun x arr e => by rw [hK0']; dsimp only; rw [e]
 have hc1 : ∀ x z, K0' x = some z -> K0 x = some z /\ z.1 = false := fun x z e => by
  rw [hK0'] at e
  dsimp only at e
  split at e
  ·rename_i arr ha; cases e; exact ⟨ha, rfl⟩
  ·cases e
 have hmL : MR β0 K0 (getL ins') w0 := hm.lax hg1
 have hb1 : ∀ k b, getL ins' k = some b -> noJB b = true := by
  intro k b e
  rw [hg2] at e
  exact getO_all (nI2 x2) k b e
 have hk' : KOK K0' w0 := fun x z e => hk x z (hc1 x z e).1
 have hro0 : ∀ x, Own β0 (getL ins') x -> K0' x = none := by
  rintro x ⟨k, b, y, e, f, g⟩
  cases hq : K0' x with
  | none => rfl
  | some z =>
    have := (hc1 x z hq).1
    rw [hmL.ro k b y x e f g] at this
    cases this
 have hm' : MR β0 K0' (getL ins') w0 := hmL.clean hc0 hb1 hro0
 have hv' := WRs.clean hc0 (nI1 x1) (decKs_ok hx1 hv)
 refine .inl ⟨hf.ok, (callN_ok env hN hf hNL he hk' hm' (fun k hk => hfr k (by omega)) hv').mono ?_⟩
 rintro e w' ⟨v, β, K, rs', outs', rfl, hg, hR⟩
 simp only [decH] at hg
 split at hg
 case h_2 => cases hg
 rename_i y hy
 split at hg
 case isFalse => cases hg
 rename_i hQ
 simp only [decO] at hy
 split at hy
 case h_2 => cases hy
 rename_i y1 hy1
 split at hy
 case h_2 => cases hy
 rename_i y2 hy2
 cases hy
 obtain ⟨hl3, hg3⟩ := decBs_ok hy2
 have hl3' : (encBs O.bs (y1, y2).2).length = outs'.length := hl3
 have hown : ∀ b, Own β0 (getL ins') b -> Own β0 (getL ins) b := fun b hb => hb.lax hg1
 have hownK : ∀ x, Own β0 (getL ins') x -> K0 x = none := by
  rintro x ⟨k, b, y, e, f, g⟩
  exact hmL.ro k b y x e f g
 obtain ⟨Kf, hKf⟩ : ∃ Kf : Ks, Kf = fun x => match K0 x with
  | some z => some z
  | none => match K x with
    | some _ => match w'.heap[x]? with
      | some (.cells cur _ _) => some (false, cur)
      | _ => none
    | none => none := ⟨_, rfl⟩
 have hKf1 : ∀ x z, K0 x = some z -> Kf x = some z := fun x z e => by rw [hKf]; dsimp only; rw [e]
 have told : ∀ x z, K x = some z -> ∃ cur T fz, Kf x = some (false, cur) /\ w'.heap[x]? = some (.cells cur T fz) := by
  intro x z e
  obtain ⟨cur, T, fz, hh, h1, h2⟩ := hR.kok x z e
  refine ⟨cur, T, fz, ?_, hh⟩
  cases hq : K0 x with
  | none =>
    rw [hKf]
    dsimp only
    rw [hq]
    dsimp only
    rw [e]
    dsimp only
    rw [hh]
  | some q =>
    rw [hKf1 x q hq]
    rcases hR.knew x z e with h3 | h3 | h3
    ·obtain ⟨h4, h5⟩ := hc1 x z h3
     have h6 : q = z := Option.some.inj (hq.symm.trans h4)
     rw [h6, h1 h5]
     show some z = some (false, z.2)
     rw [<- h5]
    ·rw [hownK x h3] at hq; cases hq
    ·have := hk.lt hq; omega
 have cleanf : KClean K Kf := by
  intro x arr e
  obtain ⟨cur, T, fz, h1, h2⟩ := told x _ e
  obtain ⟨cur', T', fz', h3, h4, _⟩ := hR.kok x _ e
  rw [h2] at h3
  cases h3
  rw [h1, h4 rfl]
 have hfr' : Fr (OwnJ β0 K0 (getL ins)) w0 w' := ⟨hR.fr.os, hR.fr.tape, hR.fr.output, hR.fr.size, fun b hb hn => hR.fr.block b hb fun h1 => h1.elim (fun h1 => hn (.inl (hown b h1))) fun ⟨arr, h1⟩ => by
  have := (hc1 b _ h1).2
  cases this⟩
 have hkokf : KOK Kf w' := by
  intro x z e
  cases hq : K0 x with
  | some q =>
    rw [hKf1 x q hq] at e
    have e' := Option.some.inj e
    subst e'
    obtain ⟨fl, arr⟩ := q
    cases fl with
    | false => exact hR.kok x _ (hR.kle x _ (hc0 x arr hq))
    | true =>
      have hn : ¬ OwnJ β0 K0' (getL ins') x := by
       rintro (h1 | ⟨arr', h1⟩)
       ·rw [hownK x h1] at hq; cases hq
       ·have := (hc1 x _ h1).2; cases this
      rw [hR.fr.block x (hk.lt hq) hn]
      exact hk x _ hq
  | none =>
    rw [hKf] at e
    dsimp only at e
    rw [hq] at e
    dsimp only at e
    split at e
    ·split at e
     ·rename_i cur T fz hh
      cases e
      exact ⟨cur, T, fz, hh, KOK.self fun e => by cases e⟩
     ·cases e
    ·cases e
 obtain ⟨y1', e1, d1⟩ := OutR.told (β := β) hR.kok told hv0 (decKs_out hy1 hR.out)
 have hmo : MR β Kf (getO (encBs O.bs y2)) w' := by
  have h1 : MR β K (getO (encBs O.bs y2)) w' := hR.mr.lax hg3
  refine h1.clean cleanf (getO_all (nO y2)) fun x hx => ?_
  have h2 : K x = none := by
   obtain ⟨k, b, y, e, f, g⟩ := hx
   exact h1.ro k b y x e f g
  cases hq : K0 x with
  | none => rw [hKf]; dsimp only; rw [hq]; dsimp only; rw [h2]
  | some q =>
    rcases hR.own x (hx.lax hg3) with h3 | h3
    ·rw [hownK x h3] at hq; cases hq
    ·have := hk.lt hq; omega
 refine ⟨⟨fun x => if x = (x1, x2) then (y1', y2) else g0.1 x, fun x hx => ?_⟩, encKs (unKs O.ws) y1', encBs O.bs y2, v, β, Kf, ?_, rfl, ⟨hKf1, hkokf, fun b arr e => ?_, hmo, fun k hk => hR.fresh k (by simp only at hk hl3'; omega), d1, hfr', fun x hx => ?_, hR.ble, ?_⟩⟩
 ·dsimp only
  split
  ·rename_i e
   rw [e]
   show Q (x1, x2) (shpKs O.ws y1', y2)
   rw [e1]
   exact hQ
  ·exact g0.2 x hx
 ·simp only [sgFam, sgMean, decO, hx1, hx2, hins', hok, if_pos]
 ·cases hq : K0 b with
  | some q => rw [hKf1 b q hq] at e; cases e; exact .inl rfl
  | none =>
    rw [hKf] at e
    dsimp only at e
    rw [hq] at e
    dsimp only at e
    split at e
    ·rename_i z hz
     rcases hR.knew b z hz with h1 | h1 | h1
     ·rw [(hc1 b z h1).1] at hq; cases hq
     ·exact .inr (.inl (hown b h1))
     ·exact .inr (.inr h1)
    ·cases e
 ·rcases hR.own x (hx.lax hg3) with h1 | h1
  ·exact .inl (hown x h1)
  ·exact .inr h1
 ·have := hR.le
  simp only at hl3' ⊢
  omega
end
end Go.Proofs.YteieioehigacmaaGreat.AM
