/- The abstract machine: an operation looks at its operands and at the blocks that they lead to, and at nothing else. Conditions: those that each lemma names. -/
import Derived.Test.YtmmdjajebmihhaaB2
namespace Go.Proofs.Ytmmdjajebmihhaa.AM
open Go
set_option linter.unusedVariables false

theorem mapO_congr {α γ : Type} {f g : α → Option γ} : ∀ {l : List α}, (∀ x ∈ l, f x = g x) → mapO f l = mapO g l
  | [], _ => rfl
  | x :: r, h => by
    simp only [mapO]
    rw [h x (List.mem_cons_self ..), mapO_congr fun y hy => h y (List.mem_cons_of_mem _ hy)]

/-! ## Operands -/

theorem act_rho {Γ : Env} {o : Oper} {ρ ρ' : Operand → V} {get : Get} {n : Nat} (h : ∀ x ∈ o.op.operands, ρ x = ρ' x) : act Γ o ρ get n = act Γ o ρ' get n := by
  obtain ⟨dst, op, type, pos, after, guard⟩ := o
  cases op <;> simp only [Op.operands] at h <;> simp only [act]
  case build t ps =>
    have : mapO (fun p => match ρ p.2 with | .val w => some (p.1, w) | .tup _ => none) ps.toList = mapO (fun p => match ρ' p.2 with | .val w => some (p.1, w) | .tup _ => none) ps.toList :=
      mapO_congr fun p hp => by rw [h p.2 (by simpa using ⟨p.1, by simpa using hp⟩)]
    erw [this]; first | done | rfl
  case buildSlice t n ps =>
    have : mapO (fun p => match ρ p.2 with | .val w => some (p.1, w) | .tup _ => none) ps.toList = mapO (fun p => match ρ' p.2 with | .val w => some (p.1, w) | .tup _ => none) ps.toList :=
      mapO_congr fun p hp => by rw [h p.2 (by simpa using ⟨p.1, by simpa using hp⟩)]
    erw [this]; first | done | rfl
  case makeFunc fn first captured =>
    have : mapO (fun x => match ρ x with | .val (.one (.ptr k 0)) => some k | _ => none) captured.toList = mapO (fun x => match ρ' x with | .val (.one (.ptr k 0)) => some k | _ => none) captured.toList :=
      mapO_congr fun p hp => by rw [h p (by simp; exact .inr (by simpa using hp))]
    erw [this]; first | done | rfl
  case call c =>
    have hargs : c.args.toList.map ρ = c.args.toList.map ρ' := List.map_congr_left fun x hx => h x (by simp [Call.operands]; exact .inr (by simpa using hx))
    rw [hargs]
    cases hc : c.callee with
    | value f => have hf : ρ f = ρ' f := h f (by simp [Call.operands, hc]); simp only [hf]
    | invoke r m => rfl
    | builtin b => rfl
  case slice t x lo hi mx =>
    have hx : ρ x = ρ' x := h x (by simp)
    have hlo : lo.map ρ = lo.map ρ' := by cases lo with
      | none => rfl
      | some y => simp [h y (by simp)]
    have hhi : hi.map ρ = hi.map ρ' := by cases hi with
      | none => rfl
      | some y => simp [h y (by simp)]
    rw [hx, hlo, hhi]
  all_goals (first | rfl | (simp_all; done))

/-! ## Blocks -/

section
variable {get get' : Get}

theorem roC_congr {c : C} (h : ∀ k ∈ keysC c, get k = get' k) : roC get c = roC get' c := by
  cases c with
  | ref t k => simp only [roC]; rw [h k (by simp [keysC])]
  | fn f caps => cases caps <;> rfl
  | _ => rfl

theorem roW_congr {c : W} (h : ∀ k ∈ keysW c, get k = get' k) : roW get c = roW get' c := by
  cases c with
  | one c => simp only [roW]; rw [roC_congr fun k hk => h k (by simpa [keysW, W.cells] using hk)]
  | agg cs => simp only [roW]; rw [mapO_congr (f := roC get) (l := cs) fun c hc => roC_congr fun k hk => h k (List.mem_flatMap.2 ⟨c, hc, hk⟩)]

theorem roCs_congr {cs : List C} (h : ∀ k ∈ cs.flatMap keysC, get k = get' k) : mapO (roC get) cs = mapO (roC get') cs :=
  mapO_congr fun c hc => roC_congr fun k hk => h k (List.mem_flatMap.2 ⟨c, hc, hk⟩)

theorem litElems_congr {t : Ty} : ∀ {ps : List (Nat × W)} {l : List (Den t)}, (∀ k ∈ ps.flatMap (fun p => keysW p.2), get k = get' k) → litElems get t l ps = litElems get' t l ps
  | [], l, _ => rfl
  | (i, u) :: ps, l, h => by
    simp only [litElems]
    rw [roCs_congr (get' := get') (fun k hk => h k (List.mem_flatMap.2 ⟨(i, u), List.mem_cons_self .., hk⟩))]
    have ih : ∀ l, litElems get t l ps = litElems get' t l ps := fun l => litElems_congr fun k hk => h k (by
      obtain ⟨p, hp, hk⟩ := List.mem_flatMap.1 hk
      exact List.mem_flatMap.2 ⟨p, List.mem_cons_of_mem _ hp, hk⟩)
    simp only [ih]

theorem elemsOf_congr {t : Ty} {c : C} (h : ∀ k ∈ keysC c, get k = get' k) : elemsOf get t c = elemsOf get' t c := by
  cases c with
  | ref t k => simp only [elemsOf]; rw [h k (by simp [keysC])]
  | _ => rfl

theorem actLoad_congr {n : Nat} {ag : Bool} {size : Nat} {v : V} (h : ∀ k ∈ keysV v, get k = get' k) : actLoad get n ag size v = actLoad get' n ag size v := by
  cases v with
  | tup ws => rfl
  | val u => cases u with
    | agg cs => rfl
    | one c => cases c with
      | ptr k off => simp only [actLoad]; rw [h k (by simp [keysV, keysW, W.cells, keysC])]
      | eptr k t i off => simp only [actLoad]; rw [h k (by simp [keysV, keysW, W.cells, keysC])]
      | _ => rfl

theorem actStore_congr {n : Nat} {size : Nat} {u : W} {v : V} (h : ∀ k ∈ keysV v ++ keysW u, get k = get' k) : actStore get n size u v = actStore get' n size u v := by
  have hu : mapO (roC get) u.cells = mapO (roC get') u.cells := roCs_congr fun k hk => h k (List.mem_append_right _ hk)
  cases v with
  | tup ws => rfl
  | val x => cases x with
    | agg cs => rfl
    | one c => cases c with
      | ptr k off => simp only [actStore]; rw [h k (by simp [keysV, keysW, W.cells, keysC])]
      | eptr k t i off => simp only [actStore]; rw [h k (by simp [keysV, keysW, W.cells, keysC]), hu]
      | _ => rfl

theorem actLen_congr {n : Nat} {s : Srt} {c : C} (h : ∀ k ∈ keysC c, get k = get' k) : actLen get n s c = actLen get' n s c := by
  cases c with
  | ref t k => cases s <;> simp only [actLen]; rw [h k (by simp [keysC])]
  | _ => cases s <;> rfl

theorem actAppend_congr {n : Nat} {t : Ty} {bytes : Nat} {s x : C} (h : ∀ k ∈ keysC s ++ keysC x, get k = get' k) : actAppend get n t bytes s x = actAppend get' n t bytes s x := by
  unfold actAppend
  rw [elemsOf_congr (get' := get') fun k hk => h k (List.mem_append_right _ hk)]
  cases s with
  | ref t k => dsimp only; rw [h k (by simp [keysC])]
  | _ => rfl

theorem actBuiltin_congr {Γ : Env} {n : Nat} {b : Builtin} {ts : List Nat} {args : List V} (h : ∀ k ∈ args.flatMap keysV, get k = get' k) : actBuiltin Γ get n b ts args = actBuiltin Γ get' n b ts args := by
  have h1 : ∀ c, args = [.val (.one c)] → ∀ s, actLen get n s c = actLen get' n s c := fun c e s => actLen_congr fun k hk => h k (by subst e; simpa [keysV, keysW, W.cells] using hk)
  have h2 : ∀ c d, args = [.val (.one c), .val (.one d)] → ∀ t by', actAppend get n t by' c d = actAppend get' n t by' c d := fun c d e t by' => actAppend_congr fun k hk => h k (by subst e; simpa [keysV, keysW, W.cells] using hk)
  unfold actBuiltin
  split
  · simp only [h1 _ rfl]
  · simp only [h2 _ _ rfl]
  · rfl
  · rfl
  · rfl
  · rfl
  · rfl
  · simp_all

theorem reach_acc (get : Get) : ∀ (f : Nat) (todo acc : List Nat) (k : Nat), k ∈ acc → k ∈ reach get f todo acc
  | 0, _, acc, k, h => by simpa [reach] using h
  | f + 1, [], acc, k, h => by simpa [reach] using h
  | f + 1, j :: todo, acc, k, h => by
    unfold reach
    split
    · exact reach_acc get f todo acc k h
    · split
      · exact reach_acc get f _ _ k (List.mem_append_left _ h)
      · exact reach_acc get f _ _ k (List.mem_append_left _ h)

theorem reach_congr : ∀ (f : Nat) (todo acc : List Nat), (∀ k ∈ reach get f todo acc, get k = get' k) → reach get f todo acc = reach get' f todo acc
  | 0, _, acc, h => rfl
  | f + 1, [], acc, h => rfl
  | f + 1, j :: todo, acc, h => by
    have hj : hasN acc j = false → get j = get' j := by
      intro e
      refine h j ?_
      unfold reach
      rw [e]
      dsimp only
      split
      · exact reach_acc get f _ _ j (List.mem_append_right _ (by simp))
      · exact reach_acc get f _ _ j (List.mem_append_right _ (by simp))
    unfold reach at h ⊢
    cases hq : hasN acc j with
    | true =>
      rw [hq] at h
      exact reach_congr f todo acc h
    | false =>
      rw [hq] at h
      dsimp only at h ⊢
      rw [hj hq] at h ⊢
      split at h
      · exact reach_congr f _ _ h
      · exact reach_congr f _ _ h

theorem callMut_congr {sm : Mean} {n : Nat} {args : List W} (h : ∀ k ∈ reach get reachFuel (args.flatMap keysW) [], get k = get' k) : callMut sm get n args = callMut sm get' n args := by
  unfold callMut
  rw [← reach_congr _ _ _ h]
  dsimp only
  rw [mapO_congr (f := fun k => (get k).bind (renB fun k => indexN (reach get reachFuel (args.flatMap keysW) []) k 0)) fun k hk => by rw [h k hk]]

theorem callRo_congr {sm : Mean} {frz : Bool} {n : Nat} {args : List W} (h : ∀ k ∈ args.flatMap keysW, get k = get' k) : callRo sm frz get n args = callRo sm frz get' n args := by
  unfold callRo
  rw [mapO_congr (f := roW get) fun c hc => roW_congr fun k hk => h k (List.mem_flatMap.2 ⟨c, hc, hk⟩)]

theorem valsW_keys : ∀ {vs : List V} {ws : List W}, valsW vs = some ws → vs.flatMap keysV = ws.flatMap keysW
  | [], ws, h => by simp only [valsW, mapO, Option.some.injEq] at h; subst h; rfl
  | v :: vs, ws, h => by
    unfold valsW at h
    simp only [mapO] at h
    split at h
    · rename_i y hy
      split at h
      · rename_i ys hys
        cases h
        have := valsW_keys (vs := vs) (ws := ys) hys
        cases v with
        | tup _ => cases hy
        | val u => cases hy; simp [keysV, this]
      · cases h
    · cases h

theorem flatMap_ptr : ∀ (caps : List Nat), ((caps.map fun k => W.one (.ptr k 0)).flatMap keysW) = caps
  | [] => rfl
  | k :: r => by simp only [List.map_cons, List.flatMap_cons, flatMap_ptr r]; rfl

theorem nilOf_keys {Γ : Env} {t : Nat} {x : Operand} {v : V} {k : Nat} (h : k ∈ keysV (nilOf Γ t x v)) : k ∈ keysV v := by
  unfold nilOf at h
  split at h
  · exact h
  · split at h
    · split at h
      · split at h
        · simp [keysV, keysW, W.cells, keysC] at h
        · exact h
      · exact h
    · exact h

theorem act_get {Γ : Env} {o : Oper} {ρ : Operand → V} {n : Nat} (h : ∀ k ∈ fpOp o ρ get, get k = get' k) : act Γ o ρ get n = act Γ o ρ get' n := by
  obtain ⟨dst, op, type, pos, after, guard⟩ := o
  cases op <;> simp only [fpOp] at h <;> simp only [act]
  case load t x =>
    split
    · exact actLoad_congr h
    · rfl
  case store t x y =>
    split
    · rename_i ti u ht hu
      refine actStore_congr fun k hk => h k ?_
      rcases List.mem_append.1 hk with hk | hk
      · exact List.mem_append_left _ hk
      · exact List.mem_append_right _ (nilOf_keys (Γ := Γ) (t := t) (x := y) (by rw [hu]; exact hk))
    · rfl
  case convert src dst x =>
    split
    · rename_i si di c hs hd hx
      split
      · rfl
      · have : convS Γ get si di c = convS Γ get' si di c := by
          unfold convS
          rw [elemsOf_congr (get' := get') fun k hk => h k (by rw [hx]; simpa [keysV, keysW, W.cells] using hk)]
        rw [this]
    · rfl
  case indexAddr t x i =>
    split
    · split
      · split
        · split
          · rfl
          · rename_i t k _ j hx hi
            rw [hx] at h
            rw [h k (by simp [keysV, keysW, W.cells, keysC])]
          · rfl
          · rfl
        · rfl
      · rfl
    · rfl
  case buildSlice t len parts =>
    split
    · split
      · split
        · split
          · rename_i ps hps
            split
            · rw [litElems_congr (get' := get') fun k hk => h k ?_]
              obtain ⟨p, hp, hk⟩ := List.mem_flatMap.1 hk
              obtain ⟨q, hq, he⟩ := mapO_mem hps p hp
              refine List.mem_flatMap.2 ⟨q, hq, ?_⟩
              split at he
              · rename_i u hu
                cases he
                rw [hu]
                exact hk
              · cases he
            · rfl
          · rfl
        · rfl
      · rfl
    · rfl
  case call c =>
    split
    · rename_i b hb
      refine actBuiltin_congr fun k hk => h k ?_
      refine List.mem_append_left _ (List.mem_append_left _ ?_)
      simpa [List.flatMap_map] using hk
    · rename_i f hf
      split
      · rename_i g caps ws hg hw
        rw [hf] at h
        dsimp only at h
        have hkeys : (c.args.toList.flatMap fun x => keysV (ρ x)) ++ keysV (ρ f) = (ws ++ caps.map fun k => W.one (.ptr k 0)).flatMap keysW := by
          have h1 := valsW_keys hw
          rw [List.flatMap_append, ← h1, flatMap_ptr, hg, List.flatMap_map]
          simp [keysV, keysW, W.cells, keysC]
        rw [hkeys] at h
        unfold callF
        split
        · split
          · exact callMut_congr fun k hk => h k (List.mem_append_right _ hk)
          · exact callRo_congr fun k hk => h k (List.mem_append_left _ hk)
        · rfl
      · rfl
    · rfl
end

end Go.Proofs.Ytmmdjajebmihhaa.AM
