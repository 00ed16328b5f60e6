/- The abstract machine, second part: regions, code, the state at joins, what a call hands back. Conditions: none, these are definitions. -/
import Derived.Test.YtmmdjajebmihhaaA0
namespace Go.Proofs.Ytmmdjajebmihhaa.AM
open Go

/-- What an operation of a region met and turned. -/
structure Ent where
  fp : List Nat
  up : List Nat
  kb : Bool

def fpOp (o : Oper) (ρ : Operand → V) (get : Get) : List Nat :=
  match o.op with
  | .load _ a => keysV (ρ a)
  | .store _ a x => keysV (ρ a) ++ keysV (ρ x)
  | .buildSlice _ _ parts => parts.toList.flatMap fun p => keysV (ρ p.2)
  | .indexAddr _ x _ => keysV (ρ x)
  | .convert _ _ x => keysV (ρ x)
  | .call c => (c.args.toList.flatMap (fun x => keysV (ρ x)) ++ (match c.callee with | .value f => keysV (ρ f) | _ => [])) ++
      reach get reachFuel (c.args.toList.flatMap (fun x => keysV (ρ x)) ++ (match c.callee with | .value f => keysV (ρ f) | _ => [])) []
  | _ => []

def allLt (n : Nat) : List Nat → Bool
  | [] => true
  | k :: r => Nat.blt k n && allLt n r

def keysB : Option Blk → List Nat
  | some (.box cs) => cs.flatMap keysC
  | _ => []

/-- All that the operation names lies below the counter, and the counter grows. -/
def kbOp (o : Oper) (ρ : Operand → V) (get : Get) (n n' : Nat) : Bool :=
  Nat.ble n n' && allLt n (o.op.operands.toList.flatMap fun x => keysV (ρ x)) && allLt n (fpOp o ρ get) && allLt n ((fpOp o ρ get).flatMap fun k => keysB (get k))

def dstOk (Γ : Env) (d : Option Nat) : Bool := match d with
  | some t => Nat.blt t Γ.nt
  | none => true

def St.apply (s : St) (out : Out) : St := { s with mem := out.upd ++ s.mem, n := out.n }

def boolV (b : Bool) : V := .val (.one (.bool b))

def runK {R : Type} (Γ : Env) (o : Oper) (K : St → Ent → Option R) (s : St) : Option R :=
  match act Γ o s.val s.get s.n with
  | none => none
  | some out => match dstOk Γ o.dst with
    | true => match out.ok with
      | true => K ((s.apply out).putO o.dst out.v) ⟨fpOp o s.val s.get, out.upd.map (·.1), kbOp o s.val s.get s.n out.n⟩
      | false => none
    | false => none

def execK {R : Type} (Γ : Env) (o : Oper) (K : St → Ent → Option R) (s : St) : Option R :=
  match o.op with
  | .pick (.tmp t) _ _ => match s.tmpV t with
    | .val (.one (.bool b)) => match b with
      | true => runK Γ o K (s.put t (boolV true))
      | false => runK Γ o K (s.put t (boolV false))
    | _ => none
  | _ => runK Γ o K s

def skipK {R : Type} (Γ : Env) (o : Oper) (K : St → Ent → Option R) (s : St) : Option R :=
  match dstOk Γ o.dst with
  | true => K (s.putO o.dst (.tup [])) ⟨[], [], true⟩
  | false => none

def opsK {R : Type} (Γ : Env) (ops : Array Oper) : List Oper → St → List Ent → (St → List Ent → Option R) → Option R
  | [], s, tr, K => K s tr
  | o :: rest, s, tr, K => match o.guard with
    | none => execK Γ o (fun s' e => opsK Γ ops rest s' (e :: tr) K) s
    | some (g, want) => match (ops[g]?).bind (·.dst) with
      | none => none
      | some t => match s.tmpV t with
        | .val (.one (.bool b)) => match b with
          | true => match want with
            | true => execK Γ o (fun s' e => opsK Γ ops rest s' (e :: tr) K) (s.put t (boolV true))
            | false => skipK Γ o (fun s' e => opsK Γ ops rest s' (e :: tr) K) (s.put t (boolV true))
          | false => match want with
            | true => skipK Γ o (fun s' e => opsK Γ ops rest s' (e :: tr) K) (s.put t (boolV false))
            | false => execK Γ o (fun s' e => opsK Γ ops rest s' (e :: tr) K) (s.put t (boolV false))
        | .tup [] => skipK Γ o (fun s' e => opsK Γ ops rest s' (e :: tr) K) s
        | _ => none

/-! ## A region whose order is open -/

/-- Of each operation: which ones must come before it, a bit each. -/
def ancOf (acc : List Nat) : List Edge → Nat
  | [] => 0
  | e :: r => match Region.binds .any e with
    | true => Nat.lor (Nat.lor (Nat.shiftLeft 1 e.on) (acc.getD e.on 0)) (ancOf acc r)
    | false => ancOf acc r

def ancs : List Oper → List Nat → List Nat
  | [], acc => acc
  | o :: r, acc => ancs r (acc ++ [ancOf acc o.after.toList])

def disj : List Nat → List Nat → Bool
  | [], _ => true
  | x :: r, l => match hasN l x with
    | true => false
    | false => disj r l

def indep (a b : Ent) : Bool := disj a.fp b.up && disj b.fp a.up && disj a.up b.up

def looksO (o : Op) : List Nat := o.operands.toList.filterMap fun | .tmp t => some t | _ => none
def looks (ops : Array Oper) (o : Oper) : List Nat := looksO o.op ++ (match o.guard with
  | some (g, _) => match (ops[g]?).bind (·.dst) with | some t => [t] | none => []
  | none => [])

def apartB (ops : Array Oper) (x y : Oper) : Bool :=
  (match x.dst with | some d => !hasN (looks ops y) d | none => true) &&
  (match y.dst with | some d => !hasN (looks ops x) d | none => true) &&
  (match x.dst, y.dst with | some d, some e => !Nat.beq d e | _, _ => true)

/-- The operation i against the ones before it (j counts down over the heads of both lists). -/
def againstB (ops : Array Oper) (anc : Nat) (o : Oper) (e : Ent) : List (Nat × Oper × Ent) → Bool
  | [] => true
  | (j, o', e') :: r => (match Nat.testBit anc j with
    | true => true
    | false => indep e e' && apartB ops o o') && againstB ops anc o e r

def pairsB (ops : Array Oper) : List Nat → List (Nat × Oper × Ent) → List (Nat × Oper × Ent) → Bool
  | a :: as, (i, o, e) :: r, before => againstB ops a o e before && pairsB ops as r ((i, o, e) :: before)
  | _, _, _ => true

def number3 : Nat → List Oper → List Ent → List (Nat × Oper × Ent)
  | i, o :: os, e :: es => (i, o, e) :: number3 (i + 1) os es
  | _, _, _ => []

/-- Each operation waits only for earlier ones. -/
def edgesB : Nat → List Oper → Bool
  | _, [] => true
  | i, o :: r => o.after.toList.all (fun e => !Region.binds .any e || Nat.blt e.on i) && edgesB (i + 1) r

def drawOk (ops : Array Oper) (tr : List Ent) : Bool :=
  pairsB ops (ancs ops.toList []) (number3 0 ops.toList tr.reverse) [] && edgesB 0 ops.toList && tr.all (·.kb)

/-! ## The state at a join -/

def gone (ks : List Nat) : List (Nat × Option Blk) := ks.map (·, none)

def view (c : Cv) (s : St) : St := match c with
  | .forget t => s.put t pois
  | .sl t => match s.tmpV t with
    | .val (.one (.nil ty)) => s.put t (.val (.one (.sl ty [])))
    | _ => s
  | .boxSl t off => match s.tmpV t with
    | .val (.one (.ptr k _)) => match s.get k with
      | some (.box cs) => match cs[off]? with
        | some (.nil ty) => { s with mem := (k, some (.box (cs.set off (.sl ty [])))) :: s.mem }
        | _ => s
      | _ => s
    | _ => s
  | .nil t => match s.tmpV t with
    | .val (.one (.nil ty)) => { s with tmps := (t, .val (.one (.ref ty s.n))) :: s.tmps, mem := (s.n, some (.arr ty [])) :: s.mem, n := s.n + 1 }
    | _ => s
  | .boxNil t off => match s.tmpV t with
    | .val (.one (.ptr k _)) => match s.get k with
      | some (.box cs) => match cs[off]? with
        | some (.nil ty) => { s with mem := (k, some (.box (cs.set off (.ref ty s.n)))) :: (s.n, some (.arr ty [])) :: s.mem, n := s.n + 1 }
        | _ => s
      | _ => s
    | _ => s
  | .frz t => match s.tmpV t with
    | .val w => match roW s.get w with
      | some w' => { s with tmps := (t, .val w') :: s.tmps, mem := gone (keysW w) ++ s.mem }
      | none => s
    | _ => s
  | .frzBox t => match s.tmpV t with
    | .val (.one (.ptr k _)) => match s.get k with
      | some (.box cs) => match mapO (roC s.get) cs with
        | some cs' => match hasN (cs.flatMap keysC) k with
          | false => { s with mem := (k, some (.box cs')) :: (gone (cs.flatMap keysC) ++ s.mem) }
          | true => s
        | none => s
      | _ => s
    | _ => s

def coerce : List Cv → St → St
  | [], s => s
  | c :: r, s => coerce r (view c s)

def upFrom : List Nat → Nat → List Nat
  | [], _ => []
  | k :: r, m => match Nat.ble m k with
    | true => k :: upFrom r m
    | false => upFrom r m

def newKey (rest : List Nat) (m k : Nat) : Option Nat := match Nat.blt k m with
  | true => some k
  | false => indexN rest k m

def memOf (get : Get) (σ : Nat → Option Nat) : List Nat → Option (List (Nat × Option Blk))
  | [] => some []
  | k :: r => match σ k, renOB σ (get k), memOf get σ r with
    | some k', some b, some l => some ((k', b) :: l)
    | _, _, _ => none

def upto : Nat → List Nat
  | 0 => []
  | n + 1 => upto n ++ [n]

def canon (live : List Nat) (own : List Cv) (s0 : St) : Option St :=
  let s := coerce own s0
  let ks := reach s.get reachFuel (upto s.m ++ live.flatMap fun t => keysV (s.tmpV t)) (upto 0)
  let rest := upFrom ks s.m
  match mapO (fun t => (renV (newKey rest s.m) (s.tmpV t)).map fun v => (t, v)) live, memOf s.get (newKey rest s.m) (upto s.m ++ rest) with
  | some tmps, some mem => some { tmps, mem, n := s.m + rest.length, m := s.m }
  | _, _ => none

/-! ## Code -/

def firstRegion : Code → Nat
  | .region id _ _ => id
  | .seq x _ => firstRegion x
  | .block _ x => firstRegion x
  | .loop x => firstRegion x
  | .cond _ x _ => firstRegion x
  | _ => 0

def joinK {R : Type} (cut : Option (List Nat × List Cv)) (K : Ex → St → Option R) (e : Ex) (s : St) : Option R :=
  match e with
  | .normal => match cut with
    | some c => match canon c.1 c.2 s with
      | some s' => K .normal s'
      | none => none
    | none => K .normal s
  | e => K e s

def blockK {R : Type} (id : Nat) (cut : Option (List Nat × List Cv)) (K : Ex → St → Option R) (e : Ex) (s : St) : Option R :=
  match e with
  | .normal => joinK cut K .normal s
  | .exit i => match Nat.beq i id with
    | true => joinK cut K .normal s
    | false => K (.exit i) s
  | .ret => K .ret s

/-- A loop's ends. -/
def endK {R : Type} (ex : Nat) (past : List Nat) (pown : List Cv) (K : Ex → St → Option R) (e : Ex) (s : St) : Option R := match e with
  | .normal => none
  | .exit i => match Nat.beq i ex with
    | true => match canon past pown s with
      | some s' => K (.exit i) s'
      | none => none
    | false => none
  | .ret => K .ret s

/-- A loop's round: back to its head, or out. -/
def roundK {R : Type} (live : List Nat) (own : List Cv) (ex : Nat) (past : List Nat) (pown : List Cv) (F : St → Option R) (K : Ex → St → Option R) (e : Ex) (s : St) : Option R := match e with
  | .normal => match canon live own s with
    | some s' => F s'
    | none => none
  | e => endK ex past pown K e s

def runL {R : Type} (L : LoopM) (K : Ex → St → Option R) (s : St) : Option R :=
  match canon L.live L.own s with
  | none => none
  | some s0 => match L.run s0 with
    | none => none
    | some (ok, b, s1, s2) => match ok with
      | false => none
      | true => match b with
        | true => K .ret s2
        | false => K (.exit L.ex) s1

def resT : ResultVar → Nat
  | .tmp t => t
  | .cell a _ => a

def condT (c : Operand) : Nat := match c with
  | .tmp t => t
  | _ => 0

def St.putC (s : St) (c : Operand) (b : Bool) : St := match c with
  | .tmp t => s.put t (boolV b)
  | _ => s

def EBk {R : Type} (Γ : Env) : Code → (Ex → St → Option R) → St → Option R
  | .skip, K, s => K .normal s
  | .label _, K, s => K .normal s
  | .seq x y, K, s => EBk Γ x (fun e s' => match e with
    | .normal => EBk Γ y K s'
    | e => K e s') s
  | .cond c x y, K, s => match s.val c with
    | .val (.one (.bool b)) => match b with
      | true => EBk Γ x (joinK (look Γ.cut (condT c)) K) (s.putC c true)
      | false => EBk Γ y (joinK (look Γ.cut (condT c)) K) (s.putC c false)
    | _ => none
  | .block id x, K, s => EBk Γ x (blockK id (look Γ.past id) K) s
  | .loop c, K, s => match look Γ.loops (firstRegion c) with
    | some L => runL L K s
    | none => none
  | .exit id, K, s => K (.exit id) s
  | .ret, K, s => match canon (Γ.res.map resT) Γ.rown s with
    | some s' => K .ret s'
    | none => none
  | .region _ ops d, K, s => opsK Γ ops ops.toList s [] (fun s' tr => match d with
    | false => K .normal s'
    | true => match drawOk ops tr with
      | true => K .normal s'
      | false => none)
  | _, _, _ => none

def loopK {R : Type} (Γ : Env) (c : Code) (L : LoopM) (K : Ex → St → Option R) : Nat → St → Option R
  | 0, _ => none
  | k + 1, s => EBk Γ c (roundK L.live L.own L.ex L.past L.pown (loopK Γ c L K k) K) s

def loopsOf : Code → List Code
  | .seq x y => loopsOf x ++ loopsOf y
  | .cond _ x y => loopsOf x ++ loopsOf y
  | .block _ x => loopsOf x
  | .loop x => x :: loopsOf x
  | _ => []

/-- A loop's meaning is right. -/
def LoopSound (Γ : Env) (c : Code) (L : LoopM) : Prop :=
  ∀ s0 b s1 s2, L.run s0 = some (true, b, s1, s2) → ∀ (R : Type) (K : Ex → St → Option R), ∃ n, loopK Γ c L K n s0 = (if b then K .ret s2 else K (.exit L.ex) s1)

def LoopsOK (Γ : Env) (c : Code) : Prop := ∀ c' ∈ loopsOf c, ∀ L, look Γ.loops (firstRegion c') = some L → LoopSound Γ c' L

/-! ## A call -/

def initT : Nat → List W → List (Nat × V)
  | _, [] => []
  | i, w :: r => (i, .val w) :: initT (i + 1) r

def initM : Nat → List Blk → List (Nat × Option Blk)
  | _, [] => []
  | i, b :: r => (i, some b) :: initM (i + 1) r

def initS (args : List W) (ins : List Blk) : St := { tmps := initT 0 args, mem := initM 0 ins, n := ins.length, m := ins.length }

def resW (Γ : Env) (s : St) : ResultVar → Option W
  | .tmp t => match s.tmpV t with
    | .val w => some w
    | _ => none
  | .cell a t => match Γ.tab t with
    | some ti => match actLoad s.get 0 ti.agg ti.size (s.tmpV a) with
      | some out => match out.v with
        | .val w => some w
        | _ => none
      | none => none
    | none => none

def fin (Γ : Env) (s : St) : Option (List W × List (Option Blk)) :=
  match mapO (resW Γ s) Γ.res with
  | none => none
  | some ws =>
    let ks := reach s.get reachFuel (upto s.m ++ ws.flatMap keysW) (upto 0)
    let rest := upFrom ks s.m
    match mapO (renW (newKey rest s.m)) ws, mapO (fun k => renOB (newKey rest s.m) (s.get k)) (upto s.m ++ rest) with
    | some ws', some outs => some (ws', outs)
    | _, _ => none

/-- The whole of a function: its body from its arguments on, its results as 'f' takes them. -/
def callK {R : Type} (Γ : Env) (c : Code) (f : List W × List (Option Blk) → Option R) (args : List W) (ins : List Blk) : Option R :=
  match Nat.ble args.length Γ.nt with
  | true => EBk Γ c (fun e s => match e with
    | .exit _ => none
    | _ => match fin Γ s with
      | some r => f r
      | none => none) (initS args ins)
  | false => none

end Go.Proofs.Ytmmdjajebmihhaa.AM
