/-
  No cell of these rows narrows 'for every input' (looked for: loops, veiled, ifaces, maps, wideKeys, modest, calm, conditions, laid).
  DERIVED. THE GIVEN ROWS OF THIS SEAT. 2 by the template 'for every input the law returns true; each argument reads behind the call as it read before'; 0 by the template 'total and deterministic' (their statements: YteieioehigacmaaGreatTotals.lean).
  GIVEN WITH THE SEED: the statements are not yours to turn. If you find one false, say at which input.
  Laid BY PROGRAM, IN A SANDBOX (cutbox-rows.mjs): the forced cells as the released guide's own fill.sh prints them over the translation 3e5794327f0793d6… (all of the seat's roots in one cut). By AI agents, Wed Nov 11 2026. No macro, syntax, notation, axiom, sorry.
-/
import Derived.Test.YteieioehigacmaaGreatChecked
import GoSem.Claim
import GoSem.ClaimJoined
import GoSem.ClaimMapViews
import Derived.JoinedTies
import Derived.KernelRfl
namespace Go.Proofs.YteieioehigacmaaGreat
/- THE CELL 'sum', in the pinned program and in every row, IS THE sha256 OF THE DUMP (.gsa) THAT YteieioehigacmaaGreatProg.lean LOADS. Nothing in Lean hashes anything: it is a label: what it is worth is what the hold of that sum in a sandbox is worth. -/
noncomputable def Tryz.pinned : Pinned := { name := "yteieioehigacmaagreat", sum := "3e5794327f0793d6b885adaf6b1f0900495b02b31ef658f27c889b9407bd90ac", checked := Tryz.checked }
namespace Rows
def none {H : Type} : Left H := { results := [], args := [] }

/-- 'laws.FnWayArrives': WHATEVER THE INPUT: true; the input reads as it did. -/
def fnWayArrivesSpec : ChangeSpec := { name := "fnWayArrives", fn := fun _ => fun
  | [d] => { results := [.lit (.bool true)], args := [d] }
  | _ => none }
def fnWayArrivesRow : OpenClaim := { program := "yteieioehigacmaagreat", sum := "3e5794327f0793d6b885adaf6b1f0900495b02b31ef658f27c889b9407bd90ac", func := "loop.example/g03321/laws.FnWayArrives", spec := "fnWayArrives", inPlace := ["math.Float64bits", "math.Float64frombits", "math.archCeil", "math.archFloor", "math.archTrunc"], unfollowed := true, recurses := true, apart := false }
def FnWayArrivesSaid : Prop := fnWayArrivesRow.holds Tryz.pinned (OpenSpec.ofChange fnWayArrivesSpec)

/-- ITS FALSE NEIGHBOUR: 'it returns false'. Refute it at one input. -/
def fnWayArrivesWrong : ChangeSpec := { name := "fnWayArrives", fn := fun _ => fun
  | [d] => { results := [.lit (.bool false)], args := [d] }
  | _ => none }
def FnWayArrivesWrongFalsely : Prop := fnWayArrivesRow.holds Tryz.pinned (OpenSpec.ofChange fnWayArrivesWrong)

/-- 'laws.FnSteadyWind': WHATEVER THE INPUT: true; the input reads as it did. -/
def fnSteadyWindSpec : ChangeSpec := { name := "fnSteadyWind", fn := fun _ => fun
  | [d] => { results := [.lit (.bool true)], args := [d] }
  | _ => none }
def fnSteadyWindRow : OpenClaim := { program := "yteieioehigacmaagreat", sum := "3e5794327f0793d6b885adaf6b1f0900495b02b31ef658f27c889b9407bd90ac", func := "loop.example/g03321/laws.FnSteadyWind", spec := "fnSteadyWind", inPlace := ["math.Float64bits", "math.Float64frombits", "math.archCeil", "math.archFloor", "math.archTrunc"], unfollowed := true, recurses := true, apart := false }
def FnSteadyWindSaid : Prop := fnSteadyWindRow.holds Tryz.pinned (OpenSpec.ofChange fnSteadyWindSpec)

/-- ITS FALSE NEIGHBOUR: 'it returns false'. Refute it at one input. -/
def fnSteadyWindWrong : ChangeSpec := { name := "fnSteadyWind", fn := fun _ => fun
  | [d] => { results := [.lit (.bool false)], args := [d] }
  | _ => none }
def FnSteadyWindWrongFalsely : Prop := fnSteadyWindRow.holds Tryz.pinned (OpenSpec.ofChange fnSteadyWindWrong)

/- THE SECOND FORM. 'bulk': how many values and letters a reading holds, each counted each time it is reached (what is shared counts as often as it is met; a slice's spare places count too). A statement '..UptoSaid' is the law's where the arguments, and the package variables that the reading takes, are together of bulk at most 1048576: NARROWER than '..Said'. Prove '..Said' where nothing that the law and all that it calls make is longer than what came in: it says more and counts as full. Else prove '..UptoSaid'. A law counts once. -/
mutual
def uptoBulk {H : Type} : DataW H → Nat
  | .lit (.string bytes) => bytes.length + 1
  | .lit _ => 1
  | .nil => 1
  | .ptr d => uptoBulk d + 1
  | .slice elems spare => uptoBulkAll elems + uptoBulkAll spare + 1
  | .agg parts => uptoBulkAll parts + 1
  | .iface _ d => uptoBulk d + 1
  | .map entries => uptoBulkEntries entries + 1
  | .held _ => 1
def uptoBulkAll {H : Type} : List (DataW H) → Nat
  | [] => 0
  | d :: r => uptoBulk d + uptoBulkAll r
def uptoBulkEntries {H : Type} : List (Lit × DataW H) → Nat
  | [] => 0
  | x :: r => uptoBulkEntry x + uptoBulkEntries r
def uptoBulkEntry {H : Type} : Lit × DataW H → Nat
  | (.string bytes, d) => bytes.length + uptoBulk d + 1
  | (_, d) => uptoBulk d + 1
 end
def uptoSmall : (H : Type) → List (DataW H) → Bool := fun _ ds => decide (uptoBulkAll ds ≤ 1048576)
def OpenSpec.upto (s : _root_.Go.ChangeSpec) : _root_.Go.OpenSpec := { _root_.Go.OpenSpec.ofChange s with cond := some uptoSmall }

/-- 'laws.FnWayArrives', WHERE WHAT IT READS IS OF BULK AT MOST 1048576: true; the input reads as it did. -/
def fnWayArrivesUptoRow : OpenClaim := { program := "yteieioehigacmaagreat", sum := "3e5794327f0793d6b885adaf6b1f0900495b02b31ef658f27c889b9407bd90ac", func := "loop.example/g03321/laws.FnWayArrives", spec := "fnWayArrives", inPlace := ["math.Float64bits", "math.Float64frombits", "math.archCeil", "math.archFloor", "math.archTrunc"], unfollowed := true, recurses := true, apart := false, narrowed := true }
def FnWayArrivesUptoSaid : Prop := fnWayArrivesUptoRow.holds Tryz.pinned (OpenSpec.upto fnWayArrivesSpec)

/-- 'laws.FnSteadyWind', WHERE WHAT IT READS IS OF BULK AT MOST 1048576: true; the input reads as it did. -/
def fnSteadyWindUptoRow : OpenClaim := { program := "yteieioehigacmaagreat", sum := "3e5794327f0793d6b885adaf6b1f0900495b02b31ef658f27c889b9407bd90ac", func := "loop.example/g03321/laws.FnSteadyWind", spec := "fnSteadyWind", inPlace := ["math.Float64bits", "math.Float64frombits", "math.archCeil", "math.archFloor", "math.archTrunc"], unfollowed := true, recurses := true, apart := false, narrowed := true }
def FnSteadyWindUptoSaid : Prop := fnSteadyWindUptoRow.holds Tryz.pinned (OpenSpec.upto fnSteadyWindSpec)

end Rows
end Go.Proofs.YteieioehigacmaaGreat
