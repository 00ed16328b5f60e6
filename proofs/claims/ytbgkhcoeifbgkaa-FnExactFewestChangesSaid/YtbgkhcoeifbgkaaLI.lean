/- The law FnExactFewestChanges: its row holds. Conditions: none. -/
import Derived.Test.YtbgkhcoeifbgkaaV6
import Derived.Test.YtbgkhcoeifbgkaaRows
import Derived.WalkKit
import Derived.ProofKit
import Derived.OpenShut
import Derived.Below
namespace Go.Proofs.Ytbgkhcoeifbgkaa.fnExactFewestChanges
open Go Go.Proofs Go.ChangeShapes Go.WideShapes Go.ChangeAt Go.RowKit Go.Proofs.Ytbgkhcoeifbgkaa.AM
set_option linter.unusedVariables false
theorem own : ownKnob Try.prog.godebug = none := by kernel_rfl
theorem laidOut : laidOutB Try.prog = true := by kernel_rfl
set_option maxRecDepth 100000 in
theorem lifted (os : Os) (started : os.Started) (H : Type) (enc : TypeId × Value → H) :
    ReturnsInHanded {} Try.checked os 12 .any (Rows.fnExactFewestChangesSpec.pre6 enc Try.prog Try.f12 Rows.fnExactFewestChangesRow.domain false) (Rows.fnExactFewestChangesSpec.post enc Try.prog Try.f12 false true false false) := by
  refine returnsInHanded_of_change (C := Try.checked) own started (by kernel_rfl) Try.func12
    (ChangeSpec.witness6 (enc := enc) (C := Try.checked) false ⟨#[], #[.slice none 0 0, .slice none 0 0], []⟩ 8 (by kernel_rfl) (by kernel_rfl) (by kernel_rfl) (by kernel_rfl)) ?_
  intro W base args ds gs before hval0 hW hcnd _
  have hval : ∀ (j : Nat) t v, Try.f12.params[j]? = some t → args[j]? = some v → Value.okWide Try.prog W .any base t v := hval0
  have hW' := hW
  obtain ⟨p, q, hA0, hV, rfl, hfz, hnd⟩ := hW
  have hA : DataW.TrodAll enc Try.prog W 0 (fun _ => true) true Try.f12.params.toList args.toList ds p := hA0
  rw [Try.params12] at hA hval
  obtain ⟨v0, vs0, d0, ds0, p0, q0, hargs, rfl, rfl, h0, r0⟩ := trodAll_cons hA
  obtain ⟨v1, vs1, d1, ds1, p1, q1, hargs1, rfl, rfl, h1, r1⟩ := trodAll_cons r0
  subst hargs1
  obtain ⟨rfl, rfl, rfl⟩ := trodAll_nil r1
  obtain rfl : args = #[v0, v1] := by cases args; simp_all
  obtain ⟨rfl, rfl⟩ := trodVars_none hV
  have lt0 : ∀ x ∈ p0, x.block < W.heap.size := by obtain ⟨m, hm⟩ := h0; exact DataW.trod_lt m _ _ _ hm
  obtain ⟨x0, w0, g0⟩ := arg_ok (ty := .slice (.cons (.str) (.cons (.flt .f32) (.cons (.flt .f32) (.cons (.int .i64) (.cons (.int .i64) (.nil))))))) (by kernel_rfl) (hval 0 39 v0 rfl rfl) h0
  have lt1 : ∀ x ∈ p1, x.block < W.heap.size := by obtain ⟨m, hm⟩ := h1; exact DataW.trod_lt m _ _ _ hm
  obtain ⟨x1, w1, g1⟩ := arg_ok (ty := .slice (.cons (.flt .f32) (.cons (.int .i64) (.nil)))) (by kernel_rfl) (hval 1 54 v1 rfl rfl) h1
  clear hA0 hval0
  have hev : callK _ (bodyOf Try.f12) (decR (.cons .bool .nil)) (encA A12 (x0, x1, ())) [] = some (true, ()) := (ev12 K26 G26 K37 G37 K28 G28 K39 G39 K44 G44 K45 G45 K23 G23 K30 G30 K41 G41 K46 G46 K47 G47 K48 G48 K49 G49 (x0, x1, ())).trans (exFewestChanges (x0, x1, ()) ⟨w0, w1, trivial⟩)
  refine (law_ok env12 is12 hev (vs := #[v0, v1]) ⟨g0 _, g1 _, trivial⟩).mono fun e W' ⟨he, bel⟩ => ?_
  subst he
  exact ⟨_, rfl, _, _, _, [], _, [], hW', trodAll_mk1 (shut_bool Try.underlying4 _), (trodAll_cons_mk (Below.trod laidOut (by kernel_rfl) (of_decide_eq_true (by kernel_rfl)) h0 bel lt0) (trodAll_cons_mk (Below.trod laidOut (by kernel_rfl) (of_decide_eq_true (by kernel_rfl)) h1 bel lt1) trodAll_mk0)), rfl, bel.frame _, fun h => by cases h⟩
theorem over : Rows.fnExactFewestChangesRow.holds Try.pinned (OpenSpec.ofChange Rows.fnExactFewestChangesSpec) :=
  OpenClaim.holds_of_wide 12 Try.f12 rfl rfl rfl rfl rfl rfl rfl ⟨rfl, rfl, rfl, rfl, rfl⟩ rfl rfl rfl rfl rfl (by kernel_rfl) Try.func12 (by kernel_rfl)
    (of_decide_eq_true (by kernel_rfl)) (by unfold Func.isWrapper; first | (rw [if_pos (by decide +kernel)]; kernel_rfl) | (rw [if_neg (by decide +kernel)]; exact ⟨rfl, rfl⟩))
    (fun os started H enc _ => lifted os started H enc)
end Go.Proofs.Ytbgkhcoeifbgkaa.fnExactFewestChanges
namespace Go.Proofs.Ytbgkhcoeifbgkaa
/-- The law's row. -/
theorem fnExactFewestChanges_holds : Rows.FnExactFewestChangesSaid := fnExactFewestChanges.over
end Go.Proofs.Ytbgkhcoeifbgkaa
