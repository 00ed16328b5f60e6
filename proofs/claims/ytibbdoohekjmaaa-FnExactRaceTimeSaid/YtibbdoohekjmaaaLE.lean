/- The law FnExactRaceTime: its row holds. Conditions: none. -/
import Derived.Test.YtibbdoohekjmaaaV4
import Derived.Test.YtibbdoohekjmaaaRows
import Derived.WalkKit
import Derived.ProofKit
import Derived.OpenShut
import Derived.Below
namespace Go.Proofs.Ytibbdoohekjmaaa.fnExactRaceTime
open Go Go.Proofs Go.ChangeShapes Go.WideShapes Go.ChangeAt Go.RowKit Go.Proofs.Ytibbdoohekjmaaa.AM
set_option linter.unusedVariables false
theorem own : ownKnob Try.prog.godebug = none := by kernel_rfl
theorem laidOut : laidOutB Try.prog = true := by kernel_rfl
set_option maxRecDepth 100000 in
theorem lifted (os : Os) (started : os.Started) (H : Type) (enc : TypeId × Value → H) :
    ReturnsInHanded {} Try.checked os 12 .any (Rows.fnExactRaceTimeSpec.pre6 enc Try.prog Try.f12 Rows.fnExactRaceTimeRow.domain false) (Rows.fnExactRaceTimeSpec.post enc Try.prog Try.f12 false true false false) := by
  refine returnsInHanded_of_change (C := Try.checked) own started (by kernel_rfl) Try.func12
    (ChangeSpec.witness6 (enc := enc) (C := Try.checked) false ⟨#[], #[.agg #[.int .i64 0, .int .i64 0, .int .i64 0, .int .i64 0, .slice none 0 0, .int .i64 0, .int .i64 0, .int .i64 0, .int .i64 0], .slice none 0 0, .int .i64 0], []⟩ 8 (by kernel_rfl) (by kernel_rfl) (by kernel_rfl) (by kernel_rfl)) ?_
  intro W base args ds gs before hval0 hW hcnd _
  have hval : ∀ (j : Nat) t v, Try.f12.params[j]? = some t → args[j]? = some v → Value.okWide Try.prog W .any base t v := hval0
  have hW' := hW
  obtain ⟨p, q, hA0, hV, rfl, hfz, hnd⟩ := hW
  have hA : DataW.TrodAll enc Try.prog W 0 (fun _ => true) true Try.f12.params.toList args.toList ds p := hA0
  rw [Try.params12] at hA hval
  obtain ⟨v0, vs0, d0, ds0, p0, q0, hargs, rfl, rfl, h0, r0⟩ := trodAll_cons hA
  obtain ⟨v1, vs1, d1, ds1, p1, q1, hargs1, rfl, rfl, h1, r1⟩ := trodAll_cons r0
  subst hargs1
  obtain ⟨v2, vs2, d2, ds2, p2, q2, hargs2, rfl, rfl, h2, r2⟩ := trodAll_cons r1
  subst hargs2
  obtain ⟨rfl, rfl, rfl⟩ := trodAll_nil r2
  obtain rfl : args = #[v0, v1, v2] := by cases args; simp_all
  obtain ⟨rfl, rfl⟩ := trodVars_none hV
  have lt0 : ∀ x ∈ p0, x.block < W.heap.size := by obtain ⟨m, hm⟩ := h0; exact DataW.trod_lt m _ _ _ hm
  obtain ⟨x0, w0, g0⟩ := arg_ok (ty := .cons (.cons (.cons (.int .i64) (.cons (.int .i64) (.nil))) (.cons (.cons (.int .i64) (.cons (.int .i64) (.nil))) (.nil))) (.cons (.slice (.cons (.cons (.int .i64) (.cons (.int .i64) (.nil))) (.cons (.bool) (.nil)))) (.cons (.cons (.cons (.int .i64) (.cons (.int .i64) (.nil))) (.cons (.cons (.int .i64) (.cons (.int .i64) (.nil))) (.nil))) (.nil)))) (by kernel_rfl) (hval 0 39 v0 rfl rfl) h0
  have lt1 : ∀ x ∈ p1, x.block < W.heap.size := by obtain ⟨m, hm⟩ := h1; exact DataW.trod_lt m _ _ _ hm
  obtain ⟨x1, w1, g1⟩ := arg_ok (ty := .slice (.cons (.cons (.int .i64) (.cons (.int .i64) (.nil))) (.cons (.int .i64) (.nil)))) (by kernel_rfl) (hval 1 62 v1 rfl rfl) h1
  have lt2 : ∀ x ∈ p2, x.block < W.heap.size := by obtain ⟨m, hm⟩ := h2; exact DataW.trod_lt m _ _ _ hm
  obtain ⟨x2, w2, g2⟩ := arg_ok (ty := .int .i64) (by kernel_rfl) (hval 2 3 v2 rfl rfl) h2
  clear hA0 hval0
  have hev : callK _ (bodyOf Try.f12) (decR (.cons .bool .nil)) (encA A12 (x0, x1, x2, ())) [] = some (true, ()) := (ev12 K20 G20 K32 G32 K22 G22 K34 G34 K44 G44 K45 G45 K24 G24 K35 G35 (x0, x1, x2, ())).trans (exRaceTime (x0, x1, x2, ()) ⟨w0, w1, w2, trivial⟩)
  refine (law_ok env12 is12 hev (vs := #[v0, v1, v2]) ⟨g0 _, g1 _, g2 _, trivial⟩).mono fun e W' ⟨he, bel⟩ => ?_
  subst he
  exact ⟨_, rfl, _, _, _, [], _, [], hW', trodAll_mk1 (shut_bool Try.underlying4 _), (trodAll_cons_mk (Below.trod laidOut (by kernel_rfl) (of_decide_eq_true (by kernel_rfl)) h0 bel lt0) (trodAll_cons_mk (Below.trod laidOut (by kernel_rfl) (of_decide_eq_true (by kernel_rfl)) h1 bel lt1) (trodAll_cons_mk (Below.trod laidOut (by kernel_rfl) (of_decide_eq_true (by kernel_rfl)) h2 bel lt2) trodAll_mk0))), rfl, bel.frame _, fun h => by cases h⟩
theorem over : Rows.fnExactRaceTimeRow.holds Try.pinned (OpenSpec.ofChange Rows.fnExactRaceTimeSpec) :=
  OpenClaim.holds_of_wide 12 Try.f12 rfl rfl rfl rfl rfl rfl rfl ⟨rfl, rfl, rfl, rfl, rfl⟩ rfl rfl rfl rfl rfl (by kernel_rfl) Try.func12 (by kernel_rfl)
    (of_decide_eq_true (by kernel_rfl)) (by unfold Func.isWrapper; first | (rw [if_pos (by decide +kernel)]; kernel_rfl) | (rw [if_neg (by decide +kernel)]; exact ⟨rfl, rfl⟩))
    (fun os started H enc _ => lifted os started H enc)
end Go.Proofs.Ytibbdoohekjmaaa.fnExactRaceTime
namespace Go.Proofs.Ytibbdoohekjmaaa
/-- The law's row. -/
theorem fnExactRaceTime_holds : Rows.FnExactRaceTimeSaid := fnExactRaceTime.over
end Go.Proofs.Ytibbdoohekjmaaa
