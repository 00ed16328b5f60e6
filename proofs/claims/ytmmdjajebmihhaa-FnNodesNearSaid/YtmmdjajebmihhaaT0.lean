/- The types of the program that this seat proves about, as the abstract machine takes them; its functions' codes. Printed by gen.py. -/
import Derived.Test.YtmmdjajebmihhaaC4
import Derived.Test.YtmmdjajebmihhaaProg
import Derived.Test.YtmmdjajebmihhaaChecked
namespace Go.Proofs.Ytmmdjajebmihhaa.AM
open Go Go.Proofs
set_option linter.unusedVariables false

abbrev S25 : Ty := .cons (.int .i64) (.cons (.int .i64) (.cons (.int .i64) (.cons (.slice (.slice (.cpx .f32))) (.nil))))
abbrev S53 : Ty := .cons (.int .i64) (.cons (.flt .f32) (.cons (.int .i64) (.nil)))
abbrev S98 : Ty := .cons (.slice (.int .u8)) (.cons (.int .i64) (.cons (.int .i64) (.nil)))

def tab : List (Nat × TI) := [
  (2, ⟨1, 8, false, .int .i64, [.int .i64 0], [], 0, .int .i64⟩),
  (3, ⟨1, 8, false, .int .i64, [.int .i64 0], [], 0, .int .i64⟩),
  (4, ⟨1, 1, false, .bool, [.bool false], [], 0, .bool⟩),
  (5, ⟨1, 1, false, .int .u8, [.int .u8 0], [], 0, .int .u8⟩),
  (10, ⟨1, 16, false, .str, [.str ByteArray.empty], [], 0, .string⟩),
  (22, ⟨1, 24, false, .slice (.int .u8), [.nil (.int .u8)], [], 5, .slice⟩),
  (24, ⟨1, 24, false, .slice (.slice (.cpx .f32)), [.nil (.slice (.cpx .f32))], [], 37, .slice⟩),
  (26, ⟨4, 48, true, S25, [.int .i64 0, .int .i64 0, .int .i64 0, .nil (.slice (.cpx .f32))], [(0, 1, false), (1, 1, false), (2, 1, false), (3, 1, false)], 0, .struct⟩),
  (29, ⟨1, 16, false, .cpx .f64, [.cpx .f64 0 0], [], 0, .complex .f64⟩),
  (32, ⟨1, 8, false, .cpx .f32, [.cpx .f32 0 0], [], 0, .complex .f32⟩),
  (37, ⟨1, 24, false, .slice (.cpx .f32), [.nil (.cpx .f32)], [], 32, .slice⟩),
  (41, ⟨1, 8, false, .flt .f64, [.flt .f64 0], [], 0, .float .f64⟩),
  (45, ⟨1, 24, false, .slice (S53), [.nil (S53)], [], 54, .slice⟩),
  (46, ⟨1, 24, false, .nil, [.pois], [], 97, .slice⟩),
  (47, ⟨1, 24, false, .slice (.int .i64), [.nil (.int .i64)], [], 3, .slice⟩),
  (49, ⟨2, 48, true, .nil, [.pois, .nil (.int .i64)], [(0, 1, false), (1, 1, false)], 0, .struct⟩),
  (52, ⟨1, 4, false, .flt .f32, [.flt .f32 0], [], 0, .float .f32⟩),
  (54, ⟨3, 24, true, S53, [.int .i64 0, .flt .f32 0, .int .i64 0], [(0, 1, false), (1, 1, false), (2, 1, false)], 0, .struct⟩),
  (97, ⟨14, 120, true, .nil, [.cpx .f64 0 0, .pois, .pois, .pois, .pois, .pois, .pois, .pois, .pois, .pois, .pois, .pois, .pois, .pois], [(0, 1, false), (1, 13, true)], 0, .struct⟩),
  (99, ⟨3, 40, true, S98, [.nil (.int .u8), .int .i64 0, .int .i64 0], [(0, 1, false), (1, 1, false), (2, 1, false)], 0, .struct⟩)]

def eqs : List Nat := []

theorem eqs_ok : AllP (EqOK Try.prog) eqs := eqsB_ok (by kernel_rfl)
theorem tab_ok : tabB Try.prog tab = true := by kernel_rfl
theorem mixed : Try.prog.follows .mixedOrders = true := Try.checked.mixed

def bodyOf (f : Func) : Code := match f.body with
  | some c => c
  | none => .skip

theorem fnIs {f : Nat} {fn : Func} {Γ : Env} (h : Try.prog.funcs[f]? = some fn) (hb : fn.body = some (bodyOf fn)) (hr : fn.results.toList = Γ.res) (hn : fn.ntmps = Γ.nt) (hname : (fn.name == "runtime.NumGoroutine") = false) (hl : LoopsOK Γ (bodyOf fn)) : FnIs Try.prog f Γ (bodyOf fn) :=
  ⟨hl, fn, h, hb, hr, hn, hname⟩

theorem noLoops {Γ : Env} {c : Code} (h : loopsOf c = []) : LoopsOK Γ c := fun c' hc => by rw [h] at hc; cases hc

end Go.Proofs.Ytmmdjajebmihhaa.AM
