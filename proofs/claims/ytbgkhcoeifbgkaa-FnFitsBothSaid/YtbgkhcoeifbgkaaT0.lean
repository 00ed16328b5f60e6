/- The types of the program that this seat proves about, as the abstract machine takes them; its functions' codes. Printed by gen.py. -/
import Derived.Test.YtbgkhcoeifbgkaaC4
import Derived.Test.YtbgkhcoeifbgkaaProg
import Derived.Test.YtbgkhcoeifbgkaaChecked
namespace Go.Proofs.Ytbgkhcoeifbgkaa.AM
open Go Go.Proofs
set_option linter.unusedVariables false

abbrev S23 : Ty := .cons (.str) (.cons (.flt .f32) (.cons (.flt .f32) (.cons (.int .i64) (.cons (.int .i64) (.nil)))))
abbrev S25 : Ty := .cons (.flt .f32) (.cons (.int .i64) (.nil))
abbrev S89 : Ty := .cons (.slice (.int .u8)) (.cons (.int .i64) (.cons (.int .i64) (.nil)))

def tab : List (Nat × TI) := [
  (2, ⟨1, 8, false, .int .i64, [.int .i64 0], [], 0, .int .i64⟩),
  (3, ⟨1, 8, false, .int .i64, [.int .i64 0], [], 0, .int .i64⟩),
  (4, ⟨1, 1, false, .bool, [.bool false], [], 0, .bool⟩),
  (5, ⟨1, 1, false, .int .u8, [.int .u8 0], [], 0, .int .u8⟩),
  (6, ⟨1, 1, false, .int .u8, [.int .u8 0], [], 0, .int .u8⟩),
  (9, ⟨1, 16, false, .str, [.str ByteArray.empty], [], 0, .string⟩),
  (10, ⟨1, 16, false, .str, [.str ByteArray.empty], [], 0, .string⟩),
  (22, ⟨1, 4, false, .flt .f32, [.flt .f32 0], [], 0, .float .f32⟩),
  (24, ⟨5, 40, true, S23, [.str ByteArray.empty, .flt .f32 0, .flt .f32 0, .int .i64 0, .int .i64 0], [(0, 1, false), (1, 1, false), (2, 1, false), (3, 1, false), (4, 1, false)], 0, .struct⟩),
  (26, ⟨2, 16, true, S25, [.flt .f32 0, .int .i64 0], [(0, 1, false), (1, 1, false)], 0, .struct⟩),
  (29, ⟨5, 40, true, S23, [.str ByteArray.empty, .flt .f32 0, .flt .f32 0, .int .i64 0, .int .i64 0], [(0, 1, false), (1, 1, false), (2, 1, false), (3, 1, false), (4, 1, false)], 0, .struct⟩),
  (31, ⟨2, 16, true, S25, [.flt .f32 0, .int .i64 0], [(0, 1, false), (1, 1, false)], 0, .struct⟩),
  (34, ⟨1, 24, false, .slice (.int .i64), [.nil (.int .i64)], [], 3, .slice⟩),
  (39, ⟨1, 24, false, .slice (S23), [.nil (S23)], [], 24, .slice⟩),
  (42, ⟨1, 24, false, .slice (S23), [.nil (S23)], [], 29, .slice⟩),
  (48, ⟨1, 24, false, .slice (.int .u8), [.nil (.int .u8)], [], 5, .slice⟩),
  (54, ⟨1, 24, false, .slice (S25), [.nil (S25)], [], 26, .slice⟩),
  (57, ⟨1, 24, false, .slice (S25), [.nil (S25)], [], 31, .slice⟩),
  (74, ⟨1, 8, false, .int .u64, [.int .u64 0], [], 0, .int .u64⟩),
  (88, ⟨1, 8, false, .flt .f64, [.flt .f64 0], [], 0, .float .f64⟩),
  (90, ⟨3, 40, true, S89, [.nil (.int .u8), .int .i64 0, .int .i64 0], [(0, 1, false), (1, 1, false), (2, 1, false)], 0, .struct⟩),
  (91, ⟨1, 24, false, .slice (.str), [.nil (.str)], [], 9, .slice⟩)]

def eqs : List Nat := []

theorem eqs_ok : AllP (EqOK Try.prog) eqs := eqsB_ok (by kernel_rfl)
theorem tab_ok : tabB Try.prog tab = true := by kernel_rfl
theorem mixed : Try.prog.follows .mixedOrders = true := Try.checked.mixed

def bodyOf (f : Func) : Code := match f.body with
  | some c => c
  | none => .skip

theorem fnIs {f : Nat} {fn : Func} {Γ : Env} (h : Try.prog.funcs[f]? = some fn) (hb : fn.body = some (bodyOf fn)) (hr : fn.results.toList = Γ.res) (hn : fn.ntmps = Γ.nt) (hname : (fn.name == "runtime.NumGoroutine") = false) (hl : LoopsOK Γ (bodyOf fn)) : FnIs Try.prog f Γ (bodyOf fn) :=
  ⟨hl, fn, h, hb, hr, hn, hname⟩

theorem noLoops {Γ : Env} {c : Code} (h : loopsOf c = []) : LoopsOK Γ c := fun c' hc => by rw [h] at hc; cases hc

end Go.Proofs.Ytbgkhcoeifbgkaa.AM
