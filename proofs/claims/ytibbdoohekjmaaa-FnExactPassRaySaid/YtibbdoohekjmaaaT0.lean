/- The types of the program that this seat proves about, as the abstract machine takes them; its functions' codes. Printed by gen.py. -/
import Derived.Test.YtibbdoohekjmaaaC2
import Derived.Test.YtibbdoohekjmaaaProg
import Derived.Test.YtibbdoohekjmaaaChecked
namespace Go.Proofs.Ytibbdoohekjmaaa.AM
open Go Go.Proofs
set_option linter.unusedVariables false

def tab : List (Nat × TI) := [
  (2, ⟨1, 8, false, .int .i64, [.int .i64 0], [], 0, .int .i64⟩),
  (3, ⟨1, 8, false, .int .i64, [.int .i64 0], [], 0, .int .i64⟩),
  (4, ⟨1, 1, false, .bool, [.bool false], [], 0, .bool⟩),
  (5, ⟨1, 1, false, .int .u8, [.int .u8 0], [], 0, .int .u8⟩),
  (10, ⟨1, 16, false, .str, [.str ByteArray.empty], [], 0, .string⟩),
  (23, ⟨2, 16, true, .cons (.int .i64) (.cons (.int .i64) (.nil)), [.int .i64 0, .int .i64 0], [(0, 1, false), (1, 1, false)], 0, .struct⟩),
  (25, ⟨2, 16, true, .cons (.int .i64) (.cons (.int .i64) (.nil)), [.int .i64 0, .int .i64 0], [(0, 1, false), (1, 1, false)], 0, .struct⟩),
  (28, ⟨1, 24, false, .slice (.int .u8), [.nil (.int .u8)], [], 5, .slice⟩),
  (36, ⟨4, 32, true, .cons (.cons (.int .i64) (.cons (.int .i64) (.nil))) (.cons (.cons (.int .i64) (.cons (.int .i64) (.nil))) (.nil)), [.int .i64 0, .int .i64 0, .int .i64 0, .int .i64 0], [(0, 2, true), (2, 2, true)], 0, .struct⟩),
  (37, ⟨1, 24, false, .slice (.cons (.cons (.int .i64) (.cons (.int .i64) (.nil))) (.cons (.bool) (.nil))), [.nil (.cons (.cons (.int .i64) (.cons (.int .i64) (.nil))) (.cons (.bool) (.nil)))], [], 115, .slice⟩),
  (39, ⟨9, 88, true, .cons (.cons (.cons (.int .i64) (.cons (.int .i64) (.nil))) (.cons (.cons (.int .i64) (.cons (.int .i64) (.nil))) (.nil))) (.cons (.slice (.cons (.cons (.int .i64) (.cons (.int .i64) (.nil))) (.cons (.bool) (.nil)))) (.cons (.cons (.cons (.int .i64) (.cons (.int .i64) (.nil))) (.cons (.cons (.int .i64) (.cons (.int .i64) (.nil))) (.nil))) (.nil))), [.int .i64 0, .int .i64 0, .int .i64 0, .int .i64 0, .nil (.cons (.cons (.int .i64) (.cons (.int .i64) (.nil))) (.cons (.bool) (.nil))), .int .i64 0, .int .i64 0, .int .i64 0, .int .i64 0], [(0, 4, true), (4, 1, false), (5, 4, true)], 0, .struct⟩),
  (43, ⟨4, 32, true, .cons (.cons (.int .i64) (.cons (.int .i64) (.nil))) (.cons (.cons (.int .i64) (.cons (.int .i64) (.nil))) (.nil)), [.int .i64 0, .int .i64 0, .int .i64 0, .int .i64 0], [(0, 2, true), (2, 2, true)], 0, .struct⟩),
  (44, ⟨1, 24, false, .slice (.cons (.cons (.int .i64) (.cons (.int .i64) (.nil))) (.cons (.bool) (.nil))), [.nil (.cons (.cons (.int .i64) (.cons (.int .i64) (.nil))) (.cons (.bool) (.nil)))], [], 83, .slice⟩),
  (46, ⟨9, 88, true, .cons (.cons (.cons (.int .i64) (.cons (.int .i64) (.nil))) (.cons (.cons (.int .i64) (.cons (.int .i64) (.nil))) (.nil))) (.cons (.slice (.cons (.cons (.int .i64) (.cons (.int .i64) (.nil))) (.cons (.bool) (.nil)))) (.cons (.cons (.cons (.int .i64) (.cons (.int .i64) (.nil))) (.cons (.cons (.int .i64) (.cons (.int .i64) (.nil))) (.nil))) (.nil))), [.int .i64 0, .int .i64 0, .int .i64 0, .int .i64 0, .nil (.cons (.cons (.int .i64) (.cons (.int .i64) (.nil))) (.cons (.bool) (.nil))), .int .i64 0, .int .i64 0, .int .i64 0, .int .i64 0], [(0, 4, true), (4, 1, false), (5, 4, true)], 0, .struct⟩),
  (50, ⟨1, 24, false, .slice (.cons (.cons (.int .i64) (.cons (.int .i64) (.nil))) (.cons (.int .i64) (.nil))), [.nil (.cons (.cons (.int .i64) (.cons (.int .i64) (.nil))) (.cons (.int .i64) (.nil)))], [], 96, .slice⟩),
  (60, ⟨1, 24, false, .slice (.int .i64), [.nil (.int .i64)], [], 3, .slice⟩),
  (62, ⟨1, 24, false, .slice (.cons (.cons (.int .i64) (.cons (.int .i64) (.nil))) (.cons (.int .i64) (.nil))), [.nil (.cons (.cons (.int .i64) (.cons (.int .i64) (.nil))) (.cons (.int .i64) (.nil)))], [], 105, .slice⟩),
  (83, ⟨3, 24, true, .cons (.cons (.int .i64) (.cons (.int .i64) (.nil))) (.cons (.bool) (.nil)), [.int .i64 0, .int .i64 0, .bool false], [(0, 2, true), (2, 1, false)], 0, .struct⟩),
  (96, ⟨3, 24, true, .cons (.cons (.int .i64) (.cons (.int .i64) (.nil))) (.cons (.int .i64) (.nil)), [.int .i64 0, .int .i64 0, .int .i64 0], [(0, 2, true), (2, 1, false)], 0, .struct⟩),
  (105, ⟨3, 24, true, .cons (.cons (.int .i64) (.cons (.int .i64) (.nil))) (.cons (.int .i64) (.nil)), [.int .i64 0, .int .i64 0, .int .i64 0], [(0, 2, true), (2, 1, false)], 0, .struct⟩),
  (111, ⟨3, 40, true, .cons (.slice (.int .u8)) (.cons (.int .i64) (.cons (.int .i64) (.nil))), [.nil (.int .u8), .int .i64 0, .int .i64 0], [(0, 1, false), (1, 1, false), (2, 1, false)], 0, .struct⟩),
  (115, ⟨3, 24, true, .cons (.cons (.int .i64) (.cons (.int .i64) (.nil))) (.cons (.bool) (.nil)), [.int .i64 0, .int .i64 0, .bool false], [(0, 2, true), (2, 1, false)], 0, .struct⟩)]

def eqs : List Nat := [25]

theorem eqs_ok : AllP (EqOK Try.prog) eqs := eqsB_ok (by kernel_rfl)
theorem tab_ok : tabB Try.prog tab = true := by kernel_rfl
theorem mixed : Try.prog.follows .mixedOrders = true := Try.checked.mixed

def bodyOf (f : Func) : Code := match f.body with
  | some c => c
  | none => .skip

theorem fnIs {f : Nat} {fn : Func} {Γ : Env} (h : Try.prog.funcs[f]? = some fn) (hb : fn.body = some (bodyOf fn)) (hr : fn.results.toList = Γ.res) (hn : fn.ntmps = Γ.nt) (hname : (fn.name == "runtime.NumGoroutine") = false) : FnIs Try.prog f Γ (bodyOf fn) :=
  ⟨fn, h, hb, hr, hn, hname⟩

end Go.Proofs.Ytibbdoohekjmaaa.AM
