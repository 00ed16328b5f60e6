/- The types of the program that this seat proves about, as the abstract machine takes them; its functions' codes. Printed by gen.py. -/
import Derived.Test.YtibbdoohekjmaaaC4
import Derived.Test.YtibbdoohekjmaaaProg
import Derived.Test.YtibbdoohekjmaaaChecked
namespace Go.Proofs.Ytibbdoohekjmaaa.AM
open Go Go.Proofs
set_option linter.unusedVariables false

abbrev S22 : Ty := .cons (.int .i64) (.cons (.int .i64) (.nil))
abbrev S35 : Ty := .cons (S22) (.cons (S22) (.nil))
abbrev S114 : Ty := .cons (S22) (.cons (.bool) (.nil))
abbrev S38 : Ty := .cons (S35) (.cons (.slice (S114)) (.cons (S35) (.nil)))
abbrev S42 : Ty := .cons (S22) (.cons (S22) (.nil))
abbrev S82 : Ty := .cons (S22) (.cons (.bool) (.nil))
abbrev S45 : Ty := .cons (S42) (.cons (.slice (S82)) (.cons (S42) (.nil)))
abbrev S95 : Ty := .cons (S22) (.cons (.int .i64) (.nil))
abbrev S104 : Ty := .cons (S22) (.cons (.int .i64) (.nil))
abbrev S110 : Ty := .cons (.slice (.int .u8)) (.cons (.int .i64) (.cons (.int .i64) (.nil)))

def tab : List (Nat × TI) := [
  (2, ⟨1, 8, false, .int .i64, [.int .i64 0], [], 0, .int .i64⟩),
  (3, ⟨1, 8, false, .int .i64, [.int .i64 0], [], 0, .int .i64⟩),
  (4, ⟨1, 1, false, .bool, [.bool false], [], 0, .bool⟩),
  (5, ⟨1, 1, false, .int .u8, [.int .u8 0], [], 0, .int .u8⟩),
  (10, ⟨1, 16, false, .str, [.str ByteArray.empty], [], 0, .string⟩),
  (23, ⟨2, 16, true, S22, [.int .i64 0, .int .i64 0], [(0, 1, false), (1, 1, false)], 0, .struct⟩),
  (25, ⟨2, 16, true, S22, [.int .i64 0, .int .i64 0], [(0, 1, false), (1, 1, false)], 0, .struct⟩),
  (28, ⟨1, 24, false, .slice (.int .u8), [.nil (.int .u8)], [], 5, .slice⟩),
  (36, ⟨4, 32, true, S35, [.int .i64 0, .int .i64 0, .int .i64 0, .int .i64 0], [(0, 2, true), (2, 2, true)], 0, .struct⟩),
  (37, ⟨1, 24, false, .slice (S114), [.nil (S114)], [], 115, .slice⟩),
  (39, ⟨9, 88, true, S38, [.int .i64 0, .int .i64 0, .int .i64 0, .int .i64 0, .nil (S114), .int .i64 0, .int .i64 0, .int .i64 0, .int .i64 0], [(0, 4, true), (4, 1, false), (5, 4, true)], 0, .struct⟩),
  (43, ⟨4, 32, true, S42, [.int .i64 0, .int .i64 0, .int .i64 0, .int .i64 0], [(0, 2, true), (2, 2, true)], 0, .struct⟩),
  (44, ⟨1, 24, false, .slice (S82), [.nil (S82)], [], 83, .slice⟩),
  (46, ⟨9, 88, true, S45, [.int .i64 0, .int .i64 0, .int .i64 0, .int .i64 0, .nil (S82), .int .i64 0, .int .i64 0, .int .i64 0, .int .i64 0], [(0, 4, true), (4, 1, false), (5, 4, true)], 0, .struct⟩),
  (50, ⟨1, 24, false, .slice (S95), [.nil (S95)], [], 96, .slice⟩),
  (60, ⟨1, 24, false, .slice (.int .i64), [.nil (.int .i64)], [], 3, .slice⟩),
  (62, ⟨1, 24, false, .slice (S104), [.nil (S104)], [], 105, .slice⟩),
  (83, ⟨3, 24, true, S82, [.int .i64 0, .int .i64 0, .bool false], [(0, 2, true), (2, 1, false)], 0, .struct⟩),
  (96, ⟨3, 24, true, S95, [.int .i64 0, .int .i64 0, .int .i64 0], [(0, 2, true), (2, 1, false)], 0, .struct⟩),
  (105, ⟨3, 24, true, S104, [.int .i64 0, .int .i64 0, .int .i64 0], [(0, 2, true), (2, 1, false)], 0, .struct⟩),
  (111, ⟨3, 40, true, S110, [.nil (.int .u8), .int .i64 0, .int .i64 0], [(0, 1, false), (1, 1, false), (2, 1, false)], 0, .struct⟩),
  (115, ⟨3, 24, true, S114, [.int .i64 0, .int .i64 0, .bool false], [(0, 2, true), (2, 1, false)], 0, .struct⟩)]

def eqs : List Nat := [25]

theorem eqs_ok : AllP (EqOK Try.prog) eqs := eqsB_ok (by kernel_rfl)
theorem tab_ok : tabB Try.prog tab = true := by kernel_rfl
theorem mixed : Try.prog.follows .mixedOrders = true := Try.checked.mixed

def bodyOf (f : Func) : Code := match f.body with
  | some c => c
  | none => .skip

theorem fnIs {f : Nat} {fn : Func} {Γ : Env} (h : Try.prog.funcs[f]? = some fn) (hb : fn.body = some (bodyOf fn)) (hr : fn.results.toList = Γ.res) (hn : fn.ntmps = Γ.nt) (hname : (fn.name == "runtime.NumGoroutine") = false) (hl : LoopsOK Γ (bodyOf fn)) : FnIs Try.prog f Γ (bodyOf fn) :=
  ⟨hl, fn, h, hb, hr, hn, hname⟩

theorem noLoops {Γ : Env} {c : Code} (h : loopsOf c = []) : LoopsOK Γ c := fun c' hc => by rw [h] at hc; cases hc

end Go.Proofs.Ytibbdoohekjmaaa.AM
