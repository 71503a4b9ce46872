import Derived.Test.Qxb6500371aChecked
import Derived.Test.Qxb6500371aEvI
import Derived.KernelRfl
namespace Go.Proofs.Qxb6500371a
open Go.Rel

theorem names_all : (Try.prog.funcs.toList.all fun fn => !(fn.name == "runtime.NumGoroutine")) = true := by kernel_rfl

theorem noCount (f : Nat) (fn : Func) (h : Try.prog.funcs[f]? = some fn) : fn.name ≠ "runtime.NumGoroutine" := by
  have hm : fn ∈ Try.prog.funcs.toList := by
    have := Array.mem_of_getElem? h
    simpa using this
  have := List.all_eq_true.1 names_all fn hm
  simpa using this

theorem mixed : Try.prog.follows .mixedOrders = true := by kernel_rfl

theorem closed {f fuel n : Nat} (h : okR (funR Try.prog fuel n f [] []) = true) (w : World) :
    Calls Try.prog f #[] w fun e w' => e = .returned (.bool true) ∧ Go.RowKit.Grown w w' := closed_true noCount mixed h w
end Go.Proofs.Qxb6500371a
