import Derived.Test.Qxb6500374aChecked
import Derived.Test.Qxb6500374aEvI
import Derived.KernelRfl
namespace Go.Proofs.Qxb6500374a
open Go.Rel Go.RowKit

theorem names_all : (Try.prog.funcs.toList.all fun fn => !(fn.name == "runtime.NumGoroutine")) = true := by kernel_rfl

theorem noCount (f : Nat) (fn : Func) (h : Try.prog.funcs[f]? = some fn) : fn.name ≠ "runtime.NumGoroutine" := by
  have hm : fn ∈ Try.prog.funcs.toList := by
    have := Array.mem_of_getElem? h
    simpa using this
  have := List.all_eq_true.1 names_all fn hm
  simpa using this

theorem mixed : Try.prog.follows .mixedOrders = true := by kernel_rfl

theorem closed {f fuel n : Nat} (h : trueR (funR Try.prog fuel n f [.chan none] [] 0) = true) (ap : Option Addr) (al ac : Nat) (w : World) :
    Calls Try.prog f #[.slice ap al ac] w fun e w' => e = .returned (.bool true) ∧ Below w.heap.size w w' := closed_below noCount mixed h ap al ac w
end Go.Proofs.Qxb6500374a
