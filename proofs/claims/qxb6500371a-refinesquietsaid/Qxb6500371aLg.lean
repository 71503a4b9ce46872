import Derived.Test.Qxb6500371aTell
import Derived.Test.Qxb6500371aMeth
set_option linter.unusedVariables false
set_option linter.unusedSimpArgs false
namespace Go.Proofs.Qxb6500371a.W
open Go.RowKit Go.Maps

set_option maxRecDepth 4000 in
theorem tlen_calls (p d : Int) (w : World) :
    Calls Try.prog 63 #[.agg #[.int .i64 p, .int .i64 d]] w fun e w' => e = .returned (.int .i64 (wrap64 (p + d))) ∧ Chg [] w w' := by
  go_enter Try.func63, Try.ntmps63
  go_wp2
  go_ret
  exact ⟨rfl, (Chg.refl _ _).alloc _⟩

set_option maxRecDepth 4000 in
theorem bump_calls (p d : Int) (w : World) :
    Calls Try.prog 120 #[.agg #[.int .i64 p, .int .i64 d]] w fun e w' => e = .returned (.agg #[.int .i64 (wrap64 (p + 1)), .int .i64 d]) ∧ Chg [] w w' := by
  go_enter Try.func120, Try.ntmps120
  go_wp2
  refine bodyPost_ret (results_cell_row rfl _ _ (w.heap.size + 1) 72 _ (0, 0) _ rfl (heap_alloc2_new w _ _) Try.underlying72 rfl (by kernel_rfl)) rfl ?_
  exact ⟨rfl, ((Chg.refl _ _).alloc _).alloc _⟩
end Go.Proofs.Qxb6500371a.W
