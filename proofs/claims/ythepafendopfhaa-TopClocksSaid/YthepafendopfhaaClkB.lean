/- clock.Before. Printed by gen/clk.py. -/
import Derived.Test.YthepafendopfhaaClkA
namespace Go.Proofs.Ythepafendopfhaa
open Go.RowKit
set_option linter.unusedVariables false
set_option maxRecDepth 100000

set_option maxHeartbeats 1000000 in
theorem before_any (a b l : Int) (w : World) (h1 : 0 ≤ l) (h2 : l ≤ 1000) :
    Calls Try.prog 5 #[.int .u32 a, .int .u32 b, .int .i64 l] w fun e w' => e = .returned (.tuple #[.bool (decide (l < diffP b a)), .int .i64 0]) ∧ w = w' := by
  have d1 : decide (l < 0) = false := decide_eq_false (by omega)
  have d2 : decide (1048576 < l) = false := decide_eq_false (by omega)
  go_enter Try.func5, Try.ntmps5
  go_wp2_with (go_at_call 10; refine (diff_any _ _ _).mono ?_; rintro e w' ⟨rfl, rfl⟩)
  exact bodyPost_ret (v := .tuple #[.bool (decide (l < diffP b a)), .int .i64 0]) (by simp [results, Try.results5, go_sem]) rfl ⟨rfl, rfl⟩
end Go.Proofs.Ythepafendopfhaa
