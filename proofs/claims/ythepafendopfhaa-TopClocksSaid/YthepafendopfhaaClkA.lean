/- clock.Diff, After. Printed by gen/clk.py. -/
import Derived.Test.YthepafendopfhaaProg
import Derived.Test.YthepafendopfhaaLib
namespace Go.Proofs.Ythepafendopfhaa
open Go.RowKit
set_option linter.unusedVariables false
set_option maxRecDepth 100000

def diffP (a b : Int) : Int := wrap64 (wrap32 ((a - b) % 4294967296))
def afterP (a n : Int) : Int := (a + n % 4294967296) % 4294967296
/-- The difference of two readings that are near each other. -/
theorem diffP_of {x y : Int} (h1 : -2147483648 ≤ x - y) (h2 : x - y < 2147483648) : diffP (x % 4294967296) (y % 4294967296) = x - y := by unfold diffP wrap64 wrap32; omega
set_option maxHeartbeats 1000000 in
theorem diff_any (a b : Int) (w : World)  :
    Calls Try.prog 10 #[.int .u32 a, .int .u32 b] w fun e w' => e = .returned (.int .i64 (diffP a b)) ∧ w = w' := by
  go_enter Try.func10, Try.ntmps10
  go_wp2
  go_ret
  exact ⟨rfl, rfl⟩
set_option maxHeartbeats 1000000 in
theorem after_any (a n : Int) (w : World)  :
    Calls Try.prog 21 #[.int .u32 a, .int .i64 n] w fun e w' => e = .returned (.int .u32 (afterP a n)) ∧ w = w' := by
  go_enter Try.func21, Try.ntmps21
  go_wp2
  go_ret
  exact ⟨rfl, rfl⟩
end Go.Proofs.Ythepafendopfhaa
