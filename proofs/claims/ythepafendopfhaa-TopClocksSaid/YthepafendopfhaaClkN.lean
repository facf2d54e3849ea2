/- slices.Clone of nil, grid.Check of nil, sorting one element. Printed by gen/clk.py. -/
import Derived.Test.YthepafendopfhaaClkS
import Derived.Lib.SliceRun
namespace Go.Proofs.Ythepafendopfhaa
open Go.RowKit
set_option linter.unusedVariables false
set_option maxRecDepth 100000

set_option maxHeartbeats 1000000 in
theorem cloneF_nil  (w : World)  :
    Calls Try.prog 18 #[.slice none 0 0] w fun e w' => e = .returned (.slice none 0 0) ∧ w = w' := by
  have he := Lib.run_eql_slice_nil (P := Try.prog) w 22 _ none 0 0 0 0 Try.underlying22
  go_enter Try.func18, Try.ntmps18
  go_wp2
  go_ret
  exact ⟨rfl, rfl⟩
set_option maxHeartbeats 1000000 in
theorem cloneC_nil  (w : World)  :
    Calls Try.prog 35 #[.slice none 0 0] w fun e w' => e = .returned (.slice none 0 0) ∧ w = w' := by
  have he := Lib.run_eql_slice_nil (P := Try.prog) w 37 _ none 0 0 0 0 Try.underlying37
  go_enter Try.func35, Try.ntmps35
  go_wp2
  go_ret
  exact ⟨rfl, rfl⟩
set_option maxHeartbeats 1000000 in
theorem gridCheck_nil  (w : World)  :
    Calls Try.prog 34 #[.slice none 0 0] w fun e w' => e = .returned (.int .i64 0) ∧ w = w' := by
  go_enter Try.func34, Try.ntmps34
  go_wp2
  go_loopw [10] (fun i_ wr => i_ = .int .i64 0 ∧ wr = w) (fun _ _ => 0)
  case atStart => exact ⟨rfl, rfl⟩
  case round =>
    obtain ⟨rfl, rfl⟩ := hrel
    go_wp2
    go_ret
    exact ⟨rfl, rfl⟩
set_option maxHeartbeats 1000000 in
theorem insertion_one (B : Option Addr) (k c : Nat) (n : Int) (fn : Value) (w : World) (h : n ≤ 1) (h0 : 0 ≤ n) :
    Calls Try.prog 41 #[.slice B k c, .int .i64 0, .int .i64 n, fn] w fun e w' => e = .returned (.tuple #[]) ∧ w = w' := by
  have d1 : decide (1 < n) = false := decide_eq_false (by omega)
  go_enter Try.func41, Try.ntmps41
  go_wp2
  go_loopw [8] (fun i_ wr => i_ = .int .i64 1 ∧ wr = w) (fun _ _ => 0)
  case atStart => exact ⟨rfl, rfl⟩
  case round =>
    obtain ⟨rfl, rfl⟩ := hrel
    go_wp2
    go_end0
    exact ⟨rfl, rfl⟩
set_option maxHeartbeats 1000000 in
theorem stable_one (B : Option Addr) (k c : Nat) (n : Int) (fn : Value) (w : World) (h : n ≤ 1) (h0 : 0 ≤ n) :
    Calls Try.prog 33 #[.slice B k c, .int .i64 n, fn] w fun e w' => e = .returned (.tuple #[]) ∧ w = w' := by
  have d1 : decide (20 ≤ n) = false := decide_eq_false (by omega)
  have d2 : decide (20 < n) = false := decide_eq_false (by omega)
  go_enter Try.func33, Try.ntmps33
  go_wp2
  go_loopw [7, 8] (fun a_ b_ wr => a_ = .int .i64 0 ∧ b_ = .int .i64 20 ∧ wr = w) (fun _ _ _ => 0)
  case atStart => exact ⟨rfl, rfl, rfl⟩
  case round =>
    obtain ⟨rfl, rfl, rfl⟩ := hrel
    go_wp2_with (go_at_call 41; refine (insertion_one _ _ _ _ _ _ h h0).mono ?_; rintro e w' ⟨rfl, rfl⟩)
    go_loopw [6, 7, 8, 9] (fun n_ _ _ _ wr2 => n_ = .int .i64 20 ∧ wr2 = wr) (fun _ _ _ _ _ => 0)
    case atStart => exact ⟨rfl, rfl⟩
    case round =>
      obtain ⟨rfl, rfl⟩ := hrel
      go_wp2
      go_end0
      exact ⟨rfl, rfl⟩
set_option maxHeartbeats 1000000 in
theorem sortStable_one (B : Option Addr) (k c : Nat) (fn : Value) (w : World) (h : k ≤ 1) :
    Calls Try.prog 19 #[.slice B k c, fn] w fun e w' => e = .returned (.tuple #[]) ∧ w = w' := by
  go_enter Try.func19, Try.ntmps19
  go_wp2_with (go_at_call 33; refine (stable_one _ _ _ _ _ _ (by omega) (by omega)).mono ?_; rintro e w' ⟨rfl, rfl⟩)
  go_end0
  exact ⟨rfl, rfl⟩
end Go.Proofs.Ythepafendopfhaa
