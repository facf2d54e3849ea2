/- msg.Check and msg.Copy at a beat without cells, net.New(nil). Printed by gen/clk.py. -/
import Derived.Test.YthepafendopfhaaClkN
namespace Go.Proofs.Ythepafendopfhaa
open Go.RowKit
set_option linter.unusedVariables false
set_option maxRecDepth 100000

theorem kCls : ∃ d, Try.prog.underlying 37 = some d ∧ d.isRow = false := ⟨_, Try.underlying37, rfl⟩
theorem sCls : (Try.prog.info? 37).map (·.size) = some 1 := by kernel_rfl
theorem rMsg : RowT Try.prog 39 6 := ⟨⟨_, Try.underlying39, rfl⟩, by kernel_rfl⟩
theorem zMsg : (Try.prog.info? 39).bind (·.zero) = some (.agg #[.int .i64 0, .int .i64 0, .int .i64 0, .int .i64 0, .int .u32 0, .slice none 0 0]) := by kernel_rfl
theorem rNet : RowT Try.prog 59 3 := ⟨⟨_, Try.underlying59, rfl⟩, by kernel_rfl⟩
set_option maxHeartbeats 4000000 in
theorem check_beat (i s c : Int) (w : World) (h1 : 0 ≤ i) (h2 : i ≤ 3) (h3 : 0 ≤ s) (h4 : s ≤ 2000) :
    Calls Try.prog 22 #[.agg #[.int .i64 3, .int .i64 i, .int .i64 4, .int .i64 s, .int .u32 c, .slice none 0 0]] w fun e w' => e = .returned (.int .i64 0) ∧ Below w.heap.size w w' := by
  have H := Lib.hid (Hp.start (w := w) trivial)
  have m1 : min i 4 = i := by omega
  have m2 : max i 4 = 4 := by omega
  have d1 : decide (i < 0) = false := decide_eq_false (by omega)
  have d2 : decide (s < 0) = false := decide_eq_false (by omega)
  have d3 : decide (2147483647 < s) = false := decide_eq_false (by omega)
  have d4 : decide (i = 4) = false := decide_eq_false (by omega)
  go_enter Try.func22, Try.ntmps22
  go_wp2_with (first
      | go_skip
      | ((with_reducible refine isLoad ?_); refine ld1A H ?_ (hT := by first | exact kInt | exact kCls | exact kU32))
      | ((with_reducible refine isBox ?_); refine bxA H ?_; clear H; intro _ _ H))
  go_at_call 34; refine (gridCheck_nil _).mono ?_; rintro e w' ⟨rfl, rfl⟩
  go_wp2_with (first
      | go_skip
      | ((with_reducible refine isLoad ?_); refine ld1A H ?_ (hT := by first | exact kInt | exact kCls | exact kU32))
      | ((with_reducible refine isBox ?_); refine bxA H ?_; clear H; intro _ _ H))
  go_ret
  exact ⟨rfl, H.out.bel⟩
set_option maxHeartbeats 4000000 in
theorem copy_beat (i s c : Int) (w : World) :
    Calls Try.prog 23 #[.agg #[.int .i64 3, .int .i64 i, .int .i64 4, .int .i64 s, .int .u32 c, .slice none 0 0]] w fun e w' => e = .returned (.agg #[.int .i64 3, .int .i64 i, .int .i64 4, .int .i64 s, .int .u32 c, .slice none 0 0]) ∧ Below w.heap.size w w' := by
  have H := Lib.hid (Hp.start (w := w) trivial)
  go_enter Try.func23, Try.ntmps23
  go_wp2_with (first
      | go_skip
      | ((with_reducible refine isLoad ?_); refine ld1A H ?_ (hT := by first | exact kInt | exact kCls | exact kU32))
      | ((with_reducible refine isLoad ?_); refine ldA H ?_ (hT := rMsg))
      | ((with_reducible refine isStore ?_); refine stA H ?_ (hT := rMsg); clear H; intro _ H)
      | ((with_reducible refine isStore ?_); refine st1A H ?_ (hT := sCls); clear H; intro _ H)
      | ((with_reducible refine isBox ?_); refine bxA H ?_; clear H; intro _ _ H)
      | ((with_reducible refine isAlloc ?_); refine alA H ?_ (hz := zMsg); clear H; intro _ _ H))
  go_at_call 35; refine (cloneC_nil _).mono ?_; rintro e w' ⟨rfl, rfl⟩
  go_wp2_with (first
      | go_skip
      | ((with_reducible refine isLoad ?_); refine ld1A H ?_ (hT := by first | exact kInt | exact kCls | exact kU32))
      | ((with_reducible refine isLoad ?_); refine ldA H ?_ (hT := rMsg))
      | ((with_reducible refine isStore ?_); refine stA H ?_ (hT := rMsg); clear H; intro _ H)
      | ((with_reducible refine isStore ?_); refine st1A H ?_ (hT := sCls); clear H; intro _ H)
      | ((with_reducible refine isBox ?_); refine bxA H ?_; clear H; intro _ _ H)
      | ((with_reducible refine isAlloc ?_); refine alA H ?_ (hz := zMsg); clear H; intro _ _ H))
  exact bodyPost_ret (results_H H Try.results23 rMsg rfl (by (repeat (first | exact List.Mem.head _ | refine List.Mem.tail _ ?_ | assumption))) (by rfl)) rfl ⟨rfl, H.out.bel⟩
set_option maxHeartbeats 4000000 in
theorem new_nil (w : World) :
    Calls Try.prog 7 #[.slice none 0 0] w fun e w' => ∃ b, e = .returned (.pointer (some ⟨b, 0, none⟩)) ∧ Hp w w' [(b, 59, [.slice none 0 0, .int .i64 0, .slice none 0 0])] := by
  have H := Lib.hid (Hp.start (w := w) trivial)
  go_enter Try.func7, Try.ntmps7
  go_wp2_with (first
      | go_skip
      | ((with_reducible refine isBox ?_); refine bxA H ?_; clear H; intro _ _ H))
  go_at_call 18; refine (cloneF_nil _).mono ?_; rintro e w' ⟨rfl, rfl⟩
  go_wp2_with (first
      | go_skip
      | ((with_reducible refine isBox ?_); refine bxA H ?_; clear H; intro _ _ H))
  go_ret
  exact ⟨_, rfl, H.out⟩
end Go.Proofs.Ythepafendopfhaa
