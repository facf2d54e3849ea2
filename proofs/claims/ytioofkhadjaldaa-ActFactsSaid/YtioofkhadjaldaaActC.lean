/- Steps; the walks of act.Form and target. -/
import Derived.Test.YtioofkhadjaldaaActB
namespace Go.Proofs.Ytioofkhadjaldaa
open Go.RowKit
set_option linter.unusedVariables false
set_option maxRecDepth 100000

structure St where
  kind : Int
  arm : Int
  part : Int
  slot : Int
  ticks : Int
  deriving DecidableEq
def St.cells (s : St) : List Value := [.int .i64 s.kind, .int .i64 s.arm, .int .i64 s.part, .int .i64 s.slot, .int .i64 s.ticks]
theorem St.len (s : St) : s.cells.length = 5 := rfl
theorem St.one (s : St) : ∀ v ∈ s.cells, v.oneCell' = true := by
  intro v hv
  simp [St.cells] at hv
  rcases hv with rfl | rfl | rfl | rfl | rfl <;> rfl
def formP (s : St) : Prop :=
  -1 ≤ s.part ∧ -1 ≤ s.slot ∧ 0 ≤ s.arm ∧
  (s.kind = 0 ∧ ((0 ≤ s.part ∧ s.slot < 0) ∨ (s.part < 0 ∧ 0 ≤ s.slot)) ∧ s.ticks = 0 ∨ (s.kind = 1 ∨ s.kind = 3) ∧ 0 ≤ s.part ∧ s.slot < 0 ∧ s.ticks = 0 ∨
    s.kind = 2 ∧ 0 ≤ s.slot ∧ s.part < 0 ∧ s.ticks = 0 ∨ s.kind = 4 ∧ s.part < 0 ∧ s.slot < 0 ∧ 1 ≤ s.ticks ∧ s.ticks ≤ 2000)
instance (s : St) : Decidable (formP s) := by unfold formP; infer_instance

set_option maxHeartbeats 16000000 in
theorem Form_any (s : St) (w : World) (r : Bool) (hr : Hid (r = decide (formP s))) :
    Calls Try.prog 45 #[.agg #[.int .i64 s.kind, .int .i64 s.arm, .int .i64 s.part, .int .i64 s.slot, .int .i64 s.ticks]] w fun e w' => e = .returned (.bool r) ∧ Below w.heap.size w w' := by
  obtain ⟨kind, arm, part, slot, ticks⟩ := s
  have B0 := Lib.hid ((Below.refl w.heap.size w).alloc (Nat.le_refl _) (.cells #[.int .i64 kind, .int .i64 arm, .int .i64 part, .int .i64 slot, .int .i64 ticks] 39))
  by_cases ht : ticks = 0
  · subst ht
    by_cases hp : 0 ≤ part
    · by_cases hs : 0 ≤ slot
      · have dp : decide (0 ≤ part) = true := decide_eq_true hp
        have ds : decide (0 ≤ slot) = true := decide_eq_true hs
        go_enter Try.func45, Try.ntmps45
        go_wp2
        go_quiet (fail)
        go_wp2
        all_goals
          go_ret
          refine ⟨ret_bool ?_, below_drewN B0.out _⟩
          rw [hr.out, Bool.eq_iff_iff, decide_eq_true_iff]
          (try rw [decide_eq_true_iff])
          clear hr B0
          (try simp only [beq_iff_eq, beq_eq_false_iff_ne, ne_eq] at *)
          (try simp only [Bool.false_eq_true])
          unfold formP
          dsimp only
          constructor <;> intro hh <;> first | exact hh.elim | omega | trivial
      · have dp : decide (0 ≤ part) = true := decide_eq_true hp
        have ds : decide (0 ≤ slot) = false := decide_eq_false hs
        go_enter Try.func45, Try.ntmps45
        go_wp2
        go_quiet (fail)
        go_wp2
        all_goals
          go_ret
          refine ⟨ret_bool ?_, below_drewN B0.out _⟩
          rw [hr.out, Bool.eq_iff_iff, decide_eq_true_iff]
          (try rw [decide_eq_true_iff])
          clear hr B0
          (try simp only [beq_iff_eq, beq_eq_false_iff_ne, ne_eq] at *)
          (try simp only [Bool.false_eq_true])
          unfold formP
          dsimp only
          constructor <;> intro hh <;> first | exact hh.elim | omega | trivial
    · by_cases hs : 0 ≤ slot
      · have dp : decide (0 ≤ part) = false := decide_eq_false hp
        have ds : decide (0 ≤ slot) = true := decide_eq_true hs
        go_enter Try.func45, Try.ntmps45
        go_wp2
        go_quiet (fail)
        go_wp2
        all_goals
          go_ret
          refine ⟨ret_bool ?_, below_drewN B0.out _⟩
          rw [hr.out, Bool.eq_iff_iff, decide_eq_true_iff]
          (try rw [decide_eq_true_iff])
          clear hr B0
          (try simp only [beq_iff_eq, beq_eq_false_iff_ne, ne_eq] at *)
          (try simp only [Bool.false_eq_true])
          unfold formP
          dsimp only
          constructor <;> intro hh <;> first | exact hh.elim | omega | trivial
      · have dp : decide (0 ≤ part) = false := decide_eq_false hp
        have ds : decide (0 ≤ slot) = false := decide_eq_false hs
        go_enter Try.func45, Try.ntmps45
        go_wp2
        go_quiet (fail)
        go_wp2
        all_goals
          go_ret
          refine ⟨ret_bool ?_, below_drewN B0.out _⟩
          rw [hr.out, Bool.eq_iff_iff, decide_eq_true_iff]
          (try rw [decide_eq_true_iff])
          clear hr B0
          (try simp only [beq_iff_eq, beq_eq_false_iff_ne, ne_eq] at *)
          (try simp only [Bool.false_eq_true])
          unfold formP
          dsimp only
          constructor <;> intro hh <;> first | exact hh.elim | omega | trivial
  · have dt : (ticks != 0) = true := by simpa using ht
    by_cases hp : 0 ≤ part
    · by_cases hs : 0 ≤ slot
      · have dp : decide (0 ≤ part) = true := decide_eq_true hp
        have ds : decide (0 ≤ slot) = true := decide_eq_true hs
        go_enter Try.func45, Try.ntmps45
        go_wp2
        go_quiet (fail)
        go_wp2
        all_goals
          go_ret
          refine ⟨ret_bool ?_, below_drewN B0.out _⟩
          rw [hr.out, Bool.eq_iff_iff, decide_eq_true_iff]
          (try rw [decide_eq_true_iff])
          clear hr B0
          (try simp only [beq_iff_eq, beq_eq_false_iff_ne, ne_eq] at *)
          (try simp only [Bool.false_eq_true])
          unfold formP
          dsimp only
          constructor <;> intro hh <;> first | exact hh.elim | omega | trivial
      · have dp : decide (0 ≤ part) = true := decide_eq_true hp
        have ds : decide (0 ≤ slot) = false := decide_eq_false hs
        go_enter Try.func45, Try.ntmps45
        go_wp2
        go_quiet (fail)
        go_wp2
        all_goals
          go_ret
          refine ⟨ret_bool ?_, below_drewN B0.out _⟩
          rw [hr.out, Bool.eq_iff_iff, decide_eq_true_iff]
          (try rw [decide_eq_true_iff])
          clear hr B0
          (try simp only [beq_iff_eq, beq_eq_false_iff_ne, ne_eq] at *)
          (try simp only [Bool.false_eq_true])
          unfold formP
          dsimp only
          constructor <;> intro hh <;> first | exact hh.elim | omega | trivial
    · by_cases hs : 0 ≤ slot
      · have dp : decide (0 ≤ part) = false := decide_eq_false hp
        have ds : decide (0 ≤ slot) = true := decide_eq_true hs
        go_enter Try.func45, Try.ntmps45
        go_wp2
        go_quiet (fail)
        go_wp2
        all_goals
          go_ret
          refine ⟨ret_bool ?_, below_drewN B0.out _⟩
          rw [hr.out, Bool.eq_iff_iff, decide_eq_true_iff]
          (try rw [decide_eq_true_iff])
          clear hr B0
          (try simp only [beq_iff_eq, beq_eq_false_iff_ne, ne_eq] at *)
          (try simp only [Bool.false_eq_true])
          unfold formP
          dsimp only
          constructor <;> intro hh <;> first | exact hh.elim | omega | trivial
      · have dp : decide (0 ≤ part) = false := decide_eq_false hp
        have ds : decide (0 ≤ slot) = false := decide_eq_false hs
        go_enter Try.func45, Try.ntmps45
        go_wp2
        go_quiet (fail)
        go_wp2
        all_goals
          go_ret
          refine ⟨ret_bool ?_, below_drewN B0.out _⟩
          rw [hr.out, Bool.eq_iff_iff, decide_eq_true_iff]
          (try rw [decide_eq_true_iff])
          clear hr B0
          (try simp only [beq_iff_eq, beq_eq_false_iff_ne, ne_eq] at *)
          (try simp only [Bool.false_eq_true])
          unfold formP
          dsimp only
          constructor <;> intro hh <;> first | exact hh.elim | omega | trivial

def targetP (x : AW) (s : St) : Int := if 0 ≤ s.part then whereP x s.part else s.slot
set_option maxHeartbeats 2000000 in
theorem target_any (x : AW) (A1 A2 A3 : Option Addr) (n1 n2 n3 c1 c2 c3 : Nat) (s : St) (w : World) (hx : RW4 w x A1 A2 A3 n1 n2 n3 c1 c2 c3) (r : Int) (hr : Hid (targetP x s = r)) :
    Calls Try.prog 52 #[.agg #[.int .i64 x.slots, .slice A1 n1 c1, .slice A2 n2 c2, .slice A3 n3 c3], .agg #[.int .i64 s.kind, .int .i64 s.arm, .int .i64 s.part, .int .i64 s.slot, .int .i64 s.ticks]] w fun e w' => e = .returned (.int .i64 r) ∧ Below w.heap.size w w' := by
  have B1 := Lib.hid ((Below.refl w.heap.size w).alloc (Nat.le_refl _) (.cells #[.int .i64 x.slots, .slice A1 n1 c1, .slice A2 n2 c2, .slice A3 n3 c3] 25))
  have B2 := Lib.hid (B1.out.alloc B1.out.size (.cells #[.int .i64 s.kind, .int .i64 s.arm, .int .i64 s.part, .int .i64 s.slot, .int .i64 s.ticks] 39))
  have H2 := Lib.hid (hx.below B2.out)
  clear hx
  by_cases hp : 0 ≤ s.part
  · have hr2 : Hid (whereP x s.part = r) := by unfold Hid; rw [← hr.out, targetP, if_pos hp]
    go_enter Try.func52, Try.ntmps52
    go_wp2_with fail
    refine (Where_any x A1 A2 A3 n1 n2 n3 c1 c2 c3 _ H2.out s.part r hr2).mono ?_
    rintro e w2 ⟨rfl, hb⟩
    have B3 := Lib.hid (B2.out.trans (hb.mono B2.out.size))
    clear hb
    go_wp2_with fail
    go_ret
    exact ⟨rfl, B3.out⟩
  · have hr2 : s.slot = r := by rw [← hr.out, targetP, if_neg hp]
    subst hr2
    go_enter Try.func52, Try.ntmps52
    go_wp2_with fail
    go_ret
    exact ⟨rfl, B2.out⟩
end Go.Proofs.Ytioofkhadjaldaa
