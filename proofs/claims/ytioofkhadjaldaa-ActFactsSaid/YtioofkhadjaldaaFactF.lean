/- The walk of fact.Clash. -/
import Derived.Test.YtioofkhadjaldaaFactE
namespace Go.Proofs.Ytioofkhadjaldaa
open Go.RowKit
set_option linter.unusedVariables false
set_option maxRecDepth 100000

/-- Two valid facts, of which the first one's kind is not above the other's, clash. -/
def clash0 (f g : Fct) : Prop :=
  ((f.k = 1 ∧ g.k = 1) ∨ (f.k = 2 ∧ g.k = 2) ∨ (f.k = 6 ∧ g.k = 6)) ∧ (f.a = g.a ∨ f.b = g.b) ∨ (f.k = 1 ∧ g.k = 2) ∧ f.a = g.b ∨ (f.k = 1 ∧ g.k = 4) ∧ f.b = g.a ∨ (f.k = 2 ∧ g.k = 3) ∧ f.a = g.a
instance (f g : Fct) : Decidable (clash0 f g) := by unfold clash0; infer_instance
def clash (f g : Fct) : Prop := okF f ∧ okF g ∧ f ≠ g ∧ (if g.k < f.k then clash0 g f else clash0 f g)
instance (f g : Fct) : Decidable (clash f g) := by unfold clash; infer_instance

set_option maxHeartbeats 8000000 in
theorem Clash_any (f g : Fct) (w : World) (r : Bool) (hr : Hid (r = decide (clash f g))) :
    Calls Try.prog 49 #[.agg #[.int .i64 f.k, .int .i64 f.a, .int .i64 f.b], .agg #[.int .i64 g.k, .int .i64 g.a, .int .i64 g.b]] w fun e w' => e = .returned (.bool r) ∧ Below w.heap.size w w' := by
  have B1 := Lib.hid ((Below.refl w.heap.size w).alloc (Nat.le_refl _) (.cells #[.int .i64 f.k, .int .i64 f.a, .int .i64 f.b] 66))
  have X1 := Lib.hid (Blk.new w 66 #[.int .i64 f.k, .int .i64 f.a, .int .i64 f.b])
  have Z1 := Lib.hid B1.out.size
  have B2 := Lib.hid (B1.out.alloc Z1.out (.cells #[.int .i64 g.k, .int .i64 g.a, .int .i64 g.b] 66))
  have X2 := Lib.hid (X1.out.alloc (.cells #[.int .i64 g.k, .int .i64 g.a, .int .i64 g.b] 66))
  have Y2 := Lib.hid (Blk.new (w.alloc (.cells #[.int .i64 f.k, .int .i64 f.a, .int .i64 f.b] 66)) 66 #[.int .i64 g.k, .int .i64 g.a, .int .i64 g.b])
  simp only [World.size_alloc] at Y2
  have Z2 := Lib.hid B2.out.size
  clear B1 Z1 X1
  go_enter Try.func49, Try.ntmps49
  go_wp2_with fail
  refine (Valid_any f.k f.a f.b _).mono ?_
  rintro e w3 ⟨rfl, hb⟩
  have B3 := Lib.hid (B2.out.trans (hb.mono Z2.out))
  have X3 := Lib.hid (X2.out.below hb X2.out.lt)
  have Y3 := Lib.hid (Y2.out.below hb Y2.out.lt)
  have Z3 := Lib.hid B3.out.size
  clear hb
  by_cases hf : okF ⟨f.k, f.a, f.b⟩
  · simp only [hf, decide_true]
    have y0 := Y3.out.cell 0
    have y1 := Y3.out.cell 1
    have y2 := Y3.out.cell 2
    go_wp2_with fail
    refine (Valid_any g.k g.a g.b _).mono ?_
    rintro e w4 ⟨rfl, hb⟩
    have B4 := Lib.hid (B3.out.trans (hb.mono Z3.out))
    have X4 := Lib.hid (X3.out.below hb X3.out.lt)
    have Y4 := Lib.hid (Y3.out.below hb Y3.out.lt)
    have Z4 := Lib.hid B4.out.size
    clear hb y0 y1 y2
    by_cases hg : okF ⟨g.k, g.a, g.b⟩
    · simp only [hg, decide_true]
      have x0 := X4.out.cell 0
      have x1 := X4.out.cell 1
      have x2 := X4.out.cell 2
      have y0 := Y4.out.cell 0
      have y1 := Y4.out.cell 1
      have y2 := Y4.out.cell 2
      have hq := fun w => eqF_run f g w
      by_cases he : f = g
      · simp only [he, decide_true] at hq
        have hrf : r = false := by rw [hr.out, decide_eq_false_iff_not]; intro h; exact h.2.2.1 he
        subst hrf
        subst he
        go_wp2_with fail
        go_ret
        exact ⟨rfl, B4.out⟩
      · simp only [he, decide_false] at hq
        have fx0 := X4.out.frozen 0
        have fx1 := X4.out.frozen 1
        have fx2 := X4.out.frozen 2
        have fy0 := Y4.out.frozen 0
        have fy1 := Y4.out.frozen 1
        have fy2 := Y4.out.frozen 2
        have HF := Lib.hid hf
        have HG := Lib.hid hg
        have HE := Lib.hid he
        clear hf hg he
        by_cases hgt : g.k < f.k
        · have hr2 : Hid (r = decide (clash0 g f)) := by
            unfold Hid; rw [hr.out]; congr 1; simp only [clash, if_pos hgt, eq_iff_iff]
            exact ⟨fun h => h.2.2.2, fun h => ⟨HF.out, HG.out, HE.out, h⟩⟩
          go_wp2_with fail
          all_goals
            go_ret
            refine ⟨ret_bool ?_, ((((((B4.out.setCell (p := ⟨w.heap.size, 0, none⟩) (Nat.le_refl _) _).setCell (p := ⟨w.heap.size, 1, none⟩) (Nat.le_refl _) _).setCell (p := ⟨w.heap.size, 2, none⟩) (Nat.le_refl _) _).setCell (p := ⟨w.heap.size + 1, 0, none⟩) (Nat.le_succ _) _).setCell (p := ⟨w.heap.size + 1, 1, none⟩) (Nat.le_succ _) _).setCell (p := ⟨w.heap.size + 1, 2, none⟩) (Nat.le_succ _) _)⟩
            rw [hr2.out, Bool.eq_iff_iff, decide_eq_true_iff]
            clear hr hr2 hq
            (try simp only [beq_iff_eq, beq_eq_false_iff_ne, ne_eq, Bool.or_eq_true] at *)
            (try simp only [Bool.false_eq_true])
            unfold clash0
            clear HF HG HE
            constructor <;> intro hh <;> first | exact hh.elim | omega | trivial
        · have hr2 : Hid (r = decide (clash0 f g)) := by
            unfold Hid; rw [hr.out]; congr 1; simp only [clash, if_neg hgt, eq_iff_iff]
            exact ⟨fun h => h.2.2.2, fun h => ⟨HF.out, HG.out, HE.out, h⟩⟩
          go_wp2_with fail
          all_goals
            go_ret
            refine ⟨ret_bool ?_, B4.out⟩
            rw [hr2.out, Bool.eq_iff_iff, decide_eq_true_iff]
            clear hr hr2 hq
            (try simp only [beq_iff_eq, beq_eq_false_iff_ne, ne_eq, Bool.or_eq_true] at *)
            (try simp only [Bool.false_eq_true])
            unfold clash0
            clear HF HG HE
            constructor <;> intro hh <;> first | exact hh.elim | omega | trivial
    · have hrf : r = false := by rw [hr.out, decide_eq_false_iff_not]; intro h; exact hg h.2.1
      subst hrf
      simp only [hg, decide_false]
      clear hg
      go_wp2_with fail
      go_ret
      exact ⟨rfl, B4.out⟩
  · have hrf : r = false := by rw [hr.out, decide_eq_false_iff_not]; intro h; exact hf h.1
    subst hrf
    simp only [hf, decide_false]
    clear hf
    go_wp2_with fail
    go_ret
    exact ⟨rfl, B3.out⟩
end Go.Proofs.Ytioofkhadjaldaa
