/- The walk of gantkeep4.ordered. -/
import Derived.Test.YtnmngjikcimpnaaRight
namespace Go.Proofs.Ytnmngjikcimpnaa
open Go.RowKit
set_option linter.unusedVariables false

def litW (w : World) (p q : Int) : World :=
  ((((w.alloc (.cells #[] 3)).alloc (.cells #[.int .i64 0] 3)).alloc (.cells #[.slice (some ⟨w.heap.size, 0, none⟩) 0 0, .slice (some ⟨w.heap.size + 1, 0, none⟩) 1 1] 22)).alloc
    (.cells #[.int .i64 p, .int .i64 q] 3))
theorem litW_below {B : Nat} {w0 w : World} (h : Below B w0 w) (hB : B ≤ w.heap.size) (p q : Int) : Below B w0 (litW w p q) :=
  (((h.alloc hB _).alloc (by simp; omega) _).alloc (by simp; omega) _).alloc (by simp; omega) _
theorem litW_rii (w : World) (p q : Int) : RII (litW w p q) (some ⟨w.heap.size + 1 + 1, 0, none⟩) [[], [0]] := by
  have b1 : Blk (litW w p q) (w.heap.size + 1) 3 #[.int .i64 0] := by
    have := ((Blk.new (w.alloc (.cells #[] 3)) 3 #[.int .i64 0]).alloc (.cells #[.slice (some ⟨w.heap.size, 0, none⟩) 0 0, .slice (some ⟨w.heap.size + 1, 0, none⟩) 1 1] 22)).alloc (.cells #[.int .i64 p, .int .i64 q] 3)
    simpa [litW] using this
  have b2 : Blk (litW w p q) (w.heap.size + 1 + 1) 22 #[.slice (some ⟨w.heap.size, 0, none⟩) 0 0, .slice (some ⟨w.heap.size + 1, 0, none⟩) 1 1] := by
    have := (Blk.new ((w.alloc (.cells #[] 3)).alloc (.cells #[.int .i64 0] 3)) 22 #[.slice (some ⟨w.heap.size, 0, none⟩) 0 0, .slice (some ⟨w.heap.size + 1, 0, none⟩) 1 1]).alloc (.cells #[.int .i64 p, .int .i64 q] 3)
    simpa [litW] using this
  refine fun _ => ⟨_, 0, rfl, b2.lt, fun j l hj => ?_⟩
  rw [Nat.zero_add, b2.cell]
  rcases j with _ | _ | j
  · simp at hj; subst hj
    exact ⟨_, _, rfl, RI.nil _ _⟩
  · simp at hj; subst hj
    refine ⟨_, _, rfl, fun _ => ⟨_, 0, rfl, b1.lt, fun i x hi => ?_⟩⟩
    rw [Nat.zero_add, b1.cell]
    rcases i with _ | i
    · simp at hi; subst hi; rfl
    · simp at hi
  · simp at hj
theorem litW_ri (w : World) (p q : Int) : RI (litW w p q) (some ⟨w.heap.size + 1 + 1 + 1, 0, none⟩) [p, q] := by
  have b1 : Blk (litW w p q) (w.heap.size + 1 + 1 + 1) 3 #[.int .i64 p, .int .i64 q] := by
    have := (Blk.new (((w.alloc (.cells #[] 3)).alloc (.cells #[.int .i64 0] 3)).alloc (.cells #[.slice (some ⟨w.heap.size, 0, none⟩) 0 0, .slice (some ⟨w.heap.size + 1, 0, none⟩) 1 1] 22)) 3 #[.int .i64 p, .int .i64 q])
    simpa [litW] using this
  refine fun _ => ⟨_, 0, rfl, b1.lt, fun i x hi => ?_⟩
  rw [Nat.zero_add, b1.cell]
  rcases i with _ | _ | i
  · simp at hi; subst hi; rfl
  · simp at hi; subst hi; rfl
  · simp at hi
theorem lit_valid : Valid [[], [0]] := by
  refine ⟨by simp, fun k l hk => ?_⟩
  rcases k with _ | _ | k
  · simp at hk; subst hk; simp
  · simp at hk; subst hk
    refine ⟨fun i x hi => ?_, fun i x y hi hj => by simp at hj⟩
    rcases i with _ | i <;> simp at hi
    omega
  · simp at hk
theorem right_lit (w : World) (p q : Int) (r : Bool) (hr : rightFrom [[], [0]] [] [p, q] = r) :
    Calls Try.prog 27 #[.slice (some ⟨w.heap.size + 1 + 1, 0, none⟩) 2 2, .slice (some ⟨w.heap.size + 1 + 1 + 1, 0, none⟩) 2 2] (litW w p q) fun e w' => e = .returned (.bool r) ∧ Below (litW w p q).heap.size (litW w p q) w' :=
  right_any _ _ 2 2 [[], [0]] [p, q] _ (litW_rii w p q) lit_valid (litW_ri w p q) rfl r hr

set_option maxHeartbeats 1000000 in
theorem ordered_ok (w : World) : Calls Try.prog 12 #[] w fun e w' => e = .returned (.bool true) ∧ Below w.heap.size w w' := by
  have H0 := Lib.hid (right_lit w 0 1 true (by decide))
  have B0 := Lib.hid (litW_below (Below.refl w.heap.size w) (Nat.le_refl _) 0 1)
  go_enter Try.func12, Try.ntmps12
  go_wp2_with fail
  refine H0.out.mono ?_
  rintro e w1 ⟨rfl, hb1⟩
  have hs := B0.out.size
  have B1 := Lib.hid (B0.out.trans (hb1.mono hs))
  have hs1 := B1.out.size
  have H1 := Lib.hid (right_lit w1 1 0 false (by decide))
  have B2 := Lib.hid (litW_below B1.out hs1 1 0)
  clear hb1
  go_wp2_with fail
  refine H1.out.mono ?_
  rintro e w2 ⟨rfl, hb2⟩
  have B3 := Lib.hid (B2.out.trans (hb2.mono B2.out.size))
  clear hb2
  go_wp2_with fail
  go_ret
  exact ⟨rfl, B3.out⟩
end Go.Proofs.Ytnmngjikcimpnaa
