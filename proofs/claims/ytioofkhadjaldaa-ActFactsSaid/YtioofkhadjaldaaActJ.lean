/- The walks of slices.Equal at []int and []bool, of act.Same and act.Run. -/
import Derived.Test.YtioofkhadjaldaaActP
import Derived.Test.YtioofkhadjaldaaShelf
namespace Go.Proofs.Ytioofkhadjaldaa
open Go.RowKit
set_option linter.unusedVariables false
set_option maxRecDepth 100000

theorem allEq_dec {α : Type} [DecidableEq α] : ∀ (xs ys : List α), Lib.allEq (fun x y : α => decide (x = y)) xs ys = decide (xs = ys)
  | [], [] => by simp [Lib.allEq]
  | [], y :: ys => by simp [Lib.allEq]
  | x :: xs, [] => by simp [Lib.allEq]
  | x :: xs, y :: ys => by
    have ih := allEq_dec xs ys
    simp only [Lib.allEq, ih]
    by_cases h : x = y <;> simp [h]
theorem neqB (T : TypeId) (h : Try.prog.underlying T = some .bool) : NeqAt Try.prog T Value.bool (fun x y => decide (x = y)) :=
  ⟨fun x y w => by rw [(NeqAt.bool T h).1 x y w]; cases x <;> cases y <;> rfl, (NeqAt.bool T h).2⟩
theorem neqI (T : TypeId) : NeqAt Try.prog T (Value.int .i64) (fun x y => decide (x = y)) :=
  ⟨fun x y w => by rw [(NeqAt.int Try.prog T .i64).1 x y w]; by_cases h : x = y <;> simp [h], (NeqAt.int Try.prog T .i64).2⟩
theorem get_bang {α : Type} [Inhabited α] {l : List α} {j : Nat} (h : j < l.length) : l[j]? = some l[j]! := by simp [h]

theorem eqI_any (A B : Option Addr) (n c m d : Nat) (xs ys : List Int) (w : World) (hx : RI w A xs) (hy : RI w B ys) (h1 : xs.length = n) (h2 : ys.length = m) (p1 : 0 < n) (p2 : 0 < m) (b1 : n ≤ 100) (b2 : m ≤ 100) (r : Bool) (hr : Hid (r = decide (xs = ys))) :
    Calls Try.prog 38 #[.slice A n c, .slice B m d] w fun e w' => e = .returned (.bool r) ∧ ∃ q, w' = w.drewN q := by
  obtain ⟨b1', o1, rfl, _, hc1⟩ := hx (by omega)
  obtain ⟨b2', o2, rfl, _, hc2⟩ := hy (by omega)
  refine (Try.slices_Equal_f38 (Value.int .i64) _ (neqI 3) b1' o1 n c b2' o2 m d xs ys w (by omega) (by omega) (by omega) (by omega) (fun j hj => hc1 j _ (get_bang hj)) (fun j hj => hc2 j _ (get_bang hj))).mono ?_
  rintro e w' ⟨rfl, h⟩
  refine ⟨?_, h⟩
  rw [hr.out, List.take_of_length_le (by omega), List.take_of_length_le (by omega), allEq_dec]
theorem eqB_any (A B : Option Addr) (n c m d : Nat) (xs ys : List Bool) (w : World) (hx : RBo w A xs) (hy : RBo w B ys) (h1 : xs.length = n) (h2 : ys.length = m) (p1 : 0 < n) (p2 : 0 < m) (b1 : n ≤ 100) (b2 : m ≤ 100) (r : Bool) (hr : Hid (r = decide (xs = ys))) :
    Calls Try.prog 39 #[.slice A n c, .slice B m d] w fun e w' => e = .returned (.bool r) ∧ ∃ q, w' = w.drewN q := by
  have gx := fun (j : Nat) (x : Bool) (h : xs[j]? = some x) => RBo.at hx h
  have gy := fun (j : Nat) (x : Bool) (h : ys[j]? = some x) => RBo.at hy h
  obtain ⟨x0, hx0⟩ := some_at (l := xs) (k := 0) (by omega)
  obtain ⟨y0, hy0⟩ := some_at (l := ys) (k := 0) (by omega)
  obtain ⟨b1', o1, rfl, _, _⟩ := gx 0 x0 hx0
  obtain ⟨b2', o2, rfl, _, _⟩ := gy 0 y0 hy0
  refine (Try.slices_Equal_f39 Value.bool _ (neqB 4 Try.underlying4) b1' o1 n c b2' o2 m d xs ys w (by omega) (by omega) (by omega) (by omega) (fun j hj => ?_) (fun j hj => ?_)).mono ?_
  · obtain ⟨b, o, h, _, hc⟩ := gx j _ (get_bang hj)
    cases h; exact hc
  · obtain ⟨b, o, h, _, hc⟩ := gy j _ (get_bang hj)
    cases h; exact hc
  · rintro e w' ⟨rfl, h⟩
    refine ⟨?_, h⟩
    rw [hr.out, List.take_of_length_le (by omega), List.take_of_length_le (by omega), allEq_dec]

theorem RW4.drewN {w : World} {x : AW} {A1 A2 A3 : Option Addr} {n1 n2 n3 c1 c2 c3 : Nat} (h : RW4 w x A1 A2 A3 n1 n2 n3 c1 c2 c3) (q : Nat) : RW4 (w.drewN q) x A1 A2 A3 n1 n2 n3 c1 c2 c3 :=
  h.below (below_drewN (Below.refl _ _) q)
theorem AW.ext' {x y : AW} : x = y ↔ x.slots = y.slots ∧ x.place = y.place ∧ x.seen = y.seen ∧ x.spot = y.spot := by
  obtain ⟨a, b, c, d⟩ := x; obtain ⟨a', b', c', d'⟩ := y
  simp

set_option maxHeartbeats 8000000 in
theorem Same_any (x y : AW) (A1 A2 A3 B1 B2 B3 : Option Addr) (n1 n3 c1 c2 c3 m1 m3 d1 d2 d3 : Nat) (w : World) (hx : RW4 w x A1 A2 A3 n1 n1 n3 c1 c2 c3) (hy : RW4 w y B1 B2 B3 m1 m1 m3 d1 d2 d3) (p1 : 0 < n1) (p3 : 0 < n3) (q1 : 0 < m1) (q3 : 0 < m3) (r : Bool) (hr : Hid (r = decide (x = y))) :
    Calls Try.prog 13 #[.agg #[.int .i64 x.slots, .slice A1 n1 c1, .slice A2 n1 c2, .slice A3 n3 c3], .agg #[.int .i64 y.slots, .slice B1 m1 d1, .slice B2 m1 d2, .slice B3 m3 d3]] w fun e w' => e = .returned (.bool r) ∧ Below w.heap.size w w' := by
  have BA := Lib.hid ((Below.refl w.heap.size w).alloc (Nat.le_refl _) (.cells #[.int .i64 x.slots, .slice A1 n1 c1, .slice A2 n1 c2, .slice A3 n3 c3] 25))
  have BB := Lib.hid (BA.out.alloc BA.out.size (.cells #[.int .i64 y.slots, .slice B1 m1 d1, .slice B2 m1 d2, .slice B3 m3 d3] 25))
  have HX := Lib.hid (hx.below BB.out)
  have HY := Lib.hid (hy.below BB.out)
  have hr2 : r = (decide (x.slots = y.slots) && decide (x.place = y.place) && decide (x.seen = y.seen) && decide (x.spot = y.spot)) := by rw [hr.out, Bool.eq_iff_iff]; simp [AW.ext', and_assoc]
  clear hr hx hy BA
  by_cases e0 : x.slots = y.slots
  · have F0 : (x.slots == y.slots) = true := by simpa using e0
    by_cases e1 : x.place = y.place
    · have E1 : Hid (true = decide (x.place = y.place)) := (decide_eq_true e1).symm
      by_cases e2 : x.seen = y.seen
      · obtain ⟨r3, e3⟩ : ∃ r3, r3 = decide (x.spot = y.spot) := ⟨_, rfl⟩
        have hr3 : r = r3 := by rw [hr2, e3]; simp [e0, e1, e2]
        have E2 : Hid (true = decide (x.seen = y.seen)) := (decide_eq_true e2).symm
        have E3 := Lib.hid e3
        subst hr3
        clear hr2 e0 e1 e2 e3
        go_enter Try.func13, Try.ntmps13
        go_wp2_with fail
        refine (eqI_any A1 B1 n1 c1 m1 d1 x.place y.place _ HX.out.ra.place HY.out.ra.place HX.out.l1 HY.out.l1 p1 q1 HX.out.b1 HY.out.b1 true E1).mono ?_
        rintro e w1 ⟨rfl, k1, rfl⟩
        go_wp2_with fail
        refine (eqB_any A2 B2 n1 c2 m1 d2 x.seen y.seen _ (HX.out.drewN k1).ra.seen (HY.out.drewN k1).ra.seen HX.out.l2 HY.out.l2 p1 q1 HX.out.b1 HY.out.b1 true E2).mono ?_
        rintro e w1 ⟨rfl, k2, rfl⟩
        go_wp2_with fail
        refine (eqI_any A3 B3 n3 c3 m3 d3 x.spot y.spot _ (HX.out.drewN (k1 + k2)).ra.spot (HY.out.drewN (k1 + k2)).ra.spot HX.out.l3 HY.out.l3 p3 q3 HX.out.b3 HY.out.b3 r E3).mono ?_
        rintro e w1 ⟨rfl, k3, rfl⟩
        go_wp2_with fail
        go_ret
        exact ⟨rfl, below_drewN BB.out _⟩
      · have E2 : Hid (false = decide (x.seen = y.seen)) := (decide_eq_false e2).symm
        have hr3 : r = false := by rw [hr2]; simp [e2]
        subst hr3
        clear hr2 e0 e1 e2
        go_enter Try.func13, Try.ntmps13
        go_wp2_with fail
        refine (eqI_any A1 B1 n1 c1 m1 d1 x.place y.place _ HX.out.ra.place HY.out.ra.place HX.out.l1 HY.out.l1 p1 q1 HX.out.b1 HY.out.b1 true E1).mono ?_
        rintro e w1 ⟨rfl, k1, rfl⟩
        go_wp2_with fail
        refine (eqB_any A2 B2 n1 c2 m1 d2 x.seen y.seen _ (HX.out.drewN k1).ra.seen (HY.out.drewN k1).ra.seen HX.out.l2 HY.out.l2 p1 q1 HX.out.b1 HY.out.b1 false E2).mono ?_
        rintro e w1 ⟨rfl, k2, rfl⟩
        go_wp2_with fail
        go_ret
        exact ⟨rfl, below_drewN BB.out _⟩
    · have E1 : Hid (false = decide (x.place = y.place)) := (decide_eq_false e1).symm
      have hr3 : r = false := by rw [hr2]; simp [e1]
      subst hr3
      clear hr2 e0 e1
      go_enter Try.func13, Try.ntmps13
      go_wp2_with fail
      refine (eqI_any A1 B1 n1 c1 m1 d1 x.place y.place _ HX.out.ra.place HY.out.ra.place HX.out.l1 HY.out.l1 p1 q1 HX.out.b1 HY.out.b1 false E1).mono ?_
      rintro e w1 ⟨rfl, k1, rfl⟩
      go_wp2_with fail
      go_ret
      exact ⟨rfl, below_drewN BB.out _⟩
  · have F0 : (x.slots == y.slots) = false := by simpa using e0
    have hr3 : r = false := by rw [hr2]; simp [e0]
    subst hr3
    clear hr2 e0
    go_enter Try.func13, Try.ntmps13
    go_wp2_with fail
    go_ret
    exact ⟨rfl, BB.out⟩
end Go.Proofs.Ytioofkhadjaldaa
