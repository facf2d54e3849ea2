/- The walks of slices.Equal at []int and []bool, of act.Same and act.Run. · The walks of slices.Equal at []int and []bool, of act.Same (lines struck from the pruned ActJ). · The walk of act.Run at a valid world. · The walks of act.Compare and of SortFunc at steps. · The walks of the closure of Steps and of slices.DeleteFunc at it. · The walk of slices.DeleteFunc at the closure of Steps. · The walk of gantkeep4.World: the parts' loop. · The walk of act.Start. · The walk of gantkeep4.acted. -/
import Derived.Test.YtbhbbnmllokglaaOs16
import Derived.Test.YtbhbbnmllokglaaOs18
import Derived.Test.YtbhbbnmllokglaaOs13
import Derived.Test.YtbhbbnmllokglaaOs17
import Derived.Test.YtbhbbnmllokglaaOs8
namespace Go.Proofs.Ytbhbbnmllokglaa
open Go.RowKit
set_option linter.unusedVariables false
set_option maxRecDepth 100000

theorem allEq_dec {α : Type} [DecidableEq α] : ∀ (xs ys : List α), Lib.allEq (fun x y : α => decide (x = y)) xs ys = decide (xs = ys)
  | [], [] => by simp [Lib.allEq]
  | [], y :: ys => by simp [Lib.allEq]
  | x :: xs, [] => by simp [Lib.allEq]
  | x :: xs, y :: ys => by
    have ih := allEq_dec xs ys
    simp only [Lib.allEq, ih]
    by_cases h : x = y <;> simp [h]
theorem neqB (T : TypeId) (h : Try.prog.underlying T = some .bool) : NeqAt Try.prog T Value.bool (fun x y => decide (x = y)) :=
  ⟨fun x y w => by rw [(NeqAt.bool T h).1 x y w]; cases x <;> cases y <;> rfl, (NeqAt.bool T h).2⟩
theorem neqI (T : TypeId) : NeqAt Try.prog T (Value.int .i64) (fun x y => decide (x = y)) :=
  ⟨fun x y w => by rw [(NeqAt.int Try.prog T .i64).1 x y w]; by_cases h : x = y <;> simp [h], (NeqAt.int Try.prog T .i64).2⟩
theorem get_bang {α : Type} [Inhabited α] {l : List α} {j : Nat} (h : j < l.length) : l[j]? = some l[j]! := by simp [h]

theorem RW4.drewN {w : World} {x : AW} {A1 A2 A3 : Option Addr} {n1 n2 n3 c1 c2 c3 : Nat} (h : RW4 w x A1 A2 A3 n1 n2 n3 c1 c2 c3) (q : Nat) : RW4 (w.drewN q) x A1 A2 A3 n1 n2 n3 c1 c2 c3 :=
  h.below (below_drewN (Below.refl _ _) q)
theorem AW.ext' {x y : AW} : x = y ↔ x.slots = y.slots ∧ x.place = y.place ∧ x.seen = y.seen ∧ x.spot = y.spot := by
  obtain ⟨a, b, c, d⟩ := x; obtain ⟨a', b', c', d'⟩ := y
  simp

end Go.Proofs.Ytbhbbnmllokglaa

namespace Go.Proofs.Ytbhbbnmllokglaa
open Go.RowKit
set_option linter.unusedVariables false
set_option maxRecDepth 100000

theorem eqI_any (A B : Option Addr) (n c m d : Nat) (xs ys : List Int) (w : World) (hx : RI w A xs) (hy : RI w B ys) (h1 : xs.length = n) (h2 : ys.length = m) (p1 : 0 < n) (p2 : 0 < m) (b1 : n ≤ 100) (b2 : m ≤ 100) (r : Bool) (hr : Hid (r = decide (xs = ys))) :
    Calls Try.prog 30 #[.slice A n c, .slice B m d] w fun e w' => e = .returned (.bool r) ∧ ∃ q, w' = w.drewN q := by
  obtain ⟨b1', o1, rfl, _, hc1⟩ := hx (by omega)
  obtain ⟨b2', o2, rfl, _, hc2⟩ := hy (by omega)
  refine (Try.slices_Equal_f30 (Value.int .i64) _ (neqI 3) b1' o1 n c b2' o2 m d xs ys w (by omega) (by omega) (by omega) (by omega) (fun j hj => hc1 j _ (get_bang hj)) (fun j hj => hc2 j _ (get_bang hj))).mono ?_
  rintro e w' ⟨rfl, h⟩
  refine ⟨?_, h⟩
  rw [hr.out, List.take_of_length_le (by omega), List.take_of_length_le (by omega), allEq_dec]
theorem eqB_any (A B : Option Addr) (n c m d : Nat) (xs ys : List Bool) (w : World) (hx : RBo w A xs) (hy : RBo w B ys) (h1 : xs.length = n) (h2 : ys.length = m) (p1 : 0 < n) (p2 : 0 < m) (b1 : n ≤ 100) (b2 : m ≤ 100) (r : Bool) (hr : Hid (r = decide (xs = ys))) :
    Calls Try.prog 31 #[.slice A n c, .slice B m d] w fun e w' => e = .returned (.bool r) ∧ ∃ q, w' = w.drewN q := by
  have gx := fun (j : Nat) (x : Bool) (h : xs[j]? = some x) => RBo.at hx h
  have gy := fun (j : Nat) (x : Bool) (h : ys[j]? = some x) => RBo.at hy h
  obtain ⟨x0, hx0⟩ := some_at (l := xs) (k := 0) (by omega)
  obtain ⟨y0, hy0⟩ := some_at (l := ys) (k := 0) (by omega)
  obtain ⟨b1', o1, rfl, _, _⟩ := gx 0 x0 hx0
  obtain ⟨b2', o2, rfl, _, _⟩ := gy 0 y0 hy0
  refine (Try.slices_Equal_f31 Value.bool _ (neqB 4 Try.underlying4) b1' o1 n c b2' o2 m d xs ys w (by omega) (by omega) (by omega) (by omega) (fun j hj => ?_) (fun j hj => ?_)).mono ?_
  · obtain ⟨b, o, h, _, hc⟩ := gx j _ (get_bang hj)
    cases h; exact hc
  · obtain ⟨b, o, h, _, hc⟩ := gy j _ (get_bang hj)
    cases h; exact hc
  · rintro e w' ⟨rfl, h⟩
    refine ⟨?_, h⟩
    rw [hr.out, List.take_of_length_le (by omega), List.take_of_length_le (by omega), allEq_dec]

set_option maxHeartbeats 8000000 in
theorem Same_any (x y : AW) (A1 A2 A3 B1 B2 B3 : Option Addr) (n1 n3 c1 c2 c3 m1 m3 d1 d2 d3 : Nat) (w : World) (hx : RW4 w x A1 A2 A3 n1 n1 n3 c1 c2 c3) (hy : RW4 w y B1 B2 B3 m1 m1 m3 d1 d2 d3) (p1 : 0 < n1) (p3 : 0 < n3) (q1 : 0 < m1) (q3 : 0 < m3) (r : Bool) (hr : Hid (r = decide (x = y))) :
    Calls Try.prog 16 #[.agg #[.int .i64 x.slots, .slice A1 n1 c1, .slice A2 n1 c2, .slice A3 n3 c3], .agg #[.int .i64 y.slots, .slice B1 m1 d1, .slice B2 m1 d2, .slice B3 m3 d3]] w fun e w' => e = .returned (.bool r) ∧ Below w.heap.size w w' := by
  have BA := Lib.hid ((Below.refl w.heap.size w).alloc (Nat.le_refl _) (.cells #[.int .i64 x.slots, .slice A1 n1 c1, .slice A2 n1 c2, .slice A3 n3 c3] 25))
  have BB := Lib.hid (BA.out.alloc BA.out.size (.cells #[.int .i64 y.slots, .slice B1 m1 d1, .slice B2 m1 d2, .slice B3 m3 d3] 25))
  have HX := Lib.hid (hx.below BB.out)
  have HY := Lib.hid (hy.below BB.out)
  have hr2 : r = (decide (x.slots = y.slots) && decide (x.place = y.place) && decide (x.seen = y.seen) && decide (x.spot = y.spot)) := by rw [hr.out, Bool.eq_iff_iff]; simp [AW.ext', and_assoc]
  clear hr hx hy BA
  by_cases e0 : x.slots = y.slots
  · have F0 : (x.slots == y.slots) = true := by simpa using e0
    by_cases e1 : x.place = y.place
    · have E1 : Hid (true = decide (x.place = y.place)) := (decide_eq_true e1).symm
      by_cases e2 : x.seen = y.seen
      · obtain ⟨r3, e3⟩ : ∃ r3, r3 = decide (x.spot = y.spot) := ⟨_, rfl⟩
        have hr3 : r = r3 := by rw [hr2, e3]; simp [e0, e1, e2]
        have E2 : Hid (true = decide (x.seen = y.seen)) := (decide_eq_true e2).symm
        have E3 := Lib.hid e3
        subst hr3
        clear hr2 e0 e1 e2 e3
        go_enter Try.func16, Try.ntmps16
        go_wp2_with fail
        refine (eqI_any A1 B1 n1 c1 m1 d1 x.place y.place _ HX.out.ra.place HY.out.ra.place HX.out.l1 HY.out.l1 p1 q1 HX.out.b1 HY.out.b1 true E1).mono ?_
        rintro e w1 ⟨rfl, k1, rfl⟩
        go_wp2_with fail
        refine (eqB_any A2 B2 n1 c2 m1 d2 x.seen y.seen _ (HX.out.drewN k1).ra.seen (HY.out.drewN k1).ra.seen HX.out.l2 HY.out.l2 p1 q1 HX.out.b1 HY.out.b1 true E2).mono ?_
        rintro e w1 ⟨rfl, k2, rfl⟩
        go_wp2_with fail
        refine (eqI_any A3 B3 n3 c3 m3 d3 x.spot y.spot _ (HX.out.drewN (k1 + k2)).ra.spot (HY.out.drewN (k1 + k2)).ra.spot HX.out.l3 HY.out.l3 p3 q3 HX.out.b3 HY.out.b3 r E3).mono ?_
        rintro e w1 ⟨rfl, k3, rfl⟩
        go_wp2_with fail
        go_ret
        exact ⟨rfl, below_drewN BB.out _⟩
      · have E2 : Hid (false = decide (x.seen = y.seen)) := (decide_eq_false e2).symm
        have hr3 : r = false := by rw [hr2]; simp [e2]
        subst hr3
        clear hr2 e0 e1 e2
        go_enter Try.func16, Try.ntmps16
        go_wp2_with fail
        refine (eqI_any A1 B1 n1 c1 m1 d1 x.place y.place _ HX.out.ra.place HY.out.ra.place HX.out.l1 HY.out.l1 p1 q1 HX.out.b1 HY.out.b1 true E1).mono ?_
        rintro e w1 ⟨rfl, k1, rfl⟩
        go_wp2_with fail
        refine (eqB_any A2 B2 n1 c2 m1 d2 x.seen y.seen _ (HX.out.drewN k1).ra.seen (HY.out.drewN k1).ra.seen HX.out.l2 HY.out.l2 p1 q1 HX.out.b1 HY.out.b1 false E2).mono ?_
        rintro e w1 ⟨rfl, k2, rfl⟩
        go_wp2_with fail
        go_ret
        exact ⟨rfl, below_drewN BB.out _⟩
    · have E1 : Hid (false = decide (x.place = y.place)) := (decide_eq_false e1).symm
      have hr3 : r = false := by rw [hr2]; simp [e1]
      subst hr3
      clear hr2 e0 e1
      go_enter Try.func16, Try.ntmps16
      go_wp2_with fail
      refine (eqI_any A1 B1 n1 c1 m1 d1 x.place y.place _ HX.out.ra.place HY.out.ra.place HX.out.l1 HY.out.l1 p1 q1 HX.out.b1 HY.out.b1 false E1).mono ?_
      rintro e w1 ⟨rfl, k1, rfl⟩
      go_wp2_with fail
      go_ret
      exact ⟨rfl, below_drewN BB.out _⟩
  · have F0 : (x.slots == y.slots) = false := by simpa using e0
    have hr3 : r = false := by rw [hr2]; simp [e0]
    subst hr3
    clear hr2 e0
    go_enter Try.func16, Try.ntmps16
    go_wp2_with fail
    go_ret
    exact ⟨rfl, BB.out⟩
end Go.Proofs.Ytbhbbnmllokglaa

namespace Go.Proofs.Ytbhbbnmllokglaa
open Go.RowKit
set_option linter.unusedVariables false
set_option maxRecDepth 100000

def RS (w : World) (A : Option Addr) (ss : List St) : Prop := RK St.cells 5 w A ss
theorem RS.at {w : World} {A : Option Addr} {ss : List St} (h : RS w A ss) {j : Nat} {s : St} (hj : ss[j]? = some s) : ∃ b o, A = some ⟨b, o, none⟩ ∧ b < w.heap.size ∧ w.cell? ⟨b, o + j * 5, none⟩ = some (.int .i64 s.kind) ∧ w.cell? ⟨b, o + j * 5 + 1, none⟩ = some (.int .i64 s.arm) ∧ w.cell? ⟨b, o + j * 5 + 2, none⟩ = some (.int .i64 s.part) ∧ w.cell? ⟨b, o + j * 5 + 3, none⟩ = some (.int .i64 s.slot) ∧ w.cell? ⟨b, o + j * 5 + 4, none⟩ = some (.int .i64 s.ticks) := by
  obtain ⟨b, o, hA, hb, hc⟩ := h (by have := lt_of_at hj; omega)
  exact ⟨b, o, hA, hb, hc j s 0 _ hj rfl, hc j s 1 _ hj rfl, hc j s 2 _ hj rfl, hc j s 3 _ hj rfl, hc j s 4 _ hj rfl⟩
/-- Steps, one by one. -/
def stepO (x : AW) (s : St) : Option AW := if canP x s = 0 then some (doS x s) else none
def runL (x : AW) (ss : List St) : Option AW := ss.foldlM stepO x
theorem runL_nil (x : AW) : runL x [] = some x := rfl
theorem runL_cons (x : AW) (s : St) (ss : List St) : runL x (s :: ss) = if canP x s = 0 then runL (doS x s) ss else none := by
  unfold runL stepO
  rw [List.foldlM_cons]
  split <;> rfl
theorem runL_append (x : AW) (a b : List St) : runL x (a ++ b) = (runL x a).bind fun y => runL y b := by
  unfold runL
  rw [List.foldlM_append]; rfl
theorem runL_valid {x y : AW} {ss : List St} (hv : ValidA x) (h : runL x ss = some y) : ValidA y := by
  induction ss generalizing x with
  | nil => rw [runL_nil] at h; injection h with h; exact h ▸ hv
  | cons s ss ih =>
    rw [runL_cons] at h
    split at h
    · rename_i hc; exact ih (valid_do hv hc) h
    · cases h
theorem runL_len {x y : AW} {ss : List St} (h : runL x ss = some y) : y.place.length = x.place.length ∧ y.seen.length = x.seen.length ∧ y.spot.length = x.spot.length ∧ y.slots = x.slots := by
  induction ss generalizing x with
  | nil => rw [runL_nil] at h; injection h with h; subst h; exact ⟨rfl, rfl, rfl, rfl⟩
  | cons s ss ih =>
    rw [runL_cons] at h
    split at h
    · have := ih h; have l := doS_len x s; omega
    · cases h
theorem runL_snoc {x z : AW} {ss : List St} {k : Nat} {s : St} (h : runL x (ss.take k) = some z) (hs : ss[k]? = some s) (hc : canP z s = 0) : runL x (ss.take (k + 1)) = some (doS z s) := by
  rw [List.take_add_one, hs, runL_append, h]
  show runL z [s] = _
  rw [runL_cons, if_pos hc, runL_nil]

/-- What Run answers. -/
def RunPost (x : AW) (ss : List St) (n1 n3 : Nat) (w : World) (e : Ending) (w' : World) : Prop :=
  Below w.heap.size w w' ∧ ((∃ y g1 g2 g3 d1 d2 d3, runL x ss = some y ∧ OW w.heap.size w' y g1 g2 g3 n1 n3 d1 d2 d3 ∧ e = .returned (.tuple #[.agg #[.int .i64 y.slots, .slice (some ⟨g1, 0, none⟩) n1 d1, .slice (some ⟨g2, 0, none⟩) n1 d2, .slice (some ⟨g3, 0, none⟩) n3 d3], .int .i64 ss.length, .int .i64 0])) ∨
    (∃ (k : Nat) (z : AW) (s : St), runL x (ss.take k) = some z ∧ ss[k]? = some s ∧ canP z s ≠ 0 ∧ e = .returned (.tuple #[.agg #[.int .i64 0, .slice none 0 0, .slice none 0 0, .slice none 0 0], .int .i64 k, .int .i64 (canP z s)])))

/-- A round's head: the result's box, the box of the world so far, that world. -/
structure RW (h : Nat) (w0 w : World) (z : AW) (g1 g2 g3 n1 n3 d1 d2 d3 gt : Nat) : Prop where
  Z : Blk w (h + 1) 25 #[.int .i64 0, .slice none 0 0, .slice none 0 0, .slice none 0 0]
  T : Blk w gt 25 #[.int .i64 z.slots, .slice (some ⟨g1, 0, none⟩) n1 d1, .slice (some ⟨g2, 0, none⟩) n1 d2, .slice (some ⟨g3, 0, none⟩) n3 d3]
  O : OW h w z g1 g2 g3 n1 n3 d1 d2 d3
  B : Below h w0 w
  ne : h + 1 < gt

abbrev set4 (w : World) (b : Nat) (u0 u1 u2 u3 : Value) : World := (((w.setCell ⟨b, 0, none⟩ u0).setCell ⟨b, 1, none⟩ u1).setCell ⟨b, 2, none⟩ u2).setCell ⟨b, 3, none⟩ u3
theorem Blk.set4 {w : World} {b : Nat} {t : TypeId} {a0 a1 a2 a3 : Value} (h : Blk w b t #[a0, a1, a2, a3]) (u0 u1 u2 u3 : Value) : Blk (set4 w b u0 u1 u2 u3) b t #[u0, u1, u2, u3] := (((h.set_ 0 _).set_ 1 _).set_ 2 _).set_ 3 _
theorem Blk.far4 {w : World} {g b : Nat} {t : TypeId} {cs : Array Value} (h : Blk w g t cs) (hn : g ≠ b) (u0 u1 u2 u3 : Value) : Blk (Go.Proofs.Ytbhbbnmllokglaa.set4 w b u0 u1 u2 u3) g t cs :=
  (((h.far (p := ⟨b, 0, none⟩) hn u0).far (p := ⟨b, 1, none⟩) hn u1).far (p := ⟨b, 2, none⟩) hn u2).far (p := ⟨b, 3, none⟩) hn u3
theorem below_set4 {B : Nat} {w0 w : World} (h : Below B w0 w) {b : Nat} (hb : B ≤ b) (u0 u1 u2 u3 : Value) : Below B w0 (set4 w b u0 u1 u2 u3) :=
  (((h.setCell (p := ⟨b, 0, none⟩) hb u0).setCell (p := ⟨b, 1, none⟩) hb u1).setCell (p := ⟨b, 2, none⟩) hb u2).setCell (p := ⟨b, 3, none⟩) hb u3
theorem OW.set4 {h : Nat} {w : World} {x : AW} {g1 g2 g3 n1 n3 d1 d2 d3 b : Nat} {cs : Array Value} (ho : OW h w x g1 g2 g3 n1 n3 d1 d2 d3) (hb : Blk w b 25 cs) (u0 u1 u2 u3 : Value) : OW h (Go.Proofs.Ytbhbbnmllokglaa.set4 w b u0 u1 u2 u3) x g1 g2 g3 n1 n3 d1 d2 d3 :=
  ⟨own_far4 ho.o1 (blk_neA ho.o1 hb (by decide)) _ _ _ _, own_far4 ho.o2 (blk_neA ho.o2 hb (by decide)) _ _ _ _, own_far4 ho.o3 (blk_neA ho.o3 hb (by decide)) _ _ _ _, ho.ne⟩
theorem OW.mono {h h' : Nat} {w : World} {x : AW} {g1 g2 g3 n1 n3 d1 d2 d3 : Nat} (ho : OW h w x g1 g2 g3 n1 n3 d1 d2 d3) (hh : h' ≤ h) : OW h' w x g1 g2 g3 n1 n3 d1 d2 d3 := ⟨own_mono ho.o1 hh, own_mono ho.o2 hh, own_mono ho.o3 hh, ho.ne⟩
theorem RW.next {h : Nat} {w0 w : World} {z : AW} {g1 g2 g3 n1 n3 d1 d2 d3 gt : Nat} {a0 a1 a2 a3 : Value} (Z : Blk w (h + 1) 25 #[.int .i64 0, .slice none 0 0, .slice none 0 0, .slice none 0 0]) (T : Blk w gt 25 #[a0, a1, a2, a3]) (O : OW h w z g1 g2 g3 n1 n3 d1 d2 d3) (B : Below h w0 w) (ne : h + 1 < gt) :
    RW h w0 (set4 w gt (.int .i64 z.slots) (.slice (some ⟨g1, 0, none⟩) n1 d1) (.slice (some ⟨g2, 0, none⟩) n1 d2) (.slice (some ⟨g3, 0, none⟩) n3 d3)) z g1 g2 g3 n1 n3 d1 d2 d3 gt :=
  ⟨Z.far4 (by omega) _ _ _ _, T.set4 _ _ _ _, O.set4 T _ _ _ _, below_set4 B (by omega) _ _ _ _, ne⟩

set_option maxHeartbeats 8000000 in
theorem Run_any (x : AW) (A1 A2 A3 AL : Option Addr) (n1 n3 c1 c2 c3 m cl : Nat) (ss : List St) (w : World) (hx : RW4 w x A1 A2 A3 n1 n1 n3 c1 c2 c3) (hv : ValidA x) (hs : RS w AL ss) (hm : ss.length = m) (hb : m ≤ 1000) (h1 : 0 < n1) (h3 : 0 < n3) :
    Calls Try.prog 15 #[.agg #[.int .i64 x.slots, .slice A1 n1 c1, .slice A2 n1 c2, .slice A3 n3 c3], .slice AL m cl] w (RunPost x ss n1 n3 w) := by
  have B1 := Lib.hid ((Below.refl w.heap.size w).alloc (Nat.le_refl _) (.cells #[.int .i64 x.slots, .slice A1 n1 c1, .slice A2 n1 c2, .slice A3 n3 c3] 25))
  have B2 := Lib.hid (B1.out.alloc B1.out.size (.cells #[.int .i64 0, .slice none 0 0, .slice none 0 0, .slice none 0 0] 25))
  have X2 := Lib.hid ((Blk.new w 25 #[.int .i64 x.slots, .slice A1 n1 c1, .slice A2 n1 c2, .slice A3 n3 c3]).alloc (.cells #[.int .i64 0, .slice none 0 0, .slice none 0 0, .slice none 0 0] 25))
  have Z2 := Lib.hid (Blk.new (w.alloc (.cells #[.int .i64 x.slots, .slice A1 n1 c1, .slice A2 n1 c2, .slice A3 n3 c3] 25)) 25 #[.int .i64 0, .slice none 0 0, .slice none 0 0, .slice none 0 0])
  simp only [World.size_alloc] at Z2
  have H := Lib.hid hx
  have V := Lib.hid hv
  have S := Lib.hid hs
  have M := Lib.hid hm
  clear hx hv hs hm B1
  go_enter Try.func15, Try.ntmps15
  go_wp2_with fail
  refine (Check_ok x A1 A2 A3 n1 n1 n3 c1 c2 c3 _ (H.out.below B2.out) V.out).mono ?_
  rintro e w3 ⟨rfl, hb3⟩
  have B3 := Lib.hid (B2.out.trans (hb3.mono B2.out.size))
  have X3 := Lib.hid (X2.out.below hb3 X2.out.lt)
  have Z3 := Lib.hid (Z2.out.below hb3 Z2.out.lt)
  clear hb3 X2 Z2 B2
  obtain ⟨x0, x1, x2, x3⟩ := blk4 X3.out
  go_wp2_with fail
  refine (Copy_any x A1 A2 A3 n1 n3 c1 c2 c3 _ (H.out.below B3.out) h1 h3).mono ?_
  rintro e w5 ⟨g1, g2, g3, d1, d2, d3, rfl, ho, hb5⟩
  have B5 := Lib.hid (B3.out.trans (hb5.mono B3.out.size))
  have Z5 := Lib.hid (Z3.out.below hb5 Z3.out.lt)
  have O5 := Lib.hid ho
  have Z4s := Lib.hid B3.out.size
  clear hb5 ho X3 Z3 B3 x0 x1 x2 x3
  have KB := Lib.hid ((Below.refl w5.heap.size w5).alloc (Nat.le_refl _) (.cells #[.int .i64 x.slots, .slice (some ⟨g1, 0, none⟩) n1 d1, .slice (some ⟨g2, 0, none⟩) n1 d2, .slice (some ⟨g3, 0, none⟩) n3 d3] 25))
  have D6 : Hid (RW w.heap.size w (w5.alloc (.cells #[.int .i64 x.slots, .slice (some ⟨g1, 0, none⟩) n1 d1, .slice (some ⟨g2, 0, none⟩) n1 d2, .slice (some ⟨g3, 0, none⟩) n3 d3] 25)) x g1 g2 g3 n1 n3 d1 d2 d3 w5.heap.size) :=
    ⟨Z5.out.alloc _, Blk.new _ _ _, ⟨own_mono (own_bel O5.out.o1 KB.out) Z4s.out, own_mono (own_bel O5.out.o2 KB.out) Z4s.out, own_mono (own_bel O5.out.o3 KB.out) Z4s.out, O5.out.ne⟩, B5.out.trans (KB.out.mono B5.out.size), Z5.out.lt⟩
  clear O5 Z5 B5 KB Z4s
  go_wp2_with fail
  have hgt : ∃ gt, gt = w5.heap.size := ⟨_, rfl⟩
  obtain ⟨gt, hgt⟩ := hgt
  rw [← hgt] at D6
  generalize hw6 : w5.alloc (.cells #[.int .i64 x.slots, .slice (some ⟨g1, 0, none⟩) n1 d1, .slice (some ⟨g2, 0, none⟩) n1 d2, .slice (some ⟨g3, 0, none⟩) n3 d3] 25) = w6 at D6 ⊢
  simp only [← hgt]
  clear hw6 hgt
  go_loopw [23] (fun i wr => ∃ (k : Nat) (z : AW) (g1 g2 g3 d1 d2 d3 : Nat), i = .int .i64 k ∧ k ≤ m ∧ Hid (runL x (ss.take k) = some z) ∧ Hid (RW w.heap.size w wr z g1 g2 g3 n1 n3 d1 d2 d3 gt)) (fun i _ => m - (intOf i).toNat)
  case atStart => exact ⟨0, x, g1, g2, g3, d1, d2, d3, rfl, by omega, rfl, D6⟩
  case round =>
    clear D6
    obtain ⟨k, z, j1, j2, j3, e1, e2, e3, rfl, hk, HR, D⟩ := hrel
    by_cases hlt : k < m
    · obtain ⟨s, hs⟩ := some_at (l := ss) (k := k) (by rw [M.out]; exact hlt)
      obtain ⟨b, o, rfl, hbb, s0, s1, s2, s3, s4⟩ := RS.at (RK.below S.out D.out.B) hs
      have HS := Lib.hid hs
      have HV := Lib.hid (runL_valid V.out HR.out)
      clear hs
      have KB := Lib.hid ((Below.refl wr.heap.size wr).alloc (Nat.le_refl _) (.cells #[.int .i64 s.kind, .int .i64 s.arm, .int .i64 s.part, .int .i64 s.slot, .int .i64 s.ticks] 79))
      have T7 := Lib.hid (D.out.T.below KB.out D.out.T.lt)
      have Z7 := Lib.hid (D.out.Z.below KB.out D.out.Z.lt)
      have B7 := Lib.hid (D.out.B.trans (KB.out.mono D.out.B.size))
      obtain ⟨t0, t1, t2, t3⟩ := blk4 T7.out
      have X7 := Lib.hid (Blk.new wr 79 #[.int .i64 s.kind, .int .i64 s.arm, .int .i64 s.part, .int .i64 s.slot, .int .i64 s.ticks])
      have RZ : Hid (RW4 (wr.alloc (.cells #[.int .i64 s.kind, .int .i64 s.arm, .int .i64 s.part, .int .i64 s.slot, .int .i64 s.ticks] 79)) z (some ⟨j1, 0, none⟩) (some ⟨j2, 0, none⟩) (some ⟨j3, 0, none⟩) n1 n1 n3 e1 e2 e3) := (D.out.O.rw4 H.out.b1 H.out.b3).below KB.out
      obtain ⟨r, hr⟩ : ∃ r, canP z ⟨s.kind, s.arm, s.part, s.slot, s.ticks⟩ = r := ⟨_, rfl⟩
      have HC := Lib.hid hr
      by_cases hr0 : r = 0
      · subst hr0
        clear hr
        go_wp2_with fail
        refine (Do_yes z _ _ _ n1 n3 e1 e2 e3 s.kind s.arm s.part s.slot s.ticks _ RZ.out HV.out h1 h3 HC).mono ?_
        rintro e w8 ⟨l1, l2, l3, f1, f2, f3, rfl, ho, hb8⟩
        have T8 := Lib.hid (T7.out.below hb8 T7.out.lt)
        have Z8 := Lib.hid (Z7.out.below hb8 Z7.out.lt)
        have B8 := Lib.hid (B7.out.trans (hb8.mono B7.out.size))
        have O8 := Lib.hid (ho.mono (Nat.le_trans B7.out.size (Nat.le_refl _)))
        have NE := Lib.hid D.out.ne
        have ZS := Lib.hid (doS_len z ⟨s.kind, s.arm, s.part, s.slot, s.ticks⟩).2.2.2
        have HR2 := Lib.hid (runL_snoc HR.out HS.out HC.out)
        clear hb8 ho t0 t1 t2 t3 T7 Z7 B7 X7 KB RZ D s0 s1 s2 s3 s4
        have K9 := Lib.hid ((Below.refl w8.heap.size w8).alloc (Nat.le_refl _) (.cells #[.int .i64 z.slots, .slice (some ⟨l1, 0, none⟩) n1 f1, .slice (some ⟨l2, 0, none⟩) n1 f2, .slice (some ⟨l3, 0, none⟩) n3 f3] 25))
        have T9 := Lib.hid (T8.out.below K9.out T8.out.lt)
        have D9 := Lib.hid (RW.next (z := doS z ⟨s.kind, s.arm, s.part, s.slot, s.ticks⟩) (Z8.out.below K9.out Z8.out.lt) T9.out (O8.out.bel K9.out) (B8.out.trans (K9.out.mono B8.out.size)) NE.out)
        rw [ZS.out] at D9
        unfold set4 at D9
        obtain ⟨t0, t1, t2, t3⟩ := blk4 T9.out
        obtain ⟨f0, f1', f2', f3'⟩ := frz T9.out
        go_wp2_with fail
        go_roundw
        case rel => exact ⟨k + 1, _, l1, l2, l3, f1, f2, f3, by go_num, by omega, HR2.out, D9.out⟩
        case measure => simp [intOf]; omega
      · have hr1 : (r != 0) = true := by simpa using hr0
        clear hr
        go_wp2_with fail
        refine (Do_no z _ _ _ n1 n3 e1 e2 e3 s.kind s.arm s.part s.slot s.ticks _ RZ.out HV.out r HC hr0).mono ?_
        rintro e w8 ⟨rfl, hb8⟩
        have Z8 := Lib.hid (Z7.out.below hb8 Z7.out.lt)
        have B8 := Lib.hid (B7.out.trans (hb8.mono B7.out.size))
        clear hb8 t0 t1 t2 t3 T7 Z7 B7 X7 KB RZ D s0 s1 s2 s3 s4
        have K9 := Lib.hid ((Below.refl w8.heap.size w8).alloc (Nat.le_refl _) (.cells #[.int .i64 0, .slice none 0 0, .slice none 0 0, .slice none 0 0] 25))
        have Z9 := Lib.hid (Z8.out.below K9.out Z8.out.lt)
        have B9 := Lib.hid (below_set4 (B8.out.trans (K9.out.mono B8.out.size)) (show w.heap.size ≤ w.heap.size + 1 by omega) (.int .i64 0) (.slice none 0 0) (.slice none 0 0) (.slice none 0 0))
        have Y9 := Lib.hid (Z9.out.set4 (.int .i64 0) (.slice none 0 0) (.slice none 0 0) (.slice none 0 0))
        obtain ⟨z0, z1, z2, z3⟩ := blk4 Z9.out
        obtain ⟨f0, f1', f2', f3'⟩ := frz Z9.out
        go_wp2_with fail
        unfold set4 at B9 Y9
        clear z0 z1 z2 z3 f0 f1' f2' f3'
        generalize ((((w8.alloc (.cells #[.int .i64 0, .slice none 0 0, .slice none 0 0, .slice none 0 0] 25)).setCell ⟨w.heap.size + 1, 0, none⟩ (.int .i64 0)).setCell ⟨w.heap.size + 1, 1, none⟩ (.slice none 0 0)).setCell ⟨w.heap.size + 1, 2, none⟩ (.slice none 0 0)).setCell ⟨w.heap.size + 1, 3, none⟩ (.slice none 0 0) = w9 at Y9 B9 ⊢
        obtain ⟨z0, z1, z2, z3⟩ := blk4 Y9.out
        refine bodyPost_ret (v := .tuple #[.agg #[.int .i64 0, .slice none 0 0, .slice none 0 0, .slice none 0 0], .int .i64 k, .int .i64 r]) (by simp [results, Try.results15, go_sem, z0, z1, z2, z3]) rfl ⟨B9.out, .inr ⟨k, z, s, HR.out, HS.out, ?_, ?_⟩⟩
        · have h := HC.out
          intro h2
          exact hr0 (h.symm.trans h2)
        · have h : canP z s = r := HC.out
          rw [h]
    · obtain ⟨t0, t1, t2, t3⟩ := blk4 D.out.T
      obtain ⟨z0, z1, z2, z3⟩ := blk4 D.out.Z
      obtain ⟨f0, f1, f2, f3⟩ := frz D.out.Z
      have hkm : k = m := by omega
      subst hkm
      have HR2 : Hid (runL x ss = some z) := by have := HR.out; rw [List.take_of_length_le (by rw [M.out]; omega)] at this; exact this
      have O9 := Lib.hid (D.out.O.set4 D.out.Z (.int .i64 z.slots) (.slice (some ⟨j1, 0, none⟩) n1 e1) (.slice (some ⟨j2, 0, none⟩) n1 e2) (.slice (some ⟨j3, 0, none⟩) n3 e3))
      have Y9 := Lib.hid (D.out.Z.set4 (.int .i64 z.slots) (.slice (some ⟨j1, 0, none⟩) n1 e1) (.slice (some ⟨j2, 0, none⟩) n1 e2) (.slice (some ⟨j3, 0, none⟩) n3 e3))
      have B9 := Lib.hid (below_set4 D.out.B (show w.heap.size ≤ w.heap.size + 1 by omega) (.int .i64 z.slots) (.slice (some ⟨j1, 0, none⟩) n1 e1) (.slice (some ⟨j2, 0, none⟩) n1 e2) (.slice (some ⟨j3, 0, none⟩) n3 e3))
      unfold set4 at O9 Y9 B9
      go_wp2_with fail
      clear t0 t1 t2 t3 z0 z1 z2 z3 f0 f1 f2 f3
      generalize (((wr.setCell ⟨w.heap.size + 1, 0, none⟩ (.int .i64 z.slots)).setCell ⟨w.heap.size + 1, 1, none⟩ (.slice (some ⟨j1, 0, none⟩) n1 e1)).setCell ⟨w.heap.size + 1, 2, none⟩ (.slice (some ⟨j2, 0, none⟩) n1 e2)).setCell ⟨w.heap.size + 1, 3, none⟩ (.slice (some ⟨j3, 0, none⟩) n3 e3) = w9 at O9 Y9 B9 ⊢
      obtain ⟨z0, z1, z2, z3⟩ := blk4 Y9.out
      refine bodyPost_ret (v := .tuple #[.agg #[.int .i64 z.slots, .slice (some ⟨j1, 0, none⟩) n1 e1, .slice (some ⟨j2, 0, none⟩) n1 e2, .slice (some ⟨j3, 0, none⟩) n3 e3], .int .i64 k, .int .i64 0]) (by simp [results, Try.results15, go_sem, z0, z1, z2, z3]) rfl ⟨B9.out, .inl ⟨z, j1, j2, j3, e1, e2, e3, HR2.out, O9.out, ?_⟩⟩
      rw [M.out]
end Go.Proofs.Ytbhbbnmllokglaa

namespace Go.Proofs.Ytbhbbnmllokglaa
open Go.RowKit Go.Sort
set_option linter.unusedVariables false
set_option maxRecDepth 100000

instance : Inhabited St := ⟨⟨0, 0, 0, 0, 0⟩⟩
def cmpS (s t : St) : Int := cmpL [s.kind, s.arm, s.part, s.slot, s.ticks] [t.kind, t.arm, t.part, t.slot, t.ticks]
/-- The order of steps. -/
def ltS (s t : St) : Prop := s.kind < t.kind ∨ s.kind = t.kind ∧ (s.arm < t.arm ∨ s.arm = t.arm ∧ (s.part < t.part ∨ s.part = t.part ∧ (s.slot < t.slot ∨ s.slot = t.slot ∧ s.ticks < t.ticks)))
theorem cmpS_lt (s t : St) : cmpS s t < 0 ↔ ltS s t := by
  obtain ⟨a, b, c, d, e⟩ := s
  obtain ⟨a', b', c', d', e'⟩ := t
  simp only [cmpS, cmpL, Lib.compareInt, ltS]
  by_cases h1 : a = a'
  · subst h1
    by_cases h2 : b = b'
    · subst h2
      by_cases h3 : c = c'
      · subst h3
        by_cases h4 : d = d'
        · subst h4
          by_cases h5 : e = e'
          · subst h5; simp
          · rcases Int.lt_or_gt_of_ne h5 with h | h <;> simp [h] <;> omega
        · rcases Int.lt_or_gt_of_ne h4 with h | h <;> simp [h, h4] <;> omega
      · rcases Int.lt_or_gt_of_ne h3 with h | h <;> simp [h, h3] <;> omega
    · rcases Int.lt_or_gt_of_ne h2 with h | h <;> simp [h, h2] <;> omega
  · rcases Int.lt_or_gt_of_ne h1 with h | h <;> simp [h, h1] <;> omega
theorem ltOf_S (s t : St) : ltOf cmpS s t = true ↔ ltS s t := by
  unfold ltOf
  rw [decide_eq_true_iff, cmpS_lt]
theorem ltOf_S' (s t : St) : ltOf cmpS s t = false ↔ ¬ ltS s t := by
  rw [← ltOf_S]; simp
theorem ltS_irr (s : St) : ¬ ltS s s := by unfold ltS; omega
theorem ltS_trans {f g h : St} (h1 : ltS f g) (h2 : ltS g h) : ltS f h := by unfold ltS at *; omega
theorem ltS_tri {f g : St} (h1 : ¬ ltS f g) (h2 : ¬ ltS g f) : f = g := by
  obtain ⟨a, b, c, d, e⟩ := f
  obtain ⟨x, y, z, u, v⟩ := g
  unfold ltS at *
  simp only [St.mk.injEq]
  simp only at h1 h2
  omega
theorem swoS : SWO (ltOf cmpS) where
  irrefl x := by rw [ltOf_S']; exact ltS_irr x
  trans x y z h1 h2 := by rw [ltOf_S] at *; exact ltS_trans h1 h2
  ntrans x y z h1 h2 := by rw [ltOf_S'] at *; unfold ltS at *; omega
theorem totS (x y : St) (h1 : ltOf cmpS x y = false) (h2 : ltOf cmpS y x = false) : x = y := by
  rw [ltOf_S'] at *; exact ltS_tri h1 h2

set_option maxHeartbeats 2000000 in
theorem CompareS_any (s t : St) (w : World) :
    Calls Try.prog 37 #[.agg #[.int .i64 s.kind, .int .i64 s.arm, .int .i64 s.part, .int .i64 s.slot, .int .i64 s.ticks], .agg #[.int .i64 t.kind, .int .i64 t.arm, .int .i64 t.part, .int .i64 t.slot, .int .i64 t.ticks]] w fun e w' => e = .returned (.int .i64 (cmpS s t)) ∧ ∃ q os, w' = grow (w.drewN q) os := by
  have X3 := Lib.hid ((Blk.new ((w.alloc (.cells #[.int .i64 s.kind, .int .i64 s.arm, .int .i64 s.part, .int .i64 s.slot, .int .i64 s.ticks] 79)).alloc (.cells #[.int .i64 t.kind, .int .i64 t.arm, .int .i64 t.part, .int .i64 t.slot, .int .i64 t.ticks] 79)) 3 #[.int .i64 s.kind, .int .i64 s.arm, .int .i64 s.part, .int .i64 s.slot, .int .i64 s.ticks]).alloc (.cells #[.int .i64 t.kind, .int .i64 t.arm, .int .i64 t.part, .int .i64 t.slot, .int .i64 t.ticks] 3))
  have X4 := Lib.hid (Blk.new (((w.alloc (.cells #[.int .i64 s.kind, .int .i64 s.arm, .int .i64 s.part, .int .i64 s.slot, .int .i64 s.ticks] 79)).alloc (.cells #[.int .i64 t.kind, .int .i64 t.arm, .int .i64 t.part, .int .i64 t.slot, .int .i64 t.ticks] 79)).alloc (.cells #[.int .i64 s.kind, .int .i64 s.arm, .int .i64 s.part, .int .i64 s.slot, .int .i64 s.ticks] 3)) 3 #[.int .i64 t.kind, .int .i64 t.arm, .int .i64 t.part, .int .i64 t.slot, .int .i64 t.ticks])
  simp only [World.size_alloc] at X3 X4
  go_enter Try.func37, Try.ntmps37
  go_wp2_with fail
  refine (compare_any _ _ 5 5 5 5 [s.kind, s.arm, s.part, s.slot, s.ticks] [t.kind, t.arm, t.part, t.slot, t.ticks] _ (cmpS s t) rfl rfl (by decide) (by decide) (RI.blk X3.out rfl) (RI.blk X4.out rfl) rfl).mono ?_
  rintro e w' ⟨rfl, rfl⟩
  go_wp2
  go_ret
  exact ⟨rfl, 0, _, by rw [alloc_eq_grow, alloc_eq_grow, alloc_eq_grow, alloc_eq_grow, grow_grow, grow_grow, grow_grow]; rfl⟩

theorem sortS_any (base : Nat) (v : Value) (n : Nat) (fs : List St) (w : World) (ho : w.ownsRow base 79 5 v n (flat St.cells fs)) (hn : fs.length = n) (hm : n ≤ 100000) (hbase : base ≤ w.heap.size) :
    Calls Try.prog 36 #[v, .func (.func 37) #[] #[]] w fun e w' => e = .returned (.tuple #[]) ∧ ∃ gs : List St, gs.Pairwise (fun x y => ¬ ltS y x) ∧ gs.Perm fs ∧ gs.length = n ∧ w'.ownsRow base 79 5 v n (flat St.cells gs) ∧ Below base w w' := by
  obtain ⟨A, c, rfl⟩ := own_slice ho
  rcases Nat.eq_zero_or_pos n with h0 | h0
  · subst h0
    refine (Try.slices_SortFunc_none_step (α := St) A c _ w).mono ?_
    rintro e w' ⟨rfl, rfl⟩
    exact ⟨rfl, fs, by rw [List.eq_nil_of_length_eq_zero hn]; exact List.Pairwise.nil, List.Perm.refl _, hn, ho, Below.refl _ _⟩
  · obtain ⟨g, cap, hv, _, hlt⟩ := ho.form h0
    cases hv
    have eg : ∀ args w, (callFunc 37 args).run Try.prog w = .ok (.enter 37 args) w := enters_of Try.func37 (by kernel_rfl) rfl
    have hH := holdsK_own St.len ho hn
    have hcon := Try.slices_SortFunc_total_step 5 Try.isAgg79 Try.sizeOf79 St.cells St.len St.one cmpS swoS 37 #[] g 0 c fs.toArray w eg (fun _ _ _ _ x y => CompareS_any x y _) hH hlt (by simp; omega) totS
    simp only [List.size_toArray, hn] at hcon
    refine hcon.mono ?_
    rintro e w' ⟨rfl, m, os, rfl⟩
    have hp := List.mergeSort_perm fs (fun x y => !(ltOf cmpS) y x)
    have hs := List.pairwise_mergeSort (le := fun x y => !(ltOf cmpS) y x) (fun a b c h1 h2 => by
      simp only [Bool.not_eq_true'] at *
      exact swoS.ntrans c b a h2 h1) (fun a b => by
      cases h : ltOf cmpS b a
      · rfl
      · have := (ltOf_S b a).1 h
        have h2 : ltOf cmpS a b = false := by rw [ltOf_S']; intro h3; exact ltS_irr _ (ltS_trans this h3)
        simp [h2]) fs
    have hl : (fs.mergeSort (fun x y => !(ltOf cmpS) y x)).length = n := by rw [hp.length_eq, hn]
    obtain ⟨h1, h2⟩ := own_sorted St.len ho hn hl m os
    refine ⟨rfl, _, hs.imp ?_, hp, hl, h1, h2⟩
    intro x y hxy
    simpa [ltOf_S'] using hxy
end Go.Proofs.Ytbhbbnmllokglaa

namespace Go.Proofs.Ytbhbbnmllokglaa
open Go.RowKit
set_option linter.unusedVariables false
set_option maxRecDepth 100000

theorem set_app5 (y : St) (l : List Value) (i r : Nat) (u : Value) : (y.cells ++ l).set ((i + 1) * 5 + r) u = y.cells ++ l.set (i * 5 + r) u := by
  rw [List.set_append_right _ _ (by rw [St.len]; omega), St.len, show (i + 1) * 5 + r - 5 = i * 5 + r by omega]
theorem flat_set5 : ∀ (ys : List St) (i : Nat) (v : St), i < ys.length →
    (((((flat St.cells ys).set (i * 5) (.int .i64 v.kind)).set (i * 5 + 1) (.int .i64 v.arm)).set (i * 5 + 2) (.int .i64 v.part)).set (i * 5 + 3) (.int .i64 v.slot)).set (i * 5 + 4) (.int .i64 v.ticks) = flat St.cells (ys.set i v)
  | [], i, v, h => by simp at h
  | y :: ys, 0, v, h => rfl
  | y :: ys, i + 1, v, h => by
    have ih := flat_set5 ys i v (by simpa using h)
    have e : flat St.cells (y :: ys) = y.cells ++ flat St.cells ys := by simp [flat]
    have e2 : flat St.cells ((y :: ys).set (i + 1) v) = y.cells ++ flat St.cells (ys.set i v) := by simp [flat]
    rw [e, e2, ← ih]
    have sr := fun (l : List Value) (r : Nat) (u : Value) => set_app5 y l i r u
    have s0 := sr (flat St.cells ys) 0 (.int .i64 v.kind)
    simp only [Nat.add_zero] at s0
    rw [s0, sr _ 1, sr _ 2, sr _ 3, sr _ 4]
abbrev set5 (w : World) (g o : Nat) (v : St) : World := ((((w.setCell ⟨g, o, none⟩ (.int .i64 v.kind)).setCell ⟨g, o + 1, none⟩ (.int .i64 v.arm)).setCell ⟨g, o + 2, none⟩ (.int .i64 v.part)).setCell ⟨g, o + 3, none⟩ (.int .i64 v.slot)).setCell ⟨g, o + 4, none⟩ (.int .i64 v.ticks)
theorem own_put5 {w : World} {B g n c : Nat} {ys : List St} (h : w.ownsRow B 79 5 (.slice (some ⟨g, 0, none⟩) n c) n (flat St.cells ys)) (i : Nat) (v : St) (hi : i < ys.length) :
    (set5 w g (i * 5) v).ownsRow B 79 5 (.slice (some ⟨g, 0, none⟩) n c) n (flat St.cells (ys.set i v)) := by
  rw [← flat_set5 ys i v hi]
  exact ((((h.stored _ _).1.stored _ _).1.stored _ _).1.stored _ _).1.stored _ _ |>.1
theorem below_set5 {B : Nat} {w0 w : World} (h : Below B w0 w) {g : Nat} (hg : B ≤ g) (o : Nat) (v : St) : Below B w0 (set5 w g o v) :=
  ((((h.setCell (p := ⟨g, o, none⟩) hg _).setCell (p := ⟨g, o + 1, none⟩) hg _).setCell (p := ⟨g, o + 2, none⟩) hg _).setCell (p := ⟨g, o + 3, none⟩) hg _).setCell (p := ⟨g, o + 4, none⟩) hg _

/-- The world that the closure of Steps looks at: its box, its rows. -/
structure CW (w : World) (gb : Nat) (x : AW) (A1 A2 A3 : Option Addr) (n1 n3 c1 c2 c3 : Nat) : Prop where
  T : Blk w gb 25 #[.int .i64 x.slots, .slice A1 n1 c1, .slice A2 n1 c2, .slice A3 n3 c3]
  R : RW4 w x A1 A2 A3 n1 n1 n3 c1 c2 c3
  V : ValidA x
theorem CW.bel {w w' : World} {gb : Nat} {x : AW} {A1 A2 A3 : Option Addr} {n1 n3 c1 c2 c3 : Nat} (h : CW w gb x A1 A2 A3 n1 n3 c1 c2 c3) (hb : Below w.heap.size w w') : CW w' gb x A1 A2 A3 n1 n3 c1 c2 c3 := ⟨h.T.below hb h.T.lt, h.R.below hb, h.V⟩
def noS (x : AW) (s : St) : Bool := decide (canP x s ≠ 0)

set_option maxHeartbeats 4000000 in
theorem del_any (gb : Nat) (x : AW) (A1 A2 A3 : Option Addr) (n1 n3 c1 c2 c3 : Nat) (s : St) (w : World) (h : CW w gb x A1 A2 A3 n1 n3 c1 c2 c3) :
    Calls Try.prog 34 #[.agg #[.int .i64 s.kind, .int .i64 s.arm, .int .i64 s.part, .int .i64 s.slot, .int .i64 s.ticks], .pointer (some ⟨gb, 0, none⟩)] w fun e w' => e = .returned (.bool (noS x s)) ∧ Below w.heap.size w w' := by
  have B1 := Lib.hid ((Below.refl w.heap.size w).alloc (Nat.le_refl _) (.cells #[.int .i64 s.kind, .int .i64 s.arm, .int .i64 s.part, .int .i64 s.slot, .int .i64 s.ticks] 79))
  have C1 := Lib.hid (h.bel B1.out)
  clear h
  obtain ⟨t0, t1, t2, t3⟩ := blk4 C1.out.T
  obtain ⟨r, hr⟩ : ∃ r, canP x ⟨s.kind, s.arm, s.part, s.slot, s.ticks⟩ = r := ⟨_, rfl⟩
  have HC := Lib.hid hr
  have hq : Hid ((r != 0) = noS x s) := by
    unfold Hid noS
    rw [← hr]
    show (canP x s != 0) = _
    by_cases e : canP x s = 0
    · rw [e]; rfl
    · rw [decide_eq_true e]; exact bne_iff_ne.2 e
  clear hr
  go_enter Try.func34, Try.ntmps34
  go_wp2_with fail
  refine (Can_any x A1 A2 A3 n1 n3 c1 c2 c3 s.kind s.arm s.part s.slot s.ticks _ C1.out.R C1.out.V r HC).mono ?_
  rintro e w2 ⟨rfl, hb⟩
  have B2 := Lib.hid (B1.out.trans (hb.mono B1.out.size))
  clear hb
  go_wp2_with fail
  go_ret
  exact ⟨ret_bool hq.out, B2.out⟩

theorem idxBy_none {α : Type} [Inhabited α] (p : α → Bool) (l : List α) (h : ∀ x ∈ l, p x = false) (i : Nat) : Lib.idxByFrom (fun _ y => p y) (default : α) l i = -1 := by
  induction l generalizing i with
  | nil => rfl
  | cons a l ih =>
    simp only [Lib.idxByFrom]
    rw [if_neg (by simp [h a])]
    exact ih (fun x hx => h x (List.mem_cons_of_mem _ hx)) _
theorem idxBy_some {α : Type} [Inhabited α] (p : α → Bool) : ∀ (l : List α) (i : Nat), (∃ x ∈ l, p x = true) → ∃ (k : Nat) (x : α), Lib.idxByFrom (fun _ y => p y) (default : α) l i = ((i + k : Nat) : Int) ∧ l[k]? = some x ∧ p x = true ∧ ∀ y ∈ l.take k, p y = false
  | [], i, h => by obtain ⟨x, hx, _⟩ := h; simp at hx
  | a :: l, i, h => by
    cases ha : p a with
    | true => exact ⟨0, a, by simp [Lib.idxByFrom, ha], rfl, ha, by simp⟩
    | false =>
      obtain ⟨x, hx, hp⟩ := h
      have hl : ∃ x ∈ l, p x = true := by
        rcases List.mem_cons.1 hx with rfl | hx
        · rw [ha] at hp; cases hp
        · exact ⟨x, hx, hp⟩
      obtain ⟨k, y, h1, h2, h3, h4⟩ := idxBy_some p l (i + 1) hl
      refine ⟨k + 1, y, ?_, by simpa using h2, h3, ?_⟩
      · simp only [Lib.idxByFrom, ha]
        rw [if_neg (by simp), h1]
        congr 1; omega
      · intro z hz
        rw [List.take_succ_cons] at hz
        rcases List.mem_cons.1 hz with rfl | hz
        · exact ha
        · exact h4 z hz
theorem own_shrink {w : World} {base g c i : Nat} {cs : Array Value} {xs : List Value} (hg : Blk w g 79 cs) (hb : base ≤ g) (hi : i ≤ c) (hc : c ≤ maxLen) (hs : cs.size = c * 5) (hx : cs.toList.take (i * 5) = xs) :
    w.ownsRow base 79 5 (.slice (some ⟨g, 0, none⟩) i c) i xs :=
  ⟨by rw [← hx, List.length_take, Array.length_toList, hs]; exact Nat.min_eq_left (Nat.mul_le_mul_right 5 hi), .inr ⟨g, c, cs, rfl, hb, hg, hi, hc, hs, hx⟩⟩
end Go.Proofs.Ytbhbbnmllokglaa

namespace Go.Proofs.Ytbhbbnmllokglaa
open Go.RowKit
set_option linter.unusedVariables false
set_option maxRecDepth 100000

theorem filter_take_snoc {α : Type} {p : α → Bool} {l : List α} {j : Nat} {x : α} (h : l[j]? = some x) : (l.take (j + 1)).filter p = (l.take j).filter p ++ if p x then [x] else [] := by
  rw [List.take_add_one, h, Option.toList_some, List.filter_append]
  congr 1
  cases hp : p x <;> simp [hp]

theorem blk_setCellsN {g : Nat} {t : TypeId} : ∀ (vs : List Value) (o : Nat) (w : World) (cs : Array Value), Blk w g t cs → ∃ cs', Blk (w.setCells g o vs) g t cs' ∧ cs'.size = cs.size ∧ ∀ j, j < o → cs'[j]? = cs[j]?
  | [], o, w, cs, h => ⟨cs, h, rfl, fun _ _ => rfl⟩
  | v :: r, o, w, cs, h => by
    obtain ⟨cs', h1, h3, h2⟩ := blk_setCellsN r (o + 1) (w.setCell ⟨g, o, none⟩ v) _ (h.set_ o v)
    refine ⟨cs', h1, by rw [h3, Array.size_setIfInBounds], fun j hj => ?_⟩
    rw [h2 j (by omega), Array.getElem?_setIfInBounds_ne (by omega)]
theorem own_blk {w : World} {base g c n : Nat} {xs : List Value} (h : w.ownsRow base 79 5 (.slice (some ⟨g, 0, none⟩) n c) n xs) : ∃ cs, Blk w g 79 cs ∧ base ≤ g ∧ n ≤ c ∧ c ≤ maxLen ∧ cs.size = c * 5 ∧ cs.toList.take (n * 5) = xs := by
  rcases h.2 with ⟨hv, _⟩ | ⟨g', cap, cur, hv, hB, hg, h1, h2, h3, h4⟩
  · cases hv
  · cases hv; exact ⟨cur, hg, hB, h1, h2, h3, h4⟩
set_option maxHeartbeats 4000000 in
theorem deleteS_any (w1 : World) (gb : Nat) (x : AW) (A1 A2 A3 : Option Addr) (n1 n3 c1 c2 c3 : Nat) (hc : CW w1 gb x A1 A2 A3 n1 n3 c1 c2 c3) (v : Value) (n : Nat) (xs : List St) (w : World) (hb : Below w1.heap.size w1 w) (ho : w.ownsRow w1.heap.size 79 5 v n (flat St.cells xs)) (hn : xs.length = n) (hn0 : 0 < n) (hm : n ≤ 1000) :
    Calls Try.prog 33 #[v, .func (.func 34) #[] #[.pointer (some ⟨gb, 0, none⟩)]] w fun e w' => ∃ A c, e = .returned (.slice A (xs.filter (fun s => !noS x s)).length c) ∧ w'.ownsRow w1.heap.size 79 5 (.slice A (xs.filter (fun s => !noS x s)).length c) (xs.filter (fun s => !noS x s)).length (flat St.cells (xs.filter (fun s => !noS x s))) ∧ Below w1.heap.size w1 w' := by
  obtain ⟨A, c, rfl⟩ := own_slice ho
  obtain ⟨g, cap, hv, _, hlt⟩ := ho.form hn0
  cases hv
  have C := Lib.hid hc
  have B0 := Lib.hid hb
  have O0 := Lib.hid ho
  have N0 := Lib.hid hn
  have eg : ∀ args w, (callFunc 34 args).run Try.prog w = .ok (.enter 34 args) w := enters_of Try.func34 (by kernel_rfl) rfl
  have hcon := Try.slices_IndexFunc 5 Try.isAgg79 Try.sizeOf79 St.cells St.len (noS x) 34 #[.pointer (some ⟨gb, 0, none⟩)] eg g 0 n c xs w (fun W s hW => (del_any gb x A1 A2 A3 n1 n3 c1 c2 c3 s W (C.out.bel (B0.out.trans (hW.mono B0.out.size)))).mono fun _ _ ⟨he, hb'⟩ => ⟨he, hW.trans (hb'.mono hW.size)⟩) (by omega) (by omega) hlt (fun j hj i u hu => by
    have := O0.out.cells (g := g) rfl _ _ (flat_at St.len (get_bang hj) hu)
    rw [Addr.add_lit, ← Nat.add_assoc] at this
    exact this)
  rw [List.take_of_length_le (by omega)] at hcon
  have HCON := Lib.hid hcon
  clear hc hb ho hn hcon eg
  by_cases hany : ∃ s ∈ xs, noS x s = true
  · obtain ⟨k, s0, h1, h2, h3, h4⟩ := idxBy_some (noS x) xs 0 hany
    rw [Nat.zero_add] at h1
    have hk := lt_of_at h2
    have hf0 : (xs.take (k + 1)).filter (fun s => !noS x s) = xs.take k := by
      rw [filter_take_snoc h2, h3]
      simp only [Bool.not_true, Bool.false_eq_true, if_false, List.append_nil]
      exact List.filter_eq_self.2 (fun s hs => by rw [h4 s hs]; rfl)
    have HI : Hid (Lib.idxBy (fun _ y => noS x y) xs default = (k : Int)) := h1
    have HF0 := Lib.hid hf0
    have hkn : k < n := by have := N0.out; omega
    clear hany h1 h2 h3 h4 hf0 hk
    go_enter Try.func33, Try.ntmps33
    go_wp2_with fail
    refine HCON.out.mono ?_
    rintro e w2 ⟨rfl, hb2⟩
    rw [HI.out]
    have hk1 : ((k : Int) == -1) = false := by simp
    have B2 := Lib.hid (B0.out.trans (hb2.mono B0.out.size))
    have O2 := Lib.hid (own_bel O0.out hb2)
    clear hb2 HI HCON O0 B0
    go_wp2_with fail
    go_loopw [5, 6] (fun i j wr => ∃ (i' j' : Nat) (ys : List St), i = .int .i64 i' ∧ j = .int .i64 j' ∧ i' < j' ∧ j' ≤ n ∧ Hid (ys.length = n) ∧ Hid (ys.take i' = (xs.take j').filter (fun s => !noS x s)) ∧ Hid (ys.drop j' = xs.drop j') ∧ Hid (wr.ownsRow w1.heap.size 79 5 (.slice (some ⟨g, 0, none⟩) n c) n (flat St.cells ys)) ∧ Hid (Below w1.heap.size w1 wr)) (fun _ j _ => n - (intOf j).toNat)
    case atStart => exact ⟨k, k + 1, xs, rfl, by go_num, by omega, by omega, N0, HF0.out.symm, rfl, O2, B2⟩
    case round =>
      clear O2 B2
      obtain ⟨i, j, ys, rfl, rfl, hij, hj, HL, HT, HD, O, B⟩ := hrel
      by_cases hlt2 : j < n
      · obtain ⟨s, hs⟩ := some_at (l := xs) (k := j) (by have := N0.out; omega)
        have hys : ys[j]? = some s := by
          have h1 := congrArg (fun l => l[0]?) HD.out
          simp only [List.getElem?_drop, Nat.add_zero] at h1
          rw [h1]; exact hs
        have cc := fun (t : Nat) (u : Value) (hu : s.cells[t]? = some u) => O.out.cells (g := g) rfl _ _ (flat_at St.len hys hu)
        have c0 := cc 0 _ rfl
        have c1' := cc 1 _ rfl
        have c2' := cc 2 _ rfl
        have c3' := cc 3 _ rfl
        have c4 := cc 4 _ rfl
        simp only [Addr.add_lit, Nat.zero_add, Nat.add_zero] at c0 c1' c2' c3' c4
        have KB := Lib.hid ((Below.refl wr.heap.size wr).alloc (Nat.le_refl _) (.cells #[.int .i64 s.kind, .int .i64 s.arm, .int .i64 s.part, .int .i64 s.slot, .int .i64 s.ticks] 79))
        have T7 := Lib.hid (Blk.new wr 79 #[.int .i64 s.kind, .int .i64 s.arm, .int .i64 s.part, .int .i64 s.slot, .int .i64 s.ticks])
        have B7 := Lib.hid (B.out.trans (KB.out.mono B.out.size))
        have O7 := Lib.hid (own_bel O.out KB.out)
        have C7 := Lib.hid (C.out.bel B7.out)
        have HS := Lib.hid hs
        have HYS := Lib.hid hys
        have hjI : (j : Int) < n := by omega
        obtain ⟨r, hr⟩ : ∃ r, noS x s = r := ⟨_, rfl⟩
        have HR := Lib.hid hr
        clear hs hys cc KB hr
        go_wp2_with fail
        refine (del_any gb x A1 A2 A3 n1 n3 c1 c2 c3 s _ C7.out).mono ?_
        rintro e w8 ⟨rfl, hb8⟩
        rw [HR.out]
        have B8 := Lib.hid (B7.out.trans (hb8.mono B7.out.size))
        have O8 := Lib.hid (own_bel O7.out hb8)
        have T8 := Lib.hid (T7.out.below hb8 T7.out.lt)
        clear hb8 c0 c1' c2' c3' c4 T7 B7 O7 C7
        cases r with
        | true =>
          have HT2 : Hid (ys.take i = (xs.take (j + 1)).filter (fun s => !noS x s)) := by
            unfold Hid
            rw [filter_take_snoc HS.out, HR.out]
            simpa using HT.out
          have HD2 : Hid (ys.drop (j + 1) = xs.drop (j + 1)) := by
            have h1 := congrArg (List.drop 1) HD.out
            unfold Hid
            simpa [List.drop_drop, Nat.add_comm] using h1
          go_wp2_with fail
          go_roundw
          case rel => exact ⟨i, j + 1, ys, rfl, by go_num, by omega, by omega, HL, HT2, HD2, O8, B8⟩
          case measure => simp [intOf]; omega
        | false =>
          obtain ⟨z, hz⟩ := some_at (l := ys) (k := i) (by have := HL.out; omega)
          have zc := fun (t : Nat) (u : Value) (hu : z.cells[t]? = some u) => O8.out.cells (g := g) rfl _ _ (flat_at St.len hz hu)
          have z0 := zc 0 _ rfl
          have z1 := zc 1 _ rfl
          have z2 := zc 2 _ rfl
          have z3 := zc 3 _ rfl
          have z4 := zc 4 _ rfl
          simp only [Addr.add_lit, Nat.zero_add, Nat.add_zero] at z0 z1 z2 z3 z4
          have f0 := O8.out.frozenAt (i * 5)
          have f1 := O8.out.frozenAt (i * 5 + 1)
          have f2 := O8.out.frozenAt (i * 5 + 2)
          have f3 := O8.out.frozenAt (i * 5 + 3)
          have f4 := O8.out.frozenAt (i * 5 + 4)
          have d0 := T8.out.cell 0
          have d1 := T8.out.cell 1
          have d2 := T8.out.cell 2
          have d3 := T8.out.cell 3
          have d4 := T8.out.cell 4
          have O9 := Lib.hid (own_put5 O8.out i s (by have := HL.out; omega))
          have B9 := Lib.hid (below_set5 B8.out (O8.out.lt g rfl).1 (i * 5) s)
          have HT2 : Hid ((ys.set i s).take (i + 1) = (xs.take (j + 1)).filter (fun s => !noS x s)) := by
            unfold Hid
            rw [filter_take_snoc HS.out, HR.out, List.take_add_one, List.take_set_of_le (Nat.le_refl _), HT.out]
            simp [show i < ys.length by have := HL.out; omega]
          have HD2 : Hid ((ys.set i s).drop (j + 1) = xs.drop (j + 1)) := by
            have h1 := congrArg (List.drop 1) HD.out
            unfold Hid
            rw [List.drop_set_of_lt (by omega)]
            simpa [List.drop_drop, Nat.add_comm] using h1
          have HL2 : Hid ((ys.set i s).length = n) := by unfold Hid; rw [List.length_set]; exact HL.out
          have hiI : (i : Int) < n := by omega
          clear hz zc
          unfold set5 at O9 B9
          go_wp2_with fail
          go_roundw
          case rel => exact ⟨i + 1, j + 1, _, by go_num, by go_num, by omega, by omega, HL2, HT2, HD2, O9, B9⟩
          case measure => simp [intOf]; omega
      · have hjn : j = n := by omega
        subst hjn
        have HF : Hid (ys.take i = xs.filter (fun s => !noS x s)) := by
          have h1 := HT.out
          have h2 : xs.take j = xs := List.take_of_length_le (by have := N0.out; omega)
          rw [h2] at h1
          exact h1
        obtain ⟨cs, hB, hbg, hnc, hcm, hsz, htk⟩ := own_blk O.out
        obtain ⟨vs, hcl⟩ := run_clear_rows (P := Try.prog) wr 37 79 0 _ 5 Try.underlying37 Try.zeroValue79 (by rfl) (by intro v hv; simp [Value.cells] at hv; rw [hv]; rfl) g (i * 5) (j - i) (c - i) (by omega)
          (fun t ht => by rw [hB.cell, Array.getElem?_eq_getElem (by omega)]; rfl)
          (fun t ht => hB.frozen _)
        obtain ⟨cs', hB', hsz', hkeep⟩ := blk_setCellsN vs (i * 5) wr cs hB
        have hlen : (xs.filter (fun s => !noS x s)).length = i := by rw [← HF.out, List.length_take]; have := HL.out; omega
        have htk' : cs'.toList.take (i * 5) = flat St.cells (xs.filter (fun s => !noS x s)) := by
          apply List.ext_getElem?
          intro t
          by_cases ht : t < i * 5
          · rw [List.getElem?_take_of_lt ht, Array.getElem?_toList, hkeep t ht]
            have h1 : (cs.toList.take (j * 5))[t]? = (flat St.cells ys)[t]? := by rw [htk]
            rw [List.getElem?_take_of_lt (by omega), Array.getElem?_toList] at h1
            rw [h1, ← HF.out]
            have e : flat St.cells ys = flat St.cells (ys.take i) ++ flat St.cells (ys.drop i) := by rw [← flat_append, List.take_append_drop]
            rw [e, List.getElem?_append_left (by rw [flat_len St.len, List.length_take]; have := HL.out; omega)]
          · rw [List.getElem?_eq_none (by rw [List.length_take]; omega), List.getElem?_eq_none (by rw [flat_len St.len, hlen]; omega)]
        have OF := Lib.hid (own_shrink (i := i) hB' hbg (by omega) hcm (by rw [hsz', hsz]) htk')
        have BF := Lib.hid (below_setCells hbg vs (i * 5) _ _ B.out)
        have HLEN := Lib.hid hlen
        have hiI : (i : Int) < j := by omega
        have hic : ¬ c = i := by omega
        have hic2 : i ≤ c := by omega
        clear hB' hkeep hsz' hsz htk htk' hlen hB HF
        generalize wr.setCells g (i * 5) vs = w9 at hcl OF BF
        go_wp2_with fail
        go_ret
        rw [HLEN.out]
        exact ⟨_, _, rfl, OF.out, BF.out⟩
  · have hnone := idxBy_none (noS x) xs (fun s hs => by
      cases h : noS x s with
      | false => rfl
      | true => exact absurd ⟨s, hs, h⟩ hany) 0
    have hfil : xs.filter (fun s => !noS x s) = xs := List.filter_eq_self.2 (fun s hs => by
      cases h : noS x s with
      | false => rfl
      | true => exact absurd ⟨s, hs, h⟩ hany)
    rw [hfil]
    have HN := Lib.hid hnone
    clear hany hfil hnone
    go_enter Try.func33, Try.ntmps33
    go_wp2_with fail
    refine HCON.out.mono ?_
    rintro e w2 ⟨rfl, hb2⟩
    have HI : Lib.idxBy (fun _ y => noS x y) xs default = -1 := HN.out
    rw [HI]
    have B2 := Lib.hid (B0.out.trans (hb2.mono B0.out.size))
    have O2 := Lib.hid (own_bel O0.out hb2)
    clear HI hb2
    go_wp2_with fail
    go_ret
    rw [N0.out]
    exact ⟨_, _, rfl, O2.out, B2.out⟩
end Go.Proofs.Ytbhbbnmllokglaa

namespace Go.Proofs.Ytbhbbnmllokglaa
open Go.RowKit
open Go.Maps (Keyed)
set_option linter.unusedVariables false
set_option maxRecDepth 100000

def fP (ps : List Int) : Int → Bool := fun y => decide (y ≠ -1 ∧ y ∈ ps)
theorem fP_snoc (ps : List Int) (u : Int) (c : Bool) (hc : c = decide (u ≠ -1)) : (fun y => if y = u then c else fP ps y) = fP (ps ++ [u]) := by
  funext y
  unfold fP
  by_cases e : y = u
  · subst e
    rw [if_pos rfl, hc]
    by_cases h : y = -1 <;> simp [h]
  · rw [if_neg e]
    simp [e]
structure PlOk (na ns : Nat) (ps : List Int) : Prop where
  rg : ∀ p ∈ ps, p < ns ∧ -1 - (na : Int) ≤ p
  di : Dis ps
theorem Dis.snoc {l : List Int} (h : Dis l) {u : Int} (hu : u = -1 ∨ u ∉ l) : Dis (l ++ [u]) := by
  intro i j p hij hi hj
  have hjl := lt_of_at hj
  simp at hjl
  have hil : i < l.length := by omega
  rw [List.getElem?_append_left hil] at hi
  by_cases e : j < l.length
  · rw [List.getElem?_append_left e] at hj
    exact h i j p hij hi hj
  · have : j = l.length := by omega
    subst this
    simp at hj
    subst hj
    rcases hu with hu | hu
    · exact hu
    · exact absurd (List.mem_of_getElem? hi) hu
theorem PlOk.snoc {na ns : Nat} {ps : List Int} (h : PlOk na ns ps) {u : Int} (h1 : u < ns) (h2 : -1 - (na : Int) ≤ u) (hu : u = -1 ∨ u ∉ ps) : PlOk na ns (ps ++ [u]) :=
  ⟨fun p hp => by
    rcases List.mem_append.1 hp with hp | hp
    · exact h.rg p hp
    · simp at hp; subst hp; exact ⟨h1, h2⟩, h.di.snoc hu⟩
theorem fP_no {ps : List Int} {u : Int} (h : fP ps u = false) : u = -1 ∨ u ∉ ps := by
  unfold fP at h
  by_cases e : u = -1
  · exact .inl e
  · exact .inr (fun hm => by simp [e, hm] at h)
theorem wf_small {x : Int} (h1 : -1000 ≤ x) (h2 : x ≤ 1000) : (Lit.int .i64 x).wf = true := by
  simp [Lit.wf, IntKind.min, IntKind.max, IntKind.signed, IntKind.bits]; omega
theorem fP_nil {w : World} {b : Nat} (h : BM w b 0 (fun _ => false)) : Hid (BM w b 0 (fP [])) := by
  have e : fP [] = fun _ => false := by funext y; simp [fP]
  unfold Hid
  rw [e]; exact h
structure SpOk (np ns : Nat) (qs : List Int) : Prop where
  rg : ∀ s ∈ qs, -1 ≤ s ∧ (s < ns ∨ 8 ≤ s) ∧ s < 8 + (np : Int)
  di : Dis qs
theorem SpOk.snoc {np ns : Nat} {qs : List Int} (h : SpOk np ns qs) {u : Int} (h1 : -1 ≤ u ∧ (u < ns ∨ 8 ≤ u) ∧ u < 8 + (np : Int)) (hu : u = -1 ∨ u ∉ qs) : SpOk np ns (qs ++ [u]) :=
  ⟨fun p hp => by
    rcases List.mem_append.1 hp with hp | hp
    · exact h.rg p hp
    · simp at hp; subst hp; exact h1, h.di.snoc hu⟩
theorem PW.rebase {h : Nat} {w0 w : World} {na np ns : Nat} {A P S : Option Addr} {ca cp cs : Nat} {ps : List Int} {ss : List Bool} {hs hs' : Nat} {A1 A2 : Option Addr} {c1 c2 : Nat} (p : PW h w0 w na np ns A P S ca cp cs ps ss [] hs A1 A2 none c1 c2 0) (hh : h ≤ hs') :
    PW h w0 w na np ns A P S ca cp cs ps ss [] hs' A1 A2 none c1 c2 0 := ⟨p.X, p.Z, p.st, p.T, p.op, p.os, World.ownsRow_nil _ _ _ _, hh, p.B⟩
theorem own_apart {a b : Value} (h : ∀ j, a.ownBlock = some j → b.ownBlock ≠ some j) : a.ownBlock = none ∨ a.ownBlock ≠ b.ownBlock := by
  cases ha : a.ownBlock with
  | none => exact .inl rfl
  | some j => exact .inr fun e => h j ha e.symm
theorem own_set4 {w : World} {t : TypeId} {cs' : Array Value} {g base n size : Nat} {e : TypeId} {v : Value} {xs : List Value} (ho : w.ownsRow base e size v n xs) (hg : Blk w g t cs') (hne : e ≠ t) (u0 u1 u2 u3 : Value) : (set4 w g u0 u1 u2 u3).ownsRow base e size v n xs :=
  own_set_far (own_set_far (own_set_far (own_set_far ho hg hne 0 u0) (hg.set_ 0 u0) hne 1 u1) ((hg.set_ 0 u0).set_ 1 u1) hne 2 u2) (((hg.set_ 0 u0).set_ 1 u1).set_ 2 u2) hne 3 u3
/-- A place that may be taken next. -/
def AtOk (na ns : Nat) (ps : List Int) (u : Int) : Prop := u < ns ∧ -1 - (na : Int) ≤ u ∧ (u = -1 ∨ u ∉ ps)

set_option maxHeartbeats 20000000 in
theorem World_any (na np ns : Nat) (A P S : Option Addr) (ca cp cs : Nat) (AL : Option Addr) (n c : Nat) (xs : List Int) (w : World) (hi : IntArg w AL n c xs) (ha : 1 ≤ na ∧ na ≤ 2) (hp : 1 ≤ np ∧ np ≤ 2) (hs : 1 ≤ ns ∧ ns ≤ 2) :
    Calls Try.prog 5 #[.agg (worksV na np ns A P S ca cp cs), .slice AL n c] w fun e w' => ∃ (x : AW) (g1 g2 g3 d1 d2 d3 : Nat), e = .returned (.agg #[.int .i64 x.slots, .slice (some ⟨g1, 0, none⟩) np d1, .slice (some ⟨g2, 0, none⟩) np d2, .slice (some ⟨g3, 0, none⟩) na d3]) ∧ OW w.heap.size w' x g1 g2 g3 np na d1 d2 d3 ∧ ValidA x ∧ x.slots = ns ∧ Below w.heap.size w w' := by
  obtain ⟨ha1, ha2⟩ := ha
  obtain ⟨hp1, hp2⟩ := hp
  obtain ⟨hs1, hs2⟩ := hs
  have hmm := @run_makeMap Try.prog
  have HI := Lib.hid hi
  clear hi
  have B1 := Lib.hid ((Below.refl w.heap.size w).alloc (Nat.le_refl _) (.cells (worksV na np ns A P S ca cp cs) 35))
  have B2 := Lib.hid (B1.out.alloc B1.out.size (.cells #[.int .i64 0, .slice none 0 0, .slice none 0 0, .slice none 0 0] 25))
  have S3 := Lib.hid (((HI.out.strm' B2.out).alloc (.cells #[.int .i64 ns, .slice none 0 0, .slice none 0 0, .slice none 0 0] 25)).alloc (.map #[] 0))
  have B3 := Lib.hid (B2.out.alloc B2.out.size (.cells #[.slice AL n c] 59))
  have B4 := Lib.hid (B3.out.alloc B3.out.size (.cells #[.int .i64 ns, .slice none 0 0, .slice none 0 0, .slice none 0 0] 25))
  have B5 := Lib.hid (B4.out.alloc B4.out.size (.map #[] 0))
  have X1 := Lib.hid (((((Blk.new w 35 (worksV na np ns A P S ca cp cs)).alloc (.cells #[.int .i64 0, .slice none 0 0, .slice none 0 0, .slice none 0 0] 25)).alloc (.cells #[.slice AL n c] 59)).alloc (.cells #[.int .i64 ns, .slice none 0 0, .slice none 0 0, .slice none 0 0] 25)).alloc (.map #[] 0))
  have X2 := Lib.hid ((((Blk.new (w.alloc (.cells (worksV na np ns A P S ca cp cs) 35)) 25 #[.int .i64 0, .slice none 0 0, .slice none 0 0, .slice none 0 0]).alloc (.cells #[.slice AL n c] 59)).alloc (.cells #[.int .i64 ns, .slice none 0 0, .slice none 0 0, .slice none 0 0] 25)).alloc (.map #[] 0))
  have X4 := Lib.hid ((Blk.new (((w.alloc (.cells (worksV na np ns A P S ca cp cs) 35)).alloc (.cells #[.int .i64 0, .slice none 0 0, .slice none 0 0, .slice none 0 0] 25)).alloc (.cells #[.slice AL n c] 59)) 25 #[.int .i64 ns, .slice none 0 0, .slice none 0 0, .slice none 0 0]).alloc (.map #[] 0))
  have M5 := Lib.hid (BM.made ((((w.alloc (.cells (worksV na np ns A P S ca cp cs) 35)).alloc (.cells #[.int .i64 0, .slice none 0 0, .slice none 0 0, .slice none 0 0] 25)).alloc (.cells #[.slice AL n c] 59)).alloc (.cells #[.int .i64 ns, .slice none 0 0, .slice none 0 0, .slice none 0 0] 25)))
  simp only [World.size_alloc] at S3 X2 X4 M5
  have P5 : Hid (PW w.heap.size w (((((w.alloc (.cells (worksV na np ns A P S ca cp cs) 35)).alloc (.cells #[.int .i64 0, .slice none 0 0, .slice none 0 0, .slice none 0 0] 25)).alloc (.cells #[.slice AL n c] 59)).alloc (.cells #[.int .i64 ns, .slice none 0 0, .slice none 0 0, .slice none 0 0] 25)).alloc (.map #[] 0)) na np ns A P S ca cp cs [] [] [] w.heap.size none none none 0 0 0) :=
    ⟨X1.out, X2.out, S3.out, X4.out, World.ownsRow_nil _ _ _ _, World.ownsRow_nil _ _ _ _, World.ownsRow_nil _ _ _ _, Nat.le_refl _, B5.out⟩
  clear B1 B2 S3 B3 B4 B5 X1 X2 X4 HI
  go_enter Try.func5, Try.ntmps5
  go_wp2_with fail
  generalize hw5 : ((((w.alloc (.cells (worksV na np ns A P S ca cp cs) 35)).alloc (.cells #[.int .i64 0, .slice none 0 0, .slice none 0 0, .slice none 0 0] 25)).alloc (.cells #[.slice AL n c] 59)).alloc (.cells #[.int .i64 ns, .slice none 0 0, .slice none 0 0, .slice none 0 0] 25)).alloc (.map #[] 0) = w5 at P5 M5 ⊢
  clear hw5
  clear hmm
  go_loopw [23] (fun i wr => ∃ (k : Nat) (ps : List Int) (ss : List Bool) (A1 A2 : Option Addr) (c1 c2 : Nat), i = .int .i64 k ∧ k ≤ np ∧ ps.length = k ∧ ss.length = k ∧ Hid (PlOk na ns ps) ∧ Hid (PW w.heap.size w wr na np ns A P S ca cp cs ps ss [] w.heap.size A1 A2 none c1 c2 0) ∧ Hid (BM wr (w.heap.size + 1 + 1 + 1 + 1) k (fP ps))) (fun i _ => np - (intOf i).toNat)
  case atStart => exact ⟨0, [], [], none, none, 0, 0, rfl, by omega, rfl, rfl, ⟨by simp, by intro i j p _ h; simp at h⟩, P5, fP_nil M5.out⟩
  case round =>
    clear P5 M5
    obtain ⟨k, ps, ss, A1, A2, c1, c2, rfl, hk, hl1, hl2, HP, PP, MM⟩ := hrel
    have HL1 := Lib.hid hl1
    have HL2 := Lib.hid hl2
    have XX := PP.out.X
    have x0 : wr.cell? ⟨w.heap.size, 0, none⟩ = some (.slice A na ca) := XX.cell 0
    have x2 : wr.cell? ⟨w.heap.size, 2, none⟩ = some (.slice P np cp) := XX.cell 2
    have x3 : wr.cell? ⟨w.heap.size, 3, none⟩ = some (.slice S ns cs) := XX.cell 3
    clear XX hl1 hl2
    by_cases hlt : k < np
    · go_upto_if 39 with (first
          | (go_at_call 17; refine (next_any w.heap.size (w.heap.size + 1 + 1) _ _ PP.out.st (by omega) (by omega)).mono ?_; rintro e w6 ⟨r, rfl, hr0, hr1, hs6, hg6⟩; have P6 := Lib.hid (PP.out.next hs6 hg6); have M6 := Lib.hid (MM.out.next PP.out hg6); have x0' := P6.out.X.cell 0; have x3' := P6.out.X.cell 3; clear hs6 hg6))
      clear x0 x2 x3 PP MM
      go_cut [8] (fun s8 wx => ∃ u : Int, s8 = .int .i64 u ∧ Hid (u < ns ∧ -1 - (na : Int) ≤ u) ∧ wx = w6)
      case first =>
        go_wp2_with fail
        all_goals
          go_meet
          exact ⟨_, rfl, (show _ ∧ _ from ⟨by omega, by omega⟩), rfl⟩
      case rest =>
        obtain ⟨u, rfl, HU, rfl⟩ := hcut
        have hu1 := HU.out.1
        have hu2 := HU.out.2
        go_upto_if 58 with (at_lookup; refine wpList_lookup_bm _ rfl _ _ _ rfl Try.underlying60 (w.heap.size + 1 + 1 + 1 + 1) k (fP ps) rfl M6.out u rfl (wf_small (by omega) (by omega)) ?_)
        go_frame
        go_cut [8] (fun s8 wx => ∃ v : Int, s8 = .int .i64 v ∧ Hid (AtOk na ns ps v) ∧ wx = wc)
        case first =>
          go_wp2_with fail
          all_goals
            go_meet
            first
            | exact ⟨-1, rfl, (show AtOk na ns ps (-1) from ⟨by omega, by omega, .inl rfl⟩), rfl⟩
            | exact ⟨u, rfl, (show AtOk na ns ps u from ⟨hu1, hu2, fP_no (by assumption)⟩), rfl⟩
            | trace_state
        case rest =>
          clear HU hu1 hu2
          obtain ⟨v, rfl, HV, hwx⟩ := hcut
          subst hwx
          have hv1 := HV.out.1
          have hv2 := HV.out.2.1
          have hk1 : k < 1000 := by omega
          have hl1 : ps.length ≤ 2 := by have := HL1.out; omega
          have hl2 : ss.length ≤ 2 := by have := HL2.out; omega
          have LP : Hid (PlOk na ns (ps ++ [v])) := HP.out.snoc HV.out.1 HV.out.2.1 HV.out.2.2
          obtain ⟨i0, ii, iz0, iz1, iz2⟩ := info_parts info_int
          obtain ⟨j0, ji, jz0, jz1, jz2⟩ := info_parts info_bool
          obtain ⟨cc, hcc⟩ : ∃ cc, cc = decide (v ≠ -1) := ⟨_, rfl⟩
          have HC := Lib.hid hcc
          have hcc2 : (v != -1) = cc := by rw [hcc]; by_cases e : v = -1 <;> simp [e]
          clear hcc
          go_wp2_with (first
            | (at_mapUpdate; refine wpList_update_bm _ rfl _ _ _ _ rfl Try.underlying60 (w.heap.size + 1 + 1 + 1 + 1) k (fP ps) rfl M6.out hk1 v rfl (wf_small (by omega) (by omega)) cc rfl ?_; intro w7 hm7 hg7; have P7 := Lib.hid (P6.out.map M6.out (by omega) hg7); rw [fP_snoc ps v cc HC.out] at hm7; have M7 := Lib.hid hm7; clear hm7 hg7; have t1 := P7.out.T.cell 1)
            | (at_builtin; have KA := Lib.hid ((Below.refl w7.heap.size w7).alloc (Nat.le_refl _) (.cells #[.int .i64 v] 3)); have Q7 := Lib.hid (P7.out.keep KA.out); have N7 := Lib.hid (M7.out.below KA.out); clear KA; refine wpList_append_one _ rfl (.tmp 64) (.tmp 66) 22 rfl w.heap.size 3 i0 (.int .i64 0) 8 Try.underlying22 ii iz0 iz1 iz2 rfl (.slice A1 ps.length c1) ps.length _ rfl Q7.out.op w7.heap.size (.int .i64 v) rfl (World.cell?_alloc_at _ _ _ _ rfl) rfl (by unfold maxLen; omega) (by omega) Q7.out.le ?_; intro v8 w8 hown8 hg8; obtain ⟨B1, e1, hv8⟩ := own_slice hown8; subst hv8; have P8 := Lib.hid (Q7.out.place hown8 hg8 (.inl rfl)); have M8 := Lib.hid (N7.out.place Q7.out hg8 (.slice B1 (ps.length + 1) e1)); have t8 := (Q7.out.T.grown hg8 (own_blk_ne' Q7.out.T Q7.out.op (by decide))).cell 1; have g8 := (Q7.out.T.grown hg8 (own_blk_ne' Q7.out.T Q7.out.op (by decide))).frozen 1; clear hown8 hg8))
          clear t8 g8 t1
          generalize w8.setCell ⟨w.heap.size + 1 + 1 + 1, 1, none⟩ (.slice B1 (ps.length + 1) e1) = w9 at P8 M8 ⊢
          replace P8 := Lib.hid (P8.out.keep (Below.refl w9.heap.size w9).drew)
          replace M8 := Lib.hid (M8.out.below (Below.refl w9.heap.size w9).drew)
          have t2 := P8.out.T.cell 2
          go_region_law (first
            | (go_simp; go_at_call 17; refine (next_any w.heap.size (w.heap.size + 1 + 1) 2 _ P8.out.st (by omega) (by omega)).mono ?_; rintro e w10 ⟨r2, rfl, hq0, hq1, hs10, hg10⟩; have P10 := Lib.hid (P8.out.next hs10 hg10); have M10 := Lib.hid (M8.out.next P8.out hg10); have KA := Lib.hid ((Below.refl w10.heap.size w10).alloc (Nat.le_refl _) (.cells #[.bool (r2 == 1)] 4)); have Q10 := Lib.hid (P10.out.keep KA.out); have N10 := Lib.hid (M10.out.below KA.out); have t10 := P10.out.T.cell 2; have t11 := Q10.out.T.cell 2; clear hs10 hg10 KA)
            | (refine step_append_src _ rfl (.tmp 70) (.tmp 74) 23 rfl w.heap.size 4 j0 _ 1 1 Try.underlying23 ji jz0 jz1 jz2 rfl (by decide) (.slice A2 ss.length c2) ss.length _ rfl Q10.out.os 1 _ _ rfl (Src.new (m := 1) (c := 1) (size := 1) (Blk.new _ 4 #[.bool (r2 == 1)]) rfl) (by intro u hu; simp at hu; subst hu; rfl) (by unfold maxLen; omega) (by omega) Q10.out.le ?_; intro v11 w11 hown11 hg11; obtain ⟨B2, e2, hv11⟩ := own_slice hown11; subst hv11; have P11 := Lib.hid (Q10.out.seen (u := (r2 == 1)) hown11 hg11); have M11 := Lib.hid (N10.out.seen Q10.out hg11 (.slice B2 (ss.length + 1) e2)); have t12 := (Q10.out.T.grown hg11 (own_blk_ne' Q10.out.T Q10.out.os (by decide))).cell 2; have g12 := (Q10.out.T.grown hg11 (own_blk_ne' Q10.out.T Q10.out.os (by decide))).frozen 2; clear hown11 hg11))
          all_goals
            go_wp2_with fail
            go_roundw
            case rel => exact ⟨k + 1, ps ++ [v], _, B1, B2, e1, e2, by go_num, by omega, by simp [HL1.out], by simp [HL2.out], LP, P11, M11⟩
            case measure => simp [intOf]; omega
    · have hkn : k = np := by omega
      subst hkn
      have HB1 : Hid (∀ j, (Value.slice A1 ps.length c1).ownBlock = some j → j < wr.heap.size) := fun j hj => (PP.out.op.lt j hj).2
      have KM := Lib.hid ((Below.refl wr.heap.size wr).alloc (Nat.le_refl _) (.map #[] 0))
      have P1 := Lib.hid (PW.rebase (PP.out.keep KM.out) PP.out.le)
      have M1 := Lib.hid (fP_nil (BM.made wr))
      have hmm := @run_makeMap Try.prog
      have x0m := (PP.out.X.alloc (.map #[] 0)).cell 0
      clear MM KM
      go_wp2_with fail
      clear x0m
      obtain ⟨hs, hhs⟩ : ∃ hs, hs = wr.heap.size := ⟨_, rfl⟩
      generalize hw1 : wr.alloc (.map #[] 0) = w1 at P1 M1 ⊢
      simp only [← hhs] at HB1 P1 M1 ⊢
      clear hw1 hmm PP x0 x2 x3 hhs
      go_loopw [82] (fun i wr => ∃ (q : Nat) (qs : List Int) (A3 : Option Addr) (c3 : Nat), i = .int .i64 q ∧ q ≤ na ∧ qs.length = q ∧ Hid (SpOk k ns qs) ∧ Hid (PW w.heap.size w wr na k ns A P S ca cp cs ps ss qs hs A1 A2 A3 c1 c2 c3) ∧ Hid (BM wr hs q (fP qs))) (fun i _ => na - (intOf i).toNat)
      case atStart => exact ⟨0, [], none, 0, rfl, by omega, rfl, ⟨by simp, by intro i j p _ h; simp at h⟩, P1, M1.out⟩
      case round =>
        clear P1 M1
        obtain ⟨q, qs, A3, c3, rfl, hq, hl3, HQ, PP, MM⟩ := hrel
        have HL3 := Lib.hid hl3
        have hl4 : qs.length ≤ 2 := by omega
        have x0 : wr.cell? ⟨w.heap.size, 0, none⟩ = some (.slice A na ca) := PP.out.X.cell 0
        have x2 : wr.cell? ⟨w.heap.size, 2, none⟩ = some (.slice P k cp) := PP.out.X.cell 2
        have x3 : wr.cell? ⟨w.heap.size, 3, none⟩ = some (.slice S ns cs) := PP.out.X.cell 3
        clear hl3
        by_cases hlt : q < na
        · go_upto_if 118 with (first
              | (go_at_call 17; refine (next_any w.heap.size (w.heap.size + 1 + 1) _ _ PP.out.st (by omega) (by omega)).mono ?_; rintro e w6 ⟨r, rfl, hr0, hr1, hs6, hg6⟩; have P6 := Lib.hid (PP.out.next hs6 hg6); have M6 := Lib.hid (MM.out.next PP.out hg6); have x0' := P6.out.X.cell 0; have x2' := P6.out.X.cell 2; have x3' := P6.out.X.cell 3; clear hs6 hg6)
              | (at_lookup; refine wpList_lookup_bm _ rfl _ _ _ rfl Try.underlying60 hs q (fP qs) rfl M6.out _ rfl (wf_small (by omega) (by omega)) ?_))
          all_goals
            (try go_frame)
            clear x0 x2 x3 PP MM
            go_cut [11] (fun s8 wx => ∃ v : Int, s8 = .int .i64 v ∧ Hid ((-1 ≤ v ∧ (v < ns ∨ 8 ≤ v) ∧ v < 8 + (k : Int)) ∧ (v = -1 ∨ v ∉ qs)) ∧ wx = w6)
            case first =>
              go_wp2_with fail
              all_goals
                go_meet
                first
                | exact ⟨-1, rfl, (show _ ∧ _ from ⟨⟨by omega, by omega, by omega⟩, .inl rfl⟩), rfl⟩
                | exact ⟨_, rfl, (show _ ∧ _ from ⟨⟨by omega, by omega, by omega⟩, fP_no (by assumption)⟩), rfl⟩
            case rest =>
              obtain ⟨v, rfl, HV, hwx⟩ := hcut
              subst hwx
              have hv1 := HV.out.1.1
              have hv2 := HV.out.1.2.2
              have hk1 : q < 1000 := by omega
              have LQ : Hid (SpOk k ns (qs ++ [v])) := HQ.out.snoc HV.out.1 HV.out.2
              obtain ⟨i0, ii, iz0, iz1, iz2⟩ := info_parts info_int
              obtain ⟨cc, hcc⟩ : ∃ cc, cc = decide (v ≠ -1) := ⟨_, rfl⟩
              have HC := Lib.hid hcc
              have hcc2 : (v != -1) = cc := by rw [hcc]; by_cases e : v = -1 <;> simp [e]
              have hle : w.heap.size ≤ hs := P6.out.hh
              have HNE : Hid (∀ j, (Value.slice A1 ps.length c1).ownBlock = some j → (Value.slice A3 qs.length c3).ownBlock ≠ some j) := fun j hj he => by
                have h1 := HB1.out j hj
                have h2 := (P6.out.oq.lt j he).1
                omega
              clear hcc
              go_wp2_with (first
                | (at_mapUpdate; refine wpList_update_bm _ rfl _ _ _ _ rfl Try.underlying60 hs q (fP qs) rfl M6.out hk1 v rfl (wf_small (by omega) (by omega)) cc rfl ?_; intro w7 hm7 hg7; have P7 := Lib.hid (P6.out.map M6.out hle hg7); rw [fP_snoc qs v cc HC.out] at hm7; have M7 := Lib.hid hm7; clear hm7 hg7; have t1 := P7.out.T.cell 3)
                | (at_builtin; have KA := Lib.hid ((Below.refl w7.heap.size w7).alloc (Nat.le_refl _) (.cells #[.int .i64 v] 3)); have Q7 := Lib.hid (P7.out.keep KA.out); have N7 := Lib.hid (M7.out.below KA.out); clear KA; have LB : Hid (hs ≤ (w7.alloc (.cells #[.int .i64 v] 3)).heap.size) := Nat.le_of_lt N7.out.lt; refine wpList_append_one _ rfl (.tmp 124) (.tmp 126) 22 rfl hs 3 i0 (.int .i64 0) 8 Try.underlying22 ii iz0 iz1 iz2 rfl (.slice A3 qs.length c3) qs.length _ rfl Q7.out.oq w7.heap.size (.int .i64 v) rfl (World.cell?_alloc_at _ _ _ _ rfl) rfl (by unfold maxLen; omega) (by omega) LB.out ?_; intro v8 w8 hown8 hg8; obtain ⟨B3, e3, hv8⟩ := own_slice hown8; subst hv8; have P8 := Lib.hid (Q7.out.spot hown8 hg8 (own_apart HNE.out)); have M8 := Lib.hid (N7.out.spot Q7.out hg8 (.slice B3 (qs.length + 1) e3)); have t8 := (Q7.out.T.grown hg8 (own_blk_ne' Q7.out.T Q7.out.oq (by decide))).cell 3; have g8 := (Q7.out.T.grown hg8 (own_blk_ne' Q7.out.T Q7.out.oq (by decide))).frozen 3; clear hown8 hg8))
              go_roundw
              case rel => exact ⟨q + 1, qs ++ [v], B3, e3, by go_num, by omega, by simp [HL3.out], LQ, P8, M8⟩
              case measure => simp [intOf]; omega
        · have hqn : q = na := by omega
          subst hqn
          clear x0 x2 x3 hlt hq
          obtain ⟨t0, t1, t2, t3⟩ := blk4 PP.out.T
          have ZZ : Blk wr (w.heap.size + 1) 25 #[.int .i64 0, .slice none 0 0, .slice none 0 0, .slice none 0 0] := PP.out.Z
          obtain ⟨z0, z1, z2, z3⟩ := blk4 ZZ
          obtain ⟨f0, f1, f2, f3⟩ := frz ZZ
          have ZH := Lib.hid ZZ
          clear ZZ
          have hkl : k = ps.length := HL1.out.symm
          have hql : q = qs.length := HL3.out.symm
          have hsl : ss.length = ps.length := by rw [HL2.out, HL1.out]
          have Y9 := Lib.hid (ZH.out.set4 (.int .i64 ns) (.slice A1 ps.length c1) (.slice A2 ss.length c2) (.slice A3 qs.length c3))
          have B9 := Lib.hid (below_set4 PP.out.B (show w.heap.size ≤ w.heap.size + 1 by omega) (.int .i64 ns) (.slice A1 ps.length c1) (.slice A2 ss.length c2) (.slice A3 qs.length c3))
          have O1 := Lib.hid (own_set4 PP.out.op ZH.out (by decide) (.int .i64 ns) (.slice A1 ps.length c1) (.slice A2 ss.length c2) (.slice A3 qs.length c3))
          have O2 := Lib.hid (own_set4 PP.out.os ZH.out (by decide) (.int .i64 ns) (.slice A1 ps.length c1) (.slice A2 ss.length c2) (.slice A3 qs.length c3))
          have O3 := Lib.hid (own_set4 PP.out.oq ZH.out (by decide) (.int .i64 ns) (.slice A1 ps.length c1) (.slice A2 ss.length c2) (.slice A3 qs.length c3))
          have HH := Lib.hid PP.out.hh
          have NE : Hid (∀ j, (Value.slice A1 ps.length c1).ownBlock = some j → (Value.slice A3 qs.length c3).ownBlock ≠ some j) := fun j hj he => by
            have h1 := HB1.out j hj
            have h2 := (PP.out.oq.lt j he).1
            omega
          have HKL := Lib.hid hkl
          have HQL := Lib.hid hql
          have HSL := Lib.hid hsl
          unfold set4 at Y9 B9 O1 O2 O3
          clear hkl hql hsl PP MM
          go_wp2_with fail
          clear t0 t1 t2 t3 z0 z1 z2 z3 f0 f1 f2 f3 ZH
          generalize (((wr.setCell ⟨w.heap.size + 1, 0, none⟩ (.int .i64 ns)).setCell ⟨w.heap.size + 1, 1, none⟩ (.slice A1 ps.length c1)).setCell ⟨w.heap.size + 1, 2, none⟩ (.slice A2 ss.length c2)).setCell ⟨w.heap.size + 1, 3, none⟩ (.slice A3 qs.length c3) = w9 at Y9 B9 O1 O2 O3 ⊢
          obtain ⟨z0, z1, z2, z3⟩ := blk4 Y9.out
          obtain ⟨g1, d1, hv1, _⟩ := O1.out.form (by rw [HL1.out]; omega)
          obtain ⟨g2, d2, hv2, _⟩ := O2.out.form (by rw [HL2.out]; omega)
          obtain ⟨g3, d3, hv3, _⟩ := O3.out.form (by rw [HL3.out]; omega)
          cases hv1
          cases hv2
          cases hv3
          refine bodyPost_ret (v := .agg #[.int .i64 ns, .slice (some ⟨g1, 0, none⟩) ps.length c1, .slice (some ⟨g2, 0, none⟩) ss.length c2, .slice (some ⟨g3, 0, none⟩) qs.length c3]) (by simp [results, Try.results5, go_sem, z0, z1, z2, z3]) rfl ?_
          refine ⟨⟨ns, ps, ss, qs⟩, g1, g2, g3, c1, c2, c3, ?_, ?_, ?_, rfl, B9.out⟩
          · rw [HKL.out, HQL.out, HSL.out]
          · have o1 := O1.out
            have o2 := O2.out
            have o3 := own_mono O3.out HH.out
            rw [HSL.out] at o2
            rw [HKL.out, HQL.out]
            exact ⟨o1, o2, o3, fun e => NE.out g1 rfl (by rw [e]; rfl)⟩
          · refine (validA_iff _).2 ⟨by simp, by simp; omega, by simp only; have := HL1.out; omega, by simp only; have := HL3.out; omega, HSL.out, fun p hp => ?_, HP.out.di, fun s hs => ?_, HQ.out.di⟩
            · have := HP.out.rg p hp
              simp only at *
              rw [← HQL.out]
              omega
            · have := HQ.out.rg s hs
              simp only at *
              rw [← HKL.out]
              omega
end Go.Proofs.Ytbhbbnmllokglaa

namespace Go.Proofs.Ytbhbbnmllokglaa
open Go.RowKit
set_option linter.unusedVariables false
set_option maxRecDepth 100000

/-- Where Start stands: the works' box, the result's box, the world that is made (block gt), its rows. -/
structure SQ (h gt : Nat) (w0 w : World) (na np ns : Nat) (A P S : Option Addr) (ca cp cs : Nat) (k q : Nat) (hs g2 : Nat) (A1 A3 : Option Addr) (c1 c3 : Nat) : Prop where
  X : Blk w h 35 (worksV na np ns A P S ca cp cs)
  Z : Blk w (h + 1) 25 #[.int .i64 0, .slice none 0 0, .slice none 0 0, .slice none 0 0]
  T : Blk w gt 25 #[.int .i64 ns, .slice A1 k c1, .slice (some ⟨g2, 0, none⟩) np np, .slice A3 q c3]
  op : w.ownsRow h 3 1 (.slice A1 k c1) k ((List.replicate k (-1)).map (Value.int .i64))
  os : w.ownsRow h 4 1 (.slice (some ⟨g2, 0, none⟩) np np) np ((List.replicate np false).map Value.bool)
  oq : w.ownsRow hs 3 1 (.slice A3 q c3) q ((List.replicate q (-1)).map (Value.int .i64))
  hh : h ≤ hs
  ng : h + 1 < gt
  B : Below h w0 w

theorem made_bool (n : Nat) : madeCells #[.bool false] n = ((List.replicate n false).map Value.bool).toArray := by
  apply Array.ext
  · simp [size_madeCells]
  · intro i h1 h2
    simp [madeCells, Nat.mod_one]
theorem own_made (w : World) (h n : Nat) (hh : h ≤ w.heap.size) (hn : n ≤ 1000) : (w.alloc (.cells (madeCells #[.bool false] n) 4)).ownsRow h 4 1 (.slice (some ⟨w.heap.size, 0, none⟩) n n) n ((List.replicate n false).map Value.bool) := by
  have := World.ownsRow_lit (base := h) (e := 4) (size := 1) w (madeCells #[.bool false] n) n hh (by unfold maxLen; omega) (by simp [size_madeCells])
  rw [made_bool] at this ⊢
  simpa using this
section
variable {h gt : Nat} {w0 w w' : World} {na np ns : Nat} {A P S : Option Addr} {ca cp cs : Nat}
theorem SQ.made1 (X : Blk w h 35 (worksV na np ns A P S ca cp cs)) (Z : Blk w (h + 1) 25 #[.int .i64 0, .slice none 0 0, .slice none 0 0, .slice none 0 0]) (B : Below h w0 w) (hs : w.heap.size = h + 1 + 1) (hn : np ≤ 1000) :
    SQ h (w.heap.size + 1) w0 ((w.alloc (.cells (madeCells #[.bool false] np) 4)).alloc (.cells #[.int .i64 ns, .slice none 0 0, .slice (some ⟨w.heap.size, 0, none⟩) np np, .slice none 0 0] 25)).drew na np ns A P S ca cp cs 0 0 h w.heap.size none none 0 0 :=
  ⟨(X.alloc _).alloc _, (Z.alloc _).alloc _, blk_two _ _ _ _, World.ownsRow_nil _ _ _ _, (own_made w h np (by omega) hn).alloc _, World.ownsRow_nil _ _ _ _, Nat.le_refl _, by omega, ((B.alloc (by omega) _).alloc (by simp; omega) _).drew⟩
theorem SQ.made2 (X : Blk w h 35 (worksV na np ns A P S ca cp cs)) (Z : Blk w (h + 1) 25 #[.int .i64 0, .slice none 0 0, .slice none 0 0, .slice none 0 0]) (B : Below h w0 w) (hs : w.heap.size = h + 1 + 1) (hn : np ≤ 1000) :
    SQ h w.heap.size w0 ((w.alloc (.cells #[.int .i64 ns, .slice none 0 0, .slice (some ⟨w.heap.size + 1, 0, none⟩) np np, .slice none 0 0] 25)).alloc (.cells (madeCells #[.bool false] np) 4)).drew na np ns A P S ca cp cs 0 0 h (w.heap.size + 1) none none 0 0 := by
  have o := own_made (w.alloc (.cells #[.int .i64 ns, .slice none 0 0, .slice (some ⟨w.heap.size + 1, 0, none⟩) np np, .slice none 0 0] 25)) h np (by simp; omega) hn
  rw [World.size_alloc] at o
  exact ⟨(X.alloc _).alloc _, (Z.alloc _).alloc _, (Blk.new _ _ _).alloc _, World.ownsRow_nil _ _ _ _, o, World.ownsRow_nil _ _ _ _, Nat.le_refl _, by omega, ((B.alloc (by omega) _).alloc (by simp; omega) _).drew⟩
variable {k q hs g2 : Nat} {A1 A3 : Option Addr} {c1 c3 : Nat}
theorem SQ.keep (s : SQ h gt w0 w na np ns A P S ca cp cs k q hs g2 A1 A3 c1 c3) (hb : Below w.heap.size w w') : SQ h gt w0 w' na np ns A P S ca cp cs k q hs g2 A1 A3 c1 c3 :=
  ⟨s.X.below hb s.X.lt, s.Z.below hb s.Z.lt, s.T.below hb s.T.lt, own_bel s.op hb, own_bel s.os hb, own_bel s.oq hb, s.hh, s.ng, s.B.trans (hb.mono (by have := s.X.lt; omega))⟩
theorem SQ.le (s : SQ h gt w0 w na np ns A P S ca cp cs k q hs g2 A1 A3 c1 c3) : h ≤ w.heap.size := by have := s.X.lt; omega
theorem rep_snoc {α : Type} (k : Nat) (x : α) : List.replicate (k + 1) x = List.replicate k x ++ [x] := by rw [List.replicate_succ']
theorem SQ.place (s : SQ h gt w0 w na np ns A P S ca cp cs k q hs g2 A1 A3 c1 c3) {A1' : Option Addr} {c1' : Nat} (ho : w'.ownsRow h 3 1 (.slice A1' (k + 1) c1') (k + 1) ((List.replicate k (-1)).map (Value.int .i64) ++ [.int .i64 (-1)])) (hg : w.grownBy w' (Value.slice A1 k c1).ownBlock)
    (hne : (Value.slice A3 q c3).ownBlock = none ∨ (Value.slice A3 q c3).ownBlock ≠ (Value.slice A1 k c1).ownBlock) : SQ h gt w0 (w'.setCell ⟨gt, 1, none⟩ (.slice A1' (k + 1) c1')) na np ns A P S ca cp cs (k + 1) q hs g2 A1' A3 c1' c3 := by
  have hX := s.X.grown hg (own_blk_ne' s.X s.op (by decide))
  have hZ := s.Z.grown hg (own_blk_ne' s.Z s.op (by decide))
  have hT := s.T.grown hg (own_blk_ne' s.T s.op (by decide))
  have hB := s.B.grown hg s.le (fun j hj => (s.op.lt j hj).1)
  have o2 := s.os.kept hg (own_own_ne s.os s.op (by decide))
  have o3 := s.oq.kept hg hne
  have n1 := s.ng
  have ho2 : w'.ownsRow h 3 1 (.slice A1' (k + 1) c1') (k + 1) ((List.replicate (k + 1) (-1)).map (Value.int .i64)) := by rw [rep_snoc, List.map_append]; exact ho
  exact ⟨hX.far (p := ⟨gt, 1, none⟩) (by show h ≠ gt; omega) _, hZ.far (p := ⟨gt, 1, none⟩) (by show h + 1 ≠ gt; omega) _, hT.seti 1 _ rfl, own_set_far ho2 hT (by decide) 1 _, own_set_far o2 hT (by decide) 1 _, own_set_far o3 hT (by decide) 1 _, s.hh, s.ng, hB.setCell (p := ⟨gt, 1, none⟩) (by show h ≤ gt; omega) _⟩
theorem SQ.spot (s : SQ h gt w0 w na np ns A P S ca cp cs k q hs g2 A1 A3 c1 c3) {A3' : Option Addr} {c3' : Nat} (ho : w'.ownsRow hs 3 1 (.slice A3' (q + 1) c3') (q + 1) ((List.replicate q (-1)).map (Value.int .i64) ++ [.int .i64 (-1)])) (hg : w.grownBy w' (Value.slice A3 q c3).ownBlock)
    (hne : (Value.slice A1 k c1).ownBlock = none ∨ (Value.slice A1 k c1).ownBlock ≠ (Value.slice A3 q c3).ownBlock) : SQ h gt w0 (w'.setCell ⟨gt, 3, none⟩ (.slice A3' (q + 1) c3')) na np ns A P S ca cp cs k (q + 1) hs g2 A1 A3' c1 c3' := by
  have hX := s.X.grown hg (own_blk_ne' s.X s.oq (by decide))
  have hZ := s.Z.grown hg (own_blk_ne' s.Z s.oq (by decide))
  have hT := s.T.grown hg (own_blk_ne' s.T s.oq (by decide))
  have hB := s.B.grown hg s.le (fun j hj => Nat.le_trans s.hh (s.oq.lt j hj).1)
  have o2 := s.os.kept hg (own_own_ne s.os s.oq (by decide))
  have o1 := s.op.kept hg hne
  have n1 := s.ng
  have ho2 : w'.ownsRow hs 3 1 (.slice A3' (q + 1) c3') (q + 1) ((List.replicate (q + 1) (-1)).map (Value.int .i64)) := by rw [rep_snoc, List.map_append]; exact ho
  exact ⟨hX.far (p := ⟨gt, 3, none⟩) (by show h ≠ gt; omega) _, hZ.far (p := ⟨gt, 3, none⟩) (by show h + 1 ≠ gt; omega) _, hT.seti 3 _ rfl, own_set_far o1 hT (by decide) 3 _, own_set_far o2 hT (by decide) 3 _, own_set_far ho2 hT (by decide) 3 _, s.hh, s.ng, hB.setCell (p := ⟨gt, 3, none⟩) (by show h ≤ gt; omega) _⟩
end
end Go.Proofs.Ytbhbbnmllokglaa

namespace Go.Proofs.Ytbhbbnmllokglaa
open Go.RowKit
set_option linter.unusedVariables false
set_option maxRecDepth 100000

def x01 : AW := ⟨0, [-1], [false], [-1]⟩
theorem can01 : canP x01 ⟨0, 0, 0, -1, 0⟩ = 0 := by decide
theorem do01 : doS x01 ⟨0, 0, 0, -1, 0⟩ = ⟨0, [-1], [false], [8]⟩ := by decide
theorem valid01 : ValidA x01 := (validA_iff _).2 ⟨by decide, by decide, by decide, by decide, by decide, by decide, fun i j p h hi hj => by
  have := lt_of_at hj; simp [x01] at this; omega, by decide, fun i j p h hi hj => by have := lt_of_at hj; simp [x01] at this; omega⟩
section
variable (w : World)
theorem zA (o1 o2 : Obj) : Blk (((w.alloc (.cells #[.int .i64 0, .slice none 0 0, .slice none 0 0, .slice none 0 0] 25)).alloc o1).alloc o2).drew w.heap.size 25 #[.int .i64 0, .slice none 0 0, .slice none 0 0, .slice none 0 0] := ((Blk.new _ _ _).alloc _).alloc _
theorem zB (o1 o2 : Obj) : Blk (((w.alloc o1).alloc (.cells #[.int .i64 0, .slice none 0 0, .slice none 0 0, .slice none 0 0] 25)).alloc o2).drew (w.heap.size + 1) 25 #[.int .i64 0, .slice none 0 0, .slice none 0 0, .slice none 0 0] := (blk_two _ _ _ _).alloc _
theorem zC (o1 o2 : Obj) : Blk (((w.alloc o1).alloc o2).alloc (.cells #[.int .i64 0, .slice none 0 0, .slice none 0 0, .slice none 0 0] 25)).drew (w.heap.size + 1 + 1) 25 #[.int .i64 0, .slice none 0 0, .slice none 0 0, .slice none 0 0] := by
  have := blk_two (w.alloc o1) o2 25 #[.int .i64 0, .slice none 0 0, .slice none 0 0, .slice none 0 0]
  rwa [World.size_alloc] at this
theorem bA (o1 o2 : Obj) : Below w.heap.size w ((w.alloc o1).alloc o2).drew := (((Below.refl _ _).alloc (Nat.le_refl _) _).alloc (by simp) _).drew
theorem bB (o1 o2 o3 : Obj) : Below w.heap.size w (((w.alloc o1).alloc o2).alloc o3).drew := ((((Below.refl _ _).alloc (Nat.le_refl _) _).alloc (by simp) _).alloc (by simp; omega) _).drew
end
theorem mk_arm (w : World) : (Instr.makeSlice 27 (.int .i64 1) (.int .i64 1)).run Try.prog w = .ok (.slice (some ⟨w.heap.size, 0, none⟩) 1 1) (w.alloc (.cells (armC ⟨#[]⟩).toArray 71)) := by
  kernel_rfl
theorem mk_part (w : World) : (Instr.makeSlice 29 (.int .i64 1) (.int .i64 1)).run Try.prog w = .ok (.slice (some ⟨w.heap.size, 0, none⟩) 1 1) (w.alloc (.cells (partC ⟨#[]⟩).toArray 74)) := by
  kernel_rfl

theorem hid_mk {p : Prop} (h : p) : Hid p := h
end Go.Proofs.Ytbhbbnmllokglaa
