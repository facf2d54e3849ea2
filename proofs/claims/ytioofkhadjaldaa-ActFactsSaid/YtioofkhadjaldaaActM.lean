/- The walks of the closure of Steps and of slices.DeleteFunc at it. -/
import Derived.Test.YtioofkhadjaldaaActL
import Derived.Test.YtioofkhadjaldaaClear
namespace Go.Proofs.Ytioofkhadjaldaa
open Go.RowKit
set_option linter.unusedVariables false
set_option maxRecDepth 100000

theorem set_app5 (y : St) (l : List Value) (i r : Nat) (u : Value) : (y.cells ++ l).set ((i + 1) * 5 + r) u = y.cells ++ l.set (i * 5 + r) u := by
  rw [List.set_append_right _ _ (by rw [St.len]; omega), St.len, show (i + 1) * 5 + r - 5 = i * 5 + r by omega]
theorem flat_set5 : ∀ (ys : List St) (i : Nat) (v : St), i < ys.length →
    (((((flat St.cells ys).set (i * 5) (.int .i64 v.kind)).set (i * 5 + 1) (.int .i64 v.arm)).set (i * 5 + 2) (.int .i64 v.part)).set (i * 5 + 3) (.int .i64 v.slot)).set (i * 5 + 4) (.int .i64 v.ticks) = flat St.cells (ys.set i v)
  | [], i, v, h => by simp at h
  | y :: ys, 0, v, h => rfl
  | y :: ys, i + 1, v, h => by
    have ih := flat_set5 ys i v (by simpa using h)
    have e : flat St.cells (y :: ys) = y.cells ++ flat St.cells ys := by simp [flat]
    have e2 : flat St.cells ((y :: ys).set (i + 1) v) = y.cells ++ flat St.cells (ys.set i v) := by simp [flat]
    rw [e, e2, ← ih]
    have sr := fun (l : List Value) (r : Nat) (u : Value) => set_app5 y l i r u
    have s0 := sr (flat St.cells ys) 0 (.int .i64 v.kind)
    simp only [Nat.add_zero] at s0
    rw [s0, sr _ 1, sr _ 2, sr _ 3, sr _ 4]
abbrev set5 (w : World) (g o : Nat) (v : St) : World := ((((w.setCell ⟨g, o, none⟩ (.int .i64 v.kind)).setCell ⟨g, o + 1, none⟩ (.int .i64 v.arm)).setCell ⟨g, o + 2, none⟩ (.int .i64 v.part)).setCell ⟨g, o + 3, none⟩ (.int .i64 v.slot)).setCell ⟨g, o + 4, none⟩ (.int .i64 v.ticks)
theorem own_put5 {w : World} {B g n c : Nat} {ys : List St} (h : w.ownsRow B 39 5 (.slice (some ⟨g, 0, none⟩) n c) n (flat St.cells ys)) (i : Nat) (v : St) (hi : i < ys.length) :
    (set5 w g (i * 5) v).ownsRow B 39 5 (.slice (some ⟨g, 0, none⟩) n c) n (flat St.cells (ys.set i v)) := by
  rw [← flat_set5 ys i v hi]
  exact ((((h.stored _ _).1.stored _ _).1.stored _ _).1.stored _ _).1.stored _ _ |>.1
theorem below_set5 {B : Nat} {w0 w : World} (h : Below B w0 w) {g : Nat} (hg : B ≤ g) (o : Nat) (v : St) : Below B w0 (set5 w g o v) :=
  ((((h.setCell (p := ⟨g, o, none⟩) hg _).setCell (p := ⟨g, o + 1, none⟩) hg _).setCell (p := ⟨g, o + 2, none⟩) hg _).setCell (p := ⟨g, o + 3, none⟩) hg _).setCell (p := ⟨g, o + 4, none⟩) hg _

/-- The world that the closure of Steps looks at: its box, its rows. -/
structure CW (w : World) (gb : Nat) (x : AW) (A1 A2 A3 : Option Addr) (n1 n3 c1 c2 c3 : Nat) : Prop where
  T : Blk w gb 25 #[.int .i64 x.slots, .slice A1 n1 c1, .slice A2 n1 c2, .slice A3 n3 c3]
  R : RW4 w x A1 A2 A3 n1 n1 n3 c1 c2 c3
  V : ValidA x
theorem CW.bel {w w' : World} {gb : Nat} {x : AW} {A1 A2 A3 : Option Addr} {n1 n3 c1 c2 c3 : Nat} (h : CW w gb x A1 A2 A3 n1 n3 c1 c2 c3) (hb : Below w.heap.size w w') : CW w' gb x A1 A2 A3 n1 n3 c1 c2 c3 := ⟨h.T.below hb h.T.lt, h.R.below hb, h.V⟩
def noS (x : AW) (s : St) : Bool := decide (canP x s ≠ 0)

set_option maxHeartbeats 4000000 in
theorem del_any (gb : Nat) (x : AW) (A1 A2 A3 : Option Addr) (n1 n3 c1 c2 c3 : Nat) (s : St) (w : World) (h : CW w gb x A1 A2 A3 n1 n3 c1 c2 c3) :
    Calls Try.prog 42 #[.agg #[.int .i64 s.kind, .int .i64 s.arm, .int .i64 s.part, .int .i64 s.slot, .int .i64 s.ticks], .pointer (some ⟨gb, 0, none⟩)] w fun e w' => e = .returned (.bool (noS x s)) ∧ Below w.heap.size w w' := by
  have B1 := Lib.hid ((Below.refl w.heap.size w).alloc (Nat.le_refl _) (.cells #[.int .i64 s.kind, .int .i64 s.arm, .int .i64 s.part, .int .i64 s.slot, .int .i64 s.ticks] 39))
  have C1 := Lib.hid (h.bel B1.out)
  clear h
  obtain ⟨t0, t1, t2, t3⟩ := blk4 C1.out.T
  obtain ⟨r, hr⟩ : ∃ r, canP x ⟨s.kind, s.arm, s.part, s.slot, s.ticks⟩ = r := ⟨_, rfl⟩
  have HC := Lib.hid hr
  have hq : Hid ((r != 0) = noS x s) := by
    unfold Hid noS
    rw [← hr]
    show (canP x s != 0) = _
    by_cases e : canP x s = 0
    · rw [e]; rfl
    · rw [decide_eq_true e]; exact bne_iff_ne.2 e
  clear hr
  go_enter Try.func42, Try.ntmps42
  go_wp2_with fail
  refine (Can_any x A1 A2 A3 n1 n3 c1 c2 c3 s.kind s.arm s.part s.slot s.ticks _ C1.out.R C1.out.V r HC).mono ?_
  rintro e w2 ⟨rfl, hb⟩
  have B2 := Lib.hid (B1.out.trans (hb.mono B1.out.size))
  clear hb
  go_wp2_with fail
  go_ret
  exact ⟨ret_bool hq.out, B2.out⟩

theorem idxBy_none {α : Type} [Inhabited α] (p : α → Bool) (l : List α) (h : ∀ x ∈ l, p x = false) (i : Nat) : Lib.idxByFrom (fun _ y => p y) (default : α) l i = -1 := by
  induction l generalizing i with
  | nil => rfl
  | cons a l ih =>
    simp only [Lib.idxByFrom]
    rw [if_neg (by simp [h a])]
    exact ih (fun x hx => h x (List.mem_cons_of_mem _ hx)) _
theorem idxBy_some {α : Type} [Inhabited α] (p : α → Bool) : ∀ (l : List α) (i : Nat), (∃ x ∈ l, p x = true) → ∃ (k : Nat) (x : α), Lib.idxByFrom (fun _ y => p y) (default : α) l i = ((i + k : Nat) : Int) ∧ l[k]? = some x ∧ p x = true ∧ ∀ y ∈ l.take k, p y = false
  | [], i, h => by obtain ⟨x, hx, _⟩ := h; simp at hx
  | a :: l, i, h => by
    cases ha : p a with
    | true => exact ⟨0, a, by simp [Lib.idxByFrom, ha], rfl, ha, by simp⟩
    | false =>
      obtain ⟨x, hx, hp⟩ := h
      have hl : ∃ x ∈ l, p x = true := by
        rcases List.mem_cons.1 hx with rfl | hx
        · rw [ha] at hp; cases hp
        · exact ⟨x, hx, hp⟩
      obtain ⟨k, y, h1, h2, h3, h4⟩ := idxBy_some p l (i + 1) hl
      refine ⟨k + 1, y, ?_, by simpa using h2, h3, ?_⟩
      · simp only [Lib.idxByFrom, ha]
        rw [if_neg (by simp), h1]
        congr 1; omega
      · intro z hz
        rw [List.take_succ_cons] at hz
        rcases List.mem_cons.1 hz with rfl | hz
        · exact ha
        · exact h4 z hz
theorem own_shrink {w : World} {base g c i : Nat} {cs : Array Value} {xs : List Value} (hg : Blk w g 39 cs) (hb : base ≤ g) (hi : i ≤ c) (hc : c ≤ maxLen) (hs : cs.size = c * 5) (hx : cs.toList.take (i * 5) = xs) :
    w.ownsRow base 39 5 (.slice (some ⟨g, 0, none⟩) i c) i xs :=
  ⟨by rw [← hx, List.length_take, Array.length_toList, hs]; exact Nat.min_eq_left (Nat.mul_le_mul_right 5 hi), .inr ⟨g, c, cs, rfl, hb, hg, hi, hc, hs, hx⟩⟩
end Go.Proofs.Ytioofkhadjaldaa
