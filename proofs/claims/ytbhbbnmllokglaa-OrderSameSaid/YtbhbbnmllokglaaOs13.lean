/- The walks of fact.Valid, cmp.Compare, slices.Compare, fact.Compare. -/
import Derived.Test.YtbhbbnmllokglaaProg
import Derived.Test.YtbhbbnmllokglaaOs8
import Derived.Sort.Grow
import Derived.Lib.Small
namespace Go.Proofs.Ytbhbbnmllokglaa
open Go.RowKit
set_option linter.unusedVariables false
set_option maxRecDepth 100000

structure Fct where
  k : Int
  a : Int
  b : Int
  deriving DecidableEq
def Fct.cells (f : Fct) : List Value := [.int .i64 f.k, .int .i64 f.a, .int .i64 f.b]
theorem Fct.len (f : Fct) : f.cells.length = 3 := rfl
theorem Fct.one (f : Fct) : ∀ v ∈ f.cells, v.oneCell' = true := by
  intro v hv
  simp [Fct.cells] at hv
  rcases hv with rfl | rfl | rfl <;> rfl
/-- How many indices a fact of a kind may have. -/
def limA (k : Int) : Int := if k = 1 then 6 else if k = 2 then 4 else if k = 3 then 4 else if k = 4 then 8 else if k = 5 then 6 else if k = 6 then 4 else 0
def limB (k : Int) : Int := if k = 1 then 8 else if k = 2 then 6 else if k = 6 then 14 else 1
def okF (f : Fct) : Prop := 0 ≤ f.a ∧ f.a < limA f.k ∧ 0 ≤ f.b ∧ f.b < limB f.k
instance (f : Fct) : Decidable (okF f) := by unfold okF; infer_instance

theorem isNaN_any (x : Int) (w : World) : Calls Try.prog 74 #[.int .i64 x] w fun e w' => e = .returned (.bool false) ∧ w' = w := by
  go_enter Try.func74, Try.ntmps74
  go_wp2
  go_ret
  exact ⟨ret_bool (by simp), rfl⟩
set_option maxHeartbeats 1000000 in
theorem cmpInt_any (x y : Int) (w : World) : Calls Try.prog 67 #[.int .i64 x, .int .i64 y] w fun e w' => e = .returned (.int .i64 (Lib.compareInt x y)) ∧ w' = w := by
  go_enter Try.func67, Try.ntmps67
  go_wp2_with (go_at_call 74; refine (isNaN_any _ _).mono ?_; rintro e w' ⟨rfl, rfl⟩)
  all_goals
    go_ret
    refine ⟨ret_int ?_, rfl⟩
    unfold Lib.compareInt
  · rw [if_pos (by omega)]
  · rw [if_neg (by omega), if_pos (by omega)]
  · rw [if_neg (by omega), if_neg (by omega)]

def cmpL : List Int → List Int → Int
  | [], [] => 0
  | [], _ :: _ => -1
  | _ :: _, [] => 1
  | x :: xs, y :: ys => if Lib.compareInt x y = 0 then cmpL xs ys else Lib.compareInt x y

theorem drop_cons {α : Type} {l : List α} {k : Nat} {x : α} (h : l[k]? = some x) : l.drop k = x :: l.drop (k + 1) := by
  obtain ⟨hh, hx⟩ := List.getElem?_eq_some_iff.1 h
  rw [List.drop_eq_getElem_cons hh, hx]

set_option maxHeartbeats 2000000 in
theorem compare_any (A B : Option Addr) (n m c d : Nat) (xs ys : List Int) (w : World) (r : Int) (hn : xs.length = n) (hm : ys.length = m) (hb : n ≤ maxLen) (hb' : m ≤ maxLen) (hX : RI w A xs) (hY : RI w B ys) (hr : Hid (cmpL xs ys = r)) :
    Calls Try.prog 51 #[.slice A n c, .slice B m d] w fun e w' => e = .returned (.int .i64 r) ∧ w = w' := by
  subst hn
  subst hm
  unfold maxLen at hb hb'
  have HX := Lib.hid hX
  have HY := Lib.hid hY
  clear hX hY
  go_enter Try.func51, Try.ntmps51
  go_wp2
  go_loopw [11] (fun i wr => ∃ k : Nat, k ≤ xs.length ∧ k ≤ ys.length ∧ i = .int .i64 k ∧ Hid (cmpL (xs.drop k) (ys.drop k) = r) ∧ w = wr) (fun i _ => xs.length - (intOf i).toNat)
  case atStart => exact ⟨0, by omega, by omega, rfl, hr, rfl⟩
  case round =>
    obtain ⟨k, hk, hk2, rfl, hall, rfl⟩ := hrel
    by_cases hlt : k < xs.length
    · obtain ⟨x, hx⟩ := some_at hlt
      obtain ⟨b, o, rfl, hb1, hc⟩ := HX.out (by omega)
      have c1 := hc k x hx
      by_cases hlt2 : k < ys.length
      · obtain ⟨y, hy⟩ := some_at hlt2
        obtain ⟨b', o', rfl, hb1', hc'⟩ := HY.out (by omega)
        have c2 := hc' k y hy
        have Hd : Hid (cmpL (x :: xs.drop (k + 1)) (y :: ys.drop (k + 1)) = r) := by unfold Hid; rw [← drop_cons hx, ← drop_cons hy]; exact hall.out
        clear hc hc' hx hy
        by_cases hxy : Lib.compareInt x y = 0
        · have hne : Hid (cmpL (xs.drop (k + 1)) (ys.drop (k + 1)) = r) := by have := Hd.out; rw [cmpL, if_pos hxy] at this; exact this
          have Hxy := Lib.hid hxy
          clear hxy
          go_wp2_with fail
          refine (cmpInt_any x y _).mono ?_
          rintro e w' ⟨rfl, rfl⟩
          rw [Hxy.out]
          go_wp2
          go_roundw
          case rel => exact ⟨k + 1, hlt, hlt2, by go_num, hne, by trivial⟩
          case measure => simp [intOf]; omega
        · have hne : Hid (Lib.compareInt x y = r) := by have := Hd.out; rw [cmpL, if_neg hxy] at this; exact this
          have hr0 : r ≠ 0 := by rw [← hne.out]; exact hxy
          clear hxy
          go_wp2_with fail
          refine (cmpInt_any x y _).mono ?_
          rintro e w' ⟨rfl, rfl⟩
          rw [hne.out]
          go_wp2
          go_ret
          exact ⟨rfl, rfl⟩
      · have hr1 : r = 1 := by
          have := hall.out
          rw [drop_cons hx, List.drop_eq_nil_of_le (show ys.length ≤ k by omega)] at this
          exact this.symm
        subst hr1
        clear hc hx
        go_wp2
        go_ret
        exact ⟨rfl, rfl⟩
    · have h0 := hall.out
      rw [List.drop_eq_nil_of_le (show xs.length ≤ k by omega)] at h0
      by_cases hlt2 : k < ys.length
      · obtain ⟨y, hy⟩ := some_at hlt2
        rw [drop_cons hy] at h0
        have hr1 : r = -1 := h0.symm
        subst hr1
        clear h0 hy
        go_wp2
        go_ret
        exact ⟨rfl, rfl⟩
      · rw [List.drop_eq_nil_of_le (show ys.length ≤ k by omega)] at h0
        have hr1 : r = 0 := h0.symm
        subst hr1
        clear h0
        go_wp2
        go_ret
        exact ⟨rfl, rfl⟩

def cmpF (f g : Fct) : Int := cmpL [f.k, f.a, f.b] [g.k, g.a, g.b]
theorem RI.blk {w : World} {g : Nat} {t : TypeId} {cs : Array Value} {xs : List Int} (h : Blk w g t cs) (hc : cs = (xs.map (Value.int .i64)).toArray) : RI w (some ⟨g, 0, none⟩) xs := by
  subst hc
  intro _
  refine ⟨g, 0, rfl, h.lt, fun j x hj => ?_⟩
  rw [h.cell]
  simp [hj]

end Go.Proofs.Ytbhbbnmllokglaa
