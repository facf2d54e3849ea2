/- The walk of gantmake.Below; arguments that are slices of integers. · The walk of (*Stream).Next. -/
import Derived.Test.YtaiokjhjakdhaaaGreatDoorProg
import Derived.Test.YtaiokjhjakdhaaaGreatDoorPb3
namespace Go.Proofs.YtaiokjhjakdhaaaGreatDoor
open Go.RowKit

theorem mod_below (x n : Int) (hn : 0 < n) : (if x.tmod n < 0 then x.tmod n + n else x.tmod n) = x % n := by
  rcases Int.lt_or_le x 0 with h | h
  · by_cases hd : n ∣ x
    · have h1 : x % n = 0 := Int.emod_eq_zero_of_dvd hd
      have h2 : x.tmod n = 0 := Int.tmod_eq_zero_of_dvd hd
      simp [h1, h2]
    · have h3 := Int.tmod_eq_emod (a := x) (b := n)
      have h4 := Int.emod_lt_of_pos x hn
      have h5 := Int.emod_nonneg x (show n ≠ 0 by omega)
      have h6 : ¬ (0 ≤ x ∨ n ∣ x) := fun h6 => h6.elim (fun h6 => by omega) hd
      rw [if_neg h6] at h3
      have h7 : (n.natAbs : Int) = n := by omega
      rw [h3]
      split <;> omega
  · have h1 : x.tmod n = x % n := Int.tmod_eq_emod_of_nonneg h
    have h5 := Int.emod_nonneg x (show n ≠ 0 by omega)
    rw [h1, if_neg (by omega)]

set_option linter.unusedVariables false
set_option maxHeartbeats 400000 in
theorem below_any (x n : Int) (w : World) (hn : 0 < n) (h1 : -9223372036854775808 ≤ x) (h2 : x ≤ 9223372036854775807) (h3 : n ≤ 9223372036854775807) :
    Calls Tryz.prog 24 #[.int .i64 x, .int .i64 n] w fun e w' => e = .returned (.int .i64 (x % n)) ∧ w = w' := by
  have hm := Lib.hid (mod_below x n hn)
  have hb1 := Int.tmod_lt_of_pos x hn
  have hb2 : -n < x.tmod n := by have h4 := Int.tmod_eq_emod (a := x) (b := n); have h5 := Int.emod_nonneg x (show n ≠ 0 by omega); have h6 := Int.emod_lt_of_pos x hn; split at h4 <;> omega
  go_enter Tryz.func24, Tryz.ntmps24
  go_wp2
  · go_ret
    exact ⟨ret_int (by rw [← hm.out, if_pos (by assumption)]), rfl⟩
  · go_ret
    exact ⟨ret_int (by rw [← hm.out, if_neg (by omega)]), rfl⟩

/-- An argument: a slice of integers. -/
def IntArg (w : World) (A : Option Addr) (n c : Nat) (xs : List Int) : Prop := xs.length = n ∧ n ≤ c ∧ c ≤ maxLen ∧ RI w A xs ∧ ∀ x ∈ xs, -9223372036854775808 ≤ x ∧ x ≤ 9223372036854775807
theorem intArg_of {w : World} {a : Option Addr} {len cap : Nat} {zs : List Int} (h : (a = none ∧ len = 0 ∧ cap = 0 ∧ zs = []) ∨
    ∃ x, a = some x ∧ len ≤ cap ∧ cap ≤ maxLen ∧ zs.length = cap ∧ (∀ i, i < zs.length → w.cell? (x.add i) = some (.int .i64 (zs.getD i 0))) ∧ ∀ n ∈ zs, (Lit.int .i64 n).wf = true) : ∃ xs, IntArg w a len cap xs := by
  rcases h with ⟨rfl, rfl, rfl, rfl⟩ | ⟨x, rfl, h1, h2, h3, h4, h5⟩
  · exact ⟨[], rfl, by omega, by unfold maxLen; omega, RI.nil _ _, by simp⟩
  · refine ⟨zs.take len, by simp; omega, h1, h2, fun hp => ?_, fun y hy => ?_⟩
    · have hlt : 0 < zs.length := by simp at hp; omega
      obtain ⟨b, off, sp⟩ := x
      have h0 := h4 0 hlt
      have hsp : sp = none := by
        rcases sp with _ | sp
        · rfl
        · simp only [Addr.add, World.cell?] at h0
          split at h0 <;> simp at h0
      subst hsp
      refine ⟨b, off, rfl, ?_, fun j y hj => ?_⟩
      · have := World.block_lt_of_cell? w _ h0
        simpa [Addr.add] using this
      · rw [List.getElem?_take] at hj
        split at hj
        · have := h4 j (lt_of_at hj)
          rw [Addr.add_lit] at this
          simpa [List.getD, hj] using this
        · cases hj
    · have := h5 y (List.mem_of_mem_take hy)
      simpa [Lit.wf, IntKind.min, IntKind.max, IntKind.signed, IntKind.bits] using this

end Go.Proofs.YtaiokjhjakdhaaaGreatDoor

namespace Go.Proofs.YtaiokjhjakdhaaaGreatDoor
open Go.RowKit


/-- A stream of numbers lies in block b; its numbers lie below B. -/
def Strm (B : Nat) (w : World) (b : Nat) : Prop := B ≤ b ∧ ∃ (A : Option Addr) (c : Nat) (xs : List Int), Blk w b 49 #[.slice A xs.length c] ∧ xs.length ≤ c ∧ c ≤ maxLen ∧
  (0 < xs.length → ∃ b' o, A = some ⟨b', o, none⟩ ∧ b' < B ∧ ∀ (j : Nat) (x : Int), xs[j]? = some x → w.cell? ⟨b', o + j, none⟩ = some (.int .i64 x)) ∧ ∀ x ∈ xs, -9223372036854775808 ≤ x ∧ x ≤ 9223372036854775807

theorem Strm.lt {B : Nat} {w : World} {b : Nat} (h : Strm B w b) : b < w.heap.size := by
  obtain ⟨_, A, c, xs, hB, _⟩ := h
  exact hB.lt
theorem Strm.keep {B : Nat} {w w' : World} {b : Nat} (h : Strm B w b) (hb : Below B w w') (he : w'.heap[b]? = w.heap[b]?) : Strm B w' b := by
  obtain ⟨hBb, A, c, xs, hB, h1, h2, h3, h4⟩ := h
  refine ⟨hBb, A, c, xs, he.trans hB, h1, h2, fun hp => ?_, h4⟩
  obtain ⟨b', o, rfl, hlt, hc⟩ := h3 hp
  exact ⟨b', o, rfl, hlt, fun j x hx => (hb.cell (p := ⟨b', o + j, none⟩) hlt).trans (hc j x hx)⟩
theorem Strm.alloc {B : Nat} {w : World} {b : Nat} (h : Strm B w b) (o : Obj) : Strm B (w.alloc o) b :=
  h.keep ((Below.refl _ _).alloc (by have := h.lt; have := h.1; omega) o) (Below.heap_alloc w o b h.lt)
theorem Strm.blk {B : Nat} {w : World} {b : Nat} (h : Strm B w b) : ∃ v, Blk w b 49 #[v] := by
  obtain ⟨_, A, c, xs, hB, _⟩ := h
  exact ⟨_, hB⟩
theorem Strm.setCell {B : Nat} {w : World} {b : Nat} (h : Strm B w b) {p : Addr} (hp : b ≠ p.block) (hB : B ≤ p.block) (u : Value) : Strm B (w.setCell p u) b :=
  h.keep ((Below.refl _ _).setCell hB u) (Below.heap_setCell w p u b hp)
theorem Strm.grown {B : Nat} {w w' : World} {b : Nat} (h : Strm B w b) {row : Option Nat} (hg : w.grownBy w' row) (hr : ∀ k, row = some k → B ≤ k) (hne : some b ≠ row) : Strm B w' b :=
  h.keep ((Below.refl _ _).grown hg (by have := h.lt; have := h.1; omega) hr) (hg.block b h.lt hne)
/-- .. in a world in which other blocks have been made since. -/
theorem IntArg.strm' {w w' : World} {A : Option Addr} {n c : Nat} {xs : List Int} (h : IntArg w A n c xs) (hb : Below w.heap.size w w') : Strm w.heap.size (w'.alloc (.cells #[.slice A n c] 49)) w'.heap.size := by
  obtain ⟨rfl, h2, h3, h4, h5⟩ := h
  refine ⟨hb.size, A, c, xs, Blk.new _ _ _, h2, h3, fun hp => ?_, h5⟩
  obtain ⟨b', o, rfl, hlt, hc⟩ := h4 hp
  exact ⟨b', o, rfl, hlt, fun j x hx => ((hb.alloc hb.size _).cell (p := ⟨b', o + j, none⟩) hlt).trans (hc j x hx)⟩

theorem Strm.step {B : Nat} {w : World} {b o c : Nat} {b' : Nat} {x : Int} {xs : List Int} (hB : Blk w b 49 #[.slice (some ⟨b', o, none⟩) (xs.length + 1) c]) (hBb : B ≤ b) (hl : xs.length + 1 ≤ c) (hm : c ≤ maxLen)
    (h : ∀ j y, (x :: xs)[j]? = some y → w.cell? ⟨b', o + j, none⟩ = some (.int .i64 y)) (hb : b' < B)
    (hx : ∀ y ∈ x :: xs, -9223372036854775808 ≤ y ∧ y ≤ 9223372036854775807) :
    Strm B (w.setCell ⟨b, 0, none⟩ (.slice (if c = 1 then some ⟨b', o, none⟩ else some ⟨b', o + 1, none⟩) xs.length (c - 1))) b := by
  refine ⟨hBb, _, c - 1, xs, hB.set_ 0 _, by omega, by omega, fun hp => ⟨b', o + 1, by rw [if_neg (by omega)], hb, fun j y hj => ?_⟩, fun y hy => hx y (List.mem_cons_of_mem _ hy)⟩
  have h1 := h (j + 1) y (by simpa using hj)
  have h2 := ((Below.refl B w).setCell (p := ⟨b, 0, none⟩) hBb (.slice (if c = 1 then some ⟨b', o, none⟩ else some ⟨b', o + 1, none⟩) xs.length (c - 1))).cell (p := ⟨b', o + 1 + j, none⟩) hb
  rw [h2, ← h1, Nat.add_assoc, Nat.add_comm 1 j]

set_option maxHeartbeats 400000 in
theorem next_any (B b : Nat) (n : Int) (w : World) (hs : Strm B w b) (h1 : 1 ≤ n) (h3 : n ≤ 9223372036854775807) :
    Calls Tryz.prog 12 #[.pointer (some ⟨b, 0, none⟩), .int .i64 n] w fun e w' => ∃ r, e = .returned (.int .i64 r) ∧ 0 ≤ r ∧ r < n ∧ Strm B w' b ∧ w.grownBy w' (some b) := by
  obtain ⟨hBb, A, c, xs, hB, hl, hm, hR, hx⟩ := hs
  have hc := hB.cell 0
  have hfz := hB.frozen 0
  rcases xs with _ | ⟨x, xs⟩
  · have HR := Lib.hid hR
    clear hR
    go_enter Tryz.func12, Tryz.ntmps12
    go_wp2
    go_ret
    exact ⟨0, rfl, by omega, by omega, ⟨hBb, A, c, [], hB, hl, hm, HR.out, hx⟩, World.grownBy.refl _ _⟩
  · obtain ⟨b', o, rfl, hb', hcell⟩ := hR (by simp)
    have hc0 : w.cell? ⟨b', o, none⟩ = some (.int .i64 x) := hcell 0 x (by simp)
    have hxb := hx x (by simp)
    have hl' : xs.length + 1 ≤ c := by simpa using hl
    obtain ⟨hx1, hx2⟩ := hxb
    have hx' := hx
    have Hcell := Lib.hid hcell; clear hcell hx hR
    have HX := Lib.hid hx'; clear hx'
    have HB := Lib.hid hB; clear hB
    simp only [List.length_cons] at hc
    have hd : decide (n < 1) = false := by simp; omega
    have hgr : ∀ v, w.grownBy (w.setCell ⟨b, 0, none⟩ v) (some b) := fun v => ⟨rfl, rfl, rfl, by simp [World.setCell], fun k _ hk => Below.heap_setCell w ⟨b, 0, none⟩ v k (by simpa using hk)⟩
    have hst := Lib.hid (fun h => Strm.step HB.out hBb hl' hm Hcell.out hb' h)
    have HG := Lib.hid hgr; clear hgr
    have h5 := Int.emod_nonneg x (show n ≠ 0 by omega)
    have h6 := Int.emod_lt_of_pos x (show 0 < n by omega)
    generalize hk : xs.length = k at *
    have Hk := Lib.hid hk; clear hk
    go_enter Tryz.func12, Tryz.ntmps12
    go_wp2_with (go_at_call 24; refine (below_any _ _ _ (by omega) hx1 hx2 (by omega)).mono ?_; rintro e w' ⟨rfl, rfl⟩)
    all_goals
      go_ret
      refine ⟨_, rfl, h5, h6, ?_, HG.out _⟩
      have := hst.out HX.out
      first | (rw [if_neg (by assumption)] at this; exact this) | (have hc1 : c = 1 := (by assumption); subst hc1; simpa using this)
end Go.Proofs.YtaiokjhjakdhaaaGreatDoor
