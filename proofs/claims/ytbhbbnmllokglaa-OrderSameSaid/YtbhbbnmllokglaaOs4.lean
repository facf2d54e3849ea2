/- The walk of gantmake.Below; arguments that are slices of integers. · The walk of (*Stream).Next. · The walks of order.Check and order.long. · The walks of slices.Index and slices.Contains at []int. -/
import Derived.Test.YtbhbbnmllokglaaProg
import Derived.Test.YtbhbbnmllokglaaOs3
namespace Go.Proofs.Ytbhbbnmllokglaa
open Go.RowKit

theorem mod_below (x n : Int) (hn : 0 < n) : (if x.tmod n < 0 then x.tmod n + n else x.tmod n) = x % n := by
  rcases Int.lt_or_le x 0 with h | h
  · by_cases hd : n ∣ x
    · have h1 : x % n = 0 := Int.emod_eq_zero_of_dvd hd
      have h2 : x.tmod n = 0 := Int.tmod_eq_zero_of_dvd hd
      simp [h1, h2]
    · have h3 := Int.tmod_eq_emod (a := x) (b := n)
      have h4 := Int.emod_lt_of_pos x hn
      have h5 := Int.emod_nonneg x (show n ≠ 0 by omega)
      have h6 : ¬ (0 ≤ x ∨ n ∣ x) := fun h6 => h6.elim (fun h6 => by omega) hd
      rw [if_neg h6] at h3
      have h7 : (n.natAbs : Int) = n := by omega
      rw [h3]
      split <;> omega
  · have h1 : x.tmod n = x % n := Int.tmod_eq_emod_of_nonneg h
    have h5 := Int.emod_nonneg x (show n ≠ 0 by omega)
    rw [h1, if_neg (by omega)]

set_option linter.unusedVariables false
set_option maxHeartbeats 400000 in
theorem below_any (x n : Int) (w : World) (hn : 0 < n) (h1 : -9223372036854775808 ≤ x) (h2 : x ≤ 9223372036854775807) (h3 : n ≤ 9223372036854775807) :
    Calls Try.prog 10 #[.int .i64 x, .int .i64 n] w fun e w' => e = .returned (.int .i64 (x % n)) ∧ w = w' := by
  have hm := Lib.hid (mod_below x n hn)
  have hb1 := Int.tmod_lt_of_pos x hn
  have hb2 : -n < x.tmod n := by have h4 := Int.tmod_eq_emod (a := x) (b := n); have h5 := Int.emod_nonneg x (show n ≠ 0 by omega); have h6 := Int.emod_lt_of_pos x hn; split at h4 <;> omega
  go_enter Try.func10, Try.ntmps10
  go_wp2
  · go_ret
    exact ⟨ret_int (by rw [← hm.out, if_pos (by assumption)]), rfl⟩
  · go_ret
    exact ⟨ret_int (by rw [← hm.out, if_neg (by omega)]), rfl⟩

/-- An argument: a slice of integers. -/
def IntArg (w : World) (A : Option Addr) (n c : Nat) (xs : List Int) : Prop := xs.length = n ∧ n ≤ c ∧ c ≤ maxLen ∧ RI w A xs ∧ ∀ x ∈ xs, -9223372036854775808 ≤ x ∧ x ≤ 9223372036854775807
theorem IntArg.below {w w' : World} {A : Option Addr} {n c : Nat} {xs : List Int} (h : IntArg w A n c xs) (hb : Below w.heap.size w w') : IntArg w' A n c xs := by
  obtain ⟨h1, h2, h3, h4, h5⟩ := h
  exact ⟨h1, h2, h3, h4.below hb, h5⟩
theorem intArg_of {w : World} {a : Option Addr} {len cap : Nat} {zs : List Int} (h : (a = none ∧ len = 0 ∧ cap = 0 ∧ zs = []) ∨
    ∃ x, a = some x ∧ len ≤ cap ∧ cap ≤ maxLen ∧ zs.length = cap ∧ (∀ i, i < zs.length → w.cell? (x.add i) = some (.int .i64 (zs.getD i 0))) ∧ ∀ n ∈ zs, (Lit.int .i64 n).wf = true) : ∃ xs, IntArg w a len cap xs := by
  rcases h with ⟨rfl, rfl, rfl, rfl⟩ | ⟨x, rfl, h1, h2, h3, h4, h5⟩
  · exact ⟨[], rfl, by omega, by unfold maxLen; omega, RI.nil _ _, by simp⟩
  · refine ⟨zs.take len, by simp; omega, h1, h2, fun hp => ?_, fun y hy => ?_⟩
    · have hlt : 0 < zs.length := by simp at hp; omega
      obtain ⟨b, off, sp⟩ := x
      have h0 := h4 0 hlt
      have hsp : sp = none := by
        rcases sp with _ | sp
        · rfl
        · simp only [Addr.add, World.cell?] at h0
          split at h0 <;> simp at h0
      subst hsp
      refine ⟨b, off, rfl, ?_, fun j y hj => ?_⟩
      · have := World.block_lt_of_cell? w _ h0
        simpa [Addr.add] using this
      · rw [List.getElem?_take] at hj
        split at hj
        · have := h4 j (lt_of_at hj)
          rw [Addr.add_lit] at this
          simpa [List.getD, hj] using this
        · cases hj
    · have := h5 y (List.mem_of_mem_take hy)
      simpa [Lit.wf, IntKind.min, IntKind.max, IntKind.signed, IntKind.bits] using this

end Go.Proofs.Ytbhbbnmllokglaa

namespace Go.Proofs.Ytbhbbnmllokglaa
open Go.RowKit


/-- A stream of numbers lies in block b; its numbers lie below B. -/
def Strm (B : Nat) (w : World) (b : Nat) : Prop := B ≤ b ∧ ∃ (A : Option Addr) (c : Nat) (xs : List Int), Blk w b 59 #[.slice A xs.length c] ∧ xs.length ≤ c ∧ c ≤ maxLen ∧
  (0 < xs.length → ∃ b' o, A = some ⟨b', o, none⟩ ∧ b' < B ∧ ∀ (j : Nat) (x : Int), xs[j]? = some x → w.cell? ⟨b', o + j, none⟩ = some (.int .i64 x)) ∧ ∀ x ∈ xs, -9223372036854775808 ≤ x ∧ x ≤ 9223372036854775807

theorem Strm.lt {B : Nat} {w : World} {b : Nat} (h : Strm B w b) : b < w.heap.size := by
  obtain ⟨_, A, c, xs, hB, _⟩ := h
  exact hB.lt
theorem Strm.keep {B : Nat} {w w' : World} {b : Nat} (h : Strm B w b) (hb : Below B w w') (he : w'.heap[b]? = w.heap[b]?) : Strm B w' b := by
  obtain ⟨hBb, A, c, xs, hB, h1, h2, h3, h4⟩ := h
  refine ⟨hBb, A, c, xs, he.trans hB, h1, h2, fun hp => ?_, h4⟩
  obtain ⟨b', o, rfl, hlt, hc⟩ := h3 hp
  exact ⟨b', o, rfl, hlt, fun j x hx => (hb.cell (p := ⟨b', o + j, none⟩) hlt).trans (hc j x hx)⟩
theorem Strm.alloc {B : Nat} {w : World} {b : Nat} (h : Strm B w b) (o : Obj) : Strm B (w.alloc o) b :=
  h.keep ((Below.refl _ _).alloc (by have := h.lt; have := h.1; omega) o) (Below.heap_alloc w o b h.lt)
theorem Strm.drew {B : Nat} {w : World} {b : Nat} (h : Strm B w b) : Strm B w.drew b := h
theorem Strm.drewN {B : Nat} {w : World} {b : Nat} (h : Strm B w b) (n : Nat) : Strm B (w.drewN n) b := h
theorem Strm.blk {B : Nat} {w : World} {b : Nat} (h : Strm B w b) : ∃ v, Blk w b 59 #[v] := by
  obtain ⟨_, A, c, xs, hB, _⟩ := h
  exact ⟨_, hB⟩
theorem Strm.setCell {B : Nat} {w : World} {b : Nat} (h : Strm B w b) {p : Addr} (hp : b ≠ p.block) (hB : B ≤ p.block) (u : Value) : Strm B (w.setCell p u) b :=
  h.keep ((Below.refl _ _).setCell hB u) (Below.heap_setCell w p u b hp)
theorem Strm.grown {B : Nat} {w w' : World} {b : Nat} (h : Strm B w b) {row : Option Nat} (hg : w.grownBy w' row) (hr : ∀ k, row = some k → B ≤ k) (hne : some b ≠ row) : Strm B w' b :=
  h.keep ((Below.refl _ _).grown hg (by have := h.lt; have := h.1; omega) hr) (hg.block b h.lt hne)
theorem Strm.own_ne {B : Nat} {w : World} {b : Nat} (h : Strm B w b) {base n : Nat} {v : Value} {xs : List Value} (ho : w.ownsRow base 3 1 v n xs) : v.ownBlock ≠ some b := by
  obtain ⟨u, hB⟩ := h.blk
  exact own_blk_ne ho hB (by decide)

theorem IntArg.strm {w : World} {A : Option Addr} {n c : Nat} {xs : List Int} (h : IntArg w A n c xs) : Strm w.heap.size (w.alloc (.cells #[.slice A n c] 59)) w.heap.size := by
  obtain ⟨rfl, h2, h3, h4, h5⟩ := h
  refine ⟨Nat.le_refl _, A, c, xs, Blk.new _ _ _, h2, h3, fun hp => ?_, h5⟩
  obtain ⟨b', o, rfl, hlt, hc⟩ := h4 hp
  exact ⟨b', o, rfl, hlt, fun j x hx => (((Below.refl w.heap.size w).alloc (Nat.le_refl _) _).cell (p := ⟨b', o + j, none⟩) hlt).trans (hc j x hx)⟩
/-- .. in a world in which other blocks have been made since. -/
theorem IntArg.strm' {w w' : World} {A : Option Addr} {n c : Nat} {xs : List Int} (h : IntArg w A n c xs) (hb : Below w.heap.size w w') : Strm w.heap.size (w'.alloc (.cells #[.slice A n c] 59)) w'.heap.size := by
  obtain ⟨rfl, h2, h3, h4, h5⟩ := h
  refine ⟨hb.size, A, c, xs, Blk.new _ _ _, h2, h3, fun hp => ?_, h5⟩
  obtain ⟨b', o, rfl, hlt, hc⟩ := h4 hp
  exact ⟨b', o, rfl, hlt, fun j x hx => ((hb.alloc hb.size _).cell (p := ⟨b', o + j, none⟩) hlt).trans (hc j x hx)⟩

theorem Strm.step {B : Nat} {w : World} {b o c : Nat} {b' : Nat} {x : Int} {xs : List Int} (hB : Blk w b 59 #[.slice (some ⟨b', o, none⟩) (xs.length + 1) c]) (hBb : B ≤ b) (hl : xs.length + 1 ≤ c) (hm : c ≤ maxLen)
    (h : ∀ j y, (x :: xs)[j]? = some y → w.cell? ⟨b', o + j, none⟩ = some (.int .i64 y)) (hb : b' < B)
    (hx : ∀ y ∈ x :: xs, -9223372036854775808 ≤ y ∧ y ≤ 9223372036854775807) :
    Strm B (w.setCell ⟨b, 0, none⟩ (.slice (if c = 1 then some ⟨b', o, none⟩ else some ⟨b', o + 1, none⟩) xs.length (c - 1))) b := by
  refine ⟨hBb, _, c - 1, xs, hB.set_ 0 _, by omega, by omega, fun hp => ⟨b', o + 1, by rw [if_neg (by omega)], hb, fun j y hj => ?_⟩, fun y hy => hx y (List.mem_cons_of_mem _ hy)⟩
  have h1 := h (j + 1) y (by simpa using hj)
  have h2 := ((Below.refl B w).setCell (p := ⟨b, 0, none⟩) hBb (.slice (if c = 1 then some ⟨b', o, none⟩ else some ⟨b', o + 1, none⟩) xs.length (c - 1))).cell (p := ⟨b', o + 1 + j, none⟩) hb
  rw [h2, ← h1, Nat.add_assoc, Nat.add_comm 1 j]

set_option maxHeartbeats 400000 in
theorem next_any (B b : Nat) (n : Int) (w : World) (hs : Strm B w b) (h1 : 1 ≤ n) (h3 : n ≤ 9223372036854775807) :
    Calls Try.prog 17 #[.pointer (some ⟨b, 0, none⟩), .int .i64 n] w fun e w' => ∃ r, e = .returned (.int .i64 r) ∧ 0 ≤ r ∧ r < n ∧ Strm B w' b ∧ w.grownBy w' (some b) := by
  obtain ⟨hBb, A, c, xs, hB, hl, hm, hR, hx⟩ := hs
  have hc := hB.cell 0
  have hfz := hB.frozen 0
  rcases xs with _ | ⟨x, xs⟩
  · have HR := Lib.hid hR
    clear hR
    go_enter Try.func17, Try.ntmps17
    go_wp2
    go_ret
    exact ⟨0, rfl, by omega, by omega, ⟨hBb, A, c, [], hB, hl, hm, HR.out, hx⟩, World.grownBy.refl _ _⟩
  · obtain ⟨b', o, rfl, hb', hcell⟩ := hR (by simp)
    have hc0 : w.cell? ⟨b', o, none⟩ = some (.int .i64 x) := hcell 0 x (by simp)
    have hxb := hx x (by simp)
    have hl' : xs.length + 1 ≤ c := by simpa using hl
    obtain ⟨hx1, hx2⟩ := hxb
    have hx' := hx
    have Hcell := Lib.hid hcell; clear hcell hx hR
    have HX := Lib.hid hx'; clear hx'
    have HB := Lib.hid hB; clear hB
    simp only [List.length_cons] at hc
    have hd : decide (n < 1) = false := by simp; omega
    have hgr : ∀ v, w.grownBy (w.setCell ⟨b, 0, none⟩ v) (some b) := fun v => ⟨rfl, rfl, rfl, by simp [World.setCell], fun k _ hk => Below.heap_setCell w ⟨b, 0, none⟩ v k (by simpa using hk)⟩
    have hst := Lib.hid (fun h => Strm.step HB.out hBb hl' hm Hcell.out hb' h)
    have HG := Lib.hid hgr; clear hgr
    have h5 := Int.emod_nonneg x (show n ≠ 0 by omega)
    have h6 := Int.emod_lt_of_pos x (show 0 < n by omega)
    generalize hk : xs.length = k at *
    have Hk := Lib.hid hk; clear hk
    go_enter Try.func17, Try.ntmps17
    go_wp2_with (go_at_call 10; refine (below_any _ _ _ (by omega) hx1 hx2 (by omega)).mono ?_; rintro e w' ⟨rfl, rfl⟩)
    all_goals
      go_ret
      refine ⟨_, rfl, h5, h6, ?_, HG.out _⟩
      have := hst.out HX.out
      first | (rw [if_neg (by assumption)] at this; exact this) | (have hc1 : c = 1 := (by assumption); subst hc1; simpa using this)
end Go.Proofs.Ytbhbbnmllokglaa

namespace Go.Proofs.Ytbhbbnmllokglaa
open Go.RowKit
set_option linter.unusedVariables false

set_option maxHeartbeats 400000 in
theorem check_ok (A : Option Addr) (c : Nat) (xss : List (List Int)) (w : World) (hR : RII w A xss) (hV : Valid xss) :
    Calls Try.prog 25 #[.slice A xss.length c] w fun e w' => e = .returned (.int .i64 0) ∧ w = w' := by
  have hlen := hV.1
  have HR := Lib.hid hR; clear hR
  go_enter Try.func25, Try.ntmps25
  go_wp2
  go_loop [12] (fun i => ∃ k : Nat, k ≤ xss.length ∧ i = .int .i64 k) (fun i => xss.length - (intOf i).toNat)
  case atStart => exact ⟨0, by omega, rfl⟩
  case round =>
    obtain ⟨k, hk, rfl⟩ := hrel
    by_cases hlt : k < xss.length
    · obtain ⟨b, o, rfl, hb, hc⟩ := HR.out (by omega)
      obtain ⟨l, hl⟩ := some_at hlt
      obtain ⟨Aj, cj, h1, h2⟩ := hc k l hl
      obtain ⟨v1, v2⟩ := hV.2 k l hl
      have hll := hV.len hl
      have H2 := Lib.hid h2
      have V1 := Lib.hid v1
      have V2 := Lib.hid v2
      clear hV hc hl h2 v1 v2
      go_wp2
      go_loop [19] (fun i => ∃ k : Nat, k ≤ l.length ∧ i = .int .i64 k) (fun i => l.length - (intOf i).toNat)
      case atStart => exact ⟨0, by omega, rfl⟩
      case round =>
        obtain ⟨i, hi, rfl⟩ := hrel
        by_cases hlt' : i < l.length
        · obtain ⟨b', o', rfl, hb', hc'⟩ := H2.out (by omega)
          obtain ⟨x, hx⟩ := some_at hlt'
          have c1 := hc' i x hx
          obtain ⟨x1, x2⟩ := V1.out i x hx
          rcases i with _ | i
          · replace c1 : w.cell? ⟨b', o', none⟩ = some (.int .i64 x) := c1
            clear hc' hx
            go_wp2
            go_round
            case rel => exact ⟨1, by omega, rfl⟩
            case measure => simp [intOf]; omega
          · obtain ⟨y, hy⟩ := some_at (l := l) (k := i) (by omega)
            have c2 : w.cell? ⟨b', o' + i, none⟩ = some (.int .i64 y) := hc' i y hy
            have hxy := V2.out i y x hy hx
            clear hc' hx hy
            go_wp2
            go_round
            case rel => exact ⟨i + 2, by omega, by go_num⟩
            case measure => simp [intOf]; omega
        · go_wp2
          go_round
          case rel => exact ⟨k + 1, by omega, by go_num⟩
          case measure => simp [intOf]; omega
    · go_wp2
      go_ret
      exact ⟨rfl, rfl⟩

/-- Durations of steps. -/
def Durs (xss : List (List Int)) (ts : List Int) : Prop := ts.length = xss.length ∧ ∀ (k : Nat) (x : Int), ts[k]? = some x → 0 ≤ x ∧ x ≤ 2000

end Go.Proofs.Ytbhbbnmllokglaa

namespace Go.Proofs.Ytbhbbnmllokglaa
open Go.RowKit
set_option linter.unusedVariables false

set_option maxHeartbeats 400000 in
theorem index_any (A : Option Addr) (c : Nat) (xs : List Int) (v : Int) (w : World) (hR : RI w A xs) (hm : xs.length ≤ maxLen) :
    Calls Try.prog 26 #[.slice A xs.length c, .int .i64 v] w fun e w' => ∃ r, e = .returned (.int .i64 r) ∧ (v ∈ xs ↔ 0 ≤ r) ∧ -1 ≤ r ∧ r ≤ maxLen ∧ w = w' := by
  have HR := Lib.hid hR; clear hR
  unfold maxLen at hm ⊢
  go_enter Try.func26, Try.ntmps26
  go_wp2
  go_loop [8] (fun i => ∃ k : Nat, k ≤ xs.length ∧ i = .int .i64 k ∧ Hid (v ∉ xs.take k)) (fun i => xs.length - (intOf i).toNat)
  case atStart => exact ⟨0, by omega, rfl, by simp [Hid]⟩
  case round =>
    obtain ⟨k, hk, rfl, hno⟩ := hrel
    by_cases hlt : k < xs.length
    · obtain ⟨b, o, rfl, hb, hc⟩ := HR.out (by omega)
      obtain ⟨x, hx⟩ := some_at hlt
      have c1 := hc k x hx
      have Hx := Lib.hid hx
      clear hc hx
      by_cases hv : v = x
      · subst hv
        have hq : (v == v) = true := by simp
        go_wp2
        go_ret
        exact ⟨k, rfl, ⟨fun _ => by omega, fun _ => List.mem_of_getElem? Hx.out⟩, by omega, by omega, rfl⟩
      · have hq : (v == x) = false := by simpa using hv
        have Hv := Lib.hid hv
        clear hv
        go_wp2
        go_round
        case rel =>
          refine ⟨k + 1, by omega, by go_num, ?_⟩
          have := hno.out
          have h2 := Hv.out
          unfold Hid
          rw [List.take_add_one, Hx.out]
          simpa using ⟨this, h2⟩
        case measure => simp [intOf]; omega
    · have hkx : k = xs.length := by omega
      have hno' : v ∉ xs := by have := hno.out; rwa [hkx, List.take_length] at this
      have Hn := Lib.hid hno'
      clear hno'
      go_wp2
      go_ret
      exact ⟨-1, rfl, ⟨fun h => absurd h Hn.out, fun h => by omega⟩, by omega, by omega, rfl⟩

set_option maxHeartbeats 400000 in
theorem contains_any (A : Option Addr) (n c : Nat) (xs : List Int) (v : Int) (r : Bool) (w : World) (hR : RI w A xs) (hn : xs.length = n) (hm : n ≤ maxLen) (hr : Hid (r = decide (v ∈ xs))) :
    Calls Try.prog 12 #[.slice A n c, .int .i64 v] w fun e w' => e = .returned (.bool r) ∧ w = w' := by
  subst hn
  have HR := Lib.hid hR; clear hR
  have Hm := Lib.hid hm; clear hm
  go_enter Try.func12, Try.ntmps12
  go_wp2_with (go_at_call 26; refine (index_any _ _ _ _ _ HR.out Hm.out).mono ?_; rintro e w' ⟨q, rfl, hq, hq1, hq2, rfl⟩; have Hq := Lib.hid hq; clear hq)
  go_ret
  refine ⟨ret_bool ?_, rfl⟩
  rw [hr.out]
  by_cases hv : v ∈ xs
  · have := Hq.out.1 hv
    simp [hv, this]
  · have : ¬ 0 ≤ q := fun h => hv (Hq.out.2 h)
    simp [hv, this]
end Go.Proofs.Ytbhbbnmllokglaa
