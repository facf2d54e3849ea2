/- Tasks: how they read; the walk of tools.tasks. -/
import Derived.Test.YtnmngjikcimpnaaBook
import Derived.Deep.QuietTactic
import Derived.BigQuiet
namespace Go.Proofs.Ytnmngjikcimpnaa
open Go.RowKit
set_option linter.unusedVariables false

structure Task where
  tool : Int
  long : Int
  after : List Int

/-- A slice of tasks that reads as a list. -/
def RT (w : World) (A : Option Addr) (ts : List Task) : Prop :=
  0 < ts.length → ∃ b o, A = some ⟨b, o, none⟩ ∧ b < w.heap.size ∧ ∀ (j : Nat) (t : Task), ts[j]? = some t →
    w.cell? ⟨b, o + j * 3, none⟩ = some (.int .i64 t.tool) ∧ w.cell? ⟨b, o + j * 3 + 1, none⟩ = some (.int .i64 t.long) ∧ ∃ Aj cj, w.cell? ⟨b, o + j * 3 + 2, none⟩ = some (.slice Aj t.after.length cj) ∧ RI w Aj t.after
theorem RT.below {w w' : World} {A : Option Addr} {ts : List Task} (h : RT w A ts) (hb : Below w.heap.size w w') : RT w' A ts := by
  intro hp
  obtain ⟨b, o, rfl, hlt, hc⟩ := h hp
  refine ⟨b, o, rfl, Nat.lt_of_lt_of_le hlt hb.size, fun j u hu => ?_⟩
  obtain ⟨h1, h2, Aj, cj, h3, h4⟩ := hc j u hu
  exact ⟨(hb.cell (p := ⟨b, _, none⟩) hlt).trans h1, (hb.cell (p := ⟨b, _, none⟩) hlt).trans h2, Aj, cj, (hb.cell (p := ⟨b, _, none⟩) hlt).trans h3, h4.below hb⟩
theorem RT.take {w : World} {A : Option Addr} {ts : List Task} (h : RT w A ts) (k : Nat) : RT w A (ts.take k) := by
  intro hp
  obtain ⟨b, o, rfl, hlt, hc⟩ := h (by simp at hp; omega)
  refine ⟨b, o, rfl, hlt, fun j u hu => hc j u ?_⟩
  rw [List.getElem?_take] at hu
  split at hu
  · exact hu
  · cases hu

def TasksOk (ts : List Task) : Prop := ts.length ≤ 11 ∧ ∀ (k : Nat) (t : Task), ts[k]? = some t → -1 ≤ t.tool ∧ t.tool < 6 ∧ 1 ≤ t.long ∧ t.long ≤ 20 ∧ t.after.length ≤ k ∧ ∀ (i : Nat) (x : Int), t.after[i]? = some x → 0 ≤ x ∧ x < k
theorem TasksOk.take {ts : List Task} (h : TasksOk ts) (k : Nat) : TasksOk (ts.take k) := by
  refine ⟨by have := h.1; simp; omega, fun j t ht => h.2 j t ?_⟩
  rw [List.getElem?_take] at ht
  split at ht
  · exact ht
  · cases ht

set_option maxHeartbeats 1000000 in
set_option maxRecDepth 100000 in
theorem tasks_ok (A : Option Addr) (n c : Nat) (ts : List Task) (w : World) (hn : ts.length = n) (hR : RT w A ts) (hT : TasksOk ts) :
    Calls Try.prog 31 #[.slice A n c] w fun e w' => e = .returned (.int .i64 0) ∧ Below w.heap.size w w' := by
  subst hn
  have hlen := hT.1
  have HT := Lib.hid hT
  have HR := Lib.hid hR
  clear hT hR
  go_enter Try.func31, Try.ntmps31
  go_wp2_with fail
  go_loopw [12] (fun i wr => ∃ k : Nat, k ≤ ts.length ∧ i = .int .i64 k ∧ Below w.heap.size w wr) (fun i _ => ts.length - (intOf i).toNat)
  case atStart => exact ⟨0, by omega, rfl, Below.refl _ _⟩
  case round =>
    obtain ⟨k, hk, rfl, hbl⟩ := hrel
    have Hbl := Lib.hid hbl
    have hs := hbl.size
    clear hbl
    by_cases hlt : k < ts.length
    · obtain ⟨t, ht⟩ := some_at hlt
      obtain ⟨b, o, rfl, hb, hc⟩ := HR.out (by omega)
      obtain ⟨c1', c2', Aj, cj, c3', h4⟩ := hc k t ht
      have c1 := (Hbl.out.cell (p := ⟨b, _, none⟩) hb).trans c1'
      have c2 := (Hbl.out.cell (p := ⟨b, _, none⟩) hb).trans c2'
      have c3 := (Hbl.out.cell (p := ⟨b, _, none⟩) hb).trans c3'
      have H4 := Lib.hid h4
      obtain ⟨t1, t2, t3, t4, t5, t6⟩ := HT.out.2 k t ht
      have T6 := Lib.hid t6
      have hbr : b < wr.heap.size := by omega
      have B2 := Lib.hid (Hbl.out.alloc hs (.cells #[.int .i64 t.tool, .int .i64 t.long, .slice Aj t.after.length cj] 53))
      have X2 := Lib.hid (Blk.new wr 53 #[.int .i64 t.tool, .int .i64 t.long, .slice Aj t.after.length cj])
      clear hc c1' c2' c3' h4 t6 ht
      go_wp2_with fail
      obtain ⟨wo, hwo⟩ : ∃ wo : World, wo = wr := ⟨_, rfl⟩
      subst hwo
      go_loop [38] (fun i => ∃ j : Nat, j ≤ t.after.length ∧ i = .int .i64 j) (fun i => t.after.length - (intOf i).toNat)
      case atStart => exact ⟨0, by omega, rfl⟩
      case round =>
        obtain ⟨j, hj, rfl⟩ := hrel
        by_cases hlt' : j < t.after.length
        · obtain ⟨x, hx⟩ := some_at hlt'
          obtain ⟨b', o', rfl, hb', hc'⟩ := H4.out (by omega)
          have d1 := (B2.out.cell (p := ⟨b', o' + j, none⟩) hb').trans (hc' j x hx)
          obtain ⟨x1, x2⟩ := T6.out j x hx
          have hb3 : b' < wo.heap.size := by omega
          have d1' : wo.cell? ⟨b', o' + j, none⟩ = some (.int .i64 x) := (Hbl.out.cell (p := ⟨b', o' + j, none⟩) hb').trans (hc' j x hx)
          clear hc' hx d1
          go_wp2_with fail
          go_round
          case rel => exact ⟨j + 1, by omega, by go_num⟩
          case measure => simp [intOf]; omega
        · go_wp2_with fail
          go_roundw
          case rel => exact ⟨k + 1, by omega, by go_num, B2.out⟩
          case measure => simp [intOf]; omega
    · go_wp2_with fail
      go_ret
      exact ⟨rfl, Hbl.out⟩
end Go.Proofs.Ytnmngjikcimpnaa
