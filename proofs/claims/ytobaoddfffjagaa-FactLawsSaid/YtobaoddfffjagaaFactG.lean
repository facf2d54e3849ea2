/- The walks of fact.IsSet (of a set), Sound, Within. -/
import Derived.Test.YtobaoddfffjagaaFactF
import Derived.Test.YtobaoddfffjagaaExt
namespace Go.Proofs.Ytobaoddfffjagaa
open Go.RowKit
set_option linter.unusedVariables false

theorem Valid_r (f : Fct) (r : Bool) (w : World) (hr : Hid (r = decide (okF f))) :
    Calls Try.prog 18 #[.agg #[.int .i64 f.k, .int .i64 f.a, .int .i64 f.b]] w fun e w' => e = .returned (.bool r) ∧ Below w.heap.size w w' :=
  (Valid_any f.k f.a f.b w).mono fun e w' h => ⟨by rw [h.1, hr.out], h.2⟩

theorem below_grow (w : World) (q : Nat) (os : Array Obj) : Below w.heap.size w (Sort.grow (w.drewN q) os) :=
  ⟨rfl, rfl, rfl, by rw [Sort.size_grow]; exact Nat.le_add_right _ _, fun k hk => by rw [Sort.heap_grow_old _ _ (show k < (w.drewN q).heap.size from hk)]; rfl⟩
theorem Compare_r (f g : Fct) (r : Int) (w : World) (hr : Hid (cmpF f g = r)) :
    Calls Try.prog 20 #[.agg #[.int .i64 f.k, .int .i64 f.a, .int .i64 f.b], .agg #[.int .i64 g.k, .int .i64 g.a, .int .i64 g.b]] w fun e w' => e = .returned (.int .i64 r) ∧ Below w.heap.size w w' :=
  (CompareF_any f g w).mono fun e w' h => by
    obtain ⟨h1, q, os, h2⟩ := h
    rw [h1, h2, hr.out]
    exact ⟨rfl, below_grow w q os⟩

set_option maxHeartbeats 4000000 in
theorem IsSet_yes (A : Option Addr) (n c : Nat) (fs : List Fct) (w : World) (hR : RF w A fs) (hn : fs.length = n) (hm : n ≤ 1000) (hs : fs.Pairwise ltF) (hok : ∀ f ∈ fs, okF f) :
    Calls Try.prog 15 #[.slice A n c] w fun e w' => e = .returned (.bool true) ∧ Below w.heap.size w w' := by
  subst hn
  have R0 := Lib.hid hR
  have S0 := Lib.hid hs
  have K0 := Lib.hid hok
  clear hR hs hok
  go_enter Try.func15, Try.ntmps15
  go_wp2_with fail
  go_loopw [7] (fun i wr => ∃ (k : Nat) (z : Int), i = .int .i64 z ∧ z = k ∧ k ≤ fs.length ∧ Hid (Below w.heap.size w wr)) (fun i _ => fs.length - (intOf i).toNat)
  case atStart => exact ⟨0, 0, rfl, rfl, by omega, Below.refl _ _⟩
  case round =>
    obtain ⟨k, z, rfl, hz, hk, Bl⟩ := hrel
    have Zl := Lib.hid Bl.out.size
    by_cases hlt : k < fs.length
    · obtain ⟨x, hx⟩ := some_at hlt
      obtain ⟨b, o, rfl, hb, c0, c1, c2⟩ := RF.at (R0.out.below Bl.out) hx
      have hv : Hid (true = decide (okF x)) := by simp [Hid, K0.out x (List.mem_of_getElem? hx)]
      have B3 := Lib.hid (Bl.out.alloc Zl.out (.cells #[.int .i64 x.k, .int .i64 x.a, .int .i64 x.b] 27))
      have X3 := Lib.hid (Blk.new wr 27 #[.int .i64 x.k, .int .i64 x.a, .int .i64 x.b])
      have R3 := Lib.hid ((R0.out.below Bl.out).alloc (.cells #[.int .i64 x.k, .int .i64 x.a, .int .i64 x.b] 27))
      rcases Nat.eq_zero_or_pos k with h0 | h0
      · have hz0 : z = 0 := by omega
        subst hz0
        subst h0
        simp only [Nat.zero_mul, Nat.add_zero] at c0 c1 c2
        clear hz
        have hlI : (0 : Int) < fs.length := by omega
        go_wp2_with fail
        generalize hw3 : wr.alloc (.cells #[.int .i64 x.k, .int .i64 x.a, .int .i64 x.b] 27) = w3 at B3 X3 R3 ⊢
        clear hw3
        have x0 := fun s : Ext w3 => s.cell (X3.out.cell 0)
        have x1 := fun s : Ext w3 => s.cell (X3.out.cell 1)
        have x2 := fun s : Ext w3 => s.cell (X3.out.cell 2)
        refine wp_region_ext (by kernel_rfl) (by kernel_rfl) ?_
        repeat (go_big_quiet_step (first | (go_at_call 18; refine Calls.ext (Valid_r x true _ hv))))
        refine wpQuiet_nil ?_
        intro _ hw'
        obtain ⟨s, rfl⟩ := hw'
        go_wp2_with fail
        go_roundw
        case rel => exact ⟨1, 1, by go_num, rfl, by omega, keep_below B3.out (Nat.le_refl _) s.h⟩
        case measure => simp [intOf]; omega
      · obtain ⟨y, hy⟩ := some_at (l := fs) (k := k - 1) (by omega)
        obtain ⟨b', o', hA, hb', y0, y1, y2⟩ := RF.at R3.out hy
        cases hA
        have hlt2 : ltF y x := by
          have h1 := S0.out
          obtain ⟨h2, h3⟩ := List.getElem?_eq_some_iff.1 hx
          obtain ⟨h4, h5⟩ := List.getElem?_eq_some_iff.1 hy
          rw [← h3, ← h5]
          exact List.pairwise_iff_getElem.1 h1 (k - 1) k h4 h2 (by omega)
        obtain ⟨r, hr⟩ : ∃ r, cmpF y x = r := ⟨_, rfl⟩
        have hr0 : r < 0 := by rw [← hr]; exact (cmpF_lt y x).2 hlt2
        have Hr := Lib.hid hr
        have hd : decide (0 < z) = true := by simp; omega
        have hd2 : decide (0 ≤ r) = false := by simp; omega
        have hz1 : IntKind.i64.wrap (z - 1) = ((k - 1 : Nat) : Int) := by rw [IntWalk.i64_in _ (by omega)]; omega
        have hzI : z < fs.length := by omega
        have hzI2 : ((k - 1 : Nat) : Int) < fs.length := by omega
        subst hz
        clear hx hy hr hlt2
        go_wp2_with fail
        generalize hw3 : wr.alloc (.cells #[.int .i64 x.k, .int .i64 x.a, .int .i64 x.b] 27) = w3 at B3 X3 R3 y0 y1 y2 ⊢
        clear hw3
        have x0 := fun s : Ext w3 => s.cell (X3.out.cell 0)
        have x1 := fun s : Ext w3 => s.cell (X3.out.cell 1)
        have x2 := fun s : Ext w3 => s.cell (X3.out.cell 2)
        have z0 := fun s : Ext w3 => s.cell y0
        have z1 := fun s : Ext w3 => s.cell y1
        have z2 := fun s : Ext w3 => s.cell y2
        refine wp_region_ext (by kernel_rfl) (by kernel_rfl) ?_
        repeat (go_big_quiet_step (first | (go_at_call 18; refine Calls.ext (Valid_r x true _ hv)) | (go_at_call 20; refine Calls.ext (Compare_r y x r _ Hr))))
        refine wpQuiet_nil ?_
        intro _ hw'
        obtain ⟨s, rfl⟩ := hw'
        go_wp2_with fail
        go_roundw
        case rel => exact ⟨k + 1, _, rfl, by go_num, by omega, keep_below B3.out (Nat.le_refl _) s.h⟩
        case measure => simp [intOf]; omega
    · have hlI : ¬ z < fs.length := by omega
      go_wp2_with fail
      go_ret
      exact ⟨rfl, Bl.out⟩
end Go.Proofs.Ytobaoddfffjagaa
