/- The walks of slices.Index, Contains and IsSortedFunc at steps, and of gantkeep4.ActAll. -/
import Derived.Test.YtioofkhadjaldaaActO
import Derived.Test.YtioofkhadjaldaaActed
namespace Go.Proofs.Ytioofkhadjaldaa
open Go.RowKit
set_option linter.unusedVariables false
set_option maxRecDepth 100000

abbrev St.v (s : St) : Value := .agg #[.int .i64 s.kind, .int .i64 s.arm, .int .i64 s.part, .int .i64 s.slot, .int .i64 s.ticks]
theorem eqS_run (x y : St) (w : World) : Sem.run Try.prog (binOp .eql 39 x.v y.v) w = .ok (.bool (decide (x = y))) w := by
  have u3 := Try.underlying3
  have a3 := Try.isAgg3
  have z3 := Try.sizeOf3
  have hS : Try.prog.underlying 39 = some (.struct (Try.prog.fieldsOf 39)) := by kernel_rfl
  have hp : Try.prog.stoodInHeld 39 = false := by kernel_rfl
  rw [run_eql_struct, show (10000 : Nat) = 9999 + 1 from rfl, run_equalIn_agg w 9999 39 _ _ hS hp]
  simp only [Program.fieldsOf, Try.underlying39]
  go_simp
  obtain ⟨x1, x2, x3, x4, x5⟩ := x
  obtain ⟨y1, y2, y3, y4, y5⟩ := y
  by_cases h1 : x1 = y1 <;> by_cases h2 : x2 = y2 <;> by_cases h3 : x3 = y3 <;> by_cases h4 : x4 = y4 <;> by_cases h5 : x5 = y5 <;> simp [h1, h2, h3, h4, h5]

set_option maxHeartbeats 2000000 in
theorem indexS_any (A : Option Addr) (n c : Nat) (fs : List St) (v : St) (w : World) (hR : RS w A fs) (hn : fs.length = n) (hm : n ≤ 100000) :
    Calls Try.prog 44 #[.slice A n c, .agg #[.int .i64 v.kind, .int .i64 v.arm, .int .i64 v.part, .int .i64 v.slot, .int .i64 v.ticks]] w fun e w' => ∃ r, e = .returned (.int .i64 r) ∧ (v ∈ fs ↔ 0 ≤ r) ∧ -1 ≤ r ∧ r ≤ 100000 ∧ Below w.heap.size w w' := by
  subst hn
  have HR := Lib.hid hR; clear hR
  have X0 := Lib.hid (Blk.new w 39 #[.int .i64 v.kind, .int .i64 v.arm, .int .i64 v.part, .int .i64 v.slot, .int .i64 v.ticks])
  have B0 := Lib.hid ((Below.refl w.heap.size w).alloc (Nat.le_refl _) (.cells #[.int .i64 v.kind, .int .i64 v.arm, .int .i64 v.part, .int .i64 v.slot, .int .i64 v.ticks] 39))
  go_enter Try.func44, Try.ntmps44
  go_wp2
  go_loopw [8] (fun i wr => ∃ k : Nat, k ≤ fs.length ∧ i = .int .i64 k ∧ Hid (v ∉ fs.take k) ∧ ∃ n, wr = (w.alloc (.cells #[.int .i64 v.kind, .int .i64 v.arm, .int .i64 v.part, .int .i64 v.slot, .int .i64 v.ticks] 39)).drewN n) (fun i _ => fs.length - (intOf i).toNat)
  case atStart => exact ⟨0, by omega, rfl, by simp [Hid], 0, rfl⟩
  case round =>
    obtain ⟨k, hk, rfl, hno, n, rfl⟩ := hrel
    by_cases hlt : k < fs.length
    · obtain ⟨x, hx⟩ := some_at hlt
      obtain ⟨b, o, rfl, hb, c0, c1, c2, c3, c4⟩ := RS.at (HR.out.below B0.out) hx
      have hkx : (k : Int) < (fs.length : Int) := by omega
      have Hx := Lib.hid hx
      clear hx
      by_cases hv : v = x
      · subst hv
        have q1 : (v.kind == v.kind) = true := by simp
        have q2 : (v.arm == v.arm) = true := by simp
        have q3 : (v.part == v.part) = true := by simp
        have q4 : (v.slot == v.slot) = true := by simp
        have q5 : (v.ticks == v.ticks) = true := by simp
        go_wp2
        go_quiet (fail)
        go_wp2
        go_ret
        exact ⟨k, rfl, ⟨fun _ => by omega, fun _ => List.mem_of_getElem? Hx.out⟩, by omega, by omega, below_drewN (below_drewN B0.out _) _⟩
      · have hq := fun w => eqS_run v x w
        simp only [hv, decide_false] at hq
        have Hv := Lib.hid hv
        clear hv
        go_wp2
        go_quiet (fail)
        go_wp2
        go_roundw
        case rel =>
          refine ⟨k + 1, by omega, by go_num, ?_, n + nq, by simp only [World.drewN_drewN]⟩
          have := hno.out
          have h2 := Hv.out
          unfold Hid
          rw [List.take_add_one, Hx.out]
          simpa using ⟨this, h2⟩
        case measure => simp [intOf]; omega
    · have hkx : k = fs.length := by omega
      have hno' : v ∉ fs := by have := hno.out; rwa [hkx, List.take_length] at this
      have Hn := Lib.hid hno'
      clear hno'
      go_wp2
      go_ret
      exact ⟨-1, rfl, ⟨fun h => absurd h Hn.out, fun h => by omega⟩, by omega, by omega, below_drewN B0.out _⟩

set_option maxHeartbeats 2000000 in
theorem containsS_any (A : Option Addr) (n c : Nat) (fs : List St) (v : St) (r : Bool) (w : World) (hR : RS w A fs) (hn : fs.length = n) (hm : n ≤ 100000) (hr : Hid (r = decide (v ∈ fs))) :
    Calls Try.prog 17 #[.slice A n c, .agg #[.int .i64 v.kind, .int .i64 v.arm, .int .i64 v.part, .int .i64 v.slot, .int .i64 v.ticks]] w fun e w' => e = .returned (.bool r) ∧ Below w.heap.size w w' := by
  have HR := Lib.hid hR; clear hR
  have Hn := Lib.hid hn; clear hn
  have B0 := Lib.hid ((Below.refl w.heap.size w).alloc (Nat.le_refl _) (.cells #[.int .i64 v.kind, .int .i64 v.arm, .int .i64 v.part, .int .i64 v.slot, .int .i64 v.ticks] 39))
  go_enter Try.func17, Try.ntmps17
  go_wp2_with fail
  refine (indexS_any _ _ _ fs v _ (HR.out.below B0.out) Hn.out hm).mono ?_
  rintro e w' ⟨q, rfl, hq, hq1, hq2, hb⟩
  have Hq := Lib.hid hq
  have B1 := Lib.hid (B0.out.trans (hb.mono B0.out.size))
  clear hq hb
  go_wp2
  go_ret
  refine ⟨ret_bool ?_, B1.out⟩
  rw [hr.out]
  by_cases h : v ∈ fs
  · have := Hq.out.1 h
    simp [h, this]
  · have : ¬ 0 ≤ q := fun h2 => h (Hq.out.2 h2)
    simp [h]; omega

theorem Compare_r (f g : St) (r : Int) (w : World) (hr : Hid (cmpS f g = r)) :
    Calls Try.prog 20 #[.agg #[.int .i64 f.kind, .int .i64 f.arm, .int .i64 f.part, .int .i64 f.slot, .int .i64 f.ticks], .agg #[.int .i64 g.kind, .int .i64 g.arm, .int .i64 g.part, .int .i64 g.slot, .int .i64 g.ticks]] w fun e w' => e = .returned (.int .i64 r) ∧ Below w.heap.size w w' :=
  (CompareS_any f g w).mono fun e w' h => by
    obtain ⟨h1, q, os, h2⟩ := h
    rw [h1, h2, hr.out]
    exact ⟨rfl, ⟨rfl, rfl, rfl, by rw [Sort.size_grow]; exact Nat.le_add_right _ _, fun k hk => by rw [Sort.heap_grow_old _ _ (show k < (w.drewN q).heap.size from hk)]; rfl⟩⟩
set_option maxHeartbeats 4000000 in
theorem IsSortedS_any (A : Option Addr) (n c : Nat) (ss : List St) (w : World) (hR : RS w A ss) (hn : ss.length = n) (hm : n ≤ 100000) (hs : ss.Pairwise ltS) :
    Calls Try.prog 19 #[.slice A n c, .func (.func 20) #[] #[]] w fun e w' => e = .returned (.bool true) ∧ Below w.heap.size w w' := by
  subst hn
  have R0 := Lib.hid hR
  have S0 := Lib.hid hs
  clear hR hs
  have eg : ∀ args w, (callFunc 20 args).run Try.prog w = .ok (.enter 20 args) w := enters_of Try.func20 (by kernel_rfl) rfl
  rcases Nat.eq_zero_or_pos ss.length with h0 | h0
  · rw [h0]
    clear h0 R0 S0
    go_enter Try.func19, Try.ntmps19
    go_wp2_with fail
    go_loopw [5] (fun i wr => i = .int .i64 (-1) ∧ wr = w) (fun i _ => 0)
    case atStart => exact ⟨rfl, rfl⟩
    case round =>
      obtain ⟨rfl, rfl⟩ := hrel
      go_wp2_with fail
      go_ret
      exact ⟨rfl, Below.refl _ _⟩
  · have g0 : IntKind.i64.wrap ((ss.length : Int) - 1) = ((ss.length - 1 : Nat) : Int) := by rw [IntWalk.i64_in _ (by omega)]; omega
    have G0 := Lib.hid g0
    clear g0
    go_enter Try.func19, Try.ntmps19
    go_wp2_with fail
    go_loopw [5] (fun i wr => ∃ k : Nat, i = .int .i64 k ∧ k < ss.length ∧ Hid (Below w.heap.size w wr)) (fun i _ => (intOf i).toNat)
    case atStart => exact ⟨ss.length - 1, by go_num, by omega, Below.refl _ _⟩
    case round =>
      clear G0
      obtain ⟨k, rfl, hk, Bl⟩ := hrel
      by_cases hk0 : k = 0
      · subst hk0
        go_wp2_with fail
        go_ret
        exact ⟨rfl, Bl.out⟩
      · obtain ⟨x, hx⟩ := some_at hk
        obtain ⟨y, hy⟩ := some_at (l := ss) (k := k - 1) (by omega)
        obtain ⟨b, o, rfl, hb, c0, c1, c2, c3, c4⟩ := RS.at (R0.out.below Bl.out) hx
        obtain ⟨b', o', hA, hb', y0, y1, y2, y3, y4⟩ := RS.at (R0.out.below Bl.out) hy
        cases hA
        have hlt2 : ltS y x := by
          have h1 := S0.out
          obtain ⟨h2, h3⟩ := List.getElem?_eq_some_iff.1 hx
          obtain ⟨h4, h5⟩ := List.getElem?_eq_some_iff.1 hy
          rw [← h3, ← h5]
          exact List.pairwise_iff_getElem.1 h1 (k - 1) k h4 h2 (by omega)
        obtain ⟨r, hr⟩ : ∃ r, cmpS x y = r := ⟨_, rfl⟩
        have hr0 : ¬ r < 0 := by rw [← hr, cmpS_lt]; exact fun h => ltS_irr _ (ltS_trans hlt2 h)
        have hr1 : 0 ≤ r := by omega
        have Hr := Lib.hid hr
        have hz1 : IntKind.i64.wrap ((k : Int) - 1) = ((k - 1 : Nat) : Int) := by rw [IntWalk.i64_in _ (by omega)]; omega
        have hkI : (k : Int) < ss.length := by omega
        have hkI2 : ((k - 1 : Nat) : Int) < ss.length := by omega
        clear hx hy hr hlt2 hr0
        go_wp2_with fail
        have x0 := fun s : Ext wr => s.cell c0
        have x1 := fun s : Ext wr => s.cell c1
        have x2 := fun s : Ext wr => s.cell c2
        have x3 := fun s : Ext wr => s.cell c3
        have x4 := fun s : Ext wr => s.cell c4
        have z0 := fun s : Ext wr => s.cell y0
        have z1 := fun s : Ext wr => s.cell y1
        have z2 := fun s : Ext wr => s.cell y2
        have z3 := fun s : Ext wr => s.cell y3
        have z4 := fun s : Ext wr => s.cell y4
        refine wp_region_ext (by kernel_rfl) (by kernel_rfl) ?_
        repeat (go_big_quiet_step (first | (go_at_call 20; refine Calls.ext (Compare_r x y r _ Hr))))
        refine wpQuiet_nil ?_
        intro _ hw'
        obtain ⟨s, rfl⟩ := hw'
        clear hz1
        have hz1 : IntKind.i64.wrap ((k : Int) - 1) = ((k - 1 : Nat) : Int) := by rw [IntWalk.i64_in _ (by omega)]; omega
        have Hz1 := Lib.hid hz1
        clear hz1
        go_wp2_with fail
        go_roundw
        case rel => exact ⟨k - 1, by go_num, by omega, keep_below Bl.out (Nat.le_refl _) s.h⟩
        case measure => simp [intOf]; omega
end Go.Proofs.Ytioofkhadjaldaa
