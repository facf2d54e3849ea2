/- The walks of slices.Index, Contains, Equal at facts, fact.Has. -/
import Derived.Test.YtioofkhadjaldaaFactA
import Derived.BigQuiet
namespace Go.Proofs.Ytioofkhadjaldaa
open Go.RowKit
set_option linter.unusedVariables false
set_option maxRecDepth 100000

def RF (w : World) (A : Option Addr) (fs : List Fct) : Prop := RK Fct.cells 3 w A fs
theorem RF.at {w : World} {A : Option Addr} {fs : List Fct} (h : RF w A fs) {j : Nat} {f : Fct} (hj : fs[j]? = some f) : ∃ b o, A = some ⟨b, o, none⟩ ∧ b < w.heap.size ∧ w.cell? ⟨b, o + j * 3, none⟩ = some (.int .i64 f.k) ∧ w.cell? ⟨b, o + j * 3 + 1, none⟩ = some (.int .i64 f.a) ∧ w.cell? ⟨b, o + j * 3 + 2, none⟩ = some (.int .i64 f.b) := by
  obtain ⟨b, o, hA, hb, hc⟩ := h (by have := lt_of_at hj; omega)
  exact ⟨b, o, hA, hb, hc j f 0 _ hj rfl, hc j f 1 _ hj rfl, hc j f 2 _ hj rfl⟩

abbrev Fct.v (f : Fct) : Value := .agg #[.int .i64 f.k, .int .i64 f.a, .int .i64 f.b]
theorem eqF_run (x y : Fct) (w : World) : Sem.run Try.prog (binOp .eql 66 x.v y.v) w = .ok (.bool (decide (x = y))) w := by
  have u3 := Try.underlying3
  have a3 := Try.isAgg3
  have z3 := Try.sizeOf3
  have hS : Try.prog.underlying 66 = some (.struct (Try.prog.fieldsOf 66)) := by kernel_rfl
  have hp : Try.prog.stoodInHeld 66 = false := by kernel_rfl
  rw [run_eql_struct, show (10000 : Nat) = 9999 + 1 from rfl, run_equalIn_agg w 9999 66 _ _ hS hp]
  simp only [Program.fieldsOf, Try.underlying66]
  go_simp
  obtain ⟨x1, x2, x3⟩ := x
  obtain ⟨y1, y2, y3⟩ := y
  by_cases h1 : x1 = y1 <;> by_cases h2 : x2 = y2 <;> by_cases h3 : x3 = y3 <;> simp [h1, h2, h3]
theorem neF_run (x y : Fct) (w : World) : Sem.run Try.prog (binOp .neq 66 x.v y.v) w = .ok (.bool (!decide (x = y))) w := by
  have u3 := Try.underlying3
  have a3 := Try.isAgg3
  have z3 := Try.sizeOf3
  have hS : Try.prog.underlying 66 = some (.struct (Try.prog.fieldsOf 66)) := by kernel_rfl
  have hp : Try.prog.stoodInHeld 66 = false := by kernel_rfl
  rw [run_neq_struct, show (10000 : Nat) = 9999 + 1 from rfl, run_equalIn_agg w 9999 66 _ _ hS hp]
  simp only [Program.fieldsOf, Try.underlying66]
  go_simp
  obtain ⟨x1, x2, x3⟩ := x
  obtain ⟨y1, y2, y3⟩ := y
  by_cases h1 : x1 = y1 <;> by_cases h2 : x2 = y2 <;> by_cases h3 : x3 = y3 <;> simp [h1, h2, h3]

set_option maxHeartbeats 2000000 in
theorem indexF_any (A : Option Addr) (n c : Nat) (fs : List Fct) (v : Fct) (w : World) (hR : RF w A fs) (hn : fs.length = n) (hm : n ≤ 100000) :
    Calls Try.prog 82 #[.slice A n c, .agg #[.int .i64 v.k, .int .i64 v.a, .int .i64 v.b]] w fun e w' => ∃ r, e = .returned (.int .i64 r) ∧ (v ∈ fs ↔ 0 ≤ r) ∧ -1 ≤ r ∧ r ≤ 100000 ∧ Below w.heap.size w w' := by
  subst hn
  have HR := Lib.hid hR; clear hR
  have X0 := Lib.hid (Blk.new w 66 #[.int .i64 v.k, .int .i64 v.a, .int .i64 v.b])
  have B0 := Lib.hid ((Below.refl w.heap.size w).alloc (Nat.le_refl _) (.cells #[.int .i64 v.k, .int .i64 v.a, .int .i64 v.b] 66))
  go_enter Try.func82, Try.ntmps82
  go_wp2
  go_loopw [8] (fun i wr => ∃ k : Nat, k ≤ fs.length ∧ i = .int .i64 k ∧ Hid (v ∉ fs.take k) ∧ ∃ n, wr = (w.alloc (.cells #[.int .i64 v.k, .int .i64 v.a, .int .i64 v.b] 66)).drewN n) (fun i _ => fs.length - (intOf i).toNat)
  case atStart => exact ⟨0, by omega, rfl, by simp [Hid], 0, rfl⟩
  case round =>
    obtain ⟨k, hk, rfl, hno, n, rfl⟩ := hrel
    by_cases hlt : k < fs.length
    · obtain ⟨x, hx⟩ := some_at hlt
      obtain ⟨b, o, rfl, hb, c0, c1, c2⟩ := RF.at (HR.out.below B0.out) hx
      have hkx : (k : Int) < (fs.length : Int) := by omega
      have Hx := Lib.hid hx
      clear hx
      by_cases hv : v = x
      · subst hv
        have q1 : (v.k == v.k) = true := by simp
        have q2 : (v.a == v.a) = true := by simp
        have q3 : (v.b == v.b) = true := by simp
        go_wp2
        go_quiet (fail)
        go_wp2
        go_ret
        exact ⟨k, rfl, ⟨fun _ => by omega, fun _ => List.mem_of_getElem? Hx.out⟩, by omega, by omega, below_drewN (below_drewN B0.out _) _⟩
      · have hq := fun w => eqF_run v x w
        simp only [hv, decide_false] at hq
        have Hv := Lib.hid hv
        clear hv
        go_wp2
        go_quiet (fail)
        go_wp2
        go_roundw
        case rel =>
          refine ⟨k + 1, by omega, by go_num, ?_, n + nq, by simp only [World.drewN_drewN]⟩
          have := hno.out
          have h2 := Hv.out
          unfold Hid
          rw [List.take_add_one, Hx.out]
          simpa using ⟨this, h2⟩
        case measure => simp [intOf]; omega
    · have hkx : k = fs.length := by omega
      have hno' : v ∉ fs := by have := hno.out; rwa [hkx, List.take_length] at this
      have Hn := Lib.hid hno'
      clear hno'
      go_wp2
      go_ret
      exact ⟨-1, rfl, ⟨fun h => absurd h Hn.out, fun h => by omega⟩, by omega, by omega, below_drewN B0.out _⟩

set_option maxHeartbeats 2000000 in
theorem containsF_any (A : Option Addr) (n c : Nat) (fs : List Fct) (v : Fct) (r : Bool) (w : World) (hR : RF w A fs) (hn : fs.length = n) (hm : n ≤ 100000) (hr : Hid (r = decide (v ∈ fs))) :
    Calls Try.prog 67 #[.slice A n c, .agg #[.int .i64 v.k, .int .i64 v.a, .int .i64 v.b]] w fun e w' => e = .returned (.bool r) ∧ Below w.heap.size w w' := by
  have HR := Lib.hid hR; clear hR
  have Hn := Lib.hid hn; clear hn
  have B0 := Lib.hid ((Below.refl w.heap.size w).alloc (Nat.le_refl _) (.cells #[.int .i64 v.k, .int .i64 v.a, .int .i64 v.b] 66))
  go_enter Try.func67, Try.ntmps67
  go_wp2_with fail
  refine (indexF_any _ _ _ fs v _ (HR.out.below B0.out) Hn.out hm).mono ?_
  rintro e w' ⟨q, rfl, hq, hq1, hq2, hb⟩
  have Hq := Lib.hid hq
  have B1 := Lib.hid (B0.out.trans (hb.mono B0.out.size))
  clear hq hb
  go_wp2
  go_ret
  refine ⟨ret_bool ?_, B1.out⟩
  rw [hr.out]
  by_cases h : v ∈ fs
  · have := Hq.out.1 h
    simp [h, this]
  · have : ¬ 0 ≤ q := fun h2 => h (Hq.out.2 h2)
    simp [h]; omega

set_option maxHeartbeats 2000000 in
theorem Has_any (A : Option Addr) (n c : Nat) (fs : List Fct) (v : Fct) (r : Bool) (w : World) (hR : RF w A fs) (hn : fs.length = n) (hm : n ≤ 100000) (hr : Hid (r = decide (v ∈ fs))) :
    Calls Try.prog 53 #[.slice A n c, .agg #[.int .i64 v.k, .int .i64 v.a, .int .i64 v.b]] w fun e w' => e = .returned (.bool r) ∧ Below w.heap.size w w' := by
  have HR := Lib.hid hR; clear hR
  have Hn := Lib.hid hn; clear hn
  have B0 := Lib.hid ((Below.refl w.heap.size w).alloc (Nat.le_refl _) (.cells #[.int .i64 v.k, .int .i64 v.a, .int .i64 v.b] 66))
  go_enter Try.func53, Try.ntmps53
  go_wp2_with fail
  refine (containsF_any _ _ _ fs v r _ (HR.out.below B0.out) Hn.out hm hr).mono ?_
  rintro e w' ⟨rfl, hb⟩
  have B1 := Lib.hid (B0.out.trans (hb.mono B0.out.size))
  clear hb
  go_wp2
  go_ret
  exact ⟨rfl, B1.out⟩

set_option maxHeartbeats 4000000 in
theorem equalF_any (A B : Option Addr) (n m c d : Nat) (fs gs : List Fct) (w : World) (r : Bool) (hn : fs.length = n) (hm : gs.length = m) (hl : n ≤ 100000) (hl' : m ≤ 100000) (hX : RF w A fs) (hY : RF w B gs) (hr : Hid (r = decide (fs = gs))) :
    Calls Try.prog 27 #[.slice A n c, .slice B m d] w fun e w' => e = .returned (.bool r) ∧ ∃ k, w' = w.drewN k := by
  subst hn
  subst hm
  have HX := Lib.hid hX
  have HY := Lib.hid hY
  clear hX hY
  by_cases hl0 : fs.length = gs.length
  · have hq : ((fs.length : Int) != gs.length) = false := by rw [hl0]; simp
    have Hl := Lib.hid hl0
    clear hl0
    go_enter Try.func27, Try.ntmps27
    go_wp2
    go_loopw [13] (fun i wr => ∃ k : Nat, k ≤ fs.length ∧ i = .int .i64 k ∧ Hid (∀ j, j < k → fs[j]? = gs[j]?) ∧ ∃ n, wr = w.drewN n) (fun i _ => fs.length - (intOf i).toNat)
    case atStart => exact ⟨0, by omega, rfl, fun j hj => absurd hj (by omega), 0, rfl⟩
    case round =>
      obtain ⟨k, hk, rfl, hall, n, rfl⟩ := hrel
      by_cases hlt : k < fs.length
      · obtain ⟨x, hx⟩ := some_at hlt
        obtain ⟨y, hy⟩ := some_at (l := gs) (k := k) (by have := Hl.out; omega)
        obtain ⟨b, o, rfl, hb1, a0, a1, a2⟩ := RF.at HX.out hx
        obtain ⟨b', o', rfl, hb1', b0, b1, b2⟩ := RF.at HY.out hy
        have hkx : (k : Int) < (fs.length : Int) := by omega
        have hky : (k : Int) < (gs.length : Int) := by have := Hl.out; omega
        have Hx := Lib.hid hx
        have Hy := Lib.hid hy
        have hq := fun w => neF_run x y w
        clear hx hy
        by_cases hxy : x = y
        · have hall2 : Hid (∀ j, j < k + 1 → fs[j]? = gs[j]?) := fun j hj => by
            by_cases e : j = k
            · subst e; rw [Hx.out, Hy.out, hxy]
            · exact hall.out j (by omega)
          simp only [hxy, decide_true, Bool.not_true] at hq
          subst hxy
          go_wp2
          go_quiet (fail)
          go_wp2
          go_roundw
          case rel => exact ⟨k + 1, by omega, by go_num, hall2, _, rfl⟩
          case measure => simp [intOf]; omega
        · have hrf : r = false := by
            rw [hr.out]
            simp only [decide_eq_false_iff_not]
            intro h
            have h1 := Hx.out
            rw [h, Hy.out] at h1
            exact hxy (Option.some.inj h1).symm
          subst hrf
          simp only [hxy, decide_false, Bool.not_false] at hq
          clear hxy
          go_wp2
          go_quiet (fail)
          go_wp2
          go_ret
          exact ⟨rfl, _, by simp only [World.drewN_drewN]; rfl⟩
      · have hrt : r = true := by
          rw [hr.out]
          simp only [decide_eq_true_eq]
          refine List.ext_getElem? fun j => ?_
          by_cases hj : j < k
          · exact hall.out j hj
          · rw [List.getElem?_eq_none (by omega), List.getElem?_eq_none (by have := Hl.out; omega)]
        subst hrt
        go_wp2
        go_ret
        exact ⟨rfl, _, rfl⟩
  · have hq : ((fs.length : Int) != gs.length) = true := by simp; omega
    have hrf : r = false := by
      rw [hr.out]
      simp only [decide_eq_false_iff_not]
      intro h
      exact hl0 (by rw [h])
    subst hrf
    go_enter Try.func27, Try.ntmps27
    go_wp2
    go_ret
    exact ⟨rfl, 0, rfl⟩
end Go.Proofs.Ytioofkhadjaldaa
