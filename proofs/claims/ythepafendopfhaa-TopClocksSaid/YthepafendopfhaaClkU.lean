/- net.Send. Printed by gen/clk.py. -/
import Derived.Test.YthepafendopfhaaClkT
namespace Go.Proofs.Ythepafendopfhaa
open Go.RowKit
set_option linter.unusedVariables false
set_option maxRecDepth 100000

theorem kFls : ∃ d, Try.prog.underlying 22 = some d ∧ d.isRow = false := ⟨_, Try.underlying22, rfl⟩
set_option maxHeartbeats 4000000 in
theorem send_any (b : Nat) (tick t i s c : Int) (T : Ents) (M : Nat) (ob : Obj) (w0 w : World) (h1 : 0 ≤ i) (h2 : i ≤ 3) (h3 : 0 ≤ s) (h4 : s ≤ 2000) (h5 : 0 ≤ t) (h6 : t ≤ 1000) (h7 : tick ≤ t) (H : Hid (Hm w0 w M ob ((b, 59, [.slice none 0 0, .int .i64 tick, .slice none 0 0]) :: T))) :
    Calls Try.prog 11 #[.pointer (some ⟨b, 0, none⟩), .int .i64 t, .agg #[.int .i64 3, .int .i64 i, .int .i64 4, .int .i64 s, .int .u32 c, .slice none 0 0]] w fun e w' => ∃ v cur, e = .returned (.int .i64 0) ∧ RowV 7 v 1 (flat Sn.cells [⟨t + 1, ⟨i, s, c⟩⟩]) cur ∧ Hm w0 w' M ob ((b, 59, [.slice none 0 0, .int .i64 t, v]) :: (rowE v 61 cur ++ T)) := by
  have d1 : decide (t < 0) = false := decide_eq_false (by omega)
  have d2 : decide (2000 < t) = false := decide_eq_false (by omega)
  have d3 : decide (t < tick) = false := decide_eq_false (by omega)
  go_enter Try.func11, Try.ntmps11
  go_wp2_with (first
      | go_skip
      | ((with_reducible refine isLoad ?_); refine ld1A (Lib.hid H.out.hp) ?_ (hT := by first | exact kInt | exact kSnl | exact kFls | exact kU32))
      | ((with_reducible refine isLoad ?_); refine ldA (Lib.hid H.out.hp) ?_ (hT := by first | exact rSnt | exact rMsg))
      | ((with_reducible refine isStore ?_); refine st1M H ?_ (hT := by first | exact sSnl | exact sInt); clear H; intro _ H)
      | ((with_reducible refine isBox ?_); refine bxM H ?_; clear H; intro q _ H))
  go_at_call 22; refine (check_beat _ _ _ _ h1 h2 h3 h4).mono ?_; rintro _ _ ⟨rfl, hb⟩
  replace H := Lib.hid (H.out.go hb)
  clear hb
  go_wp2_with (first
      | go_skip
      | ((with_reducible refine isLoad ?_); refine ld1A (Lib.hid H.out.hp) ?_ (hT := by first | exact kInt | exact kSnl | exact kFls | exact kU32))
      | ((with_reducible refine isLoad ?_); refine ldA (Lib.hid H.out.hp) ?_ (hT := by first | exact rSnt | exact rMsg))
      | ((with_reducible refine isStore ?_); refine st1M H ?_ (hT := by first | exact sSnl | exact sInt); clear H; intro _ H)
      | ((with_reducible refine isBox ?_); refine bxM H ?_; clear H; intro q _ H))
  go_loopw [8, 9, 34] (fun m_ l_ i_ wr => m_ = .int .i64 1 ∧ l_ = .int .i64 0 ∧ i_ = .int .i64 0 ∧ Hid (Hm w0 wr M ob ((q, 39, [.int .i64 3, .int .i64 i, .int .i64 4, .int .i64 s, .int .u32 c, .slice none 0 0]) :: (b, 59, [.slice none 0 0, .int .i64 tick, .slice none 0 0]) :: T))) (fun _ _ _ _ => 0)
  case atStart => exact ⟨rfl, rfl, rfl, H⟩
  case round =>
    clear H
    obtain ⟨rfl, rfl, rfl, H⟩ := hrel
    go_wp2_with (first
        | go_skip
        | ((with_reducible refine isLoad ?_); refine ld1A (Lib.hid H.out.hp) ?_ (hT := by first | exact kInt | exact kSnl | exact kFls | exact kU32))
        | ((with_reducible refine isLoad ?_); refine ldA (Lib.hid H.out.hp) ?_ (hT := by first | exact rSnt | exact rMsg))
        | ((with_reducible refine isStore ?_); refine st1M H ?_ (hT := by first | exact sSnl | exact sInt); clear H; intro _ H)
        | ((with_reducible refine isBox ?_); refine bxM H ?_; clear H; intro q _ H))
    go_loopw [100] (fun i_ wr => (i_ = .int .i64 0 ∧ Hid (Hm w0 wr M ob ((q, 39, [.int .i64 3, .int .i64 i, .int .i64 4, .int .i64 s, .int .u32 c, .slice none 0 0]) :: (b, 59, [.slice none 0 0, .int .i64 t, .slice none 0 0]) :: T))) ∨ (i_ = .int .i64 1 ∧ ∃ v cur, Hid (RowV 7 v 1 (flat Sn.cells [⟨t + 1, ⟨i, s, c⟩⟩]) cur) ∧ Hid (Hm w0 wr M ob ((q, 39, [.int .i64 3, .int .i64 i, .int .i64 4, .int .i64 s, .int .u32 c, .slice none 0 0]) :: (b, 59, [.slice none 0 0, .int .i64 t, v]) :: (rowE v 61 cur ++ T))))) (fun i_ _ => 1 - (intOf i_).toNat)
    case atStart => exact .inl ⟨rfl, H⟩
    case round =>
      clear H
      rcases hrel with ⟨rfl, H⟩ | ⟨rfl, v, cur, RA, H⟩
      · go_wp2_with (first
          | go_skip
          | ((with_reducible refine isLoad ?_); refine ld1A (Lib.hid H.out.hp) ?_ (hT := by first | exact kInt | exact kSnl | exact kFls | exact kU32))
          | ((with_reducible refine isLoad ?_); refine ldA (Lib.hid H.out.hp) ?_ (hT := by first | exact rSnt | exact rMsg))
          | ((with_reducible refine isStore ?_); refine st1M H ?_ (hT := by first | exact sSnl | exact sInt); clear H; intro _ H)
          | ((with_reducible refine isBox ?_); refine bxM H ?_; clear H; intro q _ H))
        have RA : Hid (RowV 7 (.slice none 0 0) 0 [] []) := Lib.hid (RowV.nil 7)
        refine wp_region_X 14 [.c (.pointer (some ⟨b, 0, none⟩)), .q, .q, .q, .q, .q, .q, .q, .q, .q, .q, .q, .a, .x] H (by kernel_rfl) (by kernel_rfl) (by kernel_rfl) ?_
        simp only [List.take_succ_cons, List.take_zero, List.drop_succ_cons, List.drop_zero]
        refine wpX_c (by rfl) (by (first | exact wanted_none rfl | exact wanted_some rfl rfl)) (by intro W; first | (go_simp; rfl) | go_simp) ?_
        (simp only [Act.put, List.setIfInBounds_toArray, List.set_cons_succ, List.set_cons_zero])
        refine wpX_q (by rfl) (by (first | exact wanted_none rfl | exact wanted_some rfl rfl)) (by intro W; first | (go_simp; rfl) | go_simp) ?_
        (simp only [Act.put, List.setIfInBounds_toArray, List.set_cons_succ, List.set_cons_zero])
        refine wpX_q (by rfl) (by (first | exact wanted_none rfl | exact wanted_some rfl rfl)) (by intro W; first | (go_simp; rfl) | go_simp) ?_
        (simp only [Act.put, List.setIfInBounds_toArray, List.set_cons_succ, List.set_cons_zero])
        refine wpX_q (by rfl) (by (first | exact wanted_none rfl | exact wanted_some rfl rfl)) (by intro W; first | (go_simp; rfl) | go_simp) ?_
        (simp only [Act.put, List.setIfInBounds_toArray, List.set_cons_succ, List.set_cons_zero])
        refine wpX_load1 (by rfl) (by rfl) (by (first | exact wanted_none rfl | exact wanted_some rfl rfl)) kSnl (by rfl) (by (repeat (first | exact List.Mem.head _ | refine List.Mem.tail _ ?_ | assumption))) (by rfl) ?_
        (simp only [Act.put, List.setIfInBounds_toArray, List.set_cons_succ, List.set_cons_zero])
        refine wpX_q (by rfl) (by (first | exact wanted_none rfl | exact wanted_some rfl rfl)) (by intro W; first | (go_simp; rfl) | go_simp) ?_
        (simp only [Act.put, List.setIfInBounds_toArray, List.set_cons_succ, List.set_cons_zero])
        refine wpX_q (v := .int .i64 (t + 1)) (by rfl) (by (first | exact wanted_none rfl | exact wanted_some rfl rfl)) (by intro W; go_simp; exact IntWalk.i64_in _ (by omega)) ?_
        (simp only [Act.put, List.setIfInBounds_toArray, List.set_cons_succ, List.set_cons_zero])
        refine wpX_q (by rfl) (by (first | exact wanted_none rfl | exact wanted_some rfl rfl)) (by intro W; first | (go_simp; rfl) | go_simp) ?_
        (simp only [Act.put, List.setIfInBounds_toArray, List.set_cons_succ, List.set_cons_zero])
        refine wpX_q (v := .int .i64 (t + 1)) (by rfl) (by (first | exact wanted_none rfl | exact wanted_some rfl rfl)) (by intro W; go_simp; exact IntWalk.i64_in _ (by omega)) ?_
        (simp only [Act.put, List.setIfInBounds_toArray, List.set_cons_succ, List.set_cons_zero])
        refine wpX_load (by rfl) (by rfl) (by (first | exact wanted_none rfl | exact wanted_some rfl rfl)) rMsg (by rfl) (by (repeat (first | exact List.Mem.head _ | refine List.Mem.tail _ ?_ | assumption))) (by (simp only [List.drop, List.take]); rfl) (by rfl) ?_
        (simp only [Act.put, List.setIfInBounds_toArray, List.set_cons_succ, List.set_cons_zero])
        apply wpX_C (by rfl) (by (first | exact wanted_none rfl | exact wanted_some rfl rfl))
        · intro W hW
          unfold keepsAt
          go_simp
          go_at_call 23
          exact (copy_beat _ _ _ _).mono fun _ _ h => h
        (simp only [Act.put, List.setIfInBounds_toArray, List.set_cons_succ, List.set_cons_zero])
        refine wpX_q (by rfl) (by (first | exact wanted_none rfl | exact wanted_some rfl rfl)) (by intro W; first | (go_simp; rfl) | go_simp) ?_
        (simp only [Act.put, List.setIfInBounds_toArray, List.set_cons_succ, List.set_cons_zero])
        refine wpX_V 61 ([.int .i64 (t + 1), .int .i64 3, .int .i64 i, .int .i64 4, .int .i64 s, .int .u32 c, .slice none 0 0]) 1 (by rfl) (by rfl) (by intro W; kernel_rfl) ?_
        intro _
        (simp only [Act.put, List.setIfInBounds_toArray, List.set_cons_succ, List.set_cons_zero])
        refine wpX_app [_, _, _] T (by rfl) RA (by rfl) iSnt (by decide) Try.underlying57 (by rfl) (by rfl) (by rfl) (by rfl) (by (repeat (first | exact List.Mem.head _ | refine List.Mem.tail _ ?_ | assumption))) (by rfl) (by rfl) (by decide) (by decide) (by decide) ?_
        clear RA
        intro _ _ RA
        obtain ⟨_, _, rfl, _⟩ := RA.out.shape
        (simp only [Act.put, List.setIfInBounds_toArray, List.set_cons_succ, List.set_cons_zero])
        refine wpX_nil ?_
        clear H
        intro _ H
        go_wp2_with (first
            | go_skip
            | ((with_reducible refine isLoad ?_); refine ld1A (Lib.hid H.out.hp) ?_ (hT := by first | exact kInt | exact kSnl | exact kFls | exact kU32))
            | ((with_reducible refine isLoad ?_); refine ldA (Lib.hid H.out.hp) ?_ (hT := by first | exact rSnt | exact rMsg))
            | ((with_reducible refine isStore ?_); refine st1M H ?_ (hT := by first | exact sSnl | exact sInt); clear H; intro _ H)
            | ((with_reducible refine isBox ?_); refine bxM H ?_; clear H; intro q _ H))
        replace H : Hid (Hm w0 _ M ob ((q, 39, [.int .i64 3, .int .i64 i, .int .i64 4, .int .i64 s, .int .u32 c, .slice none 0 0]) :: (b, 59, [.slice none 0 0, .int .i64 t, _]) :: (rowE _ 61 _ ++ T))) := Lib.hid H.out.drop
        go_roundw
        case rel => first | exact ⟨_, _, _, _, .inr ⟨rfl, _, _, RA, H⟩, rfl, rfl, rfl⟩ | exact .inr ⟨rfl, _, _, RA, H⟩ | (trace_state; exact 0)
        case measure => simp [intOf]
      · go_wp2_with (first
            | go_skip
            | ((with_reducible refine isLoad ?_); refine ld1A (Lib.hid H.out.hp) ?_ (hT := by first | exact kInt | exact kSnl | exact kFls | exact kU32))
            | ((with_reducible refine isLoad ?_); refine ldA (Lib.hid H.out.hp) ?_ (hT := by first | exact rSnt | exact rMsg))
            | ((with_reducible refine isStore ?_); refine st1M H ?_ (hT := by first | exact sSnl | exact sInt); clear H; intro _ H)
            | ((with_reducible refine isBox ?_); refine bxM H ?_; clear H; intro q _ H))
        go_ret
        exact ⟨_, _, rfl, RA.out, H.out.drop⟩
end Go.Proofs.Ythepafendopfhaa
