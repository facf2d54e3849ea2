/- The walk of act.may. -/
import Derived.Test.YtioofkhadjaldaaActC
namespace Go.Proofs.Ytioofkhadjaldaa
open Go.RowKit
set_option linter.unusedVariables false
set_option maxRecDepth 100000

/-- What may says, of a step that has its form and whose arm, part and slot exist. -/
def mayP (x : AW) (s : St) : Int :=
  let full := 0 ≤ holdsP x s.arm
  let t := targetP x s
  let here := t ≠ -1 ∧ x.spot[s.arm.toNat]? = some t
  if s.kind = 0 then (if 0 ≤ s.part ∧ full then 6 else if t = -1 then 7 else if here then 5 else if t ∈ x.spot then 10 else 0)
  else if s.kind = 1 then (if full then 6 else if ¬ here then 7 else if x.seen[s.part.toNat]? = some true then 0 else 18)
  else if s.kind = 3 then (if full then 6 else if ¬ here then 7 else if x.seen[s.part.toNat]? = some true then 5 else 0)
  else if s.kind = 2 then (if ¬ full ∨ ¬ here then 7 else if 0 ≤ inP x s.slot then 5 else 0)
  else 0

section
variable (x : AW) (A1 A2 A3 : Option Addr) (n1 n3 c1 c2 c3 : Nat) (k : Nat) (part slot ticks : Int) (w : World)
set_option maxHeartbeats 8000000 in
theorem may_go (hx : RW4 w x A1 A2 A3 n1 n1 n3 c1 c2 c3) (hf : formP ⟨0, k, part, slot, ticks⟩) (hkn : k < n3) (hp : part < n1) (r : Int) (hr : Hid (mayP x ⟨0, k, part, slot, ticks⟩ = r)) :
    Calls Try.prog 46 #[.agg #[.int .i64 x.slots, .slice A1 n1 c1, .slice A2 n1 c2, .slice A3 n3 c3], .agg #[.int .i64 0, .int .i64 k, .int .i64 part, .int .i64 slot, .int .i64 ticks]] w fun e w' => e = .returned (.int .i64 r) ∧ Below w.heap.size w w' := by
  have B1 := Lib.hid ((Below.refl w.heap.size w).alloc (Nat.le_refl _) (.cells #[.int .i64 x.slots, .slice A1 n1 c1, .slice A2 n1 c2, .slice A3 n3 c3] 25))
  have B2 := Lib.hid (B1.out.alloc B1.out.size (.cells #[.int .i64 0, .int .i64 k, .int .i64 part, .int .i64 slot, .int .i64 ticks] 39))
  have X2 := Lib.hid ((Blk.new w 25 #[.int .i64 x.slots, .slice A1 n1 c1, .slice A2 n1 c2, .slice A3 n3 c3]).alloc (.cells #[.int .i64 0, .int .i64 k, .int .i64 part, .int .i64 slot, .int .i64 ticks] 39))
  have Y2 := Lib.hid (Blk.new (w.alloc (.cells #[.int .i64 x.slots, .slice A1 n1 c1, .slice A2 n1 c2, .slice A3 n3 c3] 25)) 39 #[.int .i64 0, .int .i64 k, .int .i64 part, .int .i64 slot, .int .i64 ticks])
  simp only [World.size_alloc] at Y2
  have H2 := Lib.hid (hx.below B2.out)
  obtain ⟨q, hq⟩ := some_at (l := x.spot) (k := k) (by rw [hx.l3]; exact hkn)
  obtain ⟨h, hh⟩ : ∃ h, holdsP x k = h := ⟨_, rfl⟩
  obtain ⟨t, ht⟩ : ∃ t, targetP x ⟨0, k, part, slot, ticks⟩ = t := ⟨_, rfl⟩
  have HH := Lib.hid hh
  have HT := Lib.hid ht
  have hb3 := hx.b3
  have HQ := Lib.hid hq
  have hkI : (k : Int) < n3 := by omega
  clear hh ht hq hx
  go_enter Try.func46, Try.ntmps46
  go_wp2_with fail
  generalize hw3 : (w.alloc (.cells #[.int .i64 x.slots, .slice A1 n1 c1, .slice A2 n1 c2, .slice A3 n3 c3] 25)).alloc (.cells #[.int .i64 0, .int .i64 k, .int .i64 part, .int .i64 slot, .int .i64 ticks] 39) = w3 at B2 X2 Y2 H2 ⊢
  clear hw3
  have x0 := fun s : Ext w3 => s.cell (X2.out.cell 0)
  have x1 := fun s : Ext w3 => s.cell (X2.out.cell 1)
  have x2 := fun s : Ext w3 => s.cell (X2.out.cell 2)
  have x3 := fun s : Ext w3 => s.cell (X2.out.cell 3)
  have y0 := fun s : Ext w3 => s.cell (Y2.out.cell 0)
  have y1 := fun s : Ext w3 => s.cell (Y2.out.cell 1)
  have y2 := fun s : Ext w3 => s.cell (Y2.out.cell 2)
  have y3 := fun s : Ext w3 => s.cell (Y2.out.cell 3)
  have y4 := fun s : Ext w3 => s.cell (Y2.out.cell 4)
  refine wp_region_ext (by kernel_rfl) (by kernel_rfl) ?_
  repeat (go_big_quiet_step (fail))
  go_big_quiet_step ((go_at_call 9; refine Calls.ext (Holds_any x A1 A2 A3 n1 n1 n3 c1 c2 c3 _ (H2.out.below (Ext.h _)) k h (by omega) (by omega) HH)))
  repeat (go_big_quiet_step (fail))
  go_big_quiet_step ((go_at_call 52; refine Calls.ext (target_any x A1 A2 A3 n1 n1 n3 c1 c2 c3 ⟨0, k, part, slot, ticks⟩ _ (H2.out.below (Ext.h _)) t HT)))
  repeat (go_big_quiet_step (fail))
  refine wpQuiet_nil ?_
  intro _ hw'
  obtain ⟨sx, rfl⟩ := hw'
  have bx := H2.out.below sx.h
  obtain ⟨b3', o3, hA3, _, hc3⟩ := bx.ra.spot (by have := lt_of_at HQ.out; omega)
  subst hA3
  have e3 := hc3 k q HQ.out
  have L3 := Lib.hid bx.l3
  have L1 := Lib.hid bx.l1
  have S3 := Lib.hid bx.ra.spot
  have P3 := Lib.hid bx
  clear hc3 bx x0 x1 x2 x3 y0 y1 y2 y3 y4
  have X3 := Lib.hid (X2.out.below sx.h X2.out.lt)
  have Y3 := Lib.hid (Y2.out.below sx.h Y2.out.lt)
  have B3 := Lib.hid (keep_below B2.out (Nat.le_refl _) sx.h)
  generalize sx.to = w5 at e3 S3 P3 X3 Y3 B3 ⊢
  have x0 := X3.out.cell 0
  have x1 := X3.out.cell 1
  have x2 := X3.out.cell 2
  have x3 := X3.out.cell 3
  have y0 := Y3.out.cell 0
  have y1 := Y3.out.cell 1
  have y2 := Y3.out.cell 2
  have y3 := Y3.out.cell 3
  have y4 := Y3.out.cell 4
  clear X2 Y2 B2 H2
  obtain ⟨rc, hrc⟩ : ∃ rc, rc = decide (t ∈ x.spot) := ⟨_, rfl⟩
  have HRC := Lib.hid hrc
  have hr2 : Hid ((if 0 ≤ part ∧ 0 ≤ h then 6 else if t = -1 then 7 else if t ≠ -1 ∧ q = t then 5 else if rc = true then 10 else 0) = r) := by
    unfold Hid
    rw [← hr.out, hrc]
    simp [mayP, HH.out, HT.out, HQ.out]
  clear hrc hr hf
  cases rc
  all_goals
    go_wp2_with (go_at_call 48; refine (containsI_any _ n3 c3 x.spot t _ _ S3.out L3.out (by omega) HRC).mono ?_; rintro e w' ⟨rfl, rfl⟩)
    all_goals
      go_ret
      refine ⟨ret_int ?_, B3.out⟩
      rw [← hr2.out]
      clear hr2 HRC
      (try simp only [beq_iff_eq, beq_eq_false_iff_ne, ne_eq] at *)
      (repeat' split) <;> first | rfl | omega | simp_all
set_option maxHeartbeats 8000000 in
theorem may_take (hx : RW4 w x A1 A2 A3 n1 n1 n3 c1 c2 c3) (hf : formP ⟨1, k, part, slot, ticks⟩) (hkn : k < n3) (hp : part < n1) (r : Int) (hr : Hid (mayP x ⟨1, k, part, slot, ticks⟩ = r)) :
    Calls Try.prog 46 #[.agg #[.int .i64 x.slots, .slice A1 n1 c1, .slice A2 n1 c2, .slice A3 n3 c3], .agg #[.int .i64 1, .int .i64 k, .int .i64 part, .int .i64 slot, .int .i64 ticks]] w fun e w' => e = .returned (.int .i64 r) ∧ Below w.heap.size w w' := by
  have hp0 : 0 ≤ part := by have h := hf; unfold formP at h; dsimp only at h; omega
  obtain ⟨p, rfl⟩ := Int.eq_ofNat_of_zero_le hp0
  obtain ⟨sp, hsp⟩ := some_at (l := x.seen) (k := p) (by rw [hx.l2]; omega)
  have HSP := Lib.hid hsp
  clear hp0 hsp
  have B1 := Lib.hid ((Below.refl w.heap.size w).alloc (Nat.le_refl _) (.cells #[.int .i64 x.slots, .slice A1 n1 c1, .slice A2 n1 c2, .slice A3 n3 c3] 25))
  have B2 := Lib.hid (B1.out.alloc B1.out.size (.cells #[.int .i64 1, .int .i64 k, .int .i64 p, .int .i64 slot, .int .i64 ticks] 39))
  have X2 := Lib.hid ((Blk.new w 25 #[.int .i64 x.slots, .slice A1 n1 c1, .slice A2 n1 c2, .slice A3 n3 c3]).alloc (.cells #[.int .i64 1, .int .i64 k, .int .i64 p, .int .i64 slot, .int .i64 ticks] 39))
  have Y2 := Lib.hid (Blk.new (w.alloc (.cells #[.int .i64 x.slots, .slice A1 n1 c1, .slice A2 n1 c2, .slice A3 n3 c3] 25)) 39 #[.int .i64 1, .int .i64 k, .int .i64 p, .int .i64 slot, .int .i64 ticks])
  simp only [World.size_alloc] at Y2
  have H2 := Lib.hid (hx.below B2.out)
  obtain ⟨q, hq⟩ := some_at (l := x.spot) (k := k) (by rw [hx.l3]; exact hkn)
  obtain ⟨h, hh⟩ : ∃ h, holdsP x k = h := ⟨_, rfl⟩
  obtain ⟨t, ht⟩ : ∃ t, targetP x ⟨1, k, p, slot, ticks⟩ = t := ⟨_, rfl⟩
  have HH := Lib.hid hh
  have HT := Lib.hid ht
  have hb3 := hx.b3
  have HQ := Lib.hid hq
  have hkI : (k : Int) < n3 := by omega
  clear hh ht hq hx
  go_enter Try.func46, Try.ntmps46
  go_wp2_with fail
  generalize hw3 : (w.alloc (.cells #[.int .i64 x.slots, .slice A1 n1 c1, .slice A2 n1 c2, .slice A3 n3 c3] 25)).alloc (.cells #[.int .i64 1, .int .i64 k, .int .i64 p, .int .i64 slot, .int .i64 ticks] 39) = w3 at B2 X2 Y2 H2 ⊢
  clear hw3
  have x0 := fun s : Ext w3 => s.cell (X2.out.cell 0)
  have x1 := fun s : Ext w3 => s.cell (X2.out.cell 1)
  have x2 := fun s : Ext w3 => s.cell (X2.out.cell 2)
  have x3 := fun s : Ext w3 => s.cell (X2.out.cell 3)
  have y0 := fun s : Ext w3 => s.cell (Y2.out.cell 0)
  have y1 := fun s : Ext w3 => s.cell (Y2.out.cell 1)
  have y2 := fun s : Ext w3 => s.cell (Y2.out.cell 2)
  have y3 := fun s : Ext w3 => s.cell (Y2.out.cell 3)
  have y4 := fun s : Ext w3 => s.cell (Y2.out.cell 4)
  refine wp_region_ext (by kernel_rfl) (by kernel_rfl) ?_
  repeat (go_big_quiet_step (fail))
  go_big_quiet_step ((go_at_call 9; refine Calls.ext (Holds_any x A1 A2 A3 n1 n1 n3 c1 c2 c3 _ (H2.out.below (Ext.h _)) k h (by omega) (by omega) HH)))
  repeat (go_big_quiet_step (fail))
  go_big_quiet_step ((go_at_call 52; refine Calls.ext (target_any x A1 A2 A3 n1 n1 n3 c1 c2 c3 ⟨1, k, p, slot, ticks⟩ _ (H2.out.below (Ext.h _)) t HT)))
  repeat (go_big_quiet_step (fail))
  refine wpQuiet_nil ?_
  intro _ hw'
  obtain ⟨sx, rfl⟩ := hw'
  have bx := H2.out.below sx.h
  obtain ⟨b3', o3, hA3, _, hc3⟩ := bx.ra.spot (by have := lt_of_at HQ.out; omega)
  subst hA3
  have e3 := hc3 k q HQ.out
  obtain ⟨b2', o2, hA2, _, e2⟩ := RBo.at bx.ra.seen HSP.out
  subst hA2
  have L3 := Lib.hid bx.l3
  have L1 := Lib.hid bx.l1
  have S3 := Lib.hid bx.ra.spot
  have P3 := Lib.hid bx
  clear hc3 bx x0 x1 x2 x3 y0 y1 y2 y3 y4
  have X3 := Lib.hid (X2.out.below sx.h X2.out.lt)
  have Y3 := Lib.hid (Y2.out.below sx.h Y2.out.lt)
  have B3 := Lib.hid (keep_below B2.out (Nat.le_refl _) sx.h)
  generalize sx.to = w5 at e2 e3 S3 P3 X3 Y3 B3 ⊢
  have x0 := X3.out.cell 0
  have x1 := X3.out.cell 1
  have x2 := X3.out.cell 2
  have x3 := X3.out.cell 3
  have y0 := Y3.out.cell 0
  have y1 := Y3.out.cell 1
  have y2 := Y3.out.cell 2
  have y3 := Y3.out.cell 3
  have y4 := Y3.out.cell 4
  clear X2 Y2 B2 H2
  have hr2 : Hid ((if 0 ≤ h then 6 else if ¬ (t ≠ -1 ∧ q = t) then 7 else if sp = true then 0 else 18) = r) := by
    unfold Hid
    rw [← hr.out]
    simp [mayP, HH.out, HT.out, HQ.out, HSP.out]
  clear hr hf
  cases sp
  all_goals
    go_wp2_with fail
    all_goals
      go_ret
      refine ⟨ret_int ?_, B3.out⟩
      rw [← hr2.out]
      clear hr2
      (try simp only [beq_iff_eq, beq_eq_false_iff_ne, ne_eq] at *)
      (repeat' split) <;> first | rfl | omega | (simp_all <;> omega)
set_option maxHeartbeats 8000000 in
theorem may_look (hx : RW4 w x A1 A2 A3 n1 n1 n3 c1 c2 c3) (hf : formP ⟨3, k, part, slot, ticks⟩) (hkn : k < n3) (hp : part < n1) (r : Int) (hr : Hid (mayP x ⟨3, k, part, slot, ticks⟩ = r)) :
    Calls Try.prog 46 #[.agg #[.int .i64 x.slots, .slice A1 n1 c1, .slice A2 n1 c2, .slice A3 n3 c3], .agg #[.int .i64 3, .int .i64 k, .int .i64 part, .int .i64 slot, .int .i64 ticks]] w fun e w' => e = .returned (.int .i64 r) ∧ Below w.heap.size w w' := by
  have hp0 : 0 ≤ part := by have h := hf; unfold formP at h; dsimp only at h; omega
  obtain ⟨p, rfl⟩ := Int.eq_ofNat_of_zero_le hp0
  obtain ⟨sp, hsp⟩ := some_at (l := x.seen) (k := p) (by rw [hx.l2]; omega)
  have HSP := Lib.hid hsp
  clear hp0 hsp
  have B1 := Lib.hid ((Below.refl w.heap.size w).alloc (Nat.le_refl _) (.cells #[.int .i64 x.slots, .slice A1 n1 c1, .slice A2 n1 c2, .slice A3 n3 c3] 25))
  have B2 := Lib.hid (B1.out.alloc B1.out.size (.cells #[.int .i64 3, .int .i64 k, .int .i64 p, .int .i64 slot, .int .i64 ticks] 39))
  have X2 := Lib.hid ((Blk.new w 25 #[.int .i64 x.slots, .slice A1 n1 c1, .slice A2 n1 c2, .slice A3 n3 c3]).alloc (.cells #[.int .i64 3, .int .i64 k, .int .i64 p, .int .i64 slot, .int .i64 ticks] 39))
  have Y2 := Lib.hid (Blk.new (w.alloc (.cells #[.int .i64 x.slots, .slice A1 n1 c1, .slice A2 n1 c2, .slice A3 n3 c3] 25)) 39 #[.int .i64 3, .int .i64 k, .int .i64 p, .int .i64 slot, .int .i64 ticks])
  simp only [World.size_alloc] at Y2
  have H2 := Lib.hid (hx.below B2.out)
  obtain ⟨q, hq⟩ := some_at (l := x.spot) (k := k) (by rw [hx.l3]; exact hkn)
  obtain ⟨h, hh⟩ : ∃ h, holdsP x k = h := ⟨_, rfl⟩
  obtain ⟨t, ht⟩ : ∃ t, targetP x ⟨3, k, p, slot, ticks⟩ = t := ⟨_, rfl⟩
  have HH := Lib.hid hh
  have HT := Lib.hid ht
  have hb3 := hx.b3
  have HQ := Lib.hid hq
  have hkI : (k : Int) < n3 := by omega
  clear hh ht hq hx
  go_enter Try.func46, Try.ntmps46
  go_wp2_with fail
  generalize hw3 : (w.alloc (.cells #[.int .i64 x.slots, .slice A1 n1 c1, .slice A2 n1 c2, .slice A3 n3 c3] 25)).alloc (.cells #[.int .i64 3, .int .i64 k, .int .i64 p, .int .i64 slot, .int .i64 ticks] 39) = w3 at B2 X2 Y2 H2 ⊢
  clear hw3
  have x0 := fun s : Ext w3 => s.cell (X2.out.cell 0)
  have x1 := fun s : Ext w3 => s.cell (X2.out.cell 1)
  have x2 := fun s : Ext w3 => s.cell (X2.out.cell 2)
  have x3 := fun s : Ext w3 => s.cell (X2.out.cell 3)
  have y0 := fun s : Ext w3 => s.cell (Y2.out.cell 0)
  have y1 := fun s : Ext w3 => s.cell (Y2.out.cell 1)
  have y2 := fun s : Ext w3 => s.cell (Y2.out.cell 2)
  have y3 := fun s : Ext w3 => s.cell (Y2.out.cell 3)
  have y4 := fun s : Ext w3 => s.cell (Y2.out.cell 4)
  refine wp_region_ext (by kernel_rfl) (by kernel_rfl) ?_
  repeat (go_big_quiet_step (fail))
  go_big_quiet_step ((go_at_call 9; refine Calls.ext (Holds_any x A1 A2 A3 n1 n1 n3 c1 c2 c3 _ (H2.out.below (Ext.h _)) k h (by omega) (by omega) HH)))
  repeat (go_big_quiet_step (fail))
  go_big_quiet_step ((go_at_call 52; refine Calls.ext (target_any x A1 A2 A3 n1 n1 n3 c1 c2 c3 ⟨3, k, p, slot, ticks⟩ _ (H2.out.below (Ext.h _)) t HT)))
  repeat (go_big_quiet_step (fail))
  refine wpQuiet_nil ?_
  intro _ hw'
  obtain ⟨sx, rfl⟩ := hw'
  have bx := H2.out.below sx.h
  obtain ⟨b3', o3, hA3, _, hc3⟩ := bx.ra.spot (by have := lt_of_at HQ.out; omega)
  subst hA3
  have e3 := hc3 k q HQ.out
  obtain ⟨b2', o2, hA2, _, e2⟩ := RBo.at bx.ra.seen HSP.out
  subst hA2
  have L3 := Lib.hid bx.l3
  have L1 := Lib.hid bx.l1
  have S3 := Lib.hid bx.ra.spot
  have P3 := Lib.hid bx
  clear hc3 bx x0 x1 x2 x3 y0 y1 y2 y3 y4
  have X3 := Lib.hid (X2.out.below sx.h X2.out.lt)
  have Y3 := Lib.hid (Y2.out.below sx.h Y2.out.lt)
  have B3 := Lib.hid (keep_below B2.out (Nat.le_refl _) sx.h)
  generalize sx.to = w5 at e2 e3 S3 P3 X3 Y3 B3 ⊢
  have x0 := X3.out.cell 0
  have x1 := X3.out.cell 1
  have x2 := X3.out.cell 2
  have x3 := X3.out.cell 3
  have y0 := Y3.out.cell 0
  have y1 := Y3.out.cell 1
  have y2 := Y3.out.cell 2
  have y3 := Y3.out.cell 3
  have y4 := Y3.out.cell 4
  clear X2 Y2 B2 H2
  have hr2 : Hid ((if 0 ≤ h then 6 else if ¬ (t ≠ -1 ∧ q = t) then 7 else if sp = true then 5 else 0) = r) := by
    unfold Hid
    rw [← hr.out]
    simp [mayP, HH.out, HT.out, HQ.out, HSP.out]
  clear hr hf
  cases sp
  all_goals
    go_wp2_with fail
    all_goals
      go_ret
      refine ⟨ret_int ?_, B3.out⟩
      rw [← hr2.out]
      clear hr2
      (try simp only [beq_iff_eq, beq_eq_false_iff_ne, ne_eq] at *)
      (repeat' split) <;> first | rfl | omega | (simp_all <;> omega)
set_option maxHeartbeats 8000000 in
theorem may_put (hx : RW4 w x A1 A2 A3 n1 n1 n3 c1 c2 c3) (hf : formP ⟨2, k, part, slot, ticks⟩) (hkn : k < n3) (hp : part < n1) (r : Int) (hr : Hid (mayP x ⟨2, k, part, slot, ticks⟩ = r)) :
    Calls Try.prog 46 #[.agg #[.int .i64 x.slots, .slice A1 n1 c1, .slice A2 n1 c2, .slice A3 n3 c3], .agg #[.int .i64 2, .int .i64 k, .int .i64 part, .int .i64 slot, .int .i64 ticks]] w fun e w' => e = .returned (.int .i64 r) ∧ Below w.heap.size w w' := by
  have B1 := Lib.hid ((Below.refl w.heap.size w).alloc (Nat.le_refl _) (.cells #[.int .i64 x.slots, .slice A1 n1 c1, .slice A2 n1 c2, .slice A3 n3 c3] 25))
  have B2 := Lib.hid (B1.out.alloc B1.out.size (.cells #[.int .i64 2, .int .i64 k, .int .i64 part, .int .i64 slot, .int .i64 ticks] 39))
  have X2 := Lib.hid ((Blk.new w 25 #[.int .i64 x.slots, .slice A1 n1 c1, .slice A2 n1 c2, .slice A3 n3 c3]).alloc (.cells #[.int .i64 2, .int .i64 k, .int .i64 part, .int .i64 slot, .int .i64 ticks] 39))
  have Y2 := Lib.hid (Blk.new (w.alloc (.cells #[.int .i64 x.slots, .slice A1 n1 c1, .slice A2 n1 c2, .slice A3 n3 c3] 25)) 39 #[.int .i64 2, .int .i64 k, .int .i64 part, .int .i64 slot, .int .i64 ticks])
  simp only [World.size_alloc] at Y2
  have H2 := Lib.hid (hx.below B2.out)
  obtain ⟨q, hq⟩ := some_at (l := x.spot) (k := k) (by rw [hx.l3]; exact hkn)
  obtain ⟨h, hh⟩ : ∃ h, holdsP x k = h := ⟨_, rfl⟩
  obtain ⟨t, ht⟩ : ∃ t, targetP x ⟨2, k, part, slot, ticks⟩ = t := ⟨_, rfl⟩
  have HH := Lib.hid hh
  have HT := Lib.hid ht
  have hb3 := hx.b3
  have HQ := Lib.hid hq
  have hkI : (k : Int) < n3 := by omega
  clear hh ht hq hx
  go_enter Try.func46, Try.ntmps46
  go_wp2_with fail
  generalize hw3 : (w.alloc (.cells #[.int .i64 x.slots, .slice A1 n1 c1, .slice A2 n1 c2, .slice A3 n3 c3] 25)).alloc (.cells #[.int .i64 2, .int .i64 k, .int .i64 part, .int .i64 slot, .int .i64 ticks] 39) = w3 at B2 X2 Y2 H2 ⊢
  clear hw3
  have x0 := fun s : Ext w3 => s.cell (X2.out.cell 0)
  have x1 := fun s : Ext w3 => s.cell (X2.out.cell 1)
  have x2 := fun s : Ext w3 => s.cell (X2.out.cell 2)
  have x3 := fun s : Ext w3 => s.cell (X2.out.cell 3)
  have y0 := fun s : Ext w3 => s.cell (Y2.out.cell 0)
  have y1 := fun s : Ext w3 => s.cell (Y2.out.cell 1)
  have y2 := fun s : Ext w3 => s.cell (Y2.out.cell 2)
  have y3 := fun s : Ext w3 => s.cell (Y2.out.cell 3)
  have y4 := fun s : Ext w3 => s.cell (Y2.out.cell 4)
  refine wp_region_ext (by kernel_rfl) (by kernel_rfl) ?_
  repeat (go_big_quiet_step (fail))
  go_big_quiet_step ((go_at_call 9; refine Calls.ext (Holds_any x A1 A2 A3 n1 n1 n3 c1 c2 c3 _ (H2.out.below (Ext.h _)) k h (by omega) (by omega) HH)))
  repeat (go_big_quiet_step (fail))
  go_big_quiet_step ((go_at_call 52; refine Calls.ext (target_any x A1 A2 A3 n1 n1 n3 c1 c2 c3 ⟨2, k, part, slot, ticks⟩ _ (H2.out.below (Ext.h _)) t HT)))
  repeat (go_big_quiet_step (fail))
  refine wpQuiet_nil ?_
  intro _ hw'
  obtain ⟨sx, rfl⟩ := hw'
  have bx := H2.out.below sx.h
  obtain ⟨b3', o3, hA3, _, hc3⟩ := bx.ra.spot (by have := lt_of_at HQ.out; omega)
  subst hA3
  have e3 := hc3 k q HQ.out
  have L3 := Lib.hid bx.l3
  have L1 := Lib.hid bx.l1
  have S3 := Lib.hid bx.ra.spot
  have P3 := Lib.hid bx
  clear hc3 bx x0 x1 x2 x3 y0 y1 y2 y3 y4
  have X3 := Lib.hid (X2.out.below sx.h X2.out.lt)
  have Y3 := Lib.hid (Y2.out.below sx.h Y2.out.lt)
  have B3 := Lib.hid (keep_below B2.out (Nat.le_refl _) sx.h)
  generalize sx.to = w5 at e3 S3 P3 X3 Y3 B3 ⊢
  have x0 := X3.out.cell 0
  have x1 := X3.out.cell 1
  have x2 := X3.out.cell 2
  have x3 := X3.out.cell 3
  have y0 := Y3.out.cell 0
  have y1 := Y3.out.cell 1
  have y2 := Y3.out.cell 2
  have y3 := Y3.out.cell 3
  have y4 := Y3.out.cell 4
  clear X2 Y2 B2 H2
  obtain ⟨iq, hiq⟩ : ∃ iq, inP x slot = iq := ⟨_, rfl⟩
  have HI := Lib.hid hiq
  have hr2 : Hid ((if ¬ 0 ≤ h ∨ ¬ (t ≠ -1 ∧ q = t) then 7 else if 0 ≤ iq then 5 else 0) = r) := by
    unfold Hid
    rw [← hr.out]
    simp [mayP, HH.out, HT.out, HQ.out, hiq]
  clear hr hf hiq
  by_cases hz : 0 ≤ h
  all_goals
    go_wp2_with (go_at_call 50; refine (In_any x A1 A2 _ n1 n1 n3 c1 c2 c3 w5 P3.out slot iq HI).mono ?_; rintro e w6 ⟨rfl, hb6⟩; have B6 := Lib.hid (B3.out.trans (hb6.mono B3.out.size)); clear hb6)
    all_goals
      go_ret
      refine ⟨ret_int ?_, (by first | exact B3.out | exact B6.out)⟩
      rw [← hr2.out]
      clear hr2
      (try simp only [beq_iff_eq, beq_eq_false_iff_ne, ne_eq] at *)
      (repeat' split) <;> first | rfl | omega | (simp_all <;> omega)
set_option maxHeartbeats 8000000 in
theorem may_wait (hx : RW4 w x A1 A2 A3 n1 n1 n3 c1 c2 c3) (hf : formP ⟨4, k, part, slot, ticks⟩) (hkn : k < n3) (hp : part < n1) (r : Int) (hr : Hid (mayP x ⟨4, k, part, slot, ticks⟩ = r)) :
    Calls Try.prog 46 #[.agg #[.int .i64 x.slots, .slice A1 n1 c1, .slice A2 n1 c2, .slice A3 n3 c3], .agg #[.int .i64 4, .int .i64 k, .int .i64 part, .int .i64 slot, .int .i64 ticks]] w fun e w' => e = .returned (.int .i64 r) ∧ Below w.heap.size w w' := by
  have B1 := Lib.hid ((Below.refl w.heap.size w).alloc (Nat.le_refl _) (.cells #[.int .i64 x.slots, .slice A1 n1 c1, .slice A2 n1 c2, .slice A3 n3 c3] 25))
  have B2 := Lib.hid (B1.out.alloc B1.out.size (.cells #[.int .i64 4, .int .i64 k, .int .i64 part, .int .i64 slot, .int .i64 ticks] 39))
  have X2 := Lib.hid ((Blk.new w 25 #[.int .i64 x.slots, .slice A1 n1 c1, .slice A2 n1 c2, .slice A3 n3 c3]).alloc (.cells #[.int .i64 4, .int .i64 k, .int .i64 part, .int .i64 slot, .int .i64 ticks] 39))
  have Y2 := Lib.hid (Blk.new (w.alloc (.cells #[.int .i64 x.slots, .slice A1 n1 c1, .slice A2 n1 c2, .slice A3 n3 c3] 25)) 39 #[.int .i64 4, .int .i64 k, .int .i64 part, .int .i64 slot, .int .i64 ticks])
  simp only [World.size_alloc] at Y2
  have H2 := Lib.hid (hx.below B2.out)
  obtain ⟨q, hq⟩ := some_at (l := x.spot) (k := k) (by rw [hx.l3]; exact hkn)
  obtain ⟨h, hh⟩ : ∃ h, holdsP x k = h := ⟨_, rfl⟩
  obtain ⟨t, ht⟩ : ∃ t, targetP x ⟨4, k, part, slot, ticks⟩ = t := ⟨_, rfl⟩
  have HH := Lib.hid hh
  have HT := Lib.hid ht
  have hb3 := hx.b3
  have HQ := Lib.hid hq
  have hkI : (k : Int) < n3 := by omega
  clear hh ht hq hx
  go_enter Try.func46, Try.ntmps46
  go_wp2_with fail
  generalize hw3 : (w.alloc (.cells #[.int .i64 x.slots, .slice A1 n1 c1, .slice A2 n1 c2, .slice A3 n3 c3] 25)).alloc (.cells #[.int .i64 4, .int .i64 k, .int .i64 part, .int .i64 slot, .int .i64 ticks] 39) = w3 at B2 X2 Y2 H2 ⊢
  clear hw3
  have x0 := fun s : Ext w3 => s.cell (X2.out.cell 0)
  have x1 := fun s : Ext w3 => s.cell (X2.out.cell 1)
  have x2 := fun s : Ext w3 => s.cell (X2.out.cell 2)
  have x3 := fun s : Ext w3 => s.cell (X2.out.cell 3)
  have y0 := fun s : Ext w3 => s.cell (Y2.out.cell 0)
  have y1 := fun s : Ext w3 => s.cell (Y2.out.cell 1)
  have y2 := fun s : Ext w3 => s.cell (Y2.out.cell 2)
  have y3 := fun s : Ext w3 => s.cell (Y2.out.cell 3)
  have y4 := fun s : Ext w3 => s.cell (Y2.out.cell 4)
  refine wp_region_ext (by kernel_rfl) (by kernel_rfl) ?_
  repeat (go_big_quiet_step (fail))
  go_big_quiet_step ((go_at_call 9; refine Calls.ext (Holds_any x A1 A2 A3 n1 n1 n3 c1 c2 c3 _ (H2.out.below (Ext.h _)) k h (by omega) (by omega) HH)))
  repeat (go_big_quiet_step (fail))
  go_big_quiet_step ((go_at_call 52; refine Calls.ext (target_any x A1 A2 A3 n1 n1 n3 c1 c2 c3 ⟨4, k, part, slot, ticks⟩ _ (H2.out.below (Ext.h _)) t HT)))
  repeat (go_big_quiet_step (fail))
  refine wpQuiet_nil ?_
  intro _ hw'
  obtain ⟨sx, rfl⟩ := hw'
  have bx := H2.out.below sx.h
  obtain ⟨b3', o3, hA3, _, hc3⟩ := bx.ra.spot (by have := lt_of_at HQ.out; omega)
  subst hA3
  have e3 := hc3 k q HQ.out
  have L3 := Lib.hid bx.l3
  have L1 := Lib.hid bx.l1
  have S3 := Lib.hid bx.ra.spot
  have P3 := Lib.hid bx
  clear hc3 bx x0 x1 x2 x3 y0 y1 y2 y3 y4
  have X3 := Lib.hid (X2.out.below sx.h X2.out.lt)
  have Y3 := Lib.hid (Y2.out.below sx.h Y2.out.lt)
  have B3 := Lib.hid (keep_below B2.out (Nat.le_refl _) sx.h)
  generalize sx.to = w5 at e3 S3 P3 X3 Y3 B3 ⊢
  have x0 := X3.out.cell 0
  have x1 := X3.out.cell 1
  have x2 := X3.out.cell 2
  have x3 := X3.out.cell 3
  have y0 := Y3.out.cell 0
  have y1 := Y3.out.cell 1
  have y2 := Y3.out.cell 2
  have y3 := Y3.out.cell 3
  have y4 := Y3.out.cell 4
  clear X2 Y2 B2 H2
  have hr2 : r = 0 := by
    rw [← hr.out]
    simp [mayP]
  subst hr2
  clear hr hf
  go_wp2_with fail
  all_goals
    go_ret
    exact ⟨rfl, B3.out⟩
end
end Go.Proofs.Ytioofkhadjaldaa
