/- The walk of act.Do at a valid world: whether it can be done or not. -/
import Derived.Test.YtioofkhadjaldaaActH
namespace Go.Proofs.Ytioofkhadjaldaa
open Go.RowKit
set_option linter.unusedVariables false
set_option maxRecDepth 100000

section
variable (x : AW) (A1 A2 A3 : Option Addr) (n1 n3 c1 c2 c3 : Nat)
set_option maxHeartbeats 8000000 in
theorem Do_no (kind arm part slot ticks : Int) (w : World) (hx : RW4 w x A1 A2 A3 n1 n1 n3 c1 c2 c3) (hv : ValidA x) (r : Int) (HC : Hid (canP x ⟨kind, arm, part, slot, ticks⟩ = r)) (hne : r ≠ 0) :
    Calls Try.prog 24 #[.agg #[.int .i64 x.slots, .slice A1 n1 c1, .slice A2 n1 c2, .slice A3 n3 c3], .agg #[.int .i64 kind, .int .i64 arm, .int .i64 part, .int .i64 slot, .int .i64 ticks]] w fun e w' => e = .returned (.tuple #[.agg #[.int .i64 0, .slice none 0 0, .slice none 0 0, .slice none 0 0], .int .i64 r]) ∧ Below w.heap.size w w' := by
  have B1 := Lib.hid ((Below.refl w.heap.size w).alloc (Nat.le_refl _) (.cells #[.int .i64 x.slots, .slice A1 n1 c1, .slice A2 n1 c2, .slice A3 n3 c3] 25))
  have B2 := Lib.hid (B1.out.alloc B1.out.size (.cells #[.int .i64 kind, .int .i64 arm, .int .i64 part, .int .i64 slot, .int .i64 ticks] 39))
  have B3 := Lib.hid (B2.out.alloc B2.out.size (.cells #[.int .i64 0, .slice none 0 0, .slice none 0 0, .slice none 0 0] 25))
  have Z3 := Lib.hid (Blk.new ((w.alloc (.cells #[.int .i64 x.slots, .slice A1 n1 c1, .slice A2 n1 c2, .slice A3 n3 c3] 25)).alloc (.cells #[.int .i64 kind, .int .i64 arm, .int .i64 part, .int .i64 slot, .int .i64 ticks] 39)) 25 #[.int .i64 0, .slice none 0 0, .slice none 0 0, .slice none 0 0])
  simp only [World.size_alloc] at Z3
  have H := Lib.hid hx
  have V := Lib.hid hv
  have hne2 : (r != 0) = true := by simpa using hne
  clear hx hv B1 B2 hne
  go_enter Try.func24, Try.ntmps24
  go_wp2_with fail
  refine (Can_any x A1 A2 A3 n1 n3 c1 c2 c3 kind arm part slot ticks _ (H.out.below B3.out) V.out r HC).mono ?_
  rintro e w4 ⟨rfl, hb⟩
  have B4 := Lib.hid (B3.out.trans (hb.mono B3.out.size))
  have Z4 := Lib.hid (Z3.out.below hb Z3.out.lt)
  clear hb Z3 B3
  obtain ⟨z0, z1, z2, z3⟩ := blk4 Z4.out
  obtain ⟨f0, f1, f2, f3⟩ := frz Z4.out
  go_wp2_with fail
  have hh : w.heap.size ≤ w.heap.size + 1 + 1 := by omega
  have Z5 := Lib.hid ((((Z4.out.set_ 0 (.int .i64 0)).set_ 1 (.slice none 0 0)).set_ 2 (.slice none 0 0)).set_ 3 (.slice none 0 0))
  have B5 := Lib.hid ((((B4.out.setCell (p := ⟨w.heap.size + 1 + 1, 0, none⟩) hh (.int .i64 0)).setCell (p := ⟨w.heap.size + 1 + 1, 1, none⟩) hh (.slice none 0 0)).setCell (p := ⟨w.heap.size + 1 + 1, 2, none⟩) hh (.slice none 0 0)).setCell (p := ⟨w.heap.size + 1 + 1, 3, none⟩) hh (.slice none 0 0))
  generalize (((w4.setCell ⟨w.heap.size + 1 + 1, 0, none⟩ (.int .i64 0)).setCell ⟨w.heap.size + 1 + 1, 1, none⟩ (.slice none 0 0)).setCell ⟨w.heap.size + 1 + 1, 2, none⟩ (.slice none 0 0)).setCell ⟨w.heap.size + 1 + 1, 3, none⟩ (.slice none 0 0) = w5 at Z5 B5 ⊢
  clear z0 z1 z2 z3 f0 f1 f2 f3
  have z0 := Z5.out.cell 0
  have z1 := Z5.out.cell 1
  have z2 := Z5.out.cell 2
  have z3 := Z5.out.cell 3
  exact bodyPost_ret (v := .tuple #[.agg #[.int .i64 0, .slice none 0 0, .slice none 0 0, .slice none 0 0], .int .i64 r]) (by simp [results, Try.results24, go_sem, z0, z1, z2, z3]) rfl ⟨rfl, B5.out⟩

/-- What a step that can be done is. -/
theorem canP_ok {x : AW} {s : St} (h : canP x s = 0) : formP s ∧ s.arm < x.spot.length ∧ s.part < x.place.length ∧ s.slot < x.slots ∧ mayP x s = 0 := by
  unfold canP at h
  by_cases hf : formP s
  · rw [if_neg (by simpa using hf)] at h
    by_cases hb : (x.spot.length : Int) ≤ s.arm ∨ (x.place.length : Int) ≤ s.part ∨ x.slots ≤ s.slot
    · rw [if_pos hb] at h; cases h
    · rw [if_neg hb] at h
      exact ⟨hf, by omega, by omega, by omega, h⟩
  · rw [if_pos hf] at h; cases h
theorem holdsP_cases (x : AW) (arm : Int) : holdsP x arm = -1 ∨ ∃ p : Nat, holdsP x arm = p ∧ p < x.place.length ∧ x.place[p]? = some (-2 - arm) := by
  unfold holdsP
  split
  · exact .inl rfl
  · rcases idxI_cases x.place (-2 - arm) with ⟨h, _⟩ | ⟨p, h1, h2, _⟩
    · exact .inl h
    · exact .inr ⟨p, h1, lt_of_at h2, h2⟩
theorem mayP_put {x : AW} {s : St} (hk : s.kind = 2) (h : mayP x s = 0) : 0 ≤ holdsP x s.arm ∧ targetP x s ≠ -1 ∧ x.spot[s.arm.toNat]? = some (targetP x s) ∧ ¬ 0 ≤ inP x s.slot := by
  unfold mayP at h
  rw [hk] at h
  simp only [show ¬ (2 : Int) = 0 by decide, show ¬ (2 : Int) = 1 by decide, show ¬ (2 : Int) = 3 by decide, if_false, if_true] at h
  by_cases h1 : ¬ 0 ≤ holdsP x s.arm ∨ ¬ (targetP x s ≠ -1 ∧ x.spot[s.arm.toNat]? = some (targetP x s))
  · rw [if_pos h1] at h; cases h
  · rw [if_neg h1] at h
    by_cases h2 : 0 ≤ inP x s.slot
    · rw [if_pos h2] at h; cases h
    · have h3 : 0 ≤ holdsP x s.arm ∧ (targetP x s ≠ -1 ∧ x.spot[s.arm.toNat]? = some (targetP x s)) := by
        by_cases a : 0 ≤ holdsP x s.arm
        · by_cases b : targetP x s ≠ -1 ∧ x.spot[s.arm.toNat]? = some (targetP x s)
          · exact ⟨a, b⟩
          · exact absurd (.inr b) h1
        · exact absurd (.inl a) h1
      exact ⟨h3.1, h3.2.1, h3.2.2, h2⟩

theorem Do_yes (kind arm part slot ticks : Int) (w : World) (hx : RW4 w x A1 A2 A3 n1 n1 n3 c1 c2 c3) (hv : ValidA x) (h1 : 0 < n1) (h3 : 0 < n3) (HC : Hid (canP x ⟨kind, arm, part, slot, ticks⟩ = 0)) :
    Calls Try.prog 24 #[.agg #[.int .i64 x.slots, .slice A1 n1 c1, .slice A2 n1 c2, .slice A3 n3 c3], .agg #[.int .i64 kind, .int .i64 arm, .int .i64 part, .int .i64 slot, .int .i64 ticks]] w fun e w' => ∃ g1 g2 g3 d1 d2 d3, e = .returned (.tuple #[.agg #[.int .i64 x.slots, .slice (some ⟨g1, 0, none⟩) n1 d1, .slice (some ⟨g2, 0, none⟩) n1 d2, .slice (some ⟨g3, 0, none⟩) n3 d3], .int .i64 0]) ∧ OW w.heap.size w' (doS x ⟨kind, arm, part, slot, ticks⟩) g1 g2 g3 n1 n3 d1 d2 d3 ∧ Below w.heap.size w w' := by
  obtain ⟨hf, ha, hp, hs, hm⟩ := canP_ok HC.out
  dsimp only at ha hp hs
  rw [hx.l3] at ha
  rw [hx.l1] at hp
  have hff := hf
  unfold formP at hff
  dsimp only at hff
  obtain ⟨k, rfl⟩ := Int.eq_ofNat_of_zero_le hff.2.2.1
  have hkn : k < n3 := by omega
  have hk : kind = 0 ∨ (kind = 1 ∧ 0 ≤ part) ∨ (kind = 3 ∧ 0 ≤ part) ∨ kind = 2 ∨ kind = 4 := by omega
  rcases hk with rfl | ⟨rfl, hp0⟩ | ⟨rfl, hp0⟩ | rfl | rfl
  · exact Do_go x A1 A2 A3 n1 n3 c1 c2 c3 k part slot ticks w hx hv h1 h3 hkn HC
  · obtain ⟨p, rfl⟩ := Int.eq_ofNat_of_zero_le hp0
    exact Do_take x A1 A2 A3 n1 n3 c1 c2 c3 k p slot ticks w hx hv h1 h3 hkn (by omega) HC
  · obtain ⟨p, rfl⟩ := Int.eq_ofNat_of_zero_le hp0
    exact Do_look x A1 A2 A3 n1 n3 c1 c2 c3 k p slot ticks w hx hv h1 h3 hkn (by omega) HC
  · have hh := (mayP_put rfl hm).1
    dsimp only at hh
    rcases holdsP_cases x k with h0 | ⟨p, h0, h4, _⟩
    · omega
    · have hb := hx.b3
      exact Do_put x A1 A2 A3 n1 n3 c1 c2 c3 k part slot ticks w hx hv h1 h3 hkn p (by rw [hx.l1] at h4; exact h4) h0 (by omega) HC
  · exact Do_wait x A1 A2 A3 n1 n3 c1 c2 c3 k part slot ticks w hx hv h1 h3 hkn HC
end

theorem OW.rw4 {B : Nat} {w : World} {x : AW} {g1 g2 g3 n1 n3 c1 c2 c3 : Nat} (h : OW B w x g1 g2 g3 n1 n3 c1 c2 c3) (b1 : n1 ≤ 100) (b3 : n3 ≤ 100) : RW4 w x (some ⟨g1, 0, none⟩) (some ⟨g2, 0, none⟩) (some ⟨g3, 0, none⟩) n1 n1 n3 c1 c2 c3 := by
  have e1 : x.place.length = n1 := by simpa using h.o1.1
  have e2 : x.seen.length = n1 := by simpa using h.o2.1
  have e3 : x.spot.length = n3 := by simpa using h.o3.1
  refine ⟨⟨RI.own h.o1, ?_, RI.own h.o3⟩, e1, e2, e3, b1, b1, b3, own_cap h.o1, own_cap h.o2, own_cap h.o3⟩
  exact RK.own (enc := fun b : Bool => [Value.bool b]) (fun _ => rfl) (by rw [flat_bool]; exact h.o2) e2
end Go.Proofs.Ytioofkhadjaldaa
