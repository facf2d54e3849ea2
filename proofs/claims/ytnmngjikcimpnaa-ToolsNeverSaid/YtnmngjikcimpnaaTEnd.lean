/- The walks of tools.End and gantkeep4.tooled. -/
import Derived.Test.YtnmngjikcimpnaaTRight
import Derived.Test.YtnmngjikcimpnaaEq
namespace Go.Proofs.Ytnmngjikcimpnaa
open Go.RowKit
set_option linter.unusedVariables false

def IsEndT (ts : List Task) (ss : List Int) (v : Int) : Prop := 0 ≤ v ∧ (∀ k, k < ss.length → EndT ts ss (k : Int) ≤ v) ∧ (v = 0 ∨ ∃ k : Nat, k < ss.length ∧ v = EndT ts ss (k : Int))

set_option maxHeartbeats 4000000 in
set_option maxRecDepth 100000 in
theorem tend_ok (A B : Option Addr) (n m c d : Nat) (ts : List Task) (ss : List Int) (w : World) (hn : ts.length = n) (hm : ss.length = m) (hl : ss.length = ts.length) (hR : RT w A ts) (hT : TasksOk ts) (hS : RI w B ss)
    (hb : ∀ s ∈ ss, 0 ≤ s ∧ s ≤ 1000) (hr : RightT ts ss) :
    Calls Try.prog 24 #[.slice A n c, .slice B m d] w fun e w' => ∃ v, e = .returned (.tuple #[.int .i64 v, .int .i64 0]) ∧ IsEndT ts ss v ∧ Below w.heap.size w w' := by
  subst hn
  subst hm
  have hlen := hT.1
  have HT := Lib.hid hT
  have HR := Lib.hid hR
  have HS := Lib.hid hS
  have HB := Lib.hid hb
  have Hl := Lib.hid hl
  have Hr := Lib.hid hr
  have hsl : ss.length ≤ 11 := by omega
  have hrs : Says true (RightT ts ss) := Says.t hr
  clear hT hR hS hb hl hr
  go_enter Try.func24, Try.ntmps24
  go_wp2_with fail
  refine (tright_any _ _ _ _ _ _ ts ss _ true rfl rfl Hl.out HR.out HT.out HS.out (fun s hs => by have := HB.out s hs; omega) hrs).mono ?_
  rintro e w1 ⟨rfl, hb1⟩
  have B1 := Lib.hid hb1
  have R1 := Lib.hid (HR.out.below hb1)
  have S1 := Lib.hid (HS.out.below hb1)
  have hs1 := hb1.size
  clear hb1
  go_wp2_with fail
  go_loopw [6, 15] (fun a i wr => ∃ (k : Nat) (v : Int), k ≤ ts.length ∧ i = .int .i64 k ∧ a = .int .i64 v ∧ 0 ≤ v ∧ v ≤ 2000 ∧ Hid ((∀ j, j < k → EndT ts ss (j : Int) ≤ v) ∧ (v = 0 ∨ ∃ j : Nat, j < k ∧ v = EndT ts ss (j : Int))) ∧ Below w1.heap.size w1 wr) (fun _ i _ => ts.length - (intOf i).toNat)
  case atStart => exact ⟨0, 0, by omega, rfl, rfl, by omega, by omega, ⟨fun j hj => absurd hj (by omega), .inl rfl⟩, Below.refl _ _⟩
  case round =>
    obtain ⟨k, v, hk, rfl, rfl, hv0, hv1, hmx, hbl⟩ := hrel
    have Hbl := Lib.hid hbl
    have hs := hbl.size
    clear hbl
    by_cases hlt : k < ts.length
    · obtain ⟨t, ht⟩ := some_at hlt
      obtain ⟨s, hsk⟩ := some_at (l := ss) (k := k) (by have := Hl.out; omega)
      obtain ⟨b, o, rfl, hb, hc⟩ := R1.out (by omega)
      obtain ⟨c1', c2', Aj, cj, c3', h4⟩ := hc k t ht
      have c1 := (Hbl.out.cell (p := ⟨b, _, none⟩) hb).trans c1'
      have c2 := (Hbl.out.cell (p := ⟨b, _, none⟩) hb).trans c2'
      have c3 := (Hbl.out.cell (p := ⟨b, _, none⟩) hb).trans c3'
      obtain ⟨b1, o1, rfl, hb1, hc1⟩ := S1.out (by have := Hl.out; omega)
      have t3 := (HT.out.2 k t ht).2.2.1
      have t4 := (HT.out.2 k t ht).2.2.2.1
      obtain ⟨s1, s2⟩ := HB.out s (List.mem_of_getElem? hsk)
      have hbr : b < wr.heap.size := by omega
      have B2 := Lib.hid (Hbl.out.alloc hs (.cells #[.int .i64 t.tool, .int .i64 t.long, .slice Aj t.after.length cj] 53))
      have X2 := Lib.hid (Blk.new wr 53 #[.int .i64 t.tool, .int .i64 t.long, .slice Aj t.after.length cj])
      have hend : Hid (EndT ts ss (k : Int) = s + t.long) := by unfold Hid EndT longAt; simp [List.getD, hsk, ht]
      have hks : (k : Int) < (ss.length : Int) := by have := Hl.out; omega
      obtain ⟨wo, hwo⟩ : ∃ wo : World, wo = wr.alloc (.cells #[.int .i64 t.tool, .int .i64 t.long, .slice Aj t.after.length cj] 53) := ⟨_, rfl⟩
      have Hwo := Lib.hid hwo
      have d5 := (B2.out.cell (p := ⟨b1, o1 + k, none⟩) hb1).trans (hc1 k s hsk)
      rw [← hwo] at B2 X2 d5
      have d0 := X2.out.cell 0
      have d1 := X2.out.cell 1
      have hmx2 : Hid ((∀ j, j < k + 1 → EndT ts ss (j : Int) ≤ max v (s + t.long)) ∧ (max v (s + t.long) = 0 ∨ ∃ j : Nat, j < k + 1 ∧ max v (s + t.long) = EndT ts ss (j : Int))) := by
        obtain ⟨m1, m2⟩ := hmx.out
        refine ⟨fun j hj => ?_, ?_⟩
        · by_cases e : j = k
          · subst e; rw [hend.out]; omega
          · have := m1 j (by omega); omega
        · by_cases hc : v ≤ s + t.long
          · exact .inr ⟨k, by omega, by rw [hend.out]; omega⟩
          · rcases m2 with h | ⟨j, hj, h⟩
            · exact .inl (by omega)
            · exact .inr ⟨j, by omega, by omega⟩
      clear hc hc1 c1' c2' c3' h4 ht hsk hwo
      go_wp2_with fail
      rw [← Hwo.out]
      go_quiet (fail)
      go_wp2_with fail
      all_goals
        go_roundw
        case rel =>
          refine ⟨k + 1, max v (s + t.long), by omega, by go_num, ?_, by omega, by omega, hmx2, below_drewN B2.out _⟩
          first
            | rfl
            | rw [ite_max]
            | (rw [show max v (s + t.long) = s + t.long by omega])
            | (rw [show max v (s + t.long) = v by omega])
        case measure => simp [intOf]; omega
    · have hkx : k = ts.length := by omega
      subst hkx
      go_wp2_with fail
      go_ret2
      exact ⟨v, rfl, ⟨hv0, by rw [Hl.out]; exact hmx.out.1, by rw [Hl.out]; exact hmx.out.2⟩, B1.out.trans (Hbl.out.mono hs1)⟩

def litT : List Task := [⟨0, 3, []⟩, ⟨0, 2, []⟩]
theorem litT_ok : TasksOk litT := by
  refine ⟨by simp [litT], fun k t ht => ?_⟩
  rcases k with _ | _ | k <;> simp [litT] at ht <;> subst ht <;> simp
theorem litT_plan {ss : List Int} (hl : ss.length = litT.length) (h : Planned litT ss) : ss = [0, 3] := by
  rcases ss with _ | ⟨a, _ | ⟨b, _ | ⟨c, ss⟩⟩⟩ <;> simp [litT] at hl
  obtain ⟨_, _, x, hx, _, h1⟩ := h.2 0 ⟨0, 3, []⟩ a rfl rfl
  obtain rfl : x = 0 := hx.uniq (Mx.nil (EndT litT [a, b])) (fun _ _ => rfl)
  have h1 := h1 (by simp)
  have ha : a = 0 := h1.uniq ⟨by omega, by simp [usesOf], fun g hg hlt => by omega, .inl rfl⟩
  subst ha
  obtain ⟨_, _, y, hy, _, h2⟩ := h.2 1 ⟨0, 2, []⟩ b rfl rfl
  obtain rfl : y = 0 := hy.uniq (Mx.nil (EndT litT [0, b])) (fun _ _ => rfl)
  have h2 := h2 (by simp)
  have hu : usesOf (litT.take 1) ([0, b].take 1) = [⟨0, 0, 3⟩] := by simp [litT, usesOf, useOf]
  rw [hu] at h2
  have hb : b = 3 := h2.uniq ⟨by omega, fun v hv => by simp at hv; subst hv; simp [Use.meets], fun g hg hlt => ⟨⟨0, 0, 3⟩, by simp, by simp [Use.meets]; omega⟩, .inr ⟨⟨0, 0, 3⟩, by simp, by simp⟩⟩
  rw [hb]

def litTW (w : World) : World := w.alloc (.cells #[.int .i64 0, .int .i64 3, .slice none 0 0, .int .i64 0, .int .i64 2, .slice none 0 0] 53)
theorem litT_rt (w : World) : RT (litTW w) (some ⟨w.heap.size, 0, none⟩) litT := by
  have hB : Blk (litTW w) w.heap.size 53 #[.int .i64 0, .int .i64 3, .slice none 0 0, .int .i64 0, .int .i64 2, .slice none 0 0] := Blk.new _ _ _
  refine fun _ => ⟨_, 0, rfl, hB.lt, fun j t ht => ?_⟩
  simp only [Nat.zero_add, hB.cell]
  rcases j with _ | _ | j <;> simp [litT] at ht <;> subst ht
  · exact ⟨rfl, rfl, none, 0, rfl, RI.nil _ _⟩
  · exact ⟨rfl, rfl, none, 0, rfl, RI.nil _ _⟩

set_option maxHeartbeats 1000000 in
theorem tooled_ok (w : World) : Calls Try.prog 17 #[] w fun e w' => e = .returned (.bool true) ∧ Below w.heap.size w w' := by
  have R0 := Lib.hid (litT_rt w)
  have B0 := Lib.hid ((Below.refl w.heap.size w).alloc (Nat.le_refl _) (.cells #[.int .i64 0, .int .i64 3, .slice none 0 0, .int .i64 0, .int .i64 2, .slice none 0 0] 53))
  go_enter Try.func17, Try.ntmps17
  go_wp2_with fail
  refine (plan_ok _ 2 2 litT (litTW w) rfl R0.out litT_ok).mono ?_
  rintro e w1 ⟨v, ss, rfl, hl, hp, how, hb1⟩
  obtain rfl := litT_plan hl hp
  have B1 := Lib.hid (B0.out.trans (hb1.mono B0.out.size))
  have How := Lib.hid how
  obtain ⟨A, c, hv⟩ := own_slice how
  subst hv
  have hri := Lib.hid (RI.own How.out)
  have hs := B1.out.size
  have B2 := Lib.hid (B1.out.alloc hs (.cells #[.int .i64 0, .int .i64 3] 3))
  have R2 := Lib.hid (hri.out.alloc (.cells #[.int .i64 0, .int .i64 3] 3))
  have L2 : Hid (RI (w1.alloc (.cells #[.int .i64 0, .int .i64 3] 3)) (some ⟨w1.heap.size, 0, none⟩) [0, 3]) := by
    have hB := Blk.new w1 3 #[.int .i64 0, .int .i64 3]
    refine fun _ => ⟨_, 0, rfl, hB.lt, fun j x hx => ?_⟩
    rw [Nat.zero_add, hB.cell]
    rcases j with _ | _ | j <;> simp at hx <;> subst hx <;> rfl
  clear hl hp how hb1
  go_wp2_with fail
  refine (equal_any _ _ 2 2 _ _ [0, 3] [0, 3] _ true rfl rfl (by unfold maxLen; omega) (by unfold maxLen; omega) R2.out L2.out (Says.t rfl)).mono ?_
  rintro e w2 ⟨rfl, k, rfl⟩
  go_wp2_with fail
  go_ret
  exact ⟨rfl, below_drewN B2.out k⟩
end Go.Proofs.Ytnmngjikcimpnaa
