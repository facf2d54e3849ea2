/- The walk of tools.Right. -/
import Derived.Test.YtnmngjikcimpnaaPlanW
import Derived.StillTailTactics
namespace Go.Proofs.Ytnmngjikcimpnaa
open Go.RowKit
set_option linter.unusedVariables false

/-- Up to step k the starts are in time and behind what comes before. -/
def FitTo (ts : List Task) (ss : List Int) (k : Nat) : Prop := ∀ (j : Nat) (t : Task) (s : Int), j < k → ts[j]? = some t → ss[j]? = some s → 0 ≤ s ∧ s ≤ 2000 - t.long ∧ ∀ x ∈ t.after, EndT ts ss x ≤ s
def RightT (ts : List Task) (ss : List Int) : Prop := FitTo ts ss ts.length ∧ Good (usesOf ts ss)

set_option maxHeartbeats 40000000 in
set_option maxRecDepth 100000 in
theorem tright_any (A B : Option Addr) (n m c d : Nat) (ts : List Task) (ss : List Int) (w : World) (r : Bool) (hn : ts.length = n) (hm : ss.length = m) (hl : ss.length = ts.length) (hR : RT w A ts) (hT : TasksOk ts) (hS : RI w B ss)
    (hb : ∀ s ∈ ss, -1 ≤ s ∧ s ≤ 1000) (hr : Says r (RightT ts ss)) :
    Calls Try.prog 22 #[.slice A n c, .slice B m d] w fun e w' => e = .returned (.bool r) ∧ Below w.heap.size w w' := by
  subst hn
  subst hm
  have hlen := hT.1
  have HT := Lib.hid hT
  have HR := Lib.hid hR
  have HS := Lib.hid hS
  have HB := Lib.hid hb
  have Hl := Lib.hid hl
  have hq : ((ss.length : Int) != ts.length) = false := by rw [hl]; simp
  have hsl : ss.length ≤ 11 := by omega
  clear hT hR hS hb hl
  obtain ⟨j0, ji, jz0, jz1, jz2⟩ := info_parts info_use
  go_enter Try.func22, Try.ntmps22
  go_wp2_with fail
  refine (tasks_ok _ _ _ ts _ rfl HR.out HT.out).mono ?_
  rintro e w1 ⟨rfl, hb1⟩
  have B1 := Lib.hid hb1
  have R1 := Lib.hid (HR.out.below hb1)
  have S1 := Lib.hid (HS.out.below hb1)
  have hs1 := hb1.size
  clear hb1
  go_wp2_with fail
  go_loopw [5, 22] (fun vu i wr => ∃ (k : Nat), k ≤ ts.length ∧ i = .int .i64 k ∧ Hid (FitTo ts ss k) ∧
    wr.ownsRow w1.heap.size 40 3 vu (usesOf (ts.take k) (ss.take k)).length (cellsOf (usesOf (ts.take k) (ss.take k))) ∧ Below w1.heap.size w1 wr) (fun _ i _ => ts.length - (intOf i).toNat)
  case atStart => exact ⟨0, by omega, rfl, fun j t s hj => absurd hj (by omega), World.ownsRow_nil _ _ _ _, Below.refl _ _⟩
  case round =>
    obtain ⟨k, hk, rfl, hfit, hou, hbl⟩ := hrel
    have Hou := Lib.hid hou
    have Hbl := Lib.hid hbl
    have hs := hbl.size
    clear hou hbl
    by_cases hlt : k < ts.length
    · obtain ⟨t, ht⟩ := some_at hlt
      obtain ⟨s, hsk⟩ := some_at (l := ss) (k := k) (by have := Hl.out; omega)
      obtain ⟨b, o, rfl, hb, hc⟩ := R1.out (by omega)
      obtain ⟨c1', c2', Aj, cj, c3', h4⟩ := hc k t ht
      have c1 := (Hbl.out.cell (p := ⟨b, _, none⟩) hb).trans c1'
      have c2 := (Hbl.out.cell (p := ⟨b, _, none⟩) hb).trans c2'
      have c3 := (Hbl.out.cell (p := ⟨b, _, none⟩) hb).trans c3'
      have H4 := Lib.hid h4
      obtain ⟨b1, o1, rfl, hb1, hc1⟩ := S1.out (by have := Hl.out; omega)
      obtain ⟨t1, t2, t3, t4, t5, t6⟩ := HT.out.2 k t ht
      obtain ⟨s1, s2⟩ := HB.out s (List.mem_of_getElem? hsk)
      have T6 := Lib.hid t6
      have hbr : b < wr.heap.size := by omega
      have B2 := Lib.hid (Hbl.out.alloc hs (.cells #[.int .i64 t.tool, .int .i64 t.long, .slice Aj t.after.length cj] 53))
      have X2 := Lib.hid (Blk.new wr 53 #[.int .i64 t.tool, .int .i64 t.long, .slice Aj t.after.length cj])
      have U2 := Lib.hid (Hou.out.alloc (.cells #[.int .i64 t.tool, .int .i64 t.long, .slice Aj t.after.length cj] 53))
      have d5 := (B2.out.cell (p := ⟨b1, o1 + k, none⟩) hb1).trans (hc1 k s hsk)
      have Ht := Lib.hid ht
      have Hsk := Lib.hid hsk
      have hks : (k : Int) < (ss.length : Int) := by have := Hl.out; omega
      have hkt : (k : Int) < (ts.length : Int) := by omega
      obtain ⟨wo, hwo⟩ : ∃ wo : World, wo = wr.alloc (.cells #[.int .i64 t.tool, .int .i64 t.long, .slice Aj t.after.length cj] 53) := ⟨_, rfl⟩
      have Hwo := Lib.hid hwo
      rw [← hwo] at B2 X2 U2 d5
      have d0 := X2.out.cell 0
      have d1 := X2.out.cell 1
      have d2 := X2.out.cell 2
      clear hc hc1 c1' c2' c3' h4 t6 ht hsk hwo
      by_cases hs0 : 0 ≤ s
      · by_cases hs9 : s ≤ 2000 - t.long
        · go_wp2_with fail
          rw [← Hwo.out]
          have g1 : decide (s < 0) = false := by simp; omega
          have g2 : decide (2000 - t.long < s) = false := by simp; omega
          go_quiet (fail)
          go_wp2_with fail
          go_loopw [45] (fun i wr => ∃ j : Nat, j ≤ t.after.length ∧ i = .int .i64 j ∧ Hid (∀ x ∈ t.after.take j, EndT ts ss x ≤ s) ∧ ∃ n, wr = wo.drewN n) (fun i _ => t.after.length - (intOf i).toNat)
          case atStart => exact ⟨0, by omega, rfl, by simp [Hid], _, rfl⟩
          case round =>
            obtain ⟨j, hj, rfl, hall, n, rfl⟩ := hrel
            by_cases hlt' : j < t.after.length
            · obtain ⟨x, hx⟩ := some_at hlt'
              obtain ⟨v1, v2⟩ := T6.out j x hx
              obtain ⟨x, rfl⟩ := Int.eq_ofNat_of_zero_le v1
              obtain ⟨s', hs'⟩ := some_at (l := ss) (k := x) (by have := Hl.out; omega)
              obtain ⟨t', ht'⟩ := some_at (l := ts) (k := x) (by omega)
              obtain ⟨_, _, he, _, hc⟩ := R1.out (by omega)
              cases he
              have e2 := (B2.out.cell (p := ⟨b, o + x * 3 + 1, none⟩) hb).trans (hc x t' ht').2.1
              obtain ⟨b'', o'', rfl, hb'', hc''⟩ := H4.out (by omega)
              have e3 := (B2.out.cell (p := ⟨b'', o'' + j, none⟩) (by have := Hbl.out.size; have := Hwo.out; exact by omega)).trans (hc'' j _ hx)
              obtain ⟨_, _, he, _, hc1⟩ := S1.out (by omega)
              cases he
              have e4 := (B2.out.cell (p := ⟨b1, o1 + x, none⟩) hb1).trans (hc1 x s' hs')
              obtain ⟨s1', s2'⟩ := HB.out s' (List.mem_of_getElem? hs')
              obtain ⟨q1, q2, q3, q4, q5, q6⟩ := HT.out.2 x t' ht'
              have hend : Hid (EndT ts ss (x : Int) = s' + t'.long) := by unfold Hid EndT longAt; simp [List.getD, hs', ht']
              have hxm := Lib.hid (List.mem_of_getElem? hx)
              have Hx := Lib.hid hx
              have hxk : (x : Int) < (k : Int) := by omega
              have hxt : (x : Int) < (ts.length : Int) := by omega
              have hxs : (x : Int) < (ss.length : Int) := by have := Hl.out; omega
              clear hc hc'' hc1 hx hs' ht' v1 v2 q6
              by_cases hcm : s' + t'.long ≤ s
              · have g3 : decide (s < s' + t'.long) = false := by simp; omega
                have hall2 : Hid (∀ x ∈ t.after.take (j + 1), EndT ts ss x ≤ s) := by
                  intro z hz
                  rw [List.take_add_one, Hx.out] at hz
                  rcases List.mem_append.1 hz with hz | hz
                  · exact hall.out z hz
                  · have : z = (x : Int) := by simpa using hz
                    rw [this, hend.out]; exact hcm
                go_wp2
                go_quiet (fail)
                go_wp2
                go_roundw
                case rel => exact ⟨j + 1, by omega, by go_num, hall2, _, rfl⟩
                case measure => simp [intOf]; omega
              · have g3 : decide (s < s' + t'.long) = true := by simp; omega
                obtain rfl := hr.no fun h => by
                  have := (h.1 k t s (by omega) Ht.out Hsk.out).2.2 _ hxm.out
                  have := hend.out
                  omega
                go_wp2
                go_quiet (fail)
                go_wp2
                go_ret
                exact ⟨rfl, below_drewN (below_drewN (B1.out.trans (B2.out.mono hs1)) _) _⟩
            · have hjl : j = t.after.length := by omega
              subst hjl
              have hfit2 : Hid (FitTo ts ss (k + 1)) := by
                intro i t' s' hi ht' hs'
                by_cases e : i = k
                · subst e
                  rw [Ht.out] at ht'; cases ht'
                  rw [Hsk.out] at hs'; cases hs'
                  have := hall.out
                  rw [List.take_length] at this
                  exact ⟨hs0, hs9, this⟩
                · exact hfit.out i t' s' (by omega) ht' hs'
              have hus : Hid (usesOf (ts.take (k + 1)) (ss.take (k + 1)) = usesOf (ts.take k) (ss.take k) ++ useOf t s) := by
                unfold Hid
                rw [List.take_add_one, List.take_add_one, Ht.out, Hsk.out]
                simp only [Option.toList]
                exact usesOf_snoc (by have := Hl.out; simp; omega)
              by_cases htl : 0 ≤ t.tool
              · have hs3 : w1.heap.size ≤ wo.heap.size := B2.out.size
                obtain ⟨us, huse⟩ : ∃ us, us = usesOf (ts.take k) (ss.take k) := ⟨_, rfl⟩
                have hul : us.length ≤ 11 := by rw [huse]; have := usesOf_len (ts.take k) (ss.take k); simp at this; omega
                have B4 := Lib.hid ((below_drewN B2.out n).drew.alloc (show w1.heap.size ≤ (wo.drewN n).drew.heap.size from hs3) (.cells #[.int .i64 t.tool, .int .i64 s, .int .i64 t.long] 40))
                have U3 : (wo.drewN n).drew.ownsRow w1.heap.size 40 3 u5 us.length (cellsOf us) := by rw [huse]; exact U2.out
                have U4 := Lib.hid (U3.alloc (.cells #[.int .i64 t.tool, .int .i64 s, .int .i64 t.long] 40))
                have S4 := Lib.hid (Src.new (m := 1) (c := 1) (size := 3) (Blk.new (wo.drewN n).drew 40 #[.int .i64 t.tool, .int .i64 s, .int .i64 t.long]) rfl)
                have H4 : Hid (w1.heap.size ≤ ((wo.drewN n).drew.alloc (.cells #[.int .i64 t.tool, .int .i64 s, .int .i64 t.long] 40)).heap.size) := B4.out.size
                have O1 : Hid (∀ y ∈ (#[Value.int .i64 t.tool, .int .i64 s, .int .i64 t.long] : Array Value).toList, y.oneCell' = true) := by intro y hy; simp at hy; rcases hy with rfl | rfl | rfl <;> rfl
                have Huse := Lib.hid huse
                clear U3 huse
                go_wp2_with fail
                go_region_law (refine step_append_src _ rfl (.tmp 68) (.tmp 78) 36 rfl w1.heap.size 40 j0 _ 3 24 Try.underlying36 ji jz0 jz1 jz2 rfl (by decide) u5 us.length (cellsOf us) rfl U4.out 1 _ _ rfl S4.out O1.out (by unfold maxLen; omega) (by omega) H4.out ?_; intro v7 w7 hown7 hg7; have B7 := Lib.hid (below_append B4.out U4.out hg7 H4.out); have U7 := Lib.hid hown7; clear hown7 hg7)
                all_goals
                  go_wp2
                  go_roundw
                  case rel =>
                    refine ⟨k + 1, by omega, by go_num, hfit2, ?_, B7.out⟩
                    rw [hus.out, useOf, if_pos htl, cellsOf_snoc, ← Huse.out]
                    simpa [Use.cells] using U7.out
                  case measure => simp [intOf]; omega
              · go_wp2
                go_roundw
                case rel =>
                  refine ⟨k + 1, by omega, by go_num, hfit2, ?_, below_drewN B2.out _⟩
                  rw [hus.out, useOf, if_neg htl, List.append_nil]
                  exact U2.out
                case measure => simp [intOf]; omega
        · obtain rfl := hr.no fun h => hs9 (h.1 k t s (by omega) Ht.out Hsk.out).2.1
          have Hs9 := Lib.hid hs9
          clear hs9
          go_wp2_with fail
          rw [← Hwo.out]
          have g1 : decide (s < 0) = false := by simp; omega
          have g2 : decide (2000 - t.long < s) = true := by have := Hs9.out; simp; omega
          go_quiet (fail)
          go_wp2_with fail
          go_ret
          exact ⟨rfl, below_drewN (B1.out.trans (B2.out.mono hs1)) _⟩
      · obtain rfl := hr.no fun h => hs0 (h.1 k t s (by omega) Ht.out Hsk.out).1
        have g1 : decide (s < 0) = true := by simp; omega
        go_wp2_with fail
        rw [← Hwo.out]
        go_quiet (fail)
        go_wp2_with fail
        go_ret
        exact ⟨rfl, below_drewN (B1.out.trans (B2.out.mono hs1)) _⟩
    · have hkx : k = ts.length := by omega
      subst hkx
      have hou := Hou.out
      rw [List.take_length, ← Hl.out, List.take_length] at hou
      have hsu := SU.own hou
      obtain ⟨Au, cu, hv, hcu, hRU, _, _⟩ := hsu
      have HRU := Lib.hid hRU
      have hul := usesOf_len ts ss
      subst hv
      have Hf := hfit
      clear hou hRU Hou
      go_wp2_with fail
      refine (checkU_any _ _ _ (usesOf ts ss) _ rfl hcu (by unfold maxLen; omega) HRU.out).mono ?_
      rintro e w3 ⟨q, rfl, hq3, hb3⟩
      have hz : r = (q == 0) := by
        cases hrr : r with
        | true => have := hq3.1 (hr.1 hrr).2; simp [this]
        | false =>
          by_cases h0 : q = 0
          · have := hr.2 ⟨Hf.out, hq3.2 h0⟩
            rw [hrr] at this; cases this
          · simp [h0]
      have Hz := Lib.hid hz
      have B3 := Lib.hid (B1.out.trans ((Hbl.out.trans (hb3.mono hs)).mono hs1))
      clear hz hq3 hb3
      go_wp2_with fail
      go_ret
      exact ⟨ret_bool Hz.out.symm, B3.out⟩
end Go.Proofs.Ytnmngjikcimpnaa
