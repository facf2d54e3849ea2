/- net.Take. Printed by gen/clk.py. -/
import Derived.Test.YthepafendopfhaaClkD
namespace Go.Proofs.Ythepafendopfhaa
open Go.RowKit
set_option linter.unusedVariables false
set_option maxRecDepth 100000

set_option maxHeartbeats 4000000 in
theorem take_any (ms : List Sn) (b : Nat) (tick : Int) (B : Option Addr) (n c : Nat) (cur : List Value) (T : Ents) (t : Int) (M : Nat) (ob : Obj) (w0 w : World) (R : Hid (RowV 7 (.slice B n c) n (flat Sn.cells ms) cur)) (hn : n ≤ 1) (hd : Hid (∀ x ∈ ms, x.due ≤ t)) (H : Hid (Hm w0 w M ob ((b, 59, [.slice none 0 0, .int .i64 tick, .slice B n c]) :: (rowE (.slice B n c) 61 cur ++ T)))) :
    Calls Try.prog 8 #[.pointer (some ⟨b, 0, none⟩), .int .i64 t, .int .i64 4] w fun e w' => ∃ B2 c2 cur2, e = .returned (.slice B2 n c2) ∧ RowV 6 (.slice B2 n c2) n (flat Ms.cells (ms.map (·.m))) cur2 ∧ Hm w0 w' M ob ((b, 59, [.slice none 0 0, .int .i64 tick, .slice none 0 0]) :: (rowE (.slice B2 n c2) 39 cur2 ++ T)) := by
  have FN := Lib.hid (R.out.len_ Sn.len (by decide))
  go_enter Try.func8, Try.ntmps8
  go_wp2_with (first
      | go_skip
      | ((with_reducible refine isLoad ?_); refine ldRw (cs := [.int .i64 xd, .int .i64 3, .int .i64 xi, .int .i64 4, .int .i64 xs, .int .u32 xc, .slice none 0 0]) H j Sn.len (by decide) RG HX rfl ?_ rSnt)
      | ((with_reducible refine isLoad ?_); refine ld1A (Lib.hid H.out.hp) ?_ (hT := by first | exact kInt | exact kSnl | exact kU32))
      | ((with_reducible refine isLoad ?_); refine ldA (Lib.hid H.out.hp) ?_ (hT := by first | exact rSnt | exact rMsg))
      | ((with_reducible refine isStore ?_); refine stM H ?_ (hT := by first | exact rSnt | exact rMsg); clear H; intro _ H)
      | ((with_reducible refine isStore ?_); refine st1M H ?_ (hT := by first | exact sSnl | exact sInt); clear H; intro _ H)
      | ((with_reducible refine isAlloc ?_); refine alM H ?_ (hz := by first | exact zSnt | exact zMsg); clear H; intro _ _ H))
  go_loopw [7, 8, 19] (fun v_ r_ i_ wr => r_ = .slice none 0 0 ∧ ∃ (j : Nat) (cur2 : List Value), i_ = .int .i64 j ∧ j ≤ n ∧ Hid (RowV 7 v_ j (flat Sn.cells (ms.take j)) cur2) ∧ Hid (Hm w0 wr M ob ((b, 59, [.slice none 0 0, .int .i64 tick, .slice B n c]) :: ((rowE (.slice B n c) 61 cur ++ (rowE v_ 61 cur2 ++ T)))))) (fun _ _ i_ _ => n - (intOf i_).toNat)
  case atStart => exact ⟨rfl, 0, [], rfl, by omega, Lib.hid (RowV.nil 7), H⟩
  case round =>
    clear H
    obtain ⟨rfl, j, cur2, rfl, hj, RA, H⟩ := hrel
    by_cases hlt : j < n
    · obtain ⟨x, hx⟩ : ∃ x, ms[j]? = some x := ⟨_, List.getElem?_eq_getElem (by rw [FN.out]; exact hlt)⟩
      have HX := Lib.hid hx
      have hsn := Lib.hid (flat_snoc (enc := Sn.cells) hx)
      have hdx := hd.out x (List.mem_of_getElem? hx)
      obtain ⟨g, cap, e1, _, _⟩ := R.out.at_ Sn.len hx (by decide)
      injection e1 with e1 _ e3
      subst e1
      have RG : Hid (RowV 7 (.slice (some ⟨g, 0, none⟩) n c) n (flat Sn.cells ms) cur) := R
      clear hx e3
      obtain ⟨xd, xi, xs, xc⟩ := x
      simp only at hdx
      go_wp2_with (first
          | go_skip
          | ((with_reducible refine isLoad ?_); refine ldRw (cs := [.int .i64 xd, .int .i64 3, .int .i64 xi, .int .i64 4, .int .i64 xs, .int .u32 xc, .slice none 0 0]) H j Sn.len (by decide) RG HX rfl ?_ rSnt)
          | ((with_reducible refine isLoad ?_); refine ld1A (Lib.hid H.out.hp) ?_ (hT := by first | exact kInt | exact kSnl | exact kU32))
          | ((with_reducible refine isLoad ?_); refine ldA (Lib.hid H.out.hp) ?_ (hT := by first | exact rSnt | exact rMsg))
          | ((with_reducible refine isStore ?_); refine stM H ?_ (hT := by first | exact rSnt | exact rMsg); clear H; intro _ H)
          | ((with_reducible refine isStore ?_); refine st1M H ?_ (hT := by first | exact sSnl | exact sInt); clear H; intro _ H)
          | ((with_reducible refine isAlloc ?_); refine alM H ?_ (hz := by first | exact zSnt | exact zMsg); clear H; intro _ _ H)
          | ((with_reducible refine isSlc ?_); refine bsM 61 [.int .i64 xd, .int .i64 3, .int .i64 xi, .int .i64 4, .int .i64 xs, .int .u32 xc, .slice none 0 0] 1 H ?_; clear H; intro _ _ H)
          | ((with_reducible refine isApp ?_); refine apM [_, _, _, _] T H RA iSnt (by decide) Try.underlying57 ?_ (by (repeat (first | exact List.Mem.head _ | refine List.Mem.tail _ ?_ | assumption))) (by rfl) (by rfl) (by decide) (by simp only [maxLen]; omega) (by omega); clear H RA; intro _ _ _ RA H))
      replace RA : Hid (RowV 7 _ (j + 1) (flat Sn.cells (ms.take (j + 1))) _) := Lib.hid (by rw [hsn.out]; exact RA.out)
      replace H := Lib.hid H.out.drop.drop
      go_roundw
      case rel => first | exact ⟨_, _, _, _, ⟨rfl, j + 1, by go_num, by omega, _, RA, H⟩, rfl, rfl, rfl, rfl⟩ | exact ⟨rfl, j + 1, _, by go_num, by omega, RA, H⟩
      case measure => simp [intOf]; omega
    · have hjn : j = n := by omega
      subst hjn
      rw [List.take_of_length_le (by rw [FN.out]; exact Nat.le_refl _)] at RA
      obtain ⟨B1, c1, rfl, _⟩ := RA.out.shape
      clear hlt
      go_wp2_with (first
          | go_skip
          | ((with_reducible refine isLoad ?_); refine ldRw (cs := [.int .i64 xd, .int .i64 3, .int .i64 xi, .int .i64 4, .int .i64 xs, .int .u32 xc, .slice none 0 0]) H j Sn.len (by decide) RG HX rfl ?_ rSnt)
          | ((with_reducible refine isLoad ?_); refine ld1A (Lib.hid H.out.hp) ?_ (hT := by first | exact kInt | exact kSnl | exact kU32))
          | ((with_reducible refine isLoad ?_); refine ldA (Lib.hid H.out.hp) ?_ (hT := by first | exact rSnt | exact rMsg))
          | ((with_reducible refine isStore ?_); refine stM H ?_ (hT := by first | exact rSnt | exact rMsg); clear H; intro _ H)
          | ((with_reducible refine isStore ?_); refine st1M H ?_ (hT := by first | exact sSnl | exact sInt); clear H; intro _ H)
          | ((with_reducible refine isAlloc ?_); refine alM H ?_ (hz := by first | exact zSnt | exact zMsg); clear H; intro _ _ H))
      go_at_call 19; refine (sortStable_one _ _ _ _ _ hn).mono ?_; rintro e w' ⟨rfl, rfl⟩
      go_wp2_with (first
          | go_skip
          | ((with_reducible refine isLoad ?_); refine ldRw (cs := [.int .i64 xd, .int .i64 3, .int .i64 xi, .int .i64 4, .int .i64 xs, .int .u32 xc, .slice none 0 0]) H j Sn.len (by decide) RG HX rfl ?_ rSnt)
          | ((with_reducible refine isLoad ?_); refine ld1A (Lib.hid H.out.hp) ?_ (hT := by first | exact kInt | exact kSnl | exact kU32))
          | ((with_reducible refine isLoad ?_); refine ldA (Lib.hid H.out.hp) ?_ (hT := by first | exact rSnt | exact rMsg))
          | ((with_reducible refine isStore ?_); refine stM H ?_ (hT := by first | exact rSnt | exact rMsg); clear H; intro _ H)
          | ((with_reducible refine isStore ?_); refine st1M H ?_ (hT := by first | exact sSnl | exact sInt); clear H; intro _ H)
          | ((with_reducible refine isAlloc ?_); refine alM H ?_ (hz := by first | exact zSnt | exact zMsg); clear H; intro _ _ H))
      have D : Hid (Hm w0 _ M ob ((b, 59, [.slice none 0 0, .int .i64 tick, .slice none 0 0]) :: (rowE (.slice B1 j c1) 61 cur2 ++  T))) := Lib.hid (H.out.sub (List.Sublist.cons_cons _ (List.sublist_append_right _ _)))
      clear H
      obtain ⟨H, _⟩ : Hid (Hm w0 _ M ob ((b, 59, [.slice none 0 0, .int .i64 tick, .slice none 0 0]) :: (rowE (.slice B1 j c1) 61 cur2 ++  T))) ∧ True := ⟨D, trivial⟩
      clear D
      go_loopw [11, 51] (fun v_ i_ wr => ∃ (k : Nat) (cur3 : List Value), i_ = .int .i64 k ∧ k ≤ j ∧ Hid (RowV 6 v_ k (flat Ms.cells ((ms.map (·.m)).take k)) cur3) ∧ Hid (Hm w0 wr M ob ((b, 59, [.slice none 0 0, .int .i64 tick, .slice none 0 0]) :: (rowE (.slice B1 j c1) 61 cur2 ++ (rowE v_ 39 cur3 ++ T))))) (fun _ i_ _ => j - (intOf i_).toNat)
      case atStart => exact ⟨0, [], rfl, by omega, Lib.hid (RowV.nil 6), H⟩
      case round =>
        clear H
        obtain ⟨k, cur3, rfl, hk, RA2, H⟩ := hrel
        by_cases hlt : k < j
        · obtain ⟨x, hx⟩ : ∃ x, ms[k]? = some x := ⟨_, List.getElem?_eq_getElem (by rw [FN.out]; exact hlt)⟩
          have HX := Lib.hid hx
          have hsn := Lib.hid (flat_snoc (enc := Ms.cells) (xs := ms.map (·.m)) (j := k) (x := x.m) (by rw [List.getElem?_map, hx]; rfl))
          obtain ⟨g, cap, e1, _, _⟩ := RA.out.at_ Sn.len hx (by decide)
          injection e1 with e1 _ e3
          subst e1
          have RG : Hid (RowV 7 (.slice (some ⟨g, 0, none⟩) j c1) j (flat Sn.cells ms) cur2) := RA
          clear hx e3
          obtain ⟨xd, xi, xs, xc⟩ := x
          go_wp2_with (first
              | go_skip
              | ((with_reducible refine isLoad ?_); refine ldRw (cs := [.int .i64 xd, .int .i64 3, .int .i64 xi, .int .i64 4, .int .i64 xs, .int .u32 xc, .slice none 0 0]) H k Sn.len (by decide) RG HX rfl ?_ rSnt)
              | ((with_reducible refine isLoad ?_); refine ld1A (Lib.hid H.out.hp) ?_ (hT := by first | exact kInt | exact kSnl | exact kU32))
              | ((with_reducible refine isLoad ?_); refine ldA (Lib.hid H.out.hp) ?_ (hT := by first | exact rSnt | exact rMsg))
              | ((with_reducible refine isStore ?_); refine stM H ?_ (hT := by first | exact rSnt | exact rMsg); clear H; intro _ H)
              | ((with_reducible refine isStore ?_); refine st1M H ?_ (hT := by first | exact sSnl | exact sInt); clear H; intro _ H)
              | ((with_reducible refine isAlloc ?_); refine alM H ?_ (hz := by first | exact zSnt | exact zMsg); clear H; intro _ _ H)
              | ((with_reducible refine isSlc ?_); refine bsM 39 [.int .i64 3, .int .i64 xi, .int .i64 4, .int .i64 xs, .int .u32 xc, .slice none 0 0] 1 H ?_; clear H; intro _ _ H)
              | ((with_reducible refine isApp ?_); refine apM [_, _, _, _] T H RA2 iMsg (by decide) Try.underlying34 ?_ (by (repeat (first | exact List.Mem.head _ | refine List.Mem.tail _ ?_ | assumption))) (by rfl) (by rfl) (by decide) (by simp only [maxLen]; omega) (by omega); clear H RA2; intro _ _ _ RA2 H))
          replace RA2 : Hid (RowV 6 _ (k + 1) (flat Ms.cells ((ms.map (·.m)).take (k + 1))) _) := Lib.hid (by rw [hsn.out]; exact RA2.out)
          replace H := Lib.hid H.out.drop.drop
          go_roundw
          case rel => first | exact ⟨_, _, _, ⟨k + 1, by go_num, by omega, _, RA2, H⟩, rfl, rfl, rfl⟩ | exact ⟨k + 1, _, by go_num, by omega, RA2, H⟩
          case measure => simp [intOf]; omega
        · have hkn : k = j := by omega
          subst hkn
          rw [List.take_of_length_le (by rw [List.length_map, FN.out]; exact Nat.le_refl _)] at RA2
          obtain ⟨B2, c2, rfl, _⟩ := RA2.out.shape
          clear hlt
          go_wp2_with (first
              | go_skip
              | ((with_reducible refine isLoad ?_); refine ldRw (cs := [.int .i64 xd, .int .i64 3, .int .i64 xi, .int .i64 4, .int .i64 xs, .int .u32 xc, .slice none 0 0]) H j Sn.len (by decide) RG HX rfl ?_ rSnt)
              | ((with_reducible refine isLoad ?_); refine ld1A (Lib.hid H.out.hp) ?_ (hT := by first | exact kInt | exact kSnl | exact kU32))
              | ((with_reducible refine isLoad ?_); refine ldA (Lib.hid H.out.hp) ?_ (hT := by first | exact rSnt | exact rMsg))
              | ((with_reducible refine isStore ?_); refine stM H ?_ (hT := by first | exact rSnt | exact rMsg); clear H; intro _ H)
              | ((with_reducible refine isStore ?_); refine st1M H ?_ (hT := by first | exact sSnl | exact sInt); clear H; intro _ H)
              | ((with_reducible refine isAlloc ?_); refine alM H ?_ (hz := by first | exact zSnt | exact zMsg); clear H; intro _ _ H))
          go_ret
          exact ⟨_, _, _, rfl, RA2.out, H.out.sub (List.Sublist.cons_cons _ (List.sublist_append_right _ _))⟩
end Go.Proofs.Ythepafendopfhaa
