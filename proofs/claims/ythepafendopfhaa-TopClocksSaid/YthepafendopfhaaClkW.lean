/- TopClocks, the walk. Printed by gen/clk.py. -/
import Derived.Test.YthepafendopfhaaClkP
namespace Go.Proofs.Ythepafendopfhaa
open Go.RowKit
set_option linter.unusedVariables false
set_option maxRecDepth 100000

theorem before_395 (w : World) : Calls Try.prog 5 #[.int .u32 3, .int .u32 9, .int .i64 5] w fun e w' => e = .returned (.tuple #[.bool true, .int .i64 0]) ∧ w = w' :=
  (before_any 3 9 5 w (by decide) (by decide)).mono fun e w' ⟨he, hw⟩ => ⟨he.trans (by rw [show decide ((5 : Int) < diffP 9 3) = true by decide +kernel]), hw⟩
set_option maxHeartbeats 4000000 in
theorem clocks_any (A : Option Addr) (n c : Nat) (F : List Flt) (S : Option Addr) (sn sc : Nat) (xs : List Int) (lost : Int) (w : World) (HF : Hid (FltA w A n F)) (hc : n ≤ c) (HS : Hid (IntArg w S sn sc xs)) (hl1 : -9223372036854775808 ≤ lost) (hl2 : lost ≤ 9223372036854775807) :
    Calls Try.prog 3 #[.slice A n c, .slice S sn sc, .int .i64 lost] w fun e w' => e = .returned (.bool true) ∧ Below w.heap.size w w' := by
  have H := Lib.hid (Hp.start (w := w) trivial)
  obtain ⟨lo, hlo, hlo0, hlo9⟩ : ∃ lo : Int, lost % 10 = lo ∧ 0 ≤ lo ∧ lo ≤ 9 := ⟨_, rfl, by omega, by omega⟩
  have hbl : ∀ W, Calls Try.prog 6 #[.int .i64 lost, .int .i64 10] W fun e w' => e = .returned (.int .i64 lo) ∧ W = w' := fun W => hlo ▸ below_any lost 10 W (by decide) hl1 hl2 (by decide)
  have HBL := Lib.hid hbl
  clear hbl hlo hl1 hl2
  obtain ⟨m, hm, hmn, hm12⟩ : ∃ m : Nat, min (n : Int) 12 = m ∧ m ≤ n ∧ m ≤ 12 := ⟨min n 12, by omega, by omega, by omega⟩
  go_enter Try.func3, Try.ntmps3
  go_wp2_with (first
      | go_skip)
  go_at_call 5; refine (before_395 _).mono ?_; rintro _ _ ⟨rfl, rfl⟩
  go_wp2_with (first
      | go_skip)
  go_at_call 6; refine (HBL.out _).mono ?_; rintro _ _ ⟨rfl, rfl⟩
  go_wp2_with (first
      | go_skip)
  go_loopw [9, 42] (fun v_ i_ wr => ∃ (j : Nat) (cur : List Value), i_ = .int .i64 j ∧ j ≤ m ∧ Hid (RowV 3 v_ j (flat Flt.cells ((F.map Flt.red).take j)) cur) ∧ Hid (Hp w wr (rowE v_ 30 cur ++ []))) (fun _ i_ _ => m - (intOf i_).toNat)
  case atStart => exact ⟨0, [], rfl, by omega, Lib.hid (RowV.nil 3), H⟩
  case round =>
    clear H
    obtain ⟨j, cur, rfl, hj, RA, H⟩ := hrel
    by_cases hlt : j < m
    · obtain ⟨x, hx⟩ : ∃ x, F[j]? = some x := ⟨_, List.getElem?_eq_getElem (by rw [HF.out.len]; omega)⟩
      have hsn := Lib.hid (flat_snoc (enc := Flt.cells) (xs := F.map Flt.red) (j := j) (x := x.red) (by rw [List.getElem?_map, hx]; rfl))
      obtain ⟨b, off, rfl, hb, hat⟩ := HF.out.at_ (by omega)
      have X := Lib.hid (rangeAt_below (hat j x hx) H.out.bel hb)
      obtain ⟨⟨t1, t2⟩, ⟨k1, k2⟩, n1, n2⟩ := HF.out.ok x (List.mem_of_getElem? hx)
      obtain ⟨ob, hob⟩ : ∃ ob, w.heap[b]? = some ob := ⟨_, Array.getElem?_eq_getElem hb⟩
      have HOB := Lib.hid hob
      clear hx hat hob
      obtain ⟨xt, xk, xn⟩ := x
      simp only at t1 t2 k1 k2 n1 n2
      go_wp2_with (first
          | go_skip
          | ((with_reducible refine isLoad ?_); refine ldG (cs := [.int .i64 xt, .int .i64 xk, .int .i64 xn]) X ?_ rFlt)
          | ((with_reducible refine isStore ?_); refine stA H ?_ (hT := rFlt); clear H; intro _ H)
          | ((with_reducible refine isAlloc ?_); refine alA H ?_ (hz := zFlt); clear H; intro _ _ H))
      replace H := Lib.hid (Hm.ofArg H.out hb HOB.out)
      refine wp_region_X 13 [.q, .q, .q, .q, .q, .q, .q, .q, .q, .q, .q, .a, .x] H (by kernel_rfl) (by kernel_rfl) (by kernel_rfl) ?_
      simp only [List.take_succ_cons, List.take_zero, List.drop_succ_cons, List.drop_zero]
      refine wpX_q (by rfl) (by (first | exact wanted_none rfl | exact wanted_some rfl rfl)) (by intro W; first | (go_simp; rfl) | go_simp) ?_
      (simp only [Act.put, List.setIfInBounds_toArray, List.set_cons_succ, List.set_cons_zero])
      refine wpX_q (by rfl) (by (first | exact wanted_none rfl | exact wanted_some rfl rfl)) (by intro W; first | (go_simp; rfl) | go_simp) ?_
      (simp only [Act.put, List.setIfInBounds_toArray, List.set_cons_succ, List.set_cons_zero])
      refine wpX_load1 (by rfl) (by rfl) (by (first | exact wanted_none rfl | exact wanted_some rfl rfl)) kInt (by rfl) (by (repeat (first | exact List.Mem.head _ | refine List.Mem.tail _ ?_ | assumption))) (by rfl) ?_
      (simp only [Act.put, List.setIfInBounds_toArray, List.set_cons_succ, List.set_cons_zero])
      apply wpX_C (by rfl) (by (first | exact wanted_none rfl | exact wanted_some rfl rfl))
      · intro W hW
        unfold keepsAt
        go_simp
        go_at_call 6
        exact (below_any xt 60 _ (by decide) (by omega) (by omega) (by decide)).mono fun _ _ h => ⟨h.1, h.2 ▸ Below.refl _ _⟩
      (simp only [Act.put, List.setIfInBounds_toArray, List.set_cons_succ, List.set_cons_zero])
      refine wpX_q (by rfl) (by (first | exact wanted_none rfl | exact wanted_some rfl rfl)) (by intro W; first | (go_simp; rfl) | go_simp) ?_
      (simp only [Act.put, List.setIfInBounds_toArray, List.set_cons_succ, List.set_cons_zero])
      refine wpX_load1 (by rfl) (by rfl) (by (first | exact wanted_none rfl | exact wanted_some rfl rfl)) kInt (by rfl) (by (repeat (first | exact List.Mem.head _ | refine List.Mem.tail _ ?_ | assumption))) (by rfl) ?_
      (simp only [Act.put, List.setIfInBounds_toArray, List.set_cons_succ, List.set_cons_zero])
      apply wpX_C (by rfl) (by (first | exact wanted_none rfl | exact wanted_some rfl rfl))
      · intro W hW
        unfold keepsAt
        go_simp
        go_at_call 6
        exact (below_any xk 6 _ (by decide) (by omega) (by omega) (by decide)).mono fun _ _ h => ⟨h.1, h.2 ▸ Below.refl _ _⟩
      (simp only [Act.put, List.setIfInBounds_toArray, List.set_cons_succ, List.set_cons_zero])
      refine wpX_q (by rfl) (by (first | exact wanted_none rfl | exact wanted_some rfl rfl)) (by intro W; first | (go_simp; rfl) | go_simp) ?_
      (simp only [Act.put, List.setIfInBounds_toArray, List.set_cons_succ, List.set_cons_zero])
      refine wpX_load1 (by rfl) (by rfl) (by (first | exact wanted_none rfl | exact wanted_some rfl rfl)) kInt (by rfl) (by (repeat (first | exact List.Mem.head _ | refine List.Mem.tail _ ?_ | assumption))) (by rfl) ?_
      (simp only [Act.put, List.setIfInBounds_toArray, List.set_cons_succ, List.set_cons_zero])
      apply wpX_C (by rfl) (by (first | exact wanted_none rfl | exact wanted_some rfl rfl))
      · intro W hW
        unfold keepsAt
        go_simp
        go_at_call 6
        exact (below_any xn 4 _ (by decide) (by omega) (by omega) (by decide)).mono fun _ _ h => ⟨h.1, h.2 ▸ Below.refl _ _⟩
      (simp only [Act.put, List.setIfInBounds_toArray, List.set_cons_succ, List.set_cons_zero])
      refine wpX_q (by rfl) (by (first | exact wanted_none rfl | exact wanted_some rfl rfl)) (by intro W; first | (go_simp; rfl) | go_simp) ?_
      (simp only [Act.put, List.setIfInBounds_toArray, List.set_cons_succ, List.set_cons_zero])
      refine wpX_V 30 ([.int .i64 (xt % 60), .int .i64 (xk % 6), .int .i64 (xn % 4)]) 1 (by rfl) (by rfl) (by intro W; kernel_rfl) ?_
      intro _
      (simp only [Act.put, List.setIfInBounds_toArray, List.set_cons_succ, List.set_cons_zero])
      refine wpX_app [_, _] [] (by rfl) RA (by rfl) iFlt (by decide) Try.underlying22 (by rfl) (by rfl) (by rfl) (by rfl) (by (repeat (first | exact List.Mem.head _ | refine List.Mem.tail _ ?_ | assumption))) (by rfl) (by rfl) (by decide) (by simp only [maxLen]; omega) (by omega) ?_
      clear RA
      intro _ _ RA
      obtain ⟨_, _, rfl, _⟩ := RA.out.shape
      (simp only [Act.put, List.setIfInBounds_toArray, List.set_cons_succ, List.set_cons_zero])
      refine wpX_nil ?_
      clear H
      intro _ H
      go_wp2_with (first
          | go_skip
          | ((with_reducible refine isLoad ?_); refine ldG (cs := [.int .i64 xt, .int .i64 xk, .int .i64 xn]) X ?_ rFlt)
          | ((with_reducible refine isStore ?_); refine stA H ?_ (hT := rFlt); clear H; intro _ H)
          | ((with_reducible refine isAlloc ?_); refine alA H ?_ (hz := zFlt); clear H; intro _ _ H))
      replace RA : Hid (RowV 3 _ (j + 1) (flat Flt.cells ((F.map Flt.red).take (j + 1))) _) := Lib.hid (by rw [hsn.out]; exact RA.out)
      replace H := Lib.hid H.out.drop.drop.hp
      go_roundw
      case rel => first | exact ⟨_, _, _, ⟨j + 1, by go_num, by omega, _, RA, H⟩, rfl, rfl, rfl⟩ | exact ⟨j + 1, _, by go_num, by omega, RA, H⟩ | (trace_state; exact 0)
      case measure => simp [intOf]; omega
    · have hjm : j = m := by omega
      subst hjm
      obtain ⟨K, hK⟩ : ∃ K, (F.map Flt.red).take j = K := ⟨_, rfl⟩
      have hKl : K.length = j := by rw [← hK, List.length_take, List.length_map, HF.out.len]; omega
      rw [hK] at RA
      have RF := RA
      have HKl := Lib.hid hKl
      clear hlt hK hKl RA hm HBL
      obtain ⟨Bf, cf, rfl, _⟩ := RF.out.shape
      have hmk := @run_makeMap Try.prog
      go_wp2_with (first
          | go_skip)
      go_at_call 7; refine (new_nil _).mono ?_; rintro _ wn ⟨b, rfl, HN⟩
      replace H := Lib.hid (H.out.join HN)
      clear HN
      go_wp2_with (first
          | go_skip)
      obtain ⟨M, hM⟩ : ∃ M, wn.heap.size = M := ⟨_, rfl⟩
      have hM0 : w.heap.size ≤ M := by rw [← hM]; exact H.out.bel.size
      have HH : Hid (Hm w (wn.alloc (.map #[] 0)) M (.map #[] 0) ((b, 59, [.slice none 0 0, .int .i64 0, .slice none 0 0]) :: (rowE (.slice Bf j cf) 30 cur ++ []))) := Lib.hid (hM ▸ Hm.made H.out (.map #[] 0))
      rw [hM]
      have hMM := Lib.hid hM
      clear H hM hmk
      go_loopw [14, 64] (fun v_ i_ wr => ∃ (t k n2 c2 : Nat) (B2 : Option Addr) (G : List Ms) (ms : List Sn) (cur1 cur2 : List Value) (tick : Int) (ob : Obj), i_ = .int .i64 t ∧ t ≤ 60 ∧ tick ≤ t ∧ n2 ≤ 1 ∧ k + n2 ≤ t ∧ Hid ((∀ x ∈ G, Gd lo x) ∧ (∀ x ∈ ms, Gd lo x.m ∧ x.due ≤ t)) ∧ Hid (RowV 6 v_ k (flat Ms.cells G) cur1) ∧ Hid (RowV 7 (.slice B2 n2 c2) n2 (flat Sn.cells ms) cur2) ∧ Hid (TMo ob t (k + n2)) ∧ Hid (Hm w wr M ob ((b, 59, [.slice none 0 0, .int .i64 tick, .slice B2 n2 c2]) :: (rowE (.slice B2 n2 c2) 61 cur2 ++ (rowE v_ 39 cur1 ++ (rowE (.slice Bf j cf) 30 cur ++ [])))))) (fun _ i_ _ => 60 - (intOf i_).toNat)
      case atStart => exact ⟨0, 0, 0, 0, none, [], [], [], [], 0, _, rfl, by omega, by omega, by omega, by omega, Lib.hid ⟨by simp, by simp⟩, Lib.hid (RowV.nil 6), Lib.hid (RowV.nil 7), Lib.hid (TMo.made 0), HH⟩
      case round =>
        clear HH
        obtain ⟨t, k, n2, c2, B2, G, ms, cur1, cur2, tick, ob, rfl, ht, htk, hn2, hkn, HG, RG, RK, TT, H⟩ := hrel
        have hdue : Hid (∀ x ∈ ms, x.due ≤ t) := Lib.hid fun x hx => (HG.out.2 x hx).2
        by_cases hlt : t < 60
        · go_wp2_with (first
              | go_skip)
          go_at_call 8; refine (take_any ms b tick B2 n2 c2 cur2 _ t M ob w _ RK hn2 hdue H).mono ?_; rintro _ _ ⟨B3, c3, cur3, rfl, RO, H2⟩
          clear H
          have H := Lib.hid H2
          replace RO := Lib.hid RO
          clear H2
          have HG4 : Hid (∀ x ∈ G ++ ms.map (·.m), Gd lo x) := Lib.hid fun x hx => by
            rcases List.mem_append.1 hx with hx | hx
            · exact HG.out.1 x hx
            · obtain ⟨y, hy, rfl⟩ := List.mem_map.1 hx
              exact (HG.out.2 y hy).1
          by_cases hs : t < sn
          · obtain ⟨hsl, _, _, hri, hbd⟩ := HS.out
            obtain ⟨y, hy⟩ : ∃ y, xs[t]? = some y := ⟨_, List.getElem?_eq_getElem (by omega)⟩
            obtain ⟨sb, so, rfl, hsb, hcell⟩ := hri (by omega)
            have SC := Lib.hid (hcell t y hy)
            obtain ⟨hy1, hy2⟩ := hbd y (List.mem_of_getElem? hy)
            clear hsl hri hbd hy hcell
            go_wp2_with (first
                | go_skip
                | ((with_reducible refine isApp ?_); refine apR ((b, 59, [.slice none 0 0, .int .i64 tick, .slice none 0 0]) :: rowE (.slice B3 n2 c3) 39 cur3) (rowE (.slice Bf j cf) 30 cur ++ []) H RG RO iMsg (by decide) Try.underlying34 ?_ (fun x hx => List.mem_cons_of_mem _ (List.mem_append_left _ hx)) (ms_all _) (by simp only [maxLen]; omega) (by omega); clear H RG RO; intro v4 cur4 _ RG H; replace RG : Hid (RowV 6 v4 (k + n2) (flat Ms.cells (G ++ ms.map (·.m))) cur4) := Lib.hid (by rw [flat_append]; exact RG.out); replace H : Hid (Hm w _ M ob ((b, 59, [.slice none 0 0, .int .i64 tick, .slice none 0 0]) :: (rowE v4 39 cur4 ++ (rowE (.slice Bf j cf) 30 cur ++ [])))) := Lib.hid (H.out.sub (.cons_cons _ (List.sublist_append_right _ _))))
                | ((with_reducible refine isLoad ?_); refine ld1G (Lib.hid ((H.out.hp.bel.cell (p := ⟨sb, so + t, none⟩) hsb).trans SC.out)) ?_ kInt))
            obtain ⟨i, hi, hi0, hi3⟩ : ∃ i : Int, y % 4 = i ∧ 0 ≤ i ∧ i ≤ 3 := ⟨_, rfl, by omega, by omega⟩
            go_at_call 6; refine (below_any y 4 _ (by decide) hy1 hy2 (by decide)).mono ?_; rintro _ _ ⟨rfl, rfl⟩; rw [hi]; clear hi
            go_wp2_with (first
                | go_skip
                | ((with_reducible refine isApp ?_); refine apR ((b, 59, [.slice none 0 0, .int .i64 tick, .slice none 0 0]) :: rowE (.slice B3 n2 c3) 39 cur3) (rowE (.slice Bf j cf) 30 cur ++ []) H RG RO iMsg (by decide) Try.underlying34 ?_ (fun x hx => List.mem_cons_of_mem _ (List.mem_append_left _ hx)) (ms_all _) (by simp only [maxLen]; omega) (by omega); clear H RG RO; intro v4 cur4 _ RG H; replace RG : Hid (RowV 6 v4 (k + n2) (flat Ms.cells (G ++ ms.map (·.m))) cur4) := Lib.hid (by rw [flat_append]; exact RG.out); replace H : Hid (Hm w _ M ob ((b, 59, [.slice none 0 0, .int .i64 tick, .slice none 0 0]) :: (rowE v4 39 cur4 ++ (rowE (.slice Bf j cf) 30 cur ++ [])))) := Lib.hid (H.out.sub (.cons_cons _ (List.sublist_append_right _ _))))
                | ((with_reducible refine isLoad ?_); refine ld1G (Lib.hid ((H.out.hp.bel.cell (p := ⟨sb, so + t, none⟩) hsb).trans SC.out)) ?_ kInt))
            obtain ⟨L, hL, hL12⟩ : ∃ L : Nat, lostN K i t = L ∧ L ≤ 12 := ⟨_, rfl, Nat.le_trans (show lostN K i t ≤ K.length from List.countP_le_length) (by rw [HKl.out]; exact hm12)⟩
            obtain ⟨cl, hcl⟩ : ∃ cl : Int, afterP 7 ((t : Int) - L) = cl := ⟨_, rfl⟩
            go_at_call 9
            refine (show_any K Bf j cf cur 7 i t _ RF (Lib.hid (rowE_blk H.out.hp (fun x hx => List.mem_cons_of_mem _ (List.mem_append_right _ (List.mem_append_left _ hx))) rfl)) (by omega) (by omega) (by omega)).mono ?_
            rintro _ _ ⟨rfl, hb⟩
            replace H := Lib.hid (H.out.go hb)
            rw [hL, hcl]
            have HCL := Lib.hid hcl
            clear hb hL hcl
            go_wp2_with (first
                | go_skip
                | ((with_reducible refine isLoad ?_); refine ldA (Lib.hid H.out.hp) ?_ (hT := by first | exact rSnt | exact rMsg))
                | ((with_reducible refine isLoad ?_); refine ld1A (Lib.hid H.out.hp) ?_ (hT := by first | exact kInt | exact kSnl | exact kU32))
                | ((with_reducible refine isStore ?_); refine stM H ?_ (hT := by first | exact rSnt | exact rMsg); clear H; intro _ H)
                | ((with_reducible refine isAlloc ?_); refine alM H ?_ (hz := by first | exact zSnt | exact zMsg); clear H; intro _ _ H))
            have hgap := gap2 HCL (by omega) (by omega) (by omega) (by omega)
            go_at_call 10
            refine (diff_any _ _ _).mono ?_
            rintro _ _ ⟨rfl, rfl⟩
            rw [hgap]
            clear hgap
            have TT2 : Hid (TMo ob ((t + 1 : Nat) : Int) (k + n2)) := Lib.hid (by rw [Int.natCast_add]; exact TT.out.up)
            by_cases hLl : lo < (L : Int)
            · go_wp2_with (first
                  | go_skip)
              replace H := Lib.hid H.out.drop
              go_roundw
              case rel => first | exact ⟨_, _, _, _, _, _, ⟨t + 1, k + n2, 0, 0, none, G ++ ms.map (·.m), [], cur4, [], tick, ob, by go_num, by omega, by omega, by omega, by omega, Lib.hid ⟨HG4.out, by simp⟩, RG, Lib.hid (RowV.nil 7), TT2, H⟩, rfl, rfl, rfl⟩ | exact ⟨t + 1, k + n2, 0, 0, none, G ++ ms.map (·.m), [], cur4, [], tick, ob, by go_num, by omega, by omega, by omega, by omega, Lib.hid ⟨HG4.out, by simp⟩, RG, Lib.hid (RowV.nil 7), TT2, H⟩ | (trace_state; fail)
              case measure => simp [intOf]; omega
            · go_wp2_with (first
                  | go_skip
                  | ((with_reducible refine isMapU ?_); refine upM (t := (t : Int)) (u := (t : Int)) H TT hM0 (by omega) (wf_of (by omega) (by omega)) (wf_of (by omega) (by omega)) ?_ Try.underlying33; clear H TT TT2; intro ob5 _ TT H)
                  | ((with_reducible refine isLoad ?_); refine ldA (Lib.hid H.out.hp) ?_ (hT := by first | exact rSnt | exact rMsg)))
              go_at_call 11
              refine (send_any b tick t i t cl _ M ob5 w _ hi0 hi3 (by omega) (by omega) (by omega) (by omega) htk (Lib.hid H.out.drop)).mono ?_
              rintro _ _ ⟨v5, cur5, rfl, RS, H2⟩
              clear H
              have H := Lib.hid H2
              replace RS := Lib.hid RS
              obtain ⟨B5, c5, rfl, _⟩ := RS.out.shape
              replace TT : Hid (TMo ob5 ((t + 1 : Nat) : Int) (k + n2 + 1)) := Lib.hid (by rw [Int.natCast_add]; exact TT.out)
              have GS : Hid (∀ x ∈ [(⟨(t : Int) + 1, ⟨i, t, cl⟩⟩ : Sn)], Gd lo x.m ∧ x.due ≤ ((t + 1 : Nat) : Int)) := Lib.hid fun x hx => by
                obtain rfl := List.mem_singleton.1 hx
                refine ⟨⟨by simp only; omega, by simp only; omega, (L : Int), by omega, by assumption, ?_⟩, by simp only; omega⟩
                show cl = _
                rw [← HCL.out, after_eq, show (7 : Int) + (t - L) = 7 + t - L by omega]
              clear H2 HCL
              go_wp2_with (first
                  | go_skip
                  | ((with_reducible refine isMapU ?_); refine upM (t := (t : Int)) (u := (t : Int)) H TT hM0 (by omega) (wf_of (by omega) (by omega)) (wf_of (by omega) (by omega)) ?_ Try.underlying33; clear H TT TT2; intro ob5 _ TT H)
                  | ((with_reducible refine isLoad ?_); refine ldA (Lib.hid H.out.hp) ?_ (hT := by first | exact rSnt | exact rMsg)))
              go_roundw
              case rel => first | exact ⟨_, _, _, _, _, _, ⟨t + 1, k + n2, 1, c5, B5, G ++ ms.map (·.m), _, cur4, cur5, t, ob5, by go_num, by omega, by omega, by omega, by omega, Lib.hid ⟨HG4.out, GS.out⟩, RG, RS, TT, H⟩, rfl, rfl, rfl⟩ | exact ⟨t + 1, k + n2, 1, c5, B5, G ++ ms.map (·.m), _, cur4, cur5, t, ob5, by go_num, by omega, by omega, by omega, by omega, Lib.hid ⟨HG4.out, GS.out⟩, RG, RS, TT, H⟩ | (trace_state; fail)
              case measure => simp [intOf]; omega
          · go_wp2_with (first
                | go_skip
                | ((with_reducible refine isApp ?_); refine apR ((b, 59, [.slice none 0 0, .int .i64 tick, .slice none 0 0]) :: rowE (.slice B3 n2 c3) 39 cur3) (rowE (.slice Bf j cf) 30 cur ++ []) H RG RO iMsg (by decide) Try.underlying34 ?_ (fun x hx => List.mem_cons_of_mem _ (List.mem_append_left _ hx)) (ms_all _) (by simp only [maxLen]; omega) (by omega); clear H RG RO; intro v4 cur4 _ RG H; replace RG : Hid (RowV 6 v4 (k + n2) (flat Ms.cells (G ++ ms.map (·.m))) cur4) := Lib.hid (by rw [flat_append]; exact RG.out); replace H : Hid (Hm w _ M ob ((b, 59, [.slice none 0 0, .int .i64 tick, .slice none 0 0]) :: (rowE v4 39 cur4 ++ (rowE (.slice Bf j cf) 30 cur ++ [])))) := Lib.hid (H.out.sub (.cons_cons _ (List.sublist_append_right _ _)))))
            have TT2 : Hid (TMo ob ((t + 1 : Nat) : Int) (k + n2)) := Lib.hid (by rw [Int.natCast_add]; exact TT.out.up)
            go_roundw
            case rel => first | exact ⟨_, _, _, _, _, _, ⟨t + 1, k + n2, 0, 0, none, G ++ ms.map (·.m), [], cur4, [], tick, ob, by go_num, by omega, by omega, by omega, by omega, Lib.hid ⟨HG4.out, by simp⟩, RG, Lib.hid (RowV.nil 7), TT2, H⟩, rfl, rfl, rfl⟩ | exact ⟨t + 1, k + n2, 0, 0, none, G ++ ms.map (·.m), [], cur4, [], tick, ob, by go_num, by omega, by omega, by omega, by omega, Lib.hid ⟨HG4.out, by simp⟩, RG, Lib.hid (RowV.nil 7), TT2, H⟩ | (trace_state; fail)
            case measure => simp [intOf]; omega
        · have ht60 : t = 60 := by omega
          subst ht60
          go_wp2_with (first
              | go_skip)
          have hdue9 : Hid (∀ x ∈ ms, x.due ≤ 99) := Lib.hid fun x hx => Int.le_trans (hdue.out x hx) (by decide)
          go_at_call 8; refine (take_any ms b tick B2 n2 c2 cur2 _ 99 M ob w _ RK hn2 hdue9 H).mono ?_; rintro _ _ ⟨B3, c3, cur3, rfl, RO, H2⟩
          clear H
          have H := Lib.hid H2
          replace RO := Lib.hid RO
          clear H2
          have HG4 : Hid (∀ x ∈ G ++ ms.map (·.m), Gd lo x) := Lib.hid fun x hx => by
            rcases List.mem_append.1 hx with hx | hx
            · exact HG.out.1 x hx
            · obtain ⟨y, hy, rfl⟩ := List.mem_map.1 hx
              exact (HG.out.2 y hy).1
          clear hdue9 hdue HG
          go_wp2_with (first
              | go_skip
              | ((with_reducible refine isApp ?_); refine apR ((b, 59, [.slice none 0 0, .int .i64 tick, .slice none 0 0]) :: rowE (.slice B3 n2 c3) 39 cur3) (rowE (.slice Bf j cf) 30 cur ++ []) H RG RO iMsg (by decide) Try.underlying34 ?_ (fun x hx => List.mem_cons_of_mem _ (List.mem_append_left _ hx)) (ms_all _) (by simp only [maxLen]; omega) (by omega); clear H RG RO; intro v4 cur4 _ RG H; replace RG : Hid (RowV 6 v4 (k + n2) (flat Ms.cells (G ++ ms.map (·.m))) cur4) := Lib.hid (by rw [flat_append]; exact RG.out); obtain ⟨B4, c4, rfl, _⟩ := RG.out.shape; replace H : Hid (Hm w _ M ob ((b, 59, [.slice none 0 0, .int .i64 tick, .slice none 0 0]) :: (rowE _ 39 cur4 ++ (rowE (.slice Bf j cf) 30 cur ++ [])))) := Lib.hid (H.out.sub (.cons_cons _ (List.sublist_append_right _ _))))
              | ((with_reducible refine isLenB ?_); refine lenM H TT ?_))
          have FN := Lib.hid (RG.out.len_ Ms.len (by decide))
          go_loopw [116] (fun i_ wr => ∃ p : Nat, i_ = .int .i64 p ∧ p ≤ k + n2 ∧ Hid (Hm w wr M ob ((b, 59, [.slice none 0 0, .int .i64 tick, .slice none 0 0]) :: (rowE (.slice B4 (k + n2) c4) 39 cur4 ++ (rowE (.slice Bf j cf) 30 cur ++ []))))) (fun i_ _ => k + n2 - (intOf i_).toNat)
          case atStart => exact ⟨0, rfl, by omega, H⟩
          case round =>
            clear H
            obtain ⟨p, rfl, hp, H⟩ := hrel
            by_cases hlt2 : p < k + n2
            · obtain ⟨x, hx⟩ : ∃ x, (G ++ ms.map (·.m))[p]? = some x := ⟨_, List.getElem?_eq_getElem (by rw [FN.out]; exact hlt2)⟩
              have HX := Lib.hid hx
              have hgx := Lib.hid (HG4.out x (List.mem_of_getElem? hx))
              obtain ⟨g, cap, e1, _, _⟩ := RG.out.at_ Ms.len hx (by decide)
              injection e1 with e1 _ e3
              subst e1
              clear hx e3
              obtain ⟨ami, ams, amc⟩ := x
              go_wp2_with (first
                  | go_skip
                  | ((with_reducible refine isLoad ?_); refine ldRw (cs := [.int .i64 3, .int .i64 ami, .int .i64 4, .int .i64 ams, .int .u32 amc, .slice none 0 0]) H p Ms.len (by decide) RG HX rfl ?_ rMsg)
                  | ((with_reducible refine isStore ?_); refine stM H ?_ (hT := by first | exact rSnt | exact rMsg); clear H; intro _ H)
                  | ((with_reducible refine isAlloc ?_); refine alM H ?_ (hz := by first | exact zSnt | exact zMsg); clear H; intro q _ H))
              go_loopw [122] (fun i_ wr => ∃ r : Nat, i_ = .int .i64 r ∧ r ≤ k + n2 ∧ Hid (Hm w wr M ob ((q, 39, [.int .i64 3, .int .i64 ami, .int .i64 4, .int .i64 ams, .int .u32 amc, .slice none 0 0]) :: (b, 59, [.slice none 0 0, .int .i64 tick, .slice none 0 0]) :: (rowE (.slice (some ⟨g, 0, none⟩) (k + n2) c4) 39 cur4 ++ (rowE (.slice Bf j cf) 30 cur ++ []))))) (fun i_ _ => k + n2 - (intOf i_).toNat)
              case atStart => exact ⟨0, rfl, by omega, H⟩
              case round =>
                clear H
                obtain ⟨r, rfl, hr, H⟩ := hrel
                by_cases hlt3 : r < k + n2
                · obtain ⟨x, hx⟩ : ∃ x, (G ++ ms.map (·.m))[r]? = some x := ⟨_, List.getElem?_eq_getElem (by rw [FN.out]; exact hlt3)⟩
                  have HX2 := Lib.hid hx
                  have hgy := Lib.hid (HG4.out x (List.mem_of_getElem? hx))
                  clear hx
                  obtain ⟨bmi, bms, bmc⟩ := x
                  go_wp2_with (first
                      | go_skip
                      | ((with_reducible refine isLoad ?_); refine ldRw (cs := [.int .i64 3, .int .i64 bmi, .int .i64 4, .int .i64 bms, .int .u32 bmc, .slice none 0 0]) H r Ms.len (by decide) RG HX2 rfl ?_ rMsg)
                      | ((with_reducible refine isLoad ?_); refine ld1A (Lib.hid H.out.hp) ?_ (hT := by first | exact kInt | exact kSnl | exact kU32))
                      | ((with_reducible refine isStore ?_); refine stM H ?_ (hT := by first | exact rSnt | exact rMsg); clear H; intro _ H)
                      | ((with_reducible refine isAlloc ?_); refine alM H ?_ (hz := by first | exact zSnt | exact zMsg); clear H; intro _ _ H))
                  go_at_call 5; refine (before_any amc bmc lo _ hlo0 (by omega)).mono ?_; rintro _ _ ⟨rfl, rfl⟩
                  by_cases hd : lo < diffP bmc amc
                  · have hlt4 : ams < bms := gd_law hgx.out hgy.out hlo0 hlo9 hd
                    rw [decide_eq_true hd]
                    go_wp2_with (first
                        | go_skip
                        | ((with_reducible refine isLoad ?_); refine ldRw (cs := [.int .i64 3, .int .i64 bmi, .int .i64 4, .int .i64 bms, .int .u32 bmc, .slice none 0 0]) H r Ms.len (by decide) RG HX2 rfl ?_ rMsg)
                        | ((with_reducible refine isLoad ?_); refine ld1A (Lib.hid H.out.hp) ?_ (hT := by first | exact kInt | exact kSnl | exact kU32))
                        | ((with_reducible refine isStore ?_); refine stM H ?_ (hT := by first | exact rSnt | exact rMsg); clear H; intro _ H)
                        | ((with_reducible refine isAlloc ?_); refine alM H ?_ (hz := by first | exact zSnt | exact zMsg); clear H; intro _ _ H))
                    replace H := Lib.hid H.out.drop
                    go_roundw
                    case rel => first | exact ⟨r + 1, by go_num, by omega, H⟩ | exact ⟨_, _, _, _, ⟨r + 1, by go_num, by omega, H⟩, rfl, rfl, rfl⟩ | (trace_state; fail)
                    case measure => simp [intOf]; omega
                  · rw [decide_eq_false hd]
                    go_wp2_with (first
                        | go_skip
                        | ((with_reducible refine isLoad ?_); refine ldRw (cs := [.int .i64 3, .int .i64 bmi, .int .i64 4, .int .i64 bms, .int .u32 bmc, .slice none 0 0]) H r Ms.len (by decide) RG HX2 rfl ?_ rMsg)
                        | ((with_reducible refine isLoad ?_); refine ld1A (Lib.hid H.out.hp) ?_ (hT := by first | exact kInt | exact kSnl | exact kU32))
                        | ((with_reducible refine isStore ?_); refine stM H ?_ (hT := by first | exact rSnt | exact rMsg); clear H; intro _ H)
                        | ((with_reducible refine isAlloc ?_); refine alM H ?_ (hz := by first | exact zSnt | exact zMsg); clear H; intro _ _ H))
                    replace H := Lib.hid H.out.drop
                    go_roundw
                    case rel => first | exact ⟨r + 1, by go_num, by omega, H⟩ | exact ⟨_, _, _, _, ⟨r + 1, by go_num, by omega, H⟩, rfl, rfl, rfl⟩ | (trace_state; fail)
                    case measure => simp [intOf]; omega
                · go_wp2_with (first
                      | go_skip)
                  replace H := Lib.hid H.out.drop
                  go_roundw
                  case rel => first | exact ⟨p + 1, by go_num, by omega, H⟩ | exact ⟨_, _, _, _, ⟨p + 1, by go_num, by omega, H⟩, rfl, rfl, rfl⟩ | (trace_state; fail)
                  case measure => simp [intOf]; omega
            · go_wp2_with (first
                  | go_skip)
              go_ret
              exact ⟨rfl, H.out.hp.bel⟩
end Go.Proofs.Ythepafendopfhaa
