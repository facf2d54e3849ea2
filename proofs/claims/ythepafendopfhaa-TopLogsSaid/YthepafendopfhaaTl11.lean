/- slices.Equal and slices.Grow at bytes. Printed by gen/logs.py. · slices.Concat at bytes. Printed by gen/logs.py. · log.sum. Printed by gen/logs.py. -/
import Derived.Test.YthepafendopfhaaTl10
import Derived.Lib.AppendZeros
namespace Go.Proofs.Ythepafendopfhaa
open Go.RowKit
set_option linter.unusedVariables false
set_option maxRecDepth 100000

/-- Bytes that a slice shows, among the blocks E. -/
def VB (E : Ents) (bs : List Int) (v : Value) : Prop := ∃ A c, v = .slice A bs.length c ∧ VIn E 5 A bs.length c (bv bs)
theorem VB.mono {E E' : Ents} {bs : List Int} {v : Value} (h : VB E bs v) (hs : ∀ x ∈ E, x ∈ E') : VB E' bs v := by
  obtain ⟨A, c, h1, h2⟩ := h
  exact ⟨A, c, h1, h2.mono hs⟩
theorem bv_one (bs : List Int) : (bv bs).all (·.oneCell') = true := by
  rw [List.all_eq_true]
  intro u hu
  obtain ⟨x, _, rfl⟩ := List.mem_map.1 hu
  rfl
theorem bv_at {bs : List Int} {j : Nat} {x : Int} (h : bs[j]? = some x) : (bv bs)[j]? = some (.int .u8 x) := by
  unfold bv
  rw [List.getElem?_map, h]
  rfl
theorem iByt : InfoT Try.prog 5 1 1 := InfoT.of (z := .int .u8 0) (by kernel_rfl) (by kernel_rfl) rfl
theorem iByts : InfoT Try.prog 44 1 24 := InfoT.of (z := .slice none 0 0) (by kernel_rfl) (by kernel_rfl) rfl
theorem kByts : ∃ d, Try.prog.underlying 44 = some d ∧ d.isRow = false := ⟨_, Try.underlying44, rfl⟩
theorem sByts : (Try.prog.info? 44).map (·.size) = some 1 := by kernel_rfl
set_option maxHeartbeats 4000000 in
theorem eqBy_any (A B : Option Addr) (n c d : Nat) (xs ys : List Int) (w0 w : World) (m : Ents) (H : Hid (Hp w0 w m)) (VX : Hid (VIn m 5 A n c (bv xs))) (VY : Hid (VIn m 5 B n d (bv ys))) (hn : n ≤ 100000) :
    Calls Try.prog 36 #[.slice A n c, .slice B n d] w fun e w' => e = .returned (.bool (decide (xs = ys))) ∧ Hp w0 w' m := by
  have hxl : xs.length = n := by rw [← bv_len]; exact VX.out.len
  have hyl : ys.length = n := by rw [← bv_len]; exact VY.out.len
  have hnn : ((n : Int) != n) = false := by simp
  go_enter Try.func36, Try.ntmps36
  go_wp2_with (first
      | go_skip)
  go_loopw [13] (fun i_ wr => ∃ i : Nat, i_ = .int .i64 i ∧ i ≤ n ∧ Hid (xs.take i = ys.take i) ∧ Hid (Hp w0 wr m)) (fun i_ _ => n - (intOf i_).toNat)
  case atStart => exact ⟨0, rfl, by omega, Lib.hid rfl, H⟩
  case round =>
    clear H
    obtain ⟨i, rfl, hi, TK, H⟩ := hrel
    by_cases hlt : i < n
    · obtain ⟨x, hx⟩ : ∃ x, xs[i]? = some x := ⟨_, List.getElem?_eq_getElem (by omega)⟩
      obtain ⟨y, hy⟩ : ∃ y, ys[i]? = some y := ⟨_, List.getElem?_eq_getElem (by omega)⟩
      obtain ⟨gx, ox, _, rfl, _, _⟩ := VX.out.at_ (by omega)
      obtain ⟨gy, oy, _, rfl, _, _⟩ := VY.out.at_ (by omega)
      have CX : Hid (∀ W, Hld m W → W.cell? ⟨gx, ox + i, none⟩ = some (.int .u8 x)) := Lib.hid fun W hW => by
        obtain ⟨g, o, e1, _, h⟩ := VX.out.cells hW (by omega)
        cases e1
        exact h i _ (bv_at hx)
      have CY : Hid (∀ W, Hld m W → W.cell? ⟨gy, oy + i, none⟩ = some (.int .u8 y)) := Lib.hid fun W hW => by
        obtain ⟨g, o, e1, _, h⟩ := VY.out.cells hW (by omega)
        cases e1
        exact h i _ (bv_at hy)
      have HX := Lib.hid hx
      have HY := Lib.hid hy
      clear hx hy
      go_wp2_with (first
          | go_skip)
      by_cases hxy : x = y
      · subst hxy
        have hd : (x != x) = false := by simp
        refine wp_region_Y 8 [.c (.slice (some ⟨gx, ox, none⟩) n c), .c (.int .i64 i), .c (.pointer (some ⟨gx, ox + i, none⟩)), .c (.int .u8 x), .c (.slice (some ⟨gy, oy, none⟩) n d), .c (.int .i64 i), .c (.pointer (some ⟨gy, oy + i, none⟩)), .c (.int .u8 x)] (m) H (by (repeat (first | exact List.Sublist.refl _ | refine List.Sublist.cons_cons _ ?_ | refine List.Sublist.append_left ?_ _ | refine List.Sublist.trans ?_ (List.sublist_append_right _ _) | refine List.Sublist.cons _ ?_))) (by kernel_rfl) (by kernel_rfl) (by kernel_rfl) ?_
        simp only [List.take_succ_cons, List.take_zero, List.drop_succ_cons, List.drop_zero]
        refine wpY_c (by rfl) (by (first | exact wanted_none rfl | exact wanted_some rfl rfl)) (by intro W _; first | (go_simp; rfl) | (go_simp; done) | (trace_state; fail)) ?_
        (simp only [Act.put, List.setIfInBounds_toArray, List.set_cons_succ, List.set_cons_zero])
        refine wpY_c (by rfl) (by (first | exact wanted_none rfl | exact wanted_some rfl rfl)) (by intro W _; first | (go_simp; rfl) | (go_simp; done) | (trace_state; fail)) ?_
        (simp only [Act.put, List.setIfInBounds_toArray, List.set_cons_succ, List.set_cons_zero])
        refine wpY_c (by rfl) (by (first | exact wanted_none rfl | exact wanted_some rfl rfl)) (by intro W _; first | (go_simp; rfl) | (go_simp; done) | (trace_state; fail)) ?_
        (simp only [Act.put, List.setIfInBounds_toArray, List.set_cons_succ, List.set_cons_zero])
        refine wpY_loadX (by rfl) (by rfl) (by (first | exact wanted_none rfl | exact wanted_some rfl rfl)) kByt_ (by rfl) (by intro W HW; exact CX.out W (HW.out.hld fun z hz => hz)) ?_
        (simp only [Act.put, List.setIfInBounds_toArray, List.set_cons_succ, List.set_cons_zero])
        refine wpY_c (by rfl) (by (first | exact wanted_none rfl | exact wanted_some rfl rfl)) (by intro W _; first | (go_simp; rfl) | (go_simp; done) | (trace_state; fail)) ?_
        (simp only [Act.put, List.setIfInBounds_toArray, List.set_cons_succ, List.set_cons_zero])
        refine wpY_c (by rfl) (by (first | exact wanted_none rfl | exact wanted_some rfl rfl)) (by intro W _; first | (go_simp; rfl) | (go_simp; done) | (trace_state; fail)) ?_
        (simp only [Act.put, List.setIfInBounds_toArray, List.set_cons_succ, List.set_cons_zero])
        refine wpY_c (by rfl) (by (first | exact wanted_none rfl | exact wanted_some rfl rfl)) (by intro W _; first | (go_simp; rfl) | (go_simp; done) | (trace_state; fail)) ?_
        (simp only [Act.put, List.setIfInBounds_toArray, List.set_cons_succ, List.set_cons_zero])
        refine wpY_loadX (by rfl) (by rfl) (by (first | exact wanted_none rfl | exact wanted_some rfl rfl)) kByt_ (by rfl) (by intro W HW; exact CY.out W (HW.out.hld fun z hz => hz)) ?_
        (simp only [Act.put, List.setIfInBounds_toArray, List.set_cons_succ, List.set_cons_zero])
        refine wpY_nil ?_
        clear H
        intro _ H
        go_wp2_with (first
            | go_skip)
        go_roundw
        case rel => exact ⟨i + 1, by go_num, by omega, Lib.hid (by rw [List.take_add_one, List.take_add_one, TK.out, HX.out, HY.out]), H⟩
        case measure => simp [intOf]; omega
      · have hd : (x != y) = true := bne_iff_ne.2 hxy
        refine wp_region_Y 8 [.c (.slice (some ⟨gx, ox, none⟩) n c), .c (.int .i64 i), .c (.pointer (some ⟨gx, ox + i, none⟩)), .c (.int .u8 x), .c (.slice (some ⟨gy, oy, none⟩) n d), .c (.int .i64 i), .c (.pointer (some ⟨gy, oy + i, none⟩)), .c (.int .u8 y)] (m) H (by (repeat (first | exact List.Sublist.refl _ | refine List.Sublist.cons_cons _ ?_ | refine List.Sublist.append_left ?_ _ | refine List.Sublist.trans ?_ (List.sublist_append_right _ _) | refine List.Sublist.cons _ ?_))) (by kernel_rfl) (by kernel_rfl) (by kernel_rfl) ?_
        simp only [List.take_succ_cons, List.take_zero, List.drop_succ_cons, List.drop_zero]
        refine wpY_c (by rfl) (by (first | exact wanted_none rfl | exact wanted_some rfl rfl)) (by intro W _; first | (go_simp; rfl) | (go_simp; done) | (trace_state; fail)) ?_
        (simp only [Act.put, List.setIfInBounds_toArray, List.set_cons_succ, List.set_cons_zero])
        refine wpY_c (by rfl) (by (first | exact wanted_none rfl | exact wanted_some rfl rfl)) (by intro W _; first | (go_simp; rfl) | (go_simp; done) | (trace_state; fail)) ?_
        (simp only [Act.put, List.setIfInBounds_toArray, List.set_cons_succ, List.set_cons_zero])
        refine wpY_c (by rfl) (by (first | exact wanted_none rfl | exact wanted_some rfl rfl)) (by intro W _; first | (go_simp; rfl) | (go_simp; done) | (trace_state; fail)) ?_
        (simp only [Act.put, List.setIfInBounds_toArray, List.set_cons_succ, List.set_cons_zero])
        refine wpY_loadX (by rfl) (by rfl) (by (first | exact wanted_none rfl | exact wanted_some rfl rfl)) kByt_ (by rfl) (by intro W HW; exact CX.out W (HW.out.hld fun z hz => hz)) ?_
        (simp only [Act.put, List.setIfInBounds_toArray, List.set_cons_succ, List.set_cons_zero])
        refine wpY_c (by rfl) (by (first | exact wanted_none rfl | exact wanted_some rfl rfl)) (by intro W _; first | (go_simp; rfl) | (go_simp; done) | (trace_state; fail)) ?_
        (simp only [Act.put, List.setIfInBounds_toArray, List.set_cons_succ, List.set_cons_zero])
        refine wpY_c (by rfl) (by (first | exact wanted_none rfl | exact wanted_some rfl rfl)) (by intro W _; first | (go_simp; rfl) | (go_simp; done) | (trace_state; fail)) ?_
        (simp only [Act.put, List.setIfInBounds_toArray, List.set_cons_succ, List.set_cons_zero])
        refine wpY_c (by rfl) (by (first | exact wanted_none rfl | exact wanted_some rfl rfl)) (by intro W _; first | (go_simp; rfl) | (go_simp; done) | (trace_state; fail)) ?_
        (simp only [Act.put, List.setIfInBounds_toArray, List.set_cons_succ, List.set_cons_zero])
        refine wpY_loadX (by rfl) (by rfl) (by (first | exact wanted_none rfl | exact wanted_some rfl rfl)) kByt_ (by rfl) (by intro W HW; exact CY.out W (HW.out.hld fun z hz => hz)) ?_
        (simp only [Act.put, List.setIfInBounds_toArray, List.set_cons_succ, List.set_cons_zero])
        refine wpY_nil ?_
        clear H
        intro _ H
        go_wp2_with (first
            | go_skip)
        go_ret
        refine ⟨ret_bool (decide_eq_false fun e => hxy ?_).symm, H.out⟩
        subst e
        exact Option.some.inj (HX.out.symm.trans HY.out)
    · obtain rfl : i = n := by omega
      go_wp2_with (first
          | go_skip)
      go_ret
      refine ⟨ret_bool (decide_eq_true ?_).symm, H.out⟩
      have := TK.out
      rwa [List.take_of_length_le (by omega), List.take_of_length_le (by omega)] at this
set_option maxHeartbeats 4000000 in
theorem growBy_any (n : Nat) (w0 w : World) (m : Ents) (H : Hid (Hp w0 w m)) (hn : n ≤ 100000) (h0 : 0 < n) :
    Calls Try.prog 45 #[.slice none 0 0, .int .i64 n] w fun e w' => ∃ v cur, e = .returned v ∧ RowV 1 v 0 [] cur ∧ Hp w0 w' (rowE v 5 cur ++ m) := by
  have g1 : IntKind.i64.wrap ((n : Int)) = n := IntWalk.i64_in _ (by omega)
  have h0I : (0 : Int) < n := by omega
  obtain ⟨j0, jz, ji, hjz, jz1, jz2, jz3⟩ := iByt.h
  have hr := fun ty => Lib.run_append_nil_zeros (P := Try.prog) w 44 3 ty 5 j0 _ .i64 .i64 Try.underlying44 Try.underlying3 ji hjz n h0 (by rw [jz1]; decide) (by omega) (by rw [jz2]; omega)
  obtain ⟨Z, hZ⟩ : ∃ Z : Array Value, jz.cells = Z := ⟨_, rfl⟩
  rw [hZ] at jz3
  simp only [hZ] at hr
  have HR := Lib.hid hr
  clear hZ hjz jz1 jz2
  have hge := grownCap_ge w n 0 5
  have hle := grownCap_le_maxLen w n 0 5 (by unfold maxLen; omega)
  clear hr
  go_enter Try.func45, Try.ntmps45
  go_wp2_with (first
      | (at_builtin; refine Lib.wpList_append_run _ rfl _ _ _ _ rfl _ _ rfl rfl _ _ (HR.out _) ?_))
  go_ret
  refine ⟨_, (Builtin.zeroCells Z n ++ Builtin.zeroCells Z (grownCap w n 0 5 - n)).toList, rfl, ⟨by simp, .inr ⟨_, _, rfl, Nat.zero_le _, hle, ?_, by simp⟩⟩, ?_⟩
  · rw [Array.length_toList, Array.size_append, size_zeroCells, size_zeroCells, jz3, ← Nat.add_mul]
    congr 1
    omega
  · refine H.out.fresh (((Below.refl _ _).alloc (Nat.le_refl _) _).drew) (Nat.le_refl _) ?_
    rw [Array.toArray_toList]
    exact (Blk.new w _ _).drew
end Go.Proofs.Ythepafendopfhaa

namespace Go.Proofs.Ythepafendopfhaa
open Go.RowKit
set_option linter.unusedVariables false
set_option maxRecDepth 100000

theorem flatten_take {bss : List (List Int)} {k : Nat} {bs : List Int} (h : bss[k]? = some bs) : (bss.take (k + 1)).flatten = (bss.take k).flatten ++ bs := by
  rw [List.take_add_one, h]
  simp
theorem flatten_len_take (bss : List (List Int)) (k : Nat) : (bss.take k).flatten.length ≤ bss.flatten.length := by
  conv => rhs; rw [← List.take_append_drop k bss]
  rw [List.flatten_append, List.length_append]
  omega
theorem VB.open {E : Ents} {bs : List Int} {v : Value} (h : VB E bs v) (hp : bs ≠ []) : ∃ g o c, v = .slice (some ⟨g, o, none⟩) bs.length c ∧ bs.length ≤ c ∧ c ≤ maxLen ∧ ∀ W, Hld E W → ∀ (j : Nat) u, (bv bs)[j]? = some u → W.cell? ((⟨g, o, none⟩ : Addr).add j) = some u := by
  obtain ⟨A, c, rfl, h⟩ := h
  have hl : 0 < bs.length := List.length_pos_iff.2 hp
  obtain ⟨g, o, cur, rfl, _, _⟩ := h.at_ hl
  refine ⟨g, o, c, rfl, h.nc, h.cm, fun W hW j u hu => ?_⟩
  obtain ⟨g', o', e1, _, h2⟩ := h.cells hW hl
  cases e1
  rw [Addr.add_lit]
  exact h2 j u hu
set_option maxHeartbeats 4000000 in
theorem concatBy_any (E : Ents) (gq k : Nat) (bss : List (List Int)) (vs : List Value) (w0 w : World) (m : Ents) (H : Hid (Hp w0 w m)) (HQ : Hid ((gq, 44, vs) ∈ m)) (hE : Hid (∀ x ∈ E, x ∈ m)) (A2 : Hid (All2 (VB E) bss vs)) (NE : Hid (∀ bs ∈ bss, bs ≠ [])) (hk : Hid (vs.length = k)) (hk0 : 0 < k ∧ k ≤ 10) (N : Nat) (hN : Hid (bss.flatten.length = N)) (hN0 : 0 < N ∧ N ≤ 20000) :
    Calls Try.prog 37 #[.slice (some ⟨gq, 0, none⟩) k k] w fun e w' => ∃ v cur, e = .returned v ∧ RowV 1 v N (bv bss.flatten) cur ∧ Hp w0 w' (rowE v 5 cur ++ m) := by
  go_enter Try.func37, Try.ntmps37
  go_wp2_with (first
      | go_skip)
  go_loopw [3, 11] (fun s_ j_ wr => ∃ (j t : Nat), s_ = .int .i64 t ∧ j_ = .int .i64 j ∧ j ≤ k ∧ (bss.take j).flatten.length = t ∧ Hid (Hp w0 wr m)) (fun _ j_ _ => k - (intOf j_).toNat)
  case atStart => exact ⟨0, 0, rfl, rfl, by omega, rfl, H⟩
  case round =>
    clear H
    obtain ⟨j, t, rfl, rfl, hj, ht, H⟩ := hrel
    by_cases hlt : j < k
    · obtain ⟨bs, hbs⟩ : ∃ bs, bss[j]? = some bs := ⟨_, List.getElem?_eq_getElem (by rw [A2.out.1, hk.out]; exact hlt)⟩
      obtain ⟨vj, hvj, hVB⟩ := A2.out.at_ hbs
      obtain ⟨g, o, cb, rfl, hcb, hcm, hcells⟩ := hVB.open (NE.out bs (List.mem_of_getElem? hbs))
      have hft := flatten_take hbs
      have hle := flatten_len_take bss (j + 1)
      rw [hft, List.length_append, hN.out] at hle
      have hbl := List.length_pos_iff.2 (NE.out bs (List.mem_of_getElem? hbs))
      obtain ⟨p, hp⟩ : ∃ p, bs.length = p := ⟨_, rfl⟩
      rw [hp] at hcb hle hvj hbl
      have HVJ := Lib.hid hvj
      have HFT := Lib.hid hft
      have HPL := Lib.hid hp
      have HC := Lib.hid hcells
      clear hvj hft hbs hVB hcells hp
      have X := Lib.hid (show wr.cell? ⟨gq, j, none⟩ = some _ by rw [(H.out.blk _ HQ.out).2.cell]; simpa using HVJ.out)
      rw [ht] at hle
      have hd : decide ((t : Int) + p < 0) = false := decide_eq_false (by omega)
      have hsw : IntKind.i64.wrap ((t : Int) + p) = ((t + p : Nat) : Int) := by rw [IntWalk.i64_in _ (by omega)]; omega
      go_wp2_with (first
          | go_skip
          | ((with_reducible refine isLoad ?_); refine ld1X X ?_ (hT := kByts)))
      go_roundw
      case rel => exact ⟨j + 1, t + p, by go_num, by go_num, by omega, by rw [HFT.out, List.length_append, ht, HPL.out], H⟩
      case measure => simp [intOf]; omega
    · obtain rfl : j = k := by omega
      have htN : t = N := by
        rw [← ht, List.take_of_length_le (by rw [A2.out.1, hk.out]; omega), hN.out]
      subst htN
      clear ht
      go_wp2_with (first
          | go_skip)
      go_at_call 45
      refine Calls.mono (growBy_any t w0 _ _ H (by omega) (by omega)) ?_
      rintro _ _ ⟨v1, cur0, rfl, hR, h2⟩
      obtain ⟨B3, c3, rfl, _⟩ := hR.shape
      have R := Lib.hid hR
      replace H := Lib.hid h2
      clear hR h2
      go_wp2_with (first
          | go_skip)
      go_loopw [6, 27] (fun v_ j_ wr => ∃ (r q : Nat) (v : Value) (cur : List Value), v = v_ ∧ j_ = .int .i64 r ∧ r ≤ j ∧ q = (bss.take r).flatten.length ∧ Hid (RowV 1 v q (bv (bss.take r).flatten) cur) ∧ Hid (Hp w0 wr (rowE v 5 cur ++ m))) (fun _ j_ _ => j - (intOf j_).toNat)
      case atStart => exact ⟨0, 0, _, cur0, rfl, rfl, by omega, rfl, R, H⟩
      case round =>
        clear H R
        obtain ⟨i, q, v, cur, rfl, rfl, hi, hq, R, H⟩ := hrel
        by_cases hlt : i < j
        · obtain ⟨bs, hbs⟩ : ∃ bs, bss[i]? = some bs := ⟨_, List.getElem?_eq_getElem (by rw [A2.out.1, hk.out]; exact hlt)⟩
          obtain ⟨vj, hvj, hVB⟩ := A2.out.at_ hbs
          obtain ⟨g, o, cb, rfl, hcb, hcm, hcells⟩ := hVB.open (NE.out bs (List.mem_of_getElem? hbs))
          have hft := flatten_take hbs
          have hle := flatten_len_take bss (i + 1)
          rw [hft, List.length_append, hN.out] at hle
          have hbl := List.length_pos_iff.2 (NE.out bs (List.mem_of_getElem? hbs))
          obtain ⟨p, hp⟩ : ∃ p, bs.length = p := ⟨_, rfl⟩
          rw [hp] at hcb hle hvj hbl
          have HVJ := Lib.hid hvj
          have HFT := Lib.hid hft
          have HPL := Lib.hid hp
          have HC := Lib.hid hcells
          clear hvj hft hbs hVB hcells hp
          have X := Lib.hid (show wr.cell? ⟨gq, i, none⟩ = some _ by rw [(H.out.blk _ (List.mem_append_right _ HQ.out)).2.cell]; simpa using HVJ.out)
          have S := Lib.hid (HC.out wr (H.out.hld fun z hz => List.mem_append_right _ (hE.out z hz)))
          rw [← hq] at hle
          go_wp2_with (first
              | go_skip
              | ((with_reducible refine isLoad ?_); refine ld1X X ?_ (hT := kByts))
              | ((with_reducible refine isApp ?_); refine wpList_appG [] m H R iByt (by decide) Try.underlying44 S ?_ (by rw [bv_len]; exact (HPL.out.trans (Nat.mul_one _).symm)) (bv_one _) (by omega) (by unfold maxLen; omega) (by omega); clear H; intro v3 cur3 _ R3 H))
          go_roundw
          case rel => exact ⟨i + 1, q + p, v3, cur3, rfl, by go_num, by omega, by rw [HFT.out, List.length_append, hq, HPL.out], by rw [HFT.out, bv_app]; exact R3, H⟩
          case measure => simp [intOf]; omega
        · obtain rfl : i = j := by omega
          have hft : (bss.take i).flatten = bss.flatten := by rw [List.take_of_length_le (by rw [A2.out.1, hk.out]; omega)]
          rw [hft] at R hq
          have hqt : q = t := by rw [hq]; exact hN.out
          subst hqt
          obtain ⟨B4, c4, rfl, _⟩ := R.out.shape
          clear hq hft
          go_wp2_with (first
              | go_skip)
          go_ret
          exact ⟨_, cur, rfl, R.out, H.out⟩
end Go.Proofs.Ythepafendopfhaa

namespace Go.Proofs.Ythepafendopfhaa
open Go.RowKit
set_option linter.unusedVariables false
set_option maxRecDepth 100000

/-- The two bytes of a length. -/
def lenB (n : Nat) : List Int := [(n : Int) / 256, (n : Int) % 256]
theorem lenB_byt {n : Nat} (h : n < 65536) : Byt (lenB n) := by
  intro x hx
  simp only [lenB, List.mem_cons, List.not_mem_nil, or_false] at hx
  omega
theorem isSlcK (n : Nat) {P : Program} {ops : Array Oper} {rest : List Oper} {a : Act} {w : World} {Q : Exit → Act → World → Prop} {d : Option Tmp} {ty : TypeId} {po : String} {af : Array Edge} {g : Option (Nat × Bool)} {t : TypeId} {ps : Array (Nat × Operand)} (h : wpList P ops Q (⟨d, .buildSlice t n ps, ty, po, af, g⟩ :: rest) a w) : wpList P ops Q (⟨d, .buildSlice t n ps, ty, po, af, g⟩ :: rest) a w := h
/-- The checksum of a record behind others. -/
def sumL (last : Int) (bs : List Int) : Int := crc ([be4 last, lenB bs.length, bs].flatten)
set_option maxHeartbeats 4000000 in
theorem sum_any (last : Int) (bs : List Int) (A : Option Addr) (n c : Nat) (w0 w : World) (m : Ents) (H : Hid (Hp w0 w m)) (V : Hid (VIn m 5 A n c (bv bs))) (hn : 0 < n ∧ n ≤ 2000) (h0 : 0 ≤ last) (h1 : last < 4294967296) :
    Calls Try.prog 26 #[.int .u32 last, .slice A n c] w fun e w' => e = .returned (.int .u32 (sumL last bs)) ∧ Hp w0 w' m := by
  have hbl : bs.length = n := by rw [← bv_len]; exact V.out.len
  go_enter Try.func26, Try.ntmps26
  go_wp2_with (first
      | go_skip)
  go_at_call 25
  refine Calls.mono (lfour_any last w0 _ _ H h0 h1) ?_
  rintro _ _ ⟨g4, rfl, h2⟩
  replace H := Lib.hid h2
  clear h2
  go_wp2_with (first
      | go_skip
      | ((with_reducible refine isSlcK 2 ?_); refine bsA 5 [.int .u8 ((n : Int) / 256), .int .u8 ((n : Int) % 256)] 2 H ?_; clear H; intro g2 _ H)
      | ((with_reducible refine isSlcK 3 ?_); (refine bsA 44 [.slice (some ⟨g4, 0, none⟩) 4 4, .slice (some ⟨g2, 0, none⟩) 2 2, .slice A n c] 3 H ?_; clear H; intro g3 _ H)))
  have A2_ : Hid (All2 (VB ((g3, 44, [.slice (some ⟨g4, 0, none⟩) 4 4, .slice (some ⟨g2, 0, none⟩) 2 2, .slice A n c]) :: (g2, 5, bv (lenB n)) :: (g4, 5, bv (be4 last)) :: m)) [be4 last, lenB bs.length, bs] [.slice (some ⟨g4, 0, none⟩) 4 4, .slice (some ⟨g2, 0, none⟩) 2 2, .slice A n c]) := Lib.hid (by
    refine All2.cons ⟨_, 4, rfl, ?_⟩ (All2.cons ⟨_, 2, rfl, ?_⟩ (All2.cons ⟨A, c, by rw [hbl], ?_⟩ All2.nil))
    · exact ⟨rfl, Nat.le_refl _, by unfold maxLen; omega, fun _ => ⟨g4, 0, bv (be4 last), rfl, by simp, fun j u hu => by rw [Nat.zero_add]; exact hu⟩⟩
    · exact ⟨rfl, Nat.le_refl _, by unfold maxLen; omega, fun _ => ⟨g2, 0, bv (lenB n), rfl, by simp, fun j u hu => by rw [Nat.zero_add, ← hbl]; exact hu⟩⟩
    · rw [hbl]; exact V.out.mono fun x hx => by simp [hx])
  go_at_call 37
  refine Calls.mono (concatBy_any _ g3 3 _ _ w0 _ _ H (Lib.hid (.head _)) (Lib.hid fun x hx => hx) A2_ (Lib.hid (by
    intro b hb
    simp only [List.mem_cons, List.not_mem_nil, or_false] at hb
    rcases hb with rfl | rfl | rfl
    · simp [be4]
    · simp [lenB]
    · intro e; rw [e] at hbl; simp at hbl; omega)) (Lib.hid rfl) (by omega) (6 + n) (Lib.hid (by simp [be4, lenB, hbl]; omega)) (by omega)) ?_
  rintro _ _ ⟨v, cur, rfl, hR, h2⟩
  obtain ⟨B5, c5, rfl, _⟩ := hR.shape
  replace H := Lib.hid h2
  have RV := Lib.hid hR
  obtain ⟨FL, hFL⟩ : ∃ l, l = [be4 last, lenB bs.length, bs].flatten := ⟨_, rfl⟩
  rw [← hFL] at RV
  have HFL := Lib.hid hFL
  clear h2 hR A2_ hFL
  go_wp2_with (first
      | go_skip)
  go_at_call 30
  refine (Sum_any B5 (6 + n) c5 FL _ ((VIn.of_row RV.out).bv (H.out.hld fun z hz => List.mem_append_left _ hz)) (by rw [← bv_len]; simpa using RV.out.len) (by omega)).mono ?_
  rintro _ _ ⟨rfl, rfl⟩
  go_wp2_with (first
      | go_skip)
  go_ret
  exact ⟨by unfold sumL; rw [← HFL.out]; rfl, H.out.sub (List.Sublist.trans (.cons _ (.cons _ (.cons _ (List.Sublist.refl _)))) (List.sublist_append_right (rowE _ _ _) _))⟩
end Go.Proofs.Ythepafendopfhaa
