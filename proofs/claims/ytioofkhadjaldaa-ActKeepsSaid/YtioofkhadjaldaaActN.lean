/- The walk of slices.DeleteFunc at the closure of Steps. -/
import Derived.Test.YtioofkhadjaldaaActM
namespace Go.Proofs.Ytioofkhadjaldaa
open Go.RowKit
set_option linter.unusedVariables false
set_option maxRecDepth 100000

theorem filter_take_snoc {α : Type} {p : α → Bool} {l : List α} {j : Nat} {x : α} (h : l[j]? = some x) : (l.take (j + 1)).filter p = (l.take j).filter p ++ if p x then [x] else [] := by
  rw [List.take_add_one, h, Option.toList_some, List.filter_append]
  congr 1
  cases hp : p x <;> simp [hp]

theorem blk_setCells {g : Nat} {t : TypeId} : ∀ (vs : List Value) (o : Nat) (w : World) (cs : Array Value), Blk w g t cs → ∃ cs', Blk (w.setCells g o vs) g t cs' ∧ cs'.size = cs.size ∧ ∀ j, j < o → cs'[j]? = cs[j]?
  | [], o, w, cs, h => ⟨cs, h, rfl, fun _ _ => rfl⟩
  | v :: r, o, w, cs, h => by
    obtain ⟨cs', h1, h3, h2⟩ := blk_setCells r (o + 1) (w.setCell ⟨g, o, none⟩ v) _ (h.set_ o v)
    refine ⟨cs', h1, by rw [h3, Array.size_setIfInBounds], fun j hj => ?_⟩
    rw [h2 j (by omega), Array.getElem?_setIfInBounds_ne (by omega)]
theorem own_blk {w : World} {base g c n : Nat} {xs : List Value} (h : w.ownsRow base 39 5 (.slice (some ⟨g, 0, none⟩) n c) n xs) : ∃ cs, Blk w g 39 cs ∧ base ≤ g ∧ n ≤ c ∧ c ≤ maxLen ∧ cs.size = c * 5 ∧ cs.toList.take (n * 5) = xs := by
  rcases h.2 with ⟨hv, _⟩ | ⟨g', cap, cur, hv, hB, hg, h1, h2, h3, h4⟩
  · cases hv
  · cases hv; exact ⟨cur, hg, hB, h1, h2, h3, h4⟩
set_option maxHeartbeats 4000000 in
theorem deleteS_any (w1 : World) (gb : Nat) (x : AW) (A1 A2 A3 : Option Addr) (n1 n3 c1 c2 c3 : Nat) (hc : CW w1 gb x A1 A2 A3 n1 n3 c1 c2 c3) (v : Value) (n : Nat) (xs : List St) (w : World) (hb : Below w1.heap.size w1 w) (ho : w.ownsRow w1.heap.size 39 5 v n (flat St.cells xs)) (hn : xs.length = n) (hn0 : 0 < n) (hm : n ≤ 1000) :
    Calls Try.prog 41 #[v, .func (.func 42) #[] #[.pointer (some ⟨gb, 0, none⟩)]] w fun e w' => ∃ A c, e = .returned (.slice A (xs.filter (fun s => !noS x s)).length c) ∧ w'.ownsRow w1.heap.size 39 5 (.slice A (xs.filter (fun s => !noS x s)).length c) (xs.filter (fun s => !noS x s)).length (flat St.cells (xs.filter (fun s => !noS x s))) ∧ Below w1.heap.size w1 w' := by
  obtain ⟨A, c, rfl⟩ := own_slice ho
  obtain ⟨g, cap, hv, _, hlt⟩ := ho.form hn0
  cases hv
  have C := Lib.hid hc
  have B0 := Lib.hid hb
  have O0 := Lib.hid ho
  have N0 := Lib.hid hn
  have eg : ∀ args w, (callFunc 42 args).run Try.prog w = .ok (.enter 42 args) w := enters_of Try.func42 (by kernel_rfl) rfl
  have hcon := Try.slices_IndexFunc 5 Try.isAgg39 Try.sizeOf39 St.cells St.len (noS x) 42 #[.pointer (some ⟨gb, 0, none⟩)] eg g 0 n c xs w (fun W s hW => (del_any gb x A1 A2 A3 n1 n3 c1 c2 c3 s W (C.out.bel (B0.out.trans (hW.mono B0.out.size)))).mono fun _ _ ⟨he, hb'⟩ => ⟨he, hW.trans (hb'.mono hW.size)⟩) (by omega) (by omega) hlt (fun j hj i u hu => by
    have := O0.out.cells (g := g) rfl _ _ (flat_at St.len (get_bang hj) hu)
    rw [Addr.add_lit, ← Nat.add_assoc] at this
    exact this)
  rw [List.take_of_length_le (by omega)] at hcon
  have HCON := Lib.hid hcon
  clear hc hb ho hn hcon eg
  by_cases hany : ∃ s ∈ xs, noS x s = true
  · obtain ⟨k, s0, h1, h2, h3, h4⟩ := idxBy_some (noS x) xs 0 hany
    rw [Nat.zero_add] at h1
    have hk := lt_of_at h2
    have hf0 : (xs.take (k + 1)).filter (fun s => !noS x s) = xs.take k := by
      rw [filter_take_snoc h2, h3]
      simp only [Bool.not_true, Bool.false_eq_true, if_false, List.append_nil]
      exact List.filter_eq_self.2 (fun s hs => by rw [h4 s hs]; rfl)
    have HI : Hid (Lib.idxBy (fun _ y => noS x y) xs default = (k : Int)) := h1
    have HF0 := Lib.hid hf0
    have hkn : k < n := by have := N0.out; omega
    clear hany h1 h2 h3 h4 hf0 hk
    go_enter Try.func41, Try.ntmps41
    go_wp2_with fail
    refine HCON.out.mono ?_
    rintro e w2 ⟨rfl, hb2⟩
    rw [HI.out]
    have hk1 : ((k : Int) == -1) = false := by simp
    have B2 := Lib.hid (B0.out.trans (hb2.mono B0.out.size))
    have O2 := Lib.hid (own_bel O0.out hb2)
    clear hb2 HI HCON O0 B0
    go_wp2_with fail
    go_loopw [5, 6] (fun i j wr => ∃ (i' j' : Nat) (ys : List St), i = .int .i64 i' ∧ j = .int .i64 j' ∧ i' < j' ∧ j' ≤ n ∧ Hid (ys.length = n) ∧ Hid (ys.take i' = (xs.take j').filter (fun s => !noS x s)) ∧ Hid (ys.drop j' = xs.drop j') ∧ Hid (wr.ownsRow w1.heap.size 39 5 (.slice (some ⟨g, 0, none⟩) n c) n (flat St.cells ys)) ∧ Hid (Below w1.heap.size w1 wr)) (fun _ j _ => n - (intOf j).toNat)
    case atStart => exact ⟨k, k + 1, xs, rfl, by go_num, by omega, by omega, N0, HF0.out.symm, rfl, O2, B2⟩
    case round =>
      clear O2 B2
      obtain ⟨i, j, ys, rfl, rfl, hij, hj, HL, HT, HD, O, B⟩ := hrel
      by_cases hlt2 : j < n
      · obtain ⟨s, hs⟩ := some_at (l := xs) (k := j) (by have := N0.out; omega)
        have hys : ys[j]? = some s := by
          have h1 := congrArg (fun l => l[0]?) HD.out
          simp only [List.getElem?_drop, Nat.add_zero] at h1
          rw [h1]; exact hs
        have cc := fun (t : Nat) (u : Value) (hu : s.cells[t]? = some u) => O.out.cells (g := g) rfl _ _ (flat_at St.len hys hu)
        have c0 := cc 0 _ rfl
        have c1' := cc 1 _ rfl
        have c2' := cc 2 _ rfl
        have c3' := cc 3 _ rfl
        have c4 := cc 4 _ rfl
        simp only [Addr.add_lit, Nat.zero_add, Nat.add_zero] at c0 c1' c2' c3' c4
        have KB := Lib.hid ((Below.refl wr.heap.size wr).alloc (Nat.le_refl _) (.cells #[.int .i64 s.kind, .int .i64 s.arm, .int .i64 s.part, .int .i64 s.slot, .int .i64 s.ticks] 39))
        have T7 := Lib.hid (Blk.new wr 39 #[.int .i64 s.kind, .int .i64 s.arm, .int .i64 s.part, .int .i64 s.slot, .int .i64 s.ticks])
        have B7 := Lib.hid (B.out.trans (KB.out.mono B.out.size))
        have O7 := Lib.hid (own_bel O.out KB.out)
        have C7 := Lib.hid (C.out.bel B7.out)
        have HS := Lib.hid hs
        have HYS := Lib.hid hys
        have hjI : (j : Int) < n := by omega
        obtain ⟨r, hr⟩ : ∃ r, noS x s = r := ⟨_, rfl⟩
        have HR := Lib.hid hr
        clear hs hys cc KB hr
        go_wp2_with fail
        refine (del_any gb x A1 A2 A3 n1 n3 c1 c2 c3 s _ C7.out).mono ?_
        rintro e w8 ⟨rfl, hb8⟩
        rw [HR.out]
        have B8 := Lib.hid (B7.out.trans (hb8.mono B7.out.size))
        have O8 := Lib.hid (own_bel O7.out hb8)
        have T8 := Lib.hid (T7.out.below hb8 T7.out.lt)
        clear hb8 c0 c1' c2' c3' c4 T7 B7 O7 C7
        cases r with
        | true =>
          have HT2 : Hid (ys.take i = (xs.take (j + 1)).filter (fun s => !noS x s)) := by
            unfold Hid
            rw [filter_take_snoc HS.out, HR.out]
            simpa using HT.out
          have HD2 : Hid (ys.drop (j + 1) = xs.drop (j + 1)) := by
            have h1 := congrArg (List.drop 1) HD.out
            unfold Hid
            simpa [List.drop_drop, Nat.add_comm] using h1
          go_wp2_with fail
          go_roundw
          case rel => exact ⟨i, j + 1, ys, rfl, by go_num, by omega, by omega, HL, HT2, HD2, O8, B8⟩
          case measure => simp [intOf]; omega
        | false =>
          obtain ⟨z, hz⟩ := some_at (l := ys) (k := i) (by have := HL.out; omega)
          have zc := fun (t : Nat) (u : Value) (hu : z.cells[t]? = some u) => O8.out.cells (g := g) rfl _ _ (flat_at St.len hz hu)
          have z0 := zc 0 _ rfl
          have z1 := zc 1 _ rfl
          have z2 := zc 2 _ rfl
          have z3 := zc 3 _ rfl
          have z4 := zc 4 _ rfl
          simp only [Addr.add_lit, Nat.zero_add, Nat.add_zero] at z0 z1 z2 z3 z4
          have f0 := O8.out.frozenAt (i * 5)
          have f1 := O8.out.frozenAt (i * 5 + 1)
          have f2 := O8.out.frozenAt (i * 5 + 2)
          have f3 := O8.out.frozenAt (i * 5 + 3)
          have f4 := O8.out.frozenAt (i * 5 + 4)
          have d0 := T8.out.cell 0
          have d1 := T8.out.cell 1
          have d2 := T8.out.cell 2
          have d3 := T8.out.cell 3
          have d4 := T8.out.cell 4
          have O9 := Lib.hid (own_put5 O8.out i s (by have := HL.out; omega))
          have B9 := Lib.hid (below_set5 B8.out (O8.out.lt g rfl).1 (i * 5) s)
          have HT2 : Hid ((ys.set i s).take (i + 1) = (xs.take (j + 1)).filter (fun s => !noS x s)) := by
            unfold Hid
            rw [filter_take_snoc HS.out, HR.out, List.take_add_one, List.take_set_of_le (Nat.le_refl _), HT.out]
            simp [show i < ys.length by have := HL.out; omega]
          have HD2 : Hid ((ys.set i s).drop (j + 1) = xs.drop (j + 1)) := by
            have h1 := congrArg (List.drop 1) HD.out
            unfold Hid
            rw [List.drop_set_of_lt (by omega)]
            simpa [List.drop_drop, Nat.add_comm] using h1
          have HL2 : Hid ((ys.set i s).length = n) := by unfold Hid; rw [List.length_set]; exact HL.out
          have hiI : (i : Int) < n := by omega
          clear hz zc
          unfold set5 at O9 B9
          go_wp2_with fail
          go_roundw
          case rel => exact ⟨i + 1, j + 1, _, by go_num, by go_num, by omega, by omega, HL2, HT2, HD2, O9, B9⟩
          case measure => simp [intOf]; omega
      · have hjn : j = n := by omega
        subst hjn
        have HF : Hid (ys.take i = xs.filter (fun s => !noS x s)) := by
          have h1 := HT.out
          have h2 : xs.take j = xs := List.take_of_length_le (by have := N0.out; omega)
          rw [h2] at h1
          exact h1
        obtain ⟨cs, hB, hbg, hnc, hcm, hsz, htk⟩ := own_blk O.out
        obtain ⟨vs, hcl⟩ := run_clear_rows (P := Try.prog) wr 40 39 0 _ 5 Try.underlying40 Try.zeroValue39 (by rfl) (by intro v hv; simp [Value.cells] at hv; rw [hv]; rfl) g (i * 5) (j - i) (c - i) (by omega)
          (fun t ht => by rw [hB.cell, Array.getElem?_eq_getElem (by omega)]; rfl)
          (fun t ht => hB.frozen _)
        obtain ⟨cs', hB', hsz', hkeep⟩ := blk_setCells vs (i * 5) wr cs hB
        have hlen : (xs.filter (fun s => !noS x s)).length = i := by rw [← HF.out, List.length_take]; have := HL.out; omega
        have htk' : cs'.toList.take (i * 5) = flat St.cells (xs.filter (fun s => !noS x s)) := by
          apply List.ext_getElem?
          intro t
          by_cases ht : t < i * 5
          · rw [List.getElem?_take_of_lt ht, Array.getElem?_toList, hkeep t ht]
            have h1 : (cs.toList.take (j * 5))[t]? = (flat St.cells ys)[t]? := by rw [htk]
            rw [List.getElem?_take_of_lt (by omega), Array.getElem?_toList] at h1
            rw [h1, ← HF.out]
            have e : flat St.cells ys = flat St.cells (ys.take i) ++ flat St.cells (ys.drop i) := by rw [← flat_append, List.take_append_drop]
            rw [e, List.getElem?_append_left (by rw [flat_len St.len, List.length_take]; have := HL.out; omega)]
          · rw [List.getElem?_eq_none (by rw [List.length_take]; omega), List.getElem?_eq_none (by rw [flat_len St.len, hlen]; omega)]
        have OF := Lib.hid (own_shrink (i := i) hB' hbg (by omega) hcm (by rw [hsz', hsz]) htk')
        have BF := Lib.hid (below_setCells hbg vs (i * 5) _ _ B.out)
        have HLEN := Lib.hid hlen
        have hiI : (i : Int) < j := by omega
        have hic : ¬ c = i := by omega
        have hic2 : i ≤ c := by omega
        clear hB' hkeep hsz' hsz htk htk' hlen hB HF
        generalize wr.setCells g (i * 5) vs = w9 at hcl OF BF
        go_wp2_with fail
        go_ret
        rw [HLEN.out]
        exact ⟨_, _, rfl, OF.out, BF.out⟩
  · have hnone := idxBy_none (noS x) xs (fun s hs => by
      cases h : noS x s with
      | false => rfl
      | true => exact absurd ⟨s, hs, h⟩ hany) 0
    have hfil : xs.filter (fun s => !noS x s) = xs := List.filter_eq_self.2 (fun s hs => by
      cases h : noS x s with
      | false => rfl
      | true => exact absurd ⟨s, hs, h⟩ hany)
    rw [hfil]
    have HN := Lib.hid hnone
    clear hany hfil hnone
    go_enter Try.func41, Try.ntmps41
    go_wp2_with fail
    refine HCON.out.mono ?_
    rintro e w2 ⟨rfl, hb2⟩
    have HI : Lib.idxBy (fun _ y => noS x y) xs default = -1 := HN.out
    rw [HI]
    have B2 := Lib.hid (B0.out.trans (hb2.mono B0.out.size))
    have O2 := Lib.hid (own_bel O0.out hb2)
    clear HI hb2
    go_wp2_with fail
    go_ret
    rw [N0.out]
    exact ⟨_, _, rfl, O2.out, B2.out⟩
end Go.Proofs.Ytioofkhadjaldaa
