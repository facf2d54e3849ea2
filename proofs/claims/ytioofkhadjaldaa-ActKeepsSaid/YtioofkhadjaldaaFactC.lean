/- The walk of slices.Compact at facts. -/
import Derived.Test.YtioofkhadjaldaaFactB
import Derived.Test.YtioofkhadjaldaaClear
namespace Go.Proofs.Ytioofkhadjaldaa
open Go.RowKit
set_option linter.unusedVariables false
set_option maxRecDepth 100000

/-- A list without the elements that are equal to the one before. -/
def dd (l : List Fct) : List Fct := l.foldl (fun acc x => if acc.getLast? = some x then acc else acc ++ [x]) []
theorem dd_snoc (l : List Fct) (x : Fct) : dd (l ++ [x]) = if (dd l).getLast? = some x then dd l else dd l ++ [x] := by
  unfold dd
  rw [List.foldl_append]
  rfl
theorem snoc_ind {α : Type} {p : List α → Prop} (h0 : p []) (h1 : ∀ l x, p l → p (l ++ [x])) : ∀ l, p l := by
  intro l
  have : ∀ m : List α, p m.reverse := by
    intro m
    induction m with
    | nil => exact h0
    | cons x m ih => rw [List.reverse_cons]; exact h1 _ _ ih
  have h := this l.reverse
  rwa [List.reverse_reverse] at h
theorem dd_last : ∀ l : List Fct, (dd l).getLast? = l.getLast? :=
  snoc_ind rfl fun l x ih => by
    rw [dd_snoc]
    split
    · rename_i h; rw [h]; simp
    · simp
theorem dd_len : ∀ l : List Fct, (dd l).length ≤ l.length :=
  snoc_ind (by simp [dd]) fun l x ih => by
    rw [dd_snoc]
    split <;> simp <;> omega
theorem dd_mem (f : Fct) : ∀ l : List Fct, f ∈ dd l ↔ f ∈ l :=
  snoc_ind (by simp [dd]) fun l x ih => by
    rw [dd_snoc]
    split
    · rename_i h
      have hx : x ∈ dd l := List.mem_of_getLast? h
      constructor
      · intro hf; exact List.mem_append_left _ (ih.1 hf)
      · intro hf
        rcases List.mem_append.1 hf with hf | hf
        · exact ih.2 hf
        · rw [List.mem_singleton.1 hf]; exact hx
    · simp [ih]

/-- The row's cells hold the facts. -/
def CS (cs : Array Value) (L : List Fct) : Prop := ∀ (j : Nat) (u : Fct), L[j]? = some u → cs[j * 3]? = some (.int .i64 u.k) ∧ cs[j * 3 + 1]? = some (.int .i64 u.a) ∧ cs[j * 3 + 2]? = some (.int .i64 u.b)
theorem CS.put {cs : Array Value} {L : List Fct} (h : CS cs L) {i : Nat} (hi : i < L.length) (x : Fct) : CS (((cs.setIfInBounds (i * 3) (.int .i64 x.k)).setIfInBounds (i * 3 + 1) (.int .i64 x.a)).setIfInBounds (i * 3 + 2) (.int .i64 x.b)) (L.set i x) := by
  intro j u hu
  by_cases e : i = j
  · subst e
    rw [List.getElem?_set_self hi] at hu
    cases hu
    obtain ⟨y, hy⟩ := some_at hi
    obtain ⟨h1, h2, h3⟩ := h i y hy
    have l1 := (Array.getElem?_eq_some_iff.1 h1).1
    have l2 := (Array.getElem?_eq_some_iff.1 h2).1
    have l3 := (Array.getElem?_eq_some_iff.1 h3).1
    refine ⟨?_, ?_, ?_⟩
    · rw [Array.getElem?_setIfInBounds_ne (by omega), Array.getElem?_setIfInBounds_ne (by omega), Array.getElem?_setIfInBounds_self_of_lt l1]
    · rw [Array.getElem?_setIfInBounds_ne (by omega), Array.getElem?_setIfInBounds_self_of_lt (by simpa using l2)]
    · rw [Array.getElem?_setIfInBounds_self_of_lt (by simpa using l3)]
  · rw [List.getElem?_set_ne e] at hu
    obtain ⟨h1, h2, h3⟩ := h j u hu
    refine ⟨?_, ?_, ?_⟩
    · rw [Array.getElem?_setIfInBounds_ne (by omega), Array.getElem?_setIfInBounds_ne (by omega), Array.getElem?_setIfInBounds_ne (by omega)]; exact h1
    · rw [Array.getElem?_setIfInBounds_ne (by omega), Array.getElem?_setIfInBounds_ne (by omega), Array.getElem?_setIfInBounds_ne (by omega)]; exact h2
    · rw [Array.getElem?_setIfInBounds_ne (by omega), Array.getElem?_setIfInBounds_ne (by omega), Array.getElem?_setIfInBounds_ne (by omega)]; exact h3
theorem CS.rf {w : World} {g : Nat} {cs : Array Value} {L M : List Fct} (h : CS cs L) (hB : Blk w g 66 cs) (hM : ∀ (j : Nat) (u : Fct), M[j]? = some u → L[j]? = some u) : RF w (some ⟨g, 0, none⟩) M := by
  intro _
  refine ⟨g, 0, rfl, hB.lt, fun j x i v hj hv => ?_⟩
  obtain ⟨h1, h2, h3⟩ := h j x (hM j x hj)
  rw [hB.cell, Nat.zero_add]
  match i, hv with
  | 0, hv => cases hv; exact h1
  | 1, hv => cases hv; exact h2
  | 2, hv => cases hv; exact h3

theorem CS.own {w : World} {base g c n : Nat} {L : List Fct} (h : w.ownsRow base 66 3 (.slice (some ⟨g, 0, none⟩) n c) n (flat Fct.cells L)) : ∃ cs, Blk w g 66 cs ∧ CS cs L ∧ base ≤ g ∧ cs.size = c * 3 ∧ n ≤ c := by
  rcases h.2 with ⟨hv, _⟩ | ⟨g', cap, cur, hv, hB, hg, h1, h2, h3, h4⟩
  · cases hv
  · cases hv
    refine ⟨cur, hg, fun j u hj => ?_, hB, h3, h1⟩
    have e1 := h.cells (g := g) rfl _ _ (flat_at Fct.len hj (i := 0) rfl)
    have e2 := h.cells (g := g) rfl _ _ (flat_at Fct.len hj (i := 1) rfl)
    have e3 := h.cells (g := g) rfl _ _ (flat_at Fct.len hj (i := 2) rfl)
    simp only [Addr.add_lit, Nat.zero_add, Nat.add_zero] at e1 e2 e3
    rw [Blk.cell hg] at e1 e2 e3
    exact ⟨e1, e2, e3⟩

set_option maxHeartbeats 4000000 in
theorem compactF_any (base : Nat) (v : Value) (n : Nat) (fs : List Fct) (w : World) (ho : w.ownsRow base 66 3 v n (flat Fct.cells fs)) (hn : fs.length = n) (hm : n ≤ 100000) :
    Calls Try.prog 65 #[v] w fun e w' => ∃ A c, e = .returned (.slice A (dd fs).length c) ∧ RF w' A (dd fs) ∧ WfS A (dd fs).length c ∧ Below base w w' := by
  obtain ⟨A, c, rfl⟩ := own_slice ho
  have O0 := Lib.hid ho
  by_cases h2 : n < 2
  · have hfin : Hid (dd fs = fs) := by
      match fs, hn with
      | [], _ => rfl
      | [x], _ => rfl
      | x :: y :: r, hn => simp at hn; omega
    have Hn := Lib.hid hn
    have R0 : Hid (RF w A fs) := RK.own Fct.len ho hn
    have h2I : (n : Int) < 2 := by omega
    clear ho hn
    go_enter Try.func65, Try.ntmps65
    go_wp2
    go_ret
    exact ⟨A, c, by rw [hfin.out, Hn.out]; rfl, by rw [hfin.out]; exact R0.out, by rw [hfin.out, Hn.out]; exact WfS.own O0.out, Below.refl _ _⟩
  · obtain ⟨g, cap, hv, _, hlt⟩ := ho.form (by omega)
    cases hv
    obtain ⟨cs0, hB0, hC0, hbg, hcs, hnc⟩ := CS.own ho
    have XB := Lib.hid hB0
    have XC := Lib.hid hC0
    have Hn := Lib.hid hn
    clear ho hB0 hC0 hn
    go_enter Try.func65, Try.ntmps65
    go_wp2
    go_loopw [3] (fun i wr => ∃ k : Nat, 1 ≤ k ∧ k ≤ n ∧ i = .int .i64 k ∧ Hid (dd (fs.take k) = fs.take k) ∧ ∃ q, wr = w.drewN q) (fun i _ => n - (intOf i).toNat)
    case atStart =>
      refine ⟨1, by omega, by omega, rfl, ?_, 0, rfl⟩
      have := Hn.out
      cases fs with
      | nil => simp at this; omega
      | cons x r => simp [Hid, dd]
    case round =>
      obtain ⟨k, hk1, hk, rfl, hdd, q, rfl⟩ := hrel
      by_cases hltk : k < n
      · obtain ⟨x, hx⟩ := some_at (l := fs) (k := k) (by have := Hn.out; omega)
        obtain ⟨y, hy⟩ := some_at (l := fs) (k := k - 1) (by have := Hn.out; omega)
        obtain ⟨a0, a1, a2⟩ := XC.out k x hx
        obtain ⟨b0, b1, b2⟩ := XC.out (k - 1) y hy
        have c0 := XB.out.cell (k * 3)
        have c1 := XB.out.cell (k * 3 + 1)
        have c2 := XB.out.cell (k * 3 + 2)
        have e0 := XB.out.cell ((k - 1) * 3)
        have e1 := XB.out.cell ((k - 1) * 3 + 1)
        have e2 := XB.out.cell ((k - 1) * 3 + 2)
        rw [a0] at c0; rw [a1] at c1; rw [a2] at c2; rw [b0] at e0; rw [b1] at e1; rw [b2] at e2
        have hq := fun w => eqF_run x y w
        have hi1 : (k : Int) < n := by omega
        have hi2 : IntKind.i64.wrap ((k : Int) - 1) = ((k - 1 : Nat) : Int) := by rw [IntWalk.i64_in _ (by omega)]; omega
        have hi3 : ((k - 1 : Nat) : Int) < n := by omega
        have Hx := Lib.hid hx
        have Hy := Lib.hid hy
        clear hx hy a0 a1 a2 b0 b1 b2
        by_cases hxy : x = y
        · have hdd1 : Hid (dd (fs.take (k + 1)) = fs.take k) := by
            unfold Hid
            rw [List.take_add_one, Hx.out, Option.toList_some, dd_snoc, hdd.out, if_pos]
            rw [← dd_last, hdd.out, List.getLast?_eq_getElem?, List.length_take, Nat.min_eq_left (by have := Hn.out; omega), List.getElem?_take_of_lt (by omega), Hy.out, hxy]
          simp only [hxy, decide_true] at hq
          subst hxy
          clear c0 c1 c2
          have c0 := XB.out.cell (k * 3)
          have c1 := XB.out.cell (k * 3 + 1)
          have c2 := XB.out.cell (k * 3 + 2)
          obtain ⟨a0, a1, a2⟩ := XC.out k x Hx.out
          rw [a0] at c0; rw [a1] at c1; rw [a2] at c2
          clear a0 a1 a2
          have hkc : k < c := by omega
          go_wp2
          go_quiet (fail)
          go_wp2
          have D0 : Hid (Below base w (w.drewN (q + nq))) := below_drewN (Below.refl _ _) _
          have XB1 : Hid (Blk (w.drewN (q + nq)) g 66 cs0) := XB.out
          clear XB c0 c1 c2 e0 e1 e2 hq
          generalize w.drewN (q + nq) = w1 at D0 XB1 ⊢
          go_loopw [3, 5] (fun i j wr => ∃ (i' j' : Nat) (cs : Array Value), i = .int .i64 i' ∧ j = .int .i64 j' ∧ 1 ≤ j' ∧ k + j' ≤ n ∧ i' + 1 ≤ k + j' ∧ 1 ≤ i' ∧ Hid ((dd (fs.take (k + j'))).length = i') ∧ Hid (Blk wr g 66 cs) ∧ Hid (CS cs (dd (fs.take (k + j')) ++ fs.drop i')) ∧ Hid (cs.size = c * 3) ∧ Hid (Below base w wr)) (fun _ j _ => n - (intOf j).toNat)
          case atStart =>
            refine ⟨k, 1, cs0, rfl, rfl, by omega, by omega, by omega, by omega, ?_, XB1, ?_, hcs, D0⟩
            · unfold Hid; rw [hdd1.out, List.length_take]; have := Hn.out; omega
            · unfold Hid; rw [hdd1.out, List.take_append_drop]; exact XC.out
          case round =>
            obtain ⟨i, j, cs, rfl, rfl, hj1, hj, hij, hi1, HL, HB, HC, HS, D⟩ := hrel
            by_cases hltj : k + j < n
            · obtain ⟨x', hx'⟩ := some_at (l := fs) (k := k + j) (by have := Hn.out; omega)
              obtain ⟨y', hy'⟩ := some_at (l := fs) (k := k + j - 1) (by have := Hn.out; omega)
              obtain ⟨z', hz'⟩ := some_at (l := fs) (k := i) (by have := Hn.out; omega)
              have hL : ∀ t, i ≤ t → (dd (fs.take (k + j)) ++ fs.drop i)[t]? = fs[t]? := fun t ht => by
                rw [List.getElem?_append_right (by rw [HL.out]; exact ht), HL.out, List.getElem?_drop]; congr 1; omega
              obtain ⟨a0, a1, a2⟩ := HC.out (k + j) x' (by rw [hL _ (by omega)]; exact hx')
              obtain ⟨b0, b1, b2⟩ := HC.out (k + j - 1) y' (by rw [hL _ (by omega)]; exact hy')
              obtain ⟨z0, z1, z2⟩ := HC.out i z' (by rw [hL _ (by omega)]; exact hz')
              have c0 := HB.out.cell ((k + j) * 3)
              have c1 := HB.out.cell ((k + j) * 3 + 1)
              have c2 := HB.out.cell ((k + j) * 3 + 2)
              have e0 := HB.out.cell ((k + j - 1) * 3)
              have e1 := HB.out.cell ((k + j - 1) * 3 + 1)
              have e2 := HB.out.cell ((k + j - 1) * 3 + 2)
              have g0 := HB.out.cell (i * 3)
              have g1 := HB.out.cell (i * 3 + 1)
              have g2 := HB.out.cell (i * 3 + 2)
              have f0 := HB.out.frozen (i * 3)
              have f1 := HB.out.frozen (i * 3 + 1)
              have f2 := HB.out.frozen (i * 3 + 2)
              rw [a0] at c0; rw [a1] at c1; rw [a2] at c2; rw [b0] at e0; rw [b1] at e1; rw [b2] at e2; rw [z0] at g0; rw [z1] at g1; rw [z2] at g2
              rw [show (k + j) * 3 = k * 3 + j * 3 by omega] at c0 c1 c2
              rw [show (k + j - 1) * 3 = k * 3 + (j - 1) * 3 by omega] at e0 e1 e2
              have hq := fun w => neF_run x' y' w
              have hi2 : IntKind.i64.wrap ((j : Int) - 1) = ((j - 1 : Nat) : Int) := by rw [IntWalk.i64_in _ (by omega)]; omega
              have Hx' := Lib.hid hx'
              have Hy' := Lib.hid hy'
              have hjI : (j : Int) < (n : Int) - k := by omega
              have hjI2 : ((j - 1 : Nat) : Int) < (n : Int) - k := by omega
              have hiI : (i : Int) < n := by omega
              clear hx' hy' hz' hL a0 a1 a2 b0 b1 b2 z0 z1 z2
              by_cases hxy' : x' = y'
              · have hdd2 : Hid (dd (fs.take (k + (j + 1))) = dd (fs.take (k + j))) := by
                  unfold Hid
                  rw [← Nat.add_assoc, List.take_add_one, Hx'.out, Option.toList_some, dd_snoc, if_pos]
                  rw [dd_last, List.getLast?_eq_getElem?, List.length_take, Nat.min_eq_left (by have := Hn.out; omega), List.getElem?_take_of_lt (by omega), Hy'.out, hxy']
                simp only [hxy', decide_true, Bool.not_true] at hq
                subst hxy'
                clear g0 g1 g2 f0 f1 f2
                go_wp2
                go_quiet (fail)
                go_wp2
                go_roundw
                case rel => exact ⟨i, j + 1, cs, rfl, by go_num, by omega, by omega, by omega, hi1, by rw [Hid, hdd2.out]; exact HL.out, HB, by rw [Hid, hdd2.out]; exact HC.out, HS, below_drewN D.out _⟩
                case measure => simp [intOf]; omega
              · have hdd2 : Hid (dd (fs.take (k + (j + 1))) = dd (fs.take (k + j)) ++ [x']) := by
                  unfold Hid
                  rw [← Nat.add_assoc, List.take_add_one, Hx'.out, Option.toList_some, dd_snoc, if_neg]
                  rw [dd_last, List.getLast?_eq_getElem?, List.length_take, Nat.min_eq_left (by have := Hn.out; omega), List.getElem?_take_of_lt (by omega), Hy'.out]
                  intro h; exact hxy' (Option.some.inj h).symm
                have HC2 : Hid (CS (((cs.setIfInBounds (i * 3) (.int .i64 x'.k)).setIfInBounds (i * 3 + 1) (.int .i64 x'.a)).setIfInBounds (i * 3 + 2) (.int .i64 x'.b)) (dd (fs.take (k + (j + 1))) ++ fs.drop (i + 1))) := by
                  have h1 := HC.out.put (i := i) (by rw [List.length_append, HL.out, List.length_drop]; have := Hn.out; omega) x'
                  have h2 : (dd (fs.take (k + j)) ++ fs.drop i).set i x' = dd (fs.take (k + (j + 1))) ++ fs.drop (i + 1) := by
                    rw [List.set_append_right _ _ (by rw [HL.out]; exact Nat.le_refl _), HL.out, Nat.sub_self, hdd2.out, List.append_assoc]
                    obtain ⟨z, hz⟩ := some_at (l := fs) (k := i) (by have := Hn.out; omega)
                    rw [drop_cons hz]
                    rfl
                  rw [h2] at h1
                  exact h1
                simp only [hxy', decide_false, Bool.not_false] at hq
                clear hxy'
                go_wp2
                go_quiet (fail)
                go_wp2
                go_roundw
                case rel => exact ⟨i + 1, j + 1, _, by go_num, by go_num, by omega, by omega, by omega, by omega, by rw [Hid, hdd2.out, List.length_append, HL.out]; rfl, ((HB.out.set_ (i * 3) (.int .i64 x'.k)).set_ (i * 3 + 1) (.int .i64 x'.a)).set_ (i * 3 + 2) (.int .i64 x'.b), HC2, by simp only [Array.size_setIfInBounds]; exact HS.out, (((below_drewN D.out nq).setCell (p := ⟨g, i * 3, none⟩) hbg _).setCell (p := ⟨g, i * 3 + 1, none⟩) hbg _).setCell (p := ⟨g, i * 3 + 2, none⟩) hbg _⟩
                case measure => simp [intOf]; omega
            · have hin : i < n := by omega
              have hkj : k + j = n := by omega
              have hfin : Hid ((dd fs).length = i) := by
                have := HL.out
                rw [hkj, List.take_of_length_le (by have := Hn.out; omega)] at this
                exact this
              have HC3 : Hid (CS cs (dd fs ++ fs.drop i)) := by
                have := HC.out
                rw [hkj, List.take_of_length_le (by have := Hn.out; omega)] at this
                exact this
              obtain ⟨vs, hcl⟩ := run_clear_rows (P := Try.prog) wr 58 66 0 _ 3 Try.underlying58 Try.zeroValue66 (by rfl) (by intro v hv; simp [Value.cells] at hv; rw [hv]; rfl) g (i * 3) (n - i) (c - i) (by omega)
                (fun t ht => by
                  rw [HB.out.cell, Array.getElem?_eq_getElem (by have := HS.out; omega)]; rfl)
                (fun t ht => HB.out.frozen _)
              obtain ⟨cs', hB', hkeep⟩ := HB.out.setCells_ vs (i * 3)
              have HB' := Lib.hid hB'
              have HK := Lib.hid hkeep
              have D' := Lib.hid (below_setCells hbg vs (i * 3) _ _ D.out)
              have hic : i < c := by omega
              clear hB' hkeep
              generalize wr.setCells g (i * 3) vs = w9 at hcl HB' D'
              go_wp2
              go_ret
              refine ⟨some ⟨g, 0, none⟩, c, by rw [hfin.out]; rfl, ?_, .inr ⟨_, _, rfl, by rw [hfin.out]; omega⟩, D'.out⟩
              refine CS.rf (L := dd fs) (fun t u ht => ?_) HB'.out (fun _ _ h => h)
              have ht' : t < i := by have := lt_of_at ht; rw [hfin.out] at this; exact this
              obtain ⟨p1, p2, p3⟩ := HC3.out t u (by rw [List.getElem?_append_left (by rw [hfin.out]; exact ht')]; exact ht)
              exact ⟨(HK.out _ (by omega)).trans p1, (HK.out _ (by omega)).trans p2, (HK.out _ (by omega)).trans p3⟩
        · simp only [hxy, decide_false] at hq
          go_wp2
          go_quiet (fail)
          go_wp2
          go_roundw
          case rel =>
            refine ⟨k + 1, by omega, by omega, by go_num, ?_, _, rfl⟩
            unfold Hid
            rw [List.take_add_one, Hx.out, Option.toList_some, dd_snoc, hdd.out, if_neg]
            rw [List.getLast?_eq_getElem?, List.length_take, Nat.min_eq_left (by have := Hn.out; omega), List.getElem?_take_of_lt (by omega), Hy.out]
            intro h; exact hxy (Option.some.inj h).symm
          case measure => simp [intOf]; omega
      · have hkn : k = n := by omega
        have hfin : Hid (dd fs = fs) := by
          have := hdd.out
          rw [hkn, List.take_of_length_le (by have := Hn.out; omega)] at this
          exact this
        go_wp2
        go_ret
        refine ⟨some ⟨g, 0, none⟩, c, by rw [hfin.out, Hn.out]; rfl, ?_, .inr ⟨_, _, rfl, by rw [hfin.out, Hn.out]; exact hnc⟩, below_drewN (Below.refl _ _) _⟩
        rw [hfin.out]
        exact CS.rf XC.out XB.out (fun _ _ h => h)
end Go.Proofs.Ytioofkhadjaldaa
