/- The walk of tools.Plan. -/
import Derived.Test.YtnmngjikcimpnaaPlanT
import Derived.Test.YtnmngjikcimpnaaOrdB
namespace Go.Proofs.Ytnmngjikcimpnaa
open Go.RowKit
set_option linter.unusedVariables false

theorem ne_use_int : (40 : TypeId) ≠ 3 := by decide
theorem own_below {w w' : World} {base : Nat} {e : TypeId} {size n : Nat} {v : Value} {xs : List Value} (h : w.ownsRow base e size v n xs) (hb : Below w.heap.size w w') : w'.ownsRow base e size v n xs := by
  refine ⟨h.1, ?_⟩
  rcases h.2 with hn | ⟨g, cap, cur, rfl, hbb, hg, rest⟩
  · exact .inl hn
  · exact .inr ⟨g, cap, cur, rfl, hbb, (hb.block g (Array.getElem?_eq_some_iff.1 hg).1).trans hg, rest⟩

set_option maxHeartbeats 4000000 in
set_option maxRecDepth 100000 in
theorem plan_ok (A : Option Addr) (n c : Nat) (ts : List Task) (w : World) (hn : ts.length = n) (hR : RT w A ts) (hT : TasksOk ts) :
    Calls Try.prog 20 #[.slice A n c] w fun e w' => ∃ v ss, e = .returned (.tuple #[v, .int .i64 0]) ∧ ss.length = ts.length ∧ Planned ts ss ∧ w'.ownsRow w.heap.size 3 1 v ss.length (ss.map (Value.int .i64)) ∧ Below w.heap.size w w' := by
  subst hn
  have hlen := hT.1
  have HT := Lib.hid hT
  have HR := Lib.hid hR
  clear hT hR
  obtain ⟨i0, hi, hz0, hz1, hz2⟩ := info_parts info_int
  obtain ⟨j0, ji, jz0, jz1, jz2⟩ := info_parts info_use
  go_enter Try.func20, Try.ntmps20
  go_wp2_with fail
  refine (tasks_ok _ _ _ ts _ rfl HR.out HT.out).mono ?_
  rintro e w1 ⟨rfl, hb1⟩
  have B1 := Lib.hid hb1
  have R1 := Lib.hid (HR.out.below hb1)
  have hs1 := hb1.size
  clear hb1
  go_wp2_with fail
  go_loopw [5, 6, 21] (fun vo vu i wr => ∃ (k : Nat) (ss : List Int), Hid (ss.length = k) ∧ k ≤ ts.length ∧ i = .int .i64 k ∧ Hid (Planned ts ss) ∧ wr.ownsRow w1.heap.size 3 1 vo k (ss.map (Value.int .i64)) ∧
    wr.ownsRow w1.heap.size 40 3 vu (usesOf (ts.take k) ss).length (cellsOf (usesOf (ts.take k) ss)) ∧ Below w1.heap.size w1 wr) (fun _ _ i _ => ts.length - (intOf i).toNat)
  case atStart => exact ⟨0, [], rfl, by omega, rfl, ⟨by simp, by simp⟩, World.ownsRow_nil _ _ _ _, World.ownsRow_nil _ _ _ _, Below.refl _ _⟩
  case round =>
    obtain ⟨k, ss, Hk, hk, rfl, hpl, hoo, hou, hbl⟩ := hrel
    have Hoo := Lib.hid hoo
    have Hou := Lib.hid hou
    have Hbl := Lib.hid hbl
    have hs := hbl.size
    clear hoo hou hbl
    by_cases hlt : k < ts.length
    · obtain ⟨t, ht⟩ := some_at hlt
      obtain ⟨b, o, rfl, hb, hc⟩ := R1.out (by omega)
      obtain ⟨c1', c2', Aj, cj, c3', h4⟩ := hc k t ht
      have c1 := (Hbl.out.cell (p := ⟨b, _, none⟩) hb).trans c1'
      have c2 := (Hbl.out.cell (p := ⟨b, _, none⟩) hb).trans c2'
      have c3 := (Hbl.out.cell (p := ⟨b, _, none⟩) hb).trans c3'
      have H4 := Lib.hid h4
      obtain ⟨t1, t2, t3, t4, t5, t6⟩ := HT.out.2 k t ht
      have T6 := Lib.hid t6
      have hbr : b < wr.heap.size := by omega
      have B2 := Lib.hid (Hbl.out.alloc hs (.cells #[.int .i64 t.tool, .int .i64 t.long, .slice Aj t.after.length cj] 53))
      have X2 := Lib.hid (Blk.new wr 53 #[.int .i64 t.tool, .int .i64 t.long, .slice Aj t.after.length cj])
      have O2 := Lib.hid (Hoo.out.alloc (.cells #[.int .i64 t.tool, .int .i64 t.long, .slice Aj t.after.length cj] 53))
      have U2 := Lib.hid (Hou.out.alloc (.cells #[.int .i64 t.tool, .int .i64 t.long, .slice Aj t.after.length cj] 53))
      have Ht := Lib.hid ht
      have hcsz : wr.heap.size < (wr.alloc (.cells #[.int .i64 t.tool, .int .i64 t.long, .slice Aj t.after.length cj] 53)).heap.size := by simp
      clear hc c1' c2' c3' h4 t6 ht
      go_wp2_with fail
      obtain ⟨g, hg⟩ : ∃ g, g = wr.heap.size := ⟨_, rfl⟩
      obtain ⟨wo, hwo⟩ : ∃ wo : World, wo = wr.alloc (.cells #[.int .i64 t.tool, .int .i64 t.long, .slice Aj t.after.length cj] 53) := ⟨_, rfl⟩
      rw [← hwo] at B2 X2 O2 U2 hcsz ⊢
      rw [← hg] at X2 hcsz ⊢
      clear c1 c2 c3 Hoo Hou Hbl hs hbr hwo hg
      go_loopw [9, 28] (fun a i wr => ∃ (j : Nat) (aa : Int), j ≤ t.after.length ∧ i = .int .i64 j ∧ a = .int .i64 aa ∧ 0 ≤ aa ∧ aa ≤ 20 * k ∧ Hid (Mx (EndT ts ss) (t.after.take j) aa) ∧ ∃ n, wr = wo.drewN n) (fun _ i _ => t.after.length - (intOf i).toNat)
      case atStart => exact ⟨0, 0, by omega, rfl, rfl, by omega, by omega, Mx.start _ _, 0, rfl⟩
      case round =>
        obtain ⟨j, aa, hj, rfl, rfl, ha0, ha1, hmx, n, rfl⟩ := hrel
        by_cases hlt' : j < t.after.length
        · obtain ⟨x, hx⟩ := some_at hlt'
          obtain ⟨v1, v2⟩ := T6.out j x hx
          obtain ⟨x, rfl⟩ := Int.eq_ofNat_of_zero_le v1
          obtain ⟨s', hs'⟩ := some_at (l := ss) (k := x) (by have := Hk.out; omega)
          obtain ⟨t', ht'⟩ := some_at (l := ts) (k := x) (by omega)
          obtain ⟨g', cap, rfl, hg1, hg2⟩ := O2.out.form (by omega)
          have c1 := O2.out.cells (g := g') rfl x (.int .i64 s') (by simp [hs'])
          rw [Addr.add_lit, Nat.zero_add] at c1
          obtain ⟨_, _, he, _, hc⟩ := R1.out (by omega)
          cases he
          have c2 := (B2.out.cell (p := ⟨b, o + x * 3 + 1, none⟩) hb).trans (hc x t' ht').2.1
          obtain ⟨b'', o'', rfl, hb'', hc''⟩ := H4.out (by omega)
          have c3 := (B2.out.cell (p := ⟨b'', o'' + j, none⟩) hb'').trans (hc'' j _ hx)
          have p1 := (hpl.out.2 x t' s' ht' hs').1
          have p2 := (hpl.out.2 x t' s' ht' hs').2.1
          obtain ⟨q1, q2, q3, q4, q5, q6⟩ := HT.out.2 x t' ht'
          have hmx2 : Hid (Mx (EndT ts ss) (t.after.take (j + 1)) (max aa (s' + t'.long))) := by
            have := hmx.out.snoc hx
            have he : EndT ts ss (x : Int) = s' + t'.long := by unfold EndT longAt; simp [List.getD, hs', ht']
            rw [he] at this; exact this
          have hxk : (x : Int) < (k : Int) := by omega
          have hxt : (x : Int) < (ts.length : Int) := by omega
          clear hc hc'' hx hs' ht' v1 v2 q6
          go_wp2
          go_quiet (fail)
          go_wp2
          all_goals
            go_roundw
            case rel =>
              refine ⟨j + 1, _, by omega, by go_num, rfl, by omega, by omega, ?_, _, rfl⟩
              first
                | exact hmx2
                | (rw [show max aa (s' + t'.long) = s' + t'.long by omega] at hmx2; exact hmx2)
                | (rw [show max aa (s' + t'.long) = aa by omega] at hmx2; exact hmx2)
                | (rw [ite_max]; exact hmx2)
            case measure => simp [intOf]; omega
        · have hjl : j = t.after.length := by omega
          subst hjl
          have hmx' := hmx.out
          rw [List.take_length] at hmx'
          have Hmx := Lib.hid hmx'
          have B3 := Lib.hid (below_drewN B2.out n)
          have X3 := Lib.hid (X2.out.drewN n)
          have d0 := X2.out.cell 0
          have d1 := X2.out.cell 1
          have d2 := X2.out.cell 2
          have hks := Lib.hid (planned_good HT.out hpl.out)
          clear hmx hmx'
          by_cases htl : 0 ≤ t.tool
          · have hs3 : w1.heap.size ≤ wo.heap.size := by have := B3.out.size; simpa using this
            have U3 : Hid ((wo.drewN n).ownsRow w1.heap.size 40 3 u6 (usesOf (ts.take k) ss).length (cellsOf (usesOf (ts.take k) ss))) := U2.out
            have O3 : Hid ((wo.drewN n).ownsRow w1.heap.size 3 1 u5 k (ss.map (Value.int .i64))) := O2.out
            have hsu := SU.own U3.out
            obtain ⟨Au, cu, hv, hcu, hRU, _, _⟩ := hsu
            have HRU := Lib.hid hRU
            subst hv
            obtain ⟨us, hus⟩ : ∃ us, us = usesOf (ts.take k) ss := ⟨_, rfl⟩
            have hul : us.length ≤ 11 := by rw [hus]; have := usesOf_len (ts.take k) ss; simp at this; omega
            have Hgood : Hid (Good us ∧ ∀ v ∈ us, v.from_ + v.long ≤ 20 * k) := by
              have := hks.out
              rw [Hk.out] at this
              rw [hus]; exact this
            rw [← hus] at U3 HRU hcu ⊢
            have Hus := Lib.hid hus
            clear hRU hus
            go_wp2_with fail
            refine (first_ok _ _ _ us t.tool aa t.long _ rfl hcu HRU.out Hgood.out.1 ⟨htl, t2, ha0, t3, by dsimp only; omega, by dsimp only; omega⟩ (fun v hv => by have := Hgood.out.2 v hv; omega)).mono ?_
            rintro e w5 ⟨x, rfl, hfi, hb5⟩
            have hx0 : aa ≤ x := hfi.1
            have hx1 : x ≤ 20 * k := by
              rcases hfi.2.2.2 with h | ⟨v, hv, h⟩
              · omega
              · have := Hgood.out.2 v hv; omega
            have Hfi := Lib.hid hfi
            have B5 := Lib.hid (B3.out.trans (hb5.mono (by simp; omega)))
            have X5 := Lib.hid (X3.out.below hb5 X3.out.lt)
            have U5 : Hid (w5.ownsRow w1.heap.size 40 3 (.slice Au us.length cu) us.length (cellsOf us)) := own_below U3.out hb5
            have O5 : Hid (w5.ownsRow w1.heap.size 3 1 u5 k (ss.map (Value.int .i64))) := own_below O3.out hb5
            have hs5 : w1.heap.size ≤ w5.heap.size := B5.out.size
            clear hfi hb5 d0 d1 d2
            have d0 := X5.out.cell 0
            have d1 := X5.out.cell 1
            have d2 := X5.out.cell 2
            have hbx := X5.out.lt
            have B6 := Lib.hid (B5.out.alloc hs5 (.cells #[.int .i64 t.tool, .int .i64 x, .int .i64 t.long] 40))
            have U6 := Lib.hid (U5.out.alloc (.cells #[.int .i64 t.tool, .int .i64 x, .int .i64 t.long] 40))
            have O6 := Lib.hid (O5.out.alloc (.cells #[.int .i64 t.tool, .int .i64 x, .int .i64 t.long] 40))
            have S6 := Lib.hid (Src.new (m := 1) (c := 1) (size := 3) (Blk.new w5 40 #[.int .i64 t.tool, .int .i64 x, .int .i64 t.long]) rfl)
            have H6 : Hid (w1.heap.size ≤ (w5.alloc (.cells #[.int .i64 t.tool, .int .i64 x, .int .i64 t.long] 40)).heap.size) := by unfold Hid; simp; omega
            have N6 := Lib.hid (own_own_ne O6.out U6.out (by decide))
            have O1 : Hid (∀ y ∈ (#[Value.int .i64 t.tool, .int .i64 x, .int .i64 t.long] : Array Value).toList, y.oneCell' = true) := by intro y hy; simp at hy; rcases hy with rfl | rfl | rfl <;> rfl
            go_wp2_with (first
              | (at_builtin; refine wpList_append_src _ rfl (.tmp 67) (.tmp 74) 36 rfl w1.heap.size 40 j0 _ 3 24 Try.underlying36 ji jz0 jz1 jz2 rfl (by decide) _ us.length (cellsOf us) rfl U6.out 1 _ _ rfl S6.out O1.out (by unfold maxLen; omega) (by omega) H6.out ?_; intro v7 w7 hown7 hg7; have B7 := Lib.hid (below_append B6.out U6.out hg7 H6.out); have O7 := Lib.hid (O6.out.kept hg7 N6.out); have U7 := Lib.hid hown7; have hs7 : w1.heap.size ≤ w7.heap.size := B7.out.size; clear hown7 hg7; have B8 := Lib.hid (B7.out.alloc hs7 (.cells #[.int .i64 x] 3)); have U8 := Lib.hid (U7.out.alloc (.cells #[.int .i64 x] 3)); have O8 := Lib.hid (O7.out.alloc (.cells #[.int .i64 x] 3)); have N8 := Lib.hid (own_own_ne U8.out O8.out ne_use_int); have H8 := Lib.hid B8.out.size)
              | (at_builtin; refine wpList_append_one _ rfl (.tmp 76) (.tmp 78) 22 rfl w1.heap.size 3 i0 (.int .i64 0) 8 Try.underlying22 hi hz0 hz1 hz2 rfl u5 k _ rfl O8.out w7.heap.size (.int .i64 x) rfl (World.cell?_alloc_at _ _ _ _ rfl) rfl (by unfold maxLen; omega) (by omega) H8.out ?_; intro v9 w9 hown9 hg9; have B9 := Lib.hid (below_append B8.out O8.out hg9 H8.out); have U9 := Lib.hid (U8.out.kept hg9 N8.out); have O9 := Lib.hid hown9; clear hown9 hg9))
            go_roundw
            case rel =>
              have hps : Planned ts (ss ++ [x]) := planned_snoc HT.out hpl.out (by rw [Hk.out]; exact Ht.out) (by omega) (by rw [Hk.out]; exact hx1) Hmx.out (fun h => by omega) (fun _ => by rw [Hk.out, ← Hus.out]; exact Hfi.out)
              have hus : usesOf (ts.take (k + 1)) (ss ++ [x]) = us ++ [⟨t.tool, x, t.long⟩] := by
                rw [List.take_add_one, Ht.out]
                simp only [Option.toList]
                rw [usesOf_snoc (by have := Hk.out; simp; omega), useOf, if_pos htl, ← Hus.out]
              refine ⟨k + 1, ss ++ [x], by simp [Hid, Hk.out], by omega, by go_num, hps, by simpa using O9.out, ?_, B9.out⟩
              rw [hus, cellsOf_snoc]
              simpa [Use.cells] using U9.out
            case measure => simp [intOf]; omega
          · have hs3 : w1.heap.size ≤ wo.heap.size := by have := B3.out.size; simpa using this
            have B4 := Lib.hid (B3.out.alloc (by simp; omega) (.cells #[.int .i64 aa] 3))
            have U3 : Hid ((wo.drewN n).ownsRow w1.heap.size 40 3 u6 (usesOf (ts.take k) ss).length (cellsOf (usesOf (ts.take k) ss))) := U2.out
            have O3 : Hid ((wo.drewN n).ownsRow w1.heap.size 3 1 u5 k (ss.map (Value.int .i64))) := O2.out
            have H4 : Hid (w1.heap.size ≤ ((wo.drewN n).alloc (.cells #[.int .i64 aa] 3)).heap.size) := by unfold Hid; simp; omega
            have O4 := Lib.hid (O3.out.alloc (.cells #[.int .i64 aa] 3))
            have U4 := Lib.hid (U3.out.alloc (.cells #[.int .i64 aa] 3))
            have Hne := Lib.hid (own_own_ne U4.out O4.out (by decide))
            go_wp2_with (at_builtin; refine wpList_append_one _ rfl (.tmp 76) (.tmp 78) 22 rfl w1.heap.size 3 i0 (.int .i64 0) 8 Try.underlying22 hi hz0 hz1 hz2 rfl u5 k _ rfl O4.out wo.heap.size (.int .i64 aa) rfl (World.cell?_alloc_at _ _ _ _ rfl) rfl (by unfold maxLen; omega) (by omega) H4.out ?_; intro v4 w4 hown4 hg4; have B5 := Lib.hid (below_append B4.out O4.out hg4 H4.out); have U5 := Lib.hid (U4.out.kept hg4 Hne.out); have O5 := Lib.hid hown4; clear hown4 hg4)
            go_roundw
            case rel =>
              have hps : Planned ts (ss ++ [aa]) := planned_snoc HT.out hpl.out (by rw [Hk.out]; exact Ht.out) ha0 (by rw [Hk.out]; exact ha1) Hmx.out (fun _ => rfl) (fun h => absurd h htl)
              have hus : usesOf (ts.take (k + 1)) (ss ++ [aa]) = usesOf (ts.take k) ss := by
                rw [List.take_add_one, Ht.out]
                simp only [Option.toList]
                rw [usesOf_snoc (by have := Hk.out; simp; omega), useOf, if_neg htl, List.append_nil]
              exact ⟨k + 1, ss ++ [aa], by simp [Hid, Hk.out], by omega, by go_num, hps, by simpa using O5.out, by rw [hus]; exact U5.out, B5.out⟩
            case measure => simp [intOf]; omega
    · have hkx : k = ts.length := by omega
      subst hkx
      go_wp2
      go_ret2
      refine ⟨_, ss, rfl, Hk.out, hpl.out, ?_, B1.out.trans (Hbl.out.mono hs1)⟩
      rw [Hk.out]
      exact Hoo.out.mono hs1
end Go.Proofs.Ytnmngjikcimpnaa
