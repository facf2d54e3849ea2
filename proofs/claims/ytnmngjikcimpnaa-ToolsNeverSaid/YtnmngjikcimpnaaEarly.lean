/- The walk of gantkeep4.ToolsEarly. -/
import Derived.Test.YtnmngjikcimpnaaTasks
namespace Go.Proofs.Ytnmngjikcimpnaa
open Go.RowKit
set_option linter.unusedVariables false

theorem set_last {ss : List Int} {k : Nat} {s y : Int} (h : ss[k]? = some s) : (ss.take (k + 1)).set k y = ss.take k ++ [y] := by
  have hk := lt_of_at h
  rw [List.take_add_one, h]
  have hl : (ss.take k).length = k := by simp; omega
  simp only [Option.toList]
  simp [List.set_append, hl]

theorem take_at {α : Type} {l : List α} {k j : Nat} {x : α} (h : (l.take k)[j]? = some x) : l[j]? = some x := by
  rw [List.getElem?_take] at h
  split at h
  · exact h
  · cases h

theorem early_not {ts : List Task} {ss : List Int} {k : Nat} {t : Task} {s : Int} (hT : TasksOk ts) (h : Planned ts ss) (hl : ss.length = ts.length) (ht : ts[k]? = some t) (hs : ss[k]? = some s) :
    ¬ RightT (ts.take (k + 1)) (ss.take k ++ [s - 1]) := by
  have hk := lt_of_at ht
  have htl : (ts.take k).length = k := by simp; omega
  have hsl : (ss.take k).length = k := by simp; omega
  rintro ⟨h1, h2⟩
  obtain ⟨_, _, a, hm, hn, hf⟩ := h.2 k t s ht hs
  have htk : (ts.take (k + 1))[k]? = some t := by rw [List.getElem?_take, if_pos (by omega)]; exact ht
  have hsk : (ss.take k ++ [s - 1])[k]? = some (s - 1) := by rw [List.getElem?_append_right (by omega), hsl]; simp
  obtain ⟨f1, f2, f3⟩ := h1 k t (s - 1) (by simp; omega) htk hsk
  have hend : ∀ x ∈ t.after, EndT (ts.take (k + 1)) (ss.take k ++ [s - 1]) x = EndT ts ss x := by
    intro x hx
    obtain ⟨i, hi⟩ := List.getElem?_of_mem hx
    obtain ⟨x0, x1⟩ := (hT.2 k t ht).2.2.2.2.2 i x hi
    unfold EndT longAt
    have e1 : (ts.take (k + 1))[x.toNat]? = ts[x.toNat]? := by rw [List.getElem?_take, if_pos (by omega)]
    have e2 : (ss.take k ++ [s - 1])[x.toNat]? = ss[x.toNat]? := by rw [List.getElem?_append_left (by omega), List.getElem?_take, if_pos (by omega)]
    simp only [List.getD, e1, e2]
  have ha : a ≤ s - 1 := by
    rcases hm.2.2 with e | ⟨x, hx, e⟩
    · omega
    · have := f3 x hx; rw [hend x hx] at this; omega
  by_cases h0 : 0 ≤ t.tool
  · obtain ⟨v, hv, hmt⟩ := (hf h0).2.2.1 (s - 1) ha (by omega)
    have hu : usesOf (ts.take (k + 1)) (ss.take k ++ [s - 1]) = usesOf (ts.take k) (ss.take k) ++ [⟨t.tool, s - 1, t.long⟩] := by
      rw [List.take_add_one, ht]
      simp only [Option.toList]
      rw [usesOf_snoc (by omega), useOf, if_pos h0]
    rw [hu] at h2
    obtain ⟨j, hj⟩ := List.getElem?_of_mem hv
    have hlt := lt_of_at hj
    exact (h2.2 _ ⟨t.tool, s - 1, t.long⟩ (by simp)).2 j v hlt (by rw [List.getElem?_append_left hlt]; exact hj) hmt
  · have := hn (by omega)
    omega

theorem RI.take {w : World} {A : Option Addr} {xs : List Int} (h : RI w A xs) (k : Nat) : RI w A (xs.take k) := by
  intro hp
  obtain ⟨b, o, rfl, hlt, hc⟩ := h (by simp at hp; omega)
  exact ⟨b, o, rfl, hlt, fun j x hx => hc j x (take_at hx)⟩
theorem RI.src {w : World} {A : Option Addr} {n c : Nat} {xs : List Int} (h : RI w A xs) (hn : xs.length = n) (hp : 0 < n) : Src w (.slice A n c) 1 n (xs.map (Value.int .i64)) := by
  obtain ⟨b, o, rfl, _, hc⟩ := h (by omega)
  refine ⟨by simp [hn], .inr ⟨b, o, c, rfl, fun j u hu => ?_⟩⟩
  rw [List.getElem?_map] at hu
  obtain ⟨x, hx, rfl⟩ := Option.map_eq_some_iff.1 hu
  exact hc j x hx

set_option maxHeartbeats 8000000 in
set_option maxRecDepth 100000 in
theorem early_ok (A0 : Option Addr) (n0 c0 : Nat) (z0 : List Int) (w : World) (h0 : IntArg w A0 n0 c0 z0) :
    Calls Try.prog 6 #[.slice A0 n0 c0] w fun e w' => e = .returned (.bool true) ∧ Below w.heap.size w w' := by
  have I0 := Lib.hid h0
  clear h0
  go_enter Try.func6, Try.ntmps6
  go_wp2_with fail
  refine (mkTasks_ok _ _ _ _ _ I0.out).mono ?_
  rintro e w1 ⟨v1, ts, vs, rfl, hT, hl9, _, ho1, hv1, hb1⟩
  obtain ⟨At, ct, hv⟩ := own_slice ho1
  subst hv
  have HT := Lib.hid hT
  have R1 := Lib.hid (hv1.rt ho1)
  have B1 := Lib.hid hb1
  have hct : ts.length ≤ ct := own_cap ho1
  clear hT ho1 hv1 hb1
  go_wp2_with fail
  refine (plan_ok _ _ _ ts _ rfl R1.out HT.out).mono ?_
  rintro e w2 ⟨v2, ss, rfl, hsl, hp, ho2, hb2⟩
  obtain ⟨As, cs, hv⟩ := own_slice ho2
  subst hv
  have Hp := Lib.hid hp
  have Hsl := Lib.hid hsl
  have S2 := Lib.hid (RI.own ho2)
  have R2 := Lib.hid (R1.out.below hb2)
  have B2 := Lib.hid (B1.out.trans (hb2.mono B1.out.size))
  have hcs : ss.length ≤ cs := own_cap ho2
  clear hp hsl ho2 hb2
  go_wp2_with fail
  refine (tooled_ok _).mono ?_
  rintro e w3 ⟨rfl, hb3⟩
  have S3 := Lib.hid (S2.out.below hb3)
  have R3 := Lib.hid (R2.out.below hb3)
  have B3 := Lib.hid (B2.out.trans (hb3.mono B2.out.size))
  have hq : ((ss.length : Int) != ts.length) = false := by rw [Hsl.out]; simp
  have hs9 : ss.length ≤ 9 := by have := Hsl.out; omega
  clear hb3
  go_wp2_with fail
  clear hq
  go_loopw [30] (fun i wr => ∃ k : Nat, k ≤ ss.length ∧ i = .int .i64 k ∧ Below w3.heap.size w3 wr) (fun i _ => ss.length - (intOf i).toNat)
  case atStart => exact ⟨0, by omega, rfl, Below.refl _ _⟩
  case round =>
    obtain ⟨k, hk, rfl, hbl⟩ := hrel
    have Hbl := Lib.hid hbl
    clear hbl
    by_cases hlt : k < ss.length
    · obtain ⟨s, hs⟩ := some_at hlt
      obtain ⟨t, ht⟩ := some_at (l := ts) (k := k) (by have := Hsl.out; omega)
      have S4 := Lib.hid ((S3.out.below Hbl.out).take (k + 1))
      have R4 := Lib.hid ((R3.out.below Hbl.out).take (k + 1))
      have htk : (ss.take (k + 1)).length = k + 1 := by simp; omega
      have htt : (ts.take (k + 1)).length = k + 1 := by have := Hsl.out; simp; omega
      have Htk := Lib.hid htk
      have Htt := Lib.hid htt
      have hno := Lib.hid (early_not HT.out Hp.out Hsl.out ht hs)
      have hset := Lib.hid (set_last (y := s - 1) hs)
      have hpl := (Hp.out.2 k t s ht hs)
      have hs0 := hpl.1
      have hs1 := hpl.2.1
      have Hs := Lib.hid hs
      have X4 := Lib.hid (S4.out.src (c := cs) htk (by omega))
      have hkts : k + 1 ≤ ct := by have := Hsl.out; omega
      have O4 : Hid (∀ u ∈ (ss.take (k + 1)).map (Value.int .i64), u.oneCell' = true) := ints_oneCell _ _
      clear hpl ht hs htk htt
      go_wp2_with fail
      refine (clone_int _ (k + 1) _ _ _ (by omega) X4.out O4.out).mono ?_
      rintro e w5 ⟨v5, rfl, ho5, hb5⟩
      obtain ⟨g, cap, hv, hg1, hg2⟩ := ho5.form (by omega)
      subst hv
      have B5 := Lib.hid (Hbl.out.trans (hb5.mono Hbl.out.size))
      have R5 := Lib.hid (R4.out.below hb5)
      have hsk : ((ss.take (k + 1)).map (Value.int .i64))[k]? = some (.int .i64 s) := by simp [Hs.out]
      have c1 : w5.cell? ⟨g, k, none⟩ = some (.int .i64 s) := (ho5.cellAt k (by omega)).trans hsk
      have c2 := ho5.frozenAt k
      have O5 := Lib.hid (ho5.stored k (.int .i64 (s - 1))).1
      have hgw : w3.heap.size ≤ g := Nat.le_trans Hbl.out.size hg1
      have B6 := Lib.hid (B5.out.setCell (p := ⟨g, k, none⟩) hgw (.int .i64 (s - 1)))
      have R6 := Lib.hid ((R3.out.below B6.out).take (k + 1))
      have L6 : Hid (RI (w5.setCell ⟨g, k, none⟩ (.int .i64 (s - 1))) (some ⟨g, 0, none⟩) (ss.take k ++ [s - 1])) := by
        refine RI.own (base := wr.heap.size) (e := 3) (c := cap) (n := k + 1) ?_
        have := O5.out
        rw [← hset.out]
        simpa [List.map_set] using this
      have hT6 := Lib.hid (HT.out.take (k + 1))
      have hl6 : (ss.take k ++ [s - 1]).length = k + 1 := by simp; omega
      have Hl6 := Lib.hid hl6
      have hb6 : Hid (∀ x ∈ ss.take k ++ [s - 1], -1 ≤ x ∧ x ≤ 1000) := by
        intro x hx
        rcases List.mem_append.1 hx with hx | hx
        · obtain ⟨j, hj⟩ := List.getElem?_of_mem hx
          have hj' := take_at hj
          obtain ⟨t', ht'⟩ := some_at (l := ts) (k := j) (by have := Hsl.out; have := lt_of_at hj'; omega)
          have h1 := (Hp.out.2 j t' x ht' hj').1
          have h2 := (Hp.out.2 j t' x ht' hj').2.1
          have := lt_of_at hj'
          omega
        · have : x = s - 1 := by simpa using hx
          omega
      clear ho5 hb5 hsk hl6
      go_wp2_with fail
      refine (tright_any _ _ (k + 1) (k + 1) _ _ (ts.take (k + 1)) (ss.take k ++ [s - 1]) _ false Htt.out Hl6.out (by rw [Hl6.out, Htt.out]) R6.out hT6.out L6.out hb6.out (Says.f hno.out)).mono ?_
      rintro e w7 ⟨rfl, hb7⟩
      have B7 := Lib.hid (B6.out.trans (hb7.mono B6.out.size))
      clear hb7
      go_wp2_with fail
      go_roundw
      case rel => exact ⟨k + 1, by omega, by go_num, B7.out⟩
      case measure => simp [intOf]; omega
    · go_wp2_with fail
      go_ret
      exact ⟨rfl, B3.out.trans (Hbl.out.mono B3.out.size)⟩
end Go.Proofs.Ytnmngjikcimpnaa
