/- The walk of order.Critical. -/
import Derived.Test.YtnmngjikcimpnaaOrdC
namespace Go.Proofs.Ytnmngjikcimpnaa
open Go.RowKit
set_option linter.unusedVariables false

/-- Of the first k steps those whose earliest start is their latest one. -/
def critTo (es ls : List Int) (k : Nat) : List Int := ((List.range k).filter (fun j => es.getD j 0 == ls.getD j 0)).map (fun (j : Nat) => (j : Int))
theorem critTo_len (es ls : List Int) (k : Nat) : (critTo es ls k).length ≤ k := by
  unfold critTo
  have := List.length_filter_le (fun j => es.getD j 0 == ls.getD j 0) (List.range k)
  simpa using this
theorem critTo_yes {es ls : List Int} {k : Nat} {a b : Int} (ha : es[k]? = some a) (hb : ls[k]? = some b) (h : a = b) : critTo es ls (k + 1) = critTo es ls k ++ [(k : Int)] := by
  unfold critTo
  rw [List.range_succ, List.filter_append, List.map_append]
  simp [List.filter_cons, List.getD, ha, hb, h]
theorem critTo_no {es ls : List Int} {k : Nat} {a b : Int} (ha : es[k]? = some a) (hb : ls[k]? = some b) (h : a ≠ b) : critTo es ls (k + 1) = critTo es ls k := by
  unfold critTo
  rw [List.range_succ, List.filter_append, List.map_append]
  simp [List.filter_cons, List.getD, ha, hb, h]
theorem critTo_mem {es ls : List Int} {k : Nat} {x : Int} : x ∈ critTo es ls k ↔ 0 ≤ x ∧ x < k ∧ es.getD x.toNat 0 = ls.getD x.toNat 0 := by
  unfold critTo
  simp only [List.mem_map, List.mem_filter, List.mem_range, beq_iff_eq]
  constructor
  · rintro ⟨j, ⟨h1, h2⟩, rfl⟩
    exact ⟨by omega, by omega, by simpa using h2⟩
  · rintro ⟨h0, h1, h2⟩
    exact ⟨x.toNat, ⟨by omega, h2⟩, by omega⟩

/-- The critical steps come in increasing order: what is smaller has come. -/
theorem critTo_inc (es ls : List Int) (n : Nat) : ∀ (i j : Nat) (x y : Int), i < j → (critTo es ls n)[i]? = some x → (critTo es ls n)[j]? = some y → x < y := by
  have hs : (critTo es ls n).Pairwise (· < ·) := by
    unfold critTo
    refine List.Pairwise.map _ (R := (· < ·)) (fun a b h => by omega) ?_
    exact List.Pairwise.filter _ List.pairwise_lt_range
  intro i j x y hij hx hy
  have h1 := lt_of_at hx
  have h2 := lt_of_at hy
  rw [List.getElem?_eq_getElem h1] at hx
  rw [List.getElem?_eq_getElem h2] at hy
  cases hx; cases hy
  exact List.pairwise_iff_getElem.1 hs i j h1 h2 hij
theorem crit_done {es ls : List Int} {n i : Nat} {k x : Int} (hk : (critTo es ls n)[i]? = some k) (hx : x ∈ critTo es ls n) (hlt : x < k) : x ∈ (critTo es ls n).take i := by
  obtain ⟨j, hj⟩ := List.getElem?_of_mem hx
  have hji : j < i := by
    rcases Nat.lt_trichotomy j i with h | h | h
    · exact h
    · subst h; rw [hk] at hj; cases hj; omega
    · have := critTo_inc es ls n i j k x h hk hj; omega
  exact List.mem_of_getElem? (i := j) (by rw [List.getElem?_take, if_pos hji]; exact hj)

set_option maxHeartbeats 1000000 in
set_option maxRecDepth 100000 in
theorem critical_ok (A B : Option Addr) (c d m : Nat) (xss : List (List Int)) (ts : List Int) (w : World) (hm : ts.length = m) (hR : RII w A xss) (hV : Valid xss) (hT : RI w B ts) (hD : Durs xss ts) :
    Calls Try.prog 13 #[.slice A xss.length c, .slice B m d] w fun e w' => ∃ v es ls t, e = .returned (.tuple #[v, .int .i64 0]) ∧
      es.length = xss.length ∧ Early xss ts es ∧ IsEnd ts es t ∧ LateTo xss ts es t 0 ls ∧ w'.ownsRow w.heap.size 3 1 v (critTo es ls xss.length).length ((critTo es ls xss.length).map (Value.int .i64)) ∧ Below w.heap.size w w' := by
  subst hm
  have hlen := hV.1
  have HV := Lib.hid hV
  have HD := Lib.hid hD
  have HR := Lib.hid hR
  have HT := Lib.hid hT
  clear hV hD hR hT
  obtain ⟨i0, hi, hz0, hz1, hz2⟩ := info_parts info_int
  go_enter Try.func13, Try.ntmps13
  go_wp2_with fail
  refine (times_ok _ _ _ _ _ _ _ _ rfl HR.out HV.out HT.out HD.out).mono ?_
  rintro e w1 ⟨v1, es, t, rfl, hes, hea, hen, how, hb1⟩
  have Hes := Lib.hid hes
  have Hea := Lib.hid hea
  have Hen := Lib.hid hen
  have How1 := Lib.hid how
  obtain ⟨Ae, ce, hv⟩ := own_slice how
  subst hv
  have HE1 := Lib.hid (RI.own How1.out)
  have B1 := Lib.hid hb1
  have HR1 := Lib.hid (HR.out.below hb1)
  have HT1 := Lib.hid (HT.out.below hb1)
  clear hes hea hen how hb1
  go_wp2_with fail
  refine (latest_ok _ _ _ _ _ _ _ _ rfl HR1.out HV.out HT1.out HD.out).mono ?_
  rintro e w2 ⟨g', es', ls, t', rfl, hes', hea', hen', hla, harr, hg, hb2⟩
  obtain rfl := early_uniq HV.out Hea.out hea' Hes.out hes'
  obtain rfl := isEnd_uniq Hen.out hen'
  have Hla := Lib.hid hla
  have HL2 := Lib.hid harr.ri
  have HE2 := Lib.hid (HE1.out.below hb2)
  have B2 := Lib.hid (B1.out.trans (hb2.mono B1.out.size))
  have hll : ls.length = xss.length := hla.1
  have Hll := Lib.hid hll
  clear hes' hea' hen' hla harr hg hb2 hll HR1 HT1 HE1 B1 How1
  go_wp2_with fail
  go_loopw [11, 31] (fun v i wr => ∃ k : Nat, k ≤ xss.length ∧ i = .int .i64 k ∧ wr.ownsRow w2.heap.size 3 1 v (critTo es ls k).length ((critTo es ls k).map (Value.int .i64)) ∧ Below w2.heap.size w2 wr) (fun _ i _ => xss.length - (intOf i).toNat)
  case atStart => exact ⟨0, by omega, rfl, World.ownsRow_nil _ _ _ _, Below.refl _ _⟩
  case round =>
    obtain ⟨k, hk, rfl, how, hbl⟩ := hrel
    have How := Lib.hid how
    have Hbl := Lib.hid hbl
    clear how hbl
    by_cases hlt : k < xss.length
    · obtain ⟨a, ha⟩ := some_at (l := es) (k := k) (by have := Hes.out; omega)
      obtain ⟨b, hb⟩ := some_at (l := ls) (k := k) (by have := Hll.out; omega)
      have HEr := HE2.out.below (Hbl.out.mono (Nat.le_refl _))
      have HLr := HL2.out.below (Hbl.out.mono (Nat.le_refl _))
      obtain ⟨b1, o1, rfl, hb1, hc1⟩ := HEr (by have := Hes.out; omega)
      have c1 := hc1 k a ha
      have c2 := HLr.at_ hb
      rw [Nat.zero_add] at c2
      have hkE : (k : Int) < (es.length : Int) := by have := Hes.out; omega
      have hkL : (k : Int) < (ls.length : Int) := by have := Hll.out; omega
      have hcl := critTo_len es ls k
      by_cases hab : a = b
      · have hcy := Lib.hid (critTo_yes ha hb hab)
        have hq : (a == b) = true := by simp [hab]
        obtain ⟨q, hqq⟩ : ∃ q, q = (critTo es ls k).length := ⟨_, rfl⟩
        rw [← hqq] at How hcl
        have Hqq := Lib.hid hqq
        have hbs := Hbl.out.size
        clear hc1 ha hb HEr HLr hab hqq
        go_wp2
        go_quiet (fail)
        go_wp2_with (at_builtin; refine wpList_append_one _ rfl (.tmp 43) (.tmp 45) 22 rfl w2.heap.size 3 i0 (.int .i64 0) 8 Try.underlying22 hi hz0 hz1 hz2 rfl _ q _ rfl ((How.out : wr.ownsRow _ _ _ _ _ _).alloc _) wr.heap.size (.int .i64 (k : Int)) rfl (World.cell?_alloc_at _ _ _ _ rfl) rfl (by unfold maxLen; omega) (by omega) (by simp; omega) ?_; intro v3 w3 hown hg3; have H3 := Lib.hid (below_append (((below_drewN Hbl.out _).alloc hbs _)) ((How.out : wr.ownsRow _ _ _ _ _ _).alloc _) hg3 (by simp; omega)); have How3 := Lib.hid hown; clear hown hg3)
        go_roundw
        case rel =>
          refine ⟨k + 1, by omega, by go_num, ?_, H3.out⟩
          rw [hcy.out]
          have := How3.out
          rw [Hqq.out] at this
          simpa using this
        case measure => simp [intOf]; omega
      · have hcn := Lib.hid (critTo_no ha hb hab)
        have hq : (a == b) = false := by simp [hab]
        clear hc1 ha hb HEr HLr hab
        go_wp2
        go_quiet (fail)
        go_wp2
        go_roundw
        case rel => exact ⟨k + 1, by omega, by go_num, by rw [hcn.out]; exact How.out, below_drewN Hbl.out _⟩
        case measure => simp [intOf]; omega
    · have hkx : k = xss.length := by omega
      subst hkx
      go_wp2
      go_ret2
      refine ⟨_, es, ls, t, rfl, Hes.out, Hea.out, Hen.out, Hla.out, ?_, B2.out.trans (Hbl.out.mono B2.out.size)⟩
      have := How.out
      have hs := B2.out.size
      refine ⟨this.1, ?_⟩
      rcases this.2 with h | ⟨g, cap, cur, h1, h2, h3⟩
      · exact .inl h
      · exact .inr ⟨g, cap, cur, h1, by omega, h3⟩
end Go.Proofs.Ytnmngjikcimpnaa
