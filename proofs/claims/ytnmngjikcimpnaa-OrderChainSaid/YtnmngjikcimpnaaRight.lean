/- The walks of order.Right and gantkeep4.ordered. -/
import Derived.Test.YtnmngjikcimpnaaOrdB
import Derived.Test.YtnmngjikcimpnaaSl
namespace Go.Proofs.Ytnmngjikcimpnaa
open Go.RowKit
set_option linter.unusedVariables false

/-- Does the rest of an order respect what comes before what, when some are done? -/
def rightFrom (xss : List (List Int)) : List Int → List Int → Bool
  | _, [] => true
  | done, k :: ps => if k < 0 ∨ (xss.length : Int) ≤ k ∨ k ∈ done then false else if ∀ x ∈ xss.getD k.toNat [], x ∈ done then rightFrom xss (done ++ [k]) ps else false

theorem rightFrom_step {xss : List (List Int)} {ps : List Int} {i : Nat} {k : Int} (h : ps[i]? = some k) : rightFrom xss (ps.take i) (ps.drop i) =
    if k < 0 ∨ (xss.length : Int) ≤ k ∨ k ∈ ps.take i then false else if ∀ x ∈ xss.getD k.toNat [], x ∈ ps.take i then rightFrom xss (ps.take (i + 1)) (ps.drop (i + 1)) else false := by
  have hd : ps.drop i = k :: ps.drop (i + 1) := by
    have hlt := lt_of_at h
    rw [List.drop_eq_getElem_cons hlt]
    congr 1
    rw [List.getElem?_eq_getElem hlt] at h
    exact Option.some.inj h
  have ht : ps.take (i + 1) = ps.take i ++ [k] := by rw [List.take_add_one, h]; rfl
  rw [hd, ht, rightFrom]

set_option maxHeartbeats 1000000 in
set_option maxRecDepth 100000 in
theorem right_any (A B : Option Addr) (c d : Nat) (xss : List (List Int)) (ps : List Int) (w : World) (hR : RII w A xss) (hV : Valid xss) (hP : RI w B ps) (hl : ps.length = xss.length) (r : Bool) (hr : Hid (rightFrom xss [] ps = r)) :
    Calls Try.prog 27 #[.slice A xss.length c, .slice B ps.length d] w fun e w' => e = .returned (.bool r) ∧ Below w.heap.size w w' := by
  have hlen := hV.1
  have HV := Lib.hid hV
  have HR := Lib.hid hR
  have HP := Lib.hid hP
  have Hl := Lib.hid hl
  have hq : ((ps.length : Int) != xss.length) = false := by rw [hl]; simp
  have hle : ps.length ≤ 40 := by omega
  clear hV hR hP hl
  obtain ⟨i1, hi, hz0, hz1, hz2⟩ := info_parts info_int
  go_enter Try.func27, Try.ntmps27
  go_wp2_with (go_at_call 32; refine (check_ok _ _ _ _ HR.out HV.out).mono ?_; rintro e w' ⟨rfl, rfl⟩)
  go_loopw [5, 22] (fun v i wr => ∃ k : Nat, k ≤ ps.length ∧ i = .int .i64 k ∧ wr.ownsRow w.heap.size 3 1 v k ((ps.take k).map (Value.int .i64)) ∧ Hid (rightFrom xss (ps.take k) (ps.drop k) = r) ∧ Below w.heap.size w wr) (fun _ i _ => ps.length - (intOf i).toNat)
  case atStart => exact ⟨0, by omega, rfl, World.ownsRow_nil _ _ _ _, hr, Below.refl _ _⟩
  case round =>
    obtain ⟨k, hk, rfl, how, hri, hbel⟩ := hrel
    have How := Lib.hid how
    have Hbel := Lib.hid hbel
    clear how hbel
    by_cases hlt : k < ps.length
    · obtain ⟨p, hp⟩ := some_at hlt
      obtain ⟨b, o, rfl, hb, hc⟩ := HP.out (by omega)
      have c1 := (HP.out.below (Hbel.out.mono (Nat.le_refl _))).at_ hp
      have Hst := Lib.hid (hri.out.symm.trans (rightFrom_step (xss := xss) hp))
      have htk : (ps.take k).length = k := by simp; omega
      have Hp := Lib.hid hp
      clear hc hp
      by_cases h1 : p < 0
      · have hrf : r = false := by rw [Hst.out, if_pos (.inl h1)]
        subst hrf
        go_wp2
        go_ret
        exact ⟨rfl, Hbel.out⟩
      · by_cases h2 : (xss.length : Int) ≤ p
        · have hrf : r = false := by rw [Hst.out, if_pos (.inr (.inl h2))]
          subst hrf
          go_wp2
          go_ret
          exact ⟨rfl, Hbel.out⟩
        · have hd : decide (p < 0) = false := by simp; omega
          have hd2 : decide ((xss.length : Int) ≤ p) = false := by simp; omega
          obtain ⟨Av, cv, hv⟩ := own_slice How.out
          subst hv
          have hri2 := Lib.hid (RI.own How.out)
          obtain ⟨l, hl⟩ := some_at (l := xss) (k := p.toNat) (by omega)
          obtain ⟨q, rfl⟩ := Int.eq_ofNat_of_zero_le (show 0 ≤ p by omega)
          have hqx : (q : Int) < (xss.length : Int) := by omega
          obtain ⟨b', o', rfl, hb', hc'⟩ := HR.out (by omega)
          obtain ⟨Aj, cj, h3', h4⟩ := hc' _ l hl
          have h3 := (Hbel.out.cell (p := ⟨b', o' + q, none⟩) hb').trans h3'
          have H4 := Lib.hid h4
          have hll : l.length ≤ 40 := by have := HV.out.len hl; omega
          have Hq : Hid (xss.getD (q : Int).toNat [] = l) := by simpa [Hid, List.getD] using congrArg (·.getD []) hl
          clear hc' h4 hl h3'
          by_cases hm : (q : Int) ∈ ps.take k
          · have hrf : r = false := by rw [Hst.out, if_pos (.inr (.inr hm))]
            subst hrf
            have Hm : Hid (true = decide ((q : Int) ∈ ps.take k)) := by simp [Hid, hm]
            clear hm
            go_wp2_with (go_at_call 33; refine (contains_any _ _ _ _ _ _ _ hri2.out htk (by unfold maxLen; omega) Hm).mono ?_; rintro e w' ⟨rfl, rfl⟩)
            go_ret
            exact ⟨rfl, Hbel.out⟩
          · have Hm : Hid (false = decide ((q : Int) ∈ ps.take k)) := by simp [Hid, hm]
            have Hst2 : Hid (r = if ∀ x ∈ l, x ∈ ps.take k then rightFrom xss (ps.take (k + 1)) (ps.drop (k + 1)) else false) := by
              have := Hst.out
              rw [if_neg (by rintro (h | h | h) <;> first | omega | exact hm h), Hq.out] at this
              exact this
            clear hm Hst
            go_wp2_with (go_at_call 33; refine (contains_any _ _ _ _ _ _ _ hri2.out htk (by unfold maxLen; omega) Hm).mono ?_; rintro e w' ⟨rfl, rfl⟩)
            go_loop [44] (fun i => ∃ j : Nat, j ≤ l.length ∧ i = .int .i64 j ∧ Hid (∀ x ∈ l.take j, x ∈ ps.take k)) (fun i => l.length - (intOf i).toNat)
            case atStart => exact ⟨0, by omega, rfl, by simp [Hid]⟩
            case round =>
              obtain ⟨j, hj, rfl, hall⟩ := hrel
              by_cases hlt' : j < l.length
              · obtain ⟨x, hx⟩ := some_at hlt'
                obtain ⟨b'', o'', rfl, hb'', hc''⟩ := H4.out (by omega)
                have c2 := (H4.out.below (Hbel.out.mono (Nat.le_refl _))).at_ hx
                have Hx := Lib.hid hx
                clear hc'' hx
                by_cases hm : x ∈ ps.take k
                · have Hm2 : Hid (true = decide (x ∈ ps.take k)) := by simp [Hid, hm]
                  have hall2 : Hid (∀ x ∈ l.take (j + 1), x ∈ ps.take k) := by
                    intro z hz
                    rw [List.take_add_one, Hx.out] at hz
                    rcases List.mem_append.1 hz with hz | hz
                    · exact hall.out z hz
                    · have : z = x := by simpa using hz
                      rw [this]; exact hm
                  clear hm
                  go_wp2_with (go_at_call 33; refine (contains_any _ _ _ _ _ _ _ hri2.out htk (by unfold maxLen; omega) Hm2).mono ?_; rintro e w' ⟨rfl, rfl⟩)
                  go_round
                  case rel => exact ⟨j + 1, by omega, by go_num, hall2⟩
                  case measure => simp [intOf]; omega
                · have Hm2 : Hid (false = decide (x ∈ ps.take k)) := by simp [Hid, hm]
                  have hrf : r = false := by
                    rw [Hst2.out, if_neg (fun h => hm (h x (List.mem_of_getElem? Hx.out)))]
                  subst hrf
                  clear hm
                  go_wp2_with (go_at_call 33; refine (contains_any _ _ _ _ _ _ _ hri2.out htk (by unfold maxLen; omega) Hm2).mono ?_; rintro e w' ⟨rfl, rfl⟩)
                  go_ret
                  exact ⟨rfl, Hbel.out⟩
              · have hjl : j = l.length := by omega
                have Hst3 : Hid (rightFrom xss (ps.take (k + 1)) (ps.drop (k + 1)) = r) := by
                  have := hall.out
                  rw [hjl, List.take_length] at this
                  have h2 := Hst2.out
                  rw [if_pos this] at h2
                  exact h2.symm
                have hbs := Hbel.out.size
                have H0 := Lib.hid (Hbel.out.alloc hbs (.cells #[.int .i64 (q : Int)] 3))
                go_wp2_with (at_builtin; refine wpList_append_one _ rfl (.tmp 53) (.tmp 55) 22 rfl w.heap.size 3 i1 (.int .i64 0) 8 Try.underlying22 hi hz0 hz1 hz2 rfl (.slice Av k cv) k _ rfl (How.out.alloc _) wr.heap.size (.int .i64 (q : Int)) rfl (World.cell?_alloc_at _ _ _ _ rfl) rfl (by unfold maxLen; omega) (by omega) (by simp; omega) ?_; intro v1 w1 hown1 hg1; have H1 := Lib.hid (below_append H0.out (How.out.alloc _) hg1 (by simp; omega)); have Hown1 := Lib.hid hown1; clear hown1 hg1)
                go_roundw
                case rel =>
                  refine ⟨k + 1, by omega, by go_num, ?_, Hst3, H1.out⟩
                  have := Hown1.out
                  rw [List.take_add_one, Hp.out]
                  simpa using this
                case measure => simp [intOf]; omega
    · have hkx : k = ps.length := by omega
      have hrt : r = true := by rw [← hri.out, hkx]; simp [rightFrom]
      subst hrt
      go_wp2
      go_ret
      exact ⟨rfl, Hbel.out⟩
end Go.Proofs.Ytnmngjikcimpnaa
