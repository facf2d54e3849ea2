/- The walk of order.Times. · The walks of order.Right and gantkeep4.ordered. · The walk of gantkeep4.ordered. -/
import Derived.Test.YtbhbbnmllokglaaOs4
import Derived.Deep.QuietTactic
import Derived.BigQuiet
namespace Go.Proofs.Ytbhbbnmllokglaa
open Go.RowKit
set_option linter.unusedVariables false

theorem info_intO : (Try.prog.info? 3).map (fun i => (i.zero, i.size, i.bytes)) = some (some (.int .i64 0), 1, 8) := by kernel_rfl

/-- The end of a step. -/
def Ends (es ts : List Int) (x : Int) : Int := es.getD x.toNat 0 + ts.getD x.toNat 0
/-- The earliest starts of the first steps. -/
def Early (xss : List (List Int)) (ts es : List Int) : Prop :=
  es.length ≤ xss.length ∧ (∀ (k : Nat) (l : List Int) (v : Int), xss[k]? = some l → es[k]? = some v → Mx (Ends es ts) l v ∧ v ≤ 2000 * k)
def IsEnd (ts es : List Int) (v : Int) : Prop := 0 ≤ v ∧ v ≤ 80000 ∧ (∀ (k : Nat) (x : Int), es[k]? = some x → x + ts.getD k 0 ≤ v) ∧ (v = 0 ∨ ∃ (k : Nat) (x : Int), es[k]? = some x ∧ v = x + ts.getD k 0)

theorem early_snoc {xss : List (List Int)} {ts es l : List Int} {v : Int} (hV : Valid xss) (hE : Early xss ts es) (hl : xss[es.length]? = some l) (hm : Mx (Ends es ts) l v) (hb : v ≤ 2000 * es.length) :
    Early xss ts (es ++ [v]) := by
  have key : ∀ (k : Nat) (l : List Int), xss[k]? = some l → k ≤ es.length → ∀ x ∈ l, Ends es ts x = Ends (es ++ [v]) ts x := by
    intro k l hk hkl x hx
    obtain ⟨i, hi, rfl⟩ := List.getElem_of_mem hx
    obtain ⟨a, b⟩ := (hV.2 k l hk).1 i _ (List.getElem?_eq_getElem hi)
    unfold Ends
    have : l[i].toNat < es.length := by omega
    simp [List.getD, List.getElem?_append_left this]
  refine ⟨by have := lt_of_at hl; simp; omega, fun k l' v' hk hv => ?_⟩
  by_cases hlt : k < es.length
  · rw [List.getElem?_append_left hlt] at hv
    obtain ⟨a, b⟩ := hE.2 k l' v' hk hv
    exact ⟨a.congr (key k l' hk (by omega)), b⟩
  · have hke : k = es.length := by have := lt_of_at hv; simp at this; omega
    subst hke
    simp at hv
    subst hv
    rw [hl] at hk
    cases hk
    exact ⟨hm.congr (key _ _ hl (Nat.le_refl _)), hb⟩

theorem isEnd_snoc {ts es : List Int} {v e : Int} (h : IsEnd ts es e) (hb : v + ts.getD es.length 0 ≤ 80000) : IsEnd ts (es ++ [v]) (max e (v + ts.getD es.length 0)) := by
  obtain ⟨h0, h1, h2, h3⟩ := h
  refine ⟨by omega, by omega, fun k x hk => ?_, ?_⟩
  · by_cases hlt : k < es.length
    · rw [List.getElem?_append_left hlt] at hk
      have := h2 k x hk; omega
    · have hke : k = es.length := by have := lt_of_at hk; simp at this; omega
      subst hke
      simp at hk
      subst hk
      omega
  · by_cases hc : e ≤ v + ts.getD es.length 0
    · exact .inr ⟨es.length, v, by simp, by omega⟩
    · rcases h3 with h3 | ⟨k, x, hk, h3⟩
      · exact .inl (by omega)
      · exact .inr ⟨k, x, by rw [List.getElem?_append_left (lt_of_at hk)]; exact hk, by omega⟩

end Go.Proofs.Ytbhbbnmllokglaa

namespace Go.Proofs.Ytbhbbnmllokglaa
open Go.RowKit
set_option linter.unusedVariables false

/-- Does the rest of an order respect what comes before what, when some are done? -/
def rightFrom (xss : List (List Int)) : List Int → List Int → Bool
  | _, [] => true
  | done, k :: ps => if k < 0 ∨ (xss.length : Int) ≤ k ∨ k ∈ done then false else if ∀ x ∈ xss.getD k.toNat [], x ∈ done then rightFrom xss (done ++ [k]) ps else false

theorem rightFrom_step {xss : List (List Int)} {ps : List Int} {i : Nat} {k : Int} (h : ps[i]? = some k) : rightFrom xss (ps.take i) (ps.drop i) =
    if k < 0 ∨ (xss.length : Int) ≤ k ∨ k ∈ ps.take i then false else if ∀ x ∈ xss.getD k.toNat [], x ∈ ps.take i then rightFrom xss (ps.take (i + 1)) (ps.drop (i + 1)) else false := by
  have hd : ps.drop i = k :: ps.drop (i + 1) := by
    have hlt := lt_of_at h
    rw [List.drop_eq_getElem_cons hlt]
    congr 1
    rw [List.getElem?_eq_getElem hlt] at h
    exact Option.some.inj h
  have ht : ps.take (i + 1) = ps.take i ++ [k] := by rw [List.take_add_one, h]; rfl
  rw [hd, ht, rightFrom]

set_option maxHeartbeats 1000000 in
set_option maxRecDepth 100000 in
theorem right_any (A B : Option Addr) (c d : Nat) (xss : List (List Int)) (ps : List Int) (w : World) (hR : RII w A xss) (hV : Valid xss) (hP : RI w B ps) (hl : ps.length = xss.length) (r : Bool) (hr : Hid (rightFrom xss [] ps = r)) :
    Calls Try.prog 11 #[.slice A xss.length c, .slice B ps.length d] w fun e w' => e = .returned (.bool r) ∧ Below w.heap.size w w' := by
  have hlen := hV.1
  have HV := Lib.hid hV
  have HR := Lib.hid hR
  have HP := Lib.hid hP
  have Hl := Lib.hid hl
  have hq : ((ps.length : Int) != xss.length) = false := by rw [hl]; simp
  have hle : ps.length ≤ 40 := by omega
  clear hV hR hP hl
  obtain ⟨i1, hi, hz0, hz1, hz2⟩ := info_parts info_intO
  go_enter Try.func11, Try.ntmps11
  go_wp2_with (go_at_call 25; refine (check_ok _ _ _ _ HR.out HV.out).mono ?_; rintro e w' ⟨rfl, rfl⟩)
  go_loopw [5, 22] (fun v i wr => ∃ k : Nat, k ≤ ps.length ∧ i = .int .i64 k ∧ wr.ownsRow w.heap.size 3 1 v k ((ps.take k).map (Value.int .i64)) ∧ Hid (rightFrom xss (ps.take k) (ps.drop k) = r) ∧ Below w.heap.size w wr) (fun _ i _ => ps.length - (intOf i).toNat)
  case atStart => exact ⟨0, by omega, rfl, World.ownsRow_nil _ _ _ _, hr, Below.refl _ _⟩
  case round =>
    obtain ⟨k, hk, rfl, how, hri, hbel⟩ := hrel
    have How := Lib.hid how
    have Hbel := Lib.hid hbel
    clear how hbel
    by_cases hlt : k < ps.length
    · obtain ⟨p, hp⟩ := some_at hlt
      obtain ⟨b, o, rfl, hb, hc⟩ := HP.out (by omega)
      have c1 := (HP.out.below (Hbel.out.mono (Nat.le_refl _))).at_ hp
      have Hst := Lib.hid (hri.out.symm.trans (rightFrom_step (xss := xss) hp))
      have htk : (ps.take k).length = k := by simp; omega
      have Hp := Lib.hid hp
      clear hc hp
      by_cases h1 : p < 0
      · have hrf : r = false := by rw [Hst.out, if_pos (.inl h1)]
        subst hrf
        go_wp2
        go_ret
        exact ⟨rfl, Hbel.out⟩
      · by_cases h2 : (xss.length : Int) ≤ p
        · have hrf : r = false := by rw [Hst.out, if_pos (.inr (.inl h2))]
          subst hrf
          go_wp2
          go_ret
          exact ⟨rfl, Hbel.out⟩
        · have hd : decide (p < 0) = false := by simp; omega
          have hd2 : decide ((xss.length : Int) ≤ p) = false := by simp; omega
          obtain ⟨Av, cv, hv⟩ := own_slice How.out
          subst hv
          have hri2 := Lib.hid (RI.own How.out)
          obtain ⟨l, hl⟩ := some_at (l := xss) (k := p.toNat) (by omega)
          obtain ⟨q, rfl⟩ := Int.eq_ofNat_of_zero_le (show 0 ≤ p by omega)
          have hqx : (q : Int) < (xss.length : Int) := by omega
          obtain ⟨b', o', rfl, hb', hc'⟩ := HR.out (by omega)
          obtain ⟨Aj, cj, h3', h4⟩ := hc' _ l hl
          have h3 := (Hbel.out.cell (p := ⟨b', o' + q, none⟩) hb').trans h3'
          have H4 := Lib.hid h4
          have hll : l.length ≤ 40 := by have := HV.out.len hl; omega
          have Hq : Hid (xss.getD (q : Int).toNat [] = l) := by simpa [Hid, List.getD] using congrArg (·.getD []) hl
          clear hc' h4 hl h3'
          by_cases hm : (q : Int) ∈ ps.take k
          · have hrf : r = false := by rw [Hst.out, if_pos (.inr (.inr hm))]
            subst hrf
            have Hm : Hid (true = decide ((q : Int) ∈ ps.take k)) := by simp [Hid, hm]
            clear hm
            go_wp2_with (go_at_call 12; refine (contains_any _ _ _ _ _ _ _ hri2.out htk (by unfold maxLen; omega) Hm).mono ?_; rintro e w' ⟨rfl, rfl⟩)
            go_ret
            exact ⟨rfl, Hbel.out⟩
          · have Hm : Hid (false = decide ((q : Int) ∈ ps.take k)) := by simp [Hid, hm]
            have Hst2 : Hid (r = if ∀ x ∈ l, x ∈ ps.take k then rightFrom xss (ps.take (k + 1)) (ps.drop (k + 1)) else false) := by
              have := Hst.out
              rw [if_neg (by rintro (h | h | h) <;> first | omega | exact hm h), Hq.out] at this
              exact this
            clear hm Hst
            go_wp2_with (go_at_call 12; refine (contains_any _ _ _ _ _ _ _ hri2.out htk (by unfold maxLen; omega) Hm).mono ?_; rintro e w' ⟨rfl, rfl⟩)
            go_loop [44] (fun i => ∃ j : Nat, j ≤ l.length ∧ i = .int .i64 j ∧ Hid (∀ x ∈ l.take j, x ∈ ps.take k)) (fun i => l.length - (intOf i).toNat)
            case atStart => exact ⟨0, by omega, rfl, by simp [Hid]⟩
            case round =>
              obtain ⟨j, hj, rfl, hall⟩ := hrel
              by_cases hlt' : j < l.length
              · obtain ⟨x, hx⟩ := some_at hlt'
                obtain ⟨b'', o'', rfl, hb'', hc''⟩ := H4.out (by omega)
                have c2 := (H4.out.below (Hbel.out.mono (Nat.le_refl _))).at_ hx
                have Hx := Lib.hid hx
                clear hc'' hx
                by_cases hm : x ∈ ps.take k
                · have Hm2 : Hid (true = decide (x ∈ ps.take k)) := by simp [Hid, hm]
                  have hall2 : Hid (∀ x ∈ l.take (j + 1), x ∈ ps.take k) := by
                    intro z hz
                    rw [List.take_add_one, Hx.out] at hz
                    rcases List.mem_append.1 hz with hz | hz
                    · exact hall.out z hz
                    · have : z = x := by simpa using hz
                      rw [this]; exact hm
                  clear hm
                  go_wp2_with (go_at_call 12; refine (contains_any _ _ _ _ _ _ _ hri2.out htk (by unfold maxLen; omega) Hm2).mono ?_; rintro e w' ⟨rfl, rfl⟩)
                  go_round
                  case rel => exact ⟨j + 1, by omega, by go_num, hall2⟩
                  case measure => simp [intOf]; omega
                · have Hm2 : Hid (false = decide (x ∈ ps.take k)) := by simp [Hid, hm]
                  have hrf : r = false := by
                    rw [Hst2.out, if_neg (fun h => hm (h x (List.mem_of_getElem? Hx.out)))]
                  subst hrf
                  clear hm
                  go_wp2_with (go_at_call 12; refine (contains_any _ _ _ _ _ _ _ hri2.out htk (by unfold maxLen; omega) Hm2).mono ?_; rintro e w' ⟨rfl, rfl⟩)
                  go_ret
                  exact ⟨rfl, Hbel.out⟩
              · have hjl : j = l.length := by omega
                have Hst3 : Hid (rightFrom xss (ps.take (k + 1)) (ps.drop (k + 1)) = r) := by
                  have := hall.out
                  rw [hjl, List.take_length] at this
                  have h2 := Hst2.out
                  rw [if_pos this] at h2
                  exact h2.symm
                have hbs := Hbel.out.size
                have H0 := Lib.hid (Hbel.out.alloc hbs (.cells #[.int .i64 (q : Int)] 3))
                go_wp2_with (at_builtin; refine wpList_append_one _ rfl (.tmp 53) (.tmp 55) 22 rfl w.heap.size 3 i1 (.int .i64 0) 8 Try.underlying22 hi hz0 hz1 hz2 rfl (.slice Av k cv) k _ rfl (How.out.alloc _) wr.heap.size (.int .i64 (q : Int)) rfl (World.cell?_alloc_at _ _ _ _ rfl) rfl (by unfold maxLen; omega) (by omega) (by simp; omega) ?_; intro v1 w1 hown1 hg1; have H1 := Lib.hid (below_append H0.out (How.out.alloc _) hg1 (by simp; omega)); have Hown1 := Lib.hid hown1; clear hown1 hg1)
                go_roundw
                case rel =>
                  refine ⟨k + 1, by omega, by go_num, ?_, Hst3, H1.out⟩
                  have := Hown1.out
                  rw [List.take_add_one, Hp.out]
                  simpa using this
                case measure => simp [intOf]; omega
    · have hkx : k = ps.length := by omega
      have hrt : r = true := by rw [← hri.out, hkx]; simp [rightFrom]
      subst hrt
      go_wp2
      go_ret
      exact ⟨rfl, Hbel.out⟩
end Go.Proofs.Ytbhbbnmllokglaa

namespace Go.Proofs.Ytbhbbnmllokglaa
open Go.RowKit
set_option linter.unusedVariables false

def litW (w : World) (p q : Int) : World :=
  ((((w.alloc (.cells #[] 3)).alloc (.cells #[.int .i64 0] 3)).alloc (.cells #[.slice (some ⟨w.heap.size, 0, none⟩) 0 0, .slice (some ⟨w.heap.size + 1, 0, none⟩) 1 1] 22)).alloc
    (.cells #[.int .i64 p, .int .i64 q] 3))
theorem litW_below {B : Nat} {w0 w : World} (h : Below B w0 w) (hB : B ≤ w.heap.size) (p q : Int) : Below B w0 (litW w p q) :=
  (((h.alloc hB _).alloc (by simp; omega) _).alloc (by simp; omega) _).alloc (by simp; omega) _
theorem litW_rii (w : World) (p q : Int) : RII (litW w p q) (some ⟨w.heap.size + 1 + 1, 0, none⟩) [[], [0]] := by
  have b1 : Blk (litW w p q) (w.heap.size + 1) 3 #[.int .i64 0] := by
    have := ((Blk.new (w.alloc (.cells #[] 3)) 3 #[.int .i64 0]).alloc (.cells #[.slice (some ⟨w.heap.size, 0, none⟩) 0 0, .slice (some ⟨w.heap.size + 1, 0, none⟩) 1 1] 22)).alloc (.cells #[.int .i64 p, .int .i64 q] 3)
    simpa [litW] using this
  have b2 : Blk (litW w p q) (w.heap.size + 1 + 1) 22 #[.slice (some ⟨w.heap.size, 0, none⟩) 0 0, .slice (some ⟨w.heap.size + 1, 0, none⟩) 1 1] := by
    have := (Blk.new ((w.alloc (.cells #[] 3)).alloc (.cells #[.int .i64 0] 3)) 22 #[.slice (some ⟨w.heap.size, 0, none⟩) 0 0, .slice (some ⟨w.heap.size + 1, 0, none⟩) 1 1]).alloc (.cells #[.int .i64 p, .int .i64 q] 3)
    simpa [litW] using this
  refine fun _ => ⟨_, 0, rfl, b2.lt, fun j l hj => ?_⟩
  rw [Nat.zero_add, b2.cell]
  rcases j with _ | _ | j
  · simp at hj; subst hj
    exact ⟨_, _, rfl, RI.nil _ _⟩
  · simp at hj; subst hj
    refine ⟨_, _, rfl, fun _ => ⟨_, 0, rfl, b1.lt, fun i x hi => ?_⟩⟩
    rw [Nat.zero_add, b1.cell]
    rcases i with _ | i
    · simp at hi; subst hi; rfl
    · simp at hi
  · simp at hj
theorem litW_ri (w : World) (p q : Int) : RI (litW w p q) (some ⟨w.heap.size + 1 + 1 + 1, 0, none⟩) [p, q] := by
  have b1 : Blk (litW w p q) (w.heap.size + 1 + 1 + 1) 3 #[.int .i64 p, .int .i64 q] := by
    have := (Blk.new (((w.alloc (.cells #[] 3)).alloc (.cells #[.int .i64 0] 3)).alloc (.cells #[.slice (some ⟨w.heap.size, 0, none⟩) 0 0, .slice (some ⟨w.heap.size + 1, 0, none⟩) 1 1] 22)) 3 #[.int .i64 p, .int .i64 q])
    simpa [litW] using this
  refine fun _ => ⟨_, 0, rfl, b1.lt, fun i x hi => ?_⟩
  rw [Nat.zero_add, b1.cell]
  rcases i with _ | _ | i
  · simp at hi; subst hi; rfl
  · simp at hi; subst hi; rfl
  · simp at hi
theorem lit_valid : Valid [[], [0]] := by
  refine ⟨by simp, fun k l hk => ?_⟩
  rcases k with _ | _ | k
  · simp at hk; subst hk; simp
  · simp at hk; subst hk
    refine ⟨fun i x hi => ?_, fun i x y hi hj => by simp at hj⟩
    rcases i with _ | i <;> simp at hi
    omega
  · simp at hk
theorem right_lit (w : World) (p q : Int) (r : Bool) (hr : rightFrom [[], [0]] [] [p, q] = r) :
    Calls Try.prog 11 #[.slice (some ⟨w.heap.size + 1 + 1, 0, none⟩) 2 2, .slice (some ⟨w.heap.size + 1 + 1 + 1, 0, none⟩) 2 2] (litW w p q) fun e w' => e = .returned (.bool r) ∧ Below (litW w p q).heap.size (litW w p q) w' :=
  right_any _ _ 2 2 [[], [0]] [p, q] _ (litW_rii w p q) lit_valid (litW_ri w p q) rfl r hr

set_option maxHeartbeats 1000000 in
theorem ordered_ok (w : World) : Calls Try.prog 9 #[] w fun e w' => e = .returned (.bool true) ∧ Below w.heap.size w w' := by
  have H0 := Lib.hid (right_lit w 0 1 true (by decide))
  have B0 := Lib.hid (litW_below (Below.refl w.heap.size w) (Nat.le_refl _) 0 1)
  go_enter Try.func9, Try.ntmps9
  go_wp2_with fail
  refine H0.out.mono ?_
  rintro e w1 ⟨rfl, hb1⟩
  have hs := B0.out.size
  have B1 := Lib.hid (B0.out.trans (hb1.mono hs))
  have hs1 := B1.out.size
  have H1 := Lib.hid (right_lit w1 1 0 false (by decide))
  have B2 := Lib.hid (litW_below B1.out hs1 1 0)
  clear hb1
  go_wp2_with fail
  refine H1.out.mono ?_
  rintro e w2 ⟨rfl, hb2⟩
  have B3 := Lib.hid (B2.out.trans (hb2.mono B2.out.size))
  clear hb2
  go_wp2_with fail
  go_ret
  exact ⟨rfl, B3.out⟩
end Go.Proofs.Ytbhbbnmllokglaa
