/- The walk of fact.Sound. -/
import Derived.Test.YtioofkhadjaldaaFactF
import Derived.Test.YtioofkhadjaldaaExt
namespace Go.Proofs.Ytioofkhadjaldaa
open Go.RowKit
set_option linter.unusedVariables false
set_option maxRecDepth 100000

/-- No two facts clash. -/
def SoundP (fs : List Fct) : Prop := ∀ f ∈ fs, ∀ g ∈ fs, ¬ clash f g
theorem clash0_symm_at {f g : Fct} (h : f.k = g.k) : clash0 f g ↔ clash0 g f := by unfold clash0; omega
theorem clash_symm (f g : Fct) : clash f g ↔ clash g f := by
  unfold clash
  have h1 : (f ≠ g) ↔ (g ≠ f) := ⟨Ne.symm, Ne.symm⟩
  by_cases h : g.k < f.k
  · rw [if_pos h, if_neg (by omega)]
    exact ⟨fun ⟨a, b, c, d⟩ => ⟨b, a, c.symm, d⟩, fun ⟨a, b, c, d⟩ => ⟨b, a, c.symm, d⟩⟩
  · by_cases h2 : f.k < g.k
    · rw [if_neg h, if_pos h2]
      exact ⟨fun ⟨a, b, c, d⟩ => ⟨b, a, c.symm, d⟩, fun ⟨a, b, c, d⟩ => ⟨b, a, c.symm, d⟩⟩
    · rw [if_neg h, if_neg h2, clash0_symm_at (by omega)]
      exact ⟨fun ⟨a, b, c, d⟩ => ⟨b, a, c.symm, d⟩, fun ⟨a, b, c, d⟩ => ⟨b, a, c.symm, d⟩⟩
theorem clash_self (f : Fct) : ¬ clash f f := fun h => h.2.2.1 rfl
/-- No fact of the list clashes with an earlier one. -/
def SoundTo (fs : List Fct) (k : Nat) : Prop := ∀ (i j : Nat) (f g : Fct), i < k → j < i → fs[i]? = some f → fs[j]? = some g → ¬ clash f g
theorem SoundTo.all {fs : List Fct} (h : SoundTo fs fs.length) : SoundP fs := by
  intro f hf g hg hc
  obtain ⟨i, hi⟩ := List.mem_iff_getElem?.1 hf
  obtain ⟨j, hj⟩ := List.mem_iff_getElem?.1 hg
  rcases Nat.lt_trichotomy j i with h1 | h1 | h1
  · exact h i j f g (lt_of_at hi) h1 hi hj hc
  · subst h1
    rw [hi] at hj
    cases hj
    exact clash_self f hc
  · exact h j i g f (lt_of_at hj) h1 hj hi ((clash_symm f g).1 hc)

set_option maxHeartbeats 4000000 in
theorem Sound_any (A : Option Addr) (n c : Nat) (fs : List Fct) (w : World) (hR : RF w A fs) (hn : fs.length = n) (hm : n ≤ 1000) (hc : n ≤ c) :
    Calls Try.prog 22 #[.slice A n c] w fun e w' => (∃ r, e = .returned (.bool r) ∧ Says r (SoundP fs)) ∧ Below w.heap.size w w' := by
  subst hn
  have R0 := Lib.hid hR
  clear hR
  go_enter Try.func22, Try.ntmps22
  go_wp2_with fail
  go_loopw [9] (fun i wr => ∃ k : Nat, i = .int .i64 k ∧ k ≤ fs.length ∧ Hid (SoundTo fs k) ∧ Hid (Below w.heap.size w wr)) (fun i _ => fs.length - (intOf i).toNat)
  case atStart => exact ⟨0, rfl, by omega, fun i j f g hi => by omega, Below.refl _ _⟩
  case round =>
    obtain ⟨k, rfl, hk, Sl, Bl⟩ := hrel
    have Zl := Lib.hid Bl.out.size
    by_cases hlt : k < fs.length
    · obtain ⟨x, hx⟩ := some_at hlt
      obtain ⟨b, o, rfl, hb, c0, c1, c2⟩ := RF.at (R0.out.below Bl.out) hx
      have Hx := Lib.hid hx
      have B3 := Lib.hid (Bl.out.alloc Zl.out (.cells #[.int .i64 x.k, .int .i64 x.a, .int .i64 x.b] 66))
      have X3 := Lib.hid (Blk.new wr 66 #[.int .i64 x.k, .int .i64 x.a, .int .i64 x.b])
      have hkc : k ≤ c := by omega
      clear hx
      go_wp2_with fail
      generalize hg : wr.heap.size = gx at X3
      clear hg
      go_loopw [18] (fun i wq => ∃ j : Nat, i = .int .i64 j ∧ j ≤ k ∧ Hid (∀ t g, t < j → fs[t]? = some g → ¬ clash x g) ∧ Hid (Blk wq gx 66 #[.int .i64 x.k, .int .i64 x.a, .int .i64 x.b]) ∧ Hid (Below w.heap.size w wq)) (fun i _ => fs.length - (intOf i).toNat)
      case atStart => exact ⟨0, rfl, by omega, fun t g ht => by omega, X3, B3⟩
      case round =>
        obtain ⟨j, rfl, hj, Cl, Xq, Bq⟩ := hrel
        have Zq := Lib.hid Bq.out.size
        by_cases hltj : j < k
        · obtain ⟨y, hy⟩ := some_at (l := fs) (k := j) (by omega)
          obtain ⟨b', o', hA, hb', y0, y1, y2⟩ := RF.at (R0.out.below Bq.out) hy
          cases hA
          have Hy := Lib.hid hy
          have B4 := Lib.hid (Bq.out.alloc Zq.out (.cells #[.int .i64 y.k, .int .i64 y.a, .int .i64 y.b] 66))
          have X4 := Lib.hid (Xq.out.alloc (.cells #[.int .i64 y.k, .int .i64 y.a, .int .i64 y.b] 66))
          have x0 := X4.out.cell 0
          have x1 := X4.out.cell 1
          have x2 := X4.out.cell 2
          have Z4 := Lib.hid B4.out.size
          clear hy
          go_wp2_with fail
          obtain ⟨r, hr⟩ : ∃ r, r = decide (clash x y) := ⟨_, rfl⟩
          refine (Clash_any x y _ r hr).mono ?_
          rintro e w5 ⟨rfl, hb5⟩
          have B5 := Lib.hid (B4.out.trans (hb5.mono Z4.out))
          have X5 := Lib.hid (X4.out.below hb5 X4.out.lt)
          have HR := Lib.hid hr
          clear hb5 hr x0 x1 x2
          cases r with
          | false =>
            go_wp2_with fail
            go_roundw
            case rel =>
              refine ⟨j + 1, by go_num, hltj, fun t g ht hg => ?_, X5, B5⟩
              by_cases e : t = j
              · subst e
                rw [Hy.out] at hg
                cases hg
                exact of_decide_eq_false HR.out.symm
              · exact Cl.out t g (by omega) hg
            case measure => simp [intOf]; omega
          | true =>
            go_wp2_with fail
            go_ret
            exact ⟨⟨false, rfl, Says.f fun h => h x (List.mem_of_getElem? Hx.out) y (List.mem_of_getElem? Hy.out) (of_decide_eq_true HR.out.symm)⟩, B5.out⟩
        · have hjk : j = k := by omega
          have Sl2 : Hid (SoundTo fs (k + 1)) := by
            intro i j' f g hi hj' hf hg
            by_cases e : i = k
            · subst e
              rw [Hx.out] at hf
              cases hf
              exact Cl.out j' g (by omega) hg
            · exact Sl.out i j' f g (by omega) hj' hf hg
          clear hjk
          go_wp2_with fail
          go_roundw
          case rel => exact ⟨k + 1, by go_num, hlt, Sl2, Bq⟩
          case measure => simp [intOf]; omega
    · have hkn : k = fs.length := by omega
      have S2 : Hid (SoundP fs) := SoundTo.all (by have := Sl.out; rwa [hkn] at this)
      clear hkn
      go_wp2_with fail
      go_ret
      exact ⟨⟨true, rfl, Says.t S2.out⟩, Bl.out⟩

end Go.Proofs.Ytioofkhadjaldaa
