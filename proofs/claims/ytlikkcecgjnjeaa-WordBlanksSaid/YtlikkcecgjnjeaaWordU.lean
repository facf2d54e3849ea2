/- The walks of slices.Clone and slices.Equal at words, and of texts. -/
import Derived.Test.YtlikkcecgjnjeaaWordM
namespace Go.Proofs.Ytlikkcecgjnjeaa
open Go.RowKit
set_option linter.unusedVariables false

set_option maxHeartbeats 1000000 in
theorem clone_word (A : Option Addr) (n c : Nat) (vs : List Value) (w : World) (hb : n ≤ 4096) (hX : Src w (.slice A n c) 3 n vs) (h1 : ∀ u ∈ vs, u.oneCell' = true) :
    Calls Try.prog 19 #[.slice A n c] w fun e w' => ∃ v, e = .returned v ∧ w'.ownsRow w.heap.size 28 3 v n vs ∧ Below w.heap.size w w' := by
  have HX := Lib.hid hX
  have H1 := Lib.hid h1
  have hnl := fun (w : World) (a : Option Addr) (n c : Nat) => Lib.run_eql_slice_nil (P := Try.prog) w 22 28 a n c 0 0 Try.underlying22
  obtain ⟨i0, hi, hz0, hz1, hz2⟩ := info_parts info_word
  clear hX h1
  rcases A with _ | a
  · have h0 : n = 0 ∧ vs = [] := by
      obtain ⟨hl, h⟩ := HX.out
      rcases h with ⟨h, rfl⟩ | ⟨b, o, c', h, _⟩
      · exact ⟨rfl, List.eq_nil_of_length_eq_zero (by simpa using hl)⟩
      · cases h
    obtain ⟨rfl, rfl⟩ := h0
    go_enter Try.func19, Try.ntmps19
    go_wp2_with fail
    go_ret
    exact ⟨_, rfl, World.ownsRow_nil _ _ _ _, Below.refl _ _⟩
  · have hA : ∃ b o, a = ⟨b, o, none⟩ ∧ ∀ (j : Nat) (u : Value), vs[j]? = some u → w.cell? ⟨b, o + j, none⟩ = some u := by
      obtain ⟨_, h⟩ := HX.out
      rcases h with ⟨h, _⟩ | ⟨b, o, c', h, hc⟩
      · cases h
      · cases h; exact ⟨b, o, rfl, hc⟩
    obtain ⟨b, o, rfl, hc⟩ := hA
    have B0 := Lib.hid ((Below.refl w.heap.size w).alloc (Nat.le_refl _) (.cells #[] 28))
    have X0 : Hid (Src (w.alloc (.cells #[] 28)) (.slice (some ⟨b, o, none⟩) n c) 3 n vs) :=
      ⟨HX.out.1, .inr ⟨b, o, c, rfl, fun j u hu => by
        have h := hc j u hu
        exact (B0.out.cell (p := ⟨b, o + j, none⟩) (World.block_lt_of_cell? w _ h)).trans h⟩⟩
    have O0 : Hid ((w.alloc (.cells #[] 28)).ownsRow w.heap.size 28 3 (.slice (some ⟨w.heap.size, 0, none⟩) 0 0) 0 []) := World.ownsRow_lit w #[] 0 (Nat.le_refl _) (by simp [maxLen]) (by simp)
    have S0 := Lib.hid B0.out.size
    clear hc
    go_enter Try.func19, Try.ntmps19
    go_wp2_with (at_builtin; refine wpList_append_src _ rfl (.tmp 5) (.tmp 6) 22 rfl w.heap.size 28 i0 _ 3 32 Try.underlying22 hi hz0 hz1 hz2 rfl (by decide) _ 0 [] rfl O0.out n vs _ rfl X0.out H1.out (by unfold maxLen; omega) (by omega) S0.out ?_; intro v7 w7 hown7 hg7; have B7 := Lib.hid (below_append B0.out O0.out hg7 S0.out); have U7 := Lib.hid hown7; clear hown7 hg7)
    go_ret
    exact ⟨v7, rfl, by simpa using U7.out, B7.out⟩

theorem Src.own {w : World} {base : Nat} {e : TypeId} {size n : Nat} {v : Value} {xs : List Value} (h : w.ownsRow base e size v n xs) : Src w v size n xs := by
  refine ⟨h.1, ?_⟩
  rcases h.2 with ⟨hv, h0⟩ | ⟨g, cap, cur, hv, _⟩
  · exact .inl ⟨hv, h0⟩
  · refine .inr ⟨g, 0, cap, hv, fun j u hu => ?_⟩
    have := h.cells (g := g) (by rw [hv]; rfl) j u hu
    simpa [Addr.add_lit] using this

def Wd.zero (x : Wd) : Wd := ⟨x.kind, 0, x.text⟩
theorem SameW.zero {ws vs : List Wd} (h : SameW ws vs) : ws.map Wd.zero = vs.map Wd.zero := by
  have := congrArg (List.map fun p : Nat × ByteArray => (⟨p.1, 0, p.2⟩ : Wd)) h
  rw [List.map_map, List.map_map] at this
  exact this

/-- The first words of the row have the offset 0. -/
def Zed (w : World) (B : Nat) (A : Option Addr) (k : Nat) (ws : List Wd) : Prop :=
  0 < ws.length → ∃ g cs, A = some ⟨g, 0, none⟩ ∧ B ≤ g ∧ Blk w g 28 cs ∧ ∀ j u, ws[j]? = some u → cs[j * 3]? = some (.int .i64 u.kind) ∧ cs[j * 3 + 1]? = some (.int .i64 (if j < k then 0 else u.pos)) ∧ cs[j * 3 + 2]? = some (.string u.text)
theorem Zed.start {w : World} {B c : Nat} {A : Option Addr} {ws : List Wd} (h : w.ownsRow B 28 3 (.slice A ws.length c) ws.length (wcells ws)) : Zed w B A 0 ws := by
  intro hp
  obtain ⟨g, cap, hv, _, hlt⟩ := h.form hp
  cases hv
  rcases h.2 with ⟨hv, _⟩ | ⟨g', cap, cur, hv, hB, hg, _⟩
  · cases hv
  · cases hv
    refine ⟨g, cur, rfl, hB, hg, fun j u hj => ?_⟩
    obtain ⟨h1, h2, h3⟩ := wcells_at hj
    have k1 := h.cells (g := g) rfl _ _ h1
    have k2 := h.cells (g := g) rfl _ _ h2
    have k3 := h.cells (g := g) rfl _ _ h3
    simp only [Addr.add_lit, Nat.zero_add] at k1 k2 k3
    rw [Blk.cell hg] at k1 k2 k3
    exact ⟨k1, by simpa using k2, k3⟩
theorem Zed.rw {w : World} {B : Nat} {A : Option Addr} {ws : List Wd} (h : Zed w B A ws.length ws) : RW w A (ws.map Wd.zero) := by
  intro hp
  rw [List.length_map] at hp
  obtain ⟨g, cs, rfl, hB, hg, hc⟩ := h hp
  refine ⟨g, 0, rfl, hg.lt, fun j u hj => ?_⟩
  obtain ⟨x, hx, rfl⟩ : ∃ x, ws[j]? = some x ∧ x.zero = u := by simpa using hj
  obtain ⟨h1, h2, h3⟩ := hc j x hx
  rw [if_pos (lt_of_at hx)] at h2
  refine ⟨?_, ?_, ?_⟩
  · rw [hg.cell, Nat.zero_add]; exact h1
  · rw [hg.cell, Nat.zero_add]; exact h2
  · rw [hg.cell, Nat.zero_add]; exact h3
theorem zed_step {cs : Array Value} {k : Nat} {ws : List Wd} (hk : k < ws.length) (h : ∀ j u, ws[j]? = some u → cs[j * 3]? = some (.int .i64 u.kind) ∧ cs[j * 3 + 1]? = some (.int .i64 (if j < k then 0 else u.pos)) ∧ cs[j * 3 + 2]? = some (.string u.text)) :
    ∀ j u, ws[j]? = some u → (cs.setIfInBounds (k * 3 + 1) (.int .i64 0))[j * 3]? = some (.int .i64 u.kind) ∧ (cs.setIfInBounds (k * 3 + 1) (.int .i64 0))[j * 3 + 1]? = some (.int .i64 (if j < k + 1 then 0 else u.pos)) ∧ (cs.setIfInBounds (k * 3 + 1) (.int .i64 0))[j * 3 + 2]? = some (.string u.text) := by
  intro j u hj
  obtain ⟨h1, h2, h3⟩ := h j u hj
  refine ⟨?_, ?_, ?_⟩
  · rw [Array.getElem?_setIfInBounds_ne (by omega)]; exact h1
  · by_cases e : j = k
    · subst e
      obtain ⟨hh, _⟩ := Array.getElem?_eq_some_iff.1 h2
      rw [Array.getElem?_setIfInBounds_self_of_lt hh, if_pos (by omega)]
    · rw [Array.getElem?_setIfInBounds_ne (by omega), h2]
      congr 2
      by_cases e2 : j < k
      · rw [if_pos e2, if_pos (by omega)]
      · rw [if_neg e2, if_neg (by omega)]
  · rw [Array.getElem?_setIfInBounds_ne (by omega)]; exact h3

set_option maxHeartbeats 4000000 in
theorem texts_any (base : Nat) (v : Value) (ws : List Wd) (w : World) (ho : w.ownsRow base 28 3 v ws.length (wcells ws)) (hl : ws.length ≤ 4096) :
    Calls Try.prog 13 #[v] w fun e w' => ∃ A c, e = .returned (.slice A ws.length c) ∧ RW w' A (ws.map Wd.zero) ∧ Below w.heap.size w w' := by
  obtain ⟨A, c, rfl⟩ := own_slice ho
  have S0 := Lib.hid (Src.own ho)
  clear ho
  go_enter Try.func13, Try.ntmps13
  go_wp2_with fail
  refine (clone_word A ws.length c (wcells ws) _ hl S0.out (wcells_one ws)).mono ?_
  rintro e w1 ⟨v1, rfl, ho1, hb1⟩
  obtain ⟨A1, c1, rfl⟩ := own_slice ho1
  have B1 := Lib.hid hb1
  have Z1 := Lib.hid (Zed.start ho1)
  clear ho1 hb1
  go_wp2_with fail
  go_loopw [9] (fun i wr => ∃ k : Nat, i = .int .i64 k ∧ k ≤ ws.length ∧ Hid (Zed wr w.heap.size A1 k ws) ∧ Hid (Below w.heap.size w wr)) (fun i _ => ws.length - (intOf i).toNat)
  case atStart => exact ⟨0, rfl, by omega, Z1, B1⟩
  case round =>
    obtain ⟨k, rfl, hk, Zl, Bl⟩ := hrel
    by_cases hlt : k < ws.length
    · obtain ⟨x, hx⟩ := some_at hlt
      obtain ⟨g, cs, rfl, hB, hg, hc⟩ := Zl.out (by omega)
      have C := Lib.hid hc
      have G := Lib.hid hg
      obtain ⟨d0, d1, d2⟩ := hc k x hx
      rw [if_neg (by omega)] at d1
      have e1 := hg.cell (k * 3 + 1)
      rw [d1] at e1
      have f1 := hg.frozen (k * 3 + 1)
      clear hc d0 d1 d2 hx hg
      go_wp2_with fail
      go_roundw
      case rel => exact ⟨k + 1, by go_num, by omega, fun _ => ⟨g, _, rfl, hB, G.out.set_ (k * 3 + 1) (.int .i64 0), zed_step hlt C.out⟩, Bl.out.setCell hB _⟩
      case measure => simp [intOf]; omega
    · have hks : k = ws.length := by omega
      subst hks
      go_wp2_with fail
      go_ret
      exact ⟨A1, c1, rfl, Zl.out.rw, Bl.out⟩

set_option maxHeartbeats 4000000 in
theorem weq_any (A B : Option Addr) (n m c d : Nat) (zs : List Wd) (w : World) (hn : zs.length = n) (hm : zs.length = m) (hl : zs.length ≤ 4096) (hX : RW w A zs) (hY : RW w B zs) :
    Calls Try.prog 12 #[.slice A n c, .slice B m d] w fun e w' => e = .returned (.bool true) ∧ ∃ k, w' = w.drewN k := by
  subst hn
  subst hm
  have HX := Lib.hid hX
  have HY := Lib.hid hY
  clear hX hY
  have hq : ((zs.length : Int) != zs.length) = false := by simp
  go_enter Try.func12, Try.ntmps12
  go_wp2
  go_loopw [13] (fun i wr => ∃ k : Nat, k ≤ zs.length ∧ i = .int .i64 k ∧ ∃ n, wr = w.drewN n) (fun i _ => zs.length - (intOf i).toNat)
  case atStart => exact ⟨0, by omega, rfl, 0, rfl⟩
  case round =>
    obtain ⟨k, hk, rfl, n, rfl⟩ := hrel
    by_cases hlt : k < zs.length
    · obtain ⟨x, hx⟩ := some_at hlt
      obtain ⟨b, o, rfl, hb1, hc⟩ := HX.out (by omega)
      obtain ⟨b', o', rfl, hb1', hc'⟩ := HY.out (by omega)
      obtain ⟨a0, a1, a2⟩ := hc k x hx
      obtain ⟨b0, b1, b2⟩ := hc' k x hx
      have hkx : (k : Int) < (zs.length : Int) := by omega
      clear hc hc' hx
      go_wp2
      go_quiet (fail)
      go_wp2
      go_roundw
      case rel => exact ⟨k + 1, by omega, by go_num, _, rfl⟩
      case measure => simp [intOf]; omega
    · go_wp2
      go_ret
      exact ⟨rfl, _, rfl⟩
end Go.Proofs.Ytlikkcecgjnjeaa
