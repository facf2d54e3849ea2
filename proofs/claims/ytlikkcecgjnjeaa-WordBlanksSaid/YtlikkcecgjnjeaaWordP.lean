/- The walks of word.Line, gantkeep4.worded and gantkeep4.WordPlaces. -/
import Derived.Test.YtlikkcecgjnjeaaWordG
import Derived.Deep.QuietTactic
import Derived.BigQuiet
namespace Go.Proofs.Ytlikkcecgjnjeaa
open Go.RowKit
set_option linter.unusedVariables false

set_option maxHeartbeats 1000000 in
theorem Line_any (s : ByteArray) (a n : Nat) (w : World) (hs : s.size ≤ 4096) (ha : a ≤ s.size) (N : Hid (n = (s.data.toList.take a).count 10)) :
    Calls Try.prog 8 #[.string s, .int .i64 a] w fun e w' => e = .returned (.int .i64 (1 + n)) ∧ w = w' := by
  have hn : n ≤ s.size := by
    have h1 := List.count_le_length (a := (10 : UInt8)) (l := s.data.toList.take a)
    rw [← N.out, List.length_take] at h1
    omega
  obtain ⟨u, hu⟩ : ∃ u, s.extract 0 a = u := ⟨_, rfl⟩
  have hul : u.data.toList = s.data.toList.take a := by rw [← hu, ext_list]; simp
  have U : Hid (s.extract 0 (min (a : Int) (s.size : Int)).toNat = u) := by
    unfold Hid
    rw [show (min (a : Int) (s.size : Int)).toNat = a by omega]; exact hu
  have L : Hid (Lib.countByte u.data.toList 10 = n) := by
    unfold Hid
    rw [hul, N.out]; rfl
  clear hu hul
  go_enter Try.func8, Try.ntmps8
  go_wp2_with fail
  rw [U.out]
  refine (Try.strings_Count_one u 10 _).mono ?_
  rintro e w' ⟨rfl, rfl⟩
  rw [L.out]
  go_wp2_with fail
  go_ret
  exact ⟨rfl, rfl⟩

theorem worded_read : readS ([115, 101, 101, 32, 98, 111, 108, 116, 59] : List UInt8) = some [⟨1, 0, ⟨#[115, 101, 101]⟩⟩, ⟨1, 4, ⟨#[98, 111, 108, 116]⟩⟩, ⟨3, 8, ⟨#[59]⟩⟩] := by
  rw [readS, if_pos (by decide), show skipC false [115, 101, 101, 32, 98, 111, 108, 116, 59] = 0 by decide, List.drop_zero]
  rw [readW_step (by simp) (by decide), show wKind [115, 101, 101, 32, 98, 111, 108, 116, 59] = 1 by decide, show wLen [115, 101, 101, 32, 98, 111, 108, 116, 59] = 3 by decide]
  rw [show List.drop 3 ([115, 101, 101, 32, 98, 111, 108, 116, 59] : List UInt8) = [32, 98, 111, 108, 116, 59] from rfl, show skipC false [32, 98, 111, 108, 116, 59] = 1 by decide, show List.drop 1 ([32, 98, 111, 108, 116, 59] : List UInt8) = [98, 111, 108, 116, 59] from rfl]
  rw [readW_step (by simp) (by decide), show wKind [98, 111, 108, 116, 59] = 1 by decide, show wLen [98, 111, 108, 116, 59] = 4 by decide]
  rw [show List.drop 4 ([98, 111, 108, 116, 59] : List UInt8) = [59] from rfl, show skipC false [59] = 0 by decide, List.drop_zero]
  rw [readW_step (by simp) (by decide), show wKind [59] = 3 by decide, show wLen [59] = 1 by decide]
  rw [show List.drop 1 ([59] : List UInt8) = [] from rfl, show skipC false [] = 0 by decide, List.drop_zero, readW]
  rfl

set_option maxHeartbeats 1000000 in
theorem worded_any (w : World) :
    Calls Try.prog 7 #[] w fun e w' => e = .returned (.bool true) ∧ Below w.heap.size w w' := by
  have H := Lib.hid worded_read
  go_enter Try.func7, Try.ntmps7
  go_wp2_with fail
  refine (Read_any _ _ (by decide)).mono ?_
  rintro e w1 ⟨v, er, rfl, hb, h⟩
  rcases h with ⟨rfl, ws, hws, _, ho⟩ | ⟨_, h⟩
  · have he := Option.some.inj (hws.symm.trans H.out)
    subst he
    have hl := own_slice ho
    obtain ⟨A, c, rfl⟩ := hl
    obtain ⟨g, cap, hA, _, _⟩ := ho.form (by decide)
    obtain ⟨rfl, rfl⟩ : A = some ⟨g, 0, none⟩ ∧ c = cap := by injection hA with h1 _ h3; exact ⟨h1, h3⟩
    have d7 : w1.cell? ⟨g, 7, none⟩ = some (.int .i64 8) := ho.cells (g := g) rfl 7 (.int .i64 8) rfl
    have B1 := Lib.hid hb
    clear ho hws hA hb
    go_wp2_with fail
    go_ret
    exact ⟨rfl, B1.out⟩
  · cases h.symm.trans H.out

theorem RW.own {w : World} {base : Nat} {e : TypeId} {A : Option Addr} {n c : Nat} {ws : List Wd} (h : w.ownsRow base e 3 (.slice A n c) ws.length (wcells ws)) : RW w A ws := by
  intro hp
  obtain ⟨g, cap, hv, _, hlt⟩ := h.form hp
  have hA : A = some ⟨g, 0, none⟩ := by injection hv
  subst hA
  obtain rfl : n = ws.length := by injection hv
  refine ⟨g, 0, rfl, hlt, fun j u hj => ?_⟩
  obtain ⟨h1, h2, h3⟩ := wcells_at hj
  have k1 := h.cells (g := g) rfl _ _ h1
  have k2 := h.cells (g := g) rfl _ _ h2
  have k3 := h.cells (g := g) rfl _ _ h3
  simp only [Addr.add_lit, Nat.add_assoc] at k1 k2 k3 ⊢
  exact ⟨k1, k2, k3⟩
theorem RW.below {w w' : World} {A : Option Addr} {ws : List Wd} (h : RW w A ws) (hb : Below w.heap.size w w') : RW w' A ws := by
  intro hp
  obtain ⟨b, o, rfl, hlt, hc⟩ := h hp
  refine ⟨b, o, rfl, Nat.lt_of_lt_of_le hlt hb.size, fun j u hj => ?_⟩
  obtain ⟨h1, h2, h3⟩ := hc j u hj
  exact ⟨(hb.cell (p := ⟨b, o + j * 3, none⟩) hlt).trans h1, (hb.cell (p := ⟨b, o + j * 3 + 1, none⟩) hlt).trans h2, (hb.cell (p := ⟨b, o + j * 3 + 2, none⟩) hlt).trans h3⟩

/-- The words lie in the text one behind another. -/
def Placed (s : ByteArray) : Nat → List Wd → Prop
  | _, [] => True
  | e, x :: r => e ≤ x.pos ∧ x.pos + x.text.size ≤ s.size ∧ s.extract x.pos (x.pos + x.text.size) = x.text ∧ Placed s (x.pos + x.text.size) r
theorem Placed.le {s : ByteArray} {a b : Nat} {ws : List Wd} (h : Placed s b ws) (hab : a ≤ b) : Placed s a ws := by
  cases ws with
  | nil => trivial
  | cons x r => exact ⟨by have := h.1; omega, h.2⟩
theorem placed_read (s : ByteArray) : ∀ (n k : Nat) (ws : List Wd), s.size - k ≤ n → k ≤ s.size → readW k (s.data.toList.drop k) = some ws → Placed s k ws := by
  intro n
  induction n with
  | zero =>
    intro k ws hn hk h
    rw [List.drop_eq_nil_of_le (by simp; omega), readW] at h
    cases h; trivial
  | succ n ih =>
    intro k ws hn hk h
    by_cases hlt : k < s.size
    · have hnil : s.data.toList.drop k ≠ [] := by rw [drop_at hlt]; simp
      by_cases hkd : wKind (s.data.toList.drop k) = 0
      · rw [readW_bad hnil hkd] at h; cases h
      · rw [readW_step hnil hkd] at h
        obtain ⟨ws', hws, rfl⟩ := Option.map_eq_some_iff.1 h
        have hle := wLen_le (s.data.toList.drop k)
        rw [drop_len] at hle
        have hpos : 1 ≤ wLen (s.data.toList.drop k) := by
          obtain ⟨c, r, hcr⟩ := List.exists_cons_of_ne_nil hnil
          rw [hcr]; exact wLen_pos _ _
        rw [List.drop_drop, List.drop_drop] at hws
        have hsk := skipC_le false (s.data.toList.drop (k + wLen (s.data.toList.drop k)))
        rw [drop_len] at hsk
        have hr := ih _ ws' (by omega) (by omega) hws
        have hsz : (ByteArray.mk ((s.data.toList.drop k).take (wLen (s.data.toList.drop k))).toArray).size = wLen (s.data.toList.drop k) := by
          rw [← ext_eq, ext_size _ _ _ (by omega)]; omega
        refine ⟨Nat.le_refl _, ?_, ?_, ?_⟩
        · simp only [hsz]; omega
        · simp only [hsz]; exact ext_eq _ _ _
        · simp only [hsz]; exact hr.le (by omega)
    · have : k = s.size := by omega
      rw [List.drop_eq_nil_of_le (by simp; omega), readW] at h
      cases h; trivial
theorem placed_S {s : ByteArray} {ws : List Wd} (h : readS s.data.toList = some ws) : Placed s 0 ws ∧ s.size ≤ 4096 := by
  unfold readS at h
  split at h
  · rename_i hl
    have hle := skipC_le false s.data.toList
    simp only [Array.length_toList] at hle hl
    have hh := placed_read s s.size _ ws (by omega) hle h
    exact ⟨hh.le (by omega), hl⟩
  · cases h
theorem placed_at {s : ByteArray} : ∀ {ws : List Wd} {e k : Nat} {x : Wd}, Placed s e ws → ws[k]? = some x → x.pos + x.text.size ≤ s.size ∧ s.extract x.pos (x.pos + x.text.size) = x.text ∧ Placed s (x.pos + x.text.size) (ws.drop (k + 1)) := by
  intro ws
  induction ws with
  | nil => intro e k x _ h; simp at h
  | cons y r ih =>
    intro e k x h hk
    cases k with
    | zero => simp at hk; subst hk; exact h.2
    | succ k => exact ih h.2.2.2 (by simpa using hk)
end Go.Proofs.Ytlikkcecgjnjeaa
