/- Plain laws: what is read is good; what is laid with gaps is read back. -/
import Derived.Test.YtlikkcecgjnjeaaWordL
import Derived.Lib.Join
namespace Go.Proofs.Ytlikkcecgjnjeaa
open Go.RowKit
set_option linter.unusedVariables false

def Wd.t (x : Wd) : List UInt8 := x.text.data.toList
theorem read_good : ∀ (n k : Nat) (l : List UInt8) (ws : List Wd), l.length ≤ n → readW k l = some ws → ∀ x ∈ ws, GoodW x.kind x.t ∧ ValidW x.kind x.t := by
  intro n
  induction n with
  | zero =>
    intro k l ws hl h x hx
    have : l = [] := List.eq_nil_of_length_eq_zero (by omega)
    subst this
    rw [readW] at h; cases h; cases hx
  | succ n ih =>
    intro k l ws hl h x hx
    by_cases hnil : l = []
    · subst hnil; rw [readW] at h; cases h; cases hx
    · by_cases hkd : wKind l = 0
      · rw [readW_bad hnil hkd] at h; cases h
      · rw [readW_step hnil hkd] at h
        obtain ⟨ws', hws, rfl⟩ := Option.map_eq_some_iff.1 h
        have hpos : 1 ≤ wLen l := by
          obtain ⟨c, r, hcr⟩ := List.exists_cons_of_ne_nil hnil
          rw [hcr]; exact wLen_pos _ _
        have hlp : 1 ≤ l.length := by
          cases l with
          | nil => exact absurd rfl hnil
          | cons a l => simp
        rcases List.mem_cons.1 hx with rfl | hx
        · exact good_of_read l hkd
        · exact ih _ _ ws' (by simp only [List.length_drop]; omega) hws x hx
theorem readS_good {l : List UInt8} {ws : List Wd} (h : readS l = some ws) : ∀ x ∈ ws, GoodW x.kind x.t ∧ ValidW x.kind x.t := by
  unfold readS at h
  split at h
  · exact read_good _ _ _ ws (Nat.le_refl _) h
  · cases h

def wsum : List Wd → Nat
  | [] => 0
  | x :: r => x.text.size + wsum r
theorem placed_sum {s : ByteArray} : ∀ {ws : List Wd} {e : Nat}, Placed s e ws → e ≤ s.size → wsum ws ≤ s.size - e := by
  intro ws
  induction ws with
  | nil => intro e _ _; simp [wsum]
  | cons x r ih =>
    intro e h he
    obtain ⟨h1, h2, _, h4⟩ := h
    have := ih h4 h2
    simp only [wsum]; omega

structure IsGap (g : List UInt8) : Prop where
  head : ∃ c r, g = c :: r ∧ brkB c = true
  skip : ∀ rest, skipC false (g ++ rest) = g.length + skipC false rest
def lay : List (List UInt8) → List Wd → List UInt8
  | g :: gs, x :: ws => g ++ (x.t ++ lay gs ws)
  | _, _ => []
theorem lay_brk (gs : List (List UInt8)) (ws : List Wd) (hg : ∀ g ∈ gs, IsGap g) : Brk (lay gs ws) := by
  intro c hc
  cases gs with
  | nil => simp [lay] at hc
  | cons g gs =>
    cases ws with
    | nil => simp [lay] at hc
    | cons x ws =>
      obtain ⟨c', r, rfl, hb⟩ := (hg g (by simp)).head
      simp [lay] at hc
      subst hc; exact hb
theorem skip_good {k : Nat} {t : List UInt8} (h : GoodW k t) (r : List UInt8) : skipC false (t ++ r) = 0 := by
  obtain ⟨c, q, rfl, h1, h2⟩ := h.2.1
  rw [List.cons_append, skipC, if_neg (by rw [h1]; simp), if_neg (by rw [h2]; simp)]
/-- Two lists of words with the same kinds and texts. -/
def SameW (ws vs : List Wd) : Prop := ws.map (fun x => (x.kind, x.text)) = vs.map (fun x => (x.kind, x.text))
theorem read_one (x : Wd) (p : Nat) (L : List UInt8) (h : GoodW x.kind x.t) (hL : Brk L) : readW p (x.t ++ L) = (readW (p + x.t.length + skipC false L) (L.drop (skipC false L))).map (⟨x.kind, p, x.text⟩ :: ·) := by
  obtain ⟨h1, h2⟩ := h.2.2 L hL
  have hnil : x.t ++ L ≠ [] := by
    obtain ⟨c, q, hq, _⟩ := h.2.1
    rw [hq]; simp
  rw [readW_step hnil (by rw [h2]; exact h.1), h1, h2, List.drop_left, List.take_left]
  rfl
theorem read_lay : ∀ (ws : List Wd) (gs : List (List UInt8)) (p : Nat), gs.length = ws.length → (∀ g ∈ gs, IsGap g) → (∀ x ∈ ws, GoodW x.kind x.t) → ∃ vs, readW (p + skipC false (lay gs ws)) ((lay gs ws).drop (skipC false (lay gs ws))) = some vs ∧ SameW ws vs := by
  intro ws
  induction ws with
  | nil =>
    intro gs p hl _ _
    have : gs = [] := List.eq_nil_of_length_eq_zero (by simpa using hl)
    subst this
    exact ⟨[], by simp [lay, skipC, readW], rfl⟩
  | cons x ws ih =>
    intro gs p hl hg hw
    cases gs with
    | nil => simp at hl
    | cons g gs =>
      have hgd := hw x (by simp)
      obtain ⟨vs, hv, hsame⟩ := ih gs (p + g.length + x.t.length) (by simpa using hl) (fun g h => hg g (by simp [h])) (fun y h => hw y (by simp [h]))
      have hsk : skipC false (lay (g :: gs) (x :: ws)) = g.length := by
        rw [lay, (hg g (by simp)).skip, skip_good hgd]; rfl
      refine ⟨⟨x.kind, p + g.length, x.text⟩ :: vs, ?_, ?_⟩
      · rw [hsk, lay, List.drop_left, read_one x _ _ hgd (lay_brk gs ws fun g h => hg g (by simp [h])), hv]
        rfl
      · unfold SameW at hsame ⊢
        rw [List.map_cons, List.map_cons, hsame]
theorem gap_blank : IsGap [32] := ⟨⟨32, [], rfl, by decide⟩, fun rest => by simp [skipC, blankB]; omega⟩
theorem join_lay (x : Wd) (ws : List Wd) : Lib.join ((x :: ws).map (·.text.data.toList)) [32] = x.t ++ lay (List.replicate ws.length [32]) ws := by
  rw [List.map_cons, Lib.join_cons]
  congr 1
  induction ws with
  | nil => rfl
  | cons y ws ih =>
    rw [show Lib.joinTail [32] ((y :: ws).map (·.text.data.toList)) = ([32] ++ y.text.data.toList) ++ Lib.joinTail [32] (ws.map (·.text.data.toList)) by simp [Lib.joinTail], ih]
    simp only [List.length_cons, List.replicate_succ, lay, List.append_assoc]
    rfl
theorem read_join {ws : List Wd} (hw : ∀ x ∈ ws, GoodW x.kind x.t) (hl : (Lib.join (ws.map (·.text.data.toList)) [32]).length ≤ 4096) : ∃ vs, readS (Lib.join (ws.map (·.text.data.toList)) [32]) = some vs ∧ SameW ws vs := by
  cases ws with
  | nil => exact ⟨[], by simp [Lib.join, readS, skipC, readW], rfl⟩
  | cons x ws =>
    rw [readS, if_pos hl, join_lay]
    have hgd := hw x (by simp)
    have hgaps : ∀ g ∈ List.replicate ws.length [(32 : UInt8)], IsGap g := fun g hg => by
      rw [List.eq_of_mem_replicate hg]; exact gap_blank
    obtain ⟨vs, hv, hsame⟩ := read_lay ws (List.replicate ws.length [32]) (0 + x.t.length) (by simp) hgaps (fun y h => hw y (by simp [h]))
    refine ⟨⟨x.kind, 0, x.text⟩ :: vs, ?_, ?_⟩
    · rw [skip_good hgd, List.drop_zero, read_one x _ _ hgd (lay_brk _ _ hgaps), hv]; rfl
    · unfold SameW at hsame ⊢
      rw [List.map_cons, List.map_cons, hsame]
end Go.Proofs.Ytlikkcecgjnjeaa
