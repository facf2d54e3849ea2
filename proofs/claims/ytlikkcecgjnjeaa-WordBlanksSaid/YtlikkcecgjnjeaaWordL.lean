/- Plain laws of reading: words that stand with gaps between them are read back. -/
import Derived.Test.YtlikkcecgjnjeaaWordP
namespace Go.Proofs.Ytlikkcecgjnjeaa
open Go.RowKit
set_option linter.unusedVariables false

def brkB (c : UInt8) : Bool := c == 32 || c == 10 || c == 35
/-- Nothing follows, or a blank, or a comment. -/
def Brk (r : List UInt8) : Prop := ∀ c, r.head? = some c → brkB c = true

theorem brk_letter {c : UInt8} (h : brkB c = true) : letterB c = false := by
  unfold brkB at h
  simp only [Bool.or_eq_true, beq_iff_eq] at h
  rcases h with (rfl | rfl) | rfl <;> decide
theorem brk_digit {c : UInt8} (h : brkB c = true) : digitB c = false := by
  unfold brkB at h
  simp only [Bool.or_eq_true, beq_iff_eq] at h
  rcases h with (rfl | rfl) | rfl <;> decide
theorem brk_47 {c : UInt8} (h : brkB c = true) : c ≠ 47 := by
  unfold brkB at h
  simp only [Bool.or_eq_true, beq_iff_eq] at h
  rcases h with (rfl | rfl) | rfl <;> decide
theorem letter_head {c : UInt8} (h : letterB c = true) : blankB c = false ∧ (c == 35) = false := by
  have h1 := (letter_iff c).1 h
  refine ⟨?_, ?_⟩
  · rw [Bool.eq_false_iff]; intro hb; have := (blank_iff c).1 hb; omega
  · rw [Bool.eq_false_iff]; intro hb
    have : (c.toNat : Int) = 35 := (u8_eq c 35).1 hb
    omega
theorem digit_head {c : UInt8} (h : digitB c = true) : blankB c = false ∧ (c == 35) = false := by
  have h1 := (digit_iff c).1 h
  refine ⟨?_, ?_⟩
  · rw [Bool.eq_false_iff]; intro hb; have := (blank_iff c).1 hb; omega
  · rw [Bool.eq_false_iff]; intro hb
    have : (c.toNat : Int) = 35 := (u8_eq c 35).1 hb
    omega
theorem sign_head {c : UInt8} (h : signB c = true) : blankB c = false ∧ (c == 35) = false := by
  have h1 := (sign_iff c).1 h
  refine ⟨?_, ?_⟩
  · rw [Bool.eq_false_iff]; intro hb; have := (blank_iff c).1 hb; omega
  · rw [Bool.eq_false_iff]; intro hb
    have : (c.toNat : Int) = 35 := (u8_eq c 35).1 hb
    omega

theorem runN_all (p : UInt8 → Bool) : ∀ (t r : List UInt8), t.all p = true → (∀ c, r.head? = some c → p c = false) → runN p (t ++ r) = t.length := by
  intro t
  induction t with
  | nil =>
    intro r _ hr
    cases r with
    | nil => rfl
    | cons c r => rw [List.nil_append, runN_cons, if_neg (by rw [hr c rfl]; simp)]; rfl
  | cons a t ih =>
    intro r ht hr
    simp only [List.all_cons, Bool.and_eq_true] at ht
    rw [List.cons_append, runN_cons, if_pos ht.1, ih r ht.2 hr]; rfl
theorem take_runN (p : UInt8 → Bool) (l : List UInt8) : (l.take (runN p l)).all p = true := by
  induction l with
  | nil => rfl
  | cons a l ih =>
    rw [runN_cons]
    split
    · rename_i h; rw [List.take_succ_cons, List.all_cons, h, ih]; rfl
    · rfl
theorem runN_stop (p : UInt8 → Bool) (l : List UInt8) (c : UInt8) (h : l[runN p l]? = some c) : p c = false := by
  induction l with
  | nil => simp at h
  | cons a l ih =>
    rw [runN_cons] at h
    split at h
    · rw [List.getElem?_cons_succ] at h; exact ih h
    · rename_i hn
      simp at h; subst h; simpa using hn

/-- Words: a kind and a text that are read so wherever they stand, if a break follows. -/
def GoodW (k : Nat) (t : List UInt8) : Prop :=
  k ≠ 0 ∧ (∃ c r, t = c :: r ∧ blankB c = false ∧ (c == 35) = false) ∧ ∀ r, Brk r → wLen (t ++ r) = t.length ∧ wKind (t ++ r) = k
/-- What the program calls a valid word. -/
def ValidW (k : Nat) (t : List UInt8) : Prop :=
  (k = 1 ∧ isIsName t = true) ∨ (k = 2 ∧ isNumL t = true) ∨ (k = 3 ∧ ∃ c, t = [c] ∧ signB c = true)

theorem Brk.letter {r : List UInt8} (h : Brk r) : ∀ c, r.head? = some c → letterB c = false := fun c hc => brk_letter (h c hc)
theorem Brk.digit {r : List UInt8} (h : Brk r) : ∀ c, r.head? = some c → digitB c = false := fun c hc => brk_digit (h c hc)

theorem good_of_read (l : List UInt8) (hk : wKind l ≠ 0) : GoodW (wKind l) (l.take (wLen l)) ∧ ValidW (wKind l) (l.take (wLen l)) := by
  cases l with
  | nil => exact absurd rfl hk
  | cons c l =>
    by_cases hc : letterB c = true
    · have hl : wLen (c :: l) = runN letterB (c :: l) := by simp only [wLen, hc, if_true]
      have hkd : wKind (c :: l) = if isIsName ((c :: l).take (wLen (c :: l))) then 1 else 0 := by
        conv => lhs; unfold wKind
        simp only [hc, if_true]
      have hn : isIsName ((c :: l).take (wLen (c :: l))) = true := by
        cases hq : isIsName ((c :: l).take (wLen (c :: l)))
        · rw [hq] at hkd; exact absurd hkd hk
        · rfl
      rw [hn] at hkd
      simp only [if_true] at hkd
      have hall : ((c :: l).take (wLen (c :: l))).all letterB = true := by rw [hl]; exact take_runN _ _
      obtain ⟨t, ht⟩ : ∃ t, (c :: l).take (wLen (c :: l)) = c :: t := by
        have hp := wLen_pos c l
        obtain ⟨m, hm⟩ : ∃ m, wLen (c :: l) = m + 1 := ⟨wLen (c :: l) - 1, by omega⟩
        rw [hm]; exact ⟨_, List.take_succ_cons⟩
      rw [hkd]
      refine ⟨⟨by decide, ⟨c, t, ht, letter_head hc⟩, fun r hr => ?_⟩, .inl ⟨rfl, hn⟩⟩
      rw [ht] at hall hn ⊢
      have hrun : runN letterB ((c :: t) ++ r) = (c :: t).length := runN_all _ _ _ hall hr.letter
      have hl2 : wLen ((c :: t) ++ r) = (c :: t).length := by
        rw [← hrun]
        simp only [List.cons_append, wLen, hc, if_true]
      refine ⟨hl2, ?_⟩
      have : wKind ((c :: t) ++ r) = if isIsName (((c :: t) ++ r).take (wLen ((c :: t) ++ r))) then 1 else 0 := by
        conv => lhs; rw [List.cons_append]; unfold wKind
        simp only [hc, if_true]
        rfl
      rw [this, hl2, List.take_left, hn]; rfl
    · have hc' : letterB c = false := by simpa using hc
      by_cases hd : digitB c = true
      · have hl : wLen (c :: l) = numLen (c :: l) := by simp only [wLen, hc', hd, if_true]; rfl
        have hkd : wKind (c :: l) = if isNumL ((c :: l).take (wLen (c :: l))) then 2 else 0 := by
          conv => lhs; unfold wKind
          simp only [hc', hd, if_true]
          rfl
        have hn : isNumL ((c :: l).take (wLen (c :: l))) = true := by
          cases hq : isNumL ((c :: l).take (wLen (c :: l)))
          · rw [hq] at hkd; exact absurd hkd hk
          · rfl
        rw [hn] at hkd
        simp only [if_true] at hkd
        obtain ⟨t, ht⟩ : ∃ t, (c :: l).take (wLen (c :: l)) = c :: t := by
          have hp := wLen_pos c l
          obtain ⟨m, hm⟩ : ∃ m, wLen (c :: l) = m + 1 := ⟨wLen (c :: l) - 1, by omega⟩
          rw [hm]; exact ⟨_, List.take_succ_cons⟩
        rw [hkd]
        refine ⟨⟨by decide, ⟨c, t, ht, digit_head hd⟩, fun r hr => ?_⟩, .inr (.inl ⟨rfl, hn⟩)⟩
        have hnl : numLen ((c :: t) ++ r) = (c :: t).length := by
          rw [← ht, hl]
          generalize hL : c :: l = L at *
          have hle := numLen_le L
          unfold numLen
          by_cases hcond : runN digitB L + 1 < L.length ∧ L[runN digitB L]? = some 47 ∧ (L[runN digitB L + 1]?.any digitB) = true
          · rw [if_pos hcond]
            obtain ⟨h1, h2, h3⟩ := hcond
            obtain ⟨n, hnn⟩ : ∃ n, n = runN digitB L := ⟨_, rfl⟩
            rw [← hnn] at h1 h2 h3 ⊢
            obtain ⟨m, hm⟩ : ∃ m, m = runN digitB (L.drop (n + 1)) := ⟨_, rfl⟩
            rw [← hm]
            have hA : (L.take n).all digitB = true := by rw [hnn]; exact take_runN _ _
            have hB : ((L.drop (n + 1)).take m).all digitB = true := by rw [hm]; exact take_runN _ _
            have hmle : m ≤ L.length - (n + 1) := by
              have := runN_le digitB (L.drop (n + 1)); rw [List.length_drop] at this; omega
            have hm1 : 1 ≤ m := by
              cases hx : L[n + 1]? with
              | none => rw [hx] at h3; simp at h3
              | some x =>
                rw [hx] at h3
                have h3' : digitB x = true := by simpa using h3
                have hdc : L.drop (n + 1) = x :: L.drop (n + 2) := by
                  obtain ⟨hh, hxx⟩ := List.getElem?_eq_some_iff.1 hx
                  rw [List.drop_eq_getElem_cons hh, hxx]
                rw [hm, hdc]; exact runN_pos h3'
            have hsplit : L.take (n + 1 + m) = L.take n ++ (47 :: (L.drop (n + 1)).take m) := by
              rw [List.take_add, List.take_add_one, h2]
              simp
            have hlenA : (L.take n).length = n := by rw [List.length_take]; omega
            have hlenB : ((L.drop (n + 1)).take m).length = m := by rw [List.length_take, List.length_drop]; omega
            rw [hsplit]
            generalize hA' : L.take n = A at *
            generalize hB' : (L.drop (n + 1)).take m = Bq at *
            have r1 : runN digitB (A ++ 47 :: Bq ++ r) = n := by
              rw [List.append_assoc, runN_all _ _ _ hA (by intro c hc; simp at hc; subst hc; decide), hlenA]
            rw [r1]
            have e1 : (A ++ 47 :: Bq ++ r)[n]? = some 47 := by
              rw [List.append_assoc, List.getElem?_append_right (by omega), hlenA]; simp
            have e2 : (A ++ 47 :: Bq ++ r).drop (n + 1) = Bq ++ r := by
              rw [List.append_assoc, List.drop_append, hlenA, List.drop_eq_nil_of_le (by omega), show n + 1 - n = 1 by omega]; rfl
            have e3 : (A ++ 47 :: Bq ++ r)[n + 1]? = Bq[0]? := by
              have := List.getElem?_drop (xs := A ++ 47 :: Bq ++ r) (i := n + 1) (j := 0)
              rw [Nat.add_zero] at this
              rw [← this, e2, List.getElem?_append_left (by omega)]
            have e4 : (Bq[0]?.any digitB) = true := by
              cases Bq with
              | nil => simp at hlenB; omega
              | cons b Bq => simp only [List.all_cons, Bool.and_eq_true] at hB; simpa using hB.1
            rw [e1, e3, e2, runN_all _ _ _ hB hr.digit, hlenB, if_pos ⟨by simp; omega, rfl, e4⟩]
            simp; omega
          · rw [if_neg hcond]
            have hrunle := runN_le digitB L
            have hA : (L.take (runN digitB L)).all digitB = true := take_runN _ _
            have hlenA : (L.take (runN digitB L)).length = runN digitB L := by rw [List.length_take]; omega
            generalize hA' : L.take (runN digitB L) = A at *
            rw [runN_all _ _ _ hA hr.digit]
            rw [if_neg]
            rintro ⟨_, h2, _⟩
            rw [List.getElem?_append_right (by omega), Nat.sub_self] at h2
            have : r.head? = some 47 := by rw [← h2]; cases r <;> rfl
            exact brk_47 (hr _ this) rfl
        have hl2 : wLen ((c :: t) ++ r) = (c :: t).length := by
          rw [← hnl]
          simp only [List.cons_append, wLen, hc', hd, if_true]; rfl
        rw [ht] at hn ⊢
        refine ⟨hl2, ?_⟩
        have : wKind ((c :: t) ++ r) = if isNumL (((c :: t) ++ r).take (wLen ((c :: t) ++ r))) then 2 else 0 := by
          conv => lhs; rw [List.cons_append]; unfold wKind
          simp only [hc', hd, if_true]
          rfl
        rw [this, hl2, List.take_left, hn]; rfl
      · have hd' : digitB c = false := by simpa using hd
        have hl : ∀ l, wLen (c :: l) = 1 := fun l => by simp only [wLen, hc', hd']; rfl
        have hkd : ∀ l, wKind (c :: l) = if signB c then 3 else 0 := fun l => by simp only [wKind, hc', hd']; rfl
        have hs : signB c = true := by
          cases hq : signB c
          · rw [hkd, hq] at hk; exact absurd rfl hk
          · rfl
        have ht : (c :: l).take (wLen (c :: l)) = [c] := by rw [hl]; rfl
        rw [hkd, hs, ht]
        exact ⟨⟨by decide, ⟨c, [], rfl, sign_head hs⟩, fun r hr => ⟨hl _, by rw [List.singleton_append, hkd, hs]⟩⟩, .inr (.inr ⟨rfl, c, rfl, hs⟩)⟩
end Go.Proofs.Ytlikkcecgjnjeaa
