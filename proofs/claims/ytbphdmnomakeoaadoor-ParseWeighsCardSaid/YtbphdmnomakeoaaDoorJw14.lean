/- The walks of word.skip, word.IsName, word.digits, word.IsNumber. -/
import Derived.Test.YtbphdmnomakeoaaDoorJw7
import Derived.Test.YtbphdmnomakeoaaDoorJw3
namespace Go.Proofs.YtbphdmnomakeoaaDoor
open Go.RowKit
set_option linter.unusedVariables false

/-- How many bytes are blanks and comments at the beginning (in a comment already, or not). -/
def skipC : Bool → List UInt8 → Nat
  | _, [] => 0
  | false, c :: r => if blankB c then skipC false r + 1 else if c == 35 then skipC true r + 1 else 0
  | true, c :: r => if c == 10 then skipC false r + 1 else skipC true r + 1
theorem skipC_le (b : Bool) (l : List UInt8) : skipC b l ≤ l.length := by
  induction l generalizing b with
  | nil => cases b <;> simp [skipC]
  | cons c r ih =>
    have h1 := ih false
    have h2 := ih true
    cases b <;> simp only [skipC, List.length_cons] <;> split <;> (try split) <;> omega

/-- Is a text made of 1 to so many bytes of a class? -/
def isIsName (l : List UInt8) : Bool := !l.isEmpty && decide (l.length ≤ 12) && l.all letterB

set_option maxHeartbeats 1000000 in
theorem IsName_any (s : ByteArray) (w : World) (hs : s.size ≤ maxLen) (r : Bool) (hr : Hid (isIsName s.data.toList = r)) :
    Calls Tryd.prog 45 #[.string s] w fun e w' => e = .returned (.bool r) ∧ w = w' := by
  unfold maxLen at hs
  have hlen : s.data.toList.length = s.size := by simp
  have Hlen := Lib.hid hlen
  clear hlen
  by_cases h0 : s.size = 0
  · have hq : ((s.size : Int) == 0) = true := by simp [h0]
    have hrf : r = false := by
      rw [← hr.out, isIsName, List.isEmpty_iff_length_eq_zero.2 (by rw [Hlen.out]; exact h0)]; rfl
    subst hrf
    clear h0
    go_enter Tryd.func45, Tryd.ntmps45
    go_wp2_with fail
    go_ret
    exact ⟨rfl, rfl⟩
  · have hq : ((s.size : Int) == 0) = false := beq_eq_false_iff_ne.2 (by omega)
    by_cases h1 : s.size ≤ 12
    · have hall : Hid (r = s.data.toList.all letterB) := by
        unfold Hid
        rw [← hr.out, isIsName]
        have e1 : s.data.toList.isEmpty = false := by rw [Bool.eq_false_iff]; intro h; exact h0 (by rw [← Hlen.out]; exact List.isEmpty_iff_length_eq_zero.1 h)
        have e2 : decide (s.data.toList.length ≤ 12) = true := by rw [Hlen.out]; simpa using h1
        rw [e1, e2]; simp
      have Hq0 := Lib.hid h0
      clear h0
      go_enter Tryd.func45, Tryd.ntmps45
      go_wp2_with fail
      go_loop [14] (fun i => ∃ k : Nat, k ≤ s.size ∧ i = .int .i64 k ∧ Hid ((s.data.toList.take k).all letterB = true)) (fun i => s.size - (intOf i).toNat)
      case atStart => exact ⟨0, by omega, rfl, by simp [Hid]⟩
      case round =>
        obtain ⟨k, hk, rfl, ha⟩ := hrel
        by_cases hlt : k < s.size
        · have hb := Lib.hid (byte_at hlt)
          by_cases hc : letterB s[k] = true
          · have Hc := Lib.hid hc
            clear hc
            go_wp2_with (go_at_call 61; refine (letter_any _ _ true Hc).mono ?_; rintro e w' ⟨rfl, rfl⟩)
            go_round
            case rel =>
              refine ⟨k + 1, by omega, by go_num, ?_⟩
              unfold Hid
              rw [List.take_add_one, hb.out, List.all_append, ha.out]
              simp [Hc.out]
            case measure => simp [intOf]; omega
          · have hc' : letterB s[k] = false := by simpa using hc
            have hrf : r = false := by
              rw [hall.out, List.all_eq_false]
              exact ⟨s[k], List.mem_of_getElem? hb.out, by rw [hc']; simp⟩
            have Hc := Lib.hid hc'
            subst hrf
            clear hc hc'
            go_wp2_with (go_at_call 61; refine (letter_any _ _ false Hc).mono ?_; rintro e w' ⟨rfl, rfl⟩)
            go_ret
            exact ⟨rfl, rfl⟩
        · have hks : k = s.size := by omega
          have hrt : r = true := by
            have := ha.out
            rw [List.take_of_length_le (by rw [Hlen.out]; omega)] at this
            rw [hall.out, this]
          subst hrt
          clear hks
          go_wp2_with fail
          go_ret
          exact ⟨rfl, rfl⟩
    · have hrf : r = false := by
        rw [← hr.out, isIsName, show decide (s.data.toList.length ≤ 12) = false by rw [Hlen.out]; simpa using h1]; simp
      subst hrf
      have Hq0 := Lib.hid h0
      clear h0
      go_enter Tryd.func45, Tryd.ntmps45
      go_wp2_with fail
      go_ret
      exact ⟨rfl, rfl⟩

/-- Is a text made of 1 to so many bytes of a class? -/
def isdigits (l : List UInt8) : Bool := !l.isEmpty && decide (l.length ≤ 9) && l.all digitB

end Go.Proofs.YtbphdmnomakeoaaDoor
