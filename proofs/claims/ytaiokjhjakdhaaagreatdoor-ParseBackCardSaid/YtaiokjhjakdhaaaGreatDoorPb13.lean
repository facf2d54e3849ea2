/- The walks of word.skip, word.IsName, word.digits, word.IsNumber. -/
import Derived.Test.YtaiokjhjakdhaaaGreatDoorPb6
import Derived.Test.YtaiokjhjakdhaaaGreatDoorPb12
namespace Go.Proofs.YtaiokjhjakdhaaaGreatDoor
open Go.RowKit
set_option linter.unusedVariables false

/-- How many bytes are blanks and comments at the beginning (in a comment already, or not). -/
def skipC : Bool → List UInt8 → Nat
  | _, [] => 0
  | false, c :: r => if blankB c then skipC false r + 1 else if c == 35 then skipC true r + 1 else 0
  | true, c :: r => if c == 10 then skipC false r + 1 else skipC true r + 1
theorem skipC_le (b : Bool) (l : List UInt8) : skipC b l ≤ l.length := by
  induction l generalizing b with
  | nil => cases b <;> simp [skipC]
  | cons c r ih =>
    have h1 := ih false
    have h2 := ih true
    cases b <;> simp only [skipC, List.length_cons] <;> split <;> (try split) <;> omega

set_option maxHeartbeats 1000000 in
theorem skip_any (s : ByteArray) (a : Nat) (w : World) (hs : s.size ≤ 4096) (ha : a ≤ s.size) :
    Calls Tryz.prog 32 #[.string s, .int .i64 a] w fun e w' => e = .returned (.int .i64 ((a + skipC false (s.data.toList.drop a) : Nat) : Int)) ∧ w = w' := by
  go_enter Tryz.func32, Tryz.ntmps32
  go_wp2_with fail
  go_loop [1] (fun i => ∃ k : Nat, a ≤ k ∧ k ≤ s.size ∧ i = .int .i64 k ∧ Hid (a + skipC false (s.data.toList.drop a) = k + skipC false (s.data.toList.drop k))) (fun i => s.size - (intOf i).toNat)
  case atStart => exact ⟨a, by omega, ha, rfl, rfl⟩
  case round =>
    obtain ⟨k, hak, hk, rfl, hrun⟩ := hrel
    by_cases hlt : k < s.size
    · have hd := Lib.hid (drop_at hlt)
      by_cases hc : blankB s[k] = true
      · have Hc := Lib.hid hc
        clear hc
        go_wp2_with (go_at_call 45; refine (blank_any _ _ true Hc).mono ?_; rintro e w' ⟨rfl, rfl⟩)
        go_round
        case rel => exact ⟨k + 1, by omega, by omega, by go_num, by have h1 := hrun.out; rw [hd.out, skipC, if_pos Hc.out] at h1; unfold Hid; omega⟩
        case measure => simp [intOf]; omega
      · have hc' : blankB s[k] = false := by simpa using hc
        have Hc := Lib.hid hc'
        clear hc hc'
        by_cases h35 : (s[k].toNat : Int) = 35
        · have e35 : (s[k] == 35) = true := (u8_eq _ _).2 h35
          have hq : ((s[k].toNat : Int) == 35) = true := by simpa using h35
          have Hrun2 : Hid (a + skipC false (s.data.toList.drop a) = k + skipC true (s.data.toList.drop k)) := by
            have h1 := hrun.out
            rw [hd.out, skipC, if_neg (by rw [Hc.out]; simp), if_pos e35] at h1
            unfold Hid
            rw [hd.out, skipC, if_neg (by rw [beq_iff_eq]; intro h; rw [h] at e35; revert e35; decide)]
            exact h1
          have H35 := Lib.hid h35
          clear h35 e35
          go_wp2_with (go_at_call 45; refine (blank_any _ _ false Hc).mono ?_; rintro e w' ⟨rfl, rfl⟩)
          go_loop [1] (fun i => ∃ j : Nat, k ≤ j ∧ j ≤ s.size ∧ i = .int .i64 j ∧ Hid (a + skipC false (s.data.toList.drop a) = j + skipC true (s.data.toList.drop j))) (fun i => s.size - (intOf i).toNat)
          case atStart => exact ⟨k, by omega, by omega, rfl, Hrun2⟩
          case round =>
            clear hq
            obtain ⟨j, hkj, hj, rfl, hrj⟩ := hrel
            by_cases hlj : j < s.size
            · have hdj := Lib.hid (drop_at hlj)
              by_cases h10 : (s[j].toNat : Int) = 10
              · have hq2 : ((s[j].toNat : Int) != 10) = false := by simp [h10]
                have hjk : k < j := by
                  rcases Nat.lt_or_ge k j with h | h
                  · exact h
                  · have : j = k := by omega
                    subst this
                    have := H35.out
                    omega
                have hrn : Hid (a + skipC false (s.data.toList.drop a) = j + skipC false (s.data.toList.drop j)) := by
                  have h1 := hrj.out
                  have e10 : (s[j] == 10) = true := (u8_eq _ _).2 h10
                  have eb : blankB s[j] = true := (blank_iff _).2 (.inr h10)
                  rw [hdj.out, skipC, if_pos e10] at h1
                  unfold Hid
                  rw [hdj.out, skipC, if_pos eb]
                  exact h1
                clear h10
                go_wp2_with fail
                go_round
                case rel => exact ⟨j, by omega, by omega, rfl, hrn⟩
                case measure => simp [intOf]; omega
              · have hq2 : ((s[j].toNat : Int) != 10) = true := by simp; omega
                have hrn : Hid (a + skipC false (s.data.toList.drop a) = (j + 1) + skipC true (s.data.toList.drop (j + 1))) := by
                  have h1 := hrj.out
                  have e10 : (s[j] == 10) = false := by rw [Bool.eq_false_iff]; intro h; exact h10 ((u8_eq _ _).1 h)
                  rw [hdj.out, skipC, if_neg (by rw [e10]; simp)] at h1
                  unfold Hid
                  omega
                clear h10
                go_wp2_with fail
                go_round
                case rel => exact ⟨j + 1, by omega, by omega, by go_num, hrn⟩
                case measure => simp [intOf]; omega
            · have hjs : j = s.size := by omega
              have hrn : Hid (a + skipC false (s.data.toList.drop a) = j + skipC false (s.data.toList.drop j)) := by
                have h1 := hrj.out
                have hn : s.data.toList.drop j = [] := List.drop_eq_nil_of_le (by simp [hjs])
                rw [hn] at h1
                unfold Hid
                rw [hn]
                simpa [skipC] using h1
              clear hjs
              go_wp2_with fail
              go_round
              case rel => exact ⟨j, by omega, by omega, rfl, hrn⟩
              case measure => simp [intOf]; omega
        · have e35 : (s[k] == 35) = false := by rw [Bool.eq_false_iff]; intro h; exact h35 ((u8_eq _ _).1 h)
          have hq : ((s[k].toNat : Int) == 35) = false := by simpa using h35
          have hfin : Hid (a + skipC false (s.data.toList.drop a) = k) := by
            have h1 := hrun.out
            rw [hd.out, skipC, if_neg (by rw [Hc.out]; simp), if_neg (by rw [e35]; simp)] at h1
            exact h1
          clear h35 e35
          go_wp2_with (go_at_call 45; refine (blank_any _ _ false Hc).mono ?_; rintro e w' ⟨rfl, rfl⟩)
          go_ret
          exact ⟨ret_int (by have := hfin.out; omega), rfl⟩
    · have hks : k = s.size := by omega
      have hfin : Hid (a + skipC false (s.data.toList.drop a) = k) := by
        have h1 := hrun.out
        rw [show s.data.toList.drop k = [] from List.drop_eq_nil_of_le (by simp [hks])] at h1
        simpa [Hid, skipC] using h1
      clear hks
      go_wp2_with fail
      go_ret
      exact ⟨ret_int (by have := hfin.out; omega), rfl⟩

/-- Is a text made of 1 to so many bytes of a class? -/
def isIsName (l : List UInt8) : Bool := !l.isEmpty && decide (l.length ≤ 12) && l.all letterB

set_option maxHeartbeats 1000000 in
theorem IsName_any (s : ByteArray) (w : World) (hs : s.size ≤ maxLen) (r : Bool) (hr : Hid (isIsName s.data.toList = r)) :
    Calls Tryz.prog 39 #[.string s] w fun e w' => e = .returned (.bool r) ∧ w = w' := by
  unfold maxLen at hs
  have hlen : s.data.toList.length = s.size := by simp
  have Hlen := Lib.hid hlen
  clear hlen
  by_cases h0 : s.size = 0
  · have hq : ((s.size : Int) == 0) = true := by simp [h0]
    have hrf : r = false := by
      rw [← hr.out, isIsName, List.isEmpty_iff_length_eq_zero.2 (by rw [Hlen.out]; exact h0)]; rfl
    subst hrf
    clear h0
    go_enter Tryz.func39, Tryz.ntmps39
    go_wp2_with fail
    go_ret
    exact ⟨rfl, rfl⟩
  · have hq : ((s.size : Int) == 0) = false := beq_eq_false_iff_ne.2 (by omega)
    by_cases h1 : s.size ≤ 12
    · have hall : Hid (r = s.data.toList.all letterB) := by
        unfold Hid
        rw [← hr.out, isIsName]
        have e1 : s.data.toList.isEmpty = false := by rw [Bool.eq_false_iff]; intro h; exact h0 (by rw [← Hlen.out]; exact List.isEmpty_iff_length_eq_zero.1 h)
        have e2 : decide (s.data.toList.length ≤ 12) = true := by rw [Hlen.out]; simpa using h1
        rw [e1, e2]; simp
      have Hq0 := Lib.hid h0
      clear h0
      go_enter Tryz.func39, Tryz.ntmps39
      go_wp2_with fail
      go_loop [14] (fun i => ∃ k : Nat, k ≤ s.size ∧ i = .int .i64 k ∧ Hid ((s.data.toList.take k).all letterB = true)) (fun i => s.size - (intOf i).toNat)
      case atStart => exact ⟨0, by omega, rfl, by simp [Hid]⟩
      case round =>
        obtain ⟨k, hk, rfl, ha⟩ := hrel
        by_cases hlt : k < s.size
        · have hb := Lib.hid (byte_at hlt)
          by_cases hc : letterB s[k] = true
          · have Hc := Lib.hid hc
            clear hc
            go_wp2_with (go_at_call 46; refine (letter_any _ _ true Hc).mono ?_; rintro e w' ⟨rfl, rfl⟩)
            go_round
            case rel =>
              refine ⟨k + 1, by omega, by go_num, ?_⟩
              unfold Hid
              rw [List.take_add_one, hb.out, List.all_append, ha.out]
              simp [Hc.out]
            case measure => simp [intOf]; omega
          · have hc' : letterB s[k] = false := by simpa using hc
            have hrf : r = false := by
              rw [hall.out, List.all_eq_false]
              exact ⟨s[k], List.mem_of_getElem? hb.out, by rw [hc']; simp⟩
            have Hc := Lib.hid hc'
            subst hrf
            clear hc hc'
            go_wp2_with (go_at_call 46; refine (letter_any _ _ false Hc).mono ?_; rintro e w' ⟨rfl, rfl⟩)
            go_ret
            exact ⟨rfl, rfl⟩
        · have hks : k = s.size := by omega
          have hrt : r = true := by
            have := ha.out
            rw [List.take_of_length_le (by rw [Hlen.out]; omega)] at this
            rw [hall.out, this]
          subst hrt
          clear hks
          go_wp2_with fail
          go_ret
          exact ⟨rfl, rfl⟩
    · have hrf : r = false := by
        rw [← hr.out, isIsName, show decide (s.data.toList.length ≤ 12) = false by rw [Hlen.out]; simpa using h1]; simp
      subst hrf
      have Hq0 := Lib.hid h0
      clear h0
      go_enter Tryz.func39, Tryz.ntmps39
      go_wp2_with fail
      go_ret
      exact ⟨rfl, rfl⟩

/-- Is a text made of 1 to so many bytes of a class? -/
def isdigits (l : List UInt8) : Bool := !l.isEmpty && decide (l.length ≤ 9) && l.all digitB

set_option maxHeartbeats 1000000 in
theorem wdigits_any (s : ByteArray) (w : World) (hs : s.size ≤ maxLen) (r : Bool) (hr : Hid (isdigits s.data.toList = r)) :
    Calls Tryz.prog 65 #[.string s] w fun e w' => e = .returned (.bool r) ∧ w = w' := by
  unfold maxLen at hs
  have hlen : s.data.toList.length = s.size := by simp
  have Hlen := Lib.hid hlen
  clear hlen
  by_cases h0 : s.size = 0
  · have hq : ((s.size : Int) == 0) = true := by simp [h0]
    have hrf : r = false := by
      rw [← hr.out, isdigits, List.isEmpty_iff_length_eq_zero.2 (by rw [Hlen.out]; exact h0)]; rfl
    subst hrf
    clear h0
    go_enter Tryz.func65, Tryz.ntmps65
    go_wp2_with fail
    go_ret
    exact ⟨rfl, rfl⟩
  · have hq : ((s.size : Int) == 0) = false := beq_eq_false_iff_ne.2 (by omega)
    by_cases h1 : s.size ≤ 9
    · have hall : Hid (r = s.data.toList.all digitB) := by
        unfold Hid
        rw [← hr.out, isdigits]
        have e1 : s.data.toList.isEmpty = false := by rw [Bool.eq_false_iff]; intro h; exact h0 (by rw [← Hlen.out]; exact List.isEmpty_iff_length_eq_zero.1 h)
        have e2 : decide (s.data.toList.length ≤ 9) = true := by rw [Hlen.out]; simpa using h1
        rw [e1, e2]; simp
      have Hq0 := Lib.hid h0
      clear h0
      go_enter Tryz.func65, Tryz.ntmps65
      go_wp2_with fail
      go_loop [14] (fun i => ∃ k : Nat, k ≤ s.size ∧ i = .int .i64 k ∧ Hid ((s.data.toList.take k).all digitB = true)) (fun i => s.size - (intOf i).toNat)
      case atStart => exact ⟨0, by omega, rfl, by simp [Hid]⟩
      case round =>
        obtain ⟨k, hk, rfl, ha⟩ := hrel
        by_cases hlt : k < s.size
        · have hb := Lib.hid (byte_at hlt)
          by_cases hc : digitB s[k] = true
          · have Hc := Lib.hid hc
            clear hc
            go_wp2_with (go_at_call 48; refine (digit_any _ _ true Hc).mono ?_; rintro e w' ⟨rfl, rfl⟩)
            go_round
            case rel =>
              refine ⟨k + 1, by omega, by go_num, ?_⟩
              unfold Hid
              rw [List.take_add_one, hb.out, List.all_append, ha.out]
              simp [Hc.out]
            case measure => simp [intOf]; omega
          · have hc' : digitB s[k] = false := by simpa using hc
            have hrf : r = false := by
              rw [hall.out, List.all_eq_false]
              exact ⟨s[k], List.mem_of_getElem? hb.out, by rw [hc']; simp⟩
            have Hc := Lib.hid hc'
            subst hrf
            clear hc hc'
            go_wp2_with (go_at_call 48; refine (digit_any _ _ false Hc).mono ?_; rintro e w' ⟨rfl, rfl⟩)
            go_ret
            exact ⟨rfl, rfl⟩
        · have hks : k = s.size := by omega
          have hrt : r = true := by
            have := ha.out
            rw [List.take_of_length_le (by rw [Hlen.out]; omega)] at this
            rw [hall.out, this]
          subst hrt
          clear hks
          go_wp2_with fail
          go_ret
          exact ⟨rfl, rfl⟩
    · have hrf : r = false := by
        rw [← hr.out, isdigits, show decide (s.data.toList.length ≤ 9) = false by rw [Hlen.out]; simpa using h1]; simp
      subst hrf
      have Hq0 := Lib.hid h0
      clear h0
      go_enter Tryz.func65, Tryz.ntmps65
      go_wp2_with fail
      go_ret
      exact ⟨rfl, rfl⟩
end Go.Proofs.YtaiokjhjakdhaaaGreatDoor
