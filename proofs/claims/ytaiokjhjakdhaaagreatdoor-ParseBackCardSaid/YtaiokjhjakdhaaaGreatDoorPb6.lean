/- The walks of the small functions of package word. -/
import Derived.Test.YtaiokjhjakdhaaaGreatDoorProg
import Derived.Test.YtaiokjhjakdhaaaGreatDoorPb3
import Derived.BigGuardPart
namespace Go.Proofs.YtaiokjhjakdhaaaGreatDoor
open Go.RowKit
set_option linter.unusedVariables false

def letterB (c : UInt8) : Bool := 97 ≤ c && c ≤ 122
def digitB (c : UInt8) : Bool := 48 ≤ c && c ≤ 57
def blankB (c : UInt8) : Bool := c == 32 || c == 10
def signB (c : UInt8) : Bool := c == 123 || c == 125 || c == 59
theorem u8_eq (c d : UInt8) : (c == d) = true ↔ (c.toNat : Int) = d.toNat := by
  rw [beq_iff_eq, ← UInt8.toNat_inj]; omega
theorem letter_iff (c : UInt8) : letterB c = true ↔ 97 ≤ (c.toNat : Int) ∧ (c.toNat : Int) ≤ 122 := by
  unfold letterB
  simp [UInt8.le_iff_toNat_le]; omega
theorem digit_iff (c : UInt8) : digitB c = true ↔ 48 ≤ (c.toNat : Int) ∧ (c.toNat : Int) ≤ 57 := by
  unfold digitB
  simp [UInt8.le_iff_toNat_le]; omega
theorem blank_iff (c : UInt8) : blankB c = true ↔ (c.toNat : Int) = 32 ∨ (c.toNat : Int) = 10 := by
  unfold blankB
  rw [Bool.or_eq_true, u8_eq, u8_eq]; rfl
theorem sign_iff (c : UInt8) : signB c = true ↔ ((c.toNat : Int) = 123 ∨ (c.toNat : Int) = 125) ∨ (c.toNat : Int) = 59 := by
  unfold signB
  rw [Bool.or_eq_true, Bool.or_eq_true, u8_eq, u8_eq, u8_eq]; rfl

set_option maxHeartbeats 400000 in
theorem letter_any (c : UInt8) (w : World) (r : Bool) (hr : Hid (letterB c = r)) :
    Calls Tryz.prog 46 #[.int .u8 c.toNat] w fun e w' => e = .returned (.bool r) ∧ w = w' := by
  have h := Lib.hid (letter_iff c)
  by_cases h1 : 97 ≤ (c.toNat : Int)
  all_goals
    go_enter Tryz.func46, Tryz.ntmps46
    go_wp2
    go_ret
    exact ⟨ret_bool (by rw [← hr.out, Bool.eq_iff_iff, h.out]; simp; try omega), rfl⟩

set_option maxHeartbeats 400000 in
theorem digit_any (c : UInt8) (w : World) (r : Bool) (hr : Hid (digitB c = r)) :
    Calls Tryz.prog 48 #[.int .u8 c.toNat] w fun e w' => e = .returned (.bool r) ∧ w = w' := by
  have h := Lib.hid (digit_iff c)
  by_cases h1 : 48 ≤ (c.toNat : Int)
  all_goals
    go_enter Tryz.func48, Tryz.ntmps48
    go_wp2
    go_ret
    exact ⟨ret_bool (by rw [← hr.out, Bool.eq_iff_iff, h.out]; simp; try omega), rfl⟩

set_option maxHeartbeats 400000 in
theorem blank_any (c : UInt8) (w : World) (r : Bool) (hr : Hid (blankB c = r)) :
    Calls Tryz.prog 45 #[.int .u8 c.toNat] w fun e w' => e = .returned (.bool r) ∧ w = w' := by
  have h := Lib.hid (blank_iff c)
  by_cases h1 : (c.toNat : Int) = 32
  · have H1 := Lib.hid h1
    have hq : ((c.toNat : Int) == 32) = true := by simpa using h1
    clear h1
    go_enter Tryz.func45, Tryz.ntmps45
    go_wp2
    go_ret
    exact ⟨ret_bool (by rw [← hr.out, (h.out).2 (.inl H1.out)]), rfl⟩
  · have H1 := Lib.hid h1
    have hq : ((c.toNat : Int) == 32) = false := by simpa using h1
    clear h1
    go_enter Tryz.func45, Tryz.ntmps45
    go_wp2
    go_ret
    exact ⟨ret_bool (by rw [← hr.out, Bool.eq_iff_iff, h.out]; have := H1.out; simp [this]), rfl⟩

set_option maxHeartbeats 400000 in
theorem sign_any (c : UInt8) (w : World) (r : Bool) (hr : Hid (signB c = r)) :
    Calls Tryz.prog 49 #[.int .u8 c.toNat] w fun e w' => e = .returned (.bool r) ∧ w = w' := by
  have h := Lib.hid (sign_iff c)
  by_cases h1 : (c.toNat : Int) = 123
  · have H1 := Lib.hid h1
    have hq : ((c.toNat : Int) == 123) = true := by simpa using h1
    clear h1
    go_enter Tryz.func49, Tryz.ntmps49
    go_wp2
    go_ret
    exact ⟨ret_bool (by rw [← hr.out, (h.out).2 (.inl (.inl H1.out))]), rfl⟩
  · have H1 := Lib.hid h1
    have hq : ((c.toNat : Int) == 123) = false := by simpa using h1
    clear h1
    by_cases h2 : (c.toNat : Int) = 125
    · have H2 := Lib.hid h2
      have hq2 : ((c.toNat : Int) == 125) = true := by simpa using h2
      clear h2
      go_enter Tryz.func49, Tryz.ntmps49
      go_wp2
      go_ret
      exact ⟨ret_bool (by rw [← hr.out, (h.out).2 (.inl (.inr H2.out))]), rfl⟩
    · have H2 := Lib.hid h2
      have hq2 : ((c.toNat : Int) == 125) = false := by simpa using h2
      clear h2
      go_enter Tryz.func49, Tryz.ntmps49
      go_wp2
      go_ret
      exact ⟨ret_bool (by rw [← hr.out, Bool.eq_iff_iff, h.out]; have := H1.out; have := H2.out; simp [*]), rfl⟩

/-- Of a string the byte at k. -/
theorem byte_at {s : ByteArray} {k : Nat} (h : k < s.size) : s.data.toList[k]? = some s[k] := by
  rw [List.getElem?_eq_getElem (by simpa using h)]; rfl

/-- How many bytes of a class stand at the beginning. -/
def runN (p : UInt8 → Bool) (l : List UInt8) : Nat := (l.takeWhile p).length
theorem runN_cons (p : UInt8 → Bool) (c : UInt8) (l : List UInt8) : runN p (c :: l) = if p c then runN p l + 1 else 0 := by
  unfold runN
  rw [List.takeWhile_cons]
  split <;> simp
theorem runN_le (p : UInt8 → Bool) (l : List UInt8) : runN p l ≤ l.length := by
  unfold runN
  exact (List.takeWhile_sublist p).length_le
theorem drop_at {s : ByteArray} {k : Nat} (h : k < s.size) : s.data.toList.drop k = s[k] :: s.data.toList.drop (k + 1) := by
  rw [List.drop_eq_getElem_cons (by simpa using h)]; rfl

set_option maxHeartbeats 1000000 in
theorem run_letter (s : ByteArray) (a : Nat) (w : World) (hs : s.size ≤ 4096) (ha : a ≤ s.size) :
    Calls Tryz.prog 47 #[.string s, .int .i64 a, .func (.func 46) #[] #[]] w fun e w' => e = .returned (.int .i64 ((a + runN letterB (s.data.toList.drop a) : Nat) : Int)) ∧ w = w' := by
  go_enter Tryz.func47, Tryz.ntmps47
  go_wp2_with fail
  go_loop [1] (fun i => ∃ k : Nat, a ≤ k ∧ k ≤ s.size ∧ i = .int .i64 k ∧ Hid (a + runN letterB (s.data.toList.drop a) = k + runN letterB (s.data.toList.drop k))) (fun i => s.size - (intOf i).toNat)
  case atStart => exact ⟨a, by omega, ha, rfl, rfl⟩
  case round =>
    obtain ⟨k, hak, hk, rfl, hrun⟩ := hrel
    by_cases hlt : k < s.size
    · have hd := Lib.hid (drop_at hlt)
      by_cases hc : letterB s[k] = true
      · have Hc := Lib.hid hc
        clear hc
        go_wp2_with (go_at_call 46; refine (letter_any _ _ true Hc).mono ?_; rintro e w' ⟨rfl, rfl⟩)
        go_round
        case rel => exact ⟨k + 1, by omega, by omega, by go_num, by have h1 := hrun.out; rw [hd.out, runN_cons, if_pos Hc.out] at h1; unfold Hid; omega⟩
        case measure => simp [intOf]; omega
      · have hc' : letterB s[k] = false := by simpa using hc
        have Hc := Lib.hid hc'
        clear hc hc'
        go_wp2_with (go_at_call 46; refine (letter_any _ _ false Hc).mono ?_; rintro e w' ⟨rfl, rfl⟩)
        go_ret
        exact ⟨ret_int (by have h1 := hrun.out; rw [hd.out, runN_cons, if_neg (by rw [Hc.out]; simp)] at h1; omega), rfl⟩
    · have hks : k = s.size := by omega
      have hfin : Hid (a + runN letterB (s.data.toList.drop a) = k) := by
        have h1 := hrun.out
        rw [show s.data.toList.drop k = [] from List.drop_eq_nil_of_le (by simp [hks])] at h1
        simpa [Hid, runN] using h1
      clear hks
      go_wp2_with fail
      go_ret
      exact ⟨ret_int (by have := hfin.out; omega), rfl⟩

set_option maxHeartbeats 1000000 in
theorem run_digit (s : ByteArray) (a : Nat) (w : World) (hs : s.size ≤ 4096) (ha : a ≤ s.size) :
    Calls Tryz.prog 47 #[.string s, .int .i64 a, .func (.func 48) #[] #[]] w fun e w' => e = .returned (.int .i64 ((a + runN digitB (s.data.toList.drop a) : Nat) : Int)) ∧ w = w' := by
  go_enter Tryz.func47, Tryz.ntmps47
  go_wp2_with fail
  go_loop [1] (fun i => ∃ k : Nat, a ≤ k ∧ k ≤ s.size ∧ i = .int .i64 k ∧ Hid (a + runN digitB (s.data.toList.drop a) = k + runN digitB (s.data.toList.drop k))) (fun i => s.size - (intOf i).toNat)
  case atStart => exact ⟨a, by omega, ha, rfl, rfl⟩
  case round =>
    obtain ⟨k, hak, hk, rfl, hrun⟩ := hrel
    by_cases hlt : k < s.size
    · have hd := Lib.hid (drop_at hlt)
      by_cases hc : digitB s[k] = true
      · have Hc := Lib.hid hc
        clear hc
        go_wp2_with (go_at_call 48; refine (digit_any _ _ true Hc).mono ?_; rintro e w' ⟨rfl, rfl⟩)
        go_round
        case rel => exact ⟨k + 1, by omega, by omega, by go_num, by have h1 := hrun.out; rw [hd.out, runN_cons, if_pos Hc.out] at h1; unfold Hid; omega⟩
        case measure => simp [intOf]; omega
      · have hc' : digitB s[k] = false := by simpa using hc
        have Hc := Lib.hid hc'
        clear hc hc'
        go_wp2_with (go_at_call 48; refine (digit_any _ _ false Hc).mono ?_; rintro e w' ⟨rfl, rfl⟩)
        go_ret
        exact ⟨ret_int (by have h1 := hrun.out; rw [hd.out, runN_cons, if_neg (by rw [Hc.out]; simp)] at h1; omega), rfl⟩
    · have hks : k = s.size := by omega
      have hfin : Hid (a + runN digitB (s.data.toList.drop a) = k) := by
        have h1 := hrun.out
        rw [show s.data.toList.drop k = [] from List.drop_eq_nil_of_le (by simp [hks])] at h1
        simpa [Hid, runN] using h1
      clear hks
      go_wp2_with fail
      go_ret
      exact ⟨ret_int (by have := hfin.out; omega), rfl⟩
end Go.Proofs.YtaiokjhjakdhaaaGreatDoor
