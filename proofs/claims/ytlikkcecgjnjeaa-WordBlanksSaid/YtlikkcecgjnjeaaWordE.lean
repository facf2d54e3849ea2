/- The walk of word.one at a digit behind which more bytes lie. -/
import Derived.Test.YtlikkcecgjnjeaaWordD
namespace Go.Proofs.Ytlikkcecgjnjeaa
open Go.RowKit
set_option linter.unusedVariables false

theorem run_digit_at (s : ByteArray) (z : Int) (a m : Nat) (w : World) (hz : z = a) (M : Hid (m = runN digitB (s.data.toList.drop a))) (hs : s.size ≤ 4096) (ha : a ≤ s.size) :
    Calls Try.prog 24 #[.string s, .int .i64 z, .func (.func 25) #[] #[]] w fun e w' => e = .returned (.int .i64 (z + m)) ∧ w = w' := by
  subst hz
  refine (run_digit s a w hs ha).mono ?_
  rintro e w' ⟨rfl, rfl⟩
  exact ⟨ret_int (by rw [← M.out]; omega), rfl⟩

set_option maxHeartbeats 1000000 in
theorem one_digit2 (s u : ByteArray) (k n : Nat) (w : World) (hs : s.size ≤ 4096) (hk : k < s.size) (hc : letterB s[k] = false) (hd : digitB s[k] = true) (N : Hid (n = runN digitB (s.data.toList.drop k))) (hkn : k + n < s.size) (he : k + n + 1 < s.size) (h47 : ¬ (s[k + n].toNat : Int) = 47) (hu : s.extract k (k + n) = u) (r : Bool) (hr : Hid (isNumL u.data.toList = r)) :
    Calls Try.prog 16 #[.string s, .int .i64 k] w fun e w' => e = .returned (.tuple #[if r then .agg #[.int .i64 2, .int .i64 k, .string u] else .agg #[.int .i64 0, .int .i64 0, .string ⟨#[]⟩], .int .i64 (if r then 0 else 2)]) ∧ Below w.heap.size w w' := by
  have C := Lib.hid hc
  have D := Lib.hid hd
  have hu2 : u.size ≤ maxLen := by rw [← hu, ext_size _ _ _ (by omega)]; unfold maxLen; omega
  have U2 := Lib.hid hu2
  have U := Lib.hid hu
  have hq : ((s[k + n].toNat : Int) == 47) = false := beq_eq_false_iff_ne.2 h47
  have heI : (k : Int) + n + 1 < s.size := by omega
  clear hc hu hu2 hd h47
  cases r
  all_goals
    go_enter Try.func16, Try.ntmps16
    go_wp2_with (first
      | (go_at_call 23; refine (letter_any _ _ false C).mono ?_; rintro e w' ⟨rfl, rfl⟩)
      | (go_at_call 25; refine (digit_any _ _ true D).mono ?_; rintro e w' ⟨rfl, rfl⟩))
    go_must (refine (run_digit s k _ hs (by omega)).mono ?_; rintro e w' ⟨rfl, rfl⟩; rw [← N.out])
    go_wp2_with fail
    go_must (rw [U.out]; refine (IsNumber_two u _ _ _ U2.out _ hr).mono ?_; rintro e w' ⟨rfl, w2, hz, hb, rfl⟩; rw [← hz])
    have Hb := Lib.hid hb
    have Hz := Lib.hid hz
    clear hb hz
    go_wp2_with fail
    first
      | exact bodyPost_ret (v := .tuple #[.agg #[.int .i64 0, .int .i64 0, .string ⟨#[]⟩], .int .i64 2]) (by simp [results, Try.results16, go_sem]) rfl ⟨rfl, Hb.out.trans ((below_two _ _ _).mono (by rw [Hz.out]; exact Nat.le_refl _))⟩
      | exact bodyPost_ret (v := .tuple #[.agg #[.int .i64 2, .int .i64 k, .string u], .int .i64 0]) (by simp [results, Try.results16, go_sem]) rfl ⟨rfl, Hb.out.trans ((below_two _ _ _).mono (by rw [Hz.out]; exact Nat.le_refl _))⟩
set_option maxHeartbeats 1000000 in
theorem one_digit3 (s u : ByteArray) (k n : Nat) (w : World) (hs : s.size ≤ 4096) (hk : k < s.size) (hc : letterB s[k] = false) (hd : digitB s[k] = true) (N : Hid (n = runN digitB (s.data.toList.drop k))) (hkn : k + n < s.size) (he : k + n + 1 < s.size) (h47 : (s[k + n].toNat : Int) = 47) (hf : digitB s[k + n + 1] = false) (hu : s.extract k (k + n) = u) (r : Bool) (hr : Hid (isNumL u.data.toList = r)) :
    Calls Try.prog 16 #[.string s, .int .i64 k] w fun e w' => e = .returned (.tuple #[if r then .agg #[.int .i64 2, .int .i64 k, .string u] else .agg #[.int .i64 0, .int .i64 0, .string ⟨#[]⟩], .int .i64 (if r then 0 else 2)]) ∧ Below w.heap.size w w' := by
  have C := Lib.hid hc
  have D := Lib.hid hd
  have hu2 : u.size ≤ maxLen := by rw [← hu, ext_size _ _ _ (by omega)]; unfold maxLen; omega
  have U2 := Lib.hid hu2
  have U := Lib.hid hu
  have hq : ((s[k + n].toNat : Int) == 47) = true := by simpa using h47
  have F := Lib.hid hf
  have heI : (k : Int) + n + 1 < s.size := by omega
  clear hc hu hu2 hd h47 hf
  cases r
  all_goals
    go_enter Try.func16, Try.ntmps16
    go_wp2_with (first
      | (go_at_call 23; refine (letter_any _ _ false C).mono ?_; rintro e w' ⟨rfl, rfl⟩)
      | (go_at_call 25; refine (digit_any _ _ true D).mono ?_; rintro e w' ⟨rfl, rfl⟩))
    go_must (refine (run_digit s k _ hs (by omega)).mono ?_; rintro e w' ⟨rfl, rfl⟩; rw [← N.out])
    go_wp2_with (go_at_call 25; refine (digit_any _ _ false F).mono ?_; rintro e w' ⟨rfl, rfl⟩)
    go_must (rw [U.out]; refine (IsNumber_two u _ _ _ U2.out _ hr).mono ?_; rintro e w' ⟨rfl, w2, hz, hb, rfl⟩; rw [← hz])
    have Hb := Lib.hid hb
    have Hz := Lib.hid hz
    clear hb hz
    go_wp2_with fail
    first
      | exact bodyPost_ret (v := .tuple #[.agg #[.int .i64 0, .int .i64 0, .string ⟨#[]⟩], .int .i64 2]) (by simp [results, Try.results16, go_sem]) rfl ⟨rfl, Hb.out.trans ((below_two _ _ _).mono (by rw [Hz.out]; exact Nat.le_refl _))⟩
      | exact bodyPost_ret (v := .tuple #[.agg #[.int .i64 2, .int .i64 k, .string u], .int .i64 0]) (by simp [results, Try.results16, go_sem]) rfl ⟨rfl, Hb.out.trans ((below_two _ _ _).mono (by rw [Hz.out]; exact Nat.le_refl _))⟩
set_option maxHeartbeats 1000000 in
theorem one_digit4 (s u : ByteArray) (k n : Nat) (w : World) (hs : s.size ≤ 4096) (hk : k < s.size) (hc : letterB s[k] = false) (hd : digitB s[k] = true) (N : Hid (n = runN digitB (s.data.toList.drop k))) (hkn : k + n < s.size) (he : k + n + 1 < s.size) (h47 : (s[k + n].toNat : Int) = 47) (hf : digitB s[k + n + 1] = true) (m : Nat) (M : Hid (m = runN digitB (s.data.toList.drop (k + n + 1)))) (hm : k + n + 1 + m ≤ s.size) (hu : s.extract k (k + n + 1 + m) = u) (r : Bool) (hr : Hid (isNumL u.data.toList = r)) :
    Calls Try.prog 16 #[.string s, .int .i64 k] w fun e w' => e = .returned (.tuple #[if r then .agg #[.int .i64 2, .int .i64 k, .string u] else .agg #[.int .i64 0, .int .i64 0, .string ⟨#[]⟩], .int .i64 (if r then 0 else 2)]) ∧ Below w.heap.size w w' := by
  have C := Lib.hid hc
  have D := Lib.hid hd
  have hu2 : u.size ≤ maxLen := by rw [← hu, ext_size _ _ _ (by omega)]; unfold maxLen; omega
  have U2 := Lib.hid hu2
  have U := Lib.hid hu
  have hq : ((s[k + n].toNat : Int) == 47) = true := by simpa using h47
  have F := Lib.hid hf
  have heI : (k : Int) + n + 1 < s.size := by omega
  clear hc hu hu2 hd h47 hf
  cases r
  all_goals
    go_enter Try.func16, Try.ntmps16
    go_wp2_with (first
      | (go_at_call 23; refine (letter_any _ _ false C).mono ?_; rintro e w' ⟨rfl, rfl⟩)
      | (go_at_call 25; refine (digit_any _ _ true D).mono ?_; rintro e w' ⟨rfl, rfl⟩))
    go_must (refine (run_digit s k _ hs (by omega)).mono ?_; rintro e w' ⟨rfl, rfl⟩; rw [← N.out])
    go_wp2_with (go_at_call 25; refine (digit_any _ _ true F).mono ?_; rintro e w' ⟨rfl, rfl⟩)
    go_must (refine (run_digit_at s _ (k + n + 1) m _ (by omega) M hs (by omega)).mono ?_; rintro e w' ⟨rfl, rfl⟩)
    go_wp2_with fail
    go_must (rw [U.out]; refine (IsNumber_two u _ _ _ U2.out _ hr).mono ?_; rintro e w' ⟨rfl, w2, hz, hb, rfl⟩; rw [← hz])
    have Hb := Lib.hid hb
    have Hz := Lib.hid hz
    clear hb hz
    go_wp2_with fail
    first
      | exact bodyPost_ret (v := .tuple #[.agg #[.int .i64 0, .int .i64 0, .string ⟨#[]⟩], .int .i64 2]) (by simp [results, Try.results16, go_sem]) rfl ⟨rfl, Hb.out.trans ((below_two _ _ _).mono (by rw [Hz.out]; exact Nat.le_refl _))⟩
      | exact bodyPost_ret (v := .tuple #[.agg #[.int .i64 2, .int .i64 k, .string u], .int .i64 0]) (by simp [results, Try.results16, go_sem]) rfl ⟨rfl, Hb.out.trans ((below_two _ _ _).mono (by rw [Hz.out]; exact Nat.le_refl _))⟩
end Go.Proofs.Ytlikkcecgjnjeaa
