/- The walk of word.one. -/
import Derived.Test.YtlikkcecgjnjeaaWordC
import Derived.Test.YtlikkcecgjnjeaaOwn
namespace Go.Proofs.Ytlikkcecgjnjeaa
open Go.RowKit
set_option linter.unusedVariables false

/-- How long a number is that begins here. -/
def numLen (l : List UInt8) : Nat :=
  if runN digitB l + 1 < l.length ∧ l[runN digitB l]? = some 47 ∧ (l[runN digitB l + 1]?.any digitB) = true then runN digitB l + 1 + runN digitB (l.drop (runN digitB l + 1)) else runN digitB l
/-- How long the word is that begins here. -/
def wLen (l : List UInt8) : Nat :=
  match l with
  | [] => 0
  | c :: _ => if letterB c then runN letterB l else if digitB c then numLen l else 1
/-- What kind of word begins here; 0: none. -/
def wKind (l : List UInt8) : Nat :=
  match l with
  | [] => 0
  | c :: _ => if letterB c then (if isIsName (l.take (wLen l)) then 1 else 0) else if digitB c then (if isNumL (l.take (wLen l)) then 2 else 0) else if signB c then 3 else 0

theorem below_two (w : World) (a b : Obj) : Below w.heap.size w ((w.alloc a).alloc b) := ((Below.refl _ _).alloc (Nat.le_refl _) a).alloc (by simp) b
theorem IsNumber_two (s : ByteArray) (w : World) (a b : Obj) (hs : s.size ≤ maxLen) (r : Bool) (hr : Hid (isNumL s.data.toList = r)) :
    Calls Try.prog 28 #[.string s] ((w.alloc a).alloc b) fun e w' => e = .returned (.bool r) ∧ ∃ w2, w2.heap.size = w.heap.size ∧ Below w.heap.size w w2 ∧ (w2.alloc a).alloc b = w' :=
  (IsNumber_any s _ hs r hr).mono fun e w' h => by
    obtain ⟨rfl, n, rfl⟩ := h
    exact ⟨rfl, w.drewN n, rfl, below_drewN (Below.refl _ _) n, rfl⟩
theorem info_word : (Try.prog.info? 28).map (fun i => (i.zero, i.size, i.bytes)) = some (some (.agg #[.int .i64 0, .int .i64 0, .string ⟨#[]⟩]), 3, 32) := by kernel_rfl

set_option maxHeartbeats 1000000 in
theorem one_letter (s u : ByteArray) (k n : Nat) (w : World) (hs : s.size ≤ 4096) (hk : k < s.size) (hc : letterB s[k] = true) (hn : n = runN letterB (s.data.toList.drop k)) (hkn : k + n ≤ s.size) (hu : s.extract k (k + n) = u) (r : Bool) (hr : Hid (isIsName u.data.toList = r)) :
    Calls Try.prog 16 #[.string s, .int .i64 k] w fun e w' => e = .returned (.tuple #[if r then .agg #[.int .i64 1, .int .i64 k, .string u] else .agg #[.int .i64 0, .int .i64 0, .string ⟨#[]⟩], .int .i64 (if r then 0 else 2)]) ∧ Below w.heap.size w w' := by
  have C := Lib.hid hc
  have N := Lib.hid hn
  have hu2 : u.size ≤ maxLen := by rw [← hu, ext_size _ _ _ hkn]; unfold maxLen; omega
  have U2 := Lib.hid hu2
  have U := Lib.hid hu
  clear hc hn hu hu2
  cases r
  all_goals
    go_enter Try.func16, Try.ntmps16
    go_wp2_with (go_at_call 23; refine (letter_any _ _ true C).mono ?_; rintro e w' ⟨rfl, rfl⟩)
    go_must (refine (run_letter s k _ hs (by omega)).mono ?_; rintro e w' ⟨rfl, rfl⟩; rw [← N.out])
    go_wp2_with fail
    go_must (rw [U.out]; refine (IsName_any u _ U2.out _ hr).mono ?_; rintro e w' ⟨rfl, rfl⟩)
    go_wp2_with fail
    first
      | exact bodyPost_ret (v := .tuple #[.agg #[.int .i64 0, .int .i64 0, .string ⟨#[]⟩], .int .i64 2]) (by simp [results, Try.results16, go_sem]) rfl ⟨rfl, below_two _ _ _⟩
      | exact bodyPost_ret (v := .tuple #[.agg #[.int .i64 1, .int .i64 k, .string u], .int .i64 0]) (by simp [results, Try.results16, go_sem]) rfl ⟨rfl, below_two _ _ _⟩

set_option maxHeartbeats 1000000 in
theorem one_sign (s u : ByteArray) (k : Nat) (w : World) (hs : s.size ≤ 4096) (hk : k < s.size) (hc : letterB s[k] = false) (hd : digitB s[k] = false) (hu : s.extract k (k + 1) = u) (r : Bool) (hr : Hid (signB s[k] = r)) :
    Calls Try.prog 16 #[.string s, .int .i64 k] w fun e w' => e = .returned (.tuple #[if r then .agg #[.int .i64 3, .int .i64 k, .string u] else .agg #[.int .i64 0, .int .i64 0, .string ⟨#[]⟩], .int .i64 (if r then 0 else 15)]) ∧ Below w.heap.size w w' := by
  have C := Lib.hid hc
  have D := Lib.hid hd
  have U := Lib.hid hu
  clear hc hu hd
  cases r
  · go_enter Try.func16, Try.ntmps16
    go_wp2_with (first
      | (go_at_call 23; refine (letter_any _ _ false C).mono ?_; rintro e w' ⟨rfl, rfl⟩)
      | (go_at_call 25; refine (digit_any _ _ false D).mono ?_; rintro e w' ⟨rfl, rfl⟩)
      | (go_at_call 26; refine (sign_any _ _ false hr).mono ?_; rintro e w' ⟨rfl, rfl⟩))
    exact bodyPost_ret (v := .tuple #[.agg #[.int .i64 0, .int .i64 0, .string ⟨#[]⟩], .int .i64 15]) (by simp [results, Try.results16, go_sem]) rfl ⟨rfl, below_two _ _ _⟩
  · go_enter Try.func16, Try.ntmps16
    go_wp2_with (first
      | (go_at_call 23; refine (letter_any _ _ false C).mono ?_; rintro e w' ⟨rfl, rfl⟩)
      | (go_at_call 25; refine (digit_any _ _ false D).mono ?_; rintro e w' ⟨rfl, rfl⟩)
      | (go_at_call 26; refine (sign_any _ _ true hr).mono ?_; rintro e w' ⟨rfl, rfl⟩))
    rw [U.out]
    exact bodyPost_ret (v := .tuple #[.agg #[.int .i64 3, .int .i64 k, .string u], .int .i64 0]) (by simp [results, Try.results16, go_sem]) rfl ⟨rfl, below_two _ _ _⟩

set_option maxHeartbeats 1000000 in
theorem one_digit1 (s u : ByteArray) (k n : Nat) (w : World) (hs : s.size ≤ 4096) (hk : k < s.size) (hc : letterB s[k] = false) (hd : digitB s[k] = true) (hn : n = runN digitB (s.data.toList.drop k)) (hkn : k + n ≤ s.size) (he : ¬ k + n + 1 < s.size) (hu : s.extract k (k + n) = u) (r : Bool) (hr : Hid (isNumL u.data.toList = r)) :
    Calls Try.prog 16 #[.string s, .int .i64 k] w fun e w' => e = .returned (.tuple #[if r then .agg #[.int .i64 2, .int .i64 k, .string u] else .agg #[.int .i64 0, .int .i64 0, .string ⟨#[]⟩], .int .i64 (if r then 0 else 2)]) ∧ Below w.heap.size w w' := by
  have C := Lib.hid hc
  have D := Lib.hid hd
  have N := Lib.hid hn
  have hu2 : u.size ≤ maxLen := by rw [← hu, ext_size _ _ _ hkn]; unfold maxLen; omega
  have U2 := Lib.hid hu2
  have U := Lib.hid hu
  clear hc hn hu hu2 hd
  cases r
  all_goals
    go_enter Try.func16, Try.ntmps16
    go_wp2_with (first
      | (go_at_call 23; refine (letter_any _ _ false C).mono ?_; rintro e w' ⟨rfl, rfl⟩)
      | (go_at_call 25; refine (digit_any _ _ true D).mono ?_; rintro e w' ⟨rfl, rfl⟩))
    go_must (refine (run_digit s k _ hs (by omega)).mono ?_; rintro e w' ⟨rfl, rfl⟩; rw [← N.out])
    go_wp2_with fail
    go_must (rw [U.out]; refine (IsNumber_two u _ _ _ U2.out _ hr).mono ?_; rintro e w' ⟨rfl, w2, hz, hb, rfl⟩; rw [← hz])
    have Hb := Lib.hid hb
    have Hz := Lib.hid hz
    clear hb hz
    go_wp2_with fail
    first
      | exact bodyPost_ret (v := .tuple #[.agg #[.int .i64 0, .int .i64 0, .string ⟨#[]⟩], .int .i64 2]) (by simp [results, Try.results16, go_sem]) rfl ⟨rfl, Hb.out.trans ((below_two _ _ _).mono (by rw [Hz.out]; exact Nat.le_refl _))⟩
      | exact bodyPost_ret (v := .tuple #[.agg #[.int .i64 2, .int .i64 k, .string u], .int .i64 0]) (by simp [results, Try.results16, go_sem]) rfl ⟨rfl, Hb.out.trans ((below_two _ _ _).mono (by rw [Hz.out]; exact Nat.le_refl _))⟩
end Go.Proofs.Ytlikkcecgjnjeaa
