/- The walk of word.one. · The walk of word.one at a digit behind which more bytes lie. · What word.one answers. · The walk of word.Read. · The walks of word.Line, gantkeep4.worded and gantkeep4.WordPlaces. · Plain laws of reading: words that stand with gaps between them are read back. · Plain laws: what is read is good; what is laid with gaps is read back. · The walks of word.Valid, word.Text. · The walks of slices.Clone and slices.Equal at words, and of texts. · The walk of gantkeep4.WordBack. -/
import Derived.Test.YtaiokjhjakdhaaaGreatDoorPb14
import Derived.Test.YtaiokjhjakdhaaaGreatDoorPb8
import Derived.Deep.QuietTactic
import Derived.BigQuiet
import Derived.Lib.Join
namespace Go.Proofs.YtaiokjhjakdhaaaGreatDoor
open Go.RowKit
set_option linter.unusedVariables false

/-- How long a number is that begins here. -/
def numLen (l : List UInt8) : Nat :=
  if runN digitB l + 1 < l.length ∧ l[runN digitB l]? = some 47 ∧ (l[runN digitB l + 1]?.any digitB) = true then runN digitB l + 1 + runN digitB (l.drop (runN digitB l + 1)) else runN digitB l
/-- How long the word is that begins here. -/
def wLen (l : List UInt8) : Nat :=
  match l with
  | [] => 0
  | c :: _ => if letterB c then runN letterB l else if digitB c then numLen l else 1
/-- What kind of word begins here; 0: none. -/
def wKind (l : List UInt8) : Nat :=
  match l with
  | [] => 0
  | c :: _ => if letterB c then (if isIsName (l.take (wLen l)) then 1 else 0) else if digitB c then (if isNumL (l.take (wLen l)) then 2 else 0) else if signB c then 3 else 0

theorem below_two (w : World) (a b : Obj) : Below w.heap.size w ((w.alloc a).alloc b) := ((Below.refl _ _).alloc (Nat.le_refl _) a).alloc (by simp) b
theorem IsNumber_two (s : ByteArray) (w : World) (a b : Obj) (hs : s.size ≤ maxLen) (r : Bool) (hr : Hid (isNumL s.data.toList = r)) :
    Calls Tryz.prog 50 #[.string s] ((w.alloc a).alloc b) fun e w' => e = .returned (.bool r) ∧ ∃ w2, w2.heap.size = w.heap.size ∧ Below w.heap.size w w2 ∧ (w2.alloc a).alloc b = w' :=
  (IsNumber_any s _ hs r hr).mono fun e w' h => by
    obtain ⟨rfl, n, rfl⟩ := h
    exact ⟨rfl, w.drewN n, rfl, below_drewN (Below.refl _ _) n, rfl⟩
theorem info_word : (Tryz.prog.info? 106).map (fun i => (i.zero, i.size, i.bytes)) = some (some (.agg #[.int .i64 0, .int .i64 0, .string ⟨#[]⟩]), 3, 32) := by kernel_rfl

set_option maxHeartbeats 1000000 in
theorem one_letter (s u : ByteArray) (k n : Nat) (w : World) (hs : s.size ≤ 4096) (hk : k < s.size) (hc : letterB s[k] = true) (hn : n = runN letterB (s.data.toList.drop k)) (hkn : k + n ≤ s.size) (hu : s.extract k (k + n) = u) (r : Bool) (hr : Hid (isIsName u.data.toList = r)) :
    Calls Tryz.prog 33 #[.string s, .int .i64 k] w fun e w' => e = .returned (.tuple #[if r then .agg #[.int .i64 1, .int .i64 k, .string u] else .agg #[.int .i64 0, .int .i64 0, .string ⟨#[]⟩], .int .i64 (if r then 0 else 2)]) ∧ Below w.heap.size w w' := by
  have C := Lib.hid hc
  have N := Lib.hid hn
  have hu2 : u.size ≤ maxLen := by rw [← hu, ext_size _ _ _ hkn]; unfold maxLen; omega
  have U2 := Lib.hid hu2
  have U := Lib.hid hu
  clear hc hn hu hu2
  cases r
  all_goals
    go_enter Tryz.func33, Tryz.ntmps33
    go_wp2_with (go_at_call 46; refine (letter_any _ _ true C).mono ?_; rintro e w' ⟨rfl, rfl⟩)
    go_must (refine (run_letter s k _ hs (by omega)).mono ?_; rintro e w' ⟨rfl, rfl⟩; rw [← N.out])
    go_wp2_with fail
    go_must (rw [U.out]; refine (IsName_any u _ U2.out _ hr).mono ?_; rintro e w' ⟨rfl, rfl⟩)
    go_wp2_with fail
    first
      | exact bodyPost_ret (v := .tuple #[.agg #[.int .i64 0, .int .i64 0, .string ⟨#[]⟩], .int .i64 2]) (by simp [results, Tryz.results33, go_sem]) rfl ⟨rfl, below_two _ _ _⟩
      | exact bodyPost_ret (v := .tuple #[.agg #[.int .i64 1, .int .i64 k, .string u], .int .i64 0]) (by simp [results, Tryz.results33, go_sem]) rfl ⟨rfl, below_two _ _ _⟩

set_option maxHeartbeats 1000000 in
theorem one_sign (s u : ByteArray) (k : Nat) (w : World) (hs : s.size ≤ 4096) (hk : k < s.size) (hc : letterB s[k] = false) (hd : digitB s[k] = false) (hu : s.extract k (k + 1) = u) (r : Bool) (hr : Hid (signB s[k] = r)) :
    Calls Tryz.prog 33 #[.string s, .int .i64 k] w fun e w' => e = .returned (.tuple #[if r then .agg #[.int .i64 3, .int .i64 k, .string u] else .agg #[.int .i64 0, .int .i64 0, .string ⟨#[]⟩], .int .i64 (if r then 0 else 15)]) ∧ Below w.heap.size w w' := by
  have C := Lib.hid hc
  have D := Lib.hid hd
  have U := Lib.hid hu
  clear hc hu hd
  cases r
  · go_enter Tryz.func33, Tryz.ntmps33
    go_wp2_with (first
      | (go_at_call 46; refine (letter_any _ _ false C).mono ?_; rintro e w' ⟨rfl, rfl⟩)
      | (go_at_call 48; refine (digit_any _ _ false D).mono ?_; rintro e w' ⟨rfl, rfl⟩)
      | (go_at_call 49; refine (sign_any _ _ false hr).mono ?_; rintro e w' ⟨rfl, rfl⟩))
    exact bodyPost_ret (v := .tuple #[.agg #[.int .i64 0, .int .i64 0, .string ⟨#[]⟩], .int .i64 15]) (by simp [results, Tryz.results33, go_sem]) rfl ⟨rfl, below_two _ _ _⟩
  · go_enter Tryz.func33, Tryz.ntmps33
    go_wp2_with (first
      | (go_at_call 46; refine (letter_any _ _ false C).mono ?_; rintro e w' ⟨rfl, rfl⟩)
      | (go_at_call 48; refine (digit_any _ _ false D).mono ?_; rintro e w' ⟨rfl, rfl⟩)
      | (go_at_call 49; refine (sign_any _ _ true hr).mono ?_; rintro e w' ⟨rfl, rfl⟩))
    rw [U.out]
    exact bodyPost_ret (v := .tuple #[.agg #[.int .i64 3, .int .i64 k, .string u], .int .i64 0]) (by simp [results, Tryz.results33, go_sem]) rfl ⟨rfl, below_two _ _ _⟩

set_option maxHeartbeats 1000000 in
theorem one_digit1 (s u : ByteArray) (k n : Nat) (w : World) (hs : s.size ≤ 4096) (hk : k < s.size) (hc : letterB s[k] = false) (hd : digitB s[k] = true) (hn : n = runN digitB (s.data.toList.drop k)) (hkn : k + n ≤ s.size) (he : ¬ k + n + 1 < s.size) (hu : s.extract k (k + n) = u) (r : Bool) (hr : Hid (isNumL u.data.toList = r)) :
    Calls Tryz.prog 33 #[.string s, .int .i64 k] w fun e w' => e = .returned (.tuple #[if r then .agg #[.int .i64 2, .int .i64 k, .string u] else .agg #[.int .i64 0, .int .i64 0, .string ⟨#[]⟩], .int .i64 (if r then 0 else 2)]) ∧ Below w.heap.size w w' := by
  have C := Lib.hid hc
  have D := Lib.hid hd
  have N := Lib.hid hn
  have hu2 : u.size ≤ maxLen := by rw [← hu, ext_size _ _ _ hkn]; unfold maxLen; omega
  have U2 := Lib.hid hu2
  have U := Lib.hid hu
  clear hc hn hu hu2 hd
  cases r
  all_goals
    go_enter Tryz.func33, Tryz.ntmps33
    go_wp2_with (first
      | (go_at_call 46; refine (letter_any _ _ false C).mono ?_; rintro e w' ⟨rfl, rfl⟩)
      | (go_at_call 48; refine (digit_any _ _ true D).mono ?_; rintro e w' ⟨rfl, rfl⟩))
    go_must (refine (run_digit s k _ hs (by omega)).mono ?_; rintro e w' ⟨rfl, rfl⟩; rw [← N.out])
    go_wp2_with fail
    go_must (rw [U.out]; refine (IsNumber_two u _ _ _ U2.out _ hr).mono ?_; rintro e w' ⟨rfl, w2, hz, hb, rfl⟩; rw [← hz])
    have Hb := Lib.hid hb
    have Hz := Lib.hid hz
    clear hb hz
    go_wp2_with fail
    first
      | exact bodyPost_ret (v := .tuple #[.agg #[.int .i64 0, .int .i64 0, .string ⟨#[]⟩], .int .i64 2]) (by simp [results, Tryz.results33, go_sem]) rfl ⟨rfl, Hb.out.trans ((below_two _ _ _).mono (by rw [Hz.out]; exact Nat.le_refl _))⟩
      | exact bodyPost_ret (v := .tuple #[.agg #[.int .i64 2, .int .i64 k, .string u], .int .i64 0]) (by simp [results, Tryz.results33, go_sem]) rfl ⟨rfl, Hb.out.trans ((below_two _ _ _).mono (by rw [Hz.out]; exact Nat.le_refl _))⟩
end Go.Proofs.YtaiokjhjakdhaaaGreatDoor

namespace Go.Proofs.YtaiokjhjakdhaaaGreatDoor
open Go.RowKit
set_option linter.unusedVariables false

theorem run_digit_at (s : ByteArray) (z : Int) (a m : Nat) (w : World) (hz : z = a) (M : Hid (m = runN digitB (s.data.toList.drop a))) (hs : s.size ≤ 4096) (ha : a ≤ s.size) :
    Calls Tryz.prog 47 #[.string s, .int .i64 z, .func (.func 48) #[] #[]] w fun e w' => e = .returned (.int .i64 (z + m)) ∧ w = w' := by
  subst hz
  refine (run_digit s a w hs ha).mono ?_
  rintro e w' ⟨rfl, rfl⟩
  exact ⟨ret_int (by rw [← M.out]; omega), rfl⟩

set_option maxHeartbeats 1000000 in
theorem one_digit2 (s u : ByteArray) (k n : Nat) (w : World) (hs : s.size ≤ 4096) (hk : k < s.size) (hc : letterB s[k] = false) (hd : digitB s[k] = true) (N : Hid (n = runN digitB (s.data.toList.drop k))) (hkn : k + n < s.size) (he : k + n + 1 < s.size) (h47 : ¬ (s[k + n].toNat : Int) = 47) (hu : s.extract k (k + n) = u) (r : Bool) (hr : Hid (isNumL u.data.toList = r)) :
    Calls Tryz.prog 33 #[.string s, .int .i64 k] w fun e w' => e = .returned (.tuple #[if r then .agg #[.int .i64 2, .int .i64 k, .string u] else .agg #[.int .i64 0, .int .i64 0, .string ⟨#[]⟩], .int .i64 (if r then 0 else 2)]) ∧ Below w.heap.size w w' := by
  have C := Lib.hid hc
  have D := Lib.hid hd
  have hu2 : u.size ≤ maxLen := by rw [← hu, ext_size _ _ _ (by omega)]; unfold maxLen; omega
  have U2 := Lib.hid hu2
  have U := Lib.hid hu
  have hq : ((s[k + n].toNat : Int) == 47) = false := beq_eq_false_iff_ne.2 h47
  have heI : (k : Int) + n + 1 < s.size := by omega
  clear hc hu hu2 hd h47
  cases r
  all_goals
    go_enter Tryz.func33, Tryz.ntmps33
    go_wp2_with (first
      | (go_at_call 46; refine (letter_any _ _ false C).mono ?_; rintro e w' ⟨rfl, rfl⟩)
      | (go_at_call 48; refine (digit_any _ _ true D).mono ?_; rintro e w' ⟨rfl, rfl⟩))
    go_must (refine (run_digit s k _ hs (by omega)).mono ?_; rintro e w' ⟨rfl, rfl⟩; rw [← N.out])
    go_wp2_with fail
    go_must (rw [U.out]; refine (IsNumber_two u _ _ _ U2.out _ hr).mono ?_; rintro e w' ⟨rfl, w2, hz, hb, rfl⟩; rw [← hz])
    have Hb := Lib.hid hb
    have Hz := Lib.hid hz
    clear hb hz
    go_wp2_with fail
    first
      | exact bodyPost_ret (v := .tuple #[.agg #[.int .i64 0, .int .i64 0, .string ⟨#[]⟩], .int .i64 2]) (by simp [results, Tryz.results33, go_sem]) rfl ⟨rfl, Hb.out.trans ((below_two _ _ _).mono (by rw [Hz.out]; exact Nat.le_refl _))⟩
      | exact bodyPost_ret (v := .tuple #[.agg #[.int .i64 2, .int .i64 k, .string u], .int .i64 0]) (by simp [results, Tryz.results33, go_sem]) rfl ⟨rfl, Hb.out.trans ((below_two _ _ _).mono (by rw [Hz.out]; exact Nat.le_refl _))⟩
set_option maxHeartbeats 1000000 in
theorem one_digit3 (s u : ByteArray) (k n : Nat) (w : World) (hs : s.size ≤ 4096) (hk : k < s.size) (hc : letterB s[k] = false) (hd : digitB s[k] = true) (N : Hid (n = runN digitB (s.data.toList.drop k))) (hkn : k + n < s.size) (he : k + n + 1 < s.size) (h47 : (s[k + n].toNat : Int) = 47) (hf : digitB s[k + n + 1] = false) (hu : s.extract k (k + n) = u) (r : Bool) (hr : Hid (isNumL u.data.toList = r)) :
    Calls Tryz.prog 33 #[.string s, .int .i64 k] w fun e w' => e = .returned (.tuple #[if r then .agg #[.int .i64 2, .int .i64 k, .string u] else .agg #[.int .i64 0, .int .i64 0, .string ⟨#[]⟩], .int .i64 (if r then 0 else 2)]) ∧ Below w.heap.size w w' := by
  have C := Lib.hid hc
  have D := Lib.hid hd
  have hu2 : u.size ≤ maxLen := by rw [← hu, ext_size _ _ _ (by omega)]; unfold maxLen; omega
  have U2 := Lib.hid hu2
  have U := Lib.hid hu
  have hq : ((s[k + n].toNat : Int) == 47) = true := by simpa using h47
  have F := Lib.hid hf
  have heI : (k : Int) + n + 1 < s.size := by omega
  clear hc hu hu2 hd h47 hf
  cases r
  all_goals
    go_enter Tryz.func33, Tryz.ntmps33
    go_wp2_with (first
      | (go_at_call 46; refine (letter_any _ _ false C).mono ?_; rintro e w' ⟨rfl, rfl⟩)
      | (go_at_call 48; refine (digit_any _ _ true D).mono ?_; rintro e w' ⟨rfl, rfl⟩))
    go_must (refine (run_digit s k _ hs (by omega)).mono ?_; rintro e w' ⟨rfl, rfl⟩; rw [← N.out])
    go_wp2_with (go_at_call 48; refine (digit_any _ _ false F).mono ?_; rintro e w' ⟨rfl, rfl⟩)
    go_must (rw [U.out]; refine (IsNumber_two u _ _ _ U2.out _ hr).mono ?_; rintro e w' ⟨rfl, w2, hz, hb, rfl⟩; rw [← hz])
    have Hb := Lib.hid hb
    have Hz := Lib.hid hz
    clear hb hz
    go_wp2_with fail
    first
      | exact bodyPost_ret (v := .tuple #[.agg #[.int .i64 0, .int .i64 0, .string ⟨#[]⟩], .int .i64 2]) (by simp [results, Tryz.results33, go_sem]) rfl ⟨rfl, Hb.out.trans ((below_two _ _ _).mono (by rw [Hz.out]; exact Nat.le_refl _))⟩
      | exact bodyPost_ret (v := .tuple #[.agg #[.int .i64 2, .int .i64 k, .string u], .int .i64 0]) (by simp [results, Tryz.results33, go_sem]) rfl ⟨rfl, Hb.out.trans ((below_two _ _ _).mono (by rw [Hz.out]; exact Nat.le_refl _))⟩
set_option maxHeartbeats 1000000 in
theorem one_digit4 (s u : ByteArray) (k n : Nat) (w : World) (hs : s.size ≤ 4096) (hk : k < s.size) (hc : letterB s[k] = false) (hd : digitB s[k] = true) (N : Hid (n = runN digitB (s.data.toList.drop k))) (hkn : k + n < s.size) (he : k + n + 1 < s.size) (h47 : (s[k + n].toNat : Int) = 47) (hf : digitB s[k + n + 1] = true) (m : Nat) (M : Hid (m = runN digitB (s.data.toList.drop (k + n + 1)))) (hm : k + n + 1 + m ≤ s.size) (hu : s.extract k (k + n + 1 + m) = u) (r : Bool) (hr : Hid (isNumL u.data.toList = r)) :
    Calls Tryz.prog 33 #[.string s, .int .i64 k] w fun e w' => e = .returned (.tuple #[if r then .agg #[.int .i64 2, .int .i64 k, .string u] else .agg #[.int .i64 0, .int .i64 0, .string ⟨#[]⟩], .int .i64 (if r then 0 else 2)]) ∧ Below w.heap.size w w' := by
  have C := Lib.hid hc
  have D := Lib.hid hd
  have hu2 : u.size ≤ maxLen := by rw [← hu, ext_size _ _ _ (by omega)]; unfold maxLen; omega
  have U2 := Lib.hid hu2
  have U := Lib.hid hu
  have hq : ((s[k + n].toNat : Int) == 47) = true := by simpa using h47
  have F := Lib.hid hf
  have heI : (k : Int) + n + 1 < s.size := by omega
  clear hc hu hu2 hd h47 hf
  cases r
  all_goals
    go_enter Tryz.func33, Tryz.ntmps33
    go_wp2_with (first
      | (go_at_call 46; refine (letter_any _ _ false C).mono ?_; rintro e w' ⟨rfl, rfl⟩)
      | (go_at_call 48; refine (digit_any _ _ true D).mono ?_; rintro e w' ⟨rfl, rfl⟩))
    go_must (refine (run_digit s k _ hs (by omega)).mono ?_; rintro e w' ⟨rfl, rfl⟩; rw [← N.out])
    go_wp2_with (go_at_call 48; refine (digit_any _ _ true F).mono ?_; rintro e w' ⟨rfl, rfl⟩)
    go_must (refine (run_digit_at s _ (k + n + 1) m _ (by omega) M hs (by omega)).mono ?_; rintro e w' ⟨rfl, rfl⟩)
    go_wp2_with fail
    go_must (rw [U.out]; refine (IsNumber_two u _ _ _ U2.out _ hr).mono ?_; rintro e w' ⟨rfl, w2, hz, hb, rfl⟩; rw [← hz])
    have Hb := Lib.hid hb
    have Hz := Lib.hid hz
    clear hb hz
    go_wp2_with fail
    first
      | exact bodyPost_ret (v := .tuple #[.agg #[.int .i64 0, .int .i64 0, .string ⟨#[]⟩], .int .i64 2]) (by simp [results, Tryz.results33, go_sem]) rfl ⟨rfl, Hb.out.trans ((below_two _ _ _).mono (by rw [Hz.out]; exact Nat.le_refl _))⟩
      | exact bodyPost_ret (v := .tuple #[.agg #[.int .i64 2, .int .i64 k, .string u], .int .i64 0]) (by simp [results, Tryz.results33, go_sem]) rfl ⟨rfl, Hb.out.trans ((below_two _ _ _).mono (by rw [Hz.out]; exact Nat.le_refl _))⟩
end Go.Proofs.YtaiokjhjakdhaaaGreatDoor

namespace Go.Proofs.YtaiokjhjakdhaaaGreatDoor
open Go.RowKit
set_option linter.unusedVariables false

theorem ext_take (s : ByteArray) (k n : Nat) : (s.extract k (k + n)).data.toList = (s.data.toList.drop k).take n := by
  rw [ext_list]; congr 1; omega
theorem drop_len (s : ByteArray) (k : Nat) : (s.data.toList.drop k).length = s.size - k := by simp
theorem runN_pos {p : UInt8 → Bool} {c : UInt8} {l : List UInt8} (h : p c = true) : 1 ≤ runN p (c :: l) := by
  rw [runN_cons, if_pos h]; omega
theorem numLen_le (l : List UInt8) : numLen l ≤ l.length := by
  unfold numLen
  have h1 := runN_le digitB l
  split
  · have h2 := runN_le digitB (l.drop (runN digitB l + 1))
    rw [List.length_drop] at h2; omega
  · exact h1
theorem numLen_ge (l : List UInt8) : runN digitB l ≤ numLen l := by
  unfold numLen; split <;> omega
theorem wLen_le (l : List UInt8) : wLen l ≤ l.length := by
  unfold wLen
  split
  · simp
  · split
    · exact runN_le _ _
    · split
      · exact numLen_le _
      · simp
theorem wLen_pos (c : UInt8) (l : List UInt8) : 1 ≤ wLen (c :: l) := by
  unfold wLen
  simp only
  split
  · rename_i h; exact runN_pos h
  · split
    · rename_i h
      have := numLen_ge (c :: l)
      have := runN_pos (l := l) h
      omega
    · omega

/-- What the walk of one finds: either a word of a kind, or an error. -/
def OneIs (l : List UInt8) (s : ByteArray) (k : Nat) (e : Ending) : Prop :=
  (wKind l ≠ 0 ∧ e = .returned (.tuple #[.agg #[.int .i64 (wKind l : Nat), .int .i64 k, .string (s.extract k (k + wLen l))], .int .i64 0])) ∨
  (wKind l = 0 ∧ ∃ er : Int, er ≠ 0 ∧ e = .returned (.tuple #[.agg #[.int .i64 0, .int .i64 0, .string ⟨#[]⟩], .int .i64 er]))

theorem one_any (s : ByteArray) (k : Nat) (w : World) (hs : s.size ≤ 4096) (hk : k < s.size) :
    Calls Tryz.prog 33 #[.string s, .int .i64 k] w fun e w' => OneIs (s.data.toList.drop k) s k e ∧ Below w.heap.size w w' := by
  have hd := drop_at hk
  have hlen := drop_len s k
  by_cases hc : letterB s[k] = true
  · have hl : wLen (s.data.toList.drop k) = runN letterB (s.data.toList.drop k) := by
      rw [hd]; simp only [wLen, hc, if_true]
    have hle := wLen_le (s.data.toList.drop k)
    refine (one_letter s _ k _ w hs hk hc rfl (by omega) rfl _ rfl).mono ?_
    rintro e w' ⟨rfl, hb⟩
    refine ⟨?_, hb⟩
    have hkd : wKind (s.data.toList.drop k) = if isIsName ((s.data.toList.drop k).take (wLen (s.data.toList.drop k))) then 1 else 0 := by
      conv => lhs; rw [hd]
      simp only [wKind, hc, if_true]
      rw [← hd]
    rw [ext_take, ← hl]
    cases hq : isIsName ((s.data.toList.drop k).take (wLen (s.data.toList.drop k)))
    · rw [hq] at hkd
      exact .inr ⟨hkd, 2, by decide, rfl⟩
    · rw [hq] at hkd
      refine .inl ⟨by rw [hkd]; decide, ?_⟩
      rw [hkd]; rfl
  · have hc' : letterB s[k] = false := by simpa using hc
    by_cases hg : digitB s[k] = true
    · have hl : wLen (s.data.toList.drop k) = numLen (s.data.toList.drop k) := by
        rw [hd]; simp only [wLen, hc', hg, if_true]; rfl
      have hle := wLen_le (s.data.toList.drop k)
      have hge := numLen_ge (s.data.toList.drop k)
      have hkd : wKind (s.data.toList.drop k) = if isNumL ((s.data.toList.drop k).take (wLen (s.data.toList.drop k))) then 2 else 0 := by
        conv => lhs; rw [hd]
        simp only [wKind, hc', hg, if_true]
        rw [← hd]; rfl
      obtain ⟨n, hn⟩ : ∃ n, n = runN digitB (s.data.toList.drop k) := ⟨_, rfl⟩
      have key : ∀ e w', (e = .returned (.tuple #[if isNumL (s.extract k (k + wLen (s.data.toList.drop k))).data.toList then .agg #[.int .i64 2, .int .i64 k, .string (s.extract k (k + wLen (s.data.toList.drop k)))] else .agg #[.int .i64 0, .int .i64 0, .string ⟨#[]⟩], .int .i64 (if isNumL (s.extract k (k + wLen (s.data.toList.drop k))).data.toList then 0 else 2)]) ∧ Below w.heap.size w w') → OneIs (s.data.toList.drop k) s k e ∧ Below w.heap.size w w' := by
        rintro e w' ⟨rfl, hb⟩
        refine ⟨?_, hb⟩
        rw [ext_take]
        cases hq : isNumL ((s.data.toList.drop k).take (wLen (s.data.toList.drop k)))
        · rw [hq] at hkd
          exact .inr ⟨hkd, 2, by decide, rfl⟩
        · rw [hq] at hkd
          refine .inl ⟨by rw [hkd]; decide, ?_⟩
          rw [hkd]; rfl
      have hN : numLen (s.data.toList.drop k) = if n + 1 < s.size - k ∧ s.data.toList[k + n]? = some 47 ∧ (s.data.toList[k + n + 1]?.any digitB) = true then n + 1 + runN digitB (s.data.toList.drop (k + n + 1)) else n := by
        rw [numLen, ← hn, hlen, List.getElem?_drop, List.getElem?_drop, List.drop_drop]
        simp only [Nat.add_assoc]
      by_cases h1 : k + n + 1 < s.size
      · have b1 : s.data.toList[k + n]? = some s[k + n] := byte_at (by omega)
        have b2 : s.data.toList[k + n + 1]? = some s[k + n + 1] := byte_at (by omega)
        rw [b1, b2] at hN
        by_cases h2 : (s[k + n].toNat : Int) = 47
        · have e2 : s[k + n] = 47 := beq_iff_eq.1 ((u8_eq _ _).2 h2)
          by_cases h3 : digitB s[k + n + 1] = true
          · rw [if_pos ⟨by omega, by rw [e2], by simpa using h3⟩] at hN
            have hm := runN_le digitB (s.data.toList.drop (k + n + 1))
            rw [drop_len] at hm
            refine (one_digit4 s (s.extract k (k + wLen (s.data.toList.drop k))) k n w hs hk hc' hg hn (by omega) h1 h2 h3 _ rfl (by omega) (by rw [hl, hN]; congr 1; omega) _ rfl).mono (key)
          · rw [if_neg (by rintro ⟨_, _, h⟩; exact h3 (by simpa using h))] at hN
            exact (one_digit3 s (s.extract k (k + wLen (s.data.toList.drop k))) k n w hs hk hc' hg hn (by omega) h1 h2 (by simpa using h3) (by rw [hl, hN]) _ rfl).mono key
        · rw [if_neg (by rintro ⟨_, h, _⟩; exact h2 (by rw [Option.some.inj h]; rfl))] at hN
          exact (one_digit2 s (s.extract k (k + wLen (s.data.toList.drop k))) k n w hs hk hc' hg hn (by omega) h1 h2 (by rw [hl, hN]) _ rfl).mono key
      · rw [if_neg (by rintro ⟨h, _⟩; omega)] at hN
        exact (one_digit1 s (s.extract k (k + wLen (s.data.toList.drop k))) k n w hs hk hc' hg hn (by omega) h1 (by rw [hl, hN]) _ rfl).mono key
    · have hg' : digitB s[k] = false := by simpa using hg
      have hl : wLen (s.data.toList.drop k) = 1 := by
        rw [hd]; simp only [wLen, hc', hg']; rfl
      have hkd : wKind (s.data.toList.drop k) = if signB s[k] then 3 else 0 := by
        rw [hd]; simp only [wKind, hc', hg']; rfl
      refine (one_sign s _ k w hs hk hc' hg' rfl _ rfl).mono ?_
      rintro e w' ⟨rfl, hb⟩
      refine ⟨?_, hb⟩
      cases hq : signB s[k]
      · rw [hq] at hkd
        exact .inr ⟨hkd, 15, by decide, rfl⟩
      · rw [hq] at hkd
        refine .inl ⟨by rw [hkd]; decide, ?_⟩
        rw [hkd, hl]; rfl
end Go.Proofs.YtaiokjhjakdhaaaGreatDoor

namespace Go.Proofs.YtaiokjhjakdhaaaGreatDoor
open Go.RowKit
set_option linter.unusedVariables false
set_option maxRecDepth 100000

structure Wd where
  kind : Nat
  pos : Nat
  text : ByteArray
def Wd.cells (x : Wd) : List Value := [.int .i64 x.kind, .int .i64 x.pos, .string x.text]
def wcells (ws : List Wd) : List Value := ws.flatMap Wd.cells
theorem wcells_snoc (ws : List Wd) (u : Wd) : wcells (ws ++ [u]) = wcells ws ++ u.cells := by simp [wcells]
theorem wcells_at {us : List Wd} {j : Nat} {u : Wd} (h : us[j]? = some u) : (wcells us)[j * 3]? = some (.int .i64 u.kind) ∧ (wcells us)[j * 3 + 1]? = some (.int .i64 u.pos) ∧ (wcells us)[j * 3 + 2]? = some (.string u.text) := by
  induction us generalizing j with
  | nil => simp at h
  | cons v us ih =>
    rcases j with _ | j
    · simp at h; subst h; simp [wcells, Wd.cells]
    · have h' : us[j]? = some u := by simpa using h
      obtain ⟨h1, h2, h3⟩ := ih h'
      simp only [wcells, List.flatMap_cons] at h1 h2 h3 ⊢
      have e : v.cells.length = 3 := rfl
      refine ⟨?_, ?_, ?_⟩
      · rw [List.getElem?_append_right (by omega), e, ← h1]; congr 1; omega
      · rw [List.getElem?_append_right (by omega), e, ← h2]; congr 1; omega
      · rw [List.getElem?_append_right (by omega), e, ← h3]; congr 1; omega
def readW (pos : Nat) (l : List UInt8) : Option (List Wd) :=
  match l with
  | [] => some []
  | c :: r =>
    if wKind (c :: r) = 0 then none
    else (readW (pos + wLen (c :: r) + skipC false ((c :: r).drop (wLen (c :: r)))) (((c :: r).drop (wLen (c :: r))).drop (skipC false ((c :: r).drop (wLen (c :: r)))))).map (⟨wKind (c :: r), pos, ⟨((c :: r).take (wLen (c :: r))).toArray⟩⟩ :: ·)
termination_by l.length
decreasing_by
  have := wLen_pos c r
  simp only [List.length_drop, List.length_cons]
  omega
/-- The words of a text, or none where it has an error. -/
def readS (l : List UInt8) : Option (List Wd) := if l.length ≤ 4096 then readW (skipC false l) (l.drop (skipC false l)) else none

theorem ext_eq (s : ByteArray) (k n : Nat) : s.extract k (k + n) = ⟨((s.data.toList.drop k).take n).toArray⟩ := by
  have := ext_take s k n
  generalize s.extract k (k + n) = u at this
  cases u with
  | mk d => simp only at this; rw [← this]

theorem skip_at (s : ByteArray) (z : Int) (a m : Nat) (w : World) (hz : z = a) (hs : s.size ≤ 4096) (ha : a ≤ s.size) (M : Hid (m = a + skipC false (s.data.toList.drop a))) :
    Calls Tryz.prog 32 #[.string s, .int .i64 z] w fun e w' => e = .returned (.int .i64 m) ∧ w = w' := by
  subst hz
  refine (skip_any s a w hs ha).mono ?_
  rintro e w' ⟨rfl, rfl⟩
  exact ⟨ret_int (by rw [← M.out]), rfl⟩
theorem readW_step {k : Nat} {l : List UInt8} (hl : l ≠ []) (h : wKind l ≠ 0) : readW k l = (readW (k + wLen l + skipC false (l.drop (wLen l))) ((l.drop (wLen l)).drop (skipC false (l.drop (wLen l))))).map (⟨wKind l, k, ⟨(l.take (wLen l)).toArray⟩⟩ :: ·) := by
  cases l with
  | nil => exact absurd rfl hl
  | cons c r => rw [readW, if_neg h]
theorem readW_bad {k : Nat} {l : List UInt8} (hl : l ≠ []) (h : wKind l = 0) : readW k l = none := by
  cases l with
  | nil => exact absurd rfl hl
  | cons c r => rw [readW, if_pos h]

set_option maxHeartbeats 4000000 in
theorem Read_any (s : ByteArray) (w : World) (hs : s.size ≤ maxLen) :
    Calls Tryz.prog 18 #[.string s] w fun e w' => ∃ v er, e = .returned (.tuple #[v, .int .i64 er]) ∧ Below w.heap.size w w' ∧
      ((er = 0 ∧ ∃ ws, readS s.data.toList = some ws ∧ ws.length ≤ s.size ∧ w'.ownsRow w.heap.size 106 3 v ws.length (wcells ws)) ∨ (er ≠ 0 ∧ readS s.data.toList = none)) := by
  unfold maxLen at hs
  by_cases hsz : s.size ≤ 4096
  · have H0 : Hid (readS s.data.toList = readW (skipC false s.data.toList) (s.data.toList.drop (skipC false s.data.toList))) := by
      unfold Hid; rw [readS, if_pos (by simpa using hsz)]
    have hle := skipC_le false s.data.toList
    have hk0 : skipC false s.data.toList ≤ s.size := by simpa using hle
    obtain ⟨k0, hk0e⟩ : ∃ k0, k0 = skipC false s.data.toList := ⟨_, rfl⟩
    rw [← hk0e] at hk0 H0
    have K0 := Lib.hid hk0e
    obtain ⟨j0, ji, jz0, jz1, jz2⟩ := info_parts info_word
    clear hk0e hle
    go_enter Tryz.func18, Tryz.ntmps18
    go_wp2_with fail
    refine (skip_any s 0 _ hsz (by omega)).mono ?_
    rintro e w' ⟨rfl, rfl⟩
    rw [show ((0 + skipC false (s.data.toList.drop 0) : Nat) : Int) = (k0 : Nat) by rw [K0.out]; simp]
    go_wp2_with fail
    go_loopw [5, 4] (fun a vs wr => ∃ (k : Nat) (ws : List Wd) (v : Value), v = vs ∧ a = .int .i64 k ∧ k ≤ s.size ∧ ws.length ≤ k ∧ Hid (readS s.data.toList = (readW k (s.data.toList.drop k)).map (ws ++ ·)) ∧ Hid (wr.ownsRow w.heap.size 106 3 v ws.length (wcells ws)) ∧ Hid (Below w.heap.size w wr)) (fun a v _ => s.size - (intOf a).toNat)
    case atStart => exact ⟨k0, [], _, rfl, rfl, hk0, by simp, by rw [Hid, H0.out]; simp, World.ownsRow_nil _ _ _ _, Below.refl _ _⟩
    case round =>
      obtain ⟨k, ws, v, rfl, rfl, hk, hws, hread, O1, B1⟩ := hrel
      by_cases hlt : k < s.size
      · have hd := Lib.hid (drop_at hlt)
        have hB1 : w.heap.size ≤ wr.heap.size := B1.out.size
        by_cases hkd : wKind (s.data.toList.drop k) = 0
        · have hfin : readS s.data.toList = none := by
            rw [hread.out, hd.out, readW, if_pos (by rw [← hd.out]; exact hkd)]; rfl
          have Hfin := Lib.hid hfin
          have Hkd := Lib.hid hkd
          clear hfin hkd
          go_wp2_with fail
          refine (one_any s k _ hsz hlt).mono ?_
          rintro e w1 ⟨hone, hb⟩
          rcases hone with ⟨h, _⟩ | ⟨_, er, her, rfl⟩
          · exact absurd Hkd.out h
          have her2 : (er != 0) = true := by simpa using her
          have B2 := Lib.hid (B1.out.trans (hb.mono hB1))
          have E := Lib.hid her
          clear her hb
          go_wp2_with fail
          go_ret2
          exact ⟨_, _, rfl, B2.out.alloc B2.out.size _, .inr ⟨E.out, Hfin.out⟩⟩
        · obtain ⟨u, hu⟩ : ∃ u, s.extract k (k + wLen (s.data.toList.drop k)) = u := ⟨_, rfl⟩
          obtain ⟨kd, hkde⟩ : ∃ kd, wKind (s.data.toList.drop k) = kd := ⟨_, rfl⟩
          have hnil : s.data.toList.drop k ≠ [] := by rw [hd.out]; simp
          have hn : wLen (s.data.toList.drop k) = u.size := by
            have := wLen_le (s.data.toList.drop k)
            rw [drop_len] at this
            rw [← hu, ext_size _ _ _ (by omega)]; omega
          have hku : k + u.size ≤ s.size := by
            have := wLen_le (s.data.toList.drop k)
            rw [drop_len] at this
            omega
          have hu1 : 1 ≤ u.size := by rw [← hn, hd.out]; exact wLen_pos _ _
          have hut : (⟨((s.data.toList.drop k).take u.size).toArray⟩ : ByteArray) = u := by rw [← hn, ← ext_eq]; exact hu
          obtain ⟨m, hm⟩ : ∃ m, m = k + u.size + skipC false (s.data.toList.drop (k + u.size)) := ⟨_, rfl⟩
          have hms : m ≤ s.size := by
            have := skipC_le false (s.data.toList.drop (k + u.size))
            rw [drop_len] at this
            omega
          have hkm : k + 1 ≤ m := by omega
          have M := Lib.hid hm
          have hrd : Hid (readS s.data.toList = (readW m (s.data.toList.drop m)).map ((ws ++ [⟨kd, k, u⟩]) ++ ·)) := by
            unfold Hid
            rw [hread.out, readW_step hnil hkd, hn, List.drop_drop, List.drop_drop, ← hm, Option.map_map]
            congr 1
            funext x
            simp only [Function.comp, List.append_assoc, List.singleton_append]
            rw [hkde, hut]
          have Hkd := Lib.hid hkd
          have U := Lib.hid hu
          have KD := Lib.hid hkde
          have Hnil := Lib.hid hnil
          clear hu hkde hnil hn hm hkd hut
          go_wp2_with fail
          refine (one_any s k _ hsz hlt).mono ?_
          rintro e w1 ⟨hone, hb⟩
          have he : e = .returned (.tuple #[.agg #[.int .i64 kd, .int .i64 k, .string u], .int .i64 0]) := by
            rcases hone with ⟨_, h⟩ | ⟨h, _⟩
            · rw [h, KD.out, U.out]
            · exact absurd h Hkd.out
          subst he
          have B2 := Lib.hid (B1.out.trans (hb.mono hB1))
          have O2 := Lib.hid (own_bel O1.out hb)
          have hs2 := B2.out.size
          have B3 := Lib.hid (B2.out.alloc hs2 (.cells #[.int .i64 kd, .int .i64 k, .string u] 106))
          have X3 := Lib.hid (Blk.new w1 106 #[.int .i64 kd, .int .i64 k, .string u])
          have O3 := Lib.hid (O2.out.alloc (.cells #[.int .i64 kd, .int .i64 k, .string u] 106))
          have Z3 := Lib.hid B3.out.size
          have B4 := Lib.hid (B3.out.alloc Z3.out (.cells #[.int .i64 kd, .int .i64 k, .string u] 106))
          have X4 := Lib.hid (X3.out.alloc (.cells #[.int .i64 kd, .int .i64 k, .string u] 106))
          have R4 := Lib.hid (Src.new (m := 1) (c := 1) (size := 3) (Blk.new (w1.alloc (.cells #[.int .i64 kd, .int .i64 k, .string u] 106)) 106 #[.int .i64 kd, .int .i64 k, .string u]) rfl)
          have O4 := Lib.hid (O3.out.alloc (.cells #[.int .i64 kd, .int .i64 k, .string u] 106))
          have Z4 := Lib.hid B4.out.size
          have N4 : Hid (∀ y ∈ (#[.int .i64 kd, .int .i64 k, .string u] : Array Value).toList, y.oneCell' = true) := by intro y hy; simp at hy; rcases hy with rfl | rfl | rfl <;> rfl
          have E4 : Hid (some w1.heap.size ≠ v.ownBlock) := fun h => Nat.lt_irrefl _ (O2.out.lt _ h.symm).2
          simp only [World.size_alloc] at R4
          clear hone hb
          go_wp2_with (at_builtin; refine wpList_append_src _ rfl (.tmp 26) (.tmp 28) 74 rfl w.heap.size 106 j0 _ 3 32 Tryz.underlying74 ji jz0 jz1 jz2 rfl (by decide) _ ws.length (wcells ws) rfl O4.out 1 _ _ rfl R4.out N4.out (by unfold maxLen; omega) (by omega) Z4.out ?_; intro v7 w7 hown7 hg7; have B7 := Lib.hid (below_append B4.out O4.out hg7 Z4.out); have X7 := Lib.hid (X4.out.grown hg7 E4.out); have O7 := Lib.hid hown7; have d2 := X7.out.cell 2; clear hown7 hg7)
          refine (skip_at s _ (k + u.size) m _ (by omega) hsz hku M).mono ?_
          rintro e w8 ⟨rfl, rfl⟩
          go_wp2_with fail
          go_roundw
          case rel => exact ⟨m, ws ++ [⟨kd, k, u⟩], _, rfl, rfl, hms, by simp; omega, hrd, by rw [Hid, wcells_snoc, List.length_append]; exact O7.out, B7⟩
          case measure => simp [intOf]; omega
      · have hks : k = s.size := by omega
        have hfin : Hid (readS s.data.toList = some ws) := by
          unfold Hid
          rw [hread.out, List.drop_eq_nil_of_le (by simp [hks]), readW]
          simp
        clear hks
        go_wp2_with fail
        go_ret2
        exact ⟨_, _, rfl, B1.out, .inl ⟨rfl, ws, hfin.out, by omega, O1.out⟩⟩
  · have hfin : Hid (readS s.data.toList = none) := by
      unfold Hid
      rw [readS, if_neg (by simpa using hsz)]
    go_enter Tryz.func18, Tryz.ntmps18
    go_wp2_with fail
    go_ret2
    exact ⟨_, _, rfl, Below.refl _ _, .inr ⟨by decide, hfin.out⟩⟩
end Go.Proofs.YtaiokjhjakdhaaaGreatDoor

namespace Go.Proofs.YtaiokjhjakdhaaaGreatDoor
open Go.RowKit
set_option linter.unusedVariables false

/-- The words lie in the text one behind another. -/
def Placed (s : ByteArray) : Nat → List Wd → Prop
  | _, [] => True
  | e, x :: r => e ≤ x.pos ∧ x.pos + x.text.size ≤ s.size ∧ s.extract x.pos (x.pos + x.text.size) = x.text ∧ Placed s (x.pos + x.text.size) r
theorem Placed.le {s : ByteArray} {a b : Nat} {ws : List Wd} (h : Placed s b ws) (hab : a ≤ b) : Placed s a ws := by
  cases ws with
  | nil => trivial
  | cons x r => exact ⟨by have := h.1; omega, h.2⟩
theorem placed_read (s : ByteArray) : ∀ (n k : Nat) (ws : List Wd), s.size - k ≤ n → k ≤ s.size → readW k (s.data.toList.drop k) = some ws → Placed s k ws := by
  intro n
  induction n with
  | zero =>
    intro k ws hn hk h
    rw [List.drop_eq_nil_of_le (by simp; omega), readW] at h
    cases h; trivial
  | succ n ih =>
    intro k ws hn hk h
    by_cases hlt : k < s.size
    · have hnil : s.data.toList.drop k ≠ [] := by rw [drop_at hlt]; simp
      by_cases hkd : wKind (s.data.toList.drop k) = 0
      · rw [readW_bad hnil hkd] at h; cases h
      · rw [readW_step hnil hkd] at h
        obtain ⟨ws', hws, rfl⟩ := Option.map_eq_some_iff.1 h
        have hle := wLen_le (s.data.toList.drop k)
        rw [drop_len] at hle
        have hpos : 1 ≤ wLen (s.data.toList.drop k) := by
          obtain ⟨c, r, hcr⟩ := List.exists_cons_of_ne_nil hnil
          rw [hcr]; exact wLen_pos _ _
        rw [List.drop_drop, List.drop_drop] at hws
        have hsk := skipC_le false (s.data.toList.drop (k + wLen (s.data.toList.drop k)))
        rw [drop_len] at hsk
        have hr := ih _ ws' (by omega) (by omega) hws
        have hsz : (ByteArray.mk ((s.data.toList.drop k).take (wLen (s.data.toList.drop k))).toArray).size = wLen (s.data.toList.drop k) := by
          rw [← ext_eq, ext_size _ _ _ (by omega)]; omega
        refine ⟨Nat.le_refl _, ?_, ?_, ?_⟩
        · simp only [hsz]; omega
        · simp only [hsz]; exact ext_eq _ _ _
        · simp only [hsz]; exact hr.le (by omega)
    · have : k = s.size := by omega
      rw [List.drop_eq_nil_of_le (by simp; omega), readW] at h
      cases h; trivial
theorem placed_S {s : ByteArray} {ws : List Wd} (h : readS s.data.toList = some ws) : Placed s 0 ws ∧ s.size ≤ 4096 := by
  unfold readS at h
  split at h
  · rename_i hl
    have hle := skipC_le false s.data.toList
    simp only [Array.length_toList] at hle hl
    have hh := placed_read s s.size _ ws (by omega) hle h
    exact ⟨hh.le (by omega), hl⟩
  · cases h
theorem placed_at {s : ByteArray} : ∀ {ws : List Wd} {e k : Nat} {x : Wd}, Placed s e ws → ws[k]? = some x → x.pos + x.text.size ≤ s.size ∧ s.extract x.pos (x.pos + x.text.size) = x.text ∧ Placed s (x.pos + x.text.size) (ws.drop (k + 1)) := by
  intro ws
  induction ws with
  | nil => intro e k x _ h; simp at h
  | cons y r ih =>
    intro e k x h hk
    cases k with
    | zero => simp at hk; subst hk; exact h.2
    | succ k => exact ih h.2.2.2 (by simpa using hk)
end Go.Proofs.YtaiokjhjakdhaaaGreatDoor

namespace Go.Proofs.YtaiokjhjakdhaaaGreatDoor
open Go.RowKit
set_option linter.unusedVariables false

def brkB (c : UInt8) : Bool := c == 32 || c == 10 || c == 35
/-- Nothing follows, or a blank, or a comment. -/
def Brk (r : List UInt8) : Prop := ∀ c, r.head? = some c → brkB c = true

theorem brk_letter {c : UInt8} (h : brkB c = true) : letterB c = false := by
  unfold brkB at h
  simp only [Bool.or_eq_true, beq_iff_eq] at h
  rcases h with (rfl | rfl) | rfl <;> decide
theorem brk_digit {c : UInt8} (h : brkB c = true) : digitB c = false := by
  unfold brkB at h
  simp only [Bool.or_eq_true, beq_iff_eq] at h
  rcases h with (rfl | rfl) | rfl <;> decide
theorem brk_47 {c : UInt8} (h : brkB c = true) : c ≠ 47 := by
  unfold brkB at h
  simp only [Bool.or_eq_true, beq_iff_eq] at h
  rcases h with (rfl | rfl) | rfl <;> decide
theorem letter_head {c : UInt8} (h : letterB c = true) : blankB c = false ∧ (c == 35) = false := by
  have h1 := (letter_iff c).1 h
  refine ⟨?_, ?_⟩
  · rw [Bool.eq_false_iff]; intro hb; have := (blank_iff c).1 hb; omega
  · rw [Bool.eq_false_iff]; intro hb
    have : (c.toNat : Int) = 35 := (u8_eq c 35).1 hb
    omega
theorem digit_head {c : UInt8} (h : digitB c = true) : blankB c = false ∧ (c == 35) = false := by
  have h1 := (digit_iff c).1 h
  refine ⟨?_, ?_⟩
  · rw [Bool.eq_false_iff]; intro hb; have := (blank_iff c).1 hb; omega
  · rw [Bool.eq_false_iff]; intro hb
    have : (c.toNat : Int) = 35 := (u8_eq c 35).1 hb
    omega
theorem sign_head {c : UInt8} (h : signB c = true) : blankB c = false ∧ (c == 35) = false := by
  have h1 := (sign_iff c).1 h
  refine ⟨?_, ?_⟩
  · rw [Bool.eq_false_iff]; intro hb; have := (blank_iff c).1 hb; omega
  · rw [Bool.eq_false_iff]; intro hb
    have : (c.toNat : Int) = 35 := (u8_eq c 35).1 hb
    omega

theorem runN_all (p : UInt8 → Bool) : ∀ (t r : List UInt8), t.all p = true → (∀ c, r.head? = some c → p c = false) → runN p (t ++ r) = t.length := by
  intro t
  induction t with
  | nil =>
    intro r _ hr
    cases r with
    | nil => rfl
    | cons c r => rw [List.nil_append, runN_cons, if_neg (by rw [hr c rfl]; simp)]; rfl
  | cons a t ih =>
    intro r ht hr
    simp only [List.all_cons, Bool.and_eq_true] at ht
    rw [List.cons_append, runN_cons, if_pos ht.1, ih r ht.2 hr]; rfl
theorem take_runN (p : UInt8 → Bool) (l : List UInt8) : (l.take (runN p l)).all p = true := by
  induction l with
  | nil => rfl
  | cons a l ih =>
    rw [runN_cons]
    split
    · rename_i h; rw [List.take_succ_cons, List.all_cons, h, ih]; rfl
    · rfl
/-- Words: a kind and a text that are read so wherever they stand, if a break follows. -/
def GoodW (k : Nat) (t : List UInt8) : Prop :=
  k ≠ 0 ∧ (∃ c r, t = c :: r ∧ blankB c = false ∧ (c == 35) = false) ∧ ∀ r, Brk r → wLen (t ++ r) = t.length ∧ wKind (t ++ r) = k
/-- What the program calls a valid word. -/
def ValidW (k : Nat) (t : List UInt8) : Prop :=
  (k = 1 ∧ isIsName t = true) ∨ (k = 2 ∧ isNumL t = true) ∨ (k = 3 ∧ ∃ c, t = [c] ∧ signB c = true)

theorem Brk.letter {r : List UInt8} (h : Brk r) : ∀ c, r.head? = some c → letterB c = false := fun c hc => brk_letter (h c hc)
theorem Brk.digit {r : List UInt8} (h : Brk r) : ∀ c, r.head? = some c → digitB c = false := fun c hc => brk_digit (h c hc)

theorem good_of_read (l : List UInt8) (hk : wKind l ≠ 0) : GoodW (wKind l) (l.take (wLen l)) ∧ ValidW (wKind l) (l.take (wLen l)) := by
  cases l with
  | nil => exact absurd rfl hk
  | cons c l =>
    by_cases hc : letterB c = true
    · have hl : wLen (c :: l) = runN letterB (c :: l) := by simp only [wLen, hc, if_true]
      have hkd : wKind (c :: l) = if isIsName ((c :: l).take (wLen (c :: l))) then 1 else 0 := by
        conv => lhs; unfold wKind
        simp only [hc, if_true]
      have hn : isIsName ((c :: l).take (wLen (c :: l))) = true := by
        cases hq : isIsName ((c :: l).take (wLen (c :: l)))
        · rw [hq] at hkd; exact absurd hkd hk
        · rfl
      rw [hn] at hkd
      simp only [if_true] at hkd
      have hall : ((c :: l).take (wLen (c :: l))).all letterB = true := by rw [hl]; exact take_runN _ _
      obtain ⟨t, ht⟩ : ∃ t, (c :: l).take (wLen (c :: l)) = c :: t := by
        have hp := wLen_pos c l
        obtain ⟨m, hm⟩ : ∃ m, wLen (c :: l) = m + 1 := ⟨wLen (c :: l) - 1, by omega⟩
        rw [hm]; exact ⟨_, List.take_succ_cons⟩
      rw [hkd]
      refine ⟨⟨by decide, ⟨c, t, ht, letter_head hc⟩, fun r hr => ?_⟩, .inl ⟨rfl, hn⟩⟩
      rw [ht] at hall hn ⊢
      have hrun : runN letterB ((c :: t) ++ r) = (c :: t).length := runN_all _ _ _ hall hr.letter
      have hl2 : wLen ((c :: t) ++ r) = (c :: t).length := by
        rw [← hrun]
        simp only [List.cons_append, wLen, hc, if_true]
      refine ⟨hl2, ?_⟩
      have : wKind ((c :: t) ++ r) = if isIsName (((c :: t) ++ r).take (wLen ((c :: t) ++ r))) then 1 else 0 := by
        conv => lhs; rw [List.cons_append]; unfold wKind
        simp only [hc, if_true]
        rfl
      rw [this, hl2, List.take_left, hn]; rfl
    · have hc' : letterB c = false := by simpa using hc
      by_cases hd : digitB c = true
      · have hl : wLen (c :: l) = numLen (c :: l) := by simp only [wLen, hc', hd, if_true]; rfl
        have hkd : wKind (c :: l) = if isNumL ((c :: l).take (wLen (c :: l))) then 2 else 0 := by
          conv => lhs; unfold wKind
          simp only [hc', hd, if_true]
          rfl
        have hn : isNumL ((c :: l).take (wLen (c :: l))) = true := by
          cases hq : isNumL ((c :: l).take (wLen (c :: l)))
          · rw [hq] at hkd; exact absurd hkd hk
          · rfl
        rw [hn] at hkd
        simp only [if_true] at hkd
        obtain ⟨t, ht⟩ : ∃ t, (c :: l).take (wLen (c :: l)) = c :: t := by
          have hp := wLen_pos c l
          obtain ⟨m, hm⟩ : ∃ m, wLen (c :: l) = m + 1 := ⟨wLen (c :: l) - 1, by omega⟩
          rw [hm]; exact ⟨_, List.take_succ_cons⟩
        rw [hkd]
        refine ⟨⟨by decide, ⟨c, t, ht, digit_head hd⟩, fun r hr => ?_⟩, .inr (.inl ⟨rfl, hn⟩)⟩
        have hnl : numLen ((c :: t) ++ r) = (c :: t).length := by
          rw [← ht, hl]
          generalize hL : c :: l = L at *
          have hle := numLen_le L
          unfold numLen
          by_cases hcond : runN digitB L + 1 < L.length ∧ L[runN digitB L]? = some 47 ∧ (L[runN digitB L + 1]?.any digitB) = true
          · rw [if_pos hcond]
            obtain ⟨h1, h2, h3⟩ := hcond
            obtain ⟨n, hnn⟩ : ∃ n, n = runN digitB L := ⟨_, rfl⟩
            rw [← hnn] at h1 h2 h3 ⊢
            obtain ⟨m, hm⟩ : ∃ m, m = runN digitB (L.drop (n + 1)) := ⟨_, rfl⟩
            rw [← hm]
            have hA : (L.take n).all digitB = true := by rw [hnn]; exact take_runN _ _
            have hB : ((L.drop (n + 1)).take m).all digitB = true := by rw [hm]; exact take_runN _ _
            have hmle : m ≤ L.length - (n + 1) := by
              have := runN_le digitB (L.drop (n + 1)); rw [List.length_drop] at this; omega
            have hm1 : 1 ≤ m := by
              cases hx : L[n + 1]? with
              | none => rw [hx] at h3; simp at h3
              | some x =>
                rw [hx] at h3
                have h3' : digitB x = true := by simpa using h3
                have hdc : L.drop (n + 1) = x :: L.drop (n + 2) := by
                  obtain ⟨hh, hxx⟩ := List.getElem?_eq_some_iff.1 hx
                  rw [List.drop_eq_getElem_cons hh, hxx]
                rw [hm, hdc]; exact runN_pos h3'
            have hsplit : L.take (n + 1 + m) = L.take n ++ (47 :: (L.drop (n + 1)).take m) := by
              rw [List.take_add, List.take_add_one, h2]
              simp
            have hlenA : (L.take n).length = n := by rw [List.length_take]; omega
            have hlenB : ((L.drop (n + 1)).take m).length = m := by rw [List.length_take, List.length_drop]; omega
            rw [hsplit]
            generalize hA' : L.take n = A at *
            generalize hB' : (L.drop (n + 1)).take m = Bq at *
            have r1 : runN digitB (A ++ 47 :: Bq ++ r) = n := by
              rw [List.append_assoc, runN_all _ _ _ hA (by intro c hc; simp at hc; subst hc; decide), hlenA]
            rw [r1]
            have e1 : (A ++ 47 :: Bq ++ r)[n]? = some 47 := by
              rw [List.append_assoc, List.getElem?_append_right (by omega), hlenA]; simp
            have e2 : (A ++ 47 :: Bq ++ r).drop (n + 1) = Bq ++ r := by
              rw [List.append_assoc, List.drop_append, hlenA, List.drop_eq_nil_of_le (by omega), show n + 1 - n = 1 by omega]; rfl
            have e3 : (A ++ 47 :: Bq ++ r)[n + 1]? = Bq[0]? := by
              have := List.getElem?_drop (xs := A ++ 47 :: Bq ++ r) (i := n + 1) (j := 0)
              rw [Nat.add_zero] at this
              rw [← this, e2, List.getElem?_append_left (by omega)]
            have e4 : (Bq[0]?.any digitB) = true := by
              cases Bq with
              | nil => simp at hlenB; omega
              | cons b Bq => simp only [List.all_cons, Bool.and_eq_true] at hB; simpa using hB.1
            rw [e1, e3, e2, runN_all _ _ _ hB hr.digit, hlenB, if_pos ⟨by simp; omega, rfl, e4⟩]
            simp; omega
          · rw [if_neg hcond]
            have hrunle := runN_le digitB L
            have hA : (L.take (runN digitB L)).all digitB = true := take_runN _ _
            have hlenA : (L.take (runN digitB L)).length = runN digitB L := by rw [List.length_take]; omega
            generalize hA' : L.take (runN digitB L) = A at *
            rw [runN_all _ _ _ hA hr.digit]
            rw [if_neg]
            rintro ⟨_, h2, _⟩
            rw [List.getElem?_append_right (by omega), Nat.sub_self] at h2
            have : r.head? = some 47 := by rw [← h2]; cases r <;> rfl
            exact brk_47 (hr _ this) rfl
        have hl2 : wLen ((c :: t) ++ r) = (c :: t).length := by
          rw [← hnl]
          simp only [List.cons_append, wLen, hc', hd, if_true]; rfl
        rw [ht] at hn ⊢
        refine ⟨hl2, ?_⟩
        have : wKind ((c :: t) ++ r) = if isNumL (((c :: t) ++ r).take (wLen ((c :: t) ++ r))) then 2 else 0 := by
          conv => lhs; rw [List.cons_append]; unfold wKind
          simp only [hc', hd, if_true]
          rfl
        rw [this, hl2, List.take_left, hn]; rfl
      · have hd' : digitB c = false := by simpa using hd
        have hl : ∀ l, wLen (c :: l) = 1 := fun l => by simp only [wLen, hc', hd']; rfl
        have hkd : ∀ l, wKind (c :: l) = if signB c then 3 else 0 := fun l => by simp only [wKind, hc', hd']; rfl
        have hs : signB c = true := by
          cases hq : signB c
          · rw [hkd, hq] at hk; exact absurd rfl hk
          · rfl
        have ht : (c :: l).take (wLen (c :: l)) = [c] := by rw [hl]; rfl
        rw [hkd, hs, ht]
        exact ⟨⟨by decide, ⟨c, [], rfl, sign_head hs⟩, fun r hr => ⟨hl _, by rw [List.singleton_append, hkd, hs]⟩⟩, .inr (.inr ⟨rfl, c, rfl, hs⟩)⟩
end Go.Proofs.YtaiokjhjakdhaaaGreatDoor

namespace Go.Proofs.YtaiokjhjakdhaaaGreatDoor
open Go.RowKit
set_option linter.unusedVariables false

def Wd.t (x : Wd) : List UInt8 := x.text.data.toList
theorem read_good : ∀ (n k : Nat) (l : List UInt8) (ws : List Wd), l.length ≤ n → readW k l = some ws → ∀ x ∈ ws, GoodW x.kind x.t ∧ ValidW x.kind x.t := by
  intro n
  induction n with
  | zero =>
    intro k l ws hl h x hx
    have : l = [] := List.eq_nil_of_length_eq_zero (by omega)
    subst this
    rw [readW] at h; cases h; cases hx
  | succ n ih =>
    intro k l ws hl h x hx
    by_cases hnil : l = []
    · subst hnil; rw [readW] at h; cases h; cases hx
    · by_cases hkd : wKind l = 0
      · rw [readW_bad hnil hkd] at h; cases h
      · rw [readW_step hnil hkd] at h
        obtain ⟨ws', hws, rfl⟩ := Option.map_eq_some_iff.1 h
        have hpos : 1 ≤ wLen l := by
          obtain ⟨c, r, hcr⟩ := List.exists_cons_of_ne_nil hnil
          rw [hcr]; exact wLen_pos _ _
        have hlp : 1 ≤ l.length := by
          cases l with
          | nil => exact absurd rfl hnil
          | cons a l => simp
        rcases List.mem_cons.1 hx with rfl | hx
        · exact good_of_read l hkd
        · exact ih _ _ ws' (by simp only [List.length_drop]; omega) hws x hx
theorem readS_good {l : List UInt8} {ws : List Wd} (h : readS l = some ws) : ∀ x ∈ ws, GoodW x.kind x.t ∧ ValidW x.kind x.t := by
  unfold readS at h
  split at h
  · exact read_good _ _ _ ws (Nat.le_refl _) h
  · cases h

def wsum : List Wd → Nat
  | [] => 0
  | x :: r => x.text.size + wsum r
theorem placed_sum {s : ByteArray} : ∀ {ws : List Wd} {e : Nat}, Placed s e ws → e ≤ s.size → wsum ws ≤ s.size - e := by
  intro ws
  induction ws with
  | nil => intro e _ _; simp [wsum]
  | cons x r ih =>
    intro e h he
    obtain ⟨h1, h2, _, h4⟩ := h
    have := ih h4 h2
    simp only [wsum]; omega

structure IsGap (g : List UInt8) : Prop where
  head : ∃ c r, g = c :: r ∧ brkB c = true
  skip : ∀ rest, skipC false (g ++ rest) = g.length + skipC false rest
def lay : List (List UInt8) → List Wd → List UInt8
  | g :: gs, x :: ws => g ++ (x.t ++ lay gs ws)
  | _, _ => []
theorem lay_brk (gs : List (List UInt8)) (ws : List Wd) (hg : ∀ g ∈ gs, IsGap g) : Brk (lay gs ws) := by
  intro c hc
  cases gs with
  | nil => simp [lay] at hc
  | cons g gs =>
    cases ws with
    | nil => simp [lay] at hc
    | cons x ws =>
      obtain ⟨c', r, rfl, hb⟩ := (hg g (by simp)).head
      simp [lay] at hc
      subst hc; exact hb
theorem skip_good {k : Nat} {t : List UInt8} (h : GoodW k t) (r : List UInt8) : skipC false (t ++ r) = 0 := by
  obtain ⟨c, q, rfl, h1, h2⟩ := h.2.1
  rw [List.cons_append, skipC, if_neg (by rw [h1]; simp), if_neg (by rw [h2]; simp)]
/-- Two lists of words with the same kinds and texts. -/
def SameW (ws vs : List Wd) : Prop := ws.map (fun x => (x.kind, x.text)) = vs.map (fun x => (x.kind, x.text))
theorem read_one (x : Wd) (p : Nat) (L : List UInt8) (h : GoodW x.kind x.t) (hL : Brk L) : readW p (x.t ++ L) = (readW (p + x.t.length + skipC false L) (L.drop (skipC false L))).map (⟨x.kind, p, x.text⟩ :: ·) := by
  obtain ⟨h1, h2⟩ := h.2.2 L hL
  have hnil : x.t ++ L ≠ [] := by
    obtain ⟨c, q, hq, _⟩ := h.2.1
    rw [hq]; simp
  rw [readW_step hnil (by rw [h2]; exact h.1), h1, h2, List.drop_left, List.take_left]
  rfl
theorem read_lay : ∀ (ws : List Wd) (gs : List (List UInt8)) (p : Nat), gs.length = ws.length → (∀ g ∈ gs, IsGap g) → (∀ x ∈ ws, GoodW x.kind x.t) → ∃ vs, readW (p + skipC false (lay gs ws)) ((lay gs ws).drop (skipC false (lay gs ws))) = some vs ∧ SameW ws vs := by
  intro ws
  induction ws with
  | nil =>
    intro gs p hl _ _
    have : gs = [] := List.eq_nil_of_length_eq_zero (by simpa using hl)
    subst this
    exact ⟨[], by simp [lay, skipC, readW], rfl⟩
  | cons x ws ih =>
    intro gs p hl hg hw
    cases gs with
    | nil => simp at hl
    | cons g gs =>
      have hgd := hw x (by simp)
      obtain ⟨vs, hv, hsame⟩ := ih gs (p + g.length + x.t.length) (by simpa using hl) (fun g h => hg g (by simp [h])) (fun y h => hw y (by simp [h]))
      have hsk : skipC false (lay (g :: gs) (x :: ws)) = g.length := by
        rw [lay, (hg g (by simp)).skip, skip_good hgd]; rfl
      refine ⟨⟨x.kind, p + g.length, x.text⟩ :: vs, ?_, ?_⟩
      · rw [hsk, lay, List.drop_left, read_one x _ _ hgd (lay_brk gs ws fun g h => hg g (by simp [h])), hv]
        rfl
      · unfold SameW at hsame ⊢
        rw [List.map_cons, List.map_cons, hsame]
theorem gap_blank : IsGap [32] := ⟨⟨32, [], rfl, by decide⟩, fun rest => by simp [skipC, blankB]; omega⟩
theorem join_lay (x : Wd) (ws : List Wd) : Lib.join ((x :: ws).map (·.text.data.toList)) [32] = x.t ++ lay (List.replicate ws.length [32]) ws := by
  rw [List.map_cons, Lib.join_cons]
  congr 1
  induction ws with
  | nil => rfl
  | cons y ws ih =>
    rw [show Lib.joinTail [32] ((y :: ws).map (·.text.data.toList)) = ([32] ++ y.text.data.toList) ++ Lib.joinTail [32] (ws.map (·.text.data.toList)) by simp [Lib.joinTail], ih]
    simp only [List.length_cons, List.replicate_succ, lay, List.append_assoc]
    rfl
theorem read_join {ws : List Wd} (hw : ∀ x ∈ ws, GoodW x.kind x.t) (hl : (Lib.join (ws.map (·.text.data.toList)) [32]).length ≤ 4096) : ∃ vs, readS (Lib.join (ws.map (·.text.data.toList)) [32]) = some vs ∧ SameW ws vs := by
  cases ws with
  | nil => exact ⟨[], by simp [Lib.join, readS, skipC, readW], rfl⟩
  | cons x ws =>
    rw [readS, if_pos hl, join_lay]
    have hgd := hw x (by simp)
    have hgaps : ∀ g ∈ List.replicate ws.length [(32 : UInt8)], IsGap g := fun g hg => by
      rw [List.eq_of_mem_replicate hg]; exact gap_blank
    obtain ⟨vs, hv, hsame⟩ := read_lay ws (List.replicate ws.length [32]) (0 + x.t.length) (by simp) hgaps (fun y h => hw y (by simp [h]))
    refine ⟨⟨x.kind, 0, x.text⟩ :: vs, ?_, ?_⟩
    · rw [skip_good hgd, List.drop_zero, read_one x _ _ hgd (lay_brk _ _ hgaps), hv]; rfl
    · unfold SameW at hsame ⊢
      rw [List.map_cons, List.map_cons, hsame]
end Go.Proofs.YtaiokjhjakdhaaaGreatDoor

namespace Go.Proofs.YtaiokjhjakdhaaaGreatDoor
open Go.RowKit
set_option linter.unusedVariables false

def joinL (ws : List Wd) : List UInt8 := Lib.join (ws.map (·.text.data.toList)) [32]
theorem joinL_len : ∀ ws : List Wd, (joinL ws).length ≤ wsum ws + ws.length := by
  intro ws
  cases ws with
  | nil => simp [joinL, Lib.join]
  | cons x ws =>
    rw [joinL, join_lay, List.length_append, wsum]
    have h : ∀ ws : List Wd, (lay (List.replicate ws.length [32]) ws).length ≤ wsum ws + ws.length := by
      intro ws
      induction ws with
      | nil => simp [lay]
      | cons y ws ih => simp only [List.length_cons, List.replicate_succ, lay, List.length_append, wsum, Wd.t, Array.length_toList] at ih ⊢; simp; have : y.text.data.size = y.text.size := rfl; omega
    have := h ws
    simp only [Wd.t, Array.length_toList, List.length_cons]
    have : x.text.data.size = x.text.size := rfl
    omega

end Go.Proofs.YtaiokjhjakdhaaaGreatDoor

namespace Go.Proofs.YtaiokjhjakdhaaaGreatDoor
open Go.RowKit
set_option linter.unusedVariables false

end Go.Proofs.YtaiokjhjakdhaaaGreatDoor

namespace Go.Proofs.YtaiokjhjakdhaaaGreatDoor
open Go.RowKit
set_option linter.unusedVariables false

theorem placed_text {s : ByteArray} {ws : List Wd} {e : Nat} (h : Placed s e ws) : ∀ x ∈ ws, x.text.size ≤ s.size := by
  intro x hx
  obtain ⟨k, hk⟩ := List.mem_iff_getElem?.1 hx
  have := (placed_at h hk).1
  omega
end Go.Proofs.YtaiokjhjakdhaaaGreatDoor
