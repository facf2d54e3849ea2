/- The walks of strings.Cut at a slash, word.IsNumber and word.one. -/
import Derived.Test.YtaiokjhjakdhaaaGreatDoorPb13
import Derived.Deep.QuietTactic
import Derived.BigQuiet
namespace Go.Proofs.YtaiokjhjakdhaaaGreatDoor
open Go.RowKit
set_option linter.unusedVariables false

set_option maxHeartbeats 1000000 in
theorem cut_none (s : ByteArray) (w : World) (hs : s.size ≤ maxLen) (h : Lib.indexByte s.data.toList 47 = -1) :
    Calls Tryz.prog 76 #[.string s, .string ⟨#[47]⟩] w fun e w' => e = .returned (.tuple #[.string s, .string ⟨#[]⟩, .bool false]) ∧ w = w' := by
  have H := Lib.hid h
  clear h
  go_enter Tryz.func76, Tryz.ntmps76
  go_wp2_with (go_at_call 88; refine (Tryz.stringslite_Index_one _ _ _).mono ?_; rintro e w' ⟨rfl, rfl⟩; rw [H.out])
  go_ret3
  exact ⟨rfl, rfl⟩

set_option maxHeartbeats 1000000 in
theorem cut_some (s : ByteArray) (w : World) (i : Nat) (hs : s.size ≤ maxLen) (h : Lib.indexByte s.data.toList 47 = i) :
    Calls Tryz.prog 76 #[.string s, .string ⟨#[47]⟩] w fun e w' => e = .returned (.tuple #[.string (s.extract 0 i), .string (s.extract (i + 1) s.size), .bool true]) ∧ ∃ n, w' = w.drewN n := by
  have hi : i < s.size := by
    have := (Lib.indexByte_some h).1
    simpa using lt_of_at this
  unfold maxLen at hs
  have H := Lib.hid h
  clear h
  go_enter Tryz.func76, Tryz.ntmps76
  go_wp2_with (go_at_call 88; refine (Tryz.stringslite_Index_one _ _ _).mono ?_; rintro e w' ⟨rfl, rfl⟩; rw [H.out])
  go_quiet (fail)
  go_wp2
  go_ret3
  exact ⟨rfl, _, rfl⟩
theorem ext_list (s : ByteArray) (a b : Nat) : (s.extract a b).data.toList = (s.data.toList.drop a).take (b - a) := by
  rw [ByteArray.data_extract, Array.toList_extract, List.extract_eq_take_drop]
theorem ext_size (s : ByteArray) (a b : Nat) (h : b ≤ s.size) : (s.extract a b).size = b - a := by
  rw [ByteArray.size_extract]; omega

set_option maxHeartbeats 1000000 in
theorem scut_none (s : ByteArray) (w : World) (hs : s.size ≤ maxLen) (h : Lib.indexByte s.data.toList 47 = -1) :
    Calls Tryz.prog 64 #[.string s, .string ⟨#[47]⟩] w fun e w' => e = .returned (.tuple #[.string s, .string ⟨#[]⟩, .bool false]) ∧ w = w' := by
  have H := Lib.hid h
  clear h
  go_enter Tryz.func64, Tryz.ntmps64
  go_wp2_with (go_at_call 76; refine (cut_none _ _ hs H.out).mono ?_; rintro e w' ⟨rfl, rfl⟩)
  go_ret3
  exact ⟨rfl, rfl⟩

set_option maxHeartbeats 1000000 in
theorem scut_some (s u v : ByteArray) (w : World) (i : Nat) (hs : s.size ≤ maxLen) (h : Lib.indexByte s.data.toList 47 = i) (hu : s.extract 0 i = u) (hv : s.extract (i + 1) s.size = v) :
    Calls Tryz.prog 64 #[.string s, .string ⟨#[47]⟩] w fun e w' => e = .returned (.tuple #[.string u, .string v, .bool true]) ∧ ∃ n, w' = w.drewN n := by
  subst hu hv
  have H := Lib.hid h
  clear h
  go_enter Tryz.func64, Tryz.ntmps64
  go_wp2_with (go_at_call 76; refine (cut_some _ _ i hs H.out).mono ?_; rintro e w' ⟨rfl, n, rfl⟩)
  go_ret3
  exact ⟨rfl, n, rfl⟩

/-- Is a text a number: digits, or two of these with a slash between them? -/
def isNumL (l : List UInt8) : Bool :=
  if Lib.indexByte l 47 = -1 then isdigits l
  else isdigits (l.take (Lib.indexByte l 47).toNat) && isdigits (l.drop ((Lib.indexByte l 47).toNat + 1))

set_option maxHeartbeats 1000000 in
theorem IsNumber_any (s : ByteArray) (w : World) (hs : s.size ≤ maxLen) (r : Bool) (hr : Hid (isNumL s.data.toList = r)) :
    Calls Tryz.prog 50 #[.string s] w fun e w' => e = .returned (.bool r) ∧ ∃ n, w' = w.drewN n := by
  by_cases hn : Lib.indexByte s.data.toList 47 = -1
  · have hd : Hid (isdigits s.data.toList = r) := by
      rw [Hid, ← hr.out, isNumL, if_pos hn]
    have H := Lib.hid hn
    clear hn
    cases r
    all_goals
      go_enter Tryz.func50, Tryz.ntmps50
      go_wp2_with (first
        | (go_at_call 64; refine (scut_none _ _ hs H.out).mono ?_; rintro e w' ⟨rfl, rfl⟩)
        | (go_at_call 65; refine (wdigits_any _ _ hs _ hd).mono ?_; rintro e w' ⟨rfl, rfl⟩))
      go_ret
      exact ⟨rfl, 0, rfl⟩
  · obtain ⟨i, hi⟩ : ∃ i : Nat, Lib.indexByte s.data.toList 47 = i := by
      have := Lib.indexByte_ge s.data.toList 47
      exact ⟨(Lib.indexByte s.data.toList 47).toNat, by omega⟩
    have hlt : i < s.size := by simpa using lt_of_at (Lib.indexByte_some hi).1
    have hrr : r = (isdigits (s.data.toList.take i) && isdigits (s.data.toList.drop (i + 1))) := by
      rw [← hr.out, isNumL, if_neg hn, hi]; rfl
    obtain ⟨u, hu⟩ : ∃ u, s.extract 0 i = u := ⟨_, rfl⟩
    obtain ⟨v, hv⟩ : ∃ v, s.extract (i + 1) s.size = v := ⟨_, rfl⟩
    have e1 : (s.extract 0 i).data.toList = s.data.toList.take i := by rw [ext_list]; simp
    have e2 : (s.extract (i + 1) s.size).data.toList = s.data.toList.drop (i + 1) := by
      rw [ext_list, List.take_of_length_le (by simp)]
    have z1 : (s.extract 0 i).size ≤ maxLen := by rw [ext_size _ _ _ (by omega)]; omega
    have z2 : (s.extract (i + 1) s.size).size ≤ maxLen := by rw [ext_size _ _ _ (by omega)]; omega
    obtain ⟨p, hp⟩ : ∃ p, isdigits (s.data.toList.take i) = p := ⟨_, rfl⟩
    obtain ⟨q, hq⟩ : ∃ q, isdigits (s.data.toList.drop (i + 1)) = q := ⟨_, rfl⟩
    rw [hp, hq] at hrr
    rw [hu] at e1 z1
    rw [hv] at e2 z2
    rw [← e1] at hp
    rw [← e2] at hq
    have Hu := Lib.hid hu
    have Hv := Lib.hid hv
    have Hi := Lib.hid hi
    have P := Lib.hid hp
    have Q := Lib.hid hq
    have Z1 := Lib.hid z1
    have Z2 := Lib.hid z2
    clear hu hv hi hp hq e1 e2 hn hr z1 z2 hlt
    subst hrr
    cases p
    · go_enter Tryz.func50, Tryz.ntmps50
      go_wp2_with (go_at_call 64; refine (scut_some _ u v _ i hs Hi.out Hu.out Hv.out).mono ?_; rintro e w' ⟨rfl, n, rfl⟩)
      go_must (refine (wdigits_any u _ Z1.out _ P).mono ?_; rintro e w' ⟨rfl, rfl⟩)
      go_wp2_with fail
      go_ret
      exact ⟨rfl, n, rfl⟩
    · cases q
      all_goals
        go_enter Tryz.func50, Tryz.ntmps50
        go_wp2_with (go_at_call 64; refine (scut_some _ u v _ i hs Hi.out Hu.out Hv.out).mono ?_; rintro e w' ⟨rfl, n, rfl⟩)
        go_must (refine (wdigits_any u _ Z1.out _ P).mono ?_; rintro e w' ⟨rfl, rfl⟩)
        go_wp2_with fail
        go_must (refine (wdigits_any v _ Z2.out _ Q).mono ?_; rintro e w' ⟨rfl, rfl⟩)
        go_wp2_with fail
        go_ret
        exact ⟨rfl, n, rfl⟩
end Go.Proofs.YtaiokjhjakdhaaaGreatDoor
