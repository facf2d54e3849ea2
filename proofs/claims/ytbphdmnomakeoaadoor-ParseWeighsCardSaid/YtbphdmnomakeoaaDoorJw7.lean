/- The walks of the small functions of package word. -/
import Derived.Test.YtbphdmnomakeoaaDoorProg
import Derived.Test.YtbphdmnomakeoaaDoorJw4
import Derived.BigGuardPart
namespace Go.Proofs.YtbphdmnomakeoaaDoor
open Go.RowKit
set_option linter.unusedVariables false

def letterB (c : UInt8) : Bool := 97 ≤ c && c ≤ 122
def digitB (c : UInt8) : Bool := 48 ≤ c && c ≤ 57
def blankB (c : UInt8) : Bool := c == 32 || c == 10
def signB (c : UInt8) : Bool := c == 123 || c == 125 || c == 59
theorem u8_eq (c d : UInt8) : (c == d) = true ↔ (c.toNat : Int) = d.toNat := by
  rw [beq_iff_eq, ← UInt8.toNat_inj]; omega
theorem letter_iff (c : UInt8) : letterB c = true ↔ 97 ≤ (c.toNat : Int) ∧ (c.toNat : Int) ≤ 122 := by
  unfold letterB
  simp [UInt8.le_iff_toNat_le]; omega
theorem digit_iff (c : UInt8) : digitB c = true ↔ 48 ≤ (c.toNat : Int) ∧ (c.toNat : Int) ≤ 57 := by
  unfold digitB
  simp [UInt8.le_iff_toNat_le]; omega
theorem blank_iff (c : UInt8) : blankB c = true ↔ (c.toNat : Int) = 32 ∨ (c.toNat : Int) = 10 := by
  unfold blankB
  rw [Bool.or_eq_true, u8_eq, u8_eq]; rfl
theorem sign_iff (c : UInt8) : signB c = true ↔ ((c.toNat : Int) = 123 ∨ (c.toNat : Int) = 125) ∨ (c.toNat : Int) = 59 := by
  unfold signB
  rw [Bool.or_eq_true, Bool.or_eq_true, u8_eq, u8_eq, u8_eq]; rfl

set_option maxHeartbeats 400000 in
theorem letter_any (c : UInt8) (w : World) (r : Bool) (hr : Hid (letterB c = r)) :
    Calls Tryd.prog 61 #[.int .u8 c.toNat] w fun e w' => e = .returned (.bool r) ∧ w = w' := by
  have h := Lib.hid (letter_iff c)
  by_cases h1 : 97 ≤ (c.toNat : Int)
  all_goals
    go_enter Tryd.func61, Tryd.ntmps61
    go_wp2
    go_ret
    exact ⟨ret_bool (by rw [← hr.out, Bool.eq_iff_iff, h.out]; simp; try omega), rfl⟩

/-- Of a string the byte at k. -/
theorem byte_at {s : ByteArray} {k : Nat} (h : k < s.size) : s.data.toList[k]? = some s[k] := by
  rw [List.getElem?_eq_getElem (by simpa using h)]; rfl

/-- How many bytes of a class stand at the beginning. -/
def runN (p : UInt8 → Bool) (l : List UInt8) : Nat := (l.takeWhile p).length
theorem runN_cons (p : UInt8 → Bool) (c : UInt8) (l : List UInt8) : runN p (c :: l) = if p c then runN p l + 1 else 0 := by
  unfold runN
  rw [List.takeWhile_cons]
  split <;> simp
theorem runN_le (p : UInt8 → Bool) (l : List UInt8) : runN p l ≤ l.length := by
  unfold runN
  exact (List.takeWhile_sublist p).length_le
theorem drop_at {s : ByteArray} {k : Nat} (h : k < s.size) : s.data.toList.drop k = s[k] :: s.data.toList.drop (k + 1) := by
  rw [List.drop_eq_getElem_cons (by simpa using h)]; rfl

end Go.Proofs.YtbphdmnomakeoaaDoor
