/- slices.Contains at texts, parse.keyword, parse.Name. Printed by gen/job.py. · parse.plain. Printed by gen/job.py. · parse.plain put together; parse.shape. Printed by gen/job.py. · parse.stmt, parse.stmts. Printed by gen/job.py. · parse.Check, types.kinds, types.Find, types.index. Printed by gen/job.py. · types.Bind. Printed by gen/job.py. · Small over the list of blocks. Printed by gen/job.py. · gantkeep4.stmt: words. Printed by gen/jobs.py. · gantkeep4.stmt at the greatest depth. Printed by gen/jobs.py. -/
import Derived.Test.YtaiokjhjakdhaaaGreatDoorPb22
import Derived.Test.YtaiokjhjakdhaaaGreatDoorPb13
import Derived.Test.YtaiokjhjakdhaaaGreatDoorPb20
namespace Go.Proofs.YtaiokjhjakdhaaaGreatDoor
open Go.RowKit
set_option linter.unusedVariables false
set_option maxRecDepth 100000

def oneS (s : ByteArray) : List Value := [.string s]
theorem oneS_len (s : ByteArray) : (oneS s).length = 1 := rfl
set_option maxHeartbeats 1000000 in
theorem indexS_any (E : Ents) (ws : List ByteArray) (v : Value) (n : Nat) (s : ByteArray) (w : World) (R : Hid (RowIn E 9 1 v n (flat oneS ws))) (HE : Hid (Hld E w)) :
    Calls Tryz.prog 66 #[v, .string s] w fun e w' => ∃ i : Int, e = .returned (.int .i64 i) ∧ (0 ≤ i ↔ s ∈ ws) ∧ w = w' := by
  have FN := Lib.hid (R.out.len oneS_len (by decide))
  have hnl := R.out.le
  obtain ⟨B, c, rfl, hcm⟩ := R.out.shape
  go_enter Tryz.func66, Tryz.ntmps66
  go_wp2_with (first
      | go_skip)
  go_loopw [5, 8] (fun _ i_ wr => ∃ j : Nat, i_ = .int .i64 j ∧ j ≤ n ∧ Hid (∀ (k : Nat) x, k < j → ws[k]? = some x → x ≠ s) ∧ wr = w) (fun _ i_ _ => n - (intOf i_).toNat)
  case atStart => exact ⟨0, rfl, by omega, Lib.hid fun k x h => by omega, rfl⟩
  case round =>
    obtain ⟨j, rfl, hj, HS, rfl⟩ := hrel
    by_cases hlt : j < n
    · obtain ⟨x, hx⟩ : ∃ x, ws[j]? = some x := ⟨_, List.getElem?_eq_getElem (by rw [FN.out]; exact hlt)⟩
      obtain ⟨g, c', e1, hr⟩ := R.out.at_ oneS_len hx (by decide)
      have X := Lib.hid (rangeAt_one (hr _ HE.out))
      simp only [Nat.mul_one] at X
      injection e1 with e1 _ e3
      subst e1
      have HX := Lib.hid hx
      clear hr hx e3
      by_cases he : s = x
      · have hb := str_eq he
        subst he
        go_wp2_with (first
            | go_skip
            | ((with_reducible refine isLoad ?_); refine ld1X X ?_ (hT := kStr)))
        go_ret
        exact ⟨_, rfl, ⟨fun _ => by exact List.mem_of_getElem? HX.out, fun _ => by omega⟩, rfl⟩
      · have hb := str_ne he
        go_wp2_with (first
            | go_skip
            | ((with_reducible refine isLoad ?_); refine ld1X X ?_ (hT := kStr)))
        go_roundw
        case rel => first | exact ⟨j + 1, by go_num, by omega, Lib.hid (fun k y hk hy => if e : k = j then by subst e; rw [HX.out] at hy; cases hy; exact fun e2 => he e2.symm else HS.out k y (by omega) hy), by first | rfl | trivial⟩ | (trace_state; fail)
        case measure => simp [intOf]; omega
    · go_wp2_with (first
          | go_skip)
      go_ret
      refine ⟨_, rfl, ⟨fun h => by omega, fun h => ?_⟩, rfl⟩
      obtain ⟨k, hk⟩ := List.mem_iff_getElem?.1 h
      exact absurd rfl (HS.out k s (by have := (List.getElem?_eq_some_iff.1 hk).1; rw [FN.out] at this; omega) hk)
theorem containsS_any (E : Ents) (ws : List ByteArray) (v : Value) (n : Nat) (s : ByteArray) (w : World) (R : Hid (RowIn E 9 1 v n (flat oneS ws))) (HE : Hid (Hld E w)) :
    Calls Tryz.prog 51 #[v, .string s] w fun e w' => e = .returned (.bool (memS s ws)) ∧ w = w' := by
  go_enter Tryz.func51, Tryz.ntmps51
  go_wp2_with (first
      | go_skip)
  go_at_call 66; refine (indexS_any E ws v n s _ R HE).mono ?_; rintro _ _ ⟨i, rfl, hi, rfl⟩
  have hd : decide (0 ≤ i) = memS s ws := by rw [Bool.eq_iff_iff, decide_eq_true_iff, hi, memS_iff]
  clear hi
  go_wp2_with (first
      | go_skip)
  go_ret
  exact ⟨rfl, rfl⟩
/-- The words that are no names. -/
def kws : List ByteArray := [⟨#[106, 111, 98]⟩, ⟨#[112, 117, 116]⟩, ⟨#[105, 110]⟩, ⟨#[119, 105, 116, 104, 105, 110]⟩, ⟨#[104, 111, 108, 100]⟩, ⟨#[119, 105, 116, 104]⟩, ⟨#[102, 114, 101, 101]⟩, ⟨#[115, 101, 101]⟩, ⟨#[119, 97, 105, 116]⟩, ⟨#[100, 111]⟩, ⟨#[114, 101, 112, 101, 97, 116]⟩, ⟨#[97, 110, 121]⟩, ⟨#[111, 114]⟩, ⟨#[116, 114, 121]⟩, ⟨#[101, 108, 115, 101]⟩]
def nameB (s : ByteArray) : Bool := isIsName s.data.toList && !memS s kws
set_option maxHeartbeats 1000000 in
theorem keyword_any (s : ByteArray) (w : World) (hT : Tb w) :
    Calls Tryz.prog 34 #[.string s] w fun e w' => e = .returned (.bool (memS s kws)) ∧ Below w.heap.size w w' := by
  have H := Lib.hid (Hp.start hT)
  go_enter Tryz.func34, Tryz.ntmps34
  go_wp2_with (first
      | go_skip
      | ((with_reducible refine isSlc ?_); refine bsA 9 [.string ⟨#[106, 111, 98]⟩, .string ⟨#[112, 117, 116]⟩, .string ⟨#[105, 110]⟩, .string ⟨#[119, 105, 116, 104, 105, 110]⟩, .string ⟨#[104, 111, 108, 100]⟩, .string ⟨#[119, 105, 116, 104]⟩, .string ⟨#[102, 114, 101, 101]⟩, .string ⟨#[115, 101, 101]⟩, .string ⟨#[119, 97, 105, 116]⟩, .string ⟨#[100, 111]⟩, .string ⟨#[114, 101, 112, 101, 97, 116]⟩, .string ⟨#[97, 110, 121]⟩, .string ⟨#[111, 114]⟩, .string ⟨#[116, 114, 121]⟩, .string ⟨#[101, 108, 115, 101]⟩] 15 H ?_; clear H; intro q _ H))
  go_at_call 51; refine (containsS_any [(q, 9, flat oneS kws)] kws _ 15 s _ (Lib.hid (RowIn.lit rfl (by decide))) (Lib.hid (H.out.hld (by intro x hx; exact hx)))).mono ?_; rintro _ _ ⟨rfl, rfl⟩
  go_wp2_with (first
      | go_skip
      | ((with_reducible refine isSlc ?_); refine bsA 9 [.string ⟨#[106, 111, 98]⟩, .string ⟨#[112, 117, 116]⟩, .string ⟨#[105, 110]⟩, .string ⟨#[119, 105, 116, 104, 105, 110]⟩, .string ⟨#[104, 111, 108, 100]⟩, .string ⟨#[119, 105, 116, 104]⟩, .string ⟨#[102, 114, 101, 101]⟩, .string ⟨#[115, 101, 101]⟩, .string ⟨#[119, 97, 105, 116]⟩, .string ⟨#[100, 111]⟩, .string ⟨#[114, 101, 112, 101, 97, 116]⟩, .string ⟨#[97, 110, 121]⟩, .string ⟨#[111, 114]⟩, .string ⟨#[116, 114, 121]⟩, .string ⟨#[101, 108, 115, 101]⟩] 15 H ?_; clear H; intro q _ H))
  go_ret
  exact ⟨rfl, H.out.bel⟩
set_option maxHeartbeats 1000000 in
theorem Name_any (s : ByteArray) (w : World) (hs : s.size ≤ maxLen) (hT : Tb w) :
    Calls Tryz.prog 26 #[.string s] w fun e w' => e = .returned (.bool (nameB s)) ∧ Below w.heap.size w w' := by
  have H := Lib.hid (Hp.start hT)
  unfold nameB
  obtain ⟨r1, h1⟩ : ∃ r, isIsName s.data.toList = r := ⟨_, rfl⟩
  have H1 := Lib.hid h1
  rw [h1]
  clear h1
  cases r1
  · go_enter Tryz.func26, Tryz.ntmps26
    go_wp2_with (first
        | go_skip
        | (go_at_call 39; refine (IsName_any s _ hs _ H1).mono ?_; rintro _ _ ⟨rfl, rfl⟩)
        | (go_at_call 34; refine (keyword_any s _ H.out.tb).mono ?_; rintro _ _ ⟨rfl, hb⟩; replace H := Lib.hid (H.out.go hb); clear hb))
    go_ret
    exact ⟨rfl, H.out.bel⟩
  · go_enter Tryz.func26, Tryz.ntmps26
    go_wp2_with (first
        | go_skip
        | (go_at_call 39; refine (IsName_any s _ hs _ H1).mono ?_; rintro _ _ ⟨rfl, rfl⟩)
        | (go_at_call 34; refine (keyword_any s _ H.out.tb).mono ?_; rintro _ _ ⟨rfl, hb⟩; replace H := Lib.hid (H.out.go hb); clear hb))
    go_ret
    exact ⟨by simp, H.out.bel⟩
end Go.Proofs.YtaiokjhjakdhaaaGreatDoor

namespace Go.Proofs.YtaiokjhjakdhaaaGreatDoor
open Go.RowKit
set_option linter.unusedVariables false
set_option maxRecDepth 100000

def badW : Option Rat → Bool
  | none => false
  | some q => decide (cmpQ q 0 ≤ 0) || !smallQ q
/-- The error of a statement without blocks. -/
def plainE (k : Int) (a b : ByteArray) (wd : Option Rat) (n : Int) (nb : Nat) : Int :=
  if nb ≠ 0 then 3 else if k ≠ 1 ∧ wd.isSome = true then 3 else if k ≠ 5 ∧ n ≠ 0 then 3
  else if k = 5 then (if a.size ≠ 0 then 3 else if b.size ≠ 0 then 3 else if n < 1 ∨ 2000 < n then 1 else 0)
  else if nameB a = false then 3
  else if k = 1 ∨ k = 2 then (if nameB b = false then 3 else if badW wd = true then 3 else 0)
  else if b.size ≠ 0 then 3 else 0
theorem sEmpty {s : ByteArray} (h : s.size = 0) : SEmpty s := by
  have e : s = ⟨#[]⟩ := ba_ext (List.eq_nil_of_length_eq_zero (by rw [← ba_size]; exact h))
  subst e
  exact ⟨by rw [ByteArray.toList_eq]; rfl, by rw [ByteArray.toList_eq]⟩
theorem sFull2 {s : ByteArray} (h : ¬ s.size = 0) : SFull s := by
  have e : ¬ s.toList = [] := fun e => h (by rw [ba_size, ← ByteArray.toList_eq, e]; rfl)
  exact ⟨by cases hs : s.toList with | nil => exact absurd hs e | cons => rfl, e, by omega⟩
set_option maxHeartbeats 4000000 in
theorem plain_nb (k n : Int) (a b : ByteArray) (wd : Option Rat) (B : Option Addr) (nb c : Nat) (w : World) (ha : a.size ≤ maxLen) (hb : b.size ≤ maxLen) (hs : SmO wd) (hT : Tb w) (h : nb ≠ 0) :
    Calls Tryz.prog 57 #[.agg (Sv.cells ⟨k, a, b, wd, n, .slice B nb c⟩).toArray] w fun e w' => e = .returned (.int .i64 3) ∧ Below w.heap.size w w' := by
  have H := Lib.hid (Hp.start hT)
  have S := Lib.hid hs
  clear hT hs
  unfold Sv.cells
  have dp : ¬ ((nb : Int) = 0) := by omega
  have dd : decide ((nb : Int) = 0) = false := decide_eq_false dp
  go_enter Tryz.func57, Tryz.ntmps57
  go_wp2_with (first
      | go_skip
      | ((with_reducible refine isLoad ?_); refine ldA H ?_ (hT := by first | exact rRat | exact rStm8 | exact rJob | exact rWks))
      | ((with_reducible refine isLoad ?_); refine ld1A H ?_ (hT := by first | exact kInt | exact kStr | exact kBll | exact kBool | exact kStl))
      | ((with_reducible refine isStore ?_); refine stA H ?_ (hT := by first | exact rRat); clear H; intro _ H)
      | ((with_reducible refine isBox ?_); refine bxA H ?_; clear H; intro _ _ H)
      | ((with_reducible refine isAlloc ?_); refine alA H ?_ (hz := by first | exact zRat); clear H; intro _ _ H))
  go_ret
  exact ⟨rfl, H.out.bel⟩
set_option maxHeartbeats 4000000 in
theorem plain_w (k n : Int) (a b : ByteArray) (wd : Option Rat) (B : Option Addr) (nb c : Nat) (w : World) (ha : a.size ≤ maxLen) (hb : b.size ≤ maxLen) (hs : SmO wd) (hT : Tb w) (h : nb = 0) (hk : k ≠ 1) (hw : wd.isSome = true) :
    Calls Tryz.prog 57 #[.agg (Sv.cells ⟨k, a, b, wd, n, .slice B nb c⟩).toArray] w fun e w' => e = .returned (.int .i64 3) ∧ Below w.heap.size w w' := by
  have H := Lib.hid (Hp.start hT)
  have S := Lib.hid hs
  clear hT hs
  subst h
  have dp : ¬ (k = 1) := hk
  have dd : decide (k = 1) = false := decide_eq_false dp
  cases wd with
  | none => exact absurd hw (by simp)
  | some q =>
    obtain ⟨N, hN⟩ : ∃ N, nuO (some q) = N := ⟨_, rfl⟩
    obtain ⟨D, hD⟩ : ∃ D, deO (some q) = D := ⟨_, rfl⟩
    have HN := Lib.hid hN
    have HD := Lib.hid hD
    obtain ⟨f1, f2, _⟩ := (show SFull D by rw [← hD]; exact sFull q.den_pos)
    unfold Sv.cells
    rw [hN, hD]
    clear hN hD
    go_enter Tryz.func57, Tryz.ntmps57
    go_wp2_with (first
        | go_skip
        | ((with_reducible refine isLoad ?_); refine ldA H ?_ (hT := by first | exact rRat | exact rStm8 | exact rJob | exact rWks))
        | ((with_reducible refine isLoad ?_); refine ld1A H ?_ (hT := by first | exact kInt | exact kStr | exact kBll | exact kBool | exact kStl))
        | ((with_reducible refine isStore ?_); refine stA H ?_ (hT := by first | exact rRat); clear H; intro _ H)
        | ((with_reducible refine isBox ?_); refine bxA H ?_; clear H; intro _ _ H)
        | ((with_reducible refine isAlloc ?_); refine alA H ?_ (hz := by first | exact zRat); clear H; intro _ _ H))
    go_ret
    exact ⟨rfl, H.out.bel⟩
set_option maxHeartbeats 4000000 in
theorem plain_n1 (k n : Int) (a b : ByteArray) (wd : Option Rat) (B : Option Addr) (nb c : Nat) (w : World) (ha : a.size ≤ maxLen) (hb : b.size ≤ maxLen) (hs : SmO wd) (hT : Tb w) (h : nb = 0) (hk : k = 1) (hn : n ≠ 0) :
    Calls Tryz.prog 57 #[.agg (Sv.cells ⟨k, a, b, wd, n, .slice B nb c⟩).toArray] w fun e w' => e = .returned (.int .i64 3) ∧ Below w.heap.size w w' := by
  have H := Lib.hid (Hp.start hT)
  have S := Lib.hid hs
  clear hT hs
  subst h
  subst hk
  have n0p : ¬ (n = 0) := by omega
  have n0d : decide (n = 0) = false := decide_eq_false n0p
  unfold Sv.cells
  go_enter Tryz.func57, Tryz.ntmps57
  go_wp2_with (first
      | go_skip
      | ((with_reducible refine isLoad ?_); refine ldA H ?_ (hT := by first | exact rRat | exact rStm8 | exact rJob | exact rWks))
      | ((with_reducible refine isLoad ?_); refine ld1A H ?_ (hT := by first | exact kInt | exact kStr | exact kBll | exact kBool | exact kStl))
      | ((with_reducible refine isStore ?_); refine stA H ?_ (hT := by first | exact rRat); clear H; intro _ H)
      | ((with_reducible refine isBox ?_); refine bxA H ?_; clear H; intro _ _ H)
      | ((with_reducible refine isAlloc ?_); refine alA H ?_ (hz := by first | exact zRat); clear H; intro _ _ H))
  go_ret
  exact ⟨rfl, H.out.bel⟩
set_option maxHeartbeats 4000000 in
theorem plain_nx (k n : Int) (a b : ByteArray) (wd : Option Rat) (B : Option Addr) (nb c : Nat) (w : World) (ha : a.size ≤ maxLen) (hb : b.size ≤ maxLen) (hs : SmO wd) (hT : Tb w) (h : nb = 0) (hk : k ≠ 1) (hk2 : k ≠ 5) (hn : n ≠ 0) (hw : ¬ wd.isSome = true) :
    Calls Tryz.prog 57 #[.agg (Sv.cells ⟨k, a, b, wd, n, .slice B nb c⟩).toArray] w fun e w' => e = .returned (.int .i64 3) ∧ Below w.heap.size w w' := by
  have H := Lib.hid (Hp.start hT)
  have S := Lib.hid hs
  clear hT hs
  subst h
  have k1p : ¬ (k = 1) := by omega
  have k1d : decide (k = 1) = false := decide_eq_false k1p
  have k5p : ¬ (k = 5) := by omega
  have k5d : decide (k = 5) = false := decide_eq_false k5p
  have n0p : ¬ (n = 0) := by omega
  have n0d : decide (n = 0) = false := decide_eq_false n0p
  cases wd with
  | some q => exact absurd hw (by simp)
  | none =>
    clear hw
    unfold Sv.cells
    simp only [sgO, nuO, deO]
    go_enter Tryz.func57, Tryz.ntmps57
    go_wp2_with (first
        | go_skip
        | ((with_reducible refine isLoad ?_); refine ldA H ?_ (hT := by first | exact rRat | exact rStm8 | exact rJob | exact rWks))
        | ((with_reducible refine isLoad ?_); refine ld1A H ?_ (hT := by first | exact kInt | exact kStr | exact kBll | exact kBool | exact kStl))
        | ((with_reducible refine isStore ?_); refine stA H ?_ (hT := by first | exact rRat); clear H; intro _ H)
        | ((with_reducible refine isBox ?_); refine bxA H ?_; clear H; intro _ _ H)
        | ((with_reducible refine isAlloc ?_); refine alA H ?_ (hz := by first | exact zRat); clear H; intro _ _ H))
    go_ret
    exact ⟨rfl, H.out.bel⟩
set_option maxHeartbeats 4000000 in
theorem plain_1a (k n : Int) (a b : ByteArray) (wd : Option Rat) (B : Option Addr) (nb c : Nat) (w : World) (ha : a.size ≤ maxLen) (hb : b.size ≤ maxLen) (hs : SmO wd) (hT : Tb w) (h : nb = 0) (hk : k = 1) (hn : n = 0) (ga : nameB a = false) :
    Calls Tryz.prog 57 #[.agg (Sv.cells ⟨k, a, b, wd, n, .slice B nb c⟩).toArray] w fun e w' => e = .returned (.int .i64 3) ∧ Below w.heap.size w w' := by
  have H := Lib.hid (Hp.start hT)
  have S := Lib.hid hs
  clear hT hs
  subst h
  subst hk
  subst hn
  unfold Sv.cells
  go_enter Tryz.func57, Tryz.ntmps57
  go_wp2_with (first
      | go_skip
      | ((with_reducible refine isLoad ?_); refine ldA H ?_ (hT := by first | exact rRat | exact rStm8 | exact rJob | exact rWks))
      | ((with_reducible refine isLoad ?_); refine ld1A H ?_ (hT := by first | exact kInt | exact kStr | exact kBll | exact kBool | exact kStl))
      | ((with_reducible refine isStore ?_); refine stA H ?_ (hT := by first | exact rRat); clear H; intro _ H)
      | ((with_reducible refine isBox ?_); refine bxA H ?_; clear H; intro _ _ H)
      | ((with_reducible refine isAlloc ?_); refine alA H ?_ (hz := by first | exact zRat); clear H; intro _ _ H)
      | (go_at_call 26; refine (Name_any _ _ (by assumption) H.out.tb).mono ?_; rintro _ _ ⟨rfl, hb⟩; replace H := Lib.hid (H.out.go hb); clear hb)
      | (go_at_call 26; refine (Name_any _ _ (by assumption) H.out.tb).mono ?_; rintro _ _ ⟨rfl, hb⟩; replace H := Lib.hid (H.out.go hb); clear hb))
  go_ret
  exact ⟨rfl, H.out.bel⟩
set_option maxHeartbeats 4000000 in
theorem plain_1b (k n : Int) (a b : ByteArray) (wd : Option Rat) (B : Option Addr) (nb c : Nat) (w : World) (ha : a.size ≤ maxLen) (hb : b.size ≤ maxLen) (hs : SmO wd) (hT : Tb w) (h : nb = 0) (hk : k = 1) (hn : n = 0) (ga : nameB a = true) (gb : nameB b = false) :
    Calls Tryz.prog 57 #[.agg (Sv.cells ⟨k, a, b, wd, n, .slice B nb c⟩).toArray] w fun e w' => e = .returned (.int .i64 3) ∧ Below w.heap.size w w' := by
  have H := Lib.hid (Hp.start hT)
  have S := Lib.hid hs
  clear hT hs
  subst h
  subst hk
  subst hn
  unfold Sv.cells
  go_enter Tryz.func57, Tryz.ntmps57
  go_wp2_with (first
      | go_skip
      | ((with_reducible refine isLoad ?_); refine ldA H ?_ (hT := by first | exact rRat | exact rStm8 | exact rJob | exact rWks))
      | ((with_reducible refine isLoad ?_); refine ld1A H ?_ (hT := by first | exact kInt | exact kStr | exact kBll | exact kBool | exact kStl))
      | ((with_reducible refine isStore ?_); refine stA H ?_ (hT := by first | exact rRat); clear H; intro _ H)
      | ((with_reducible refine isBox ?_); refine bxA H ?_; clear H; intro _ _ H)
      | ((with_reducible refine isAlloc ?_); refine alA H ?_ (hz := by first | exact zRat); clear H; intro _ _ H)
      | (go_at_call 26; refine (Name_any _ _ (by assumption) H.out.tb).mono ?_; rintro _ _ ⟨rfl, hb⟩; replace H := Lib.hid (H.out.go hb); clear hb)
      | (go_at_call 26; refine (Name_any _ _ (by assumption) H.out.tb).mono ?_; rintro _ _ ⟨rfl, hb⟩; replace H := Lib.hid (H.out.go hb); clear hb))
  go_ret
  exact ⟨rfl, H.out.bel⟩
set_option maxHeartbeats 4000000 in
theorem plain_1c (k n : Int) (a b : ByteArray) (wd : Option Rat) (B : Option Addr) (nb c : Nat) (w : World) (ha : a.size ≤ maxLen) (hb : b.size ≤ maxLen) (hs : SmO wd) (hT : Tb w) (h : nb = 0) (hk : k = 1) (hn : n = 0) (hw : ¬ wd.isSome = true) (ga : nameB a = true) (gb : nameB b = true) :
    Calls Tryz.prog 57 #[.agg (Sv.cells ⟨k, a, b, wd, n, .slice B nb c⟩).toArray] w fun e w' => e = .returned (.int .i64 0) ∧ Below w.heap.size w w' := by
  have H := Lib.hid (Hp.start hT)
  have S := Lib.hid hs
  clear hT hs
  subst h
  subst hk
  subst hn
  cases wd with
  | some q => exact absurd hw (by simp)
  | none =>
    clear hw
    unfold Sv.cells
    simp only [sgO, nuO, deO]
    go_enter Tryz.func57, Tryz.ntmps57
    go_wp2_with (first
        | go_skip
        | ((with_reducible refine isLoad ?_); refine ldA H ?_ (hT := by first | exact rRat | exact rStm8 | exact rJob | exact rWks))
        | ((with_reducible refine isLoad ?_); refine ld1A H ?_ (hT := by first | exact kInt | exact kStr | exact kBll | exact kBool | exact kStl))
        | ((with_reducible refine isStore ?_); refine stA H ?_ (hT := by first | exact rRat); clear H; intro _ H)
        | ((with_reducible refine isBox ?_); refine bxA H ?_; clear H; intro _ _ H)
        | ((with_reducible refine isAlloc ?_); refine alA H ?_ (hz := by first | exact zRat); clear H; intro _ _ H)
        | (go_at_call 26; refine (Name_any _ _ (by assumption) H.out.tb).mono ?_; rintro _ _ ⟨rfl, hb⟩; replace H := Lib.hid (H.out.go hb); clear hb)
        | (go_at_call 26; refine (Name_any _ _ (by assumption) H.out.tb).mono ?_; rintro _ _ ⟨rfl, hb⟩; replace H := Lib.hid (H.out.go hb); clear hb))
    go_ret
    exact ⟨rfl, H.out.bel⟩
set_option maxHeartbeats 4000000 in
theorem plain_1d (k n : Int) (a b : ByteArray) (wd : Option Rat) (B : Option Addr) (nb c : Nat) (w : World) (ha : a.size ≤ maxLen) (hb : b.size ≤ maxLen) (hs : SmO wd) (hT : Tb w) (h : nb = 0) (hk : k = 1) (hn : n = 0) (hw : wd.isSome = true) (ga : nameB a = true) (gb : nameB b = true) (hw2 : ∀ q, wd = some q → cmpQ q 0 ≤ 0) :
    Calls Tryz.prog 57 #[.agg (Sv.cells ⟨k, a, b, wd, n, .slice B nb c⟩).toArray] w fun e w' => e = .returned (.int .i64 3) ∧ Below w.heap.size w w' := by
  have H := Lib.hid (Hp.start hT)
  have S := Lib.hid hs
  clear hT hs
  subst h
  subst hk
  subst hn
  cases wd with
  | none => exact absurd hw (by simp)
  | some q =>
    obtain ⟨N, hN⟩ : ∃ N, nuO (some q) = N := ⟨_, rfl⟩
    obtain ⟨D, hD⟩ : ∃ D, deO (some q) = D := ⟨_, rfl⟩
    have HN := Lib.hid hN
    have HD := Lib.hid hD
    obtain ⟨f1, f2, _⟩ := (show SFull D by rw [← hD]; exact sFull q.den_pos)
    unfold Sv.cells
    rw [hN, hD]
    clear hN hD
    obtain ⟨v, hv⟩ : ∃ v, cmpQ q 0 = v := ⟨_, rfl⟩
    have HV : Hid (cmpQ (valO (some q)) 0 = v) := Lib.hid hv
    have hw1 := hw2 q rfl
    rw [hv] at hw1
    clear hv hw2
    have v0p : v ≤ 0 := by omega
    have v0d : decide (v ≤ 0) = true := decide_eq_true v0p
    go_enter Tryz.func57, Tryz.ntmps57
    go_wp2_with (first
        | go_skip
        | ((with_reducible refine isLoad ?_); refine ldA H ?_ (hT := by first | exact rRat | exact rStm8 | exact rJob | exact rWks))
        | ((with_reducible refine isLoad ?_); refine ld1A H ?_ (hT := by first | exact kInt | exact kStr | exact kBll | exact kBool | exact kStl))
        | ((with_reducible refine isStore ?_); refine stA H ?_ (hT := by first | exact rRat); clear H; intro _ H)
        | ((with_reducible refine isBox ?_); refine bxA H ?_; clear H; intro _ _ H)
        | ((with_reducible refine isAlloc ?_); refine alA H ?_ (hz := by first | exact zRat); clear H; intro _ _ H)
        | (go_at_call 26; refine (Name_any _ _ (by assumption) H.out.tb).mono ?_; rintro _ _ ⟨rfl, hb⟩; replace H := Lib.hid (H.out.go hb); clear hb)
        | (go_at_call 26; refine (Name_any _ _ (by assumption) H.out.tb).mono ?_; rintro _ _ ⟨rfl, hb⟩; replace H := Lib.hid (H.out.go hb); clear hb)
        | (go_at_call 70; refine Calls.mono (by rw [← HN.out, ← HD.out]; exact Good_any (some q) _ S.out H.out.tb) ?_; rintro _ _ ⟨rfl, hb⟩; replace H := Lib.hid (H.out.go hb); clear hb)
        | (go_at_call 71; refine Calls.mono (by rw [← HN.out, ← HD.out]; exact RSign_any (some q) v _ S.out HV H.out.tb) ?_; rintro _ _ ⟨rfl, hb⟩; replace H := Lib.hid (H.out.go hb); clear hb)
        | (go_at_call 72; refine Calls.mono (by rw [← HN.out, ← HD.out]; exact RSmall_any q _ S.out H.out.tb) ?_; rintro _ _ ⟨rfl, hb⟩; replace H := Lib.hid (H.out.go hb); clear hb))
    go_ret
    exact ⟨rfl, H.out.bel⟩
set_option maxHeartbeats 4000000 in
theorem plain_1e (k n : Int) (a b : ByteArray) (wd : Option Rat) (B : Option Addr) (nb c : Nat) (w : World) (ha : a.size ≤ maxLen) (hb : b.size ≤ maxLen) (hs : SmO wd) (hT : Tb w) (h : nb = 0) (hk : k = 1) (hn : n = 0) (hw : wd.isSome = true) (ga : nameB a = true) (gb : nameB b = true) (hw2 : ∀ q, wd = some q → ¬ cmpQ q 0 ≤ 0) (hw3 : ∀ q, wd = some q → smallQ q = false) :
    Calls Tryz.prog 57 #[.agg (Sv.cells ⟨k, a, b, wd, n, .slice B nb c⟩).toArray] w fun e w' => e = .returned (.int .i64 3) ∧ Below w.heap.size w w' := by
  have H := Lib.hid (Hp.start hT)
  have S := Lib.hid hs
  clear hT hs
  subst h
  subst hk
  subst hn
  cases wd with
  | none => exact absurd hw (by simp)
  | some q =>
    obtain ⟨N, hN⟩ : ∃ N, nuO (some q) = N := ⟨_, rfl⟩
    obtain ⟨D, hD⟩ : ∃ D, deO (some q) = D := ⟨_, rfl⟩
    have HN := Lib.hid hN
    have HD := Lib.hid hD
    obtain ⟨f1, f2, _⟩ := (show SFull D by rw [← hD]; exact sFull q.den_pos)
    unfold Sv.cells
    rw [hN, hD]
    clear hN hD
    obtain ⟨v, hv⟩ : ∃ v, cmpQ q 0 = v := ⟨_, rfl⟩
    have HV : Hid (cmpQ (valO (some q)) 0 = v) := Lib.hid hv
    have hw1 := hw2 q rfl
    rw [hv] at hw1
    clear hv hw2
    have v0p : ¬ (v ≤ 0) := by omega
    have v0d : decide (v ≤ 0) = false := decide_eq_false v0p
    have hsm := hw3 q rfl
    clear hw3
    go_enter Tryz.func57, Tryz.ntmps57
    go_wp2_with (first
        | go_skip
        | ((with_reducible refine isLoad ?_); refine ldA H ?_ (hT := by first | exact rRat | exact rStm8 | exact rJob | exact rWks))
        | ((with_reducible refine isLoad ?_); refine ld1A H ?_ (hT := by first | exact kInt | exact kStr | exact kBll | exact kBool | exact kStl))
        | ((with_reducible refine isStore ?_); refine stA H ?_ (hT := by first | exact rRat); clear H; intro _ H)
        | ((with_reducible refine isBox ?_); refine bxA H ?_; clear H; intro _ _ H)
        | ((with_reducible refine isAlloc ?_); refine alA H ?_ (hz := by first | exact zRat); clear H; intro _ _ H)
        | (go_at_call 26; refine (Name_any _ _ (by assumption) H.out.tb).mono ?_; rintro _ _ ⟨rfl, hb⟩; replace H := Lib.hid (H.out.go hb); clear hb)
        | (go_at_call 26; refine (Name_any _ _ (by assumption) H.out.tb).mono ?_; rintro _ _ ⟨rfl, hb⟩; replace H := Lib.hid (H.out.go hb); clear hb)
        | (go_at_call 70; refine Calls.mono (by rw [← HN.out, ← HD.out]; exact Good_any (some q) _ S.out H.out.tb) ?_; rintro _ _ ⟨rfl, hb⟩; replace H := Lib.hid (H.out.go hb); clear hb)
        | (go_at_call 71; refine Calls.mono (by rw [← HN.out, ← HD.out]; exact RSign_any (some q) v _ S.out HV H.out.tb) ?_; rintro _ _ ⟨rfl, hb⟩; replace H := Lib.hid (H.out.go hb); clear hb)
        | (go_at_call 72; refine Calls.mono (by rw [← HN.out, ← HD.out]; exact RSmall_any q _ S.out H.out.tb) ?_; rintro _ _ ⟨rfl, hb⟩; replace H := Lib.hid (H.out.go hb); clear hb))
    go_ret
    exact ⟨rfl, H.out.bel⟩
set_option maxHeartbeats 4000000 in
theorem plain_1f (k n : Int) (a b : ByteArray) (wd : Option Rat) (B : Option Addr) (nb c : Nat) (w : World) (ha : a.size ≤ maxLen) (hb : b.size ≤ maxLen) (hs : SmO wd) (hT : Tb w) (h : nb = 0) (hk : k = 1) (hn : n = 0) (hw : wd.isSome = true) (ga : nameB a = true) (gb : nameB b = true) (hw2 : ∀ q, wd = some q → ¬ cmpQ q 0 ≤ 0) (hw3 : ∀ q, wd = some q → smallQ q = true) :
    Calls Tryz.prog 57 #[.agg (Sv.cells ⟨k, a, b, wd, n, .slice B nb c⟩).toArray] w fun e w' => e = .returned (.int .i64 0) ∧ Below w.heap.size w w' := by
  have H := Lib.hid (Hp.start hT)
  have S := Lib.hid hs
  clear hT hs
  subst h
  subst hk
  subst hn
  cases wd with
  | none => exact absurd hw (by simp)
  | some q =>
    obtain ⟨N, hN⟩ : ∃ N, nuO (some q) = N := ⟨_, rfl⟩
    obtain ⟨D, hD⟩ : ∃ D, deO (some q) = D := ⟨_, rfl⟩
    have HN := Lib.hid hN
    have HD := Lib.hid hD
    obtain ⟨f1, f2, _⟩ := (show SFull D by rw [← hD]; exact sFull q.den_pos)
    unfold Sv.cells
    rw [hN, hD]
    clear hN hD
    obtain ⟨v, hv⟩ : ∃ v, cmpQ q 0 = v := ⟨_, rfl⟩
    have HV : Hid (cmpQ (valO (some q)) 0 = v) := Lib.hid hv
    have hw1 := hw2 q rfl
    rw [hv] at hw1
    clear hv hw2
    have v0p : ¬ (v ≤ 0) := by omega
    have v0d : decide (v ≤ 0) = false := decide_eq_false v0p
    have hsm := hw3 q rfl
    clear hw3
    go_enter Tryz.func57, Tryz.ntmps57
    go_wp2_with (first
        | go_skip
        | ((with_reducible refine isLoad ?_); refine ldA H ?_ (hT := by first | exact rRat | exact rStm8 | exact rJob | exact rWks))
        | ((with_reducible refine isLoad ?_); refine ld1A H ?_ (hT := by first | exact kInt | exact kStr | exact kBll | exact kBool | exact kStl))
        | ((with_reducible refine isStore ?_); refine stA H ?_ (hT := by first | exact rRat); clear H; intro _ H)
        | ((with_reducible refine isBox ?_); refine bxA H ?_; clear H; intro _ _ H)
        | ((with_reducible refine isAlloc ?_); refine alA H ?_ (hz := by first | exact zRat); clear H; intro _ _ H)
        | (go_at_call 26; refine (Name_any _ _ (by assumption) H.out.tb).mono ?_; rintro _ _ ⟨rfl, hb⟩; replace H := Lib.hid (H.out.go hb); clear hb)
        | (go_at_call 26; refine (Name_any _ _ (by assumption) H.out.tb).mono ?_; rintro _ _ ⟨rfl, hb⟩; replace H := Lib.hid (H.out.go hb); clear hb)
        | (go_at_call 70; refine Calls.mono (by rw [← HN.out, ← HD.out]; exact Good_any (some q) _ S.out H.out.tb) ?_; rintro _ _ ⟨rfl, hb⟩; replace H := Lib.hid (H.out.go hb); clear hb)
        | (go_at_call 71; refine Calls.mono (by rw [← HN.out, ← HD.out]; exact RSign_any (some q) v _ S.out HV H.out.tb) ?_; rintro _ _ ⟨rfl, hb⟩; replace H := Lib.hid (H.out.go hb); clear hb)
        | (go_at_call 72; refine Calls.mono (by rw [← HN.out, ← HD.out]; exact RSmall_any q _ S.out H.out.tb) ?_; rintro _ _ ⟨rfl, hb⟩; replace H := Lib.hid (H.out.go hb); clear hb))
    go_ret
    exact ⟨rfl, H.out.bel⟩
set_option maxHeartbeats 4000000 in
theorem plain_2a (k n : Int) (a b : ByteArray) (wd : Option Rat) (B : Option Addr) (nb c : Nat) (w : World) (ha : a.size ≤ maxLen) (hb : b.size ≤ maxLen) (hs : SmO wd) (hT : Tb w) (h : nb = 0) (hk : k = 2) (hn : n = 0) (hw : ¬ wd.isSome = true) (ga : nameB a = false) :
    Calls Tryz.prog 57 #[.agg (Sv.cells ⟨k, a, b, wd, n, .slice B nb c⟩).toArray] w fun e w' => e = .returned (.int .i64 3) ∧ Below w.heap.size w w' := by
  have H := Lib.hid (Hp.start hT)
  have S := Lib.hid hs
  clear hT hs
  subst h
  subst hk
  subst hn
  cases wd with
  | some q => exact absurd hw (by simp)
  | none =>
    clear hw
    unfold Sv.cells
    simp only [sgO, nuO, deO]
    go_enter Tryz.func57, Tryz.ntmps57
    go_wp2_with (first
        | go_skip
        | ((with_reducible refine isLoad ?_); refine ldA H ?_ (hT := by first | exact rRat | exact rStm8 | exact rJob | exact rWks))
        | ((with_reducible refine isLoad ?_); refine ld1A H ?_ (hT := by first | exact kInt | exact kStr | exact kBll | exact kBool | exact kStl))
        | ((with_reducible refine isStore ?_); refine stA H ?_ (hT := by first | exact rRat); clear H; intro _ H)
        | ((with_reducible refine isBox ?_); refine bxA H ?_; clear H; intro _ _ H)
        | ((with_reducible refine isAlloc ?_); refine alA H ?_ (hz := by first | exact zRat); clear H; intro _ _ H)
        | (go_at_call 26; refine (Name_any _ _ (by assumption) H.out.tb).mono ?_; rintro _ _ ⟨rfl, hb⟩; replace H := Lib.hid (H.out.go hb); clear hb)
        | (go_at_call 26; refine (Name_any _ _ (by assumption) H.out.tb).mono ?_; rintro _ _ ⟨rfl, hb⟩; replace H := Lib.hid (H.out.go hb); clear hb))
    go_ret
    exact ⟨rfl, H.out.bel⟩
set_option maxHeartbeats 4000000 in
theorem plain_2b (k n : Int) (a b : ByteArray) (wd : Option Rat) (B : Option Addr) (nb c : Nat) (w : World) (ha : a.size ≤ maxLen) (hb : b.size ≤ maxLen) (hs : SmO wd) (hT : Tb w) (h : nb = 0) (hk : k = 2) (hn : n = 0) (hw : ¬ wd.isSome = true) (ga : nameB a = true) (gb : nameB b = false) :
    Calls Tryz.prog 57 #[.agg (Sv.cells ⟨k, a, b, wd, n, .slice B nb c⟩).toArray] w fun e w' => e = .returned (.int .i64 3) ∧ Below w.heap.size w w' := by
  have H := Lib.hid (Hp.start hT)
  have S := Lib.hid hs
  clear hT hs
  subst h
  subst hk
  subst hn
  cases wd with
  | some q => exact absurd hw (by simp)
  | none =>
    clear hw
    unfold Sv.cells
    simp only [sgO, nuO, deO]
    go_enter Tryz.func57, Tryz.ntmps57
    go_wp2_with (first
        | go_skip
        | ((with_reducible refine isLoad ?_); refine ldA H ?_ (hT := by first | exact rRat | exact rStm8 | exact rJob | exact rWks))
        | ((with_reducible refine isLoad ?_); refine ld1A H ?_ (hT := by first | exact kInt | exact kStr | exact kBll | exact kBool | exact kStl))
        | ((with_reducible refine isStore ?_); refine stA H ?_ (hT := by first | exact rRat); clear H; intro _ H)
        | ((with_reducible refine isBox ?_); refine bxA H ?_; clear H; intro _ _ H)
        | ((with_reducible refine isAlloc ?_); refine alA H ?_ (hz := by first | exact zRat); clear H; intro _ _ H)
        | (go_at_call 26; refine (Name_any _ _ (by assumption) H.out.tb).mono ?_; rintro _ _ ⟨rfl, hb⟩; replace H := Lib.hid (H.out.go hb); clear hb)
        | (go_at_call 26; refine (Name_any _ _ (by assumption) H.out.tb).mono ?_; rintro _ _ ⟨rfl, hb⟩; replace H := Lib.hid (H.out.go hb); clear hb))
    go_ret
    exact ⟨rfl, H.out.bel⟩
set_option maxHeartbeats 4000000 in
theorem plain_2c (k n : Int) (a b : ByteArray) (wd : Option Rat) (B : Option Addr) (nb c : Nat) (w : World) (ha : a.size ≤ maxLen) (hb : b.size ≤ maxLen) (hs : SmO wd) (hT : Tb w) (h : nb = 0) (hk : k = 2) (hn : n = 0) (hw : ¬ wd.isSome = true) (ga : nameB a = true) (gb : nameB b = true) :
    Calls Tryz.prog 57 #[.agg (Sv.cells ⟨k, a, b, wd, n, .slice B nb c⟩).toArray] w fun e w' => e = .returned (.int .i64 0) ∧ Below w.heap.size w w' := by
  have H := Lib.hid (Hp.start hT)
  have S := Lib.hid hs
  clear hT hs
  subst h
  subst hk
  subst hn
  cases wd with
  | some q => exact absurd hw (by simp)
  | none =>
    clear hw
    unfold Sv.cells
    simp only [sgO, nuO, deO]
    go_enter Tryz.func57, Tryz.ntmps57
    go_wp2_with (first
        | go_skip
        | ((with_reducible refine isLoad ?_); refine ldA H ?_ (hT := by first | exact rRat | exact rStm8 | exact rJob | exact rWks))
        | ((with_reducible refine isLoad ?_); refine ld1A H ?_ (hT := by first | exact kInt | exact kStr | exact kBll | exact kBool | exact kStl))
        | ((with_reducible refine isStore ?_); refine stA H ?_ (hT := by first | exact rRat); clear H; intro _ H)
        | ((with_reducible refine isBox ?_); refine bxA H ?_; clear H; intro _ _ H)
        | ((with_reducible refine isAlloc ?_); refine alA H ?_ (hz := by first | exact zRat); clear H; intro _ _ H)
        | (go_at_call 26; refine (Name_any _ _ (by assumption) H.out.tb).mono ?_; rintro _ _ ⟨rfl, hb⟩; replace H := Lib.hid (H.out.go hb); clear hb)
        | (go_at_call 26; refine (Name_any _ _ (by assumption) H.out.tb).mono ?_; rintro _ _ ⟨rfl, hb⟩; replace H := Lib.hid (H.out.go hb); clear hb))
    go_ret
    exact ⟨rfl, H.out.bel⟩
set_option maxHeartbeats 4000000 in
theorem plain_3a (k n : Int) (a b : ByteArray) (wd : Option Rat) (B : Option Addr) (nb c : Nat) (w : World) (ha : a.size ≤ maxLen) (hb : b.size ≤ maxLen) (hs : SmO wd) (hT : Tb w) (h : nb = 0) (hk1 : k ≠ 1) (hk2 : k ≠ 2) (hk5 : k ≠ 5) (hn : n = 0) (hw : ¬ wd.isSome = true) (ga : nameB a = false) :
    Calls Tryz.prog 57 #[.agg (Sv.cells ⟨k, a, b, wd, n, .slice B nb c⟩).toArray] w fun e w' => e = .returned (.int .i64 3) ∧ Below w.heap.size w w' := by
  have H := Lib.hid (Hp.start hT)
  have S := Lib.hid hs
  clear hT hs
  subst h
  have k1p : ¬ (k = 1) := by omega
  have k1d : decide (k = 1) = false := decide_eq_false k1p
  have k2p : ¬ (k = 2) := by omega
  have k2d : decide (k = 2) = false := decide_eq_false k2p
  have k5p : ¬ (k = 5) := by omega
  have k5d : decide (k = 5) = false := decide_eq_false k5p
  subst hn
  cases wd with
  | some q => exact absurd hw (by simp)
  | none =>
    clear hw
    unfold Sv.cells
    simp only [sgO, nuO, deO]
    go_enter Tryz.func57, Tryz.ntmps57
    go_wp2_with (first
        | go_skip
        | ((with_reducible refine isLoad ?_); refine ldA H ?_ (hT := by first | exact rRat | exact rStm8 | exact rJob | exact rWks))
        | ((with_reducible refine isLoad ?_); refine ld1A H ?_ (hT := by first | exact kInt | exact kStr | exact kBll | exact kBool | exact kStl))
        | ((with_reducible refine isStore ?_); refine stA H ?_ (hT := by first | exact rRat); clear H; intro _ H)
        | ((with_reducible refine isBox ?_); refine bxA H ?_; clear H; intro _ _ H)
        | ((with_reducible refine isAlloc ?_); refine alA H ?_ (hz := by first | exact zRat); clear H; intro _ _ H)
        | (go_at_call 26; refine (Name_any _ _ (by assumption) H.out.tb).mono ?_; rintro _ _ ⟨rfl, hb⟩; replace H := Lib.hid (H.out.go hb); clear hb)
        | (go_at_call 26; refine (Name_any _ _ (by assumption) H.out.tb).mono ?_; rintro _ _ ⟨rfl, hb⟩; replace H := Lib.hid (H.out.go hb); clear hb))
    go_ret
    exact ⟨rfl, H.out.bel⟩
set_option maxHeartbeats 4000000 in
theorem plain_3b (k n : Int) (a b : ByteArray) (wd : Option Rat) (B : Option Addr) (nb c : Nat) (w : World) (ha : a.size ≤ maxLen) (hb : b.size ≤ maxLen) (hs : SmO wd) (hT : Tb w) (h : nb = 0) (hk1 : k ≠ 1) (hk2 : k ≠ 2) (hk5 : k ≠ 5) (hn : n = 0) (hw : ¬ wd.isSome = true) (ga : nameB a = true) (eb : ¬ b.size = 0) :
    Calls Tryz.prog 57 #[.agg (Sv.cells ⟨k, a, b, wd, n, .slice B nb c⟩).toArray] w fun e w' => e = .returned (.int .i64 3) ∧ Below w.heap.size w w' := by
  have H := Lib.hid (Hp.start hT)
  have S := Lib.hid hs
  clear hT hs
  subst h
  have k1p : ¬ (k = 1) := by omega
  have k1d : decide (k = 1) = false := decide_eq_false k1p
  have k2p : ¬ (k = 2) := by omega
  have k2d : decide (k = 2) = false := decide_eq_false k2p
  have k5p : ¬ (k = 5) := by omega
  have k5d : decide (k = 5) = false := decide_eq_false k5p
  subst hn
  obtain ⟨b1, b2, _⟩ := sFull2 eb
  cases wd with
  | some q => exact absurd hw (by simp)
  | none =>
    clear hw
    unfold Sv.cells
    simp only [sgO, nuO, deO]
    go_enter Tryz.func57, Tryz.ntmps57
    go_wp2_with (first
        | go_skip
        | ((with_reducible refine isLoad ?_); refine ldA H ?_ (hT := by first | exact rRat | exact rStm8 | exact rJob | exact rWks))
        | ((with_reducible refine isLoad ?_); refine ld1A H ?_ (hT := by first | exact kInt | exact kStr | exact kBll | exact kBool | exact kStl))
        | ((with_reducible refine isStore ?_); refine stA H ?_ (hT := by first | exact rRat); clear H; intro _ H)
        | ((with_reducible refine isBox ?_); refine bxA H ?_; clear H; intro _ _ H)
        | ((with_reducible refine isAlloc ?_); refine alA H ?_ (hz := by first | exact zRat); clear H; intro _ _ H)
        | (go_at_call 26; refine (Name_any _ _ (by assumption) H.out.tb).mono ?_; rintro _ _ ⟨rfl, hb⟩; replace H := Lib.hid (H.out.go hb); clear hb)
        | (go_at_call 26; refine (Name_any _ _ (by assumption) H.out.tb).mono ?_; rintro _ _ ⟨rfl, hb⟩; replace H := Lib.hid (H.out.go hb); clear hb))
    go_ret
    exact ⟨rfl, H.out.bel⟩
set_option maxHeartbeats 4000000 in
theorem plain_3c (k n : Int) (a b : ByteArray) (wd : Option Rat) (B : Option Addr) (nb c : Nat) (w : World) (ha : a.size ≤ maxLen) (hb : b.size ≤ maxLen) (hs : SmO wd) (hT : Tb w) (h : nb = 0) (hk1 : k ≠ 1) (hk2 : k ≠ 2) (hk5 : k ≠ 5) (hn : n = 0) (hw : ¬ wd.isSome = true) (ga : nameB a = true) (eb : b.size = 0) :
    Calls Tryz.prog 57 #[.agg (Sv.cells ⟨k, a, b, wd, n, .slice B nb c⟩).toArray] w fun e w' => e = .returned (.int .i64 0) ∧ Below w.heap.size w w' := by
  have H := Lib.hid (Hp.start hT)
  have S := Lib.hid hs
  clear hT hs
  subst h
  have k1p : ¬ (k = 1) := by omega
  have k1d : decide (k = 1) = false := decide_eq_false k1p
  have k2p : ¬ (k = 2) := by omega
  have k2d : decide (k = 2) = false := decide_eq_false k2p
  have k5p : ¬ (k = 5) := by omega
  have k5d : decide (k = 5) = false := decide_eq_false k5p
  subst hn
  obtain ⟨b1, b2⟩ := sEmpty eb
  cases wd with
  | some q => exact absurd hw (by simp)
  | none =>
    clear hw
    unfold Sv.cells
    simp only [sgO, nuO, deO]
    go_enter Tryz.func57, Tryz.ntmps57
    go_wp2_with (first
        | go_skip
        | ((with_reducible refine isLoad ?_); refine ldA H ?_ (hT := by first | exact rRat | exact rStm8 | exact rJob | exact rWks))
        | ((with_reducible refine isLoad ?_); refine ld1A H ?_ (hT := by first | exact kInt | exact kStr | exact kBll | exact kBool | exact kStl))
        | ((with_reducible refine isStore ?_); refine stA H ?_ (hT := by first | exact rRat); clear H; intro _ H)
        | ((with_reducible refine isBox ?_); refine bxA H ?_; clear H; intro _ _ H)
        | ((with_reducible refine isAlloc ?_); refine alA H ?_ (hz := by first | exact zRat); clear H; intro _ _ H)
        | (go_at_call 26; refine (Name_any _ _ (by assumption) H.out.tb).mono ?_; rintro _ _ ⟨rfl, hb⟩; replace H := Lib.hid (H.out.go hb); clear hb)
        | (go_at_call 26; refine (Name_any _ _ (by assumption) H.out.tb).mono ?_; rintro _ _ ⟨rfl, hb⟩; replace H := Lib.hid (H.out.go hb); clear hb))
    go_ret
    exact ⟨rfl, H.out.bel⟩
set_option maxHeartbeats 4000000 in
theorem plain_5a (k n : Int) (a b : ByteArray) (wd : Option Rat) (B : Option Addr) (nb c : Nat) (w : World) (ha : a.size ≤ maxLen) (hb : b.size ≤ maxLen) (hs : SmO wd) (hT : Tb w) (h : nb = 0) (hk : k = 5) (hw : ¬ wd.isSome = true) (ea : ¬ a.size = 0) :
    Calls Tryz.prog 57 #[.agg (Sv.cells ⟨k, a, b, wd, n, .slice B nb c⟩).toArray] w fun e w' => e = .returned (.int .i64 3) ∧ Below w.heap.size w w' := by
  have H := Lib.hid (Hp.start hT)
  have S := Lib.hid hs
  clear hT hs
  subst h
  subst hk
  obtain ⟨a1, a2, _⟩ := sFull2 ea
  cases wd with
  | some q => exact absurd hw (by simp)
  | none =>
    clear hw
    unfold Sv.cells
    simp only [sgO, nuO, deO]
    go_enter Tryz.func57, Tryz.ntmps57
    go_wp2_with (first
        | go_skip
        | ((with_reducible refine isLoad ?_); refine ldA H ?_ (hT := by first | exact rRat | exact rStm8 | exact rJob | exact rWks))
        | ((with_reducible refine isLoad ?_); refine ld1A H ?_ (hT := by first | exact kInt | exact kStr | exact kBll | exact kBool | exact kStl))
        | ((with_reducible refine isStore ?_); refine stA H ?_ (hT := by first | exact rRat); clear H; intro _ H)
        | ((with_reducible refine isBox ?_); refine bxA H ?_; clear H; intro _ _ H)
        | ((with_reducible refine isAlloc ?_); refine alA H ?_ (hz := by first | exact zRat); clear H; intro _ _ H))
    go_ret
    exact ⟨rfl, H.out.bel⟩
set_option maxHeartbeats 4000000 in
theorem plain_5b (k n : Int) (a b : ByteArray) (wd : Option Rat) (B : Option Addr) (nb c : Nat) (w : World) (ha : a.size ≤ maxLen) (hb : b.size ≤ maxLen) (hs : SmO wd) (hT : Tb w) (h : nb = 0) (hk : k = 5) (hw : ¬ wd.isSome = true) (ea : a.size = 0) (eb : ¬ b.size = 0) :
    Calls Tryz.prog 57 #[.agg (Sv.cells ⟨k, a, b, wd, n, .slice B nb c⟩).toArray] w fun e w' => e = .returned (.int .i64 3) ∧ Below w.heap.size w w' := by
  have H := Lib.hid (Hp.start hT)
  have S := Lib.hid hs
  clear hT hs
  subst h
  subst hk
  obtain ⟨a1, a2⟩ := sEmpty ea
  obtain ⟨b1, b2, _⟩ := sFull2 eb
  cases wd with
  | some q => exact absurd hw (by simp)
  | none =>
    clear hw
    unfold Sv.cells
    simp only [sgO, nuO, deO]
    go_enter Tryz.func57, Tryz.ntmps57
    go_wp2_with (first
        | go_skip
        | ((with_reducible refine isLoad ?_); refine ldA H ?_ (hT := by first | exact rRat | exact rStm8 | exact rJob | exact rWks))
        | ((with_reducible refine isLoad ?_); refine ld1A H ?_ (hT := by first | exact kInt | exact kStr | exact kBll | exact kBool | exact kStl))
        | ((with_reducible refine isStore ?_); refine stA H ?_ (hT := by first | exact rRat); clear H; intro _ H)
        | ((with_reducible refine isBox ?_); refine bxA H ?_; clear H; intro _ _ H)
        | ((with_reducible refine isAlloc ?_); refine alA H ?_ (hz := by first | exact zRat); clear H; intro _ _ H))
    go_ret
    exact ⟨rfl, H.out.bel⟩
set_option maxHeartbeats 4000000 in
theorem plain_5c (k n : Int) (a b : ByteArray) (wd : Option Rat) (B : Option Addr) (nb c : Nat) (w : World) (ha : a.size ≤ maxLen) (hb : b.size ≤ maxLen) (hs : SmO wd) (hT : Tb w) (h : nb = 0) (hk : k = 5) (hw : ¬ wd.isSome = true) (ea : a.size = 0) (eb : b.size = 0) (hn : n < 1) :
    Calls Tryz.prog 57 #[.agg (Sv.cells ⟨k, a, b, wd, n, .slice B nb c⟩).toArray] w fun e w' => e = .returned (.int .i64 1) ∧ Below w.heap.size w w' := by
  have H := Lib.hid (Hp.start hT)
  have S := Lib.hid hs
  clear hT hs
  subst h
  subst hk
  obtain ⟨a1, a2⟩ := sEmpty ea
  obtain ⟨b1, b2⟩ := sEmpty eb
  have n1p : n < 1 := by omega
  have n1d : decide (n < 1) = true := decide_eq_true n1p
  cases wd with
  | some q => exact absurd hw (by simp)
  | none =>
    clear hw
    unfold Sv.cells
    simp only [sgO, nuO, deO]
    go_enter Tryz.func57, Tryz.ntmps57
    go_wp2_with (first
        | go_skip
        | ((with_reducible refine isLoad ?_); refine ldA H ?_ (hT := by first | exact rRat | exact rStm8 | exact rJob | exact rWks))
        | ((with_reducible refine isLoad ?_); refine ld1A H ?_ (hT := by first | exact kInt | exact kStr | exact kBll | exact kBool | exact kStl))
        | ((with_reducible refine isStore ?_); refine stA H ?_ (hT := by first | exact rRat); clear H; intro _ H)
        | ((with_reducible refine isBox ?_); refine bxA H ?_; clear H; intro _ _ H)
        | ((with_reducible refine isAlloc ?_); refine alA H ?_ (hz := by first | exact zRat); clear H; intro _ _ H))
    go_ret
    exact ⟨rfl, H.out.bel⟩
set_option maxHeartbeats 4000000 in
theorem plain_5d (k n : Int) (a b : ByteArray) (wd : Option Rat) (B : Option Addr) (nb c : Nat) (w : World) (ha : a.size ≤ maxLen) (hb : b.size ≤ maxLen) (hs : SmO wd) (hT : Tb w) (h : nb = 0) (hk : k = 5) (hw : ¬ wd.isSome = true) (ea : a.size = 0) (eb : b.size = 0) (hn : 2000 < n) :
    Calls Tryz.prog 57 #[.agg (Sv.cells ⟨k, a, b, wd, n, .slice B nb c⟩).toArray] w fun e w' => e = .returned (.int .i64 1) ∧ Below w.heap.size w w' := by
  have H := Lib.hid (Hp.start hT)
  have S := Lib.hid hs
  clear hT hs
  subst h
  subst hk
  obtain ⟨a1, a2⟩ := sEmpty ea
  obtain ⟨b1, b2⟩ := sEmpty eb
  have n1p : ¬ (n < 1) := by omega
  have n1d : decide (n < 1) = false := decide_eq_false n1p
  have n2p : 2000 < n := by omega
  have n2d : decide (2000 < n) = true := decide_eq_true n2p
  cases wd with
  | some q => exact absurd hw (by simp)
  | none =>
    clear hw
    unfold Sv.cells
    simp only [sgO, nuO, deO]
    go_enter Tryz.func57, Tryz.ntmps57
    go_wp2_with (first
        | go_skip
        | ((with_reducible refine isLoad ?_); refine ldA H ?_ (hT := by first | exact rRat | exact rStm8 | exact rJob | exact rWks))
        | ((with_reducible refine isLoad ?_); refine ld1A H ?_ (hT := by first | exact kInt | exact kStr | exact kBll | exact kBool | exact kStl))
        | ((with_reducible refine isStore ?_); refine stA H ?_ (hT := by first | exact rRat); clear H; intro _ H)
        | ((with_reducible refine isBox ?_); refine bxA H ?_; clear H; intro _ _ H)
        | ((with_reducible refine isAlloc ?_); refine alA H ?_ (hz := by first | exact zRat); clear H; intro _ _ H))
    go_ret
    exact ⟨rfl, H.out.bel⟩
set_option maxHeartbeats 4000000 in
theorem plain_5e (k n : Int) (a b : ByteArray) (wd : Option Rat) (B : Option Addr) (nb c : Nat) (w : World) (ha : a.size ≤ maxLen) (hb : b.size ≤ maxLen) (hs : SmO wd) (hT : Tb w) (h : nb = 0) (hk : k = 5) (hw : ¬ wd.isSome = true) (ea : a.size = 0) (eb : b.size = 0) (hn : ¬ n < 1) (hn2 : ¬ 2000 < n) :
    Calls Tryz.prog 57 #[.agg (Sv.cells ⟨k, a, b, wd, n, .slice B nb c⟩).toArray] w fun e w' => e = .returned (.int .i64 0) ∧ Below w.heap.size w w' := by
  have H := Lib.hid (Hp.start hT)
  have S := Lib.hid hs
  clear hT hs
  subst h
  subst hk
  obtain ⟨a1, a2⟩ := sEmpty ea
  obtain ⟨b1, b2⟩ := sEmpty eb
  have n1p : ¬ (n < 1) := by omega
  have n1d : decide (n < 1) = false := decide_eq_false n1p
  have n2p : ¬ (2000 < n) := by omega
  have n2d : decide (2000 < n) = false := decide_eq_false n2p
  cases wd with
  | some q => exact absurd hw (by simp)
  | none =>
    clear hw
    unfold Sv.cells
    simp only [sgO, nuO, deO]
    go_enter Tryz.func57, Tryz.ntmps57
    go_wp2_with (first
        | go_skip
        | ((with_reducible refine isLoad ?_); refine ldA H ?_ (hT := by first | exact rRat | exact rStm8 | exact rJob | exact rWks))
        | ((with_reducible refine isLoad ?_); refine ld1A H ?_ (hT := by first | exact kInt | exact kStr | exact kBll | exact kBool | exact kStl))
        | ((with_reducible refine isStore ?_); refine stA H ?_ (hT := by first | exact rRat); clear H; intro _ H)
        | ((with_reducible refine isBox ?_); refine bxA H ?_; clear H; intro _ _ H)
        | ((with_reducible refine isAlloc ?_); refine alA H ?_ (hz := by first | exact zRat); clear H; intro _ _ H))
    go_ret
    exact ⟨rfl, H.out.bel⟩
end Go.Proofs.YtaiokjhjakdhaaaGreatDoor

namespace Go.Proofs.YtaiokjhjakdhaaaGreatDoor
open Go.RowKit
set_option linter.unusedVariables false
set_option maxRecDepth 100000

theorem plain_any (k n : Int) (a b : ByteArray) (wd : Option Rat) (B : Option Addr) (nb c : Nat) (w : World) (ha : a.size ≤ maxLen) (hb : b.size ≤ maxLen) (hs : SmO wd) (hT : Tb w) (hk1 : 1 ≤ k) (hk5 : k ≤ 5) :
    Calls Tryz.prog 57 #[.agg (Sv.cells ⟨k, a, b, wd, n, .slice B nb c⟩).toArray] w fun e w' => e = .returned (.int .i64 (plainE k a b wd n nb)) ∧ Below w.heap.size w w' := by
  by_cases h1 : nb = 0
  case neg => exact (plain_nb k n a b wd B nb c w ha hb hs hT h1).mono fun e w' ⟨he, hb⟩ => ⟨he.trans (by simp [plainE, h1]), hb⟩
  by_cases h2 : k ≠ 1 ∧ wd.isSome = true
  · exact (plain_w k n a b wd B nb c w ha hb hs hT h1 h2.1 h2.2).mono fun e w' ⟨he, hb⟩ => ⟨he.trans (by simp [plainE, h1, h2]), hb⟩
  by_cases h3 : k ≠ 5 ∧ n ≠ 0
  · have e : plainE k a b wd n nb = 3 := by unfold plainE; rw [if_neg (by simp [h1]), if_neg h2, if_pos h3]
    rw [e]
    by_cases h4 : k = 1
    · exact plain_n1 k n a b wd B nb c w ha hb hs hT h1 h4 h3.2
    · exact plain_nx k n a b wd B nb c w ha hb hs hT h1 h4 h3.1 h3.2 (fun h => h2 ⟨h4, h⟩)
  have e0 : plainE k a b wd n nb = if k = 5 then (if a.size ≠ 0 then 3 else if b.size ≠ 0 then 3 else if n < 1 ∨ 2000 < n then 1 else 0)
      else if nameB a = false then 3
      else if k = 1 ∨ k = 2 then (if nameB b = false then 3 else if badW wd = true then 3 else 0)
      else if b.size ≠ 0 then 3 else 0 := by unfold plainE; rw [if_neg (by simp [h1]), if_neg h2, if_neg h3]
  rw [e0]
  by_cases h5 : k = 5
  · rw [if_pos h5]
    have hw : ¬ wd.isSome = true := fun h => h2 ⟨by omega, h⟩
    by_cases ea : a.size = 0
    case neg => rw [if_pos ea]; exact plain_5a k n a b wd B nb c w ha hb hs hT h1 h5 hw ea
    rw [if_neg (by simpa using ea)]
    by_cases eb : b.size = 0
    case neg => rw [if_pos eb]; exact plain_5b k n a b wd B nb c w ha hb hs hT h1 h5 hw ea eb
    rw [if_neg (by simpa using eb)]
    by_cases g1 : n < 1
    · rw [if_pos (.inl g1)]; exact plain_5c k n a b wd B nb c w ha hb hs hT h1 h5 hw ea eb g1
    by_cases g2 : 2000 < n
    · rw [if_pos (.inr g2)]; exact plain_5d k n a b wd B nb c w ha hb hs hT h1 h5 hw ea eb g2
    rw [if_neg (fun h => h.elim g1 g2)]
    exact plain_5e k n a b wd B nb c w ha hb hs hT h1 h5 hw ea eb g1 g2
  rw [if_neg h5]
  have hn : n = 0 := by
    by_cases e : n = 0
    · exact e
    · exact absurd ⟨h5, e⟩ h3
  cases ga : nameB a with
  | false =>
    rw [if_pos rfl]
    by_cases g1 : k = 1
    · exact plain_1a k n a b wd B nb c w ha hb hs hT h1 g1 hn ga
    have hw : ¬ wd.isSome = true := fun h => h2 ⟨g1, h⟩
    by_cases g2 : k = 2
    · exact plain_2a k n a b wd B nb c w ha hb hs hT h1 g2 hn hw ga
    · exact plain_3a k n a b wd B nb c w ha hb hs hT h1 g1 g2 h5 hn hw ga
  | true =>
    rw [if_neg (by simp)]
    by_cases g1 : k = 1
    · rw [if_pos (.inl g1)]
      cases gb : nameB b with
      | false => rw [if_pos rfl]; exact plain_1b k n a b wd B nb c w ha hb hs hT h1 g1 hn ga gb
      | true =>
        rw [if_neg (by simp)]
        by_cases hw : wd.isSome = true
        case neg =>
          have : badW wd = false := by cases wd with | none => rfl | some q => exact absurd rfl hw
          rw [this, if_neg (by simp)]
          exact plain_1c k n a b wd B nb c w ha hb hs hT h1 g1 hn hw ga gb
        obtain ⟨q, hq⟩ := Option.isSome_iff_exists.1 hw
        by_cases g3 : cmpQ q 0 ≤ 0
        · rw [if_pos (by rw [hq]; simp [badW, g3])]
          exact plain_1d k n a b wd B nb c w ha hb hs hT h1 g1 hn hw ga gb (fun q' hq' => by rw [hq] at hq'; cases hq'; exact g3)
        cases g4 : smallQ q with
        | false =>
          rw [if_pos (by rw [hq]; simp [badW, g4])]
          exact plain_1e k n a b wd B nb c w ha hb hs hT h1 g1 hn hw ga gb (fun q' hq' => by rw [hq] at hq'; cases hq'; exact g3) (fun q' hq' => by rw [hq] at hq'; cases hq'; exact g4)
        | true =>
          rw [if_neg (by rw [hq]; simp [badW, g4]; omega)]
          exact plain_1f k n a b wd B nb c w ha hb hs hT h1 g1 hn hw ga gb (fun q' hq' => by rw [hq] at hq'; cases hq'; exact g3) (fun q' hq' => by rw [hq] at hq'; cases hq'; exact g4)
    have hw : ¬ wd.isSome = true := fun h => h2 ⟨g1, h⟩
    by_cases g2 : k = 2
    · rw [if_pos (.inr g2)]
      have : badW wd = false := by cases wd with | none => rfl | some q => exact absurd rfl hw
      cases gb : nameB b with
      | false => rw [if_pos rfl]; exact plain_2b k n a b wd B nb c w ha hb hs hT h1 g2 hn hw ga gb
      | true => rw [if_neg (by simp), this, if_neg (by simp)]; exact plain_2c k n a b wd B nb c w ha hb hs hT h1 g2 hn hw ga gb
    rw [if_neg (fun h => h.elim g1 g2)]
    by_cases eb : b.size = 0
    · rw [if_neg (by simpa using eb)]; exact plain_3c k n a b wd B nb c w ha hb hs hT h1 g1 g2 h5 hn hw ga eb
    · rw [if_pos eb]; exact plain_3b k n a b wd B nb c w ha hb hs hT h1 g1 g2 h5 hn hw ga eb
/-- The error of a statement with blocks. -/
def shapeE (k : Int) (a b : ByteArray) (wd : Option Rat) (n : Int) (nb : Nat) : Int :=
  if a.size ≠ 0 then 3 else if b.size ≠ 0 then 3 else if wd.isSome = true then 3 else if k ≠ 7 ∧ n ≠ 0 then 3
  else if k = 8 then (if nb < 1 ∨ 4 < nb then 3 else 0) else if k = 9 then (if nb = 2 then 0 else 3)
  else if nb ≠ 1 then 3 else if k = 7 ∧ (n < 1 ∨ 5 < n) then 1 else 0
set_option maxHeartbeats 4000000 in
theorem shape_a (k n : Int) (a b : ByteArray) (wd : Option Rat) (B : Option Addr) (nb c : Nat) (w : World) (ha : a.size ≤ maxLen) (hb : b.size ≤ maxLen) (hs : SmO wd) (hT : Tb w) (ea : ¬ a.size = 0) :
    Calls Tryz.prog 58 #[.agg (Sv.cells ⟨k, a, b, wd, n, .slice B nb c⟩).toArray] w fun e w' => e = .returned (.int .i64 3) ∧ Below w.heap.size w w' := by
  have H := Lib.hid (Hp.start hT)
  have S := Lib.hid hs
  clear hT hs
  obtain ⟨a1, a2, _⟩ := sFull2 ea
  unfold Sv.cells
  go_enter Tryz.func58, Tryz.ntmps58
  go_wp2_with (first
      | go_skip
      | ((with_reducible refine isLoad ?_); refine ldA H ?_ (hT := by first | exact rRat | exact rStm8 | exact rJob | exact rWks))
      | ((with_reducible refine isLoad ?_); refine ld1A H ?_ (hT := by first | exact kInt | exact kStr | exact kBll | exact kBool | exact kStl))
      | ((with_reducible refine isStore ?_); refine stA H ?_ (hT := by first | exact rRat); clear H; intro _ H)
      | ((with_reducible refine isBox ?_); refine bxA H ?_; clear H; intro _ _ H)
      | ((with_reducible refine isAlloc ?_); refine alA H ?_ (hz := by first | exact zRat); clear H; intro _ _ H))
  go_ret
  exact ⟨rfl, H.out.bel⟩
set_option maxHeartbeats 4000000 in
theorem shape_b (k n : Int) (a b : ByteArray) (wd : Option Rat) (B : Option Addr) (nb c : Nat) (w : World) (ha : a.size ≤ maxLen) (hb : b.size ≤ maxLen) (hs : SmO wd) (hT : Tb w) (ea : a.size = 0) (eb : ¬ b.size = 0) :
    Calls Tryz.prog 58 #[.agg (Sv.cells ⟨k, a, b, wd, n, .slice B nb c⟩).toArray] w fun e w' => e = .returned (.int .i64 3) ∧ Below w.heap.size w w' := by
  have H := Lib.hid (Hp.start hT)
  have S := Lib.hid hs
  clear hT hs
  obtain ⟨a1, a2⟩ := sEmpty ea
  obtain ⟨b1, b2, _⟩ := sFull2 eb
  unfold Sv.cells
  go_enter Tryz.func58, Tryz.ntmps58
  go_wp2_with (first
      | go_skip
      | ((with_reducible refine isLoad ?_); refine ldA H ?_ (hT := by first | exact rRat | exact rStm8 | exact rJob | exact rWks))
      | ((with_reducible refine isLoad ?_); refine ld1A H ?_ (hT := by first | exact kInt | exact kStr | exact kBll | exact kBool | exact kStl))
      | ((with_reducible refine isStore ?_); refine stA H ?_ (hT := by first | exact rRat); clear H; intro _ H)
      | ((with_reducible refine isBox ?_); refine bxA H ?_; clear H; intro _ _ H)
      | ((with_reducible refine isAlloc ?_); refine alA H ?_ (hz := by first | exact zRat); clear H; intro _ _ H))
  go_ret
  exact ⟨rfl, H.out.bel⟩
set_option maxHeartbeats 4000000 in
theorem shape_w (k n : Int) (a b : ByteArray) (wd : Option Rat) (B : Option Addr) (nb c : Nat) (w : World) (ha : a.size ≤ maxLen) (hb : b.size ≤ maxLen) (hs : SmO wd) (hT : Tb w) (ea : a.size = 0) (eb : b.size = 0) (hw : wd.isSome = true) :
    Calls Tryz.prog 58 #[.agg (Sv.cells ⟨k, a, b, wd, n, .slice B nb c⟩).toArray] w fun e w' => e = .returned (.int .i64 3) ∧ Below w.heap.size w w' := by
  have H := Lib.hid (Hp.start hT)
  have S := Lib.hid hs
  clear hT hs
  obtain ⟨a1, a2⟩ := sEmpty ea
  obtain ⟨b1, b2⟩ := sEmpty eb
  cases wd with
  | none => exact absurd hw (by simp)
  | some q =>
    obtain ⟨N, hN⟩ : ∃ N, nuO (some q) = N := ⟨_, rfl⟩
    obtain ⟨D, hD⟩ : ∃ D, deO (some q) = D := ⟨_, rfl⟩
    have HN := Lib.hid hN
    have HD := Lib.hid hD
    obtain ⟨f1, f2, _⟩ := (show SFull D by rw [← hD]; exact sFull q.den_pos)
    unfold Sv.cells
    rw [hN, hD]
    clear hN hD
    go_enter Tryz.func58, Tryz.ntmps58
    go_wp2_with (first
        | go_skip
        | ((with_reducible refine isLoad ?_); refine ldA H ?_ (hT := by first | exact rRat | exact rStm8 | exact rJob | exact rWks))
        | ((with_reducible refine isLoad ?_); refine ld1A H ?_ (hT := by first | exact kInt | exact kStr | exact kBll | exact kBool | exact kStl))
        | ((with_reducible refine isStore ?_); refine stA H ?_ (hT := by first | exact rRat); clear H; intro _ H)
        | ((with_reducible refine isBox ?_); refine bxA H ?_; clear H; intro _ _ H)
        | ((with_reducible refine isAlloc ?_); refine alA H ?_ (hz := by first | exact zRat); clear H; intro _ _ H))
    go_ret
    exact ⟨rfl, H.out.bel⟩
set_option maxHeartbeats 4000000 in
theorem shape_n (k n : Int) (a b : ByteArray) (wd : Option Rat) (B : Option Addr) (nb c : Nat) (w : World) (ha : a.size ≤ maxLen) (hb : b.size ≤ maxLen) (hs : SmO wd) (hT : Tb w) (ea : a.size = 0) (eb : b.size = 0) (hw : ¬ wd.isSome = true) (hk : ¬ k = 7) (hn : ¬ n = 0) :
    Calls Tryz.prog 58 #[.agg (Sv.cells ⟨k, a, b, wd, n, .slice B nb c⟩).toArray] w fun e w' => e = .returned (.int .i64 3) ∧ Below w.heap.size w w' := by
  have H := Lib.hid (Hp.start hT)
  have S := Lib.hid hs
  clear hT hs
  obtain ⟨a1, a2⟩ := sEmpty ea
  obtain ⟨b1, b2⟩ := sEmpty eb
  have k7p : ¬ (k = 7) := by omega
  have k7d : decide (k = 7) = false := decide_eq_false k7p
  have n0p : ¬ (n = 0) := by omega
  have n0d : decide (n = 0) = false := decide_eq_false n0p
  cases wd with
  | some q => exact absurd hw (by simp)
  | none =>
    clear hw
    unfold Sv.cells
    simp only [sgO, nuO, deO]
    go_enter Tryz.func58, Tryz.ntmps58
    go_wp2_with (first
        | go_skip
        | ((with_reducible refine isLoad ?_); refine ldA H ?_ (hT := by first | exact rRat | exact rStm8 | exact rJob | exact rWks))
        | ((with_reducible refine isLoad ?_); refine ld1A H ?_ (hT := by first | exact kInt | exact kStr | exact kBll | exact kBool | exact kStl))
        | ((with_reducible refine isStore ?_); refine stA H ?_ (hT := by first | exact rRat); clear H; intro _ H)
        | ((with_reducible refine isBox ?_); refine bxA H ?_; clear H; intro _ _ H)
        | ((with_reducible refine isAlloc ?_); refine alA H ?_ (hz := by first | exact zRat); clear H; intro _ _ H))
    go_ret
    exact ⟨rfl, H.out.bel⟩
set_option maxHeartbeats 4000000 in
theorem shape_8l (k n : Int) (a b : ByteArray) (wd : Option Rat) (B : Option Addr) (nb c : Nat) (w : World) (ha : a.size ≤ maxLen) (hb : b.size ≤ maxLen) (hs : SmO wd) (hT : Tb w) (ea : a.size = 0) (eb : b.size = 0) (hw : ¬ wd.isSome = true) (hk : k = 8) (hn : n = 0) (g : nb < 1) :
    Calls Tryz.prog 58 #[.agg (Sv.cells ⟨k, a, b, wd, n, .slice B nb c⟩).toArray] w fun e w' => e = .returned (.int .i64 3) ∧ Below w.heap.size w w' := by
  have H := Lib.hid (Hp.start hT)
  have S := Lib.hid hs
  clear hT hs
  obtain ⟨a1, a2⟩ := sEmpty ea
  obtain ⟨b1, b2⟩ := sEmpty eb
  subst hk
  subst hn
  have g1p : (nb : Int) < 1 := by omega
  have g1d : decide ((nb : Int) < 1) = true := decide_eq_true g1p
  cases wd with
  | some q => exact absurd hw (by simp)
  | none =>
    clear hw
    unfold Sv.cells
    simp only [sgO, nuO, deO]
    go_enter Tryz.func58, Tryz.ntmps58
    go_wp2_with (first
        | go_skip
        | ((with_reducible refine isLoad ?_); refine ldA H ?_ (hT := by first | exact rRat | exact rStm8 | exact rJob | exact rWks))
        | ((with_reducible refine isLoad ?_); refine ld1A H ?_ (hT := by first | exact kInt | exact kStr | exact kBll | exact kBool | exact kStl))
        | ((with_reducible refine isStore ?_); refine stA H ?_ (hT := by first | exact rRat); clear H; intro _ H)
        | ((with_reducible refine isBox ?_); refine bxA H ?_; clear H; intro _ _ H)
        | ((with_reducible refine isAlloc ?_); refine alA H ?_ (hz := by first | exact zRat); clear H; intro _ _ H))
    go_ret
    exact ⟨rfl, H.out.bel⟩
set_option maxHeartbeats 4000000 in
theorem shape_8h (k n : Int) (a b : ByteArray) (wd : Option Rat) (B : Option Addr) (nb c : Nat) (w : World) (ha : a.size ≤ maxLen) (hb : b.size ≤ maxLen) (hs : SmO wd) (hT : Tb w) (ea : a.size = 0) (eb : b.size = 0) (hw : ¬ wd.isSome = true) (hk : k = 8) (hn : n = 0) (g : 4 < nb) :
    Calls Tryz.prog 58 #[.agg (Sv.cells ⟨k, a, b, wd, n, .slice B nb c⟩).toArray] w fun e w' => e = .returned (.int .i64 3) ∧ Below w.heap.size w w' := by
  have H := Lib.hid (Hp.start hT)
  have S := Lib.hid hs
  clear hT hs
  obtain ⟨a1, a2⟩ := sEmpty ea
  obtain ⟨b1, b2⟩ := sEmpty eb
  subst hk
  subst hn
  have g1p : ¬ ((nb : Int) < 1) := by omega
  have g1d : decide ((nb : Int) < 1) = false := decide_eq_false g1p
  have g2p : 4 < (nb : Int) := by omega
  have g2d : decide (4 < (nb : Int)) = true := decide_eq_true g2p
  cases wd with
  | some q => exact absurd hw (by simp)
  | none =>
    clear hw
    unfold Sv.cells
    simp only [sgO, nuO, deO]
    go_enter Tryz.func58, Tryz.ntmps58
    go_wp2_with (first
        | go_skip
        | ((with_reducible refine isLoad ?_); refine ldA H ?_ (hT := by first | exact rRat | exact rStm8 | exact rJob | exact rWks))
        | ((with_reducible refine isLoad ?_); refine ld1A H ?_ (hT := by first | exact kInt | exact kStr | exact kBll | exact kBool | exact kStl))
        | ((with_reducible refine isStore ?_); refine stA H ?_ (hT := by first | exact rRat); clear H; intro _ H)
        | ((with_reducible refine isBox ?_); refine bxA H ?_; clear H; intro _ _ H)
        | ((with_reducible refine isAlloc ?_); refine alA H ?_ (hz := by first | exact zRat); clear H; intro _ _ H))
    go_ret
    exact ⟨rfl, H.out.bel⟩
set_option maxHeartbeats 4000000 in
theorem shape_8o (k n : Int) (a b : ByteArray) (wd : Option Rat) (B : Option Addr) (nb c : Nat) (w : World) (ha : a.size ≤ maxLen) (hb : b.size ≤ maxLen) (hs : SmO wd) (hT : Tb w) (ea : a.size = 0) (eb : b.size = 0) (hw : ¬ wd.isSome = true) (hk : k = 8) (hn : n = 0) (g : 1 ≤ nb) (g2 : nb ≤ 4) :
    Calls Tryz.prog 58 #[.agg (Sv.cells ⟨k, a, b, wd, n, .slice B nb c⟩).toArray] w fun e w' => e = .returned (.int .i64 0) ∧ Below w.heap.size w w' := by
  have H := Lib.hid (Hp.start hT)
  have S := Lib.hid hs
  clear hT hs
  obtain ⟨a1, a2⟩ := sEmpty ea
  obtain ⟨b1, b2⟩ := sEmpty eb
  subst hk
  subst hn
  have g1p : ¬ ((nb : Int) < 1) := by omega
  have g1d : decide ((nb : Int) < 1) = false := decide_eq_false g1p
  have g2p : ¬ (4 < (nb : Int)) := by omega
  have g2d : decide (4 < (nb : Int)) = false := decide_eq_false g2p
  cases wd with
  | some q => exact absurd hw (by simp)
  | none =>
    clear hw
    unfold Sv.cells
    simp only [sgO, nuO, deO]
    go_enter Tryz.func58, Tryz.ntmps58
    go_wp2_with (first
        | go_skip
        | ((with_reducible refine isLoad ?_); refine ldA H ?_ (hT := by first | exact rRat | exact rStm8 | exact rJob | exact rWks))
        | ((with_reducible refine isLoad ?_); refine ld1A H ?_ (hT := by first | exact kInt | exact kStr | exact kBll | exact kBool | exact kStl))
        | ((with_reducible refine isStore ?_); refine stA H ?_ (hT := by first | exact rRat); clear H; intro _ H)
        | ((with_reducible refine isBox ?_); refine bxA H ?_; clear H; intro _ _ H)
        | ((with_reducible refine isAlloc ?_); refine alA H ?_ (hz := by first | exact zRat); clear H; intro _ _ H))
    go_ret
    exact ⟨rfl, H.out.bel⟩
set_option maxHeartbeats 4000000 in
theorem shape_9l (k n : Int) (a b : ByteArray) (wd : Option Rat) (B : Option Addr) (nb c : Nat) (w : World) (ha : a.size ≤ maxLen) (hb : b.size ≤ maxLen) (hs : SmO wd) (hT : Tb w) (ea : a.size = 0) (eb : b.size = 0) (hw : ¬ wd.isSome = true) (hk : k = 9) (hn : n = 0) (g : nb < 2) :
    Calls Tryz.prog 58 #[.agg (Sv.cells ⟨k, a, b, wd, n, .slice B nb c⟩).toArray] w fun e w' => e = .returned (.int .i64 3) ∧ Below w.heap.size w w' := by
  have H := Lib.hid (Hp.start hT)
  have S := Lib.hid hs
  clear hT hs
  obtain ⟨a1, a2⟩ := sEmpty ea
  obtain ⟨b1, b2⟩ := sEmpty eb
  subst hk
  subst hn
  have g1p : (nb : Int) < 2 := by omega
  have g1d : decide ((nb : Int) < 2) = true := decide_eq_true g1p
  cases wd with
  | some q => exact absurd hw (by simp)
  | none =>
    clear hw
    unfold Sv.cells
    simp only [sgO, nuO, deO]
    go_enter Tryz.func58, Tryz.ntmps58
    go_wp2_with (first
        | go_skip
        | ((with_reducible refine isLoad ?_); refine ldA H ?_ (hT := by first | exact rRat | exact rStm8 | exact rJob | exact rWks))
        | ((with_reducible refine isLoad ?_); refine ld1A H ?_ (hT := by first | exact kInt | exact kStr | exact kBll | exact kBool | exact kStl))
        | ((with_reducible refine isStore ?_); refine stA H ?_ (hT := by first | exact rRat); clear H; intro _ H)
        | ((with_reducible refine isBox ?_); refine bxA H ?_; clear H; intro _ _ H)
        | ((with_reducible refine isAlloc ?_); refine alA H ?_ (hz := by first | exact zRat); clear H; intro _ _ H))
    go_ret
    exact ⟨rfl, H.out.bel⟩
set_option maxHeartbeats 4000000 in
theorem shape_9h (k n : Int) (a b : ByteArray) (wd : Option Rat) (B : Option Addr) (nb c : Nat) (w : World) (ha : a.size ≤ maxLen) (hb : b.size ≤ maxLen) (hs : SmO wd) (hT : Tb w) (ea : a.size = 0) (eb : b.size = 0) (hw : ¬ wd.isSome = true) (hk : k = 9) (hn : n = 0) (g : 2 < nb) :
    Calls Tryz.prog 58 #[.agg (Sv.cells ⟨k, a, b, wd, n, .slice B nb c⟩).toArray] w fun e w' => e = .returned (.int .i64 3) ∧ Below w.heap.size w w' := by
  have H := Lib.hid (Hp.start hT)
  have S := Lib.hid hs
  clear hT hs
  obtain ⟨a1, a2⟩ := sEmpty ea
  obtain ⟨b1, b2⟩ := sEmpty eb
  subst hk
  subst hn
  have g1p : ¬ ((nb : Int) < 2) := by omega
  have g1d : decide ((nb : Int) < 2) = false := decide_eq_false g1p
  have g2p : 2 < (nb : Int) := by omega
  have g2d : decide (2 < (nb : Int)) = true := decide_eq_true g2p
  cases wd with
  | some q => exact absurd hw (by simp)
  | none =>
    clear hw
    unfold Sv.cells
    simp only [sgO, nuO, deO]
    go_enter Tryz.func58, Tryz.ntmps58
    go_wp2_with (first
        | go_skip
        | ((with_reducible refine isLoad ?_); refine ldA H ?_ (hT := by first | exact rRat | exact rStm8 | exact rJob | exact rWks))
        | ((with_reducible refine isLoad ?_); refine ld1A H ?_ (hT := by first | exact kInt | exact kStr | exact kBll | exact kBool | exact kStl))
        | ((with_reducible refine isStore ?_); refine stA H ?_ (hT := by first | exact rRat); clear H; intro _ H)
        | ((with_reducible refine isBox ?_); refine bxA H ?_; clear H; intro _ _ H)
        | ((with_reducible refine isAlloc ?_); refine alA H ?_ (hz := by first | exact zRat); clear H; intro _ _ H))
    go_ret
    exact ⟨rfl, H.out.bel⟩
set_option maxHeartbeats 4000000 in
theorem shape_9o (k n : Int) (a b : ByteArray) (wd : Option Rat) (B : Option Addr) (nb c : Nat) (w : World) (ha : a.size ≤ maxLen) (hb : b.size ≤ maxLen) (hs : SmO wd) (hT : Tb w) (ea : a.size = 0) (eb : b.size = 0) (hw : ¬ wd.isSome = true) (hk : k = 9) (hn : n = 0) (g : 2 ≤ nb) (g2 : nb ≤ 2) :
    Calls Tryz.prog 58 #[.agg (Sv.cells ⟨k, a, b, wd, n, .slice B nb c⟩).toArray] w fun e w' => e = .returned (.int .i64 0) ∧ Below w.heap.size w w' := by
  have H := Lib.hid (Hp.start hT)
  have S := Lib.hid hs
  clear hT hs
  obtain ⟨a1, a2⟩ := sEmpty ea
  obtain ⟨b1, b2⟩ := sEmpty eb
  subst hk
  subst hn
  have g1p : ¬ ((nb : Int) < 2) := by omega
  have g1d : decide ((nb : Int) < 2) = false := decide_eq_false g1p
  have g2p : ¬ (2 < (nb : Int)) := by omega
  have g2d : decide (2 < (nb : Int)) = false := decide_eq_false g2p
  cases wd with
  | some q => exact absurd hw (by simp)
  | none =>
    clear hw
    unfold Sv.cells
    simp only [sgO, nuO, deO]
    go_enter Tryz.func58, Tryz.ntmps58
    go_wp2_with (first
        | go_skip
        | ((with_reducible refine isLoad ?_); refine ldA H ?_ (hT := by first | exact rRat | exact rStm8 | exact rJob | exact rWks))
        | ((with_reducible refine isLoad ?_); refine ld1A H ?_ (hT := by first | exact kInt | exact kStr | exact kBll | exact kBool | exact kStl))
        | ((with_reducible refine isStore ?_); refine stA H ?_ (hT := by first | exact rRat); clear H; intro _ H)
        | ((with_reducible refine isBox ?_); refine bxA H ?_; clear H; intro _ _ H)
        | ((with_reducible refine isAlloc ?_); refine alA H ?_ (hz := by first | exact zRat); clear H; intro _ _ H))
    go_ret
    exact ⟨rfl, H.out.bel⟩
set_option maxHeartbeats 4000000 in
theorem shape_6l (k n : Int) (a b : ByteArray) (wd : Option Rat) (B : Option Addr) (nb c : Nat) (w : World) (ha : a.size ≤ maxLen) (hb : b.size ≤ maxLen) (hs : SmO wd) (hT : Tb w) (ea : a.size = 0) (eb : b.size = 0) (hw : ¬ wd.isSome = true) (hk : k = 6) (hn : n = 0) (g : nb < 1) :
    Calls Tryz.prog 58 #[.agg (Sv.cells ⟨k, a, b, wd, n, .slice B nb c⟩).toArray] w fun e w' => e = .returned (.int .i64 3) ∧ Below w.heap.size w w' := by
  have H := Lib.hid (Hp.start hT)
  have S := Lib.hid hs
  clear hT hs
  obtain ⟨a1, a2⟩ := sEmpty ea
  obtain ⟨b1, b2⟩ := sEmpty eb
  subst hk
  subst hn
  have g1p : (nb : Int) < 1 := by omega
  have g1d : decide ((nb : Int) < 1) = true := decide_eq_true g1p
  cases wd with
  | some q => exact absurd hw (by simp)
  | none =>
    clear hw
    unfold Sv.cells
    simp only [sgO, nuO, deO]
    go_enter Tryz.func58, Tryz.ntmps58
    go_wp2_with (first
        | go_skip
        | ((with_reducible refine isLoad ?_); refine ldA H ?_ (hT := by first | exact rRat | exact rStm8 | exact rJob | exact rWks))
        | ((with_reducible refine isLoad ?_); refine ld1A H ?_ (hT := by first | exact kInt | exact kStr | exact kBll | exact kBool | exact kStl))
        | ((with_reducible refine isStore ?_); refine stA H ?_ (hT := by first | exact rRat); clear H; intro _ H)
        | ((with_reducible refine isBox ?_); refine bxA H ?_; clear H; intro _ _ H)
        | ((with_reducible refine isAlloc ?_); refine alA H ?_ (hz := by first | exact zRat); clear H; intro _ _ H))
    go_ret
    exact ⟨rfl, H.out.bel⟩
set_option maxHeartbeats 4000000 in
theorem shape_6h (k n : Int) (a b : ByteArray) (wd : Option Rat) (B : Option Addr) (nb c : Nat) (w : World) (ha : a.size ≤ maxLen) (hb : b.size ≤ maxLen) (hs : SmO wd) (hT : Tb w) (ea : a.size = 0) (eb : b.size = 0) (hw : ¬ wd.isSome = true) (hk : k = 6) (hn : n = 0) (g : 1 < nb) :
    Calls Tryz.prog 58 #[.agg (Sv.cells ⟨k, a, b, wd, n, .slice B nb c⟩).toArray] w fun e w' => e = .returned (.int .i64 3) ∧ Below w.heap.size w w' := by
  have H := Lib.hid (Hp.start hT)
  have S := Lib.hid hs
  clear hT hs
  obtain ⟨a1, a2⟩ := sEmpty ea
  obtain ⟨b1, b2⟩ := sEmpty eb
  subst hk
  subst hn
  have g1p : ¬ ((nb : Int) < 1) := by omega
  have g1d : decide ((nb : Int) < 1) = false := decide_eq_false g1p
  have g2p : 1 < (nb : Int) := by omega
  have g2d : decide (1 < (nb : Int)) = true := decide_eq_true g2p
  cases wd with
  | some q => exact absurd hw (by simp)
  | none =>
    clear hw
    unfold Sv.cells
    simp only [sgO, nuO, deO]
    go_enter Tryz.func58, Tryz.ntmps58
    go_wp2_with (first
        | go_skip
        | ((with_reducible refine isLoad ?_); refine ldA H ?_ (hT := by first | exact rRat | exact rStm8 | exact rJob | exact rWks))
        | ((with_reducible refine isLoad ?_); refine ld1A H ?_ (hT := by first | exact kInt | exact kStr | exact kBll | exact kBool | exact kStl))
        | ((with_reducible refine isStore ?_); refine stA H ?_ (hT := by first | exact rRat); clear H; intro _ H)
        | ((with_reducible refine isBox ?_); refine bxA H ?_; clear H; intro _ _ H)
        | ((with_reducible refine isAlloc ?_); refine alA H ?_ (hz := by first | exact zRat); clear H; intro _ _ H))
    go_ret
    exact ⟨rfl, H.out.bel⟩
set_option maxHeartbeats 4000000 in
theorem shape_6o (k n : Int) (a b : ByteArray) (wd : Option Rat) (B : Option Addr) (nb c : Nat) (w : World) (ha : a.size ≤ maxLen) (hb : b.size ≤ maxLen) (hs : SmO wd) (hT : Tb w) (ea : a.size = 0) (eb : b.size = 0) (hw : ¬ wd.isSome = true) (hk : k = 6) (hn : n = 0) (g : nb = 1) :
    Calls Tryz.prog 58 #[.agg (Sv.cells ⟨k, a, b, wd, n, .slice B nb c⟩).toArray] w fun e w' => e = .returned (.int .i64 0) ∧ Below w.heap.size w w' := by
  have H := Lib.hid (Hp.start hT)
  have S := Lib.hid hs
  clear hT hs
  obtain ⟨a1, a2⟩ := sEmpty ea
  obtain ⟨b1, b2⟩ := sEmpty eb
  subst hk
  subst hn
  subst g
  cases wd with
  | some q => exact absurd hw (by simp)
  | none =>
    clear hw
    unfold Sv.cells
    simp only [sgO, nuO, deO]
    go_enter Tryz.func58, Tryz.ntmps58
    go_wp2_with (first
        | go_skip
        | ((with_reducible refine isLoad ?_); refine ldA H ?_ (hT := by first | exact rRat | exact rStm8 | exact rJob | exact rWks))
        | ((with_reducible refine isLoad ?_); refine ld1A H ?_ (hT := by first | exact kInt | exact kStr | exact kBll | exact kBool | exact kStl))
        | ((with_reducible refine isStore ?_); refine stA H ?_ (hT := by first | exact rRat); clear H; intro _ H)
        | ((with_reducible refine isBox ?_); refine bxA H ?_; clear H; intro _ _ H)
        | ((with_reducible refine isAlloc ?_); refine alA H ?_ (hz := by first | exact zRat); clear H; intro _ _ H))
    go_ret
    exact ⟨rfl, H.out.bel⟩
set_option maxHeartbeats 4000000 in
theorem shape_7l (k n : Int) (a b : ByteArray) (wd : Option Rat) (B : Option Addr) (nb c : Nat) (w : World) (ha : a.size ≤ maxLen) (hb : b.size ≤ maxLen) (hs : SmO wd) (hT : Tb w) (ea : a.size = 0) (eb : b.size = 0) (hw : ¬ wd.isSome = true) (hk : k = 7) (g : nb < 1) :
    Calls Tryz.prog 58 #[.agg (Sv.cells ⟨k, a, b, wd, n, .slice B nb c⟩).toArray] w fun e w' => e = .returned (.int .i64 3) ∧ Below w.heap.size w w' := by
  have H := Lib.hid (Hp.start hT)
  have S := Lib.hid hs
  clear hT hs
  obtain ⟨a1, a2⟩ := sEmpty ea
  obtain ⟨b1, b2⟩ := sEmpty eb
  subst hk
  have g1p : (nb : Int) < 1 := by omega
  have g1d : decide ((nb : Int) < 1) = true := decide_eq_true g1p
  cases wd with
  | some q => exact absurd hw (by simp)
  | none =>
    clear hw
    unfold Sv.cells
    simp only [sgO, nuO, deO]
    go_enter Tryz.func58, Tryz.ntmps58
    go_wp2_with (first
        | go_skip
        | ((with_reducible refine isLoad ?_); refine ldA H ?_ (hT := by first | exact rRat | exact rStm8 | exact rJob | exact rWks))
        | ((with_reducible refine isLoad ?_); refine ld1A H ?_ (hT := by first | exact kInt | exact kStr | exact kBll | exact kBool | exact kStl))
        | ((with_reducible refine isStore ?_); refine stA H ?_ (hT := by first | exact rRat); clear H; intro _ H)
        | ((with_reducible refine isBox ?_); refine bxA H ?_; clear H; intro _ _ H)
        | ((with_reducible refine isAlloc ?_); refine alA H ?_ (hz := by first | exact zRat); clear H; intro _ _ H))
    go_ret
    exact ⟨rfl, H.out.bel⟩
set_option maxHeartbeats 4000000 in
theorem shape_7h (k n : Int) (a b : ByteArray) (wd : Option Rat) (B : Option Addr) (nb c : Nat) (w : World) (ha : a.size ≤ maxLen) (hb : b.size ≤ maxLen) (hs : SmO wd) (hT : Tb w) (ea : a.size = 0) (eb : b.size = 0) (hw : ¬ wd.isSome = true) (hk : k = 7) (g : 1 < nb) :
    Calls Tryz.prog 58 #[.agg (Sv.cells ⟨k, a, b, wd, n, .slice B nb c⟩).toArray] w fun e w' => e = .returned (.int .i64 3) ∧ Below w.heap.size w w' := by
  have H := Lib.hid (Hp.start hT)
  have S := Lib.hid hs
  clear hT hs
  obtain ⟨a1, a2⟩ := sEmpty ea
  obtain ⟨b1, b2⟩ := sEmpty eb
  subst hk
  have g1p : ¬ ((nb : Int) < 1) := by omega
  have g1d : decide ((nb : Int) < 1) = false := decide_eq_false g1p
  have g2p : 1 < (nb : Int) := by omega
  have g2d : decide (1 < (nb : Int)) = true := decide_eq_true g2p
  cases wd with
  | some q => exact absurd hw (by simp)
  | none =>
    clear hw
    unfold Sv.cells
    simp only [sgO, nuO, deO]
    go_enter Tryz.func58, Tryz.ntmps58
    go_wp2_with (first
        | go_skip
        | ((with_reducible refine isLoad ?_); refine ldA H ?_ (hT := by first | exact rRat | exact rStm8 | exact rJob | exact rWks))
        | ((with_reducible refine isLoad ?_); refine ld1A H ?_ (hT := by first | exact kInt | exact kStr | exact kBll | exact kBool | exact kStl))
        | ((with_reducible refine isStore ?_); refine stA H ?_ (hT := by first | exact rRat); clear H; intro _ H)
        | ((with_reducible refine isBox ?_); refine bxA H ?_; clear H; intro _ _ H)
        | ((with_reducible refine isAlloc ?_); refine alA H ?_ (hz := by first | exact zRat); clear H; intro _ _ H))
    go_ret
    exact ⟨rfl, H.out.bel⟩
set_option maxHeartbeats 4000000 in
theorem shape_7a (k n : Int) (a b : ByteArray) (wd : Option Rat) (B : Option Addr) (nb c : Nat) (w : World) (ha : a.size ≤ maxLen) (hb : b.size ≤ maxLen) (hs : SmO wd) (hT : Tb w) (ea : a.size = 0) (eb : b.size = 0) (hw : ¬ wd.isSome = true) (hk : k = 7) (g : nb = 1) (hn : n < 1) :
    Calls Tryz.prog 58 #[.agg (Sv.cells ⟨k, a, b, wd, n, .slice B nb c⟩).toArray] w fun e w' => e = .returned (.int .i64 1) ∧ Below w.heap.size w w' := by
  have H := Lib.hid (Hp.start hT)
  have S := Lib.hid hs
  clear hT hs
  obtain ⟨a1, a2⟩ := sEmpty ea
  obtain ⟨b1, b2⟩ := sEmpty eb
  subst hk
  subst g
  have n1p : n < 1 := by omega
  have n1d : decide (n < 1) = true := decide_eq_true n1p
  cases wd with
  | some q => exact absurd hw (by simp)
  | none =>
    clear hw
    unfold Sv.cells
    simp only [sgO, nuO, deO]
    go_enter Tryz.func58, Tryz.ntmps58
    go_wp2_with (first
        | go_skip
        | ((with_reducible refine isLoad ?_); refine ldA H ?_ (hT := by first | exact rRat | exact rStm8 | exact rJob | exact rWks))
        | ((with_reducible refine isLoad ?_); refine ld1A H ?_ (hT := by first | exact kInt | exact kStr | exact kBll | exact kBool | exact kStl))
        | ((with_reducible refine isStore ?_); refine stA H ?_ (hT := by first | exact rRat); clear H; intro _ H)
        | ((with_reducible refine isBox ?_); refine bxA H ?_; clear H; intro _ _ H)
        | ((with_reducible refine isAlloc ?_); refine alA H ?_ (hz := by first | exact zRat); clear H; intro _ _ H))
    go_ret
    exact ⟨rfl, H.out.bel⟩
set_option maxHeartbeats 4000000 in
theorem shape_7b (k n : Int) (a b : ByteArray) (wd : Option Rat) (B : Option Addr) (nb c : Nat) (w : World) (ha : a.size ≤ maxLen) (hb : b.size ≤ maxLen) (hs : SmO wd) (hT : Tb w) (ea : a.size = 0) (eb : b.size = 0) (hw : ¬ wd.isSome = true) (hk : k = 7) (g : nb = 1) (hn : 5 < n) :
    Calls Tryz.prog 58 #[.agg (Sv.cells ⟨k, a, b, wd, n, .slice B nb c⟩).toArray] w fun e w' => e = .returned (.int .i64 1) ∧ Below w.heap.size w w' := by
  have H := Lib.hid (Hp.start hT)
  have S := Lib.hid hs
  clear hT hs
  obtain ⟨a1, a2⟩ := sEmpty ea
  obtain ⟨b1, b2⟩ := sEmpty eb
  subst hk
  subst g
  have n1p : ¬ (n < 1) := by omega
  have n1d : decide (n < 1) = false := decide_eq_false n1p
  have n2p : 5 < n := by omega
  have n2d : decide (5 < n) = true := decide_eq_true n2p
  cases wd with
  | some q => exact absurd hw (by simp)
  | none =>
    clear hw
    unfold Sv.cells
    simp only [sgO, nuO, deO]
    go_enter Tryz.func58, Tryz.ntmps58
    go_wp2_with (first
        | go_skip
        | ((with_reducible refine isLoad ?_); refine ldA H ?_ (hT := by first | exact rRat | exact rStm8 | exact rJob | exact rWks))
        | ((with_reducible refine isLoad ?_); refine ld1A H ?_ (hT := by first | exact kInt | exact kStr | exact kBll | exact kBool | exact kStl))
        | ((with_reducible refine isStore ?_); refine stA H ?_ (hT := by first | exact rRat); clear H; intro _ H)
        | ((with_reducible refine isBox ?_); refine bxA H ?_; clear H; intro _ _ H)
        | ((with_reducible refine isAlloc ?_); refine alA H ?_ (hz := by first | exact zRat); clear H; intro _ _ H))
    go_ret
    exact ⟨rfl, H.out.bel⟩
set_option maxHeartbeats 4000000 in
theorem shape_7o (k n : Int) (a b : ByteArray) (wd : Option Rat) (B : Option Addr) (nb c : Nat) (w : World) (ha : a.size ≤ maxLen) (hb : b.size ≤ maxLen) (hs : SmO wd) (hT : Tb w) (ea : a.size = 0) (eb : b.size = 0) (hw : ¬ wd.isSome = true) (hk : k = 7) (g : nb = 1) (hn : ¬ n < 1) (hn2 : ¬ 5 < n) :
    Calls Tryz.prog 58 #[.agg (Sv.cells ⟨k, a, b, wd, n, .slice B nb c⟩).toArray] w fun e w' => e = .returned (.int .i64 0) ∧ Below w.heap.size w w' := by
  have H := Lib.hid (Hp.start hT)
  have S := Lib.hid hs
  clear hT hs
  obtain ⟨a1, a2⟩ := sEmpty ea
  obtain ⟨b1, b2⟩ := sEmpty eb
  subst hk
  subst g
  have n1p : ¬ (n < 1) := by omega
  have n1d : decide (n < 1) = false := decide_eq_false n1p
  have n2p : ¬ (5 < n) := by omega
  have n2d : decide (5 < n) = false := decide_eq_false n2p
  cases wd with
  | some q => exact absurd hw (by simp)
  | none =>
    clear hw
    unfold Sv.cells
    simp only [sgO, nuO, deO]
    go_enter Tryz.func58, Tryz.ntmps58
    go_wp2_with (first
        | go_skip
        | ((with_reducible refine isLoad ?_); refine ldA H ?_ (hT := by first | exact rRat | exact rStm8 | exact rJob | exact rWks))
        | ((with_reducible refine isLoad ?_); refine ld1A H ?_ (hT := by first | exact kInt | exact kStr | exact kBll | exact kBool | exact kStl))
        | ((with_reducible refine isStore ?_); refine stA H ?_ (hT := by first | exact rRat); clear H; intro _ H)
        | ((with_reducible refine isBox ?_); refine bxA H ?_; clear H; intro _ _ H)
        | ((with_reducible refine isAlloc ?_); refine alA H ?_ (hz := by first | exact zRat); clear H; intro _ _ H))
    go_ret
    exact ⟨rfl, H.out.bel⟩
end Go.Proofs.YtaiokjhjakdhaaaGreatDoor

namespace Go.Proofs.YtaiokjhjakdhaaaGreatDoor
open Go.RowKit
set_option linter.unusedVariables false
set_option maxRecDepth 100000

theorem shape_any (k n : Int) (a b : ByteArray) (wd : Option Rat) (B : Option Addr) (nb c : Nat) (w : World) (ha : a.size ≤ maxLen) (hb : b.size ≤ maxLen) (hs : SmO wd) (hT : Tb w) (hk1 : 6 ≤ k) (hk5 : k ≤ 9) :
    Calls Tryz.prog 58 #[.agg (Sv.cells ⟨k, a, b, wd, n, .slice B nb c⟩).toArray] w fun e w' => e = .returned (.int .i64 (shapeE k a b wd n nb)) ∧ Below w.heap.size w w' := by
  by_cases ea : a.size = 0
  case neg => rw [show shapeE k a b wd n nb = 3 from if_pos ea]; exact shape_a k n a b wd B nb c w ha hb hs hT ea
  by_cases eb : b.size = 0
  case neg => rw [show shapeE k a b wd n nb = 3 by unfold shapeE; rw [if_neg (by simpa using ea), if_pos eb]]; exact shape_b k n a b wd B nb c w ha hb hs hT ea eb
  by_cases hw : wd.isSome = true
  · rw [show shapeE k a b wd n nb = 3 by unfold shapeE; rw [if_neg (by simpa using ea), if_neg (by simpa using eb), if_pos hw]]; exact shape_w k n a b wd B nb c w ha hb hs hT ea eb hw
  by_cases h3 : k ≠ 7 ∧ n ≠ 0
  · rw [show shapeE k a b wd n nb = 3 by unfold shapeE; rw [if_neg (by simpa using ea), if_neg (by simpa using eb), if_neg hw, if_pos h3]]; exact shape_n k n a b wd B nb c w ha hb hs hT ea eb hw h3.1 h3.2
  rw [show shapeE k a b wd n nb = if k = 8 then (if nb < 1 ∨ 4 < nb then 3 else 0) else if k = 9 then (if nb = 2 then 0 else 3)
  else if nb ≠ 1 then 3 else if k = 7 ∧ (n < 1 ∨ 5 < n) then 1 else 0 by unfold shapeE; rw [if_neg (by simpa using ea), if_neg (by simpa using eb), if_neg hw, if_neg h3]]
  have hn : ¬ k = 7 → n = 0 := fun h => by
    by_cases e : n = 0
    · exact e
    · exact absurd ⟨h, e⟩ h3
  by_cases h8 : k = 8
  · rw [if_pos h8]
    by_cases g1 : nb < 1
    · rw [if_pos (.inl g1)]; exact shape_8l k n a b wd B nb c w ha hb hs hT ea eb hw h8 (hn (by omega)) g1
    by_cases g2 : 4 < nb
    · rw [if_pos (.inr g2)]; exact shape_8h k n a b wd B nb c w ha hb hs hT ea eb hw h8 (hn (by omega)) g2
    rw [if_neg (by omega)]; exact shape_8o k n a b wd B nb c w ha hb hs hT ea eb hw h8 (hn (by omega)) (by omega) (by omega)
  rw [if_neg h8]
  by_cases h9 : k = 9
  · rw [if_pos h9]
    rcases Nat.lt_trichotomy nb 2 with g | g | g
    · rw [if_neg (by omega)]; exact shape_9l k n a b wd B nb c w ha hb hs hT ea eb hw h9 (hn (by omega)) g
    · rw [if_pos g]; exact shape_9o k n a b wd B nb c w ha hb hs hT ea eb hw h9 (hn (by omega)) (by omega) (by omega)
    · rw [if_neg (by omega)]; exact shape_9h k n a b wd B nb c w ha hb hs hT ea eb hw h9 (hn (by omega)) g
  rw [if_neg h9]
  by_cases h7 : k = 7
  · rcases Nat.lt_trichotomy nb 1 with g | g | g
    · rw [if_pos (by omega)]; exact shape_7l k n a b wd B nb c w ha hb hs hT ea eb hw h7 g
    · rw [if_neg (by omega)]
      by_cases g1 : n < 1
      · rw [if_pos ⟨h7, .inl g1⟩]; exact shape_7a k n a b wd B nb c w ha hb hs hT ea eb hw h7 g g1
      by_cases g2 : 5 < n
      · rw [if_pos ⟨h7, .inr g2⟩]; exact shape_7b k n a b wd B nb c w ha hb hs hT ea eb hw h7 g g2
      rw [if_neg (fun h => h.2.elim g1 g2)]; exact shape_7o k n a b wd B nb c w ha hb hs hT ea eb hw h7 g g1 g2
    · rw [if_pos (by omega)]; exact shape_7h k n a b wd B nb c w ha hb hs hT ea eb hw h7 g
  have h6 : k = 6 := by omega
  rcases Nat.lt_trichotomy nb 1 with g | g | g
  · rw [if_pos (by omega)]; exact shape_6l k n a b wd B nb c w ha hb hs hT ea eb hw h6 (hn h7) g
  · rw [if_neg (by omega), if_neg (fun h => h7 h.1)]; exact shape_6o k n a b wd B nb c w ha hb hs hT ea eb hw h6 (hn h7) g
  · rw [if_pos (by omega)]; exact shape_6h k n a b wd B nb c w ha hb hs hT ea eb hw h6 (hn h7) g
/-- The weight of statements, or the first error. -/
def stmtsP (f : Stm → Int × Int) : List Stm → Int → Int × Int
  | [], sum => (sum, 0)
  | s :: r, sum => if (f s).2 ≠ 0 then (0, (f s).2) else if 100 < sum + (f s).1 then (0, 2) else stmtsP f r (sum + (f s).1)
def blocksP (f : List Stm → Int × Int) (n : Int) : List (List Stm) → Int → Int × Int
  | [], sum => (sum, 0)
  | b :: r, sum => if (f b).2 ≠ 0 then (0, (f b).2) else if 100 < sum + (f b).1 * max n 1 then (0, 2) else blocksP f n r (sum + (f b).1 * max n 1)
def wSts (f : Stm → Int × Int) (p : Nat) (l : List Stm) : Int × Int := if 5 < p then (0, 2) else stmtsP f l 0
def wSt : Nat → Nat → Stm → Int × Int
  | 0, _, _ => (0, 3)
  | d + 1, p, s => if s.k < 1 ∨ 9 < s.k then (0, 3) else if s.k < 6 then (1, plainE s.k s.a s.b s.wd s.n s.bl.length)
    else if shapeE s.k s.a s.b s.wd s.n s.bl.length ≠ 0 then (0, shapeE s.k s.a s.b s.wd s.n s.bl.length)
    else blocksP (fun b => wSts (wSt d (p + 1)) (p + 1) b) s.n s.bl 1
theorem stmtsP_bd {f : Stm → Int × Int} (hf : ∀ s, 0 ≤ (f s).1 ∧ (f s).1 ≤ 100) : ∀ (l : List Stm) (sum : Int), 0 ≤ sum → sum ≤ 100 → 0 ≤ (stmtsP f l sum).1 ∧ (stmtsP f l sum).1 ≤ 100
  | [], sum, h0, h1 => ⟨h0, h1⟩
  | s :: r, sum, h0, h1 => by
    unfold stmtsP
    have := hf s
    split
    · exact ⟨by simp, by simp⟩
    · split
      · exact ⟨by simp, by simp⟩
      · exact stmtsP_bd hf r _ (by omega) (by omega)
theorem blocksP_bd {f : List Stm → Int × Int} {n : Int} (hf : ∀ s, 0 ≤ (f s).1 ∧ (f s).1 ≤ 100) : ∀ (l : List (List Stm)) (sum : Int), 0 ≤ sum → sum ≤ 100 → 0 ≤ (blocksP f n l sum).1 ∧ (blocksP f n l sum).1 ≤ 100
  | [], sum, h0, h1 => ⟨h0, h1⟩
  | s :: r, sum, h0, h1 => by
    unfold blocksP
    have := hf s
    split
    · exact ⟨by simp, by simp⟩
    · split
      · exact ⟨by simp, by simp⟩
      · have h2 : 0 ≤ (f s).1 * max n 1 := Int.mul_nonneg this.1 (by omega)
        exact blocksP_bd hf r _ (by omega) (by omega)
theorem wSts_bd {f : Stm → Int × Int} (hf : ∀ s, 0 ≤ (f s).1 ∧ (f s).1 ≤ 100) (p : Nat) (l : List Stm) : 0 ≤ (wSts f p l).1 ∧ (wSts f p l).1 ≤ 100 := by
  unfold wSts
  split
  · exact ⟨by simp, by simp⟩
  · exact stmtsP_bd hf l 0 (by omega) (by omega)
theorem wSt_bd : ∀ (d p : Nat) (s : Stm), 0 ≤ (wSt d p s).1 ∧ (wSt d p s).1 ≤ 100
  | 0, _, _ => ⟨by simp [wSt], by simp [wSt]⟩
  | d + 1, p, s => by
    unfold wSt
    split
    · exact ⟨by simp, by simp⟩
    · split
      · exact ⟨by simp, by simp⟩
      · split
        · exact ⟨by simp, by simp⟩
        · exact blocksP_bd (fun b => wSts_bd (wSt_bd d (p + 1)) (p + 1) b) s.bl 1 (by omega) (by omega)
theorem zStm8 : (Tryz.prog.info? 86).bind (·.zero) = some (.agg #[.int .i64 0, .string ⟨#[]⟩, .string ⟨#[]⟩, .bool false, .string ⟨#[]⟩, .string ⟨#[]⟩, .int .i64 0, .slice none 0 0]) := by kernel_rfl
theorem RSt.shape {E : Ents} {d : Nat} {s : Stm} {v : Sv} (h : RSt E d s v) : ∃ B c, v.bv = .slice B s.bl.length c := by
  cases d with
  | zero => exact h.elim
  | succ d =>
    obtain ⟨bvs, h1, h2⟩ := h.bl
    obtain ⟨B, c, h3, _⟩ := h1.shape
    exact ⟨B, c, by rw [h3, h2.1]⟩
/-- The contract of parse.stmt, at statements of at most d blocks within each other. -/
def StmtC (d : Nat) : Prop := ∀ (E : Ents) (s : Stm) (v : Sv) (p : Nat) (w : World), p ≤ 5 → RSt E d s v → Hld E w → Tb w → Calls Tryz.prog 40 #[.agg v.cells.toArray, .int .i64 p] w fun e w' => e = .returned (.tuple #[.int .i64 (wSt d p s).1, .int .i64 (wSt d p s).2]) ∧ Below w.heap.size w w'
def StmtsC (d : Nat) : Prop := ∀ (E : Ents) (l : List Stm) (x : Value) (p : Nat) (w : World), p ≤ 6 → RSs E d l x → Hld E w → Tb w → Calls Tryz.prog 27 #[x, .int .i64 p] w fun e w' => e = .returned (.tuple #[.int .i64 (wSts (wSt d p) p l).1, .int .i64 (wSts (wSt d p) p l).2]) ∧ Below w.heap.size w w'
set_option maxHeartbeats 4000000 in
theorem stmts_of (d : Nat) (hst : StmtC d) : StmtsC d := by
  intro E l x p w hp hR hE hT
  have H := Lib.hid (Hp.start hT)
  have HC := Lib.hid hst
  have HE := Lib.hid hE
  obtain ⟨svs, hR1, hR2⟩ := hR
  have R := Lib.hid hR1
  have R2 := Lib.hid hR2
  have hnl := R.out.le
  have FL := Lib.hid hR2.1
  obtain ⟨n, hn⟩ : ∃ n, svs.length = n := ⟨_, rfl⟩
  have HN := Lib.hid hn
  rw [hn] at R hnl
  clear hst hE hR1 hR2 hT hn
  obtain ⟨B, c, rfl, _⟩ := R.out.shape
  by_cases h5 : 5 < p
  · have p5p : 5 < (p : Int) := by omega
    have p5d : decide (5 < (p : Int)) = true := decide_eq_true p5p
    rw [show wSts (wSt d p) p l = (0, 2) from if_pos h5]
    go_enter Tryz.func27, Tryz.ntmps27
    go_wp2_with (first
        | go_skip
        | ((with_reducible refine isLoad ?_); refine ldA H ?_ (hT := by first | exact rRat | exact rStm8 | exact rJob | exact rWks))
        | ((with_reducible refine isLoad ?_); refine ld1A H ?_ (hT := by first | exact kInt | exact kStr | exact kBll | exact kBool | exact kStl))
        | ((with_reducible refine isStore ?_); refine stA H ?_ (hT := by first | exact rRat); clear H; intro _ H)
        | ((with_reducible refine isBox ?_); refine bxA H ?_; clear H; intro _ _ H)
        | ((with_reducible refine isAlloc ?_); refine alA H ?_ (hz := by first | exact zRat); clear H; intro _ _ H))
    go_ret2
    exact ⟨rfl, H.out.bel⟩
  · have p5p : ¬ (5 < (p : Int)) := by omega
    have p5d : decide (5 < (p : Int)) = false := decide_eq_false p5p
    rw [show wSts (wSt d p) p l = stmtsP (wSt d p) l 0 from if_neg h5]
    obtain ⟨r1, r2, hr⟩ : ∃ r1 r2, stmtsP (wSt d p) l 0 = (r1, r2) := ⟨_, _, rfl⟩
    rw [hr]
    have HR : Hid (stmtsP (wSt d p) (l.drop 0) 0 = (r1, r2)) := hr
    clear hr
    go_enter Tryz.func27, Tryz.ntmps27
    go_wp2_with (first
        | go_skip
        | ((with_reducible refine isLoad ?_); refine ldA H ?_ (hT := by first | exact rRat | exact rStm8 | exact rJob | exact rWks))
        | ((with_reducible refine isLoad ?_); refine ld1A H ?_ (hT := by first | exact kInt | exact kStr | exact kBll | exact kBool | exact kStl))
        | ((with_reducible refine isStore ?_); refine stA H ?_ (hT := by first | exact rRat); clear H; intro _ H)
        | ((with_reducible refine isBox ?_); refine bxA H ?_; clear H; intro _ _ H)
        | ((with_reducible refine isAlloc ?_); refine alA H ?_ (hz := by first | exact zRat); clear H; intro _ _ H))
    go_loopw [6, 15] (fun s_ i_ wr => ∃ (j : Nat) (sum : Int), s_ = .int .i64 sum ∧ i_ = .int .i64 j ∧ j ≤ n ∧ 0 ≤ sum ∧ sum ≤ 100 ∧ Hid (stmtsP (wSt d p) (l.drop j) sum = (r1, r2)) ∧ Hid (Hp w wr [])) (fun _ i_ _ => n - (intOf i_).toNat)
    case atStart => exact ⟨0, 0, rfl, rfl, by omega, by omega, by omega, HR, H⟩
    case round =>
      clear H HR
      obtain ⟨j, sum, rfl, rfl, hj, hs0, hs1, HR, H⟩ := hrel
      by_cases hlt : j < n
      · obtain ⟨s, hs⟩ : ∃ s, l[j]? = some s := ⟨_, List.getElem?_eq_getElem (by rw [FL.out, HN.out]; exact hlt)⟩
        obtain ⟨v, hv, hsv⟩ := R2.out.at_ hs
        obtain ⟨g, c', e1, hr⟩ := R.out.at_ Sv.len hv (by decide)
        have X := Lib.hid (hr _ (HE.out.below H.out.bel))
        injection e1 with e1 _ e3
        subst e1
        have hdr : l.drop j = s :: l.drop (j + 1) := by rw [← List.getElem_cons_drop (List.getElem?_eq_some_iff.1 hs).1, (List.getElem?_eq_some_iff.1 hs).2]
        have hstep := HR.out
        rw [hdr] at hstep
        unfold stmtsP at hstep
        have HRS := Lib.hid hsv
        have hbd := wSt_bd d p s
        obtain ⟨n1, e1, hw⟩ : ∃ n1 e1, wSt d p s = (n1, e1) := ⟨_, _, rfl⟩
        have HW := Lib.hid hw
        rw [hw] at hstep hbd
        simp only at hstep hbd
        have HSTEP := Lib.hid hstep
        clear hr hs hv hsv e3 hdr hstep hw
        obtain ⟨B2, c2, hbv⟩ := HRS.out.shape
        obtain ⟨vk, va, vb, vw, vn, vbv⟩ := v
        simp only at hbv
        subst hbv
        go_wp2_with (first
            | go_skip
            | ((with_reducible refine isLoad ?_); refine ldX (cs := [.int .i64 vk, .string va, .string vb, .bool (sgO vw), .string (nuO vw), .string (deO vw), .int .i64 vn, .slice B2 s.bl.length c2]) X ?_ (hT := rStm8))
            | ((with_reducible refine isLoad ?_); refine ldA H ?_ (hT := by first | exact rRat | exact rStm8 | exact rJob | exact rWks))
            | ((with_reducible refine isStore ?_); refine stA H ?_ (hT := rStm8); clear H; intro _ H)
            | ((with_reducible refine isAlloc ?_); refine alA H ?_ (hz := zStm8); clear H; intro q _ H))
        go_at_call 40
        refine Calls.mono (HC.out E s ⟨vk, va, vb, vw, vn, .slice B2 s.bl.length c2⟩ p _ (by omega) HRS.out (HE.out.below H.out.bel) H.out.tb) ?_
        rintro _ _ ⟨rfl, hb⟩
        replace H := Lib.hid (H.out.go hb)
        clear hb
        rw [HW.out]
        simp only
        by_cases he : e1 = 0
        · subst he
          have hst2 := HSTEP.out
          rw [if_neg (by simp)] at hst2
          by_cases hw : 100 < sum + n1
          · rw [if_pos hw] at hst2
            cases hst2
            have s1p : 100 < sum + n1 := hw
            have s1d : decide (100 < sum + n1) = true := decide_eq_true s1p
            go_wp2_with (first
                | go_skip
                | ((with_reducible refine isLoad ?_); refine ldX (cs := [.int .i64 vk, .string va, .string vb, .bool (sgO vw), .string (nuO vw), .string (deO vw), .int .i64 vn, .slice B2 s.bl.length c2]) X ?_ (hT := rStm8))
                | ((with_reducible refine isLoad ?_); refine ldA H ?_ (hT := by first | exact rRat | exact rStm8 | exact rJob | exact rWks))
                | ((with_reducible refine isStore ?_); refine stA H ?_ (hT := rStm8); clear H; intro _ H)
                | ((with_reducible refine isAlloc ?_); refine alA H ?_ (hz := zStm8); clear H; intro q _ H))
            go_ret2
            exact ⟨rfl, H.out.drop.bel⟩
          · rw [if_neg hw] at hst2
            have HR2 := Lib.hid hst2
            clear hst2
            have s1p : ¬ (100 < sum + n1) := hw
            have s1d : decide (100 < sum + n1) = false := decide_eq_false s1p
            go_wp2_with (first
                | go_skip
                | ((with_reducible refine isLoad ?_); refine ldX (cs := [.int .i64 vk, .string va, .string vb, .bool (sgO vw), .string (nuO vw), .string (deO vw), .int .i64 vn, .slice B2 s.bl.length c2]) X ?_ (hT := rStm8))
                | ((with_reducible refine isLoad ?_); refine ldA H ?_ (hT := by first | exact rRat | exact rStm8 | exact rJob | exact rWks))
                | ((with_reducible refine isStore ?_); refine stA H ?_ (hT := rStm8); clear H; intro _ H)
                | ((with_reducible refine isAlloc ?_); refine alA H ?_ (hz := zStm8); clear H; intro q _ H))
            replace H := Lib.hid H.out.drop
            go_roundw
            case rel => first | exact ⟨_, _, _, _, _, _, ⟨j + 1, _, rfl, by go_num, by omega, by omega, by omega, HR2, H⟩, rfl, rfl, rfl⟩ | exact ⟨j + 1, _, rfl, by go_num, by omega, by omega, by omega, HR2, H⟩ | (trace_state; fail)
            case measure => simp [intOf]; omega
        · have hst2 := HSTEP.out
          rw [if_pos he] at hst2
          obtain ⟨rfl, rfl⟩ : 0 = r1 ∧ e1 = r2 := by cases hst2; exact ⟨rfl, rfl⟩
          have e0p : ¬ (e1 = 0) := he
          have e0d : decide (e1 = 0) = false := decide_eq_false e0p
          go_wp2_with (first
              | go_skip
              | ((with_reducible refine isLoad ?_); refine ldX (cs := [.int .i64 vk, .string va, .string vb, .bool (sgO vw), .string (nuO vw), .string (deO vw), .int .i64 vn, .slice B2 s.bl.length c2]) X ?_ (hT := rStm8))
              | ((with_reducible refine isLoad ?_); refine ldA H ?_ (hT := by first | exact rRat | exact rStm8 | exact rJob | exact rWks))
              | ((with_reducible refine isStore ?_); refine stA H ?_ (hT := rStm8); clear H; intro _ H)
              | ((with_reducible refine isAlloc ?_); refine alA H ?_ (hz := zStm8); clear H; intro q _ H))
          go_ret2
          exact ⟨rfl, H.out.drop.bel⟩
      · have hjn : j = n := by omega
        subst hjn
        have hst2 := HR.out
        rw [List.drop_eq_nil_of_le (by rw [FL.out, HN.out]; exact Nat.le_refl _)] at hst2
        cases hst2
        go_wp2_with (first
            | go_skip
            | ((with_reducible refine isLoad ?_); refine ldX (cs := [.int .i64 vk, .string va, .string vb, .bool (sgO vw), .string (nuO vw), .string (deO vw), .int .i64 vn, .slice B2 s.bl.length c2]) X ?_ (hT := rStm8))
            | ((with_reducible refine isLoad ?_); refine ldA H ?_ (hT := by first | exact rRat | exact rStm8 | exact rJob | exact rWks))
            | ((with_reducible refine isStore ?_); refine stA H ?_ (hT := rStm8); clear H; intro _ H)
            | ((with_reducible refine isAlloc ?_); refine alA H ?_ (hz := zStm8); clear H; intro q _ H))
        go_ret2
        exact ⟨rfl, H.out.bel⟩
theorem shapeE_n {k n : Int} {a b : ByteArray} {wd : Option Rat} {nb : Nat} (h : shapeE k a b wd n nb = 0) : max n 1 ≤ 5 := by
  unfold shapeE at h
  split at h
  · cases h
  · split at h
    · cases h
    · split at h
      · cases h
      · split at h
        · cases h
        · rename_i h4
          by_cases h7 : k = 7
          · rw [if_neg (by omega), if_neg (by omega)] at h
            split at h
            · cases h
            · split at h
              · cases h
              · rename_i h5
                omega
          · have : n = 0 := by
              by_cases e : n = 0
              · exact e
              · exact absurd ⟨h7, e⟩ h4
            omega
theorem mul_bd {x m : Int} (h0 : 0 ≤ x) (h1 : x ≤ 100) (h2 : 1 ≤ m) (h3 : m ≤ 5) : 0 ≤ x * m ∧ x * m ≤ 500 := by
  constructor
  · exact Int.mul_nonneg h0 (by omega)
  · calc x * m ≤ 100 * m := Int.mul_le_mul_of_nonneg_right h1 (by omega)
      _ ≤ 500 := by omega
set_option maxHeartbeats 4000000 in
theorem stmt_of (d : Nat) (hst : StmtsC d) : StmtC (d + 1) := by
  intro E s v p w hp hR hE hT
  have HT := Lib.hid hT
  have HC := Lib.hid hst
  have HE := Lib.hid hE
  obtain ⟨hok, e1, e2, e3, e4, e5, _⟩ := id hR
  obtain ⟨B2, c2, hbv⟩ := hR.shape
  obtain ⟨bvs, hR1, hR2⟩ := hR.bl
  obtain ⟨vk, va, vb, vw, vn, vbv⟩ := v
  simp only at e1 e2 e3 e4 e5 hbv hR1
  subst hbv
  obtain ⟨⟨ok1, ok2⟩, ⟨ok3, ok4⟩, ok5, ok6, ok7⟩ := hok
  simp only at ok1 ok2 ok3 ok4 ok5 ok6 ok7
  obtain ⟨nb, hnb⟩ : ∃ nb, s.bl.length = nb := ⟨_, rfl⟩
  have hlen : bvs.length = nb := by rw [← hR2.1, hnb]
  rw [hnb]
  have hw : wSt (d + 1) p s = if vk < 1 ∨ 9 < vk then (0, 3) else if vk < 6 then (1, plainE vk va vb vw vn nb)
    else if shapeE vk va vb vw vn nb ≠ 0 then (0, shapeE vk va vb vw vn nb)
    else blocksP (fun b => wSts (wSt d (p + 1)) (p + 1) b) vn s.bl 1 := by rw [e1, e2, e3, e4, e5, ← hnb]; rfl
  have R2 := Lib.hid hR2
  have R : Hid (RowIn E 23 1 (.slice B2 nb c2) nb (flat one bvs)) := Lib.hid (by rw [hnb, hlen] at hR1; exact hR1)
  have FL := Lib.hid hnb
  have FB := Lib.hid hlen
  rw [hw]
  have OK7 := Lib.hid ok7
  have H := Lib.hid (Hp.start hT)
  clear hR hR1 hR2 hlen hnb hw e1 e2 e3 e4 e5 hst hE hT ok7
  unfold Sv.cells
  by_cases h1 : vk < 1
  · rw [if_pos (.inl h1)]
    have k1p : vk < 1 := by omega
    have k1d : decide (vk < 1) = true := decide_eq_true k1p
    go_enter Tryz.func40, Tryz.ntmps40
    go_wp2_with (first
        | go_skip
        | ((with_reducible refine isLoad ?_); refine ld1A H ?_ (hT := by first | exact kInt | exact kStr | exact kBll | exact kBool | exact kStl))
        | ((with_reducible refine isLoad ?_); refine ldA H ?_ (hT := by first | exact rRat | exact rStm8 | exact rJob | exact rWks))
        | ((with_reducible refine isBox ?_); refine bxA H ?_; clear H; intro _ _ H))
    go_ret2
    exact ⟨rfl, H.out.bel⟩
  by_cases h2 : 9 < vk
  · rw [if_pos (.inr h2)]
    have k1p : ¬ (vk < 1) := by omega
    have k1d : decide (vk < 1) = false := decide_eq_false k1p
    have k2p : 9 < vk := by omega
    have k2d : decide (9 < vk) = true := decide_eq_true k2p
    go_enter Tryz.func40, Tryz.ntmps40
    go_wp2_with (first
        | go_skip
        | ((with_reducible refine isLoad ?_); refine ld1A H ?_ (hT := by first | exact kInt | exact kStr | exact kBll | exact kBool | exact kStl))
        | ((with_reducible refine isLoad ?_); refine ldA H ?_ (hT := by first | exact rRat | exact rStm8 | exact rJob | exact rWks))
        | ((with_reducible refine isBox ?_); refine bxA H ?_; clear H; intro _ _ H))
    go_ret2
    exact ⟨rfl, H.out.bel⟩
  rw [if_neg (by omega)]
  have k1p : ¬ (vk < 1) := by omega
  have k1d : decide (vk < 1) = false := decide_eq_false k1p
  have k2p : ¬ (9 < vk) := by omega
  have k2d : decide (9 < vk) = false := decide_eq_false k2p
  by_cases h3 : vk < 6
  · rw [if_pos h3]
    have k3p : vk < 6 := by omega
    have k3d : decide (vk < 6) = true := decide_eq_true k3p
    go_enter Tryz.func40, Tryz.ntmps40
    go_wp2_with (first
        | go_skip
        | ((with_reducible refine isLoad ?_); refine ld1A H ?_ (hT := by first | exact kInt | exact kStr | exact kBll | exact kBool | exact kStl))
        | ((with_reducible refine isLoad ?_); refine ldA H ?_ (hT := by first | exact rRat | exact rStm8 | exact rJob | exact rWks))
        | ((with_reducible refine isBox ?_); refine bxA H ?_; clear H; intro _ _ H)
        | (go_at_call 57; refine Calls.mono (plain_any vk vn va vb vw B2 nb c2 _ ok5 ok6 OK7.out H.out.tb (by omega) (by omega)) ?_; rintro _ _ ⟨rfl, hb⟩; replace H := Lib.hid (H.out.go hb); clear hb))
    go_ret2
    exact ⟨rfl, H.out.bel⟩
  rw [if_neg h3]
  have k3p : ¬ (vk < 6) := by omega
  have k3d : decide (vk < 6) = false := decide_eq_false k3p
  obtain ⟨sh, hsh⟩ : ∃ sh, shapeE vk va vb vw vn nb = sh := ⟨_, rfl⟩
  have HS := Lib.hid hsh
  rw [hsh]
  by_cases h4 : sh = 0
  · subst h4
    have hmx0 := shapeE_n hsh
    rw [if_neg (by simp)]
    obtain ⟨r1, r2, hr⟩ : ∃ r1 r2, blocksP (fun b => wSts (wSt d (p + 1)) (p + 1) b) vn s.bl 1 = (r1, r2) := ⟨_, _, rfl⟩
    rw [hr]
    have HR : Hid (blocksP (fun b => wSts (wSt d (p + 1)) (p + 1) b) vn (s.bl.drop 0) 1 = (r1, r2)) := hr
    obtain ⟨mx, hmx, hmx1, hmx5⟩ : ∃ mx, max vn 1 = mx ∧ 1 ≤ mx ∧ mx ≤ 5 := ⟨_, rfl, by omega, hmx0⟩
    have HMX := Lib.hid hmx
    have hnl := R.out.le
    clear hr hsh hmx0 hmx
    go_enter Tryz.func40, Tryz.ntmps40
    go_wp2_with (first
        | go_skip
        | ((with_reducible refine isLoad ?_); refine ld1A H ?_ (hT := by first | exact kInt | exact kStr | exact kBll | exact kBool | exact kStl))
        | ((with_reducible refine isLoad ?_); refine ldA H ?_ (hT := by first | exact rRat | exact rStm8 | exact rJob | exact rWks))
        | ((with_reducible refine isBox ?_); refine bxA H ?_; clear H; intro q _ H)
        | (go_at_call 58; refine Calls.mono (shape_any vk vn va vb vw B2 nb c2 _ ok5 ok6 OK7.out H.out.tb (by omega) (by omega)) ?_; rintro _ _ ⟨rfl, hb⟩; replace H := Lib.hid (H.out.go hb); clear hb; rw [HS.out]))
    go_loopw [7, 33] (fun s_ i_ wr => ∃ (j : Nat) (sum : Int), s_ = .int .i64 sum ∧ i_ = .int .i64 j ∧ j ≤ nb ∧ 0 ≤ sum ∧ sum ≤ 100 ∧ Hid (blocksP (fun b => wSts (wSt d (p + 1)) (p + 1) b) vn (s.bl.drop j) sum = (r1, r2)) ∧ Hid (Hp w wr [(q, 86, [.int .i64 vk, .string va, .string vb, .bool (sgO vw), .string (nuO vw), .string (deO vw), .int .i64 vn, .slice B2 nb c2])])) (fun _ i_ _ => nb - (intOf i_).toNat)
    case atStart => exact ⟨0, 1, rfl, rfl, by omega, by omega, by omega, HR, H⟩
    case round =>
      clear H HR
      obtain ⟨j, sum, rfl, rfl, hj, hs0, hs1, HR, H⟩ := hrel
      by_cases hlt : j < nb
      · obtain ⟨bl, hs⟩ : ∃ bl, s.bl[j]? = some bl := ⟨_, List.getElem?_eq_getElem (by rw [FL.out]; exact hlt)⟩
        obtain ⟨bv, hv, hsv⟩ := R2.out.at_ hs
        obtain ⟨g, c', e1, hr⟩ := R.out.at_ one_len hv (by decide)
        have X := Lib.hid (rangeAt_one (hr _ (HE.out.below H.out.bel)))
        simp only [Nat.mul_one] at X
        injection e1 with e1 _ e3
        subst e1
        have hdr : s.bl.drop j = bl :: s.bl.drop (j + 1) := by rw [← List.getElem_cons_drop (List.getElem?_eq_some_iff.1 hs).1, (List.getElem?_eq_some_iff.1 hs).2]
        have hstep := HR.out
        rw [hdr] at hstep
        unfold blocksP at hstep
        have HRS : Hid (RSs E d bl bv) := hsv
        have hbd := wSts_bd (wSt_bd d (p + 1)) (p + 1) bl
        obtain ⟨n1, e1, hw⟩ : ∃ n1 e1, wSts (wSt d (p + 1)) (p + 1) bl = (n1, e1) := ⟨_, _, rfl⟩
        have HW := Lib.hid hw
        simp only [hw] at hstep
        rw [hw] at hbd
        rw [HMX.out] at hstep
        simp only at hbd
        obtain ⟨m0, m5⟩ := mul_bd hbd.1 hbd.2 hmx1 hmx5
        obtain ⟨pr, hpr⟩ : ∃ pr, n1 * mx = pr := ⟨_, rfl⟩
        rw [hpr] at hstep m0 m5
        have HPR : IntKind.i64.wrap (n1 * mx) = pr := by rw [hpr]; exact IntWalk.i64_in _ (by omega)
        have hmx : max vn 1 = mx := HMX.out
        have HSTEP := Lib.hid hstep
        clear hr hs hv hsv e3 hdr hstep hw hpr
        go_wp2_with (first
            | go_skip
            | ((with_reducible refine isLoad ?_); refine ld1X X ?_ (hT := kStl))
            | ((with_reducible refine isLoad ?_); refine ld1A H ?_ (hT := by first | exact kInt | exact kStr | exact kBll | exact kBool | exact kStl)))
        go_at_call 27
        refine Calls.mono (HC.out E bl bv (p + 1) _ (by omega) HRS.out (HE.out.below H.out.bel) H.out.tb) ?_
        rintro _ _ ⟨rfl, hb⟩
        replace H := Lib.hid (H.out.go hb)
        clear hb
        rw [HW.out]
        simp only
        by_cases he : e1 = 0
        · subst he
          have hst2 := HSTEP.out
          rw [if_neg (by simp)] at hst2
          by_cases hw : 100 < sum + pr
          · rw [if_pos hw] at hst2
            cases hst2
            have s1p : 100 < sum + pr := hw
            have s1d : decide (100 < sum + pr) = true := decide_eq_true s1p
            go_wp2_with (first
                | go_skip
                | ((with_reducible refine isLoad ?_); refine ld1X X ?_ (hT := kStl))
                | ((with_reducible refine isLoad ?_); refine ld1A H ?_ (hT := by first | exact kInt | exact kStr | exact kBll | exact kBool | exact kStl)))
            go_ret2
            exact ⟨rfl, H.out.bel⟩
          · rw [if_neg hw] at hst2
            have HR2 := Lib.hid hst2
            clear hst2
            have s1p : ¬ (100 < sum + pr) := hw
            have s1d : decide (100 < sum + pr) = false := decide_eq_false s1p
            go_wp2_with (first
                | go_skip
                | ((with_reducible refine isLoad ?_); refine ld1X X ?_ (hT := kStl))
                | ((with_reducible refine isLoad ?_); refine ld1A H ?_ (hT := by first | exact kInt | exact kStr | exact kBll | exact kBool | exact kStl)))
            go_roundw
            case rel => first | exact ⟨_, _, _, _, _, _, ⟨j + 1, _, rfl, by go_num, by omega, by omega, by omega, HR2, H⟩, rfl, rfl, rfl⟩ | exact ⟨j + 1, _, rfl, by go_num, by omega, by omega, by omega, HR2, H⟩ | (trace_state; fail)
            case measure => simp [intOf]; omega
        · have hst2 := HSTEP.out
          rw [if_pos he] at hst2
          obtain ⟨rfl, rfl⟩ : 0 = r1 ∧ e1 = r2 := by cases hst2; exact ⟨rfl, rfl⟩
          have e0p : ¬ (e1 = 0) := he
          have e0d : decide (e1 = 0) = false := decide_eq_false e0p
          go_wp2_with (first
              | go_skip
              | ((with_reducible refine isLoad ?_); refine ld1X X ?_ (hT := kStl))
              | ((with_reducible refine isLoad ?_); refine ld1A H ?_ (hT := by first | exact kInt | exact kStr | exact kBll | exact kBool | exact kStl)))
          go_ret2
          exact ⟨rfl, H.out.bel⟩
      · have hjn : j = nb := by omega
        subst hjn
        have hst2 := HR.out
        rw [List.drop_eq_nil_of_le (by rw [FL.out]; exact Nat.le_refl _)] at hst2
        cases hst2
        go_wp2_with (first
            | go_skip
            | ((with_reducible refine isLoad ?_); refine ld1X X ?_ (hT := kStl))
            | ((with_reducible refine isLoad ?_); refine ld1A H ?_ (hT := by first | exact kInt | exact kStr | exact kBll | exact kBool | exact kStl)))
        go_ret2
        exact ⟨rfl, H.out.bel⟩
  · rw [if_pos h4]
    have s0p : ¬ (sh = 0) := h4
    have s0d : decide (sh = 0) = false := decide_eq_false s0p
    clear hsh
    go_enter Tryz.func40, Tryz.ntmps40
    go_wp2_with (first
        | go_skip
        | ((with_reducible refine isLoad ?_); refine ld1A H ?_ (hT := by first | exact kInt | exact kStr | exact kBll | exact kBool | exact kStl))
        | ((with_reducible refine isLoad ?_); refine ldA H ?_ (hT := by first | exact rRat | exact rStm8 | exact rJob | exact rWks))
        | ((with_reducible refine isBox ?_); refine bxA H ?_; clear H; intro _ _ H)
        | (go_at_call 58; refine Calls.mono (shape_any vk vn va vb vw B2 nb c2 _ ok5 ok6 OK7.out H.out.tb (by omega) (by omega)) ?_; rintro _ _ ⟨rfl, hb⟩; replace H := Lib.hid (H.out.go hb); clear hb; rw [HS.out]))
    go_ret2
    exact ⟨rfl, H.out.bel⟩
theorem stmt_all : ∀ d, StmtC d ∧ StmtsC d
  | 0 => ⟨fun E s v p w hp hR => hR.elim, stmts_of 0 fun E s v p w hp hR => hR.elim⟩
  | d + 1 => ⟨stmt_of d (stmt_all d).2, stmts_of (d + 1) (stmt_of d (stmt_all d).2)⟩
end Go.Proofs.YtaiokjhjakdhaaaGreatDoor

namespace Go.Proofs.YtaiokjhjakdhaaaGreatDoor
open Go.RowKit
set_option linter.unusedVariables false
set_option maxRecDepth 100000

def checkE (d : Nat) (nm : ByteArray) (l : List Stm) : Int := if nameB nm = true then (wSts (wSt d 1) 1 l).2 else 3
theorem RSs.shape {E : Ents} {d : Nat} {l : List Stm} {x : Value} (h : RSs E d l x) : ∃ B c, x = .slice B l.length c := by
  obtain ⟨svs, h1, h2⟩ := h
  obtain ⟨B, c, h3, _⟩ := h1.shape
  exact ⟨B, c, by rw [h3, h2.1]⟩
set_option maxHeartbeats 4000000 in
theorem Check_any (d : Nat) (E : Ents) (nm : ByteArray) (l : List Stm) (x : Value) (w : World) (hn : nm.size ≤ maxLen) (R : Hid (RSs E d l x)) (HE : Hid (Hld E w)) (hT : Tb w) :
    Calls Tryz.prog 14 #[.agg #[.string nm, x]] w fun e w' => e = .returned (.int .i64 (checkE d nm l)) ∧ Below w.heap.size w w' := by
  have H := Lib.hid (Hp.start hT)
  obtain ⟨B, c, rfl⟩ := R.out.shape
  cases hnm : nameB nm with
  | false =>
    rw [show checkE d nm l = 3 by simp [checkE, hnm]]
    go_enter Tryz.func14, Tryz.ntmps14
    go_wp2_with (first
        | go_skip
        | ((with_reducible refine isLoad ?_); refine ld1A H ?_ (hT := by first | exact kInt | exact kStr | exact kBll | exact kBool | exact kStl))
        | ((with_reducible refine isLoad ?_); refine ldA H ?_ (hT := by first | exact rRat | exact rStm8 | exact rJob | exact rWks))
        | ((with_reducible refine isBox ?_); refine bxA H ?_; clear H; intro _ _ H)
        | (go_at_call 26; refine (Name_any _ _ (by assumption) H.out.tb).mono ?_; rintro _ _ ⟨rfl, hb⟩; replace H := Lib.hid (H.out.go hb); clear hb)
        | (go_at_call 27; refine Calls.mono ((stmt_all d).2 E l _ 1 _ (by decide) R.out (HE.out.below H.out.bel) H.out.tb) ?_; rintro _ _ ⟨rfl, hb⟩; replace H := Lib.hid (H.out.go hb); clear hb))
    go_ret
    exact ⟨rfl, H.out.bel⟩
  | true =>
    rw [show checkE d nm l = (wSts (wSt d 1) 1 l).2 by simp [checkE, hnm]]
    go_enter Tryz.func14, Tryz.ntmps14
    go_wp2_with (first
        | go_skip
        | ((with_reducible refine isLoad ?_); refine ld1A H ?_ (hT := by first | exact kInt | exact kStr | exact kBll | exact kBool | exact kStl))
        | ((with_reducible refine isLoad ?_); refine ldA H ?_ (hT := by first | exact rRat | exact rStm8 | exact rJob | exact rWks))
        | ((with_reducible refine isBox ?_); refine bxA H ?_; clear H; intro _ _ H)
        | (go_at_call 26; refine (Name_any _ _ (by assumption) H.out.tb).mono ?_; rintro _ _ ⟨rfl, hb⟩; replace H := Lib.hid (H.out.go hb); clear hb)
        | (go_at_call 27; refine Calls.mono ((stmt_all d).2 E l _ 1 _ (by decide) R.out (HE.out.below H.out.bel) H.out.tb) ?_; rintro _ _ ⟨rfl, hb⟩; replace H := Lib.hid (H.out.go hb); clear hb))
    go_ret
    exact ⟨rfl, H.out.bel⟩
/-- A slot: its name and its tolerance. -/
structure Slt where
  nm : ByteArray
  wd : Option Rat
def Slt.cells (x : Slt) : List Value := [.string x.nm, .bool false, .string ⟨#[]⟩, .string ⟨#[]⟩, .bool false, .string ⟨#[]⟩, .string ⟨#[]⟩, .bool false, .bool false, .string ⟨#[]⟩, .string ⟨#[]⟩, .bool (sgO x.wd), .string (nuO x.wd), .string (deO x.wd)]
theorem Slt.len (x : Slt) : x.cells.length = 14 := rfl
/-- A works of arms, parts and slots, without walls or gates. -/
def WkV (E : Ents) (an pn : List ByteArray) (sl : List Slt) (cs : List Value) : Prop := ∃ av pv sv, cs = [av, .slice none 0 0, pv, sv, .slice none 0 0, .bool false, .string ⟨#[]⟩, .string ⟨#[]⟩] ∧
  RowIn E 60 12 av an.length (flat armC an) ∧ RowIn E 63 12 pv pn.length (flat partC pn) ∧ RowIn E 66 14 sv sl.length (flat Slt.cells sl)
/-- Where a text first stands among others. -/
def idxB (s : ByteArray) (ws : List ByteArray) : Option Nat := ws.findIdx? fun x => x.toList == s.toList
/-- types.Find -/
def findP (an pn sn : List ByteArray) (s : ByteArray) : Int × Int :=
  match idxB s an with
  | some i => (1, i)
  | none => match idxB s pn with
    | some i => (2, i)
    | none => match idxB s sn with
      | some i => (3, i)
      | none => (0, -1)
/-- types.kinds -/
def kindsP (k : Int) : Int × Int := if k = 1 then (2, 3) else if k = 2 then (2, 1) else if k = 3 then (1, 0) else if k = 4 then (2, 0) else (0, 0)
/-- types.index -/
def indexP (an pn sn : List ByteArray) (kind : Int) (s : ByteArray) : Int × Int :=
  if kind = 0 then (-1, 0) else if (findP an pn sn s).1 = 0 then (0, 16) else if (findP an pn sn s).1 ≠ kind then (0, 8) else ((findP an pn sn s).2, 0)
end Go.Proofs.YtaiokjhjakdhaaaGreatDoor

namespace Go.Proofs.YtaiokjhjakdhaaaGreatDoor
open Go.RowKit
set_option linter.unusedVariables false
set_option maxRecDepth 100000

/-- A goal. -/
structure Gl where
  k : Int
  a : Int
  b : Int
  n : Int
/-- Wider than the slot's tolerance. -/
def wideB (sl : List Slt) (wd : Option Rat) (i : Int) : Bool := match wd with
  | none => false
  | some q => match sl[i.toNat]? with
    | some s => decide (0 < cmpQ q (valO s.wd))
    | none => false
/-- types.Bind -/
def bindP (an pn : List ByteArray) (sl : List Slt) (k : Int) (a b : ByteArray) (wd : Option Rat) (n : Int) (nb : Nat) : Gl × Int :=
  if k < 1 ∨ 5 < k then (⟨0, 0, 0, 0⟩, 3) else if plainE k a b wd n nb ≠ 0 then (⟨0, 0, 0, 0⟩, 3)
  else if (indexP an pn (sl.map (·.nm)) (kindsP k).1 a).2 ≠ 0 then (⟨0, 0, 0, 0⟩, (indexP an pn (sl.map (·.nm)) (kindsP k).1 a).2)
  else if (indexP an pn (sl.map (·.nm)) (kindsP k).2 b).2 ≠ 0 then (⟨0, 0, 0, 0⟩, (indexP an pn (sl.map (·.nm)) (kindsP k).2 b).2)
  else if wideB sl wd (indexP an pn (sl.map (·.nm)) (kindsP k).2 b).1 = true then (⟨0, 0, 0, 0⟩, 18)
  else (⟨k, (indexP an pn (sl.map (·.nm)) (kindsP k).1 a).1, (indexP an pn (sl.map (·.nm)) (kindsP k).2 b).1, n⟩, 0)
end Go.Proofs.YtaiokjhjakdhaaaGreatDoor

namespace Go.Proofs.YtaiokjhjakdhaaaGreatDoor
open Go.RowKit
set_option linter.unusedVariables false
set_option maxRecDepth 100000

theorem row_in {w : World} {h : Nat} {e : TypeId} {size n : Nat} {v : Value} {xs : List Value} (hr : w.ownsRow h e size v n xs) : ∃ E : Ents, RowIn E e size v n xs ∧ (∀ x ∈ E, h ≤ x.1 ∧ Blk w x.1 x.2.1 x.2.2.toArray ∧ x.2.1 = e) ∧ (E.map (·.1)).Nodup := by
  obtain ⟨hl, hv⟩ := hr
  rcases hv with ⟨rfl, rfl⟩ | ⟨g, cap, cur, rfl, hb, hg, h1, h2, h3, h4⟩
  · exact ⟨[], ⟨[], ⟨hl, .inl ⟨rfl, rfl⟩⟩, by simp [rowE]⟩, by simp, List.Pairwise.nil⟩
  · exact ⟨[(g, e, cur.toList)], ⟨cur.toList, ⟨hl, .inr ⟨g, cap, rfl, h1, h2, by simpa using h3, h4⟩⟩, by simp [rowE]⟩, by
      intro x hx
      obtain rfl := List.mem_singleton.1 hx
      exact ⟨hb, by simpa [Blk] using hg, rfl⟩, by simp⟩
theorem flat_map {α β : Type} {enc : β → List Value} {enc' : α → List Value} {f : α → β} (h : ∀ x, enc (f x) = enc' x) (l : List α) : flat enc (l.map f) = flat enc' l := by
  induction l with
  | nil => rfl
  | cons x l ih => simp only [flat, List.map_cons, List.flatMap_cons, h] at ih ⊢; rw [ih]
/-- The tolerance of the slots of Small. -/
def quart : Rat := ofQ 1 4
def sltOf (x : ByteArray) : Slt := ⟨x, some quart⟩
theorem sltOf_cells (x : ByteArray) : (sltOf x).cells = slotC x := by
  unfold sltOf Slt.cells slotC quart
  rw [ratOf_q 1 4 (by decide)]
  rfl
theorem Small_E (A : Option Addr) (n c : Nat) (xs : List Int) (w : World) (hi : IntArg w A n c xs) (hT : Tb w) :
    Calls Tryz.prog 6 #[.slice A n c] w fun e w' => ∃ (na np ns : Nat) (cs : List Value) (E : Ents), e = .returned (.agg cs.toArray) ∧ (1 ≤ na ∧ na ≤ 2) ∧ (1 ≤ np ∧ np ≤ 2) ∧ (1 ≤ ns ∧ ns ≤ 2) ∧ Hp w w' E ∧ WkV E (armN.take na) (partN.take np) ((slotN.take ns).map sltOf) cs := by
  refine (Small_any A n c xs w hi).mono ?_
  rintro e w' ⟨na, np, ns, B1, B2, B3, c1, c2, c3, rfl, h1, h2, h3, hO, hb⟩
  obtain ⟨E1, r1, b1, n1⟩ := row_in hO.oa
  obtain ⟨E2, r2, b2, n2⟩ := row_in hO.op
  obtain ⟨E3, r3, b3, n3⟩ := row_in hO.os
  have la : (armN.take na).length = na := by simp [armN]; omega
  have lp : (partN.take np).length = np := by simp [partN]; omega
  have ls : ((slotN.take ns).map sltOf).length = ns := by simp [slotN]; omega
  have dj : ∀ {F G : Ents} {e f : TypeId}, (∀ x ∈ F, w.heap.size ≤ x.1 ∧ Blk w' x.1 x.2.1 x.2.2.toArray ∧ x.2.1 = e) → (∀ x ∈ G, w.heap.size ≤ x.1 ∧ Blk w' x.1 x.2.1 x.2.2.toArray ∧ x.2.1 = f) → e ≠ f → ∀ a ∈ F.map (·.1), ∀ b ∈ G.map (·.1), a ≠ b := by
    intro F G e f hF hG hne a ha b hb' hab
    obtain ⟨x, hx, rfl⟩ := List.mem_map.1 ha
    obtain ⟨y, hy, rfl⟩ := List.mem_map.1 hb'
    obtain ⟨_, k1, rfl⟩ := hF x hx
    obtain ⟨_, k2, rfl⟩ := hG y hy
    unfold Blk at k1 k2
    rw [hab, k2] at k1
    injection k1 with k1
    injection k1 with _ k1
    exact hne k1.symm
  refine ⟨na, np, ns, [.slice B1 na c1, .slice none 0 0, .slice B2 np c2, .slice B3 ns c3, .slice none 0 0, .bool false, .string ⟨#[]⟩, .string ⟨#[]⟩], E1 ++ (E2 ++ E3), rfl, h1, h2, h3, ⟨fun x hx => ?_, ?_, hb, hT⟩, _, _, _, rfl, ?_, ?_, ?_⟩
  · rcases List.mem_append.1 hx with hx | hx
    · exact ⟨(b1 x hx).1, (b1 x hx).2.1⟩
    · rcases List.mem_append.1 hx with hx | hx
      · exact ⟨(b2 x hx).1, (b2 x hx).2.1⟩
      · exact ⟨(b3 x hx).1, (b3 x hx).2.1⟩
  · rw [List.map_append, List.map_append, List.nodup_append]
    refine ⟨n1, List.nodup_append.2 ⟨n2, n3, dj b2 b3 (by decide)⟩, fun a ha b hb' => ?_⟩
    rcases List.mem_append.1 hb' with hb' | hb'
    · exact dj b1 b2 (by decide) a ha b hb'
    · exact dj b1 b3 (by decide) a ha b hb'
  · rw [la]; exact r1.mono fun x hx => List.mem_append_left _ hx
  · rw [lp]; exact r2.mono fun x hx => List.mem_append_right _ (List.mem_append_left _ hx)
  · rw [ls, flat_map sltOf_cells]; exact r3.mono fun x hx => List.mem_append_right _ (List.mem_append_right _ hx)
end Go.Proofs.YtaiokjhjakdhaaaGreatDoor

namespace Go.Proofs.YtaiokjhjakdhaaaGreatDoor
open Go.RowKit
set_option linter.unusedVariables false
set_option maxRecDepth 100000

/-- The statement s, of at most d blocks within each other, is one of the maker's. -/
def VSt (na np ns : Nat) : Nat → Stm → Prop
  | 0, _ => False
  | d + 1, s =>
    (s.k = 1 ∧ s.a ∈ partN.take np ∧ s.b ∈ slotN.take ns ∧ (s.wd = none ∨ ∃ q : Nat, 4 ≤ q ∧ q ≤ 8 ∧ s.wd = some (ofQ 1 q)) ∧ s.n = 0 ∧ s.bl = []) ∨
    (s.k = 2 ∧ s.a ∈ partN.take np ∧ s.b ∈ armN.take na ∧ s.wd = none ∧ s.n = 0 ∧ s.bl = []) ∨
    (s.k = 3 ∧ s.a ∈ armN.take na ∧ s.b = ⟨#[]⟩ ∧ s.wd = none ∧ s.n = 0 ∧ s.bl = []) ∨
    (s.k = 4 ∧ s.a ∈ partN.take np ∧ s.b = ⟨#[]⟩ ∧ s.wd = none ∧ s.n = 0 ∧ s.bl = []) ∨
    (s.k = 5 ∧ s.a = ⟨#[]⟩ ∧ s.b = ⟨#[]⟩ ∧ s.wd = none ∧ (1 ≤ s.n ∧ s.n ≤ 3) ∧ s.bl = []) ∨
    (s.a = ⟨#[]⟩ ∧ s.b = ⟨#[]⟩ ∧ s.wd = none ∧ (∀ b ∈ s.bl, (1 ≤ b.length ∧ b.length ≤ 2) ∧ ∀ x ∈ b, VSt na np ns d x) ∧
      ((s.k = 6 ∧ s.n = 0 ∧ s.bl.length = 1) ∨ (s.k = 7 ∧ (1 ≤ s.n ∧ s.n ≤ 2) ∧ s.bl.length = 1) ∨ (s.k = 8 ∧ s.n = 0 ∧ s.bl.length = 2) ∨ (s.k = 9 ∧ s.n = 0 ∧ s.bl.length = 2)))
def VSs (na np ns d : Nat) (l : List Stm) : Prop := (1 ≤ l.length ∧ l.length ≤ 2) ∧ ∀ x ∈ l, VSt na np ns d x
/-- The contract of gantkeep4.stmt. -/
def StmJ (na np ns p d : Nat) : Prop := ∀ (w0 w : World) (m E0 : Ents) (b : Nat) (S : Sd) (cs : List Value), Hid (Hp w0 w ((b, 49, [S.v]) :: m)) → Hid (S.ok w0) → Hid (WkV E0 (armN.take na) (partN.take np) ((slotN.take ns).map sltOf) cs) → Hid (∀ x ∈ E0, x ∈ m) →
  Calls Tryz.prog 23 #[.agg cs.toArray, .pointer (some ⟨b, 0, none⟩), .int .i64 p] w fun e w' => ∃ (v : Sv) (s : Stm) (S' : Sd) (E : Ents), e = .returned (.agg v.cells.toArray) ∧ S'.ok w0 ∧ Hp w0 w' ((b, 49, [S'.v]) :: (E ++ m)) ∧ RSt E d s v ∧ VSt na np ns d s
/-- The contract of gantkeep4.stmts. -/
def StsJ (na np ns p d : Nat) : Prop := ∀ (w0 w : World) (m E0 : Ents) (b : Nat) (S : Sd) (cs : List Value), Hid (Hp w0 w ((b, 49, [S.v]) :: m)) → Hid (S.ok w0) → Hid (WkV E0 (armN.take na) (partN.take np) ((slotN.take ns).map sltOf) cs) → Hid (∀ x ∈ E0, x ∈ m) →
  Calls Tryz.prog 11 #[.agg cs.toArray, .pointer (some ⟨b, 0, none⟩), .int .i64 p] w fun e w' => ∃ (x : Value) (l : List Stm) (S' : Sd) (E : Ents), e = .returned x ∧ S'.ok w0 ∧ Hp w0 w' ((b, 49, [S'.v]) :: (E ++ m)) ∧ RSs E d l x ∧ VSs na np ns d l
theorem empty_sz : (⟨#[]⟩ : ByteArray).size ≤ maxLen := by decide
theorem pn_sz {np : Nat} {x : ByteArray} (h : x ∈ partN.take np) : x.size ≤ maxLen := by
  have := List.mem_of_mem_take h
  simp only [partN, List.mem_cons, List.not_mem_nil, or_false] at this
  rcases this with rfl | rfl <;> decide
theorem sn_sz {ns : Nat} {x : ByteArray} (h : x ∈ slotN.take ns) : x.size ≤ maxLen := by
  have := List.mem_of_mem_take h
  simp only [slotN, List.mem_cons, List.not_mem_nil, or_false] at this
  rcases this with rfl | rfl <;> decide
theorem an_sz {na : Nat} {x : ByteArray} (h : x ∈ armN.take na) : x.size ≤ maxLen := by
  have := List.mem_of_mem_take h
  simp only [armN, List.mem_cons, List.not_mem_nil, or_false] at this
  rcases this with rfl | rfl <;> decide
/-- A statement without blocks. -/
theorem RSt.leaf (d : Nat) {k n : Int} {a b : ByteArray} {wd : Option Rat} (h : Sv.ok ⟨k, a, b, wd, n, .slice none 0 0⟩) : RSt [] (d + 1) (.mk k a b wd n []) ⟨k, a, b, wd, n, .slice none 0 0⟩ :=
  ⟨h, rfl, rfl, rfl, rfl, rfl, [], RowIn.nil _ _ _, All2.nil⟩

theorem ofq_sm (q : Nat) (h1 : 4 ≤ q) (h2 : q ≤ 8) : SmO (some (ofQ 1 q)) := (ofQ_sz 1 q 1 (by decide) (by omega) (by omega)).sm (by decide)
theorem small_i {x : Int} (h : 0 ≤ x ∧ x ≤ 9) : -9223372036854775808 ≤ x ∧ x ≤ 9223372036854775807 := by omega
theorem rangeAt_cell {w : World} {b q : Nat} {v : Value} {cs : List Value} (h : w.rangeAt b q (v :: cs)) : w.cell? ⟨b, q, none⟩ = some v := h 0 v rfl
theorem RowIn.blk0 {E : Ents} {e : TypeId} {size n c : Nat} {B : Option Addr} {xs : List Value} (h : RowIn E e size (.slice B n c) n xs) (h0 : 0 < n) : ∃ g, B = some ⟨g, 0, none⟩ := by
  obtain ⟨cur, h1, _⟩ := h
  rcases h1.or_ with ⟨_, rfl⟩ | ⟨g, cap, h2, _⟩
  · omega
  · injection h2 with h2
    exact ⟨g, h2⟩
theorem Upd.app (E : Ents) {l l' : Ents} {b : Nat} {T : TypeId} {cs ds : List Value} (h : Upd l b T cs ds l') : Upd (E ++ l) b T cs ds (E ++ l') := by
  induction E with
  | nil => exact h
  | cons x E ih => exact .tail ih
theorem fin2 {w0 w : World} {s g : Nat × TypeId × List Value} {E1 E2 m X : Ents} (h : Hp w0 w (g :: s :: (E2 ++ (E1 ++ X)))) (hm : m.Sublist X) : Hp w0 w (s :: ((g :: (E2 ++ E1)) ++ m)) := by
  have h2 := h.perm (List.Perm.swap _ _ _)
  refine h2.sub (List.Sublist.cons_cons _ (List.Sublist.cons_cons _ ?_))
  show ((E2 ++ E1) ++ m).Sublist _
  rw [List.append_assoc]
  exact (List.Sublist.refl _).append ((List.Sublist.refl _).append hm)
theorem fin1 {w0 w : World} {s g : Nat × TypeId × List Value} {E1 m X : Ents} (h : Hp w0 w (g :: s :: (E1 ++ X))) (hm : m.Sublist X) : Hp w0 w (s :: ((g :: E1) ++ m)) :=
  (h.perm (List.Perm.swap _ _ _)).sub (List.Sublist.cons_cons _ (List.Sublist.cons_cons _ ((List.Sublist.refl _).append hm)))
theorem RSt.two {E : Ents} {d gz : Nat} {k n : Int} {x1 x2 : Value} {l1 l2 : List Stm} (hg : (gz, 23, [x1, x2]) ∈ E) (h1 : RSs E d l1 x1) (h2 : RSs E d l2 x2) (hk : 0 ≤ k ∧ k ≤ 9) (hn : 0 ≤ n ∧ n ≤ 9) :
    RSt E (d + 1) (.mk k ⟨#[]⟩ ⟨#[]⟩ none n [l1, l2]) ⟨k, ⟨#[]⟩, ⟨#[]⟩, none, n, .slice (some ⟨gz, 0, none⟩) 2 2⟩ :=
  ⟨⟨small_i hk, small_i hn, empty_sz, empty_sz, SmO.none⟩, rfl, rfl, rfl, rfl, rfl, [x1, x2], (RowIn.lit (xs := [x1, x2]) rfl (by decide)).mono (fun x hx => by obtain rfl := List.mem_singleton.1 hx; exact hg), All2.cons h1 (All2.cons h2 All2.nil)⟩
theorem RSt.one_ {E : Ents} {d gz : Nat} {k n : Int} {x1 : Value} {l1 : List Stm} (hg : (gz, 23, [x1]) ∈ E) (h1 : RSs E d l1 x1) (hk : 0 ≤ k ∧ k ≤ 9) (hn : 0 ≤ n ∧ n ≤ 9) :
    RSt E (d + 1) (.mk k ⟨#[]⟩ ⟨#[]⟩ none n [l1]) ⟨k, ⟨#[]⟩, ⟨#[]⟩, none, n, .slice (some ⟨gz, 0, none⟩) 1 1⟩ :=
  ⟨⟨small_i hk, small_i hn, empty_sz, empty_sz, SmO.none⟩, rfl, rfl, rfl, rfl, rfl, [x1], (RowIn.lit (xs := [x1]) rfl (by decide)).mono (fun x hx => by obtain rfl := List.mem_singleton.1 hx; exact hg), All2.cons h1 All2.nil⟩
theorem two_mem {α : Type} {P : α → Prop} {a b : α} (h1 : P a) (h2 : P b) : ∀ x ∈ [a, b], P x := fun x hx => by
  rcases List.mem_cons.1 hx with rfl | hx
  · exact h1
  · obtain rfl := List.mem_singleton.1 hx
    exact h2
theorem one_mem {α : Type} {P : α → Prop} {a : α} (h1 : P a) : ∀ x ∈ [a], P x := fun x hx => by obtain rfl := List.mem_singleton.1 hx; exact h1
end Go.Proofs.YtaiokjhjakdhaaaGreatDoor

namespace Go.Proofs.YtaiokjhjakdhaaaGreatDoor
open Go.RowKit
set_option linter.unusedVariables false
set_option maxRecDepth 100000

set_option maxHeartbeats 4000000 in
theorem stmtJ_leaf (na np ns d : Nat) (hna : 1 ≤ na ∧ na ≤ 2) (hnp : 1 ≤ np ∧ np ≤ 2) (hns : 1 ≤ ns ∧ ns ≤ 2) : StmJ na np ns 3 (d + 1) := by
  obtain ⟨hna1, hna2⟩ := hna
  obtain ⟨hnp1, hnp2⟩ := hnp
  obtain ⟨hns1, hns2⟩ := hns
  intro w0 w m E0 b S cs H HS WV HE
  obtain ⟨av, pv, sv, rfl, RA, RP, RS⟩ := WV.out
  have la : (armN.take na).length = na := by simp [armN]; omega
  have lp : (partN.take np).length = np := by simp [partN]; omega
  have ls : ((slotN.take ns).map sltOf).length = ns := by simp [slotN]; omega
  rw [la] at RA
  rw [lp] at RP
  rw [ls] at RS
  obtain ⟨Ba, ca, rfl, _⟩ := RA.shape
  obtain ⟨Bp, cp, rfl, _⟩ := RP.shape
  obtain ⟨Bs, cc, rfl, _⟩ := RS.shape
  obtain ⟨ga, rfl⟩ := RA.blk0 (by omega)
  obtain ⟨gp, rfl⟩ := RP.blk0 (by omega)
  obtain ⟨gs, rfl⟩ := RS.blk0 (by omega)
  replace RA := Lib.hid RA
  replace RP := Lib.hid RP
  replace RS := Lib.hid RS
  have LA := Lib.hid la
  have LP := Lib.hid lp
  have LS := Lib.hid ls
  clear la lp ls
  obtain ⟨iP, hxP⟩ : ∃ i : Nat, S.nx np = i := ⟨(S.nx np).toNat, by have := S.nx_bd np (by omega); omega⟩
  have hiP : iP < np := by have := S.nx_bd np (by omega); omega
  have HXP := Lib.hid hxP
  obtain ⟨nmP, hnmP⟩ : ∃ x, (partN.take np)[iP]? = some x := ⟨_, List.getElem?_eq_getElem (by rw [LP.out]; exact hiP)⟩
  obtain ⟨gP, cP, egP, hrP⟩ := RP.out.at_ partC_len hnmP (by decide)
  injection egP with egP _ ecP
  injection egP with egP
  injection egP with egP
  subst egP
  have HRP : Hid (∀ W, Hld E0 W → W.cell? ⟨gp, iP * 12, none⟩ = some (.string nmP)) := Lib.hid fun W hW => rangeAt_cell (hrP W hW)
  have HNP : Hid (nmP ∈ partN.take np) := Lib.hid (by exact List.mem_of_getElem? hnmP)
  clear hrP hnmP hxP ecP
  go_enter Tryz.func23, Tryz.ntmps23
  go_wp2_with (first
      | go_skip
      | ((with_reducible refine isBox ?_); refine bxA H ?_; clear H; intro q _ H)
      | ((with_reducible refine isAlloc ?_); refine alA H ?_ (hz := zStm8); clear H; intro q6 _ H))
  refine wp_region_Y 10 [.c (.pointer (some ⟨q, 2, none⟩)), .c (.slice (some ⟨gp, 0, none⟩) np cp), .c (.pointer (some ⟨b, 0, none⟩)), .c (.pointer (some ⟨q, 2, none⟩)), .c (.slice (some ⟨gp, 0, none⟩) np cp), .c (.int .i64 np), .y, .c (.pointer (some ⟨gp, iP * 12, none⟩)), .c (.pointer (some ⟨gp, iP * 12, none⟩)), .c (.string nmP)] ((q6, 86, [.int .i64 0, .string ⟨#[]⟩, .string ⟨#[]⟩, .bool false, .string ⟨#[]⟩, .string ⟨#[]⟩, .int .i64 0, .slice none 0 0]) :: (q, 35, [.slice (some ⟨ga, 0, none⟩) na ca, .slice none 0 0, .slice (some ⟨gp, 0, none⟩) np cp, .slice (some ⟨gs, 0, none⟩) ns cc, .slice none 0 0, .bool false, .string ⟨#[]⟩, .string ⟨#[]⟩]) :: m) H (by (repeat (first | exact List.Sublist.refl _ | exact List.sublist_append_right _ _ | refine List.Sublist.cons_cons _ ?_ | refine List.Sublist.cons _ ?_))) (by kernel_rfl) (by kernel_rfl) (by kernel_rfl) ?_
  simp only [List.take_succ_cons, List.take_zero, List.drop_succ_cons, List.drop_zero]
  refine wpY_c (by rfl) (by (first | exact wanted_none rfl | exact wanted_some rfl rfl)) (by intro W _; first | (go_simp; rfl) | (go_simp; done) | (trace_state; fail)) ?_
  (simp only [Act.put, List.setIfInBounds_toArray, List.set_cons_succ, List.set_cons_zero])
  refine wpY_load1 (by rfl) (by rfl) (by (first | exact wanted_none rfl | exact wanted_some rfl rfl)) (by first | exact kPrl | exact kSll | exact kArl | exact kStr | exact kInt) (by rfl) (by (repeat (first | exact List.Mem.head _ | refine List.Mem.tail _ ?_ | assumption))) (by rfl) ?_
  (simp only [Act.put, List.setIfInBounds_toArray, List.set_cons_succ, List.set_cons_zero])
  refine wpY_c (by rfl) (by (first | exact wanted_none rfl | exact wanted_some rfl rfl)) (by intro W _; first | (go_simp; rfl) | (go_simp; done) | (trace_state; fail)) ?_
  (simp only [Act.put, List.setIfInBounds_toArray, List.set_cons_succ, List.set_cons_zero])
  refine wpY_c (by rfl) (by (first | exact wanted_none rfl | exact wanted_some rfl rfl)) (by intro W _; first | (go_simp; rfl) | (go_simp; done) | (trace_state; fail)) ?_
  (simp only [Act.put, List.setIfInBounds_toArray, List.set_cons_succ, List.set_cons_zero])
  refine wpY_load1 (by rfl) (by rfl) (by (first | exact wanted_none rfl | exact wanted_some rfl rfl)) (by first | exact kPrl | exact kSll | exact kArl | exact kStr | exact kInt) (by rfl) (by (repeat (first | exact List.Mem.head _ | refine List.Mem.tail _ ?_ | assumption))) (by rfl) ?_
  (simp only [Act.put, List.setIfInBounds_toArray, List.set_cons_succ, List.set_cons_zero])
  refine wpY_c (by rfl) (by (first | exact wanted_none rfl | exact wanted_some rfl rfl)) (by intro W _; first | (go_simp; rfl) | (go_simp; done) | (trace_state; fail)) ?_
  (simp only [Act.put, List.setIfInBounds_toArray, List.set_cons_succ, List.set_cons_zero])
  refine wpY_y (by rfl) (by (first | exact wanted_none rfl | exact wanted_some rfl rfl)) (fun G F W HF hG => ?_)
  go_simp
  unfold upY
  refine Calls.mono (nextH_any (m' := ((q6, 86, [.int .i64 0, .string ⟨#[]⟩, .string ⟨#[]⟩, .bool false, .string ⟨#[]⟩, .string ⟨#[]⟩, .int .i64 0, .slice none 0 0]) :: (q, 35, [.slice (some ⟨ga, 0, none⟩) na ca, .slice none 0 0, .slice (some ⟨gp, 0, none⟩) np cp, .slice (some ⟨gs, 0, none⟩) ns cc, .slice none 0 0, .bool false, .string ⟨#[]⟩, .string ⟨#[]⟩]) :: (b, 49, [S.sn.v]) :: m) ++ F) S b np HF HS (Lib.hid (by (repeat (first | apply Upd.head | apply Upd.tail | assumption)))) (by omega) (by omega)) ?_
  rintro _ W2 ⟨rfl, h2⟩
  refine ⟨_, rfl, hG _ _ ((q6, 86, [.int .i64 0, .string ⟨#[]⟩, .string ⟨#[]⟩, .bool false, .string ⟨#[]⟩, .string ⟨#[]⟩, .int .i64 0, .slice none 0 0]) :: (q, 35, [.slice (some ⟨ga, 0, none⟩) na ca, .slice none 0 0, .slice (some ⟨gp, 0, none⟩) np cp, .slice (some ⟨gs, 0, none⟩) ns cc, .slice none 0 0, .bool false, .string ⟨#[]⟩, .string ⟨#[]⟩]) :: (b, 49, [S.sn.v]) :: m) h2 (by (repeat (first | exact List.Sublist.refl _ | exact List.sublist_append_right _ _ | refine List.Sublist.cons_cons _ ?_ | refine List.Sublist.cons _ ?_))) ?_⟩
  clear HF hG h2
  rw [HXP.out]
  (simp only [Act.put, List.setIfInBounds_toArray, List.set_cons_succ, List.set_cons_zero])
  refine wpY_c (by rfl) (by (first | exact wanted_none rfl | exact wanted_some rfl rfl)) (by intro W _; first | (go_simp; rfl) | (go_simp; done) | (trace_state; fail)) ?_
  (simp only [Act.put, List.setIfInBounds_toArray, List.set_cons_succ, List.set_cons_zero])
  refine wpY_c (by rfl) (by (first | exact wanted_none rfl | exact wanted_some rfl rfl)) (by intro W _; first | (go_simp; rfl) | (go_simp; done) | (trace_state; fail)) ?_
  (simp only [Act.put, List.setIfInBounds_toArray, List.set_cons_succ, List.set_cons_zero])
  refine wpY_loadX (by rfl) (by rfl) (by (first | exact wanted_none rfl | exact wanted_some rfl rfl)) kStr (by rfl) (by intro W HW; exact HRP.out _ (HW.out.hld (fun x hx => by have := HE.out x hx; simp only [List.mem_cons]; grind))) ?_
  (simp only [Act.put, List.setIfInBounds_toArray, List.set_cons_succ, List.set_cons_zero])
  refine wpY_nil ?_
  clear H
  intro _ H
  go_wp2_with (first
      | go_skip
      | ((with_reducible refine isBox ?_); refine bxA H ?_; clear H; intro q _ H)
      | ((with_reducible refine isAlloc ?_); refine alA H ?_ (hz := zStm8); clear H; intro q6 _ H))
  obtain ⟨k8, hk8⟩ : ∃ r, S.sn.nx 8 = r := ⟨_, rfl⟩
  have hbk8 := S.sn.nx_bd 8 (by omega)
  rw [hk8] at hbk8
  obtain ⟨hbk80, hbk81⟩ := hbk8
  have HVk8 := Lib.hid hk8
  clear hk8
  go_at_call 12
  refine Calls.mono (nextH_any S.sn b 8 H (Lib.hid (HS.out.next)) (Lib.hid (by (repeat (first | apply Upd.head | apply Upd.tail | assumption)))) (by omega) (by omega)) ?_
  rintro _ _ ⟨rfl, h2⟩
  replace H := Lib.hid h2
  clear h2
  rw [HVk8.out]
  rcases (by omega : k8 = 0 ∨ k8 = 1 ∨ k8 = 2 ∨ k8 = 3 ∨ k8 = 4 ∨ k8 = 5 ∨ k8 = 6 ∨ k8 = 7) with rfl | rfl | rfl | rfl | rfl | rfl | rfl | rfl
  · obtain ⟨iS, hxS⟩ : ∃ i : Nat, S.sn.sn.nx ns = i := ⟨(S.sn.sn.nx ns).toNat, by have := S.sn.sn.nx_bd ns (by omega); omega⟩
    have hiS : iS < ns := by have := S.sn.sn.nx_bd ns (by omega); omega
    have HXS := Lib.hid hxS
    obtain ⟨nmS, hnmS⟩ : ∃ x, ((slotN.take ns).map sltOf)[iS]? = some x := ⟨_, List.getElem?_eq_getElem (by rw [LS.out]; exact hiS)⟩
    obtain ⟨gS, cS, egS, hrS⟩ := RS.out.at_ Slt.len hnmS (by decide)
    injection egS with egS _ ecS
    injection egS with egS
    injection egS with egS
    subst egS
    have HRS : Hid (∀ W, Hld E0 W → W.cell? ⟨gs, iS * 14, none⟩ = some (.string nmS.nm)) := Lib.hid fun W hW => rangeAt_cell (hrS W hW)
    have HNS : Hid (nmS.nm ∈ slotN.take ns) := Lib.hid (by obtain ⟨y, hy, rfl⟩ := List.mem_map.1 (List.mem_of_getElem? hnmS); exact hy)
    clear hrS hnmS hxS ecS
    go_wp2_with (first
        | go_skip
        | ((with_reducible refine isAlloc ?_); refine alA H ?_ (hz := zStm8); clear H; intro q9 _ H)
        | ((with_reducible refine isStore ?_); refine stA H ?_ (hT := by first | exact rStm8 | exact rRat); clear H; intro _ H)
        | ((with_reducible refine isLoad ?_); refine ldA H ?_ (hT := by first | exact rStm8 | exact rWks)))
    refine wp_region_Y 13 [.c (.string nmP), .c (.pointer (some ⟨q, 3, none⟩)), .c (.slice (some ⟨gs, 0, none⟩) ns cc), .c (.pointer (some ⟨b, 0, none⟩)), .c (.pointer (some ⟨q, 3, none⟩)), .c (.slice (some ⟨gs, 0, none⟩) ns cc), .c (.int .i64 ns), .y, .c (.pointer (some ⟨gs, iS * 14, none⟩)), .c (.pointer (some ⟨gs, iS * 14, none⟩)), .c (.string nmS.nm), .c (.agg #[.int .i64 1, .string nmP, .string nmS.nm, .bool false, .string ⟨#[]⟩, .string ⟨#[]⟩, .int .i64 0, .slice none 0 0]), .a] ((q6, 86, [.int .i64 0, .string ⟨#[]⟩, .string ⟨#[]⟩, .bool false, .string ⟨#[]⟩, .string ⟨#[]⟩, .int .i64 0, .slice none 0 0]) :: (q, 35, [.slice (some ⟨ga, 0, none⟩) na ca, .slice none 0 0, .slice (some ⟨gp, 0, none⟩) np cp, .slice (some ⟨gs, 0, none⟩) ns cc, .slice none 0 0, .bool false, .string ⟨#[]⟩, .string ⟨#[]⟩]) :: m) H (by (repeat (first | exact List.Sublist.refl _ | exact List.sublist_append_right _ _ | refine List.Sublist.cons_cons _ ?_ | refine List.Sublist.cons _ ?_))) (by kernel_rfl) (by kernel_rfl) (by kernel_rfl) ?_
    simp only [List.take_succ_cons, List.take_zero, List.drop_succ_cons, List.drop_zero]
    refine wpY_c (by rfl) (by (first | exact wanted_none rfl | exact wanted_some rfl rfl)) (by intro W _; first | (go_simp; rfl) | (go_simp; done) | (trace_state; fail)) ?_
    (simp only [Act.put, List.setIfInBounds_toArray, List.set_cons_succ, List.set_cons_zero])
    refine wpY_c (by rfl) (by (first | exact wanted_none rfl | exact wanted_some rfl rfl)) (by intro W _; first | (go_simp; rfl) | (go_simp; done) | (trace_state; fail)) ?_
    (simp only [Act.put, List.setIfInBounds_toArray, List.set_cons_succ, List.set_cons_zero])
    refine wpY_load1 (by rfl) (by rfl) (by (first | exact wanted_none rfl | exact wanted_some rfl rfl)) (by first | exact kPrl | exact kSll | exact kArl | exact kStr | exact kInt) (by rfl) (by (repeat (first | exact List.Mem.head _ | refine List.Mem.tail _ ?_ | assumption))) (by rfl) ?_
    (simp only [Act.put, List.setIfInBounds_toArray, List.set_cons_succ, List.set_cons_zero])
    refine wpY_c (by rfl) (by (first | exact wanted_none rfl | exact wanted_some rfl rfl)) (by intro W _; first | (go_simp; rfl) | (go_simp; done) | (trace_state; fail)) ?_
    (simp only [Act.put, List.setIfInBounds_toArray, List.set_cons_succ, List.set_cons_zero])
    refine wpY_c (by rfl) (by (first | exact wanted_none rfl | exact wanted_some rfl rfl)) (by intro W _; first | (go_simp; rfl) | (go_simp; done) | (trace_state; fail)) ?_
    (simp only [Act.put, List.setIfInBounds_toArray, List.set_cons_succ, List.set_cons_zero])
    refine wpY_load1 (by rfl) (by rfl) (by (first | exact wanted_none rfl | exact wanted_some rfl rfl)) (by first | exact kPrl | exact kSll | exact kArl | exact kStr | exact kInt) (by rfl) (by (repeat (first | exact List.Mem.head _ | refine List.Mem.tail _ ?_ | assumption))) (by rfl) ?_
    (simp only [Act.put, List.setIfInBounds_toArray, List.set_cons_succ, List.set_cons_zero])
    refine wpY_c (by rfl) (by (first | exact wanted_none rfl | exact wanted_some rfl rfl)) (by intro W _; first | (go_simp; rfl) | (go_simp; done) | (trace_state; fail)) ?_
    (simp only [Act.put, List.setIfInBounds_toArray, List.set_cons_succ, List.set_cons_zero])
    refine wpY_y (by rfl) (by (first | exact wanted_none rfl | exact wanted_some rfl rfl)) (fun G F W HF hG => ?_)
    go_simp
    unfold upY
    refine Calls.mono (nextH_any (m' := ((q6, 86, [.int .i64 0, .string ⟨#[]⟩, .string ⟨#[]⟩, .bool false, .string ⟨#[]⟩, .string ⟨#[]⟩, .int .i64 0, .slice none 0 0]) :: (q, 35, [.slice (some ⟨ga, 0, none⟩) na ca, .slice none 0 0, .slice (some ⟨gp, 0, none⟩) np cp, .slice (some ⟨gs, 0, none⟩) ns cc, .slice none 0 0, .bool false, .string ⟨#[]⟩, .string ⟨#[]⟩]) :: (b, 49, [S.sn.sn.sn.v]) :: m) ++ F) S.sn.sn b ns HF (Lib.hid (HS.out.next.next)) (Lib.hid (by (repeat (first | apply Upd.head | apply Upd.tail | assumption)))) (by omega) (by omega)) ?_
    rintro _ W2 ⟨rfl, h2⟩
    refine ⟨_, rfl, hG _ _ ((q6, 86, [.int .i64 0, .string ⟨#[]⟩, .string ⟨#[]⟩, .bool false, .string ⟨#[]⟩, .string ⟨#[]⟩, .int .i64 0, .slice none 0 0]) :: (q, 35, [.slice (some ⟨ga, 0, none⟩) na ca, .slice none 0 0, .slice (some ⟨gp, 0, none⟩) np cp, .slice (some ⟨gs, 0, none⟩) ns cc, .slice none 0 0, .bool false, .string ⟨#[]⟩, .string ⟨#[]⟩]) :: (b, 49, [S.sn.sn.sn.v]) :: m) h2 (by (repeat (first | exact List.Sublist.refl _ | exact List.sublist_append_right _ _ | refine List.Sublist.cons_cons _ ?_ | refine List.Sublist.cons _ ?_))) ?_⟩
    clear HF hG h2
    rw [HXS.out]
    (simp only [Act.put, List.setIfInBounds_toArray, List.set_cons_succ, List.set_cons_zero])
    refine wpY_c (by rfl) (by (first | exact wanted_none rfl | exact wanted_some rfl rfl)) (by intro W _; first | (go_simp; rfl) | (go_simp; done) | (trace_state; fail)) ?_
    (simp only [Act.put, List.setIfInBounds_toArray, List.set_cons_succ, List.set_cons_zero])
    refine wpY_c (by rfl) (by (first | exact wanted_none rfl | exact wanted_some rfl rfl)) (by intro W _; first | (go_simp; rfl) | (go_simp; done) | (trace_state; fail)) ?_
    (simp only [Act.put, List.setIfInBounds_toArray, List.set_cons_succ, List.set_cons_zero])
    refine wpY_loadX (by rfl) (by rfl) (by (first | exact wanted_none rfl | exact wanted_some rfl rfl)) kStr (by rfl) (by intro W HW; exact HRS.out _ (HW.out.hld (fun x hx => by have := HE.out x hx; simp only [List.mem_cons]; grind))) ?_
    (simp only [Act.put, List.setIfInBounds_toArray, List.set_cons_succ, List.set_cons_zero])
    refine wpY_c (by rfl) (by (first | exact wanted_none rfl | exact wanted_some rfl rfl)) (by intro W _; first | (go_simp; rfl) | (go_simp; done) | (trace_state; fail)) ?_
    (simp only [Act.put, List.setIfInBounds_toArray, List.set_cons_succ, List.set_cons_zero])
    refine wpY_al (by rfl) (by rfl) (by rfl) zStm8 (by (simp only [Value.cells]; rfl)) ?_
    intro q9
    (simp only [Act.put, List.setIfInBounds_toArray, List.set_cons_succ, List.set_cons_zero])
    refine wpY_nil ?_
    clear H
    intro _ H
    go_wp2_with (first
        | go_skip
        | ((with_reducible refine isAlloc ?_); refine alA H ?_ (hz := zStm8); clear H; intro q9 _ H)
        | ((with_reducible refine isStore ?_); refine stA H ?_ (hT := by first | exact rStm8 | exact rRat); clear H; intro _ H)
        | ((with_reducible refine isLoad ?_); refine ldA H ?_ (hT := by first | exact rStm8 | exact rWks)))
    obtain ⟨x3, hx3⟩ : ∃ r, S.sn.sn.sn.nx 3 = r := ⟨_, rfl⟩
    have hbx3 := S.sn.sn.sn.nx_bd 3 (by omega)
    rw [hx3] at hbx3
    obtain ⟨hbx30, hbx31⟩ := hbx3
    have HVx3 := Lib.hid hx3
    clear hx3
    go_at_call 12
    refine Calls.mono (nextH_any S.sn.sn.sn b 3 H (Lib.hid (HS.out.next.next.next)) (Lib.hid (by (repeat (first | apply Upd.head | apply Upd.tail | assumption)))) (by omega) (by omega)) ?_
    rintro _ _ ⟨rfl, h2⟩
    replace H := Lib.hid h2
    clear h2
    rw [HVx3.out]
    by_cases h3 : x3 = 0
    · subst h3
      go_wp2_with (first
          | go_skip
          | ((with_reducible refine isAlloc ?_); refine alA H ?_ (hz := zStm8); clear H; intro q9 _ H)
          | ((with_reducible refine isStore ?_); refine stA H ?_ (hT := by first | exact rStm8 | exact rRat); clear H; intro _ H)
          | ((with_reducible refine isLoad ?_); refine ldA H ?_ (hT := by first | exact rStm8 | exact rWks)))
      obtain ⟨r5, hr5⟩ : ∃ r, S.sn.sn.sn.sn.nx 5 = r := ⟨_, rfl⟩
      have hbr5 := S.sn.sn.sn.sn.nx_bd 5 (by omega)
      rw [hr5] at hbr5
      obtain ⟨hbr50, hbr51⟩ := hbr5
      have HVr5 := Lib.hid hr5
      clear hr5
      obtain ⟨D, hD⟩ : ∃ D : Nat, 4 + r5 = (D : Int) := ⟨(4 + r5).toNat, by omega⟩
      have hD4 : 4 ≤ D := by omega
      have hD8 : D ≤ 8 := by omega
      go_at_call 12
      refine Calls.mono (nextH_any S.sn.sn.sn.sn b 5 H (Lib.hid (HS.out.next.next.next.next)) (Lib.hid (by (repeat (first | apply Upd.head | apply Upd.tail | assumption)))) (by omega) (by omega)) ?_
      rintro _ _ ⟨rfl, h2⟩
      replace H := Lib.hid h2
      clear h2
      rw [HVr5.out]
      go_wp2_with (first
          | go_skip
          | ((with_reducible refine isAlloc ?_); refine alA H ?_ (hz := zStm8); clear H; intro q9 _ H)
          | ((with_reducible refine isStore ?_); refine stA H ?_ (hT := by first | exact rStm8 | exact rRat); clear H; intro _ H)
          | ((with_reducible refine isLoad ?_); refine ldA H ?_ (hT := by first | exact rStm8 | exact rWks)))
      obtain ⟨q0, hq0⟩ : ∃ x, ofQ 1 D = x := ⟨_, rfl⟩
      have HQ := Lib.hid hq0
      go_at_call 13
      refine Calls.mono (ofQ_any 1 D q0 _ (by decide) (by decide) (by omega) (by omega) HQ) ?_
      rintro _ _ ⟨rfl, hb⟩
      replace H := Lib.hid (H.out.go hb)
      clear hb hq0 hD
      go_wp2_with (first
          | go_skip
          | ((with_reducible refine isAlloc ?_); refine alA H ?_ (hz := zStm8); clear H; intro q9 _ H)
          | ((with_reducible refine isStore ?_); refine stA H ?_ (hT := by first | exact rStm8 | exact rRat); clear H; intro _ H)
          | ((with_reducible refine isLoad ?_); refine ldA H ?_ (hT := by first | exact rStm8 | exact rWks)))
      exact bodyPost_ret (results_H H Tryz.results23 (by exact rStm8) rfl (by (repeat (first | exact List.Mem.head _ | refine List.Mem.tail _ ?_ | assumption))) (by rfl)) rfl ⟨⟨1, nmP, nmS.nm, (some q0), 0, .slice none 0 0⟩, .mk 1 nmP nmS.nm (some q0) 0 [], S.sn.sn.sn.sn.sn, [], rfl, (Lib.hid (HS.out.next.next.next.next.next)).out, H.out.sub (by (repeat (first | exact List.Sublist.refl _ | exact List.sublist_append_right _ _ | refine List.Sublist.cons_cons _ ?_ | refine List.Sublist.cons _ ?_))), RSt.leaf _ ⟨small_i (x := 1) (by omega), small_i (x := 0) (by omega), pn_sz HNP.out, sn_sz HNS.out, by rw [← HQ.out]; exact ofq_sm D hD4 hD8⟩, .inl ⟨rfl, HNP.out, HNS.out, .inr ⟨D, hD4, hD8, by rw [← HQ.out]; rfl⟩, rfl, rfl⟩⟩
    · have x30p : ¬ (x3 = 0) := h3
      have x30d : decide (x3 = 0) = false := decide_eq_false x30p
      go_wp2_with (first
          | go_skip
          | ((with_reducible refine isAlloc ?_); refine alA H ?_ (hz := zStm8); clear H; intro q9 _ H)
          | ((with_reducible refine isStore ?_); refine stA H ?_ (hT := by first | exact rStm8 | exact rRat); clear H; intro _ H)
          | ((with_reducible refine isLoad ?_); refine ldA H ?_ (hT := by first | exact rStm8 | exact rWks)))
      exact bodyPost_ret (results_H H Tryz.results23 (by exact rStm8) rfl (by (repeat (first | exact List.Mem.head _ | refine List.Mem.tail _ ?_ | assumption))) (by rfl)) rfl ⟨⟨1, nmP, nmS.nm, none, 0, .slice none 0 0⟩, .mk 1 nmP nmS.nm none 0 [], S.sn.sn.sn.sn, [], rfl, (Lib.hid (HS.out.next.next.next.next)).out, H.out.sub (by (repeat (first | exact List.Sublist.refl _ | exact List.sublist_append_right _ _ | refine List.Sublist.cons_cons _ ?_ | refine List.Sublist.cons _ ?_))), RSt.leaf _ ⟨small_i (x := 1) (by omega), small_i (x := 0) (by omega), pn_sz HNP.out, sn_sz HNS.out, SmO.none⟩, .inl ⟨rfl, HNP.out, HNS.out, .inl rfl, rfl, rfl⟩⟩
  · obtain ⟨iS, hxS⟩ : ∃ i : Nat, S.sn.sn.nx ns = i := ⟨(S.sn.sn.nx ns).toNat, by have := S.sn.sn.nx_bd ns (by omega); omega⟩
    have hiS : iS < ns := by have := S.sn.sn.nx_bd ns (by omega); omega
    have HXS := Lib.hid hxS
    obtain ⟨nmS, hnmS⟩ : ∃ x, ((slotN.take ns).map sltOf)[iS]? = some x := ⟨_, List.getElem?_eq_getElem (by rw [LS.out]; exact hiS)⟩
    obtain ⟨gS, cS, egS, hrS⟩ := RS.out.at_ Slt.len hnmS (by decide)
    injection egS with egS _ ecS
    injection egS with egS
    injection egS with egS
    subst egS
    have HRS : Hid (∀ W, Hld E0 W → W.cell? ⟨gs, iS * 14, none⟩ = some (.string nmS.nm)) := Lib.hid fun W hW => rangeAt_cell (hrS W hW)
    have HNS : Hid (nmS.nm ∈ slotN.take ns) := Lib.hid (by obtain ⟨y, hy, rfl⟩ := List.mem_map.1 (List.mem_of_getElem? hnmS); exact hy)
    clear hrS hnmS hxS ecS
    go_wp2_with (first
        | go_skip
        | ((with_reducible refine isAlloc ?_); refine alA H ?_ (hz := zStm8); clear H; intro q9 _ H)
        | ((with_reducible refine isStore ?_); refine stA H ?_ (hT := by first | exact rStm8 | exact rRat); clear H; intro _ H)
        | ((with_reducible refine isLoad ?_); refine ldA H ?_ (hT := by first | exact rStm8 | exact rWks)))
    refine wp_region_Y 13 [.c (.string nmP), .c (.pointer (some ⟨q, 3, none⟩)), .c (.slice (some ⟨gs, 0, none⟩) ns cc), .c (.pointer (some ⟨b, 0, none⟩)), .c (.pointer (some ⟨q, 3, none⟩)), .c (.slice (some ⟨gs, 0, none⟩) ns cc), .c (.int .i64 ns), .y, .c (.pointer (some ⟨gs, iS * 14, none⟩)), .c (.pointer (some ⟨gs, iS * 14, none⟩)), .c (.string nmS.nm), .c (.agg #[.int .i64 1, .string nmP, .string nmS.nm, .bool false, .string ⟨#[]⟩, .string ⟨#[]⟩, .int .i64 0, .slice none 0 0]), .a] ((q6, 86, [.int .i64 0, .string ⟨#[]⟩, .string ⟨#[]⟩, .bool false, .string ⟨#[]⟩, .string ⟨#[]⟩, .int .i64 0, .slice none 0 0]) :: (q, 35, [.slice (some ⟨ga, 0, none⟩) na ca, .slice none 0 0, .slice (some ⟨gp, 0, none⟩) np cp, .slice (some ⟨gs, 0, none⟩) ns cc, .slice none 0 0, .bool false, .string ⟨#[]⟩, .string ⟨#[]⟩]) :: m) H (by (repeat (first | exact List.Sublist.refl _ | exact List.sublist_append_right _ _ | refine List.Sublist.cons_cons _ ?_ | refine List.Sublist.cons _ ?_))) (by kernel_rfl) (by kernel_rfl) (by kernel_rfl) ?_
    simp only [List.take_succ_cons, List.take_zero, List.drop_succ_cons, List.drop_zero]
    refine wpY_c (by rfl) (by (first | exact wanted_none rfl | exact wanted_some rfl rfl)) (by intro W _; first | (go_simp; rfl) | (go_simp; done) | (trace_state; fail)) ?_
    (simp only [Act.put, List.setIfInBounds_toArray, List.set_cons_succ, List.set_cons_zero])
    refine wpY_c (by rfl) (by (first | exact wanted_none rfl | exact wanted_some rfl rfl)) (by intro W _; first | (go_simp; rfl) | (go_simp; done) | (trace_state; fail)) ?_
    (simp only [Act.put, List.setIfInBounds_toArray, List.set_cons_succ, List.set_cons_zero])
    refine wpY_load1 (by rfl) (by rfl) (by (first | exact wanted_none rfl | exact wanted_some rfl rfl)) (by first | exact kPrl | exact kSll | exact kArl | exact kStr | exact kInt) (by rfl) (by (repeat (first | exact List.Mem.head _ | refine List.Mem.tail _ ?_ | assumption))) (by rfl) ?_
    (simp only [Act.put, List.setIfInBounds_toArray, List.set_cons_succ, List.set_cons_zero])
    refine wpY_c (by rfl) (by (first | exact wanted_none rfl | exact wanted_some rfl rfl)) (by intro W _; first | (go_simp; rfl) | (go_simp; done) | (trace_state; fail)) ?_
    (simp only [Act.put, List.setIfInBounds_toArray, List.set_cons_succ, List.set_cons_zero])
    refine wpY_c (by rfl) (by (first | exact wanted_none rfl | exact wanted_some rfl rfl)) (by intro W _; first | (go_simp; rfl) | (go_simp; done) | (trace_state; fail)) ?_
    (simp only [Act.put, List.setIfInBounds_toArray, List.set_cons_succ, List.set_cons_zero])
    refine wpY_load1 (by rfl) (by rfl) (by (first | exact wanted_none rfl | exact wanted_some rfl rfl)) (by first | exact kPrl | exact kSll | exact kArl | exact kStr | exact kInt) (by rfl) (by (repeat (first | exact List.Mem.head _ | refine List.Mem.tail _ ?_ | assumption))) (by rfl) ?_
    (simp only [Act.put, List.setIfInBounds_toArray, List.set_cons_succ, List.set_cons_zero])
    refine wpY_c (by rfl) (by (first | exact wanted_none rfl | exact wanted_some rfl rfl)) (by intro W _; first | (go_simp; rfl) | (go_simp; done) | (trace_state; fail)) ?_
    (simp only [Act.put, List.setIfInBounds_toArray, List.set_cons_succ, List.set_cons_zero])
    refine wpY_y (by rfl) (by (first | exact wanted_none rfl | exact wanted_some rfl rfl)) (fun G F W HF hG => ?_)
    go_simp
    unfold upY
    refine Calls.mono (nextH_any (m' := ((q6, 86, [.int .i64 0, .string ⟨#[]⟩, .string ⟨#[]⟩, .bool false, .string ⟨#[]⟩, .string ⟨#[]⟩, .int .i64 0, .slice none 0 0]) :: (q, 35, [.slice (some ⟨ga, 0, none⟩) na ca, .slice none 0 0, .slice (some ⟨gp, 0, none⟩) np cp, .slice (some ⟨gs, 0, none⟩) ns cc, .slice none 0 0, .bool false, .string ⟨#[]⟩, .string ⟨#[]⟩]) :: (b, 49, [S.sn.sn.sn.v]) :: m) ++ F) S.sn.sn b ns HF (Lib.hid (HS.out.next.next)) (Lib.hid (by (repeat (first | apply Upd.head | apply Upd.tail | assumption)))) (by omega) (by omega)) ?_
    rintro _ W2 ⟨rfl, h2⟩
    refine ⟨_, rfl, hG _ _ ((q6, 86, [.int .i64 0, .string ⟨#[]⟩, .string ⟨#[]⟩, .bool false, .string ⟨#[]⟩, .string ⟨#[]⟩, .int .i64 0, .slice none 0 0]) :: (q, 35, [.slice (some ⟨ga, 0, none⟩) na ca, .slice none 0 0, .slice (some ⟨gp, 0, none⟩) np cp, .slice (some ⟨gs, 0, none⟩) ns cc, .slice none 0 0, .bool false, .string ⟨#[]⟩, .string ⟨#[]⟩]) :: (b, 49, [S.sn.sn.sn.v]) :: m) h2 (by (repeat (first | exact List.Sublist.refl _ | exact List.sublist_append_right _ _ | refine List.Sublist.cons_cons _ ?_ | refine List.Sublist.cons _ ?_))) ?_⟩
    clear HF hG h2
    rw [HXS.out]
    (simp only [Act.put, List.setIfInBounds_toArray, List.set_cons_succ, List.set_cons_zero])
    refine wpY_c (by rfl) (by (first | exact wanted_none rfl | exact wanted_some rfl rfl)) (by intro W _; first | (go_simp; rfl) | (go_simp; done) | (trace_state; fail)) ?_
    (simp only [Act.put, List.setIfInBounds_toArray, List.set_cons_succ, List.set_cons_zero])
    refine wpY_c (by rfl) (by (first | exact wanted_none rfl | exact wanted_some rfl rfl)) (by intro W _; first | (go_simp; rfl) | (go_simp; done) | (trace_state; fail)) ?_
    (simp only [Act.put, List.setIfInBounds_toArray, List.set_cons_succ, List.set_cons_zero])
    refine wpY_loadX (by rfl) (by rfl) (by (first | exact wanted_none rfl | exact wanted_some rfl rfl)) kStr (by rfl) (by intro W HW; exact HRS.out _ (HW.out.hld (fun x hx => by have := HE.out x hx; simp only [List.mem_cons]; grind))) ?_
    (simp only [Act.put, List.setIfInBounds_toArray, List.set_cons_succ, List.set_cons_zero])
    refine wpY_c (by rfl) (by (first | exact wanted_none rfl | exact wanted_some rfl rfl)) (by intro W _; first | (go_simp; rfl) | (go_simp; done) | (trace_state; fail)) ?_
    (simp only [Act.put, List.setIfInBounds_toArray, List.set_cons_succ, List.set_cons_zero])
    refine wpY_al (by rfl) (by rfl) (by rfl) zStm8 (by (simp only [Value.cells]; rfl)) ?_
    intro q9
    (simp only [Act.put, List.setIfInBounds_toArray, List.set_cons_succ, List.set_cons_zero])
    refine wpY_nil ?_
    clear H
    intro _ H
    go_wp2_with (first
        | go_skip
        | ((with_reducible refine isAlloc ?_); refine alA H ?_ (hz := zStm8); clear H; intro q9 _ H)
        | ((with_reducible refine isStore ?_); refine stA H ?_ (hT := by first | exact rStm8 | exact rRat); clear H; intro _ H)
        | ((with_reducible refine isLoad ?_); refine ldA H ?_ (hT := by first | exact rStm8 | exact rWks)))
    obtain ⟨x3, hx3⟩ : ∃ r, S.sn.sn.sn.nx 3 = r := ⟨_, rfl⟩
    have hbx3 := S.sn.sn.sn.nx_bd 3 (by omega)
    rw [hx3] at hbx3
    obtain ⟨hbx30, hbx31⟩ := hbx3
    have HVx3 := Lib.hid hx3
    clear hx3
    go_at_call 12
    refine Calls.mono (nextH_any S.sn.sn.sn b 3 H (Lib.hid (HS.out.next.next.next)) (Lib.hid (by (repeat (first | apply Upd.head | apply Upd.tail | assumption)))) (by omega) (by omega)) ?_
    rintro _ _ ⟨rfl, h2⟩
    replace H := Lib.hid h2
    clear h2
    rw [HVx3.out]
    by_cases h3 : x3 = 0
    · subst h3
      go_wp2_with (first
          | go_skip
          | ((with_reducible refine isAlloc ?_); refine alA H ?_ (hz := zStm8); clear H; intro q9 _ H)
          | ((with_reducible refine isStore ?_); refine stA H ?_ (hT := by first | exact rStm8 | exact rRat); clear H; intro _ H)
          | ((with_reducible refine isLoad ?_); refine ldA H ?_ (hT := by first | exact rStm8 | exact rWks)))
      obtain ⟨r5, hr5⟩ : ∃ r, S.sn.sn.sn.sn.nx 5 = r := ⟨_, rfl⟩
      have hbr5 := S.sn.sn.sn.sn.nx_bd 5 (by omega)
      rw [hr5] at hbr5
      obtain ⟨hbr50, hbr51⟩ := hbr5
      have HVr5 := Lib.hid hr5
      clear hr5
      obtain ⟨D, hD⟩ : ∃ D : Nat, 4 + r5 = (D : Int) := ⟨(4 + r5).toNat, by omega⟩
      have hD4 : 4 ≤ D := by omega
      have hD8 : D ≤ 8 := by omega
      go_at_call 12
      refine Calls.mono (nextH_any S.sn.sn.sn.sn b 5 H (Lib.hid (HS.out.next.next.next.next)) (Lib.hid (by (repeat (first | apply Upd.head | apply Upd.tail | assumption)))) (by omega) (by omega)) ?_
      rintro _ _ ⟨rfl, h2⟩
      replace H := Lib.hid h2
      clear h2
      rw [HVr5.out]
      go_wp2_with (first
          | go_skip
          | ((with_reducible refine isAlloc ?_); refine alA H ?_ (hz := zStm8); clear H; intro q9 _ H)
          | ((with_reducible refine isStore ?_); refine stA H ?_ (hT := by first | exact rStm8 | exact rRat); clear H; intro _ H)
          | ((with_reducible refine isLoad ?_); refine ldA H ?_ (hT := by first | exact rStm8 | exact rWks)))
      obtain ⟨q0, hq0⟩ : ∃ x, ofQ 1 D = x := ⟨_, rfl⟩
      have HQ := Lib.hid hq0
      go_at_call 13
      refine Calls.mono (ofQ_any 1 D q0 _ (by decide) (by decide) (by omega) (by omega) HQ) ?_
      rintro _ _ ⟨rfl, hb⟩
      replace H := Lib.hid (H.out.go hb)
      clear hb hq0 hD
      go_wp2_with (first
          | go_skip
          | ((with_reducible refine isAlloc ?_); refine alA H ?_ (hz := zStm8); clear H; intro q9 _ H)
          | ((with_reducible refine isStore ?_); refine stA H ?_ (hT := by first | exact rStm8 | exact rRat); clear H; intro _ H)
          | ((with_reducible refine isLoad ?_); refine ldA H ?_ (hT := by first | exact rStm8 | exact rWks)))
      exact bodyPost_ret (results_H H Tryz.results23 (by exact rStm8) rfl (by (repeat (first | exact List.Mem.head _ | refine List.Mem.tail _ ?_ | assumption))) (by rfl)) rfl ⟨⟨1, nmP, nmS.nm, (some q0), 0, .slice none 0 0⟩, .mk 1 nmP nmS.nm (some q0) 0 [], S.sn.sn.sn.sn.sn, [], rfl, (Lib.hid (HS.out.next.next.next.next.next)).out, H.out.sub (by (repeat (first | exact List.Sublist.refl _ | exact List.sublist_append_right _ _ | refine List.Sublist.cons_cons _ ?_ | refine List.Sublist.cons _ ?_))), RSt.leaf _ ⟨small_i (x := 1) (by omega), small_i (x := 0) (by omega), pn_sz HNP.out, sn_sz HNS.out, by rw [← HQ.out]; exact ofq_sm D hD4 hD8⟩, .inl ⟨rfl, HNP.out, HNS.out, .inr ⟨D, hD4, hD8, by rw [← HQ.out]; rfl⟩, rfl, rfl⟩⟩
    · have x30p : ¬ (x3 = 0) := h3
      have x30d : decide (x3 = 0) = false := decide_eq_false x30p
      go_wp2_with (first
          | go_skip
          | ((with_reducible refine isAlloc ?_); refine alA H ?_ (hz := zStm8); clear H; intro q9 _ H)
          | ((with_reducible refine isStore ?_); refine stA H ?_ (hT := by first | exact rStm8 | exact rRat); clear H; intro _ H)
          | ((with_reducible refine isLoad ?_); refine ldA H ?_ (hT := by first | exact rStm8 | exact rWks)))
      exact bodyPost_ret (results_H H Tryz.results23 (by exact rStm8) rfl (by (repeat (first | exact List.Mem.head _ | refine List.Mem.tail _ ?_ | assumption))) (by rfl)) rfl ⟨⟨1, nmP, nmS.nm, none, 0, .slice none 0 0⟩, .mk 1 nmP nmS.nm none 0 [], S.sn.sn.sn.sn, [], rfl, (Lib.hid (HS.out.next.next.next.next)).out, H.out.sub (by (repeat (first | exact List.Sublist.refl _ | exact List.sublist_append_right _ _ | refine List.Sublist.cons_cons _ ?_ | refine List.Sublist.cons _ ?_))), RSt.leaf _ ⟨small_i (x := 1) (by omega), small_i (x := 0) (by omega), pn_sz HNP.out, sn_sz HNS.out, SmO.none⟩, .inl ⟨rfl, HNP.out, HNS.out, .inl rfl, rfl, rfl⟩⟩
  · obtain ⟨iA, hxA⟩ : ∃ i : Nat, S.sn.sn.nx na = i := ⟨(S.sn.sn.nx na).toNat, by have := S.sn.sn.nx_bd na (by omega); omega⟩
    have hiA : iA < na := by have := S.sn.sn.nx_bd na (by omega); omega
    have HXA := Lib.hid hxA
    obtain ⟨nmA, hnmA⟩ : ∃ x, (armN.take na)[iA]? = some x := ⟨_, List.getElem?_eq_getElem (by rw [LA.out]; exact hiA)⟩
    obtain ⟨gA, cA, egA, hrA⟩ := RA.out.at_ armC_len hnmA (by decide)
    injection egA with egA _ ecA
    injection egA with egA
    injection egA with egA
    subst egA
    have HRA : Hid (∀ W, Hld E0 W → W.cell? ⟨ga, iA * 12, none⟩ = some (.string nmA)) := Lib.hid fun W hW => rangeAt_cell (hrA W hW)
    have HNA : Hid (nmA ∈ armN.take na) := Lib.hid (by exact List.mem_of_getElem? hnmA)
    clear hrA hnmA hxA ecA
    go_wp2_with (first
        | go_skip
        | ((with_reducible refine isAlloc ?_); refine alA H ?_ (hz := zStm8); clear H; intro q9 _ H)
        | ((with_reducible refine isStore ?_); refine stA H ?_ (hT := by first | exact rStm8 | exact rRat); clear H; intro _ H)
        | ((with_reducible refine isLoad ?_); refine ldA H ?_ (hT := by first | exact rStm8 | exact rWks)))
    refine wp_region_Y 12 [.c (.string nmP), .c (.pointer (some ⟨q, 0, none⟩)), .c (.slice (some ⟨ga, 0, none⟩) na ca), .c (.pointer (some ⟨b, 0, none⟩)), .c (.pointer (some ⟨q, 0, none⟩)), .c (.slice (some ⟨ga, 0, none⟩) na ca), .c (.int .i64 na), .y, .c (.pointer (some ⟨ga, iA * 12, none⟩)), .c (.pointer (some ⟨ga, iA * 12, none⟩)), .c (.string nmA), .c (.agg #[.int .i64 2, .string nmP, .string nmA, .bool false, .string ⟨#[]⟩, .string ⟨#[]⟩, .int .i64 0, .slice none 0 0])] ((q6, 86, [.int .i64 0, .string ⟨#[]⟩, .string ⟨#[]⟩, .bool false, .string ⟨#[]⟩, .string ⟨#[]⟩, .int .i64 0, .slice none 0 0]) :: (q, 35, [.slice (some ⟨ga, 0, none⟩) na ca, .slice none 0 0, .slice (some ⟨gp, 0, none⟩) np cp, .slice (some ⟨gs, 0, none⟩) ns cc, .slice none 0 0, .bool false, .string ⟨#[]⟩, .string ⟨#[]⟩]) :: m) H (by (repeat (first | exact List.Sublist.refl _ | exact List.sublist_append_right _ _ | refine List.Sublist.cons_cons _ ?_ | refine List.Sublist.cons _ ?_))) (by kernel_rfl) (by kernel_rfl) (by kernel_rfl) ?_
    simp only [List.take_succ_cons, List.take_zero, List.drop_succ_cons, List.drop_zero]
    refine wpY_c (by rfl) (by (first | exact wanted_none rfl | exact wanted_some rfl rfl)) (by intro W _; first | (go_simp; rfl) | (go_simp; done) | (trace_state; fail)) ?_
    (simp only [Act.put, List.setIfInBounds_toArray, List.set_cons_succ, List.set_cons_zero])
    refine wpY_c (by rfl) (by (first | exact wanted_none rfl | exact wanted_some rfl rfl)) (by intro W _; first | (go_simp; rfl) | (go_simp; done) | (trace_state; fail)) ?_
    (simp only [Act.put, List.setIfInBounds_toArray, List.set_cons_succ, List.set_cons_zero])
    refine wpY_load1 (by rfl) (by rfl) (by (first | exact wanted_none rfl | exact wanted_some rfl rfl)) (by first | exact kPrl | exact kSll | exact kArl | exact kStr | exact kInt) (by rfl) (by (repeat (first | exact List.Mem.head _ | refine List.Mem.tail _ ?_ | assumption))) (by rfl) ?_
    (simp only [Act.put, List.setIfInBounds_toArray, List.set_cons_succ, List.set_cons_zero])
    refine wpY_c (by rfl) (by (first | exact wanted_none rfl | exact wanted_some rfl rfl)) (by intro W _; first | (go_simp; rfl) | (go_simp; done) | (trace_state; fail)) ?_
    (simp only [Act.put, List.setIfInBounds_toArray, List.set_cons_succ, List.set_cons_zero])
    refine wpY_c (by rfl) (by (first | exact wanted_none rfl | exact wanted_some rfl rfl)) (by intro W _; first | (go_simp; rfl) | (go_simp; done) | (trace_state; fail)) ?_
    (simp only [Act.put, List.setIfInBounds_toArray, List.set_cons_succ, List.set_cons_zero])
    refine wpY_load1 (by rfl) (by rfl) (by (first | exact wanted_none rfl | exact wanted_some rfl rfl)) (by first | exact kPrl | exact kSll | exact kArl | exact kStr | exact kInt) (by rfl) (by (repeat (first | exact List.Mem.head _ | refine List.Mem.tail _ ?_ | assumption))) (by rfl) ?_
    (simp only [Act.put, List.setIfInBounds_toArray, List.set_cons_succ, List.set_cons_zero])
    refine wpY_c (by rfl) (by (first | exact wanted_none rfl | exact wanted_some rfl rfl)) (by intro W _; first | (go_simp; rfl) | (go_simp; done) | (trace_state; fail)) ?_
    (simp only [Act.put, List.setIfInBounds_toArray, List.set_cons_succ, List.set_cons_zero])
    refine wpY_y (by rfl) (by (first | exact wanted_none rfl | exact wanted_some rfl rfl)) (fun G F W HF hG => ?_)
    go_simp
    unfold upY
    refine Calls.mono (nextH_any (m' := ((q6, 86, [.int .i64 0, .string ⟨#[]⟩, .string ⟨#[]⟩, .bool false, .string ⟨#[]⟩, .string ⟨#[]⟩, .int .i64 0, .slice none 0 0]) :: (q, 35, [.slice (some ⟨ga, 0, none⟩) na ca, .slice none 0 0, .slice (some ⟨gp, 0, none⟩) np cp, .slice (some ⟨gs, 0, none⟩) ns cc, .slice none 0 0, .bool false, .string ⟨#[]⟩, .string ⟨#[]⟩]) :: (b, 49, [S.sn.sn.sn.v]) :: m) ++ F) S.sn.sn b na HF (Lib.hid (HS.out.next.next)) (Lib.hid (by (repeat (first | apply Upd.head | apply Upd.tail | assumption)))) (by omega) (by omega)) ?_
    rintro _ W2 ⟨rfl, h2⟩
    refine ⟨_, rfl, hG _ _ ((q6, 86, [.int .i64 0, .string ⟨#[]⟩, .string ⟨#[]⟩, .bool false, .string ⟨#[]⟩, .string ⟨#[]⟩, .int .i64 0, .slice none 0 0]) :: (q, 35, [.slice (some ⟨ga, 0, none⟩) na ca, .slice none 0 0, .slice (some ⟨gp, 0, none⟩) np cp, .slice (some ⟨gs, 0, none⟩) ns cc, .slice none 0 0, .bool false, .string ⟨#[]⟩, .string ⟨#[]⟩]) :: (b, 49, [S.sn.sn.sn.v]) :: m) h2 (by (repeat (first | exact List.Sublist.refl _ | exact List.sublist_append_right _ _ | refine List.Sublist.cons_cons _ ?_ | refine List.Sublist.cons _ ?_))) ?_⟩
    clear HF hG h2
    rw [HXA.out]
    (simp only [Act.put, List.setIfInBounds_toArray, List.set_cons_succ, List.set_cons_zero])
    refine wpY_c (by rfl) (by (first | exact wanted_none rfl | exact wanted_some rfl rfl)) (by intro W _; first | (go_simp; rfl) | (go_simp; done) | (trace_state; fail)) ?_
    (simp only [Act.put, List.setIfInBounds_toArray, List.set_cons_succ, List.set_cons_zero])
    refine wpY_c (by rfl) (by (first | exact wanted_none rfl | exact wanted_some rfl rfl)) (by intro W _; first | (go_simp; rfl) | (go_simp; done) | (trace_state; fail)) ?_
    (simp only [Act.put, List.setIfInBounds_toArray, List.set_cons_succ, List.set_cons_zero])
    refine wpY_loadX (by rfl) (by rfl) (by (first | exact wanted_none rfl | exact wanted_some rfl rfl)) kStr (by rfl) (by intro W HW; exact HRA.out _ (HW.out.hld (fun x hx => by have := HE.out x hx; simp only [List.mem_cons]; grind))) ?_
    (simp only [Act.put, List.setIfInBounds_toArray, List.set_cons_succ, List.set_cons_zero])
    refine wpY_c (by rfl) (by (first | exact wanted_none rfl | exact wanted_some rfl rfl)) (by intro W _; first | (go_simp; rfl) | (go_simp; done) | (trace_state; fail)) ?_
    (simp only [Act.put, List.setIfInBounds_toArray, List.set_cons_succ, List.set_cons_zero])
    refine wpY_nil ?_
    clear H
    intro _ H
    go_wp2_with (first
        | go_skip
        | ((with_reducible refine isAlloc ?_); refine alA H ?_ (hz := zStm8); clear H; intro q9 _ H)
        | ((with_reducible refine isStore ?_); refine stA H ?_ (hT := by first | exact rStm8 | exact rRat); clear H; intro _ H)
        | ((with_reducible refine isLoad ?_); refine ldA H ?_ (hT := by first | exact rStm8 | exact rWks)))
    exact bodyPost_ret (results_H H Tryz.results23 (by exact rStm8) rfl (by (repeat (first | exact List.Mem.head _ | refine List.Mem.tail _ ?_ | assumption))) (by rfl)) rfl ⟨⟨2, nmP, nmA, none, 0, .slice none 0 0⟩, .mk 2 nmP nmA none 0 [], S.sn.sn.sn, [], rfl, (Lib.hid (HS.out.next.next.next)).out, H.out.sub (by (repeat (first | exact List.Sublist.refl _ | exact List.sublist_append_right _ _ | refine List.Sublist.cons_cons _ ?_ | refine List.Sublist.cons _ ?_))), RSt.leaf _ ⟨small_i (x := 2) (by omega), small_i (x := 0) (by omega), pn_sz HNP.out, an_sz HNA.out, SmO.none⟩, .inr (.inl ⟨rfl, HNP.out, HNA.out, rfl, rfl, rfl⟩)⟩
  · go_wp2_with (first
        | go_skip
        | ((with_reducible refine isAlloc ?_); refine alA H ?_ (hz := zStm8); clear H; intro q9 _ H)
        | ((with_reducible refine isStore ?_); refine stA H ?_ (hT := by first | exact rStm8 | exact rRat); clear H; intro _ H)
        | ((with_reducible refine isLoad ?_); refine ldA H ?_ (hT := by first | exact rStm8 | exact rWks)))
    exact bodyPost_ret (results_H H Tryz.results23 (by exact rStm8) rfl (by (repeat (first | exact List.Mem.head _ | refine List.Mem.tail _ ?_ | assumption))) (by rfl)) rfl ⟨⟨4, nmP, ⟨#[]⟩, none, 0, .slice none 0 0⟩, .mk 4 nmP ⟨#[]⟩ none 0 [], S.sn.sn, [], rfl, (Lib.hid (HS.out.next.next)).out, H.out.sub (by (repeat (first | exact List.Sublist.refl _ | exact List.sublist_append_right _ _ | refine List.Sublist.cons_cons _ ?_ | refine List.Sublist.cons _ ?_))), RSt.leaf _ ⟨small_i (x := 4) (by omega), small_i (x := 0) (by omega), pn_sz HNP.out, empty_sz, SmO.none⟩, .inr (.inr (.inr (.inl ⟨rfl, HNP.out, rfl, rfl, rfl, rfl⟩)))⟩
  · obtain ⟨x2, hx2⟩ : ∃ r, S.sn.sn.nx 2 = r := ⟨_, rfl⟩
    have hbx2 := S.sn.sn.nx_bd 2 (by omega)
    rw [hx2] at hbx2
    obtain ⟨hbx20, hbx21⟩ := hbx2
    have HVx2 := Lib.hid hx2
    clear hx2
    go_wp2_with (first
        | go_skip
        | ((with_reducible refine isAlloc ?_); refine alA H ?_ (hz := zStm8); clear H; intro q9 _ H)
        | ((with_reducible refine isStore ?_); refine stA H ?_ (hT := by first | exact rStm8 | exact rRat); clear H; intro _ H)
        | ((with_reducible refine isLoad ?_); refine ldA H ?_ (hT := by first | exact rStm8 | exact rWks)))
    go_at_call 12
    refine Calls.mono (nextH_any S.sn.sn b 2 H (Lib.hid (HS.out.next.next)) (Lib.hid (by (repeat (first | apply Upd.head | apply Upd.tail | assumption)))) (by omega) (by omega)) ?_
    rintro _ _ ⟨rfl, h2⟩
    replace H := Lib.hid h2
    clear h2
    rw [HVx2.out]
    by_cases h2 : x2 = 0
    · subst h2
      go_wp2_with (first
          | go_skip
          | ((with_reducible refine isAlloc ?_); refine alA H ?_ (hz := zStm8); clear H; intro q9 _ H)
          | ((with_reducible refine isStore ?_); refine stA H ?_ (hT := by first | exact rStm8 | exact rRat); clear H; intro _ H)
          | ((with_reducible refine isLoad ?_); refine ldA H ?_ (hT := by first | exact rStm8 | exact rWks)))
      obtain ⟨r3, hr3⟩ : ∃ r, S.sn.sn.sn.nx 3 = r := ⟨_, rfl⟩
      have hbr3 := S.sn.sn.sn.nx_bd 3 (by omega)
      rw [hr3] at hbr3
      obtain ⟨hbr30, hbr31⟩ := hbr3
      have HVr3 := Lib.hid hr3
      clear hr3
      go_at_call 12
      refine Calls.mono (nextH_any S.sn.sn.sn b 3 H (Lib.hid (HS.out.next.next.next)) (Lib.hid (by (repeat (first | apply Upd.head | apply Upd.tail | assumption)))) (by omega) (by omega)) ?_
      rintro _ _ ⟨rfl, h2⟩
      replace H := Lib.hid h2
      clear h2
      rw [HVr3.out]
      go_wp2_with (first
          | go_skip
          | ((with_reducible refine isAlloc ?_); refine alA H ?_ (hz := zStm8); clear H; intro q9 _ H)
          | ((with_reducible refine isStore ?_); refine stA H ?_ (hT := by first | exact rStm8 | exact rRat); clear H; intro _ H)
          | ((with_reducible refine isLoad ?_); refine ldA H ?_ (hT := by first | exact rStm8 | exact rWks)))
      exact bodyPost_ret (results_H H Tryz.results23 (by exact rStm8) rfl (by (repeat (first | exact List.Mem.head _ | refine List.Mem.tail _ ?_ | assumption))) (by rfl)) rfl ⟨⟨5, ⟨#[]⟩, ⟨#[]⟩, none, (1 + r3), .slice none 0 0⟩, .mk 5 ⟨#[]⟩ ⟨#[]⟩ none (1 + r3) [], S.sn.sn.sn.sn, [], rfl, (Lib.hid (HS.out.next.next.next.next)).out, H.out.sub (by (repeat (first | exact List.Sublist.refl _ | exact List.sublist_append_right _ _ | refine List.Sublist.cons_cons _ ?_ | refine List.Sublist.cons _ ?_))), RSt.leaf _ ⟨small_i (x := 5) (by omega), small_i (x := (1 + r3)) (by omega), empty_sz, empty_sz, SmO.none⟩, .inr (.inr (.inr (.inr (.inl ⟨rfl, rfl, rfl, rfl, ⟨by show 1 ≤ 1 + r3; omega, by show 1 + r3 ≤ 3; omega⟩, rfl⟩))))⟩
    · have x20p : ¬ (x2 = 0) := h2
      have x20d : decide (x2 = 0) = false := decide_eq_false x20p
      obtain ⟨iA, hxA⟩ : ∃ i : Nat, S.sn.sn.sn.nx na = i := ⟨(S.sn.sn.sn.nx na).toNat, by have := S.sn.sn.sn.nx_bd na (by omega); omega⟩
      have hiA : iA < na := by have := S.sn.sn.sn.nx_bd na (by omega); omega
      have HXA := Lib.hid hxA
      obtain ⟨nmA, hnmA⟩ : ∃ x, (armN.take na)[iA]? = some x := ⟨_, List.getElem?_eq_getElem (by rw [LA.out]; exact hiA)⟩
      obtain ⟨gA, cA, egA, hrA⟩ := RA.out.at_ armC_len hnmA (by decide)
      injection egA with egA _ ecA
      injection egA with egA
      injection egA with egA
      subst egA
      have HRA : Hid (∀ W, Hld E0 W → W.cell? ⟨ga, iA * 12, none⟩ = some (.string nmA)) := Lib.hid fun W hW => rangeAt_cell (hrA W hW)
      have HNA : Hid (nmA ∈ armN.take na) := Lib.hid (by exact List.mem_of_getElem? hnmA)
      clear hrA hnmA hxA ecA
      go_wp2_with (first
          | go_skip
          | ((with_reducible refine isAlloc ?_); refine alA H ?_ (hz := zStm8); clear H; intro q9 _ H)
          | ((with_reducible refine isStore ?_); refine stA H ?_ (hT := by first | exact rStm8 | exact rRat); clear H; intro _ H)
          | ((with_reducible refine isLoad ?_); refine ldA H ?_ (hT := by first | exact rStm8 | exact rWks)))
      refine wp_region_Y 11 [.c (.pointer (some ⟨q, 0, none⟩)), .c (.slice (some ⟨ga, 0, none⟩) na ca), .c (.pointer (some ⟨b, 0, none⟩)), .c (.pointer (some ⟨q, 0, none⟩)), .c (.slice (some ⟨ga, 0, none⟩) na ca), .c (.int .i64 na), .y, .c (.pointer (some ⟨ga, iA * 12, none⟩)), .c (.pointer (some ⟨ga, iA * 12, none⟩)), .c (.string nmA), .c (.agg #[.int .i64 3, .string nmA, .string ⟨#[]⟩, .bool false, .string ⟨#[]⟩, .string ⟨#[]⟩, .int .i64 0, .slice none 0 0])] ((q6, 86, [.int .i64 0, .string ⟨#[]⟩, .string ⟨#[]⟩, .bool false, .string ⟨#[]⟩, .string ⟨#[]⟩, .int .i64 0, .slice none 0 0]) :: (q, 35, [.slice (some ⟨ga, 0, none⟩) na ca, .slice none 0 0, .slice (some ⟨gp, 0, none⟩) np cp, .slice (some ⟨gs, 0, none⟩) ns cc, .slice none 0 0, .bool false, .string ⟨#[]⟩, .string ⟨#[]⟩]) :: m) H (by (repeat (first | exact List.Sublist.refl _ | exact List.sublist_append_right _ _ | refine List.Sublist.cons_cons _ ?_ | refine List.Sublist.cons _ ?_))) (by kernel_rfl) (by kernel_rfl) (by kernel_rfl) ?_
      simp only [List.take_succ_cons, List.take_zero, List.drop_succ_cons, List.drop_zero]
      refine wpY_c (by rfl) (by (first | exact wanted_none rfl | exact wanted_some rfl rfl)) (by intro W _; first | (go_simp; rfl) | (go_simp; done) | (trace_state; fail)) ?_
      (simp only [Act.put, List.setIfInBounds_toArray, List.set_cons_succ, List.set_cons_zero])
      refine wpY_load1 (by rfl) (by rfl) (by (first | exact wanted_none rfl | exact wanted_some rfl rfl)) (by first | exact kPrl | exact kSll | exact kArl | exact kStr | exact kInt) (by rfl) (by (repeat (first | exact List.Mem.head _ | refine List.Mem.tail _ ?_ | assumption))) (by rfl) ?_
      (simp only [Act.put, List.setIfInBounds_toArray, List.set_cons_succ, List.set_cons_zero])
      refine wpY_c (by rfl) (by (first | exact wanted_none rfl | exact wanted_some rfl rfl)) (by intro W _; first | (go_simp; rfl) | (go_simp; done) | (trace_state; fail)) ?_
      (simp only [Act.put, List.setIfInBounds_toArray, List.set_cons_succ, List.set_cons_zero])
      refine wpY_c (by rfl) (by (first | exact wanted_none rfl | exact wanted_some rfl rfl)) (by intro W _; first | (go_simp; rfl) | (go_simp; done) | (trace_state; fail)) ?_
      (simp only [Act.put, List.setIfInBounds_toArray, List.set_cons_succ, List.set_cons_zero])
      refine wpY_load1 (by rfl) (by rfl) (by (first | exact wanted_none rfl | exact wanted_some rfl rfl)) (by first | exact kPrl | exact kSll | exact kArl | exact kStr | exact kInt) (by rfl) (by (repeat (first | exact List.Mem.head _ | refine List.Mem.tail _ ?_ | assumption))) (by rfl) ?_
      (simp only [Act.put, List.setIfInBounds_toArray, List.set_cons_succ, List.set_cons_zero])
      refine wpY_c (by rfl) (by (first | exact wanted_none rfl | exact wanted_some rfl rfl)) (by intro W _; first | (go_simp; rfl) | (go_simp; done) | (trace_state; fail)) ?_
      (simp only [Act.put, List.setIfInBounds_toArray, List.set_cons_succ, List.set_cons_zero])
      refine wpY_y (by rfl) (by (first | exact wanted_none rfl | exact wanted_some rfl rfl)) (fun G F W HF hG => ?_)
      go_simp
      unfold upY
      refine Calls.mono (nextH_any (m' := ((q6, 86, [.int .i64 0, .string ⟨#[]⟩, .string ⟨#[]⟩, .bool false, .string ⟨#[]⟩, .string ⟨#[]⟩, .int .i64 0, .slice none 0 0]) :: (q, 35, [.slice (some ⟨ga, 0, none⟩) na ca, .slice none 0 0, .slice (some ⟨gp, 0, none⟩) np cp, .slice (some ⟨gs, 0, none⟩) ns cc, .slice none 0 0, .bool false, .string ⟨#[]⟩, .string ⟨#[]⟩]) :: (b, 49, [S.sn.sn.sn.sn.v]) :: m) ++ F) S.sn.sn.sn b na HF (Lib.hid (HS.out.next.next.next)) (Lib.hid (by (repeat (first | apply Upd.head | apply Upd.tail | assumption)))) (by omega) (by omega)) ?_
      rintro _ W2 ⟨rfl, h2⟩
      refine ⟨_, rfl, hG _ _ ((q6, 86, [.int .i64 0, .string ⟨#[]⟩, .string ⟨#[]⟩, .bool false, .string ⟨#[]⟩, .string ⟨#[]⟩, .int .i64 0, .slice none 0 0]) :: (q, 35, [.slice (some ⟨ga, 0, none⟩) na ca, .slice none 0 0, .slice (some ⟨gp, 0, none⟩) np cp, .slice (some ⟨gs, 0, none⟩) ns cc, .slice none 0 0, .bool false, .string ⟨#[]⟩, .string ⟨#[]⟩]) :: (b, 49, [S.sn.sn.sn.sn.v]) :: m) h2 (by (repeat (first | exact List.Sublist.refl _ | exact List.sublist_append_right _ _ | refine List.Sublist.cons_cons _ ?_ | refine List.Sublist.cons _ ?_))) ?_⟩
      clear HF hG h2
      rw [HXA.out]
      (simp only [Act.put, List.setIfInBounds_toArray, List.set_cons_succ, List.set_cons_zero])
      refine wpY_c (by rfl) (by (first | exact wanted_none rfl | exact wanted_some rfl rfl)) (by intro W _; first | (go_simp; rfl) | (go_simp; done) | (trace_state; fail)) ?_
      (simp only [Act.put, List.setIfInBounds_toArray, List.set_cons_succ, List.set_cons_zero])
      refine wpY_c (by rfl) (by (first | exact wanted_none rfl | exact wanted_some rfl rfl)) (by intro W _; first | (go_simp; rfl) | (go_simp; done) | (trace_state; fail)) ?_
      (simp only [Act.put, List.setIfInBounds_toArray, List.set_cons_succ, List.set_cons_zero])
      refine wpY_loadX (by rfl) (by rfl) (by (first | exact wanted_none rfl | exact wanted_some rfl rfl)) kStr (by rfl) (by intro W HW; exact HRA.out _ (HW.out.hld (fun x hx => by have := HE.out x hx; simp only [List.mem_cons]; grind))) ?_
      (simp only [Act.put, List.setIfInBounds_toArray, List.set_cons_succ, List.set_cons_zero])
      refine wpY_c (by rfl) (by (first | exact wanted_none rfl | exact wanted_some rfl rfl)) (by intro W _; first | (go_simp; rfl) | (go_simp; done) | (trace_state; fail)) ?_
      (simp only [Act.put, List.setIfInBounds_toArray, List.set_cons_succ, List.set_cons_zero])
      refine wpY_nil ?_
      clear H
      intro _ H
      go_wp2_with (first
          | go_skip
          | ((with_reducible refine isAlloc ?_); refine alA H ?_ (hz := zStm8); clear H; intro q9 _ H)
          | ((with_reducible refine isStore ?_); refine stA H ?_ (hT := by first | exact rStm8 | exact rRat); clear H; intro _ H)
          | ((with_reducible refine isLoad ?_); refine ldA H ?_ (hT := by first | exact rStm8 | exact rWks)))
      exact bodyPost_ret (results_H H Tryz.results23 (by exact rStm8) rfl (by (repeat (first | exact List.Mem.head _ | refine List.Mem.tail _ ?_ | assumption))) (by rfl)) rfl ⟨⟨3, nmA, ⟨#[]⟩, none, 0, .slice none 0 0⟩, .mk 3 nmA ⟨#[]⟩ none 0 [], S.sn.sn.sn.sn, [], rfl, (Lib.hid (HS.out.next.next.next.next)).out, H.out.sub (by (repeat (first | exact List.Sublist.refl _ | exact List.sublist_append_right _ _ | refine List.Sublist.cons_cons _ ?_ | refine List.Sublist.cons _ ?_))), RSt.leaf _ ⟨small_i (x := 3) (by omega), small_i (x := 0) (by omega), an_sz HNA.out, empty_sz, SmO.none⟩, .inr (.inr (.inl ⟨rfl, HNA.out, rfl, rfl, rfl, rfl⟩))⟩
  · obtain ⟨iS, hxS⟩ : ∃ i : Nat, S.sn.sn.nx ns = i := ⟨(S.sn.sn.nx ns).toNat, by have := S.sn.sn.nx_bd ns (by omega); omega⟩
    have hiS : iS < ns := by have := S.sn.sn.nx_bd ns (by omega); omega
    have HXS := Lib.hid hxS
    obtain ⟨nmS, hnmS⟩ : ∃ x, ((slotN.take ns).map sltOf)[iS]? = some x := ⟨_, List.getElem?_eq_getElem (by rw [LS.out]; exact hiS)⟩
    obtain ⟨gS, cS, egS, hrS⟩ := RS.out.at_ Slt.len hnmS (by decide)
    injection egS with egS _ ecS
    injection egS with egS
    injection egS with egS
    subst egS
    have HRS : Hid (∀ W, Hld E0 W → W.cell? ⟨gs, iS * 14, none⟩ = some (.string nmS.nm)) := Lib.hid fun W hW => rangeAt_cell (hrS W hW)
    have HNS : Hid (nmS.nm ∈ slotN.take ns) := Lib.hid (by obtain ⟨y, hy, rfl⟩ := List.mem_map.1 (List.mem_of_getElem? hnmS); exact hy)
    clear hrS hnmS hxS ecS
    go_wp2_with (first
        | go_skip
        | ((with_reducible refine isAlloc ?_); refine alA H ?_ (hz := zStm8); clear H; intro q9 _ H)
        | ((with_reducible refine isStore ?_); refine stA H ?_ (hT := by first | exact rStm8 | exact rRat); clear H; intro _ H)
        | ((with_reducible refine isLoad ?_); refine ldA H ?_ (hT := by first | exact rStm8 | exact rWks)))
    refine wp_region_Y 13 [.c (.string nmP), .c (.pointer (some ⟨q, 3, none⟩)), .c (.slice (some ⟨gs, 0, none⟩) ns cc), .c (.pointer (some ⟨b, 0, none⟩)), .c (.pointer (some ⟨q, 3, none⟩)), .c (.slice (some ⟨gs, 0, none⟩) ns cc), .c (.int .i64 ns), .y, .c (.pointer (some ⟨gs, iS * 14, none⟩)), .c (.pointer (some ⟨gs, iS * 14, none⟩)), .c (.string nmS.nm), .c (.agg #[.int .i64 1, .string nmP, .string nmS.nm, .bool false, .string ⟨#[]⟩, .string ⟨#[]⟩, .int .i64 0, .slice none 0 0]), .a] ((q6, 86, [.int .i64 0, .string ⟨#[]⟩, .string ⟨#[]⟩, .bool false, .string ⟨#[]⟩, .string ⟨#[]⟩, .int .i64 0, .slice none 0 0]) :: (q, 35, [.slice (some ⟨ga, 0, none⟩) na ca, .slice none 0 0, .slice (some ⟨gp, 0, none⟩) np cp, .slice (some ⟨gs, 0, none⟩) ns cc, .slice none 0 0, .bool false, .string ⟨#[]⟩, .string ⟨#[]⟩]) :: m) H (by (repeat (first | exact List.Sublist.refl _ | exact List.sublist_append_right _ _ | refine List.Sublist.cons_cons _ ?_ | refine List.Sublist.cons _ ?_))) (by kernel_rfl) (by kernel_rfl) (by kernel_rfl) ?_
    simp only [List.take_succ_cons, List.take_zero, List.drop_succ_cons, List.drop_zero]
    refine wpY_c (by rfl) (by (first | exact wanted_none rfl | exact wanted_some rfl rfl)) (by intro W _; first | (go_simp; rfl) | (go_simp; done) | (trace_state; fail)) ?_
    (simp only [Act.put, List.setIfInBounds_toArray, List.set_cons_succ, List.set_cons_zero])
    refine wpY_c (by rfl) (by (first | exact wanted_none rfl | exact wanted_some rfl rfl)) (by intro W _; first | (go_simp; rfl) | (go_simp; done) | (trace_state; fail)) ?_
    (simp only [Act.put, List.setIfInBounds_toArray, List.set_cons_succ, List.set_cons_zero])
    refine wpY_load1 (by rfl) (by rfl) (by (first | exact wanted_none rfl | exact wanted_some rfl rfl)) (by first | exact kPrl | exact kSll | exact kArl | exact kStr | exact kInt) (by rfl) (by (repeat (first | exact List.Mem.head _ | refine List.Mem.tail _ ?_ | assumption))) (by rfl) ?_
    (simp only [Act.put, List.setIfInBounds_toArray, List.set_cons_succ, List.set_cons_zero])
    refine wpY_c (by rfl) (by (first | exact wanted_none rfl | exact wanted_some rfl rfl)) (by intro W _; first | (go_simp; rfl) | (go_simp; done) | (trace_state; fail)) ?_
    (simp only [Act.put, List.setIfInBounds_toArray, List.set_cons_succ, List.set_cons_zero])
    refine wpY_c (by rfl) (by (first | exact wanted_none rfl | exact wanted_some rfl rfl)) (by intro W _; first | (go_simp; rfl) | (go_simp; done) | (trace_state; fail)) ?_
    (simp only [Act.put, List.setIfInBounds_toArray, List.set_cons_succ, List.set_cons_zero])
    refine wpY_load1 (by rfl) (by rfl) (by (first | exact wanted_none rfl | exact wanted_some rfl rfl)) (by first | exact kPrl | exact kSll | exact kArl | exact kStr | exact kInt) (by rfl) (by (repeat (first | exact List.Mem.head _ | refine List.Mem.tail _ ?_ | assumption))) (by rfl) ?_
    (simp only [Act.put, List.setIfInBounds_toArray, List.set_cons_succ, List.set_cons_zero])
    refine wpY_c (by rfl) (by (first | exact wanted_none rfl | exact wanted_some rfl rfl)) (by intro W _; first | (go_simp; rfl) | (go_simp; done) | (trace_state; fail)) ?_
    (simp only [Act.put, List.setIfInBounds_toArray, List.set_cons_succ, List.set_cons_zero])
    refine wpY_y (by rfl) (by (first | exact wanted_none rfl | exact wanted_some rfl rfl)) (fun G F W HF hG => ?_)
    go_simp
    unfold upY
    refine Calls.mono (nextH_any (m' := ((q6, 86, [.int .i64 0, .string ⟨#[]⟩, .string ⟨#[]⟩, .bool false, .string ⟨#[]⟩, .string ⟨#[]⟩, .int .i64 0, .slice none 0 0]) :: (q, 35, [.slice (some ⟨ga, 0, none⟩) na ca, .slice none 0 0, .slice (some ⟨gp, 0, none⟩) np cp, .slice (some ⟨gs, 0, none⟩) ns cc, .slice none 0 0, .bool false, .string ⟨#[]⟩, .string ⟨#[]⟩]) :: (b, 49, [S.sn.sn.sn.v]) :: m) ++ F) S.sn.sn b ns HF (Lib.hid (HS.out.next.next)) (Lib.hid (by (repeat (first | apply Upd.head | apply Upd.tail | assumption)))) (by omega) (by omega)) ?_
    rintro _ W2 ⟨rfl, h2⟩
    refine ⟨_, rfl, hG _ _ ((q6, 86, [.int .i64 0, .string ⟨#[]⟩, .string ⟨#[]⟩, .bool false, .string ⟨#[]⟩, .string ⟨#[]⟩, .int .i64 0, .slice none 0 0]) :: (q, 35, [.slice (some ⟨ga, 0, none⟩) na ca, .slice none 0 0, .slice (some ⟨gp, 0, none⟩) np cp, .slice (some ⟨gs, 0, none⟩) ns cc, .slice none 0 0, .bool false, .string ⟨#[]⟩, .string ⟨#[]⟩]) :: (b, 49, [S.sn.sn.sn.v]) :: m) h2 (by (repeat (first | exact List.Sublist.refl _ | exact List.sublist_append_right _ _ | refine List.Sublist.cons_cons _ ?_ | refine List.Sublist.cons _ ?_))) ?_⟩
    clear HF hG h2
    rw [HXS.out]
    (simp only [Act.put, List.setIfInBounds_toArray, List.set_cons_succ, List.set_cons_zero])
    refine wpY_c (by rfl) (by (first | exact wanted_none rfl | exact wanted_some rfl rfl)) (by intro W _; first | (go_simp; rfl) | (go_simp; done) | (trace_state; fail)) ?_
    (simp only [Act.put, List.setIfInBounds_toArray, List.set_cons_succ, List.set_cons_zero])
    refine wpY_c (by rfl) (by (first | exact wanted_none rfl | exact wanted_some rfl rfl)) (by intro W _; first | (go_simp; rfl) | (go_simp; done) | (trace_state; fail)) ?_
    (simp only [Act.put, List.setIfInBounds_toArray, List.set_cons_succ, List.set_cons_zero])
    refine wpY_loadX (by rfl) (by rfl) (by (first | exact wanted_none rfl | exact wanted_some rfl rfl)) kStr (by rfl) (by intro W HW; exact HRS.out _ (HW.out.hld (fun x hx => by have := HE.out x hx; simp only [List.mem_cons]; grind))) ?_
    (simp only [Act.put, List.setIfInBounds_toArray, List.set_cons_succ, List.set_cons_zero])
    refine wpY_c (by rfl) (by (first | exact wanted_none rfl | exact wanted_some rfl rfl)) (by intro W _; first | (go_simp; rfl) | (go_simp; done) | (trace_state; fail)) ?_
    (simp only [Act.put, List.setIfInBounds_toArray, List.set_cons_succ, List.set_cons_zero])
    refine wpY_al (by rfl) (by rfl) (by rfl) zStm8 (by (simp only [Value.cells]; rfl)) ?_
    intro q9
    (simp only [Act.put, List.setIfInBounds_toArray, List.set_cons_succ, List.set_cons_zero])
    refine wpY_nil ?_
    clear H
    intro _ H
    go_wp2_with (first
        | go_skip
        | ((with_reducible refine isAlloc ?_); refine alA H ?_ (hz := zStm8); clear H; intro q9 _ H)
        | ((with_reducible refine isStore ?_); refine stA H ?_ (hT := by first | exact rStm8 | exact rRat); clear H; intro _ H)
        | ((with_reducible refine isLoad ?_); refine ldA H ?_ (hT := by first | exact rStm8 | exact rWks)))
    obtain ⟨x3, hx3⟩ : ∃ r, S.sn.sn.sn.nx 3 = r := ⟨_, rfl⟩
    have hbx3 := S.sn.sn.sn.nx_bd 3 (by omega)
    rw [hx3] at hbx3
    obtain ⟨hbx30, hbx31⟩ := hbx3
    have HVx3 := Lib.hid hx3
    clear hx3
    go_at_call 12
    refine Calls.mono (nextH_any S.sn.sn.sn b 3 H (Lib.hid (HS.out.next.next.next)) (Lib.hid (by (repeat (first | apply Upd.head | apply Upd.tail | assumption)))) (by omega) (by omega)) ?_
    rintro _ _ ⟨rfl, h2⟩
    replace H := Lib.hid h2
    clear h2
    rw [HVx3.out]
    by_cases h3 : x3 = 0
    · subst h3
      go_wp2_with (first
          | go_skip
          | ((with_reducible refine isAlloc ?_); refine alA H ?_ (hz := zStm8); clear H; intro q9 _ H)
          | ((with_reducible refine isStore ?_); refine stA H ?_ (hT := by first | exact rStm8 | exact rRat); clear H; intro _ H)
          | ((with_reducible refine isLoad ?_); refine ldA H ?_ (hT := by first | exact rStm8 | exact rWks)))
      obtain ⟨r5, hr5⟩ : ∃ r, S.sn.sn.sn.sn.nx 5 = r := ⟨_, rfl⟩
      have hbr5 := S.sn.sn.sn.sn.nx_bd 5 (by omega)
      rw [hr5] at hbr5
      obtain ⟨hbr50, hbr51⟩ := hbr5
      have HVr5 := Lib.hid hr5
      clear hr5
      obtain ⟨D, hD⟩ : ∃ D : Nat, 4 + r5 = (D : Int) := ⟨(4 + r5).toNat, by omega⟩
      have hD4 : 4 ≤ D := by omega
      have hD8 : D ≤ 8 := by omega
      go_at_call 12
      refine Calls.mono (nextH_any S.sn.sn.sn.sn b 5 H (Lib.hid (HS.out.next.next.next.next)) (Lib.hid (by (repeat (first | apply Upd.head | apply Upd.tail | assumption)))) (by omega) (by omega)) ?_
      rintro _ _ ⟨rfl, h2⟩
      replace H := Lib.hid h2
      clear h2
      rw [HVr5.out]
      go_wp2_with (first
          | go_skip
          | ((with_reducible refine isAlloc ?_); refine alA H ?_ (hz := zStm8); clear H; intro q9 _ H)
          | ((with_reducible refine isStore ?_); refine stA H ?_ (hT := by first | exact rStm8 | exact rRat); clear H; intro _ H)
          | ((with_reducible refine isLoad ?_); refine ldA H ?_ (hT := by first | exact rStm8 | exact rWks)))
      obtain ⟨q0, hq0⟩ : ∃ x, ofQ 1 D = x := ⟨_, rfl⟩
      have HQ := Lib.hid hq0
      go_at_call 13
      refine Calls.mono (ofQ_any 1 D q0 _ (by decide) (by decide) (by omega) (by omega) HQ) ?_
      rintro _ _ ⟨rfl, hb⟩
      replace H := Lib.hid (H.out.go hb)
      clear hb hq0 hD
      go_wp2_with (first
          | go_skip
          | ((with_reducible refine isAlloc ?_); refine alA H ?_ (hz := zStm8); clear H; intro q9 _ H)
          | ((with_reducible refine isStore ?_); refine stA H ?_ (hT := by first | exact rStm8 | exact rRat); clear H; intro _ H)
          | ((with_reducible refine isLoad ?_); refine ldA H ?_ (hT := by first | exact rStm8 | exact rWks)))
      exact bodyPost_ret (results_H H Tryz.results23 (by exact rStm8) rfl (by (repeat (first | exact List.Mem.head _ | refine List.Mem.tail _ ?_ | assumption))) (by rfl)) rfl ⟨⟨1, nmP, nmS.nm, (some q0), 0, .slice none 0 0⟩, .mk 1 nmP nmS.nm (some q0) 0 [], S.sn.sn.sn.sn.sn, [], rfl, (Lib.hid (HS.out.next.next.next.next.next)).out, H.out.sub (by (repeat (first | exact List.Sublist.refl _ | exact List.sublist_append_right _ _ | refine List.Sublist.cons_cons _ ?_ | refine List.Sublist.cons _ ?_))), RSt.leaf _ ⟨small_i (x := 1) (by omega), small_i (x := 0) (by omega), pn_sz HNP.out, sn_sz HNS.out, by rw [← HQ.out]; exact ofq_sm D hD4 hD8⟩, .inl ⟨rfl, HNP.out, HNS.out, .inr ⟨D, hD4, hD8, by rw [← HQ.out]; rfl⟩, rfl, rfl⟩⟩
    · have x30p : ¬ (x3 = 0) := h3
      have x30d : decide (x3 = 0) = false := decide_eq_false x30p
      go_wp2_with (first
          | go_skip
          | ((with_reducible refine isAlloc ?_); refine alA H ?_ (hz := zStm8); clear H; intro q9 _ H)
          | ((with_reducible refine isStore ?_); refine stA H ?_ (hT := by first | exact rStm8 | exact rRat); clear H; intro _ H)
          | ((with_reducible refine isLoad ?_); refine ldA H ?_ (hT := by first | exact rStm8 | exact rWks)))
      exact bodyPost_ret (results_H H Tryz.results23 (by exact rStm8) rfl (by (repeat (first | exact List.Mem.head _ | refine List.Mem.tail _ ?_ | assumption))) (by rfl)) rfl ⟨⟨1, nmP, nmS.nm, none, 0, .slice none 0 0⟩, .mk 1 nmP nmS.nm none 0 [], S.sn.sn.sn.sn, [], rfl, (Lib.hid (HS.out.next.next.next.next)).out, H.out.sub (by (repeat (first | exact List.Sublist.refl _ | exact List.sublist_append_right _ _ | refine List.Sublist.cons_cons _ ?_ | refine List.Sublist.cons _ ?_))), RSt.leaf _ ⟨small_i (x := 1) (by omega), small_i (x := 0) (by omega), pn_sz HNP.out, sn_sz HNS.out, SmO.none⟩, .inl ⟨rfl, HNP.out, HNS.out, .inl rfl, rfl, rfl⟩⟩
  · obtain ⟨iS, hxS⟩ : ∃ i : Nat, S.sn.sn.nx ns = i := ⟨(S.sn.sn.nx ns).toNat, by have := S.sn.sn.nx_bd ns (by omega); omega⟩
    have hiS : iS < ns := by have := S.sn.sn.nx_bd ns (by omega); omega
    have HXS := Lib.hid hxS
    obtain ⟨nmS, hnmS⟩ : ∃ x, ((slotN.take ns).map sltOf)[iS]? = some x := ⟨_, List.getElem?_eq_getElem (by rw [LS.out]; exact hiS)⟩
    obtain ⟨gS, cS, egS, hrS⟩ := RS.out.at_ Slt.len hnmS (by decide)
    injection egS with egS _ ecS
    injection egS with egS
    injection egS with egS
    subst egS
    have HRS : Hid (∀ W, Hld E0 W → W.cell? ⟨gs, iS * 14, none⟩ = some (.string nmS.nm)) := Lib.hid fun W hW => rangeAt_cell (hrS W hW)
    have HNS : Hid (nmS.nm ∈ slotN.take ns) := Lib.hid (by obtain ⟨y, hy, rfl⟩ := List.mem_map.1 (List.mem_of_getElem? hnmS); exact hy)
    clear hrS hnmS hxS ecS
    go_wp2_with (first
        | go_skip
        | ((with_reducible refine isAlloc ?_); refine alA H ?_ (hz := zStm8); clear H; intro q9 _ H)
        | ((with_reducible refine isStore ?_); refine stA H ?_ (hT := by first | exact rStm8 | exact rRat); clear H; intro _ H)
        | ((with_reducible refine isLoad ?_); refine ldA H ?_ (hT := by first | exact rStm8 | exact rWks)))
    refine wp_region_Y 13 [.c (.string nmP), .c (.pointer (some ⟨q, 3, none⟩)), .c (.slice (some ⟨gs, 0, none⟩) ns cc), .c (.pointer (some ⟨b, 0, none⟩)), .c (.pointer (some ⟨q, 3, none⟩)), .c (.slice (some ⟨gs, 0, none⟩) ns cc), .c (.int .i64 ns), .y, .c (.pointer (some ⟨gs, iS * 14, none⟩)), .c (.pointer (some ⟨gs, iS * 14, none⟩)), .c (.string nmS.nm), .c (.agg #[.int .i64 1, .string nmP, .string nmS.nm, .bool false, .string ⟨#[]⟩, .string ⟨#[]⟩, .int .i64 0, .slice none 0 0]), .a] ((q6, 86, [.int .i64 0, .string ⟨#[]⟩, .string ⟨#[]⟩, .bool false, .string ⟨#[]⟩, .string ⟨#[]⟩, .int .i64 0, .slice none 0 0]) :: (q, 35, [.slice (some ⟨ga, 0, none⟩) na ca, .slice none 0 0, .slice (some ⟨gp, 0, none⟩) np cp, .slice (some ⟨gs, 0, none⟩) ns cc, .slice none 0 0, .bool false, .string ⟨#[]⟩, .string ⟨#[]⟩]) :: m) H (by (repeat (first | exact List.Sublist.refl _ | exact List.sublist_append_right _ _ | refine List.Sublist.cons_cons _ ?_ | refine List.Sublist.cons _ ?_))) (by kernel_rfl) (by kernel_rfl) (by kernel_rfl) ?_
    simp only [List.take_succ_cons, List.take_zero, List.drop_succ_cons, List.drop_zero]
    refine wpY_c (by rfl) (by (first | exact wanted_none rfl | exact wanted_some rfl rfl)) (by intro W _; first | (go_simp; rfl) | (go_simp; done) | (trace_state; fail)) ?_
    (simp only [Act.put, List.setIfInBounds_toArray, List.set_cons_succ, List.set_cons_zero])
    refine wpY_c (by rfl) (by (first | exact wanted_none rfl | exact wanted_some rfl rfl)) (by intro W _; first | (go_simp; rfl) | (go_simp; done) | (trace_state; fail)) ?_
    (simp only [Act.put, List.setIfInBounds_toArray, List.set_cons_succ, List.set_cons_zero])
    refine wpY_load1 (by rfl) (by rfl) (by (first | exact wanted_none rfl | exact wanted_some rfl rfl)) (by first | exact kPrl | exact kSll | exact kArl | exact kStr | exact kInt) (by rfl) (by (repeat (first | exact List.Mem.head _ | refine List.Mem.tail _ ?_ | assumption))) (by rfl) ?_
    (simp only [Act.put, List.setIfInBounds_toArray, List.set_cons_succ, List.set_cons_zero])
    refine wpY_c (by rfl) (by (first | exact wanted_none rfl | exact wanted_some rfl rfl)) (by intro W _; first | (go_simp; rfl) | (go_simp; done) | (trace_state; fail)) ?_
    (simp only [Act.put, List.setIfInBounds_toArray, List.set_cons_succ, List.set_cons_zero])
    refine wpY_c (by rfl) (by (first | exact wanted_none rfl | exact wanted_some rfl rfl)) (by intro W _; first | (go_simp; rfl) | (go_simp; done) | (trace_state; fail)) ?_
    (simp only [Act.put, List.setIfInBounds_toArray, List.set_cons_succ, List.set_cons_zero])
    refine wpY_load1 (by rfl) (by rfl) (by (first | exact wanted_none rfl | exact wanted_some rfl rfl)) (by first | exact kPrl | exact kSll | exact kArl | exact kStr | exact kInt) (by rfl) (by (repeat (first | exact List.Mem.head _ | refine List.Mem.tail _ ?_ | assumption))) (by rfl) ?_
    (simp only [Act.put, List.setIfInBounds_toArray, List.set_cons_succ, List.set_cons_zero])
    refine wpY_c (by rfl) (by (first | exact wanted_none rfl | exact wanted_some rfl rfl)) (by intro W _; first | (go_simp; rfl) | (go_simp; done) | (trace_state; fail)) ?_
    (simp only [Act.put, List.setIfInBounds_toArray, List.set_cons_succ, List.set_cons_zero])
    refine wpY_y (by rfl) (by (first | exact wanted_none rfl | exact wanted_some rfl rfl)) (fun G F W HF hG => ?_)
    go_simp
    unfold upY
    refine Calls.mono (nextH_any (m' := ((q6, 86, [.int .i64 0, .string ⟨#[]⟩, .string ⟨#[]⟩, .bool false, .string ⟨#[]⟩, .string ⟨#[]⟩, .int .i64 0, .slice none 0 0]) :: (q, 35, [.slice (some ⟨ga, 0, none⟩) na ca, .slice none 0 0, .slice (some ⟨gp, 0, none⟩) np cp, .slice (some ⟨gs, 0, none⟩) ns cc, .slice none 0 0, .bool false, .string ⟨#[]⟩, .string ⟨#[]⟩]) :: (b, 49, [S.sn.sn.sn.v]) :: m) ++ F) S.sn.sn b ns HF (Lib.hid (HS.out.next.next)) (Lib.hid (by (repeat (first | apply Upd.head | apply Upd.tail | assumption)))) (by omega) (by omega)) ?_
    rintro _ W2 ⟨rfl, h2⟩
    refine ⟨_, rfl, hG _ _ ((q6, 86, [.int .i64 0, .string ⟨#[]⟩, .string ⟨#[]⟩, .bool false, .string ⟨#[]⟩, .string ⟨#[]⟩, .int .i64 0, .slice none 0 0]) :: (q, 35, [.slice (some ⟨ga, 0, none⟩) na ca, .slice none 0 0, .slice (some ⟨gp, 0, none⟩) np cp, .slice (some ⟨gs, 0, none⟩) ns cc, .slice none 0 0, .bool false, .string ⟨#[]⟩, .string ⟨#[]⟩]) :: (b, 49, [S.sn.sn.sn.v]) :: m) h2 (by (repeat (first | exact List.Sublist.refl _ | exact List.sublist_append_right _ _ | refine List.Sublist.cons_cons _ ?_ | refine List.Sublist.cons _ ?_))) ?_⟩
    clear HF hG h2
    rw [HXS.out]
    (simp only [Act.put, List.setIfInBounds_toArray, List.set_cons_succ, List.set_cons_zero])
    refine wpY_c (by rfl) (by (first | exact wanted_none rfl | exact wanted_some rfl rfl)) (by intro W _; first | (go_simp; rfl) | (go_simp; done) | (trace_state; fail)) ?_
    (simp only [Act.put, List.setIfInBounds_toArray, List.set_cons_succ, List.set_cons_zero])
    refine wpY_c (by rfl) (by (first | exact wanted_none rfl | exact wanted_some rfl rfl)) (by intro W _; first | (go_simp; rfl) | (go_simp; done) | (trace_state; fail)) ?_
    (simp only [Act.put, List.setIfInBounds_toArray, List.set_cons_succ, List.set_cons_zero])
    refine wpY_loadX (by rfl) (by rfl) (by (first | exact wanted_none rfl | exact wanted_some rfl rfl)) kStr (by rfl) (by intro W HW; exact HRS.out _ (HW.out.hld (fun x hx => by have := HE.out x hx; simp only [List.mem_cons]; grind))) ?_
    (simp only [Act.put, List.setIfInBounds_toArray, List.set_cons_succ, List.set_cons_zero])
    refine wpY_c (by rfl) (by (first | exact wanted_none rfl | exact wanted_some rfl rfl)) (by intro W _; first | (go_simp; rfl) | (go_simp; done) | (trace_state; fail)) ?_
    (simp only [Act.put, List.setIfInBounds_toArray, List.set_cons_succ, List.set_cons_zero])
    refine wpY_al (by rfl) (by rfl) (by rfl) zStm8 (by (simp only [Value.cells]; rfl)) ?_
    intro q9
    (simp only [Act.put, List.setIfInBounds_toArray, List.set_cons_succ, List.set_cons_zero])
    refine wpY_nil ?_
    clear H
    intro _ H
    go_wp2_with (first
        | go_skip
        | ((with_reducible refine isAlloc ?_); refine alA H ?_ (hz := zStm8); clear H; intro q9 _ H)
        | ((with_reducible refine isStore ?_); refine stA H ?_ (hT := by first | exact rStm8 | exact rRat); clear H; intro _ H)
        | ((with_reducible refine isLoad ?_); refine ldA H ?_ (hT := by first | exact rStm8 | exact rWks)))
    obtain ⟨x3, hx3⟩ : ∃ r, S.sn.sn.sn.nx 3 = r := ⟨_, rfl⟩
    have hbx3 := S.sn.sn.sn.nx_bd 3 (by omega)
    rw [hx3] at hbx3
    obtain ⟨hbx30, hbx31⟩ := hbx3
    have HVx3 := Lib.hid hx3
    clear hx3
    go_at_call 12
    refine Calls.mono (nextH_any S.sn.sn.sn b 3 H (Lib.hid (HS.out.next.next.next)) (Lib.hid (by (repeat (first | apply Upd.head | apply Upd.tail | assumption)))) (by omega) (by omega)) ?_
    rintro _ _ ⟨rfl, h2⟩
    replace H := Lib.hid h2
    clear h2
    rw [HVx3.out]
    by_cases h3 : x3 = 0
    · subst h3
      go_wp2_with (first
          | go_skip
          | ((with_reducible refine isAlloc ?_); refine alA H ?_ (hz := zStm8); clear H; intro q9 _ H)
          | ((with_reducible refine isStore ?_); refine stA H ?_ (hT := by first | exact rStm8 | exact rRat); clear H; intro _ H)
          | ((with_reducible refine isLoad ?_); refine ldA H ?_ (hT := by first | exact rStm8 | exact rWks)))
      obtain ⟨r5, hr5⟩ : ∃ r, S.sn.sn.sn.sn.nx 5 = r := ⟨_, rfl⟩
      have hbr5 := S.sn.sn.sn.sn.nx_bd 5 (by omega)
      rw [hr5] at hbr5
      obtain ⟨hbr50, hbr51⟩ := hbr5
      have HVr5 := Lib.hid hr5
      clear hr5
      obtain ⟨D, hD⟩ : ∃ D : Nat, 4 + r5 = (D : Int) := ⟨(4 + r5).toNat, by omega⟩
      have hD4 : 4 ≤ D := by omega
      have hD8 : D ≤ 8 := by omega
      go_at_call 12
      refine Calls.mono (nextH_any S.sn.sn.sn.sn b 5 H (Lib.hid (HS.out.next.next.next.next)) (Lib.hid (by (repeat (first | apply Upd.head | apply Upd.tail | assumption)))) (by omega) (by omega)) ?_
      rintro _ _ ⟨rfl, h2⟩
      replace H := Lib.hid h2
      clear h2
      rw [HVr5.out]
      go_wp2_with (first
          | go_skip
          | ((with_reducible refine isAlloc ?_); refine alA H ?_ (hz := zStm8); clear H; intro q9 _ H)
          | ((with_reducible refine isStore ?_); refine stA H ?_ (hT := by first | exact rStm8 | exact rRat); clear H; intro _ H)
          | ((with_reducible refine isLoad ?_); refine ldA H ?_ (hT := by first | exact rStm8 | exact rWks)))
      obtain ⟨q0, hq0⟩ : ∃ x, ofQ 1 D = x := ⟨_, rfl⟩
      have HQ := Lib.hid hq0
      go_at_call 13
      refine Calls.mono (ofQ_any 1 D q0 _ (by decide) (by decide) (by omega) (by omega) HQ) ?_
      rintro _ _ ⟨rfl, hb⟩
      replace H := Lib.hid (H.out.go hb)
      clear hb hq0 hD
      go_wp2_with (first
          | go_skip
          | ((with_reducible refine isAlloc ?_); refine alA H ?_ (hz := zStm8); clear H; intro q9 _ H)
          | ((with_reducible refine isStore ?_); refine stA H ?_ (hT := by first | exact rStm8 | exact rRat); clear H; intro _ H)
          | ((with_reducible refine isLoad ?_); refine ldA H ?_ (hT := by first | exact rStm8 | exact rWks)))
      exact bodyPost_ret (results_H H Tryz.results23 (by exact rStm8) rfl (by (repeat (first | exact List.Mem.head _ | refine List.Mem.tail _ ?_ | assumption))) (by rfl)) rfl ⟨⟨1, nmP, nmS.nm, (some q0), 0, .slice none 0 0⟩, .mk 1 nmP nmS.nm (some q0) 0 [], S.sn.sn.sn.sn.sn, [], rfl, (Lib.hid (HS.out.next.next.next.next.next)).out, H.out.sub (by (repeat (first | exact List.Sublist.refl _ | exact List.sublist_append_right _ _ | refine List.Sublist.cons_cons _ ?_ | refine List.Sublist.cons _ ?_))), RSt.leaf _ ⟨small_i (x := 1) (by omega), small_i (x := 0) (by omega), pn_sz HNP.out, sn_sz HNS.out, by rw [← HQ.out]; exact ofq_sm D hD4 hD8⟩, .inl ⟨rfl, HNP.out, HNS.out, .inr ⟨D, hD4, hD8, by rw [← HQ.out]; rfl⟩, rfl, rfl⟩⟩
    · have x30p : ¬ (x3 = 0) := h3
      have x30d : decide (x3 = 0) = false := decide_eq_false x30p
      go_wp2_with (first
          | go_skip
          | ((with_reducible refine isAlloc ?_); refine alA H ?_ (hz := zStm8); clear H; intro q9 _ H)
          | ((with_reducible refine isStore ?_); refine stA H ?_ (hT := by first | exact rStm8 | exact rRat); clear H; intro _ H)
          | ((with_reducible refine isLoad ?_); refine ldA H ?_ (hT := by first | exact rStm8 | exact rWks)))
      exact bodyPost_ret (results_H H Tryz.results23 (by exact rStm8) rfl (by (repeat (first | exact List.Mem.head _ | refine List.Mem.tail _ ?_ | assumption))) (by rfl)) rfl ⟨⟨1, nmP, nmS.nm, none, 0, .slice none 0 0⟩, .mk 1 nmP nmS.nm none 0 [], S.sn.sn.sn.sn, [], rfl, (Lib.hid (HS.out.next.next.next.next)).out, H.out.sub (by (repeat (first | exact List.Sublist.refl _ | exact List.sublist_append_right _ _ | refine List.Sublist.cons_cons _ ?_ | refine List.Sublist.cons _ ?_))), RSt.leaf _ ⟨small_i (x := 1) (by omega), small_i (x := 0) (by omega), pn_sz HNP.out, sn_sz HNS.out, SmO.none⟩, .inl ⟨rfl, HNP.out, HNS.out, .inl rfl, rfl, rfl⟩⟩
  · obtain ⟨iA, hxA⟩ : ∃ i : Nat, S.sn.sn.nx na = i := ⟨(S.sn.sn.nx na).toNat, by have := S.sn.sn.nx_bd na (by omega); omega⟩
    have hiA : iA < na := by have := S.sn.sn.nx_bd na (by omega); omega
    have HXA := Lib.hid hxA
    obtain ⟨nmA, hnmA⟩ : ∃ x, (armN.take na)[iA]? = some x := ⟨_, List.getElem?_eq_getElem (by rw [LA.out]; exact hiA)⟩
    obtain ⟨gA, cA, egA, hrA⟩ := RA.out.at_ armC_len hnmA (by decide)
    injection egA with egA _ ecA
    injection egA with egA
    injection egA with egA
    subst egA
    have HRA : Hid (∀ W, Hld E0 W → W.cell? ⟨ga, iA * 12, none⟩ = some (.string nmA)) := Lib.hid fun W hW => rangeAt_cell (hrA W hW)
    have HNA : Hid (nmA ∈ armN.take na) := Lib.hid (by exact List.mem_of_getElem? hnmA)
    clear hrA hnmA hxA ecA
    go_wp2_with (first
        | go_skip
        | ((with_reducible refine isAlloc ?_); refine alA H ?_ (hz := zStm8); clear H; intro q9 _ H)
        | ((with_reducible refine isStore ?_); refine stA H ?_ (hT := by first | exact rStm8 | exact rRat); clear H; intro _ H)
        | ((with_reducible refine isLoad ?_); refine ldA H ?_ (hT := by first | exact rStm8 | exact rWks)))
    refine wp_region_Y 12 [.c (.string nmP), .c (.pointer (some ⟨q, 0, none⟩)), .c (.slice (some ⟨ga, 0, none⟩) na ca), .c (.pointer (some ⟨b, 0, none⟩)), .c (.pointer (some ⟨q, 0, none⟩)), .c (.slice (some ⟨ga, 0, none⟩) na ca), .c (.int .i64 na), .y, .c (.pointer (some ⟨ga, iA * 12, none⟩)), .c (.pointer (some ⟨ga, iA * 12, none⟩)), .c (.string nmA), .c (.agg #[.int .i64 2, .string nmP, .string nmA, .bool false, .string ⟨#[]⟩, .string ⟨#[]⟩, .int .i64 0, .slice none 0 0])] ((q6, 86, [.int .i64 0, .string ⟨#[]⟩, .string ⟨#[]⟩, .bool false, .string ⟨#[]⟩, .string ⟨#[]⟩, .int .i64 0, .slice none 0 0]) :: (q, 35, [.slice (some ⟨ga, 0, none⟩) na ca, .slice none 0 0, .slice (some ⟨gp, 0, none⟩) np cp, .slice (some ⟨gs, 0, none⟩) ns cc, .slice none 0 0, .bool false, .string ⟨#[]⟩, .string ⟨#[]⟩]) :: m) H (by (repeat (first | exact List.Sublist.refl _ | exact List.sublist_append_right _ _ | refine List.Sublist.cons_cons _ ?_ | refine List.Sublist.cons _ ?_))) (by kernel_rfl) (by kernel_rfl) (by kernel_rfl) ?_
    simp only [List.take_succ_cons, List.take_zero, List.drop_succ_cons, List.drop_zero]
    refine wpY_c (by rfl) (by (first | exact wanted_none rfl | exact wanted_some rfl rfl)) (by intro W _; first | (go_simp; rfl) | (go_simp; done) | (trace_state; fail)) ?_
    (simp only [Act.put, List.setIfInBounds_toArray, List.set_cons_succ, List.set_cons_zero])
    refine wpY_c (by rfl) (by (first | exact wanted_none rfl | exact wanted_some rfl rfl)) (by intro W _; first | (go_simp; rfl) | (go_simp; done) | (trace_state; fail)) ?_
    (simp only [Act.put, List.setIfInBounds_toArray, List.set_cons_succ, List.set_cons_zero])
    refine wpY_load1 (by rfl) (by rfl) (by (first | exact wanted_none rfl | exact wanted_some rfl rfl)) (by first | exact kPrl | exact kSll | exact kArl | exact kStr | exact kInt) (by rfl) (by (repeat (first | exact List.Mem.head _ | refine List.Mem.tail _ ?_ | assumption))) (by rfl) ?_
    (simp only [Act.put, List.setIfInBounds_toArray, List.set_cons_succ, List.set_cons_zero])
    refine wpY_c (by rfl) (by (first | exact wanted_none rfl | exact wanted_some rfl rfl)) (by intro W _; first | (go_simp; rfl) | (go_simp; done) | (trace_state; fail)) ?_
    (simp only [Act.put, List.setIfInBounds_toArray, List.set_cons_succ, List.set_cons_zero])
    refine wpY_c (by rfl) (by (first | exact wanted_none rfl | exact wanted_some rfl rfl)) (by intro W _; first | (go_simp; rfl) | (go_simp; done) | (trace_state; fail)) ?_
    (simp only [Act.put, List.setIfInBounds_toArray, List.set_cons_succ, List.set_cons_zero])
    refine wpY_load1 (by rfl) (by rfl) (by (first | exact wanted_none rfl | exact wanted_some rfl rfl)) (by first | exact kPrl | exact kSll | exact kArl | exact kStr | exact kInt) (by rfl) (by (repeat (first | exact List.Mem.head _ | refine List.Mem.tail _ ?_ | assumption))) (by rfl) ?_
    (simp only [Act.put, List.setIfInBounds_toArray, List.set_cons_succ, List.set_cons_zero])
    refine wpY_c (by rfl) (by (first | exact wanted_none rfl | exact wanted_some rfl rfl)) (by intro W _; first | (go_simp; rfl) | (go_simp; done) | (trace_state; fail)) ?_
    (simp only [Act.put, List.setIfInBounds_toArray, List.set_cons_succ, List.set_cons_zero])
    refine wpY_y (by rfl) (by (first | exact wanted_none rfl | exact wanted_some rfl rfl)) (fun G F W HF hG => ?_)
    go_simp
    unfold upY
    refine Calls.mono (nextH_any (m' := ((q6, 86, [.int .i64 0, .string ⟨#[]⟩, .string ⟨#[]⟩, .bool false, .string ⟨#[]⟩, .string ⟨#[]⟩, .int .i64 0, .slice none 0 0]) :: (q, 35, [.slice (some ⟨ga, 0, none⟩) na ca, .slice none 0 0, .slice (some ⟨gp, 0, none⟩) np cp, .slice (some ⟨gs, 0, none⟩) ns cc, .slice none 0 0, .bool false, .string ⟨#[]⟩, .string ⟨#[]⟩]) :: (b, 49, [S.sn.sn.sn.v]) :: m) ++ F) S.sn.sn b na HF (Lib.hid (HS.out.next.next)) (Lib.hid (by (repeat (first | apply Upd.head | apply Upd.tail | assumption)))) (by omega) (by omega)) ?_
    rintro _ W2 ⟨rfl, h2⟩
    refine ⟨_, rfl, hG _ _ ((q6, 86, [.int .i64 0, .string ⟨#[]⟩, .string ⟨#[]⟩, .bool false, .string ⟨#[]⟩, .string ⟨#[]⟩, .int .i64 0, .slice none 0 0]) :: (q, 35, [.slice (some ⟨ga, 0, none⟩) na ca, .slice none 0 0, .slice (some ⟨gp, 0, none⟩) np cp, .slice (some ⟨gs, 0, none⟩) ns cc, .slice none 0 0, .bool false, .string ⟨#[]⟩, .string ⟨#[]⟩]) :: (b, 49, [S.sn.sn.sn.v]) :: m) h2 (by (repeat (first | exact List.Sublist.refl _ | exact List.sublist_append_right _ _ | refine List.Sublist.cons_cons _ ?_ | refine List.Sublist.cons _ ?_))) ?_⟩
    clear HF hG h2
    rw [HXA.out]
    (simp only [Act.put, List.setIfInBounds_toArray, List.set_cons_succ, List.set_cons_zero])
    refine wpY_c (by rfl) (by (first | exact wanted_none rfl | exact wanted_some rfl rfl)) (by intro W _; first | (go_simp; rfl) | (go_simp; done) | (trace_state; fail)) ?_
    (simp only [Act.put, List.setIfInBounds_toArray, List.set_cons_succ, List.set_cons_zero])
    refine wpY_c (by rfl) (by (first | exact wanted_none rfl | exact wanted_some rfl rfl)) (by intro W _; first | (go_simp; rfl) | (go_simp; done) | (trace_state; fail)) ?_
    (simp only [Act.put, List.setIfInBounds_toArray, List.set_cons_succ, List.set_cons_zero])
    refine wpY_loadX (by rfl) (by rfl) (by (first | exact wanted_none rfl | exact wanted_some rfl rfl)) kStr (by rfl) (by intro W HW; exact HRA.out _ (HW.out.hld (fun x hx => by have := HE.out x hx; simp only [List.mem_cons]; grind))) ?_
    (simp only [Act.put, List.setIfInBounds_toArray, List.set_cons_succ, List.set_cons_zero])
    refine wpY_c (by rfl) (by (first | exact wanted_none rfl | exact wanted_some rfl rfl)) (by intro W _; first | (go_simp; rfl) | (go_simp; done) | (trace_state; fail)) ?_
    (simp only [Act.put, List.setIfInBounds_toArray, List.set_cons_succ, List.set_cons_zero])
    refine wpY_nil ?_
    clear H
    intro _ H
    go_wp2_with (first
        | go_skip
        | ((with_reducible refine isAlloc ?_); refine alA H ?_ (hz := zStm8); clear H; intro q9 _ H)
        | ((with_reducible refine isStore ?_); refine stA H ?_ (hT := by first | exact rStm8 | exact rRat); clear H; intro _ H)
        | ((with_reducible refine isLoad ?_); refine ldA H ?_ (hT := by first | exact rStm8 | exact rWks)))
    exact bodyPost_ret (results_H H Tryz.results23 (by exact rStm8) rfl (by (repeat (first | exact List.Mem.head _ | refine List.Mem.tail _ ?_ | assumption))) (by rfl)) rfl ⟨⟨2, nmP, nmA, none, 0, .slice none 0 0⟩, .mk 2 nmP nmA none 0 [], S.sn.sn.sn, [], rfl, (Lib.hid (HS.out.next.next.next)).out, H.out.sub (by (repeat (first | exact List.Sublist.refl _ | exact List.sublist_append_right _ _ | refine List.Sublist.cons_cons _ ?_ | refine List.Sublist.cons _ ?_))), RSt.leaf _ ⟨small_i (x := 2) (by omega), small_i (x := 0) (by omega), pn_sz HNP.out, an_sz HNA.out, SmO.none⟩, .inr (.inl ⟨rfl, HNP.out, HNA.out, rfl, rfl, rfl⟩)⟩
end Go.Proofs.YtaiokjhjakdhaaaGreatDoor
