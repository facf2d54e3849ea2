/- slices.Contains at texts, parse.keyword, parse.Name. Printed by gen/job.py. · parse.plain. Printed by gen/job.py. · parse.plain put together; parse.shape. Printed by gen/job.py. · parse.stmt, parse.stmts. Printed by gen/job.py. · parse.Check, types.kinds, types.Find, types.index. Printed by gen/job.py. · types.Bind. Printed by gen/job.py. · Small over the list of blocks. Printed by gen/job.py. · gantkeep4.stmt: words. Printed by gen/jobs.py. · gantkeep4.stmt at the greatest depth. Printed by gen/jobs.py. -/
import Derived.Test.YtbphdmnomakeoaaDoorJw22
import Derived.Test.YtbphdmnomakeoaaDoorJw14
import Derived.Test.YtbphdmnomakeoaaDoorJw20
namespace Go.Proofs.YtbphdmnomakeoaaDoor
open Go.RowKit
set_option linter.unusedVariables false
set_option maxRecDepth 100000

def oneS (s : ByteArray) : List Value := [.string s]
theorem oneS_len (s : ByteArray) : (oneS s).length = 1 := rfl
set_option maxHeartbeats 1000000 in
theorem indexS_any (E : Ents) (ws : List ByteArray) (v : Value) (n : Nat) (s : ByteArray) (w : World) (R : Hid (RowIn E 9 1 v n (flat oneS ws))) (HE : Hid (Hld E w)) :
    Calls Tryd.prog 71 #[v, .string s] w fun e w' => ∃ i : Int, e = .returned (.int .i64 i) ∧ (0 ≤ i ↔ s ∈ ws) ∧ w = w' := by
  have FN := Lib.hid (R.out.len oneS_len (by decide))
  have hnl := R.out.le
  obtain ⟨B, c, rfl, hcm⟩ := R.out.shape
  go_enter Tryd.func71, Tryd.ntmps71
  go_wp2_with (first
      | go_skip)
  go_loopw [5, 8] (fun _ i_ wr => ∃ j : Nat, i_ = .int .i64 j ∧ j ≤ n ∧ Hid (∀ (k : Nat) x, k < j → ws[k]? = some x → x ≠ s) ∧ wr = w) (fun _ i_ _ => n - (intOf i_).toNat)
  case atStart => exact ⟨0, rfl, by omega, Lib.hid fun k x h => by omega, rfl⟩
  case round =>
    obtain ⟨j, rfl, hj, HS, rfl⟩ := hrel
    by_cases hlt : j < n
    · obtain ⟨x, hx⟩ : ∃ x, ws[j]? = some x := ⟨_, List.getElem?_eq_getElem (by rw [FN.out]; exact hlt)⟩
      obtain ⟨g, c', e1, hr⟩ := R.out.at_ oneS_len hx (by decide)
      have X := Lib.hid (rangeAt_one (hr _ HE.out))
      simp only [Nat.mul_one] at X
      injection e1 with e1 _ e3
      subst e1
      have HX := Lib.hid hx
      clear hr hx e3
      by_cases he : s = x
      · have hb := str_eq he
        subst he
        go_wp2_with (first
            | go_skip
            | ((with_reducible refine isLoad ?_); refine ld1X X ?_ (hT := kStr)))
        go_ret
        exact ⟨_, rfl, ⟨fun _ => by exact List.mem_of_getElem? HX.out, fun _ => by omega⟩, rfl⟩
      · have hb := str_ne he
        go_wp2_with (first
            | go_skip
            | ((with_reducible refine isLoad ?_); refine ld1X X ?_ (hT := kStr)))
        go_roundw
        case rel => first | exact ⟨j + 1, by go_num, by omega, Lib.hid (fun k y hk hy => if e : k = j then by subst e; rw [HX.out] at hy; cases hy; exact fun e2 => he e2.symm else HS.out k y (by omega) hy), by first | rfl | trivial⟩ | (trace_state; fail)
        case measure => simp [intOf]; omega
    · go_wp2_with (first
          | go_skip)
      go_ret
      refine ⟨_, rfl, ⟨fun h => by omega, fun h => ?_⟩, rfl⟩
      obtain ⟨k, hk⟩ := List.mem_iff_getElem?.1 h
      exact absurd rfl (HS.out k s (by have := (List.getElem?_eq_some_iff.1 hk).1; rw [FN.out] at this; omega) hk)
theorem containsS_any (E : Ents) (ws : List ByteArray) (v : Value) (n : Nat) (s : ByteArray) (w : World) (R : Hid (RowIn E 9 1 v n (flat oneS ws))) (HE : Hid (Hld E w)) :
    Calls Tryd.prog 62 #[v, .string s] w fun e w' => e = .returned (.bool (memS s ws)) ∧ w = w' := by
  go_enter Tryd.func62, Tryd.ntmps62
  go_wp2_with (first
      | go_skip)
  go_at_call 71; refine (indexS_any E ws v n s _ R HE).mono ?_; rintro _ _ ⟨i, rfl, hi, rfl⟩
  have hd : decide (0 ≤ i) = memS s ws := by rw [Bool.eq_iff_iff, decide_eq_true_iff, hi, memS_iff]
  clear hi
  go_wp2_with (first
      | go_skip)
  go_ret
  exact ⟨rfl, rfl⟩
/-- The words that are no names. -/
def kws : List ByteArray := [⟨#[106, 111, 98]⟩, ⟨#[112, 117, 116]⟩, ⟨#[105, 110]⟩, ⟨#[119, 105, 116, 104, 105, 110]⟩, ⟨#[104, 111, 108, 100]⟩, ⟨#[119, 105, 116, 104]⟩, ⟨#[102, 114, 101, 101]⟩, ⟨#[115, 101, 101]⟩, ⟨#[119, 97, 105, 116]⟩, ⟨#[100, 111]⟩, ⟨#[114, 101, 112, 101, 97, 116]⟩, ⟨#[97, 110, 121]⟩, ⟨#[111, 114]⟩, ⟨#[116, 114, 121]⟩, ⟨#[101, 108, 115, 101]⟩]
def nameB (s : ByteArray) : Bool := isIsName s.data.toList && !memS s kws
set_option maxHeartbeats 1000000 in
theorem keyword_any (s : ByteArray) (w : World) (hT : Tb w) :
    Calls Tryd.prog 46 #[.string s] w fun e w' => e = .returned (.bool (memS s kws)) ∧ Below w.heap.size w w' := by
  have H := Lib.hid (Hp.start hT)
  go_enter Tryd.func46, Tryd.ntmps46
  go_wp2_with (first
      | go_skip
      | ((with_reducible refine isSlc ?_); refine bsA 9 [.string ⟨#[106, 111, 98]⟩, .string ⟨#[112, 117, 116]⟩, .string ⟨#[105, 110]⟩, .string ⟨#[119, 105, 116, 104, 105, 110]⟩, .string ⟨#[104, 111, 108, 100]⟩, .string ⟨#[119, 105, 116, 104]⟩, .string ⟨#[102, 114, 101, 101]⟩, .string ⟨#[115, 101, 101]⟩, .string ⟨#[119, 97, 105, 116]⟩, .string ⟨#[100, 111]⟩, .string ⟨#[114, 101, 112, 101, 97, 116]⟩, .string ⟨#[97, 110, 121]⟩, .string ⟨#[111, 114]⟩, .string ⟨#[116, 114, 121]⟩, .string ⟨#[101, 108, 115, 101]⟩] 15 H ?_; clear H; intro q _ H))
  go_at_call 62; refine (containsS_any [(q, 9, flat oneS kws)] kws _ 15 s _ (Lib.hid (RowIn.lit rfl (by decide))) (Lib.hid (H.out.hld (by intro x hx; exact hx)))).mono ?_; rintro _ _ ⟨rfl, rfl⟩
  go_wp2_with (first
      | go_skip
      | ((with_reducible refine isSlc ?_); refine bsA 9 [.string ⟨#[106, 111, 98]⟩, .string ⟨#[112, 117, 116]⟩, .string ⟨#[105, 110]⟩, .string ⟨#[119, 105, 116, 104, 105, 110]⟩, .string ⟨#[104, 111, 108, 100]⟩, .string ⟨#[119, 105, 116, 104]⟩, .string ⟨#[102, 114, 101, 101]⟩, .string ⟨#[115, 101, 101]⟩, .string ⟨#[119, 97, 105, 116]⟩, .string ⟨#[100, 111]⟩, .string ⟨#[114, 101, 112, 101, 97, 116]⟩, .string ⟨#[97, 110, 121]⟩, .string ⟨#[111, 114]⟩, .string ⟨#[116, 114, 121]⟩, .string ⟨#[101, 108, 115, 101]⟩] 15 H ?_; clear H; intro q _ H))
  go_ret
  exact ⟨rfl, H.out.bel⟩
set_option maxHeartbeats 1000000 in
theorem Name_any (s : ByteArray) (w : World) (hs : s.size ≤ maxLen) (hT : Tb w) :
    Calls Tryd.prog 34 #[.string s] w fun e w' => e = .returned (.bool (nameB s)) ∧ Below w.heap.size w w' := by
  have H := Lib.hid (Hp.start hT)
  unfold nameB
  obtain ⟨r1, h1⟩ : ∃ r, isIsName s.data.toList = r := ⟨_, rfl⟩
  have H1 := Lib.hid h1
  rw [h1]
  clear h1
  cases r1
  · go_enter Tryd.func34, Tryd.ntmps34
    go_wp2_with (first
        | go_skip
        | (go_at_call 45; refine (IsName_any s _ hs _ H1).mono ?_; rintro _ _ ⟨rfl, rfl⟩)
        | (go_at_call 46; refine (keyword_any s _ H.out.tb).mono ?_; rintro _ _ ⟨rfl, hb⟩; replace H := Lib.hid (H.out.go hb); clear hb))
    go_ret
    exact ⟨rfl, H.out.bel⟩
  · go_enter Tryd.func34, Tryd.ntmps34
    go_wp2_with (first
        | go_skip
        | (go_at_call 45; refine (IsName_any s _ hs _ H1).mono ?_; rintro _ _ ⟨rfl, rfl⟩)
        | (go_at_call 46; refine (keyword_any s _ H.out.tb).mono ?_; rintro _ _ ⟨rfl, hb⟩; replace H := Lib.hid (H.out.go hb); clear hb))
    go_ret
    exact ⟨by simp, H.out.bel⟩
end Go.Proofs.YtbphdmnomakeoaaDoor

namespace Go.Proofs.YtbphdmnomakeoaaDoor
open Go.RowKit
set_option linter.unusedVariables false
set_option maxRecDepth 100000

def badW : Option Rat → Bool
  | none => false
  | some q => decide (cmpQ q 0 ≤ 0) || !smallQ q
/-- The error of a statement without blocks. -/
def plainE (k : Int) (a b : ByteArray) (wd : Option Rat) (n : Int) (nb : Nat) : Int :=
  if nb ≠ 0 then 3 else if k ≠ 1 ∧ wd.isSome = true then 3 else if k ≠ 5 ∧ n ≠ 0 then 3
  else if k = 5 then (if a.size ≠ 0 then 3 else if b.size ≠ 0 then 3 else if n < 1 ∨ 2000 < n then 1 else 0)
  else if nameB a = false then 3
  else if k = 1 ∨ k = 2 then (if nameB b = false then 3 else if badW wd = true then 3 else 0)
  else if b.size ≠ 0 then 3 else 0
theorem sEmpty {s : ByteArray} (h : s.size = 0) : SEmpty s := by
  have e : s = ⟨#[]⟩ := ba_ext (List.eq_nil_of_length_eq_zero (by rw [← ba_size]; exact h))
  subst e
  exact ⟨by rw [ByteArray.toList_eq]; rfl, by rw [ByteArray.toList_eq]⟩
theorem sFull2 {s : ByteArray} (h : ¬ s.size = 0) : SFull s := by
  have e : ¬ s.toList = [] := fun e => h (by rw [ba_size, ← ByteArray.toList_eq, e]; rfl)
  exact ⟨by cases hs : s.toList with | nil => exact absurd hs e | cons => rfl, e, by omega⟩
set_option maxHeartbeats 4000000 in
theorem plain_nb (k n : Int) (a b : ByteArray) (wd : Option Rat) (B : Option Addr) (nb c : Nat) (w : World) (ha : a.size ≤ maxLen) (hb : b.size ≤ maxLen) (hs : SmO wd) (hT : Tb w) (h : nb ≠ 0) :
    Calls Tryd.prog 55 #[.agg (Sv.cells ⟨k, a, b, wd, n, .slice B nb c⟩).toArray] w fun e w' => e = .returned (.int .i64 3) ∧ Below w.heap.size w w' := by
  have H := Lib.hid (Hp.start hT)
  have S := Lib.hid hs
  clear hT hs
  unfold Sv.cells
  have dp : ¬ ((nb : Int) = 0) := by omega
  have dd : decide ((nb : Int) = 0) = false := decide_eq_false dp
  go_enter Tryd.func55, Tryd.ntmps55
  go_wp2_with (first
      | go_skip
      | ((with_reducible refine isLoad ?_); refine ldA H ?_ (hT := by first | exact rRat | exact rStm8 | exact rJob | exact rWks | exact rGoa))
      | ((with_reducible refine isLoad ?_); refine ld1A H ?_ (hT := by first | exact kInt | exact kStr | exact kBll | exact kBool | exact kStl))
      | ((with_reducible refine isStore ?_); refine stA H ?_ (hT := by first | exact rRat | exact rGoa); clear H; intro _ H)
      | ((with_reducible refine isBox ?_); refine bxA H ?_; clear H; intro _ _ H)
      | ((with_reducible refine isAlloc ?_); refine alA H ?_ (hz := by first | exact zRat | exact zGoa); clear H; intro _ _ H))
  go_ret
  exact ⟨rfl, H.out.bel⟩
set_option maxHeartbeats 4000000 in
theorem plain_w (k n : Int) (a b : ByteArray) (wd : Option Rat) (B : Option Addr) (nb c : Nat) (w : World) (ha : a.size ≤ maxLen) (hb : b.size ≤ maxLen) (hs : SmO wd) (hT : Tb w) (h : nb = 0) (hk : k ≠ 1) (hw : wd.isSome = true) :
    Calls Tryd.prog 55 #[.agg (Sv.cells ⟨k, a, b, wd, n, .slice B nb c⟩).toArray] w fun e w' => e = .returned (.int .i64 3) ∧ Below w.heap.size w w' := by
  have H := Lib.hid (Hp.start hT)
  have S := Lib.hid hs
  clear hT hs
  subst h
  have dp : ¬ (k = 1) := hk
  have dd : decide (k = 1) = false := decide_eq_false dp
  cases wd with
  | none => exact absurd hw (by simp)
  | some q =>
    obtain ⟨N, hN⟩ : ∃ N, nuO (some q) = N := ⟨_, rfl⟩
    obtain ⟨D, hD⟩ : ∃ D, deO (some q) = D := ⟨_, rfl⟩
    have HN := Lib.hid hN
    have HD := Lib.hid hD
    obtain ⟨f1, f2, _⟩ := (show SFull D by rw [← hD]; exact sFull q.den_pos)
    unfold Sv.cells
    rw [hN, hD]
    clear hN hD
    go_enter Tryd.func55, Tryd.ntmps55
    go_wp2_with (first
        | go_skip
        | ((with_reducible refine isLoad ?_); refine ldA H ?_ (hT := by first | exact rRat | exact rStm8 | exact rJob | exact rWks | exact rGoa))
        | ((with_reducible refine isLoad ?_); refine ld1A H ?_ (hT := by first | exact kInt | exact kStr | exact kBll | exact kBool | exact kStl))
        | ((with_reducible refine isStore ?_); refine stA H ?_ (hT := by first | exact rRat | exact rGoa); clear H; intro _ H)
        | ((with_reducible refine isBox ?_); refine bxA H ?_; clear H; intro _ _ H)
        | ((with_reducible refine isAlloc ?_); refine alA H ?_ (hz := by first | exact zRat | exact zGoa); clear H; intro _ _ H))
    go_ret
    exact ⟨rfl, H.out.bel⟩
set_option maxHeartbeats 4000000 in
theorem plain_n1 (k n : Int) (a b : ByteArray) (wd : Option Rat) (B : Option Addr) (nb c : Nat) (w : World) (ha : a.size ≤ maxLen) (hb : b.size ≤ maxLen) (hs : SmO wd) (hT : Tb w) (h : nb = 0) (hk : k = 1) (hn : n ≠ 0) :
    Calls Tryd.prog 55 #[.agg (Sv.cells ⟨k, a, b, wd, n, .slice B nb c⟩).toArray] w fun e w' => e = .returned (.int .i64 3) ∧ Below w.heap.size w w' := by
  have H := Lib.hid (Hp.start hT)
  have S := Lib.hid hs
  clear hT hs
  subst h
  subst hk
  have n0p : ¬ (n = 0) := by omega
  have n0d : decide (n = 0) = false := decide_eq_false n0p
  unfold Sv.cells
  go_enter Tryd.func55, Tryd.ntmps55
  go_wp2_with (first
      | go_skip
      | ((with_reducible refine isLoad ?_); refine ldA H ?_ (hT := by first | exact rRat | exact rStm8 | exact rJob | exact rWks | exact rGoa))
      | ((with_reducible refine isLoad ?_); refine ld1A H ?_ (hT := by first | exact kInt | exact kStr | exact kBll | exact kBool | exact kStl))
      | ((with_reducible refine isStore ?_); refine stA H ?_ (hT := by first | exact rRat | exact rGoa); clear H; intro _ H)
      | ((with_reducible refine isBox ?_); refine bxA H ?_; clear H; intro _ _ H)
      | ((with_reducible refine isAlloc ?_); refine alA H ?_ (hz := by first | exact zRat | exact zGoa); clear H; intro _ _ H))
  go_ret
  exact ⟨rfl, H.out.bel⟩
set_option maxHeartbeats 4000000 in
theorem plain_nx (k n : Int) (a b : ByteArray) (wd : Option Rat) (B : Option Addr) (nb c : Nat) (w : World) (ha : a.size ≤ maxLen) (hb : b.size ≤ maxLen) (hs : SmO wd) (hT : Tb w) (h : nb = 0) (hk : k ≠ 1) (hk2 : k ≠ 5) (hn : n ≠ 0) (hw : ¬ wd.isSome = true) :
    Calls Tryd.prog 55 #[.agg (Sv.cells ⟨k, a, b, wd, n, .slice B nb c⟩).toArray] w fun e w' => e = .returned (.int .i64 3) ∧ Below w.heap.size w w' := by
  have H := Lib.hid (Hp.start hT)
  have S := Lib.hid hs
  clear hT hs
  subst h
  have k1p : ¬ (k = 1) := by omega
  have k1d : decide (k = 1) = false := decide_eq_false k1p
  have k5p : ¬ (k = 5) := by omega
  have k5d : decide (k = 5) = false := decide_eq_false k5p
  have n0p : ¬ (n = 0) := by omega
  have n0d : decide (n = 0) = false := decide_eq_false n0p
  cases wd with
  | some q => exact absurd hw (by simp)
  | none =>
    clear hw
    unfold Sv.cells
    simp only [sgO, nuO, deO]
    go_enter Tryd.func55, Tryd.ntmps55
    go_wp2_with (first
        | go_skip
        | ((with_reducible refine isLoad ?_); refine ldA H ?_ (hT := by first | exact rRat | exact rStm8 | exact rJob | exact rWks | exact rGoa))
        | ((with_reducible refine isLoad ?_); refine ld1A H ?_ (hT := by first | exact kInt | exact kStr | exact kBll | exact kBool | exact kStl))
        | ((with_reducible refine isStore ?_); refine stA H ?_ (hT := by first | exact rRat | exact rGoa); clear H; intro _ H)
        | ((with_reducible refine isBox ?_); refine bxA H ?_; clear H; intro _ _ H)
        | ((with_reducible refine isAlloc ?_); refine alA H ?_ (hz := by first | exact zRat | exact zGoa); clear H; intro _ _ H))
    go_ret
    exact ⟨rfl, H.out.bel⟩
set_option maxHeartbeats 4000000 in
theorem plain_1a (k n : Int) (a b : ByteArray) (wd : Option Rat) (B : Option Addr) (nb c : Nat) (w : World) (ha : a.size ≤ maxLen) (hb : b.size ≤ maxLen) (hs : SmO wd) (hT : Tb w) (h : nb = 0) (hk : k = 1) (hn : n = 0) (ga : nameB a = false) :
    Calls Tryd.prog 55 #[.agg (Sv.cells ⟨k, a, b, wd, n, .slice B nb c⟩).toArray] w fun e w' => e = .returned (.int .i64 3) ∧ Below w.heap.size w w' := by
  have H := Lib.hid (Hp.start hT)
  have S := Lib.hid hs
  clear hT hs
  subst h
  subst hk
  subst hn
  unfold Sv.cells
  go_enter Tryd.func55, Tryd.ntmps55
  go_wp2_with (first
      | go_skip
      | ((with_reducible refine isLoad ?_); refine ldA H ?_ (hT := by first | exact rRat | exact rStm8 | exact rJob | exact rWks | exact rGoa))
      | ((with_reducible refine isLoad ?_); refine ld1A H ?_ (hT := by first | exact kInt | exact kStr | exact kBll | exact kBool | exact kStl))
      | ((with_reducible refine isStore ?_); refine stA H ?_ (hT := by first | exact rRat | exact rGoa); clear H; intro _ H)
      | ((with_reducible refine isBox ?_); refine bxA H ?_; clear H; intro _ _ H)
      | ((with_reducible refine isAlloc ?_); refine alA H ?_ (hz := by first | exact zRat | exact zGoa); clear H; intro _ _ H)
      | (go_at_call 34; refine (Name_any _ _ (by assumption) H.out.tb).mono ?_; rintro _ _ ⟨rfl, hb⟩; replace H := Lib.hid (H.out.go hb); clear hb)
      | (go_at_call 34; refine (Name_any _ _ (by assumption) H.out.tb).mono ?_; rintro _ _ ⟨rfl, hb⟩; replace H := Lib.hid (H.out.go hb); clear hb))
  go_ret
  exact ⟨rfl, H.out.bel⟩
set_option maxHeartbeats 4000000 in
theorem plain_1b (k n : Int) (a b : ByteArray) (wd : Option Rat) (B : Option Addr) (nb c : Nat) (w : World) (ha : a.size ≤ maxLen) (hb : b.size ≤ maxLen) (hs : SmO wd) (hT : Tb w) (h : nb = 0) (hk : k = 1) (hn : n = 0) (ga : nameB a = true) (gb : nameB b = false) :
    Calls Tryd.prog 55 #[.agg (Sv.cells ⟨k, a, b, wd, n, .slice B nb c⟩).toArray] w fun e w' => e = .returned (.int .i64 3) ∧ Below w.heap.size w w' := by
  have H := Lib.hid (Hp.start hT)
  have S := Lib.hid hs
  clear hT hs
  subst h
  subst hk
  subst hn
  unfold Sv.cells
  go_enter Tryd.func55, Tryd.ntmps55
  go_wp2_with (first
      | go_skip
      | ((with_reducible refine isLoad ?_); refine ldA H ?_ (hT := by first | exact rRat | exact rStm8 | exact rJob | exact rWks | exact rGoa))
      | ((with_reducible refine isLoad ?_); refine ld1A H ?_ (hT := by first | exact kInt | exact kStr | exact kBll | exact kBool | exact kStl))
      | ((with_reducible refine isStore ?_); refine stA H ?_ (hT := by first | exact rRat | exact rGoa); clear H; intro _ H)
      | ((with_reducible refine isBox ?_); refine bxA H ?_; clear H; intro _ _ H)
      | ((with_reducible refine isAlloc ?_); refine alA H ?_ (hz := by first | exact zRat | exact zGoa); clear H; intro _ _ H)
      | (go_at_call 34; refine (Name_any _ _ (by assumption) H.out.tb).mono ?_; rintro _ _ ⟨rfl, hb⟩; replace H := Lib.hid (H.out.go hb); clear hb)
      | (go_at_call 34; refine (Name_any _ _ (by assumption) H.out.tb).mono ?_; rintro _ _ ⟨rfl, hb⟩; replace H := Lib.hid (H.out.go hb); clear hb))
  go_ret
  exact ⟨rfl, H.out.bel⟩
set_option maxHeartbeats 4000000 in
theorem plain_1c (k n : Int) (a b : ByteArray) (wd : Option Rat) (B : Option Addr) (nb c : Nat) (w : World) (ha : a.size ≤ maxLen) (hb : b.size ≤ maxLen) (hs : SmO wd) (hT : Tb w) (h : nb = 0) (hk : k = 1) (hn : n = 0) (hw : ¬ wd.isSome = true) (ga : nameB a = true) (gb : nameB b = true) :
    Calls Tryd.prog 55 #[.agg (Sv.cells ⟨k, a, b, wd, n, .slice B nb c⟩).toArray] w fun e w' => e = .returned (.int .i64 0) ∧ Below w.heap.size w w' := by
  have H := Lib.hid (Hp.start hT)
  have S := Lib.hid hs
  clear hT hs
  subst h
  subst hk
  subst hn
  cases wd with
  | some q => exact absurd hw (by simp)
  | none =>
    clear hw
    unfold Sv.cells
    simp only [sgO, nuO, deO]
    go_enter Tryd.func55, Tryd.ntmps55
    go_wp2_with (first
        | go_skip
        | ((with_reducible refine isLoad ?_); refine ldA H ?_ (hT := by first | exact rRat | exact rStm8 | exact rJob | exact rWks | exact rGoa))
        | ((with_reducible refine isLoad ?_); refine ld1A H ?_ (hT := by first | exact kInt | exact kStr | exact kBll | exact kBool | exact kStl))
        | ((with_reducible refine isStore ?_); refine stA H ?_ (hT := by first | exact rRat | exact rGoa); clear H; intro _ H)
        | ((with_reducible refine isBox ?_); refine bxA H ?_; clear H; intro _ _ H)
        | ((with_reducible refine isAlloc ?_); refine alA H ?_ (hz := by first | exact zRat | exact zGoa); clear H; intro _ _ H)
        | (go_at_call 34; refine (Name_any _ _ (by assumption) H.out.tb).mono ?_; rintro _ _ ⟨rfl, hb⟩; replace H := Lib.hid (H.out.go hb); clear hb)
        | (go_at_call 34; refine (Name_any _ _ (by assumption) H.out.tb).mono ?_; rintro _ _ ⟨rfl, hb⟩; replace H := Lib.hid (H.out.go hb); clear hb))
    go_ret
    exact ⟨rfl, H.out.bel⟩
set_option maxHeartbeats 4000000 in
theorem plain_1d (k n : Int) (a b : ByteArray) (wd : Option Rat) (B : Option Addr) (nb c : Nat) (w : World) (ha : a.size ≤ maxLen) (hb : b.size ≤ maxLen) (hs : SmO wd) (hT : Tb w) (h : nb = 0) (hk : k = 1) (hn : n = 0) (hw : wd.isSome = true) (ga : nameB a = true) (gb : nameB b = true) (hw2 : ∀ q, wd = some q → cmpQ q 0 ≤ 0) :
    Calls Tryd.prog 55 #[.agg (Sv.cells ⟨k, a, b, wd, n, .slice B nb c⟩).toArray] w fun e w' => e = .returned (.int .i64 3) ∧ Below w.heap.size w w' := by
  have H := Lib.hid (Hp.start hT)
  have S := Lib.hid hs
  clear hT hs
  subst h
  subst hk
  subst hn
  cases wd with
  | none => exact absurd hw (by simp)
  | some q =>
    obtain ⟨N, hN⟩ : ∃ N, nuO (some q) = N := ⟨_, rfl⟩
    obtain ⟨D, hD⟩ : ∃ D, deO (some q) = D := ⟨_, rfl⟩
    have HN := Lib.hid hN
    have HD := Lib.hid hD
    obtain ⟨f1, f2, _⟩ := (show SFull D by rw [← hD]; exact sFull q.den_pos)
    unfold Sv.cells
    rw [hN, hD]
    clear hN hD
    obtain ⟨v, hv⟩ : ∃ v, cmpQ q 0 = v := ⟨_, rfl⟩
    have HV : Hid (cmpQ (valO (some q)) 0 = v) := Lib.hid hv
    have hw1 := hw2 q rfl
    rw [hv] at hw1
    clear hv hw2
    have v0p : v ≤ 0 := by omega
    have v0d : decide (v ≤ 0) = true := decide_eq_true v0p
    go_enter Tryd.func55, Tryd.ntmps55
    go_wp2_with (first
        | go_skip
        | ((with_reducible refine isLoad ?_); refine ldA H ?_ (hT := by first | exact rRat | exact rStm8 | exact rJob | exact rWks | exact rGoa))
        | ((with_reducible refine isLoad ?_); refine ld1A H ?_ (hT := by first | exact kInt | exact kStr | exact kBll | exact kBool | exact kStl))
        | ((with_reducible refine isStore ?_); refine stA H ?_ (hT := by first | exact rRat | exact rGoa); clear H; intro _ H)
        | ((with_reducible refine isBox ?_); refine bxA H ?_; clear H; intro _ _ H)
        | ((with_reducible refine isAlloc ?_); refine alA H ?_ (hz := by first | exact zRat | exact zGoa); clear H; intro _ _ H)
        | (go_at_call 34; refine (Name_any _ _ (by assumption) H.out.tb).mono ?_; rintro _ _ ⟨rfl, hb⟩; replace H := Lib.hid (H.out.go hb); clear hb)
        | (go_at_call 34; refine (Name_any _ _ (by assumption) H.out.tb).mono ?_; rintro _ _ ⟨rfl, hb⟩; replace H := Lib.hid (H.out.go hb); clear hb)
        | (go_at_call 47; refine Calls.mono (by rw [← HN.out, ← HD.out]; exact Good_any (some q) _ S.out H.out.tb) ?_; rintro _ _ ⟨rfl, hb⟩; replace H := Lib.hid (H.out.go hb); clear hb)
        | (go_at_call 65; refine Calls.mono (by rw [← HN.out, ← HD.out]; exact RSign_any (some q) v _ S.out HV H.out.tb) ?_; rintro _ _ ⟨rfl, hb⟩; replace H := Lib.hid (H.out.go hb); clear hb)
        | (go_at_call 66; refine Calls.mono (by rw [← HN.out, ← HD.out]; exact RSmall_any q _ S.out H.out.tb) ?_; rintro _ _ ⟨rfl, hb⟩; replace H := Lib.hid (H.out.go hb); clear hb))
    go_ret
    exact ⟨rfl, H.out.bel⟩
set_option maxHeartbeats 4000000 in
theorem plain_1e (k n : Int) (a b : ByteArray) (wd : Option Rat) (B : Option Addr) (nb c : Nat) (w : World) (ha : a.size ≤ maxLen) (hb : b.size ≤ maxLen) (hs : SmO wd) (hT : Tb w) (h : nb = 0) (hk : k = 1) (hn : n = 0) (hw : wd.isSome = true) (ga : nameB a = true) (gb : nameB b = true) (hw2 : ∀ q, wd = some q → ¬ cmpQ q 0 ≤ 0) (hw3 : ∀ q, wd = some q → smallQ q = false) :
    Calls Tryd.prog 55 #[.agg (Sv.cells ⟨k, a, b, wd, n, .slice B nb c⟩).toArray] w fun e w' => e = .returned (.int .i64 3) ∧ Below w.heap.size w w' := by
  have H := Lib.hid (Hp.start hT)
  have S := Lib.hid hs
  clear hT hs
  subst h
  subst hk
  subst hn
  cases wd with
  | none => exact absurd hw (by simp)
  | some q =>
    obtain ⟨N, hN⟩ : ∃ N, nuO (some q) = N := ⟨_, rfl⟩
    obtain ⟨D, hD⟩ : ∃ D, deO (some q) = D := ⟨_, rfl⟩
    have HN := Lib.hid hN
    have HD := Lib.hid hD
    obtain ⟨f1, f2, _⟩ := (show SFull D by rw [← hD]; exact sFull q.den_pos)
    unfold Sv.cells
    rw [hN, hD]
    clear hN hD
    obtain ⟨v, hv⟩ : ∃ v, cmpQ q 0 = v := ⟨_, rfl⟩
    have HV : Hid (cmpQ (valO (some q)) 0 = v) := Lib.hid hv
    have hw1 := hw2 q rfl
    rw [hv] at hw1
    clear hv hw2
    have v0p : ¬ (v ≤ 0) := by omega
    have v0d : decide (v ≤ 0) = false := decide_eq_false v0p
    have hsm := hw3 q rfl
    clear hw3
    go_enter Tryd.func55, Tryd.ntmps55
    go_wp2_with (first
        | go_skip
        | ((with_reducible refine isLoad ?_); refine ldA H ?_ (hT := by first | exact rRat | exact rStm8 | exact rJob | exact rWks | exact rGoa))
        | ((with_reducible refine isLoad ?_); refine ld1A H ?_ (hT := by first | exact kInt | exact kStr | exact kBll | exact kBool | exact kStl))
        | ((with_reducible refine isStore ?_); refine stA H ?_ (hT := by first | exact rRat | exact rGoa); clear H; intro _ H)
        | ((with_reducible refine isBox ?_); refine bxA H ?_; clear H; intro _ _ H)
        | ((with_reducible refine isAlloc ?_); refine alA H ?_ (hz := by first | exact zRat | exact zGoa); clear H; intro _ _ H)
        | (go_at_call 34; refine (Name_any _ _ (by assumption) H.out.tb).mono ?_; rintro _ _ ⟨rfl, hb⟩; replace H := Lib.hid (H.out.go hb); clear hb)
        | (go_at_call 34; refine (Name_any _ _ (by assumption) H.out.tb).mono ?_; rintro _ _ ⟨rfl, hb⟩; replace H := Lib.hid (H.out.go hb); clear hb)
        | (go_at_call 47; refine Calls.mono (by rw [← HN.out, ← HD.out]; exact Good_any (some q) _ S.out H.out.tb) ?_; rintro _ _ ⟨rfl, hb⟩; replace H := Lib.hid (H.out.go hb); clear hb)
        | (go_at_call 65; refine Calls.mono (by rw [← HN.out, ← HD.out]; exact RSign_any (some q) v _ S.out HV H.out.tb) ?_; rintro _ _ ⟨rfl, hb⟩; replace H := Lib.hid (H.out.go hb); clear hb)
        | (go_at_call 66; refine Calls.mono (by rw [← HN.out, ← HD.out]; exact RSmall_any q _ S.out H.out.tb) ?_; rintro _ _ ⟨rfl, hb⟩; replace H := Lib.hid (H.out.go hb); clear hb))
    go_ret
    exact ⟨rfl, H.out.bel⟩
set_option maxHeartbeats 4000000 in
theorem plain_1f (k n : Int) (a b : ByteArray) (wd : Option Rat) (B : Option Addr) (nb c : Nat) (w : World) (ha : a.size ≤ maxLen) (hb : b.size ≤ maxLen) (hs : SmO wd) (hT : Tb w) (h : nb = 0) (hk : k = 1) (hn : n = 0) (hw : wd.isSome = true) (ga : nameB a = true) (gb : nameB b = true) (hw2 : ∀ q, wd = some q → ¬ cmpQ q 0 ≤ 0) (hw3 : ∀ q, wd = some q → smallQ q = true) :
    Calls Tryd.prog 55 #[.agg (Sv.cells ⟨k, a, b, wd, n, .slice B nb c⟩).toArray] w fun e w' => e = .returned (.int .i64 0) ∧ Below w.heap.size w w' := by
  have H := Lib.hid (Hp.start hT)
  have S := Lib.hid hs
  clear hT hs
  subst h
  subst hk
  subst hn
  cases wd with
  | none => exact absurd hw (by simp)
  | some q =>
    obtain ⟨N, hN⟩ : ∃ N, nuO (some q) = N := ⟨_, rfl⟩
    obtain ⟨D, hD⟩ : ∃ D, deO (some q) = D := ⟨_, rfl⟩
    have HN := Lib.hid hN
    have HD := Lib.hid hD
    obtain ⟨f1, f2, _⟩ := (show SFull D by rw [← hD]; exact sFull q.den_pos)
    unfold Sv.cells
    rw [hN, hD]
    clear hN hD
    obtain ⟨v, hv⟩ : ∃ v, cmpQ q 0 = v := ⟨_, rfl⟩
    have HV : Hid (cmpQ (valO (some q)) 0 = v) := Lib.hid hv
    have hw1 := hw2 q rfl
    rw [hv] at hw1
    clear hv hw2
    have v0p : ¬ (v ≤ 0) := by omega
    have v0d : decide (v ≤ 0) = false := decide_eq_false v0p
    have hsm := hw3 q rfl
    clear hw3
    go_enter Tryd.func55, Tryd.ntmps55
    go_wp2_with (first
        | go_skip
        | ((with_reducible refine isLoad ?_); refine ldA H ?_ (hT := by first | exact rRat | exact rStm8 | exact rJob | exact rWks | exact rGoa))
        | ((with_reducible refine isLoad ?_); refine ld1A H ?_ (hT := by first | exact kInt | exact kStr | exact kBll | exact kBool | exact kStl))
        | ((with_reducible refine isStore ?_); refine stA H ?_ (hT := by first | exact rRat | exact rGoa); clear H; intro _ H)
        | ((with_reducible refine isBox ?_); refine bxA H ?_; clear H; intro _ _ H)
        | ((with_reducible refine isAlloc ?_); refine alA H ?_ (hz := by first | exact zRat | exact zGoa); clear H; intro _ _ H)
        | (go_at_call 34; refine (Name_any _ _ (by assumption) H.out.tb).mono ?_; rintro _ _ ⟨rfl, hb⟩; replace H := Lib.hid (H.out.go hb); clear hb)
        | (go_at_call 34; refine (Name_any _ _ (by assumption) H.out.tb).mono ?_; rintro _ _ ⟨rfl, hb⟩; replace H := Lib.hid (H.out.go hb); clear hb)
        | (go_at_call 47; refine Calls.mono (by rw [← HN.out, ← HD.out]; exact Good_any (some q) _ S.out H.out.tb) ?_; rintro _ _ ⟨rfl, hb⟩; replace H := Lib.hid (H.out.go hb); clear hb)
        | (go_at_call 65; refine Calls.mono (by rw [← HN.out, ← HD.out]; exact RSign_any (some q) v _ S.out HV H.out.tb) ?_; rintro _ _ ⟨rfl, hb⟩; replace H := Lib.hid (H.out.go hb); clear hb)
        | (go_at_call 66; refine Calls.mono (by rw [← HN.out, ← HD.out]; exact RSmall_any q _ S.out H.out.tb) ?_; rintro _ _ ⟨rfl, hb⟩; replace H := Lib.hid (H.out.go hb); clear hb))
    go_ret
    exact ⟨rfl, H.out.bel⟩
set_option maxHeartbeats 4000000 in
theorem plain_2a (k n : Int) (a b : ByteArray) (wd : Option Rat) (B : Option Addr) (nb c : Nat) (w : World) (ha : a.size ≤ maxLen) (hb : b.size ≤ maxLen) (hs : SmO wd) (hT : Tb w) (h : nb = 0) (hk : k = 2) (hn : n = 0) (hw : ¬ wd.isSome = true) (ga : nameB a = false) :
    Calls Tryd.prog 55 #[.agg (Sv.cells ⟨k, a, b, wd, n, .slice B nb c⟩).toArray] w fun e w' => e = .returned (.int .i64 3) ∧ Below w.heap.size w w' := by
  have H := Lib.hid (Hp.start hT)
  have S := Lib.hid hs
  clear hT hs
  subst h
  subst hk
  subst hn
  cases wd with
  | some q => exact absurd hw (by simp)
  | none =>
    clear hw
    unfold Sv.cells
    simp only [sgO, nuO, deO]
    go_enter Tryd.func55, Tryd.ntmps55
    go_wp2_with (first
        | go_skip
        | ((with_reducible refine isLoad ?_); refine ldA H ?_ (hT := by first | exact rRat | exact rStm8 | exact rJob | exact rWks | exact rGoa))
        | ((with_reducible refine isLoad ?_); refine ld1A H ?_ (hT := by first | exact kInt | exact kStr | exact kBll | exact kBool | exact kStl))
        | ((with_reducible refine isStore ?_); refine stA H ?_ (hT := by first | exact rRat | exact rGoa); clear H; intro _ H)
        | ((with_reducible refine isBox ?_); refine bxA H ?_; clear H; intro _ _ H)
        | ((with_reducible refine isAlloc ?_); refine alA H ?_ (hz := by first | exact zRat | exact zGoa); clear H; intro _ _ H)
        | (go_at_call 34; refine (Name_any _ _ (by assumption) H.out.tb).mono ?_; rintro _ _ ⟨rfl, hb⟩; replace H := Lib.hid (H.out.go hb); clear hb)
        | (go_at_call 34; refine (Name_any _ _ (by assumption) H.out.tb).mono ?_; rintro _ _ ⟨rfl, hb⟩; replace H := Lib.hid (H.out.go hb); clear hb))
    go_ret
    exact ⟨rfl, H.out.bel⟩
set_option maxHeartbeats 4000000 in
theorem plain_2b (k n : Int) (a b : ByteArray) (wd : Option Rat) (B : Option Addr) (nb c : Nat) (w : World) (ha : a.size ≤ maxLen) (hb : b.size ≤ maxLen) (hs : SmO wd) (hT : Tb w) (h : nb = 0) (hk : k = 2) (hn : n = 0) (hw : ¬ wd.isSome = true) (ga : nameB a = true) (gb : nameB b = false) :
    Calls Tryd.prog 55 #[.agg (Sv.cells ⟨k, a, b, wd, n, .slice B nb c⟩).toArray] w fun e w' => e = .returned (.int .i64 3) ∧ Below w.heap.size w w' := by
  have H := Lib.hid (Hp.start hT)
  have S := Lib.hid hs
  clear hT hs
  subst h
  subst hk
  subst hn
  cases wd with
  | some q => exact absurd hw (by simp)
  | none =>
    clear hw
    unfold Sv.cells
    simp only [sgO, nuO, deO]
    go_enter Tryd.func55, Tryd.ntmps55
    go_wp2_with (first
        | go_skip
        | ((with_reducible refine isLoad ?_); refine ldA H ?_ (hT := by first | exact rRat | exact rStm8 | exact rJob | exact rWks | exact rGoa))
        | ((with_reducible refine isLoad ?_); refine ld1A H ?_ (hT := by first | exact kInt | exact kStr | exact kBll | exact kBool | exact kStl))
        | ((with_reducible refine isStore ?_); refine stA H ?_ (hT := by first | exact rRat | exact rGoa); clear H; intro _ H)
        | ((with_reducible refine isBox ?_); refine bxA H ?_; clear H; intro _ _ H)
        | ((with_reducible refine isAlloc ?_); refine alA H ?_ (hz := by first | exact zRat | exact zGoa); clear H; intro _ _ H)
        | (go_at_call 34; refine (Name_any _ _ (by assumption) H.out.tb).mono ?_; rintro _ _ ⟨rfl, hb⟩; replace H := Lib.hid (H.out.go hb); clear hb)
        | (go_at_call 34; refine (Name_any _ _ (by assumption) H.out.tb).mono ?_; rintro _ _ ⟨rfl, hb⟩; replace H := Lib.hid (H.out.go hb); clear hb))
    go_ret
    exact ⟨rfl, H.out.bel⟩
set_option maxHeartbeats 4000000 in
theorem plain_2c (k n : Int) (a b : ByteArray) (wd : Option Rat) (B : Option Addr) (nb c : Nat) (w : World) (ha : a.size ≤ maxLen) (hb : b.size ≤ maxLen) (hs : SmO wd) (hT : Tb w) (h : nb = 0) (hk : k = 2) (hn : n = 0) (hw : ¬ wd.isSome = true) (ga : nameB a = true) (gb : nameB b = true) :
    Calls Tryd.prog 55 #[.agg (Sv.cells ⟨k, a, b, wd, n, .slice B nb c⟩).toArray] w fun e w' => e = .returned (.int .i64 0) ∧ Below w.heap.size w w' := by
  have H := Lib.hid (Hp.start hT)
  have S := Lib.hid hs
  clear hT hs
  subst h
  subst hk
  subst hn
  cases wd with
  | some q => exact absurd hw (by simp)
  | none =>
    clear hw
    unfold Sv.cells
    simp only [sgO, nuO, deO]
    go_enter Tryd.func55, Tryd.ntmps55
    go_wp2_with (first
        | go_skip
        | ((with_reducible refine isLoad ?_); refine ldA H ?_ (hT := by first | exact rRat | exact rStm8 | exact rJob | exact rWks | exact rGoa))
        | ((with_reducible refine isLoad ?_); refine ld1A H ?_ (hT := by first | exact kInt | exact kStr | exact kBll | exact kBool | exact kStl))
        | ((with_reducible refine isStore ?_); refine stA H ?_ (hT := by first | exact rRat | exact rGoa); clear H; intro _ H)
        | ((with_reducible refine isBox ?_); refine bxA H ?_; clear H; intro _ _ H)
        | ((with_reducible refine isAlloc ?_); refine alA H ?_ (hz := by first | exact zRat | exact zGoa); clear H; intro _ _ H)
        | (go_at_call 34; refine (Name_any _ _ (by assumption) H.out.tb).mono ?_; rintro _ _ ⟨rfl, hb⟩; replace H := Lib.hid (H.out.go hb); clear hb)
        | (go_at_call 34; refine (Name_any _ _ (by assumption) H.out.tb).mono ?_; rintro _ _ ⟨rfl, hb⟩; replace H := Lib.hid (H.out.go hb); clear hb))
    go_ret
    exact ⟨rfl, H.out.bel⟩
set_option maxHeartbeats 4000000 in
theorem plain_3a (k n : Int) (a b : ByteArray) (wd : Option Rat) (B : Option Addr) (nb c : Nat) (w : World) (ha : a.size ≤ maxLen) (hb : b.size ≤ maxLen) (hs : SmO wd) (hT : Tb w) (h : nb = 0) (hk1 : k ≠ 1) (hk2 : k ≠ 2) (hk5 : k ≠ 5) (hn : n = 0) (hw : ¬ wd.isSome = true) (ga : nameB a = false) :
    Calls Tryd.prog 55 #[.agg (Sv.cells ⟨k, a, b, wd, n, .slice B nb c⟩).toArray] w fun e w' => e = .returned (.int .i64 3) ∧ Below w.heap.size w w' := by
  have H := Lib.hid (Hp.start hT)
  have S := Lib.hid hs
  clear hT hs
  subst h
  have k1p : ¬ (k = 1) := by omega
  have k1d : decide (k = 1) = false := decide_eq_false k1p
  have k2p : ¬ (k = 2) := by omega
  have k2d : decide (k = 2) = false := decide_eq_false k2p
  have k5p : ¬ (k = 5) := by omega
  have k5d : decide (k = 5) = false := decide_eq_false k5p
  subst hn
  cases wd with
  | some q => exact absurd hw (by simp)
  | none =>
    clear hw
    unfold Sv.cells
    simp only [sgO, nuO, deO]
    go_enter Tryd.func55, Tryd.ntmps55
    go_wp2_with (first
        | go_skip
        | ((with_reducible refine isLoad ?_); refine ldA H ?_ (hT := by first | exact rRat | exact rStm8 | exact rJob | exact rWks | exact rGoa))
        | ((with_reducible refine isLoad ?_); refine ld1A H ?_ (hT := by first | exact kInt | exact kStr | exact kBll | exact kBool | exact kStl))
        | ((with_reducible refine isStore ?_); refine stA H ?_ (hT := by first | exact rRat | exact rGoa); clear H; intro _ H)
        | ((with_reducible refine isBox ?_); refine bxA H ?_; clear H; intro _ _ H)
        | ((with_reducible refine isAlloc ?_); refine alA H ?_ (hz := by first | exact zRat | exact zGoa); clear H; intro _ _ H)
        | (go_at_call 34; refine (Name_any _ _ (by assumption) H.out.tb).mono ?_; rintro _ _ ⟨rfl, hb⟩; replace H := Lib.hid (H.out.go hb); clear hb)
        | (go_at_call 34; refine (Name_any _ _ (by assumption) H.out.tb).mono ?_; rintro _ _ ⟨rfl, hb⟩; replace H := Lib.hid (H.out.go hb); clear hb))
    go_ret
    exact ⟨rfl, H.out.bel⟩
set_option maxHeartbeats 4000000 in
theorem plain_3b (k n : Int) (a b : ByteArray) (wd : Option Rat) (B : Option Addr) (nb c : Nat) (w : World) (ha : a.size ≤ maxLen) (hb : b.size ≤ maxLen) (hs : SmO wd) (hT : Tb w) (h : nb = 0) (hk1 : k ≠ 1) (hk2 : k ≠ 2) (hk5 : k ≠ 5) (hn : n = 0) (hw : ¬ wd.isSome = true) (ga : nameB a = true) (eb : ¬ b.size = 0) :
    Calls Tryd.prog 55 #[.agg (Sv.cells ⟨k, a, b, wd, n, .slice B nb c⟩).toArray] w fun e w' => e = .returned (.int .i64 3) ∧ Below w.heap.size w w' := by
  have H := Lib.hid (Hp.start hT)
  have S := Lib.hid hs
  clear hT hs
  subst h
  have k1p : ¬ (k = 1) := by omega
  have k1d : decide (k = 1) = false := decide_eq_false k1p
  have k2p : ¬ (k = 2) := by omega
  have k2d : decide (k = 2) = false := decide_eq_false k2p
  have k5p : ¬ (k = 5) := by omega
  have k5d : decide (k = 5) = false := decide_eq_false k5p
  subst hn
  obtain ⟨b1, b2, _⟩ := sFull2 eb
  cases wd with
  | some q => exact absurd hw (by simp)
  | none =>
    clear hw
    unfold Sv.cells
    simp only [sgO, nuO, deO]
    go_enter Tryd.func55, Tryd.ntmps55
    go_wp2_with (first
        | go_skip
        | ((with_reducible refine isLoad ?_); refine ldA H ?_ (hT := by first | exact rRat | exact rStm8 | exact rJob | exact rWks | exact rGoa))
        | ((with_reducible refine isLoad ?_); refine ld1A H ?_ (hT := by first | exact kInt | exact kStr | exact kBll | exact kBool | exact kStl))
        | ((with_reducible refine isStore ?_); refine stA H ?_ (hT := by first | exact rRat | exact rGoa); clear H; intro _ H)
        | ((with_reducible refine isBox ?_); refine bxA H ?_; clear H; intro _ _ H)
        | ((with_reducible refine isAlloc ?_); refine alA H ?_ (hz := by first | exact zRat | exact zGoa); clear H; intro _ _ H)
        | (go_at_call 34; refine (Name_any _ _ (by assumption) H.out.tb).mono ?_; rintro _ _ ⟨rfl, hb⟩; replace H := Lib.hid (H.out.go hb); clear hb)
        | (go_at_call 34; refine (Name_any _ _ (by assumption) H.out.tb).mono ?_; rintro _ _ ⟨rfl, hb⟩; replace H := Lib.hid (H.out.go hb); clear hb))
    go_ret
    exact ⟨rfl, H.out.bel⟩
set_option maxHeartbeats 4000000 in
theorem plain_3c (k n : Int) (a b : ByteArray) (wd : Option Rat) (B : Option Addr) (nb c : Nat) (w : World) (ha : a.size ≤ maxLen) (hb : b.size ≤ maxLen) (hs : SmO wd) (hT : Tb w) (h : nb = 0) (hk1 : k ≠ 1) (hk2 : k ≠ 2) (hk5 : k ≠ 5) (hn : n = 0) (hw : ¬ wd.isSome = true) (ga : nameB a = true) (eb : b.size = 0) :
    Calls Tryd.prog 55 #[.agg (Sv.cells ⟨k, a, b, wd, n, .slice B nb c⟩).toArray] w fun e w' => e = .returned (.int .i64 0) ∧ Below w.heap.size w w' := by
  have H := Lib.hid (Hp.start hT)
  have S := Lib.hid hs
  clear hT hs
  subst h
  have k1p : ¬ (k = 1) := by omega
  have k1d : decide (k = 1) = false := decide_eq_false k1p
  have k2p : ¬ (k = 2) := by omega
  have k2d : decide (k = 2) = false := decide_eq_false k2p
  have k5p : ¬ (k = 5) := by omega
  have k5d : decide (k = 5) = false := decide_eq_false k5p
  subst hn
  obtain ⟨b1, b2⟩ := sEmpty eb
  cases wd with
  | some q => exact absurd hw (by simp)
  | none =>
    clear hw
    unfold Sv.cells
    simp only [sgO, nuO, deO]
    go_enter Tryd.func55, Tryd.ntmps55
    go_wp2_with (first
        | go_skip
        | ((with_reducible refine isLoad ?_); refine ldA H ?_ (hT := by first | exact rRat | exact rStm8 | exact rJob | exact rWks | exact rGoa))
        | ((with_reducible refine isLoad ?_); refine ld1A H ?_ (hT := by first | exact kInt | exact kStr | exact kBll | exact kBool | exact kStl))
        | ((with_reducible refine isStore ?_); refine stA H ?_ (hT := by first | exact rRat | exact rGoa); clear H; intro _ H)
        | ((with_reducible refine isBox ?_); refine bxA H ?_; clear H; intro _ _ H)
        | ((with_reducible refine isAlloc ?_); refine alA H ?_ (hz := by first | exact zRat | exact zGoa); clear H; intro _ _ H)
        | (go_at_call 34; refine (Name_any _ _ (by assumption) H.out.tb).mono ?_; rintro _ _ ⟨rfl, hb⟩; replace H := Lib.hid (H.out.go hb); clear hb)
        | (go_at_call 34; refine (Name_any _ _ (by assumption) H.out.tb).mono ?_; rintro _ _ ⟨rfl, hb⟩; replace H := Lib.hid (H.out.go hb); clear hb))
    go_ret
    exact ⟨rfl, H.out.bel⟩
set_option maxHeartbeats 4000000 in
theorem plain_5a (k n : Int) (a b : ByteArray) (wd : Option Rat) (B : Option Addr) (nb c : Nat) (w : World) (ha : a.size ≤ maxLen) (hb : b.size ≤ maxLen) (hs : SmO wd) (hT : Tb w) (h : nb = 0) (hk : k = 5) (hw : ¬ wd.isSome = true) (ea : ¬ a.size = 0) :
    Calls Tryd.prog 55 #[.agg (Sv.cells ⟨k, a, b, wd, n, .slice B nb c⟩).toArray] w fun e w' => e = .returned (.int .i64 3) ∧ Below w.heap.size w w' := by
  have H := Lib.hid (Hp.start hT)
  have S := Lib.hid hs
  clear hT hs
  subst h
  subst hk
  obtain ⟨a1, a2, _⟩ := sFull2 ea
  cases wd with
  | some q => exact absurd hw (by simp)
  | none =>
    clear hw
    unfold Sv.cells
    simp only [sgO, nuO, deO]
    go_enter Tryd.func55, Tryd.ntmps55
    go_wp2_with (first
        | go_skip
        | ((with_reducible refine isLoad ?_); refine ldA H ?_ (hT := by first | exact rRat | exact rStm8 | exact rJob | exact rWks | exact rGoa))
        | ((with_reducible refine isLoad ?_); refine ld1A H ?_ (hT := by first | exact kInt | exact kStr | exact kBll | exact kBool | exact kStl))
        | ((with_reducible refine isStore ?_); refine stA H ?_ (hT := by first | exact rRat | exact rGoa); clear H; intro _ H)
        | ((with_reducible refine isBox ?_); refine bxA H ?_; clear H; intro _ _ H)
        | ((with_reducible refine isAlloc ?_); refine alA H ?_ (hz := by first | exact zRat | exact zGoa); clear H; intro _ _ H))
    go_ret
    exact ⟨rfl, H.out.bel⟩
set_option maxHeartbeats 4000000 in
theorem plain_5b (k n : Int) (a b : ByteArray) (wd : Option Rat) (B : Option Addr) (nb c : Nat) (w : World) (ha : a.size ≤ maxLen) (hb : b.size ≤ maxLen) (hs : SmO wd) (hT : Tb w) (h : nb = 0) (hk : k = 5) (hw : ¬ wd.isSome = true) (ea : a.size = 0) (eb : ¬ b.size = 0) :
    Calls Tryd.prog 55 #[.agg (Sv.cells ⟨k, a, b, wd, n, .slice B nb c⟩).toArray] w fun e w' => e = .returned (.int .i64 3) ∧ Below w.heap.size w w' := by
  have H := Lib.hid (Hp.start hT)
  have S := Lib.hid hs
  clear hT hs
  subst h
  subst hk
  obtain ⟨a1, a2⟩ := sEmpty ea
  obtain ⟨b1, b2, _⟩ := sFull2 eb
  cases wd with
  | some q => exact absurd hw (by simp)
  | none =>
    clear hw
    unfold Sv.cells
    simp only [sgO, nuO, deO]
    go_enter Tryd.func55, Tryd.ntmps55
    go_wp2_with (first
        | go_skip
        | ((with_reducible refine isLoad ?_); refine ldA H ?_ (hT := by first | exact rRat | exact rStm8 | exact rJob | exact rWks | exact rGoa))
        | ((with_reducible refine isLoad ?_); refine ld1A H ?_ (hT := by first | exact kInt | exact kStr | exact kBll | exact kBool | exact kStl))
        | ((with_reducible refine isStore ?_); refine stA H ?_ (hT := by first | exact rRat | exact rGoa); clear H; intro _ H)
        | ((with_reducible refine isBox ?_); refine bxA H ?_; clear H; intro _ _ H)
        | ((with_reducible refine isAlloc ?_); refine alA H ?_ (hz := by first | exact zRat | exact zGoa); clear H; intro _ _ H))
    go_ret
    exact ⟨rfl, H.out.bel⟩
set_option maxHeartbeats 4000000 in
theorem plain_5c (k n : Int) (a b : ByteArray) (wd : Option Rat) (B : Option Addr) (nb c : Nat) (w : World) (ha : a.size ≤ maxLen) (hb : b.size ≤ maxLen) (hs : SmO wd) (hT : Tb w) (h : nb = 0) (hk : k = 5) (hw : ¬ wd.isSome = true) (ea : a.size = 0) (eb : b.size = 0) (hn : n < 1) :
    Calls Tryd.prog 55 #[.agg (Sv.cells ⟨k, a, b, wd, n, .slice B nb c⟩).toArray] w fun e w' => e = .returned (.int .i64 1) ∧ Below w.heap.size w w' := by
  have H := Lib.hid (Hp.start hT)
  have S := Lib.hid hs
  clear hT hs
  subst h
  subst hk
  obtain ⟨a1, a2⟩ := sEmpty ea
  obtain ⟨b1, b2⟩ := sEmpty eb
  have n1p : n < 1 := by omega
  have n1d : decide (n < 1) = true := decide_eq_true n1p
  cases wd with
  | some q => exact absurd hw (by simp)
  | none =>
    clear hw
    unfold Sv.cells
    simp only [sgO, nuO, deO]
    go_enter Tryd.func55, Tryd.ntmps55
    go_wp2_with (first
        | go_skip
        | ((with_reducible refine isLoad ?_); refine ldA H ?_ (hT := by first | exact rRat | exact rStm8 | exact rJob | exact rWks | exact rGoa))
        | ((with_reducible refine isLoad ?_); refine ld1A H ?_ (hT := by first | exact kInt | exact kStr | exact kBll | exact kBool | exact kStl))
        | ((with_reducible refine isStore ?_); refine stA H ?_ (hT := by first | exact rRat | exact rGoa); clear H; intro _ H)
        | ((with_reducible refine isBox ?_); refine bxA H ?_; clear H; intro _ _ H)
        | ((with_reducible refine isAlloc ?_); refine alA H ?_ (hz := by first | exact zRat | exact zGoa); clear H; intro _ _ H))
    go_ret
    exact ⟨rfl, H.out.bel⟩
set_option maxHeartbeats 4000000 in
theorem plain_5d (k n : Int) (a b : ByteArray) (wd : Option Rat) (B : Option Addr) (nb c : Nat) (w : World) (ha : a.size ≤ maxLen) (hb : b.size ≤ maxLen) (hs : SmO wd) (hT : Tb w) (h : nb = 0) (hk : k = 5) (hw : ¬ wd.isSome = true) (ea : a.size = 0) (eb : b.size = 0) (hn : 2000 < n) :
    Calls Tryd.prog 55 #[.agg (Sv.cells ⟨k, a, b, wd, n, .slice B nb c⟩).toArray] w fun e w' => e = .returned (.int .i64 1) ∧ Below w.heap.size w w' := by
  have H := Lib.hid (Hp.start hT)
  have S := Lib.hid hs
  clear hT hs
  subst h
  subst hk
  obtain ⟨a1, a2⟩ := sEmpty ea
  obtain ⟨b1, b2⟩ := sEmpty eb
  have n1p : ¬ (n < 1) := by omega
  have n1d : decide (n < 1) = false := decide_eq_false n1p
  have n2p : 2000 < n := by omega
  have n2d : decide (2000 < n) = true := decide_eq_true n2p
  cases wd with
  | some q => exact absurd hw (by simp)
  | none =>
    clear hw
    unfold Sv.cells
    simp only [sgO, nuO, deO]
    go_enter Tryd.func55, Tryd.ntmps55
    go_wp2_with (first
        | go_skip
        | ((with_reducible refine isLoad ?_); refine ldA H ?_ (hT := by first | exact rRat | exact rStm8 | exact rJob | exact rWks | exact rGoa))
        | ((with_reducible refine isLoad ?_); refine ld1A H ?_ (hT := by first | exact kInt | exact kStr | exact kBll | exact kBool | exact kStl))
        | ((with_reducible refine isStore ?_); refine stA H ?_ (hT := by first | exact rRat | exact rGoa); clear H; intro _ H)
        | ((with_reducible refine isBox ?_); refine bxA H ?_; clear H; intro _ _ H)
        | ((with_reducible refine isAlloc ?_); refine alA H ?_ (hz := by first | exact zRat | exact zGoa); clear H; intro _ _ H))
    go_ret
    exact ⟨rfl, H.out.bel⟩
set_option maxHeartbeats 4000000 in
theorem plain_5e (k n : Int) (a b : ByteArray) (wd : Option Rat) (B : Option Addr) (nb c : Nat) (w : World) (ha : a.size ≤ maxLen) (hb : b.size ≤ maxLen) (hs : SmO wd) (hT : Tb w) (h : nb = 0) (hk : k = 5) (hw : ¬ wd.isSome = true) (ea : a.size = 0) (eb : b.size = 0) (hn : ¬ n < 1) (hn2 : ¬ 2000 < n) :
    Calls Tryd.prog 55 #[.agg (Sv.cells ⟨k, a, b, wd, n, .slice B nb c⟩).toArray] w fun e w' => e = .returned (.int .i64 0) ∧ Below w.heap.size w w' := by
  have H := Lib.hid (Hp.start hT)
  have S := Lib.hid hs
  clear hT hs
  subst h
  subst hk
  obtain ⟨a1, a2⟩ := sEmpty ea
  obtain ⟨b1, b2⟩ := sEmpty eb
  have n1p : ¬ (n < 1) := by omega
  have n1d : decide (n < 1) = false := decide_eq_false n1p
  have n2p : ¬ (2000 < n) := by omega
  have n2d : decide (2000 < n) = false := decide_eq_false n2p
  cases wd with
  | some q => exact absurd hw (by simp)
  | none =>
    clear hw
    unfold Sv.cells
    simp only [sgO, nuO, deO]
    go_enter Tryd.func55, Tryd.ntmps55
    go_wp2_with (first
        | go_skip
        | ((with_reducible refine isLoad ?_); refine ldA H ?_ (hT := by first | exact rRat | exact rStm8 | exact rJob | exact rWks | exact rGoa))
        | ((with_reducible refine isLoad ?_); refine ld1A H ?_ (hT := by first | exact kInt | exact kStr | exact kBll | exact kBool | exact kStl))
        | ((with_reducible refine isStore ?_); refine stA H ?_ (hT := by first | exact rRat | exact rGoa); clear H; intro _ H)
        | ((with_reducible refine isBox ?_); refine bxA H ?_; clear H; intro _ _ H)
        | ((with_reducible refine isAlloc ?_); refine alA H ?_ (hz := by first | exact zRat | exact zGoa); clear H; intro _ _ H))
    go_ret
    exact ⟨rfl, H.out.bel⟩
end Go.Proofs.YtbphdmnomakeoaaDoor

namespace Go.Proofs.YtbphdmnomakeoaaDoor
open Go.RowKit
set_option linter.unusedVariables false
set_option maxRecDepth 100000

theorem isSome_not {α : Type} {x : Option α} (h : x = none) : ¬ x.isSome = true := by subst h; simp
theorem plain_any (k n : Int) (a b : ByteArray) (wd : Option Rat) (B : Option Addr) (nb c : Nat) (w : World) (ha : a.size ≤ maxLen) (hb : b.size ≤ maxLen) (hs : SmO wd) (hT : Tb w) (hk1 : 1 ≤ k) (hk5 : k ≤ 5) :
    Calls Tryd.prog 55 #[.agg (Sv.cells ⟨k, a, b, wd, n, .slice B nb c⟩).toArray] w fun e w' => e = .returned (.int .i64 (plainE k a b wd n nb)) ∧ Below w.heap.size w w' := by
  by_cases h1 : nb = 0
  case neg => exact (plain_nb k n a b wd B nb c w ha hb hs hT h1).mono fun e w' ⟨he, hb⟩ => ⟨he.trans (by simp [plainE, h1]), hb⟩
  by_cases h2 : k ≠ 1 ∧ wd.isSome = true
  · exact (plain_w k n a b wd B nb c w ha hb hs hT h1 h2.1 h2.2).mono fun e w' ⟨he, hb⟩ => ⟨he.trans (by simp [plainE, h1, h2]), hb⟩
  by_cases h3 : k ≠ 5 ∧ n ≠ 0
  · have e : plainE k a b wd n nb = 3 := by unfold plainE; rw [if_neg (by simp [h1]), if_neg h2, if_pos h3]
    rw [e]
    by_cases h4 : k = 1
    · exact plain_n1 k n a b wd B nb c w ha hb hs hT h1 h4 h3.2
    · exact plain_nx k n a b wd B nb c w ha hb hs hT h1 h4 h3.1 h3.2 (fun h => h2 ⟨h4, h⟩)
  have e0 : plainE k a b wd n nb = if k = 5 then (if a.size ≠ 0 then 3 else if b.size ≠ 0 then 3 else if n < 1 ∨ 2000 < n then 1 else 0)
      else if nameB a = false then 3
      else if k = 1 ∨ k = 2 then (if nameB b = false then 3 else if badW wd = true then 3 else 0)
      else if b.size ≠ 0 then 3 else 0 := by unfold plainE; rw [if_neg (by simp [h1]), if_neg h2, if_neg h3]
  rw [e0]
  by_cases h5 : k = 5
  · rw [if_pos h5]
    have hw : ¬ wd.isSome = true := fun h => h2 ⟨by omega, h⟩
    by_cases ea : a.size = 0
    case neg => rw [if_pos ea]; exact plain_5a k n a b wd B nb c w ha hb hs hT h1 h5 hw ea
    rw [if_neg (by simpa using ea)]
    by_cases eb : b.size = 0
    case neg => rw [if_pos eb]; exact plain_5b k n a b wd B nb c w ha hb hs hT h1 h5 hw ea eb
    rw [if_neg (by simpa using eb)]
    by_cases g1 : n < 1
    · rw [if_pos (.inl g1)]; exact plain_5c k n a b wd B nb c w ha hb hs hT h1 h5 hw ea eb g1
    by_cases g2 : 2000 < n
    · rw [if_pos (.inr g2)]; exact plain_5d k n a b wd B nb c w ha hb hs hT h1 h5 hw ea eb g2
    rw [if_neg (fun h => h.elim g1 g2)]
    exact plain_5e k n a b wd B nb c w ha hb hs hT h1 h5 hw ea eb g1 g2
  rw [if_neg h5]
  have hn : n = 0 := by
    by_cases e : n = 0
    · exact e
    · exact absurd ⟨h5, e⟩ h3
  cases ga : nameB a with
  | false =>
    rw [if_pos rfl]
    by_cases g1 : k = 1
    · exact plain_1a k n a b wd B nb c w ha hb hs hT h1 g1 hn ga
    have hw : ¬ wd.isSome = true := fun h => h2 ⟨g1, h⟩
    by_cases g2 : k = 2
    · exact plain_2a k n a b wd B nb c w ha hb hs hT h1 g2 hn hw ga
    · exact plain_3a k n a b wd B nb c w ha hb hs hT h1 g1 g2 h5 hn hw ga
  | true =>
    rw [if_neg (by simp)]
    by_cases g1 : k = 1
    · rw [if_pos (.inl g1)]
      cases gb : nameB b with
      | false => rw [if_pos rfl]; exact plain_1b k n a b wd B nb c w ha hb hs hT h1 g1 hn ga gb
      | true =>
        rw [if_neg (by simp)]
        by_cases hw : wd.isSome = true
        case neg =>
          have : badW wd = false := by cases wd with | none => rfl | some q => exact absurd rfl hw
          rw [this, if_neg (by simp)]
          exact plain_1c k n a b wd B nb c w ha hb hs hT h1 g1 hn hw ga gb
        obtain ⟨q, hq⟩ := Option.isSome_iff_exists.1 hw
        by_cases g3 : cmpQ q 0 ≤ 0
        · rw [if_pos (by rw [hq]; simp [badW, g3])]
          exact plain_1d k n a b wd B nb c w ha hb hs hT h1 g1 hn hw ga gb (fun q' hq' => by rw [hq] at hq'; cases hq'; exact g3)
        cases g4 : smallQ q with
        | false =>
          rw [if_pos (by rw [hq]; simp [badW, g4])]
          exact plain_1e k n a b wd B nb c w ha hb hs hT h1 g1 hn hw ga gb (fun q' hq' => by rw [hq] at hq'; cases hq'; exact g3) (fun q' hq' => by rw [hq] at hq'; cases hq'; exact g4)
        | true =>
          rw [if_neg (by rw [hq]; simp [badW, g4]; omega)]
          exact plain_1f k n a b wd B nb c w ha hb hs hT h1 g1 hn hw ga gb (fun q' hq' => by rw [hq] at hq'; cases hq'; exact g3) (fun q' hq' => by rw [hq] at hq'; cases hq'; exact g4)
    have hw : ¬ wd.isSome = true := fun h => h2 ⟨g1, h⟩
    by_cases g2 : k = 2
    · rw [if_pos (.inr g2)]
      have : badW wd = false := by cases wd with | none => rfl | some q => exact absurd rfl hw
      cases gb : nameB b with
      | false => rw [if_pos rfl]; exact plain_2b k n a b wd B nb c w ha hb hs hT h1 g2 hn hw ga gb
      | true => rw [if_neg (by simp), this, if_neg (by simp)]; exact plain_2c k n a b wd B nb c w ha hb hs hT h1 g2 hn hw ga gb
    rw [if_neg (fun h => h.elim g1 g2)]
    by_cases eb : b.size = 0
    · rw [if_neg (by simpa using eb)]; exact plain_3c k n a b wd B nb c w ha hb hs hT h1 g1 g2 h5 hn hw ga eb
    · rw [if_pos eb]; exact plain_3b k n a b wd B nb c w ha hb hs hT h1 g1 g2 h5 hn hw ga eb
/-- The error of a statement with blocks. -/
def shapeE (k : Int) (a b : ByteArray) (wd : Option Rat) (n : Int) (nb : Nat) : Int :=
  if a.size ≠ 0 then 3 else if b.size ≠ 0 then 3 else if wd.isSome = true then 3 else if k ≠ 7 ∧ n ≠ 0 then 3
  else if k = 8 then (if nb < 1 ∨ 4 < nb then 3 else 0) else if k = 9 then (if nb = 2 then 0 else 3)
  else if nb ≠ 1 then 3 else if k = 7 ∧ (n < 1 ∨ 5 < n) then 1 else 0
set_option maxHeartbeats 4000000 in
theorem shape_a (k n : Int) (a b : ByteArray) (wd : Option Rat) (B : Option Addr) (nb c : Nat) (w : World) (ha : a.size ≤ maxLen) (hb : b.size ≤ maxLen) (hs : SmO wd) (hT : Tb w) (ea : ¬ a.size = 0) :
    Calls Tryd.prog 56 #[.agg (Sv.cells ⟨k, a, b, wd, n, .slice B nb c⟩).toArray] w fun e w' => e = .returned (.int .i64 3) ∧ Below w.heap.size w w' := by
  have H := Lib.hid (Hp.start hT)
  have S := Lib.hid hs
  clear hT hs
  obtain ⟨a1, a2, _⟩ := sFull2 ea
  unfold Sv.cells
  go_enter Tryd.func56, Tryd.ntmps56
  go_wp2_with (first
      | go_skip
      | ((with_reducible refine isLoad ?_); refine ldA H ?_ (hT := by first | exact rRat | exact rStm8 | exact rJob | exact rWks | exact rGoa))
      | ((with_reducible refine isLoad ?_); refine ld1A H ?_ (hT := by first | exact kInt | exact kStr | exact kBll | exact kBool | exact kStl))
      | ((with_reducible refine isStore ?_); refine stA H ?_ (hT := by first | exact rRat | exact rGoa); clear H; intro _ H)
      | ((with_reducible refine isBox ?_); refine bxA H ?_; clear H; intro _ _ H)
      | ((with_reducible refine isAlloc ?_); refine alA H ?_ (hz := by first | exact zRat | exact zGoa); clear H; intro _ _ H))
  go_ret
  exact ⟨rfl, H.out.bel⟩
set_option maxHeartbeats 4000000 in
theorem shape_b (k n : Int) (a b : ByteArray) (wd : Option Rat) (B : Option Addr) (nb c : Nat) (w : World) (ha : a.size ≤ maxLen) (hb : b.size ≤ maxLen) (hs : SmO wd) (hT : Tb w) (ea : a.size = 0) (eb : ¬ b.size = 0) :
    Calls Tryd.prog 56 #[.agg (Sv.cells ⟨k, a, b, wd, n, .slice B nb c⟩).toArray] w fun e w' => e = .returned (.int .i64 3) ∧ Below w.heap.size w w' := by
  have H := Lib.hid (Hp.start hT)
  have S := Lib.hid hs
  clear hT hs
  obtain ⟨a1, a2⟩ := sEmpty ea
  obtain ⟨b1, b2, _⟩ := sFull2 eb
  unfold Sv.cells
  go_enter Tryd.func56, Tryd.ntmps56
  go_wp2_with (first
      | go_skip
      | ((with_reducible refine isLoad ?_); refine ldA H ?_ (hT := by first | exact rRat | exact rStm8 | exact rJob | exact rWks | exact rGoa))
      | ((with_reducible refine isLoad ?_); refine ld1A H ?_ (hT := by first | exact kInt | exact kStr | exact kBll | exact kBool | exact kStl))
      | ((with_reducible refine isStore ?_); refine stA H ?_ (hT := by first | exact rRat | exact rGoa); clear H; intro _ H)
      | ((with_reducible refine isBox ?_); refine bxA H ?_; clear H; intro _ _ H)
      | ((with_reducible refine isAlloc ?_); refine alA H ?_ (hz := by first | exact zRat | exact zGoa); clear H; intro _ _ H))
  go_ret
  exact ⟨rfl, H.out.bel⟩
set_option maxHeartbeats 4000000 in
theorem shape_w (k n : Int) (a b : ByteArray) (wd : Option Rat) (B : Option Addr) (nb c : Nat) (w : World) (ha : a.size ≤ maxLen) (hb : b.size ≤ maxLen) (hs : SmO wd) (hT : Tb w) (ea : a.size = 0) (eb : b.size = 0) (hw : wd.isSome = true) :
    Calls Tryd.prog 56 #[.agg (Sv.cells ⟨k, a, b, wd, n, .slice B nb c⟩).toArray] w fun e w' => e = .returned (.int .i64 3) ∧ Below w.heap.size w w' := by
  have H := Lib.hid (Hp.start hT)
  have S := Lib.hid hs
  clear hT hs
  obtain ⟨a1, a2⟩ := sEmpty ea
  obtain ⟨b1, b2⟩ := sEmpty eb
  cases wd with
  | none => exact absurd hw (by simp)
  | some q =>
    obtain ⟨N, hN⟩ : ∃ N, nuO (some q) = N := ⟨_, rfl⟩
    obtain ⟨D, hD⟩ : ∃ D, deO (some q) = D := ⟨_, rfl⟩
    have HN := Lib.hid hN
    have HD := Lib.hid hD
    obtain ⟨f1, f2, _⟩ := (show SFull D by rw [← hD]; exact sFull q.den_pos)
    unfold Sv.cells
    rw [hN, hD]
    clear hN hD
    go_enter Tryd.func56, Tryd.ntmps56
    go_wp2_with (first
        | go_skip
        | ((with_reducible refine isLoad ?_); refine ldA H ?_ (hT := by first | exact rRat | exact rStm8 | exact rJob | exact rWks | exact rGoa))
        | ((with_reducible refine isLoad ?_); refine ld1A H ?_ (hT := by first | exact kInt | exact kStr | exact kBll | exact kBool | exact kStl))
        | ((with_reducible refine isStore ?_); refine stA H ?_ (hT := by first | exact rRat | exact rGoa); clear H; intro _ H)
        | ((with_reducible refine isBox ?_); refine bxA H ?_; clear H; intro _ _ H)
        | ((with_reducible refine isAlloc ?_); refine alA H ?_ (hz := by first | exact zRat | exact zGoa); clear H; intro _ _ H))
    go_ret
    exact ⟨rfl, H.out.bel⟩
set_option maxHeartbeats 4000000 in
theorem shape_n (k n : Int) (a b : ByteArray) (wd : Option Rat) (B : Option Addr) (nb c : Nat) (w : World) (ha : a.size ≤ maxLen) (hb : b.size ≤ maxLen) (hs : SmO wd) (hT : Tb w) (ea : a.size = 0) (eb : b.size = 0) (hw : ¬ wd.isSome = true) (hk : ¬ k = 7) (hn : ¬ n = 0) :
    Calls Tryd.prog 56 #[.agg (Sv.cells ⟨k, a, b, wd, n, .slice B nb c⟩).toArray] w fun e w' => e = .returned (.int .i64 3) ∧ Below w.heap.size w w' := by
  have H := Lib.hid (Hp.start hT)
  have S := Lib.hid hs
  clear hT hs
  obtain ⟨a1, a2⟩ := sEmpty ea
  obtain ⟨b1, b2⟩ := sEmpty eb
  have k7p : ¬ (k = 7) := by omega
  have k7d : decide (k = 7) = false := decide_eq_false k7p
  have n0p : ¬ (n = 0) := by omega
  have n0d : decide (n = 0) = false := decide_eq_false n0p
  cases wd with
  | some q => exact absurd hw (by simp)
  | none =>
    clear hw
    unfold Sv.cells
    simp only [sgO, nuO, deO]
    go_enter Tryd.func56, Tryd.ntmps56
    go_wp2_with (first
        | go_skip
        | ((with_reducible refine isLoad ?_); refine ldA H ?_ (hT := by first | exact rRat | exact rStm8 | exact rJob | exact rWks | exact rGoa))
        | ((with_reducible refine isLoad ?_); refine ld1A H ?_ (hT := by first | exact kInt | exact kStr | exact kBll | exact kBool | exact kStl))
        | ((with_reducible refine isStore ?_); refine stA H ?_ (hT := by first | exact rRat | exact rGoa); clear H; intro _ H)
        | ((with_reducible refine isBox ?_); refine bxA H ?_; clear H; intro _ _ H)
        | ((with_reducible refine isAlloc ?_); refine alA H ?_ (hz := by first | exact zRat | exact zGoa); clear H; intro _ _ H))
    go_ret
    exact ⟨rfl, H.out.bel⟩
set_option maxHeartbeats 4000000 in
theorem shape_8l (k n : Int) (a b : ByteArray) (wd : Option Rat) (B : Option Addr) (nb c : Nat) (w : World) (ha : a.size ≤ maxLen) (hb : b.size ≤ maxLen) (hs : SmO wd) (hT : Tb w) (ea : a.size = 0) (eb : b.size = 0) (hw : ¬ wd.isSome = true) (hk : k = 8) (hn : n = 0) (g : nb < 1) :
    Calls Tryd.prog 56 #[.agg (Sv.cells ⟨k, a, b, wd, n, .slice B nb c⟩).toArray] w fun e w' => e = .returned (.int .i64 3) ∧ Below w.heap.size w w' := by
  have H := Lib.hid (Hp.start hT)
  have S := Lib.hid hs
  clear hT hs
  obtain ⟨a1, a2⟩ := sEmpty ea
  obtain ⟨b1, b2⟩ := sEmpty eb
  subst hk
  subst hn
  have g1p : (nb : Int) < 1 := by omega
  have g1d : decide ((nb : Int) < 1) = true := decide_eq_true g1p
  cases wd with
  | some q => exact absurd hw (by simp)
  | none =>
    clear hw
    unfold Sv.cells
    simp only [sgO, nuO, deO]
    go_enter Tryd.func56, Tryd.ntmps56
    go_wp2_with (first
        | go_skip
        | ((with_reducible refine isLoad ?_); refine ldA H ?_ (hT := by first | exact rRat | exact rStm8 | exact rJob | exact rWks | exact rGoa))
        | ((with_reducible refine isLoad ?_); refine ld1A H ?_ (hT := by first | exact kInt | exact kStr | exact kBll | exact kBool | exact kStl))
        | ((with_reducible refine isStore ?_); refine stA H ?_ (hT := by first | exact rRat | exact rGoa); clear H; intro _ H)
        | ((with_reducible refine isBox ?_); refine bxA H ?_; clear H; intro _ _ H)
        | ((with_reducible refine isAlloc ?_); refine alA H ?_ (hz := by first | exact zRat | exact zGoa); clear H; intro _ _ H))
    go_ret
    exact ⟨rfl, H.out.bel⟩
set_option maxHeartbeats 4000000 in
theorem shape_8h (k n : Int) (a b : ByteArray) (wd : Option Rat) (B : Option Addr) (nb c : Nat) (w : World) (ha : a.size ≤ maxLen) (hb : b.size ≤ maxLen) (hs : SmO wd) (hT : Tb w) (ea : a.size = 0) (eb : b.size = 0) (hw : ¬ wd.isSome = true) (hk : k = 8) (hn : n = 0) (g : 4 < nb) :
    Calls Tryd.prog 56 #[.agg (Sv.cells ⟨k, a, b, wd, n, .slice B nb c⟩).toArray] w fun e w' => e = .returned (.int .i64 3) ∧ Below w.heap.size w w' := by
  have H := Lib.hid (Hp.start hT)
  have S := Lib.hid hs
  clear hT hs
  obtain ⟨a1, a2⟩ := sEmpty ea
  obtain ⟨b1, b2⟩ := sEmpty eb
  subst hk
  subst hn
  have g1p : ¬ ((nb : Int) < 1) := by omega
  have g1d : decide ((nb : Int) < 1) = false := decide_eq_false g1p
  have g2p : 4 < (nb : Int) := by omega
  have g2d : decide (4 < (nb : Int)) = true := decide_eq_true g2p
  cases wd with
  | some q => exact absurd hw (by simp)
  | none =>
    clear hw
    unfold Sv.cells
    simp only [sgO, nuO, deO]
    go_enter Tryd.func56, Tryd.ntmps56
    go_wp2_with (first
        | go_skip
        | ((with_reducible refine isLoad ?_); refine ldA H ?_ (hT := by first | exact rRat | exact rStm8 | exact rJob | exact rWks | exact rGoa))
        | ((with_reducible refine isLoad ?_); refine ld1A H ?_ (hT := by first | exact kInt | exact kStr | exact kBll | exact kBool | exact kStl))
        | ((with_reducible refine isStore ?_); refine stA H ?_ (hT := by first | exact rRat | exact rGoa); clear H; intro _ H)
        | ((with_reducible refine isBox ?_); refine bxA H ?_; clear H; intro _ _ H)
        | ((with_reducible refine isAlloc ?_); refine alA H ?_ (hz := by first | exact zRat | exact zGoa); clear H; intro _ _ H))
    go_ret
    exact ⟨rfl, H.out.bel⟩
set_option maxHeartbeats 4000000 in
theorem shape_8o (k n : Int) (a b : ByteArray) (wd : Option Rat) (B : Option Addr) (nb c : Nat) (w : World) (ha : a.size ≤ maxLen) (hb : b.size ≤ maxLen) (hs : SmO wd) (hT : Tb w) (ea : a.size = 0) (eb : b.size = 0) (hw : ¬ wd.isSome = true) (hk : k = 8) (hn : n = 0) (g : 1 ≤ nb) (g2 : nb ≤ 4) :
    Calls Tryd.prog 56 #[.agg (Sv.cells ⟨k, a, b, wd, n, .slice B nb c⟩).toArray] w fun e w' => e = .returned (.int .i64 0) ∧ Below w.heap.size w w' := by
  have H := Lib.hid (Hp.start hT)
  have S := Lib.hid hs
  clear hT hs
  obtain ⟨a1, a2⟩ := sEmpty ea
  obtain ⟨b1, b2⟩ := sEmpty eb
  subst hk
  subst hn
  have g1p : ¬ ((nb : Int) < 1) := by omega
  have g1d : decide ((nb : Int) < 1) = false := decide_eq_false g1p
  have g2p : ¬ (4 < (nb : Int)) := by omega
  have g2d : decide (4 < (nb : Int)) = false := decide_eq_false g2p
  cases wd with
  | some q => exact absurd hw (by simp)
  | none =>
    clear hw
    unfold Sv.cells
    simp only [sgO, nuO, deO]
    go_enter Tryd.func56, Tryd.ntmps56
    go_wp2_with (first
        | go_skip
        | ((with_reducible refine isLoad ?_); refine ldA H ?_ (hT := by first | exact rRat | exact rStm8 | exact rJob | exact rWks | exact rGoa))
        | ((with_reducible refine isLoad ?_); refine ld1A H ?_ (hT := by first | exact kInt | exact kStr | exact kBll | exact kBool | exact kStl))
        | ((with_reducible refine isStore ?_); refine stA H ?_ (hT := by first | exact rRat | exact rGoa); clear H; intro _ H)
        | ((with_reducible refine isBox ?_); refine bxA H ?_; clear H; intro _ _ H)
        | ((with_reducible refine isAlloc ?_); refine alA H ?_ (hz := by first | exact zRat | exact zGoa); clear H; intro _ _ H))
    go_ret
    exact ⟨rfl, H.out.bel⟩
set_option maxHeartbeats 4000000 in
theorem shape_9l (k n : Int) (a b : ByteArray) (wd : Option Rat) (B : Option Addr) (nb c : Nat) (w : World) (ha : a.size ≤ maxLen) (hb : b.size ≤ maxLen) (hs : SmO wd) (hT : Tb w) (ea : a.size = 0) (eb : b.size = 0) (hw : ¬ wd.isSome = true) (hk : k = 9) (hn : n = 0) (g : nb < 2) :
    Calls Tryd.prog 56 #[.agg (Sv.cells ⟨k, a, b, wd, n, .slice B nb c⟩).toArray] w fun e w' => e = .returned (.int .i64 3) ∧ Below w.heap.size w w' := by
  have H := Lib.hid (Hp.start hT)
  have S := Lib.hid hs
  clear hT hs
  obtain ⟨a1, a2⟩ := sEmpty ea
  obtain ⟨b1, b2⟩ := sEmpty eb
  subst hk
  subst hn
  have g1p : (nb : Int) < 2 := by omega
  have g1d : decide ((nb : Int) < 2) = true := decide_eq_true g1p
  cases wd with
  | some q => exact absurd hw (by simp)
  | none =>
    clear hw
    unfold Sv.cells
    simp only [sgO, nuO, deO]
    go_enter Tryd.func56, Tryd.ntmps56
    go_wp2_with (first
        | go_skip
        | ((with_reducible refine isLoad ?_); refine ldA H ?_ (hT := by first | exact rRat | exact rStm8 | exact rJob | exact rWks | exact rGoa))
        | ((with_reducible refine isLoad ?_); refine ld1A H ?_ (hT := by first | exact kInt | exact kStr | exact kBll | exact kBool | exact kStl))
        | ((with_reducible refine isStore ?_); refine stA H ?_ (hT := by first | exact rRat | exact rGoa); clear H; intro _ H)
        | ((with_reducible refine isBox ?_); refine bxA H ?_; clear H; intro _ _ H)
        | ((with_reducible refine isAlloc ?_); refine alA H ?_ (hz := by first | exact zRat | exact zGoa); clear H; intro _ _ H))
    go_ret
    exact ⟨rfl, H.out.bel⟩
set_option maxHeartbeats 4000000 in
theorem shape_9h (k n : Int) (a b : ByteArray) (wd : Option Rat) (B : Option Addr) (nb c : Nat) (w : World) (ha : a.size ≤ maxLen) (hb : b.size ≤ maxLen) (hs : SmO wd) (hT : Tb w) (ea : a.size = 0) (eb : b.size = 0) (hw : ¬ wd.isSome = true) (hk : k = 9) (hn : n = 0) (g : 2 < nb) :
    Calls Tryd.prog 56 #[.agg (Sv.cells ⟨k, a, b, wd, n, .slice B nb c⟩).toArray] w fun e w' => e = .returned (.int .i64 3) ∧ Below w.heap.size w w' := by
  have H := Lib.hid (Hp.start hT)
  have S := Lib.hid hs
  clear hT hs
  obtain ⟨a1, a2⟩ := sEmpty ea
  obtain ⟨b1, b2⟩ := sEmpty eb
  subst hk
  subst hn
  have g1p : ¬ ((nb : Int) < 2) := by omega
  have g1d : decide ((nb : Int) < 2) = false := decide_eq_false g1p
  have g2p : 2 < (nb : Int) := by omega
  have g2d : decide (2 < (nb : Int)) = true := decide_eq_true g2p
  cases wd with
  | some q => exact absurd hw (by simp)
  | none =>
    clear hw
    unfold Sv.cells
    simp only [sgO, nuO, deO]
    go_enter Tryd.func56, Tryd.ntmps56
    go_wp2_with (first
        | go_skip
        | ((with_reducible refine isLoad ?_); refine ldA H ?_ (hT := by first | exact rRat | exact rStm8 | exact rJob | exact rWks | exact rGoa))
        | ((with_reducible refine isLoad ?_); refine ld1A H ?_ (hT := by first | exact kInt | exact kStr | exact kBll | exact kBool | exact kStl))
        | ((with_reducible refine isStore ?_); refine stA H ?_ (hT := by first | exact rRat | exact rGoa); clear H; intro _ H)
        | ((with_reducible refine isBox ?_); refine bxA H ?_; clear H; intro _ _ H)
        | ((with_reducible refine isAlloc ?_); refine alA H ?_ (hz := by first | exact zRat | exact zGoa); clear H; intro _ _ H))
    go_ret
    exact ⟨rfl, H.out.bel⟩
set_option maxHeartbeats 4000000 in
theorem shape_9o (k n : Int) (a b : ByteArray) (wd : Option Rat) (B : Option Addr) (nb c : Nat) (w : World) (ha : a.size ≤ maxLen) (hb : b.size ≤ maxLen) (hs : SmO wd) (hT : Tb w) (ea : a.size = 0) (eb : b.size = 0) (hw : ¬ wd.isSome = true) (hk : k = 9) (hn : n = 0) (g : 2 ≤ nb) (g2 : nb ≤ 2) :
    Calls Tryd.prog 56 #[.agg (Sv.cells ⟨k, a, b, wd, n, .slice B nb c⟩).toArray] w fun e w' => e = .returned (.int .i64 0) ∧ Below w.heap.size w w' := by
  have H := Lib.hid (Hp.start hT)
  have S := Lib.hid hs
  clear hT hs
  obtain ⟨a1, a2⟩ := sEmpty ea
  obtain ⟨b1, b2⟩ := sEmpty eb
  subst hk
  subst hn
  have g1p : ¬ ((nb : Int) < 2) := by omega
  have g1d : decide ((nb : Int) < 2) = false := decide_eq_false g1p
  have g2p : ¬ (2 < (nb : Int)) := by omega
  have g2d : decide (2 < (nb : Int)) = false := decide_eq_false g2p
  cases wd with
  | some q => exact absurd hw (by simp)
  | none =>
    clear hw
    unfold Sv.cells
    simp only [sgO, nuO, deO]
    go_enter Tryd.func56, Tryd.ntmps56
    go_wp2_with (first
        | go_skip
        | ((with_reducible refine isLoad ?_); refine ldA H ?_ (hT := by first | exact rRat | exact rStm8 | exact rJob | exact rWks | exact rGoa))
        | ((with_reducible refine isLoad ?_); refine ld1A H ?_ (hT := by first | exact kInt | exact kStr | exact kBll | exact kBool | exact kStl))
        | ((with_reducible refine isStore ?_); refine stA H ?_ (hT := by first | exact rRat | exact rGoa); clear H; intro _ H)
        | ((with_reducible refine isBox ?_); refine bxA H ?_; clear H; intro _ _ H)
        | ((with_reducible refine isAlloc ?_); refine alA H ?_ (hz := by first | exact zRat | exact zGoa); clear H; intro _ _ H))
    go_ret
    exact ⟨rfl, H.out.bel⟩
set_option maxHeartbeats 4000000 in
theorem shape_6l (k n : Int) (a b : ByteArray) (wd : Option Rat) (B : Option Addr) (nb c : Nat) (w : World) (ha : a.size ≤ maxLen) (hb : b.size ≤ maxLen) (hs : SmO wd) (hT : Tb w) (ea : a.size = 0) (eb : b.size = 0) (hw : ¬ wd.isSome = true) (hk : k = 6) (hn : n = 0) (g : nb < 1) :
    Calls Tryd.prog 56 #[.agg (Sv.cells ⟨k, a, b, wd, n, .slice B nb c⟩).toArray] w fun e w' => e = .returned (.int .i64 3) ∧ Below w.heap.size w w' := by
  have H := Lib.hid (Hp.start hT)
  have S := Lib.hid hs
  clear hT hs
  obtain ⟨a1, a2⟩ := sEmpty ea
  obtain ⟨b1, b2⟩ := sEmpty eb
  subst hk
  subst hn
  have g1p : (nb : Int) < 1 := by omega
  have g1d : decide ((nb : Int) < 1) = true := decide_eq_true g1p
  cases wd with
  | some q => exact absurd hw (by simp)
  | none =>
    clear hw
    unfold Sv.cells
    simp only [sgO, nuO, deO]
    go_enter Tryd.func56, Tryd.ntmps56
    go_wp2_with (first
        | go_skip
        | ((with_reducible refine isLoad ?_); refine ldA H ?_ (hT := by first | exact rRat | exact rStm8 | exact rJob | exact rWks | exact rGoa))
        | ((with_reducible refine isLoad ?_); refine ld1A H ?_ (hT := by first | exact kInt | exact kStr | exact kBll | exact kBool | exact kStl))
        | ((with_reducible refine isStore ?_); refine stA H ?_ (hT := by first | exact rRat | exact rGoa); clear H; intro _ H)
        | ((with_reducible refine isBox ?_); refine bxA H ?_; clear H; intro _ _ H)
        | ((with_reducible refine isAlloc ?_); refine alA H ?_ (hz := by first | exact zRat | exact zGoa); clear H; intro _ _ H))
    go_ret
    exact ⟨rfl, H.out.bel⟩
set_option maxHeartbeats 4000000 in
theorem shape_6h (k n : Int) (a b : ByteArray) (wd : Option Rat) (B : Option Addr) (nb c : Nat) (w : World) (ha : a.size ≤ maxLen) (hb : b.size ≤ maxLen) (hs : SmO wd) (hT : Tb w) (ea : a.size = 0) (eb : b.size = 0) (hw : ¬ wd.isSome = true) (hk : k = 6) (hn : n = 0) (g : 1 < nb) :
    Calls Tryd.prog 56 #[.agg (Sv.cells ⟨k, a, b, wd, n, .slice B nb c⟩).toArray] w fun e w' => e = .returned (.int .i64 3) ∧ Below w.heap.size w w' := by
  have H := Lib.hid (Hp.start hT)
  have S := Lib.hid hs
  clear hT hs
  obtain ⟨a1, a2⟩ := sEmpty ea
  obtain ⟨b1, b2⟩ := sEmpty eb
  subst hk
  subst hn
  have g1p : ¬ ((nb : Int) < 1) := by omega
  have g1d : decide ((nb : Int) < 1) = false := decide_eq_false g1p
  have g2p : 1 < (nb : Int) := by omega
  have g2d : decide (1 < (nb : Int)) = true := decide_eq_true g2p
  cases wd with
  | some q => exact absurd hw (by simp)
  | none =>
    clear hw
    unfold Sv.cells
    simp only [sgO, nuO, deO]
    go_enter Tryd.func56, Tryd.ntmps56
    go_wp2_with (first
        | go_skip
        | ((with_reducible refine isLoad ?_); refine ldA H ?_ (hT := by first | exact rRat | exact rStm8 | exact rJob | exact rWks | exact rGoa))
        | ((with_reducible refine isLoad ?_); refine ld1A H ?_ (hT := by first | exact kInt | exact kStr | exact kBll | exact kBool | exact kStl))
        | ((with_reducible refine isStore ?_); refine stA H ?_ (hT := by first | exact rRat | exact rGoa); clear H; intro _ H)
        | ((with_reducible refine isBox ?_); refine bxA H ?_; clear H; intro _ _ H)
        | ((with_reducible refine isAlloc ?_); refine alA H ?_ (hz := by first | exact zRat | exact zGoa); clear H; intro _ _ H))
    go_ret
    exact ⟨rfl, H.out.bel⟩
set_option maxHeartbeats 4000000 in
theorem shape_6o (k n : Int) (a b : ByteArray) (wd : Option Rat) (B : Option Addr) (nb c : Nat) (w : World) (ha : a.size ≤ maxLen) (hb : b.size ≤ maxLen) (hs : SmO wd) (hT : Tb w) (ea : a.size = 0) (eb : b.size = 0) (hw : ¬ wd.isSome = true) (hk : k = 6) (hn : n = 0) (g : nb = 1) :
    Calls Tryd.prog 56 #[.agg (Sv.cells ⟨k, a, b, wd, n, .slice B nb c⟩).toArray] w fun e w' => e = .returned (.int .i64 0) ∧ Below w.heap.size w w' := by
  have H := Lib.hid (Hp.start hT)
  have S := Lib.hid hs
  clear hT hs
  obtain ⟨a1, a2⟩ := sEmpty ea
  obtain ⟨b1, b2⟩ := sEmpty eb
  subst hk
  subst hn
  subst g
  cases wd with
  | some q => exact absurd hw (by simp)
  | none =>
    clear hw
    unfold Sv.cells
    simp only [sgO, nuO, deO]
    go_enter Tryd.func56, Tryd.ntmps56
    go_wp2_with (first
        | go_skip
        | ((with_reducible refine isLoad ?_); refine ldA H ?_ (hT := by first | exact rRat | exact rStm8 | exact rJob | exact rWks | exact rGoa))
        | ((with_reducible refine isLoad ?_); refine ld1A H ?_ (hT := by first | exact kInt | exact kStr | exact kBll | exact kBool | exact kStl))
        | ((with_reducible refine isStore ?_); refine stA H ?_ (hT := by first | exact rRat | exact rGoa); clear H; intro _ H)
        | ((with_reducible refine isBox ?_); refine bxA H ?_; clear H; intro _ _ H)
        | ((with_reducible refine isAlloc ?_); refine alA H ?_ (hz := by first | exact zRat | exact zGoa); clear H; intro _ _ H))
    go_ret
    exact ⟨rfl, H.out.bel⟩
set_option maxHeartbeats 4000000 in
theorem shape_7l (k n : Int) (a b : ByteArray) (wd : Option Rat) (B : Option Addr) (nb c : Nat) (w : World) (ha : a.size ≤ maxLen) (hb : b.size ≤ maxLen) (hs : SmO wd) (hT : Tb w) (ea : a.size = 0) (eb : b.size = 0) (hw : ¬ wd.isSome = true) (hk : k = 7) (g : nb < 1) :
    Calls Tryd.prog 56 #[.agg (Sv.cells ⟨k, a, b, wd, n, .slice B nb c⟩).toArray] w fun e w' => e = .returned (.int .i64 3) ∧ Below w.heap.size w w' := by
  have H := Lib.hid (Hp.start hT)
  have S := Lib.hid hs
  clear hT hs
  obtain ⟨a1, a2⟩ := sEmpty ea
  obtain ⟨b1, b2⟩ := sEmpty eb
  subst hk
  have g1p : (nb : Int) < 1 := by omega
  have g1d : decide ((nb : Int) < 1) = true := decide_eq_true g1p
  cases wd with
  | some q => exact absurd hw (by simp)
  | none =>
    clear hw
    unfold Sv.cells
    simp only [sgO, nuO, deO]
    go_enter Tryd.func56, Tryd.ntmps56
    go_wp2_with (first
        | go_skip
        | ((with_reducible refine isLoad ?_); refine ldA H ?_ (hT := by first | exact rRat | exact rStm8 | exact rJob | exact rWks | exact rGoa))
        | ((with_reducible refine isLoad ?_); refine ld1A H ?_ (hT := by first | exact kInt | exact kStr | exact kBll | exact kBool | exact kStl))
        | ((with_reducible refine isStore ?_); refine stA H ?_ (hT := by first | exact rRat | exact rGoa); clear H; intro _ H)
        | ((with_reducible refine isBox ?_); refine bxA H ?_; clear H; intro _ _ H)
        | ((with_reducible refine isAlloc ?_); refine alA H ?_ (hz := by first | exact zRat | exact zGoa); clear H; intro _ _ H))
    go_ret
    exact ⟨rfl, H.out.bel⟩
set_option maxHeartbeats 4000000 in
theorem shape_7h (k n : Int) (a b : ByteArray) (wd : Option Rat) (B : Option Addr) (nb c : Nat) (w : World) (ha : a.size ≤ maxLen) (hb : b.size ≤ maxLen) (hs : SmO wd) (hT : Tb w) (ea : a.size = 0) (eb : b.size = 0) (hw : ¬ wd.isSome = true) (hk : k = 7) (g : 1 < nb) :
    Calls Tryd.prog 56 #[.agg (Sv.cells ⟨k, a, b, wd, n, .slice B nb c⟩).toArray] w fun e w' => e = .returned (.int .i64 3) ∧ Below w.heap.size w w' := by
  have H := Lib.hid (Hp.start hT)
  have S := Lib.hid hs
  clear hT hs
  obtain ⟨a1, a2⟩ := sEmpty ea
  obtain ⟨b1, b2⟩ := sEmpty eb
  subst hk
  have g1p : ¬ ((nb : Int) < 1) := by omega
  have g1d : decide ((nb : Int) < 1) = false := decide_eq_false g1p
  have g2p : 1 < (nb : Int) := by omega
  have g2d : decide (1 < (nb : Int)) = true := decide_eq_true g2p
  cases wd with
  | some q => exact absurd hw (by simp)
  | none =>
    clear hw
    unfold Sv.cells
    simp only [sgO, nuO, deO]
    go_enter Tryd.func56, Tryd.ntmps56
    go_wp2_with (first
        | go_skip
        | ((with_reducible refine isLoad ?_); refine ldA H ?_ (hT := by first | exact rRat | exact rStm8 | exact rJob | exact rWks | exact rGoa))
        | ((with_reducible refine isLoad ?_); refine ld1A H ?_ (hT := by first | exact kInt | exact kStr | exact kBll | exact kBool | exact kStl))
        | ((with_reducible refine isStore ?_); refine stA H ?_ (hT := by first | exact rRat | exact rGoa); clear H; intro _ H)
        | ((with_reducible refine isBox ?_); refine bxA H ?_; clear H; intro _ _ H)
        | ((with_reducible refine isAlloc ?_); refine alA H ?_ (hz := by first | exact zRat | exact zGoa); clear H; intro _ _ H))
    go_ret
    exact ⟨rfl, H.out.bel⟩
set_option maxHeartbeats 4000000 in
theorem shape_7a (k n : Int) (a b : ByteArray) (wd : Option Rat) (B : Option Addr) (nb c : Nat) (w : World) (ha : a.size ≤ maxLen) (hb : b.size ≤ maxLen) (hs : SmO wd) (hT : Tb w) (ea : a.size = 0) (eb : b.size = 0) (hw : ¬ wd.isSome = true) (hk : k = 7) (g : nb = 1) (hn : n < 1) :
    Calls Tryd.prog 56 #[.agg (Sv.cells ⟨k, a, b, wd, n, .slice B nb c⟩).toArray] w fun e w' => e = .returned (.int .i64 1) ∧ Below w.heap.size w w' := by
  have H := Lib.hid (Hp.start hT)
  have S := Lib.hid hs
  clear hT hs
  obtain ⟨a1, a2⟩ := sEmpty ea
  obtain ⟨b1, b2⟩ := sEmpty eb
  subst hk
  subst g
  have n1p : n < 1 := by omega
  have n1d : decide (n < 1) = true := decide_eq_true n1p
  cases wd with
  | some q => exact absurd hw (by simp)
  | none =>
    clear hw
    unfold Sv.cells
    simp only [sgO, nuO, deO]
    go_enter Tryd.func56, Tryd.ntmps56
    go_wp2_with (first
        | go_skip
        | ((with_reducible refine isLoad ?_); refine ldA H ?_ (hT := by first | exact rRat | exact rStm8 | exact rJob | exact rWks | exact rGoa))
        | ((with_reducible refine isLoad ?_); refine ld1A H ?_ (hT := by first | exact kInt | exact kStr | exact kBll | exact kBool | exact kStl))
        | ((with_reducible refine isStore ?_); refine stA H ?_ (hT := by first | exact rRat | exact rGoa); clear H; intro _ H)
        | ((with_reducible refine isBox ?_); refine bxA H ?_; clear H; intro _ _ H)
        | ((with_reducible refine isAlloc ?_); refine alA H ?_ (hz := by first | exact zRat | exact zGoa); clear H; intro _ _ H))
    go_ret
    exact ⟨rfl, H.out.bel⟩
set_option maxHeartbeats 4000000 in
theorem shape_7b (k n : Int) (a b : ByteArray) (wd : Option Rat) (B : Option Addr) (nb c : Nat) (w : World) (ha : a.size ≤ maxLen) (hb : b.size ≤ maxLen) (hs : SmO wd) (hT : Tb w) (ea : a.size = 0) (eb : b.size = 0) (hw : ¬ wd.isSome = true) (hk : k = 7) (g : nb = 1) (hn : 5 < n) :
    Calls Tryd.prog 56 #[.agg (Sv.cells ⟨k, a, b, wd, n, .slice B nb c⟩).toArray] w fun e w' => e = .returned (.int .i64 1) ∧ Below w.heap.size w w' := by
  have H := Lib.hid (Hp.start hT)
  have S := Lib.hid hs
  clear hT hs
  obtain ⟨a1, a2⟩ := sEmpty ea
  obtain ⟨b1, b2⟩ := sEmpty eb
  subst hk
  subst g
  have n1p : ¬ (n < 1) := by omega
  have n1d : decide (n < 1) = false := decide_eq_false n1p
  have n2p : 5 < n := by omega
  have n2d : decide (5 < n) = true := decide_eq_true n2p
  cases wd with
  | some q => exact absurd hw (by simp)
  | none =>
    clear hw
    unfold Sv.cells
    simp only [sgO, nuO, deO]
    go_enter Tryd.func56, Tryd.ntmps56
    go_wp2_with (first
        | go_skip
        | ((with_reducible refine isLoad ?_); refine ldA H ?_ (hT := by first | exact rRat | exact rStm8 | exact rJob | exact rWks | exact rGoa))
        | ((with_reducible refine isLoad ?_); refine ld1A H ?_ (hT := by first | exact kInt | exact kStr | exact kBll | exact kBool | exact kStl))
        | ((with_reducible refine isStore ?_); refine stA H ?_ (hT := by first | exact rRat | exact rGoa); clear H; intro _ H)
        | ((with_reducible refine isBox ?_); refine bxA H ?_; clear H; intro _ _ H)
        | ((with_reducible refine isAlloc ?_); refine alA H ?_ (hz := by first | exact zRat | exact zGoa); clear H; intro _ _ H))
    go_ret
    exact ⟨rfl, H.out.bel⟩
set_option maxHeartbeats 4000000 in
theorem shape_7o (k n : Int) (a b : ByteArray) (wd : Option Rat) (B : Option Addr) (nb c : Nat) (w : World) (ha : a.size ≤ maxLen) (hb : b.size ≤ maxLen) (hs : SmO wd) (hT : Tb w) (ea : a.size = 0) (eb : b.size = 0) (hw : ¬ wd.isSome = true) (hk : k = 7) (g : nb = 1) (hn : ¬ n < 1) (hn2 : ¬ 5 < n) :
    Calls Tryd.prog 56 #[.agg (Sv.cells ⟨k, a, b, wd, n, .slice B nb c⟩).toArray] w fun e w' => e = .returned (.int .i64 0) ∧ Below w.heap.size w w' := by
  have H := Lib.hid (Hp.start hT)
  have S := Lib.hid hs
  clear hT hs
  obtain ⟨a1, a2⟩ := sEmpty ea
  obtain ⟨b1, b2⟩ := sEmpty eb
  subst hk
  subst g
  have n1p : ¬ (n < 1) := by omega
  have n1d : decide (n < 1) = false := decide_eq_false n1p
  have n2p : ¬ (5 < n) := by omega
  have n2d : decide (5 < n) = false := decide_eq_false n2p
  cases wd with
  | some q => exact absurd hw (by simp)
  | none =>
    clear hw
    unfold Sv.cells
    simp only [sgO, nuO, deO]
    go_enter Tryd.func56, Tryd.ntmps56
    go_wp2_with (first
        | go_skip
        | ((with_reducible refine isLoad ?_); refine ldA H ?_ (hT := by first | exact rRat | exact rStm8 | exact rJob | exact rWks | exact rGoa))
        | ((with_reducible refine isLoad ?_); refine ld1A H ?_ (hT := by first | exact kInt | exact kStr | exact kBll | exact kBool | exact kStl))
        | ((with_reducible refine isStore ?_); refine stA H ?_ (hT := by first | exact rRat | exact rGoa); clear H; intro _ H)
        | ((with_reducible refine isBox ?_); refine bxA H ?_; clear H; intro _ _ H)
        | ((with_reducible refine isAlloc ?_); refine alA H ?_ (hz := by first | exact zRat | exact zGoa); clear H; intro _ _ H))
    go_ret
    exact ⟨rfl, H.out.bel⟩
end Go.Proofs.YtbphdmnomakeoaaDoor

namespace Go.Proofs.YtbphdmnomakeoaaDoor
open Go.RowKit
set_option linter.unusedVariables false
set_option maxRecDepth 100000

theorem shape_any (k n : Int) (a b : ByteArray) (wd : Option Rat) (B : Option Addr) (nb c : Nat) (w : World) (ha : a.size ≤ maxLen) (hb : b.size ≤ maxLen) (hs : SmO wd) (hT : Tb w) (hk1 : 6 ≤ k) (hk5 : k ≤ 9) :
    Calls Tryd.prog 56 #[.agg (Sv.cells ⟨k, a, b, wd, n, .slice B nb c⟩).toArray] w fun e w' => e = .returned (.int .i64 (shapeE k a b wd n nb)) ∧ Below w.heap.size w w' := by
  by_cases ea : a.size = 0
  case neg => rw [show shapeE k a b wd n nb = 3 from if_pos ea]; exact shape_a k n a b wd B nb c w ha hb hs hT ea
  by_cases eb : b.size = 0
  case neg => rw [show shapeE k a b wd n nb = 3 by unfold shapeE; rw [if_neg (by simpa using ea), if_pos eb]]; exact shape_b k n a b wd B nb c w ha hb hs hT ea eb
  by_cases hw : wd.isSome = true
  · rw [show shapeE k a b wd n nb = 3 by unfold shapeE; rw [if_neg (by simpa using ea), if_neg (by simpa using eb), if_pos hw]]; exact shape_w k n a b wd B nb c w ha hb hs hT ea eb hw
  by_cases h3 : k ≠ 7 ∧ n ≠ 0
  · rw [show shapeE k a b wd n nb = 3 by unfold shapeE; rw [if_neg (by simpa using ea), if_neg (by simpa using eb), if_neg hw, if_pos h3]]; exact shape_n k n a b wd B nb c w ha hb hs hT ea eb hw h3.1 h3.2
  rw [show shapeE k a b wd n nb = if k = 8 then (if nb < 1 ∨ 4 < nb then 3 else 0) else if k = 9 then (if nb = 2 then 0 else 3)
  else if nb ≠ 1 then 3 else if k = 7 ∧ (n < 1 ∨ 5 < n) then 1 else 0 by unfold shapeE; rw [if_neg (by simpa using ea), if_neg (by simpa using eb), if_neg hw, if_neg h3]]
  have hn : ¬ k = 7 → n = 0 := fun h => by
    by_cases e : n = 0
    · exact e
    · exact absurd ⟨h, e⟩ h3
  by_cases h8 : k = 8
  · rw [if_pos h8]
    by_cases g1 : nb < 1
    · rw [if_pos (.inl g1)]; exact shape_8l k n a b wd B nb c w ha hb hs hT ea eb hw h8 (hn (by omega)) g1
    by_cases g2 : 4 < nb
    · rw [if_pos (.inr g2)]; exact shape_8h k n a b wd B nb c w ha hb hs hT ea eb hw h8 (hn (by omega)) g2
    rw [if_neg (by omega)]; exact shape_8o k n a b wd B nb c w ha hb hs hT ea eb hw h8 (hn (by omega)) (by omega) (by omega)
  rw [if_neg h8]
  by_cases h9 : k = 9
  · rw [if_pos h9]
    rcases Nat.lt_trichotomy nb 2 with g | g | g
    · rw [if_neg (by omega)]; exact shape_9l k n a b wd B nb c w ha hb hs hT ea eb hw h9 (hn (by omega)) g
    · rw [if_pos g]; exact shape_9o k n a b wd B nb c w ha hb hs hT ea eb hw h9 (hn (by omega)) (by omega) (by omega)
    · rw [if_neg (by omega)]; exact shape_9h k n a b wd B nb c w ha hb hs hT ea eb hw h9 (hn (by omega)) g
  rw [if_neg h9]
  by_cases h7 : k = 7
  · rcases Nat.lt_trichotomy nb 1 with g | g | g
    · rw [if_pos (by omega)]; exact shape_7l k n a b wd B nb c w ha hb hs hT ea eb hw h7 g
    · rw [if_neg (by omega)]
      by_cases g1 : n < 1
      · rw [if_pos ⟨h7, .inl g1⟩]; exact shape_7a k n a b wd B nb c w ha hb hs hT ea eb hw h7 g g1
      by_cases g2 : 5 < n
      · rw [if_pos ⟨h7, .inr g2⟩]; exact shape_7b k n a b wd B nb c w ha hb hs hT ea eb hw h7 g g2
      rw [if_neg (fun h => h.2.elim g1 g2)]; exact shape_7o k n a b wd B nb c w ha hb hs hT ea eb hw h7 g g1 g2
    · rw [if_pos (by omega)]; exact shape_7h k n a b wd B nb c w ha hb hs hT ea eb hw h7 g
  have h6 : k = 6 := by omega
  rcases Nat.lt_trichotomy nb 1 with g | g | g
  · rw [if_pos (by omega)]; exact shape_6l k n a b wd B nb c w ha hb hs hT ea eb hw h6 (hn h7) g
  · rw [if_neg (by omega), if_neg (fun h => h7 h.1)]; exact shape_6o k n a b wd B nb c w ha hb hs hT ea eb hw h6 (hn h7) g
  · rw [if_pos (by omega)]; exact shape_6h k n a b wd B nb c w ha hb hs hT ea eb hw h6 (hn h7) g
/-- The weight of statements, or the first error. -/
def stmtsP (f : Stm → Int × Int) : List Stm → Int → Int × Int
  | [], sum => (sum, 0)
  | s :: r, sum => if (f s).2 ≠ 0 then (0, (f s).2) else if 100 < sum + (f s).1 then (0, 2) else stmtsP f r (sum + (f s).1)
def blocksP (f : List Stm → Int × Int) (n : Int) : List (List Stm) → Int → Int × Int
  | [], sum => (sum, 0)
  | b :: r, sum => if (f b).2 ≠ 0 then (0, (f b).2) else if 100 < sum + (f b).1 * max n 1 then (0, 2) else blocksP f n r (sum + (f b).1 * max n 1)
def wSts (f : Stm → Int × Int) (p : Nat) (l : List Stm) : Int × Int := if 5 < p then (0, 2) else stmtsP f l 0
def wSt : Nat → Nat → Stm → Int × Int
  | 0, _, _ => (0, 3)
  | d + 1, p, s => if s.k < 1 ∨ 9 < s.k then (0, 3) else if s.k < 6 then (1, plainE s.k s.a s.b s.wd s.n s.bl.length)
    else if shapeE s.k s.a s.b s.wd s.n s.bl.length ≠ 0 then (0, shapeE s.k s.a s.b s.wd s.n s.bl.length)
    else blocksP (fun b => wSts (wSt d (p + 1)) (p + 1) b) s.n s.bl 1
theorem stmtsP_bd {f : Stm → Int × Int} (hf : ∀ s, 0 ≤ (f s).1 ∧ (f s).1 ≤ 100) : ∀ (l : List Stm) (sum : Int), 0 ≤ sum → sum ≤ 100 → 0 ≤ (stmtsP f l sum).1 ∧ (stmtsP f l sum).1 ≤ 100
  | [], sum, h0, h1 => ⟨h0, h1⟩
  | s :: r, sum, h0, h1 => by
    unfold stmtsP
    have := hf s
    split
    · exact ⟨by simp, by simp⟩
    · split
      · exact ⟨by simp, by simp⟩
      · exact stmtsP_bd hf r _ (by omega) (by omega)
theorem blocksP_bd {f : List Stm → Int × Int} {n : Int} (hf : ∀ s, 0 ≤ (f s).1 ∧ (f s).1 ≤ 100) : ∀ (l : List (List Stm)) (sum : Int), 0 ≤ sum → sum ≤ 100 → 0 ≤ (blocksP f n l sum).1 ∧ (blocksP f n l sum).1 ≤ 100
  | [], sum, h0, h1 => ⟨h0, h1⟩
  | s :: r, sum, h0, h1 => by
    unfold blocksP
    have := hf s
    split
    · exact ⟨by simp, by simp⟩
    · split
      · exact ⟨by simp, by simp⟩
      · have h2 : 0 ≤ (f s).1 * max n 1 := Int.mul_nonneg this.1 (by omega)
        exact blocksP_bd hf r _ (by omega) (by omega)
theorem wSts_bd {f : Stm → Int × Int} (hf : ∀ s, 0 ≤ (f s).1 ∧ (f s).1 ≤ 100) (p : Nat) (l : List Stm) : 0 ≤ (wSts f p l).1 ∧ (wSts f p l).1 ≤ 100 := by
  unfold wSts
  split
  · exact ⟨by simp, by simp⟩
  · exact stmtsP_bd hf l 0 (by omega) (by omega)
theorem wSt_bd : ∀ (d p : Nat) (s : Stm), 0 ≤ (wSt d p s).1 ∧ (wSt d p s).1 ≤ 100
  | 0, _, _ => ⟨by simp [wSt], by simp [wSt]⟩
  | d + 1, p, s => by
    unfold wSt
    split
    · exact ⟨by simp, by simp⟩
    · split
      · exact ⟨by simp, by simp⟩
      · split
        · exact ⟨by simp, by simp⟩
        · exact blocksP_bd (fun b => wSts_bd (wSt_bd d (p + 1)) (p + 1) b) s.bl 1 (by omega) (by omega)
theorem zStm8 : (Tryd.prog.info? 53).bind (·.zero) = some (.agg #[.int .i64 0, .string ⟨#[]⟩, .string ⟨#[]⟩, .bool false, .string ⟨#[]⟩, .string ⟨#[]⟩, .int .i64 0, .slice none 0 0]) := by kernel_rfl
theorem RSt.shape {E : Ents} {d : Nat} {s : Stm} {v : Sv} (h : RSt E d s v) : ∃ B c, v.bv = .slice B s.bl.length c := by
  cases d with
  | zero => exact h.elim
  | succ d =>
    obtain ⟨bvs, h1, h2⟩ := h.bl
    obtain ⟨B, c, h3, _⟩ := h1.shape
    exact ⟨B, c, by rw [h3, h2.1]⟩
/-- The contract of parse.stmt, at statements of at most d blocks within each other. -/
def StmtC (d : Nat) : Prop := ∀ (E : Ents) (s : Stm) (v : Sv) (p : Nat) (w : World), p ≤ 5 → RSt E d s v → Hld E w → Tb w → Calls Tryd.prog 41 #[.agg v.cells.toArray, .int .i64 p] w fun e w' => e = .returned (.tuple #[.int .i64 (wSt d p s).1, .int .i64 (wSt d p s).2]) ∧ Below w.heap.size w w'
def StmtsC (d : Nat) : Prop := ∀ (E : Ents) (l : List Stm) (x : Value) (p : Nat) (w : World), p ≤ 6 → RSs E d l x → Hld E w → Tb w → Calls Tryd.prog 30 #[x, .int .i64 p] w fun e w' => e = .returned (.tuple #[.int .i64 (wSts (wSt d p) p l).1, .int .i64 (wSts (wSt d p) p l).2]) ∧ Below w.heap.size w w'
set_option maxHeartbeats 4000000 in
theorem stmts_of (d : Nat) (hst : StmtC d) : StmtsC d := by
  intro E l x p w hp hR hE hT
  have H := Lib.hid (Hp.start hT)
  have HC := Lib.hid hst
  have HE := Lib.hid hE
  obtain ⟨svs, hR1, hR2⟩ := hR
  have R := Lib.hid hR1
  have R2 := Lib.hid hR2
  have hnl := R.out.le
  have FL := Lib.hid hR2.1
  obtain ⟨n, hn⟩ : ∃ n, svs.length = n := ⟨_, rfl⟩
  have HN := Lib.hid hn
  rw [hn] at R hnl
  clear hst hE hR1 hR2 hT hn
  obtain ⟨B, c, rfl, _⟩ := R.out.shape
  by_cases h5 : 5 < p
  · have p5p : 5 < (p : Int) := by omega
    have p5d : decide (5 < (p : Int)) = true := decide_eq_true p5p
    rw [show wSts (wSt d p) p l = (0, 2) from if_pos h5]
    go_enter Tryd.func30, Tryd.ntmps30
    go_wp2_with (first
        | go_skip
        | ((with_reducible refine isLoad ?_); refine ldA H ?_ (hT := by first | exact rRat | exact rStm8 | exact rJob | exact rWks | exact rGoa))
        | ((with_reducible refine isLoad ?_); refine ld1A H ?_ (hT := by first | exact kInt | exact kStr | exact kBll | exact kBool | exact kStl))
        | ((with_reducible refine isStore ?_); refine stA H ?_ (hT := by first | exact rRat | exact rGoa); clear H; intro _ H)
        | ((with_reducible refine isBox ?_); refine bxA H ?_; clear H; intro _ _ H)
        | ((with_reducible refine isAlloc ?_); refine alA H ?_ (hz := by first | exact zRat | exact zGoa); clear H; intro _ _ H))
    go_ret2
    exact ⟨rfl, H.out.bel⟩
  · have p5p : ¬ (5 < (p : Int)) := by omega
    have p5d : decide (5 < (p : Int)) = false := decide_eq_false p5p
    rw [show wSts (wSt d p) p l = stmtsP (wSt d p) l 0 from if_neg h5]
    obtain ⟨r1, r2, hr⟩ : ∃ r1 r2, stmtsP (wSt d p) l 0 = (r1, r2) := ⟨_, _, rfl⟩
    rw [hr]
    have HR : Hid (stmtsP (wSt d p) (l.drop 0) 0 = (r1, r2)) := hr
    clear hr
    go_enter Tryd.func30, Tryd.ntmps30
    go_wp2_with (first
        | go_skip
        | ((with_reducible refine isLoad ?_); refine ldA H ?_ (hT := by first | exact rRat | exact rStm8 | exact rJob | exact rWks | exact rGoa))
        | ((with_reducible refine isLoad ?_); refine ld1A H ?_ (hT := by first | exact kInt | exact kStr | exact kBll | exact kBool | exact kStl))
        | ((with_reducible refine isStore ?_); refine stA H ?_ (hT := by first | exact rRat | exact rGoa); clear H; intro _ H)
        | ((with_reducible refine isBox ?_); refine bxA H ?_; clear H; intro _ _ H)
        | ((with_reducible refine isAlloc ?_); refine alA H ?_ (hz := by first | exact zRat | exact zGoa); clear H; intro _ _ H))
    go_loopw [6, 15] (fun s_ i_ wr => ∃ (j : Nat) (sum : Int), s_ = .int .i64 sum ∧ i_ = .int .i64 j ∧ j ≤ n ∧ 0 ≤ sum ∧ sum ≤ 100 ∧ Hid (stmtsP (wSt d p) (l.drop j) sum = (r1, r2)) ∧ Hid (Hp w wr [])) (fun _ i_ _ => n - (intOf i_).toNat)
    case atStart => exact ⟨0, 0, rfl, rfl, by omega, by omega, by omega, HR, H⟩
    case round =>
      clear H HR
      obtain ⟨j, sum, rfl, rfl, hj, hs0, hs1, HR, H⟩ := hrel
      by_cases hlt : j < n
      · obtain ⟨s, hs⟩ : ∃ s, l[j]? = some s := ⟨_, List.getElem?_eq_getElem (by rw [FL.out, HN.out]; exact hlt)⟩
        obtain ⟨v, hv, hsv⟩ := R2.out.at_ hs
        obtain ⟨g, c', e1, hr⟩ := R.out.at_ Sv.len hv (by decide)
        have X := Lib.hid (hr _ (HE.out.below H.out.bel))
        injection e1 with e1 _ e3
        subst e1
        have hdr : l.drop j = s :: l.drop (j + 1) := by rw [← List.getElem_cons_drop (List.getElem?_eq_some_iff.1 hs).1, (List.getElem?_eq_some_iff.1 hs).2]
        have hstep := HR.out
        rw [hdr] at hstep
        unfold stmtsP at hstep
        have HRS := Lib.hid hsv
        have hbd := wSt_bd d p s
        obtain ⟨n1, e1, hw⟩ : ∃ n1 e1, wSt d p s = (n1, e1) := ⟨_, _, rfl⟩
        have HW := Lib.hid hw
        rw [hw] at hstep hbd
        simp only at hstep hbd
        have HSTEP := Lib.hid hstep
        clear hr hs hv hsv e3 hdr hstep hw
        obtain ⟨B2, c2, hbv⟩ := HRS.out.shape
        obtain ⟨vk, va, vb, vw, vn, vbv⟩ := v
        simp only at hbv
        subst hbv
        go_wp2_with (first
            | go_skip
            | ((with_reducible refine isLoad ?_); refine ldX (cs := [.int .i64 vk, .string va, .string vb, .bool (sgO vw), .string (nuO vw), .string (deO vw), .int .i64 vn, .slice B2 s.bl.length c2]) X ?_ (hT := rStm8))
            | ((with_reducible refine isLoad ?_); refine ldA H ?_ (hT := by first | exact rRat | exact rStm8 | exact rJob | exact rWks | exact rGoa))
            | ((with_reducible refine isStore ?_); refine stA H ?_ (hT := rStm8); clear H; intro _ H)
            | ((with_reducible refine isAlloc ?_); refine alA H ?_ (hz := zStm8); clear H; intro q _ H))
        go_at_call 41
        refine Calls.mono (HC.out E s ⟨vk, va, vb, vw, vn, .slice B2 s.bl.length c2⟩ p _ (by omega) HRS.out (HE.out.below H.out.bel) H.out.tb) ?_
        rintro _ _ ⟨rfl, hb⟩
        replace H := Lib.hid (H.out.go hb)
        clear hb
        rw [HW.out]
        simp only
        by_cases he : e1 = 0
        · subst he
          have hst2 := HSTEP.out
          rw [if_neg (by simp)] at hst2
          by_cases hw : 100 < sum + n1
          · rw [if_pos hw] at hst2
            cases hst2
            have s1p : 100 < sum + n1 := hw
            have s1d : decide (100 < sum + n1) = true := decide_eq_true s1p
            go_wp2_with (first
                | go_skip
                | ((with_reducible refine isLoad ?_); refine ldX (cs := [.int .i64 vk, .string va, .string vb, .bool (sgO vw), .string (nuO vw), .string (deO vw), .int .i64 vn, .slice B2 s.bl.length c2]) X ?_ (hT := rStm8))
                | ((with_reducible refine isLoad ?_); refine ldA H ?_ (hT := by first | exact rRat | exact rStm8 | exact rJob | exact rWks | exact rGoa))
                | ((with_reducible refine isStore ?_); refine stA H ?_ (hT := rStm8); clear H; intro _ H)
                | ((with_reducible refine isAlloc ?_); refine alA H ?_ (hz := zStm8); clear H; intro q _ H))
            go_ret2
            exact ⟨rfl, H.out.drop.bel⟩
          · rw [if_neg hw] at hst2
            have HR2 := Lib.hid hst2
            clear hst2
            have s1p : ¬ (100 < sum + n1) := hw
            have s1d : decide (100 < sum + n1) = false := decide_eq_false s1p
            go_wp2_with (first
                | go_skip
                | ((with_reducible refine isLoad ?_); refine ldX (cs := [.int .i64 vk, .string va, .string vb, .bool (sgO vw), .string (nuO vw), .string (deO vw), .int .i64 vn, .slice B2 s.bl.length c2]) X ?_ (hT := rStm8))
                | ((with_reducible refine isLoad ?_); refine ldA H ?_ (hT := by first | exact rRat | exact rStm8 | exact rJob | exact rWks | exact rGoa))
                | ((with_reducible refine isStore ?_); refine stA H ?_ (hT := rStm8); clear H; intro _ H)
                | ((with_reducible refine isAlloc ?_); refine alA H ?_ (hz := zStm8); clear H; intro q _ H))
            replace H := Lib.hid H.out.drop
            go_roundw
            case rel => first | exact ⟨_, _, _, _, _, _, ⟨j + 1, _, rfl, by go_num, by omega, by omega, by omega, HR2, H⟩, rfl, rfl, rfl⟩ | exact ⟨j + 1, _, rfl, by go_num, by omega, by omega, by omega, HR2, H⟩ | (trace_state; fail)
            case measure => simp [intOf]; omega
        · have hst2 := HSTEP.out
          rw [if_pos he] at hst2
          obtain ⟨rfl, rfl⟩ : 0 = r1 ∧ e1 = r2 := by cases hst2; exact ⟨rfl, rfl⟩
          have e0p : ¬ (e1 = 0) := he
          have e0d : decide (e1 = 0) = false := decide_eq_false e0p
          go_wp2_with (first
              | go_skip
              | ((with_reducible refine isLoad ?_); refine ldX (cs := [.int .i64 vk, .string va, .string vb, .bool (sgO vw), .string (nuO vw), .string (deO vw), .int .i64 vn, .slice B2 s.bl.length c2]) X ?_ (hT := rStm8))
              | ((with_reducible refine isLoad ?_); refine ldA H ?_ (hT := by first | exact rRat | exact rStm8 | exact rJob | exact rWks | exact rGoa))
              | ((with_reducible refine isStore ?_); refine stA H ?_ (hT := rStm8); clear H; intro _ H)
              | ((with_reducible refine isAlloc ?_); refine alA H ?_ (hz := zStm8); clear H; intro q _ H))
          go_ret2
          exact ⟨rfl, H.out.drop.bel⟩
      · have hjn : j = n := by omega
        subst hjn
        have hst2 := HR.out
        rw [List.drop_eq_nil_of_le (by rw [FL.out, HN.out]; exact Nat.le_refl _)] at hst2
        cases hst2
        go_wp2_with (first
            | go_skip
            | ((with_reducible refine isLoad ?_); refine ldX (cs := [.int .i64 vk, .string va, .string vb, .bool (sgO vw), .string (nuO vw), .string (deO vw), .int .i64 vn, .slice B2 s.bl.length c2]) X ?_ (hT := rStm8))
            | ((with_reducible refine isLoad ?_); refine ldA H ?_ (hT := by first | exact rRat | exact rStm8 | exact rJob | exact rWks | exact rGoa))
            | ((with_reducible refine isStore ?_); refine stA H ?_ (hT := rStm8); clear H; intro _ H)
            | ((with_reducible refine isAlloc ?_); refine alA H ?_ (hz := zStm8); clear H; intro q _ H))
        go_ret2
        exact ⟨rfl, H.out.bel⟩
theorem shapeE_n {k n : Int} {a b : ByteArray} {wd : Option Rat} {nb : Nat} (h : shapeE k a b wd n nb = 0) : max n 1 ≤ 5 := by
  unfold shapeE at h
  split at h
  · cases h
  · split at h
    · cases h
    · split at h
      · cases h
      · split at h
        · cases h
        · rename_i h4
          by_cases h7 : k = 7
          · rw [if_neg (by omega), if_neg (by omega)] at h
            split at h
            · cases h
            · split at h
              · cases h
              · rename_i h5
                omega
          · have : n = 0 := by
              by_cases e : n = 0
              · exact e
              · exact absurd ⟨h7, e⟩ h4
            omega
theorem mul_bd {x m : Int} (h0 : 0 ≤ x) (h1 : x ≤ 100) (h2 : 1 ≤ m) (h3 : m ≤ 5) : 0 ≤ x * m ∧ x * m ≤ 500 := by
  constructor
  · exact Int.mul_nonneg h0 (by omega)
  · calc x * m ≤ 100 * m := Int.mul_le_mul_of_nonneg_right h1 (by omega)
      _ ≤ 500 := by omega
set_option maxHeartbeats 4000000 in
theorem stmt_of (d : Nat) (hst : StmtsC d) : StmtC (d + 1) := by
  intro E s v p w hp hR hE hT
  have HT := Lib.hid hT
  have HC := Lib.hid hst
  have HE := Lib.hid hE
  obtain ⟨hok, e1, e2, e3, e4, e5, _⟩ := id hR
  obtain ⟨B2, c2, hbv⟩ := hR.shape
  obtain ⟨bvs, hR1, hR2⟩ := hR.bl
  obtain ⟨vk, va, vb, vw, vn, vbv⟩ := v
  simp only at e1 e2 e3 e4 e5 hbv hR1
  subst hbv
  obtain ⟨⟨ok1, ok2⟩, ⟨ok3, ok4⟩, ok5, ok6, ok7⟩ := hok
  simp only at ok1 ok2 ok3 ok4 ok5 ok6 ok7
  obtain ⟨nb, hnb⟩ : ∃ nb, s.bl.length = nb := ⟨_, rfl⟩
  have hlen : bvs.length = nb := by rw [← hR2.1, hnb]
  rw [hnb]
  have hw : wSt (d + 1) p s = if vk < 1 ∨ 9 < vk then (0, 3) else if vk < 6 then (1, plainE vk va vb vw vn nb)
    else if shapeE vk va vb vw vn nb ≠ 0 then (0, shapeE vk va vb vw vn nb)
    else blocksP (fun b => wSts (wSt d (p + 1)) (p + 1) b) vn s.bl 1 := by rw [e1, e2, e3, e4, e5, ← hnb]; rfl
  have R2 := Lib.hid hR2
  have R : Hid (RowIn E 56 1 (.slice B2 nb c2) nb (flat one bvs)) := Lib.hid (by rw [hnb, hlen] at hR1; exact hR1)
  have FL := Lib.hid hnb
  have FB := Lib.hid hlen
  rw [hw]
  have OK7 := Lib.hid ok7
  have H := Lib.hid (Hp.start hT)
  clear hR hR1 hR2 hlen hnb hw e1 e2 e3 e4 e5 hst hE hT ok7
  unfold Sv.cells
  by_cases h1 : vk < 1
  · rw [if_pos (.inl h1)]
    have k1p : vk < 1 := by omega
    have k1d : decide (vk < 1) = true := decide_eq_true k1p
    go_enter Tryd.func41, Tryd.ntmps41
    go_wp2_with (first
        | go_skip
        | ((with_reducible refine isLoad ?_); refine ld1A H ?_ (hT := by first | exact kInt | exact kStr | exact kBll | exact kBool | exact kStl))
        | ((with_reducible refine isLoad ?_); refine ldA H ?_ (hT := by first | exact rRat | exact rStm8 | exact rJob | exact rWks | exact rGoa))
        | ((with_reducible refine isBox ?_); refine bxA H ?_; clear H; intro _ _ H))
    go_ret2
    exact ⟨rfl, H.out.bel⟩
  by_cases h2 : 9 < vk
  · rw [if_pos (.inr h2)]
    have k1p : ¬ (vk < 1) := by omega
    have k1d : decide (vk < 1) = false := decide_eq_false k1p
    have k2p : 9 < vk := by omega
    have k2d : decide (9 < vk) = true := decide_eq_true k2p
    go_enter Tryd.func41, Tryd.ntmps41
    go_wp2_with (first
        | go_skip
        | ((with_reducible refine isLoad ?_); refine ld1A H ?_ (hT := by first | exact kInt | exact kStr | exact kBll | exact kBool | exact kStl))
        | ((with_reducible refine isLoad ?_); refine ldA H ?_ (hT := by first | exact rRat | exact rStm8 | exact rJob | exact rWks | exact rGoa))
        | ((with_reducible refine isBox ?_); refine bxA H ?_; clear H; intro _ _ H))
    go_ret2
    exact ⟨rfl, H.out.bel⟩
  rw [if_neg (by omega)]
  have k1p : ¬ (vk < 1) := by omega
  have k1d : decide (vk < 1) = false := decide_eq_false k1p
  have k2p : ¬ (9 < vk) := by omega
  have k2d : decide (9 < vk) = false := decide_eq_false k2p
  by_cases h3 : vk < 6
  · rw [if_pos h3]
    have k3p : vk < 6 := by omega
    have k3d : decide (vk < 6) = true := decide_eq_true k3p
    go_enter Tryd.func41, Tryd.ntmps41
    go_wp2_with (first
        | go_skip
        | ((with_reducible refine isLoad ?_); refine ld1A H ?_ (hT := by first | exact kInt | exact kStr | exact kBll | exact kBool | exact kStl))
        | ((with_reducible refine isLoad ?_); refine ldA H ?_ (hT := by first | exact rRat | exact rStm8 | exact rJob | exact rWks | exact rGoa))
        | ((with_reducible refine isBox ?_); refine bxA H ?_; clear H; intro _ _ H)
        | (go_at_call 55; refine Calls.mono (plain_any vk vn va vb vw B2 nb c2 _ ok5 ok6 OK7.out H.out.tb (by omega) (by omega)) ?_; rintro _ _ ⟨rfl, hb⟩; replace H := Lib.hid (H.out.go hb); clear hb))
    go_ret2
    exact ⟨rfl, H.out.bel⟩
  rw [if_neg h3]
  have k3p : ¬ (vk < 6) := by omega
  have k3d : decide (vk < 6) = false := decide_eq_false k3p
  obtain ⟨sh, hsh⟩ : ∃ sh, shapeE vk va vb vw vn nb = sh := ⟨_, rfl⟩
  have HS := Lib.hid hsh
  rw [hsh]
  by_cases h4 : sh = 0
  · subst h4
    have hmx0 := shapeE_n hsh
    rw [if_neg (by simp)]
    obtain ⟨r1, r2, hr⟩ : ∃ r1 r2, blocksP (fun b => wSts (wSt d (p + 1)) (p + 1) b) vn s.bl 1 = (r1, r2) := ⟨_, _, rfl⟩
    rw [hr]
    have HR : Hid (blocksP (fun b => wSts (wSt d (p + 1)) (p + 1) b) vn (s.bl.drop 0) 1 = (r1, r2)) := hr
    obtain ⟨mx, hmx, hmx1, hmx5⟩ : ∃ mx, max vn 1 = mx ∧ 1 ≤ mx ∧ mx ≤ 5 := ⟨_, rfl, by omega, hmx0⟩
    have HMX := Lib.hid hmx
    have hnl := R.out.le
    clear hr hsh hmx0 hmx
    go_enter Tryd.func41, Tryd.ntmps41
    go_wp2_with (first
        | go_skip
        | ((with_reducible refine isLoad ?_); refine ld1A H ?_ (hT := by first | exact kInt | exact kStr | exact kBll | exact kBool | exact kStl))
        | ((with_reducible refine isLoad ?_); refine ldA H ?_ (hT := by first | exact rRat | exact rStm8 | exact rJob | exact rWks | exact rGoa))
        | ((with_reducible refine isBox ?_); refine bxA H ?_; clear H; intro q _ H)
        | (go_at_call 56; refine Calls.mono (shape_any vk vn va vb vw B2 nb c2 _ ok5 ok6 OK7.out H.out.tb (by omega) (by omega)) ?_; rintro _ _ ⟨rfl, hb⟩; replace H := Lib.hid (H.out.go hb); clear hb; rw [HS.out]))
    go_loopw [7, 33] (fun s_ i_ wr => ∃ (j : Nat) (sum : Int), s_ = .int .i64 sum ∧ i_ = .int .i64 j ∧ j ≤ nb ∧ 0 ≤ sum ∧ sum ≤ 100 ∧ Hid (blocksP (fun b => wSts (wSt d (p + 1)) (p + 1) b) vn (s.bl.drop j) sum = (r1, r2)) ∧ Hid (Hp w wr [(q, 53, [.int .i64 vk, .string va, .string vb, .bool (sgO vw), .string (nuO vw), .string (deO vw), .int .i64 vn, .slice B2 nb c2])])) (fun _ i_ _ => nb - (intOf i_).toNat)
    case atStart => exact ⟨0, 1, rfl, rfl, by omega, by omega, by omega, HR, H⟩
    case round =>
      clear H HR
      obtain ⟨j, sum, rfl, rfl, hj, hs0, hs1, HR, H⟩ := hrel
      by_cases hlt : j < nb
      · obtain ⟨bl, hs⟩ : ∃ bl, s.bl[j]? = some bl := ⟨_, List.getElem?_eq_getElem (by rw [FL.out]; exact hlt)⟩
        obtain ⟨bv, hv, hsv⟩ := R2.out.at_ hs
        obtain ⟨g, c', e1, hr⟩ := R.out.at_ one_len hv (by decide)
        have X := Lib.hid (rangeAt_one (hr _ (HE.out.below H.out.bel)))
        simp only [Nat.mul_one] at X
        injection e1 with e1 _ e3
        subst e1
        have hdr : s.bl.drop j = bl :: s.bl.drop (j + 1) := by rw [← List.getElem_cons_drop (List.getElem?_eq_some_iff.1 hs).1, (List.getElem?_eq_some_iff.1 hs).2]
        have hstep := HR.out
        rw [hdr] at hstep
        unfold blocksP at hstep
        have HRS : Hid (RSs E d bl bv) := hsv
        have hbd := wSts_bd (wSt_bd d (p + 1)) (p + 1) bl
        obtain ⟨n1, e1, hw⟩ : ∃ n1 e1, wSts (wSt d (p + 1)) (p + 1) bl = (n1, e1) := ⟨_, _, rfl⟩
        have HW := Lib.hid hw
        simp only [hw] at hstep
        rw [hw] at hbd
        rw [HMX.out] at hstep
        simp only at hbd
        obtain ⟨m0, m5⟩ := mul_bd hbd.1 hbd.2 hmx1 hmx5
        obtain ⟨pr, hpr⟩ : ∃ pr, n1 * mx = pr := ⟨_, rfl⟩
        rw [hpr] at hstep m0 m5
        have HPR : IntKind.i64.wrap (n1 * mx) = pr := by rw [hpr]; exact IntWalk.i64_in _ (by omega)
        have hmx : max vn 1 = mx := HMX.out
        have HSTEP := Lib.hid hstep
        clear hr hs hv hsv e3 hdr hstep hw hpr
        go_wp2_with (first
            | go_skip
            | ((with_reducible refine isLoad ?_); refine ld1X X ?_ (hT := kStl))
            | ((with_reducible refine isLoad ?_); refine ld1A H ?_ (hT := by first | exact kInt | exact kStr | exact kBll | exact kBool | exact kStl)))
        go_at_call 30
        refine Calls.mono (HC.out E bl bv (p + 1) _ (by omega) HRS.out (HE.out.below H.out.bel) H.out.tb) ?_
        rintro _ _ ⟨rfl, hb⟩
        replace H := Lib.hid (H.out.go hb)
        clear hb
        rw [HW.out]
        simp only
        by_cases he : e1 = 0
        · subst he
          have hst2 := HSTEP.out
          rw [if_neg (by simp)] at hst2
          by_cases hw : 100 < sum + pr
          · rw [if_pos hw] at hst2
            cases hst2
            have s1p : 100 < sum + pr := hw
            have s1d : decide (100 < sum + pr) = true := decide_eq_true s1p
            go_wp2_with (first
                | go_skip
                | ((with_reducible refine isLoad ?_); refine ld1X X ?_ (hT := kStl))
                | ((with_reducible refine isLoad ?_); refine ld1A H ?_ (hT := by first | exact kInt | exact kStr | exact kBll | exact kBool | exact kStl)))
            go_ret2
            exact ⟨rfl, H.out.bel⟩
          · rw [if_neg hw] at hst2
            have HR2 := Lib.hid hst2
            clear hst2
            have s1p : ¬ (100 < sum + pr) := hw
            have s1d : decide (100 < sum + pr) = false := decide_eq_false s1p
            go_wp2_with (first
                | go_skip
                | ((with_reducible refine isLoad ?_); refine ld1X X ?_ (hT := kStl))
                | ((with_reducible refine isLoad ?_); refine ld1A H ?_ (hT := by first | exact kInt | exact kStr | exact kBll | exact kBool | exact kStl)))
            go_roundw
            case rel => first | exact ⟨_, _, _, _, _, _, ⟨j + 1, _, rfl, by go_num, by omega, by omega, by omega, HR2, H⟩, rfl, rfl, rfl⟩ | exact ⟨j + 1, _, rfl, by go_num, by omega, by omega, by omega, HR2, H⟩ | (trace_state; fail)
            case measure => simp [intOf]; omega
        · have hst2 := HSTEP.out
          rw [if_pos he] at hst2
          obtain ⟨rfl, rfl⟩ : 0 = r1 ∧ e1 = r2 := by cases hst2; exact ⟨rfl, rfl⟩
          have e0p : ¬ (e1 = 0) := he
          have e0d : decide (e1 = 0) = false := decide_eq_false e0p
          go_wp2_with (first
              | go_skip
              | ((with_reducible refine isLoad ?_); refine ld1X X ?_ (hT := kStl))
              | ((with_reducible refine isLoad ?_); refine ld1A H ?_ (hT := by first | exact kInt | exact kStr | exact kBll | exact kBool | exact kStl)))
          go_ret2
          exact ⟨rfl, H.out.bel⟩
      · have hjn : j = nb := by omega
        subst hjn
        have hst2 := HR.out
        rw [List.drop_eq_nil_of_le (by rw [FL.out]; exact Nat.le_refl _)] at hst2
        cases hst2
        go_wp2_with (first
            | go_skip
            | ((with_reducible refine isLoad ?_); refine ld1X X ?_ (hT := kStl))
            | ((with_reducible refine isLoad ?_); refine ld1A H ?_ (hT := by first | exact kInt | exact kStr | exact kBll | exact kBool | exact kStl)))
        go_ret2
        exact ⟨rfl, H.out.bel⟩
  · rw [if_pos h4]
    have s0p : ¬ (sh = 0) := h4
    have s0d : decide (sh = 0) = false := decide_eq_false s0p
    clear hsh
    go_enter Tryd.func41, Tryd.ntmps41
    go_wp2_with (first
        | go_skip
        | ((with_reducible refine isLoad ?_); refine ld1A H ?_ (hT := by first | exact kInt | exact kStr | exact kBll | exact kBool | exact kStl))
        | ((with_reducible refine isLoad ?_); refine ldA H ?_ (hT := by first | exact rRat | exact rStm8 | exact rJob | exact rWks | exact rGoa))
        | ((with_reducible refine isBox ?_); refine bxA H ?_; clear H; intro _ _ H)
        | (go_at_call 56; refine Calls.mono (shape_any vk vn va vb vw B2 nb c2 _ ok5 ok6 OK7.out H.out.tb (by omega) (by omega)) ?_; rintro _ _ ⟨rfl, hb⟩; replace H := Lib.hid (H.out.go hb); clear hb; rw [HS.out]))
    go_ret2
    exact ⟨rfl, H.out.bel⟩
theorem stmt_all : ∀ d, StmtC d ∧ StmtsC d
  | 0 => ⟨fun E s v p w hp hR => hR.elim, stmts_of 0 fun E s v p w hp hR => hR.elim⟩
  | d + 1 => ⟨stmt_of d (stmt_all d).2, stmts_of (d + 1) (stmt_of d (stmt_all d).2)⟩
end Go.Proofs.YtbphdmnomakeoaaDoor

namespace Go.Proofs.YtbphdmnomakeoaaDoor
open Go.RowKit
set_option linter.unusedVariables false
set_option maxRecDepth 100000

def checkE (d : Nat) (nm : ByteArray) (l : List Stm) : Int := if nameB nm = true then (wSts (wSt d 1) 1 l).2 else 3
theorem RSs.shape {E : Ents} {d : Nat} {l : List Stm} {x : Value} (h : RSs E d l x) : ∃ B c, x = .slice B l.length c := by
  obtain ⟨svs, h1, h2⟩ := h
  obtain ⟨B, c, h3, _⟩ := h1.shape
  exact ⟨B, c, by rw [h3, h2.1]⟩
set_option maxHeartbeats 4000000 in
theorem Check_any (d : Nat) (E : Ents) (nm : ByteArray) (l : List Stm) (x : Value) (w : World) (hn : nm.size ≤ maxLen) (R : Hid (RSs E d l x)) (HE : Hid (Hld E w)) (hT : Tb w) :
    Calls Tryd.prog 20 #[.agg #[.string nm, x]] w fun e w' => e = .returned (.int .i64 (checkE d nm l)) ∧ Below w.heap.size w w' := by
  have H := Lib.hid (Hp.start hT)
  obtain ⟨B, c, rfl⟩ := R.out.shape
  cases hnm : nameB nm with
  | false =>
    rw [show checkE d nm l = 3 by simp [checkE, hnm]]
    go_enter Tryd.func20, Tryd.ntmps20
    go_wp2_with (first
        | go_skip
        | ((with_reducible refine isLoad ?_); refine ld1A H ?_ (hT := by first | exact kInt | exact kStr | exact kBll | exact kBool | exact kStl))
        | ((with_reducible refine isLoad ?_); refine ldA H ?_ (hT := by first | exact rRat | exact rStm8 | exact rJob | exact rWks | exact rGoa))
        | ((with_reducible refine isBox ?_); refine bxA H ?_; clear H; intro _ _ H)
        | (go_at_call 34; refine (Name_any _ _ (by assumption) H.out.tb).mono ?_; rintro _ _ ⟨rfl, hb⟩; replace H := Lib.hid (H.out.go hb); clear hb)
        | (go_at_call 30; refine Calls.mono ((stmt_all d).2 E l _ 1 _ (by decide) R.out (HE.out.below H.out.bel) H.out.tb) ?_; rintro _ _ ⟨rfl, hb⟩; replace H := Lib.hid (H.out.go hb); clear hb))
    go_ret
    exact ⟨rfl, H.out.bel⟩
  | true =>
    rw [show checkE d nm l = (wSts (wSt d 1) 1 l).2 by simp [checkE, hnm]]
    go_enter Tryd.func20, Tryd.ntmps20
    go_wp2_with (first
        | go_skip
        | ((with_reducible refine isLoad ?_); refine ld1A H ?_ (hT := by first | exact kInt | exact kStr | exact kBll | exact kBool | exact kStl))
        | ((with_reducible refine isLoad ?_); refine ldA H ?_ (hT := by first | exact rRat | exact rStm8 | exact rJob | exact rWks | exact rGoa))
        | ((with_reducible refine isBox ?_); refine bxA H ?_; clear H; intro _ _ H)
        | (go_at_call 34; refine (Name_any _ _ (by assumption) H.out.tb).mono ?_; rintro _ _ ⟨rfl, hb⟩; replace H := Lib.hid (H.out.go hb); clear hb)
        | (go_at_call 30; refine Calls.mono ((stmt_all d).2 E l _ 1 _ (by decide) R.out (HE.out.below H.out.bel) H.out.tb) ?_; rintro _ _ ⟨rfl, hb⟩; replace H := Lib.hid (H.out.go hb); clear hb))
    go_ret
    exact ⟨rfl, H.out.bel⟩
/-- A slot: its name and its tolerance. -/
structure Slt where
  nm : ByteArray
  wd : Option Rat
def Slt.cells (x : Slt) : List Value := [.string x.nm, .bool false, .string ⟨#[]⟩, .string ⟨#[]⟩, .bool false, .string ⟨#[]⟩, .string ⟨#[]⟩, .bool false, .bool false, .string ⟨#[]⟩, .string ⟨#[]⟩, .bool (sgO x.wd), .string (nuO x.wd), .string (deO x.wd)]
theorem Slt.len (x : Slt) : x.cells.length = 14 := rfl
/-- A works of arms, parts and slots, without walls or gates. -/
def WkV (E : Ents) (an pn : List ByteArray) (sl : List Slt) (cs : List Value) : Prop := ∃ av pv sv, cs = [av, .slice none 0 0, pv, sv, .slice none 0 0, .bool false, .string ⟨#[]⟩, .string ⟨#[]⟩] ∧
  RowIn E 78 12 av an.length (flat armC an) ∧ RowIn E 47 12 pv pn.length (flat partC pn) ∧ RowIn E 49 14 sv sl.length (flat Slt.cells sl)
theorem WkV.mono {E E' : Ents} {an pn : List ByteArray} {sl : List Slt} {cs : List Value} (h : WkV E an pn sl cs) (hs : ∀ x ∈ E, x ∈ E') : WkV E' an pn sl cs := by
  obtain ⟨av, pv, sv, h1, h2, h3, h4⟩ := h
  exact ⟨av, pv, sv, h1, h2.mono hs, h3.mono hs, h4.mono hs⟩
/-- Where a text first stands among others. -/
def idxB (s : ByteArray) (ws : List ByteArray) : Option Nat := ws.findIdx? fun x => x.toList == s.toList
theorem idxB_at {s : ByteArray} {ws : List ByteArray} {j : Nat} (h : ∀ (k : Nat) x, k < j → ws[k]? = some x → x ≠ s) (hj : ws[j]? = some s) : idxB s ws = some j := by
  unfold idxB
  obtain ⟨hl, e⟩ := List.getElem?_eq_some_iff.1 hj
  rw [List.findIdx?_eq_some_iff_getElem]
  refine ⟨hl, str_eq e, fun k hk => ?_⟩
  have := h k ws[k] hk (List.getElem?_eq_getElem (by omega))
  simpa using str_ne this
theorem idxB_none {s : ByteArray} {ws : List ByteArray} (h : ∀ (k : Nat) x, k < ws.length → ws[k]? = some x → x ≠ s) : idxB s ws = none := by
  unfold idxB
  rw [List.findIdx?_eq_none_iff]
  intro x hx
  obtain ⟨k, hk⟩ := List.mem_iff_getElem?.1 hx
  exact str_ne (h k x (List.getElem?_eq_some_iff.1 hk).1 hk)
/-- types.Find -/
def findP (an pn sn : List ByteArray) (s : ByteArray) : Int × Int :=
  match idxB s an with
  | some i => (1, i)
  | none => match idxB s pn with
    | some i => (2, i)
    | none => match idxB s sn with
      | some i => (3, i)
      | none => (0, -1)
/-- types.kinds -/
def kindsP (k : Int) : Int × Int := if k = 1 then (2, 3) else if k = 2 then (2, 1) else if k = 3 then (1, 0) else if k = 4 then (2, 0) else (0, 0)
/-- types.index -/
def indexP (an pn sn : List ByteArray) (kind : Int) (s : ByteArray) : Int × Int :=
  if kind = 0 then (-1, 0) else if (findP an pn sn s).1 = 0 then (0, 16) else if (findP an pn sn s).1 ≠ kind then (0, 8) else ((findP an pn sn s).2, 0)
theorem zArm : (Tryd.prog.info? 78).bind (·.zero) = some (.agg #[.string ⟨#[]⟩, .bool false, .string ⟨#[]⟩, .string ⟨#[]⟩, .bool false, .string ⟨#[]⟩, .string ⟨#[]⟩, .bool false, .bool false, .string ⟨#[]⟩, .string ⟨#[]⟩, .slice none 0 0]) := by kernel_rfl
theorem zPrt : (Tryd.prog.info? 47).bind (·.zero) = some (.agg #[.string ⟨#[]⟩, .slice none 0 0, .bool false, .string ⟨#[]⟩, .string ⟨#[]⟩, .bool false, .string ⟨#[]⟩, .string ⟨#[]⟩, .bool false, .bool false, .string ⟨#[]⟩, .string ⟨#[]⟩]) := by kernel_rfl
theorem zSlo : (Tryd.prog.info? 49).bind (·.zero) = some (.agg #[.string ⟨#[]⟩, .bool false, .string ⟨#[]⟩, .string ⟨#[]⟩, .bool false, .string ⟨#[]⟩, .string ⟨#[]⟩, .bool false, .bool false, .string ⟨#[]⟩, .string ⟨#[]⟩, .bool false, .string ⟨#[]⟩, .string ⟨#[]⟩]) := by kernel_rfl
set_option maxHeartbeats 1000000 in
theorem kinds_any (k : Int) (w : World) : Calls Tryd.prog 21 #[.int .i64 k] w fun e w' => e = .returned (.tuple #[.int .i64 (kindsP k).1, .int .i64 (kindsP k).2]) ∧ w = w' := by
  by_cases h1 : k = 1
  · subst h1
    rw [show kindsP 1 = (2, 3) from rfl]
    go_enter Tryd.func21, Tryd.ntmps21
    go_wp2_with (first
        | go_skip)
    go_ret2
    exact ⟨rfl, rfl⟩
  by_cases h2 : k = 2
  · subst h2
    rw [show kindsP 2 = (2, 1) from rfl]
    go_enter Tryd.func21, Tryd.ntmps21
    go_wp2_with (first
        | go_skip)
    go_ret2
    exact ⟨rfl, rfl⟩
  by_cases h3 : k = 3
  · subst h3
    rw [show kindsP 3 = (1, 0) from rfl]
    go_enter Tryd.func21, Tryd.ntmps21
    go_wp2_with (first
        | go_skip)
    go_ret2
    exact ⟨rfl, rfl⟩
  by_cases h4 : k = 4
  · subst h4
    rw [show kindsP 4 = (2, 0) from rfl]
    go_enter Tryd.func21, Tryd.ntmps21
    go_wp2_with (first
        | go_skip)
    go_ret2
    exact ⟨rfl, rfl⟩
  rw [show kindsP k = (0, 0) by simp [kindsP, h1, h2, h3, h4]]
  go_enter Tryd.func21, Tryd.ntmps21
  go_wp2_with (first
      | go_skip)
  go_ret2
  exact ⟨rfl, rfl⟩
set_option maxHeartbeats 4000000 in
theorem Find_any (E : Ents) (an pn : List ByteArray) (sl : List Slt) (cs : List Value) (s : ByteArray) (w : World) (R : Hid (WkV E an pn sl cs)) (HE : Hid (Hld E w)) (hT : Tb w) :
    Calls Tryd.prog 25 #[.agg cs.toArray, .string s] w fun e w' => e = .returned (.tuple #[.int .i64 (findP an pn (sl.map (·.nm)) s).1, .int .i64 (findP an pn (sl.map (·.nm)) s).2]) ∧ Below w.heap.size w w' := by
  have H := Lib.hid (Hp.start hT)
  obtain ⟨av, pv, sv, rfl, RA, RP, RS⟩ := R.out
  obtain ⟨na, hna⟩ : ∃ n, an.length = n := ⟨_, rfl⟩
  obtain ⟨np, hnp⟩ : ∃ n, pn.length = n := ⟨_, rfl⟩
  obtain ⟨ns, hns⟩ : ∃ n, sl.length = n := ⟨_, rfl⟩
  have LA := Lib.hid hna
  have LP := Lib.hid hnp
  have LS := Lib.hid hns
  rw [hna] at RA
  rw [hnp] at RP
  rw [hns] at RS
  replace RA := Lib.hid RA
  replace RP := Lib.hid RP
  replace RS := Lib.hid RS
  have la := RA.out.le
  have lp := RP.out.le
  have ls := RS.out.le
  obtain ⟨Ba, ca, rfl, _⟩ := RA.out.shape
  obtain ⟨Bp, cp, rfl, _⟩ := RP.out.shape
  obtain ⟨Bs, cc, rfl, _⟩ := RS.out.shape
  obtain ⟨f1, f2, hF⟩ : ∃ f1 f2, findP an pn (sl.map (·.nm)) s = (f1, f2) := ⟨_, _, rfl⟩
  rw [hF]
  have HF := Lib.hid hF
  clear hF hna hnp hns hT R
  go_enter Tryd.func25, Tryd.ntmps25
  go_wp2_with (first
      | go_skip
      | ((with_reducible refine isLoad ?_); refine ld1A H ?_ (hT := by first | exact kStr | exact kArl | exact kPrl | exact kSll | exact kGal))
      | ((with_reducible refine isStore ?_); refine stA H ?_ (hT := by first | exact rArm | exact rPrt | exact rSlo); clear H; intro _ H)
      | ((with_reducible refine isAlloc ?_); refine alA H ?_ (hz := by first | exact zArm | exact zPrt | exact zSlo); clear H; intro _ _ H)
      | ((with_reducible refine isBox ?_); refine bxA H ?_; clear H; intro q _ H))
  go_loopw [6, 17] (fun _ i_ wr => ∃ j : Nat, i_ = .int .i64 j ∧ j ≤ na ∧ Hid (∀ (k : Nat) x, k < j → (an)[k]? = some x → x ≠ s) ∧ Hid (Hp w wr [(q, 31, [.slice Ba na ca, .slice none 0 0, .slice Bp np cp, .slice Bs ns cc, .slice none 0 0, .bool false, .string ⟨#[]⟩, .string ⟨#[]⟩])])) (fun _ i_ _ => na - (intOf i_).toNat)
  case atStart => exact ⟨0, rfl, by omega, Lib.hid fun k x h => by omega, H⟩
  case round =>
    clear H
    obtain ⟨j, rfl, hj, HS, H⟩ := hrel
    by_cases hlt : j < na
    · obtain ⟨x, hx⟩ : ∃ x, an[j]? = some x := ⟨_, List.getElem?_eq_getElem (by rw [LA.out]; exact hlt)⟩
      obtain ⟨g, c', e1, hr⟩ := RA.out.at_ armC_len hx (by decide)
      have X := Lib.hid (hr _ (HE.out.below H.out.bel))
      injection e1 with e1 _ e3
      subst e1
      have HX : Hid ((an)[j]? = some x) := Lib.hid hx
      clear hr hx e3
      by_cases he : x = s
      · have hb := str_eq he
        have hi := idxB_at HS.out (by rw [HX.out, he])
        have h0 := HF.out
        rw [show findP an pn (sl.map (·.nm)) s = (1, (j : Int)) by simp only [findP, hi]] at h0
        obtain ⟨rfl, rfl⟩ : (1 : Int) = f1 ∧ (j : Int) = f2 := by cases h0; exact ⟨rfl, rfl⟩
        clear hi h0
        go_wp2_with (first
            | go_skip
            | ((with_reducible refine isLoad ?_); refine ldX (cs := [.string x, .bool false, .string ⟨#[]⟩, .string ⟨#[]⟩, .bool false, .string ⟨#[]⟩, .string ⟨#[]⟩, .bool false, .bool false, .string ⟨#[]⟩, .string ⟨#[]⟩, .slice none 0 0]) X ?_ (hT := rArm))
            | ((with_reducible refine isLoad ?_); refine ld1A H ?_ (hT := by first | exact kStr | exact kArl | exact kPrl | exact kSll | exact kGal))
            | ((with_reducible refine isStore ?_); refine stA H ?_ (hT := by first | exact rArm | exact rPrt | exact rSlo); clear H; intro _ H)
            | ((with_reducible refine isAlloc ?_); refine alA H ?_ (hz := by first | exact zArm | exact zPrt | exact zSlo); clear H; intro _ _ H))
        go_ret2
        exact ⟨rfl, H.out.drop.bel⟩
      · have hb := str_ne he
        go_wp2_with (first
            | go_skip
            | ((with_reducible refine isLoad ?_); refine ldX (cs := [.string x, .bool false, .string ⟨#[]⟩, .string ⟨#[]⟩, .bool false, .string ⟨#[]⟩, .string ⟨#[]⟩, .bool false, .bool false, .string ⟨#[]⟩, .string ⟨#[]⟩, .slice none 0 0]) X ?_ (hT := rArm))
            | ((with_reducible refine isLoad ?_); refine ld1A H ?_ (hT := by first | exact kStr | exact kArl | exact kPrl | exact kSll | exact kGal))
            | ((with_reducible refine isStore ?_); refine stA H ?_ (hT := by first | exact rArm | exact rPrt | exact rSlo); clear H; intro _ H)
            | ((with_reducible refine isAlloc ?_); refine alA H ?_ (hz := by first | exact zArm | exact zPrt | exact zSlo); clear H; intro _ _ H))
        replace H := Lib.hid H.out.drop
        go_roundw
        case rel => first | exact ⟨j + 1, by go_num, by omega, Lib.hid (fun k y hk hy => if e : k = j then by subst e; rw [HX.out] at hy; cases hy; exact he else HS.out k y (by omega) hy), H⟩ | exact ⟨_, _, _, _, ⟨j + 1, by go_num, by omega, Lib.hid (fun k y hk hy => if e : k = j then by subst e; rw [HX.out] at hy; cases hy; exact he else HS.out k y (by omega) hy), H⟩, rfl, rfl, rfl⟩ | (trace_state; fail)
        case measure => simp [intOf]; omega
    · have hin : idxB s an = none := idxB_none fun k x hk hx => HS.out k x (by rw [LA.out] at hk; omega) hx
      have HIA := Lib.hid hin
      clear HS hin
      go_wp2_with (first
          | go_skip
          | ((with_reducible refine isLoad ?_); refine ld1A H ?_ (hT := by first | exact kStr | exact kArl | exact kPrl | exact kSll | exact kGal))
          | ((with_reducible refine isStore ?_); refine stA H ?_ (hT := by first | exact rArm | exact rPrt | exact rSlo); clear H; intro _ H)
          | ((with_reducible refine isAlloc ?_); refine alA H ?_ (hz := by first | exact zArm | exact zPrt | exact zSlo); clear H; intro _ _ H))
      go_loopw [8, 31] (fun _ i_ wr => ∃ j : Nat, i_ = .int .i64 j ∧ j ≤ np ∧ Hid (∀ (k : Nat) x, k < j → (pn)[k]? = some x → x ≠ s) ∧ Hid (Hp w wr [(q, 31, [.slice Ba na ca, .slice none 0 0, .slice Bp np cp, .slice Bs ns cc, .slice none 0 0, .bool false, .string ⟨#[]⟩, .string ⟨#[]⟩])])) (fun _ i_ _ => np - (intOf i_).toNat)
      case atStart => exact ⟨0, rfl, by omega, Lib.hid fun k x h => by omega, H⟩
      case round =>
        clear H
        obtain ⟨j, rfl, hj, HS, H⟩ := hrel
        by_cases hlt : j < np
        · obtain ⟨x, hx⟩ : ∃ x, pn[j]? = some x := ⟨_, List.getElem?_eq_getElem (by rw [LP.out]; exact hlt)⟩
          obtain ⟨g, c', e1, hr⟩ := RP.out.at_ partC_len hx (by decide)
          have X := Lib.hid (hr _ (HE.out.below H.out.bel))
          injection e1 with e1 _ e3
          subst e1
          have HX : Hid ((pn)[j]? = some x) := Lib.hid hx
          clear hr hx e3
          by_cases he : x = s
          · have hb := str_eq he
            have hi := idxB_at HS.out (by rw [HX.out, he])
            have h0 := HF.out
            rw [show findP an pn (sl.map (·.nm)) s = (2, (j : Int)) by simp only [findP, HIA.out, hi]] at h0
            obtain ⟨rfl, rfl⟩ : (2 : Int) = f1 ∧ (j : Int) = f2 := by cases h0; exact ⟨rfl, rfl⟩
            clear hi h0
            go_wp2_with (first
                | go_skip
                | ((with_reducible refine isLoad ?_); refine ldX (cs := [.string x, .slice none 0 0, .bool false, .string ⟨#[]⟩, .string ⟨#[]⟩, .bool false, .string ⟨#[]⟩, .string ⟨#[]⟩, .bool false, .bool false, .string ⟨#[]⟩, .string ⟨#[]⟩]) X ?_ (hT := rPrt))
                | ((with_reducible refine isLoad ?_); refine ld1A H ?_ (hT := by first | exact kStr | exact kArl | exact kPrl | exact kSll | exact kGal))
                | ((with_reducible refine isStore ?_); refine stA H ?_ (hT := by first | exact rArm | exact rPrt | exact rSlo); clear H; intro _ H)
                | ((with_reducible refine isAlloc ?_); refine alA H ?_ (hz := by first | exact zArm | exact zPrt | exact zSlo); clear H; intro _ _ H))
            go_ret2
            exact ⟨rfl, H.out.drop.bel⟩
          · have hb := str_ne he
            go_wp2_with (first
                | go_skip
                | ((with_reducible refine isLoad ?_); refine ldX (cs := [.string x, .slice none 0 0, .bool false, .string ⟨#[]⟩, .string ⟨#[]⟩, .bool false, .string ⟨#[]⟩, .string ⟨#[]⟩, .bool false, .bool false, .string ⟨#[]⟩, .string ⟨#[]⟩]) X ?_ (hT := rPrt))
                | ((with_reducible refine isLoad ?_); refine ld1A H ?_ (hT := by first | exact kStr | exact kArl | exact kPrl | exact kSll | exact kGal))
                | ((with_reducible refine isStore ?_); refine stA H ?_ (hT := by first | exact rArm | exact rPrt | exact rSlo); clear H; intro _ H)
                | ((with_reducible refine isAlloc ?_); refine alA H ?_ (hz := by first | exact zArm | exact zPrt | exact zSlo); clear H; intro _ _ H))
            replace H := Lib.hid H.out.drop
            go_roundw
            case rel => first | exact ⟨j + 1, by go_num, by omega, Lib.hid (fun k y hk hy => if e : k = j then by subst e; rw [HX.out] at hy; cases hy; exact he else HS.out k y (by omega) hy), H⟩ | exact ⟨_, _, _, _, ⟨j + 1, by go_num, by omega, Lib.hid (fun k y hk hy => if e : k = j then by subst e; rw [HX.out] at hy; cases hy; exact he else HS.out k y (by omega) hy), H⟩, rfl, rfl, rfl⟩ | (trace_state; fail)
            case measure => simp [intOf]; omega
        · have hin : idxB s pn = none := idxB_none fun k x hk hx => HS.out k x (by rw [LP.out] at hk; omega) hx
          have HIP := Lib.hid hin
          clear HS hin
          go_wp2_with (first
              | go_skip
              | ((with_reducible refine isLoad ?_); refine ld1A H ?_ (hT := by first | exact kStr | exact kArl | exact kPrl | exact kSll | exact kGal))
              | ((with_reducible refine isStore ?_); refine stA H ?_ (hT := by first | exact rArm | exact rPrt | exact rSlo); clear H; intro _ H)
              | ((with_reducible refine isAlloc ?_); refine alA H ?_ (hz := by first | exact zArm | exact zPrt | exact zSlo); clear H; intro _ _ H))
          go_loopw [10, 45] (fun _ i_ wr => ∃ j : Nat, i_ = .int .i64 j ∧ j ≤ ns ∧ Hid (∀ (k : Nat) x, k < j → (sl.map (·.nm))[k]? = some x → x ≠ s) ∧ Hid (Hp w wr [(q, 31, [.slice Ba na ca, .slice none 0 0, .slice Bp np cp, .slice Bs ns cc, .slice none 0 0, .bool false, .string ⟨#[]⟩, .string ⟨#[]⟩])])) (fun _ i_ _ => ns - (intOf i_).toNat)
          case atStart => exact ⟨0, rfl, by omega, Lib.hid fun k x h => by omega, H⟩
          case round =>
            clear H
            obtain ⟨j, rfl, hj, HS, H⟩ := hrel
            by_cases hlt : j < ns
            · obtain ⟨x, hx⟩ : ∃ x, sl[j]? = some x := ⟨_, List.getElem?_eq_getElem (by rw [LS.out]; exact hlt)⟩
              obtain ⟨g, c', e1, hr⟩ := RS.out.at_ Slt.len hx (by decide)
              have X := Lib.hid (hr _ (HE.out.below H.out.bel))
              injection e1 with e1 _ e3
              subst e1
              have HX : Hid ((sl.map (·.nm))[j]? = some x.nm) := Lib.hid (by rw [List.getElem?_map, hx]; rfl)
              clear hr hx e3
              by_cases he : x.nm = s
              · have hb := str_eq he
                have hi := idxB_at HS.out (by rw [HX.out, he])
                have h0 := HF.out
                rw [show findP an pn (sl.map (·.nm)) s = (3, (j : Int)) by simp only [findP, HIA.out, HIP.out, hi]] at h0
                obtain ⟨rfl, rfl⟩ : (3 : Int) = f1 ∧ (j : Int) = f2 := by cases h0; exact ⟨rfl, rfl⟩
                clear hi h0
                go_wp2_with (first
                    | go_skip
                    | ((with_reducible refine isLoad ?_); refine ldX (cs := [.string x.nm, .bool false, .string ⟨#[]⟩, .string ⟨#[]⟩, .bool false, .string ⟨#[]⟩, .string ⟨#[]⟩, .bool false, .bool false, .string ⟨#[]⟩, .string ⟨#[]⟩, .bool (sgO x.wd), .string (nuO x.wd), .string (deO x.wd)]) X ?_ (hT := rSlo))
                    | ((with_reducible refine isLoad ?_); refine ld1A H ?_ (hT := by first | exact kStr | exact kArl | exact kPrl | exact kSll | exact kGal))
                    | ((with_reducible refine isStore ?_); refine stA H ?_ (hT := by first | exact rArm | exact rPrt | exact rSlo); clear H; intro _ H)
                    | ((with_reducible refine isAlloc ?_); refine alA H ?_ (hz := by first | exact zArm | exact zPrt | exact zSlo); clear H; intro _ _ H))
                go_ret2
                exact ⟨rfl, H.out.drop.bel⟩
              · have hb := str_ne he
                go_wp2_with (first
                    | go_skip
                    | ((with_reducible refine isLoad ?_); refine ldX (cs := [.string x.nm, .bool false, .string ⟨#[]⟩, .string ⟨#[]⟩, .bool false, .string ⟨#[]⟩, .string ⟨#[]⟩, .bool false, .bool false, .string ⟨#[]⟩, .string ⟨#[]⟩, .bool (sgO x.wd), .string (nuO x.wd), .string (deO x.wd)]) X ?_ (hT := rSlo))
                    | ((with_reducible refine isLoad ?_); refine ld1A H ?_ (hT := by first | exact kStr | exact kArl | exact kPrl | exact kSll | exact kGal))
                    | ((with_reducible refine isStore ?_); refine stA H ?_ (hT := by first | exact rArm | exact rPrt | exact rSlo); clear H; intro _ H)
                    | ((with_reducible refine isAlloc ?_); refine alA H ?_ (hz := by first | exact zArm | exact zPrt | exact zSlo); clear H; intro _ _ H))
                replace H := Lib.hid H.out.drop
                go_roundw
                case rel => first | exact ⟨j + 1, by go_num, by omega, Lib.hid (fun k y hk hy => if e : k = j then by subst e; rw [HX.out] at hy; cases hy; exact he else HS.out k y (by omega) hy), H⟩ | exact ⟨_, _, _, _, ⟨j + 1, by go_num, by omega, Lib.hid (fun k y hk hy => if e : k = j then by subst e; rw [HX.out] at hy; cases hy; exact he else HS.out k y (by omega) hy), H⟩, rfl, rfl, rfl⟩ | (trace_state; fail)
                case measure => simp [intOf]; omega
            · have hin : idxB s (sl.map (·.nm)) = none := idxB_none fun k x hk hx => HS.out k x (by rw [List.length_map, LS.out] at hk; omega) hx
              have HIS := Lib.hid hin
              clear HS hin
              go_wp2_with (first
                  | go_skip
                  | ((with_reducible refine isLoad ?_); refine ld1A H ?_ (hT := by first | exact kStr | exact kArl | exact kPrl | exact kSll | exact kGal))
                  | ((with_reducible refine isStore ?_); refine stA H ?_ (hT := by first | exact rArm | exact rPrt | exact rSlo); clear H; intro _ H)
                  | ((with_reducible refine isAlloc ?_); refine alA H ?_ (hz := by first | exact zArm | exact zPrt | exact zSlo); clear H; intro _ _ H))
              go_loopw [59] (fun i_ wr => i_ = .int .i64 0 ∧ Hid (Hp w wr [(q, 31, [.slice Ba na ca, .slice none 0 0, .slice Bp np cp, .slice Bs ns cc, .slice none 0 0, .bool false, .string ⟨#[]⟩, .string ⟨#[]⟩])])) (fun _ _ => 0)
              case atStart => exact ⟨rfl, H⟩
              case round =>
                clear H
                obtain ⟨rfl, H⟩ := hrel
                have h0 := HF.out
                rw [show findP an pn (sl.map (·.nm)) s = (0, -1) by simp only [findP, HIA.out, HIP.out, HIS.out]] at h0
                obtain ⟨rfl, rfl⟩ : (0 : Int) = f1 ∧ (-1 : Int) = f2 := by cases h0; exact ⟨rfl, rfl⟩
                clear h0
                go_wp2_with (first
                    | go_skip)
                go_ret2
                exact ⟨rfl, H.out.bel⟩
set_option maxHeartbeats 4000000 in
theorem index_any (E : Ents) (an pn : List ByteArray) (sl : List Slt) (cs : List Value) (kd : Int) (s : ByteArray) (w : World) (R : Hid (WkV E an pn sl cs)) (HE : Hid (Hld E w)) (hT : Tb w) :
    Calls Tryd.prog 22 #[.agg cs.toArray, .int .i64 kd, .string s] w fun e w' => e = .returned (.tuple #[.int .i64 (indexP an pn (sl.map (·.nm)) kd s).1, .int .i64 (indexP an pn (sl.map (·.nm)) kd s).2]) ∧ Below w.heap.size w w' := by
  have H := Lib.hid (Hp.start hT)
  obtain ⟨av, pv, sv, e1, RA, RP, RS⟩ := R.out
  obtain ⟨Ba, ca, rfl, _⟩ := RA.shape
  obtain ⟨Bp, cp, rfl, _⟩ := RP.shape
  obtain ⟨Bs, cc, rfl, _⟩ := RS.shape
  subst e1
  obtain ⟨f1, f2, hF⟩ : ∃ f1 f2, findP an pn (sl.map (·.nm)) s = (f1, f2) := ⟨_, _, rfl⟩
  have HF := Lib.hid hF
  obtain ⟨r1, r2, hr⟩ : ∃ r1 r2, indexP an pn (sl.map (·.nm)) kd s = (r1, r2) := ⟨_, _, rfl⟩
  rw [hr]
  have h0 : (if kd = 0 then (-1, 0) else if f1 = 0 then (0, 16) else if f1 ≠ kd then (0, 8) else (f2, 0)) = (r1, r2) := by rw [← hr, indexP, hF]
  clear hF hr hT RA RP RS
  by_cases h1 : kd = 0
  · rw [if_pos h1] at h0
    obtain ⟨rfl, rfl⟩ : (-1 : Int) = r1 ∧ (0 : Int) = r2 := by cases h0; exact ⟨rfl, rfl⟩
    have k0p : kd = 0 := by omega
    have k0d : decide (kd = 0) = true := decide_eq_true k0p
    clear h0
    go_enter Tryd.func22, Tryd.ntmps22
    go_wp2_with (first
        | go_skip
        | ((with_reducible refine isLoad ?_); refine ldA H ?_ (hT := by first | exact rRat | exact rStm8 | exact rJob | exact rWks | exact rGoa))
        | ((with_reducible refine isLoad ?_); refine ld1A H ?_ (hT := by first | exact kInt | exact kStr | exact kBll | exact kBool | exact kStl))
        | ((with_reducible refine isBox ?_); refine bxA H ?_; clear H; intro _ _ H)
        | (go_at_call 25; refine Calls.mono (Find_any E an pn sl _ s _ R (Lib.hid (HE.out.below H.out.bel)) H.out.tb) ?_; rintro _ _ ⟨rfl, hb⟩; replace H := Lib.hid (H.out.go hb); clear hb; rw [HF.out]))
    go_ret2
    exact ⟨rfl, H.out.bel⟩
  rw [if_neg h1] at h0
  have k0p : ¬ (kd = 0) := by omega
  have k0d : decide (kd = 0) = false := decide_eq_false k0p
  by_cases h2 : f1 = 0
  · rw [if_pos h2] at h0
    obtain ⟨rfl, rfl⟩ : (0 : Int) = r1 ∧ (16 : Int) = r2 := by cases h0; exact ⟨rfl, rfl⟩
    subst h2
    clear h0
    go_enter Tryd.func22, Tryd.ntmps22
    go_wp2_with (first
        | go_skip
        | ((with_reducible refine isLoad ?_); refine ldA H ?_ (hT := by first | exact rRat | exact rStm8 | exact rJob | exact rWks | exact rGoa))
        | ((with_reducible refine isLoad ?_); refine ld1A H ?_ (hT := by first | exact kInt | exact kStr | exact kBll | exact kBool | exact kStl))
        | ((with_reducible refine isBox ?_); refine bxA H ?_; clear H; intro _ _ H)
        | (go_at_call 25; refine Calls.mono (Find_any E an pn sl _ s _ R (Lib.hid (HE.out.below H.out.bel)) H.out.tb) ?_; rintro _ _ ⟨rfl, hb⟩; replace H := Lib.hid (H.out.go hb); clear hb; rw [HF.out]))
    go_ret2
    exact ⟨rfl, H.out.bel⟩
  rw [if_neg h2] at h0
  have f0p : ¬ (f1 = 0) := by omega
  have f0d : decide (f1 = 0) = false := decide_eq_false f0p
  by_cases h3 : f1 = kd
  · rw [if_neg (by simpa using h3)] at h0
    obtain ⟨rfl, rfl⟩ : f2 = r1 ∧ (0 : Int) = r2 := by cases h0; exact ⟨rfl, rfl⟩
    subst h3
    clear h0
    go_enter Tryd.func22, Tryd.ntmps22
    go_wp2_with (first
        | go_skip
        | ((with_reducible refine isLoad ?_); refine ldA H ?_ (hT := by first | exact rRat | exact rStm8 | exact rJob | exact rWks | exact rGoa))
        | ((with_reducible refine isLoad ?_); refine ld1A H ?_ (hT := by first | exact kInt | exact kStr | exact kBll | exact kBool | exact kStl))
        | ((with_reducible refine isBox ?_); refine bxA H ?_; clear H; intro _ _ H)
        | (go_at_call 25; refine Calls.mono (Find_any E an pn sl _ s _ R (Lib.hid (HE.out.below H.out.bel)) H.out.tb) ?_; rintro _ _ ⟨rfl, hb⟩; replace H := Lib.hid (H.out.go hb); clear hb; rw [HF.out]))
    go_ret2
    exact ⟨rfl, H.out.bel⟩
  rw [if_pos h3] at h0
  obtain ⟨rfl, rfl⟩ : (0 : Int) = r1 ∧ (8 : Int) = r2 := by cases h0; exact ⟨rfl, rfl⟩
  have f3p : ¬ (f1 = kd) := by omega
  have f3d : decide (f1 = kd) = false := decide_eq_false f3p
  clear h0
  go_enter Tryd.func22, Tryd.ntmps22
  go_wp2_with (first
      | go_skip
      | ((with_reducible refine isLoad ?_); refine ldA H ?_ (hT := by first | exact rRat | exact rStm8 | exact rJob | exact rWks | exact rGoa))
      | ((with_reducible refine isLoad ?_); refine ld1A H ?_ (hT := by first | exact kInt | exact kStr | exact kBll | exact kBool | exact kStl))
      | ((with_reducible refine isBox ?_); refine bxA H ?_; clear H; intro _ _ H)
      | (go_at_call 25; refine Calls.mono (Find_any E an pn sl _ s _ R (Lib.hid (HE.out.below H.out.bel)) H.out.tb) ?_; rintro _ _ ⟨rfl, hb⟩; replace H := Lib.hid (H.out.go hb); clear hb; rw [HF.out]))
  go_ret2
  exact ⟨rfl, H.out.bel⟩
end Go.Proofs.YtbphdmnomakeoaaDoor

namespace Go.Proofs.YtbphdmnomakeoaaDoor
open Go.RowKit
set_option linter.unusedVariables false
set_option maxRecDepth 100000

section
variable {P : Program} {ops : Array Oper} {rest : List Oper} {o : Oper} {a a2 : Act} {w : World} {R : Act → Prop}
theorem kldX {b q k : Nat} {cs : List Value} (hr : Hid (w.rangeAt b q cs)) (hb : b < w.heap.size) {t : TypeId} {p : Operand} (hK : wpKeep P ops w R rest a2) (ho : o.op = .load t p := by rfl) (hT : RowT P t k := by assumption) (hl : cs.length = k := by rfl) (hg : Region.wanted o (yielded ops a.tmps) = true := by first | exact wanted_none rfl | exact wanted_some rfl rfl) (hp : a.eval p = .pointer (some ⟨b, q, none⟩) := by rfl)
    (hn : a.put o.dst (.agg cs.toArray) = a2 := by (simp only [Act.put, List.setIfInBounds_toArray, List.set_cons_succ, List.set_cons_zero]; rfl)) : wpKeep P ops w R (o :: rest) a := by
  subst hn
  unfold wpKeep
  rw [if_pos hg]
  refine ⟨.agg cs.toArray, fun s => ?_, hK⟩
  obtain ⟨d, h1, h2⟩ := hT.u
  have hr2 : s.to.rangeAt b q cs := fun j v hv => (s.h.cell (p := ⟨b, q + j, none⟩) hb).trans (hr.out j v hv)
  have hrun := run_loadAt_mid s.to b q t cs d hr2 h1 h2 (by rw [hT.s, hl])
  unfold keepsAt execOp
  simp only [ho, hp, hrun, Sem.run_bind, Sem.run_pure, Result.andThen_ok]
  exact ⟨rfl, rfl⟩
end
theorem rangeAt_sub {w : World} {b q : Nat} {cs : List Value} (h : w.rangeAt b q cs) (i k : Nat) : w.rangeAt b (q + i) ((cs.drop i).take k) := fun j v hv => by
  rw [List.getElem?_take] at hv
  split at hv
  · rw [List.getElem?_drop] at hv
    rw [Nat.add_assoc]
    exact h (i + j) v hv
  · cases hv
/-- A goal. -/
structure Gl where
  k : Int
  a : Int
  b : Int
  n : Int
def Gl.cells (x : Gl) : List Value := [.int .i64 x.k, .int .i64 x.a, .int .i64 x.b, .int .i64 x.n]
theorem Gl.len (x : Gl) : x.cells.length = 4 := rfl
/-- Wider than the slot's tolerance. -/
def wideB (sl : List Slt) (wd : Option Rat) (i : Int) : Bool := match wd with
  | none => false
  | some q => match sl[i.toNat]? with
    | some s => decide (0 < cmpQ q (valO s.wd))
    | none => false
/-- types.Bind -/
def bindP (an pn : List ByteArray) (sl : List Slt) (k : Int) (a b : ByteArray) (wd : Option Rat) (n : Int) (nb : Nat) : Gl × Int :=
  if k < 1 ∨ 5 < k then (⟨0, 0, 0, 0⟩, 3) else if plainE k a b wd n nb ≠ 0 then (⟨0, 0, 0, 0⟩, 3)
  else if (indexP an pn (sl.map (·.nm)) (kindsP k).1 a).2 ≠ 0 then (⟨0, 0, 0, 0⟩, (indexP an pn (sl.map (·.nm)) (kindsP k).1 a).2)
  else if (indexP an pn (sl.map (·.nm)) (kindsP k).2 b).2 ≠ 0 then (⟨0, 0, 0, 0⟩, (indexP an pn (sl.map (·.nm)) (kindsP k).2 b).2)
  else if wideB sl wd (indexP an pn (sl.map (·.nm)) (kindsP k).2 b).1 = true then (⟨0, 0, 0, 0⟩, 18)
  else (⟨k, (indexP an pn (sl.map (·.nm)) (kindsP k).1 a).1, (indexP an pn (sl.map (·.nm)) (kindsP k).2 b).1, n⟩, 0)
def xN : ByteArray := ⟨#[120]⟩
theorem xN_ok : nameB xN = true := by decide +kernel
theorem check_one (d : Nat) (s : Stm) (h1 : 1 ≤ s.k) (h5 : s.k ≤ 5) : checkE (d + 1) xN [s] = plainE s.k s.a s.b s.wd s.n s.bl.length := by
  unfold checkE
  rw [if_pos xN_ok]
  have hw : wSt (d + 1) 1 s = (1, plainE s.k s.a s.b s.wd s.n s.bl.length) := by
    unfold wSt
    rw [if_neg (by omega), if_pos (by omega)]
  unfold wSts
  rw [if_neg (by decide)]
  unfold stmtsP
  rw [hw]
  simp only
  split
  · rfl
  · rename_i h
    rw [if_neg (by decide)]
    unfold stmtsP
    simp only [ne_eq, Decidable.not_not] at h
    rw [h]
/-- A statement with a tolerance that is in order puts a part into a slot. -/
theorem plain_put {k n : Int} {a b : ByteArray} {wd : Option Rat} {nb : Nat} (h : plainE k a b wd n nb = 0) (hw : wd.isSome = true) : k = 1 := by
  unfold plainE at h
  split at h
  · cases h
  · split at h
    · cases h
    · rename_i h2
      by_cases e : k = 1
      · exact e
      · exact absurd ⟨e, hw⟩ h2
/-- A slot's index. -/
theorem index_slot {an pn sn : List ByteArray} {s : ByteArray} (h : (indexP an pn sn 3 s).2 = 0) : ∃ j, (indexP an pn sn 3 s).1 = (j : Nat) ∧ j < sn.length := by
  unfold indexP at h ⊢
  rw [if_neg (by decide)] at h ⊢
  split at h
  · cases h
  · split at h
    · cases h
    · rename_i h2 h3
      rw [if_neg h2, if_neg h3]
      unfold findP at h3 ⊢
      cases h4 : idxB s an with
      | some i => simp only [h4] at h3; exact absurd (by decide) h3
      | none =>
        simp only [h4] at h3 ⊢
        cases h5 : idxB s pn with
        | some i => simp only [h5] at h3; exact absurd (by decide) h3
        | none =>
          simp only [h5] at h3 ⊢
          cases h6 : idxB s sn with
          | none => simp only [h6] at h3; exact absurd (by decide) h3
          | some i =>
            simp only
            refine ⟨i, rfl, ?_⟩
            unfold idxB at h6
            exact (List.findIdx?_eq_some_iff_getElem.1 h6).1
set_option maxHeartbeats 4000000 in
theorem Bind_any (d : Nat) (E : Ents) (an pn : List ByteArray) (sl : List Slt) (cs : List Value) (s : Stm) (v : Sv) (w : World) (W : Hid (WkV E an pn sl cs)) (R : Hid (RSt E (d + 1) s v)) (HE : Hid (Hld E w)) (hsl : ∀ x ∈ sl, SmO x.wd) (hT : Tb w) :
    Calls Tryd.prog 8 #[.agg cs.toArray, .agg v.cells.toArray] w fun e w' => e = .returned (.tuple #[.agg (bindP an pn sl s.k s.a s.b s.wd s.n s.bl.length).1.cells.toArray, .int .i64 (bindP an pn sl s.k s.a s.b s.wd s.n s.bl.length).2]) ∧ Below w.heap.size w w' := by
  have H := Lib.hid (Hp.start hT)
  have HSL := Lib.hid hsl
  obtain ⟨hok, e1, e2, e3, e4, e5, _⟩ := R.out
  obtain ⟨Bv, cv, hbv⟩ := R.out.shape
  obtain ⟨av, pv, sv, ew, RA, RP, RS⟩ := W.out
  obtain ⟨Ba, ca, rfl, _⟩ := RA.shape
  obtain ⟨Bp, cp, rfl, _⟩ := RP.shape
  obtain ⟨Bs, cc, rfl, _⟩ := RS.shape
  replace RS := Lib.hid RS
  subst ew
  obtain ⟨vk, va, vb, vw, vn, vbv⟩ := v
  simp only at e1 e2 e3 e4 e5 hbv
  subst hbv
  have OK7 : Hid (SmO vw) := Lib.hid hok.w
  have okb : vb.size ≤ maxLen := hok.b
  rw [← e1, ← e2, ← e3, ← e4, ← e5]
  have EK := Lib.hid e1
  have CK : Hid (1 ≤ vk → vk ≤ 5 → checkE (d + 1) xN [s] = plainE vk va vb vw vn s.bl.length) := Lib.hid fun h1 h5 => by rw [e1] at h1 h5; rw [check_one d s h1 h5, e1, e2, e3, e4, e5]
  obtain ⟨nb, hnb⟩ : ∃ nb, s.bl.length = nb := ⟨_, rfl⟩
  rw [hnb] at CK ⊢
  obtain ⟨gl, er, hr⟩ : ∃ gl er, bindP an pn sl vk va vb vw vn nb = (gl, er) := ⟨_, _, rfl⟩
  rw [hr]
  have h0 := hr
  unfold bindP at h0
  have RV := R
  rw [hnb] at RV
  have RR : Hid (RSt E (d + 1) s ⟨vk, va, vb, vw, vn, .slice Bv nb cv⟩) := RV
  clear e1 e2 e3 e4 e5 hr hT RA RP hok RV hnb
  clear R hsl
  unfold Sv.cells
  by_cases h1 : vk < 1
  · rw [if_pos (.inl h1)] at h0
    obtain ⟨rfl, rfl⟩ : (⟨0, 0, 0, 0⟩ : Gl) = gl ∧ (3 : Int) = er := by cases h0; exact ⟨rfl, rfl⟩
    clear h0
    have k1p : vk < 1 := by omega
    have k1d : decide (vk < 1) = true := decide_eq_true k1p
    go_enter Tryd.func8, Tryd.ntmps8
    go_wp2_with (first
        | go_skip
        | ((with_reducible refine isLoad ?_); refine ldA H ?_ (hT := by first | exact rRat | exact rStm8 | exact rJob | exact rWks | exact rGoa))
        | ((with_reducible refine isLoad ?_); refine ld1A H ?_ (hT := by first | exact kInt | exact kStr | exact kBll | exact kBool | exact kStl))
        | ((with_reducible refine isStore ?_); refine stA H ?_ (hT := by first | exact rRat | exact rGoa); clear H; intro _ H)
        | ((with_reducible refine isBox ?_); refine bxA H ?_; clear H; intro _ _ H)
        | ((with_reducible refine isAlloc ?_); refine alA H ?_ (hz := by first | exact zRat | exact zGoa); clear H; intro _ _ H))
    exact bodyPost_ret (results_Hv H Tryd.results8 rGoa rfl (by (repeat (first | exact List.Mem.head _ | refine List.Mem.tail _ ?_ | assumption))) rfl (by rfl)) rfl ⟨rfl, H.out.bel⟩
  by_cases h2 : 5 < vk
  · rw [if_pos (.inr h2)] at h0
    obtain ⟨rfl, rfl⟩ : (⟨0, 0, 0, 0⟩ : Gl) = gl ∧ (3 : Int) = er := by cases h0; exact ⟨rfl, rfl⟩
    clear h0
    have k1p : ¬ (vk < 1) := by omega
    have k1d : decide (vk < 1) = false := decide_eq_false k1p
    have k5p : 5 < vk := by omega
    have k5d : decide (5 < vk) = true := decide_eq_true k5p
    go_enter Tryd.func8, Tryd.ntmps8
    go_wp2_with (first
        | go_skip
        | ((with_reducible refine isLoad ?_); refine ldA H ?_ (hT := by first | exact rRat | exact rStm8 | exact rJob | exact rWks | exact rGoa))
        | ((with_reducible refine isLoad ?_); refine ld1A H ?_ (hT := by first | exact kInt | exact kStr | exact kBll | exact kBool | exact kStl))
        | ((with_reducible refine isStore ?_); refine stA H ?_ (hT := by first | exact rRat | exact rGoa); clear H; intro _ H)
        | ((with_reducible refine isBox ?_); refine bxA H ?_; clear H; intro _ _ H)
        | ((with_reducible refine isAlloc ?_); refine alA H ?_ (hz := by first | exact zRat | exact zGoa); clear H; intro _ _ H))
    exact bodyPost_ret (results_Hv H Tryd.results8 rGoa rfl (by (repeat (first | exact List.Mem.head _ | refine List.Mem.tail _ ?_ | assumption))) rfl (by rfl)) rfl ⟨rfl, H.out.bel⟩
  rw [if_neg (by omega)] at h0
  have k1p : ¬ (vk < 1) := by omega
  have k1d : decide (vk < 1) = false := decide_eq_false k1p
  have k5p : ¬ (5 < vk) := by omega
  have k5d : decide (5 < vk) = false := decide_eq_false k5p
  obtain ⟨pe, hpe⟩ : ∃ pe, plainE vk va vb vw vn nb = pe := ⟨_, rfl⟩
  rw [hpe] at h0
  have hck := CK.out (by omega) (by omega)
  rw [hpe] at hck
  have HPE := Lib.hid hpe
  replace CK := Lib.hid hck
  clear hpe hck
  by_cases h3 : pe = 0
  · subst h3
    rw [if_neg (by simp)] at h0
    obtain ⟨ka, kb, hkk⟩ : ∃ ka kb, kindsP vk = (ka, kb) := ⟨_, _, rfl⟩
    obtain ⟨ia, ea, hia⟩ : ∃ ia ea, indexP an pn (sl.map (·.nm)) ka va = (ia, ea) := ⟨_, _, rfl⟩
    obtain ⟨ib, eb, hib⟩ : ∃ ib eb, indexP an pn (sl.map (·.nm)) kb vb = (ib, eb) := ⟨_, _, rfl⟩
    simp only [hkk, hia, hib] at h0
    have H0 := Lib.hid h0
    have HKK := Lib.hid hkk
    have HIA := Lib.hid hia
    have HIB := Lib.hid hib
    clear hkk hia hib h0
    go_enter Tryd.func8, Tryd.ntmps8
    go_wp2_with (first
        | go_skip
        | ((with_reducible refine isLoad ?_); refine ldA H ?_ (hT := by first | exact rRat | exact rStm8 | exact rJob | exact rWks | exact rGoa))
        | ((with_reducible refine isLoad ?_); refine ld1A H ?_ (hT := by first | exact kInt | exact kStr | exact kBll | exact kBool | exact kStl))
        | ((with_reducible refine isStore ?_); refine stA H ?_ (hT := by first | exact rRat | exact rGoa); clear H; intro _ H)
        | ((with_reducible refine isBox ?_); refine bxA H ?_; clear H; intro _ _ H)
        | ((with_reducible refine isAlloc ?_); refine alA H ?_ (hz := by first | exact zRat | exact zGoa); clear H; intro _ _ H)
        | ((with_reducible refine isSlc ?_); refine bsA 53 [.int .i64 vk, .string va, .string vb, .bool (sgO vw), .string (nuO vw), .string (deO vw), .int .i64 vn, .slice Bv nb cv] 1 H ?_; clear H; intro g _ H)
        | (go_at_call 20; refine Calls.mono (Check_any (d + 1) ((g, 53, [.int .i64 vk, .string va, .string vb, .bool (sgO vw), .string (nuO vw), .string (deO vw), .int .i64 vn, .slice Bv nb cv]) :: E) xN [s] _ _ (by decide) (Lib.hid ⟨[⟨vk, va, vb, vw, vn, .slice Bv nb cv⟩], (RowIn.lit (size := 8) (n := 1) (g := g) (e := 53) (xs := flat Sv.cells [⟨vk, va, vb, vw, vn, .slice Bv nb cv⟩]) rfl (by decide)).mono (by intro x hx; obtain rfl := List.mem_singleton.1 hx; exact .head _), ⟨rfl, fun j a b h1 h2 => by
        cases j with
        | zero => simp at h1 h2; subst h1; subst h2; exact RR.out.mono fun x hx => .tail _ hx
        | succ j => simp at h1⟩⟩) (Lib.hid fun x hx => by
        rcases List.mem_cons.1 hx with rfl | hx
        · exact (H.out.blk _ (.head _)).2
        · exact (HE.out.below H.out.bel) x hx) H.out.tb) ?_; rintro _ _ ⟨rfl, hb⟩; replace H := Lib.hid (H.out.go hb); clear hb; rw [CK.out]))
    go_at_call 21; refine (kinds_any vk _).mono ?_; rintro _ _ ⟨rfl, rfl⟩; rw [HKK.out]; simp only
    go_wp2_with (first
        | go_skip
        | ((with_reducible refine isLoad ?_); refine ldA H ?_ (hT := by first | exact rRat | exact rStm8 | exact rJob | exact rWks | exact rGoa))
        | ((with_reducible refine isLoad ?_); refine ld1A H ?_ (hT := by first | exact kInt | exact kStr | exact kBll | exact kBool | exact kStl))
        | ((with_reducible refine isStore ?_); refine stA H ?_ (hT := by first | exact rRat | exact rGoa); clear H; intro _ H)
        | ((with_reducible refine isBox ?_); refine bxA H ?_; clear H; intro _ _ H)
        | ((with_reducible refine isAlloc ?_); refine alA H ?_ (hz := by first | exact zRat | exact zGoa); clear H; intro _ _ H)
        | ((with_reducible refine isSlc ?_); refine bsA 53 [.int .i64 vk, .string va, .string vb, .bool (sgO vw), .string (nuO vw), .string (deO vw), .int .i64 vn, .slice Bv nb cv] 1 H ?_; clear H; intro g _ H)
        | (go_at_call 20; refine Calls.mono (Check_any (d + 1) ((g, 53, [.int .i64 vk, .string va, .string vb, .bool (sgO vw), .string (nuO vw), .string (deO vw), .int .i64 vn, .slice Bv nb cv]) :: E) xN [s] _ _ (by decide) (Lib.hid ⟨[⟨vk, va, vb, vw, vn, .slice Bv nb cv⟩], (RowIn.lit (size := 8) (n := 1) (g := g) (e := 53) (xs := flat Sv.cells [⟨vk, va, vb, vw, vn, .slice Bv nb cv⟩]) rfl (by decide)).mono (by intro x hx; obtain rfl := List.mem_singleton.1 hx; exact .head _), ⟨rfl, fun j a b h1 h2 => by
        cases j with
        | zero => simp at h1 h2; subst h1; subst h2; exact RR.out.mono fun x hx => .tail _ hx
        | succ j => simp at h1⟩⟩) (Lib.hid fun x hx => by
        rcases List.mem_cons.1 hx with rfl | hx
        · exact (H.out.blk _ (.head _)).2
        · exact (HE.out.below H.out.bel) x hx) H.out.tb) ?_; rintro _ _ ⟨rfl, hb⟩; replace H := Lib.hid (H.out.go hb); clear hb; rw [CK.out]))
    go_at_call 22; refine Calls.mono (index_any E an pn sl _ ka va _ W (Lib.hid (HE.out.below H.out.bel)) H.out.tb) ?_; rintro _ _ ⟨rfl, hb⟩; replace H := Lib.hid (H.out.go hb); clear hb; rw [HIA.out]; simp only
    by_cases ha0 : ea = 0
    · subst ha0
      have h0 := H0.out
      rw [if_neg (by simp)] at h0
      replace H0 := Lib.hid h0
      clear h0
      go_wp2_with (first
          | go_skip
          | ((with_reducible refine isLoad ?_); refine ldA H ?_ (hT := by first | exact rRat | exact rStm8 | exact rJob | exact rWks | exact rGoa))
          | ((with_reducible refine isLoad ?_); refine ld1A H ?_ (hT := by first | exact kInt | exact kStr | exact kBll | exact kBool | exact kStl))
          | ((with_reducible refine isStore ?_); refine stA H ?_ (hT := by first | exact rRat | exact rGoa); clear H; intro _ H)
          | ((with_reducible refine isBox ?_); refine bxA H ?_; clear H; intro _ _ H)
          | ((with_reducible refine isAlloc ?_); refine alA H ?_ (hz := by first | exact zRat | exact zGoa); clear H; intro _ _ H))
      go_at_call 22; refine Calls.mono (index_any E an pn sl _ kb vb _ W (Lib.hid (HE.out.below H.out.bel)) H.out.tb) ?_; rintro _ _ ⟨rfl, hb⟩; replace H := Lib.hid (H.out.go hb); clear hb; rw [HIB.out]; simp only
      by_cases hb0 : eb = 0
      · subst hb0
        have h0 := H0.out
        rw [if_neg (by simp)] at h0
        clear H0
        cases vw with
        | none =>
          rw [if_neg (by simp [wideB])] at h0
          obtain ⟨rfl, rfl⟩ : (⟨vk, ia, ib, vn⟩ : Gl) = gl ∧ (0 : Int) = er := by cases h0; exact ⟨rfl, rfl⟩
          clear h0
          simp only [sgO, nuO, deO] at H ⊢
          go_wp2_with (first
              | go_skip
              | ((with_reducible refine isLoad ?_); refine ldA H ?_ (hT := by first | exact rRat | exact rStm8 | exact rJob | exact rWks | exact rGoa))
              | ((with_reducible refine isLoad ?_); refine ld1A H ?_ (hT := by first | exact kInt | exact kStr | exact kBll | exact kBool | exact kStl))
              | ((with_reducible refine isStore ?_); refine stA H ?_ (hT := by first | exact rRat | exact rGoa); clear H; intro _ H)
              | ((with_reducible refine isBox ?_); refine bxA H ?_; clear H; intro _ _ H)
              | ((with_reducible refine isAlloc ?_); refine alA H ?_ (hz := by first | exact zRat | exact zGoa); clear H; intro _ _ H))
          refine wp_region_E H (by kernel_rfl) (by kernel_rfl) ?_
          refine wpKeep_cut 5 ?_
          simp only [List.take_succ_cons, List.take_zero, List.drop_succ_cons, List.drop_zero]
          repeat (first
              | ((with_reducible refine kLoad ?_); refine kld1A H ?_ (hT := by first | exact kSll | exact kInt))
              | ((with_reducible refine kBui ?_); refine wpK_step (fun K hK => ?_); go_simp; refine hK _ ?_; clear hK K)
              | (refine kskA ?_)
              | ((with_reducible refine kLoad ?_); refine kldA H ?_)
              | ((with_reducible refine kLoad ?_); refine kld1A H ?_)
              | ((fail_if_success (with_reducible refine kCall ?_)); (with_reducible refine kCons ?_); refine wpK_step (fun K hK => ?_); go_simp; refine hK _ ?_; clear hK K))
          refine wpKeep_nil ?_
          refine boxd_skips 10 4 true (t := 61) rfl rfl rfl ?_
          simp only [List.take_succ_cons, List.take_zero, List.drop_succ_cons, List.drop_zero, putAll, Act.put, List.setIfInBounds_toArray, List.set_cons_succ, List.set_cons_zero]
          repeat (first
              | ((with_reducible refine kLoad ?_); refine kld1A H ?_ (hT := by first | exact kSll | exact kInt))
              | ((with_reducible refine kBui ?_); refine wpK_step (fun K hK => ?_); go_simp; refine hK _ ?_; clear hK K)
              | (refine kskA ?_)
              | ((with_reducible refine kLoad ?_); refine kldA H ?_)
              | ((with_reducible refine kLoad ?_); refine kld1A H ?_)
              | ((fail_if_success (with_reducible refine kCall ?_)); (with_reducible refine kCons ?_); refine wpK_step (fun K hK => ?_); go_simp; refine hK _ ?_; clear hK K))
          refine wpKeep_nil ?_
          clear H
          intro _ H
          go_wp2_with (first
              | go_skip
              | ((with_reducible refine isLoad ?_); refine ldA H ?_ (hT := by first | exact rRat | exact rStm8 | exact rJob | exact rWks | exact rGoa))
              | ((with_reducible refine isLoad ?_); refine ld1A H ?_ (hT := by first | exact kInt | exact kStr | exact kBll | exact kBool | exact kStl))
              | ((with_reducible refine isStore ?_); refine stA H ?_ (hT := by first | exact rRat | exact rGoa); clear H; intro _ H)
              | ((with_reducible refine isBox ?_); refine bxA H ?_; clear H; intro _ _ H)
              | ((with_reducible refine isAlloc ?_); refine alA H ?_ (hz := by first | exact zRat | exact zGoa); clear H; intro _ _ H))
          exact bodyPost_ret (results_Hv H Tryd.results8 rGoa rfl (by (repeat (first | exact List.Mem.head _ | refine List.Mem.tail _ ?_ | assumption))) rfl (by rfl)) rfl ⟨rfl, H.out.bel⟩
        | some q =>
          obtain rfl : vk = 1 := plain_put HPE.out rfl
          obtain ⟨rfl, rfl⟩ : 2 = ka ∧ 3 = kb := by have := HKK.out; cases this; exact ⟨rfl, rfl⟩
          obtain ⟨j, hj1, hj2⟩ := index_slot (by rw [HIB.out])
          rw [HIB.out] at hj1
          simp only at hj1
          subst hj1
          obtain ⟨z, hz⟩ : ∃ z, sl[j]? = some z := ⟨_, List.getElem?_eq_getElem (by simpa using hj2)⟩
          obtain ⟨gs, cs', eg, hr⟩ := RS.out.at_ Slt.len hz (by decide)
          injection eg with eg _ eg3
          subst eg
          have hls : sl.length ≤ 9223372036854775807 := RS.out.le
          have hj3 : j < sl.length := by simpa using hj2
          obtain ⟨cq, hcq⟩ : ∃ c, cmpQ (valO (some q)) (valO z.wd) = c := ⟨_, rfl⟩
          have HCQ := Lib.hid hcq
          have hwd : wideB sl (some q) (j : Int) = decide (0 < cq) := by
            unfold wideB
            simp only [Int.toNat_natCast, hz]
            rw [← hcq]
            rfl
          rw [hwd] at h0
          have H0 := Lib.hid h0
          have SZ := Lib.hid (HSL.out z (List.mem_of_getElem? hz))
          obtain ⟨zn, zw⟩ := z
          have HRR := Lib.hid hr
          obtain ⟨N, hN⟩ : ∃ N, nuO (some q) = N := ⟨_, rfl⟩
          obtain ⟨D, hD⟩ : ∃ D, deO (some q) = D := ⟨_, rfl⟩
          have HN := Lib.hid hN
          have HD := Lib.hid hD
          obtain ⟨f1, f2, _⟩ := (show SFull D by rw [← hD]; exact sFull q.den_pos)
          simp only [hN, hD] at H ⊢
          clear hN hD hr hwd hcq hz eg3 hj2 h0
          go_wp2_with (first
              | go_skip
              | ((with_reducible refine isLoad ?_); refine ldA H ?_ (hT := by first | exact rRat | exact rStm8 | exact rJob | exact rWks | exact rGoa))
              | ((with_reducible refine isLoad ?_); refine ld1A H ?_ (hT := by first | exact kInt | exact kStr | exact kBll | exact kBool | exact kStl))
              | ((with_reducible refine isStore ?_); refine stA H ?_ (hT := by first | exact rRat | exact rGoa); clear H; intro _ H)
              | ((with_reducible refine isBox ?_); refine bxA H ?_; clear H; intro _ _ H)
              | ((with_reducible refine isAlloc ?_); refine alA H ?_ (hz := by first | exact zRat | exact zGoa); clear H; intro _ _ H))
          have XS := Lib.hid (rangeAt_sub (HRR.out _ (HE.out.below H.out.bel)) 11 3)
          have hgs := World.block_lt_of_cell? _ _ (XS.out 0 _ rfl)
          by_cases hcq0 : 0 < cq
          · have h0 := H0.out
            rw [if_pos (decide_eq_true hcq0)] at h0
            obtain ⟨rfl, rfl⟩ : (⟨0, 0, 0, 0⟩ : Gl) = gl ∧ (18 : Int) = er := by cases h0; exact ⟨rfl, rfl⟩
            clear h0
            have cqp : 0 < cq := hcq0
            have cqd : decide (0 < cq) = true := decide_eq_true cqp
            clear H0
            refine wp_region_E H (by kernel_rfl) (by kernel_rfl) ?_
            repeat (first
                | ((with_reducible refine kLoad ?_); refine kldX (cs := [.bool (sgO zw), .string (nuO zw), .string (deO zw)]) XS hgs ?_ (hT := rRat))
                | ((with_reducible refine kLoad ?_); refine kld1A H ?_ (hT := by first | exact kSll | exact kInt))
                | ((with_reducible refine kBui ?_); refine wpK_step (fun K hK => ?_); go_simp; refine hK _ ?_; clear hK K)
                | (refine kskA ?_)
                | ((with_reducible refine kLoad ?_); refine kldA H ?_)
                | ((with_reducible refine kLoad ?_); refine kld1A H ?_)
                | ((fail_if_success (with_reducible refine kCall ?_)); (with_reducible refine kCons ?_); refine wpK_step (fun K hK => ?_); go_simp; refine hK _ ?_; clear hK K))
            refine wpK_step (fun K hK => ?_)
            go_simp
            apply Exists.intro
            refine ⟨fun sx => ?_, hK _ ?_⟩
            · go_at_call 23
              exact by rw [← HN.out, ← HD.out]; exact RCmp_any (some q) zw cq _ OK7.out SZ.out HCQ (H.out.tbx sx)
            clear hK K
            repeat (first
                | ((with_reducible refine kLoad ?_); refine kldX (cs := [.bool (sgO zw), .string (nuO zw), .string (deO zw)]) XS hgs ?_ (hT := rRat))
                | ((with_reducible refine kLoad ?_); refine kld1A H ?_ (hT := by first | exact kSll | exact kInt))
                | ((with_reducible refine kBui ?_); refine wpK_step (fun K hK => ?_); go_simp; refine hK _ ?_; clear hK K)
                | (refine kskA ?_)
                | ((with_reducible refine kLoad ?_); refine kldA H ?_)
                | ((with_reducible refine kLoad ?_); refine kld1A H ?_)
                | ((fail_if_success (with_reducible refine kCall ?_)); (with_reducible refine kCons ?_); refine wpK_step (fun K hK => ?_); go_simp; refine hK _ ?_; clear hK K))
            refine wpKeep_nil ?_
            clear H
            intro _ H
            go_wp2_with (first
                | go_skip
                | ((with_reducible refine isLoad ?_); refine ldA H ?_ (hT := by first | exact rRat | exact rStm8 | exact rJob | exact rWks | exact rGoa))
                | ((with_reducible refine isLoad ?_); refine ld1A H ?_ (hT := by first | exact kInt | exact kStr | exact kBll | exact kBool | exact kStl))
                | ((with_reducible refine isStore ?_); refine stA H ?_ (hT := by first | exact rRat | exact rGoa); clear H; intro _ H)
                | ((with_reducible refine isBox ?_); refine bxA H ?_; clear H; intro _ _ H)
                | ((with_reducible refine isAlloc ?_); refine alA H ?_ (hz := by first | exact zRat | exact zGoa); clear H; intro _ _ H))
            exact bodyPost_ret (results_Hv H Tryd.results8 rGoa rfl (by (repeat (first | exact List.Mem.head _ | refine List.Mem.tail _ ?_ | assumption))) rfl (by rfl)) rfl ⟨rfl, H.out.bel⟩
          · have h0 := H0.out
            rw [if_neg (by simpa using hcq0)] at h0
            obtain ⟨rfl, rfl⟩ : (⟨1, ia, (j : Int), vn⟩ : Gl) = gl ∧ (0 : Int) = er := by cases h0; exact ⟨rfl, rfl⟩
            clear h0
            have cqp : ¬ (0 < cq) := hcq0
            have cqd : decide (0 < cq) = false := decide_eq_false cqp
            clear H0
            refine wp_region_E H (by kernel_rfl) (by kernel_rfl) ?_
            repeat (first
                | ((with_reducible refine kLoad ?_); refine kldX (cs := [.bool (sgO zw), .string (nuO zw), .string (deO zw)]) XS hgs ?_ (hT := rRat))
                | ((with_reducible refine kLoad ?_); refine kld1A H ?_ (hT := by first | exact kSll | exact kInt))
                | ((with_reducible refine kBui ?_); refine wpK_step (fun K hK => ?_); go_simp; refine hK _ ?_; clear hK K)
                | (refine kskA ?_)
                | ((with_reducible refine kLoad ?_); refine kldA H ?_)
                | ((with_reducible refine kLoad ?_); refine kld1A H ?_)
                | ((fail_if_success (with_reducible refine kCall ?_)); (with_reducible refine kCons ?_); refine wpK_step (fun K hK => ?_); go_simp; refine hK _ ?_; clear hK K))
            refine wpK_step (fun K hK => ?_)
            go_simp
            apply Exists.intro
            refine ⟨fun sx => ?_, hK _ ?_⟩
            · go_at_call 23
              exact by rw [← HN.out, ← HD.out]; exact RCmp_any (some q) zw cq _ OK7.out SZ.out HCQ (H.out.tbx sx)
            clear hK K
            repeat (first
                | ((with_reducible refine kLoad ?_); refine kldX (cs := [.bool (sgO zw), .string (nuO zw), .string (deO zw)]) XS hgs ?_ (hT := rRat))
                | ((with_reducible refine kLoad ?_); refine kld1A H ?_ (hT := by first | exact kSll | exact kInt))
                | ((with_reducible refine kBui ?_); refine wpK_step (fun K hK => ?_); go_simp; refine hK _ ?_; clear hK K)
                | (refine kskA ?_)
                | ((with_reducible refine kLoad ?_); refine kldA H ?_)
                | ((with_reducible refine kLoad ?_); refine kld1A H ?_)
                | ((fail_if_success (with_reducible refine kCall ?_)); (with_reducible refine kCons ?_); refine wpK_step (fun K hK => ?_); go_simp; refine hK _ ?_; clear hK K))
            refine wpKeep_nil ?_
            clear H
            intro _ H
            go_wp2_with (first
                | go_skip
                | ((with_reducible refine isLoad ?_); refine ldA H ?_ (hT := by first | exact rRat | exact rStm8 | exact rJob | exact rWks | exact rGoa))
                | ((with_reducible refine isLoad ?_); refine ld1A H ?_ (hT := by first | exact kInt | exact kStr | exact kBll | exact kBool | exact kStl))
                | ((with_reducible refine isStore ?_); refine stA H ?_ (hT := by first | exact rRat | exact rGoa); clear H; intro _ H)
                | ((with_reducible refine isBox ?_); refine bxA H ?_; clear H; intro _ _ H)
                | ((with_reducible refine isAlloc ?_); refine alA H ?_ (hz := by first | exact zRat | exact zGoa); clear H; intro _ _ H))
            exact bodyPost_ret (results_Hv H Tryd.results8 rGoa rfl (by (repeat (first | exact List.Mem.head _ | refine List.Mem.tail _ ?_ | assumption))) rfl (by rfl)) rfl ⟨rfl, H.out.bel⟩
      · have h0 := H0.out
        rw [if_pos hb0] at h0
        obtain ⟨rfl, rfl⟩ : (⟨0, 0, 0, 0⟩ : Gl) = gl ∧ eb = er := by cases h0; exact ⟨rfl, rfl⟩
        clear h0
        have b0p : ¬ (eb = 0) := hb0
        have b0d : decide (eb = 0) = false := decide_eq_false b0p
        go_wp2_with (first
            | go_skip
            | ((with_reducible refine isLoad ?_); refine ldA H ?_ (hT := by first | exact rRat | exact rStm8 | exact rJob | exact rWks | exact rGoa))
            | ((with_reducible refine isLoad ?_); refine ld1A H ?_ (hT := by first | exact kInt | exact kStr | exact kBll | exact kBool | exact kStl))
            | ((with_reducible refine isStore ?_); refine stA H ?_ (hT := by first | exact rRat | exact rGoa); clear H; intro _ H)
            | ((with_reducible refine isBox ?_); refine bxA H ?_; clear H; intro _ _ H)
            | ((with_reducible refine isAlloc ?_); refine alA H ?_ (hz := by first | exact zRat | exact zGoa); clear H; intro _ _ H))
        exact bodyPost_ret (results_Hv H Tryd.results8 rGoa rfl (by (repeat (first | exact List.Mem.head _ | refine List.Mem.tail _ ?_ | assumption))) rfl (by rfl)) rfl ⟨rfl, H.out.bel⟩
    · have h0 := H0.out
      rw [if_pos ha0] at h0
      obtain ⟨rfl, rfl⟩ : (⟨0, 0, 0, 0⟩ : Gl) = gl ∧ ea = er := by cases h0; exact ⟨rfl, rfl⟩
      clear h0
      have a0p : ¬ (ea = 0) := ha0
      have a0d : decide (ea = 0) = false := decide_eq_false a0p
      go_wp2_with (first
          | go_skip
          | ((with_reducible refine isLoad ?_); refine ldA H ?_ (hT := by first | exact rRat | exact rStm8 | exact rJob | exact rWks | exact rGoa))
          | ((with_reducible refine isLoad ?_); refine ld1A H ?_ (hT := by first | exact kInt | exact kStr | exact kBll | exact kBool | exact kStl))
          | ((with_reducible refine isStore ?_); refine stA H ?_ (hT := by first | exact rRat | exact rGoa); clear H; intro _ H)
          | ((with_reducible refine isBox ?_); refine bxA H ?_; clear H; intro _ _ H)
          | ((with_reducible refine isAlloc ?_); refine alA H ?_ (hz := by first | exact zRat | exact zGoa); clear H; intro _ _ H))
      exact bodyPost_ret (results_Hv H Tryd.results8 rGoa rfl (by (repeat (first | exact List.Mem.head _ | refine List.Mem.tail _ ?_ | assumption))) rfl (by rfl)) rfl ⟨rfl, H.out.bel⟩
  · rw [if_pos h3] at h0
    obtain ⟨rfl, rfl⟩ : (⟨0, 0, 0, 0⟩ : Gl) = gl ∧ (3 : Int) = er := by cases h0; exact ⟨rfl, rfl⟩
    clear h0
    have p0p : ¬ (pe = 0) := by omega
    have p0d : decide (pe = 0) = false := decide_eq_false p0p
    go_enter Tryd.func8, Tryd.ntmps8
    go_wp2_with (first
        | go_skip
        | ((with_reducible refine isLoad ?_); refine ldA H ?_ (hT := by first | exact rRat | exact rStm8 | exact rJob | exact rWks | exact rGoa))
        | ((with_reducible refine isLoad ?_); refine ld1A H ?_ (hT := by first | exact kInt | exact kStr | exact kBll | exact kBool | exact kStl))
        | ((with_reducible refine isStore ?_); refine stA H ?_ (hT := by first | exact rRat | exact rGoa); clear H; intro _ H)
        | ((with_reducible refine isBox ?_); refine bxA H ?_; clear H; intro _ _ H)
        | ((with_reducible refine isAlloc ?_); refine alA H ?_ (hz := by first | exact zRat | exact zGoa); clear H; intro _ _ H)
        | ((with_reducible refine isSlc ?_); refine bsA 53 [.int .i64 vk, .string va, .string vb, .bool (sgO vw), .string (nuO vw), .string (deO vw), .int .i64 vn, .slice Bv nb cv] 1 H ?_; clear H; intro g _ H)
        | (go_at_call 20; refine Calls.mono (Check_any (d + 1) ((g, 53, [.int .i64 vk, .string va, .string vb, .bool (sgO vw), .string (nuO vw), .string (deO vw), .int .i64 vn, .slice Bv nb cv]) :: E) xN [s] _ _ (by decide) (Lib.hid ⟨[⟨vk, va, vb, vw, vn, .slice Bv nb cv⟩], (RowIn.lit (size := 8) (n := 1) (g := g) (e := 53) (xs := flat Sv.cells [⟨vk, va, vb, vw, vn, .slice Bv nb cv⟩]) rfl (by decide)).mono (by intro x hx; obtain rfl := List.mem_singleton.1 hx; exact .head _), ⟨rfl, fun j a b h1 h2 => by
        cases j with
        | zero => simp at h1 h2; subst h1; subst h2; exact RR.out.mono fun x hx => .tail _ hx
        | succ j => simp at h1⟩⟩) (Lib.hid fun x hx => by
        rcases List.mem_cons.1 hx with rfl | hx
        · exact (H.out.blk _ (.head _)).2
        · exact (HE.out.below H.out.bel) x hx) H.out.tb) ?_; rintro _ _ ⟨rfl, hb⟩; replace H := Lib.hid (H.out.go hb); clear hb; rw [CK.out]))
    exact bodyPost_ret (results_Hv H Tryd.results8 rGoa rfl (by (repeat (first | exact List.Mem.head _ | refine List.Mem.tail _ ?_ | assumption))) rfl (by rfl)) rfl ⟨rfl, H.out.bel⟩
end Go.Proofs.YtbphdmnomakeoaaDoor

namespace Go.Proofs.YtbphdmnomakeoaaDoor
open Go.RowKit
set_option linter.unusedVariables false
set_option maxRecDepth 100000

theorem row_in {w : World} {h : Nat} {e : TypeId} {size n : Nat} {v : Value} {xs : List Value} (hr : w.ownsRow h e size v n xs) : ∃ E : Ents, RowIn E e size v n xs ∧ (∀ x ∈ E, h ≤ x.1 ∧ Blk w x.1 x.2.1 x.2.2.toArray ∧ x.2.1 = e) ∧ (E.map (·.1)).Nodup := by
  obtain ⟨hl, hv⟩ := hr
  rcases hv with ⟨rfl, rfl⟩ | ⟨g, cap, cur, rfl, hb, hg, h1, h2, h3, h4⟩
  · exact ⟨[], ⟨[], ⟨hl, .inl ⟨rfl, rfl⟩⟩, by simp [rowE]⟩, by simp, List.Pairwise.nil⟩
  · exact ⟨[(g, e, cur.toList)], ⟨cur.toList, ⟨hl, .inr ⟨g, cap, rfl, h1, h2, by simpa using h3, h4⟩⟩, by simp [rowE]⟩, by
      intro x hx
      obtain rfl := List.mem_singleton.1 hx
      exact ⟨hb, by simpa [Blk] using hg, rfl⟩, by simp⟩
theorem flat_map {α β : Type} {enc : β → List Value} {enc' : α → List Value} {f : α → β} (h : ∀ x, enc (f x) = enc' x) (l : List α) : flat enc (l.map f) = flat enc' l := by
  induction l with
  | nil => rfl
  | cons x l ih => simp only [flat, List.map_cons, List.flatMap_cons, h] at ih ⊢; rw [ih]
/-- The tolerance of the slots of Small. -/
def quart : Rat := ofQ 1 4
def sltOf (x : ByteArray) : Slt := ⟨x, some quart⟩
theorem sltOf_cells (x : ByteArray) : (sltOf x).cells = slotC x := by
  unfold sltOf Slt.cells slotC quart
  rw [ratOf_q 1 4 (by decide)]
  rfl
theorem quart_sm : SmO (some quart) := (ofQ_sz 1 4 1 (by decide) (by decide) (by decide)).sm (by decide)
theorem Small_E (A : Option Addr) (n c : Nat) (xs : List Int) (w : World) (hi : IntArg w A n c xs) (hT : Tb w) :
    Calls Tryd.prog 6 #[.slice A n c] w fun e w' => ∃ (na np ns : Nat) (cs : List Value) (E : Ents), e = .returned (.agg cs.toArray) ∧ (1 ≤ na ∧ na ≤ 2) ∧ (1 ≤ np ∧ np ≤ 2) ∧ (1 ≤ ns ∧ ns ≤ 2) ∧ Hp w w' E ∧ WkV E (armN.take na) (partN.take np) ((slotN.take ns).map sltOf) cs := by
  refine (Small_any A n c xs w hi).mono ?_
  rintro e w' ⟨na, np, ns, B1, B2, B3, c1, c2, c3, rfl, h1, h2, h3, hO, hb⟩
  obtain ⟨E1, r1, b1, n1⟩ := row_in hO.oa
  obtain ⟨E2, r2, b2, n2⟩ := row_in hO.op
  obtain ⟨E3, r3, b3, n3⟩ := row_in hO.os
  have la : (armN.take na).length = na := by simp [armN]; omega
  have lp : (partN.take np).length = np := by simp [partN]; omega
  have ls : ((slotN.take ns).map sltOf).length = ns := by simp [slotN]; omega
  have dj : ∀ {F G : Ents} {e f : TypeId}, (∀ x ∈ F, w.heap.size ≤ x.1 ∧ Blk w' x.1 x.2.1 x.2.2.toArray ∧ x.2.1 = e) → (∀ x ∈ G, w.heap.size ≤ x.1 ∧ Blk w' x.1 x.2.1 x.2.2.toArray ∧ x.2.1 = f) → e ≠ f → ∀ a ∈ F.map (·.1), ∀ b ∈ G.map (·.1), a ≠ b := by
    intro F G e f hF hG hne a ha b hb' hab
    obtain ⟨x, hx, rfl⟩ := List.mem_map.1 ha
    obtain ⟨y, hy, rfl⟩ := List.mem_map.1 hb'
    obtain ⟨_, k1, rfl⟩ := hF x hx
    obtain ⟨_, k2, rfl⟩ := hG y hy
    unfold Blk at k1 k2
    rw [hab, k2] at k1
    injection k1 with k1
    injection k1 with _ k1
    exact hne k1.symm
  refine ⟨na, np, ns, [.slice B1 na c1, .slice none 0 0, .slice B2 np c2, .slice B3 ns c3, .slice none 0 0, .bool false, .string ⟨#[]⟩, .string ⟨#[]⟩], E1 ++ (E2 ++ E3), rfl, h1, h2, h3, ⟨fun x hx => ?_, ?_, hb, hT⟩, _, _, _, rfl, ?_, ?_, ?_⟩
  · rcases List.mem_append.1 hx with hx | hx
    · exact ⟨(b1 x hx).1, (b1 x hx).2.1⟩
    · rcases List.mem_append.1 hx with hx | hx
      · exact ⟨(b2 x hx).1, (b2 x hx).2.1⟩
      · exact ⟨(b3 x hx).1, (b3 x hx).2.1⟩
  · rw [List.map_append, List.map_append, List.nodup_append]
    refine ⟨n1, List.nodup_append.2 ⟨n2, n3, dj b2 b3 (by decide)⟩, fun a ha b hb' => ?_⟩
    rcases List.mem_append.1 hb' with hb' | hb'
    · exact dj b1 b2 (by decide) a ha b hb'
    · exact dj b1 b3 (by decide) a ha b hb'
  · rw [la]; exact r1.mono fun x hx => List.mem_append_left _ hx
  · rw [lp]; exact r2.mono fun x hx => List.mem_append_right _ (List.mem_append_left _ hx)
  · rw [ls, flat_map sltOf_cells]; exact r3.mono fun x hx => List.mem_append_right _ (List.mem_append_right _ hx)
end Go.Proofs.YtbphdmnomakeoaaDoor

namespace Go.Proofs.YtbphdmnomakeoaaDoor
open Go.RowKit
set_option linter.unusedVariables false
set_option maxRecDepth 100000

/-- The statement s, of at most d blocks within each other, is one of the maker's. -/
def VSt (na np ns : Nat) : Nat → Stm → Prop
  | 0, _ => False
  | d + 1, s =>
    (s.k = 1 ∧ s.a ∈ partN.take np ∧ s.b ∈ slotN.take ns ∧ (s.wd = none ∨ ∃ q : Nat, 4 ≤ q ∧ q ≤ 8 ∧ s.wd = some (ofQ 1 q)) ∧ s.n = 0 ∧ s.bl = []) ∨
    (s.k = 2 ∧ s.a ∈ partN.take np ∧ s.b ∈ armN.take na ∧ s.wd = none ∧ s.n = 0 ∧ s.bl = []) ∨
    (s.k = 3 ∧ s.a ∈ armN.take na ∧ s.b = ⟨#[]⟩ ∧ s.wd = none ∧ s.n = 0 ∧ s.bl = []) ∨
    (s.k = 4 ∧ s.a ∈ partN.take np ∧ s.b = ⟨#[]⟩ ∧ s.wd = none ∧ s.n = 0 ∧ s.bl = []) ∨
    (s.k = 5 ∧ s.a = ⟨#[]⟩ ∧ s.b = ⟨#[]⟩ ∧ s.wd = none ∧ (1 ≤ s.n ∧ s.n ≤ 3) ∧ s.bl = []) ∨
    (s.a = ⟨#[]⟩ ∧ s.b = ⟨#[]⟩ ∧ s.wd = none ∧ (∀ b ∈ s.bl, (1 ≤ b.length ∧ b.length ≤ 2) ∧ ∀ x ∈ b, VSt na np ns d x) ∧
      ((s.k = 6 ∧ s.n = 0 ∧ s.bl.length = 1) ∨ (s.k = 7 ∧ (1 ≤ s.n ∧ s.n ≤ 2) ∧ s.bl.length = 1) ∨ (s.k = 8 ∧ s.n = 0 ∧ s.bl.length = 2) ∨ (s.k = 9 ∧ s.n = 0 ∧ s.bl.length = 2)))
def VSs (na np ns d : Nat) (l : List Stm) : Prop := (1 ≤ l.length ∧ l.length ≤ 2) ∧ ∀ x ∈ l, VSt na np ns d x
/-- The contract of gantkeep4.stmt. -/
def StmJ (na np ns p d : Nat) : Prop := ∀ (w0 w : World) (m E0 : Ents) (b : Nat) (S : Sd) (cs : List Value), Hid (Hp w0 w ((b, 73, [S.v]) :: m)) → Hid (S.ok w0) → Hid (WkV E0 (armN.take na) (partN.take np) ((slotN.take ns).map sltOf) cs) → Hid (∀ x ∈ E0, x ∈ m) →
  Calls Tryd.prog 39 #[.agg cs.toArray, .pointer (some ⟨b, 0, none⟩), .int .i64 p] w fun e w' => ∃ (v : Sv) (s : Stm) (S' : Sd) (E : Ents), e = .returned (.agg v.cells.toArray) ∧ S'.ok w0 ∧ Hp w0 w' ((b, 73, [S'.v]) :: (E ++ m)) ∧ RSt E d s v ∧ VSt na np ns d s
/-- The contract of gantkeep4.stmts. -/
def StsJ (na np ns p d : Nat) : Prop := ∀ (w0 w : World) (m E0 : Ents) (b : Nat) (S : Sd) (cs : List Value), Hid (Hp w0 w ((b, 73, [S.v]) :: m)) → Hid (S.ok w0) → Hid (WkV E0 (armN.take na) (partN.take np) ((slotN.take ns).map sltOf) cs) → Hid (∀ x ∈ E0, x ∈ m) →
  Calls Tryd.prog 26 #[.agg cs.toArray, .pointer (some ⟨b, 0, none⟩), .int .i64 p] w fun e w' => ∃ (x : Value) (l : List Stm) (S' : Sd) (E : Ents), e = .returned x ∧ S'.ok w0 ∧ Hp w0 w' ((b, 73, [S'.v]) :: (E ++ m)) ∧ RSs E d l x ∧ VSs na np ns d l
theorem empty_sz : (⟨#[]⟩ : ByteArray).size ≤ maxLen := by decide
theorem pn_sz {np : Nat} {x : ByteArray} (h : x ∈ partN.take np) : x.size ≤ maxLen := by
  have := List.mem_of_mem_take h
  simp only [partN, List.mem_cons, List.not_mem_nil, or_false] at this
  rcases this with rfl | rfl <;> decide
theorem sn_sz {ns : Nat} {x : ByteArray} (h : x ∈ slotN.take ns) : x.size ≤ maxLen := by
  have := List.mem_of_mem_take h
  simp only [slotN, List.mem_cons, List.not_mem_nil, or_false] at this
  rcases this with rfl | rfl <;> decide
theorem an_sz {na : Nat} {x : ByteArray} (h : x ∈ armN.take na) : x.size ≤ maxLen := by
  have := List.mem_of_mem_take h
  simp only [armN, List.mem_cons, List.not_mem_nil, or_false] at this
  rcases this with rfl | rfl <;> decide
/-- A statement without blocks. -/
theorem RSt.leaf (d : Nat) {k n : Int} {a b : ByteArray} {wd : Option Rat} (h : Sv.ok ⟨k, a, b, wd, n, .slice none 0 0⟩) : RSt [] (d + 1) (.mk k a b wd n []) ⟨k, a, b, wd, n, .slice none 0 0⟩ :=
  ⟨h, rfl, rfl, rfl, rfl, rfl, [], RowIn.nil _ _ _, All2.nil⟩

theorem ofq_sm (q : Nat) (h1 : 4 ≤ q) (h2 : q ≤ 8) : SmO (some (ofQ 1 q)) := (ofQ_sz 1 q 1 (by decide) (by omega) (by omega)).sm (by decide)
theorem small_i {x : Int} (h : 0 ≤ x ∧ x ≤ 9) : -9223372036854775808 ≤ x ∧ x ≤ 9223372036854775807 := by omega
theorem rangeAt_cell {w : World} {b q : Nat} {v : Value} {cs : List Value} (h : w.rangeAt b q (v :: cs)) : w.cell? ⟨b, q, none⟩ = some v := h 0 v rfl
theorem RowIn.blk0 {E : Ents} {e : TypeId} {size n c : Nat} {B : Option Addr} {xs : List Value} (h : RowIn E e size (.slice B n c) n xs) (h0 : 0 < n) : ∃ g, B = some ⟨g, 0, none⟩ := by
  obtain ⟨cur, h1, _⟩ := h
  rcases h1.or_ with ⟨_, rfl⟩ | ⟨g, cap, h2, _⟩
  · omega
  · injection h2 with h2
    exact ⟨g, h2⟩
theorem Upd.app (E : Ents) {l l' : Ents} {b : Nat} {T : TypeId} {cs ds : List Value} (h : Upd l b T cs ds l') : Upd (E ++ l) b T cs ds (E ++ l') := by
  induction E with
  | nil => exact h
  | cons x E ih => exact .tail ih
theorem fin2 {w0 w : World} {s g : Nat × TypeId × List Value} {E1 E2 m X : Ents} (h : Hp w0 w (g :: s :: (E2 ++ (E1 ++ X)))) (hm : m.Sublist X) : Hp w0 w (s :: ((g :: (E2 ++ E1)) ++ m)) := by
  have h2 := h.perm (List.Perm.swap _ _ _)
  refine h2.sub (List.Sublist.cons_cons _ (List.Sublist.cons_cons _ ?_))
  show ((E2 ++ E1) ++ m).Sublist _
  rw [List.append_assoc]
  exact (List.Sublist.refl _).append ((List.Sublist.refl _).append hm)
theorem fin1 {w0 w : World} {s g : Nat × TypeId × List Value} {E1 m X : Ents} (h : Hp w0 w (g :: s :: (E1 ++ X))) (hm : m.Sublist X) : Hp w0 w (s :: ((g :: E1) ++ m)) :=
  (h.perm (List.Perm.swap _ _ _)).sub (List.Sublist.cons_cons _ (List.Sublist.cons_cons _ ((List.Sublist.refl _).append hm)))
theorem RSt.two {E : Ents} {d gz : Nat} {k n : Int} {x1 x2 : Value} {l1 l2 : List Stm} (hg : (gz, 56, [x1, x2]) ∈ E) (h1 : RSs E d l1 x1) (h2 : RSs E d l2 x2) (hk : 0 ≤ k ∧ k ≤ 9) (hn : 0 ≤ n ∧ n ≤ 9) :
    RSt E (d + 1) (.mk k ⟨#[]⟩ ⟨#[]⟩ none n [l1, l2]) ⟨k, ⟨#[]⟩, ⟨#[]⟩, none, n, .slice (some ⟨gz, 0, none⟩) 2 2⟩ :=
  ⟨⟨small_i hk, small_i hn, empty_sz, empty_sz, SmO.none⟩, rfl, rfl, rfl, rfl, rfl, [x1, x2], (RowIn.lit (xs := [x1, x2]) rfl (by decide)).mono (fun x hx => by obtain rfl := List.mem_singleton.1 hx; exact hg), All2.cons h1 (All2.cons h2 All2.nil)⟩
theorem RSt.one_ {E : Ents} {d gz : Nat} {k n : Int} {x1 : Value} {l1 : List Stm} (hg : (gz, 56, [x1]) ∈ E) (h1 : RSs E d l1 x1) (hk : 0 ≤ k ∧ k ≤ 9) (hn : 0 ≤ n ∧ n ≤ 9) :
    RSt E (d + 1) (.mk k ⟨#[]⟩ ⟨#[]⟩ none n [l1]) ⟨k, ⟨#[]⟩, ⟨#[]⟩, none, n, .slice (some ⟨gz, 0, none⟩) 1 1⟩ :=
  ⟨⟨small_i hk, small_i hn, empty_sz, empty_sz, SmO.none⟩, rfl, rfl, rfl, rfl, rfl, [x1], (RowIn.lit (xs := [x1]) rfl (by decide)).mono (fun x hx => by obtain rfl := List.mem_singleton.1 hx; exact hg), All2.cons h1 All2.nil⟩
theorem two_mem {α : Type} {P : α → Prop} {a b : α} (h1 : P a) (h2 : P b) : ∀ x ∈ [a, b], P x := fun x hx => by
  rcases List.mem_cons.1 hx with rfl | hx
  · exact h1
  · obtain rfl := List.mem_singleton.1 hx
    exact h2
theorem one_mem {α : Type} {P : α → Prop} {a : α} (h1 : P a) : ∀ x ∈ [a], P x := fun x hx => by obtain rfl := List.mem_singleton.1 hx; exact h1
end Go.Proofs.YtbphdmnomakeoaaDoor

namespace Go.Proofs.YtbphdmnomakeoaaDoor
open Go.RowKit
set_option linter.unusedVariables false
set_option maxRecDepth 100000

set_option maxHeartbeats 4000000 in
theorem stmtJ_leaf (na np ns d : Nat) (hna : 1 ≤ na ∧ na ≤ 2) (hnp : 1 ≤ np ∧ np ≤ 2) (hns : 1 ≤ ns ∧ ns ≤ 2) : StmJ na np ns 3 (d + 1) := by
  obtain ⟨hna1, hna2⟩ := hna
  obtain ⟨hnp1, hnp2⟩ := hnp
  obtain ⟨hns1, hns2⟩ := hns
  intro w0 w m E0 b S cs H HS WV HE
  obtain ⟨av, pv, sv, rfl, RA, RP, RS⟩ := WV.out
  have la : (armN.take na).length = na := by simp [armN]; omega
  have lp : (partN.take np).length = np := by simp [partN]; omega
  have ls : ((slotN.take ns).map sltOf).length = ns := by simp [slotN]; omega
  rw [la] at RA
  rw [lp] at RP
  rw [ls] at RS
  obtain ⟨Ba, ca, rfl, _⟩ := RA.shape
  obtain ⟨Bp, cp, rfl, _⟩ := RP.shape
  obtain ⟨Bs, cc, rfl, _⟩ := RS.shape
  obtain ⟨ga, rfl⟩ := RA.blk0 (by omega)
  obtain ⟨gp, rfl⟩ := RP.blk0 (by omega)
  obtain ⟨gs, rfl⟩ := RS.blk0 (by omega)
  replace RA := Lib.hid RA
  replace RP := Lib.hid RP
  replace RS := Lib.hid RS
  have LA := Lib.hid la
  have LP := Lib.hid lp
  have LS := Lib.hid ls
  clear la lp ls
  obtain ⟨iP, hxP⟩ : ∃ i : Nat, S.nx np = i := ⟨(S.nx np).toNat, by have := S.nx_bd np (by omega); omega⟩
  have hiP : iP < np := by have := S.nx_bd np (by omega); omega
  have HXP := Lib.hid hxP
  obtain ⟨nmP, hnmP⟩ : ∃ x, (partN.take np)[iP]? = some x := ⟨_, List.getElem?_eq_getElem (by rw [LP.out]; exact hiP)⟩
  obtain ⟨gP, cP, egP, hrP⟩ := RP.out.at_ partC_len hnmP (by decide)
  injection egP with egP _ ecP
  injection egP with egP
  injection egP with egP
  subst egP
  have HRP : Hid (∀ W, Hld E0 W → W.cell? ⟨gp, iP * 12, none⟩ = some (.string nmP)) := Lib.hid fun W hW => rangeAt_cell (hrP W hW)
  have HNP : Hid (nmP ∈ partN.take np) := Lib.hid (by exact List.mem_of_getElem? hnmP)
  clear hrP hnmP hxP ecP
  go_enter Tryd.func39, Tryd.ntmps39
  go_wp2_with (first
      | go_skip
      | ((with_reducible refine isBox ?_); refine bxA H ?_; clear H; intro q _ H)
      | ((with_reducible refine isAlloc ?_); refine alA H ?_ (hz := zStm8); clear H; intro q6 _ H))
  refine wp_region_Y 10 [.c (.pointer (some ⟨q, 2, none⟩)), .c (.slice (some ⟨gp, 0, none⟩) np cp), .c (.pointer (some ⟨b, 0, none⟩)), .c (.pointer (some ⟨q, 2, none⟩)), .c (.slice (some ⟨gp, 0, none⟩) np cp), .c (.int .i64 np), .y, .c (.pointer (some ⟨gp, iP * 12, none⟩)), .c (.pointer (some ⟨gp, iP * 12, none⟩)), .c (.string nmP)] ((q6, 53, [.int .i64 0, .string ⟨#[]⟩, .string ⟨#[]⟩, .bool false, .string ⟨#[]⟩, .string ⟨#[]⟩, .int .i64 0, .slice none 0 0]) :: (q, 31, [.slice (some ⟨ga, 0, none⟩) na ca, .slice none 0 0, .slice (some ⟨gp, 0, none⟩) np cp, .slice (some ⟨gs, 0, none⟩) ns cc, .slice none 0 0, .bool false, .string ⟨#[]⟩, .string ⟨#[]⟩]) :: m) H (by (repeat (first | exact List.Sublist.refl _ | exact List.sublist_append_right _ _ | refine List.Sublist.cons_cons _ ?_ | refine List.Sublist.cons _ ?_))) (by kernel_rfl) (by kernel_rfl) (by kernel_rfl) ?_
  simp only [List.take_succ_cons, List.take_zero, List.drop_succ_cons, List.drop_zero]
  refine wpY_c (by rfl) (by (first | exact wanted_none rfl | exact wanted_some rfl rfl)) (by intro W _; first | (go_simp; rfl) | (go_simp; done) | (trace_state; fail)) ?_
  (simp only [Act.put, List.setIfInBounds_toArray, List.set_cons_succ, List.set_cons_zero])
  refine wpY_load1 (by rfl) (by rfl) (by (first | exact wanted_none rfl | exact wanted_some rfl rfl)) (by first | exact kPrl | exact kSll | exact kArl | exact kStr | exact kInt) (by rfl) (by (repeat (first | exact List.Mem.head _ | refine List.Mem.tail _ ?_ | assumption))) (by rfl) ?_
  (simp only [Act.put, List.setIfInBounds_toArray, List.set_cons_succ, List.set_cons_zero])
  refine wpY_c (by rfl) (by (first | exact wanted_none rfl | exact wanted_some rfl rfl)) (by intro W _; first | (go_simp; rfl) | (go_simp; done) | (trace_state; fail)) ?_
  (simp only [Act.put, List.setIfInBounds_toArray, List.set_cons_succ, List.set_cons_zero])
  refine wpY_c (by rfl) (by (first | exact wanted_none rfl | exact wanted_some rfl rfl)) (by intro W _; first | (go_simp; rfl) | (go_simp; done) | (trace_state; fail)) ?_
  (simp only [Act.put, List.setIfInBounds_toArray, List.set_cons_succ, List.set_cons_zero])
  refine wpY_load1 (by rfl) (by rfl) (by (first | exact wanted_none rfl | exact wanted_some rfl rfl)) (by first | exact kPrl | exact kSll | exact kArl | exact kStr | exact kInt) (by rfl) (by (repeat (first | exact List.Mem.head _ | refine List.Mem.tail _ ?_ | assumption))) (by rfl) ?_
  (simp only [Act.put, List.setIfInBounds_toArray, List.set_cons_succ, List.set_cons_zero])
  refine wpY_c (by rfl) (by (first | exact wanted_none rfl | exact wanted_some rfl rfl)) (by intro W _; first | (go_simp; rfl) | (go_simp; done) | (trace_state; fail)) ?_
  (simp only [Act.put, List.setIfInBounds_toArray, List.set_cons_succ, List.set_cons_zero])
  refine wpY_y (by rfl) (by (first | exact wanted_none rfl | exact wanted_some rfl rfl)) (fun G F W HF hG => ?_)
  go_simp
  unfold upY
  refine Calls.mono (nextH_any (m' := ((q6, 53, [.int .i64 0, .string ⟨#[]⟩, .string ⟨#[]⟩, .bool false, .string ⟨#[]⟩, .string ⟨#[]⟩, .int .i64 0, .slice none 0 0]) :: (q, 31, [.slice (some ⟨ga, 0, none⟩) na ca, .slice none 0 0, .slice (some ⟨gp, 0, none⟩) np cp, .slice (some ⟨gs, 0, none⟩) ns cc, .slice none 0 0, .bool false, .string ⟨#[]⟩, .string ⟨#[]⟩]) :: (b, 73, [S.sn.v]) :: m) ++ F) S b np HF HS (Lib.hid (by (repeat (first | apply Upd.head | apply Upd.tail | assumption)))) (by omega) (by omega)) ?_
  rintro _ W2 ⟨rfl, h2⟩
  refine ⟨_, rfl, hG _ _ ((q6, 53, [.int .i64 0, .string ⟨#[]⟩, .string ⟨#[]⟩, .bool false, .string ⟨#[]⟩, .string ⟨#[]⟩, .int .i64 0, .slice none 0 0]) :: (q, 31, [.slice (some ⟨ga, 0, none⟩) na ca, .slice none 0 0, .slice (some ⟨gp, 0, none⟩) np cp, .slice (some ⟨gs, 0, none⟩) ns cc, .slice none 0 0, .bool false, .string ⟨#[]⟩, .string ⟨#[]⟩]) :: (b, 73, [S.sn.v]) :: m) h2 (by (repeat (first | exact List.Sublist.refl _ | exact List.sublist_append_right _ _ | refine List.Sublist.cons_cons _ ?_ | refine List.Sublist.cons _ ?_))) ?_⟩
  clear HF hG h2
  rw [HXP.out]
  (simp only [Act.put, List.setIfInBounds_toArray, List.set_cons_succ, List.set_cons_zero])
  refine wpY_c (by rfl) (by (first | exact wanted_none rfl | exact wanted_some rfl rfl)) (by intro W _; first | (go_simp; rfl) | (go_simp; done) | (trace_state; fail)) ?_
  (simp only [Act.put, List.setIfInBounds_toArray, List.set_cons_succ, List.set_cons_zero])
  refine wpY_c (by rfl) (by (first | exact wanted_none rfl | exact wanted_some rfl rfl)) (by intro W _; first | (go_simp; rfl) | (go_simp; done) | (trace_state; fail)) ?_
  (simp only [Act.put, List.setIfInBounds_toArray, List.set_cons_succ, List.set_cons_zero])
  refine wpY_loadX (by rfl) (by rfl) (by (first | exact wanted_none rfl | exact wanted_some rfl rfl)) kStr (by rfl) (by intro W HW; exact HRP.out _ (HW.out.hld (fun x hx => by have := HE.out x hx; simp only [List.mem_cons]; grind))) ?_
  (simp only [Act.put, List.setIfInBounds_toArray, List.set_cons_succ, List.set_cons_zero])
  refine wpY_nil ?_
  clear H
  intro _ H
  go_wp2_with (first
      | go_skip
      | ((with_reducible refine isBox ?_); refine bxA H ?_; clear H; intro q _ H)
      | ((with_reducible refine isAlloc ?_); refine alA H ?_ (hz := zStm8); clear H; intro q6 _ H))
  obtain ⟨k8, hk8⟩ : ∃ r, S.sn.nx 8 = r := ⟨_, rfl⟩
  have hbk8 := S.sn.nx_bd 8 (by omega)
  rw [hk8] at hbk8
  obtain ⟨hbk80, hbk81⟩ := hbk8
  have HVk8 := Lib.hid hk8
  clear hk8
  go_at_call 19
  refine Calls.mono (nextH_any S.sn b 8 H (Lib.hid (HS.out.next)) (Lib.hid (by (repeat (first | apply Upd.head | apply Upd.tail | assumption)))) (by omega) (by omega)) ?_
  rintro _ _ ⟨rfl, h2⟩
  replace H := Lib.hid h2
  clear h2
  rw [HVk8.out]
  rcases (by omega : k8 = 0 ∨ k8 = 1 ∨ k8 = 2 ∨ k8 = 3 ∨ k8 = 4 ∨ k8 = 5 ∨ k8 = 6 ∨ k8 = 7) with rfl | rfl | rfl | rfl | rfl | rfl | rfl | rfl
  · obtain ⟨iS, hxS⟩ : ∃ i : Nat, S.sn.sn.nx ns = i := ⟨(S.sn.sn.nx ns).toNat, by have := S.sn.sn.nx_bd ns (by omega); omega⟩
    have hiS : iS < ns := by have := S.sn.sn.nx_bd ns (by omega); omega
    have HXS := Lib.hid hxS
    obtain ⟨nmS, hnmS⟩ : ∃ x, ((slotN.take ns).map sltOf)[iS]? = some x := ⟨_, List.getElem?_eq_getElem (by rw [LS.out]; exact hiS)⟩
    obtain ⟨gS, cS, egS, hrS⟩ := RS.out.at_ Slt.len hnmS (by decide)
    injection egS with egS _ ecS
    injection egS with egS
    injection egS with egS
    subst egS
    have HRS : Hid (∀ W, Hld E0 W → W.cell? ⟨gs, iS * 14, none⟩ = some (.string nmS.nm)) := Lib.hid fun W hW => rangeAt_cell (hrS W hW)
    have HNS : Hid (nmS.nm ∈ slotN.take ns) := Lib.hid (by obtain ⟨y, hy, rfl⟩ := List.mem_map.1 (List.mem_of_getElem? hnmS); exact hy)
    clear hrS hnmS hxS ecS
    go_wp2_with (first
        | go_skip
        | ((with_reducible refine isAlloc ?_); refine alA H ?_ (hz := zStm8); clear H; intro q9 _ H)
        | ((with_reducible refine isStore ?_); refine stA H ?_ (hT := by first | exact rStm8 | exact rRat); clear H; intro _ H)
        | ((with_reducible refine isLoad ?_); refine ldA H ?_ (hT := by first | exact rStm8 | exact rWks)))
    refine wp_region_Y 13 [.c (.string nmP), .c (.pointer (some ⟨q, 3, none⟩)), .c (.slice (some ⟨gs, 0, none⟩) ns cc), .c (.pointer (some ⟨b, 0, none⟩)), .c (.pointer (some ⟨q, 3, none⟩)), .c (.slice (some ⟨gs, 0, none⟩) ns cc), .c (.int .i64 ns), .y, .c (.pointer (some ⟨gs, iS * 14, none⟩)), .c (.pointer (some ⟨gs, iS * 14, none⟩)), .c (.string nmS.nm), .c (.agg #[.int .i64 1, .string nmP, .string nmS.nm, .bool false, .string ⟨#[]⟩, .string ⟨#[]⟩, .int .i64 0, .slice none 0 0]), .a] ((q6, 53, [.int .i64 0, .string ⟨#[]⟩, .string ⟨#[]⟩, .bool false, .string ⟨#[]⟩, .string ⟨#[]⟩, .int .i64 0, .slice none 0 0]) :: (q, 31, [.slice (some ⟨ga, 0, none⟩) na ca, .slice none 0 0, .slice (some ⟨gp, 0, none⟩) np cp, .slice (some ⟨gs, 0, none⟩) ns cc, .slice none 0 0, .bool false, .string ⟨#[]⟩, .string ⟨#[]⟩]) :: m) H (by (repeat (first | exact List.Sublist.refl _ | exact List.sublist_append_right _ _ | refine List.Sublist.cons_cons _ ?_ | refine List.Sublist.cons _ ?_))) (by kernel_rfl) (by kernel_rfl) (by kernel_rfl) ?_
    simp only [List.take_succ_cons, List.take_zero, List.drop_succ_cons, List.drop_zero]
    refine wpY_c (by rfl) (by (first | exact wanted_none rfl | exact wanted_some rfl rfl)) (by intro W _; first | (go_simp; rfl) | (go_simp; done) | (trace_state; fail)) ?_
    (simp only [Act.put, List.setIfInBounds_toArray, List.set_cons_succ, List.set_cons_zero])
    refine wpY_c (by rfl) (by (first | exact wanted_none rfl | exact wanted_some rfl rfl)) (by intro W _; first | (go_simp; rfl) | (go_simp; done) | (trace_state; fail)) ?_
    (simp only [Act.put, List.setIfInBounds_toArray, List.set_cons_succ, List.set_cons_zero])
    refine wpY_load1 (by rfl) (by rfl) (by (first | exact wanted_none rfl | exact wanted_some rfl rfl)) (by first | exact kPrl | exact kSll | exact kArl | exact kStr | exact kInt) (by rfl) (by (repeat (first | exact List.Mem.head _ | refine List.Mem.tail _ ?_ | assumption))) (by rfl) ?_
    (simp only [Act.put, List.setIfInBounds_toArray, List.set_cons_succ, List.set_cons_zero])
    refine wpY_c (by rfl) (by (first | exact wanted_none rfl | exact wanted_some rfl rfl)) (by intro W _; first | (go_simp; rfl) | (go_simp; done) | (trace_state; fail)) ?_
    (simp only [Act.put, List.setIfInBounds_toArray, List.set_cons_succ, List.set_cons_zero])
    refine wpY_c (by rfl) (by (first | exact wanted_none rfl | exact wanted_some rfl rfl)) (by intro W _; first | (go_simp; rfl) | (go_simp; done) | (trace_state; fail)) ?_
    (simp only [Act.put, List.setIfInBounds_toArray, List.set_cons_succ, List.set_cons_zero])
    refine wpY_load1 (by rfl) (by rfl) (by (first | exact wanted_none rfl | exact wanted_some rfl rfl)) (by first | exact kPrl | exact kSll | exact kArl | exact kStr | exact kInt) (by rfl) (by (repeat (first | exact List.Mem.head _ | refine List.Mem.tail _ ?_ | assumption))) (by rfl) ?_
    (simp only [Act.put, List.setIfInBounds_toArray, List.set_cons_succ, List.set_cons_zero])
    refine wpY_c (by rfl) (by (first | exact wanted_none rfl | exact wanted_some rfl rfl)) (by intro W _; first | (go_simp; rfl) | (go_simp; done) | (trace_state; fail)) ?_
    (simp only [Act.put, List.setIfInBounds_toArray, List.set_cons_succ, List.set_cons_zero])
    refine wpY_y (by rfl) (by (first | exact wanted_none rfl | exact wanted_some rfl rfl)) (fun G F W HF hG => ?_)
    go_simp
    unfold upY
    refine Calls.mono (nextH_any (m' := ((q6, 53, [.int .i64 0, .string ⟨#[]⟩, .string ⟨#[]⟩, .bool false, .string ⟨#[]⟩, .string ⟨#[]⟩, .int .i64 0, .slice none 0 0]) :: (q, 31, [.slice (some ⟨ga, 0, none⟩) na ca, .slice none 0 0, .slice (some ⟨gp, 0, none⟩) np cp, .slice (some ⟨gs, 0, none⟩) ns cc, .slice none 0 0, .bool false, .string ⟨#[]⟩, .string ⟨#[]⟩]) :: (b, 73, [S.sn.sn.sn.v]) :: m) ++ F) S.sn.sn b ns HF (Lib.hid (HS.out.next.next)) (Lib.hid (by (repeat (first | apply Upd.head | apply Upd.tail | assumption)))) (by omega) (by omega)) ?_
    rintro _ W2 ⟨rfl, h2⟩
    refine ⟨_, rfl, hG _ _ ((q6, 53, [.int .i64 0, .string ⟨#[]⟩, .string ⟨#[]⟩, .bool false, .string ⟨#[]⟩, .string ⟨#[]⟩, .int .i64 0, .slice none 0 0]) :: (q, 31, [.slice (some ⟨ga, 0, none⟩) na ca, .slice none 0 0, .slice (some ⟨gp, 0, none⟩) np cp, .slice (some ⟨gs, 0, none⟩) ns cc, .slice none 0 0, .bool false, .string ⟨#[]⟩, .string ⟨#[]⟩]) :: (b, 73, [S.sn.sn.sn.v]) :: m) h2 (by (repeat (first | exact List.Sublist.refl _ | exact List.sublist_append_right _ _ | refine List.Sublist.cons_cons _ ?_ | refine List.Sublist.cons _ ?_))) ?_⟩
    clear HF hG h2
    rw [HXS.out]
    (simp only [Act.put, List.setIfInBounds_toArray, List.set_cons_succ, List.set_cons_zero])
    refine wpY_c (by rfl) (by (first | exact wanted_none rfl | exact wanted_some rfl rfl)) (by intro W _; first | (go_simp; rfl) | (go_simp; done) | (trace_state; fail)) ?_
    (simp only [Act.put, List.setIfInBounds_toArray, List.set_cons_succ, List.set_cons_zero])
    refine wpY_c (by rfl) (by (first | exact wanted_none rfl | exact wanted_some rfl rfl)) (by intro W _; first | (go_simp; rfl) | (go_simp; done) | (trace_state; fail)) ?_
    (simp only [Act.put, List.setIfInBounds_toArray, List.set_cons_succ, List.set_cons_zero])
    refine wpY_loadX (by rfl) (by rfl) (by (first | exact wanted_none rfl | exact wanted_some rfl rfl)) kStr (by rfl) (by intro W HW; exact HRS.out _ (HW.out.hld (fun x hx => by have := HE.out x hx; simp only [List.mem_cons]; grind))) ?_
    (simp only [Act.put, List.setIfInBounds_toArray, List.set_cons_succ, List.set_cons_zero])
    refine wpY_c (by rfl) (by (first | exact wanted_none rfl | exact wanted_some rfl rfl)) (by intro W _; first | (go_simp; rfl) | (go_simp; done) | (trace_state; fail)) ?_
    (simp only [Act.put, List.setIfInBounds_toArray, List.set_cons_succ, List.set_cons_zero])
    refine wpY_al (by rfl) (by rfl) (by rfl) zStm8 (by (simp only [Value.cells]; rfl)) ?_
    intro q9
    (simp only [Act.put, List.setIfInBounds_toArray, List.set_cons_succ, List.set_cons_zero])
    refine wpY_nil ?_
    clear H
    intro _ H
    go_wp2_with (first
        | go_skip
        | ((with_reducible refine isAlloc ?_); refine alA H ?_ (hz := zStm8); clear H; intro q9 _ H)
        | ((with_reducible refine isStore ?_); refine stA H ?_ (hT := by first | exact rStm8 | exact rRat); clear H; intro _ H)
        | ((with_reducible refine isLoad ?_); refine ldA H ?_ (hT := by first | exact rStm8 | exact rWks)))
    obtain ⟨x3, hx3⟩ : ∃ r, S.sn.sn.sn.nx 3 = r := ⟨_, rfl⟩
    have hbx3 := S.sn.sn.sn.nx_bd 3 (by omega)
    rw [hx3] at hbx3
    obtain ⟨hbx30, hbx31⟩ := hbx3
    have HVx3 := Lib.hid hx3
    clear hx3
    go_at_call 19
    refine Calls.mono (nextH_any S.sn.sn.sn b 3 H (Lib.hid (HS.out.next.next.next)) (Lib.hid (by (repeat (first | apply Upd.head | apply Upd.tail | assumption)))) (by omega) (by omega)) ?_
    rintro _ _ ⟨rfl, h2⟩
    replace H := Lib.hid h2
    clear h2
    rw [HVx3.out]
    by_cases h3 : x3 = 0
    · subst h3
      go_wp2_with (first
          | go_skip
          | ((with_reducible refine isAlloc ?_); refine alA H ?_ (hz := zStm8); clear H; intro q9 _ H)
          | ((with_reducible refine isStore ?_); refine stA H ?_ (hT := by first | exact rStm8 | exact rRat); clear H; intro _ H)
          | ((with_reducible refine isLoad ?_); refine ldA H ?_ (hT := by first | exact rStm8 | exact rWks)))
      obtain ⟨r5, hr5⟩ : ∃ r, S.sn.sn.sn.sn.nx 5 = r := ⟨_, rfl⟩
      have hbr5 := S.sn.sn.sn.sn.nx_bd 5 (by omega)
      rw [hr5] at hbr5
      obtain ⟨hbr50, hbr51⟩ := hbr5
      have HVr5 := Lib.hid hr5
      clear hr5
      obtain ⟨D, hD⟩ : ∃ D : Nat, 4 + r5 = (D : Int) := ⟨(4 + r5).toNat, by omega⟩
      have hD4 : 4 ≤ D := by omega
      have hD8 : D ≤ 8 := by omega
      go_at_call 19
      refine Calls.mono (nextH_any S.sn.sn.sn.sn b 5 H (Lib.hid (HS.out.next.next.next.next)) (Lib.hid (by (repeat (first | apply Upd.head | apply Upd.tail | assumption)))) (by omega) (by omega)) ?_
      rintro _ _ ⟨rfl, h2⟩
      replace H := Lib.hid h2
      clear h2
      rw [HVr5.out]
      go_wp2_with (first
          | go_skip
          | ((with_reducible refine isAlloc ?_); refine alA H ?_ (hz := zStm8); clear H; intro q9 _ H)
          | ((with_reducible refine isStore ?_); refine stA H ?_ (hT := by first | exact rStm8 | exact rRat); clear H; intro _ H)
          | ((with_reducible refine isLoad ?_); refine ldA H ?_ (hT := by first | exact rStm8 | exact rWks)))
      obtain ⟨q0, hq0⟩ : ∃ x, ofQ 1 D = x := ⟨_, rfl⟩
      have HQ := Lib.hid hq0
      go_at_call 9
      refine Calls.mono (ofQ_any 1 D q0 _ (by decide) (by decide) (by omega) (by omega) HQ) ?_
      rintro _ _ ⟨rfl, hb⟩
      replace H := Lib.hid (H.out.go hb)
      clear hb hq0 hD
      go_wp2_with (first
          | go_skip
          | ((with_reducible refine isAlloc ?_); refine alA H ?_ (hz := zStm8); clear H; intro q9 _ H)
          | ((with_reducible refine isStore ?_); refine stA H ?_ (hT := by first | exact rStm8 | exact rRat); clear H; intro _ H)
          | ((with_reducible refine isLoad ?_); refine ldA H ?_ (hT := by first | exact rStm8 | exact rWks)))
      exact bodyPost_ret (results_H H Tryd.results39 (by exact rStm8) rfl (by (repeat (first | exact List.Mem.head _ | refine List.Mem.tail _ ?_ | assumption))) (by rfl)) rfl ⟨⟨1, nmP, nmS.nm, (some q0), 0, .slice none 0 0⟩, .mk 1 nmP nmS.nm (some q0) 0 [], S.sn.sn.sn.sn.sn, [], rfl, (Lib.hid (HS.out.next.next.next.next.next)).out, H.out.sub (by (repeat (first | exact List.Sublist.refl _ | exact List.sublist_append_right _ _ | refine List.Sublist.cons_cons _ ?_ | refine List.Sublist.cons _ ?_))), RSt.leaf _ ⟨small_i (x := 1) (by omega), small_i (x := 0) (by omega), pn_sz HNP.out, sn_sz HNS.out, by rw [← HQ.out]; exact ofq_sm D hD4 hD8⟩, .inl ⟨rfl, HNP.out, HNS.out, .inr ⟨D, hD4, hD8, by rw [← HQ.out]; rfl⟩, rfl, rfl⟩⟩
    · have x30p : ¬ (x3 = 0) := h3
      have x30d : decide (x3 = 0) = false := decide_eq_false x30p
      go_wp2_with (first
          | go_skip
          | ((with_reducible refine isAlloc ?_); refine alA H ?_ (hz := zStm8); clear H; intro q9 _ H)
          | ((with_reducible refine isStore ?_); refine stA H ?_ (hT := by first | exact rStm8 | exact rRat); clear H; intro _ H)
          | ((with_reducible refine isLoad ?_); refine ldA H ?_ (hT := by first | exact rStm8 | exact rWks)))
      exact bodyPost_ret (results_H H Tryd.results39 (by exact rStm8) rfl (by (repeat (first | exact List.Mem.head _ | refine List.Mem.tail _ ?_ | assumption))) (by rfl)) rfl ⟨⟨1, nmP, nmS.nm, none, 0, .slice none 0 0⟩, .mk 1 nmP nmS.nm none 0 [], S.sn.sn.sn.sn, [], rfl, (Lib.hid (HS.out.next.next.next.next)).out, H.out.sub (by (repeat (first | exact List.Sublist.refl _ | exact List.sublist_append_right _ _ | refine List.Sublist.cons_cons _ ?_ | refine List.Sublist.cons _ ?_))), RSt.leaf _ ⟨small_i (x := 1) (by omega), small_i (x := 0) (by omega), pn_sz HNP.out, sn_sz HNS.out, SmO.none⟩, .inl ⟨rfl, HNP.out, HNS.out, .inl rfl, rfl, rfl⟩⟩
  · obtain ⟨iS, hxS⟩ : ∃ i : Nat, S.sn.sn.nx ns = i := ⟨(S.sn.sn.nx ns).toNat, by have := S.sn.sn.nx_bd ns (by omega); omega⟩
    have hiS : iS < ns := by have := S.sn.sn.nx_bd ns (by omega); omega
    have HXS := Lib.hid hxS
    obtain ⟨nmS, hnmS⟩ : ∃ x, ((slotN.take ns).map sltOf)[iS]? = some x := ⟨_, List.getElem?_eq_getElem (by rw [LS.out]; exact hiS)⟩
    obtain ⟨gS, cS, egS, hrS⟩ := RS.out.at_ Slt.len hnmS (by decide)
    injection egS with egS _ ecS
    injection egS with egS
    injection egS with egS
    subst egS
    have HRS : Hid (∀ W, Hld E0 W → W.cell? ⟨gs, iS * 14, none⟩ = some (.string nmS.nm)) := Lib.hid fun W hW => rangeAt_cell (hrS W hW)
    have HNS : Hid (nmS.nm ∈ slotN.take ns) := Lib.hid (by obtain ⟨y, hy, rfl⟩ := List.mem_map.1 (List.mem_of_getElem? hnmS); exact hy)
    clear hrS hnmS hxS ecS
    go_wp2_with (first
        | go_skip
        | ((with_reducible refine isAlloc ?_); refine alA H ?_ (hz := zStm8); clear H; intro q9 _ H)
        | ((with_reducible refine isStore ?_); refine stA H ?_ (hT := by first | exact rStm8 | exact rRat); clear H; intro _ H)
        | ((with_reducible refine isLoad ?_); refine ldA H ?_ (hT := by first | exact rStm8 | exact rWks)))
    refine wp_region_Y 13 [.c (.string nmP), .c (.pointer (some ⟨q, 3, none⟩)), .c (.slice (some ⟨gs, 0, none⟩) ns cc), .c (.pointer (some ⟨b, 0, none⟩)), .c (.pointer (some ⟨q, 3, none⟩)), .c (.slice (some ⟨gs, 0, none⟩) ns cc), .c (.int .i64 ns), .y, .c (.pointer (some ⟨gs, iS * 14, none⟩)), .c (.pointer (some ⟨gs, iS * 14, none⟩)), .c (.string nmS.nm), .c (.agg #[.int .i64 1, .string nmP, .string nmS.nm, .bool false, .string ⟨#[]⟩, .string ⟨#[]⟩, .int .i64 0, .slice none 0 0]), .a] ((q6, 53, [.int .i64 0, .string ⟨#[]⟩, .string ⟨#[]⟩, .bool false, .string ⟨#[]⟩, .string ⟨#[]⟩, .int .i64 0, .slice none 0 0]) :: (q, 31, [.slice (some ⟨ga, 0, none⟩) na ca, .slice none 0 0, .slice (some ⟨gp, 0, none⟩) np cp, .slice (some ⟨gs, 0, none⟩) ns cc, .slice none 0 0, .bool false, .string ⟨#[]⟩, .string ⟨#[]⟩]) :: m) H (by (repeat (first | exact List.Sublist.refl _ | exact List.sublist_append_right _ _ | refine List.Sublist.cons_cons _ ?_ | refine List.Sublist.cons _ ?_))) (by kernel_rfl) (by kernel_rfl) (by kernel_rfl) ?_
    simp only [List.take_succ_cons, List.take_zero, List.drop_succ_cons, List.drop_zero]
    refine wpY_c (by rfl) (by (first | exact wanted_none rfl | exact wanted_some rfl rfl)) (by intro W _; first | (go_simp; rfl) | (go_simp; done) | (trace_state; fail)) ?_
    (simp only [Act.put, List.setIfInBounds_toArray, List.set_cons_succ, List.set_cons_zero])
    refine wpY_c (by rfl) (by (first | exact wanted_none rfl | exact wanted_some rfl rfl)) (by intro W _; first | (go_simp; rfl) | (go_simp; done) | (trace_state; fail)) ?_
    (simp only [Act.put, List.setIfInBounds_toArray, List.set_cons_succ, List.set_cons_zero])
    refine wpY_load1 (by rfl) (by rfl) (by (first | exact wanted_none rfl | exact wanted_some rfl rfl)) (by first | exact kPrl | exact kSll | exact kArl | exact kStr | exact kInt) (by rfl) (by (repeat (first | exact List.Mem.head _ | refine List.Mem.tail _ ?_ | assumption))) (by rfl) ?_
    (simp only [Act.put, List.setIfInBounds_toArray, List.set_cons_succ, List.set_cons_zero])
    refine wpY_c (by rfl) (by (first | exact wanted_none rfl | exact wanted_some rfl rfl)) (by intro W _; first | (go_simp; rfl) | (go_simp; done) | (trace_state; fail)) ?_
    (simp only [Act.put, List.setIfInBounds_toArray, List.set_cons_succ, List.set_cons_zero])
    refine wpY_c (by rfl) (by (first | exact wanted_none rfl | exact wanted_some rfl rfl)) (by intro W _; first | (go_simp; rfl) | (go_simp; done) | (trace_state; fail)) ?_
    (simp only [Act.put, List.setIfInBounds_toArray, List.set_cons_succ, List.set_cons_zero])
    refine wpY_load1 (by rfl) (by rfl) (by (first | exact wanted_none rfl | exact wanted_some rfl rfl)) (by first | exact kPrl | exact kSll | exact kArl | exact kStr | exact kInt) (by rfl) (by (repeat (first | exact List.Mem.head _ | refine List.Mem.tail _ ?_ | assumption))) (by rfl) ?_
    (simp only [Act.put, List.setIfInBounds_toArray, List.set_cons_succ, List.set_cons_zero])
    refine wpY_c (by rfl) (by (first | exact wanted_none rfl | exact wanted_some rfl rfl)) (by intro W _; first | (go_simp; rfl) | (go_simp; done) | (trace_state; fail)) ?_
    (simp only [Act.put, List.setIfInBounds_toArray, List.set_cons_succ, List.set_cons_zero])
    refine wpY_y (by rfl) (by (first | exact wanted_none rfl | exact wanted_some rfl rfl)) (fun G F W HF hG => ?_)
    go_simp
    unfold upY
    refine Calls.mono (nextH_any (m' := ((q6, 53, [.int .i64 0, .string ⟨#[]⟩, .string ⟨#[]⟩, .bool false, .string ⟨#[]⟩, .string ⟨#[]⟩, .int .i64 0, .slice none 0 0]) :: (q, 31, [.slice (some ⟨ga, 0, none⟩) na ca, .slice none 0 0, .slice (some ⟨gp, 0, none⟩) np cp, .slice (some ⟨gs, 0, none⟩) ns cc, .slice none 0 0, .bool false, .string ⟨#[]⟩, .string ⟨#[]⟩]) :: (b, 73, [S.sn.sn.sn.v]) :: m) ++ F) S.sn.sn b ns HF (Lib.hid (HS.out.next.next)) (Lib.hid (by (repeat (first | apply Upd.head | apply Upd.tail | assumption)))) (by omega) (by omega)) ?_
    rintro _ W2 ⟨rfl, h2⟩
    refine ⟨_, rfl, hG _ _ ((q6, 53, [.int .i64 0, .string ⟨#[]⟩, .string ⟨#[]⟩, .bool false, .string ⟨#[]⟩, .string ⟨#[]⟩, .int .i64 0, .slice none 0 0]) :: (q, 31, [.slice (some ⟨ga, 0, none⟩) na ca, .slice none 0 0, .slice (some ⟨gp, 0, none⟩) np cp, .slice (some ⟨gs, 0, none⟩) ns cc, .slice none 0 0, .bool false, .string ⟨#[]⟩, .string ⟨#[]⟩]) :: (b, 73, [S.sn.sn.sn.v]) :: m) h2 (by (repeat (first | exact List.Sublist.refl _ | exact List.sublist_append_right _ _ | refine List.Sublist.cons_cons _ ?_ | refine List.Sublist.cons _ ?_))) ?_⟩
    clear HF hG h2
    rw [HXS.out]
    (simp only [Act.put, List.setIfInBounds_toArray, List.set_cons_succ, List.set_cons_zero])
    refine wpY_c (by rfl) (by (first | exact wanted_none rfl | exact wanted_some rfl rfl)) (by intro W _; first | (go_simp; rfl) | (go_simp; done) | (trace_state; fail)) ?_
    (simp only [Act.put, List.setIfInBounds_toArray, List.set_cons_succ, List.set_cons_zero])
    refine wpY_c (by rfl) (by (first | exact wanted_none rfl | exact wanted_some rfl rfl)) (by intro W _; first | (go_simp; rfl) | (go_simp; done) | (trace_state; fail)) ?_
    (simp only [Act.put, List.setIfInBounds_toArray, List.set_cons_succ, List.set_cons_zero])
    refine wpY_loadX (by rfl) (by rfl) (by (first | exact wanted_none rfl | exact wanted_some rfl rfl)) kStr (by rfl) (by intro W HW; exact HRS.out _ (HW.out.hld (fun x hx => by have := HE.out x hx; simp only [List.mem_cons]; grind))) ?_
    (simp only [Act.put, List.setIfInBounds_toArray, List.set_cons_succ, List.set_cons_zero])
    refine wpY_c (by rfl) (by (first | exact wanted_none rfl | exact wanted_some rfl rfl)) (by intro W _; first | (go_simp; rfl) | (go_simp; done) | (trace_state; fail)) ?_
    (simp only [Act.put, List.setIfInBounds_toArray, List.set_cons_succ, List.set_cons_zero])
    refine wpY_al (by rfl) (by rfl) (by rfl) zStm8 (by (simp only [Value.cells]; rfl)) ?_
    intro q9
    (simp only [Act.put, List.setIfInBounds_toArray, List.set_cons_succ, List.set_cons_zero])
    refine wpY_nil ?_
    clear H
    intro _ H
    go_wp2_with (first
        | go_skip
        | ((with_reducible refine isAlloc ?_); refine alA H ?_ (hz := zStm8); clear H; intro q9 _ H)
        | ((with_reducible refine isStore ?_); refine stA H ?_ (hT := by first | exact rStm8 | exact rRat); clear H; intro _ H)
        | ((with_reducible refine isLoad ?_); refine ldA H ?_ (hT := by first | exact rStm8 | exact rWks)))
    obtain ⟨x3, hx3⟩ : ∃ r, S.sn.sn.sn.nx 3 = r := ⟨_, rfl⟩
    have hbx3 := S.sn.sn.sn.nx_bd 3 (by omega)
    rw [hx3] at hbx3
    obtain ⟨hbx30, hbx31⟩ := hbx3
    have HVx3 := Lib.hid hx3
    clear hx3
    go_at_call 19
    refine Calls.mono (nextH_any S.sn.sn.sn b 3 H (Lib.hid (HS.out.next.next.next)) (Lib.hid (by (repeat (first | apply Upd.head | apply Upd.tail | assumption)))) (by omega) (by omega)) ?_
    rintro _ _ ⟨rfl, h2⟩
    replace H := Lib.hid h2
    clear h2
    rw [HVx3.out]
    by_cases h3 : x3 = 0
    · subst h3
      go_wp2_with (first
          | go_skip
          | ((with_reducible refine isAlloc ?_); refine alA H ?_ (hz := zStm8); clear H; intro q9 _ H)
          | ((with_reducible refine isStore ?_); refine stA H ?_ (hT := by first | exact rStm8 | exact rRat); clear H; intro _ H)
          | ((with_reducible refine isLoad ?_); refine ldA H ?_ (hT := by first | exact rStm8 | exact rWks)))
      obtain ⟨r5, hr5⟩ : ∃ r, S.sn.sn.sn.sn.nx 5 = r := ⟨_, rfl⟩
      have hbr5 := S.sn.sn.sn.sn.nx_bd 5 (by omega)
      rw [hr5] at hbr5
      obtain ⟨hbr50, hbr51⟩ := hbr5
      have HVr5 := Lib.hid hr5
      clear hr5
      obtain ⟨D, hD⟩ : ∃ D : Nat, 4 + r5 = (D : Int) := ⟨(4 + r5).toNat, by omega⟩
      have hD4 : 4 ≤ D := by omega
      have hD8 : D ≤ 8 := by omega
      go_at_call 19
      refine Calls.mono (nextH_any S.sn.sn.sn.sn b 5 H (Lib.hid (HS.out.next.next.next.next)) (Lib.hid (by (repeat (first | apply Upd.head | apply Upd.tail | assumption)))) (by omega) (by omega)) ?_
      rintro _ _ ⟨rfl, h2⟩
      replace H := Lib.hid h2
      clear h2
      rw [HVr5.out]
      go_wp2_with (first
          | go_skip
          | ((with_reducible refine isAlloc ?_); refine alA H ?_ (hz := zStm8); clear H; intro q9 _ H)
          | ((with_reducible refine isStore ?_); refine stA H ?_ (hT := by first | exact rStm8 | exact rRat); clear H; intro _ H)
          | ((with_reducible refine isLoad ?_); refine ldA H ?_ (hT := by first | exact rStm8 | exact rWks)))
      obtain ⟨q0, hq0⟩ : ∃ x, ofQ 1 D = x := ⟨_, rfl⟩
      have HQ := Lib.hid hq0
      go_at_call 9
      refine Calls.mono (ofQ_any 1 D q0 _ (by decide) (by decide) (by omega) (by omega) HQ) ?_
      rintro _ _ ⟨rfl, hb⟩
      replace H := Lib.hid (H.out.go hb)
      clear hb hq0 hD
      go_wp2_with (first
          | go_skip
          | ((with_reducible refine isAlloc ?_); refine alA H ?_ (hz := zStm8); clear H; intro q9 _ H)
          | ((with_reducible refine isStore ?_); refine stA H ?_ (hT := by first | exact rStm8 | exact rRat); clear H; intro _ H)
          | ((with_reducible refine isLoad ?_); refine ldA H ?_ (hT := by first | exact rStm8 | exact rWks)))
      exact bodyPost_ret (results_H H Tryd.results39 (by exact rStm8) rfl (by (repeat (first | exact List.Mem.head _ | refine List.Mem.tail _ ?_ | assumption))) (by rfl)) rfl ⟨⟨1, nmP, nmS.nm, (some q0), 0, .slice none 0 0⟩, .mk 1 nmP nmS.nm (some q0) 0 [], S.sn.sn.sn.sn.sn, [], rfl, (Lib.hid (HS.out.next.next.next.next.next)).out, H.out.sub (by (repeat (first | exact List.Sublist.refl _ | exact List.sublist_append_right _ _ | refine List.Sublist.cons_cons _ ?_ | refine List.Sublist.cons _ ?_))), RSt.leaf _ ⟨small_i (x := 1) (by omega), small_i (x := 0) (by omega), pn_sz HNP.out, sn_sz HNS.out, by rw [← HQ.out]; exact ofq_sm D hD4 hD8⟩, .inl ⟨rfl, HNP.out, HNS.out, .inr ⟨D, hD4, hD8, by rw [← HQ.out]; rfl⟩, rfl, rfl⟩⟩
    · have x30p : ¬ (x3 = 0) := h3
      have x30d : decide (x3 = 0) = false := decide_eq_false x30p
      go_wp2_with (first
          | go_skip
          | ((with_reducible refine isAlloc ?_); refine alA H ?_ (hz := zStm8); clear H; intro q9 _ H)
          | ((with_reducible refine isStore ?_); refine stA H ?_ (hT := by first | exact rStm8 | exact rRat); clear H; intro _ H)
          | ((with_reducible refine isLoad ?_); refine ldA H ?_ (hT := by first | exact rStm8 | exact rWks)))
      exact bodyPost_ret (results_H H Tryd.results39 (by exact rStm8) rfl (by (repeat (first | exact List.Mem.head _ | refine List.Mem.tail _ ?_ | assumption))) (by rfl)) rfl ⟨⟨1, nmP, nmS.nm, none, 0, .slice none 0 0⟩, .mk 1 nmP nmS.nm none 0 [], S.sn.sn.sn.sn, [], rfl, (Lib.hid (HS.out.next.next.next.next)).out, H.out.sub (by (repeat (first | exact List.Sublist.refl _ | exact List.sublist_append_right _ _ | refine List.Sublist.cons_cons _ ?_ | refine List.Sublist.cons _ ?_))), RSt.leaf _ ⟨small_i (x := 1) (by omega), small_i (x := 0) (by omega), pn_sz HNP.out, sn_sz HNS.out, SmO.none⟩, .inl ⟨rfl, HNP.out, HNS.out, .inl rfl, rfl, rfl⟩⟩
  · obtain ⟨iA, hxA⟩ : ∃ i : Nat, S.sn.sn.nx na = i := ⟨(S.sn.sn.nx na).toNat, by have := S.sn.sn.nx_bd na (by omega); omega⟩
    have hiA : iA < na := by have := S.sn.sn.nx_bd na (by omega); omega
    have HXA := Lib.hid hxA
    obtain ⟨nmA, hnmA⟩ : ∃ x, (armN.take na)[iA]? = some x := ⟨_, List.getElem?_eq_getElem (by rw [LA.out]; exact hiA)⟩
    obtain ⟨gA, cA, egA, hrA⟩ := RA.out.at_ armC_len hnmA (by decide)
    injection egA with egA _ ecA
    injection egA with egA
    injection egA with egA
    subst egA
    have HRA : Hid (∀ W, Hld E0 W → W.cell? ⟨ga, iA * 12, none⟩ = some (.string nmA)) := Lib.hid fun W hW => rangeAt_cell (hrA W hW)
    have HNA : Hid (nmA ∈ armN.take na) := Lib.hid (by exact List.mem_of_getElem? hnmA)
    clear hrA hnmA hxA ecA
    go_wp2_with (first
        | go_skip
        | ((with_reducible refine isAlloc ?_); refine alA H ?_ (hz := zStm8); clear H; intro q9 _ H)
        | ((with_reducible refine isStore ?_); refine stA H ?_ (hT := by first | exact rStm8 | exact rRat); clear H; intro _ H)
        | ((with_reducible refine isLoad ?_); refine ldA H ?_ (hT := by first | exact rStm8 | exact rWks)))
    refine wp_region_Y 12 [.c (.string nmP), .c (.pointer (some ⟨q, 0, none⟩)), .c (.slice (some ⟨ga, 0, none⟩) na ca), .c (.pointer (some ⟨b, 0, none⟩)), .c (.pointer (some ⟨q, 0, none⟩)), .c (.slice (some ⟨ga, 0, none⟩) na ca), .c (.int .i64 na), .y, .c (.pointer (some ⟨ga, iA * 12, none⟩)), .c (.pointer (some ⟨ga, iA * 12, none⟩)), .c (.string nmA), .c (.agg #[.int .i64 2, .string nmP, .string nmA, .bool false, .string ⟨#[]⟩, .string ⟨#[]⟩, .int .i64 0, .slice none 0 0])] ((q6, 53, [.int .i64 0, .string ⟨#[]⟩, .string ⟨#[]⟩, .bool false, .string ⟨#[]⟩, .string ⟨#[]⟩, .int .i64 0, .slice none 0 0]) :: (q, 31, [.slice (some ⟨ga, 0, none⟩) na ca, .slice none 0 0, .slice (some ⟨gp, 0, none⟩) np cp, .slice (some ⟨gs, 0, none⟩) ns cc, .slice none 0 0, .bool false, .string ⟨#[]⟩, .string ⟨#[]⟩]) :: m) H (by (repeat (first | exact List.Sublist.refl _ | exact List.sublist_append_right _ _ | refine List.Sublist.cons_cons _ ?_ | refine List.Sublist.cons _ ?_))) (by kernel_rfl) (by kernel_rfl) (by kernel_rfl) ?_
    simp only [List.take_succ_cons, List.take_zero, List.drop_succ_cons, List.drop_zero]
    refine wpY_c (by rfl) (by (first | exact wanted_none rfl | exact wanted_some rfl rfl)) (by intro W _; first | (go_simp; rfl) | (go_simp; done) | (trace_state; fail)) ?_
    (simp only [Act.put, List.setIfInBounds_toArray, List.set_cons_succ, List.set_cons_zero])
    refine wpY_c (by rfl) (by (first | exact wanted_none rfl | exact wanted_some rfl rfl)) (by intro W _; first | (go_simp; rfl) | (go_simp; done) | (trace_state; fail)) ?_
    (simp only [Act.put, List.setIfInBounds_toArray, List.set_cons_succ, List.set_cons_zero])
    refine wpY_load1 (by rfl) (by rfl) (by (first | exact wanted_none rfl | exact wanted_some rfl rfl)) (by first | exact kPrl | exact kSll | exact kArl | exact kStr | exact kInt) (by rfl) (by (repeat (first | exact List.Mem.head _ | refine List.Mem.tail _ ?_ | assumption))) (by rfl) ?_
    (simp only [Act.put, List.setIfInBounds_toArray, List.set_cons_succ, List.set_cons_zero])
    refine wpY_c (by rfl) (by (first | exact wanted_none rfl | exact wanted_some rfl rfl)) (by intro W _; first | (go_simp; rfl) | (go_simp; done) | (trace_state; fail)) ?_
    (simp only [Act.put, List.setIfInBounds_toArray, List.set_cons_succ, List.set_cons_zero])
    refine wpY_c (by rfl) (by (first | exact wanted_none rfl | exact wanted_some rfl rfl)) (by intro W _; first | (go_simp; rfl) | (go_simp; done) | (trace_state; fail)) ?_
    (simp only [Act.put, List.setIfInBounds_toArray, List.set_cons_succ, List.set_cons_zero])
    refine wpY_load1 (by rfl) (by rfl) (by (first | exact wanted_none rfl | exact wanted_some rfl rfl)) (by first | exact kPrl | exact kSll | exact kArl | exact kStr | exact kInt) (by rfl) (by (repeat (first | exact List.Mem.head _ | refine List.Mem.tail _ ?_ | assumption))) (by rfl) ?_
    (simp only [Act.put, List.setIfInBounds_toArray, List.set_cons_succ, List.set_cons_zero])
    refine wpY_c (by rfl) (by (first | exact wanted_none rfl | exact wanted_some rfl rfl)) (by intro W _; first | (go_simp; rfl) | (go_simp; done) | (trace_state; fail)) ?_
    (simp only [Act.put, List.setIfInBounds_toArray, List.set_cons_succ, List.set_cons_zero])
    refine wpY_y (by rfl) (by (first | exact wanted_none rfl | exact wanted_some rfl rfl)) (fun G F W HF hG => ?_)
    go_simp
    unfold upY
    refine Calls.mono (nextH_any (m' := ((q6, 53, [.int .i64 0, .string ⟨#[]⟩, .string ⟨#[]⟩, .bool false, .string ⟨#[]⟩, .string ⟨#[]⟩, .int .i64 0, .slice none 0 0]) :: (q, 31, [.slice (some ⟨ga, 0, none⟩) na ca, .slice none 0 0, .slice (some ⟨gp, 0, none⟩) np cp, .slice (some ⟨gs, 0, none⟩) ns cc, .slice none 0 0, .bool false, .string ⟨#[]⟩, .string ⟨#[]⟩]) :: (b, 73, [S.sn.sn.sn.v]) :: m) ++ F) S.sn.sn b na HF (Lib.hid (HS.out.next.next)) (Lib.hid (by (repeat (first | apply Upd.head | apply Upd.tail | assumption)))) (by omega) (by omega)) ?_
    rintro _ W2 ⟨rfl, h2⟩
    refine ⟨_, rfl, hG _ _ ((q6, 53, [.int .i64 0, .string ⟨#[]⟩, .string ⟨#[]⟩, .bool false, .string ⟨#[]⟩, .string ⟨#[]⟩, .int .i64 0, .slice none 0 0]) :: (q, 31, [.slice (some ⟨ga, 0, none⟩) na ca, .slice none 0 0, .slice (some ⟨gp, 0, none⟩) np cp, .slice (some ⟨gs, 0, none⟩) ns cc, .slice none 0 0, .bool false, .string ⟨#[]⟩, .string ⟨#[]⟩]) :: (b, 73, [S.sn.sn.sn.v]) :: m) h2 (by (repeat (first | exact List.Sublist.refl _ | exact List.sublist_append_right _ _ | refine List.Sublist.cons_cons _ ?_ | refine List.Sublist.cons _ ?_))) ?_⟩
    clear HF hG h2
    rw [HXA.out]
    (simp only [Act.put, List.setIfInBounds_toArray, List.set_cons_succ, List.set_cons_zero])
    refine wpY_c (by rfl) (by (first | exact wanted_none rfl | exact wanted_some rfl rfl)) (by intro W _; first | (go_simp; rfl) | (go_simp; done) | (trace_state; fail)) ?_
    (simp only [Act.put, List.setIfInBounds_toArray, List.set_cons_succ, List.set_cons_zero])
    refine wpY_c (by rfl) (by (first | exact wanted_none rfl | exact wanted_some rfl rfl)) (by intro W _; first | (go_simp; rfl) | (go_simp; done) | (trace_state; fail)) ?_
    (simp only [Act.put, List.setIfInBounds_toArray, List.set_cons_succ, List.set_cons_zero])
    refine wpY_loadX (by rfl) (by rfl) (by (first | exact wanted_none rfl | exact wanted_some rfl rfl)) kStr (by rfl) (by intro W HW; exact HRA.out _ (HW.out.hld (fun x hx => by have := HE.out x hx; simp only [List.mem_cons]; grind))) ?_
    (simp only [Act.put, List.setIfInBounds_toArray, List.set_cons_succ, List.set_cons_zero])
    refine wpY_c (by rfl) (by (first | exact wanted_none rfl | exact wanted_some rfl rfl)) (by intro W _; first | (go_simp; rfl) | (go_simp; done) | (trace_state; fail)) ?_
    (simp only [Act.put, List.setIfInBounds_toArray, List.set_cons_succ, List.set_cons_zero])
    refine wpY_nil ?_
    clear H
    intro _ H
    go_wp2_with (first
        | go_skip
        | ((with_reducible refine isAlloc ?_); refine alA H ?_ (hz := zStm8); clear H; intro q9 _ H)
        | ((with_reducible refine isStore ?_); refine stA H ?_ (hT := by first | exact rStm8 | exact rRat); clear H; intro _ H)
        | ((with_reducible refine isLoad ?_); refine ldA H ?_ (hT := by first | exact rStm8 | exact rWks)))
    exact bodyPost_ret (results_H H Tryd.results39 (by exact rStm8) rfl (by (repeat (first | exact List.Mem.head _ | refine List.Mem.tail _ ?_ | assumption))) (by rfl)) rfl ⟨⟨2, nmP, nmA, none, 0, .slice none 0 0⟩, .mk 2 nmP nmA none 0 [], S.sn.sn.sn, [], rfl, (Lib.hid (HS.out.next.next.next)).out, H.out.sub (by (repeat (first | exact List.Sublist.refl _ | exact List.sublist_append_right _ _ | refine List.Sublist.cons_cons _ ?_ | refine List.Sublist.cons _ ?_))), RSt.leaf _ ⟨small_i (x := 2) (by omega), small_i (x := 0) (by omega), pn_sz HNP.out, an_sz HNA.out, SmO.none⟩, .inr (.inl ⟨rfl, HNP.out, HNA.out, rfl, rfl, rfl⟩)⟩
  · go_wp2_with (first
        | go_skip
        | ((with_reducible refine isAlloc ?_); refine alA H ?_ (hz := zStm8); clear H; intro q9 _ H)
        | ((with_reducible refine isStore ?_); refine stA H ?_ (hT := by first | exact rStm8 | exact rRat); clear H; intro _ H)
        | ((with_reducible refine isLoad ?_); refine ldA H ?_ (hT := by first | exact rStm8 | exact rWks)))
    exact bodyPost_ret (results_H H Tryd.results39 (by exact rStm8) rfl (by (repeat (first | exact List.Mem.head _ | refine List.Mem.tail _ ?_ | assumption))) (by rfl)) rfl ⟨⟨4, nmP, ⟨#[]⟩, none, 0, .slice none 0 0⟩, .mk 4 nmP ⟨#[]⟩ none 0 [], S.sn.sn, [], rfl, (Lib.hid (HS.out.next.next)).out, H.out.sub (by (repeat (first | exact List.Sublist.refl _ | exact List.sublist_append_right _ _ | refine List.Sublist.cons_cons _ ?_ | refine List.Sublist.cons _ ?_))), RSt.leaf _ ⟨small_i (x := 4) (by omega), small_i (x := 0) (by omega), pn_sz HNP.out, empty_sz, SmO.none⟩, .inr (.inr (.inr (.inl ⟨rfl, HNP.out, rfl, rfl, rfl, rfl⟩)))⟩
  · obtain ⟨x2, hx2⟩ : ∃ r, S.sn.sn.nx 2 = r := ⟨_, rfl⟩
    have hbx2 := S.sn.sn.nx_bd 2 (by omega)
    rw [hx2] at hbx2
    obtain ⟨hbx20, hbx21⟩ := hbx2
    have HVx2 := Lib.hid hx2
    clear hx2
    go_wp2_with (first
        | go_skip
        | ((with_reducible refine isAlloc ?_); refine alA H ?_ (hz := zStm8); clear H; intro q9 _ H)
        | ((with_reducible refine isStore ?_); refine stA H ?_ (hT := by first | exact rStm8 | exact rRat); clear H; intro _ H)
        | ((with_reducible refine isLoad ?_); refine ldA H ?_ (hT := by first | exact rStm8 | exact rWks)))
    go_at_call 19
    refine Calls.mono (nextH_any S.sn.sn b 2 H (Lib.hid (HS.out.next.next)) (Lib.hid (by (repeat (first | apply Upd.head | apply Upd.tail | assumption)))) (by omega) (by omega)) ?_
    rintro _ _ ⟨rfl, h2⟩
    replace H := Lib.hid h2
    clear h2
    rw [HVx2.out]
    by_cases h2 : x2 = 0
    · subst h2
      go_wp2_with (first
          | go_skip
          | ((with_reducible refine isAlloc ?_); refine alA H ?_ (hz := zStm8); clear H; intro q9 _ H)
          | ((with_reducible refine isStore ?_); refine stA H ?_ (hT := by first | exact rStm8 | exact rRat); clear H; intro _ H)
          | ((with_reducible refine isLoad ?_); refine ldA H ?_ (hT := by first | exact rStm8 | exact rWks)))
      obtain ⟨r3, hr3⟩ : ∃ r, S.sn.sn.sn.nx 3 = r := ⟨_, rfl⟩
      have hbr3 := S.sn.sn.sn.nx_bd 3 (by omega)
      rw [hr3] at hbr3
      obtain ⟨hbr30, hbr31⟩ := hbr3
      have HVr3 := Lib.hid hr3
      clear hr3
      go_at_call 19
      refine Calls.mono (nextH_any S.sn.sn.sn b 3 H (Lib.hid (HS.out.next.next.next)) (Lib.hid (by (repeat (first | apply Upd.head | apply Upd.tail | assumption)))) (by omega) (by omega)) ?_
      rintro _ _ ⟨rfl, h2⟩
      replace H := Lib.hid h2
      clear h2
      rw [HVr3.out]
      go_wp2_with (first
          | go_skip
          | ((with_reducible refine isAlloc ?_); refine alA H ?_ (hz := zStm8); clear H; intro q9 _ H)
          | ((with_reducible refine isStore ?_); refine stA H ?_ (hT := by first | exact rStm8 | exact rRat); clear H; intro _ H)
          | ((with_reducible refine isLoad ?_); refine ldA H ?_ (hT := by first | exact rStm8 | exact rWks)))
      exact bodyPost_ret (results_H H Tryd.results39 (by exact rStm8) rfl (by (repeat (first | exact List.Mem.head _ | refine List.Mem.tail _ ?_ | assumption))) (by rfl)) rfl ⟨⟨5, ⟨#[]⟩, ⟨#[]⟩, none, (1 + r3), .slice none 0 0⟩, .mk 5 ⟨#[]⟩ ⟨#[]⟩ none (1 + r3) [], S.sn.sn.sn.sn, [], rfl, (Lib.hid (HS.out.next.next.next.next)).out, H.out.sub (by (repeat (first | exact List.Sublist.refl _ | exact List.sublist_append_right _ _ | refine List.Sublist.cons_cons _ ?_ | refine List.Sublist.cons _ ?_))), RSt.leaf _ ⟨small_i (x := 5) (by omega), small_i (x := (1 + r3)) (by omega), empty_sz, empty_sz, SmO.none⟩, .inr (.inr (.inr (.inr (.inl ⟨rfl, rfl, rfl, rfl, ⟨by show 1 ≤ 1 + r3; omega, by show 1 + r3 ≤ 3; omega⟩, rfl⟩))))⟩
    · have x20p : ¬ (x2 = 0) := h2
      have x20d : decide (x2 = 0) = false := decide_eq_false x20p
      obtain ⟨iA, hxA⟩ : ∃ i : Nat, S.sn.sn.sn.nx na = i := ⟨(S.sn.sn.sn.nx na).toNat, by have := S.sn.sn.sn.nx_bd na (by omega); omega⟩
      have hiA : iA < na := by have := S.sn.sn.sn.nx_bd na (by omega); omega
      have HXA := Lib.hid hxA
      obtain ⟨nmA, hnmA⟩ : ∃ x, (armN.take na)[iA]? = some x := ⟨_, List.getElem?_eq_getElem (by rw [LA.out]; exact hiA)⟩
      obtain ⟨gA, cA, egA, hrA⟩ := RA.out.at_ armC_len hnmA (by decide)
      injection egA with egA _ ecA
      injection egA with egA
      injection egA with egA
      subst egA
      have HRA : Hid (∀ W, Hld E0 W → W.cell? ⟨ga, iA * 12, none⟩ = some (.string nmA)) := Lib.hid fun W hW => rangeAt_cell (hrA W hW)
      have HNA : Hid (nmA ∈ armN.take na) := Lib.hid (by exact List.mem_of_getElem? hnmA)
      clear hrA hnmA hxA ecA
      go_wp2_with (first
          | go_skip
          | ((with_reducible refine isAlloc ?_); refine alA H ?_ (hz := zStm8); clear H; intro q9 _ H)
          | ((with_reducible refine isStore ?_); refine stA H ?_ (hT := by first | exact rStm8 | exact rRat); clear H; intro _ H)
          | ((with_reducible refine isLoad ?_); refine ldA H ?_ (hT := by first | exact rStm8 | exact rWks)))
      refine wp_region_Y 11 [.c (.pointer (some ⟨q, 0, none⟩)), .c (.slice (some ⟨ga, 0, none⟩) na ca), .c (.pointer (some ⟨b, 0, none⟩)), .c (.pointer (some ⟨q, 0, none⟩)), .c (.slice (some ⟨ga, 0, none⟩) na ca), .c (.int .i64 na), .y, .c (.pointer (some ⟨ga, iA * 12, none⟩)), .c (.pointer (some ⟨ga, iA * 12, none⟩)), .c (.string nmA), .c (.agg #[.int .i64 3, .string nmA, .string ⟨#[]⟩, .bool false, .string ⟨#[]⟩, .string ⟨#[]⟩, .int .i64 0, .slice none 0 0])] ((q6, 53, [.int .i64 0, .string ⟨#[]⟩, .string ⟨#[]⟩, .bool false, .string ⟨#[]⟩, .string ⟨#[]⟩, .int .i64 0, .slice none 0 0]) :: (q, 31, [.slice (some ⟨ga, 0, none⟩) na ca, .slice none 0 0, .slice (some ⟨gp, 0, none⟩) np cp, .slice (some ⟨gs, 0, none⟩) ns cc, .slice none 0 0, .bool false, .string ⟨#[]⟩, .string ⟨#[]⟩]) :: m) H (by (repeat (first | exact List.Sublist.refl _ | exact List.sublist_append_right _ _ | refine List.Sublist.cons_cons _ ?_ | refine List.Sublist.cons _ ?_))) (by kernel_rfl) (by kernel_rfl) (by kernel_rfl) ?_
      simp only [List.take_succ_cons, List.take_zero, List.drop_succ_cons, List.drop_zero]
      refine wpY_c (by rfl) (by (first | exact wanted_none rfl | exact wanted_some rfl rfl)) (by intro W _; first | (go_simp; rfl) | (go_simp; done) | (trace_state; fail)) ?_
      (simp only [Act.put, List.setIfInBounds_toArray, List.set_cons_succ, List.set_cons_zero])
      refine wpY_load1 (by rfl) (by rfl) (by (first | exact wanted_none rfl | exact wanted_some rfl rfl)) (by first | exact kPrl | exact kSll | exact kArl | exact kStr | exact kInt) (by rfl) (by (repeat (first | exact List.Mem.head _ | refine List.Mem.tail _ ?_ | assumption))) (by rfl) ?_
      (simp only [Act.put, List.setIfInBounds_toArray, List.set_cons_succ, List.set_cons_zero])
      refine wpY_c (by rfl) (by (first | exact wanted_none rfl | exact wanted_some rfl rfl)) (by intro W _; first | (go_simp; rfl) | (go_simp; done) | (trace_state; fail)) ?_
      (simp only [Act.put, List.setIfInBounds_toArray, List.set_cons_succ, List.set_cons_zero])
      refine wpY_c (by rfl) (by (first | exact wanted_none rfl | exact wanted_some rfl rfl)) (by intro W _; first | (go_simp; rfl) | (go_simp; done) | (trace_state; fail)) ?_
      (simp only [Act.put, List.setIfInBounds_toArray, List.set_cons_succ, List.set_cons_zero])
      refine wpY_load1 (by rfl) (by rfl) (by (first | exact wanted_none rfl | exact wanted_some rfl rfl)) (by first | exact kPrl | exact kSll | exact kArl | exact kStr | exact kInt) (by rfl) (by (repeat (first | exact List.Mem.head _ | refine List.Mem.tail _ ?_ | assumption))) (by rfl) ?_
      (simp only [Act.put, List.setIfInBounds_toArray, List.set_cons_succ, List.set_cons_zero])
      refine wpY_c (by rfl) (by (first | exact wanted_none rfl | exact wanted_some rfl rfl)) (by intro W _; first | (go_simp; rfl) | (go_simp; done) | (trace_state; fail)) ?_
      (simp only [Act.put, List.setIfInBounds_toArray, List.set_cons_succ, List.set_cons_zero])
      refine wpY_y (by rfl) (by (first | exact wanted_none rfl | exact wanted_some rfl rfl)) (fun G F W HF hG => ?_)
      go_simp
      unfold upY
      refine Calls.mono (nextH_any (m' := ((q6, 53, [.int .i64 0, .string ⟨#[]⟩, .string ⟨#[]⟩, .bool false, .string ⟨#[]⟩, .string ⟨#[]⟩, .int .i64 0, .slice none 0 0]) :: (q, 31, [.slice (some ⟨ga, 0, none⟩) na ca, .slice none 0 0, .slice (some ⟨gp, 0, none⟩) np cp, .slice (some ⟨gs, 0, none⟩) ns cc, .slice none 0 0, .bool false, .string ⟨#[]⟩, .string ⟨#[]⟩]) :: (b, 73, [S.sn.sn.sn.sn.v]) :: m) ++ F) S.sn.sn.sn b na HF (Lib.hid (HS.out.next.next.next)) (Lib.hid (by (repeat (first | apply Upd.head | apply Upd.tail | assumption)))) (by omega) (by omega)) ?_
      rintro _ W2 ⟨rfl, h2⟩
      refine ⟨_, rfl, hG _ _ ((q6, 53, [.int .i64 0, .string ⟨#[]⟩, .string ⟨#[]⟩, .bool false, .string ⟨#[]⟩, .string ⟨#[]⟩, .int .i64 0, .slice none 0 0]) :: (q, 31, [.slice (some ⟨ga, 0, none⟩) na ca, .slice none 0 0, .slice (some ⟨gp, 0, none⟩) np cp, .slice (some ⟨gs, 0, none⟩) ns cc, .slice none 0 0, .bool false, .string ⟨#[]⟩, .string ⟨#[]⟩]) :: (b, 73, [S.sn.sn.sn.sn.v]) :: m) h2 (by (repeat (first | exact List.Sublist.refl _ | exact List.sublist_append_right _ _ | refine List.Sublist.cons_cons _ ?_ | refine List.Sublist.cons _ ?_))) ?_⟩
      clear HF hG h2
      rw [HXA.out]
      (simp only [Act.put, List.setIfInBounds_toArray, List.set_cons_succ, List.set_cons_zero])
      refine wpY_c (by rfl) (by (first | exact wanted_none rfl | exact wanted_some rfl rfl)) (by intro W _; first | (go_simp; rfl) | (go_simp; done) | (trace_state; fail)) ?_
      (simp only [Act.put, List.setIfInBounds_toArray, List.set_cons_succ, List.set_cons_zero])
      refine wpY_c (by rfl) (by (first | exact wanted_none rfl | exact wanted_some rfl rfl)) (by intro W _; first | (go_simp; rfl) | (go_simp; done) | (trace_state; fail)) ?_
      (simp only [Act.put, List.setIfInBounds_toArray, List.set_cons_succ, List.set_cons_zero])
      refine wpY_loadX (by rfl) (by rfl) (by (first | exact wanted_none rfl | exact wanted_some rfl rfl)) kStr (by rfl) (by intro W HW; exact HRA.out _ (HW.out.hld (fun x hx => by have := HE.out x hx; simp only [List.mem_cons]; grind))) ?_
      (simp only [Act.put, List.setIfInBounds_toArray, List.set_cons_succ, List.set_cons_zero])
      refine wpY_c (by rfl) (by (first | exact wanted_none rfl | exact wanted_some rfl rfl)) (by intro W _; first | (go_simp; rfl) | (go_simp; done) | (trace_state; fail)) ?_
      (simp only [Act.put, List.setIfInBounds_toArray, List.set_cons_succ, List.set_cons_zero])
      refine wpY_nil ?_
      clear H
      intro _ H
      go_wp2_with (first
          | go_skip
          | ((with_reducible refine isAlloc ?_); refine alA H ?_ (hz := zStm8); clear H; intro q9 _ H)
          | ((with_reducible refine isStore ?_); refine stA H ?_ (hT := by first | exact rStm8 | exact rRat); clear H; intro _ H)
          | ((with_reducible refine isLoad ?_); refine ldA H ?_ (hT := by first | exact rStm8 | exact rWks)))
      exact bodyPost_ret (results_H H Tryd.results39 (by exact rStm8) rfl (by (repeat (first | exact List.Mem.head _ | refine List.Mem.tail _ ?_ | assumption))) (by rfl)) rfl ⟨⟨3, nmA, ⟨#[]⟩, none, 0, .slice none 0 0⟩, .mk 3 nmA ⟨#[]⟩ none 0 [], S.sn.sn.sn.sn, [], rfl, (Lib.hid (HS.out.next.next.next.next)).out, H.out.sub (by (repeat (first | exact List.Sublist.refl _ | exact List.sublist_append_right _ _ | refine List.Sublist.cons_cons _ ?_ | refine List.Sublist.cons _ ?_))), RSt.leaf _ ⟨small_i (x := 3) (by omega), small_i (x := 0) (by omega), an_sz HNA.out, empty_sz, SmO.none⟩, .inr (.inr (.inl ⟨rfl, HNA.out, rfl, rfl, rfl, rfl⟩))⟩
  · obtain ⟨iS, hxS⟩ : ∃ i : Nat, S.sn.sn.nx ns = i := ⟨(S.sn.sn.nx ns).toNat, by have := S.sn.sn.nx_bd ns (by omega); omega⟩
    have hiS : iS < ns := by have := S.sn.sn.nx_bd ns (by omega); omega
    have HXS := Lib.hid hxS
    obtain ⟨nmS, hnmS⟩ : ∃ x, ((slotN.take ns).map sltOf)[iS]? = some x := ⟨_, List.getElem?_eq_getElem (by rw [LS.out]; exact hiS)⟩
    obtain ⟨gS, cS, egS, hrS⟩ := RS.out.at_ Slt.len hnmS (by decide)
    injection egS with egS _ ecS
    injection egS with egS
    injection egS with egS
    subst egS
    have HRS : Hid (∀ W, Hld E0 W → W.cell? ⟨gs, iS * 14, none⟩ = some (.string nmS.nm)) := Lib.hid fun W hW => rangeAt_cell (hrS W hW)
    have HNS : Hid (nmS.nm ∈ slotN.take ns) := Lib.hid (by obtain ⟨y, hy, rfl⟩ := List.mem_map.1 (List.mem_of_getElem? hnmS); exact hy)
    clear hrS hnmS hxS ecS
    go_wp2_with (first
        | go_skip
        | ((with_reducible refine isAlloc ?_); refine alA H ?_ (hz := zStm8); clear H; intro q9 _ H)
        | ((with_reducible refine isStore ?_); refine stA H ?_ (hT := by first | exact rStm8 | exact rRat); clear H; intro _ H)
        | ((with_reducible refine isLoad ?_); refine ldA H ?_ (hT := by first | exact rStm8 | exact rWks)))
    refine wp_region_Y 13 [.c (.string nmP), .c (.pointer (some ⟨q, 3, none⟩)), .c (.slice (some ⟨gs, 0, none⟩) ns cc), .c (.pointer (some ⟨b, 0, none⟩)), .c (.pointer (some ⟨q, 3, none⟩)), .c (.slice (some ⟨gs, 0, none⟩) ns cc), .c (.int .i64 ns), .y, .c (.pointer (some ⟨gs, iS * 14, none⟩)), .c (.pointer (some ⟨gs, iS * 14, none⟩)), .c (.string nmS.nm), .c (.agg #[.int .i64 1, .string nmP, .string nmS.nm, .bool false, .string ⟨#[]⟩, .string ⟨#[]⟩, .int .i64 0, .slice none 0 0]), .a] ((q6, 53, [.int .i64 0, .string ⟨#[]⟩, .string ⟨#[]⟩, .bool false, .string ⟨#[]⟩, .string ⟨#[]⟩, .int .i64 0, .slice none 0 0]) :: (q, 31, [.slice (some ⟨ga, 0, none⟩) na ca, .slice none 0 0, .slice (some ⟨gp, 0, none⟩) np cp, .slice (some ⟨gs, 0, none⟩) ns cc, .slice none 0 0, .bool false, .string ⟨#[]⟩, .string ⟨#[]⟩]) :: m) H (by (repeat (first | exact List.Sublist.refl _ | exact List.sublist_append_right _ _ | refine List.Sublist.cons_cons _ ?_ | refine List.Sublist.cons _ ?_))) (by kernel_rfl) (by kernel_rfl) (by kernel_rfl) ?_
    simp only [List.take_succ_cons, List.take_zero, List.drop_succ_cons, List.drop_zero]
    refine wpY_c (by rfl) (by (first | exact wanted_none rfl | exact wanted_some rfl rfl)) (by intro W _; first | (go_simp; rfl) | (go_simp; done) | (trace_state; fail)) ?_
    (simp only [Act.put, List.setIfInBounds_toArray, List.set_cons_succ, List.set_cons_zero])
    refine wpY_c (by rfl) (by (first | exact wanted_none rfl | exact wanted_some rfl rfl)) (by intro W _; first | (go_simp; rfl) | (go_simp; done) | (trace_state; fail)) ?_
    (simp only [Act.put, List.setIfInBounds_toArray, List.set_cons_succ, List.set_cons_zero])
    refine wpY_load1 (by rfl) (by rfl) (by (first | exact wanted_none rfl | exact wanted_some rfl rfl)) (by first | exact kPrl | exact kSll | exact kArl | exact kStr | exact kInt) (by rfl) (by (repeat (first | exact List.Mem.head _ | refine List.Mem.tail _ ?_ | assumption))) (by rfl) ?_
    (simp only [Act.put, List.setIfInBounds_toArray, List.set_cons_succ, List.set_cons_zero])
    refine wpY_c (by rfl) (by (first | exact wanted_none rfl | exact wanted_some rfl rfl)) (by intro W _; first | (go_simp; rfl) | (go_simp; done) | (trace_state; fail)) ?_
    (simp only [Act.put, List.setIfInBounds_toArray, List.set_cons_succ, List.set_cons_zero])
    refine wpY_c (by rfl) (by (first | exact wanted_none rfl | exact wanted_some rfl rfl)) (by intro W _; first | (go_simp; rfl) | (go_simp; done) | (trace_state; fail)) ?_
    (simp only [Act.put, List.setIfInBounds_toArray, List.set_cons_succ, List.set_cons_zero])
    refine wpY_load1 (by rfl) (by rfl) (by (first | exact wanted_none rfl | exact wanted_some rfl rfl)) (by first | exact kPrl | exact kSll | exact kArl | exact kStr | exact kInt) (by rfl) (by (repeat (first | exact List.Mem.head _ | refine List.Mem.tail _ ?_ | assumption))) (by rfl) ?_
    (simp only [Act.put, List.setIfInBounds_toArray, List.set_cons_succ, List.set_cons_zero])
    refine wpY_c (by rfl) (by (first | exact wanted_none rfl | exact wanted_some rfl rfl)) (by intro W _; first | (go_simp; rfl) | (go_simp; done) | (trace_state; fail)) ?_
    (simp only [Act.put, List.setIfInBounds_toArray, List.set_cons_succ, List.set_cons_zero])
    refine wpY_y (by rfl) (by (first | exact wanted_none rfl | exact wanted_some rfl rfl)) (fun G F W HF hG => ?_)
    go_simp
    unfold upY
    refine Calls.mono (nextH_any (m' := ((q6, 53, [.int .i64 0, .string ⟨#[]⟩, .string ⟨#[]⟩, .bool false, .string ⟨#[]⟩, .string ⟨#[]⟩, .int .i64 0, .slice none 0 0]) :: (q, 31, [.slice (some ⟨ga, 0, none⟩) na ca, .slice none 0 0, .slice (some ⟨gp, 0, none⟩) np cp, .slice (some ⟨gs, 0, none⟩) ns cc, .slice none 0 0, .bool false, .string ⟨#[]⟩, .string ⟨#[]⟩]) :: (b, 73, [S.sn.sn.sn.v]) :: m) ++ F) S.sn.sn b ns HF (Lib.hid (HS.out.next.next)) (Lib.hid (by (repeat (first | apply Upd.head | apply Upd.tail | assumption)))) (by omega) (by omega)) ?_
    rintro _ W2 ⟨rfl, h2⟩
    refine ⟨_, rfl, hG _ _ ((q6, 53, [.int .i64 0, .string ⟨#[]⟩, .string ⟨#[]⟩, .bool false, .string ⟨#[]⟩, .string ⟨#[]⟩, .int .i64 0, .slice none 0 0]) :: (q, 31, [.slice (some ⟨ga, 0, none⟩) na ca, .slice none 0 0, .slice (some ⟨gp, 0, none⟩) np cp, .slice (some ⟨gs, 0, none⟩) ns cc, .slice none 0 0, .bool false, .string ⟨#[]⟩, .string ⟨#[]⟩]) :: (b, 73, [S.sn.sn.sn.v]) :: m) h2 (by (repeat (first | exact List.Sublist.refl _ | exact List.sublist_append_right _ _ | refine List.Sublist.cons_cons _ ?_ | refine List.Sublist.cons _ ?_))) ?_⟩
    clear HF hG h2
    rw [HXS.out]
    (simp only [Act.put, List.setIfInBounds_toArray, List.set_cons_succ, List.set_cons_zero])
    refine wpY_c (by rfl) (by (first | exact wanted_none rfl | exact wanted_some rfl rfl)) (by intro W _; first | (go_simp; rfl) | (go_simp; done) | (trace_state; fail)) ?_
    (simp only [Act.put, List.setIfInBounds_toArray, List.set_cons_succ, List.set_cons_zero])
    refine wpY_c (by rfl) (by (first | exact wanted_none rfl | exact wanted_some rfl rfl)) (by intro W _; first | (go_simp; rfl) | (go_simp; done) | (trace_state; fail)) ?_
    (simp only [Act.put, List.setIfInBounds_toArray, List.set_cons_succ, List.set_cons_zero])
    refine wpY_loadX (by rfl) (by rfl) (by (first | exact wanted_none rfl | exact wanted_some rfl rfl)) kStr (by rfl) (by intro W HW; exact HRS.out _ (HW.out.hld (fun x hx => by have := HE.out x hx; simp only [List.mem_cons]; grind))) ?_
    (simp only [Act.put, List.setIfInBounds_toArray, List.set_cons_succ, List.set_cons_zero])
    refine wpY_c (by rfl) (by (first | exact wanted_none rfl | exact wanted_some rfl rfl)) (by intro W _; first | (go_simp; rfl) | (go_simp; done) | (trace_state; fail)) ?_
    (simp only [Act.put, List.setIfInBounds_toArray, List.set_cons_succ, List.set_cons_zero])
    refine wpY_al (by rfl) (by rfl) (by rfl) zStm8 (by (simp only [Value.cells]; rfl)) ?_
    intro q9
    (simp only [Act.put, List.setIfInBounds_toArray, List.set_cons_succ, List.set_cons_zero])
    refine wpY_nil ?_
    clear H
    intro _ H
    go_wp2_with (first
        | go_skip
        | ((with_reducible refine isAlloc ?_); refine alA H ?_ (hz := zStm8); clear H; intro q9 _ H)
        | ((with_reducible refine isStore ?_); refine stA H ?_ (hT := by first | exact rStm8 | exact rRat); clear H; intro _ H)
        | ((with_reducible refine isLoad ?_); refine ldA H ?_ (hT := by first | exact rStm8 | exact rWks)))
    obtain ⟨x3, hx3⟩ : ∃ r, S.sn.sn.sn.nx 3 = r := ⟨_, rfl⟩
    have hbx3 := S.sn.sn.sn.nx_bd 3 (by omega)
    rw [hx3] at hbx3
    obtain ⟨hbx30, hbx31⟩ := hbx3
    have HVx3 := Lib.hid hx3
    clear hx3
    go_at_call 19
    refine Calls.mono (nextH_any S.sn.sn.sn b 3 H (Lib.hid (HS.out.next.next.next)) (Lib.hid (by (repeat (first | apply Upd.head | apply Upd.tail | assumption)))) (by omega) (by omega)) ?_
    rintro _ _ ⟨rfl, h2⟩
    replace H := Lib.hid h2
    clear h2
    rw [HVx3.out]
    by_cases h3 : x3 = 0
    · subst h3
      go_wp2_with (first
          | go_skip
          | ((with_reducible refine isAlloc ?_); refine alA H ?_ (hz := zStm8); clear H; intro q9 _ H)
          | ((with_reducible refine isStore ?_); refine stA H ?_ (hT := by first | exact rStm8 | exact rRat); clear H; intro _ H)
          | ((with_reducible refine isLoad ?_); refine ldA H ?_ (hT := by first | exact rStm8 | exact rWks)))
      obtain ⟨r5, hr5⟩ : ∃ r, S.sn.sn.sn.sn.nx 5 = r := ⟨_, rfl⟩
      have hbr5 := S.sn.sn.sn.sn.nx_bd 5 (by omega)
      rw [hr5] at hbr5
      obtain ⟨hbr50, hbr51⟩ := hbr5
      have HVr5 := Lib.hid hr5
      clear hr5
      obtain ⟨D, hD⟩ : ∃ D : Nat, 4 + r5 = (D : Int) := ⟨(4 + r5).toNat, by omega⟩
      have hD4 : 4 ≤ D := by omega
      have hD8 : D ≤ 8 := by omega
      go_at_call 19
      refine Calls.mono (nextH_any S.sn.sn.sn.sn b 5 H (Lib.hid (HS.out.next.next.next.next)) (Lib.hid (by (repeat (first | apply Upd.head | apply Upd.tail | assumption)))) (by omega) (by omega)) ?_
      rintro _ _ ⟨rfl, h2⟩
      replace H := Lib.hid h2
      clear h2
      rw [HVr5.out]
      go_wp2_with (first
          | go_skip
          | ((with_reducible refine isAlloc ?_); refine alA H ?_ (hz := zStm8); clear H; intro q9 _ H)
          | ((with_reducible refine isStore ?_); refine stA H ?_ (hT := by first | exact rStm8 | exact rRat); clear H; intro _ H)
          | ((with_reducible refine isLoad ?_); refine ldA H ?_ (hT := by first | exact rStm8 | exact rWks)))
      obtain ⟨q0, hq0⟩ : ∃ x, ofQ 1 D = x := ⟨_, rfl⟩
      have HQ := Lib.hid hq0
      go_at_call 9
      refine Calls.mono (ofQ_any 1 D q0 _ (by decide) (by decide) (by omega) (by omega) HQ) ?_
      rintro _ _ ⟨rfl, hb⟩
      replace H := Lib.hid (H.out.go hb)
      clear hb hq0 hD
      go_wp2_with (first
          | go_skip
          | ((with_reducible refine isAlloc ?_); refine alA H ?_ (hz := zStm8); clear H; intro q9 _ H)
          | ((with_reducible refine isStore ?_); refine stA H ?_ (hT := by first | exact rStm8 | exact rRat); clear H; intro _ H)
          | ((with_reducible refine isLoad ?_); refine ldA H ?_ (hT := by first | exact rStm8 | exact rWks)))
      exact bodyPost_ret (results_H H Tryd.results39 (by exact rStm8) rfl (by (repeat (first | exact List.Mem.head _ | refine List.Mem.tail _ ?_ | assumption))) (by rfl)) rfl ⟨⟨1, nmP, nmS.nm, (some q0), 0, .slice none 0 0⟩, .mk 1 nmP nmS.nm (some q0) 0 [], S.sn.sn.sn.sn.sn, [], rfl, (Lib.hid (HS.out.next.next.next.next.next)).out, H.out.sub (by (repeat (first | exact List.Sublist.refl _ | exact List.sublist_append_right _ _ | refine List.Sublist.cons_cons _ ?_ | refine List.Sublist.cons _ ?_))), RSt.leaf _ ⟨small_i (x := 1) (by omega), small_i (x := 0) (by omega), pn_sz HNP.out, sn_sz HNS.out, by rw [← HQ.out]; exact ofq_sm D hD4 hD8⟩, .inl ⟨rfl, HNP.out, HNS.out, .inr ⟨D, hD4, hD8, by rw [← HQ.out]; rfl⟩, rfl, rfl⟩⟩
    · have x30p : ¬ (x3 = 0) := h3
      have x30d : decide (x3 = 0) = false := decide_eq_false x30p
      go_wp2_with (first
          | go_skip
          | ((with_reducible refine isAlloc ?_); refine alA H ?_ (hz := zStm8); clear H; intro q9 _ H)
          | ((with_reducible refine isStore ?_); refine stA H ?_ (hT := by first | exact rStm8 | exact rRat); clear H; intro _ H)
          | ((with_reducible refine isLoad ?_); refine ldA H ?_ (hT := by first | exact rStm8 | exact rWks)))
      exact bodyPost_ret (results_H H Tryd.results39 (by exact rStm8) rfl (by (repeat (first | exact List.Mem.head _ | refine List.Mem.tail _ ?_ | assumption))) (by rfl)) rfl ⟨⟨1, nmP, nmS.nm, none, 0, .slice none 0 0⟩, .mk 1 nmP nmS.nm none 0 [], S.sn.sn.sn.sn, [], rfl, (Lib.hid (HS.out.next.next.next.next)).out, H.out.sub (by (repeat (first | exact List.Sublist.refl _ | exact List.sublist_append_right _ _ | refine List.Sublist.cons_cons _ ?_ | refine List.Sublist.cons _ ?_))), RSt.leaf _ ⟨small_i (x := 1) (by omega), small_i (x := 0) (by omega), pn_sz HNP.out, sn_sz HNS.out, SmO.none⟩, .inl ⟨rfl, HNP.out, HNS.out, .inl rfl, rfl, rfl⟩⟩
  · obtain ⟨iS, hxS⟩ : ∃ i : Nat, S.sn.sn.nx ns = i := ⟨(S.sn.sn.nx ns).toNat, by have := S.sn.sn.nx_bd ns (by omega); omega⟩
    have hiS : iS < ns := by have := S.sn.sn.nx_bd ns (by omega); omega
    have HXS := Lib.hid hxS
    obtain ⟨nmS, hnmS⟩ : ∃ x, ((slotN.take ns).map sltOf)[iS]? = some x := ⟨_, List.getElem?_eq_getElem (by rw [LS.out]; exact hiS)⟩
    obtain ⟨gS, cS, egS, hrS⟩ := RS.out.at_ Slt.len hnmS (by decide)
    injection egS with egS _ ecS
    injection egS with egS
    injection egS with egS
    subst egS
    have HRS : Hid (∀ W, Hld E0 W → W.cell? ⟨gs, iS * 14, none⟩ = some (.string nmS.nm)) := Lib.hid fun W hW => rangeAt_cell (hrS W hW)
    have HNS : Hid (nmS.nm ∈ slotN.take ns) := Lib.hid (by obtain ⟨y, hy, rfl⟩ := List.mem_map.1 (List.mem_of_getElem? hnmS); exact hy)
    clear hrS hnmS hxS ecS
    go_wp2_with (first
        | go_skip
        | ((with_reducible refine isAlloc ?_); refine alA H ?_ (hz := zStm8); clear H; intro q9 _ H)
        | ((with_reducible refine isStore ?_); refine stA H ?_ (hT := by first | exact rStm8 | exact rRat); clear H; intro _ H)
        | ((with_reducible refine isLoad ?_); refine ldA H ?_ (hT := by first | exact rStm8 | exact rWks)))
    refine wp_region_Y 13 [.c (.string nmP), .c (.pointer (some ⟨q, 3, none⟩)), .c (.slice (some ⟨gs, 0, none⟩) ns cc), .c (.pointer (some ⟨b, 0, none⟩)), .c (.pointer (some ⟨q, 3, none⟩)), .c (.slice (some ⟨gs, 0, none⟩) ns cc), .c (.int .i64 ns), .y, .c (.pointer (some ⟨gs, iS * 14, none⟩)), .c (.pointer (some ⟨gs, iS * 14, none⟩)), .c (.string nmS.nm), .c (.agg #[.int .i64 1, .string nmP, .string nmS.nm, .bool false, .string ⟨#[]⟩, .string ⟨#[]⟩, .int .i64 0, .slice none 0 0]), .a] ((q6, 53, [.int .i64 0, .string ⟨#[]⟩, .string ⟨#[]⟩, .bool false, .string ⟨#[]⟩, .string ⟨#[]⟩, .int .i64 0, .slice none 0 0]) :: (q, 31, [.slice (some ⟨ga, 0, none⟩) na ca, .slice none 0 0, .slice (some ⟨gp, 0, none⟩) np cp, .slice (some ⟨gs, 0, none⟩) ns cc, .slice none 0 0, .bool false, .string ⟨#[]⟩, .string ⟨#[]⟩]) :: m) H (by (repeat (first | exact List.Sublist.refl _ | exact List.sublist_append_right _ _ | refine List.Sublist.cons_cons _ ?_ | refine List.Sublist.cons _ ?_))) (by kernel_rfl) (by kernel_rfl) (by kernel_rfl) ?_
    simp only [List.take_succ_cons, List.take_zero, List.drop_succ_cons, List.drop_zero]
    refine wpY_c (by rfl) (by (first | exact wanted_none rfl | exact wanted_some rfl rfl)) (by intro W _; first | (go_simp; rfl) | (go_simp; done) | (trace_state; fail)) ?_
    (simp only [Act.put, List.setIfInBounds_toArray, List.set_cons_succ, List.set_cons_zero])
    refine wpY_c (by rfl) (by (first | exact wanted_none rfl | exact wanted_some rfl rfl)) (by intro W _; first | (go_simp; rfl) | (go_simp; done) | (trace_state; fail)) ?_
    (simp only [Act.put, List.setIfInBounds_toArray, List.set_cons_succ, List.set_cons_zero])
    refine wpY_load1 (by rfl) (by rfl) (by (first | exact wanted_none rfl | exact wanted_some rfl rfl)) (by first | exact kPrl | exact kSll | exact kArl | exact kStr | exact kInt) (by rfl) (by (repeat (first | exact List.Mem.head _ | refine List.Mem.tail _ ?_ | assumption))) (by rfl) ?_
    (simp only [Act.put, List.setIfInBounds_toArray, List.set_cons_succ, List.set_cons_zero])
    refine wpY_c (by rfl) (by (first | exact wanted_none rfl | exact wanted_some rfl rfl)) (by intro W _; first | (go_simp; rfl) | (go_simp; done) | (trace_state; fail)) ?_
    (simp only [Act.put, List.setIfInBounds_toArray, List.set_cons_succ, List.set_cons_zero])
    refine wpY_c (by rfl) (by (first | exact wanted_none rfl | exact wanted_some rfl rfl)) (by intro W _; first | (go_simp; rfl) | (go_simp; done) | (trace_state; fail)) ?_
    (simp only [Act.put, List.setIfInBounds_toArray, List.set_cons_succ, List.set_cons_zero])
    refine wpY_load1 (by rfl) (by rfl) (by (first | exact wanted_none rfl | exact wanted_some rfl rfl)) (by first | exact kPrl | exact kSll | exact kArl | exact kStr | exact kInt) (by rfl) (by (repeat (first | exact List.Mem.head _ | refine List.Mem.tail _ ?_ | assumption))) (by rfl) ?_
    (simp only [Act.put, List.setIfInBounds_toArray, List.set_cons_succ, List.set_cons_zero])
    refine wpY_c (by rfl) (by (first | exact wanted_none rfl | exact wanted_some rfl rfl)) (by intro W _; first | (go_simp; rfl) | (go_simp; done) | (trace_state; fail)) ?_
    (simp only [Act.put, List.setIfInBounds_toArray, List.set_cons_succ, List.set_cons_zero])
    refine wpY_y (by rfl) (by (first | exact wanted_none rfl | exact wanted_some rfl rfl)) (fun G F W HF hG => ?_)
    go_simp
    unfold upY
    refine Calls.mono (nextH_any (m' := ((q6, 53, [.int .i64 0, .string ⟨#[]⟩, .string ⟨#[]⟩, .bool false, .string ⟨#[]⟩, .string ⟨#[]⟩, .int .i64 0, .slice none 0 0]) :: (q, 31, [.slice (some ⟨ga, 0, none⟩) na ca, .slice none 0 0, .slice (some ⟨gp, 0, none⟩) np cp, .slice (some ⟨gs, 0, none⟩) ns cc, .slice none 0 0, .bool false, .string ⟨#[]⟩, .string ⟨#[]⟩]) :: (b, 73, [S.sn.sn.sn.v]) :: m) ++ F) S.sn.sn b ns HF (Lib.hid (HS.out.next.next)) (Lib.hid (by (repeat (first | apply Upd.head | apply Upd.tail | assumption)))) (by omega) (by omega)) ?_
    rintro _ W2 ⟨rfl, h2⟩
    refine ⟨_, rfl, hG _ _ ((q6, 53, [.int .i64 0, .string ⟨#[]⟩, .string ⟨#[]⟩, .bool false, .string ⟨#[]⟩, .string ⟨#[]⟩, .int .i64 0, .slice none 0 0]) :: (q, 31, [.slice (some ⟨ga, 0, none⟩) na ca, .slice none 0 0, .slice (some ⟨gp, 0, none⟩) np cp, .slice (some ⟨gs, 0, none⟩) ns cc, .slice none 0 0, .bool false, .string ⟨#[]⟩, .string ⟨#[]⟩]) :: (b, 73, [S.sn.sn.sn.v]) :: m) h2 (by (repeat (first | exact List.Sublist.refl _ | exact List.sublist_append_right _ _ | refine List.Sublist.cons_cons _ ?_ | refine List.Sublist.cons _ ?_))) ?_⟩
    clear HF hG h2
    rw [HXS.out]
    (simp only [Act.put, List.setIfInBounds_toArray, List.set_cons_succ, List.set_cons_zero])
    refine wpY_c (by rfl) (by (first | exact wanted_none rfl | exact wanted_some rfl rfl)) (by intro W _; first | (go_simp; rfl) | (go_simp; done) | (trace_state; fail)) ?_
    (simp only [Act.put, List.setIfInBounds_toArray, List.set_cons_succ, List.set_cons_zero])
    refine wpY_c (by rfl) (by (first | exact wanted_none rfl | exact wanted_some rfl rfl)) (by intro W _; first | (go_simp; rfl) | (go_simp; done) | (trace_state; fail)) ?_
    (simp only [Act.put, List.setIfInBounds_toArray, List.set_cons_succ, List.set_cons_zero])
    refine wpY_loadX (by rfl) (by rfl) (by (first | exact wanted_none rfl | exact wanted_some rfl rfl)) kStr (by rfl) (by intro W HW; exact HRS.out _ (HW.out.hld (fun x hx => by have := HE.out x hx; simp only [List.mem_cons]; grind))) ?_
    (simp only [Act.put, List.setIfInBounds_toArray, List.set_cons_succ, List.set_cons_zero])
    refine wpY_c (by rfl) (by (first | exact wanted_none rfl | exact wanted_some rfl rfl)) (by intro W _; first | (go_simp; rfl) | (go_simp; done) | (trace_state; fail)) ?_
    (simp only [Act.put, List.setIfInBounds_toArray, List.set_cons_succ, List.set_cons_zero])
    refine wpY_al (by rfl) (by rfl) (by rfl) zStm8 (by (simp only [Value.cells]; rfl)) ?_
    intro q9
    (simp only [Act.put, List.setIfInBounds_toArray, List.set_cons_succ, List.set_cons_zero])
    refine wpY_nil ?_
    clear H
    intro _ H
    go_wp2_with (first
        | go_skip
        | ((with_reducible refine isAlloc ?_); refine alA H ?_ (hz := zStm8); clear H; intro q9 _ H)
        | ((with_reducible refine isStore ?_); refine stA H ?_ (hT := by first | exact rStm8 | exact rRat); clear H; intro _ H)
        | ((with_reducible refine isLoad ?_); refine ldA H ?_ (hT := by first | exact rStm8 | exact rWks)))
    obtain ⟨x3, hx3⟩ : ∃ r, S.sn.sn.sn.nx 3 = r := ⟨_, rfl⟩
    have hbx3 := S.sn.sn.sn.nx_bd 3 (by omega)
    rw [hx3] at hbx3
    obtain ⟨hbx30, hbx31⟩ := hbx3
    have HVx3 := Lib.hid hx3
    clear hx3
    go_at_call 19
    refine Calls.mono (nextH_any S.sn.sn.sn b 3 H (Lib.hid (HS.out.next.next.next)) (Lib.hid (by (repeat (first | apply Upd.head | apply Upd.tail | assumption)))) (by omega) (by omega)) ?_
    rintro _ _ ⟨rfl, h2⟩
    replace H := Lib.hid h2
    clear h2
    rw [HVx3.out]
    by_cases h3 : x3 = 0
    · subst h3
      go_wp2_with (first
          | go_skip
          | ((with_reducible refine isAlloc ?_); refine alA H ?_ (hz := zStm8); clear H; intro q9 _ H)
          | ((with_reducible refine isStore ?_); refine stA H ?_ (hT := by first | exact rStm8 | exact rRat); clear H; intro _ H)
          | ((with_reducible refine isLoad ?_); refine ldA H ?_ (hT := by first | exact rStm8 | exact rWks)))
      obtain ⟨r5, hr5⟩ : ∃ r, S.sn.sn.sn.sn.nx 5 = r := ⟨_, rfl⟩
      have hbr5 := S.sn.sn.sn.sn.nx_bd 5 (by omega)
      rw [hr5] at hbr5
      obtain ⟨hbr50, hbr51⟩ := hbr5
      have HVr5 := Lib.hid hr5
      clear hr5
      obtain ⟨D, hD⟩ : ∃ D : Nat, 4 + r5 = (D : Int) := ⟨(4 + r5).toNat, by omega⟩
      have hD4 : 4 ≤ D := by omega
      have hD8 : D ≤ 8 := by omega
      go_at_call 19
      refine Calls.mono (nextH_any S.sn.sn.sn.sn b 5 H (Lib.hid (HS.out.next.next.next.next)) (Lib.hid (by (repeat (first | apply Upd.head | apply Upd.tail | assumption)))) (by omega) (by omega)) ?_
      rintro _ _ ⟨rfl, h2⟩
      replace H := Lib.hid h2
      clear h2
      rw [HVr5.out]
      go_wp2_with (first
          | go_skip
          | ((with_reducible refine isAlloc ?_); refine alA H ?_ (hz := zStm8); clear H; intro q9 _ H)
          | ((with_reducible refine isStore ?_); refine stA H ?_ (hT := by first | exact rStm8 | exact rRat); clear H; intro _ H)
          | ((with_reducible refine isLoad ?_); refine ldA H ?_ (hT := by first | exact rStm8 | exact rWks)))
      obtain ⟨q0, hq0⟩ : ∃ x, ofQ 1 D = x := ⟨_, rfl⟩
      have HQ := Lib.hid hq0
      go_at_call 9
      refine Calls.mono (ofQ_any 1 D q0 _ (by decide) (by decide) (by omega) (by omega) HQ) ?_
      rintro _ _ ⟨rfl, hb⟩
      replace H := Lib.hid (H.out.go hb)
      clear hb hq0 hD
      go_wp2_with (first
          | go_skip
          | ((with_reducible refine isAlloc ?_); refine alA H ?_ (hz := zStm8); clear H; intro q9 _ H)
          | ((with_reducible refine isStore ?_); refine stA H ?_ (hT := by first | exact rStm8 | exact rRat); clear H; intro _ H)
          | ((with_reducible refine isLoad ?_); refine ldA H ?_ (hT := by first | exact rStm8 | exact rWks)))
      exact bodyPost_ret (results_H H Tryd.results39 (by exact rStm8) rfl (by (repeat (first | exact List.Mem.head _ | refine List.Mem.tail _ ?_ | assumption))) (by rfl)) rfl ⟨⟨1, nmP, nmS.nm, (some q0), 0, .slice none 0 0⟩, .mk 1 nmP nmS.nm (some q0) 0 [], S.sn.sn.sn.sn.sn, [], rfl, (Lib.hid (HS.out.next.next.next.next.next)).out, H.out.sub (by (repeat (first | exact List.Sublist.refl _ | exact List.sublist_append_right _ _ | refine List.Sublist.cons_cons _ ?_ | refine List.Sublist.cons _ ?_))), RSt.leaf _ ⟨small_i (x := 1) (by omega), small_i (x := 0) (by omega), pn_sz HNP.out, sn_sz HNS.out, by rw [← HQ.out]; exact ofq_sm D hD4 hD8⟩, .inl ⟨rfl, HNP.out, HNS.out, .inr ⟨D, hD4, hD8, by rw [← HQ.out]; rfl⟩, rfl, rfl⟩⟩
    · have x30p : ¬ (x3 = 0) := h3
      have x30d : decide (x3 = 0) = false := decide_eq_false x30p
      go_wp2_with (first
          | go_skip
          | ((with_reducible refine isAlloc ?_); refine alA H ?_ (hz := zStm8); clear H; intro q9 _ H)
          | ((with_reducible refine isStore ?_); refine stA H ?_ (hT := by first | exact rStm8 | exact rRat); clear H; intro _ H)
          | ((with_reducible refine isLoad ?_); refine ldA H ?_ (hT := by first | exact rStm8 | exact rWks)))
      exact bodyPost_ret (results_H H Tryd.results39 (by exact rStm8) rfl (by (repeat (first | exact List.Mem.head _ | refine List.Mem.tail _ ?_ | assumption))) (by rfl)) rfl ⟨⟨1, nmP, nmS.nm, none, 0, .slice none 0 0⟩, .mk 1 nmP nmS.nm none 0 [], S.sn.sn.sn.sn, [], rfl, (Lib.hid (HS.out.next.next.next.next)).out, H.out.sub (by (repeat (first | exact List.Sublist.refl _ | exact List.sublist_append_right _ _ | refine List.Sublist.cons_cons _ ?_ | refine List.Sublist.cons _ ?_))), RSt.leaf _ ⟨small_i (x := 1) (by omega), small_i (x := 0) (by omega), pn_sz HNP.out, sn_sz HNS.out, SmO.none⟩, .inl ⟨rfl, HNP.out, HNS.out, .inl rfl, rfl, rfl⟩⟩
  · obtain ⟨iA, hxA⟩ : ∃ i : Nat, S.sn.sn.nx na = i := ⟨(S.sn.sn.nx na).toNat, by have := S.sn.sn.nx_bd na (by omega); omega⟩
    have hiA : iA < na := by have := S.sn.sn.nx_bd na (by omega); omega
    have HXA := Lib.hid hxA
    obtain ⟨nmA, hnmA⟩ : ∃ x, (armN.take na)[iA]? = some x := ⟨_, List.getElem?_eq_getElem (by rw [LA.out]; exact hiA)⟩
    obtain ⟨gA, cA, egA, hrA⟩ := RA.out.at_ armC_len hnmA (by decide)
    injection egA with egA _ ecA
    injection egA with egA
    injection egA with egA
    subst egA
    have HRA : Hid (∀ W, Hld E0 W → W.cell? ⟨ga, iA * 12, none⟩ = some (.string nmA)) := Lib.hid fun W hW => rangeAt_cell (hrA W hW)
    have HNA : Hid (nmA ∈ armN.take na) := Lib.hid (by exact List.mem_of_getElem? hnmA)
    clear hrA hnmA hxA ecA
    go_wp2_with (first
        | go_skip
        | ((with_reducible refine isAlloc ?_); refine alA H ?_ (hz := zStm8); clear H; intro q9 _ H)
        | ((with_reducible refine isStore ?_); refine stA H ?_ (hT := by first | exact rStm8 | exact rRat); clear H; intro _ H)
        | ((with_reducible refine isLoad ?_); refine ldA H ?_ (hT := by first | exact rStm8 | exact rWks)))
    refine wp_region_Y 12 [.c (.string nmP), .c (.pointer (some ⟨q, 0, none⟩)), .c (.slice (some ⟨ga, 0, none⟩) na ca), .c (.pointer (some ⟨b, 0, none⟩)), .c (.pointer (some ⟨q, 0, none⟩)), .c (.slice (some ⟨ga, 0, none⟩) na ca), .c (.int .i64 na), .y, .c (.pointer (some ⟨ga, iA * 12, none⟩)), .c (.pointer (some ⟨ga, iA * 12, none⟩)), .c (.string nmA), .c (.agg #[.int .i64 2, .string nmP, .string nmA, .bool false, .string ⟨#[]⟩, .string ⟨#[]⟩, .int .i64 0, .slice none 0 0])] ((q6, 53, [.int .i64 0, .string ⟨#[]⟩, .string ⟨#[]⟩, .bool false, .string ⟨#[]⟩, .string ⟨#[]⟩, .int .i64 0, .slice none 0 0]) :: (q, 31, [.slice (some ⟨ga, 0, none⟩) na ca, .slice none 0 0, .slice (some ⟨gp, 0, none⟩) np cp, .slice (some ⟨gs, 0, none⟩) ns cc, .slice none 0 0, .bool false, .string ⟨#[]⟩, .string ⟨#[]⟩]) :: m) H (by (repeat (first | exact List.Sublist.refl _ | exact List.sublist_append_right _ _ | refine List.Sublist.cons_cons _ ?_ | refine List.Sublist.cons _ ?_))) (by kernel_rfl) (by kernel_rfl) (by kernel_rfl) ?_
    simp only [List.take_succ_cons, List.take_zero, List.drop_succ_cons, List.drop_zero]
    refine wpY_c (by rfl) (by (first | exact wanted_none rfl | exact wanted_some rfl rfl)) (by intro W _; first | (go_simp; rfl) | (go_simp; done) | (trace_state; fail)) ?_
    (simp only [Act.put, List.setIfInBounds_toArray, List.set_cons_succ, List.set_cons_zero])
    refine wpY_c (by rfl) (by (first | exact wanted_none rfl | exact wanted_some rfl rfl)) (by intro W _; first | (go_simp; rfl) | (go_simp; done) | (trace_state; fail)) ?_
    (simp only [Act.put, List.setIfInBounds_toArray, List.set_cons_succ, List.set_cons_zero])
    refine wpY_load1 (by rfl) (by rfl) (by (first | exact wanted_none rfl | exact wanted_some rfl rfl)) (by first | exact kPrl | exact kSll | exact kArl | exact kStr | exact kInt) (by rfl) (by (repeat (first | exact List.Mem.head _ | refine List.Mem.tail _ ?_ | assumption))) (by rfl) ?_
    (simp only [Act.put, List.setIfInBounds_toArray, List.set_cons_succ, List.set_cons_zero])
    refine wpY_c (by rfl) (by (first | exact wanted_none rfl | exact wanted_some rfl rfl)) (by intro W _; first | (go_simp; rfl) | (go_simp; done) | (trace_state; fail)) ?_
    (simp only [Act.put, List.setIfInBounds_toArray, List.set_cons_succ, List.set_cons_zero])
    refine wpY_c (by rfl) (by (first | exact wanted_none rfl | exact wanted_some rfl rfl)) (by intro W _; first | (go_simp; rfl) | (go_simp; done) | (trace_state; fail)) ?_
    (simp only [Act.put, List.setIfInBounds_toArray, List.set_cons_succ, List.set_cons_zero])
    refine wpY_load1 (by rfl) (by rfl) (by (first | exact wanted_none rfl | exact wanted_some rfl rfl)) (by first | exact kPrl | exact kSll | exact kArl | exact kStr | exact kInt) (by rfl) (by (repeat (first | exact List.Mem.head _ | refine List.Mem.tail _ ?_ | assumption))) (by rfl) ?_
    (simp only [Act.put, List.setIfInBounds_toArray, List.set_cons_succ, List.set_cons_zero])
    refine wpY_c (by rfl) (by (first | exact wanted_none rfl | exact wanted_some rfl rfl)) (by intro W _; first | (go_simp; rfl) | (go_simp; done) | (trace_state; fail)) ?_
    (simp only [Act.put, List.setIfInBounds_toArray, List.set_cons_succ, List.set_cons_zero])
    refine wpY_y (by rfl) (by (first | exact wanted_none rfl | exact wanted_some rfl rfl)) (fun G F W HF hG => ?_)
    go_simp
    unfold upY
    refine Calls.mono (nextH_any (m' := ((q6, 53, [.int .i64 0, .string ⟨#[]⟩, .string ⟨#[]⟩, .bool false, .string ⟨#[]⟩, .string ⟨#[]⟩, .int .i64 0, .slice none 0 0]) :: (q, 31, [.slice (some ⟨ga, 0, none⟩) na ca, .slice none 0 0, .slice (some ⟨gp, 0, none⟩) np cp, .slice (some ⟨gs, 0, none⟩) ns cc, .slice none 0 0, .bool false, .string ⟨#[]⟩, .string ⟨#[]⟩]) :: (b, 73, [S.sn.sn.sn.v]) :: m) ++ F) S.sn.sn b na HF (Lib.hid (HS.out.next.next)) (Lib.hid (by (repeat (first | apply Upd.head | apply Upd.tail | assumption)))) (by omega) (by omega)) ?_
    rintro _ W2 ⟨rfl, h2⟩
    refine ⟨_, rfl, hG _ _ ((q6, 53, [.int .i64 0, .string ⟨#[]⟩, .string ⟨#[]⟩, .bool false, .string ⟨#[]⟩, .string ⟨#[]⟩, .int .i64 0, .slice none 0 0]) :: (q, 31, [.slice (some ⟨ga, 0, none⟩) na ca, .slice none 0 0, .slice (some ⟨gp, 0, none⟩) np cp, .slice (some ⟨gs, 0, none⟩) ns cc, .slice none 0 0, .bool false, .string ⟨#[]⟩, .string ⟨#[]⟩]) :: (b, 73, [S.sn.sn.sn.v]) :: m) h2 (by (repeat (first | exact List.Sublist.refl _ | exact List.sublist_append_right _ _ | refine List.Sublist.cons_cons _ ?_ | refine List.Sublist.cons _ ?_))) ?_⟩
    clear HF hG h2
    rw [HXA.out]
    (simp only [Act.put, List.setIfInBounds_toArray, List.set_cons_succ, List.set_cons_zero])
    refine wpY_c (by rfl) (by (first | exact wanted_none rfl | exact wanted_some rfl rfl)) (by intro W _; first | (go_simp; rfl) | (go_simp; done) | (trace_state; fail)) ?_
    (simp only [Act.put, List.setIfInBounds_toArray, List.set_cons_succ, List.set_cons_zero])
    refine wpY_c (by rfl) (by (first | exact wanted_none rfl | exact wanted_some rfl rfl)) (by intro W _; first | (go_simp; rfl) | (go_simp; done) | (trace_state; fail)) ?_
    (simp only [Act.put, List.setIfInBounds_toArray, List.set_cons_succ, List.set_cons_zero])
    refine wpY_loadX (by rfl) (by rfl) (by (first | exact wanted_none rfl | exact wanted_some rfl rfl)) kStr (by rfl) (by intro W HW; exact HRA.out _ (HW.out.hld (fun x hx => by have := HE.out x hx; simp only [List.mem_cons]; grind))) ?_
    (simp only [Act.put, List.setIfInBounds_toArray, List.set_cons_succ, List.set_cons_zero])
    refine wpY_c (by rfl) (by (first | exact wanted_none rfl | exact wanted_some rfl rfl)) (by intro W _; first | (go_simp; rfl) | (go_simp; done) | (trace_state; fail)) ?_
    (simp only [Act.put, List.setIfInBounds_toArray, List.set_cons_succ, List.set_cons_zero])
    refine wpY_nil ?_
    clear H
    intro _ H
    go_wp2_with (first
        | go_skip
        | ((with_reducible refine isAlloc ?_); refine alA H ?_ (hz := zStm8); clear H; intro q9 _ H)
        | ((with_reducible refine isStore ?_); refine stA H ?_ (hT := by first | exact rStm8 | exact rRat); clear H; intro _ H)
        | ((with_reducible refine isLoad ?_); refine ldA H ?_ (hT := by first | exact rStm8 | exact rWks)))
    exact bodyPost_ret (results_H H Tryd.results39 (by exact rStm8) rfl (by (repeat (first | exact List.Mem.head _ | refine List.Mem.tail _ ?_ | assumption))) (by rfl)) rfl ⟨⟨2, nmP, nmA, none, 0, .slice none 0 0⟩, .mk 2 nmP nmA none 0 [], S.sn.sn.sn, [], rfl, (Lib.hid (HS.out.next.next.next)).out, H.out.sub (by (repeat (first | exact List.Sublist.refl _ | exact List.sublist_append_right _ _ | refine List.Sublist.cons_cons _ ?_ | refine List.Sublist.cons _ ?_))), RSt.leaf _ ⟨small_i (x := 2) (by omega), small_i (x := 0) (by omega), pn_sz HNP.out, an_sz HNA.out, SmO.none⟩, .inr (.inl ⟨rfl, HNP.out, HNA.out, rfl, rfl, rfl⟩)⟩
end Go.Proofs.YtbphdmnomakeoaaDoor
