/- numbers as texts and back; the reader: count. Printed by gen/rd.py. · the reader: within. Printed by gen/rd.py. · the reader, by outcome; plain. Printed by gen/rd.py. · the reader: block. Printed by gen/rd.py. · the reader: blocks. Printed by gen/rd.py. · the reader: stmt. Printed by gen/rd.py. · parse.Read. Printed by gen/rd.py. · the printer at statements without blocks. Printed by gen/prv.py. · the printer at lists. Printed by gen/prv.py. · the printer at statements with blocks. Printed by gen/prv.py. · the printer at every statement; what is read can be printed. Printed by gen/prv.py. -/
import Derived.Test.YtaiokjhjakdhaaaGreatDoorPb24
import Derived.Test.YtaiokjhjakdhaaaGreatDoorPb20
import Derived.Lib.AppendIntMem
import Derived.Lib.AtoiErrMem
import Derived.Test.YtaiokjhjakdhaaaGreatDoorPb22
import Derived.Test.YtaiokjhjakdhaaaGreatDoorPb17
namespace Go.Proofs.YtaiokjhjakdhaaaGreatDoor
open Go.RowKit
set_option linter.unusedVariables false
set_option maxRecDepth 100000

/-- The library's variables that the reader needs lie in the world as they are laid. -/
structure Vr (w : World) : Prop where
  t : Lib.TabIs Tryz.prog w "internal/strconv.uint64pow10" .u64 Lib.pow10Tab
  s : ∃ tp p, w.var? Tryz.prog "strconv.ErrSyntax" = some #[.iface tp p]
  r : ∃ tp p, w.var? Tryz.prog "strconv.ErrRange" = some #[.iface tp p]
theorem var_below {P : Program} {n : String} {g : Nat} {cs : Array Value} {w w' : World} (hg : P.globalNamed n = some g) (h : w.var? P n = some cs) (hb : Below w.heap.size w w') : w'.var? P n = some cs := by
  unfold World.var? at h ⊢
  rw [hg] at h ⊢
  simp only [Option.bind_some] at h ⊢
  have hlt : g < w.heap.size := by
    rcases Nat.lt_or_ge g w.heap.size with h' | h'
    · exact h'
    · rw [Array.getElem?_eq_none h'] at h; cases h
  rw [hb.block g hlt]
  exact h
theorem Vr.below {w w' : World} (h : Vr w) (hb : Below w.heap.size w w') : Vr w' := by
  obtain ⟨a, b, h1⟩ := h.s
  obtain ⟨c, d, h2⟩ := h.r
  exact ⟨var_below (g := 1) (by kernel_rfl) h.t hb, ⟨a, b, var_below (g := 2) (by kernel_rfl) h1 hb⟩, ⟨c, d, var_below (g := 3) (by kernel_rfl) h2 hb⟩⟩
theorem number_any (n : Int) (w : World) (h0 : -9223372036854775808 ≤ n) (h1 : n ≤ 9223372036854775807) (hV : Vr w) : Calls Tryz.prog 42 #[.int .i64 n] w fun e w' => e = .returned (.string (numT n)) ∧ Below w.heap.size w w' := by
  have VV := Lib.hid hV
  clear hV
  go_enter Tryz.func42, Tryz.ntmps42
  go_wp2_with (first
    | go_skip
    | (go_at_call 61; refine (Tryz.strconv_FormatInt_10 n h0 h1 _ VV.out.t).mono ?_; rintro _ _ ⟨rfl, k, os, rfl⟩))
  go_ret
  exact ⟨rfl, Lib.below_grow _ _ (Nat.le_refl _) _ _⟩
theorem parseInt_any (s : ByteArray) (w : World) (hs : s.size ≤ 4096) (hV : Vr w) : Calls Tryz.prog 68 #[.string s, .int .i64 10, .int .i64 64] w fun e w' => (∃ (n : Int) (er : Value), e = .returned (.tuple #[.int .i64 n, er]) ∧ ((er = .nilIface ∧ intT s = some n) ∨ ((∃ t p, er = .iface t p) ∧ intT s = none))) ∧ Below w.heap.size w w' := by
  obtain ⟨r, hr⟩ : ∃ r, Lib.parseIntB 64 s.data.toList = r := ⟨_, rfl⟩
  rcases r with v | _ | _
  · refine (Tryz.strconv_ParseInt_10_at64_ok s (by omega) v hr w).mono ?_
    rintro _ _ ⟨rfl, h2⟩
    refine ⟨⟨v, _, rfl, .inl ⟨rfl, by unfold intT; rw [hr]⟩⟩, ?_⟩
    rcases h2 with rfl | ⟨t, rfl⟩
    · exact Below.refl _ _
    · exact Lib.bytesWorld_below _ _ _
  · obtain ⟨a, b, h1⟩ := hV.s
    refine (Any.strconv_ParseInt_10_at64_syntax_var Tryz.laysC174 s (by omega) hr a b w h1).mono ?_
    rintro _ _ ⟨N, rfl, _, _, hB⟩
    exact ⟨⟨_, _, rfl, .inr ⟨⟨_, _, rfl⟩, by unfold intT; rw [hr]⟩⟩, hB⟩
  · obtain ⟨a, b, h1⟩ := hV.r
    refine (Tryz.strconv_ParseInt_10_at64_range_var s (by omega) hr a b w h1).mono ?_
    rintro _ _ ⟨N, rfl, _, _, hB⟩
    exact ⟨⟨_, _, rfl, .inr ⟨⟨_, _, rfl⟩, by unfold intT; rw [hr]⟩⟩, hB⟩
theorem intT_bd {s : ByteArray} {n : Int} (h : intT s = some n) : -9223372036854775808 ≤ n ∧ n ≤ 9223372036854775807 := by
  unfold intT at h
  split at h
  · rename_i v hv
    cases h
    unfold Lib.parseIntB at hv
    split at hv
    · cases hv
    · simp only at hv
      split at hv
      · cases hv
      · cases hv
      · split at hv
        · cases hv
        · rename_i h1
          split at hv
          · cases hv
          · rename_i h2
            injection hv with hv
            subst hv
            split <;> omega
  · cases h
/-- The words' row behind a view, at its head. -/
theorem VW.headB {E : Ents} {A : Option Addr} {n c : Nat} {t : Tk} {ts : List Tk} (h : VW E (.slice A n c) (t :: ts)) : ∃ g o cur, A = some ⟨g, o, none⟩ ∧ (g, 106, cur) ∈ E ∧ cur[o]? = some (.int .i64 t.1) ∧ cur[o + 2]? = some (.string t.2) := by
  obtain ⟨A', c', h1, h2, h3, h4, h5⟩ := h
  cases h1
  obtain ⟨g, o, cur, e1, e2, e3⟩ := h5 (by simp)
  have := e3 0 t rfl
  simp only [Nat.zero_mul, Nat.add_zero] at this
  exact ⟨g, o, cur, e1, e2, this⟩
set_option maxHeartbeats 8000000 in
theorem count_any (w0 w : World) (m E : Ents) (br : Nat) (v : Value) (left : Int) (ts : List Tk) (H : Hid (Hp w0 w ((br, 79, [v, .int .i64 left]) :: m))) (V : Hid (VW E v ts)) (HE : Hid (∀ x ∈ E, x ∈ m)) (VV : Hid (Vr w0)) : Calls Tryz.prog 54 #[.pointer (some ⟨br, 0, none⟩)] w fun e w' => ∃ v', e = .returned (.tuple #[.int .i64 ((cntR ts).elim 0 (·.1)), .bool (cntR ts).isSome]) ∧ VW E v' ((cntR ts).elim ts (·.2)) ∧ Hp w0 w' ((br, 79, [v', .int .i64 left]) :: m) := by
  cases ts with
  | nil =>
    obtain ⟨A, c, rfl, _⟩ := V.out.shape
    simp only [List.length_nil] at V H
    go_enter Tryz.func54, Tryz.ntmps54
    go_wp2_with (first
        | go_skip
        | ((with_reducible refine isLoad ?_); first | refine ld1A H ?_ (hT := by first | exact kWrs | exact kInt) | refine ld1X X ?_ (hT := by first | exact kStr | exact kInt) | refine ld1X K ?_ (hT := by first | exact kStr | exact kInt)))
    go_ret2
    first | exact ⟨_, rfl, V.out, H.out⟩ | exact ⟨rfl, _, V.out, H.out⟩ | exact ⟨rfl, H.out⟩ | (trace_state; fail)
  | cons t ts =>
    obtain ⟨A, c, rfl, _, _⟩ := V.out.shape
    obtain ⟨hok, hn, hc, hcm, _⟩ := V.out.head
    obtain ⟨g, o, cur, rfl, hm, hx0, hx2⟩ := V.out.headB
    have HM := Lib.hid (HE.out _ hm)
    have C0 := Lib.hid hx0
    have C2 := Lib.hid hx2
    simp only [List.length_cons] at H V hc
    clear hn hm hx0 hx2
    obtain ⟨n, hnl⟩ : ∃ n, ts.length = n := ⟨_, rfl⟩
    rw [hnl] at V hc H
    have hn0 : ¬ ((n : Int) + 1 = 0) := by omega
    obtain ⟨k, u⟩ := t
    simp only at C0 C2 hok
    have hus := hok.1
    by_cases hk : (k : Int) = 2
    · obtain rfl : k = 2 := by omega
      clear hk
      go_enter Tryz.func54, Tryz.ntmps54
      go_wp2_with (first
          | go_skip
          | ((with_reducible refine isLoad ?_); first | refine ld1A H ?_ (hT := by first | exact kWrs | exact kInt) | refine ld1A H ?_ (hT := kInt) (hm := .tail _ HM.out) (hx := C0.out) | refine ld1A H ?_ (hT := kStr) (hm := .tail _ HM.out) (hx := C2.out))
          | (go_at_call 68; refine (parseInt_any u _ hus (VV.out.below H.out.bel)).mono ?_; rintro _ _ ⟨⟨nn, er, rfl, hr⟩, hB⟩; replace H := Lib.hid (H.out.go hB); clear hB))
      rcases hr with ⟨rfl, hi⟩ | ⟨⟨et, ep, rfl⟩, hi⟩
      · have hbd := intT_bd hi
        by_cases he : numT nn = u
        · have hb := str_eq he
          have E0 : Hid (cntR ((2, u) :: ts) = some (nn, ts)) := Lib.hid (by simp [cntR, hi, eqS_iff.2 he])
          have V2 := V.out.tail
          simp only [Nat.add_sub_cancel] at V2
          have V2 := Lib.hid V2
          clear V
          have HNT := Lib.hid (number_any nn)
          obtain ⟨nt, hnt⟩ : ∃ t, numT nn = t := ⟨_, rfl⟩
          rw [hnt] at hb HNT
          clear hnt he hi
          refine wp_region_E H (by kernel_rfl) (by kernel_rfl) ?_
          repeat (first
              | ((with_reducible refine kLoad ?_); first | refine kld1A H ?_ (hT := kWrs) | refine kld1A H ?_ (hT := kStr) (hm := .tail _ HM.out) (hx := C2.out))
              | (refine kskA ?_)
              | ((with_reducible refine kLoad ?_); refine kldA H ?_)
              | ((with_reducible refine kLoad ?_); refine kld1A H ?_)
              | ((fail_if_success (with_reducible refine kCall ?_)); (with_reducible refine kCons ?_); refine wpK_step (fun K hK => ?_); go_simp; refine hK _ ?_; clear hK K))
          refine wpK_step (fun K hK => ?_)
          go_simp
          apply Exists.intro
          refine ⟨fun sx => ?_, hK _ ?_⟩
          · go_at_call 42
            exact HNT.out _ hbd.1 hbd.2 ((VV.out.below H.out.bel).below sx.h)
          clear hK K
          repeat (first
              | ((with_reducible refine kLoad ?_); first | refine kld1A H ?_ (hT := kWrs) | refine kld1A H ?_ (hT := kStr) (hm := .tail _ HM.out) (hx := C2.out))
              | (refine kskA ?_)
              | ((with_reducible refine kLoad ?_); refine kldA H ?_)
              | ((with_reducible refine kLoad ?_); refine kld1A H ?_)
              | ((fail_if_success (with_reducible refine kCall ?_)); (with_reducible refine kCons ?_); refine wpK_step (fun K hK => ?_); go_simp; refine hK _ ?_; clear hK K))
          refine wpKeep_nil ?_
          clear H
          intro _ H
          go_wp2_with (first
              | go_skip
              | ((with_reducible refine isLoad ?_); first | refine ld1A H ?_ (hT := by first | exact kWrs | exact kInt) | refine ld1A H ?_ (hT := kInt) (hm := .tail _ HM.out) (hx := C0.out) | refine ld1A H ?_ (hT := kStr) (hm := .tail _ HM.out) (hx := C2.out))
              | ((with_reducible refine isPart1 ?_); refine slTail (n := n + 1) ?_ (by omega) utWrs szWrd)
              | ((with_reducible refine isStore ?_); refine st1A H ?_ (hT := by first | exact sWrs | exact sInt); clear H; intro _ H))
          go_ret2
          rw [E0.out]
          first | exact ⟨_, rfl, V2.out, H.out⟩ | exact ⟨rfl, _, V2.out, H.out⟩ | (trace_state; fail)
        · have hb := str_ne he
          have E0 : Hid (cntR ((2, u) :: ts) = none) := Lib.hid (by simp [cntR, hi]; exact Bool.eq_false_iff.2 fun h => he (eqS_iff.1 h))
          have HNT := Lib.hid (number_any nn)
          obtain ⟨nt, hnt⟩ : ∃ t, numT nn = t := ⟨_, rfl⟩
          rw [hnt] at hb HNT
          clear hnt he hi
          refine wp_region_E H (by kernel_rfl) (by kernel_rfl) ?_
          repeat (first
              | ((with_reducible refine kLoad ?_); first | refine kld1A H ?_ (hT := kWrs) | refine kld1A H ?_ (hT := kStr) (hm := .tail _ HM.out) (hx := C2.out))
              | (refine kskA ?_)
              | ((with_reducible refine kLoad ?_); refine kldA H ?_)
              | ((with_reducible refine kLoad ?_); refine kld1A H ?_)
              | ((fail_if_success (with_reducible refine kCall ?_)); (with_reducible refine kCons ?_); refine wpK_step (fun K hK => ?_); go_simp; refine hK _ ?_; clear hK K))
          refine wpK_step (fun K hK => ?_)
          go_simp
          apply Exists.intro
          refine ⟨fun sx => ?_, hK _ ?_⟩
          · go_at_call 42
            exact HNT.out _ hbd.1 hbd.2 ((VV.out.below H.out.bel).below sx.h)
          clear hK K
          repeat (first
              | ((with_reducible refine kLoad ?_); first | refine kld1A H ?_ (hT := kWrs) | refine kld1A H ?_ (hT := kStr) (hm := .tail _ HM.out) (hx := C2.out))
              | (refine kskA ?_)
              | ((with_reducible refine kLoad ?_); refine kldA H ?_)
              | ((with_reducible refine kLoad ?_); refine kld1A H ?_)
              | ((fail_if_success (with_reducible refine kCall ?_)); (with_reducible refine kCons ?_); refine wpK_step (fun K hK => ?_); go_simp; refine hK _ ?_; clear hK K))
          refine wpKeep_nil ?_
          clear H
          intro _ H
          go_wp2_with (first
              | go_skip
              | ((with_reducible refine isLoad ?_); first | refine ld1A H ?_ (hT := by first | exact kWrs | exact kInt) | refine ld1A H ?_ (hT := kInt) (hm := .tail _ HM.out) (hx := C0.out) | refine ld1A H ?_ (hT := kStr) (hm := .tail _ HM.out) (hx := C2.out))
              | ((with_reducible refine isPart1 ?_); refine slTail (n := n + 1) ?_ (by omega) utWrs szWrd)
              | ((with_reducible refine isStore ?_); refine st1A H ?_ (hT := by first | exact sWrs | exact sInt); clear H; intro _ H))
          go_ret2
          rw [E0.out]
          first | exact ⟨_, rfl, V.out, H.out⟩ | exact ⟨rfl, _, V.out, H.out⟩ | exact ⟨rfl, H.out⟩ | (trace_state; fail)
      · have E0 : Hid (cntR ((2, u) :: ts) = none) := Lib.hid (by simp [cntR, hi])
        refine wp_region_E H (by kernel_rfl) (by kernel_rfl) ?_
        refine wpKeep_cut 3 ?_
        simp only [List.take_succ_cons, List.take_zero, List.drop_succ_cons, List.drop_zero]
        repeat (first
            | (refine kskA ?_)
            | ((with_reducible refine kLoad ?_); refine kldA H ?_)
            | ((with_reducible refine kLoad ?_); refine kld1A H ?_)
            | ((fail_if_success (with_reducible refine kCall ?_)); (with_reducible refine kCons ?_); refine wpK_step (fun K hK => ?_); go_simp; refine hK _ ?_; clear hK K))
        refine wpKeep_nil ?_
        refine boxd_skips 10 2 false (t := 35) rfl rfl rfl ?_
        simp only [List.take_succ_cons, List.take_zero, List.drop_succ_cons, List.drop_zero, putAll, Act.put, List.setIfInBounds_toArray, List.set_cons_succ, List.set_cons_zero]
        repeat (first
            | (refine kskA ?_)
            | ((with_reducible refine kLoad ?_); refine kldA H ?_)
            | ((with_reducible refine kLoad ?_); refine kld1A H ?_)
            | ((fail_if_success (with_reducible refine kCall ?_)); (with_reducible refine kCons ?_); refine wpK_step (fun K hK => ?_); go_simp; refine hK _ ?_; clear hK K))
        refine wpKeep_nil ?_
        clear H
        intro _ H
        go_wp2_with (first
            | go_skip
            | ((with_reducible refine isLoad ?_); first | refine ld1A H ?_ (hT := by first | exact kWrs | exact kInt) | refine ld1A H ?_ (hT := kInt) (hm := .tail _ HM.out) (hx := C0.out) | refine ld1A H ?_ (hT := kStr) (hm := .tail _ HM.out) (hx := C2.out)))
        go_ret2
        rw [E0.out]
        first | exact ⟨_, rfl, V.out, H.out⟩ | exact ⟨rfl, _, V.out, H.out⟩ | exact ⟨rfl, H.out⟩ | (trace_state; fail)
    · have e0 : cntR ((k, u) :: ts) = none := by simp only [cntR]; rw [if_neg (by omega)]
      rw [e0]
      clear e0
      go_enter Tryz.func54, Tryz.ntmps54
      go_wp2_with (first
          | go_skip
          | ((with_reducible refine isLoad ?_); first | refine ld1A H ?_ (hT := by first | exact kWrs | exact kInt) | refine ld1A H ?_ (hT := kInt) (hm := .tail _ HM.out) (hx := C0.out) | refine ld1A H ?_ (hT := kStr) (hm := .tail _ HM.out) (hx := C2.out)))
      go_ret2
      first | exact ⟨_, rfl, V.out, H.out⟩ | exact ⟨rfl, _, V.out, H.out⟩ | exact ⟨rfl, H.out⟩ | (trace_state; fail)
end Go.Proofs.YtaiokjhjakdhaaaGreatDoor

namespace Go.Proofs.YtaiokjhjakdhaaaGreatDoor
open Go.RowKit
set_option linter.unusedVariables false
set_option maxRecDepth 100000

theorem ratR_ok {s : ByteArray} {q : Rat} (hN : isNumL s.data.toList = true) (h : ratR s = some q) : 0 ≤ q.num ∧ q.num.natAbs < 1000000000 ∧ q.den < 1000000000 := by
  obtain ⟨d1, d2⟩ := num_cuts hN
  unfold ratR at h
  split at h
  · cases h
  · rename_i n hn
    split at h
    · cases h
    · rename_i d hd
      split at h
      · cases h
      · rename_i h0
        cases h
        have b1 := natR_lt (isdig_parts d1).2.1 hn
        have b2 := natR_lt (isdig_parts d2).2.1 hd
        obtain ⟨c1, c2⟩ := mkR_le false (n := n) (d := d) (by omega)
        refine ⟨?_, by omega, by omega⟩
        rcases Nat.eq_zero_or_pos n with e | e
        · subst e
          rw [mkR_zero]
          exact Int.le_refl _
        · have := (mkR_cells (neg := false) e (show 0 < d by omega) rfl).1
          have h2 : ¬ (mkR false n d).num < 0 := of_decide_eq_false this
          omega
theorem ratText_bel (q : Rat) (w : World) (hT : Tb w) (h0 : 0 ≤ q.num) (hn : q.num.natAbs < 1000000000) (hd : q.den < 1000000000) :
    Calls Tryz.prog 41 #[.agg #[.bool (sgO (some q)), .string (nuO (some q)), .string (deO (some q))]] w fun e w' => e = .returned (.string (ratT2 q)) ∧ Below w.heap.size w w' := by
  refine (ratText_any q w w [] (Lib.hid (Hp.start hT)) h0 (by omega) (by omega)).mono ?_
  rintro _ _ ⟨rfl, h⟩
  exact ⟨rfl, h.bel⟩
set_option maxHeartbeats 8000000 in
theorem within_any (w0 w : World) (m E : Ents) (br : Nat) (v : Value) (left : Int) (ts : List Tk) (H : Hid (Hp w0 w ((br, 79, [v, .int .i64 left]) :: m))) (V : Hid (VW E v ts)) (HE : Hid (∀ x ∈ E, x ∈ m)) : Calls Tryz.prog 69 #[.pointer (some ⟨br, 0, none⟩)] w fun e w' => ∃ v', e = .returned (.tuple #[.agg #[.bool (sgO ((wthR ts).map (·.1))), .string (nuO ((wthR ts).map (·.1))), .string (deO ((wthR ts).map (·.1)))], .bool (wthR ts).isSome]) ∧ VW E v' ((wthR ts).elim ts (·.2)) ∧ Hp w0 w' ((br, 79, [v', .int .i64 left]) :: m) := by
  cases ts with
  | nil =>
    obtain ⟨A, c, rfl, _⟩ := V.out.shape
    simp only [List.length_nil] at V H
    go_enter Tryz.func69, Tryz.ntmps69
    go_wp2_with (first
        | go_skip
        | ((with_reducible refine isLoad ?_); first | refine ld1A H ?_ (hT := by first | exact kWrs | exact kInt) | refine ldA H ?_ (hT := rRat))
        | ((with_reducible refine isAlloc ?_); refine alA H ?_ (hz := zRat); clear H; intro _ _ H)
        | ((with_reducible refine isStore ?_); first | (refine st1A H ?_ (hT := by first | exact sWrs | exact sInt); clear H; intro _ H) | (refine stA H ?_ (hT := rRat); clear H; intro _ H)))
    refine bodyPost_ret (results_Hv H rfl rRat rfl (.head _) rfl rfl) rfl ?_
    first | exact ⟨_, rfl, V.out, H.out.drop⟩ | exact ⟨rfl, _, V.out, H.out.drop⟩ | (trace_state; fail)
  | cons t ts =>
    obtain ⟨A, c, rfl, _, _⟩ := V.out.shape
    obtain ⟨hok, hn, hc, hcm, _⟩ := V.out.head
    obtain ⟨g, o, cur, rfl, hm, hx0, hx2⟩ := V.out.headB
    have HM := Lib.hid (HE.out _ hm)
    have C0 := Lib.hid hx0
    have C2 := Lib.hid hx2
    simp only [List.length_cons] at H V hc
    clear hn hm hx0 hx2
    obtain ⟨n, hnl⟩ : ∃ n, ts.length = n := ⟨_, rfl⟩
    rw [hnl] at V hc H
    have hn0 : ¬ ((n : Int) + 1 = 0) := by omega
    obtain ⟨k, u⟩ := t
    simp only at C0 C2 hok
    have hus := hok.1
    by_cases hk : (k : Int) = 2
    · obtain rfl : k = 2 := by omega
      have HN := Lib.hid (hok.2 rfl)
      clear hk
      obtain ⟨rr, hrr⟩ : ∃ r, ratR u = r := ⟨_, rfl⟩
      have RRC := Lib.hid (fun w m H => ratRead_any u w0 w m H hus HN.out)
      rw [hrr] at RRC
      have HRR := Lib.hid hrr
      clear hrr
      cases rr with
      | none =>
          have E0 : Hid (wthR ((2, u) :: ts) = none) := Lib.hid (by simp [wthR, HRR.out])
          go_enter Tryz.func69, Tryz.ntmps69
          go_wp2_with (first
              | go_skip
              | ((with_reducible refine isLoad ?_); first | refine ld1A H ?_ (hT := by first | exact kWrs | exact kInt) | refine ld1A H ?_ (hT := kInt) (hm := by (repeat (first | exact HM.out | refine List.Mem.tail _ ?_))) (hx := C0.out) | refine ld1A H ?_ (hT := kStr) (hm := by (repeat (first | exact HM.out | refine List.Mem.tail _ ?_))) (hx := C2.out) | refine ldA H ?_ (hT := rRat))
              | ((with_reducible refine isAlloc ?_); refine alA H ?_ (hz := zRat); clear H; intro _ _ H)
              | ((with_reducible refine isStore ?_); first | (refine st1A H ?_ (hT := by first | exact sWrs | exact sInt); clear H; intro _ H) | (refine stA H ?_ (hT := rRat); clear H; intro _ H))
              | (go_at_call 79; refine (RRC.out _ _ H).mono ?_; rintro _ _ ⟨cc, rfl, hcc, hH⟩; clear H; have H := Lib.hid hH; clear hH; have HC := (show ((cc != 0) = true) from bne_iff_ne.2 (fun e => by have := hcc.1 e; cases this)); clear hcc))
          refine wp_region_E H (by kernel_rfl) (by kernel_rfl) ?_
          refine wpKeep_cut 3 ?_
          simp only [List.take_succ_cons, List.take_zero, List.drop_succ_cons, List.drop_zero]
          repeat (first
              | (refine kskA ?_)
              | ((with_reducible refine kLoad ?_); refine kldA H ?_)
              | ((with_reducible refine kLoad ?_); refine kld1A H ?_)
              | ((fail_if_success (with_reducible refine kCall ?_)); (with_reducible refine kCons ?_); refine wpK_step (fun K hK => ?_); go_simp; refine hK _ ?_; clear hK K))
          refine wpKeep_nil ?_
          refine boxd_skips 10 2 false (t := 36) rfl rfl rfl ?_
          simp only [List.take_succ_cons, List.take_zero, List.drop_succ_cons, List.drop_zero, putAll, Act.put, List.setIfInBounds_toArray, List.set_cons_succ, List.set_cons_zero]
          repeat (first
              | (refine kskA ?_)
              | ((with_reducible refine kLoad ?_); refine kldA H ?_)
              | ((with_reducible refine kLoad ?_); refine kld1A H ?_)
              | ((fail_if_success (with_reducible refine kCall ?_)); (with_reducible refine kCons ?_); refine wpK_step (fun K hK => ?_); go_simp; refine hK _ ?_; clear hK K))
          refine wpKeep_nil ?_
          clear H
          intro _ H
          go_wp2_with (first
              | go_skip
              | ((with_reducible refine isLoad ?_); first | refine ld1A H ?_ (hT := by first | exact kWrs | exact kInt) | refine ld1A H ?_ (hT := kInt) (hm := by (repeat (first | exact HM.out | refine List.Mem.tail _ ?_))) (hx := C0.out) | refine ld1A H ?_ (hT := kStr) (hm := by (repeat (first | exact HM.out | refine List.Mem.tail _ ?_))) (hx := C2.out) | refine ldA H ?_ (hT := rRat))
              | ((with_reducible refine isAlloc ?_); refine alA H ?_ (hz := zRat); clear H; intro _ _ H)
              | ((with_reducible refine isStore ?_); first | (refine st1A H ?_ (hT := by first | exact sWrs | exact sInt); clear H; intro _ H) | (refine stA H ?_ (hT := rRat); clear H; intro _ H))
              | (go_at_call 79; refine (RRC.out _ _ H).mono ?_; rintro _ _ ⟨cc, rfl, hcc, hH⟩; clear H; have H := Lib.hid hH; clear hH; have HC := (show ((cc != 0) = true) from bne_iff_ne.2 (fun e => by have := hcc.1 e; cases this)); clear hcc))
          refine bodyPost_ret (results_Hv H rfl rRat rfl (.tail _ (.head _)) rfl rfl) rfl ?_
          rw [E0.out]
          first | exact ⟨_, rfl, V.out, H.out.drop.drop⟩ | exact ⟨rfl, _, V.out, H.out.drop.drop⟩ | (trace_state; fail)
      | some q =>
          obtain ⟨q0, q1, q2⟩ := ratR_ok HN.out HRR.out
          have HTX := Lib.hid (fun w hT => ratText_bel q w hT q0 q1 q2)
          clear q0 q1 q2
          obtain ⟨sg, hsg⟩ : ∃ x, sgO (some q) = x := ⟨_, rfl⟩
          obtain ⟨N, hN⟩ : ∃ x, nuO (some q) = x := ⟨_, rfl⟩
          obtain ⟨D, hD⟩ : ∃ x, deO (some q) = x := ⟨_, rfl⟩
          have HSG := Lib.hid hsg
          have HNN := Lib.hid hN
          have HDD := Lib.hid hD
          rw [hsg, hN, hD] at RRC HTX
          clear hsg hN hD
          by_cases he : ratT2 q = u
          · have hb := str_eq he
            have E0 : Hid (wthR ((2, u) :: ts) = some (q, ts)) := Lib.hid (by simp [wthR, HRR.out, eqS_iff.2 he])
            have V2 := V.out.tail
            simp only [Nat.add_sub_cancel] at V2
            have V2 := Lib.hid V2
            clear V
            obtain ⟨nt, hnt⟩ : ∃ t, ratT2 q = t := ⟨_, rfl⟩
            rw [hnt] at hb HTX
            clear hnt he
            go_enter Tryz.func69, Tryz.ntmps69
            go_wp2_with (first
                | go_skip
                | ((with_reducible refine isLoad ?_); first | refine ld1A H ?_ (hT := by first | exact kWrs | exact kInt) | refine ld1A H ?_ (hT := kInt) (hm := by (repeat (first | exact HM.out | refine List.Mem.tail _ ?_))) (hx := C0.out) | refine ld1A H ?_ (hT := kStr) (hm := by (repeat (first | exact HM.out | refine List.Mem.tail _ ?_))) (hx := C2.out) | refine ldA H ?_ (hT := rRat))
                | ((with_reducible refine isAlloc ?_); refine alA H ?_ (hz := zRat); clear H; intro _ _ H)
                | ((with_reducible refine isStore ?_); first | (refine st1A H ?_ (hT := by first | exact sWrs | exact sInt); clear H; intro _ H) | (refine stA H ?_ (hT := rRat); clear H; intro _ H))
                | (go_at_call 79; refine (RRC.out _ _ H).mono ?_; rintro _ _ ⟨cc, rfl, hcc, hH⟩; clear H; have H := Lib.hid hH; clear hH; obtain rfl : cc = 0 := hcc.2 rfl; clear hcc)
                | ((with_reducible refine isPart1 ?_); refine slTail (n := n + 1) ?_ (by omega) utWrs szWrd))
            refine wp_region_E H (by kernel_rfl) (by kernel_rfl) ?_
            repeat (first
                | ((with_reducible refine kLoad ?_); first | refine kld1A H ?_ (hT := kWrs) | refine kld1A H ?_ (hT := kStr) (hm := by (repeat (first | exact HM.out | refine List.Mem.tail _ ?_))) (hx := C2.out) | refine kldA H ?_ (hT := rRat))
                | (refine kskA ?_)
                | ((with_reducible refine kLoad ?_); refine kldA H ?_)
                | ((with_reducible refine kLoad ?_); refine kld1A H ?_)
                | ((fail_if_success (with_reducible refine kCall ?_)); (with_reducible refine kCons ?_); refine wpK_step (fun K hK => ?_); go_simp; refine hK _ ?_; clear hK K))
            refine wpK_step (fun K hK => ?_)
            go_simp
            apply Exists.intro
            refine ⟨fun sx => ?_, hK _ ?_⟩
            · go_at_call 41
              exact HTX.out _ (H.out.tbx sx)
            clear hK K
            repeat (first
                | ((with_reducible refine kLoad ?_); first | refine kld1A H ?_ (hT := kWrs) | refine kld1A H ?_ (hT := kStr) (hm := by (repeat (first | exact HM.out | refine List.Mem.tail _ ?_))) (hx := C2.out) | refine kldA H ?_ (hT := rRat))
                | (refine kskA ?_)
                | ((with_reducible refine kLoad ?_); refine kldA H ?_)
                | ((with_reducible refine kLoad ?_); refine kld1A H ?_)
                | ((fail_if_success (with_reducible refine kCall ?_)); (with_reducible refine kCons ?_); refine wpK_step (fun K hK => ?_); go_simp; refine hK _ ?_; clear hK K))
            refine wpKeep_nil ?_
            clear H
            intro _ H
            go_wp2_with (first
                | go_skip
                | ((with_reducible refine isLoad ?_); first | refine ld1A H ?_ (hT := by first | exact kWrs | exact kInt) | refine ld1A H ?_ (hT := kInt) (hm := by (repeat (first | exact HM.out | refine List.Mem.tail _ ?_))) (hx := C0.out) | refine ld1A H ?_ (hT := kStr) (hm := by (repeat (first | exact HM.out | refine List.Mem.tail _ ?_))) (hx := C2.out) | refine ldA H ?_ (hT := rRat))
                | ((with_reducible refine isAlloc ?_); refine alA H ?_ (hz := zRat); clear H; intro _ _ H)
                | ((with_reducible refine isStore ?_); first | (refine st1A H ?_ (hT := by first | exact sWrs | exact sInt); clear H; intro _ H) | (refine stA H ?_ (hT := rRat); clear H; intro _ H))
                | (go_at_call 79; refine (RRC.out _ _ H).mono ?_; rintro _ _ ⟨cc, rfl, hcc, hH⟩; clear H; have H := Lib.hid hH; clear hH; obtain rfl : cc = 0 := hcc.2 rfl; clear hcc)
                | ((with_reducible refine isPart1 ?_); refine slTail (n := n + 1) ?_ (by omega) utWrs szWrd))
            refine bodyPost_ret (results_Hv H rfl rRat rfl (.tail _ (.head _)) rfl rfl) rfl ?_
            rw [E0.out]
            simp only [Option.map_some, HSG.out, HNN.out, HDD.out]
            first | exact ⟨_, rfl, V2.out, H.out.drop.drop⟩ | exact ⟨rfl, _, V2.out, H.out.drop.drop⟩ | (trace_state; fail)
          · have hb := str_ne he
            have E0 : Hid (wthR ((2, u) :: ts) = none) := Lib.hid (by simp [wthR, HRR.out]; exact Bool.eq_false_iff.2 fun h => he (eqS_iff.1 h))
            obtain ⟨nt, hnt⟩ : ∃ t, ratT2 q = t := ⟨_, rfl⟩
            rw [hnt] at hb HTX
            clear hnt he
            go_enter Tryz.func69, Tryz.ntmps69
            go_wp2_with (first
                | go_skip
                | ((with_reducible refine isLoad ?_); first | refine ld1A H ?_ (hT := by first | exact kWrs | exact kInt) | refine ld1A H ?_ (hT := kInt) (hm := by (repeat (first | exact HM.out | refine List.Mem.tail _ ?_))) (hx := C0.out) | refine ld1A H ?_ (hT := kStr) (hm := by (repeat (first | exact HM.out | refine List.Mem.tail _ ?_))) (hx := C2.out) | refine ldA H ?_ (hT := rRat))
                | ((with_reducible refine isAlloc ?_); refine alA H ?_ (hz := zRat); clear H; intro _ _ H)
                | ((with_reducible refine isStore ?_); first | (refine st1A H ?_ (hT := by first | exact sWrs | exact sInt); clear H; intro _ H) | (refine stA H ?_ (hT := rRat); clear H; intro _ H))
                | (go_at_call 79; refine (RRC.out _ _ H).mono ?_; rintro _ _ ⟨cc, rfl, hcc, hH⟩; clear H; have H := Lib.hid hH; clear hH; obtain rfl : cc = 0 := hcc.2 rfl; clear hcc)
                | ((with_reducible refine isPart1 ?_); refine slTail (n := n + 1) ?_ (by omega) utWrs szWrd))
            refine wp_region_E H (by kernel_rfl) (by kernel_rfl) ?_
            repeat (first
                | ((with_reducible refine kLoad ?_); first | refine kld1A H ?_ (hT := kWrs) | refine kld1A H ?_ (hT := kStr) (hm := by (repeat (first | exact HM.out | refine List.Mem.tail _ ?_))) (hx := C2.out) | refine kldA H ?_ (hT := rRat))
                | (refine kskA ?_)
                | ((with_reducible refine kLoad ?_); refine kldA H ?_)
                | ((with_reducible refine kLoad ?_); refine kld1A H ?_)
                | ((fail_if_success (with_reducible refine kCall ?_)); (with_reducible refine kCons ?_); refine wpK_step (fun K hK => ?_); go_simp; refine hK _ ?_; clear hK K))
            refine wpK_step (fun K hK => ?_)
            go_simp
            apply Exists.intro
            refine ⟨fun sx => ?_, hK _ ?_⟩
            · go_at_call 41
              exact HTX.out _ (H.out.tbx sx)
            clear hK K
            repeat (first
                | ((with_reducible refine kLoad ?_); first | refine kld1A H ?_ (hT := kWrs) | refine kld1A H ?_ (hT := kStr) (hm := by (repeat (first | exact HM.out | refine List.Mem.tail _ ?_))) (hx := C2.out) | refine kldA H ?_ (hT := rRat))
                | (refine kskA ?_)
                | ((with_reducible refine kLoad ?_); refine kldA H ?_)
                | ((with_reducible refine kLoad ?_); refine kld1A H ?_)
                | ((fail_if_success (with_reducible refine kCall ?_)); (with_reducible refine kCons ?_); refine wpK_step (fun K hK => ?_); go_simp; refine hK _ ?_; clear hK K))
            refine wpKeep_nil ?_
            clear H
            intro _ H
            go_wp2_with (first
                | go_skip
                | ((with_reducible refine isLoad ?_); first | refine ld1A H ?_ (hT := by first | exact kWrs | exact kInt) | refine ld1A H ?_ (hT := kInt) (hm := by (repeat (first | exact HM.out | refine List.Mem.tail _ ?_))) (hx := C0.out) | refine ld1A H ?_ (hT := kStr) (hm := by (repeat (first | exact HM.out | refine List.Mem.tail _ ?_))) (hx := C2.out) | refine ldA H ?_ (hT := rRat))
                | ((with_reducible refine isAlloc ?_); refine alA H ?_ (hz := zRat); clear H; intro _ _ H)
                | ((with_reducible refine isStore ?_); first | (refine st1A H ?_ (hT := by first | exact sWrs | exact sInt); clear H; intro _ H) | (refine stA H ?_ (hT := rRat); clear H; intro _ H))
                | (go_at_call 79; refine (RRC.out _ _ H).mono ?_; rintro _ _ ⟨cc, rfl, hcc, hH⟩; clear H; have H := Lib.hid hH; clear hH; obtain rfl : cc = 0 := hcc.2 rfl; clear hcc)
                | ((with_reducible refine isPart1 ?_); refine slTail (n := n + 1) ?_ (by omega) utWrs szWrd))
            refine bodyPost_ret (results_Hv H rfl rRat rfl (.tail _ (.head _)) rfl rfl) rfl ?_
            rw [E0.out]
            first | exact ⟨_, rfl, V.out, H.out.drop.drop⟩ | exact ⟨rfl, _, V.out, H.out.drop.drop⟩ | (trace_state; fail)
    · have e0 : wthR ((k, u) :: ts) = none := by simp only [wthR]; rw [if_neg (by omega)]
      rw [e0]
      clear e0
      go_enter Tryz.func69, Tryz.ntmps69
      go_wp2_with (first
          | go_skip
          | ((with_reducible refine isLoad ?_); first | refine ld1A H ?_ (hT := by first | exact kWrs | exact kInt) | refine ld1A H ?_ (hT := kInt) (hm := by (repeat (first | exact HM.out | refine List.Mem.tail _ ?_))) (hx := C0.out) | refine ld1A H ?_ (hT := kStr) (hm := by (repeat (first | exact HM.out | refine List.Mem.tail _ ?_))) (hx := C2.out) | refine ldA H ?_ (hT := rRat))
          | ((with_reducible refine isAlloc ?_); refine alA H ?_ (hz := zRat); clear H; intro _ _ H)
          | ((with_reducible refine isStore ?_); first | (refine st1A H ?_ (hT := by first | exact sWrs | exact sInt); clear H; intro _ H) | (refine stA H ?_ (hT := rRat); clear H; intro _ H)))
      refine bodyPost_ret (results_Hv H rfl rRat rfl (.head _) rfl rfl) rfl ?_
      first | exact ⟨_, rfl, V.out, H.out.drop⟩ | exact ⟨rfl, _, V.out, H.out.drop⟩ | (trace_state; fail)
end Go.Proofs.YtaiokjhjakdhaaaGreatDoor

namespace Go.Proofs.YtaiokjhjakdhaaaGreatDoor
open Go.RowKit
set_option linter.unusedVariables false
set_option maxRecDepth 100000

theorem take_some {x : ByteArray} {w0 w : World} {m E : Ents} {br : Nat} {v : Value} {left : Int} {ts r : List Tk} (H : Hid (Hp w0 w ((br, 79, [v, .int .i64 left]) :: m))) (V : Hid (VW E v ts)) (HE : Hid (∀ x ∈ E, x ∈ m)) (h : takR x ts = some r) : Calls Tryz.prog 19 #[.pointer (some ⟨br, 0, none⟩), .string x] w fun e w' => ∃ v', e = .returned (.bool true) ∧ VW E v' r ∧ Hp w0 w' ((br, 79, [v', .int .i64 left]) :: m) := by
  have := take_any w0 w m E br v left ts x H V HE
  rwa [h] at this
theorem take_none {x : ByteArray} {w0 w : World} {m E : Ents} {br : Nat} {v : Value} {left : Int} {ts : List Tk} (H : Hid (Hp w0 w ((br, 79, [v, .int .i64 left]) :: m))) (V : Hid (VW E v ts)) (HE : Hid (∀ x ∈ E, x ∈ m)) (h : takR x ts = none) : Calls Tryz.prog 19 #[.pointer (some ⟨br, 0, none⟩), .string x] w fun e w' => ∃ v', e = .returned (.bool false) ∧ VW E v' ts ∧ Hp w0 w' ((br, 79, [v', .int .i64 left]) :: m) := by
  have := take_any w0 w m E br v left ts x H V HE
  rwa [h] at this
theorem name_some {a : ByteArray} {w0 w : World} {m E : Ents} {br : Nat} {v : Value} {left : Int} {ts r : List Tk} (H : Hid (Hp w0 w ((br, 79, [v, .int .i64 left]) :: m))) (V : Hid (VW E v ts)) (HE : Hid (∀ x ∈ E, x ∈ m)) (h : nmeR ts = some (a, r)) : Calls Tryz.prog 20 #[.pointer (some ⟨br, 0, none⟩)] w fun e w' => ∃ v', e = .returned (.tuple #[.string a, .bool true]) ∧ VW E v' r ∧ Hp w0 w' ((br, 79, [v', .int .i64 left]) :: m) := by
  have := name_any w0 w m E br v left ts H V HE
  rwa [h] at this
theorem name_none {w0 w : World} {m E : Ents} {br : Nat} {v : Value} {left : Int} {ts : List Tk} (H : Hid (Hp w0 w ((br, 79, [v, .int .i64 left]) :: m))) (V : Hid (VW E v ts)) (HE : Hid (∀ x ∈ E, x ∈ m)) (h : nmeR ts = none) : Calls Tryz.prog 20 #[.pointer (some ⟨br, 0, none⟩)] w fun e w' => ∃ v', e = .returned (.tuple #[.string ⟨#[]⟩, .bool false]) ∧ VW E v' ts ∧ Hp w0 w' ((br, 79, [v', .int .i64 left]) :: m) := by
  have := name_any w0 w m E br v left ts H V HE
  rwa [h] at this
theorem count_some {n : Int} {w0 w : World} {m E : Ents} {br : Nat} {v : Value} {left : Int} {ts r : List Tk} (H : Hid (Hp w0 w ((br, 79, [v, .int .i64 left]) :: m))) (V : Hid (VW E v ts)) (HE : Hid (∀ x ∈ E, x ∈ m)) (VV : Hid (Vr w0)) (h : cntR ts = some (n, r)) : Calls Tryz.prog 54 #[.pointer (some ⟨br, 0, none⟩)] w fun e w' => ∃ v', e = .returned (.tuple #[.int .i64 n, .bool true]) ∧ VW E v' r ∧ Hp w0 w' ((br, 79, [v', .int .i64 left]) :: m) := by
  have := count_any w0 w m E br v left ts H V HE VV
  rwa [h] at this
theorem count_none {w0 w : World} {m E : Ents} {br : Nat} {v : Value} {left : Int} {ts : List Tk} (H : Hid (Hp w0 w ((br, 79, [v, .int .i64 left]) :: m))) (V : Hid (VW E v ts)) (HE : Hid (∀ x ∈ E, x ∈ m)) (VV : Hid (Vr w0)) (h : cntR ts = none) : Calls Tryz.prog 54 #[.pointer (some ⟨br, 0, none⟩)] w fun e w' => ∃ v', e = .returned (.tuple #[.int .i64 0, .bool false]) ∧ VW E v' ts ∧ Hp w0 w' ((br, 79, [v', .int .i64 left]) :: m) := by
  have := count_any w0 w m E br v left ts H V HE VV
  rwa [h] at this
theorem within_some {q : Rat} {w0 w : World} {m E : Ents} {br : Nat} {v : Value} {left : Int} {ts r : List Tk} (H : Hid (Hp w0 w ((br, 79, [v, .int .i64 left]) :: m))) (V : Hid (VW E v ts)) (HE : Hid (∀ x ∈ E, x ∈ m)) (h : wthR ts = some (q, r)) : Calls Tryz.prog 69 #[.pointer (some ⟨br, 0, none⟩)] w fun e w' => ∃ v', e = .returned (.tuple #[.agg #[.bool (sgO (some q)), .string (nuO (some q)), .string (deO (some q))], .bool true]) ∧ VW E v' r ∧ Hp w0 w' ((br, 79, [v', .int .i64 left]) :: m) := by
  have := within_any w0 w m E br v left ts H V HE
  rwa [h] at this
theorem within_none {w0 w : World} {m E : Ents} {br : Nat} {v : Value} {left : Int} {ts : List Tk} (H : Hid (Hp w0 w ((br, 79, [v, .int .i64 left]) :: m))) (V : Hid (VW E v ts)) (HE : Hid (∀ x ∈ E, x ∈ m)) (h : wthR ts = none) : Calls Tryz.prog 69 #[.pointer (some ⟨br, 0, none⟩)] w fun e w' => ∃ v', e = .returned (.tuple #[.agg #[.bool false, .string ⟨#[]⟩, .string ⟨#[]⟩], .bool false]) ∧ VW E v' ts ∧ Hp w0 w' ((br, 79, [v', .int .i64 left]) :: m) := by
  have := within_any w0 w m E br v left ts H V HE
  rwa [h] at this
/-- A statement without blocks, as the reader leaves it. -/
def leafV (s : Stm) : Sv := ⟨s.k, s.a, s.b, s.wd, s.n, .slice none 0 0⟩
theorem mid3 {a b c : Nat × TypeId × List Value} {m : Ents} : (a :: b :: c :: m).Perm (c :: a :: b :: m) := (((List.Perm.swap c b m).cons a).trans (List.Perm.swap c a (b :: m)))
theorem he_up {a : Nat × TypeId × List Value} {E m : Ents} (h : Hid (∀ x ∈ E, x ∈ m)) : Hid (∀ x ∈ E, x ∈ a :: m) := Lib.hid fun x hx => .tail _ (h.out x hx)
/-- The cells of some statement. -/
def StV (cs : List Value) : Prop := ∃ (vk : Int) (va vb : ByteArray) (vw : Option Rat) (vn : Int) (B : Option Addr) (m c : Nat), cs = Sv.cells ⟨vk, va, vb, vw, vn, .slice B m c⟩
/-- What plain leaves. -/
def PlnC (w0 : World) (m E : Ents) (br : Nat) (left : Int) (ts : List Tk) (e : Ending) (w' : World) : Prop :=
  match plnR ts with
  | none => ∃ (cs : List Value) (v' : Value), e = .returned (.tuple #[.agg cs.toArray, .bool false]) ∧ StV cs ∧ Hp w0 w' ((br, 79, [v', .int .i64 left]) :: m)
  | some (s, r) => ∃ v', e = .returned (.tuple #[.agg (leafV s).cells.toArray, .bool true]) ∧ VW E v' r ∧ Hp w0 w' ((br, 79, [v', .int .i64 left]) :: m)
set_option maxHeartbeats 20000000 in
theorem rplain_any (w0 w : World) (m E : Ents) (br : Nat) (v : Value) (left : Int) (ts : List Tk) (H : Hid (Hp w0 w ((br, 79, [v, .int .i64 left]) :: m))) (V : Hid (VW E v ts)) (HE : Hid (∀ x ∈ E, x ∈ m)) (VV : Hid (Vr w0)) : Calls Tryz.prog 55 #[.pointer (some ⟨br, 0, none⟩)] w (PlnC w0 m E br left ts) := by
  go_enter Tryz.func55, Tryz.ntmps55
  go_wp2_with (first
      | go_skip
      | ((with_reducible refine isAlloc ?_); refine alA H ?_ (hz := zStm8); clear H; intro _ _ H)
      | ((with_reducible refine isLoad ?_); first | refine ldA H ?_ (hT := rStm8) | refine ld1A H ?_ (hT := by first | exact kInt | exact kStr) | refine ld1A (Lib.hid M2.out.h) ?_ (hT := by first | exact kInt | exact kStr))
      | ((with_reducible refine isStore ?_); first | (refine stA H ?_ (hT := by first | exact rStm8 | exact rRat); clear H; intro _ H) | (refine st1A H ?_ (hT := by first | exact sInt | exact sStr); clear H; intro _ H))
      | ((with_reducible refine isMk ?_); refine mkM H ?_; clear H; intro bm _ M0)
      | ((with_reducible refine isIns ?_); first | (refine upI M0 ?_; clear M0; intro _ M1) | (refine upI M1 ?_; clear M1; intro _ M2))
      | ((with_reducible refine isLk ?_); refine lkM M2 ?_))
  have H2 := Lib.hid (H.out.perm mid3)
  clear H
  have H := H2
  clear H2
  cases e0 : takR kPut ts with
  | none =>
      have E0 := Lib.hid e0
      clear e0
      go_at_call 19
      have hcall := take_none H V (by first | exact HE | exact he_up HE | exact he_up (he_up HE) | exact he_up (he_up (he_up HE))) E0.out
      clear H V
      refine hcall.mono ?_
      clear hcall
      rintro _ _ ⟨_, rfl, hV, hH⟩
      have V := Lib.hid hV
      have H := Lib.hid hH
      clear hV hH
      go_wp2_with (first
          | go_skip
          | ((with_reducible refine isAlloc ?_); refine alA H ?_ (hz := zStm8); clear H; intro _ _ H)
          | ((with_reducible refine isLoad ?_); first | refine ldA H ?_ (hT := rStm8) | refine ld1A H ?_ (hT := by first | exact kInt | exact kStr) | refine ld1A (Lib.hid M2.out.h) ?_ (hT := by first | exact kInt | exact kStr))
          | ((with_reducible refine isStore ?_); first | (refine stA H ?_ (hT := by first | exact rStm8 | exact rRat); clear H; intro _ H) | (refine st1A H ?_ (hT := by first | exact sInt | exact sStr); clear H; intro _ H))
          | ((with_reducible refine isMk ?_); refine mkM H ?_; clear H; intro bm _ M0)
          | ((with_reducible refine isIns ?_); first | (refine upI M0 ?_; clear M0; intro _ M1) | (refine upI M1 ?_; clear M1; intro _ M2))
          | ((with_reducible refine isLk ?_); refine lkM M2 ?_))
      cases e1 : takR kHold ts with
      | none =>
          have E1 := Lib.hid e1
          clear e1
          go_at_call 19
          have hcall := take_none H V (by first | exact HE | exact he_up HE | exact he_up (he_up HE) | exact he_up (he_up (he_up HE))) E1.out
          clear H V
          refine hcall.mono ?_
          clear hcall
          rintro _ _ ⟨_, rfl, hV, hH⟩
          have V := Lib.hid hV
          have H := Lib.hid hH
          clear hV hH
          go_wp2_with (first
              | go_skip
              | ((with_reducible refine isAlloc ?_); refine alA H ?_ (hz := zStm8); clear H; intro _ _ H)
              | ((with_reducible refine isLoad ?_); first | refine ldA H ?_ (hT := rStm8) | refine ld1A H ?_ (hT := by first | exact kInt | exact kStr) | refine ld1A (Lib.hid M2.out.h) ?_ (hT := by first | exact kInt | exact kStr))
              | ((with_reducible refine isStore ?_); first | (refine stA H ?_ (hT := by first | exact rStm8 | exact rRat); clear H; intro _ H) | (refine st1A H ?_ (hT := by first | exact sInt | exact sStr); clear H; intro _ H))
              | ((with_reducible refine isMk ?_); refine mkM H ?_; clear H; intro bm _ M0)
              | ((with_reducible refine isIns ?_); first | (refine upI M0 ?_; clear M0; intro _ M1) | (refine upI M1 ?_; clear M1; intro _ M2))
              | ((with_reducible refine isLk ?_); refine lkM M2 ?_))
          cases e2 : takR kFree ts with
          | none =>
              have E2 := Lib.hid e2
              clear e2
              go_at_call 19
              have hcall := take_none H V (by first | exact HE | exact he_up HE | exact he_up (he_up HE) | exact he_up (he_up (he_up HE))) E2.out
              clear H V
              refine hcall.mono ?_
              clear hcall
              rintro _ _ ⟨_, rfl, hV, hH⟩
              have V := Lib.hid hV
              have H := Lib.hid hH
              clear hV hH
              go_wp2_with (first
                  | go_skip
                  | ((with_reducible refine isAlloc ?_); refine alA H ?_ (hz := zStm8); clear H; intro _ _ H)
                  | ((with_reducible refine isLoad ?_); first | refine ldA H ?_ (hT := rStm8) | refine ld1A H ?_ (hT := by first | exact kInt | exact kStr) | refine ld1A (Lib.hid M2.out.h) ?_ (hT := by first | exact kInt | exact kStr))
                  | ((with_reducible refine isStore ?_); first | (refine stA H ?_ (hT := by first | exact rStm8 | exact rRat); clear H; intro _ H) | (refine st1A H ?_ (hT := by first | exact sInt | exact sStr); clear H; intro _ H))
                  | ((with_reducible refine isMk ?_); refine mkM H ?_; clear H; intro bm _ M0)
                  | ((with_reducible refine isIns ?_); first | (refine upI M0 ?_; clear M0; intro _ M1) | (refine upI M1 ?_; clear M1; intro _ M2))
                  | ((with_reducible refine isLk ?_); refine lkM M2 ?_))
              cases e3 : takR kSee ts with
              | none =>
                  have E3 := Lib.hid e3
                  clear e3
                  go_at_call 19
                  have hcall := take_none H V (by first | exact HE | exact he_up HE | exact he_up (he_up HE) | exact he_up (he_up (he_up HE))) E3.out
                  clear H V
                  refine hcall.mono ?_
                  clear hcall
                  rintro _ _ ⟨_, rfl, hV, hH⟩
                  have V := Lib.hid hV
                  have H := Lib.hid hH
                  clear hV hH
                  go_wp2_with (first
                      | go_skip
                      | ((with_reducible refine isAlloc ?_); refine alA H ?_ (hz := zStm8); clear H; intro _ _ H)
                      | ((with_reducible refine isLoad ?_); first | refine ldA H ?_ (hT := rStm8) | refine ld1A H ?_ (hT := by first | exact kInt | exact kStr) | refine ld1A (Lib.hid M2.out.h) ?_ (hT := by first | exact kInt | exact kStr))
                      | ((with_reducible refine isStore ?_); first | (refine stA H ?_ (hT := by first | exact rStm8 | exact rRat); clear H; intro _ H) | (refine st1A H ?_ (hT := by first | exact sInt | exact sStr); clear H; intro _ H))
                      | ((with_reducible refine isMk ?_); refine mkM H ?_; clear H; intro bm _ M0)
                      | ((with_reducible refine isIns ?_); first | (refine upI M0 ?_; clear M0; intro _ M1) | (refine upI M1 ?_; clear M1; intro _ M2))
                      | ((with_reducible refine isLk ?_); refine lkM M2 ?_))
                  cases e4 : takR kWait ts with
                  | none =>
                      have E4 := Lib.hid e4
                      clear e4
                      go_at_call 19
                      have hcall := take_none H V (by first | exact HE | exact he_up HE | exact he_up (he_up HE) | exact he_up (he_up (he_up HE))) E4.out
                      clear H V
                      refine hcall.mono ?_
                      clear hcall
                      rintro _ _ ⟨_, rfl, hV, hH⟩
                      have V := Lib.hid hV
                      have H := Lib.hid hH
                      clear hV hH
                      go_wp2_with (first
                          | go_skip
                          | ((with_reducible refine isAlloc ?_); refine alA H ?_ (hz := zStm8); clear H; intro _ _ H)
                          | ((with_reducible refine isLoad ?_); first | refine ldA H ?_ (hT := rStm8) | refine ld1A H ?_ (hT := by first | exact kInt | exact kStr) | refine ld1A (Lib.hid M2.out.h) ?_ (hT := by first | exact kInt | exact kStr))
                          | ((with_reducible refine isStore ?_); first | (refine stA H ?_ (hT := by first | exact rStm8 | exact rRat); clear H; intro _ H) | (refine st1A H ?_ (hT := by first | exact sInt | exact sStr); clear H; intro _ H))
                          | ((with_reducible refine isMk ?_); refine mkM H ?_; clear H; intro bm _ M0)
                          | ((with_reducible refine isIns ?_); first | (refine upI M0 ?_; clear M0; intro _ M1) | (refine upI M1 ?_; clear M1; intro _ M2))
                          | ((with_reducible refine isLk ?_); refine lkM M2 ?_))
                      refine bodyPost_ret (results_Hv H rfl rStm8 rfl (.tail _ (.tail _ (.head _))) rfl rfl) rfl ?_
                      have hp : plnR ts = none := by
                        unfold plnR
                        simp only [E0.out, E1.out, E2.out, E3.out, E4.out]
                      unfold PlnC
                      rw [hp]
                      exact ⟨_, _, rfl, ⟨_, _, _, none, _, none, 0, 0, rfl⟩, H.out.sub (.cons_cons _ (.cons _ (.cons _ (.refl _))))⟩
                  | some r0 =>
                      have E4 := Lib.hid e4
                      clear e4
                      go_at_call 19
                      have hcall := take_some H V (by first | exact HE | exact he_up HE | exact he_up (he_up HE) | exact he_up (he_up (he_up HE))) E4.out
                      clear H V
                      refine hcall.mono ?_
                      clear hcall
                      rintro _ _ ⟨_, rfl, hV, hH⟩
                      have V := Lib.hid hV
                      have H := Lib.hid hH
                      clear hV hH
                      go_wp2_with (first
                          | go_skip
                          | ((with_reducible refine isAlloc ?_); refine alA H ?_ (hz := zStm8); clear H; intro _ _ H)
                          | ((with_reducible refine isLoad ?_); first | refine ldA H ?_ (hT := rStm8) | refine ld1A H ?_ (hT := by first | exact kInt | exact kStr) | refine ld1A (Lib.hid M2.out.h) ?_ (hT := by first | exact kInt | exact kStr))
                          | ((with_reducible refine isStore ?_); first | (refine stA H ?_ (hT := by first | exact rStm8 | exact rRat); clear H; intro _ H) | (refine st1A H ?_ (hT := by first | exact sInt | exact sStr); clear H; intro _ H))
                          | ((with_reducible refine isMk ?_); refine mkM H ?_; clear H; intro bm _ M0)
                          | ((with_reducible refine isIns ?_); first | (refine upI M0 ?_; clear M0; intro _ M1) | (refine upI M1 ?_; clear M1; intro _ M2))
                          | ((with_reducible refine isLk ?_); refine lkM M2 ?_))
                      cases n1 : cntR r0 with
                      | none =>
                          have N1 := Lib.hid n1
                          clear n1
                          go_at_call 54
                          have hcall := count_none H V (by first | exact HE | exact he_up HE | exact he_up (he_up HE) | exact he_up (he_up (he_up HE))) VV N1.out
                          clear H V
                          refine hcall.mono ?_
                          clear hcall
                          rintro _ _ ⟨_, rfl, hV, hH⟩
                          have V := Lib.hid hV
                          have H := Lib.hid hH
                          clear hV hH
                          go_wp2_with (first
                              | go_skip
                              | ((with_reducible refine isAlloc ?_); refine alA H ?_ (hz := zStm8); clear H; intro _ _ H)
                              | ((with_reducible refine isLoad ?_); first | refine ldA H ?_ (hT := rStm8) | refine ld1A H ?_ (hT := by first | exact kInt | exact kStr) | refine ld1A (Lib.hid M2.out.h) ?_ (hT := by first | exact kInt | exact kStr))
                              | ((with_reducible refine isStore ?_); first | (refine stA H ?_ (hT := by first | exact rStm8 | exact rRat); clear H; intro _ H) | (refine st1A H ?_ (hT := by first | exact sInt | exact sStr); clear H; intro _ H))
                              | ((with_reducible refine isMk ?_); refine mkM H ?_; clear H; intro bm _ M0)
                              | ((with_reducible refine isIns ?_); first | (refine upI M0 ?_; clear M0; intro _ M1) | (refine upI M1 ?_; clear M1; intro _ M2))
                              | ((with_reducible refine isLk ?_); refine lkM M2 ?_))
                          refine bodyPost_ret (results_Hv H rfl rStm8 rfl (.tail _ (.tail _ (.head _))) rfl rfl) rfl ?_
                          have hq : waiR r0 = none := by
                            unfold waiR
                            simp only [N1.out]
                          have hp : plnR ts = none := by
                            unfold plnR
                            simp only [E0.out, E1.out, E2.out, E3.out, E4.out, hq]
                          unfold PlnC
                          rw [hp]
                          exact ⟨_, _, rfl, ⟨_, _, _, none, _, none, 0, 0, rfl⟩, H.out.sub (.cons_cons _ (.cons _ (.cons _ (.refl _))))⟩
                      | some x1 =>
                          obtain ⟨n, r1⟩ := x1
                          have N1 := Lib.hid n1
                          clear n1
                          go_at_call 54
                          have hcall := count_some H V (by first | exact HE | exact he_up HE | exact he_up (he_up HE) | exact he_up (he_up (he_up HE))) VV N1.out
                          clear H V
                          refine hcall.mono ?_
                          clear hcall
                          rintro _ _ ⟨_, rfl, hV, hH⟩
                          have V := Lib.hid hV
                          have H := Lib.hid hH
                          clear hV hH
                          go_wp2_with (first
                              | go_skip
                              | ((with_reducible refine isAlloc ?_); refine alA H ?_ (hz := zStm8); clear H; intro _ _ H)
                              | ((with_reducible refine isLoad ?_); first | refine ldA H ?_ (hT := rStm8) | refine ld1A H ?_ (hT := by first | exact kInt | exact kStr) | refine ld1A (Lib.hid M2.out.h) ?_ (hT := by first | exact kInt | exact kStr))
                              | ((with_reducible refine isStore ?_); first | (refine stA H ?_ (hT := by first | exact rStm8 | exact rRat); clear H; intro _ H) | (refine st1A H ?_ (hT := by first | exact sInt | exact sStr); clear H; intro _ H))
                              | ((with_reducible refine isMk ?_); refine mkM H ?_; clear H; intro bm _ M0)
                              | ((with_reducible refine isIns ?_); first | (refine upI M0 ?_; clear M0; intro _ M1) | (refine upI M1 ?_; clear M1; intro _ M2))
                              | ((with_reducible refine isLk ?_); refine lkM M2 ?_))
                          refine bodyPost_ret (results_Hv H rfl rStm8 rfl (.tail _ (.tail _ (.head _))) rfl rfl) rfl ?_
                          have hq : waiR r0 = some (.mk 5 noS noS none n [], r1) := by
                            unfold waiR
                            simp only [N1.out]
                          have hp : plnR ts = some (.mk 5 noS noS none n [], r1) := by
                            unfold plnR
                            simp only [E0.out, E1.out, E2.out, E3.out, E4.out, hq]
                          unfold PlnC
                          rw [hp]
                          exact ⟨_, rfl, V.out, H.out.sub (.cons_cons _ (.cons _ (.cons _ (.refl _))))⟩
              | some r0 =>
                  have E3 := Lib.hid e3
                  clear e3
                  go_at_call 19
                  have hcall := take_some H V (by first | exact HE | exact he_up HE | exact he_up (he_up HE) | exact he_up (he_up (he_up HE))) E3.out
                  clear H V
                  refine hcall.mono ?_
                  clear hcall
                  rintro _ _ ⟨_, rfl, hV, hH⟩
                  have V := Lib.hid hV
                  have H := Lib.hid hH
                  clear hV hH
                  go_wp2_with (first
                      | go_skip
                      | ((with_reducible refine isAlloc ?_); refine alA H ?_ (hz := zStm8); clear H; intro _ _ H)
                      | ((with_reducible refine isLoad ?_); first | refine ldA H ?_ (hT := rStm8) | refine ld1A H ?_ (hT := by first | exact kInt | exact kStr) | refine ld1A (Lib.hid M2.out.h) ?_ (hT := by first | exact kInt | exact kStr))
                      | ((with_reducible refine isStore ?_); first | (refine stA H ?_ (hT := by first | exact rStm8 | exact rRat); clear H; intro _ H) | (refine st1A H ?_ (hT := by first | exact sInt | exact sStr); clear H; intro _ H))
                      | ((with_reducible refine isMk ?_); refine mkM H ?_; clear H; intro bm _ M0)
                      | ((with_reducible refine isIns ?_); first | (refine upI M0 ?_; clear M0; intro _ M1) | (refine upI M1 ?_; clear M1; intro _ M2))
                      | ((with_reducible refine isLk ?_); refine lkM M2 ?_))
                  cases n1 : nmeR r0 with
                  | none =>
                      have N1 := Lib.hid n1
                      clear n1
                      go_at_call 20
                      have hcall := name_none H V (by first | exact HE | exact he_up HE | exact he_up (he_up HE) | exact he_up (he_up (he_up HE))) N1.out
                      clear H V
                      refine hcall.mono ?_
                      clear hcall
                      rintro _ _ ⟨_, rfl, hV, hH⟩
                      have V := Lib.hid hV
                      have H := Lib.hid hH
                      clear hV hH
                      go_wp2_with (first
                          | go_skip
                          | ((with_reducible refine isAlloc ?_); refine alA H ?_ (hz := zStm8); clear H; intro _ _ H)
                          | ((with_reducible refine isLoad ?_); first | refine ldA H ?_ (hT := rStm8) | refine ld1A H ?_ (hT := by first | exact kInt | exact kStr) | refine ld1A (Lib.hid M2.out.h) ?_ (hT := by first | exact kInt | exact kStr))
                          | ((with_reducible refine isStore ?_); first | (refine stA H ?_ (hT := by first | exact rStm8 | exact rRat); clear H; intro _ H) | (refine st1A H ?_ (hT := by first | exact sInt | exact sStr); clear H; intro _ H))
                          | ((with_reducible refine isMk ?_); refine mkM H ?_; clear H; intro bm _ M0)
                          | ((with_reducible refine isIns ?_); first | (refine upI M0 ?_; clear M0; intro _ M1) | (refine upI M1 ?_; clear M1; intro _ M2))
                          | ((with_reducible refine isLk ?_); refine lkM M2 ?_))
                      refine bodyPost_ret (results_Hv H rfl rStm8 rfl (.tail _ (.tail _ (.head _))) rfl rfl) rfl ?_
                      have hq : oneR 4 r0 = none := by
                        unfold oneR
                        simp only [N1.out]
                      have hp : plnR ts = none := by
                        unfold plnR
                        simp only [E0.out, E1.out, E2.out, E3.out, hq]
                      unfold PlnC
                      rw [hp]
                      exact ⟨_, _, rfl, ⟨_, _, _, none, _, none, 0, 0, rfl⟩, H.out.sub (.cons_cons _ (.cons _ (.cons _ (.refl _))))⟩
                  | some x1 =>
                      obtain ⟨a, r1⟩ := x1
                      have N1 := Lib.hid n1
                      clear n1
                      go_at_call 20
                      have hcall := name_some H V (by first | exact HE | exact he_up HE | exact he_up (he_up HE) | exact he_up (he_up (he_up HE))) N1.out
                      clear H V
                      refine hcall.mono ?_
                      clear hcall
                      rintro _ _ ⟨_, rfl, hV, hH⟩
                      have V := Lib.hid hV
                      have H := Lib.hid hH
                      clear hV hH
                      go_wp2_with (first
                          | go_skip
                          | ((with_reducible refine isAlloc ?_); refine alA H ?_ (hz := zStm8); clear H; intro _ _ H)
                          | ((with_reducible refine isLoad ?_); first | refine ldA H ?_ (hT := rStm8) | refine ld1A H ?_ (hT := by first | exact kInt | exact kStr) | refine ld1A (Lib.hid M2.out.h) ?_ (hT := by first | exact kInt | exact kStr))
                          | ((with_reducible refine isStore ?_); first | (refine stA H ?_ (hT := by first | exact rStm8 | exact rRat); clear H; intro _ H) | (refine st1A H ?_ (hT := by first | exact sInt | exact sStr); clear H; intro _ H))
                          | ((with_reducible refine isMk ?_); refine mkM H ?_; clear H; intro bm _ M0)
                          | ((with_reducible refine isIns ?_); first | (refine upI M0 ?_; clear M0; intro _ M1) | (refine upI M1 ?_; clear M1; intro _ M2))
                          | ((with_reducible refine isLk ?_); refine lkM M2 ?_))
                      refine bodyPost_ret (results_Hv H rfl rStm8 rfl (.tail _ (.tail _ (.head _))) rfl rfl) rfl ?_
                      have hq : oneR 4 r0 = some (.mk 4 a noS none 0 [], r1) := by
                        unfold oneR
                        simp only [N1.out]
                      have hp : plnR ts = some (.mk 4 a noS none 0 [], r1) := by
                        unfold plnR
                        simp only [E0.out, E1.out, E2.out, E3.out, hq]
                      unfold PlnC
                      rw [hp]
                      exact ⟨_, rfl, V.out, H.out.sub (.cons_cons _ (.cons _ (.cons _ (.refl _))))⟩
          | some r0 =>
              have E2 := Lib.hid e2
              clear e2
              go_at_call 19
              have hcall := take_some H V (by first | exact HE | exact he_up HE | exact he_up (he_up HE) | exact he_up (he_up (he_up HE))) E2.out
              clear H V
              refine hcall.mono ?_
              clear hcall
              rintro _ _ ⟨_, rfl, hV, hH⟩
              have V := Lib.hid hV
              have H := Lib.hid hH
              clear hV hH
              go_wp2_with (first
                  | go_skip
                  | ((with_reducible refine isAlloc ?_); refine alA H ?_ (hz := zStm8); clear H; intro _ _ H)
                  | ((with_reducible refine isLoad ?_); first | refine ldA H ?_ (hT := rStm8) | refine ld1A H ?_ (hT := by first | exact kInt | exact kStr) | refine ld1A (Lib.hid M2.out.h) ?_ (hT := by first | exact kInt | exact kStr))
                  | ((with_reducible refine isStore ?_); first | (refine stA H ?_ (hT := by first | exact rStm8 | exact rRat); clear H; intro _ H) | (refine st1A H ?_ (hT := by first | exact sInt | exact sStr); clear H; intro _ H))
                  | ((with_reducible refine isMk ?_); refine mkM H ?_; clear H; intro bm _ M0)
                  | ((with_reducible refine isIns ?_); first | (refine upI M0 ?_; clear M0; intro _ M1) | (refine upI M1 ?_; clear M1; intro _ M2))
                  | ((with_reducible refine isLk ?_); refine lkM M2 ?_))
              cases n1 : nmeR r0 with
              | none =>
                  have N1 := Lib.hid n1
                  clear n1
                  go_at_call 20
                  have hcall := name_none H V (by first | exact HE | exact he_up HE | exact he_up (he_up HE) | exact he_up (he_up (he_up HE))) N1.out
                  clear H V
                  refine hcall.mono ?_
                  clear hcall
                  rintro _ _ ⟨_, rfl, hV, hH⟩
                  have V := Lib.hid hV
                  have H := Lib.hid hH
                  clear hV hH
                  go_wp2_with (first
                      | go_skip
                      | ((with_reducible refine isAlloc ?_); refine alA H ?_ (hz := zStm8); clear H; intro _ _ H)
                      | ((with_reducible refine isLoad ?_); first | refine ldA H ?_ (hT := rStm8) | refine ld1A H ?_ (hT := by first | exact kInt | exact kStr) | refine ld1A (Lib.hid M2.out.h) ?_ (hT := by first | exact kInt | exact kStr))
                      | ((with_reducible refine isStore ?_); first | (refine stA H ?_ (hT := by first | exact rStm8 | exact rRat); clear H; intro _ H) | (refine st1A H ?_ (hT := by first | exact sInt | exact sStr); clear H; intro _ H))
                      | ((with_reducible refine isMk ?_); refine mkM H ?_; clear H; intro bm _ M0)
                      | ((with_reducible refine isIns ?_); first | (refine upI M0 ?_; clear M0; intro _ M1) | (refine upI M1 ?_; clear M1; intro _ M2))
                      | ((with_reducible refine isLk ?_); refine lkM M2 ?_))
                  refine bodyPost_ret (results_Hv H rfl rStm8 rfl (.tail _ (.tail _ (.head _))) rfl rfl) rfl ?_
                  have hq : oneR 3 r0 = none := by
                    unfold oneR
                    simp only [N1.out]
                  have hp : plnR ts = none := by
                    unfold plnR
                    simp only [E0.out, E1.out, E2.out, hq]
                  unfold PlnC
                  rw [hp]
                  exact ⟨_, _, rfl, ⟨_, _, _, none, _, none, 0, 0, rfl⟩, H.out.sub (.cons_cons _ (.cons _ (.cons _ (.refl _))))⟩
              | some x1 =>
                  obtain ⟨a, r1⟩ := x1
                  have N1 := Lib.hid n1
                  clear n1
                  go_at_call 20
                  have hcall := name_some H V (by first | exact HE | exact he_up HE | exact he_up (he_up HE) | exact he_up (he_up (he_up HE))) N1.out
                  clear H V
                  refine hcall.mono ?_
                  clear hcall
                  rintro _ _ ⟨_, rfl, hV, hH⟩
                  have V := Lib.hid hV
                  have H := Lib.hid hH
                  clear hV hH
                  go_wp2_with (first
                      | go_skip
                      | ((with_reducible refine isAlloc ?_); refine alA H ?_ (hz := zStm8); clear H; intro _ _ H)
                      | ((with_reducible refine isLoad ?_); first | refine ldA H ?_ (hT := rStm8) | refine ld1A H ?_ (hT := by first | exact kInt | exact kStr) | refine ld1A (Lib.hid M2.out.h) ?_ (hT := by first | exact kInt | exact kStr))
                      | ((with_reducible refine isStore ?_); first | (refine stA H ?_ (hT := by first | exact rStm8 | exact rRat); clear H; intro _ H) | (refine st1A H ?_ (hT := by first | exact sInt | exact sStr); clear H; intro _ H))
                      | ((with_reducible refine isMk ?_); refine mkM H ?_; clear H; intro bm _ M0)
                      | ((with_reducible refine isIns ?_); first | (refine upI M0 ?_; clear M0; intro _ M1) | (refine upI M1 ?_; clear M1; intro _ M2))
                      | ((with_reducible refine isLk ?_); refine lkM M2 ?_))
                  refine bodyPost_ret (results_Hv H rfl rStm8 rfl (.tail _ (.tail _ (.head _))) rfl rfl) rfl ?_
                  have hq : oneR 3 r0 = some (.mk 3 a noS none 0 [], r1) := by
                    unfold oneR
                    simp only [N1.out]
                  have hp : plnR ts = some (.mk 3 a noS none 0 [], r1) := by
                    unfold plnR
                    simp only [E0.out, E1.out, E2.out, hq]
                  unfold PlnC
                  rw [hp]
                  exact ⟨_, rfl, V.out, H.out.sub (.cons_cons _ (.cons _ (.cons _ (.refl _))))⟩
      | some r0 =>
          have E1 := Lib.hid e1
          clear e1
          go_at_call 19
          have hcall := take_some H V (by first | exact HE | exact he_up HE | exact he_up (he_up HE) | exact he_up (he_up (he_up HE))) E1.out
          clear H V
          refine hcall.mono ?_
          clear hcall
          rintro _ _ ⟨_, rfl, hV, hH⟩
          have V := Lib.hid hV
          have H := Lib.hid hH
          clear hV hH
          go_wp2_with (first
              | go_skip
              | ((with_reducible refine isAlloc ?_); refine alA H ?_ (hz := zStm8); clear H; intro _ _ H)
              | ((with_reducible refine isLoad ?_); first | refine ldA H ?_ (hT := rStm8) | refine ld1A H ?_ (hT := by first | exact kInt | exact kStr) | refine ld1A (Lib.hid M2.out.h) ?_ (hT := by first | exact kInt | exact kStr))
              | ((with_reducible refine isStore ?_); first | (refine stA H ?_ (hT := by first | exact rStm8 | exact rRat); clear H; intro _ H) | (refine st1A H ?_ (hT := by first | exact sInt | exact sStr); clear H; intro _ H))
              | ((with_reducible refine isMk ?_); refine mkM H ?_; clear H; intro bm _ M0)
              | ((with_reducible refine isIns ?_); first | (refine upI M0 ?_; clear M0; intro _ M1) | (refine upI M1 ?_; clear M1; intro _ M2))
              | ((with_reducible refine isLk ?_); refine lkM M2 ?_))
          cases n1 : nmeR r0 with
          | none =>
              have N1 := Lib.hid n1
              clear n1
              go_at_call 20
              have hcall := name_none H V (by first | exact HE | exact he_up HE | exact he_up (he_up HE) | exact he_up (he_up (he_up HE))) N1.out
              clear H V
              refine hcall.mono ?_
              clear hcall
              rintro _ _ ⟨_, rfl, hV, hH⟩
              have V := Lib.hid hV
              have H := Lib.hid hH
              clear hV hH
              go_wp2_with (first
                  | go_skip
                  | ((with_reducible refine isAlloc ?_); refine alA H ?_ (hz := zStm8); clear H; intro _ _ H)
                  | ((with_reducible refine isLoad ?_); first | refine ldA H ?_ (hT := rStm8) | refine ld1A H ?_ (hT := by first | exact kInt | exact kStr) | refine ld1A (Lib.hid M2.out.h) ?_ (hT := by first | exact kInt | exact kStr))
                  | ((with_reducible refine isStore ?_); first | (refine stA H ?_ (hT := by first | exact rStm8 | exact rRat); clear H; intro _ H) | (refine st1A H ?_ (hT := by first | exact sInt | exact sStr); clear H; intro _ H))
                  | ((with_reducible refine isMk ?_); refine mkM H ?_; clear H; intro bm _ M0)
                  | ((with_reducible refine isIns ?_); first | (refine upI M0 ?_; clear M0; intro _ M1) | (refine upI M1 ?_; clear M1; intro _ M2))
                  | ((with_reducible refine isLk ?_); refine lkM M2 ?_))
              refine bodyPost_ret (results_Hv H rfl rStm8 rfl (.tail _ (.tail _ (.head _))) rfl rfl) rfl ?_
              have hq : hldR r0 = none := by
                unfold hldR
                simp only [N1.out]
              have hp : plnR ts = none := by
                unfold plnR
                simp only [E0.out, E1.out, hq]
              unfold PlnC
              rw [hp]
              exact ⟨_, _, rfl, ⟨_, _, _, none, _, none, 0, 0, rfl⟩, H.out.sub (.cons_cons _ (.cons _ (.cons _ (.refl _))))⟩
          | some x1 =>
              obtain ⟨a, r1⟩ := x1
              have N1 := Lib.hid n1
              clear n1
              go_at_call 20
              have hcall := name_some H V (by first | exact HE | exact he_up HE | exact he_up (he_up HE) | exact he_up (he_up (he_up HE))) N1.out
              clear H V
              refine hcall.mono ?_
              clear hcall
              rintro _ _ ⟨_, rfl, hV, hH⟩
              have V := Lib.hid hV
              have H := Lib.hid hH
              clear hV hH
              go_wp2_with (first
                  | go_skip
                  | ((with_reducible refine isAlloc ?_); refine alA H ?_ (hz := zStm8); clear H; intro _ _ H)
                  | ((with_reducible refine isLoad ?_); first | refine ldA H ?_ (hT := rStm8) | refine ld1A H ?_ (hT := by first | exact kInt | exact kStr) | refine ld1A (Lib.hid M2.out.h) ?_ (hT := by first | exact kInt | exact kStr))
                  | ((with_reducible refine isStore ?_); first | (refine stA H ?_ (hT := by first | exact rStm8 | exact rRat); clear H; intro _ H) | (refine st1A H ?_ (hT := by first | exact sInt | exact sStr); clear H; intro _ H))
                  | ((with_reducible refine isMk ?_); refine mkM H ?_; clear H; intro bm _ M0)
                  | ((with_reducible refine isIns ?_); first | (refine upI M0 ?_; clear M0; intro _ M1) | (refine upI M1 ?_; clear M1; intro _ M2))
                  | ((with_reducible refine isLk ?_); refine lkM M2 ?_))
              cases t2 : takR kWith r1 with
              | none =>
                  have T2 := Lib.hid t2
                  clear t2
                  replace H := Lib.hid M2.out.h
                  clear M2
                  go_at_call 19
                  have hcall := take_none H V (by first | exact HE | exact he_up HE | exact he_up (he_up HE) | exact he_up (he_up (he_up HE))) T2.out
                  clear H V
                  refine hcall.mono ?_
                  clear hcall
                  rintro _ _ ⟨_, rfl, hV, hH⟩
                  have V := Lib.hid hV
                  have H := Lib.hid hH
                  clear hV hH
                  go_wp2_with (first
                      | go_skip
                      | ((with_reducible refine isAlloc ?_); refine alA H ?_ (hz := zStm8); clear H; intro _ _ H)
                      | ((with_reducible refine isLoad ?_); first | refine ldA H ?_ (hT := rStm8) | refine ld1A H ?_ (hT := by first | exact kInt | exact kStr) | refine ld1A (Lib.hid M2.out.h) ?_ (hT := by first | exact kInt | exact kStr))
                      | ((with_reducible refine isStore ?_); first | (refine stA H ?_ (hT := by first | exact rStm8 | exact rRat); clear H; intro _ H) | (refine st1A H ?_ (hT := by first | exact sInt | exact sStr); clear H; intro _ H))
                      | ((with_reducible refine isMk ?_); refine mkM H ?_; clear H; intro bm _ M0)
                      | ((with_reducible refine isIns ?_); first | (refine upI M0 ?_; clear M0; intro _ M1) | (refine upI M1 ?_; clear M1; intro _ M2))
                      | ((with_reducible refine isLk ?_); refine lkM M2 ?_))
                  refine bodyPost_ret (results_Hv H rfl rStm8 rfl (.tail _ (.tail _ (.head _))) rfl rfl) rfl ?_
                  have hq : hldR r0 = none := by
                    unfold hldR
                    simp only [N1.out, T2.out]
                  have hp : plnR ts = none := by
                    unfold plnR
                    simp only [E0.out, E1.out, hq]
                  unfold PlnC
                  rw [hp]
                  exact ⟨_, _, rfl, ⟨_, _, _, none, _, none, 0, 0, rfl⟩, H.out.sub (.cons_cons _ (.cons _ (.cons _ (.refl _))))⟩
              | some r2 =>
                  have T2 := Lib.hid t2
                  clear t2
                  replace H := Lib.hid M2.out.h
                  clear M2
                  go_at_call 19
                  have hcall := take_some H V (by first | exact HE | exact he_up HE | exact he_up (he_up HE) | exact he_up (he_up (he_up HE))) T2.out
                  clear H V
                  refine hcall.mono ?_
                  clear hcall
                  rintro _ _ ⟨_, rfl, hV, hH⟩
                  have V := Lib.hid hV
                  have H := Lib.hid hH
                  clear hV hH
                  go_wp2_with (first
                      | go_skip
                      | ((with_reducible refine isAlloc ?_); refine alA H ?_ (hz := zStm8); clear H; intro _ _ H)
                      | ((with_reducible refine isLoad ?_); first | refine ldA H ?_ (hT := rStm8) | refine ld1A H ?_ (hT := by first | exact kInt | exact kStr) | refine ld1A (Lib.hid M2.out.h) ?_ (hT := by first | exact kInt | exact kStr))
                      | ((with_reducible refine isStore ?_); first | (refine stA H ?_ (hT := by first | exact rStm8 | exact rRat); clear H; intro _ H) | (refine st1A H ?_ (hT := by first | exact sInt | exact sStr); clear H; intro _ H))
                      | ((with_reducible refine isMk ?_); refine mkM H ?_; clear H; intro bm _ M0)
                      | ((with_reducible refine isIns ?_); first | (refine upI M0 ?_; clear M0; intro _ M1) | (refine upI M1 ?_; clear M1; intro _ M2))
                      | ((with_reducible refine isLk ?_); refine lkM M2 ?_))
                  cases n3 : nmeR r2 with
                  | none =>
                      have N3 := Lib.hid n3
                      clear n3
                      go_at_call 20
                      have hcall := name_none H V (by first | exact HE | exact he_up HE | exact he_up (he_up HE) | exact he_up (he_up (he_up HE))) N3.out
                      clear H V
                      refine hcall.mono ?_
                      clear hcall
                      rintro _ _ ⟨_, rfl, hV, hH⟩
                      have V := Lib.hid hV
                      have H := Lib.hid hH
                      clear hV hH
                      go_wp2_with (first
                          | go_skip
                          | ((with_reducible refine isAlloc ?_); refine alA H ?_ (hz := zStm8); clear H; intro _ _ H)
                          | ((with_reducible refine isLoad ?_); first | refine ldA H ?_ (hT := rStm8) | refine ld1A H ?_ (hT := by first | exact kInt | exact kStr) | refine ld1A (Lib.hid M2.out.h) ?_ (hT := by first | exact kInt | exact kStr))
                          | ((with_reducible refine isStore ?_); first | (refine stA H ?_ (hT := by first | exact rStm8 | exact rRat); clear H; intro _ H) | (refine st1A H ?_ (hT := by first | exact sInt | exact sStr); clear H; intro _ H))
                          | ((with_reducible refine isMk ?_); refine mkM H ?_; clear H; intro bm _ M0)
                          | ((with_reducible refine isIns ?_); first | (refine upI M0 ?_; clear M0; intro _ M1) | (refine upI M1 ?_; clear M1; intro _ M2))
                          | ((with_reducible refine isLk ?_); refine lkM M2 ?_))
                      refine bodyPost_ret (results_Hv H rfl rStm8 rfl (.tail _ (.tail _ (.head _))) rfl rfl) rfl ?_
                      have hq : hldR r0 = none := by
                        unfold hldR
                        simp only [N1.out, T2.out, N3.out]
                      have hp : plnR ts = none := by
                        unfold plnR
                        simp only [E0.out, E1.out, hq]
                      unfold PlnC
                      rw [hp]
                      exact ⟨_, _, rfl, ⟨_, _, _, none, _, none, 0, 0, rfl⟩, H.out.sub (.cons_cons _ (.cons _ (.cons _ (.refl _))))⟩
                  | some x3 =>
                      obtain ⟨b, r3⟩ := x3
                      have N3 := Lib.hid n3
                      clear n3
                      go_at_call 20
                      have hcall := name_some H V (by first | exact HE | exact he_up HE | exact he_up (he_up HE) | exact he_up (he_up (he_up HE))) N3.out
                      clear H V
                      refine hcall.mono ?_
                      clear hcall
                      rintro _ _ ⟨_, rfl, hV, hH⟩
                      have V := Lib.hid hV
                      have H := Lib.hid hH
                      clear hV hH
                      go_wp2_with (first
                          | go_skip
                          | ((with_reducible refine isAlloc ?_); refine alA H ?_ (hz := zStm8); clear H; intro _ _ H)
                          | ((with_reducible refine isLoad ?_); first | refine ldA H ?_ (hT := rStm8) | refine ld1A H ?_ (hT := by first | exact kInt | exact kStr) | refine ld1A (Lib.hid M2.out.h) ?_ (hT := by first | exact kInt | exact kStr))
                          | ((with_reducible refine isStore ?_); first | (refine stA H ?_ (hT := by first | exact rStm8 | exact rRat); clear H; intro _ H) | (refine st1A H ?_ (hT := by first | exact sInt | exact sStr); clear H; intro _ H))
                          | ((with_reducible refine isMk ?_); refine mkM H ?_; clear H; intro bm _ M0)
                          | ((with_reducible refine isIns ?_); first | (refine upI M0 ?_; clear M0; intro _ M1) | (refine upI M1 ?_; clear M1; intro _ M2))
                          | ((with_reducible refine isLk ?_); refine lkM M2 ?_))
                      refine bodyPost_ret (results_Hv H rfl rStm8 rfl (.tail _ (.tail _ (.head _))) rfl rfl) rfl ?_
                      have hq : hldR r0 = some (.mk 2 a b none 0 [], r3) := by
                        unfold hldR
                        simp only [N1.out, T2.out, N3.out]
                      have hp : plnR ts = some (.mk 2 a b none 0 [], r3) := by
                        unfold plnR
                        simp only [E0.out, E1.out, hq]
                      unfold PlnC
                      rw [hp]
                      exact ⟨_, rfl, V.out, H.out.sub (.cons_cons _ (.cons _ (.cons _ (.refl _))))⟩
  | some r0 =>
      have E0 := Lib.hid e0
      clear e0
      go_at_call 19
      have hcall := take_some H V (by first | exact HE | exact he_up HE | exact he_up (he_up HE) | exact he_up (he_up (he_up HE))) E0.out
      clear H V
      refine hcall.mono ?_
      clear hcall
      rintro _ _ ⟨_, rfl, hV, hH⟩
      have V := Lib.hid hV
      have H := Lib.hid hH
      clear hV hH
      go_wp2_with (first
          | go_skip
          | ((with_reducible refine isAlloc ?_); refine alA H ?_ (hz := zStm8); clear H; intro _ _ H)
          | ((with_reducible refine isLoad ?_); first | refine ldA H ?_ (hT := rStm8) | refine ld1A H ?_ (hT := by first | exact kInt | exact kStr) | refine ld1A (Lib.hid M2.out.h) ?_ (hT := by first | exact kInt | exact kStr))
          | ((with_reducible refine isStore ?_); first | (refine stA H ?_ (hT := by first | exact rStm8 | exact rRat); clear H; intro _ H) | (refine st1A H ?_ (hT := by first | exact sInt | exact sStr); clear H; intro _ H))
          | ((with_reducible refine isMk ?_); refine mkM H ?_; clear H; intro bm _ M0)
          | ((with_reducible refine isIns ?_); first | (refine upI M0 ?_; clear M0; intro _ M1) | (refine upI M1 ?_; clear M1; intro _ M2))
          | ((with_reducible refine isLk ?_); refine lkM M2 ?_))
      cases n1 : nmeR r0 with
      | none =>
          have N1 := Lib.hid n1
          clear n1
          go_at_call 20
          have hcall := name_none H V (by first | exact HE | exact he_up HE | exact he_up (he_up HE) | exact he_up (he_up (he_up HE))) N1.out
          clear H V
          refine hcall.mono ?_
          clear hcall
          rintro _ _ ⟨_, rfl, hV, hH⟩
          have V := Lib.hid hV
          have H := Lib.hid hH
          clear hV hH
          go_wp2_with (first
              | go_skip
              | ((with_reducible refine isAlloc ?_); refine alA H ?_ (hz := zStm8); clear H; intro _ _ H)
              | ((with_reducible refine isLoad ?_); first | refine ldA H ?_ (hT := rStm8) | refine ld1A H ?_ (hT := by first | exact kInt | exact kStr) | refine ld1A (Lib.hid M2.out.h) ?_ (hT := by first | exact kInt | exact kStr))
              | ((with_reducible refine isStore ?_); first | (refine stA H ?_ (hT := by first | exact rStm8 | exact rRat); clear H; intro _ H) | (refine st1A H ?_ (hT := by first | exact sInt | exact sStr); clear H; intro _ H))
              | ((with_reducible refine isMk ?_); refine mkM H ?_; clear H; intro bm _ M0)
              | ((with_reducible refine isIns ?_); first | (refine upI M0 ?_; clear M0; intro _ M1) | (refine upI M1 ?_; clear M1; intro _ M2))
              | ((with_reducible refine isLk ?_); refine lkM M2 ?_))
          refine bodyPost_ret (results_Hv H rfl rStm8 rfl (.tail _ (.tail _ (.head _))) rfl rfl) rfl ?_
          have hq : putR r0 = none := by
            unfold putR
            simp only [N1.out]
          have hp : plnR ts = none := by
            unfold plnR
            simp only [E0.out, hq]
          unfold PlnC
          rw [hp]
          exact ⟨_, _, rfl, ⟨_, _, _, none, _, none, 0, 0, rfl⟩, H.out.sub (.cons_cons _ (.cons _ (.cons _ (.refl _))))⟩
      | some x1 =>
          obtain ⟨a, r1⟩ := x1
          have N1 := Lib.hid n1
          clear n1
          go_at_call 20
          have hcall := name_some H V (by first | exact HE | exact he_up HE | exact he_up (he_up HE) | exact he_up (he_up (he_up HE))) N1.out
          clear H V
          refine hcall.mono ?_
          clear hcall
          rintro _ _ ⟨_, rfl, hV, hH⟩
          have V := Lib.hid hV
          have H := Lib.hid hH
          clear hV hH
          go_wp2_with (first
              | go_skip
              | ((with_reducible refine isAlloc ?_); refine alA H ?_ (hz := zStm8); clear H; intro _ _ H)
              | ((with_reducible refine isLoad ?_); first | refine ldA H ?_ (hT := rStm8) | refine ld1A H ?_ (hT := by first | exact kInt | exact kStr) | refine ld1A (Lib.hid M2.out.h) ?_ (hT := by first | exact kInt | exact kStr))
              | ((with_reducible refine isStore ?_); first | (refine stA H ?_ (hT := by first | exact rStm8 | exact rRat); clear H; intro _ H) | (refine st1A H ?_ (hT := by first | exact sInt | exact sStr); clear H; intro _ H))
              | ((with_reducible refine isMk ?_); refine mkM H ?_; clear H; intro bm _ M0)
              | ((with_reducible refine isIns ?_); first | (refine upI M0 ?_; clear M0; intro _ M1) | (refine upI M1 ?_; clear M1; intro _ M2))
              | ((with_reducible refine isLk ?_); refine lkM M2 ?_))
          cases t2 : takR kIn r1 with
          | none =>
              have T2 := Lib.hid t2
              clear t2
              replace H := Lib.hid M2.out.h
              clear M2
              go_at_call 19
              have hcall := take_none H V (by first | exact HE | exact he_up HE | exact he_up (he_up HE) | exact he_up (he_up (he_up HE))) T2.out
              clear H V
              refine hcall.mono ?_
              clear hcall
              rintro _ _ ⟨_, rfl, hV, hH⟩
              have V := Lib.hid hV
              have H := Lib.hid hH
              clear hV hH
              go_wp2_with (first
                  | go_skip
                  | ((with_reducible refine isAlloc ?_); refine alA H ?_ (hz := zStm8); clear H; intro _ _ H)
                  | ((with_reducible refine isLoad ?_); first | refine ldA H ?_ (hT := rStm8) | refine ld1A H ?_ (hT := by first | exact kInt | exact kStr) | refine ld1A (Lib.hid M2.out.h) ?_ (hT := by first | exact kInt | exact kStr))
                  | ((with_reducible refine isStore ?_); first | (refine stA H ?_ (hT := by first | exact rStm8 | exact rRat); clear H; intro _ H) | (refine st1A H ?_ (hT := by first | exact sInt | exact sStr); clear H; intro _ H))
                  | ((with_reducible refine isMk ?_); refine mkM H ?_; clear H; intro bm _ M0)
                  | ((with_reducible refine isIns ?_); first | (refine upI M0 ?_; clear M0; intro _ M1) | (refine upI M1 ?_; clear M1; intro _ M2))
                  | ((with_reducible refine isLk ?_); refine lkM M2 ?_))
              refine bodyPost_ret (results_Hv H rfl rStm8 rfl (.tail _ (.tail _ (.head _))) rfl rfl) rfl ?_
              have hq : putR r0 = none := by
                unfold putR
                simp only [N1.out, T2.out]
              have hp : plnR ts = none := by
                unfold plnR
                simp only [E0.out, hq]
              unfold PlnC
              rw [hp]
              exact ⟨_, _, rfl, ⟨_, _, _, none, _, none, 0, 0, rfl⟩, H.out.sub (.cons_cons _ (.cons _ (.cons _ (.refl _))))⟩
          | some r2 =>
              have T2 := Lib.hid t2
              clear t2
              replace H := Lib.hid M2.out.h
              clear M2
              go_at_call 19
              have hcall := take_some H V (by first | exact HE | exact he_up HE | exact he_up (he_up HE) | exact he_up (he_up (he_up HE))) T2.out
              clear H V
              refine hcall.mono ?_
              clear hcall
              rintro _ _ ⟨_, rfl, hV, hH⟩
              have V := Lib.hid hV
              have H := Lib.hid hH
              clear hV hH
              go_wp2_with (first
                  | go_skip
                  | ((with_reducible refine isAlloc ?_); refine alA H ?_ (hz := zStm8); clear H; intro _ _ H)
                  | ((with_reducible refine isLoad ?_); first | refine ldA H ?_ (hT := rStm8) | refine ld1A H ?_ (hT := by first | exact kInt | exact kStr) | refine ld1A (Lib.hid M2.out.h) ?_ (hT := by first | exact kInt | exact kStr))
                  | ((with_reducible refine isStore ?_); first | (refine stA H ?_ (hT := by first | exact rStm8 | exact rRat); clear H; intro _ H) | (refine st1A H ?_ (hT := by first | exact sInt | exact sStr); clear H; intro _ H))
                  | ((with_reducible refine isMk ?_); refine mkM H ?_; clear H; intro bm _ M0)
                  | ((with_reducible refine isIns ?_); first | (refine upI M0 ?_; clear M0; intro _ M1) | (refine upI M1 ?_; clear M1; intro _ M2))
                  | ((with_reducible refine isLk ?_); refine lkM M2 ?_))
              cases n3 : nmeR r2 with
              | none =>
                  have N3 := Lib.hid n3
                  clear n3
                  go_at_call 20
                  have hcall := name_none H V (by first | exact HE | exact he_up HE | exact he_up (he_up HE) | exact he_up (he_up (he_up HE))) N3.out
                  clear H V
                  refine hcall.mono ?_
                  clear hcall
                  rintro _ _ ⟨_, rfl, hV, hH⟩
                  have V := Lib.hid hV
                  have H := Lib.hid hH
                  clear hV hH
                  go_wp2_with (first
                      | go_skip
                      | ((with_reducible refine isAlloc ?_); refine alA H ?_ (hz := zStm8); clear H; intro _ _ H)
                      | ((with_reducible refine isLoad ?_); first | refine ldA H ?_ (hT := rStm8) | refine ld1A H ?_ (hT := by first | exact kInt | exact kStr) | refine ld1A (Lib.hid M2.out.h) ?_ (hT := by first | exact kInt | exact kStr))
                      | ((with_reducible refine isStore ?_); first | (refine stA H ?_ (hT := by first | exact rStm8 | exact rRat); clear H; intro _ H) | (refine st1A H ?_ (hT := by first | exact sInt | exact sStr); clear H; intro _ H))
                      | ((with_reducible refine isMk ?_); refine mkM H ?_; clear H; intro bm _ M0)
                      | ((with_reducible refine isIns ?_); first | (refine upI M0 ?_; clear M0; intro _ M1) | (refine upI M1 ?_; clear M1; intro _ M2))
                      | ((with_reducible refine isLk ?_); refine lkM M2 ?_))
                  refine bodyPost_ret (results_Hv H rfl rStm8 rfl (.tail _ (.tail _ (.head _))) rfl rfl) rfl ?_
                  have hq : putR r0 = none := by
                    unfold putR
                    simp only [N1.out, T2.out, N3.out]
                  have hp : plnR ts = none := by
                    unfold plnR
                    simp only [E0.out, hq]
                  unfold PlnC
                  rw [hp]
                  exact ⟨_, _, rfl, ⟨_, _, _, none, _, none, 0, 0, rfl⟩, H.out.sub (.cons_cons _ (.cons _ (.cons _ (.refl _))))⟩
              | some x3 =>
                  obtain ⟨b, r3⟩ := x3
                  have N3 := Lib.hid n3
                  clear n3
                  go_at_call 20
                  have hcall := name_some H V (by first | exact HE | exact he_up HE | exact he_up (he_up HE) | exact he_up (he_up (he_up HE))) N3.out
                  clear H V
                  refine hcall.mono ?_
                  clear hcall
                  rintro _ _ ⟨_, rfl, hV, hH⟩
                  have V := Lib.hid hV
                  have H := Lib.hid hH
                  clear hV hH
                  go_wp2_with (first
                      | go_skip
                      | ((with_reducible refine isAlloc ?_); refine alA H ?_ (hz := zStm8); clear H; intro _ _ H)
                      | ((with_reducible refine isLoad ?_); first | refine ldA H ?_ (hT := rStm8) | refine ld1A H ?_ (hT := by first | exact kInt | exact kStr) | refine ld1A (Lib.hid M2.out.h) ?_ (hT := by first | exact kInt | exact kStr))
                      | ((with_reducible refine isStore ?_); first | (refine stA H ?_ (hT := by first | exact rStm8 | exact rRat); clear H; intro _ H) | (refine st1A H ?_ (hT := by first | exact sInt | exact sStr); clear H; intro _ H))
                      | ((with_reducible refine isMk ?_); refine mkM H ?_; clear H; intro bm _ M0)
                      | ((with_reducible refine isIns ?_); first | (refine upI M0 ?_; clear M0; intro _ M1) | (refine upI M1 ?_; clear M1; intro _ M2))
                      | ((with_reducible refine isLk ?_); refine lkM M2 ?_))
                  cases t4 : takR kWithin r3 with
                  | none =>
                      have T4 := Lib.hid t4
                      clear t4
                      go_at_call 19
                      have hcall := take_none H V (by first | exact HE | exact he_up HE | exact he_up (he_up HE) | exact he_up (he_up (he_up HE))) T4.out
                      clear H V
                      refine hcall.mono ?_
                      clear hcall
                      rintro _ _ ⟨_, rfl, hV, hH⟩
                      have V := Lib.hid hV
                      have H := Lib.hid hH
                      clear hV hH
                      go_wp2_with (first
                          | go_skip
                          | ((with_reducible refine isAlloc ?_); refine alA H ?_ (hz := zStm8); clear H; intro _ _ H)
                          | ((with_reducible refine isLoad ?_); first | refine ldA H ?_ (hT := rStm8) | refine ld1A H ?_ (hT := by first | exact kInt | exact kStr) | refine ld1A (Lib.hid M2.out.h) ?_ (hT := by first | exact kInt | exact kStr))
                          | ((with_reducible refine isStore ?_); first | (refine stA H ?_ (hT := by first | exact rStm8 | exact rRat); clear H; intro _ H) | (refine st1A H ?_ (hT := by first | exact sInt | exact sStr); clear H; intro _ H))
                          | ((with_reducible refine isMk ?_); refine mkM H ?_; clear H; intro bm _ M0)
                          | ((with_reducible refine isIns ?_); first | (refine upI M0 ?_; clear M0; intro _ M1) | (refine upI M1 ?_; clear M1; intro _ M2))
                          | ((with_reducible refine isLk ?_); refine lkM M2 ?_))
                      refine bodyPost_ret (results_Hv H rfl rStm8 rfl (.tail _ (.tail _ (.head _))) rfl rfl) rfl ?_
                      have hq : putR r0 = some (.mk 1 a b none 0 [], r3) := by
                        unfold putR
                        simp only [N1.out, T2.out, N3.out, T4.out]
                      have hp : plnR ts = some (.mk 1 a b none 0 [], r3) := by
                        unfold plnR
                        simp only [E0.out, hq]
                      unfold PlnC
                      rw [hp]
                      exact ⟨_, rfl, V.out, H.out.sub (.cons_cons _ (.cons _ (.cons _ (.refl _))))⟩
                  | some r4 =>
                      have T4 := Lib.hid t4
                      clear t4
                      go_at_call 19
                      have hcall := take_some H V (by first | exact HE | exact he_up HE | exact he_up (he_up HE) | exact he_up (he_up (he_up HE))) T4.out
                      clear H V
                      refine hcall.mono ?_
                      clear hcall
                      rintro _ _ ⟨_, rfl, hV, hH⟩
                      have V := Lib.hid hV
                      have H := Lib.hid hH
                      clear hV hH
                      go_wp2_with (first
                          | go_skip
                          | ((with_reducible refine isAlloc ?_); refine alA H ?_ (hz := zStm8); clear H; intro _ _ H)
                          | ((with_reducible refine isLoad ?_); first | refine ldA H ?_ (hT := rStm8) | refine ld1A H ?_ (hT := by first | exact kInt | exact kStr) | refine ld1A (Lib.hid M2.out.h) ?_ (hT := by first | exact kInt | exact kStr))
                          | ((with_reducible refine isStore ?_); first | (refine stA H ?_ (hT := by first | exact rStm8 | exact rRat); clear H; intro _ H) | (refine st1A H ?_ (hT := by first | exact sInt | exact sStr); clear H; intro _ H))
                          | ((with_reducible refine isMk ?_); refine mkM H ?_; clear H; intro bm _ M0)
                          | ((with_reducible refine isIns ?_); first | (refine upI M0 ?_; clear M0; intro _ M1) | (refine upI M1 ?_; clear M1; intro _ M2))
                          | ((with_reducible refine isLk ?_); refine lkM M2 ?_))
                      cases w5 : wthR r4 with
                      | none =>
                          have W5 := Lib.hid w5
                          clear w5
                          go_at_call 69
                          have hcall := within_none H V (by first | exact HE | exact he_up HE | exact he_up (he_up HE) | exact he_up (he_up (he_up HE))) W5.out
                          clear H V
                          refine hcall.mono ?_
                          clear hcall
                          rintro _ _ ⟨_, rfl, hV, hH⟩
                          have V := Lib.hid hV
                          have H := Lib.hid hH
                          clear hV hH
                          go_wp2_with (first
                              | go_skip
                              | ((with_reducible refine isAlloc ?_); refine alA H ?_ (hz := zStm8); clear H; intro _ _ H)
                              | ((with_reducible refine isLoad ?_); first | refine ldA H ?_ (hT := rStm8) | refine ld1A H ?_ (hT := by first | exact kInt | exact kStr) | refine ld1A (Lib.hid M2.out.h) ?_ (hT := by first | exact kInt | exact kStr))
                              | ((with_reducible refine isStore ?_); first | (refine stA H ?_ (hT := by first | exact rStm8 | exact rRat); clear H; intro _ H) | (refine st1A H ?_ (hT := by first | exact sInt | exact sStr); clear H; intro _ H))
                              | ((with_reducible refine isMk ?_); refine mkM H ?_; clear H; intro bm _ M0)
                              | ((with_reducible refine isIns ?_); first | (refine upI M0 ?_; clear M0; intro _ M1) | (refine upI M1 ?_; clear M1; intro _ M2))
                              | ((with_reducible refine isLk ?_); refine lkM M2 ?_))
                          refine bodyPost_ret (results_Hv H rfl rStm8 rfl (.tail _ (.tail _ (.head _))) rfl rfl) rfl ?_
                          have hq : putR r0 = none := by
                            unfold putR
                            simp only [N1.out, T2.out, N3.out, T4.out, W5.out]
                          have hp : plnR ts = none := by
                            unfold plnR
                            simp only [E0.out, hq]
                          unfold PlnC
                          rw [hp]
                          exact ⟨_, _, rfl, ⟨_, _, _, none, _, none, 0, 0, rfl⟩, H.out.sub (.cons_cons _ (.cons _ (.cons _ (.refl _))))⟩
                      | some x5 =>
                          obtain ⟨q, r5⟩ := x5
                          have W5 := Lib.hid w5
                          clear w5
                          go_at_call 69
                          have hcall := within_some H V (by first | exact HE | exact he_up HE | exact he_up (he_up HE) | exact he_up (he_up (he_up HE))) W5.out
                          clear H V
                          refine hcall.mono ?_
                          clear hcall
                          rintro _ _ ⟨_, rfl, hV, hH⟩
                          have V := Lib.hid hV
                          have H := Lib.hid hH
                          clear hV hH
                          go_wp2_with (first
                              | go_skip
                              | ((with_reducible refine isAlloc ?_); refine alA H ?_ (hz := zStm8); clear H; intro _ _ H)
                              | ((with_reducible refine isLoad ?_); first | refine ldA H ?_ (hT := rStm8) | refine ld1A H ?_ (hT := by first | exact kInt | exact kStr) | refine ld1A (Lib.hid M2.out.h) ?_ (hT := by first | exact kInt | exact kStr))
                              | ((with_reducible refine isStore ?_); first | (refine stA H ?_ (hT := by first | exact rStm8 | exact rRat); clear H; intro _ H) | (refine st1A H ?_ (hT := by first | exact sInt | exact sStr); clear H; intro _ H))
                              | ((with_reducible refine isMk ?_); refine mkM H ?_; clear H; intro bm _ M0)
                              | ((with_reducible refine isIns ?_); first | (refine upI M0 ?_; clear M0; intro _ M1) | (refine upI M1 ?_; clear M1; intro _ M2))
                              | ((with_reducible refine isLk ?_); refine lkM M2 ?_))
                          refine bodyPost_ret (results_Hv H rfl rStm8 rfl (.tail _ (.tail _ (.head _))) rfl rfl) rfl ?_
                          have hq : putR r0 = some (.mk 1 a b (some q) 0 [], r5) := by
                            unfold putR
                            simp only [N1.out, T2.out, N3.out, T4.out, W5.out]
                          have hp : plnR ts = some (.mk 1 a b (some q) 0 [], r5) := by
                            unfold plnR
                            simp only [E0.out, hq]
                          unfold PlnC
                          rw [hp]
                          exact ⟨_, rfl, V.out, H.out.sub (.cons_cons _ (.cons _ (.cons _ (.refl _))))⟩
end Go.Proofs.YtaiokjhjakdhaaaGreatDoor

namespace Go.Proofs.YtaiokjhjakdhaaaGreatDoor
open Go.RowKit
set_option linter.unusedVariables false
set_option maxRecDepth 100000

/-- What r.stmt leaves. -/
def StmP (f : FS) (d : Nat) (w0 : World) (m EW : Ents) (br : Nat) (left : Int) (ts : List Tk) (e : Ending) (w' : World) : Prop :=
  match f left ts with
  | .err c => ∃ (cs : List Value) (v' : Value) (l' : Int), e = .returned (.tuple #[.agg cs.toArray, .int .i64 c]) ∧ StV cs ∧ c ≠ 0 ∧ Hp w0 w' ((br, 79, [v', .int .i64 l']) :: m)
  | .ok s l2 r => ∃ (sv : Sv) (v' : Value) (E2 : Ents), e = .returned (.tuple #[.agg sv.cells.toArray, .int .i64 0]) ∧ RSt E2 (d + 1) s sv ∧ VW EW v' r ∧ Hp w0 w' ((br, 79, [v', .int .i64 l2]) :: (E2 ++ m))
/-- What r.block leaves. -/
def BlkP (f : Option FS) (d : Nat) (w0 : World) (m EW : Ents) (br : Nat) (left : Int) (ts : List Tk) (e : Ending) (w' : World) : Prop :=
  match blkR f left ts with
  | .err c => ∃ (v' : Value) (l' : Int), e = .returned (.tuple #[.slice none 0 0, .int .i64 c]) ∧ c ≠ 0 ∧ Hp w0 w' ((br, 79, [v', .int .i64 l']) :: m)
  | .ok l l2 r => ∃ (x v' : Value) (E2 : Ents), e = .returned (.tuple #[x, .int .i64 0]) ∧ RSs E2 d l x ∧ VW EW v' r ∧ Hp w0 w' ((br, 79, [v', .int .i64 l2]) :: (E2 ++ m))
def PreR (w0 w : World) (m EW : Ents) (br : Nat) (v : Value) (left : Int) (ts : List Tk) : Prop := ts.length ≤ 4096 ∧ Hid (Hp w0 w ((br, 79, [v, .int .i64 left]) :: m)) ∧ Hid (VW EW v ts) ∧ Hid (∀ x ∈ EW, x ∈ m) ∧ Hid (Vr w0) ∧ 0 ≤ left ∧ left ≤ 100
def StmC (f : FS) (d p : Nat) : Prop := ∀ (w0 w : World) (m EW : Ents) (br : Nat) (v : Value) (left : Int) (ts : List Tk), PreR w0 w m EW br v left ts → Calls Tryz.prog 35 #[.pointer (some ⟨br, 0, none⟩), .int .i64 p] w (StmP f d w0 m EW br left ts)
def BlkC (f : Option FS) (d p : Nat) : Prop := ∀ (w0 w : World) (m EW : Ents) (br : Nat) (v : Value) (left : Int) (ts : List Tk), PreR w0 w m EW br v left ts → Calls Tryz.prog 21 #[.pointer (some ⟨br, 0, none⟩), .int .i64 p] w (BlkP f d w0 m EW br left ts)
/-- It reads on, and no more statements than may be read. -/
def Eats (f : FS) : Prop := ∀ left ts s l t, 0 ≤ left → f left ts = .ok s l t → t.length < ts.length ∧ 0 ≤ l ∧ l ≤ left
def lenR : Value → Nat
  | .slice _ n _ => n
  | _ => 0
def rdLen (w : World) (br : Nat) : Nat := (w.cell? ⟨br, 0, none⟩).elim 0 lenR
theorem rdLen_of {w0 w : World} {m : Ents} {br : Nat} {T : TypeId} {v : Value} {vs : List Value} (h : Hp w0 w ((br, T, v :: vs) :: m)) : rdLen w br = lenR v := by
  unfold rdLen
  rw [(h.blk _ (.head _)).2.cell]
  rfl
theorem VW.lenR {E : Ents} {v : Value} {ts : List Tk} (h : VW E v ts) : lenR v = ts.length := by
  obtain ⟨A, c, rfl, _⟩ := h.shape
  rfl
theorem takR_len {x : ByteArray} {ts r : List Tk} (h : takR x ts = some r) : ts.length = r.length + 1 := by
  cases ts with
  | nil => cases h
  | cons t ts =>
    simp only [takR] at h
    split at h
    · cases h; rfl
    · cases h
def cmbR (ls : List Stm) : Rs (List Stm) → Rs (List Stm)
  | .err e => .err e
  | .ok l lf t => .ok (ls ++ l) lf t
theorem cmb_shut {ls : List Stm} {f : FS} {n : Nat} {lf : Int} {ts r : List Tk} (h : takR kShut ts = some r) : cmbR ls (lopR f (n + 1) lf ts) = .ok ls lf r := by
  unfold lopR
  simp only [h, cmbR, List.append_nil]
theorem cmb_err {ls : List Stm} {f : FS} {n : Nat} {lf c : Int} {ts : List Tk} (h : takR kShut ts = none) (h2 : f lf ts = .err c) : cmbR ls (lopR f (n + 1) lf ts) = .err c := by
  unfold lopR
  simp only [h, h2, cmbR]
theorem cmb_ok {ls : List Stm} {f : FS} {n : Nat} {lf l2 : Int} {ts t2 : List Tk} {s : Stm} (h : takR kShut ts = none) (h2 : f lf ts = .ok s l2 t2) : cmbR ls (lopR f (n + 1) lf ts) = cmbR (ls ++ [s]) (lopR f n l2 t2) := by
  conv => lhs; unfold lopR
  simp only [h, h2]
  cases lopR f n l2 t2 with
  | err e => rfl
  | ok l l3 t3 => simp [cmbR]
theorem i8R : InfoT Tryz.prog 86 8 112 := InfoT.of zStm8 (by kernel_rfl) rfl
theorem RSt.shapeR {E : Ents} {d : Nat} {s : Stm} {v : Sv} (h : RSt E d s v) : ∃ k a b wd n B m c, v = ⟨k, a, b, wd, n, .slice B m c⟩ := by
  obtain ⟨B, c, hb⟩ := h.shape
  obtain ⟨k, a, b, wd, n, bv⟩ := v
  simp only at hb
  exact ⟨k, a, b, wd, n, B, _, c, by rw [hb]⟩
theorem mvR {s : Nat × TypeId × List Value} {E1 R T : Ents} : (s :: (E1 ++ (R ++ T))).Perm (s :: (R ++ (E1 ++ T))) := .cons _ (List.perm_append_comm_assoc _ _ _)
set_option maxHeartbeats 4000000 in
theorem block_deep : BlkC none 0 6 := by
  intro w0 w m EW br v left ts ⟨htl, H, V, HE, VV, hl0, hl1⟩
  cases h : takR kOpen ts with
  | none =>
    have E0 := Lib.hid h
    clear h
    go_enter Tryz.func21, Tryz.ntmps21
    go_wp2_with (first
        | go_skip)
    go_at_call 19
    have hcall := take_none H V (by first | exact HE | exact he_up HE | exact he_up (he_up HE) | exact he_up (he_up (he_up HE))) E0.out
    clear H V
    refine hcall.mono ?_
    clear hcall
    rintro _ _ ⟨_, rfl, hV, hH⟩
    have V := Lib.hid hV
    have H := Lib.hid hH
    clear hV hH
    go_wp2_with (first
        | go_skip)
    go_ret2
    unfold BlkP blkR
    rw [E0.out]
    exact ⟨_, _, rfl, by decide, H.out⟩
  | some r =>
    have E0 := Lib.hid h
    clear h
    go_enter Tryz.func21, Tryz.ntmps21
    go_wp2_with (first
        | go_skip)
    go_at_call 19
    have hcall := take_some H V (by first | exact HE | exact he_up HE | exact he_up (he_up HE) | exact he_up (he_up (he_up HE))) E0.out
    clear H V
    refine hcall.mono ?_
    clear hcall
    rintro _ _ ⟨_, rfl, hV, hH⟩
    have V := Lib.hid hV
    have H := Lib.hid hH
    clear hV hH
    go_wp2_with (first
        | go_skip)
    go_ret2
    unfold BlkP blkR
    rw [E0.out]
    exact ⟨_, _, rfl, by decide, H.out⟩
set_option maxHeartbeats 8000000 in
theorem block_of (f : FS) (d p : Nat) (hp : p ≤ 5) (hC : StmC f d p) (hE : Eats f) : BlkC (some f) (d + 1) p := by
  have HC := Lib.hid hC
  have HEA := Lib.hid hE
  clear hC hE
  intro w0 w m EW br v left ts ⟨htl, H, V, HE, VV, hl0, hl1⟩
  cases h : takR kOpen ts with
  | none =>
    have E0 := Lib.hid h
    clear h
    go_enter Tryz.func21, Tryz.ntmps21
    go_wp2_with (first
        | go_skip)
    go_at_call 19
    have hcall := take_none H V (by first | exact HE | exact he_up HE | exact he_up (he_up HE) | exact he_up (he_up (he_up HE))) E0.out
    clear H V
    refine hcall.mono ?_
    clear hcall
    rintro _ _ ⟨_, rfl, hV, hH⟩
    have V := Lib.hid hV
    have H := Lib.hid hH
    clear hV hH
    go_wp2_with (first
        | go_skip)
    go_ret2
    unfold BlkP blkR
    rw [E0.out]
    exact ⟨_, _, rfl, by decide, H.out⟩
  | some r =>
    have E0 := Lib.hid h
    have htr := takR_len h
    clear h
    have hp5 : ¬ ((5 : Int) < p) := by omega
    go_enter Tryz.func21, Tryz.ntmps21
    go_wp2_with (first
        | go_skip)
    go_at_call 19
    have hcall := take_some H V (by first | exact HE | exact he_up HE | exact he_up (he_up HE) | exact he_up (he_up (he_up HE))) E0.out
    clear H V
    refine hcall.mono ?_
    clear hcall
    rintro _ _ ⟨_, rfl, hV, hH⟩
    have V := Lib.hid hV
    have H := Lib.hid hH
    clear hV hH
    go_wp2_with (first
        | go_skip)
    obtain ⟨RES, hres⟩ : ∃ x, cmbR [] (lopR f (r.length + 1) left r) = x := ⟨_, rfl⟩
    have HR0 := Lib.hid hres
    have HRES : Hid (RES = lopR f (r.length + 1) left r) := Lib.hid (by rw [← hres]; cases lopR f (r.length + 1) left r <;> rfl)
    clear hres
    go_loopw [6] (fun v_ wr => ∃ (n : Nat) (ls : List Stm) (svs : List Sv) (E1 : Ents) (cur : List Value) (lf : Int) (t1 : List Tk) (v1 : Value) (j : Nat), ls.length = j ∧ j + t1.length ≤ r.length ∧ t1.length < n ∧ 0 ≤ lf ∧ lf ≤ 100 ∧ Hid (cmbR ls (lopR f n lf t1) = RES) ∧ Hid (RowV 8 v_ j (flat Sv.cells svs) cur) ∧ Hid (All2 (RSt E1 (d + 1)) ls svs) ∧ Hid (VW EW v1 t1) ∧ Hid (Hp w0 wr ((br, 79, [v1, .int .i64 lf]) :: (rowE v_ 86 cur ++ (E1 ++ m))))) (fun _ wr => rdLen wr br)
    case atStart => exact ⟨r.length + 1, [], [], [], [], left, r, _, 0, rfl, by omega, by omega, hl0, hl1, HR0, Lib.hid (RowV.nil 8), Lib.hid All2.nil, V, H⟩
    case round =>
      clear H V HR0
      obtain ⟨n, ls, svs, E1, cur, lf, t1, v1, j, hlen, hjt, hn, hf0, hf1, HRR, RV, R2, V, H⟩ := hrel
      obtain ⟨n, rfl⟩ : ∃ k, n = k + 1 := ⟨n - 1, by omega⟩
      have HL1 := Lib.hid (rdLen_of H.out)
      have HL2 := Lib.hid V.out.lenR
      obtain ⟨Bv, cv, rfl, _⟩ := RV.out.shape
      have HEJ : Hid (∀ x ∈ EW, x ∈ rowE (.slice Bv j cv) 86 cur ++ (E1 ++ m)) := Lib.hid (fun x hx => List.mem_append_right _ (List.mem_append_right _ (HE.out x hx)))
      cases h : takR kShut t1 with
      | some r2 =>
          have E1s := Lib.hid h
          clear h
          go_wp2_with (first
              | go_skip)
          go_at_call 19
          have hcall := take_some H V HEJ E1s.out
          clear H V
          refine hcall.mono ?_
          clear hcall
          rintro _ _ ⟨v2, rfl, hV, hH⟩
          have V := Lib.hid hV
          have H := Lib.hid hH
          clear hV hH
          go_wp2_with (first
              | go_skip)
          go_ret2
          have hres : lopR f (r.length + 1) left r = .ok ls lf r2 := by rw [← HRES.out, ← HRR.out, cmb_shut E1s.out]
          unfold BlkP blkR
          simp only [E0.out, hres]
          refine ⟨_, v2, rowE _ 86 cur ++ E1, rfl, ⟨svs, ⟨cur, by rw [← R2.out.1, hlen]; exact RV.out, fun x hx => List.mem_append_left _ hx⟩, R2.out.mono fun _ _ h => h.mono fun x hx => List.mem_append_right _ hx⟩, V.out, ?_⟩
          rw [List.append_assoc]
          exact H.out
      | none =>
          have E1s := Lib.hid h
          clear h
          go_wp2_with (first
              | go_skip)
          go_at_call 19
          have hcall := take_none H V HEJ E1s.out
          clear H V
          refine hcall.mono ?_
          clear hcall
          rintro _ _ ⟨v2, rfl, hV, hH⟩
          have V := Lib.hid hV
          have H := Lib.hid hH
          clear hV hH
          go_wp2_with (first
              | go_skip)
          go_at_call 35
          have hcall := HC.out w0 _ _ EW br v2 lf t1 ⟨by omega, H, V, HEJ, VV, hf0, hf1⟩
          clear H V
          refine hcall.mono ?_
          clear hcall
          intro e w' hS
          unfold StmP at hS
          cases hf : f lf t1 with
          | err c =>
              have EF := Lib.hid hf
              rw [hf] at hS
              obtain ⟨cs, v3, l3, rfl, hcs, hc0, hH⟩ := hS
              have H := Lib.hid hH
              have hcb : (c != 0) = true := bne_iff_ne.2 hc0
              obtain ⟨vk, va, vb, vw, vn, B2, m2, c2, rfl⟩ := hcs
              clear hf hH hc0
              unfold Sv.cells
              go_wp2_with (first
                  | go_skip
                  | ((with_reducible refine isAlloc ?_); refine alA H ?_ (hz := zStm8); clear H; intro q7 _ H)
                  | ((with_reducible refine isStore ?_); refine stA H ?_ (hT := rStm8); clear H; intro _ H))
              go_ret2
              have hres : lopR f (r.length + 1) left r = .err c := by rw [← HRES.out, ← HRR.out, cmb_err E1s.out EF.out]
              unfold BlkP blkR
              simp only [E0.out, hres]
              exact ⟨v3, l3, rfl, bne_iff_ne.1 hcb, H.out.sub (.cons _ (.cons_cons _ ((List.sublist_append_right _ _).trans (List.sublist_append_right _ _))))⟩
          | ok s l2 t2 =>
              have EF := Lib.hid hf
              rw [hf] at hS
              obtain ⟨sv, v3, E2, rfl, hR, hV, hH⟩ := hS
              obtain ⟨vk, va, vb, vw, vn, B2, m2, c2, rfl⟩ := hR.shapeR
              have HR := Lib.hid hR
              have V := Lib.hid hV
              have H := Lib.hid (hH.perm mvR)
              obtain ⟨hea, heb, hec⟩ := HEA.out _ _ _ _ _ hf0 hf
              have HL3 := Lib.hid (hV.lenR)
              clear hf hR hV hH
              unfold Sv.cells
              have hjb : j < 100000 := by omega
              go_wp2_with (first
                  | go_skip
                  | ((with_reducible refine isAlloc ?_); refine alA H ?_ (hz := zStm8); clear H; intro q7 _ H)
                  | ((with_reducible refine isStore ?_); refine stA H ?_ (hT := rStm8); clear H; intro _ H)
                  | ((with_reducible refine isLoad ?_); refine ldA H ?_ (hT := rStm8))
                  | ((with_reducible refine isSlc ?_); refine bsA 86 (Sv.cells ⟨vk, va, vb, vw, vn, .slice B2 m2 c2⟩) 1 H ?_; clear H; intro gz _ H)
                  | ((with_reducible refine isApp ?_); refine wpList_appH [(gz, 86, _), (q7, 86, _), (br, 79, _)] (E2 ++ (E1 ++ m)) H RV (by rfl) i8R (by decide) Tryz.underlying23 (by rfl) (by rfl) (by rfl) (by rfl) (.head _) (by rfl) (by rfl) (by omega) (by simp only [maxLen]; omega) (by omega) ?_; clear H RV; intro _ _ _ RV H))
              go_roundw
              case rel => first | exact ⟨n, ls ++ [s], svs ++ [⟨vk, va, vb, vw, vn, .slice B2 m2 c2⟩], E2 ++ E1, _, l2, t2, v3, j + 1, by simp [hlen], by omega, by omega, heb, by omega, Lib.hid (by rw [← HRR.out, cmb_ok E1s.out EF.out]), by rw [flat_append, flat_one]; exact RV, Lib.hid ((R2.out.mono fun _ _ h => h.mono fun x hx => List.mem_append_right _ hx).snoc (HR.out.mono fun x hx => List.mem_append_left _ hx)), V, by rw [List.append_assoc]; exact Lib.hid H.out.drop.drop⟩ | (trace_state; fail)
              case measure => rw [rdLen_of (H.out.drop.drop), HL3.out, HL1.out, HL2.out]; exact hea
end Go.Proofs.YtaiokjhjakdhaaaGreatDoor

namespace Go.Proofs.YtaiokjhjakdhaaaGreatDoor
open Go.RowKit
set_option linter.unusedVariables false
set_option maxRecDepth 100000

/-- Blocks in a row. -/
def RBs (E : Ents) (d : Nat) (bs : List (List Stm)) (x : Value) : Prop := ∃ bvs : List Value, RowIn E 23 1 x bvs.length (flat one bvs) ∧ All2 (RSs E d) bs bvs
def BksP (f : Option FS) (x : ByteArray) (k d : Nat) (w0 : World) (m EW : Ents) (br : Nat) (left : Int) (ts : List Tk) (e : Ending) (w' : World) : Prop :=
  match bksR f x k left ts with
  | .err c => ∃ (v' : Value) (l' : Int), e = .returned (.tuple #[.slice none 0 0, .int .i64 c]) ∧ c ≠ 0 ∧ Hp w0 w' ((br, 79, [v', .int .i64 l']) :: m)
  | .ok bs l2 r => ∃ (xv v' : Value) (E2 : Ents), e = .returned (.tuple #[xv, .int .i64 0]) ∧ RBs E2 d bs xv ∧ VW EW v' r ∧ Hp w0 w' ((br, 79, [v', .int .i64 l2]) :: (E2 ++ m))
def BksC (f : Option FS) (d p : Nat) : Prop := ∀ (w0 w : World) (m EW : Ents) (br : Nat) (v : Value) (left : Int) (ts : List Tk) (x : ByteArray) (k : Nat), PreR w0 w m EW br v left ts → 0 < k → k ≤ 4 → Calls Tryz.prog 53 #[.pointer (some ⟨br, 0, none⟩), .int .i64 p, .string x, .int .i64 k] w (BksP f x k d w0 m EW br left ts)
theorem lopR_eats {f : FS} (hf : Eats f) : ∀ (n : Nat) (left : Int) (ts : List Tk) (l : List Stm) (lf : Int) (t : List Tk), 0 ≤ left → lopR f n left ts = .ok l lf t → t.length < ts.length ∧ 0 ≤ lf ∧ lf ≤ left
  | 0, _, _, _, _, _, _, h => by cases h
  | n + 1, left, ts, l, lf, t, h0, h => by
    unfold lopR at h
    split at h
    · rename_i r e
      cases h
      have := takR_len e
      exact ⟨by omega, h0, Int.le_refl _⟩
    · split at h
      · cases h
      · rename_i s l2 t2 e2
        split at h
        · cases h
        · rename_i l' l3 t3 e3
          cases h
          obtain ⟨a1, a2, a3⟩ := hf _ _ _ _ _ h0 e2
          obtain ⟨b1, b2, b3⟩ := lopR_eats hf n _ _ _ _ _ a2 e3
          exact ⟨by omega, b2, by omega⟩
theorem blkR_eats {f : Option FS} (hf : ∀ g, f = some g → Eats g) {left : Int} {ts : List Tk} {l : List Stm} {lf : Int} {t : List Tk} (h0 : 0 ≤ left) (h : blkR f left ts = .ok l lf t) : t.length < ts.length ∧ 0 ≤ lf ∧ lf ≤ left := by
  unfold blkR at h
  split at h
  · cases h
  · rename_i r e
    split at h
    · cases h
    · rename_i g
      have h1 := takR_len e
      obtain ⟨a1, a2, a3⟩ := lopR_eats (hf g rfl) _ _ _ _ _ _ h0 h
      exact ⟨by omega, a2, a3⟩
theorem bksR_eats {f : Option FS} (hf : ∀ g, f = some g → Eats g) (x : ByteArray) : ∀ (k : Nat) (left : Int) (ts : List Tk) (bs : List (List Stm)) (lf : Int) (t : List Tk), 0 ≤ left → bksR f x k left ts = .ok bs lf t → t.length < ts.length ∧ 0 ≤ lf ∧ lf ≤ left
  | 0, _, _, _, _, _, _, h => by cases h
  | k + 1, left, ts, bs, lf, t, h0, h => by
    unfold bksR at h
    split at h
    · cases h
    · rename_i b l2 t2 e2
      obtain ⟨a1, a2, a3⟩ := blkR_eats hf h0 e2
      split at h
      · cases h
        exact ⟨a1, a2, a3⟩
      · split at h
        · cases h
          exact ⟨a1, a2, a3⟩
        · rename_i t3 e3
          have h1 := takR_len e3
          split at h
          · cases h
          · rename_i bs' l4 t4 e4
            cases h
            obtain ⟨b1, b2, b3⟩ := bksR_eats hf x k _ _ _ _ _ a2 e4
            exact ⟨by omega, b2, by omega⟩
def cmbB (ls : List (List Stm)) : Rs (List (List Stm)) → Rs (List (List Stm))
  | .err e => .err e
  | .ok l lf t => .ok (ls ++ l) lf t
theorem cmbB_err {ls : List (List Stm)} {f : Option FS} {x : ByteArray} {k : Nat} {lf c : Int} {ts : List Tk} (h : blkR f lf ts = .err c) : cmbB ls (bksR f x (k + 1) lf ts) = .err c := by
  unfold bksR
  simp only [h, cmbB]
theorem cmbB_last {ls : List (List Stm)} {f : Option FS} {x : ByteArray} {lf l2 : Int} {ts t2 : List Tk} {b : List Stm} (h : blkR f lf ts = .ok b l2 t2) : cmbB ls (bksR f x (0 + 1) lf ts) = .ok (ls ++ [b]) l2 t2 := by
  unfold bksR
  simp only [h, if_pos, cmbB]
theorem cmbB_end {ls : List (List Stm)} {f : Option FS} {x : ByteArray} {k : Nat} {lf l2 : Int} {ts t2 : List Tk} {b : List Stm} (h : blkR f lf ts = .ok b l2 t2) (hk : ¬ k = 0) (h2 : takR x t2 = none) : cmbB ls (bksR f x (k + 1) lf ts) = .ok (ls ++ [b]) l2 t2 := by
  unfold bksR
  simp only [h, if_neg hk, h2, cmbB]
theorem cmbB_more {ls : List (List Stm)} {f : Option FS} {x : ByteArray} {k : Nat} {lf l2 : Int} {ts t2 t3 : List Tk} {b : List Stm} (h : blkR f lf ts = .ok b l2 t2) (hk : ¬ k = 0) (h2 : takR x t2 = some t3) : cmbB ls (bksR f x (k + 1) lf ts) = cmbB (ls ++ [b]) (bksR f x k l2 t3) := by
  conv => lhs; unfold bksR
  simp only [h, if_neg hk, h2]
  cases bksR f x k l2 t3 with
  | err e => rfl
  | ok l l3 t3 => simp [cmbB]
theorem iStl : InfoT Tryz.prog 23 1 24 := InfoT.of (z := .slice none 0 0) (by kernel_rfl) (by kernel_rfl) rfl
theorem RSs.shapeR {E : Ents} {d : Nat} {l : List Stm} {x : Value} (h : RSs E d l x) : ∃ B n c, x = .slice B n c := by
  obtain ⟨svs, h1, _⟩ := h
  obtain ⟨B, c, rfl, _⟩ := h1.shape
  exact ⟨B, _, c, rfl⟩
theorem flat_one1 (x : Value) : flat one [x] = [x] := rfl
set_option maxHeartbeats 8000000 in
theorem blocks_of (f : Option FS) (d p : Nat) (hp : p ≤ 6) (hC : BlkC f d p) (hE : ∀ g, f = some g → Eats g) : BksC f d p := by
  have HC := Lib.hid hC
  have HEA := Lib.hid (fun left ts l lf t => @blkR_eats f hE left ts l lf t)
  clear hC hE
  intro w0 w m EW br v left ts x k ⟨htl, H, V, HE, VV, hl0, hl1⟩ hk0 hk4
  obtain ⟨RES, hres⟩ : ∃ y, cmbB [] (bksR f x k left ts) = y := ⟨_, rfl⟩
  have HR0 := Lib.hid hres
  have HRES : Hid (RES = bksR f x k left ts) := Lib.hid (by rw [← hres]; cases bksR f x k left ts <;> rfl)
  clear hres
  go_enter Tryz.func53, Tryz.ntmps53
  go_wp2_with (first
      | go_skip)
  go_loopw [10] (fun v_ wr => ∃ (n : Nat) (bs : List (List Stm)) (bvs : List Value) (E1 : Ents) (cur : List Value) (lf : Int) (t1 : List Tk) (v1 : Value) (j : Nat), bs.length = j ∧ bvs.length = j ∧ j + n = k ∧ 0 < n ∧ t1.length ≤ 4096 ∧ 0 ≤ lf ∧ lf ≤ 100 ∧ Hid (cmbB bs (bksR f x n lf t1) = RES) ∧ Hid (RowV 1 v_ j (flat one bvs) cur) ∧ Hid (All2 (RSs E1 d) bs bvs) ∧ Hid (VW EW v1 t1) ∧ Hid (Hp w0 wr ((br, 79, [v1, .int .i64 lf]) :: (rowE v_ 23 cur ++ (E1 ++ m))))) (fun v_ _ => 10 - lenR v_)
  case atStart => exact ⟨k, [], [], [], [], left, ts, _, 0, rfl, rfl, by omega, hk0, htl, hl0, hl1, HR0, Lib.hid (RowV.nil 1), Lib.hid All2.nil, V, H⟩
  case round =>
    clear H V HR0
    obtain ⟨n, bs, bvs, E1, cur, lf, t1, v1, j, hlen, hbl, hjn, hn0, ht1, hf0, hf1, HRR, RV, R2, V, H⟩ := hrel
    obtain ⟨n, rfl⟩ : ∃ q, n = q + 1 := ⟨n - 1, by omega⟩
    obtain ⟨Bv, cv, rfl, _⟩ := RV.out.shape
    have HEJ : Hid (∀ x ∈ EW, x ∈ rowE (.slice Bv j cv) 23 cur ++ (E1 ++ m)) := Lib.hid (fun x hx => List.mem_append_right _ (List.mem_append_right _ (HE.out x hx)))
    go_wp2_with (first
        | go_skip)
    go_at_call 21
    have hcall := HC.out w0 _ _ EW br _ lf t1 ⟨ht1, H, V, HEJ, VV, hf0, hf1⟩
    clear H V
    refine hcall.mono ?_
    clear hcall
    intro e w' hS
    unfold BlkP at hS
    cases hf : blkR f lf t1 with
    | err c =>
        have EF := Lib.hid hf
        rw [hf] at hS
        obtain ⟨v3, l3, rfl, hc0, hH⟩ := hS
        have H := Lib.hid hH
        have hcb : (c != 0) = true := bne_iff_ne.2 hc0
        clear hf hH hc0
        go_wp2_with (first
            | go_skip)
        go_ret2
        have hres : bksR f x k left ts = .err c := by rw [← HRES.out, ← HRR.out, cmbB_err EF.out]
        unfold BksP
        rw [hres]
        exact ⟨v3, l3, rfl, bne_iff_ne.1 hcb, H.out.sub (.cons_cons _ ((List.sublist_append_right _ _).trans (List.sublist_append_right _ _)))⟩
    | ok b l2 t2 =>
        have EF := Lib.hid hf
        rw [hf] at hS
        obtain ⟨xv, v3, E2, rfl, hR, hV, hH⟩ := hS
        obtain ⟨B2, m2, c2, rfl⟩ := hR.shapeR
        have HR := Lib.hid hR
        have V := Lib.hid hV
        have H := Lib.hid (hH.perm mvR)
        obtain ⟨hea, heb, hec⟩ := HEA.out _ _ _ _ _ hf0 hf
        clear hf hR hV hH
        by_cases hn : n = 0
        · subst hn
          obtain rfl : k = j + 1 := by omega
          go_wp2_with (first
              | go_skip
              | ((with_reducible refine isSlc ?_); refine bsA 23 [.slice B2 m2 c2] 1 H ?_; clear H; intro gz _ H)
              | ((with_reducible refine isApp ?_); refine wpList_appH [(gz, 23, _), (br, 79, _)] (E2 ++ (E1 ++ m)) H RV (by rfl) iStl (by decide) Tryz.underlying84 (by rfl) (by rfl) (by rfl) (by rfl) (.head _) (by rfl) (by rfl) (by omega) (by simp only [maxLen]; omega) (by omega) ?_; clear H RV; intro v5 cur5 _ RV H; obtain ⟨B5, c5, rfl, _⟩ := RV.out.shape))
          replace H := Lib.hid (show Hp w0 _ ((br, 79, [v3, .int .i64 l2]) :: (rowE (.slice B5 (j + 1) c5) 23 cur5 ++ (E2 ++ (E1 ++ m)))) from H.out.drop)
          have R3 : Hid (All2 (RSs (E2 ++ E1) d) (bs ++ [b]) (bvs ++ [.slice B2 m2 c2])) := Lib.hid ((R2.out.mono fun _ _ h => h.mono fun x hx => List.mem_append_right _ hx).snoc (HR.out.mono fun x hx => List.mem_append_left _ hx))
          go_ret2
          have hres : bksR f x (j + 1) left ts = .ok (bs ++ [b]) l2 t2 := by rw [← HRES.out, ← HRR.out, cmbB_last EF.out]
          unfold BksP
          rw [hres]
          refine ⟨.slice B5 (j + 1) c5, _, rowE (.slice B5 (j + 1) c5) 23 cur5 ++ (E2 ++ E1), rfl, ⟨bvs ++ [.slice B2 m2 c2], ⟨cur5, by rw [List.length_append, hbl, flat_append, flat_one1]; exact RV.out, fun x hx => List.mem_append_left _ hx⟩, R3.out.mono fun _ _ h => h.mono fun x hx => List.mem_append_right _ hx⟩, V.out, ?_⟩
          rw [List.append_assoc, List.append_assoc]
          exact H.out
        · have hjk : ((j : Int) + 1 == k) = false := beq_eq_false_iff_ne.2 (by omega)
          cases h3 : takR x t2 with
          | none =>
              have E3 := Lib.hid h3
              clear h3
              go_wp2_with (first
                  | go_skip
                  | ((with_reducible refine isSlc ?_); refine bsA 23 [.slice B2 m2 c2] 1 H ?_; clear H; intro gz _ H)
                  | ((with_reducible refine isApp ?_); refine wpList_appH [(gz, 23, _), (br, 79, _)] (E2 ++ (E1 ++ m)) H RV (by rfl) iStl (by decide) Tryz.underlying84 (by rfl) (by rfl) (by rfl) (by rfl) (.head _) (by rfl) (by rfl) (by omega) (by simp only [maxLen]; omega) (by omega) ?_; clear H RV; intro v5 cur5 _ RV H; obtain ⟨B5, c5, rfl, _⟩ := RV.out.shape))
              replace H := Lib.hid (show Hp w0 _ ((br, 79, [v3, .int .i64 l2]) :: (rowE (.slice B5 (j + 1) c5) 23 cur5 ++ (E2 ++ (E1 ++ m)))) from H.out.drop)
              go_at_call 19
              have hcall := take_none H V (Lib.hid (fun x hx => List.mem_append_right _ (List.mem_append_right _ (List.mem_append_right _ (HE.out x hx))))) E3.out
              clear H V
              refine hcall.mono ?_
              clear hcall
              rintro _ _ ⟨v6, rfl, hV, hH⟩
              have V := Lib.hid hV
              have H := Lib.hid hH
              clear hV hH
              go_wp2_with (first
                  | go_skip
                  | ((with_reducible refine isSlc ?_); refine bsA 23 [.slice B2 m2 c2] 1 H ?_; clear H; intro gz _ H)
                  | ((with_reducible refine isApp ?_); refine wpList_appH [(gz, 23, _), (br, 79, _)] (E2 ++ (E1 ++ m)) H RV (by rfl) iStl (by decide) Tryz.underlying84 (by rfl) (by rfl) (by rfl) (by rfl) (.head _) (by rfl) (by rfl) (by omega) (by simp only [maxLen]; omega) (by omega) ?_; clear H RV; intro v5 cur5 _ RV H; obtain ⟨B5, c5, rfl, _⟩ := RV.out.shape))
              have R3 : Hid (All2 (RSs (E2 ++ E1) d) (bs ++ [b]) (bvs ++ [.slice B2 m2 c2])) := Lib.hid ((R2.out.mono fun _ _ h => h.mono fun x hx => List.mem_append_right _ hx).snoc (HR.out.mono fun x hx => List.mem_append_left _ hx))
              go_ret2
              have hres : bksR f x k left ts = .ok (bs ++ [b]) l2 t2 := by rw [← HRES.out, ← HRR.out, cmbB_end EF.out hn E3.out]
              unfold BksP
              rw [hres]
              refine ⟨.slice B5 (j + 1) c5, _, rowE (.slice B5 (j + 1) c5) 23 cur5 ++ (E2 ++ E1), rfl, ⟨bvs ++ [.slice B2 m2 c2], ⟨cur5, by rw [List.length_append, hbl, flat_append, flat_one1]; exact RV.out, fun x hx => List.mem_append_left _ hx⟩, R3.out.mono fun _ _ h => h.mono fun x hx => List.mem_append_right _ hx⟩, V.out, ?_⟩
              rw [List.append_assoc, List.append_assoc]
              exact H.out
          | some t3 =>
              have htl3 := takR_len h3
              have E3 := Lib.hid h3
              clear h3
              go_wp2_with (first
                  | go_skip
                  | ((with_reducible refine isSlc ?_); refine bsA 23 [.slice B2 m2 c2] 1 H ?_; clear H; intro gz _ H)
                  | ((with_reducible refine isApp ?_); refine wpList_appH [(gz, 23, _), (br, 79, _)] (E2 ++ (E1 ++ m)) H RV (by rfl) iStl (by decide) Tryz.underlying84 (by rfl) (by rfl) (by rfl) (by rfl) (.head _) (by rfl) (by rfl) (by omega) (by simp only [maxLen]; omega) (by omega) ?_; clear H RV; intro v5 cur5 _ RV H; obtain ⟨B5, c5, rfl, _⟩ := RV.out.shape))
              replace H := Lib.hid (show Hp w0 _ ((br, 79, [v3, .int .i64 l2]) :: (rowE (.slice B5 (j + 1) c5) 23 cur5 ++ (E2 ++ (E1 ++ m)))) from H.out.drop)
              go_at_call 19
              have hcall := take_some H V (Lib.hid (fun x hx => List.mem_append_right _ (List.mem_append_right _ (List.mem_append_right _ (HE.out x hx))))) E3.out
              clear H V
              refine hcall.mono ?_
              clear hcall
              rintro _ _ ⟨v6, rfl, hV, hH⟩
              have V := Lib.hid hV
              have H := Lib.hid hH
              clear hV hH
              go_wp2_with (first
                  | go_skip
                  | ((with_reducible refine isSlc ?_); refine bsA 23 [.slice B2 m2 c2] 1 H ?_; clear H; intro gz _ H)
                  | ((with_reducible refine isApp ?_); refine wpList_appH [(gz, 23, _), (br, 79, _)] (E2 ++ (E1 ++ m)) H RV (by rfl) iStl (by decide) Tryz.underlying84 (by rfl) (by rfl) (by rfl) (by rfl) (.head _) (by rfl) (by rfl) (by omega) (by simp only [maxLen]; omega) (by omega) ?_; clear H RV; intro v5 cur5 _ RV H; obtain ⟨B5, c5, rfl, _⟩ := RV.out.shape))
              have R3 : Hid (All2 (RSs (E2 ++ E1) d) (bs ++ [b]) (bvs ++ [.slice B2 m2 c2])) := Lib.hid ((R2.out.mono fun _ _ h => h.mono fun x hx => List.mem_append_right _ hx).snoc (HR.out.mono fun x hx => List.mem_append_left _ hx))
              go_roundw
              case rel => first | exact ⟨n, bs ++ [b], bvs ++ [.slice B2 m2 c2], E2 ++ E1, cur5, l2, t3, v6, j + 1, by simp [hlen], by simp [hbl], by omega, by omega, by omega, heb, by omega, Lib.hid (by rw [← HRR.out, cmbB_more EF.out hn E3.out]), by rw [flat_append, flat_one1]; exact RV, R3, V, by rw [List.append_assoc]; exact H⟩ | (trace_state; fail)
              case measure => simp [lenR]; omega
end Go.Proofs.YtaiokjhjakdhaaaGreatDoor

namespace Go.Proofs.YtaiokjhjakdhaaaGreatDoor
open Go.RowKit
set_option linter.unusedVariables false
set_option maxRecDepth 100000

theorem VW.ok {E : Ents} {v : Value} {ts : List Tk} (h : VW E v ts) : ∀ x ∈ ts, TkOk x := by
  obtain ⟨_, _, _, _, _, h4, _⟩ := h
  exact h4
theorem takR_sub {x : ByteArray} {ts r : List Tk} (h : takR x ts = some r) : ∀ y ∈ r, y ∈ ts := by
  cases ts with
  | nil => cases h
  | cons t ts =>
    simp only [takR] at h
    split at h
    · cases h; exact fun y hy => .tail _ hy
    · cases h
theorem nmeR_sub {a : ByteArray} {ts r : List Tk} (h : nmeR ts = some (a, r)) : (∃ x ∈ ts, x.2 = a) ∧ ∀ y ∈ r, y ∈ ts := by
  cases ts with
  | nil => cases h
  | cons t ts =>
    simp only [nmeR] at h
    split at h
    · split at h
      · cases h
      · cases h; exact ⟨⟨_, .head _, rfl⟩, fun y hy => .tail _ hy⟩
    · cases h
theorem cntR_sub {n : Int} {ts r : List Tk} (h : cntR ts = some (n, r)) : (-9223372036854775808 ≤ n ∧ n ≤ 9223372036854775807) ∧ ∀ y ∈ r, y ∈ ts := by
  cases ts with
  | nil => cases h
  | cons t ts =>
    simp only [cntR] at h
    split at h
    · split at h
      · cases h
      · rename_i n' hn
        split at h
        · cases h; exact ⟨intT_bd hn, fun y hy => .tail _ hy⟩
        · cases h
    · cases h
theorem wthR_sub {q : Rat} {ts r : List Tk} (hk : ∀ x ∈ ts, TkOk x) (h : wthR ts = some (q, r)) : SmO (some q) ∧ (0 ≤ q.num ∧ q.num.natAbs < 1000000000 ∧ q.den < 1000000000) ∧ ∀ y ∈ r, y ∈ ts := by
  cases ts with
  | nil => cases h
  | cons t ts =>
    simp only [wthR] at h
    split at h
    · rename_i h2
      split at h
      · cases h
      · rename_i q' hq
        split at h
        · cases h
          have hb := ratR_ok ((hk t (.head _)).2 h2) hq
          exact ⟨Sz.sm (k := 4) ⟨Nat.lt_trans hb.2.1 (by decide), Nat.lt_trans hb.2.2 (by decide)⟩ (by decide), hb, fun y hy => .tail _ hy⟩
        · cases h
    · cases h
theorem ml4 {n : Nat} (h : n ≤ 4096) : n ≤ maxLen := Nat.le_trans h (by decide)
/-- What a statement that is read has besides its blocks. -/
def StOk (s : Stm) : Prop := (0 ≤ s.k ∧ s.k ≤ 9) ∧ (-9223372036854775808 ≤ s.n ∧ s.n ≤ 9223372036854775807) ∧ s.a.size ≤ maxLen ∧ s.b.size ≤ maxLen ∧ SmO s.wd
theorem noS_sz : noS.size ≤ maxLen := by decide
theorem stm_ok {k n : Int} {a b : ByteArray} {wd : Option Rat} {bl : List (List Stm)} (hk : 0 ≤ k ∧ k ≤ 9) (hn : -9223372036854775808 ≤ n ∧ n ≤ 9223372036854775807) (ha : a.size ≤ maxLen) (hb : b.size ≤ maxLen) (hw : SmO wd) : StOk (.mk k a b wd n bl) := ⟨hk, hn, ha, hb, hw⟩
theorem plnR_ok {s : Stm} {ts r : List Tk} (hk : ∀ x ∈ ts, TkOk x) (h : plnR ts = some (s, r)) : StOk s ∧ s.bl = [] := by
  unfold plnR at h
  have nm : ∀ {a : ByteArray} {t1 r1 : List Tk}, (∀ x ∈ t1, x ∈ ts) → nmeR t1 = some (a, r1) → a.size ≤ maxLen ∧ ∀ x ∈ r1, x ∈ ts := fun hs he => by
    obtain ⟨⟨x, hx, rfl⟩, h2⟩ := nmeR_sub he
    exact ⟨ml4 (hk x (hs x hx)).1, fun y hy => hs y (h2 y hy)⟩
  split at h
  · rename_i r0 e0
    have s0 := takR_sub e0
    unfold putR at h
    split at h
    · cases h
    · rename_i a r1 e1
      obtain ⟨z1, s1⟩ := nm s0 e1
      split at h
      · cases h
      · rename_i r2 e2
        have s2 : ∀ x ∈ r2, x ∈ ts := fun y hy => s1 y (takR_sub e2 y hy)
        split at h
        · cases h
        · rename_i b r3 e3
          obtain ⟨z3, s3⟩ := nm s2 e3
          split at h
          · cases h
            exact ⟨stm_ok (k := 1) (n := 0) (by decide) (by decide) z1 z3 SmO.none, rfl⟩
          · rename_i r4 e4
            split at h
            · cases h
            · rename_i q r5 e5
              cases h
              exact ⟨stm_ok (k := 1) (n := 0) (by decide) (by decide) z1 z3 (wthR_sub (fun x hx => hk x (s3 x (takR_sub e4 x hx))) e5).1, rfl⟩
  · split at h
    · rename_i r0 e0
      have s0 := takR_sub e0
      unfold hldR at h
      split at h
      · cases h
      · rename_i a r1 e1
        obtain ⟨z1, s1⟩ := nm s0 e1
        split at h
        · cases h
        · rename_i r2 e2
          have s2 : ∀ x ∈ r2, x ∈ ts := fun y hy => s1 y (takR_sub e2 y hy)
          split at h
          · cases h
          · rename_i b r3 e3
            obtain ⟨z3, s3⟩ := nm s2 e3
            cases h
            exact ⟨stm_ok (k := 2) (n := 0) (by decide) (by decide) z1 z3 SmO.none, rfl⟩
    · split at h
      · rename_i r0 e0
        have s0 := takR_sub e0
        unfold oneR at h
        split at h
        · cases h
        · rename_i a r1 e1
          obtain ⟨z1, s1⟩ := nm s0 e1
          cases h
          exact ⟨stm_ok (k := 3) (n := 0) (by decide) (by decide) z1 noS_sz SmO.none, rfl⟩
      · split at h
        · rename_i r0 e0
          have s0 := takR_sub e0
          unfold oneR at h
          split at h
          · cases h
          · rename_i a r1 e1
            obtain ⟨z1, s1⟩ := nm s0 e1
            cases h
            exact ⟨stm_ok (k := 4) (n := 0) (by decide) (by decide) z1 noS_sz SmO.none, rfl⟩
        · split at h
          · rename_i r0 e0
            unfold waiR at h
            split at h
            · cases h
            · rename_i n r1 e1
              cases h
              exact ⟨stm_ok (k := 5) (by decide) (cntR_sub e1).1 noS_sz noS_sz SmO.none, rfl⟩
          · cases h
theorem StOk.sv {k n : Int} {a b : ByteArray} {wd : Option Rat} {bl : List (List Stm)} (h : StOk (.mk k a b wd n bl)) (bv : Value) : Sv.ok ⟨k, a, b, wd, n, bv⟩ :=
  ⟨⟨by have := h.1.1; simp only [Stm.k] at this ⊢; omega, by have := h.1.2; simp only [Stm.k] at this ⊢; omega⟩, h.2.1, h.2.2.1, h.2.2.2.1, h.2.2.2.2⟩
theorem RSt.of_bl {E : Ents} {d : Nat} {k n : Int} {a b : ByteArray} {wd : Option Rat} {bs : List (List Stm)} {x : Value} (h : StOk (.mk k a b wd n bs)) (hb : RBs E d bs x) : RSt E (d + 1) (.mk k a b wd n bs) ⟨k, a, b, wd, n, x⟩ := by
  obtain ⟨bvs, h1, h2⟩ := hb
  exact ⟨h.sv x, rfl, rfl, rfl, rfl, rfl, bvs, h1, h2⟩
theorem RSt.of_leaf (d : Nat) {s : Stm} (h : StOk s) (hb : s.bl = []) : RSt [] (d + 1) s (leafV s) := by
  obtain ⟨k, a, b, wd, n, bl⟩ := s
  simp only [Stm.bl] at hb
  subst hb
  exact RSt.leaf d (h.sv _)
theorem mv2 {s a b : Nat × TypeId × List Value} {E m : Ents} : (s :: (E ++ (a :: b :: m))).Perm (s :: a :: b :: (E ++ m)) := .cons _ (List.perm_middle.trans (.cons _ List.perm_middle))
theorem stkOk {k n : Int} {bs : List (List Stm)} (hk : 0 ≤ k ∧ k ≤ 9) (hn : -9223372036854775808 ≤ n ∧ n ≤ 9223372036854775807) : StOk (.mk k noS noS none n bs) := ⟨hk, hn, noS_sz, noS_sz, SmO.none⟩
theorem RBs.shapeR {E : Ents} {d : Nat} {bs : List (List Stm)} {x : Value} (h : RBs E d bs x) : ∃ B c, x = .slice B bs.length c := by
  obtain ⟨bvs, h1, h2⟩ := h
  obtain ⟨B, c, rfl, _⟩ := h1.shape
  exact ⟨B, c, by rw [h2.1]⟩
set_option maxHeartbeats 20000000 in
theorem rstmt_of (f : Option FS) (d p : Nat) (hp : p ≤ 5) (hC : BksC f d (p + 1)) : StmC (stmR f) d p := by
  have HC := Lib.hid hC
  clear hC
  intro w0 w m EW br v left ts ⟨htl, H, V, HE, VV, hl0, hl1⟩
  obtain ⟨A0, c0, rfl, hc0, hc1⟩ := V.out.shape
  obtain ⟨n0, hn0⟩ : ∃ n, ts.length = n := ⟨_, rfl⟩
  have HN0 := Lib.hid hn0
  have HV0 : Hid (VW EW (.slice A0 n0 c0) ts) := by rw [← hn0]; exact V
  rw [hn0] at H
  clear V hc0 hc1 hn0
  have V := HV0
  clear HV0
  have htl := htl
  cases hb : begR ts with
  | false =>
      have HB := Lib.hid hb
      clear hb
      go_enter Tryz.func35, Tryz.ntmps35
      go_wp2_with (first
          | go_skip
          | ((with_reducible refine isAlloc ?_); refine alA H ?_ (hz := zStm8); clear H; intro _ _ H)
          | ((with_reducible refine isLoad ?_); first | refine ldA H ?_ (hT := rStm8) | refine ld1A H ?_ (hT := by first | exact kInt | exact kStr | exact kWrs | exact kBll))
          | ((with_reducible refine isStore ?_); first | (refine stA H ?_ (hT := rStm8); clear H; intro _ H) | (refine st1A H ?_ (hT := by first | exact sInt | exact sStr | exact sBll) (hx := by (go_simp; rfl)); clear H; intro _ H)))
      go_at_call 52
      have hcall := begins_any w0 _ _ _ ts H EW V (by first | exact he_up (he_up (he_up HE)))
      refine hcall.mono ?_
      clear hcall
      rintro _ _ ⟨rfl, hH⟩
      clear H
      have H := Lib.hid hH
      clear hH
      rw [HB.out]
      go_wp2_with (first
          | go_skip
          | ((with_reducible refine isAlloc ?_); refine alA H ?_ (hz := zStm8); clear H; intro _ _ H)
          | ((with_reducible refine isLoad ?_); first | refine ldA H ?_ (hT := rStm8) | refine ld1A H ?_ (hT := by first | exact kInt | exact kStr | exact kWrs | exact kBll))
          | ((with_reducible refine isStore ?_); first | (refine stA H ?_ (hT := rStm8); clear H; intro _ H) | (refine st1A H ?_ (hT := by first | exact sInt | exact sStr | exact sBll) (hx := by (go_simp; rfl)); clear H; intro _ H)))
      have H2 := Lib.hid (H.out.perm mid3)
      clear H
      have H := H2
      clear H2
      refine bodyPost_ret (results_Hv H rfl rStm8 rfl (.tail _ (.tail _ (.head _))) rfl rfl) rfl ?_
      have hp : stmR f (left) ts = .err 15 := by
        unfold stmR
        simp [HB.out]
      unfold StmP
      rw [hp]
      exact ⟨_, _, _, rfl, ⟨_, _, _, none, _, _, _, _, rfl⟩, by decide, H.out.sub (.cons_cons _ (.cons _ (.cons _ (by first | exact .refl _ | exact List.sublist_append_right _ _))))⟩
  | true =>
      have HB := Lib.hid hb
      clear hb
      by_cases hn : left - 1 < 0
      · go_enter Tryz.func35, Tryz.ntmps35
        go_wp2_with (first
            | go_skip
            | ((with_reducible refine isAlloc ?_); refine alA H ?_ (hz := zStm8); clear H; intro _ _ H)
            | ((with_reducible refine isLoad ?_); first | refine ldA H ?_ (hT := rStm8) | refine ld1A H ?_ (hT := by first | exact kInt | exact kStr | exact kWrs | exact kBll))
            | ((with_reducible refine isStore ?_); first | (refine stA H ?_ (hT := rStm8); clear H; intro _ H) | (refine st1A H ?_ (hT := by first | exact sInt | exact sStr | exact sBll) (hx := by (go_simp; rfl)); clear H; intro _ H)))
        go_at_call 52
        have hcall := begins_any w0 _ _ _ ts H EW V (by first | exact he_up (he_up (he_up HE)))
        refine hcall.mono ?_
        clear hcall
        rintro _ _ ⟨rfl, hH⟩
        clear H
        have H := Lib.hid hH
        clear hH
        rw [HB.out]
        go_wp2_with (first
            | go_skip
            | ((with_reducible refine isAlloc ?_); refine alA H ?_ (hz := zStm8); clear H; intro _ _ H)
            | ((with_reducible refine isLoad ?_); first | refine ldA H ?_ (hT := rStm8) | refine ld1A H ?_ (hT := by first | exact kInt | exact kStr | exact kWrs | exact kBll))
            | ((with_reducible refine isStore ?_); first | (refine stA H ?_ (hT := rStm8); clear H; intro _ H) | (refine st1A H ?_ (hT := by first | exact sInt | exact sStr | exact sBll) (hx := by (go_simp; rfl)); clear H; intro _ H)))
        have H2 := Lib.hid (H.out.perm mid3)
        clear H
        have H := H2
        clear H2
        refine bodyPost_ret (results_Hv H rfl rStm8 rfl (.tail _ (.tail _ (.head _))) rfl rfl) rfl ?_
        have hp : stmR f (left) ts = .err 2 := by
          unfold stmR
          rw [HB.out, if_pos rfl, if_pos hn]
        unfold StmP
        rw [hp]
        exact ⟨_, _, _, rfl, ⟨_, _, _, none, _, _, _, _, rfl⟩, by decide, H.out.sub (.cons_cons _ (.cons _ (.cons _ (by first | exact .refl _ | exact List.sublist_append_right _ _))))⟩
      · obtain ⟨lf, rfl⟩ : ∃ lf, left = lf + 1 := ⟨left - 1, by omega⟩
        have HN : Hid (¬ lf < 0) := Lib.hid (by omega)
        have hf0 : 0 ≤ lf := by omega
        have hf1 : lf ≤ 100 := by omega
        clear hn
        go_enter Tryz.func35, Tryz.ntmps35
        go_wp2_with (first
            | go_skip
            | ((with_reducible refine isAlloc ?_); refine alA H ?_ (hz := zStm8); clear H; intro _ _ H)
            | ((with_reducible refine isLoad ?_); first | refine ldA H ?_ (hT := rStm8) | refine ld1A H ?_ (hT := by first | exact kInt | exact kStr | exact kWrs | exact kBll))
            | ((with_reducible refine isStore ?_); first | (refine stA H ?_ (hT := rStm8); clear H; intro _ H) | (refine st1A H ?_ (hT := by first | exact sInt | exact sStr | exact sBll) (hx := by (go_simp; rfl)); clear H; intro _ H)))
        go_at_call 52
        have hcall := begins_any w0 _ _ _ ts H EW V (by first | exact he_up (he_up (he_up HE)))
        refine hcall.mono ?_
        clear hcall
        rintro _ _ ⟨rfl, hH⟩
        clear H
        have H := Lib.hid hH
        clear hH
        rw [HB.out]
        go_wp2_with (first
            | go_skip
            | ((with_reducible refine isAlloc ?_); refine alA H ?_ (hz := zStm8); clear H; intro _ _ H)
            | ((with_reducible refine isLoad ?_); first | refine ldA H ?_ (hT := rStm8) | refine ld1A H ?_ (hT := by first | exact kInt | exact kStr | exact kWrs | exact kBll))
            | ((with_reducible refine isStore ?_); first | (refine stA H ?_ (hT := rStm8); clear H; intro _ H) | (refine st1A H ?_ (hT := by first | exact sInt | exact sStr | exact sBll) (hx := by (go_simp; rfl)); clear H; intro _ H)))
        have H2 := Lib.hid (H.out.perm mid3)
        clear H
        have H := H2
        clear H2
        cases k0 : takR kDo ts with
        | none =>
            have K0 := Lib.hid k0
            clear k0
            go_at_call 19
            have hcall := take_none H V (by first | exact HE | exact he_up HE | exact he_up (he_up HE) | exact he_up (he_up (he_up HE))) K0.out
            clear H V
            refine hcall.mono ?_
            clear hcall
            rintro _ _ ⟨_, rfl, hV, hH⟩
            have V := Lib.hid hV
            have H := Lib.hid hH
            clear hV hH
            go_wp2_with (first
                | go_skip
                | ((with_reducible refine isAlloc ?_); refine alA H ?_ (hz := zStm8); clear H; intro _ _ H)
                | ((with_reducible refine isLoad ?_); first | refine ldA H ?_ (hT := rStm8) | refine ld1A H ?_ (hT := by first | exact kInt | exact kStr | exact kWrs | exact kBll))
                | ((with_reducible refine isStore ?_); first | (refine stA H ?_ (hT := rStm8); clear H; intro _ H) | (refine st1A H ?_ (hT := by first | exact sInt | exact sStr | exact sBll) (hx := by (go_simp; rfl)); clear H; intro _ H)))
            cases k1 : takR kAny ts with
            | none =>
                have K1 := Lib.hid k1
                clear k1
                go_at_call 19
                have hcall := take_none H V (by first | exact HE | exact he_up HE | exact he_up (he_up HE) | exact he_up (he_up (he_up HE))) K1.out
                clear H V
                refine hcall.mono ?_
                clear hcall
                rintro _ _ ⟨_, rfl, hV, hH⟩
                have V := Lib.hid hV
                have H := Lib.hid hH
                clear hV hH
                go_wp2_with (first
                    | go_skip
                    | ((with_reducible refine isAlloc ?_); refine alA H ?_ (hz := zStm8); clear H; intro _ _ H)
                    | ((with_reducible refine isLoad ?_); first | refine ldA H ?_ (hT := rStm8) | refine ld1A H ?_ (hT := by first | exact kInt | exact kStr | exact kWrs | exact kBll))
                    | ((with_reducible refine isStore ?_); first | (refine stA H ?_ (hT := rStm8); clear H; intro _ H) | (refine st1A H ?_ (hT := by first | exact sInt | exact sStr | exact sBll) (hx := by (go_simp; rfl)); clear H; intro _ H)))
                cases k2 : takR kRep ts with
                | none =>
                    have K2 := Lib.hid k2
                    clear k2
                    go_at_call 19
                    have hcall := take_none H V (by first | exact HE | exact he_up HE | exact he_up (he_up HE) | exact he_up (he_up (he_up HE))) K2.out
                    clear H V
                    refine hcall.mono ?_
                    clear hcall
                    rintro _ _ ⟨_, rfl, hV, hH⟩
                    have V := Lib.hid hV
                    have H := Lib.hid hH
                    clear hV hH
                    go_wp2_with (first
                        | go_skip
                        | ((with_reducible refine isAlloc ?_); refine alA H ?_ (hz := zStm8); clear H; intro _ _ H)
                        | ((with_reducible refine isLoad ?_); first | refine ldA H ?_ (hT := rStm8) | refine ld1A H ?_ (hT := by first | exact kInt | exact kStr | exact kWrs | exact kBll))
                        | ((with_reducible refine isStore ?_); first | (refine stA H ?_ (hT := rStm8); clear H; intro _ H) | (refine st1A H ?_ (hT := by first | exact sInt | exact sStr | exact sBll) (hx := by (go_simp; rfl)); clear H; intro _ H)))
                    cases k3 : takR kTry ts with
                    | none =>
                        have K3 := Lib.hid k3
                        clear k3
                        go_at_call 19
                        have hcall := take_none H V (by first | exact HE | exact he_up HE | exact he_up (he_up HE) | exact he_up (he_up (he_up HE))) K3.out
                        clear H V
                        refine hcall.mono ?_
                        clear hcall
                        rintro _ _ ⟨_, rfl, hV, hH⟩
                        have V := Lib.hid hV
                        have H := Lib.hid hH
                        clear hV hH
                        go_wp2_with (first
                            | go_skip
                            | ((with_reducible refine isAlloc ?_); refine alA H ?_ (hz := zStm8); clear H; intro _ _ H)
                            | ((with_reducible refine isLoad ?_); first | refine ldA H ?_ (hT := rStm8) | refine ld1A H ?_ (hT := by first | exact kInt | exact kStr | exact kWrs | exact kBll))
                            | ((with_reducible refine isStore ?_); first | (refine stA H ?_ (hT := rStm8); clear H; intro _ H) | (refine st1A H ?_ (hT := by first | exact sInt | exact sStr | exact sBll) (hx := by (go_simp; rfl)); clear H; intro _ H)))
                        go_at_call 55
                        have hcall := rplain_any w0 _ _ EW br _ lf ts H V (by first | exact HE | exact he_up HE | exact he_up (he_up HE) | exact he_up (he_up (he_up HE))) VV
                        clear H
                        refine hcall.mono ?_
                        clear hcall
                        intro e w' hS
                        unfold PlnC at hS
                        cases p4 : plnR ts with
                        | none =>
                            have P4 := Lib.hid p4
                            rw [p4] at hS
                            obtain ⟨cs, v3, rfl, hcs, hH⟩ := hS
                            obtain ⟨vk, va, vb, vw, vn, B2, m2, c2, rfl⟩ := hcs
                            have H := Lib.hid hH
                            clear p4 hH V
                            unfold Sv.cells
                            go_wp2_with (first
                                | go_skip
                                | ((with_reducible refine isAlloc ?_); refine alA H ?_ (hz := zStm8); clear H; intro _ _ H)
                                | ((with_reducible refine isLoad ?_); first | refine ldA H ?_ (hT := rStm8) | refine ld1A H ?_ (hT := by first | exact kInt | exact kStr | exact kWrs | exact kBll))
                                | ((with_reducible refine isStore ?_); first | (refine stA H ?_ (hT := rStm8); clear H; intro _ H) | (refine st1A H ?_ (hT := by first | exact sInt | exact sStr | exact sBll) (hx := by (go_simp; rfl)); clear H; intro _ H)))
                            refine bodyPost_ret (results_Hv H rfl rStm8 rfl (.tail _ (.tail _ (.head _))) rfl rfl) rfl ?_
                            have hp : stmR f (lf + 1) ts = .err 15 := by
                              unfold stmR kndR
                              simp only [HB.out, if_pos, Int.add_sub_cancel, if_neg (Int.not_lt.2 hf0), K0.out, K1.out, K2.out, K3.out, leafB, P4.out]
                            unfold StmP
                            rw [hp]
                            exact ⟨_, _, _, rfl, ⟨_, _, _, none, _, _, _, _, rfl⟩, by decide, H.out.sub (.cons_cons _ (.cons _ (.cons _ (by first | exact .refl _ | exact List.sublist_append_right _ _))))⟩
                        | some x4 =>
                            obtain ⟨s, r4⟩ := x4
                            have P4 := Lib.hid p4
                            rw [p4] at hS
                            obtain ⟨v3, rfl, hV, hH⟩ := hS
                            have SOK := Lib.hid (plnR_ok V.out.ok p4)
                            have H := Lib.hid hH
                            clear V
                            have V := Lib.hid hV
                            clear p4 hH hV
                            obtain ⟨k, a, b, wd, nn, bl⟩ := s
                            unfold leafV Sv.cells
                            simp only [Stm.k, Stm.a, Stm.b, Stm.wd, Stm.n]
                            go_wp2_with (first
                                | go_skip
                                | ((with_reducible refine isAlloc ?_); refine alA H ?_ (hz := zStm8); clear H; intro _ _ H)
                                | ((with_reducible refine isLoad ?_); first | refine ldA H ?_ (hT := rStm8) | refine ld1A H ?_ (hT := by first | exact kInt | exact kStr | exact kWrs | exact kBll))
                                | ((with_reducible refine isStore ?_); first | (refine stA H ?_ (hT := rStm8); clear H; intro _ H) | (refine st1A H ?_ (hT := by first | exact sInt | exact sStr | exact sBll) (hx := by (go_simp; rfl)); clear H; intro _ H)))
                            cases t5 : takR kSemi r4 with
                            | none =>
                                have T5 := Lib.hid t5
                                clear t5
                                go_at_call 19
                                have hcall := take_none H V (by first | exact HE | exact he_up HE | exact he_up (he_up HE) | exact he_up (he_up (he_up HE))) T5.out
                                clear H V
                                refine hcall.mono ?_
                                clear hcall
                                rintro _ _ ⟨_, rfl, hV, hH⟩
                                have V := Lib.hid hV
                                have H := Lib.hid hH
                                clear hV hH
                                go_wp2_with (first
                                    | go_skip
                                    | ((with_reducible refine isAlloc ?_); refine alA H ?_ (hz := zStm8); clear H; intro _ _ H)
                                    | ((with_reducible refine isLoad ?_); first | refine ldA H ?_ (hT := rStm8) | refine ld1A H ?_ (hT := by first | exact kInt | exact kStr | exact kWrs | exact kBll))
                                    | ((with_reducible refine isStore ?_); first | (refine stA H ?_ (hT := rStm8); clear H; intro _ H) | (refine st1A H ?_ (hT := by first | exact sInt | exact sStr | exact sBll) (hx := by (go_simp; rfl)); clear H; intro _ H)))
                                refine bodyPost_ret (results_Hv H rfl rStm8 rfl (.tail _ (.tail _ (.head _))) rfl rfl) rfl ?_
                                have hp : stmR f (lf + 1) ts = .err 15 := by
                                  unfold stmR kndR
                                  simp only [HB.out, if_pos, Int.add_sub_cancel, if_neg (Int.not_lt.2 hf0), K0.out, K1.out, K2.out, K3.out, leafB, P4.out, T5.out]
                                unfold StmP
                                rw [hp]
                                exact ⟨_, _, _, rfl, ⟨_, _, _, none, _, _, _, _, rfl⟩, by decide, H.out.sub (.cons_cons _ (.cons _ (.cons _ (by first | exact .refl _ | exact List.sublist_append_right _ _))))⟩
                            | some r5 =>
                                have T5 := Lib.hid t5
                                clear t5
                                go_at_call 19
                                have hcall := take_some H V (by first | exact HE | exact he_up HE | exact he_up (he_up HE) | exact he_up (he_up (he_up HE))) T5.out
                                clear H V
                                refine hcall.mono ?_
                                clear hcall
                                rintro _ _ ⟨_, rfl, hV, hH⟩
                                have V := Lib.hid hV
                                have H := Lib.hid hH
                                clear hV hH
                                go_wp2_with (first
                                    | go_skip
                                    | ((with_reducible refine isAlloc ?_); refine alA H ?_ (hz := zStm8); clear H; intro _ _ H)
                                    | ((with_reducible refine isLoad ?_); first | refine ldA H ?_ (hT := rStm8) | refine ld1A H ?_ (hT := by first | exact kInt | exact kStr | exact kWrs | exact kBll))
                                    | ((with_reducible refine isStore ?_); first | (refine stA H ?_ (hT := rStm8); clear H; intro _ H) | (refine st1A H ?_ (hT := by first | exact sInt | exact sStr | exact sBll) (hx := by (go_simp; rfl)); clear H; intro _ H)))
                                refine bodyPost_ret (results_Hv H rfl rStm8 rfl (.tail _ (.tail _ (.head _))) rfl rfl) rfl ?_
                                have hp : stmR f (lf + 1) ts = .ok (.mk k a b wd nn bl) lf r5 := by
                                  unfold stmR kndR
                                  simp only [HB.out, if_pos, Int.add_sub_cancel, if_neg (Int.not_lt.2 hf0), K0.out, K1.out, K2.out, K3.out, leafB, P4.out, T5.out]
                                unfold StmP
                                rw [hp]
                                exact ⟨_, _, [], rfl, RSt.of_leaf d SOK.out.1 SOK.out.2, V.out, H.out.sub (.cons_cons _ (.cons _ (.cons _ (by first | exact .refl _ | exact List.sublist_append_right _ _))))⟩
                    | some r0 =>
                        have K3 := Lib.hid k3
                        clear k3
                        have LN : Hid (r0.length ≤ 4096) := Lib.hid (by have := takR_len K3.out; omega)
                        go_at_call 19
                        have hcall := take_some H V (by first | exact HE | exact he_up HE | exact he_up (he_up HE) | exact he_up (he_up (he_up HE))) K3.out
                        clear H V
                        refine hcall.mono ?_
                        clear hcall
                        rintro _ _ ⟨_, rfl, hV, hH⟩
                        have V := Lib.hid hV
                        have H := Lib.hid hH
                        clear hV hH
                        go_wp2_with (first
                            | go_skip
                            | ((with_reducible refine isAlloc ?_); refine alA H ?_ (hz := zStm8); clear H; intro _ _ H)
                            | ((with_reducible refine isLoad ?_); first | refine ldA H ?_ (hT := rStm8) | refine ld1A H ?_ (hT := by first | exact kInt | exact kStr | exact kWrs | exact kBll))
                            | ((with_reducible refine isStore ?_); first | (refine stA H ?_ (hT := rStm8); clear H; intro _ H) | (refine st1A H ?_ (hT := by first | exact sInt | exact sStr | exact sBll) (hx := by (go_simp; rfl)); clear H; intro _ H)))
                        go_at_call 53
                        have hcall := HC.out w0 _ _ EW br _ lf r0 kElse 2 ⟨LN.out, H, V, (by first | exact HE | exact he_up HE | exact he_up (he_up HE) | exact he_up (he_up (he_up HE))), VV, hf0, hf1⟩ (by decide) (by decide)
                        clear H V
                        refine hcall.mono ?_
                        clear hcall
                        intro e w' hS
                        unfold BksP at hS
                        cases hb : bksR f kElse 2 lf r0 with
                        | err c =>
                            have EB := Lib.hid hb
                            rw [hb] at hS
                            obtain ⟨v3, l3, rfl, hc0, hH⟩ := hS
                            have H := Lib.hid hH
                            have HC0 := Lib.hid hc0
                            have hcb : (c == 0) = false := beq_eq_false_iff_ne.2 hc0
                            clear hb hH hc0
                            go_wp2_with (first
                                | go_skip
                                | ((with_reducible refine isAlloc ?_); refine alA H ?_ (hz := zStm8); clear H; intro _ _ H)
                                | ((with_reducible refine isLoad ?_); first | refine ldA H ?_ (hT := rStm8) | refine ld1A H ?_ (hT := by first | exact kInt | exact kStr | exact kWrs | exact kBll))
                                | ((with_reducible refine isStore ?_); first | (refine stA H ?_ (hT := rStm8); clear H; intro _ H) | (refine st1A H ?_ (hT := by first | exact sInt | exact sStr | exact sBll) (hx := by (go_simp; rfl)); clear H; intro _ H)))
                            refine bodyPost_ret (results_Hv H rfl rStm8 rfl (.tail _ (.tail _ (.head _))) rfl rfl) rfl ?_
                            have hp : stmR f (lf + 1) ts = .err c := by
                              unfold stmR kndR
                              simp only [HB.out, if_pos, Int.add_sub_cancel, if_neg (Int.not_lt.2 hf0), K0.out, K1.out, K2.out, K3.out, EB.out, tryB]
                            unfold StmP
                            rw [hp]
                            exact ⟨_, _, _, rfl, ⟨_, _, _, none, _, _, _, _, rfl⟩, HC0.out, H.out.sub (.cons_cons _ (.cons _ (.cons _ (by first | exact .refl _ | exact List.sublist_append_right _ _))))⟩
                        | ok bs l2 t2 =>
                            have EB := Lib.hid hb
                            rw [hb] at hS
                            obtain ⟨xv, v3, E2, rfl, hR, hV, hH⟩ := hS
                            obtain ⟨Bx, cx, rfl⟩ := hR.shapeR
                            obtain ⟨nb, hnb⟩ : ∃ n, bs.length = n := ⟨_, rfl⟩
                            rw [hnb] at hR
                            rw [hnb]
                            have HNB := Lib.hid hnb
                            have HR := Lib.hid hR
                            have V := Lib.hid hV
                            have H := Lib.hid (hH.perm mv2)
                            clear hb hH hR hV hnb
                            try rw [HNB.out]
                            by_cases hn2 : nb = 2
                            · subst hn2
                              go_wp2_with (first
                                  | go_skip
                                  | ((with_reducible refine isAlloc ?_); refine alA H ?_ (hz := zStm8); clear H; intro _ _ H)
                                  | ((with_reducible refine isLoad ?_); first | refine ldA H ?_ (hT := rStm8) | refine ld1A H ?_ (hT := by first | exact kInt | exact kStr | exact kWrs | exact kBll))
                                  | ((with_reducible refine isStore ?_); first | (refine stA H ?_ (hT := rStm8); clear H; intro _ H) | (refine st1A H ?_ (hT := by first | exact sInt | exact sStr | exact sBll) (hx := by (go_simp; rfl)); clear H; intro _ H)))
                              refine bodyPost_ret (results_Hv H rfl rStm8 rfl (.tail _ (.tail _ (.head _))) rfl rfl) rfl ?_
                              have hp : stmR f (lf + 1) ts = .ok (.mk 9 noS noS none 0 bs) l2 t2 := by
                                unfold stmR kndR
                                simp only [HB.out, if_pos, Int.add_sub_cancel, if_neg (Int.not_lt.2 hf0), K0.out, K1.out, K2.out, K3.out, EB.out, tryB]
                                rw [if_pos HNB.out]
                              unfold StmP
                              rw [hp]
                              exact ⟨_, _, _, rfl, RSt.of_bl (stkOk (by decide) (by decide)) HR.out, V.out, H.out.sub (.cons_cons _ (.cons _ (.cons _ (by first | exact .refl _ | exact List.sublist_append_right _ _))))⟩
                            · have hn3 : ((nb : Int) == 2) = false := beq_eq_false_iff_ne.2 (by omega)
                              go_wp2_with (first
                                  | go_skip
                                  | ((with_reducible refine isAlloc ?_); refine alA H ?_ (hz := zStm8); clear H; intro _ _ H)
                                  | ((with_reducible refine isLoad ?_); first | refine ldA H ?_ (hT := rStm8) | refine ld1A H ?_ (hT := by first | exact kInt | exact kStr | exact kWrs | exact kBll))
                                  | ((with_reducible refine isStore ?_); first | (refine stA H ?_ (hT := rStm8); clear H; intro _ H) | (refine st1A H ?_ (hT := by first | exact sInt | exact sStr | exact sBll) (hx := by (go_simp; rfl)); clear H; intro _ H)))
                              refine bodyPost_ret (results_Hv H rfl rStm8 rfl (.tail _ (.tail _ (.head _))) rfl rfl) rfl ?_
                              have hp : stmR f (lf + 1) ts = .err 15 := by
                                unfold stmR kndR
                                simp only [HB.out, if_pos, Int.add_sub_cancel, if_neg (Int.not_lt.2 hf0), K0.out, K1.out, K2.out, K3.out, EB.out, tryB]
                                rw [if_neg (by rw [HNB.out]; exact hn2)]
                              unfold StmP
                              rw [hp]
                              exact ⟨_, _, _, rfl, ⟨_, _, _, none, _, _, _, _, rfl⟩, by decide, H.out.sub (.cons_cons _ (.cons _ (.cons _ (by first | exact .refl _ | exact List.sublist_append_right _ _))))⟩
                | some r0 =>
                    have K2 := Lib.hid k2
                    clear k2
                    have LN : Hid (r0.length ≤ 4096) := Lib.hid (by have := takR_len K2.out; omega)
                    go_at_call 19
                    have hcall := take_some H V (by first | exact HE | exact he_up HE | exact he_up (he_up HE) | exact he_up (he_up (he_up HE))) K2.out
                    clear H V
                    refine hcall.mono ?_
                    clear hcall
                    rintro _ _ ⟨_, rfl, hV, hH⟩
                    have V := Lib.hid hV
                    have H := Lib.hid hH
                    clear hV hH
                    go_wp2_with (first
                        | go_skip
                        | ((with_reducible refine isAlloc ?_); refine alA H ?_ (hz := zStm8); clear H; intro _ _ H)
                        | ((with_reducible refine isLoad ?_); first | refine ldA H ?_ (hT := rStm8) | refine ld1A H ?_ (hT := by first | exact kInt | exact kStr | exact kWrs | exact kBll))
                        | ((with_reducible refine isStore ?_); first | (refine stA H ?_ (hT := rStm8); clear H; intro _ H) | (refine st1A H ?_ (hT := by first | exact sInt | exact sStr | exact sBll) (hx := by (go_simp; rfl)); clear H; intro _ H)))
                    cases c1 : cntR r0 with
                    | none =>
                        have C1 := Lib.hid c1
                        clear c1
                        go_at_call 54
                        have hcall := count_none H V (by first | exact HE | exact he_up HE | exact he_up (he_up HE) | exact he_up (he_up (he_up HE))) VV C1.out
                        clear H V
                        refine hcall.mono ?_
                        clear hcall
                        rintro _ _ ⟨_, rfl, hV, hH⟩
                        have V := Lib.hid hV
                        have H := Lib.hid hH
                        clear hV hH
                        go_wp2_with (first
                            | go_skip
                            | ((with_reducible refine isAlloc ?_); refine alA H ?_ (hz := zStm8); clear H; intro _ _ H)
                            | ((with_reducible refine isLoad ?_); first | refine ldA H ?_ (hT := rStm8) | refine ld1A H ?_ (hT := by first | exact kInt | exact kStr | exact kWrs | exact kBll))
                            | ((with_reducible refine isStore ?_); first | (refine stA H ?_ (hT := rStm8); clear H; intro _ H) | (refine st1A H ?_ (hT := by first | exact sInt | exact sStr | exact sBll) (hx := by (go_simp; rfl)); clear H; intro _ H)))
                        refine bodyPost_ret (results_Hv H rfl rStm8 rfl (.tail _ (.tail _ (.head _))) rfl rfl) rfl ?_
                        have hp : stmR f (lf + 1) ts = .err 15 := by
                          unfold stmR kndR
                          simp only [HB.out, if_pos, Int.add_sub_cancel, if_neg (Int.not_lt.2 hf0), K0.out, K1.out, K2.out, repB, C1.out]
                        unfold StmP
                        rw [hp]
                        exact ⟨_, _, _, rfl, ⟨_, _, _, none, _, _, _, _, rfl⟩, by decide, H.out.sub (.cons_cons _ (.cons _ (.cons _ (by first | exact .refl _ | exact List.sublist_append_right _ _))))⟩
                    | some x1 =>
                        obtain ⟨n, r1⟩ := x1
                        have C1 := Lib.hid c1
                        clear c1
                        have LN1 : Hid (r1.length ≤ 4096 ∧ (-9223372036854775808 ≤ n ∧ n ≤ 9223372036854775807)) := Lib.hid (by
                          have h1 := LN.out
                          have h2 := cntR_txs C1.out
                          have h3 := congrArg List.length h2
                          simp only [txs, List.length_map, List.length_cons] at h3
                          exact ⟨by omega, (cntR_sub C1.out).1⟩)
                        go_at_call 54
                        have hcall := count_some H V (by first | exact HE | exact he_up HE | exact he_up (he_up HE) | exact he_up (he_up (he_up HE))) VV C1.out
                        clear H V
                        refine hcall.mono ?_
                        clear hcall
                        rintro _ _ ⟨_, rfl, hV, hH⟩
                        have V := Lib.hid hV
                        have H := Lib.hid hH
                        clear hV hH
                        go_wp2_with (first
                            | go_skip
                            | ((with_reducible refine isAlloc ?_); refine alA H ?_ (hz := zStm8); clear H; intro _ _ H)
                            | ((with_reducible refine isLoad ?_); first | refine ldA H ?_ (hT := rStm8) | refine ld1A H ?_ (hT := by first | exact kInt | exact kStr | exact kWrs | exact kBll))
                            | ((with_reducible refine isStore ?_); first | (refine stA H ?_ (hT := rStm8); clear H; intro _ H) | (refine st1A H ?_ (hT := by first | exact sInt | exact sStr | exact sBll) (hx := by (go_simp; rfl)); clear H; intro _ H)))
                        go_at_call 53
                        have hcall := HC.out w0 _ _ EW br _ lf r1 noS 1 ⟨LN1.out.1, H, V, (by first | exact HE | exact he_up HE | exact he_up (he_up HE) | exact he_up (he_up (he_up HE))), VV, hf0, hf1⟩ (by decide) (by decide)
                        clear H V
                        refine hcall.mono ?_
                        clear hcall
                        intro e w' hS
                        unfold BksP at hS
                        cases hb : bksR f noS 1 lf r1 with
                        | err c =>
                            have EB := Lib.hid hb
                            rw [hb] at hS
                            obtain ⟨v3, l3, rfl, hc0, hH⟩ := hS
                            have H := Lib.hid hH
                            have HC0 := Lib.hid hc0
                            have hcb : (c == 0) = false := beq_eq_false_iff_ne.2 hc0
                            clear hb hH hc0
                            go_wp2_with (first
                                | go_skip
                                | ((with_reducible refine isAlloc ?_); refine alA H ?_ (hz := zStm8); clear H; intro _ _ H)
                                | ((with_reducible refine isLoad ?_); first | refine ldA H ?_ (hT := rStm8) | refine ld1A H ?_ (hT := by first | exact kInt | exact kStr | exact kWrs | exact kBll))
                                | ((with_reducible refine isStore ?_); first | (refine stA H ?_ (hT := rStm8); clear H; intro _ H) | (refine st1A H ?_ (hT := by first | exact sInt | exact sStr | exact sBll) (hx := by (go_simp; rfl)); clear H; intro _ H)))
                            refine bodyPost_ret (results_Hv H rfl rStm8 rfl (.tail _ (.tail _ (.head _))) rfl rfl) rfl ?_
                            have hp : stmR f (lf + 1) ts = .err c := by
                              unfold stmR kndR
                              simp only [HB.out, if_pos, Int.add_sub_cancel, if_neg (Int.not_lt.2 hf0), K0.out, K1.out, K2.out, repB, C1.out, EB.out, mapB]
                            unfold StmP
                            rw [hp]
                            exact ⟨_, _, _, rfl, ⟨_, _, _, none, _, _, _, _, rfl⟩, HC0.out, H.out.sub (.cons_cons _ (.cons _ (.cons _ (by first | exact .refl _ | exact List.sublist_append_right _ _))))⟩
                        | ok bs l2 t2 =>
                            have EB := Lib.hid hb
                            rw [hb] at hS
                            obtain ⟨xv, v3, E2, rfl, hR, hV, hH⟩ := hS
                            obtain ⟨Bx, cx, rfl⟩ := hR.shapeR
                            obtain ⟨nb, hnb⟩ : ∃ n, bs.length = n := ⟨_, rfl⟩
                            rw [hnb] at hR
                            rw [hnb]
                            have HNB := Lib.hid hnb
                            have HR := Lib.hid hR
                            have V := Lib.hid hV
                            have H := Lib.hid (hH.perm mv2)
                            clear hb hH hR hV hnb
                            try rw [HNB.out]
                            go_wp2_with (first
                                | go_skip
                                | ((with_reducible refine isAlloc ?_); refine alA H ?_ (hz := zStm8); clear H; intro _ _ H)
                                | ((with_reducible refine isLoad ?_); first | refine ldA H ?_ (hT := rStm8) | refine ld1A H ?_ (hT := by first | exact kInt | exact kStr | exact kWrs | exact kBll))
                                | ((with_reducible refine isStore ?_); first | (refine stA H ?_ (hT := rStm8); clear H; intro _ H) | (refine st1A H ?_ (hT := by first | exact sInt | exact sStr | exact sBll) (hx := by (go_simp; rfl)); clear H; intro _ H)))
                            refine bodyPost_ret (results_Hv H rfl rStm8 rfl (.tail _ (.tail _ (.head _))) rfl rfl) rfl ?_
                            have hp : stmR f (lf + 1) ts = .ok (.mk 7 noS noS none n bs) l2 t2 := by
                              unfold stmR kndR
                              simp only [HB.out, if_pos, Int.add_sub_cancel, if_neg (Int.not_lt.2 hf0), K0.out, K1.out, K2.out, repB, C1.out, EB.out, mapB]
                            unfold StmP
                            rw [hp]
                            exact ⟨_, _, _, rfl, RSt.of_bl (stkOk (by decide) LN1.out.2) HR.out, V.out, H.out.sub (.cons_cons _ (.cons _ (.cons _ (by first | exact .refl _ | exact List.sublist_append_right _ _))))⟩
            | some r0 =>
                have K1 := Lib.hid k1
                clear k1
                have LN : Hid (r0.length ≤ 4096) := Lib.hid (by have := takR_len K1.out; omega)
                go_at_call 19
                have hcall := take_some H V (by first | exact HE | exact he_up HE | exact he_up (he_up HE) | exact he_up (he_up (he_up HE))) K1.out
                clear H V
                refine hcall.mono ?_
                clear hcall
                rintro _ _ ⟨_, rfl, hV, hH⟩
                have V := Lib.hid hV
                have H := Lib.hid hH
                clear hV hH
                go_wp2_with (first
                    | go_skip
                    | ((with_reducible refine isAlloc ?_); refine alA H ?_ (hz := zStm8); clear H; intro _ _ H)
                    | ((with_reducible refine isLoad ?_); first | refine ldA H ?_ (hT := rStm8) | refine ld1A H ?_ (hT := by first | exact kInt | exact kStr | exact kWrs | exact kBll))
                    | ((with_reducible refine isStore ?_); first | (refine stA H ?_ (hT := rStm8); clear H; intro _ H) | (refine st1A H ?_ (hT := by first | exact sInt | exact sStr | exact sBll) (hx := by (go_simp; rfl)); clear H; intro _ H)))
                go_at_call 53
                have hcall := HC.out w0 _ _ EW br _ lf r0 kOr 4 ⟨LN.out, H, V, (by first | exact HE | exact he_up HE | exact he_up (he_up HE) | exact he_up (he_up (he_up HE))), VV, hf0, hf1⟩ (by decide) (by decide)
                clear H V
                refine hcall.mono ?_
                clear hcall
                intro e w' hS
                unfold BksP at hS
                cases hb : bksR f kOr 4 lf r0 with
                | err c =>
                    have EB := Lib.hid hb
                    rw [hb] at hS
                    obtain ⟨v3, l3, rfl, hc0, hH⟩ := hS
                    have H := Lib.hid hH
                    have HC0 := Lib.hid hc0
                    have hcb : (c == 0) = false := beq_eq_false_iff_ne.2 hc0
                    clear hb hH hc0
                    go_wp2_with (first
                        | go_skip
                        | ((with_reducible refine isAlloc ?_); refine alA H ?_ (hz := zStm8); clear H; intro _ _ H)
                        | ((with_reducible refine isLoad ?_); first | refine ldA H ?_ (hT := rStm8) | refine ld1A H ?_ (hT := by first | exact kInt | exact kStr | exact kWrs | exact kBll))
                        | ((with_reducible refine isStore ?_); first | (refine stA H ?_ (hT := rStm8); clear H; intro _ H) | (refine st1A H ?_ (hT := by first | exact sInt | exact sStr | exact sBll) (hx := by (go_simp; rfl)); clear H; intro _ H)))
                    refine bodyPost_ret (results_Hv H rfl rStm8 rfl (.tail _ (.tail _ (.head _))) rfl rfl) rfl ?_
                    have hp : stmR f (lf + 1) ts = .err c := by
                      unfold stmR kndR
                      simp only [HB.out, if_pos, Int.add_sub_cancel, if_neg (Int.not_lt.2 hf0), K0.out, K1.out, EB.out, mapB]
                    unfold StmP
                    rw [hp]
                    exact ⟨_, _, _, rfl, ⟨_, _, _, none, _, _, _, _, rfl⟩, HC0.out, H.out.sub (.cons_cons _ (.cons _ (.cons _ (by first | exact .refl _ | exact List.sublist_append_right _ _))))⟩
                | ok bs l2 t2 =>
                    have EB := Lib.hid hb
                    rw [hb] at hS
                    obtain ⟨xv, v3, E2, rfl, hR, hV, hH⟩ := hS
                    obtain ⟨Bx, cx, rfl⟩ := hR.shapeR
                    obtain ⟨nb, hnb⟩ : ∃ n, bs.length = n := ⟨_, rfl⟩
                    rw [hnb] at hR
                    rw [hnb]
                    have HNB := Lib.hid hnb
                    have HR := Lib.hid hR
                    have V := Lib.hid hV
                    have H := Lib.hid (hH.perm mv2)
                    clear hb hH hR hV hnb
                    try rw [HNB.out]
                    go_wp2_with (first
                        | go_skip
                        | ((with_reducible refine isAlloc ?_); refine alA H ?_ (hz := zStm8); clear H; intro _ _ H)
                        | ((with_reducible refine isLoad ?_); first | refine ldA H ?_ (hT := rStm8) | refine ld1A H ?_ (hT := by first | exact kInt | exact kStr | exact kWrs | exact kBll))
                        | ((with_reducible refine isStore ?_); first | (refine stA H ?_ (hT := rStm8); clear H; intro _ H) | (refine st1A H ?_ (hT := by first | exact sInt | exact sStr | exact sBll) (hx := by (go_simp; rfl)); clear H; intro _ H)))
                    refine bodyPost_ret (results_Hv H rfl rStm8 rfl (.tail _ (.tail _ (.head _))) rfl rfl) rfl ?_
                    have hp : stmR f (lf + 1) ts = .ok (.mk 8 noS noS none 0 bs) l2 t2 := by
                      unfold stmR kndR
                      simp only [HB.out, if_pos, Int.add_sub_cancel, if_neg (Int.not_lt.2 hf0), K0.out, K1.out, EB.out, mapB]
                    unfold StmP
                    rw [hp]
                    exact ⟨_, _, E2, rfl, RSt.of_bl (stkOk (by decide) (by decide)) HR.out, V.out, H.out.sub (.cons_cons _ (.cons _ (.cons _ (by first | exact .refl _ | exact List.sublist_append_right _ _))))⟩
        | some r0 =>
            have K0 := Lib.hid k0
            clear k0
            have LN : Hid (r0.length ≤ 4096) := Lib.hid (by have := takR_len K0.out; omega)
            go_at_call 19
            have hcall := take_some H V (by first | exact HE | exact he_up HE | exact he_up (he_up HE) | exact he_up (he_up (he_up HE))) K0.out
            clear H V
            refine hcall.mono ?_
            clear hcall
            rintro _ _ ⟨_, rfl, hV, hH⟩
            have V := Lib.hid hV
            have H := Lib.hid hH
            clear hV hH
            go_wp2_with (first
                | go_skip
                | ((with_reducible refine isAlloc ?_); refine alA H ?_ (hz := zStm8); clear H; intro _ _ H)
                | ((with_reducible refine isLoad ?_); first | refine ldA H ?_ (hT := rStm8) | refine ld1A H ?_ (hT := by first | exact kInt | exact kStr | exact kWrs | exact kBll))
                | ((with_reducible refine isStore ?_); first | (refine stA H ?_ (hT := rStm8); clear H; intro _ H) | (refine st1A H ?_ (hT := by first | exact sInt | exact sStr | exact sBll) (hx := by (go_simp; rfl)); clear H; intro _ H)))
            go_at_call 53
            have hcall := HC.out w0 _ _ EW br _ lf r0 noS 1 ⟨LN.out, H, V, (by first | exact HE | exact he_up HE | exact he_up (he_up HE) | exact he_up (he_up (he_up HE))), VV, hf0, hf1⟩ (by decide) (by decide)
            clear H V
            refine hcall.mono ?_
            clear hcall
            intro e w' hS
            unfold BksP at hS
            cases hb : bksR f noS 1 lf r0 with
            | err c =>
                have EB := Lib.hid hb
                rw [hb] at hS
                obtain ⟨v3, l3, rfl, hc0, hH⟩ := hS
                have H := Lib.hid hH
                have HC0 := Lib.hid hc0
                have hcb : (c == 0) = false := beq_eq_false_iff_ne.2 hc0
                clear hb hH hc0
                go_wp2_with (first
                    | go_skip
                    | ((with_reducible refine isAlloc ?_); refine alA H ?_ (hz := zStm8); clear H; intro _ _ H)
                    | ((with_reducible refine isLoad ?_); first | refine ldA H ?_ (hT := rStm8) | refine ld1A H ?_ (hT := by first | exact kInt | exact kStr | exact kWrs | exact kBll))
                    | ((with_reducible refine isStore ?_); first | (refine stA H ?_ (hT := rStm8); clear H; intro _ H) | (refine st1A H ?_ (hT := by first | exact sInt | exact sStr | exact sBll) (hx := by (go_simp; rfl)); clear H; intro _ H)))
                refine bodyPost_ret (results_Hv H rfl rStm8 rfl (.tail _ (.tail _ (.head _))) rfl rfl) rfl ?_
                have hp : stmR f (lf + 1) ts = .err c := by
                  unfold stmR kndR
                  simp only [HB.out, if_pos, Int.add_sub_cancel, if_neg (Int.not_lt.2 hf0), K0.out, EB.out, mapB]
                unfold StmP
                rw [hp]
                exact ⟨_, _, _, rfl, ⟨_, _, _, none, _, _, _, _, rfl⟩, HC0.out, H.out.sub (.cons_cons _ (.cons _ (.cons _ (by first | exact .refl _ | exact List.sublist_append_right _ _))))⟩
            | ok bs l2 t2 =>
                have EB := Lib.hid hb
                rw [hb] at hS
                obtain ⟨xv, v3, E2, rfl, hR, hV, hH⟩ := hS
                obtain ⟨Bx, cx, rfl⟩ := hR.shapeR
                obtain ⟨nb, hnb⟩ : ∃ n, bs.length = n := ⟨_, rfl⟩
                rw [hnb] at hR
                rw [hnb]
                have HNB := Lib.hid hnb
                have HR := Lib.hid hR
                have V := Lib.hid hV
                have H := Lib.hid (hH.perm mv2)
                clear hb hH hR hV hnb
                try rw [HNB.out]
                go_wp2_with (first
                    | go_skip
                    | ((with_reducible refine isAlloc ?_); refine alA H ?_ (hz := zStm8); clear H; intro _ _ H)
                    | ((with_reducible refine isLoad ?_); first | refine ldA H ?_ (hT := rStm8) | refine ld1A H ?_ (hT := by first | exact kInt | exact kStr | exact kWrs | exact kBll))
                    | ((with_reducible refine isStore ?_); first | (refine stA H ?_ (hT := rStm8); clear H; intro _ H) | (refine st1A H ?_ (hT := by first | exact sInt | exact sStr | exact sBll) (hx := by (go_simp; rfl)); clear H; intro _ H)))
                refine bodyPost_ret (results_Hv H rfl rStm8 rfl (.tail _ (.tail _ (.head _))) rfl rfl) rfl ?_
                have hp : stmR f (lf + 1) ts = .ok (.mk 6 noS noS none 0 bs) l2 t2 := by
                  unfold stmR kndR
                  simp only [HB.out, if_pos, Int.add_sub_cancel, if_neg (Int.not_lt.2 hf0), K0.out, EB.out, mapB]
                unfold StmP
                rw [hp]
                exact ⟨_, _, E2, rfl, RSt.of_bl (stkOk (by decide) (by decide)) HR.out, V.out, H.out.sub (.cons_cons _ (.cons _ (.cons _ (by first | exact .refl _ | exact List.sublist_append_right _ _))))⟩
end Go.Proofs.YtaiokjhjakdhaaaGreatDoor

namespace Go.Proofs.YtaiokjhjakdhaaaGreatDoor
open Go.RowKit
set_option linter.unusedVariables false
set_option maxRecDepth 100000

theorem leafB_eats {left : Int} {ts : List Tk} {s : Stm} {l : Int} {t : List Tk} (h : leafB left ts = .ok s l t) : t.length < ts.length ∧ l = left := by
  unfold leafB at h
  split at h
  · cases h
  · rename_i s' r e
    split at h
    · cases h
    · rename_i r2 e2
      cases h
      obtain ⟨⟨us, _, h2⟩, _⟩ := plnR_txs e
      have h3 := congrArg List.length h2
      have h4 := takR_len e2
      simp only [txs, List.length_append, List.length_map] at h3
      exact ⟨by omega, rfl⟩
theorem cntR_len {n : Int} {ts r : List Tk} (h : cntR ts = some (n, r)) : ts.length = r.length + 1 := by
  have h3 := congrArg List.length (cntR_txs h)
  simpa [txs] using h3
theorem stmR_eats {f : Option FS} (hf : ∀ g, f = some g → Eats g) : Eats (stmR f) := by
  intro left ts s l t h0 h
  unfold stmR at h
  split at h
  · split at h
    · cases h
    · rename_i hn
      unfold kndR at h
      split at h
      · rename_i r e
        have h1 := takR_len e
        generalize hB : bksR f noS 1 (left - 1) r = B at h
        cases B with
        | err e => cases h
        | ok bs lf t' =>
          cases h
          obtain ⟨a1, a2, a3⟩ := bksR_eats hf noS _ _ _ _ _ _ (by omega) hB
          exact ⟨by omega, a2, by omega⟩
      · split at h
        · rename_i r e
          have h1 := takR_len e
          generalize hB : bksR f kOr 4 (left - 1) r = B at h
          cases B with
          | err e => cases h
          | ok bs lf t' =>
            cases h
            obtain ⟨a1, a2, a3⟩ := bksR_eats hf kOr _ _ _ _ _ _ (by omega) hB
            exact ⟨by omega, a2, by omega⟩
        · split at h
          · rename_i r e
            have h1 := takR_len e
            unfold repB at h
            split at h
            · cases h
            · rename_i n r1 e1
              have h2 := cntR_len e1
              generalize hB : bksR f noS 1 (left - 1) r1 = B at h
              cases B with
              | err e => cases h
              | ok bs lf t' =>
                cases h
                obtain ⟨a1, a2, a3⟩ := bksR_eats hf noS _ _ _ _ _ _ (by omega) hB
                exact ⟨by omega, a2, by omega⟩
          · split at h
            · rename_i r e
              have h1 := takR_len e
              generalize hB : bksR f kElse 2 (left - 1) r = B at h
              cases B with
              | err e => cases h
              | ok bs lf t' =>
                simp only [tryB] at h
                split at h
                · cases h
                  obtain ⟨a1, a2, a3⟩ := bksR_eats hf kElse _ _ _ _ _ _ (by omega) hB
                  exact ⟨by omega, a2, by omega⟩
                · cases h
            · obtain ⟨a1, rfl⟩ := leafB_eats h
              exact ⟨a1, by omega, by omega⟩
  · cases h
theorem fS_eats : ∀ d, Eats (fS d)
  | 0 => stmR_eats (fun _ e => by cases e)
  | d + 1 => stmR_eats (fun g e => by cases e; exact fS_eats d)
/-- r.stmt at every depth. -/
theorem fS_any : ∀ d, d ≤ 5 → StmC (fS d) d (5 - d)
  | 0, _ => rstmt_of none 0 5 (by decide) (blocks_of none 0 6 (by decide) block_deep (fun _ e => by cases e))
  | d + 1, h => by
    have ih := fS_any d (by omega)
    have hb := block_of (fS d) d (5 - d) (by omega) ih (fS_eats d)
    have hbs := blocks_of (some (fS d)) (d + 1) (5 - d) (by omega) hb (fun g e => by cases e; exact fS_eats d)
    have := rstmt_of (some (fS d)) (d + 1) (5 - (d + 1)) (by omega) (by rw [show 5 - (d + 1) + 1 = 5 - d by omega]; exact hbs)
    exact this
theorem block1_any : BlkC (some (fS 4)) 5 1 := block_of (fS 4) 4 1 (by decide) (fS_any 4 (by decide)) (fS_eats 4)
/-- The job that a text describes. -/
def jobT (l : List UInt8) : Option (ByteArray × List Stm) :=
  match readS l with
  | none => none
  | some ws => match jobR (ws.map tkW) with
    | none => none
    | some (nm, l) => if checkE 5 nm l = 0 then some (nm, l) else none
def ReadP (w0 : World) (m : Ents) (s : ByteArray) (e : Ending) (w' : World) : Prop :=
  match jobT s.data.toList with
  | none => ∃ (c : Int), e = .returned (.tuple #[.agg #[.string ⟨#[]⟩, .slice none 0 0], .int .i64 c]) ∧ c ≠ 0 ∧ Hp w0 w' m
  | some (nm, l) => ∃ (x : Value) (E2 : Ents), e = .returned (.tuple #[.agg #[.string nm, x], .int .i64 0]) ∧ RSs E2 5 l x ∧ Hp w0 w' (E2 ++ m)
/-- The words' row, laid by a call. -/
theorem words_hp {w0 w w' : World} {m : Ents} {v : Value} {ws : List Wd} (H : Hp w0 w m) (hb : Below w.heap.size w w') (ho : w'.ownsRow w.heap.size 106 3 v ws.length (wcells ws)) (hk : ∀ x ∈ ws, TkOk (tkW x)) (hl : ws.length ≤ 4096) : ∃ EW, VW EW v (ws.map tkW) ∧ Hp w0 w' (EW ++ m) := by
  obtain ⟨h1, h2⟩ := ho
  have hk2 : ∀ x ∈ ws.map tkW, TkOk x := fun x hx => by
    obtain ⟨y, hy, rfl⟩ := List.mem_map.1 hx
    exact hk y hy
  rcases h2 with ⟨rfl, h3⟩ | ⟨g, cap, cur, rfl, h3, h4, h5, h6, h7, h8⟩
  · have : ws = [] := List.eq_nil_of_length_eq_zero h3
    subst this
    exact ⟨[], ⟨none, 0, rfl, Nat.le_refl _, by decide, hk2, fun hn => absurd rfl hn⟩, H.go hb⟩
  · refine ⟨[(g, 106, cur.toList)], ⟨some ⟨g, 0, none⟩, cap, by rw [List.length_map], by rw [List.length_map]; exact h5, h6, hk2, fun _ => ⟨g, 0, cur.toList, rfl, .head _, fun j x hx => ?_⟩⟩, H.fresh hb h3 (by show w'.heap[g]? = _; rw [h4])⟩
    rw [List.getElem?_map] at hx
    obtain ⟨u, hu, rfl⟩ := Option.map_eq_some_iff.1 hx
    obtain ⟨a1, a2, a3⟩ := wcells_at hu
    have hj := (List.getElem?_eq_some_iff.1 hu).1
    have get : ∀ k y, (wcells ws)[k]? = some y → cur.toList[k]? = some y := fun k y hy => by
      rw [← h8, List.getElem?_take] at hy
      split at hy
      · exact hy
      · cases hy
    rw [Nat.zero_add]
    exact ⟨get _ _ a1, get _ _ a3⟩
theorem words_ok {s : ByteArray} {ws : List Wd} (h : readS s.data.toList = some ws) : ∀ x ∈ ws, TkOk (tkW x) := fun x hx => by
  obtain ⟨hp, hs⟩ := placed_S h
  refine ⟨Nat.le_trans (placed_text hp x hx) hs, fun h2 => ?_⟩
  obtain ⟨_, hv⟩ := readS_good h x hx
  have h2' : x.kind = 2 := h2
  rcases hv with ⟨e, _⟩ | ⟨_, e⟩ | ⟨e, _⟩
  · rw [h2'] at e; cases e
  · exact e
  · rw [h2'] at e; cases e
theorem zJobR : (Tryz.prog.info? 25).bind (·.zero) = some (.agg #[.string ⟨#[]⟩, .slice none 0 0]) := by kernel_rfl
theorem midW {a : Nat × TypeId × List Value} {E m : Ents} : (E ++ (a :: m)).Perm (a :: (E ++ m)) := List.perm_middle
set_option maxHeartbeats 20000000 in
theorem pRead_any (s : ByteArray) (w0 w : World) (m : Ents) (H : Hid (Hp w0 w m)) (VV : Hid (Vr w0)) (hs : s.size ≤ maxLen) : Calls Tryz.prog 8 #[.string s] w (ReadP w0 m s) := by
  go_enter Tryz.func8, Tryz.ntmps8
  go_wp2_with (first
      | go_skip
      | ((with_reducible refine isAlloc ?_); refine alA H ?_ (hz := zJobR); clear H; intro _ _ H)
      | ((with_reducible refine isBox ?_); refine bxA (t := 79) H ?_; clear H; intro br _ H)
      | ((with_reducible refine isLoad ?_); first | refine ldA H ?_ (hT := rJob) | refine ld1A H ?_ (hT := by first | exact kWrs | exact kInt))
      | ((with_reducible refine isStore ?_); first | (refine stA H ?_ (hT := rJob); clear H; intro _ H) | (refine st1A H ?_ (hT := by first | exact sStr | exact sStl) (hx := by (go_simp; rfl)); clear H; intro _ H)))
  go_at_call 18
  refine (Read_any s _ hs).mono ?_
  rintro _ _ ⟨v, er, rfl, hb, h⟩
  rcases h with ⟨rfl, ws, hws, hlen, ho⟩ | ⟨her, h⟩
  · obtain ⟨hps, hs4⟩ := placed_S hws
    obtain ⟨EW, hV, hH⟩ := words_hp H.out hb ho (words_ok hws) (by omega)
    clear H
    have H := Lib.hid (hH.perm midW)
    have V := Lib.hid hV
    have WS := Lib.hid hws
    have htl : (ws.map tkW).length ≤ 4096 := by rw [List.length_map]; omega
    obtain ⟨ts, hts⟩ : ∃ t, ws.map tkW = t := ⟨_, rfl⟩
    rw [hts] at V htl
    have TS := Lib.hid hts
    obtain ⟨A0, c0, e0, _⟩ := V.out.shape
    obtain ⟨n0, hn0⟩ : ∃ n, ts.length = n := ⟨_, rfl⟩
    rw [hn0] at e0
    subst e0
    clear hH hV hws hts ho hb hlen hn0 hps hs4
    go_wp2_with (first
        | go_skip
        | ((with_reducible refine isAlloc ?_); refine alA H ?_ (hz := zJobR); clear H; intro _ _ H)
        | ((with_reducible refine isBox ?_); refine bxA (t := 79) H ?_; clear H; intro br _ H)
        | ((with_reducible refine isLoad ?_); first | refine ldA H ?_ (hT := rJob) | refine ld1A H ?_ (hT := by first | exact kWrs | exact kInt))
        | ((with_reducible refine isStore ?_); first | (refine stA H ?_ (hT := rJob); clear H; intro _ H) | (refine st1A H ?_ (hT := by first | exact sStr | exact sStl) (hx := by (go_simp; rfl)); clear H; intro _ H)))
    have H2 := Lib.hid (H.out.perm (List.Perm.swap _ _ _))
    clear H
    have H := H2
    clear H2
    cases j0 : takR kJob ts with
    | none =>
        have J0 := Lib.hid j0
        clear j0
        go_at_call 19
        have hcall := take_none H V (Lib.hid (fun x hx => .tail _ (.tail _ (List.mem_append_left _ hx)))) J0.out
        clear H V
        refine hcall.mono ?_
        clear hcall
        rintro _ _ ⟨_, rfl, hV, hH⟩
        have V := Lib.hid hV
        have H := Lib.hid hH
        clear hV hH
        go_wp2_with (first
            | go_skip
            | ((with_reducible refine isAlloc ?_); refine alA H ?_ (hz := zJobR); clear H; intro _ _ H)
            | ((with_reducible refine isBox ?_); refine bxA (t := 79) H ?_; clear H; intro br _ H)
            | ((with_reducible refine isLoad ?_); first | refine ldA H ?_ (hT := rJob) | refine ld1A H ?_ (hT := by first | exact kWrs | exact kInt))
            | ((with_reducible refine isStore ?_); first | (refine stA H ?_ (hT := rJob); clear H; intro _ H) | (refine st1A H ?_ (hT := by first | exact sStr | exact sStl) (hx := by (go_simp; rfl)); clear H; intro _ H)))
        refine bodyPost_ret (results_Hv H rfl rJob rfl (.tail _ (.tail _ (.head _))) rfl rfl) rfl ?_
        have hp : jobT s.data.toList = none := by
          unfold jobT
          simp only [WS.out, TS.out, jobR, J0.out]
        unfold ReadP
        rw [hp]
        exact ⟨_, rfl, by decide, H.out.sub (.cons _ (.cons _ (.cons _ (List.sublist_append_right _ _))))⟩
    | some r0 =>
        have J0 := Lib.hid j0
        clear j0
        have LN := Lib.hid (takR_len J0.out)
        go_at_call 19
        have hcall := take_some H V (Lib.hid (fun x hx => .tail _ (.tail _ (List.mem_append_left _ hx)))) J0.out
        clear H V
        refine hcall.mono ?_
        clear hcall
        rintro _ _ ⟨_, rfl, hV, hH⟩
        have V := Lib.hid hV
        have H := Lib.hid hH
        clear hV hH
        go_wp2_with (first
            | go_skip
            | ((with_reducible refine isAlloc ?_); refine alA H ?_ (hz := zJobR); clear H; intro _ _ H)
            | ((with_reducible refine isBox ?_); refine bxA (t := 79) H ?_; clear H; intro br _ H)
            | ((with_reducible refine isLoad ?_); first | refine ldA H ?_ (hT := rJob) | refine ld1A H ?_ (hT := by first | exact kWrs | exact kInt))
            | ((with_reducible refine isStore ?_); first | (refine stA H ?_ (hT := rJob); clear H; intro _ H) | (refine st1A H ?_ (hT := by first | exact sStr | exact sStl) (hx := by (go_simp; rfl)); clear H; intro _ H)))
        cases n1 : nmeR r0 with
        | none =>
            have N1 := Lib.hid n1
            clear n1
            go_at_call 20
            have hcall := name_none H V (Lib.hid (fun x hx => .tail _ (.tail _ (List.mem_append_left _ hx)))) N1.out
            clear H V
            refine hcall.mono ?_
            clear hcall
            rintro _ _ ⟨_, rfl, hV, hH⟩
            have V := Lib.hid hV
            have H := Lib.hid hH
            clear hV hH
            go_wp2_with (first
                | go_skip
                | ((with_reducible refine isAlloc ?_); refine alA H ?_ (hz := zJobR); clear H; intro _ _ H)
                | ((with_reducible refine isBox ?_); refine bxA (t := 79) H ?_; clear H; intro br _ H)
                | ((with_reducible refine isLoad ?_); first | refine ldA H ?_ (hT := rJob) | refine ld1A H ?_ (hT := by first | exact kWrs | exact kInt))
                | ((with_reducible refine isStore ?_); first | (refine stA H ?_ (hT := rJob); clear H; intro _ H) | (refine st1A H ?_ (hT := by first | exact sStr | exact sStl) (hx := by (go_simp; rfl)); clear H; intro _ H)))
            refine bodyPost_ret (results_Hv H rfl rJob rfl (.tail _ (.tail _ (.head _))) rfl rfl) rfl ?_
            have hp : jobT s.data.toList = none := by
              unfold jobT
              simp only [WS.out, TS.out, jobR, J0.out, N1.out]
            unfold ReadP
            rw [hp]
            exact ⟨_, rfl, by decide, H.out.sub (.cons _ (.cons _ (.cons _ (List.sublist_append_right _ _))))⟩
        | some x1 =>
            obtain ⟨nm, r1⟩ := x1
            have N1 := Lib.hid n1
            clear n1
            have NSZ := Lib.hid (nmeR_sub N1.out)
            have LN1 : Hid (r1.length ≤ 4096 ∧ nm.size ≤ maxLen) := Lib.hid (by
              have h1 := LN.out
              have h2 := nmeR_txs N1.out
              have h3 := congrArg List.length h2
              simp only [txs, List.length_map, List.length_cons] at h3
              obtain ⟨⟨x, hx, hx2⟩, _⟩ := NSZ.out
              exact ⟨by omega, by rw [← hx2]; exact ml4 (V.out.ok x hx).1⟩)
            go_at_call 20
            have hcall := name_some H V (Lib.hid (fun x hx => .tail _ (.tail _ (List.mem_append_left _ hx)))) N1.out
            clear H V
            refine hcall.mono ?_
            clear hcall
            rintro _ _ ⟨_, rfl, hV, hH⟩
            have V := Lib.hid hV
            have H := Lib.hid hH
            clear hV hH
            go_wp2_with (first
                | go_skip
                | ((with_reducible refine isAlloc ?_); refine alA H ?_ (hz := zJobR); clear H; intro _ _ H)
                | ((with_reducible refine isBox ?_); refine bxA (t := 79) H ?_; clear H; intro br _ H)
                | ((with_reducible refine isLoad ?_); first | refine ldA H ?_ (hT := rJob) | refine ld1A H ?_ (hT := by first | exact kWrs | exact kInt))
                | ((with_reducible refine isStore ?_); first | (refine stA H ?_ (hT := rJob); clear H; intro _ H) | (refine st1A H ?_ (hT := by first | exact sStr | exact sStl) (hx := by (go_simp; rfl)); clear H; intro _ H)))
            go_at_call 21
            have hcall := block1_any w0 _ _ EW br _ 100 r1 ⟨LN1.out.1, H, V, (Lib.hid (fun x hx => .tail _ (.tail _ (List.mem_append_left _ hx)))), VV, by decide, by decide⟩
            clear H V
            refine hcall.mono ?_
            clear hcall
            intro e w' hS
            unfold BlkP at hS
            cases b2 : blkR (some (fS 4)) 100 r1 with
            | err c =>
                have B2 := Lib.hid b2
                rw [b2] at hS
                obtain ⟨v3, l3, rfl, hc0, hH⟩ := hS
                have H := Lib.hid hH
                have HC0 := Lib.hid hc0
                have hcb : (c != 0) = true := bne_iff_ne.2 hc0
                clear b2 hH hc0
                go_wp2_with (first
                    | go_skip
                    | ((with_reducible refine isAlloc ?_); refine alA H ?_ (hz := zJobR); clear H; intro _ _ H)
                    | ((with_reducible refine isBox ?_); refine bxA (t := 79) H ?_; clear H; intro br _ H)
                    | ((with_reducible refine isLoad ?_); first | refine ldA H ?_ (hT := rJob) | refine ld1A H ?_ (hT := by first | exact kWrs | exact kInt))
                    | ((with_reducible refine isStore ?_); first | (refine stA H ?_ (hT := rJob); clear H; intro _ H) | (refine st1A H ?_ (hT := by first | exact sStr | exact sStl) (hx := by (go_simp; rfl)); clear H; intro _ H)))
                refine bodyPost_ret (results_Hv H rfl rJob rfl (.tail _ (.tail _ (.head _))) rfl rfl) rfl ?_
                have hp : jobT s.data.toList = none := by
                  unfold jobT
                  simp only [WS.out, TS.out, jobR, J0.out, N1.out, B2.out]
                unfold ReadP
                rw [hp]
                exact ⟨_, rfl, HC0.out, H.out.sub (.cons _ (.cons _ (.cons _ (List.sublist_append_right _ _))))⟩
            | ok l l2 t2 =>
                have B2 := Lib.hid b2
                rw [b2] at hS
                obtain ⟨xv, v3, E2, rfl, hR, hV, hH⟩ := hS
                obtain ⟨Bx, nx, cx, rfl⟩ := hR.shapeR
                have HR := Lib.hid hR
                have V := Lib.hid hV
                obtain ⟨A3, c3, rfl, _⟩ := hV.shape
                have H := Lib.hid (hH.perm mv2)
                clear b2 hR hV hH
                cases t2 with
                | cons t2 r2 =>
                    obtain ⟨n2, hn2⟩ : ∃ n, r2.length = n := ⟨_, rfl⟩
                    simp only [List.length_cons, hn2] at H
                    have hgt : (0 : Int) < (n2 : Int) + 1 := by omega
                    go_wp2_with (first
                        | go_skip
                        | ((with_reducible refine isAlloc ?_); refine alA H ?_ (hz := zJobR); clear H; intro _ _ H)
                        | ((with_reducible refine isBox ?_); refine bxA (t := 79) H ?_; clear H; intro br _ H)
                        | ((with_reducible refine isLoad ?_); first | refine ldA H ?_ (hT := rJob) | refine ld1A H ?_ (hT := by first | exact kWrs | exact kInt))
                        | ((with_reducible refine isStore ?_); first | (refine stA H ?_ (hT := rJob); clear H; intro _ H) | (refine st1A H ?_ (hT := by first | exact sStr | exact sStl) (hx := by (go_simp; rfl)); clear H; intro _ H)))
                    refine bodyPost_ret (results_Hv H rfl rJob rfl (.tail _ (.tail _ (.head _))) rfl rfl) rfl ?_
                    have hp : jobT s.data.toList = none := by
                      unfold jobT
                      simp only [WS.out, TS.out, jobR, J0.out, N1.out, B2.out, if_neg (List.cons_ne_nil _ _)]
                    unfold ReadP
                    rw [hp]
                    exact ⟨_, rfl, by decide, H.out.sub (.cons _ (.cons _ (.cons _ ((List.sublist_append_right _ _).trans (List.sublist_append_right _ _)))))⟩
                | nil =>
                    simp only [List.length_nil] at H
                    obtain ⟨cc, hcc⟩ : ∃ c, checkE 5 nm l = c := ⟨_, rfl⟩
                    have HCK := Lib.hid hcc
                    clear hcc
                    go_wp2_with (first
                        | go_skip
                        | ((with_reducible refine isAlloc ?_); refine alA H ?_ (hz := zJobR); clear H; intro _ _ H)
                        | ((with_reducible refine isBox ?_); refine bxA (t := 79) H ?_; clear H; intro br _ H)
                        | ((with_reducible refine isLoad ?_); first | refine ldA H ?_ (hT := rJob) | refine ld1A H ?_ (hT := by first | exact kWrs | exact kInt))
                        | ((with_reducible refine isStore ?_); first | (refine stA H ?_ (hT := rJob); clear H; intro _ H) | (refine st1A H ?_ (hT := by first | exact sStr | exact sStl) (hx := by (go_simp; rfl)); clear H; intro _ H)))
                    go_at_call 14
                    have hcall := Check_any 5 E2 nm l _ _ LN1.out.2 HR (Lib.hid (H.out.hld (fun x hx => .tail _ (.tail _ (.tail _ (List.mem_append_left _ hx)))))) H.out.tb
                    rw [HCK.out] at hcall
                    refine hcall.mono ?_
                    clear hcall
                    rintro _ _ ⟨rfl, hB⟩
                    replace H := Lib.hid (H.out.go hB)
                    clear hB
                    by_cases h0 : cc = 0
                    · subst h0
                      go_wp2_with (first
                          | go_skip
                          | ((with_reducible refine isAlloc ?_); refine alA H ?_ (hz := zJobR); clear H; intro _ _ H)
                          | ((with_reducible refine isBox ?_); refine bxA (t := 79) H ?_; clear H; intro br _ H)
                          | ((with_reducible refine isLoad ?_); first | refine ldA H ?_ (hT := rJob) | refine ld1A H ?_ (hT := by first | exact kWrs | exact kInt))
                          | ((with_reducible refine isStore ?_); first | (refine stA H ?_ (hT := rJob); clear H; intro _ H) | (refine st1A H ?_ (hT := by first | exact sStr | exact sStl) (hx := by (go_simp; rfl)); clear H; intro _ H)))
                      refine bodyPost_ret (results_Hv H rfl rJob rfl (.tail _ (.tail _ (.head _))) rfl rfl) rfl ?_
                      have hp : jobT s.data.toList = some (nm, l) := by
                        unfold jobT
                        simp only [WS.out, TS.out, jobR, J0.out, N1.out, B2.out, if_pos, HCK.out]
                      unfold ReadP
                      rw [hp]
                      exact ⟨_, E2, rfl, HR.out, H.out.sub (.cons _ (.cons _ (.cons _ ((List.Sublist.refl _).append (List.sublist_append_right _ _)))))⟩
                    · have hcb : (cc != 0) = true := bne_iff_ne.2 h0
                      have HC0 := Lib.hid h0
                      clear h0
                      go_wp2_with (first
                          | go_skip
                          | ((with_reducible refine isAlloc ?_); refine alA H ?_ (hz := zJobR); clear H; intro _ _ H)
                          | ((with_reducible refine isBox ?_); refine bxA (t := 79) H ?_; clear H; intro br _ H)
                          | ((with_reducible refine isLoad ?_); first | refine ldA H ?_ (hT := rJob) | refine ld1A H ?_ (hT := by first | exact kWrs | exact kInt))
                          | ((with_reducible refine isStore ?_); first | (refine stA H ?_ (hT := rJob); clear H; intro _ H) | (refine st1A H ?_ (hT := by first | exact sStr | exact sStl) (hx := by (go_simp; rfl)); clear H; intro _ H)))
                      refine bodyPost_ret (results_Hv H rfl rJob rfl (.tail _ (.tail _ (.head _))) rfl rfl) rfl ?_
                      have hp : jobT s.data.toList = none := by
                        unfold jobT
                        simp only [WS.out, TS.out, jobR, J0.out, N1.out, B2.out, if_pos, HCK.out, if_neg HC0.out]
                      unfold ReadP
                      rw [hp]
                      exact ⟨_, rfl, HC0.out, H.out.sub (.cons _ (.cons _ (.cons _ ((List.sublist_append_right _ _).trans (List.sublist_append_right _ _)))))⟩
  · replace H := Lib.hid (H.out.go hb)
    have WS := Lib.hid h
    have HC0 := Lib.hid her
    have hcb : (er != 0) = true := bne_iff_ne.2 her
    clear h her hb
    go_wp2_with (first
        | go_skip
        | ((with_reducible refine isAlloc ?_); refine alA H ?_ (hz := zJobR); clear H; intro _ _ H)
        | ((with_reducible refine isBox ?_); refine bxA (t := 79) H ?_; clear H; intro br _ H)
        | ((with_reducible refine isLoad ?_); first | refine ldA H ?_ (hT := rJob) | refine ld1A H ?_ (hT := by first | exact kWrs | exact kInt))
        | ((with_reducible refine isStore ?_); first | (refine stA H ?_ (hT := rJob); clear H; intro _ H) | (refine st1A H ?_ (hT := by first | exact sStr | exact sStl) (hx := by (go_simp; rfl)); clear H; intro _ H)))
    refine bodyPost_ret (results_Hv H rfl rJob rfl (.head _) rfl rfl) rfl ?_
    have hp : jobT s.data.toList = none := by
      unfold jobT
      simp only [WS.out]
    unfold ReadP
    rw [hp]
    exact ⟨_, rfl, HC0.out, H.out.drop⟩
end Go.Proofs.YtaiokjhjakdhaaaGreatDoor

namespace Go.Proofs.YtaiokjhjakdhaaaGreatDoor
open Go.RowKit
set_option linter.unusedVariables false
set_option maxRecDepth 100000

/-- What the printer does at a statement. -/
def PrV (E : Ents) (d : Nat) (s : Stm) (us : List ByteArray) : Prop := ∀ (w0 w : World) (m : Ents) (bp : Nat) (v : Value) (n : Nat) (ws : List ByteArray) (cur : List Value) (sv : Sv), Hid (Hp w0 w ((bp, 70, [v]) :: (rowE v 9 cur ++ m))) → Hid (RowV 1 v n (flat strV ws) cur) → Hid (∀ x ∈ E, x ∈ m) → Hid (RSt E d s sv) → Hid (Vr w0) → n + us.length ≤ 100000 →
  Calls Tryz.prog 28 #[.pointer (some ⟨bp, 0, none⟩), .agg sv.cells.toArray] w fun e w' => ∃ v' cur', e = .returned (.tuple #[]) ∧ RowV 1 v' (n + us.length) (flat strV (ws ++ us)) cur' ∧ Hp w0 w' ((bp, 70, [v']) :: (rowE v' 9 cur' ++ m))
set_option maxHeartbeats 4000000 in
theorem pr_hold (E : Ents) (d : Nat) (s : Stm) (hk : s.k = 2) (hbl : s.bl = []) : PrV E d s [kHold, s.a, kWith, s.b, kSemi] := by
  intro w0 w m bp v n ws cur sv H R HE RS VV hb
  simp only [List.length_cons, List.length_nil] at hb ⊢
  obtain ⟨vk, va, vb, vw, vn, Bb, cb, rfl, e1⟩ := RS.out.shape9
  obtain rfl : vk = 2 := e1.trans hk
  have hRS := RS.out
  cases d with
  | zero => exact hRS.elim
  | succ d =>
  obtain ⟨_, _, ea, eb, ew, en, _⟩ := hRS
  simp only at ea eb ew en
  simp only [hbl, List.length_nil]
  try rw [← ea]
  try rw [← eb]
  try rw [← en]
  obtain ⟨B, c, rfl, _⟩ := R.out.shape
  clear hk hbl e1 RS ea eb ew en
  go_enter Tryz.func28, Tryz.ntmps28
  go_wp2_with (first
      | go_skip
      | ((with_reducible refine isLoad ?_); refine ldA H ?_ (hT := by first | exact rStm8 | exact rRat))
      | ((with_reducible refine isLoad ?_); refine ld1A H ?_ (hT := by first | exact kInt | exact kStl | exact kBll | exact kStr | exact kStrs))
      | ((with_reducible refine isBox ?_); refine bxA H ?_; clear H; intro _ _ H)
      | ((with_reducible refine isSlc ?_); first | (refine bsA 9 [.string kHold, .string va, .string kWith, .string vb] 4 H ?_; clear H; intro gz _ H)))
  go_at_call 15
  have H' := Lib.hid (H.out.perm roll3)
  refine Calls.mono (put_any w0 _ _ bp gz _ _ 4 _ [kHold, va, kWith, vb] _ H' R (Lib.hid (.head _)) rfl (by decide) (by omega)) ?_
  clear H H' R
  rintro _ _ ⟨v2, cur2, rfl, hR, h2⟩
  obtain ⟨B2, c2, rfl, _⟩ := hR.shape
  have R := Lib.hid hR
  have H := Lib.hid (back3 h2)
  clear hR h2
  go_wp2_with (first
      | go_skip
      | ((with_reducible refine isLoad ?_); refine ldA H ?_ (hT := by first | exact rStm8 | exact rRat))
      | ((with_reducible refine isLoad ?_); refine ld1A H ?_ (hT := by first | exact kInt | exact kStl | exact kBll | exact kStr | exact kStrs))
      | ((with_reducible refine isSlc ?_); first | (refine bsA 9 [.string ⟨#[59]⟩] 1 H ?_; clear H; intro gz _ H)))
  go_at_call 15
  have H' := Lib.hid (H.out.perm roll3)
  refine Calls.mono (put_any w0 _ _ bp gz _ _ 1 _ [⟨#[59]⟩] _ H' R (Lib.hid (.head _)) rfl (by decide) (by omega)) ?_
  clear H H' R
  rintro _ _ ⟨v2, cur2, rfl, hR, h2⟩
  obtain ⟨B2, c2, rfl, _⟩ := hR.shape
  have R := Lib.hid hR
  have H := Lib.hid (back3 h2)
  clear hR h2
  go_wp2_with (first
      | go_skip
      | ((with_reducible refine isLoad ?_); refine ldA H ?_ (hT := by first | exact rStm8 | exact rRat))
      | ((with_reducible refine isLoad ?_); refine ld1A H ?_ (hT := by first | exact kInt | exact kStl | exact kBll | exact kStr | exact kStrs)))
  go_loopw [90] (fun i_ wr => i_ = .int .i64 0 ∧ Hid (Hp w0 wr ((bp, 70, [(.slice B2 (n + 4 + 1) c2)]) :: (rowE (.slice B2 (n + 4 + 1) c2) 9 cur2 ++ m)))) (fun i_ _ => 0)
  case atStart => exact ⟨rfl, Lib.hid H.out.drop⟩
  case round =>
    clear H
    obtain ⟨rfl, H⟩ := hrel
    go_wp2_with (first
        | go_skip)
    go_end0
    refine ⟨_, _, rfl, ?_, H.out⟩
    have := R.out
    simp only [List.append_assoc] at this
    exact this
set_option maxHeartbeats 4000000 in
theorem pr_free (E : Ents) (d : Nat) (s : Stm) (hk : s.k = 3) (hbl : s.bl = []) : PrV E d s [kFree, s.a, kSemi] := by
  intro w0 w m bp v n ws cur sv H R HE RS VV hb
  simp only [List.length_cons, List.length_nil] at hb ⊢
  obtain ⟨vk, va, vb, vw, vn, Bb, cb, rfl, e1⟩ := RS.out.shape9
  obtain rfl : vk = 3 := e1.trans hk
  have hRS := RS.out
  cases d with
  | zero => exact hRS.elim
  | succ d =>
  obtain ⟨_, _, ea, eb, ew, en, _⟩ := hRS
  simp only at ea eb ew en
  simp only [hbl, List.length_nil]
  try rw [← ea]
  try rw [← eb]
  try rw [← en]
  obtain ⟨B, c, rfl, _⟩ := R.out.shape
  clear hk hbl e1 RS ea eb ew en
  go_enter Tryz.func28, Tryz.ntmps28
  go_wp2_with (first
      | go_skip
      | ((with_reducible refine isLoad ?_); refine ldA H ?_ (hT := by first | exact rStm8 | exact rRat))
      | ((with_reducible refine isLoad ?_); refine ld1A H ?_ (hT := by first | exact kInt | exact kStl | exact kBll | exact kStr | exact kStrs))
      | ((with_reducible refine isBox ?_); refine bxA H ?_; clear H; intro _ _ H)
      | ((with_reducible refine isSlc ?_); first | (refine bsA 9 [.string kFree, .string va] 2 H ?_; clear H; intro gz _ H)))
  go_at_call 15
  have H' := Lib.hid (H.out.perm roll3)
  refine Calls.mono (put_any w0 _ _ bp gz _ _ 2 _ [kFree, va] _ H' R (Lib.hid (.head _)) rfl (by decide) (by omega)) ?_
  clear H H' R
  rintro _ _ ⟨v2, cur2, rfl, hR, h2⟩
  obtain ⟨B2, c2, rfl, _⟩ := hR.shape
  have R := Lib.hid hR
  have H := Lib.hid (back3 h2)
  clear hR h2
  go_wp2_with (first
      | go_skip
      | ((with_reducible refine isLoad ?_); refine ldA H ?_ (hT := by first | exact rStm8 | exact rRat))
      | ((with_reducible refine isLoad ?_); refine ld1A H ?_ (hT := by first | exact kInt | exact kStl | exact kBll | exact kStr | exact kStrs))
      | ((with_reducible refine isSlc ?_); first | (refine bsA 9 [.string ⟨#[59]⟩] 1 H ?_; clear H; intro gz _ H)))
  go_at_call 15
  have H' := Lib.hid (H.out.perm roll3)
  refine Calls.mono (put_any w0 _ _ bp gz _ _ 1 _ [⟨#[59]⟩] _ H' R (Lib.hid (.head _)) rfl (by decide) (by omega)) ?_
  clear H H' R
  rintro _ _ ⟨v2, cur2, rfl, hR, h2⟩
  obtain ⟨B2, c2, rfl, _⟩ := hR.shape
  have R := Lib.hid hR
  have H := Lib.hid (back3 h2)
  clear hR h2
  go_wp2_with (first
      | go_skip
      | ((with_reducible refine isLoad ?_); refine ldA H ?_ (hT := by first | exact rStm8 | exact rRat))
      | ((with_reducible refine isLoad ?_); refine ld1A H ?_ (hT := by first | exact kInt | exact kStl | exact kBll | exact kStr | exact kStrs)))
  go_loopw [90] (fun i_ wr => i_ = .int .i64 0 ∧ Hid (Hp w0 wr ((bp, 70, [(.slice B2 (n + 2 + 1) c2)]) :: (rowE (.slice B2 (n + 2 + 1) c2) 9 cur2 ++ m)))) (fun i_ _ => 0)
  case atStart => exact ⟨rfl, Lib.hid H.out.drop⟩
  case round =>
    clear H
    obtain ⟨rfl, H⟩ := hrel
    go_wp2_with (first
        | go_skip)
    go_end0
    refine ⟨_, _, rfl, ?_, H.out⟩
    have := R.out
    simp only [List.append_assoc] at this
    exact this
set_option maxHeartbeats 4000000 in
theorem pr_see (E : Ents) (d : Nat) (s : Stm) (hk : s.k = 4) (hbl : s.bl = []) : PrV E d s [kSee, s.a, kSemi] := by
  intro w0 w m bp v n ws cur sv H R HE RS VV hb
  simp only [List.length_cons, List.length_nil] at hb ⊢
  obtain ⟨vk, va, vb, vw, vn, Bb, cb, rfl, e1⟩ := RS.out.shape9
  obtain rfl : vk = 4 := e1.trans hk
  have hRS := RS.out
  cases d with
  | zero => exact hRS.elim
  | succ d =>
  obtain ⟨_, _, ea, eb, ew, en, _⟩ := hRS
  simp only at ea eb ew en
  simp only [hbl, List.length_nil]
  try rw [← ea]
  try rw [← eb]
  try rw [← en]
  obtain ⟨B, c, rfl, _⟩ := R.out.shape
  clear hk hbl e1 RS ea eb ew en
  go_enter Tryz.func28, Tryz.ntmps28
  go_wp2_with (first
      | go_skip
      | ((with_reducible refine isLoad ?_); refine ldA H ?_ (hT := by first | exact rStm8 | exact rRat))
      | ((with_reducible refine isLoad ?_); refine ld1A H ?_ (hT := by first | exact kInt | exact kStl | exact kBll | exact kStr | exact kStrs))
      | ((with_reducible refine isBox ?_); refine bxA H ?_; clear H; intro _ _ H)
      | ((with_reducible refine isSlc ?_); first | (refine bsA 9 [.string kSee, .string va] 2 H ?_; clear H; intro gz _ H)))
  go_at_call 15
  have H' := Lib.hid (H.out.perm roll3)
  refine Calls.mono (put_any w0 _ _ bp gz _ _ 2 _ [kSee, va] _ H' R (Lib.hid (.head _)) rfl (by decide) (by omega)) ?_
  clear H H' R
  rintro _ _ ⟨v2, cur2, rfl, hR, h2⟩
  obtain ⟨B2, c2, rfl, _⟩ := hR.shape
  have R := Lib.hid hR
  have H := Lib.hid (back3 h2)
  clear hR h2
  go_wp2_with (first
      | go_skip
      | ((with_reducible refine isLoad ?_); refine ldA H ?_ (hT := by first | exact rStm8 | exact rRat))
      | ((with_reducible refine isLoad ?_); refine ld1A H ?_ (hT := by first | exact kInt | exact kStl | exact kBll | exact kStr | exact kStrs))
      | ((with_reducible refine isSlc ?_); first | (refine bsA 9 [.string ⟨#[59]⟩] 1 H ?_; clear H; intro gz _ H)))
  go_at_call 15
  have H' := Lib.hid (H.out.perm roll3)
  refine Calls.mono (put_any w0 _ _ bp gz _ _ 1 _ [⟨#[59]⟩] _ H' R (Lib.hid (.head _)) rfl (by decide) (by omega)) ?_
  clear H H' R
  rintro _ _ ⟨v2, cur2, rfl, hR, h2⟩
  obtain ⟨B2, c2, rfl, _⟩ := hR.shape
  have R := Lib.hid hR
  have H := Lib.hid (back3 h2)
  clear hR h2
  go_wp2_with (first
      | go_skip
      | ((with_reducible refine isLoad ?_); refine ldA H ?_ (hT := by first | exact rStm8 | exact rRat))
      | ((with_reducible refine isLoad ?_); refine ld1A H ?_ (hT := by first | exact kInt | exact kStl | exact kBll | exact kStr | exact kStrs)))
  go_loopw [90] (fun i_ wr => i_ = .int .i64 0 ∧ Hid (Hp w0 wr ((bp, 70, [(.slice B2 (n + 2 + 1) c2)]) :: (rowE (.slice B2 (n + 2 + 1) c2) 9 cur2 ++ m)))) (fun i_ _ => 0)
  case atStart => exact ⟨rfl, Lib.hid H.out.drop⟩
  case round =>
    clear H
    obtain ⟨rfl, H⟩ := hrel
    go_wp2_with (first
        | go_skip)
    go_end0
    refine ⟨_, _, rfl, ?_, H.out⟩
    have := R.out
    simp only [List.append_assoc] at this
    exact this
set_option maxHeartbeats 4000000 in
theorem pr_wait (E : Ents) (d : Nat) (s : Stm) (hk : s.k = 5) (h0 : -9223372036854775808 ≤ s.n) (h1 : s.n ≤ 9223372036854775807) (hbl : s.bl = []) : PrV E d s [kWait, (numT s.n), kSemi] := by
  intro w0 w m bp v n ws cur sv H R HE RS VV hb
  simp only [List.length_cons, List.length_nil] at hb ⊢
  obtain ⟨vk, va, vb, vw, vn, Bb, cb, rfl, e1⟩ := RS.out.shape9
  obtain rfl : vk = 5 := e1.trans hk
  have hRS := RS.out
  cases d with
  | zero => exact hRS.elim
  | succ d =>
  obtain ⟨_, _, ea, eb, ew, en, _⟩ := hRS
  simp only at ea eb ew en
  simp only [hbl, List.length_nil]
  try rw [← ea]
  try rw [← eb]
  try rw [← en]
  obtain ⟨B, c, rfl, _⟩ := R.out.shape
  rw [← en] at h0 h1
  clear hk hbl e1 RS ea eb ew en
  go_enter Tryz.func28, Tryz.ntmps28
  go_wp2_with (first
      | go_skip
      | ((with_reducible refine isLoad ?_); refine ldA H ?_ (hT := by first | exact rStm8 | exact rRat))
      | ((with_reducible refine isLoad ?_); refine ld1A H ?_ (hT := by first | exact kInt | exact kStl | exact kBll | exact kStr | exact kStrs))
      | ((with_reducible refine isBox ?_); refine bxA H ?_; clear H; intro _ _ H)
      | ((with_reducible refine isSlc ?_); first | (refine bsA 9 [.string kWait, .string (numT vn)] 2 H ?_; clear H; intro gz _ H))
      | (go_at_call 42; refine (number_any _ _ h0 h1 (VV.out.below H.out.bel)).mono ?_; rintro _ _ ⟨rfl, hB⟩; replace H := Lib.hid (H.out.go hB); clear hB))
  go_at_call 15
  have H' := Lib.hid (H.out.perm roll3)
  refine Calls.mono (put_any w0 _ _ bp gz _ _ 2 _ [kWait, (numT vn)] _ H' R (Lib.hid (.head _)) rfl (by decide) (by omega)) ?_
  clear H H' R
  rintro _ _ ⟨v2, cur2, rfl, hR, h2⟩
  obtain ⟨B2, c2, rfl, _⟩ := hR.shape
  have R := Lib.hid hR
  have H := Lib.hid (back3 h2)
  clear hR h2
  go_wp2_with (first
      | go_skip
      | ((with_reducible refine isLoad ?_); refine ldA H ?_ (hT := by first | exact rStm8 | exact rRat))
      | ((with_reducible refine isLoad ?_); refine ld1A H ?_ (hT := by first | exact kInt | exact kStl | exact kBll | exact kStr | exact kStrs))
      | ((with_reducible refine isSlc ?_); first | (refine bsA 9 [.string ⟨#[59]⟩] 1 H ?_; clear H; intro gz _ H)))
  go_at_call 15
  have H' := Lib.hid (H.out.perm roll3)
  refine Calls.mono (put_any w0 _ _ bp gz _ _ 1 _ [⟨#[59]⟩] _ H' R (Lib.hid (.head _)) rfl (by decide) (by omega)) ?_
  clear H H' R
  rintro _ _ ⟨v2, cur2, rfl, hR, h2⟩
  obtain ⟨B2, c2, rfl, _⟩ := hR.shape
  have R := Lib.hid hR
  have H := Lib.hid (back3 h2)
  clear hR h2
  go_wp2_with (first
      | go_skip
      | ((with_reducible refine isLoad ?_); refine ldA H ?_ (hT := by first | exact rStm8 | exact rRat))
      | ((with_reducible refine isLoad ?_); refine ld1A H ?_ (hT := by first | exact kInt | exact kStl | exact kBll | exact kStr | exact kStrs)))
  go_loopw [90] (fun i_ wr => i_ = .int .i64 0 ∧ Hid (Hp w0 wr ((bp, 70, [(.slice B2 (n + 2 + 1) c2)]) :: (rowE (.slice B2 (n + 2 + 1) c2) 9 cur2 ++ m)))) (fun i_ _ => 0)
  case atStart => exact ⟨rfl, Lib.hid H.out.drop⟩
  case round =>
    clear H
    obtain ⟨rfl, H⟩ := hrel
    go_wp2_with (first
        | go_skip)
    go_end0
    refine ⟨_, _, rfl, ?_, H.out⟩
    have := R.out
    simp only [List.append_assoc] at this
    exact this
set_option maxHeartbeats 4000000 in
theorem pr_put0 (E : Ents) (d : Nat) (s : Stm) (hk : s.k = 1) (hw : s.wd = none) (hbl : s.bl = []) : PrV E d s [kPut, s.a, kIn, s.b, kSemi] := by
  intro w0 w m bp v n ws cur sv H R HE RS VV hb
  simp only [List.length_cons, List.length_nil] at hb ⊢
  obtain ⟨vk, va, vb, vw, vn, Bb, cb, rfl, e1⟩ := RS.out.shape9
  obtain rfl : vk = 1 := e1.trans hk
  have hRS := RS.out
  cases d with
  | zero => exact hRS.elim
  | succ d =>
  obtain ⟨_, _, ea, eb, ew, en, _⟩ := hRS
  simp only at ea eb ew en
  simp only [hbl, List.length_nil]
  try rw [← ea]
  try rw [← eb]
  try rw [← en]
  obtain ⟨B, c, rfl, _⟩ := R.out.shape
  have hw2 := ew.trans hw
  subst hw2
  clear hw
  simp only [Sv.cells, sgO, nuO, deO]
  clear hk hbl e1 RS ea eb ew en
  go_enter Tryz.func28, Tryz.ntmps28
  go_wp2_with (first
      | go_skip
      | ((with_reducible refine isLoad ?_); refine ldA H ?_ (hT := by first | exact rStm8 | exact rRat))
      | ((with_reducible refine isLoad ?_); refine ld1A H ?_ (hT := by first | exact kInt | exact kStl | exact kBll | exact kStr | exact kStrs))
      | ((with_reducible refine isBox ?_); refine bxA H ?_; clear H; intro _ _ H)
      | ((with_reducible refine isSlc ?_); first | (refine bsA 9 [.string kPut, .string va, .string kIn, .string vb] 4 H ?_; clear H; intro gz _ H)))
  go_at_call 15
  have H' := Lib.hid (H.out.perm roll3)
  refine Calls.mono (put_any w0 _ _ bp gz _ _ 4 _ [kPut, va, kIn, vb] _ H' R (Lib.hid (.head _)) rfl (by decide) (by omega)) ?_
  clear H H' R
  rintro _ _ ⟨v2, cur2, rfl, hR, h2⟩
  obtain ⟨B2, c2, rfl, _⟩ := hR.shape
  have R := Lib.hid hR
  have H := Lib.hid (back3 h2)
  clear hR h2
  go_wp2_with (first
      | go_skip
      | ((with_reducible refine isLoad ?_); refine ldA H ?_ (hT := by first | exact rStm8 | exact rRat))
      | ((with_reducible refine isLoad ?_); refine ld1A H ?_ (hT := by first | exact kInt | exact kStl | exact kBll | exact kStr | exact kStrs))
      | ((with_reducible refine isSlc ?_); first | (refine bsA 9 [.string ⟨#[59]⟩] 1 H ?_; clear H; intro gz _ H)))
  go_at_call 15
  have H' := Lib.hid (H.out.perm roll3)
  refine Calls.mono (put_any w0 _ _ bp gz _ _ 1 _ [⟨#[59]⟩] _ H' R (Lib.hid (.head _)) rfl (by decide) (by omega)) ?_
  clear H H' R
  rintro _ _ ⟨v2, cur2, rfl, hR, h2⟩
  obtain ⟨B2, c2, rfl, _⟩ := hR.shape
  have R := Lib.hid hR
  have H := Lib.hid (back3 h2)
  clear hR h2
  go_wp2_with (first
      | go_skip
      | ((with_reducible refine isLoad ?_); refine ldA H ?_ (hT := by first | exact rStm8 | exact rRat))
      | ((with_reducible refine isLoad ?_); refine ld1A H ?_ (hT := by first | exact kInt | exact kStl | exact kBll | exact kStr | exact kStrs)))
  go_loopw [90] (fun i_ wr => i_ = .int .i64 0 ∧ Hid (Hp w0 wr ((bp, 70, [(.slice B2 (n + 4 + 1) c2)]) :: (rowE (.slice B2 (n + 4 + 1) c2) 9 cur2 ++ m)))) (fun i_ _ => 0)
  case atStart => exact ⟨rfl, Lib.hid H.out.drop⟩
  case round =>
    clear H
    obtain ⟨rfl, H⟩ := hrel
    go_wp2_with (first
        | go_skip)
    go_end0
    refine ⟨_, _, rfl, ?_, H.out⟩
    have := R.out
    simp only [List.append_assoc] at this
    exact this
set_option maxHeartbeats 4000000 in
theorem pr_put1 (E : Ents) (d : Nat) (s : Stm) (hk : s.k = 1) (q : Rat) (h0 : 0 ≤ q.num) (h1 : q.num.natAbs < 1000000000) (h2 : q.den < 1000000000) (hw : s.wd = some q) (hbl : s.bl = []) : PrV E d s [kPut, s.a, kIn, s.b, kWithin, (ratT2 q), kSemi] := by
  intro w0 w m bp v n ws cur sv H R HE RS VV hb
  simp only [List.length_cons, List.length_nil] at hb ⊢
  obtain ⟨vk, va, vb, vw, vn, Bb, cb, rfl, e1⟩ := RS.out.shape9
  obtain rfl : vk = 1 := e1.trans hk
  have hRS := RS.out
  cases d with
  | zero => exact hRS.elim
  | succ d =>
  obtain ⟨_, _, ea, eb, ew, en, _⟩ := hRS
  simp only at ea eb ew en
  simp only [hbl, List.length_nil]
  try rw [← ea]
  try rw [← eb]
  try rw [← en]
  obtain ⟨B, c, rfl, _⟩ := R.out.shape
  have hw2 := ew.trans hw
  subst hw2
  clear hw
  obtain ⟨q1, q2, _⟩ : SFull (deO (some q)) := sFull q.den_pos
  have RTX := Lib.hid (fun w hT => ratText_bel q w hT h0 h1 h2)
  clear h0 h1 h2
  obtain ⟨sg, hsg⟩ : ∃ x, sgO (some q) = x := ⟨_, rfl⟩
  obtain ⟨N, hN⟩ : ∃ x, nuO (some q) = x := ⟨_, rfl⟩
  obtain ⟨D, hD⟩ : ∃ x, deO (some q) = x := ⟨_, rfl⟩
  rw [hD] at q1 q2
  rw [hsg, hN, hD] at RTX
  simp only [Sv.cells, hsg, hN, hD]
  clear hsg hN hD
  clear hk hbl e1 RS ea eb ew en
  go_enter Tryz.func28, Tryz.ntmps28
  go_wp2_with (first
      | go_skip
      | ((with_reducible refine isLoad ?_); refine ldA H ?_ (hT := by first | exact rStm8 | exact rRat))
      | ((with_reducible refine isLoad ?_); refine ld1A H ?_ (hT := by first | exact kInt | exact kStl | exact kBll | exact kStr | exact kStrs))
      | ((with_reducible refine isBox ?_); refine bxA H ?_; clear H; intro _ _ H)
      | ((with_reducible refine isSlc ?_); first | (refine bsA 9 [.string kPut, .string va, .string kIn, .string vb] 4 H ?_; clear H; intro gz _ H)))
  go_at_call 15
  have H' := Lib.hid (H.out.perm roll3)
  refine Calls.mono (put_any w0 _ _ bp gz _ _ 4 _ [kPut, va, kIn, vb] _ H' R (Lib.hid (.head _)) rfl (by decide) (by omega)) ?_
  clear H H' R
  rintro _ _ ⟨v2, cur2, rfl, hR, h2⟩
  obtain ⟨B2, c2, rfl, _⟩ := hR.shape
  have R := Lib.hid hR
  have H := Lib.hid (back3 h2)
  clear hR h2
  go_wp2_with (first
      | go_skip
      | ((with_reducible refine isLoad ?_); refine ldA H ?_ (hT := by first | exact rStm8 | exact rRat))
      | ((with_reducible refine isLoad ?_); refine ld1A H ?_ (hT := by first | exact kInt | exact kStl | exact kBll | exact kStr | exact kStrs))
      | ((with_reducible refine isSlc ?_); first | (refine bsA 9 [.string kWithin, .string (ratT2 q)] 2 H ?_; clear H; intro gz _ H))
      | (go_at_call 41; refine (RTX.out _ H.out.tb).mono ?_; rintro _ _ ⟨rfl, hB⟩; replace H := Lib.hid (H.out.go hB); clear hB))
  go_at_call 15
  have H' := Lib.hid (H.out.perm roll3)
  refine Calls.mono (put_any w0 _ _ bp gz _ _ 2 _ [kWithin, (ratT2 q)] _ H' R (Lib.hid (.head _)) rfl (by decide) (by omega)) ?_
  clear H H' R
  rintro _ _ ⟨v2, cur2, rfl, hR, h2⟩
  obtain ⟨B2, c2, rfl, _⟩ := hR.shape
  have R := Lib.hid hR
  have H := Lib.hid (back3 h2)
  clear hR h2
  go_wp2_with (first
      | go_skip
      | ((with_reducible refine isLoad ?_); refine ldA H ?_ (hT := by first | exact rStm8 | exact rRat))
      | ((with_reducible refine isLoad ?_); refine ld1A H ?_ (hT := by first | exact kInt | exact kStl | exact kBll | exact kStr | exact kStrs))
      | ((with_reducible refine isSlc ?_); first | (refine bsA 9 [.string ⟨#[59]⟩] 1 H ?_; clear H; intro gz _ H)))
  go_at_call 15
  have H' := Lib.hid (H.out.perm roll3)
  refine Calls.mono (put_any w0 _ _ bp gz _ _ 1 _ [⟨#[59]⟩] _ H' R (Lib.hid (.head _)) rfl (by decide) (by omega)) ?_
  clear H H' R
  rintro _ _ ⟨v2, cur2, rfl, hR, h2⟩
  obtain ⟨B2, c2, rfl, _⟩ := hR.shape
  have R := Lib.hid hR
  have H := Lib.hid (back3 h2)
  clear hR h2
  go_wp2_with (first
      | go_skip
      | ((with_reducible refine isLoad ?_); refine ldA H ?_ (hT := by first | exact rStm8 | exact rRat))
      | ((with_reducible refine isLoad ?_); refine ld1A H ?_ (hT := by first | exact kInt | exact kStl | exact kBll | exact kStr | exact kStrs)))
  go_loopw [90] (fun i_ wr => i_ = .int .i64 0 ∧ Hid (Hp w0 wr ((bp, 70, [(.slice B2 (n + 4 + 2 + 1) c2)]) :: (rowE (.slice B2 (n + 4 + 2 + 1) c2) 9 cur2 ++ m)))) (fun i_ _ => 0)
  case atStart => exact ⟨rfl, Lib.hid H.out.drop⟩
  case round =>
    clear H
    obtain ⟨rfl, H⟩ := hrel
    go_wp2_with (first
        | go_skip)
    go_end0
    refine ⟨_, _, rfl, ?_, H.out⟩
    have := R.out
    simp only [List.append_assoc] at this
    exact this
end Go.Proofs.YtaiokjhjakdhaaaGreatDoor

namespace Go.Proofs.YtaiokjhjakdhaaaGreatDoor
open Go.RowKit
set_option linter.unusedVariables false
set_option maxRecDepth 100000

set_option maxHeartbeats 4000000 in
theorem blockV_any (E : Ents) (d : Nat) (l : List Stm) (f : Stm → List ByteArray) (hS : ∀ (j : Nat) (s : Stm), l[j]? = some s → PrV E d s (f s)) (w0 w : World) (m : Ents) (bp : Nat) (v x : Value) (n : Nat) (ws : List ByteArray) (cur : List Value) (H : Hid (Hp w0 w ((bp, 70, [v]) :: (rowE v 9 cur ++ m)))) (R : Hid (RowV 1 v n (flat strV ws) cur)) (HE : Hid (∀ x ∈ E, x ∈ m)) (RS : Hid (RSs E d l x)) (VV : Hid (Vr w0)) (hb : n + (blW f l).length ≤ 100000) :
    Calls Tryz.prog 16 #[.pointer (some ⟨bp, 0, none⟩), x] w fun e w' => ∃ v' cur', e = .returned (.tuple #[]) ∧ RowV 1 v' (n + (blW f l).length) (flat strV (ws ++ blW f l)) cur' ∧ Hp w0 w' ((bp, 70, [v']) :: (rowE v' 9 cur' ++ m)) := by
  have HSS := Lib.hid hS
  clear hS
  obtain ⟨lvs, hR1, hR2⟩ := RS.out
  have RL := Lib.hid hR1
  have RA := Lib.hid hR2
  obtain ⟨nl, hnl⟩ : ∃ n, lvs.length = n := ⟨_, rfl⟩
  rw [hnl] at RL
  replace RL := Lib.hid RL
  have hle := RL.out.le
  have HLL : Hid (l.length = nl) := Lib.hid (hR2.1.trans hnl)
  obtain ⟨nf, hnf⟩ : ∃ nf, (l.flatMap f).length = nf := ⟨_, rfl⟩
  have e0 : (blW f l).length = nf + 2 := by unfold blW; rw [List.length_append, List.length_append, hnf]; simp; omega
  rw [e0] at hb ⊢
  have HNF := Lib.hid hnf
  clear hR1 hR2 hnl RS e0 hnf
  obtain ⟨B, c, rfl, _⟩ := RL.out.shape
  obtain ⟨B0, c0, rfl, _⟩ := R.out.shape
  go_enter Tryz.func16, Tryz.ntmps16
  go_wp2_with (first
      | go_skip
      | ((with_reducible refine isLoad ?_); refine ld1A H ?_ (hT := by first | exact kInt | exact kStl | exact kBll | exact kStr | exact kStrs))
      | ((with_reducible refine isSlc ?_); first | (refine bsA 9 [.string ⟨#[123]⟩] 1 H ?_; clear H; intro gz _ H)))
  go_at_call 15
  have H' := Lib.hid (H.out.perm mid_in)
  refine Calls.mono (put_any w0 _ _ bp gz _ _ 1 _ [⟨#[123]⟩] _ H' R (Lib.hid (.head _)) rfl (by decide) (by omega)) ?_
  clear H H' R
  rintro _ _ ⟨v2, cur2, rfl, hR, h2⟩
  obtain ⟨B2, c2, rfl, _⟩ := hR.shape
  have R := Lib.hid hR
  have H := Lib.hid (h2.sub mid_out)
  clear hR h2
  go_wp2_with (first
      | go_skip
      | ((with_reducible refine isLoad ?_); refine ld1A H ?_ (hT := by first | exact kInt | exact kStl | exact kBll | exact kStr | exact kStrs)))
  go_loopw [11] (fun i_ wr => ∃ (j k : Nat) (v2 : Value) (cur2 : List Value), i_ = .int .i64 j ∧ j ≤ nl ∧ Hid (((l.take j).flatMap f).length = k) ∧ Hid (RowV 1 v2 (n + 1 + k) (flat strV ((ws ++ [⟨#[123]⟩]) ++ (l.take j).flatMap f)) cur2) ∧ Hid (Hp w0 wr ((bp, 70, [v2]) :: (rowE v2 9 cur2 ++ m)))) (fun i_ _ => nl - (intOf i_).toNat)
  case atStart => exact ⟨0, 0, _, _, rfl, by omega, Lib.hid rfl, by simpa using R, H⟩
  case round =>
    clear H R
    obtain ⟨j, k, v2, cur2, rfl, hj, HK, R, H⟩ := hrel
    by_cases hlt : j < nl
    · obtain ⟨s, hs⟩ : ∃ s, l[j]? = some s := ⟨_, List.getElem?_eq_getElem (by rw [HLL.out]; exact hlt)⟩
      obtain ⟨sv, hsv, hRS⟩ := RA.out.at_ hs
      obtain ⟨g, c', e1, hr⟩ := RL.out.at_ Sv.len hsv (by decide)
      injection e1 with e1 _ e3
      subst e1
      have X := Lib.hid (hr _ (H.out.hld (fun x hx => .tail _ (List.mem_append_right _ (HE.out x hx)))))
      obtain ⟨vk, va, vb, vw, vn, Bb, cb, rfl, -⟩ := hRS.shape9
      obtain ⟨nb, hnb⟩ : ∃ nb, s.bl.length = nb := ⟨_, rfl⟩
      simp only [hnb] at X hRS
      have HRS := Lib.hid hRS
      have HT : Hid ((l.take (j + 1)).flatMap f = (l.take j).flatMap f ++ f s) := Lib.hid (flatMap_take hs)
      have hk2 : k + (f s).length ≤ nf := by
        have h1 := flatMap_take_le f l (j + 1)
        rw [HT.out, List.length_append, HK.out, HNF.out] at h1
        exact h1
      have HP := Lib.hid (HSS.out j s hs)
      clear hs hsv hr e3 hRS hnb
      go_wp2_with (first
          | go_skip
          | ((with_reducible refine isLoad ?_); refine ldX (cs := [.int .i64 vk, .string va, .string vb, .bool (sgO vw), .string (nuO vw), .string (deO vw), .int .i64 vn, .slice Bb nb cb]) X ?_ (hT := rStm8))
          | ((with_reducible refine isLoad ?_); refine ldA H ?_ (hT := rStm8))
          | ((with_reducible refine isStore ?_); refine stA H ?_ (hT := rStm8); clear H; intro _ H)
          | ((with_reducible refine isAlloc ?_); refine alA H ?_ (hz := zStm8); clear H; intro q _ H))
      go_at_call 28
      have H' := Lib.hid (H.out.perm mid_in)
      have hcall := HP.out w0 _ _ bp v2 _ _ cur2 _ H' R (Lib.hid (fun x hx => .tail _ (HE.out x hx))) HRS VV (by omega)
      clear H H' R HP HRS
      simp only [Sv.cells] at hcall
      refine Calls.mono hcall ?_
      clear hcall
      rintro _ _ ⟨v3, cur3, rfl, hR, h2⟩
      have R := Lib.hid hR
      have H := Lib.hid (h2.sub mid_out)
      clear hR h2
      go_wp2_with (first
          | go_skip)
      go_roundw
      case rel => first | exact ⟨j + 1, k + (f s).length, v3, cur3, rfl, by omega, Lib.hid (by rw [HT.out, List.length_append, HK.out]), by rw [HT.out, ← List.append_assoc, ← Nat.add_assoc]; exact R, H⟩ | exact ⟨_, _, _, _, _, _, _, ⟨j + 1, k + (f s).length, v3, cur3, rfl, by omega, Lib.hid (by rw [HT.out, List.length_append, HK.out]), by rw [HT.out, ← List.append_assoc, ← Nat.add_assoc]; exact R, H⟩, rfl, rfl⟩ | (trace_state; fail)
      case measure => simp [intOf]; omega
    · obtain rfl : j = nl := by omega
      rw [List.take_of_length_le (by rw [HLL.out]; exact Nat.le_refl _)] at HK R
      obtain rfl : k = nf := HK.out.symm.trans HNF.out
      obtain ⟨B3, c3, rfl, _⟩ := R.out.shape
      go_wp2_with (first
          | go_skip
          | ((with_reducible refine isSlc ?_); first | (refine bsA 9 [.string ⟨#[125]⟩] 1 H ?_; clear H; intro gz _ H)))
      go_at_call 15
      have H' := Lib.hid (H.out.perm mid_in)
      refine Calls.mono (put_any w0 _ _ bp gz _ _ 1 _ [⟨#[125]⟩] _ H' R (Lib.hid (.head _)) rfl (by decide) (by omega)) ?_
      clear H H' R
      rintro _ _ ⟨v2, cur2, rfl, hR, h2⟩
      obtain ⟨B2, c2, rfl, _⟩ := hR.shape
      have R := Lib.hid hR
      have H := Lib.hid (h2.sub mid_out)
      clear hR h2
      go_wp2_with (first
          | go_skip)
      go_end0
      refine ⟨_, _, rfl, ?_, H.out⟩
      have := R.out
      rw [show n + (k + 2) = n + 1 + k + 1 by omega]
      rw [show ws ++ [⟨#[123]⟩] ++ l.flatMap f ++ [⟨#[125]⟩] = ws ++ blW f l by unfold blW; simp] at this
      exact this
theorem listW_blW (f : Stm → List ByteArray) (l : List Stm) : listW f l = blW f l := rfl
end Go.Proofs.YtaiokjhjakdhaaaGreatDoor

namespace Go.Proofs.YtaiokjhjakdhaaaGreatDoor
open Go.RowKit
set_option linter.unusedVariables false
set_option maxRecDepth 100000

theorem kStlR : ∃ d, Tryz.prog.underlying 23 = some d ∧ d.isRow = false := ⟨_, Tryz.underlying23, rfl⟩
/-- The words of some blocks with one more. -/
theorem blsW_snoc (f : Stm → List ByteArray) (sep : ByteArray) {bs : List (List Stm)} {j : Nat} {b : List Stm} (h : bs[j]? = some b) : blsW f sep (bs.take (j + 1)) = blsW f sep (bs.take j) ++ (if j = 0 then blW f b else sep :: blW f b) := by
  obtain ⟨hj, rfl⟩ := List.getElem?_eq_some_iff.1 h
  rw [List.take_succ_eq_append_getElem hj]
  cases bs with
  | nil => simp at hj
  | cons c bs =>
    cases j with
    | zero => simp [blsW, moreW, listW_blW]
    | succ j =>
      simp [blsW, moreW, listW_blW]
      rw [List.take_succ_eq_append_getElem (by simpa using hj), List.flatMap_append, List.flatMap_singleton]
theorem blsW_le (f : Stm → List ByteArray) (sep : ByteArray) (bs : List (List Stm)) (j : Nat) : (blsW f sep (bs.take j)).length ≤ (blsW f sep bs).length := by
  cases bs with
  | nil => simp
  | cons c bs =>
    cases j with
    | zero => simp [blsW]
    | succ j =>
      simp only [List.take_succ_cons, blsW, moreW, List.length_append]
      have h1 := List.take_append_drop j bs
      have h2 : (bs.flatMap fun b => sep :: listW f b).length = ((bs.take j).flatMap fun b => sep :: listW f b).length + ((bs.drop j).flatMap fun b => sep :: listW f b).length := by
        conv => lhs; rw [← h1, List.flatMap_append, List.length_append]
      omega
set_option maxHeartbeats 8000000 in
theorem pr_do (E : Ents) (d : Nat) (s : Stm) (f : Stm → List ByteArray) (hk : s.k = 6) (h2 : s.bl.length ≤ 1) (hS : ∀ b ∈ s.bl, ∀ x ∈ b, PrV E d x (f x)) : PrV E (d + 1) s ([kDo] ++ blsW f kElse s.bl) := by
  have HS := Lib.hid hS
  clear hS
  intro w0 w m bp v n ws cur sv H R HE RS VV hb
  simp only [List.length_append, List.length_cons, List.length_nil] at hb ⊢
  obtain ⟨vk, va, vb, vw, vn, Bb, cb, rfl, e1⟩ := RS.out.shape9
  obtain rfl : vk = 6 := e1.trans hk
  obtain ⟨-, -, ea, eb, ew, en, bvs, hB, hA⟩ := RS.out
  simp only at ea eb ew en hB
  obtain ⟨B, c, rfl, _⟩ := R.out.shape
  obtain ⟨nb, hnb⟩ : ∃ n, s.bl.length = n := ⟨_, rfl⟩
  obtain ⟨nf, hnf⟩ : ∃ n, (blsW f kElse s.bl).length = n := ⟨_, rfl⟩
  rw [hnf] at hb ⊢
  have hbl2 : bvs.length = nb := hA.1.symm.trans hnb
  rw [hnb, hbl2] at hB
  simp only [hnb]
  have RB := Lib.hid hB
  have RA := Lib.hid hA
  have HNB := Lib.hid hnb
  have HNF := Lib.hid hnf
  have HBL := Lib.hid hbl2
  have hle : nb ≤ 9223372036854775807 := hB.le
  clear hk e1 RS ea eb ew en hB hA hnb hnf hbl2
  have hnb1 : nb ≤ 1 := by rw [← HNB.out]; exact h2
  clear h2
  go_enter Tryz.func28, Tryz.ntmps28
  go_wp2_with (first
      | go_skip
      | ((with_reducible refine isLoad ?_); refine ldA H ?_ (hT := by first | exact rStm8 | exact rRat))
      | ((with_reducible refine isLoad ?_); refine ld1A H ?_ (hT := by first | exact kInt | exact kStl | exact kBll | exact kStr | exact kStrs))
      | ((with_reducible refine isBox ?_); refine bxA H ?_; clear H; intro gs _ H)
      | ((with_reducible refine isSlc ?_); first | (refine bsA 9 [.string kDo] 1 H ?_; clear H; intro gz _ H)))
  go_at_call 15
  have H' := Lib.hid (H.out.perm roll3)
  refine Calls.mono (put_any w0 _ _ bp gz _ _ 1 _ [kDo] _ H' R (Lib.hid (.head _)) rfl (by decide) (by omega)) ?_
  clear H H' R
  rintro _ _ ⟨v2, cur2, rfl, hR, h2⟩
  obtain ⟨B2, c2, rfl, _⟩ := hR.shape
  have R := Lib.hid hR
  have H := Lib.hid (back3 h2)
  clear hR h2
  go_wp2_with (first
      | go_skip
      | ((with_reducible refine isLoad ?_); refine ldA H ?_ (hT := by first | exact rStm8 | exact rRat))
      | ((with_reducible refine isLoad ?_); refine ld1A H ?_ (hT := by first | exact kInt | exact kStl | exact kBll | exact kStr | exact kStrs)))
  go_loopw [90] (fun i_ wr => ∃ (j k1 : Nat) (v2 : Value) (cur2 : List Value), i_ = .int .i64 j ∧ j ≤ nb ∧ Hid ((blsW f kElse (s.bl.take j)).length = k1) ∧ Hid (RowV 1 v2 (n + 1 + k1) (flat strV ((ws ++ [kDo]) ++ blsW f kElse (s.bl.take j))) cur2) ∧ Hid (Hp w0 wr ((gs, 86, [.int .i64 6, .string va, .string vb, .bool (sgO vw), .string (nuO vw), .string (deO vw), .int .i64 vn, .slice Bb nb cb]) :: (bp, 70, [v2]) :: (rowE v2 9 cur2 ++ m)))) (fun i_ _ => nb - (intOf i_).toNat)
  case atStart => exact ⟨0, 0, _, _, rfl, by omega, Lib.hid rfl, by simpa [blsW] using R, H⟩
  case round =>
    clear H R
    obtain ⟨j, k1, v2, cur2, rfl, hj, HK, R, H⟩ := hrel
    obtain ⟨B2, c2, rfl, _⟩ := R.out.shape
    by_cases hlt : j < nb
    · obtain ⟨b, hb1⟩ : ∃ b, s.bl[j]? = some b := ⟨_, List.getElem?_eq_getElem (by rw [HNB.out]; exact hlt)⟩
      obtain ⟨bv, hbv⟩ : ∃ x, bvs[j]? = some x := ⟨_, List.getElem?_eq_getElem (by rw [HBL.out]; exact hlt)⟩
      have hRS : RSs E d b bv := RA.out.2 j b bv hb1 hbv
      obtain ⟨g, c', e1, hr⟩ := RB.out.at_ one_len hbv (by decide)
      injection e1 with e1 _ e3
      subst e1
      have X := Lib.hid (rangeAt_one (hr _ (H.out.hld (fun x hx => .tail _ (.tail _ (List.mem_append_right _ (HE.out x hx)))))))
      simp only [Nat.mul_one] at X
      obtain ⟨Bx, nx, cx, rfl⟩ := hRS.shapeR
      have HRS := Lib.hid hRS
      have HT := Lib.hid (blsW_snoc f kElse hb1)
      have hk2 : k1 + (if j = 0 then blW f b else kElse :: blW f b).length ≤ nf := by
        have h1 := blsW_le f kElse s.bl (j + 1)
        rw [HT.out, List.length_append, HK.out, HNF.out] at h1
        exact h1
      have HP := Lib.hid (fun (i : Nat) (x : Stm) (hx : b[i]? = some x) => HS.out b (List.mem_of_getElem? hb1) x (List.mem_of_getElem? hx))
      clear hb1 hbv hRS hr e3
      by_cases h0j : j = 0
      · subst h0j
        simp only [if_pos] at hk2
        go_wp2_with (first
            | go_skip
            | ((with_reducible refine isLoad ?_); first | refine ld1X X ?_ (hT := kStlR) | refine ld1A H ?_ (hT := by first | exact kInt | exact kStl | exact kBll | exact kStr | exact kStrs) | refine ld1A (Lib.hid M2.out.h) ?_ (hT := by first | exact kInt | exact kStr)))
        go_at_call 16
        have H' := Lib.hid (H.out.perm mid_in)
        have hcall := blockV_any E d b f HP.out w0 _ _ bp _ _ _ _ _ H' R (Lib.hid (fun x hx => .tail _ (HE.out x hx))) HRS VV (by omega)
        clear H H' R HP HRS X
        refine Calls.mono hcall ?_
        clear hcall
        rintro _ _ ⟨v3, cur3, rfl, hR, h2⟩
        have R := Lib.hid hR
        have H := Lib.hid (h2.perm mid_in.symm)
        clear hR h2
        go_wp2_with (first
            | go_skip)
        go_roundw
        case rel =>
          refine ⟨0 + 1, k1 + (blW f b).length, v3, cur3, ?_, ?_, ?_, ?_, ?_⟩
          · first | rfl | go_num
          · omega
          · exact Lib.hid (by rw [HT.out, List.length_append, HK.out, if_pos trivial])
          · rw [HT.out, if_pos trivial]
            have h := R.out
            rw [show n + 1 + k1 + (blW f b).length = n + 1 + (k1 + (blW f b).length) by omega] at h
            exact Lib.hid (by simpa [List.append_assoc] using h)
          · exact H
        case measure => simp [intOf]; omega
      · omega
    · obtain rfl : j = nb := by omega
      rw [List.take_of_length_le (by rw [HNB.out]; exact Nat.le_refl _)] at HK R
      obtain rfl : k1 = nf := HK.out.symm.trans HNF.out
      go_wp2_with (first
          | go_skip)
      go_end0
      refine ⟨_, _, rfl, ?_, H.out.drop⟩
      have h := R.out
      rw [List.append_assoc] at h
      rw [show n + (1 + k1) = n + 1 + k1 by omega]
      exact h
set_option maxHeartbeats 8000000 in
theorem pr_rep (E : Ents) (d : Nat) (s : Stm) (f : Stm → List ByteArray) (hk : s.k = 7) (h0 : -9223372036854775808 ≤ s.n) (h1 : s.n ≤ 9223372036854775807) (h2 : s.bl.length ≤ 1) (hS : ∀ b ∈ s.bl, ∀ x ∈ b, PrV E d x (f x)) : PrV E (d + 1) s ([kRep, (numT s.n)] ++ blsW f kElse s.bl) := by
  have HS := Lib.hid hS
  clear hS
  intro w0 w m bp v n ws cur sv H R HE RS VV hb
  simp only [List.length_append, List.length_cons, List.length_nil] at hb ⊢
  obtain ⟨vk, va, vb, vw, vn, Bb, cb, rfl, e1⟩ := RS.out.shape9
  obtain rfl : vk = 7 := e1.trans hk
  obtain ⟨-, -, ea, eb, ew, en, bvs, hB, hA⟩ := RS.out
  simp only at ea eb ew en hB
  rw [← en] at h0 h1
  rw [← en]
  obtain ⟨B, c, rfl, _⟩ := R.out.shape
  obtain ⟨nb, hnb⟩ : ∃ n, s.bl.length = n := ⟨_, rfl⟩
  obtain ⟨nf, hnf⟩ : ∃ n, (blsW f kElse s.bl).length = n := ⟨_, rfl⟩
  rw [hnf] at hb ⊢
  have hbl2 : bvs.length = nb := hA.1.symm.trans hnb
  rw [hnb, hbl2] at hB
  simp only [hnb]
  have RB := Lib.hid hB
  have RA := Lib.hid hA
  have HNB := Lib.hid hnb
  have HNF := Lib.hid hnf
  have HBL := Lib.hid hbl2
  have hle : nb ≤ 9223372036854775807 := hB.le
  clear hk e1 RS ea eb ew en hB hA hnb hnf hbl2
  have hnb1 : nb ≤ 1 := by rw [← HNB.out]; exact h2
  clear h2
  go_enter Tryz.func28, Tryz.ntmps28
  go_wp2_with (first
      | go_skip
      | ((with_reducible refine isLoad ?_); refine ldA H ?_ (hT := by first | exact rStm8 | exact rRat))
      | ((with_reducible refine isLoad ?_); refine ld1A H ?_ (hT := by first | exact kInt | exact kStl | exact kBll | exact kStr | exact kStrs))
      | ((with_reducible refine isBox ?_); refine bxA H ?_; clear H; intro gs _ H)
      | ((with_reducible refine isSlc ?_); first | (refine bsA 9 [.string kRep, .string (numT vn)] 2 H ?_; clear H; intro gz _ H))
      | (go_at_call 42; refine (number_any _ _ h0 h1 (VV.out.below H.out.bel)).mono ?_; rintro _ _ ⟨rfl, hB⟩; replace H := Lib.hid (H.out.go hB); clear hB))
  go_at_call 15
  have H' := Lib.hid (H.out.perm roll3)
  refine Calls.mono (put_any w0 _ _ bp gz _ _ 2 _ [kRep, (numT vn)] _ H' R (Lib.hid (.head _)) rfl (by decide) (by omega)) ?_
  clear H H' R
  rintro _ _ ⟨v2, cur2, rfl, hR, h2⟩
  obtain ⟨B2, c2, rfl, _⟩ := hR.shape
  have R := Lib.hid hR
  have H := Lib.hid (back3 h2)
  clear hR h2
  go_wp2_with (first
      | go_skip
      | ((with_reducible refine isLoad ?_); refine ldA H ?_ (hT := by first | exact rStm8 | exact rRat))
      | ((with_reducible refine isLoad ?_); refine ld1A H ?_ (hT := by first | exact kInt | exact kStl | exact kBll | exact kStr | exact kStrs)))
  go_loopw [90] (fun i_ wr => ∃ (j k1 : Nat) (v2 : Value) (cur2 : List Value), i_ = .int .i64 j ∧ j ≤ nb ∧ Hid ((blsW f kElse (s.bl.take j)).length = k1) ∧ Hid (RowV 1 v2 (n + 2 + k1) (flat strV ((ws ++ [kRep, (numT vn)]) ++ blsW f kElse (s.bl.take j))) cur2) ∧ Hid (Hp w0 wr ((gs, 86, [.int .i64 7, .string va, .string vb, .bool (sgO vw), .string (nuO vw), .string (deO vw), .int .i64 vn, .slice Bb nb cb]) :: (bp, 70, [v2]) :: (rowE v2 9 cur2 ++ m)))) (fun i_ _ => nb - (intOf i_).toNat)
  case atStart => exact ⟨0, 0, _, _, rfl, by omega, Lib.hid rfl, by simpa [blsW] using R, H⟩
  case round =>
    clear H R
    obtain ⟨j, k1, v2, cur2, rfl, hj, HK, R, H⟩ := hrel
    obtain ⟨B2, c2, rfl, _⟩ := R.out.shape
    by_cases hlt : j < nb
    · obtain ⟨b, hb1⟩ : ∃ b, s.bl[j]? = some b := ⟨_, List.getElem?_eq_getElem (by rw [HNB.out]; exact hlt)⟩
      obtain ⟨bv, hbv⟩ : ∃ x, bvs[j]? = some x := ⟨_, List.getElem?_eq_getElem (by rw [HBL.out]; exact hlt)⟩
      have hRS : RSs E d b bv := RA.out.2 j b bv hb1 hbv
      obtain ⟨g, c', e1, hr⟩ := RB.out.at_ one_len hbv (by decide)
      injection e1 with e1 _ e3
      subst e1
      have X := Lib.hid (rangeAt_one (hr _ (H.out.hld (fun x hx => .tail _ (.tail _ (List.mem_append_right _ (HE.out x hx)))))))
      simp only [Nat.mul_one] at X
      obtain ⟨Bx, nx, cx, rfl⟩ := hRS.shapeR
      have HRS := Lib.hid hRS
      have HT := Lib.hid (blsW_snoc f kElse hb1)
      have hk2 : k1 + (if j = 0 then blW f b else kElse :: blW f b).length ≤ nf := by
        have h1 := blsW_le f kElse s.bl (j + 1)
        rw [HT.out, List.length_append, HK.out, HNF.out] at h1
        exact h1
      have HP := Lib.hid (fun (i : Nat) (x : Stm) (hx : b[i]? = some x) => HS.out b (List.mem_of_getElem? hb1) x (List.mem_of_getElem? hx))
      clear hb1 hbv hRS hr e3
      by_cases h0j : j = 0
      · subst h0j
        simp only [if_pos] at hk2
        go_wp2_with (first
            | go_skip
            | ((with_reducible refine isLoad ?_); first | refine ld1X X ?_ (hT := kStlR) | refine ld1A H ?_ (hT := by first | exact kInt | exact kStl | exact kBll | exact kStr | exact kStrs) | refine ld1A (Lib.hid M2.out.h) ?_ (hT := by first | exact kInt | exact kStr)))
        go_at_call 16
        have H' := Lib.hid (H.out.perm mid_in)
        have hcall := blockV_any E d b f HP.out w0 _ _ bp _ _ _ _ _ H' R (Lib.hid (fun x hx => .tail _ (HE.out x hx))) HRS VV (by omega)
        clear H H' R HP HRS X
        refine Calls.mono hcall ?_
        clear hcall
        rintro _ _ ⟨v3, cur3, rfl, hR, h2⟩
        have R := Lib.hid hR
        have H := Lib.hid (h2.perm mid_in.symm)
        clear hR h2
        go_wp2_with (first
            | go_skip)
        go_roundw
        case rel =>
          refine ⟨0 + 1, k1 + (blW f b).length, v3, cur3, ?_, ?_, ?_, ?_, ?_⟩
          · first | rfl | go_num
          · omega
          · exact Lib.hid (by rw [HT.out, List.length_append, HK.out, if_pos trivial])
          · rw [HT.out, if_pos trivial]
            have h := R.out
            rw [show n + 2 + k1 + (blW f b).length = n + 2 + (k1 + (blW f b).length) by omega] at h
            exact Lib.hid (by simpa [List.append_assoc] using h)
          · exact H
        case measure => simp [intOf]; omega
      · omega
    · obtain rfl : j = nb := by omega
      rw [List.take_of_length_le (by rw [HNB.out]; exact Nat.le_refl _)] at HK R
      obtain rfl : k1 = nf := HK.out.symm.trans HNF.out
      go_wp2_with (first
          | go_skip)
      go_end0
      refine ⟨_, _, rfl, ?_, H.out.drop⟩
      have h := R.out
      rw [List.append_assoc] at h
      rw [show n + (2 + k1) = n + 2 + k1 by omega]
      exact h
set_option maxHeartbeats 8000000 in
theorem pr_any (E : Ents) (d : Nat) (s : Stm) (f : Stm → List ByteArray) (hk : s.k = 8) (hS : ∀ b ∈ s.bl, ∀ x ∈ b, PrV E d x (f x)) : PrV E (d + 1) s ([kAny] ++ blsW f kOr s.bl) := by
  have HS := Lib.hid hS
  clear hS
  intro w0 w m bp v n ws cur sv H R HE RS VV hb
  simp only [List.length_append, List.length_cons, List.length_nil] at hb ⊢
  obtain ⟨vk, va, vb, vw, vn, Bb, cb, rfl, e1⟩ := RS.out.shape9
  obtain rfl : vk = 8 := e1.trans hk
  obtain ⟨-, -, ea, eb, ew, en, bvs, hB, hA⟩ := RS.out
  simp only at ea eb ew en hB
  obtain ⟨B, c, rfl, _⟩ := R.out.shape
  obtain ⟨nb, hnb⟩ : ∃ n, s.bl.length = n := ⟨_, rfl⟩
  obtain ⟨nf, hnf⟩ : ∃ n, (blsW f kOr s.bl).length = n := ⟨_, rfl⟩
  rw [hnf] at hb ⊢
  have hbl2 : bvs.length = nb := hA.1.symm.trans hnb
  rw [hnb, hbl2] at hB
  simp only [hnb]
  have RB := Lib.hid hB
  have RA := Lib.hid hA
  have HNB := Lib.hid hnb
  have HNF := Lib.hid hnf
  have HBL := Lib.hid hbl2
  have hle : nb ≤ 9223372036854775807 := hB.le
  clear hk e1 RS ea eb ew en hB hA hnb hnf hbl2
  go_enter Tryz.func28, Tryz.ntmps28
  go_wp2_with (first
      | go_skip
      | ((with_reducible refine isLoad ?_); refine ldA H ?_ (hT := by first | exact rStm8 | exact rRat))
      | ((with_reducible refine isLoad ?_); refine ld1A H ?_ (hT := by first | exact kInt | exact kStl | exact kBll | exact kStr | exact kStrs))
      | ((with_reducible refine isBox ?_); refine bxA H ?_; clear H; intro gs _ H)
      | ((with_reducible refine isSlc ?_); first | (refine bsA 9 [.string kAny] 1 H ?_; clear H; intro gz _ H)))
  go_at_call 15
  have H' := Lib.hid (H.out.perm roll3)
  refine Calls.mono (put_any w0 _ _ bp gz _ _ 1 _ [kAny] _ H' R (Lib.hid (.head _)) rfl (by decide) (by omega)) ?_
  clear H H' R
  rintro _ _ ⟨v2, cur2, rfl, hR, h2⟩
  obtain ⟨B2, c2, rfl, _⟩ := hR.shape
  have R := Lib.hid hR
  have H := Lib.hid (back3 h2)
  clear hR h2
  go_wp2_with (first
      | go_skip
      | ((with_reducible refine isLoad ?_); refine ldA H ?_ (hT := by first | exact rStm8 | exact rRat))
      | ((with_reducible refine isLoad ?_); refine ld1A H ?_ (hT := by first | exact kInt | exact kStl | exact kBll | exact kStr | exact kStrs)))
  go_loopw [90] (fun i_ wr => ∃ (j k1 : Nat) (v2 : Value) (cur2 : List Value), i_ = .int .i64 j ∧ j ≤ nb ∧ Hid ((blsW f kOr (s.bl.take j)).length = k1) ∧ Hid (RowV 1 v2 (n + 1 + k1) (flat strV ((ws ++ [kAny]) ++ blsW f kOr (s.bl.take j))) cur2) ∧ Hid (Hp w0 wr ((gs, 86, [.int .i64 8, .string va, .string vb, .bool (sgO vw), .string (nuO vw), .string (deO vw), .int .i64 vn, .slice Bb nb cb]) :: (bp, 70, [v2]) :: (rowE v2 9 cur2 ++ m)))) (fun i_ _ => nb - (intOf i_).toNat)
  case atStart => exact ⟨0, 0, _, _, rfl, by omega, Lib.hid rfl, by simpa [blsW] using R, H⟩
  case round =>
    clear H R
    obtain ⟨j, k1, v2, cur2, rfl, hj, HK, R, H⟩ := hrel
    obtain ⟨B2, c2, rfl, _⟩ := R.out.shape
    by_cases hlt : j < nb
    · obtain ⟨b, hb1⟩ : ∃ b, s.bl[j]? = some b := ⟨_, List.getElem?_eq_getElem (by rw [HNB.out]; exact hlt)⟩
      obtain ⟨bv, hbv⟩ : ∃ x, bvs[j]? = some x := ⟨_, List.getElem?_eq_getElem (by rw [HBL.out]; exact hlt)⟩
      have hRS : RSs E d b bv := RA.out.2 j b bv hb1 hbv
      obtain ⟨g, c', e1, hr⟩ := RB.out.at_ one_len hbv (by decide)
      injection e1 with e1 _ e3
      subst e1
      have X := Lib.hid (rangeAt_one (hr _ (H.out.hld (fun x hx => .tail _ (.tail _ (List.mem_append_right _ (HE.out x hx)))))))
      simp only [Nat.mul_one] at X
      obtain ⟨Bx, nx, cx, rfl⟩ := hRS.shapeR
      have HRS := Lib.hid hRS
      have HT := Lib.hid (blsW_snoc f kOr hb1)
      have hk2 : k1 + (if j = 0 then blW f b else kOr :: blW f b).length ≤ nf := by
        have h1 := blsW_le f kOr s.bl (j + 1)
        rw [HT.out, List.length_append, HK.out, HNF.out] at h1
        exact h1
      have HP := Lib.hid (fun (i : Nat) (x : Stm) (hx : b[i]? = some x) => HS.out b (List.mem_of_getElem? hb1) x (List.mem_of_getElem? hx))
      clear hb1 hbv hRS hr e3
      by_cases h0j : j = 0
      · subst h0j
        simp only [if_pos] at hk2
        go_wp2_with (first
            | go_skip
            | ((with_reducible refine isLoad ?_); first | refine ld1X X ?_ (hT := kStlR) | refine ld1A H ?_ (hT := by first | exact kInt | exact kStl | exact kBll | exact kStr | exact kStrs) | refine ld1A (Lib.hid M2.out.h) ?_ (hT := by first | exact kInt | exact kStr)))
        go_at_call 16
        have H' := Lib.hid (H.out.perm mid_in)
        have hcall := blockV_any E d b f HP.out w0 _ _ bp _ _ _ _ _ H' R (Lib.hid (fun x hx => .tail _ (HE.out x hx))) HRS VV (by omega)
        clear H H' R HP HRS X
        refine Calls.mono hcall ?_
        clear hcall
        rintro _ _ ⟨v3, cur3, rfl, hR, h2⟩
        have R := Lib.hid hR
        have H := Lib.hid (h2.perm mid_in.symm)
        clear hR h2
        go_wp2_with (first
            | go_skip)
        go_roundw
        case rel =>
          refine ⟨0 + 1, k1 + (blW f b).length, v3, cur3, ?_, ?_, ?_, ?_, ?_⟩
          · first | rfl | go_num
          · omega
          · exact Lib.hid (by rw [HT.out, List.length_append, HK.out, if_pos trivial])
          · rw [HT.out, if_pos trivial]
            have h := R.out
            rw [show n + 1 + k1 + (blW f b).length = n + 1 + (k1 + (blW f b).length) by omega] at h
            exact Lib.hid (by simpa [List.append_assoc] using h)
          · exact H
        case measure => simp [intOf]; omega
      · rw [if_neg h0j] at hk2
        have hjp : (0 : Int) < (j : Int) := by omega
        go_wp2_with (first
            | go_skip
            | ((with_reducible refine isLoad ?_); first | refine ld1X X ?_ (hT := kStlR) | refine ld1A H ?_ (hT := by first | exact kInt | exact kStl | exact kBll | exact kStr | exact kStrs) | refine ld1A (Lib.hid M2.out.h) ?_ (hT := by first | exact kInt | exact kStr))
            | ((with_reducible refine isMk ?_); refine mkM H ?_; clear H; intro bm _ M0)
            | ((with_reducible refine isIns ?_); first | (refine upI M0 ?_; clear M0; intro _ M1) | (refine upI M1 ?_; clear M1; intro _ M2))
            | ((with_reducible refine isLk ?_); refine lkM M2 ?_)
            | ((with_reducible refine isSlc ?_); refine bsA 9 [.string kOr] 1 (Lib.hid M2.out.h) ?_; clear M2; intro gz _ H))
        go_at_call 15
        have H' := Lib.hid (H.out.perm roll3)
        refine Calls.mono (put_any w0 _ _ bp gz _ _ 1 _ [kOr] _ H' R (Lib.hid (.head _)) rfl (by decide) (by simp only [List.length_cons] at hk2; omega)) ?_
        clear H H' R
        rintro _ _ ⟨v4, cur4, rfl, hR, h2⟩
        obtain ⟨B4, c4, rfl, _⟩ := hR.shape
        have R := Lib.hid hR
        have H := Lib.hid (back3 h2)
        clear hR h2
        go_wp2_with (first
            | go_skip
            | ((with_reducible refine isLoad ?_); first | refine ld1X X ?_ (hT := kStlR) | refine ld1A H ?_ (hT := by first | exact kInt | exact kStl | exact kBll | exact kStr | exact kStrs) | refine ld1A (Lib.hid M2.out.h) ?_ (hT := by first | exact kInt | exact kStr)))
        go_at_call 16
        have H' := Lib.hid (H.out.perm mid_in)
        have hcall := blockV_any E d b f HP.out w0 _ _ bp _ _ _ _ _ H' R (Lib.hid (fun x hx => .tail _ (HE.out x hx))) HRS VV (by simp only [List.length_cons] at hk2; omega)
        clear H H' R HP HRS X
        refine Calls.mono hcall ?_
        clear hcall
        rintro _ _ ⟨v3, cur3, rfl, hR, h2⟩
        have R := Lib.hid hR
        have H := Lib.hid (h2.perm mid_in.symm)
        clear hR h2
        go_wp2_with (first
            | go_skip)
        go_roundw
        case rel =>
          refine ⟨j + 1, k1 + 1 + (blW f b).length, v3, cur3, ?_, ?_, ?_, ?_, ?_⟩
          · first | rfl | go_num
          · omega
          · exact Lib.hid (by rw [HT.out, List.length_append, HK.out, if_neg h0j]; simp only [List.length_cons]; omega)
          · rw [HT.out, if_neg h0j]
            have h := R.out
            rw [show n + 1 + k1 + 1 + (blW f b).length = n + 1 + (k1 + 1 + (blW f b).length) by omega] at h
            exact Lib.hid (by simpa [List.append_assoc] using h)
          · exact H
        case measure => simp [intOf]; omega
    · obtain rfl : j = nb := by omega
      rw [List.take_of_length_le (by rw [HNB.out]; exact Nat.le_refl _)] at HK R
      obtain rfl : k1 = nf := HK.out.symm.trans HNF.out
      go_wp2_with (first
          | go_skip)
      go_end0
      refine ⟨_, _, rfl, ?_, H.out.drop⟩
      have h := R.out
      rw [List.append_assoc] at h
      rw [show n + (1 + k1) = n + 1 + k1 by omega]
      exact h
set_option maxHeartbeats 8000000 in
theorem pr_try (E : Ents) (d : Nat) (s : Stm) (f : Stm → List ByteArray) (hk : s.k = 9) (hS : ∀ b ∈ s.bl, ∀ x ∈ b, PrV E d x (f x)) : PrV E (d + 1) s ([kTry] ++ blsW f kElse s.bl) := by
  have HS := Lib.hid hS
  clear hS
  intro w0 w m bp v n ws cur sv H R HE RS VV hb
  simp only [List.length_append, List.length_cons, List.length_nil] at hb ⊢
  obtain ⟨vk, va, vb, vw, vn, Bb, cb, rfl, e1⟩ := RS.out.shape9
  obtain rfl : vk = 9 := e1.trans hk
  obtain ⟨-, -, ea, eb, ew, en, bvs, hB, hA⟩ := RS.out
  simp only at ea eb ew en hB
  obtain ⟨B, c, rfl, _⟩ := R.out.shape
  obtain ⟨nb, hnb⟩ : ∃ n, s.bl.length = n := ⟨_, rfl⟩
  obtain ⟨nf, hnf⟩ : ∃ n, (blsW f kElse s.bl).length = n := ⟨_, rfl⟩
  rw [hnf] at hb ⊢
  have hbl2 : bvs.length = nb := hA.1.symm.trans hnb
  rw [hnb, hbl2] at hB
  simp only [hnb]
  have RB := Lib.hid hB
  have RA := Lib.hid hA
  have HNB := Lib.hid hnb
  have HNF := Lib.hid hnf
  have HBL := Lib.hid hbl2
  have hle : nb ≤ 9223372036854775807 := hB.le
  clear hk e1 RS ea eb ew en hB hA hnb hnf hbl2
  go_enter Tryz.func28, Tryz.ntmps28
  go_wp2_with (first
      | go_skip
      | ((with_reducible refine isLoad ?_); refine ldA H ?_ (hT := by first | exact rStm8 | exact rRat))
      | ((with_reducible refine isLoad ?_); refine ld1A H ?_ (hT := by first | exact kInt | exact kStl | exact kBll | exact kStr | exact kStrs))
      | ((with_reducible refine isBox ?_); refine bxA H ?_; clear H; intro gs _ H)
      | ((with_reducible refine isSlc ?_); first | (refine bsA 9 [.string kTry] 1 H ?_; clear H; intro gz _ H)))
  go_at_call 15
  have H' := Lib.hid (H.out.perm roll3)
  refine Calls.mono (put_any w0 _ _ bp gz _ _ 1 _ [kTry] _ H' R (Lib.hid (.head _)) rfl (by decide) (by omega)) ?_
  clear H H' R
  rintro _ _ ⟨v2, cur2, rfl, hR, h2⟩
  obtain ⟨B2, c2, rfl, _⟩ := hR.shape
  have R := Lib.hid hR
  have H := Lib.hid (back3 h2)
  clear hR h2
  go_wp2_with (first
      | go_skip
      | ((with_reducible refine isLoad ?_); refine ldA H ?_ (hT := by first | exact rStm8 | exact rRat))
      | ((with_reducible refine isLoad ?_); refine ld1A H ?_ (hT := by first | exact kInt | exact kStl | exact kBll | exact kStr | exact kStrs)))
  go_loopw [90] (fun i_ wr => ∃ (j k1 : Nat) (v2 : Value) (cur2 : List Value), i_ = .int .i64 j ∧ j ≤ nb ∧ Hid ((blsW f kElse (s.bl.take j)).length = k1) ∧ Hid (RowV 1 v2 (n + 1 + k1) (flat strV ((ws ++ [kTry]) ++ blsW f kElse (s.bl.take j))) cur2) ∧ Hid (Hp w0 wr ((gs, 86, [.int .i64 9, .string va, .string vb, .bool (sgO vw), .string (nuO vw), .string (deO vw), .int .i64 vn, .slice Bb nb cb]) :: (bp, 70, [v2]) :: (rowE v2 9 cur2 ++ m)))) (fun i_ _ => nb - (intOf i_).toNat)
  case atStart => exact ⟨0, 0, _, _, rfl, by omega, Lib.hid rfl, by simpa [blsW] using R, H⟩
  case round =>
    clear H R
    obtain ⟨j, k1, v2, cur2, rfl, hj, HK, R, H⟩ := hrel
    obtain ⟨B2, c2, rfl, _⟩ := R.out.shape
    by_cases hlt : j < nb
    · obtain ⟨b, hb1⟩ : ∃ b, s.bl[j]? = some b := ⟨_, List.getElem?_eq_getElem (by rw [HNB.out]; exact hlt)⟩
      obtain ⟨bv, hbv⟩ : ∃ x, bvs[j]? = some x := ⟨_, List.getElem?_eq_getElem (by rw [HBL.out]; exact hlt)⟩
      have hRS : RSs E d b bv := RA.out.2 j b bv hb1 hbv
      obtain ⟨g, c', e1, hr⟩ := RB.out.at_ one_len hbv (by decide)
      injection e1 with e1 _ e3
      subst e1
      have X := Lib.hid (rangeAt_one (hr _ (H.out.hld (fun x hx => .tail _ (.tail _ (List.mem_append_right _ (HE.out x hx)))))))
      simp only [Nat.mul_one] at X
      obtain ⟨Bx, nx, cx, rfl⟩ := hRS.shapeR
      have HRS := Lib.hid hRS
      have HT := Lib.hid (blsW_snoc f kElse hb1)
      have hk2 : k1 + (if j = 0 then blW f b else kElse :: blW f b).length ≤ nf := by
        have h1 := blsW_le f kElse s.bl (j + 1)
        rw [HT.out, List.length_append, HK.out, HNF.out] at h1
        exact h1
      have HP := Lib.hid (fun (i : Nat) (x : Stm) (hx : b[i]? = some x) => HS.out b (List.mem_of_getElem? hb1) x (List.mem_of_getElem? hx))
      clear hb1 hbv hRS hr e3
      by_cases h0j : j = 0
      · subst h0j
        simp only [if_pos] at hk2
        go_wp2_with (first
            | go_skip
            | ((with_reducible refine isLoad ?_); first | refine ld1X X ?_ (hT := kStlR) | refine ld1A H ?_ (hT := by first | exact kInt | exact kStl | exact kBll | exact kStr | exact kStrs) | refine ld1A (Lib.hid M2.out.h) ?_ (hT := by first | exact kInt | exact kStr)))
        go_at_call 16
        have H' := Lib.hid (H.out.perm mid_in)
        have hcall := blockV_any E d b f HP.out w0 _ _ bp _ _ _ _ _ H' R (Lib.hid (fun x hx => .tail _ (HE.out x hx))) HRS VV (by omega)
        clear H H' R HP HRS X
        refine Calls.mono hcall ?_
        clear hcall
        rintro _ _ ⟨v3, cur3, rfl, hR, h2⟩
        have R := Lib.hid hR
        have H := Lib.hid (h2.perm mid_in.symm)
        clear hR h2
        go_wp2_with (first
            | go_skip)
        go_roundw
        case rel =>
          refine ⟨0 + 1, k1 + (blW f b).length, v3, cur3, ?_, ?_, ?_, ?_, ?_⟩
          · first | rfl | go_num
          · omega
          · exact Lib.hid (by rw [HT.out, List.length_append, HK.out, if_pos trivial])
          · rw [HT.out, if_pos trivial]
            have h := R.out
            rw [show n + 1 + k1 + (blW f b).length = n + 1 + (k1 + (blW f b).length) by omega] at h
            exact Lib.hid (by simpa [List.append_assoc] using h)
          · exact H
        case measure => simp [intOf]; omega
      · rw [if_neg h0j] at hk2
        have hjp : (0 : Int) < (j : Int) := by omega
        go_wp2_with (first
            | go_skip
            | ((with_reducible refine isLoad ?_); first | refine ld1X X ?_ (hT := kStlR) | refine ld1A H ?_ (hT := by first | exact kInt | exact kStl | exact kBll | exact kStr | exact kStrs) | refine ld1A (Lib.hid M2.out.h) ?_ (hT := by first | exact kInt | exact kStr))
            | ((with_reducible refine isMk ?_); refine mkM H ?_; clear H; intro bm _ M0)
            | ((with_reducible refine isIns ?_); first | (refine upI M0 ?_; clear M0; intro _ M1) | (refine upI M1 ?_; clear M1; intro _ M2))
            | ((with_reducible refine isLk ?_); refine lkM M2 ?_)
            | ((with_reducible refine isSlc ?_); refine bsA 9 [.string kElse] 1 (Lib.hid M2.out.h) ?_; clear M2; intro gz _ H))
        go_at_call 15
        have H' := Lib.hid (H.out.perm roll3)
        refine Calls.mono (put_any w0 _ _ bp gz _ _ 1 _ [kElse] _ H' R (Lib.hid (.head _)) rfl (by decide) (by simp only [List.length_cons] at hk2; omega)) ?_
        clear H H' R
        rintro _ _ ⟨v4, cur4, rfl, hR, h2⟩
        obtain ⟨B4, c4, rfl, _⟩ := hR.shape
        have R := Lib.hid hR
        have H := Lib.hid (back3 h2)
        clear hR h2
        go_wp2_with (first
            | go_skip
            | ((with_reducible refine isLoad ?_); first | refine ld1X X ?_ (hT := kStlR) | refine ld1A H ?_ (hT := by first | exact kInt | exact kStl | exact kBll | exact kStr | exact kStrs) | refine ld1A (Lib.hid M2.out.h) ?_ (hT := by first | exact kInt | exact kStr)))
        go_at_call 16
        have H' := Lib.hid (H.out.perm mid_in)
        have hcall := blockV_any E d b f HP.out w0 _ _ bp _ _ _ _ _ H' R (Lib.hid (fun x hx => .tail _ (HE.out x hx))) HRS VV (by simp only [List.length_cons] at hk2; omega)
        clear H H' R HP HRS X
        refine Calls.mono hcall ?_
        clear hcall
        rintro _ _ ⟨v3, cur3, rfl, hR, h2⟩
        have R := Lib.hid hR
        have H := Lib.hid (h2.perm mid_in.symm)
        clear hR h2
        go_wp2_with (first
            | go_skip)
        go_roundw
        case rel =>
          refine ⟨j + 1, k1 + 1 + (blW f b).length, v3, cur3, ?_, ?_, ?_, ?_, ?_⟩
          · first | rfl | go_num
          · omega
          · exact Lib.hid (by rw [HT.out, List.length_append, HK.out, if_neg h0j]; simp only [List.length_cons]; omega)
          · rw [HT.out, if_neg h0j]
            have h := R.out
            rw [show n + 1 + k1 + 1 + (blW f b).length = n + 1 + (k1 + 1 + (blW f b).length) by omega] at h
            exact Lib.hid (by simpa [List.append_assoc] using h)
          · exact H
        case measure => simp [intOf]; omega
    · obtain rfl : j = nb := by omega
      rw [List.take_of_length_le (by rw [HNB.out]; exact Nat.le_refl _)] at HK R
      obtain rfl : k1 = nf := HK.out.symm.trans HNF.out
      go_wp2_with (first
          | go_skip)
      go_end0
      refine ⟨_, _, rfl, ?_, H.out.drop⟩
      have h := R.out
      rw [List.append_assoc] at h
      rw [show n + (1 + k1) = n + 1 + k1 by omega]
      exact h
end Go.Proofs.YtaiokjhjakdhaaaGreatDoor

namespace Go.Proofs.YtaiokjhjakdhaaaGreatDoor
open Go.RowKit
set_option linter.unusedVariables false
set_option maxRecDepth 100000

/-- A statement that can be printed. -/
def PrOk : Nat → Stm → Prop
  | 0, _ => False
  | d + 1, s => StOk s ∧
    ((s.k = 1 ∧ s.bl = [] ∧ (s.wd = none ∨ ∃ q, s.wd = some q ∧ 0 ≤ q.num ∧ q.num.natAbs < 1000000000 ∧ q.den < 1000000000)) ∨ (s.k = 2 ∧ s.bl = []) ∨ (s.k = 3 ∧ s.bl = []) ∨ (s.k = 4 ∧ s.bl = []) ∨ (s.k = 5 ∧ s.bl = []) ∨
      ((∀ b ∈ s.bl, ∀ x ∈ b, PrOk d x) ∧ ((s.k = 6 ∧ s.bl.length ≤ 1) ∨ (s.k = 7 ∧ s.bl.length ≤ 1) ∨ s.k = 8 ∨ s.k = 9)))
theorem prV_all (E : Ents) : ∀ (d : Nat) (s : Stm), PrOk d s → PrV E d s (prS d s)
  | 0, _, h => h.elim
  | d + 1, s, ⟨h0, h⟩ => by
    unfold prS
    rcases h with ⟨hk, hb, hw⟩ | ⟨hk, hb⟩ | ⟨hk, hb⟩ | ⟨hk, hb⟩ | ⟨hk, hb⟩ | ⟨hB, h⟩
    · rw [hb, show blsW (prS d) (sepW s.k) [] = [] from rfl, List.append_nil]
      unfold headW putW
      rw [if_pos hk]
      rcases hw with hw | ⟨q, hw, q0, q1, q2⟩
      · rw [hw]
        exact pr_put0 E (d + 1) s hk hw hb
      · rw [hw]
        exact pr_put1 E (d + 1) s hk q q0 q1 q2 hw hb
    · rw [hb, show blsW (prS d) (sepW s.k) [] = [] from rfl, List.append_nil]
      unfold headW
      rw [if_neg (by omega), if_pos hk]
      exact pr_hold E (d + 1) s hk hb
    · rw [hb, show blsW (prS d) (sepW s.k) [] = [] from rfl, List.append_nil]
      unfold headW
      rw [if_neg (by omega), if_neg (by omega), if_pos hk]
      exact pr_free E (d + 1) s hk hb
    · rw [hb, show blsW (prS d) (sepW s.k) [] = [] from rfl, List.append_nil]
      unfold headW
      rw [if_neg (by omega), if_neg (by omega), if_neg (by omega), if_pos hk]
      exact pr_see E (d + 1) s hk hb
    · rw [hb, show blsW (prS d) (sepW s.k) [] = [] from rfl, List.append_nil]
      unfold headW
      rw [if_neg (by omega), if_neg (by omega), if_neg (by omega), if_neg (by omega), if_pos hk]
      exact pr_wait E (d + 1) s hk h0.2.1.1 h0.2.1.2 hb
    · have ih : ∀ b ∈ s.bl, ∀ x ∈ b, PrV E d x (prS d x) := fun b hb x hx => prV_all E d x (hB b hb x hx)
      unfold headW
      rcases h with ⟨hk, hl⟩ | ⟨hk, hl⟩ | hk | hk
      · rw [if_neg (by omega), if_neg (by omega), if_neg (by omega), if_neg (by omega), if_neg (by omega), if_pos hk, show sepW s.k = kElse by unfold sepW; rw [if_neg (by omega)]]
        exact pr_do E d s (prS d) hk hl ih
      · rw [if_neg (by omega), if_neg (by omega), if_neg (by omega), if_neg (by omega), if_neg (by omega), if_neg (by omega), if_pos hk, show sepW s.k = kElse by unfold sepW; rw [if_neg (by omega)]]
        exact pr_rep E d s (prS d) hk h0.2.1.1 h0.2.1.2 hl ih
      · rw [if_neg (by omega), if_neg (by omega), if_neg (by omega), if_neg (by omega), if_neg (by omega), if_neg (by omega), if_neg (by omega), if_pos hk, show sepW s.k = kOr by unfold sepW; rw [if_pos hk]]
        exact pr_any E d s (prS d) hk ih
      · rw [if_neg (by omega), if_neg (by omega), if_neg (by omega), if_neg (by omega), if_neg (by omega), if_neg (by omega), if_neg (by omega), if_neg (by omega), show sepW s.k = kElse by unfold sepW; rw [if_neg (by omega)]]
        exact pr_try E d s (prS d) hk ih
/-! What is read can be printed -/
def OkF (f : FS) (d : Nat) : Prop := ∀ left ts s l t, (∀ x ∈ ts, TkOk x) → f left ts = .ok s l t → PrOk d s ∧ ∀ x ∈ t, x ∈ ts
theorem lopR_pr {f : FS} {d : Nat} (hf : OkF f d) : ∀ (n : Nat) (left : Int) (ts : List Tk) (l : List Stm) (lf : Int) (t : List Tk), (∀ x ∈ ts, TkOk x) → lopR f n left ts = .ok l lf t → (∀ s ∈ l, PrOk d s) ∧ ∀ x ∈ t, x ∈ ts
  | 0, _, _, _, _, _, _, h => by cases h
  | n + 1, left, ts, l, lf, t, hk, h => by
    unfold lopR at h
    split at h
    · rename_i r e
      cases h
      exact ⟨fun s hs => (by cases hs), takR_sub e⟩
    · split at h
      · cases h
      · rename_i s l2 t2 e2
        split at h
        · cases h
        · rename_i l' l3 t3 e3
          cases h
          obtain ⟨a1, a2⟩ := hf _ _ _ _ _ hk e2
          obtain ⟨b1, b2⟩ := lopR_pr hf n _ _ _ _ _ (fun x hx => hk x (a2 x hx)) e3
          refine ⟨fun x hx => ?_, fun x hx => a2 x (b2 x hx)⟩
          rcases List.mem_cons.1 hx with rfl | hx
          · exact a1
          · exact b1 x hx
theorem blkR_pr {f : Option FS} {d : Nat} (hf : ∀ g, f = some g → OkF g d) {left : Int} {ts : List Tk} {l : List Stm} {lf : Int} {t : List Tk} (hk : ∀ x ∈ ts, TkOk x) (h : blkR f left ts = .ok l lf t) : (∀ s ∈ l, PrOk d s) ∧ ∀ x ∈ t, x ∈ ts := by
  unfold blkR at h
  split at h
  · cases h
  · rename_i r e
    split at h
    · cases h
    · rename_i g
      have h1 := takR_sub e
      obtain ⟨a1, a2⟩ := lopR_pr (hf g rfl) _ _ _ _ _ _ (fun x hx => hk x (h1 x hx)) h
      exact ⟨a1, fun x hx => h1 x (a2 x hx)⟩
theorem bksR_pr {f : Option FS} {d : Nat} (hf : ∀ g, f = some g → OkF g d) (x : ByteArray) : ∀ (k : Nat) (left : Int) (ts : List Tk) (bs : List (List Stm)) (lf : Int) (t : List Tk), (∀ x ∈ ts, TkOk x) → bksR f x k left ts = .ok bs lf t → (∀ b ∈ bs, ∀ s ∈ b, PrOk d s) ∧ (∀ x ∈ t, x ∈ ts) ∧ bs.length ≤ k
  | 0, _, _, _, _, _, _, h => by cases h
  | k + 1, left, ts, bs, lf, t, hk, h => by
    unfold bksR at h
    split at h
    · cases h
    · rename_i b l2 t2 e2
      obtain ⟨a1, a2⟩ := blkR_pr hf hk e2
      split at h
      · cases h
        exact ⟨one_mem a1, a2, by simp⟩
      · split at h
        · cases h
          exact ⟨one_mem a1, a2, by simp⟩
        · rename_i t3 e3
          have h1 := takR_sub e3
          split at h
          · cases h
          · rename_i bs' l4 t4 e4
            cases h
            obtain ⟨b1, b2, b3⟩ := bksR_pr hf x k _ _ _ _ _ (fun x hx => hk x (a2 x (h1 x hx))) e4
            refine ⟨fun y hy => ?_, fun x hx => a2 x (h1 x (b2 x hx)), by simp; exact b3⟩
            rcases List.mem_cons.1 hy with rfl | hy
            · exact a1
            · exact b1 y hy
theorem plnR_pr {s : Stm} {ts r : List Tk} (hk : ∀ x ∈ ts, TkOk x) (h : plnR ts = some (s, r)) (d : Nat) : PrOk (d + 1) s ∧ ∀ x ∈ r, x ∈ ts := by
  have hok := (plnR_ok hk h).1
  unfold plnR at h
  split at h
  · rename_i r0 e0
    have s0 := takR_sub e0
    unfold putR at h
    split at h
    · cases h
    · rename_i a r1 e1
      have s1 := (nmeR_sub e1).2
      split at h
      · cases h
      · rename_i r2 e2
        have s2 := takR_sub e2
        split at h
        · cases h
        · rename_i b r3 e3
          have s3 := (nmeR_sub e3).2
          have sa : ∀ x ∈ r3, x ∈ ts := fun x hx => s0 x (s1 x (s2 x (s3 x hx)))
          split at h
          · cases h
            exact ⟨⟨hok, .inl ⟨rfl, rfl, .inl rfl⟩⟩, sa⟩
          · rename_i r4 e4
            have s4 := takR_sub e4
            split at h
            · cases h
            · rename_i q r5 e5
              cases h
              obtain ⟨_, w2, w3⟩ := wthR_sub (fun x hx => hk x (sa x (s4 x hx))) e5
              exact ⟨⟨hok, .inl ⟨rfl, rfl, .inr ⟨q, rfl, w2⟩⟩⟩, fun x hx => sa x (s4 x (w3 x hx))⟩
  · split at h
    · rename_i r0 e0
      have s0 := takR_sub e0
      unfold hldR at h
      split at h
      · cases h
      · rename_i a r1 e1
        have s1 := (nmeR_sub e1).2
        split at h
        · cases h
        · rename_i r2 e2
          have s2 := takR_sub e2
          split at h
          · cases h
          · rename_i b r3 e3
            have s3 := (nmeR_sub e3).2
            cases h
            exact ⟨⟨hok, .inr (.inl ⟨rfl, rfl⟩)⟩, fun x hx => s0 x (s1 x (s2 x (s3 x hx)))⟩
    · split at h
      · rename_i r0 e0
        have s0 := takR_sub e0
        unfold oneR at h
        split at h
        · cases h
        · rename_i a r1 e1
          have s1 := (nmeR_sub e1).2
          cases h
          exact ⟨⟨hok, .inr (.inr (.inl ⟨rfl, rfl⟩))⟩, fun x hx => s0 x (s1 x hx)⟩
      · split at h
        · rename_i r0 e0
          have s0 := takR_sub e0
          unfold oneR at h
          split at h
          · cases h
          · rename_i a r1 e1
            have s1 := (nmeR_sub e1).2
            cases h
            exact ⟨⟨hok, .inr (.inr (.inr (.inl ⟨rfl, rfl⟩)))⟩, fun x hx => s0 x (s1 x hx)⟩
        · split at h
          · rename_i r0 e0
            have s0 := takR_sub e0
            unfold waiR at h
            split at h
            · cases h
            · rename_i n r1 e1
              have s1 := (cntR_sub e1).2
              cases h
              exact ⟨⟨hok, .inr (.inr (.inr (.inr (.inl ⟨rfl, rfl⟩))))⟩, fun x hx => s0 x (s1 x hx)⟩
          · cases h
theorem stmR_pr {f : Option FS} {d : Nat} (hf : ∀ g, f = some g → OkF g d) : OkF (stmR f) (d + 1) := by
  intro left ts s l t hk h
  unfold stmR at h
  split at h
  · split at h
    · cases h
    · unfold kndR at h
      split at h
      · rename_i r e
        have h1 := takR_sub e
        generalize hB : bksR f noS 1 (left - 1) r = B at h
        cases B with
        | err e => cases h
        | ok bs lf t' =>
          cases h
          obtain ⟨a1, a2, a3⟩ := bksR_pr hf noS _ _ _ _ _ _ (fun x hx => hk x (h1 x hx)) hB
          exact ⟨⟨stkOk (by decide) (by decide), .inr (.inr (.inr (.inr (.inr ⟨a1, .inl ⟨rfl, a3⟩⟩))))⟩, fun x hx => h1 x (a2 x hx)⟩
      · split at h
        · rename_i r e
          have h1 := takR_sub e
          generalize hB : bksR f kOr 4 (left - 1) r = B at h
          cases B with
          | err e => cases h
          | ok bs lf t' =>
            cases h
            obtain ⟨a1, a2, a3⟩ := bksR_pr hf kOr _ _ _ _ _ _ (fun x hx => hk x (h1 x hx)) hB
            exact ⟨⟨stkOk (by decide) (by decide), .inr (.inr (.inr (.inr (.inr ⟨a1, .inr (.inr (.inl rfl))⟩))))⟩, fun x hx => h1 x (a2 x hx)⟩
        · split at h
          · rename_i r e
            have h1 := takR_sub e
            unfold repB at h
            split at h
            · cases h
            · rename_i n r1 e1
              obtain ⟨hn, h2⟩ := cntR_sub e1
              generalize hB : bksR f noS 1 (left - 1) r1 = B at h
              cases B with
              | err e => cases h
              | ok bs lf t' =>
                cases h
                obtain ⟨a1, a2, a3⟩ := bksR_pr hf noS _ _ _ _ _ _ (fun x hx => hk x (h1 x (h2 x hx))) hB
                exact ⟨⟨stkOk (by decide) hn, .inr (.inr (.inr (.inr (.inr ⟨a1, .inr (.inl ⟨rfl, a3⟩)⟩))))⟩, fun x hx => h1 x (h2 x (a2 x hx))⟩
          · split at h
            · rename_i r e
              have h1 := takR_sub e
              generalize hB : bksR f kElse 2 (left - 1) r = B at h
              cases B with
              | err e => cases h
              | ok bs lf t' =>
                simp only [tryB] at h
                split at h
                · cases h
                  obtain ⟨a1, a2, a3⟩ := bksR_pr hf kElse _ _ _ _ _ _ (fun x hx => hk x (h1 x hx)) hB
                  exact ⟨⟨stkOk (by decide) (by decide), .inr (.inr (.inr (.inr (.inr ⟨a1, .inr (.inr (.inr rfl))⟩))))⟩, fun x hx => h1 x (a2 x hx)⟩
                · cases h
            · unfold leafB at h
              split at h
              · cases h
              · rename_i s' r e
                split at h
                · cases h
                · rename_i r2 e2
                  cases h
                  obtain ⟨a1, a2⟩ := plnR_pr hk e d
                  exact ⟨a1, fun x hx => a2 x (takR_sub e2 x hx)⟩
  · cases h
theorem fS_pr : ∀ d, OkF (fS d) (d + 1)
  | 0 => stmR_pr (d := 0) (fun _ e => by cases e)
  | d + 1 => stmR_pr (d := d + 1) (fun g e => by cases e; exact fS_pr d)
/-- The statements of a job that is read can be printed. -/
theorem jobR_pr {ts : List Tk} {nm : ByteArray} {l : List Stm} (hk : ∀ x ∈ ts, TkOk x) (h : jobR ts = some (nm, l)) : (∀ s ∈ l, PrOk 5 s) ∧ nm.size ≤ maxLen := by
  unfold jobR at h
  split at h
  · cases h
  · rename_i r e
    have s0 := takR_sub e
    split at h
    · cases h
    · rename_i nm' r1 e1
      obtain ⟨⟨x, hx, hx2⟩, s1⟩ := nmeR_sub e1
      split at h
      · cases h
      · rename_i l' lf t e2
        split at h
        · cases h
          exact ⟨(blkR_pr (d := 5) (fun g e => by cases e; exact fS_pr 4) (fun x hx => hk x (s0 x (s1 x hx))) e2).1, by rw [← hx2]; exact ml4 (hk x (s0 x hx)).1⟩
        · cases h
end Go.Proofs.YtaiokjhjakdhaaaGreatDoor
