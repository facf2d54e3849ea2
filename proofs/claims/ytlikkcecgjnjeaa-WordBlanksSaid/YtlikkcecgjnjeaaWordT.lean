/- The walks of word.Valid, word.Text. -/
import Derived.Test.YtlikkcecgjnjeaaWordM
namespace Go.Proofs.Ytlikkcecgjnjeaa
open Go.RowKit
set_option linter.unusedVariables false

theorem IsNumber_onealloc (s : ByteArray) (w : World) (a : Obj) (hs : s.size ≤ maxLen) (r : Bool) (hr : Hid (isNumL s.data.toList = r)) :
    Calls Try.prog 28 #[.string s] (w.alloc a) fun e w' => e = .returned (.bool r) ∧ Below w.heap.size w w' :=
  (IsNumber_any s _ hs r hr).mono fun e w' h => by
    obtain ⟨rfl, n, rfl⟩ := h
    exact ⟨rfl, below_drewN ((Below.refl _ _).alloc (Nat.le_refl _) a) n⟩

set_option maxHeartbeats 1000000 in
theorem Valid_any (k p : Nat) (u : ByteArray) (w : World) (hu : u.size ≤ maxLen) (hv : ValidW k u.data.toList) :
    Calls Try.prog 20 #[.agg #[.int .i64 k, .int .i64 p, .string u]] w fun e w' => e = .returned (.bool true) ∧ Below w.heap.size w w' := by
  rcases hv with ⟨rfl, hv⟩ | ⟨rfl, hv⟩ | ⟨rfl, c, hc, hv⟩
  · have V := Lib.hid hv
    clear hv
    go_enter Try.func20, Try.ntmps20
    go_wp2_with fail
    refine (IsName_any u _ hu _ V).mono ?_
    rintro e w' ⟨rfl, rfl⟩
    go_wp2_with fail
    go_ret
    exact ⟨rfl, (Below.refl _ _).alloc (Nat.le_refl _) _⟩
  · have V := Lib.hid hv
    clear hv
    go_enter Try.func20, Try.ntmps20
    go_wp2_with fail
    refine (IsNumber_onealloc u _ _ hu _ V).mono ?_
    rintro e w' ⟨rfl, hb⟩
    have B := Lib.hid hb
    clear hb
    go_wp2_with fail
    go_ret
    exact ⟨rfl, B.out⟩
  · have V := Lib.hid hv
    have h1 : u.size = 1 := by have := congrArg List.length hc; simpa using this
    have hu0 : u[0] = c := by
      have hb := byte_at (s := u) (k := 0) (by omega)
      rw [hc] at hb
      exact (Option.some.inj hb).symm
    have S : Hid (signB u[0] = true) := by unfold Hid; rw [hu0]; exact V.out
    clear hv hc hu0 V
    go_enter Try.func20, Try.ntmps20
    go_wp2_with fail
    refine (sign_any _ _ true S).mono ?_
    rintro e w' ⟨rfl, rfl⟩
    go_wp2_with fail
    go_ret
    exact ⟨rfl, (Below.refl _ _).alloc (Nat.le_refl _) _⟩

theorem info_str : (Try.prog.info? 9).map (fun i => (i.zero, i.size, i.bytes)) = some (some (.string ⟨#[]⟩), 1, 16) := by kernel_rfl
def stex (ws : List Wd) : List Value := ws.map fun x => .string x.text
def joinL (ws : List Wd) : List UInt8 := Lib.join (ws.map (·.text.data.toList)) [32]
theorem joinL_len : ∀ ws : List Wd, (joinL ws).length ≤ wsum ws + ws.length := by
  intro ws
  cases ws with
  | nil => simp [joinL, Lib.join]
  | cons x ws =>
    rw [joinL, join_lay, List.length_append, wsum]
    have h : ∀ ws : List Wd, (lay (List.replicate ws.length [32]) ws).length ≤ wsum ws + ws.length := by
      intro ws
      induction ws with
      | nil => simp [lay]
      | cons y ws ih => simp only [List.length_cons, List.replicate_succ, lay, List.length_append, wsum, Wd.t, Array.length_toList] at ih ⊢; simp; have : y.text.data.size = y.text.size := rfl; omega
    have := h ws
    simp only [Wd.t, Array.length_toList, List.length_cons]
    have : x.text.data.size = x.text.size := rfl
    omega

theorem Join_words (v : Value) (ws : List Wd) (base : Nat) (w : World) (h : w.ownsRow base 9 1 v ws.length (stex ws)) (hlen : ws.length ≤ 4096) (hj : (joinL ws).length ≤ 8192) (j : ByteArray) (J : Hid (j = ⟨(joinL ws).toArray⟩)) :
    Calls Try.prog 21 #[v, .string ⟨#[32]⟩] w fun e w' => e = .returned (.string j) ∧ Below w.heap.size w w' := by
  obtain ⟨A, c, rfl⟩ := own_slice h
  by_cases h0 : ws.length = 0
  · have : ws = [] := List.eq_nil_of_length_eq_zero h0
    subst this
    refine (Try.strings_Join_none A c _ w).mono ?_
    rintro e w' ⟨rfl, rfl⟩
    rw [J.out]
    exact ⟨rfl, Below.refl _ _⟩
  · obtain ⟨g, cap, hv, _, hlt⟩ := h.form (by omega)
    cases hv
    have hc := own_cap h
    have hm : (ws.map (·.text)).length = ws.length := by simp
    have hmm : (ws.map (·.text)).map (·.data.toList) = ws.map (·.text.data.toList) := by simp
    have := Try.strings_Join g 0 c (ws.map (·.text)) ⟨#[32]⟩ w (fun j x hx => by
      have hk := h.cells (g := g) rfl j (.string x) (by
        obtain ⟨y, hy, rfl⟩ : ∃ y, ws[j]? = some y ∧ y.text = x := by simpa using hx
        simp [stex, hy])
      simpa [Addr.add_lit] using hk) hlt (by rw [hm]; omega) (by rw [hm]; exact hc) (by rw [hmm]; exact Nat.le_trans hj (by decide))
    rw [hm, hmm] at this
    rw [J.out]
    exact this

set_option maxHeartbeats 4000000 in
theorem Text_any (A : Option Addr) (c : Nat) (ws : List Wd) (w : World) (hrw : RW w A ws) (hlen : ws.length ≤ 4096) (hv : ∀ x ∈ ws, ValidW x.kind x.t) (hsum : wsum ws ≤ 4096) (hts : ∀ x ∈ ws, x.text.size ≤ 4096) (j : ByteArray) (J : Hid (j = ⟨(joinL ws).toArray⟩)) :
    Calls Try.prog 14 #[.slice A ws.length c] w fun e w' => Below w.heap.size w w' ∧ ((j.size ≤ 4096 ∧ e = .returned (.tuple #[.string j, .int .i64 0])) ∨ (4096 < j.size ∧ e = .returned (.tuple #[.string ⟨#[]⟩, .int .i64 2]))) := by
  have V := Lib.hid hv
  have T := Lib.hid hts
  have R0 := Lib.hid hrw
  have JL : (joinL ws).length ≤ 8192 := Nat.le_trans (joinL_len ws) (by omega)
  have JS : j.size ≤ 8192 := by
    rw [J.out]
    have : (ByteArray.mk (joinL ws).toArray).size = (joinL ws).length := by simp [ByteArray.size]
    omega
  clear hv hts hrw
  obtain ⟨j0, ji, jz0, jz1, jz2⟩ := info_parts info_str
  go_enter Try.func14, Try.ntmps14
  go_wp2_with fail
  go_loopw [4, 10] (fun vs i wr => ∃ (k : Nat) (v : Value), v = vs ∧ i = .int .i64 k ∧ k ≤ ws.length ∧ Hid (wr.ownsRow w.heap.size 9 1 v k (stex (ws.take k))) ∧ Hid (Below w.heap.size w wr) ∧ Hid (RW wr A ws)) (fun _ i _ => ws.length - (intOf i).toNat)
  case atStart => exact ⟨0, _, rfl, rfl, by omega, World.ownsRow_nil _ _ _ _, Below.refl _ _, R0⟩
  case round =>
    obtain ⟨k, v, rfl, rfl, hk, Ol, Bl, Rl⟩ := hrel
    by_cases hlt : k < ws.length
    · obtain ⟨x, hx⟩ := some_at hlt
      obtain ⟨b, o, rfl, hb, hc⟩ := Rl.out (by omega)
      obtain ⟨d0, d1, d2⟩ := hc k x hx
      have hmem : x ∈ ws := List.mem_of_getElem? hx
      have XV := Lib.hid (V.out x hmem)
      have xt := T.out x hmem
      have htk : Hid (stex (ws.take (k + 1)) = stex (ws.take k) ++ [.string x.text]) := by
        unfold Hid
        rw [List.take_add_one, hx]; simp [stex]
      have B3 := Lib.hid (Bl.out.alloc Bl.out.size (.cells #[.int .i64 x.kind, .int .i64 x.pos, .string x.text] 28))
      have X3 := Lib.hid (Blk.new wr 28 #[.int .i64 x.kind, .int .i64 x.pos, .string x.text])
      have O3 := Lib.hid (Ol.out.alloc (.cells #[.int .i64 x.kind, .int .i64 x.pos, .string x.text] 28))
      have R3 := Lib.hid (Rl.out.below ((Below.refl wr.heap.size wr).alloc (Nat.le_refl _) (.cells #[.int .i64 x.kind, .int .i64 x.pos, .string x.text] 28)))
      clear hc hx
      go_wp2_with fail
      refine (Valid_any x.kind x.pos x.text _ (by unfold maxLen; omega) XV.out).mono ?_
      rintro e w4 ⟨rfl, hb4⟩
      have Z3 := Lib.hid B3.out.size
      have B4 := Lib.hid (B3.out.trans (hb4.mono Z3.out))
      have X4 := Lib.hid (X3.out.below hb4 X3.out.lt)
      have O4 := Lib.hid (own_bel O3.out hb4)
      have R4 := Lib.hid (R3.out.below hb4)
      have Z4 := Lib.hid B4.out.size
      have B5 := Lib.hid (B4.out.alloc Z4.out (.cells #[.string x.text] 9))
      have O5 := Lib.hid (O4.out.alloc (.cells #[.string x.text] 9))
      have R5 := Lib.hid (R4.out.below ((Below.refl w4.heap.size w4).alloc (Nat.le_refl _) (.cells #[.string x.text] 9)))
      have S5 := Lib.hid (Src.new (m := 1) (c := 1) (size := 1) (Blk.new w4 9 #[.string x.text]) rfl)
      have Z5 := Lib.hid B5.out.size
      have N5 : Hid (∀ y ∈ (#[.string x.text] : Array Value).toList, y.oneCell' = true) := by intro y hy; simp at hy; rcases hy with rfl; rfl
      have d4 := X4.out.cell 2
      clear hb4
      go_wp2_with (at_builtin; refine wpList_append_src _ rfl (.tmp 17) (.tmp 20) 40 rfl w.heap.size 9 j0 _ 1 16 Try.underlying40 ji jz0 jz1 jz2 rfl (by decide) _ k (stex (ws.take k)) rfl O5.out 1 _ _ rfl S5.out N5.out (by unfold maxLen; omega) (by omega) Z5.out ?_; intro v7 w7 hown7 hg7; have B7 := Lib.hid (below_append B5.out O5.out hg7 Z5.out); have O7 := Lib.hid hown7; clear hown7 hg7)
      go_roundw
      case rel => exact ⟨k + 1, _, rfl, by go_num, hlt, by rw [Hid, htk.out]; exact O7.out, B7, R0.out.below B7.out⟩
      case measure => simp [intOf]; omega
    · have hks : k = ws.length := by omega
      subst hks
      have O5 : Hid (wr.ownsRow w.heap.size 9 1 v ws.length (stex ws)) := by have := Ol.out; rw [List.take_length] at this; exact this
      go_wp2_with fail
      refine (Join_words v ws _ _ O5.out hlen JL j J).mono ?_
      rintro e w6 ⟨rfl, hb6⟩
      have B6 := Lib.hid (Bl.out.trans (hb6.mono Bl.out.size))
      clear hb6
      by_cases hjs : j.size ≤ 4096
      · go_wp2_with fail
        go_ret2
        exact ⟨B6.out, .inl ⟨hjs, rfl⟩⟩
      · go_wp2_with fail
        go_ret2
        exact ⟨B6.out, .inr ⟨by omega, rfl⟩⟩
end Go.Proofs.Ytlikkcecgjnjeaa
