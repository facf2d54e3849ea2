/- The walk of gantkeep4.WordPlaces. -/
import Derived.Test.YtlikkcecgjnjeaaWordP
namespace Go.Proofs.Ytlikkcecgjnjeaa
open Go.RowKit
set_option linter.unusedVariables false

theorem count_mono (l : List UInt8) {a b : Nat} (h : a ≤ b) : (l.take a).count 10 ≤ (l.take b).count 10 := by
  have : l.take a = (l.take b).take a := by rw [List.take_take, Nat.min_eq_left h]
  rw [this]
  exact (List.take_sublist a (l.take b)).count_le 10

set_option pp.deepTerms true in
set_option maxHeartbeats 4000000 in
theorem WordPlaces_any (s : ByteArray) (w : World) (hs : s.size ≤ maxLen) :
    Calls Try.prog 3 #[.string s] w fun e w' => e = .returned (.bool true) ∧ Below w.heap.size w w' := by
  go_enter Try.func3, Try.ntmps3
  go_wp2_with fail
  refine (Read_any s _ hs).mono ?_
  rintro e w1 ⟨v, er, rfl, hb, h⟩
  have B1 := Lib.hid hb
  have hs1 := hb.size
  clear hb
  rcases h with ⟨rfl, ws, hws, hlen, ho⟩ | ⟨her, h⟩
  · obtain ⟨hp, hs4⟩ := placed_S hws
    have P0 := Lib.hid hp
    obtain ⟨A, c, rfl⟩ := own_slice ho
    have R1 := Lib.hid (RW.own ho)
    clear ho hws hp hs
    go_wp2_with fail
    refine (worded_any _).mono ?_
    rintro e w2 ⟨rfl, hb⟩
    have B2 := Lib.hid (B1.out.trans (hb.mono hs1))
    have R2 := Lib.hid (R1.out.below hb)
    have hs2 := B2.out.size
    clear hb
    go_wp2_with fail
    go_loopw [5, 6, 24] (fun ve vl i wr => ∃ k e p n : Nat, ve = .int .i64 e ∧ i = .int .i64 k ∧ vl = .int .i64 (1 + n) ∧ k ≤ ws.length ∧ e ≤ s.size ∧ p ≤ e ∧ n ≤ p ∧ Hid (n = (s.data.toList.take p).count 10) ∧ Hid (Placed s e (ws.drop k)) ∧ Hid (Below w.heap.size w wr) ∧ Hid (RW wr A ws)) (fun _ _ i _ => ws.length - (intOf i).toNat)
    case atStart => exact ⟨0, 0, 0, 0, rfl, rfl, rfl, by omega, by omega, by omega, by omega, by simp [Hid], by simpa using P0, B2, R2⟩
    case round =>
      obtain ⟨k, e, p, n, rfl, rfl, rfl, hk, he, hpe, hnp, hn, hpl, Bl, Rl⟩ := hrel
      by_cases hlt : k < ws.length
      · obtain ⟨x, hx⟩ := some_at hlt
        obtain ⟨b, o, rfl, hb, hc⟩ := Rl.out (by omega)
        obtain ⟨d0, d1, d2⟩ := hc k x hx
        have hdr : ws.drop k = x :: ws.drop (k + 1) := by
          obtain ⟨hh, hxx⟩ := List.getElem?_eq_some_iff.1 hx
          rw [List.drop_eq_getElem_cons hh, hxx]
        have hpl2 := hpl.out
        rw [hdr] at hpl2
        obtain ⟨hp1, hp2, hp3, hp4⟩ := hpl2
        have P4 := Lib.hid hp4
        obtain ⟨m, hm⟩ : ∃ m, m = (s.data.toList.take x.pos).count 10 := ⟨_, rfl⟩
        have hnm : n ≤ m := by rw [hn.out, hm]; exact count_mono _ (by omega)
        have hmp : m ≤ x.pos := by
          rw [hm]
          have := List.count_le_length (a := (10 : UInt8)) (l := s.data.toList.take x.pos)
          rw [List.length_take] at this; omega
        have M := Lib.hid hm
        have H3 := Lib.hid hp3
        have i1 : (e : Int) ≤ x.pos := by omega
        have i2 : (x.pos : Int) ≤ (s.size : Int) - x.text.size := by omega
        have i3 : ((x.pos : Int) + x.text.size).toNat = x.pos + x.text.size := by omega
        have B3 := Lib.hid (Bl.out.alloc Bl.out.size (.cells #[.int .i64 x.kind, .int .i64 x.pos, .string x.text] 28))
        have R3 := Lib.hid (Rl.out.below ((Below.refl wr.heap.size wr).alloc (Nat.le_refl _) (.cells #[.int .i64 x.kind, .int .i64 x.pos, .string x.text] 28)))
        clear hc hx hdr hp4 hm hp3
        go_wp2_with fail
        refine (Line_any s x.pos m _ hs4 (by omega) M).mono ?_
        rintro e2 w3 ⟨rfl, rfl⟩
        go_wp2_with fail
        have g1 : decide (x.pos < e) = false := by simp; omega
        have g2 : IntKind.i64.wrap ((s.size : Int) - x.text.size) = s.size - x.text.size := IntWalk.i64_in _ (by omega)
        have g5 : IntKind.i64.wrap ((x.pos : Int) + x.text.size) = x.pos + x.text.size := IntWalk.i64_in _ (by omega)
        have i4 : (x.pos : Int) + x.text.size ≤ s.size := by omega
        have g3 : decide ((s.size : Int) - x.text.size < x.pos) = false := by simp; omega
        have g4 : decide (m < n) = false := by simp; omega
        have g6 := H3.out
        go_quiet (fail)
        clear g1 g2 g3 g4 g5 g6
        go_wp2_with fail
        go_roundw
        case rel => exact ⟨k + 1, x.pos + x.text.size, x.pos, m, by go_num, by go_num, rfl, by omega, by omega, by omega, hmp, M, P4, below_drewN B3.out _, R3⟩
        case measure => simp [intOf]; omega
      · go_wp2_with fail
        go_ret
        exact ⟨rfl, Bl.out⟩
  · have her2 : (er != 0) = true := by simpa using her
    clear her
    go_wp2_with fail
    refine (worded_any _).mono ?_
    rintro e w2 ⟨rfl, hb⟩
    have B2 := Lib.hid (B1.out.trans (hb.mono hs1))
    have hs2 := B2.out.size
    clear hb
    go_wp2_with fail
    refine (worded_any _).mono ?_
    rintro e w3 ⟨rfl, hb⟩
    have B3 := Lib.hid (B2.out.trans (hb.mono hs2))
    clear hb
    go_wp2_with fail
    go_ret
    exact ⟨rfl, B3.out⟩
end Go.Proofs.Ytlikkcecgjnjeaa
