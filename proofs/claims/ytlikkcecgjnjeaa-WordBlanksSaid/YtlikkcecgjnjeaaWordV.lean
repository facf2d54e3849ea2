/- The walk of gantkeep4.WordBack. -/
import Derived.Test.YtlikkcecgjnjeaaWordP
import Derived.Test.YtlikkcecgjnjeaaWordT
import Derived.Test.YtlikkcecgjnjeaaWordU
namespace Go.Proofs.Ytlikkcecgjnjeaa
open Go.RowKit
set_option linter.unusedVariables false

theorem placed_text {s : ByteArray} {ws : List Wd} {e : Nat} (h : Placed s e ws) : ∀ x ∈ ws, x.text.size ≤ s.size := by
  intro x hx
  obtain ⟨k, hk⟩ := List.mem_iff_getElem?.1 hx
  have := (placed_at h hk).1
  omega
theorem SameW.len {ws vs : List Wd} (h : SameW ws vs) : vs.length = ws.length := by
  have := congrArg List.length h
  simpa using this.symm

set_option maxHeartbeats 4000000 in
theorem WordBack_any (s : ByteArray) (w : World) (hs : s.size ≤ maxLen) :
    Calls Try.prog 5 #[.string s] w fun e w' => e = .returned (.bool true) ∧ Below w.heap.size w w' := by
  go_enter Try.func5, Try.ntmps5
  go_wp2_with fail
  refine (Read_any s _ hs).mono ?_
  rintro e w1 ⟨v, er, rfl, hb, h⟩
  have B1 := Lib.hid hb
  have hs1 := Lib.hid hb.size
  clear hb
  rcases h with ⟨rfl, ws, hws, hlen, ho⟩ | ⟨her, h⟩
  · obtain ⟨hp, hs4⟩ := placed_S hws
    have hlen4 : ws.length ≤ 4096 := by omega
    have G := Lib.hid (readS_good hws)
    have T := Lib.hid (fun x hx => Nat.le_trans (placed_text hp x hx) hs4)
    have hsum : wsum ws ≤ 4096 := by have := placed_sum hp (by omega); omega
    obtain ⟨A, c, rfl⟩ := own_slice ho
    have O1 := Lib.hid ho
    obtain ⟨j, hj⟩ : ∃ j : ByteArray, j = ⟨(joinL ws).toArray⟩ := ⟨_, rfl⟩
    have J := Lib.hid hj
    clear ho hp hs hws hj
    go_wp2_with fail
    refine (worded_any _).mono ?_
    rintro e w2 ⟨rfl, hb⟩
    have B2 := Lib.hid (B1.out.trans (hb.mono hs1.out))
    have O2 := Lib.hid (own_bel O1.out hb)
    have hs2 := Lib.hid B2.out.size
    clear hb
    go_wp2_with fail
    refine (Text_any A c ws _ (RW.own O2.out) hlen4 (fun x hx => (G.out x hx).2) hsum T.out j J).mono ?_
    rintro e w3 ⟨hb, h3⟩
    have B3 := Lib.hid (B2.out.trans (hb.mono hs2.out))
    have O3 := Lib.hid (own_bel O2.out hb)
    have hs3 := Lib.hid B3.out.size
    clear hb
    rcases h3 with ⟨hj4, rfl⟩ | ⟨hj4, rfl⟩
    · have hjl : j.size = (joinL ws).length := by rw [J.out]; simp [ByteArray.size]
      obtain ⟨vs, hvs, hsame⟩ := read_join (fun x hx => (G.out x hx).1) (show (joinL ws).length ≤ 4096 by omega)
      have hvs2 : readS j.data.toList = some vs := by rw [J.out]; exact hvs
      have VS := Lib.hid hvs2
      have SM := Lib.hid hsame
      have hvl := Lib.hid hsame.len
      clear hvs hvs2 hsame hjl
      go_wp2_with fail
      refine (Read_any j _ (by unfold maxLen; omega)).mono ?_
      rintro e w4 ⟨v', er', rfl, hb, h4⟩
      have B4 := Lib.hid (B3.out.trans (hb.mono hs3.out))
      have O4 := Lib.hid (own_bel O3.out hb)
      have hs4 := Lib.hid B4.out.size
      clear hb
      have h4' : er' = 0 ∧ w4.ownsRow w3.heap.size 28 3 v' vs.length (wcells vs) := by
        rcases h4 with ⟨rfl, vs', h5, _, ho'⟩ | ⟨_, h5⟩
        · rw [VS.out] at h5; cases h5; exact ⟨rfl, ho'⟩
        · rw [VS.out] at h5; cases h5
      obtain ⟨rfl, ho'⟩ := h4'
      have P4 := Lib.hid ho'
      clear h4 ho'
      go_wp2_with fail
      refine (texts_any _ _ ws _ O4.out hlen4).mono ?_
      rintro e w5 ⟨A5, c5, rfl, hr5, hb⟩
      have R5 := Lib.hid hr5
      have B5 := Lib.hid (B4.out.trans (hb.mono hs4.out))
      have P5 := Lib.hid (own_bel P4.out hb)
      have hs5 := Lib.hid B5.out.size
      clear hb hr5
      go_wp2_with fail
      refine (texts_any _ _ vs _ P5.out (by have := hvl.out; omega)).mono ?_
      rintro e w6 ⟨A6, c6, rfl, hr6, hb⟩
      rw [← SM.out.zero] at hr6
      have R6 := Lib.hid hr6
      have R7 := Lib.hid (R5.out.below hb)
      have B6 := Lib.hid (B5.out.trans (hb.mono hs5.out))
      clear hb hr6
      go_wp2_with fail
      refine (weq_any A5 A6 ws.length vs.length c5 c6 (ws.map Wd.zero) _ (by simp) (by have := hvl.out; simp; omega) (by simp; omega) R7.out R6.out).mono ?_
      rintro e w7 ⟨rfl, n, rfl⟩
      go_wp2_with fail
      go_ret
      exact ⟨rfl, below_drewN B6.out n⟩
    · go_wp2_with fail
      go_ret
      exact ⟨rfl, B3.out⟩
  · have her2 : (er != 0) = true := by simpa using her
    clear her
    go_wp2_with fail
    refine (worded_any _).mono ?_
    rintro e w2 ⟨rfl, hb⟩
    have B2 := Lib.hid (B1.out.trans (hb.mono hs1.out))
    have hs2 := Lib.hid B2.out.size
    clear hb
    go_wp2_with fail
    refine (worded_any _).mono ?_
    rintro e w3 ⟨rfl, hb⟩
    have B3 := Lib.hid (B2.out.trans (hb.mono hs2.out))
    clear hb
    go_wp2_with fail
    go_ret
    exact ⟨rfl, B3.out⟩
end Go.Proofs.Ytlikkcecgjnjeaa
