/- What word.one answers. -/
import Derived.Test.YtlikkcecgjnjeaaWordE
namespace Go.Proofs.Ytlikkcecgjnjeaa
open Go.RowKit
set_option linter.unusedVariables false

theorem ext_take (s : ByteArray) (k n : Nat) : (s.extract k (k + n)).data.toList = (s.data.toList.drop k).take n := by
  rw [ext_list]; congr 1; omega
theorem drop_len (s : ByteArray) (k : Nat) : (s.data.toList.drop k).length = s.size - k := by simp
theorem runN_pos {p : UInt8 → Bool} {c : UInt8} {l : List UInt8} (h : p c = true) : 1 ≤ runN p (c :: l) := by
  rw [runN_cons, if_pos h]; omega
theorem numLen_le (l : List UInt8) : numLen l ≤ l.length := by
  unfold numLen
  have h1 := runN_le digitB l
  split
  · have h2 := runN_le digitB (l.drop (runN digitB l + 1))
    rw [List.length_drop] at h2; omega
  · exact h1
theorem numLen_ge (l : List UInt8) : runN digitB l ≤ numLen l := by
  unfold numLen; split <;> omega
theorem wLen_le (l : List UInt8) : wLen l ≤ l.length := by
  unfold wLen
  split
  · simp
  · split
    · exact runN_le _ _
    · split
      · exact numLen_le _
      · simp
theorem wLen_pos (c : UInt8) (l : List UInt8) : 1 ≤ wLen (c :: l) := by
  unfold wLen
  simp only
  split
  · rename_i h; exact runN_pos h
  · split
    · rename_i h
      have := numLen_ge (c :: l)
      have := runN_pos (l := l) h
      omega
    · omega

/-- What the walk of one finds: either a word of a kind, or an error. -/
def OneIs (l : List UInt8) (s : ByteArray) (k : Nat) (e : Ending) : Prop :=
  (wKind l ≠ 0 ∧ e = .returned (.tuple #[.agg #[.int .i64 (wKind l : Nat), .int .i64 k, .string (s.extract k (k + wLen l))], .int .i64 0])) ∨
  (wKind l = 0 ∧ ∃ er : Int, er ≠ 0 ∧ e = .returned (.tuple #[.agg #[.int .i64 0, .int .i64 0, .string ⟨#[]⟩], .int .i64 er]))

theorem one_any (s : ByteArray) (k : Nat) (w : World) (hs : s.size ≤ 4096) (hk : k < s.size) :
    Calls Try.prog 16 #[.string s, .int .i64 k] w fun e w' => OneIs (s.data.toList.drop k) s k e ∧ Below w.heap.size w w' := by
  have hd := drop_at hk
  have hlen := drop_len s k
  by_cases hc : letterB s[k] = true
  · have hl : wLen (s.data.toList.drop k) = runN letterB (s.data.toList.drop k) := by
      rw [hd]; simp only [wLen, hc, if_true]
    have hle := wLen_le (s.data.toList.drop k)
    refine (one_letter s _ k _ w hs hk hc rfl (by omega) rfl _ rfl).mono ?_
    rintro e w' ⟨rfl, hb⟩
    refine ⟨?_, hb⟩
    have hkd : wKind (s.data.toList.drop k) = if isIsName ((s.data.toList.drop k).take (wLen (s.data.toList.drop k))) then 1 else 0 := by
      conv => lhs; rw [hd]
      simp only [wKind, hc, if_true]
      rw [← hd]
    rw [ext_take, ← hl]
    cases hq : isIsName ((s.data.toList.drop k).take (wLen (s.data.toList.drop k)))
    · rw [hq] at hkd
      exact .inr ⟨hkd, 2, by decide, rfl⟩
    · rw [hq] at hkd
      refine .inl ⟨by rw [hkd]; decide, ?_⟩
      rw [hkd]; rfl
  · have hc' : letterB s[k] = false := by simpa using hc
    by_cases hg : digitB s[k] = true
    · have hl : wLen (s.data.toList.drop k) = numLen (s.data.toList.drop k) := by
        rw [hd]; simp only [wLen, hc', hg, if_true]; rfl
      have hle := wLen_le (s.data.toList.drop k)
      have hge := numLen_ge (s.data.toList.drop k)
      have hkd : wKind (s.data.toList.drop k) = if isNumL ((s.data.toList.drop k).take (wLen (s.data.toList.drop k))) then 2 else 0 := by
        conv => lhs; rw [hd]
        simp only [wKind, hc', hg, if_true]
        rw [← hd]; rfl
      obtain ⟨n, hn⟩ : ∃ n, n = runN digitB (s.data.toList.drop k) := ⟨_, rfl⟩
      have key : ∀ e w', (e = .returned (.tuple #[if isNumL (s.extract k (k + wLen (s.data.toList.drop k))).data.toList then .agg #[.int .i64 2, .int .i64 k, .string (s.extract k (k + wLen (s.data.toList.drop k)))] else .agg #[.int .i64 0, .int .i64 0, .string ⟨#[]⟩], .int .i64 (if isNumL (s.extract k (k + wLen (s.data.toList.drop k))).data.toList then 0 else 2)]) ∧ Below w.heap.size w w') → OneIs (s.data.toList.drop k) s k e ∧ Below w.heap.size w w' := by
        rintro e w' ⟨rfl, hb⟩
        refine ⟨?_, hb⟩
        rw [ext_take]
        cases hq : isNumL ((s.data.toList.drop k).take (wLen (s.data.toList.drop k)))
        · rw [hq] at hkd
          exact .inr ⟨hkd, 2, by decide, rfl⟩
        · rw [hq] at hkd
          refine .inl ⟨by rw [hkd]; decide, ?_⟩
          rw [hkd]; rfl
      have hN : numLen (s.data.toList.drop k) = if n + 1 < s.size - k ∧ s.data.toList[k + n]? = some 47 ∧ (s.data.toList[k + n + 1]?.any digitB) = true then n + 1 + runN digitB (s.data.toList.drop (k + n + 1)) else n := by
        rw [numLen, ← hn, hlen, List.getElem?_drop, List.getElem?_drop, List.drop_drop]
        simp only [Nat.add_assoc]
      by_cases h1 : k + n + 1 < s.size
      · have b1 : s.data.toList[k + n]? = some s[k + n] := byte_at (by omega)
        have b2 : s.data.toList[k + n + 1]? = some s[k + n + 1] := byte_at (by omega)
        rw [b1, b2] at hN
        by_cases h2 : (s[k + n].toNat : Int) = 47
        · have e2 : s[k + n] = 47 := beq_iff_eq.1 ((u8_eq _ _).2 h2)
          by_cases h3 : digitB s[k + n + 1] = true
          · rw [if_pos ⟨by omega, by rw [e2], by simpa using h3⟩] at hN
            have hm := runN_le digitB (s.data.toList.drop (k + n + 1))
            rw [drop_len] at hm
            refine (one_digit4 s (s.extract k (k + wLen (s.data.toList.drop k))) k n w hs hk hc' hg hn (by omega) h1 h2 h3 _ rfl (by omega) (by rw [hl, hN]; congr 1; omega) _ rfl).mono (key)
          · rw [if_neg (by rintro ⟨_, _, h⟩; exact h3 (by simpa using h))] at hN
            exact (one_digit3 s (s.extract k (k + wLen (s.data.toList.drop k))) k n w hs hk hc' hg hn (by omega) h1 h2 (by simpa using h3) (by rw [hl, hN]) _ rfl).mono key
        · rw [if_neg (by rintro ⟨_, h, _⟩; exact h2 (by rw [Option.some.inj h]; rfl))] at hN
          exact (one_digit2 s (s.extract k (k + wLen (s.data.toList.drop k))) k n w hs hk hc' hg hn (by omega) h1 h2 (by rw [hl, hN]) _ rfl).mono key
      · rw [if_neg (by rintro ⟨h, _⟩; omega)] at hN
        exact (one_digit1 s (s.extract k (k + wLen (s.data.toList.drop k))) k n w hs hk hc' hg hn (by omega) h1 (by rw [hl, hN]) _ rfl).mono key
    · have hg' : digitB s[k] = false := by simpa using hg
      have hl : wLen (s.data.toList.drop k) = 1 := by
        rw [hd]; simp only [wLen, hc', hg']; rfl
      have hkd : wKind (s.data.toList.drop k) = if signB s[k] then 3 else 0 := by
        rw [hd]; simp only [wKind, hc', hg']; rfl
      refine (one_sign s _ k w hs hk hc' hg' rfl _ rfl).mono ?_
      rintro e w' ⟨rfl, hb⟩
      refine ⟨?_, hb⟩
      cases hq : signB s[k]
      · rw [hq] at hkd
        exact .inr ⟨hkd, 15, by decide, rfl⟩
      · rw [hq] at hkd
        refine .inl ⟨by rw [hkd]; decide, ?_⟩
        rw [hkd, hl]; rfl
end Go.Proofs.Ytlikkcecgjnjeaa
