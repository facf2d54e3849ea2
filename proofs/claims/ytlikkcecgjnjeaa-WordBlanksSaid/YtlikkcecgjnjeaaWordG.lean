/- The walk of word.Read. -/
import Derived.Test.YtlikkcecgjnjeaaWordF
namespace Go.Proofs.Ytlikkcecgjnjeaa
open Go.RowKit
set_option linter.unusedVariables false

structure Wd where
  kind : Nat
  pos : Nat
  text : ByteArray
def Wd.cells (x : Wd) : List Value := [.int .i64 x.kind, .int .i64 x.pos, .string x.text]
def wcells (ws : List Wd) : List Value := ws.flatMap Wd.cells
theorem wcells_len (ws : List Wd) : (wcells ws).length = ws.length * 3 := by
  induction ws with
  | nil => rfl
  | cons u us ih => simp only [wcells, List.flatMap_cons, List.length_append] at ih ⊢; rw [ih]; simp [Wd.cells]; omega
theorem wcells_snoc (ws : List Wd) (u : Wd) : wcells (ws ++ [u]) = wcells ws ++ u.cells := by simp [wcells]
theorem wcells_at {us : List Wd} {j : Nat} {u : Wd} (h : us[j]? = some u) : (wcells us)[j * 3]? = some (.int .i64 u.kind) ∧ (wcells us)[j * 3 + 1]? = some (.int .i64 u.pos) ∧ (wcells us)[j * 3 + 2]? = some (.string u.text) := by
  induction us generalizing j with
  | nil => simp at h
  | cons v us ih =>
    rcases j with _ | j
    · simp at h; subst h; simp [wcells, Wd.cells]
    · have h' : us[j]? = some u := by simpa using h
      obtain ⟨h1, h2, h3⟩ := ih h'
      simp only [wcells, List.flatMap_cons] at h1 h2 h3 ⊢
      have e : v.cells.length = 3 := rfl
      refine ⟨?_, ?_, ?_⟩
      · rw [List.getElem?_append_right (by omega), e, ← h1]; congr 1; omega
      · rw [List.getElem?_append_right (by omega), e, ← h2]; congr 1; omega
      · rw [List.getElem?_append_right (by omega), e, ← h3]; congr 1; omega
theorem wcells_one (us : List Wd) : ∀ u ∈ wcells us, u.oneCell' = true := by
  intro u hu
  obtain ⟨x, _, hx⟩ := List.mem_flatMap.1 hu
  simp [Wd.cells] at hx
  rcases hx with rfl | rfl | rfl <;> rfl

def readW (pos : Nat) (l : List UInt8) : Option (List Wd) :=
  match l with
  | [] => some []
  | c :: r =>
    if wKind (c :: r) = 0 then none
    else (readW (pos + wLen (c :: r) + skipC false ((c :: r).drop (wLen (c :: r)))) (((c :: r).drop (wLen (c :: r))).drop (skipC false ((c :: r).drop (wLen (c :: r)))))).map (⟨wKind (c :: r), pos, ⟨((c :: r).take (wLen (c :: r))).toArray⟩⟩ :: ·)
termination_by l.length
decreasing_by
  have := wLen_pos c r
  simp only [List.length_drop, List.length_cons]
  omega
/-- The words of a text, or none where it has an error. -/
def readS (l : List UInt8) : Option (List Wd) := if l.length ≤ 4096 then readW (skipC false l) (l.drop (skipC false l)) else none

theorem own_bel {w w' : World} {base : Nat} {e : TypeId} {size n : Nat} {v : Value} {xs : List Value} (h : w.ownsRow base e size v n xs) (hb : Below w.heap.size w w') : w'.ownsRow base e size v n xs := by
  refine ⟨h.1, ?_⟩
  rcases h.2 with hn | ⟨g, cap, cur, rfl, hbb, hg, rest⟩
  · exact .inl hn
  · exact .inr ⟨g, cap, cur, rfl, hbb, (hb.block g (Array.getElem?_eq_some_iff.1 hg).1).trans hg, rest⟩

/-- A slice that reads as a list of words. -/
def RW (w : World) (A : Option Addr) (ws : List Wd) : Prop :=
  0 < ws.length → ∃ b o, A = some ⟨b, o, none⟩ ∧ b < w.heap.size ∧ ∀ j u, ws[j]? = some u → w.cell? ⟨b, o + j * 3, none⟩ = some (.int .i64 u.kind) ∧ w.cell? ⟨b, o + j * 3 + 1, none⟩ = some (.int .i64 u.pos) ∧ w.cell? ⟨b, o + j * 3 + 2, none⟩ = some (.string u.text)

theorem ext_eq (s : ByteArray) (k n : Nat) : s.extract k (k + n) = ⟨((s.data.toList.drop k).take n).toArray⟩ := by
  have := ext_take s k n
  generalize s.extract k (k + n) = u at this
  cases u with
  | mk d => simp only at this; rw [← this]

theorem skip_at (s : ByteArray) (z : Int) (a m : Nat) (w : World) (hz : z = a) (hs : s.size ≤ 4096) (ha : a ≤ s.size) (M : Hid (m = a + skipC false (s.data.toList.drop a))) :
    Calls Try.prog 15 #[.string s, .int .i64 z] w fun e w' => e = .returned (.int .i64 m) ∧ w = w' := by
  subst hz
  refine (skip_any s a w hs ha).mono ?_
  rintro e w' ⟨rfl, rfl⟩
  exact ⟨ret_int (by rw [← M.out]), rfl⟩
theorem readW_step {k : Nat} {l : List UInt8} (hl : l ≠ []) (h : wKind l ≠ 0) : readW k l = (readW (k + wLen l + skipC false (l.drop (wLen l))) ((l.drop (wLen l)).drop (skipC false (l.drop (wLen l))))).map (⟨wKind l, k, ⟨(l.take (wLen l)).toArray⟩⟩ :: ·) := by
  cases l with
  | nil => exact absurd rfl hl
  | cons c r => rw [readW, if_neg h]
theorem readW_bad {k : Nat} {l : List UInt8} (hl : l ≠ []) (h : wKind l = 0) : readW k l = none := by
  cases l with
  | nil => exact absurd rfl hl
  | cons c r => rw [readW, if_pos h]

set_option maxHeartbeats 4000000 in
theorem Read_any (s : ByteArray) (w : World) (hs : s.size ≤ maxLen) :
    Calls Try.prog 6 #[.string s] w fun e w' => ∃ v er, e = .returned (.tuple #[v, .int .i64 er]) ∧ Below w.heap.size w w' ∧
      ((er = 0 ∧ ∃ ws, readS s.data.toList = some ws ∧ ws.length ≤ s.size ∧ w'.ownsRow w.heap.size 28 3 v ws.length (wcells ws)) ∨ (er ≠ 0 ∧ readS s.data.toList = none)) := by
  unfold maxLen at hs
  by_cases hsz : s.size ≤ 4096
  · have H0 : Hid (readS s.data.toList = readW (skipC false s.data.toList) (s.data.toList.drop (skipC false s.data.toList))) := by
      unfold Hid; rw [readS, if_pos (by simpa using hsz)]
    have hle := skipC_le false s.data.toList
    have hk0 : skipC false s.data.toList ≤ s.size := by simpa using hle
    obtain ⟨k0, hk0e⟩ : ∃ k0, k0 = skipC false s.data.toList := ⟨_, rfl⟩
    rw [← hk0e] at hk0 H0
    have K0 := Lib.hid hk0e
    obtain ⟨j0, ji, jz0, jz1, jz2⟩ := info_parts info_word
    clear hk0e hle
    go_enter Try.func6, Try.ntmps6
    go_wp2_with fail
    refine (skip_any s 0 _ hsz (by omega)).mono ?_
    rintro e w' ⟨rfl, rfl⟩
    rw [show ((0 + skipC false (s.data.toList.drop 0) : Nat) : Int) = (k0 : Nat) by rw [K0.out]; simp]
    go_wp2_with fail
    go_loopw [5, 4] (fun a vs wr => ∃ (k : Nat) (ws : List Wd) (v : Value), v = vs ∧ a = .int .i64 k ∧ k ≤ s.size ∧ ws.length ≤ k ∧ Hid (readS s.data.toList = (readW k (s.data.toList.drop k)).map (ws ++ ·)) ∧ Hid (wr.ownsRow w.heap.size 28 3 v ws.length (wcells ws)) ∧ Hid (Below w.heap.size w wr)) (fun a v _ => s.size - (intOf a).toNat)
    case atStart => exact ⟨k0, [], _, rfl, rfl, hk0, by simp, by rw [Hid, H0.out]; simp, World.ownsRow_nil _ _ _ _, Below.refl _ _⟩
    case round =>
      obtain ⟨k, ws, v, rfl, rfl, hk, hws, hread, O1, B1⟩ := hrel
      by_cases hlt : k < s.size
      · have hd := Lib.hid (drop_at hlt)
        have hB1 : w.heap.size ≤ wr.heap.size := B1.out.size
        by_cases hkd : wKind (s.data.toList.drop k) = 0
        · have hfin : readS s.data.toList = none := by
            rw [hread.out, hd.out, readW, if_pos (by rw [← hd.out]; exact hkd)]; rfl
          have Hfin := Lib.hid hfin
          have Hkd := Lib.hid hkd
          clear hfin hkd
          go_wp2_with fail
          refine (one_any s k _ hsz hlt).mono ?_
          rintro e w1 ⟨hone, hb⟩
          rcases hone with ⟨h, _⟩ | ⟨_, er, her, rfl⟩
          · exact absurd Hkd.out h
          have her2 : (er != 0) = true := by simpa using her
          have B2 := Lib.hid (B1.out.trans (hb.mono hB1))
          have E := Lib.hid her
          clear her hb
          go_wp2_with fail
          go_ret2
          exact ⟨_, _, rfl, B2.out.alloc B2.out.size _, .inr ⟨E.out, Hfin.out⟩⟩
        · obtain ⟨u, hu⟩ : ∃ u, s.extract k (k + wLen (s.data.toList.drop k)) = u := ⟨_, rfl⟩
          obtain ⟨kd, hkde⟩ : ∃ kd, wKind (s.data.toList.drop k) = kd := ⟨_, rfl⟩
          have hnil : s.data.toList.drop k ≠ [] := by rw [hd.out]; simp
          have hn : wLen (s.data.toList.drop k) = u.size := by
            have := wLen_le (s.data.toList.drop k)
            rw [drop_len] at this
            rw [← hu, ext_size _ _ _ (by omega)]; omega
          have hku : k + u.size ≤ s.size := by
            have := wLen_le (s.data.toList.drop k)
            rw [drop_len] at this
            omega
          have hu1 : 1 ≤ u.size := by rw [← hn, hd.out]; exact wLen_pos _ _
          have hut : (⟨((s.data.toList.drop k).take u.size).toArray⟩ : ByteArray) = u := by rw [← hn, ← ext_eq]; exact hu
          obtain ⟨m, hm⟩ : ∃ m, m = k + u.size + skipC false (s.data.toList.drop (k + u.size)) := ⟨_, rfl⟩
          have hms : m ≤ s.size := by
            have := skipC_le false (s.data.toList.drop (k + u.size))
            rw [drop_len] at this
            omega
          have hkm : k + 1 ≤ m := by omega
          have M := Lib.hid hm
          have hrd : Hid (readS s.data.toList = (readW m (s.data.toList.drop m)).map ((ws ++ [⟨kd, k, u⟩]) ++ ·)) := by
            unfold Hid
            rw [hread.out, readW_step hnil hkd, hn, List.drop_drop, List.drop_drop, ← hm, Option.map_map]
            congr 1
            funext x
            simp only [Function.comp, List.append_assoc, List.singleton_append]
            rw [hkde, hut]
          have Hkd := Lib.hid hkd
          have U := Lib.hid hu
          have KD := Lib.hid hkde
          have Hnil := Lib.hid hnil
          clear hu hkde hnil hn hm hkd hut
          go_wp2_with fail
          refine (one_any s k _ hsz hlt).mono ?_
          rintro e w1 ⟨hone, hb⟩
          have he : e = .returned (.tuple #[.agg #[.int .i64 kd, .int .i64 k, .string u], .int .i64 0]) := by
            rcases hone with ⟨_, h⟩ | ⟨h, _⟩
            · rw [h, KD.out, U.out]
            · exact absurd h Hkd.out
          subst he
          have B2 := Lib.hid (B1.out.trans (hb.mono hB1))
          have O2 := Lib.hid (own_bel O1.out hb)
          have hs2 := B2.out.size
          have B3 := Lib.hid (B2.out.alloc hs2 (.cells #[.int .i64 kd, .int .i64 k, .string u] 28))
          have X3 := Lib.hid (Blk.new w1 28 #[.int .i64 kd, .int .i64 k, .string u])
          have O3 := Lib.hid (O2.out.alloc (.cells #[.int .i64 kd, .int .i64 k, .string u] 28))
          have Z3 := Lib.hid B3.out.size
          have B4 := Lib.hid (B3.out.alloc Z3.out (.cells #[.int .i64 kd, .int .i64 k, .string u] 28))
          have X4 := Lib.hid (X3.out.alloc (.cells #[.int .i64 kd, .int .i64 k, .string u] 28))
          have R4 := Lib.hid (Src.new (m := 1) (c := 1) (size := 3) (Blk.new (w1.alloc (.cells #[.int .i64 kd, .int .i64 k, .string u] 28)) 28 #[.int .i64 kd, .int .i64 k, .string u]) rfl)
          have O4 := Lib.hid (O3.out.alloc (.cells #[.int .i64 kd, .int .i64 k, .string u] 28))
          have Z4 := Lib.hid B4.out.size
          have N4 : Hid (∀ y ∈ (#[.int .i64 kd, .int .i64 k, .string u] : Array Value).toList, y.oneCell' = true) := by intro y hy; simp at hy; rcases hy with rfl | rfl | rfl <;> rfl
          have E4 : Hid (some w1.heap.size ≠ v.ownBlock) := fun h => Nat.lt_irrefl _ (O2.out.lt _ h.symm).2
          simp only [World.size_alloc] at R4
          clear hone hb
          go_wp2_with (at_builtin; refine wpList_append_src _ rfl (.tmp 26) (.tmp 28) 22 rfl w.heap.size 28 j0 _ 3 32 Try.underlying22 ji jz0 jz1 jz2 rfl (by decide) _ ws.length (wcells ws) rfl O4.out 1 _ _ rfl R4.out N4.out (by unfold maxLen; omega) (by omega) Z4.out ?_; intro v7 w7 hown7 hg7; have B7 := Lib.hid (below_append B4.out O4.out hg7 Z4.out); have X7 := Lib.hid (X4.out.grown hg7 E4.out); have O7 := Lib.hid hown7; have d2 := X7.out.cell 2; clear hown7 hg7)
          refine (skip_at s _ (k + u.size) m _ (by omega) hsz hku M).mono ?_
          rintro e w8 ⟨rfl, rfl⟩
          go_wp2_with fail
          go_roundw
          case rel => exact ⟨m, ws ++ [⟨kd, k, u⟩], _, rfl, rfl, hms, by simp; omega, hrd, by rw [Hid, wcells_snoc, List.length_append]; exact O7.out, B7⟩
          case measure => simp [intOf]; omega
      · have hks : k = s.size := by omega
        have hfin : Hid (readS s.data.toList = some ws) := by
          unfold Hid
          rw [hread.out, List.drop_eq_nil_of_le (by simp [hks]), readW]
          simp
        clear hks
        go_wp2_with fail
        go_ret2
        exact ⟨_, _, rfl, B1.out, .inl ⟨rfl, ws, hfin.out, by omega, O1.out⟩⟩
  · have hfin : Hid (readS s.data.toList = none) := by
      unfold Hid
      rw [readS, if_neg (by simpa using hsz)]
    go_enter Try.func6, Try.ntmps6
    go_wp2_with fail
    go_ret2
    exact ⟨_, _, rfl, Below.refl _ _, .inr ⟨by decide, hfin.out⟩⟩
end Go.Proofs.Ytlikkcecgjnjeaa
