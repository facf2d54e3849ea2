/- The walk of gantkeep4.WordBlanks. -/
import Derived.Test.YtlikkcecgjnjeaaWordV
import Derived.Test.YtlikkcecgjnjeaaMakeB
import Derived.Test.YtlikkcecgjnjeaaWrite
namespace Go.Proofs.Ytlikkcecgjnjeaa
open Go.RowKit Go.Shelf
set_option linter.unusedVariables false

theorem write_k (B b : Nat) (l : List UInt8) (s : ByteArray) (w : World) (h : Lib.IsBuilderF 35 5 B b (Lib.byteCells l) w) (hlen : l.length + s.size ≤ 140737488355328) (hBw : B ≤ w.heap.size) :
    Calls Try.prog 9 #[.pointer (some ⟨b, 0, none⟩), .string s] w fun e w' => e = .returned (.tuple #[.int .i64 s.size, .nilIface]) ∧ Lib.IsBuilderF 35 5 B b (Lib.byteCells (l ++ s.data.toList)) w' ∧ Below B w w' ∧ Lib.OthersKept 5 (some b) w w' := by
  refine (Any.Builder_WriteString_k lays166 extra166 B b (Lib.byteCells l) s w h (by simpa [Lib.byteCells] using hlen) hBw).mono ?_
  rintro e w' ⟨rfl, h1, h2, h3⟩
  refine ⟨rfl, ?_, h2, h3⟩
  have : Lib.byteCells l ++ Lib.strCells s = Lib.byteCells (l ++ s.data.toList) := by simp [Lib.byteCells, Lib.strCells]
  rw [this] at h1
  exact .inr h1

def gapB : Nat → ByteArray
  | 0 => ⟨#[32]⟩
  | 1 => ⟨#[10]⟩
  | 2 => ⟨#[32, 32, 10, 32]⟩
  | 3 => ⟨#[32, 35, 32, 97, 32, 59, 32, 98, 10]⟩
  | _ => ⟨#[35, 123, 10]⟩
def gapRow : Array Value := #[.string ⟨#[32]⟩, .string ⟨#[10]⟩, .string ⟨#[32, 32, 10, 32]⟩, .string ⟨#[32, 35, 32, 97, 32, 59, 32, 98, 10]⟩, .string ⟨#[35, 123, 10]⟩]
theorem gap_at {r : Nat} (h : r < 5) : gapRow[r]? = some (.string (gapB r)) := by
  match r, h with
  | 0, _ => rfl
  | 1, _ => rfl
  | 2, _ => rfl
  | 3, _ => rfl
  | 4, _ => rfl
theorem gap_len {r : Nat} (h : r < 5) : (gapB r).size ≤ 9 := by
  match r, h with
  | 0, _ => decide
  | 1, _ => decide
  | 2, _ => decide
  | 3, _ => decide
  | 4, _ => decide
theorem gap_is {r : Nat} (h : r < 5) : IsGap (gapB r).data.toList := by
  match r, h with
  | 0, _ => exact gap_blank
  | 1, _ => exact ⟨⟨10, [], rfl, by decide⟩, fun rest => by simp [gapB, skipC, blankB]; omega⟩
  | 2, _ => exact ⟨⟨32, [32, 10, 32], rfl, by decide⟩, fun rest => by simp [gapB, skipC, blankB]; omega⟩
  | 3, _ => exact ⟨⟨32, [35, 32, 97, 32, 59, 32, 98, 10], rfl, by decide⟩, fun rest => by simp [gapB, skipC, blankB]; omega⟩
  | 4, _ => exact ⟨⟨35, [123, 10], rfl, by decide⟩, fun rest => by simp [gapB, skipC, blankB]; omega⟩

theorem lay_snoc : ∀ (gs : List (List UInt8)) (ws : List Wd) (g : List UInt8) (x : Wd), gs.length = ws.length → lay (gs ++ [g]) (ws ++ [x]) = lay gs ws ++ g ++ x.t := by
  intro gs
  induction gs with
  | nil => intro ws g x h; cases ws with | nil => simp [lay] | cons y ws => simp at h
  | cons a gs ih =>
    intro ws g x h
    cases ws with
    | nil => simp at h
    | cons y ws => simp only [List.cons_append, lay]; rw [ih ws g x (by simpa using h)]; simp
theorem wsum_append (a b : List Wd) : wsum (a ++ b) = wsum a + wsum b := by
  induction a with
  | nil => simp [wsum]
  | cons x a ih => simp [wsum, ih]; omega

/-- What has been written of the words, and with which gaps. -/
def Lain (gs : List (List UInt8)) (k : Nat) (ws : List Wd) (l : List UInt8) : Prop :=
  gs.length = k ∧ (∀ g ∈ gs, IsGap g) ∧ l = lay gs (ws.take k) ∧ l.length ≤ 9 * k + wsum (ws.take k)
theorem Lain.snoc {gs : List (List UInt8)} {k r : Nat} {ws : List Wd} {l : List UInt8} {x : Wd} (h : Lain gs k ws l) (hr : r < 5) (hx : ws[k]? = some x) : Lain (gs ++ [(gapB r).data.toList]) (k + 1) ws (l ++ (gapB r).data.toList ++ x.text.data.toList) := by
  obtain ⟨h1, h2, h3, h4⟩ := h
  have hk := lt_of_at hx
  have ht : ws.take (k + 1) = ws.take k ++ [x] := by rw [List.take_add_one, hx]; rfl
  refine ⟨by simp [h1], ?_, ?_, ?_⟩
  · intro g hg
    rcases List.mem_append.1 hg with hg | hg
    · exact h2 g hg
    · rw [List.mem_singleton.1 hg]; exact gap_is hr
  · rw [ht, lay_snoc _ _ _ _ (by rw [h1, List.length_take]; omega), ← h3]; rfl
  · rw [ht, wsum_append]
    have := gap_len hr
    have e1 : (gapB r).data.size = (gapB r).size := rfl
    have e2 : x.text.data.size = x.text.size := rfl
    simp only [List.length_append, Array.length_toList, wsum]
    omega
theorem Lain.read {gs : List (List UInt8)} {ws : List Wd} {l : List UInt8} (h : Lain gs ws.length ws l) (hg : ∀ x ∈ ws, GoodW x.kind x.t) (hl : l.length ≤ 4096) : ∃ vs, readS l = some vs ∧ SameW ws vs := by
  obtain ⟨h1, h2, h3, h4⟩ := h
  rw [List.take_length] at h3
  subst h3
  rw [readS, if_pos hl]
  have := read_lay ws gs 0 h1 h2 hg
  simpa using this

theorem wsum_take (ws : List Wd) (k : Nat) : wsum (ws.take k) ≤ wsum ws := by
  have : wsum ws = wsum (ws.take k) + wsum (ws.drop k) := by rw [← wsum_append, List.take_append_drop]
  omega
theorem Blk.kept {w w' : World} {g b : Nat} {t e : TypeId} {cs : Array Value} (h : Blk w g t cs) (hk : Lib.OthersKept e (some b) w w') (hb : g ≠ b) (ht : t ≠ e) : Blk w' g t cs :=
  hk g _ h (by simpa using hb) (fun c fz hc => by injection hc; exact ht (by assumption))
set_option maxHeartbeats 4000000 in
theorem WordBlanks_any (s : ByteArray) (A0 : Option Addr) (n0 c0 : Nat) (xs : List Int) (w : World) (hs : s.size ≤ maxLen) (hxs : IntArg w A0 n0 c0 xs) :
    Calls Try.prog 4 #[.string s, .slice A0 n0 c0] w fun e w' => e = .returned (.bool true) ∧ Below w.heap.size w w' := by
  obtain ⟨hxl, hn0, hc0, hx0, hxb⟩ := hxs
  subst hxl
  have X0 := Lib.hid hx0
  have XB := Lib.hid hxb
  clear hx0 hxb
  unfold maxLen at hc0
  go_enter Try.func4, Try.ntmps4
  go_wp2_with fail
  refine (Read_any s _ hs).mono ?_
  rintro e w1 ⟨v, er, rfl, hb, h⟩
  have B1 := Lib.hid hb
  have X1 := Lib.hid (X0.out.below hb)
  have hs1 := Lib.hid hb.size
  clear hb X0
  unfold maxLen at hs
  rcases h with ⟨rfl, ws, hws, hlen, ho⟩ | ⟨her, h⟩
  · obtain ⟨hp, hs4⟩ := placed_S hws
    have hlen4 : ws.length ≤ 4096 := by omega
    have G := Lib.hid (readS_good hws)
    have hsum : wsum ws ≤ s.size := by have := placed_sum hp (by omega); omega
    have T := Lib.hid (placed_text hp)
    obtain ⟨A, c, rfl⟩ := own_slice ho
    have O1 := Lib.hid ho
    clear ho hp hws
    go_wp2_with fail
    refine (worded_any _).mono ?_
    rintro e w2 ⟨rfl, hb⟩
    have B2 := Lib.hid (B1.out.trans (hb.mono hs1.out))
    have O2 := Lib.hid (own_bel O1.out hb)
    have X2 := Lib.hid (X1.out.below hb)
    have hs2 := Lib.hid B2.out.size
    clear hb O1 X1
    by_cases hlim : s.size ≤ 300
    · have hlim2 : (s.size : Int) ≤ 300 := by omega
      have F0 := Lib.hid (Lib.IsBuilderF.of (Lib.fresh_isBuilder 35 5 w2))
      have D0 := Lib.hid ((Below.refl w2.heap.size w2).alloc (Nat.le_refl _) (.cells #[.pointer none, .slice none 0 0] 35))
      go_wp2_with fail
      go_loopw [32] (fun i wr => ∃ (k : Nat) (gs : List (List UInt8)) (l : List UInt8), i = .int .i64 k ∧ k ≤ ws.length ∧ Hid (Lain gs k ws l) ∧ Hid (Lib.IsBuilderF 35 5 w2.heap.size w2.heap.size (Lib.byteCells l) wr) ∧ Hid (Below w2.heap.size w2 wr)) (fun i _ => ws.length - (intOf i).toNat)
      case atStart => exact ⟨0, [], [], rfl, by omega, ⟨rfl, by simp, rfl, by simp⟩, F0, D0⟩
      case round =>
        obtain ⟨k, gs, l, rfl, hk, Ll, Fl, Dl⟩ := hrel
        have hll : l.length ≤ 9 * k + wsum ws := by have := Ll.out.2.2.2; have := wsum_take ws k; omega
        by_cases hlt : k < ws.length
        · obtain ⟨x, hx⟩ := some_at hlt
          have Rl := Lib.hid ((RW.own O2.out).below Dl.out)
          have Xl := Lib.hid (X2.out.below Dl.out)
          obtain ⟨b, o, rfl, hb, hc⟩ := Rl.out (by omega)
          obtain ⟨d0, d1, d2⟩ := hc k x hx
          have xt := T.out x (List.mem_of_getElem? hx)
          have Hx := Lib.hid hx
          have Zl := Lib.hid Dl.out.size
          have D3 := Lib.hid (Dl.out.alloc Zl.out (.cells #[.int .i64 x.kind, .int .i64 x.pos, .string x.text] 28))
          have F3 := Lib.hid (Fl.out.alloc (.cells #[.int .i64 x.kind, .int .i64 x.pos, .string x.text] 28))
          have W3 := Lib.hid (Blk.new wr 28 #[.int .i64 x.kind, .int .i64 x.pos, .string x.text])
          have N3 : Hid (wr.heap.size ≠ w2.heap.size) := by
            have h1 := Zl.out
            rcases Fl.out with h | h
            · have := h.lt; unfold Hid; omega
            · have := h.lt; unfold Hid; omega
          clear hc hx
          by_cases hg : k < xs.length
          · obtain ⟨y, hy⟩ := some_at hg
            obtain ⟨b', o', rfl, hb', hc'⟩ := Xl.out (by omega)
            have d3 := hc' k y hy
            obtain ⟨yb1, yb2⟩ := XB.out y (List.mem_of_getElem? hy)
            clear hc' hy
            go_wp2_with fail
            refine (below_any y 5 _ (by omega) yb1 yb2 (by omega)).mono ?_
            rintro e w4 ⟨rfl, rfl⟩
            obtain ⟨r, hr, hr5⟩ : ∃ r : Nat, y % 5 = (r : Int) ∧ r < 5 := ⟨(y % 5).toNat, by omega, by omega⟩
            rw [hr]
            have d4 := (Blk.new (wr.alloc (.cells #[.int .i64 x.kind, .int .i64 x.pos, .string x.text] 28)) 9 gapRow).cell r
            rw [gap_at hr5] at d4
            simp only [World.size_alloc, gapRow] at d4
            have hrI : (r : Int) < 5 := by omega
            have Z3 := Lib.hid D3.out.size
            have D4 := Lib.hid (D3.out.alloc Z3.out (.cells gapRow 9))
            have F4 := Lib.hid (F3.out.alloc (.cells gapRow 9))
            have W4 := Lib.hid (W3.out.alloc (.cells gapRow 9))
            have Z4 := Lib.hid D4.out.size
            have hgl := gap_len hr5
            clear hr
            go_wp2_with fail
            refine (write_k _ _ l (gapB r) _ F4.out (by omega) Z4.out).mono ?_
            rintro e w5 ⟨rfl, hf, hb, hk5⟩
            have F5 := Lib.hid hf
            have D5 := Lib.hid (D4.out.trans hb)
            have W5 := Lib.hid (W4.out.kept hk5 N3.out (by decide))
            have Z5 := Lib.hid D5.out.size
            have d5 := W5.out.cell 2
            clear hf hb hk5 d4
            go_wp2_with fail
            refine (write_k _ _ _ x.text _ F5.out (by simp only [List.length_append, Array.length_toList]; have e1 : (gapB r).data.size = (gapB r).size := rfl; omega) Z5.out).mono ?_
            rintro e w6 ⟨rfl, hf, hb, hk6⟩
            have F6 := Lib.hid hf
            have D6 := Lib.hid (D5.out.trans hb)
            clear hf hb hk6 d5
            go_wp2_with fail
            go_roundw
            case rel => exact ⟨k + 1, _, _, by go_num, hlt, Ll.out.snoc hr5 Hx.out, F6, D6⟩
            case measure => simp [intOf]; omega
          · go_wp2_with fail
            refine (below_any 0 5 _ (by omega) (by omega) (by omega) (by omega)).mono ?_
            rintro e w4 ⟨rfl, rfl⟩
            obtain ⟨r, hr, hr5⟩ : ∃ r : Nat, (0 : Int) % 5 = (r : Int) ∧ r < 5 := ⟨((0 : Int) % 5).toNat, by omega, by omega⟩
            rw [hr]
            have d4 := (Blk.new (wr.alloc (.cells #[.int .i64 x.kind, .int .i64 x.pos, .string x.text] 28)) 9 gapRow).cell r
            rw [gap_at hr5] at d4
            simp only [World.size_alloc, gapRow] at d4
            have hrI : (r : Int) < 5 := by omega
            have Z3 := Lib.hid D3.out.size
            have D4 := Lib.hid (D3.out.alloc Z3.out (.cells gapRow 9))
            have F4 := Lib.hid (F3.out.alloc (.cells gapRow 9))
            have W4 := Lib.hid (W3.out.alloc (.cells gapRow 9))
            have Z4 := Lib.hid D4.out.size
            have hgl := gap_len hr5
            clear hr
            go_wp2_with fail
            refine (write_k _ _ l (gapB r) _ F4.out (by omega) Z4.out).mono ?_
            rintro e w5 ⟨rfl, hf, hb, hk5⟩
            have F5 := Lib.hid hf
            have D5 := Lib.hid (D4.out.trans hb)
            have W5 := Lib.hid (W4.out.kept hk5 N3.out (by decide))
            have Z5 := Lib.hid D5.out.size
            have d5 := W5.out.cell 2
            clear hf hb hk5 d4
            go_wp2_with fail
            refine (write_k _ _ _ x.text _ F5.out (by simp only [List.length_append, Array.length_toList]; have e1 : (gapB r).data.size = (gapB r).size := rfl; omega) Z5.out).mono ?_
            rintro e w6 ⟨rfl, hf, hb, hk6⟩
            have F6 := Lib.hid hf
            have D6 := Lib.hid (D5.out.trans hb)
            clear hf hb hk6 d5
            go_wp2_with fail
            go_roundw
            case rel => exact ⟨k + 1, _, _, by go_num, hlt, Ll.out.snoc hr5 Hx.out, F6, D6⟩
            case measure => simp [intOf]; omega
        · have hks : k = ws.length := by omega
          subst hks
          have Zl := Lib.hid Dl.out.size
          have hl4 : l.length ≤ 4096 := by omega
          obtain ⟨vs, hvs, hsame⟩ := Ll.out.read (fun x hx => (G.out x hx).1) hl4
          have VS := Lib.hid hvs
          have SM := Lib.hid hsame
          have hvl := Lib.hid hsame.len
          have O3 := Lib.hid (own_bel O2.out Dl.out)
          clear hvs hsame
          go_wp2_with fail
          refine (Try.Builder_String_any_f _ _ l _ Fl.out Zl.out).mono ?_
          rintro e w3 ⟨rfl, _, hb⟩
          have B3 := Lib.hid (B2.out.trans ((Dl.out.trans hb).mono hs2.out))
          have O4 := Lib.hid (own_bel O2.out (Dl.out.trans hb))
          have hs3 := Lib.hid B3.out.size
          clear hb O3
          obtain ⟨j, hj⟩ : ∃ j : ByteArray, j = ⟨l.toArray⟩ := ⟨_, rfl⟩
          rw [← hj]
          have hjs : j.size ≤ 4096 := by rw [hj]; simpa [ByteArray.size] using hl4
          have VJ : Hid (readS j.data.toList = some vs) := by rw [hj]; exact VS.out
          clear hj
          go_wp2_with fail
          refine (Read_any j _ (by unfold maxLen; omega)).mono ?_
          rintro e w4 ⟨v', er', rfl, hb, h4⟩
          have B4 := Lib.hid (B3.out.trans (hb.mono hs3.out))
          have O5 := Lib.hid (own_bel O4.out hb)
          have hs4 := Lib.hid B4.out.size
          clear hb
          have h4' : er' = 0 ∧ w4.ownsRow w3.heap.size 28 3 v' vs.length (wcells vs) := by
            rcases h4 with ⟨rfl, vs', h5, _, ho'⟩ | ⟨_, h5⟩
            · rw [VJ.out] at h5; cases h5; exact ⟨rfl, ho'⟩
            · rw [VJ.out] at h5; cases h5
          obtain ⟨rfl, ho'⟩ := h4'
          have P4 := Lib.hid ho'
          clear h4 ho'
          go_wp2_with fail
          refine (texts_any _ _ ws _ O5.out hlen4).mono ?_
          rintro e w5 ⟨A5, c5, rfl, hr5, hb⟩
          have R5 := Lib.hid hr5
          have B5 := Lib.hid (B4.out.trans (hb.mono hs4.out))
          have P5 := Lib.hid (own_bel P4.out hb)
          have hs5 := Lib.hid B5.out.size
          clear hb hr5
          go_wp2_with fail
          refine (texts_any _ _ vs _ P5.out (by have := hvl.out; omega)).mono ?_
          rintro e w6 ⟨A6, c6, rfl, hr6, hb⟩
          rw [← SM.out.zero] at hr6
          have R6 := Lib.hid hr6
          have R7 := Lib.hid (R5.out.below hb)
          have B6 := Lib.hid (B5.out.trans (hb.mono hs5.out))
          clear hb hr6
          go_wp2_with fail
          refine (weq_any A5 A6 ws.length vs.length c5 c6 (ws.map Wd.zero) _ (by simp) (by have := hvl.out; simp; omega) (by simp; omega) R7.out R6.out).mono ?_
          rintro e w7 ⟨rfl, n, rfl⟩
          go_wp2_with fail
          go_ret
          exact ⟨rfl, below_drewN B6.out n⟩
    · go_wp2_with fail
      refine (worded_any _).mono ?_
      rintro e w3 ⟨rfl, hb⟩
      have B3 := Lib.hid (B2.out.trans (hb.mono hs2.out))
      clear hb
      go_wp2_with fail
      go_ret
      exact ⟨rfl, B3.out⟩
  · have her2 : (er != 0) = true := by simpa using her
    clear her
    go_wp2_with fail
    refine (worded_any _).mono ?_
    rintro e w2 ⟨rfl, hb⟩
    have B2 := Lib.hid (B1.out.trans (hb.mono hs1.out))
    have hs2 := Lib.hid B2.out.size
    clear hb
    go_wp2_with fail
    refine (worded_any _).mono ?_
    rintro e w3 ⟨rfl, hb⟩
    have B3 := Lib.hid (B2.out.trans (hb.mono hs2.out))
    clear hb
    go_wp2_with fail
    go_ret
    exact ⟨rfl, B3.out⟩
end Go.Proofs.Ytlikkcecgjnjeaa
