/- msg.number, msg.Sum. Printed by gen/logs.py. · the four bytes of a number. Printed by gen/logs.py. · Views of cells; append of a view; parts of slices. No walk. -/
import Derived.Test.YthepafendopfhaaTl9
import Derived.Test.YthepafendopfhaaTl8
import Derived.Test.YthepafendopfhaaTl4
import Derived.Deep.Upon
namespace Go.Proofs.Ythepafendopfhaa
open Go.RowKit
set_option linter.unusedVariables false
set_option maxRecDepth 100000

/-- A view of bytes: they lie from somewhere in a block on. -/
def BV (w : World) (A : Option Addr) (xs : List Int) : Prop := 0 < xs.length → ∃ b o, A = some ⟨b, o, none⟩ ∧ b < w.heap.size ∧ ∀ (j : Nat) (x : Int), xs[j]? = some x → w.cell? ⟨b, o + j, none⟩ = some (.int .u8 x)
/-- Numbers that are bytes. -/
def Byt (xs : List Int) : Prop := ∀ x ∈ xs, 0 ≤ x ∧ x < 256
/-- The number that bytes mean. -/
def numB (xs : List Int) : Int := xs.foldl (fun a b => a * 256 + b) 0
theorem numB_snoc (xs : List Int) (x : Int) : numB (xs ++ [x]) = numB xs * 256 + x := by
  unfold numB
  rw [List.foldl_append]
  rfl
theorem numB_take {xs : List Int} {i : Nat} {x : Int} (h : xs[i]? = some x) : numB (xs.take (i + 1)) = numB (xs.take i) * 256 + x := by
  rw [List.take_add_one, h]
  exact numB_snoc _ _
theorem numB_lt_aux : ∀ (n : Nat) (xs : List Int), xs.length = n → Byt xs → 0 ≤ numB xs ∧ numB xs < 256 ^ n
  | 0, xs, h, _ => by
    obtain rfl := List.eq_nil_of_length_eq_zero h
    exact ⟨by decide, by decide⟩
  | n + 1, xs, h, hb => by
    have hne : xs ≠ [] := by
      intro e
      rw [e] at h
      cases h
    have e := List.dropLast_concat_getLast hne
    rw [← e, numB_snoc]
    have h1 := hb _ (List.getLast_mem hne)
    have h2 := numB_lt_aux n xs.dropLast (by rw [List.length_dropLast, h]; rfl) fun z hz => hb z ((List.dropLast_sublist xs).subset hz)
    rw [Int.pow_succ]
    omega
theorem numB_lt {xs : List Int} {k : Nat} (hb : Byt xs) (h : xs.length ≤ k) : 0 ≤ numB xs ∧ numB xs < 256 ^ k := by
  obtain ⟨h1, h2⟩ := numB_lt_aux xs.length xs rfl hb
  refine ⟨h1, Int.lt_of_lt_of_le h2 ?_⟩
  exact_mod_cast Nat.pow_le_pow_right (show 0 < 256 by decide) h
theorem or_add (a b : Nat) (hb : b < 256) : a * 256 ||| b = a * 256 + b := by
  have := Nat.two_pow_add_eq_or_of_lt (i := 8) (b := b) (by omega) a
  rw [Nat.mul_comm a 256]
  exact this.symm
theorem bits_or_u32 (a b : Nat) (ha : a < 4294967296) (hb : b < 4294967296) : bits .or .u32 (a : Int) (b : Int) = ((a ||| b : Nat) : Int) := by
  have hx : a ||| b < 2 ^ 32 := Nat.or_lt_two_pow (by omega) (by omega)
  have h1 : (BitVec.ofInt 32 (a : Int)).toNat = a := by
    rw [BitVec.ofInt_natCast, BitVec.toNat_ofNat]; exact Nat.mod_eq_of_lt (by omega)
  have h2 : (BitVec.ofInt 32 (b : Int)).toNat = b := by
    rw [BitVec.ofInt_natCast, BitVec.toNat_ofNat]; exact Nat.mod_eq_of_lt (by omega)
  show IntKind.u32.wrap ((BitVec.ofInt 32 (a : Int) ||| BitVec.ofInt 32 (b : Int)).toNat : Int) = _
  rw [BitVec.toNat_or, h1, h2]
  simp only [IntKind.wrap, IntKind.bits, IntKind.signed]
  simp
  omega
theorem or256 {a x : Int} (ha : 0 ≤ a ∧ a < 256 ^ 3) (hx : 0 ≤ x ∧ x < 256) : bits .or .u32 (a * 256 % 4294967296) (x % 4294967296) = a * 256 + x := by
  obtain ⟨n, rfl⟩ := Int.eq_ofNat_of_zero_le ha.1
  obtain ⟨m, rfl⟩ := Int.eq_ofNat_of_zero_le hx.1
  have h3 : (256 : Int) ^ 3 = 16777216 := by decide
  rw [h3] at ha
  rw [Int.emod_eq_of_lt (by omega) (by omega), Int.emod_eq_of_lt (by omega) (by omega)]
  have h := bits_or_u32 (n * 256) m (by omega) (by omega)
  rw [or_add n m (by omega)] at h
  simpa using h
/-- The checksum, round by round. -/
def crcF (s : Int) : Int := bits .xor .u32 (s / 2) (3988292384 * bits .and .u32 s 1 % 4294967296)
def crcN : Nat → Int → Int
  | 0, s => s
  | n + 1, s => crcF (crcN n s)
def crcX (s x : Int) : Int := crcN 8 (bits .xor .u32 s (x % 4294967296))
def crcL (xs : List Int) : Int := xs.foldl crcX 4294967295
theorem crcL_take {xs : List Int} {i : Nat} {x : Int} (h : xs[i]? = some x) : crcL (xs.take (i + 1)) = crcX (crcL (xs.take i)) x := by
  unfold crcL
  rw [List.take_add_one, h, List.foldl_append]
  rfl
def crc (xs : List Int) : Int := bits .xor .u32 IntKind.u32.max (crcL xs)
theorem crc_range (xs : List Int) : 0 ≤ crc xs ∧ crc xs < 4294967296 := by
  have h1 : 0 ≤ crc xs := bits_lo_u32 _ _ _
  have h2 : crc xs ≤ 4294967295 := bits_hi_u32 _ _ _
  omega
theorem kByt_ : ∃ d, Try.prog.underlying 5 = some d ∧ d.isRow = false := ⟨_, Try.underlying5, rfl⟩
theorem sByt_ : (Try.prog.info? 5).map (·.size) = some 1 := by kernel_rfl

set_option maxHeartbeats 4000000 in
theorem number_any (A : Option Addr) (n c : Nat) (xs : List Int) (w : World) (hR : BV w A xs) (hn : xs.length = n) (hm : n ≤ 4) (hb : Byt xs) :
    Calls Try.prog 31 #[.slice A n c] w fun e w' => e = .returned (.int .u32 (numB xs)) ∧ w = w' := by
  have HR := Lib.hid hR; clear hR
  have HB := Lib.hid hb; clear hb
  go_enter Try.func31, Try.ntmps31
  go_wp2_with (first
      | go_skip)
  go_loopw [3, 8] (fun v_ i_ wr => ∃ i : Nat, i_ = .int .i64 i ∧ i ≤ n ∧ v_ = .int .u32 (numB (xs.take i)) ∧ w = wr) (fun _ i_ _ => n - (intOf i_).toNat)
  case atStart => exact ⟨0, rfl, by omega, rfl, rfl⟩
  case round =>
    obtain ⟨i, rfl, hi, rfl, rfl⟩ := hrel
    by_cases hlt : i < n
    · obtain ⟨x, hx⟩ : ∃ x, xs[i]? = some x := ⟨_, List.getElem?_eq_getElem (by rw [hn]; exact hlt)⟩
      obtain ⟨b, o, rfl, hbs, hc⟩ := HR.out (by have := lt_of_at hx; omega)
      have X := Lib.hid (hc i x hx)
      have HX := Lib.hid hx
      clear hx hc hbs
      go_wp2_with (first
          | go_skip
          | ((with_reducible refine isLoad ?_); refine ld1X X ?_ (hT := kByt_)))
      go_roundw
      case rel => exact ⟨i + 1, by go_num, by omega, by rw [numB_take HX.out, or256 (numB_lt (fun z hz => HB.out z (List.mem_of_mem_take hz)) (k := 3) (by rw [List.length_take]; omega)) (HB.out x (List.mem_of_getElem? HX.out))], trivial⟩
      case measure => simp [intOf]; omega
    · obtain rfl : i = n := by omega
      have ht : xs.take i = xs := List.take_of_length_le (by omega)
      go_wp2_with (first
          | go_skip)
      go_ret
      exact ⟨by show Ending.returned (.int .u32 (numB (xs.take i))) = _; rw [ht], rfl⟩
set_option maxHeartbeats 4000000 in
theorem Sum_any (A : Option Addr) (n c : Nat) (xs : List Int) (w : World) (hR : BV w A xs) (hn : xs.length = n) (hm : n ≤ 100000) :
    Calls Try.prog 30 #[.slice A n c] w fun e w' => e = .returned (.int .u32 (crc xs)) ∧ w = w' := by
  have HR := Lib.hid hR; clear hR
  go_enter Try.func30, Try.ntmps30
  go_wp2_with (first
      | go_skip)
  go_loopw [3, 8] (fun v_ i_ wr => ∃ i : Nat, i_ = .int .i64 i ∧ i ≤ n ∧ v_ = .int .u32 (crcL (xs.take i)) ∧ w = wr) (fun _ i_ _ => n - (intOf i_).toNat)
  case atStart => exact ⟨0, rfl, by omega, rfl, rfl⟩
  case round =>
    obtain ⟨i, rfl, hi, rfl, rfl⟩ := hrel
    by_cases hlt : i < n
    · obtain ⟨x, hx⟩ : ∃ x, xs[i]? = some x := ⟨_, List.getElem?_eq_getElem (by rw [hn]; exact hlt)⟩
      obtain ⟨b, o, rfl, hbs, hc⟩ := HR.out (by have := lt_of_at hx; omega)
      have X := Lib.hid (hc i x hx)
      have HX := Lib.hid hx
      clear hx hc hbs
      go_wp2_with (first
          | go_skip
          | ((with_reducible refine isLoad ?_); refine ld1X X ?_ (hT := kByt_)))
      obtain ⟨s0, hs0⟩ : ∃ s0, bits BinOp.xor IntKind.u32 (crcL (xs.take i)) (x % 4294967296) = s0 := ⟨_, rfl⟩
      rw [hs0]
      have HS0 := Lib.hid hs0
      clear hs0
      go_loopw [3, 16] (fun v_ q_ wr => ∃ q : Nat, q_ = .int .i64 q ∧ q ≤ 8 ∧ v_ = .int .u32 (crcN q s0) ∧ w = wr) (fun _ q_ _ => 8 - (intOf q_).toNat)
      case atStart => exact ⟨0, rfl, by omega, rfl, rfl⟩
      case round =>
        obtain ⟨q, rfl, hq, rfl, rfl⟩ := hrel
        by_cases hlt2 : q < 8
        · go_wp2_with (first
              | go_skip)
          go_roundw
          case rel => exact ⟨q + 1, by go_num, by omega, rfl, trivial⟩
          case measure => simp [intOf]; omega
        · obtain rfl : q = 8 := by omega
          go_wp2_with (first
              | go_skip)
          go_roundw
          case rel => exact ⟨i + 1, by go_num, by omega, by rw [crcL_take HX.out, ← HS0.out]; rfl, trivial⟩
          case measure => simp [intOf]; omega
    · obtain rfl : i = n := by omega
      have ht : xs.take i = xs := List.take_of_length_le (by omega)
      rw [ht]
      clear ht
      go_wp2_with (first
          | go_skip)
      go_ret
      exact ⟨rfl, rfl⟩
end Go.Proofs.Ythepafendopfhaa

namespace Go.Proofs.Ythepafendopfhaa
open Go.RowKit
set_option linter.unusedVariables false
set_option maxRecDepth 100000

/-- The four bytes of a number. -/
def be4 (n : Int) : List Int := [n / 16777216, n / 65536 % 256, n / 256 % 256, n % 256]
theorem be4_len (n : Int) : (be4 n).length = 4 := rfl
theorem be4_byt {n : Int} (h0 : 0 ≤ n) (h1 : n < 4294967296) : Byt (be4 n) := by
  intro x hx
  simp only [be4, List.mem_cons, List.not_mem_nil, or_false] at hx
  omega
theorem be4_num {n : Int} (h0 : 0 ≤ n) (h1 : n < 4294967296) : numB (be4 n) = n := by
  show (((0 * 256 + n / 16777216) * 256 + n / 65536 % 256) * 256 + n / 256 % 256) * 256 + n % 256 = n
  omega
def bv (xs : List Int) : List Value := xs.map (Value.int .u8)
theorem bv_app (xs ys : List Int) : bv (xs ++ ys) = bv xs ++ bv ys := List.map_append
theorem bv_len (xs : List Int) : (bv xs).length = xs.length := List.length_map _
set_option maxHeartbeats 4000000 in
theorem mfour_any (n : Int) (w0 w : World) (m : Ents) (H : Hid (Hp w0 w m)) (h0 : 0 ≤ n) (h1 : n < 4294967296) :
    Calls Try.prog 29 #[.int .u32 n] w fun e w' => ∃ g, e = .returned (.slice (some ⟨g, 0, none⟩) 4 4) ∧ Hp w0 w' ((g, 5, bv (be4 n)) :: m) := by
  go_enter Try.func29, Try.ntmps29
  go_wp2_with (first
      | go_skip
      | ((with_reducible refine isSlc ?_); refine bsA 5 [.int .u8 (n / 16777216), .int .u8 (n / 65536 % 256), .int .u8 (n / 256 % 256), .int .u8 (n % 256)] 4 H ?_; clear H; intro g _ H))
  go_ret
  exact ⟨g, rfl, H.out⟩
set_option maxHeartbeats 4000000 in
theorem lfour_any (n : Int) (w0 w : World) (m : Ents) (H : Hid (Hp w0 w m)) (h0 : 0 ≤ n) (h1 : n < 4294967296) :
    Calls Try.prog 25 #[.int .u32 n] w fun e w' => ∃ g, e = .returned (.slice (some ⟨g, 0, none⟩) 4 4) ∧ Hp w0 w' ((g, 5, bv (be4 n)) :: m) := by
  go_enter Try.func25, Try.ntmps25
  go_wp2_with (first
      | go_skip
      | ((with_reducible refine isSlc ?_); refine bsA 5 [.int .u8 (n / 16777216), .int .u8 (n / 65536 % 256), .int .u8 (n / 256 % 256), .int .u8 (n % 256)] 4 H ?_; clear H; intro g _ H))
  go_ret
  exact ⟨g, rfl, H.out⟩
end Go.Proofs.Ythepafendopfhaa

namespace Go.Proofs.Ythepafendopfhaa
open Go.RowKit
set_option linter.unusedVariables false
set_option maxRecDepth 100000

section
variable {P : Program} {w0 w : World} {X T : Ents} {e : TypeId} {cur xs : List Value} {v : Value} {n : Nat}
theorem run_append_G (t ty : TypeId) (i : TypeInfo) (z : Value) (ht : P.underlying t = some (.slice e)) (hi : P.info? e = some i) (hz : i.zero = some z) (hzs : z.cells.size = i.size) (hsz : 0 < i.size)
    (H : Hp w0 w (X ++ (rowE v e cur ++ T))) (R : RowV i.size v n xs cur) (p : Addr) (m c : Nat) (news : List Value) (hl : news.length = m * i.size) (hnews : ∀ j u, news[j]? = some u → w.cell? (p.add j) = some u) (h1 : ∀ u ∈ news, u.oneCell' = true)
    (hm : 0 < m) (h63 : n + m ≤ maxLen) (hbytes : (n + m) * i.bytes ≤ 140737488355328) :
    ∃ v' cur' w', (Builtin.append_ #[t, t] ty #[v, .slice (some p) m c]).run P w = .ok v' w' ∧ RowV i.size v' (n + m) (xs ++ news) cur' ∧ Hp w0 w' (X ++ (rowE v' e cur' ++ T)) ∧ ∃ z, Chg w w' (X ++ (rowE v e cur ++ T)) (X ++ (rowE v' e cur' ++ T)) z := by
  have hsmall : n + m ≤ 9223372036854775807 := by simp only [maxLen] at h63; omega
  have hlen : (xs ++ news).length = (n + m) * i.size := by rw [List.length_append, R.len, hl, Nat.add_mul]
  have hn' := hnews
  -- a new row
  have new : ∀ (old : Nat), (∀ k, X ++ T = k → Hp w0 w k) → ∃ cur' w', w' = w.drew.alloc (.cells (xs.toArray ++ news.toArray ++ Builtin.zeroCells z.cells (grownCap w (n + m) old e - (n + m))) e) ∧
      RowV i.size (.slice (some ⟨w.heap.size, 0, none⟩) (n + m) (grownCap w (n + m) old e)) (n + m) (xs ++ news) cur' ∧ Hp w0 w' (X ++ ((w.heap.size, e, cur') :: T)) ∧ Chg w w' (X ++ (rowE v e cur ++ T)) (X ++ ((w.heap.size, e, cur') :: T)) w.heap.size := fun old hX => by
    have hge := grownCap_ge w (n + m) old e
    have hcm : grownCap w (n + m) old e ≤ maxLen := grownCap_le_maxLen w (n + m) old e h63
    refine ⟨(xs.toArray ++ news.toArray ++ Builtin.zeroCells z.cells (grownCap w (n + m) old e - (n + m))).toList, _, rfl, ⟨hlen, .inr ⟨_, _, rfl, hge, hcm, ?_, ?_⟩⟩, ?_, ?_⟩
    · simp only [Array.length_toList, Array.size_append, List.size_toArray, size_zeroCells, hzs, R.len, hl, ← Nat.add_mul]
      congr 1
      omega
    · simp only [Array.toList_append, List.append_assoc]
      rw [← List.append_assoc, ← hlen]
      exact List.take_left
    rotate_left
    · have hb := ((Below.refl w.heap.size w).drew).alloc (Nat.le_refl _) (.cells (xs.toArray ++ news.toArray ++ Builtin.zeroCells z.cells (grownCap w (n + m) old e - (n + m))) e)
      have hk := Blk.new w.drew e (xs.toArray ++ news.toArray ++ Builtin.zeroCells z.cells (grownCap w (n + m) old e - (n + m)))
      refine ⟨hb.mono (Nat.zero_le _), .inl rfl, hk.lt, fun k hk _ => hb.block k hk, fun x hx hne => ?_⟩
      simp only [List.mem_append, List.mem_cons] at hx ⊢
      rcases hx with hx | rfl | hx
      · exact .inl hx
      · exact absurd rfl hne
      · exact .inr (.inr hx)
    · refine (hX _ rfl).cons (((Below.refl w.heap.size w).drew).alloc (Nat.le_refl _) _) ?_
      have := Blk.new w.drew e (xs.toArray ++ news.toArray ++ Builtin.zeroCells z.cells (grownCap w (n + m) old e - (n + m)))
      rw [Array.toArray_toList]
      exact this
  rcases R.or_ with ⟨rfl, rfl⟩ | ⟨g, cap, rfl, hnc, hcm, hcs, htake⟩
  · have hx : xs = [] := List.eq_nil_of_length_eq_zero (by simpa using R.len)
    subst hx
    have hr := run_append_nil (P := P) w t ty e i z ht hi hz p m c news hl hn' (by omega) (by omega) (by have hb := hbytes; simp only [Nat.zero_add] at hb; omega)
    obtain ⟨cur', w', rfl, h2, h3, h4⟩ := new 0 (fun k hk => by subst hk; exact H)
    simp only [Nat.zero_add, List.nil_append, Array.empty_append] at h2 h3 h4 ⊢
    exact ⟨_, cur', _, hr, h2, h3, _, h4⟩
  · by_cases hroom : n + m ≤ cap
    · have hb : Blk w g e cur.toArray := (H.blk (g, e, cur) (by simp [rowE])).2
      have hfit : n * i.size + news.length ≤ cur.toArray.size := by simp only [List.size_toArray]; rw [hl, hcs, ← Nat.add_mul]; exact Nat.mul_le_mul_right _ hroom
      have hr := run_append_room (P := P) w t ty e i ht hi g n cap cur.toArray hb p m c news hl hn' h1 hroom hfit
      refine ⟨_, (cur.toArray.toList.take (n * i.size) ++ news ++ cur.toArray.toList.drop (n * i.size + news.length)), _, hr, ⟨hlen, .inr ⟨g, cap, rfl, hroom, hcm, ?_, ?_⟩⟩, ?_, g, ?_⟩
      · simp only [List.size_toArray] at hfit
        simp only [List.length_append, List.length_take, List.length_drop]
        omega
      · show List.take _ _ = _
        rw [show cur.toArray.toList.take (n * i.size) = xs from htake, ← hlen]
        exact List.take_left
      · have hu : Upd (X ++ ([(g, e, cur)] ++ T)) g e cur (cur.toArray.toList.take (n * i.size) ++ news ++ cur.toArray.toList.drop (n * i.size + news.length)) (X ++ ([(g, e, cur.toArray.toList.take (n * i.size) ++ news ++ cur.toArray.toList.drop (n * i.size + news.length))] ++ T)) := Upd.mid X
        exact H.stored hu ⟨⟨rfl, rfl, rfl, by simp, fun k hk => absurd hk (by omega)⟩, fun k _ hk => setRow_other w g k _ hk⟩ (setRow_heap w g cur.toArray _ e _ hb)
      · refine ⟨⟨rfl, rfl, rfl, by simp, fun k hk => absurd hk (by omega)⟩, .inr ⟨(g, e, cur), by simp [rowE], rfl⟩, by simpa using hb.lt, fun k _ hk => setRow_other w g k _ hk, fun x hx hne => ?_⟩
        simp only [rowE, List.mem_append, List.mem_singleton] at hx ⊢
        rcases hx with hx | rfl | hx
        · exact .inl hx
        · exact absurd rfl hne
        · exact .inr (.inr hx)
    · have hb : Blk w g e cur.toArray := (H.blk (g, e, cur) (by simp [rowE])).2
      have holds : ∀ j u, xs[j]? = some u → w.cell? ((⟨g, 0, none⟩ : Addr).add j) = some u := fun j u hu => by
        rw [Addr.add_lit, Nat.zero_add, hb.cell]
        rw [← htake, List.getElem?_take] at hu
        split at hu
        · simpa using hu
        · cases hu
      have hr := run_append_grow (P := P) w t ty e i z ht hi hz ⟨g, 0, none⟩ n cap xs R.len holds p m c news hl hn' (by omega) (by omega) (growslice_fits (by omega) hbytes)
      obtain ⟨cur', w', rfl, h2, h3, h4⟩ := new cap (fun k hk => by
        subst hk
        exact H.sub (List.Sublist.append (List.Sublist.refl _) (List.sublist_append_right _ _)))
      exact ⟨_, cur', _, hr, h2, h3, _, h4⟩
/-- append of cells that are known to a slice whose row is the call's own. -/
theorem wpList_appG {ops : Array Oper} {rest : List Oper} {o : Oper} {a : Act} {l : Ents} {Q : Exit → Act → World → Prop} {size bytes m c : Nat} {p : Addr} {t : TypeId} {news : List Value} (X T : Ents) (H : Hid (Hp w0 w l)) (R : Hid (RowV size v n xs cur)) (I : InfoT P e size bytes) (hsz : 0 < size) (ht : P.underlying t = some (.slice e)) (S : Hid (∀ j u, news[j]? = some u → w.cell? (p.add j) = some u)) {s x : Operand}
    (hK : ∀ v' cur' W', Hid (RowV size v' (n + m) (xs ++ news) cur') → Hid (Hp w0 W' (X ++ (rowE v' e cur' ++ T))) → wpList P ops Q rest (a.put o.dst v') W')
    (hn : news.length = m * size) (h1 : news.all (·.oneCell') = true) (h0 : 0 < m) (h63 : n + m ≤ maxLen) (hb : (n + m) * bytes ≤ 140737488355328)
    (hl : l = X ++ (rowE v e cur ++ T) := by rfl) (hgd : o.guard = none := by rfl) (ho : o.op = .call { callee := .builtin .append, args := #[s, x], argTypes := #[t, t] } := by rfl) (hs : a.eval s = v := by rfl) (hx : a.eval x = .slice (some p) m c := by rfl) : wpList P ops Q (o :: rest) a w := by
  subst hl
  obtain ⟨i, z, hi, hz, rfl, rfl, hzs⟩ := I.h
  obtain ⟨v', cur', w', hr, h2, h3, _⟩ := run_append_G (P := P) t o.type i z ht hi hz hzs hsz H.out R.out p m c news hn S.out (fun u hu => List.all_eq_true.1 h1 u hu) h0 h63 hb
  refine wpList_plain hgd fun _ hK2 => ?_
  unfold Oper.wp execOp
  simp only [ho, resolve, invoke, builtin, Sem.run_bind, Sem.run_pure, Result.andThen_ok, List.map_toArray, List.map_cons, List.map_nil, hs, hx, hr]
  exact hK2 _ _ (hK v' cur' w' (Lib.hid h2) (Lib.hid h3))
/-- append of nothing. -/
theorem wpList_app0 {ops : Array Oper} {rest : List Oper} {o : Oper} {a : Act} {Q : Exit → Act → World → Prop} {size bytes c : Nat} {A : Option Addr} {t : TypeId} (R : Hid (RowV size v n xs cur)) (I : InfoT P e size bytes) (ht : P.underlying t = some (.slice e)) {s x : Operand} (hK : wpList P ops Q rest (a.put o.dst v) w)
    (hgd : o.guard = none := by rfl) (ho : o.op = .call { callee := .builtin .append, args := #[s, x], argTypes := #[t, t] } := by rfl) (hs : a.eval s = v := by rfl) (hx : a.eval x = .slice A 0 c := by rfl) : wpList P ops Q (o :: rest) a w := by
  obtain ⟨i, z, hi, hz, rfl, rfl, hzs⟩ := I.h
  have hsrc : _root_.Go.Src P i.size t (.slice A 0 c) 0 [] w := by
    rcases A with _ | p
    · exact _root_.Go.Src.ofNil w ht c
    · exact _root_.Go.Src.ofSlice w ht p 0 c [] (by simp) (fun j u hu => by simp at hu) (by simp)
  obtain ⟨B, cc, hv, hle⟩ : ∃ B cc, v = .slice B n cc ∧ n ≤ cc := by
    rcases R.out.or_ with ⟨rfl, rfl⟩ | ⟨g, cap, rfl, h, _⟩
    · exact ⟨_, _, rfl, Nat.le_refl _⟩
    · exact ⟨_, _, rfl, h⟩
  have hr := run_append_nothing w t t o.type e i ht hi B n cc hle _ hsrc
  rw [← hv] at hr
  refine wpList_plain hgd fun _ hK2 => ?_
  unfold Oper.wp execOp
  simp only [ho, resolve, invoke, builtin, Sem.run_bind, Sem.run_pure, Result.andThen_ok, List.map_toArray, List.map_cons, List.map_nil, hs, hx, hr]
  exact hK2 _ _ hK
end
/-- n cells xs from somewhere in a block of E on, with room for c. -/
structure VIn (E : Ents) (e : TypeId) (A : Option Addr) (n c : Nat) (xs : List Value) : Prop where
  len : xs.length = n
  nc : n ≤ c
  cm : c ≤ maxLen
  at_ : 0 < n → ∃ g o cur, A = some ⟨g, o, none⟩ ∧ (g, e, cur) ∈ E ∧ ∀ (j : Nat) u, xs[j]? = some u → cur[o + j]? = some u
theorem VIn.mono {E E' : Ents} {e : TypeId} {A : Option Addr} {n c : Nat} {xs : List Value} (h : VIn E e A n c xs) (hs : ∀ x ∈ E, x ∈ E') : VIn E' e A n c xs :=
  ⟨h.len, h.nc, h.cm, fun hp => by
    obtain ⟨g, o, cur, h1, h2, h3⟩ := h.at_ hp
    exact ⟨g, o, cur, h1, hs _ h2, h3⟩⟩
theorem VIn.of_row {e : TypeId} {A : Option Addr} {n c : Nat} {xs cur : List Value} (h : RowV 1 (.slice A n c) n xs cur) : VIn (rowE (.slice A n c) e cur) e A n c xs := by
  have hl : xs.length = n := by simpa using h.len
  rcases h.or_ with ⟨e1, rfl⟩ | ⟨g, cap, e1, h1, h2, h3, h4⟩
  · cases e1
    exact ⟨hl, Nat.le_refl _, by unfold maxLen; omega, fun hp => absurd hp (by omega)⟩
  · cases e1
    refine ⟨hl, h1, h2, fun _ => ⟨g, 0, cur, rfl, by simp [rowE], fun j u hu => ?_⟩⟩
    rw [← h4, List.getElem?_take] at hu
    split at hu
    · rw [Nat.zero_add]; exact hu
    · cases hu
theorem VIn.cells {E : Ents} {e : TypeId} {A : Option Addr} {n c : Nat} {xs : List Value} (h : VIn E e A n c xs) {w : World} (hw : Hld E w) (hp : 0 < n) : ∃ g o, A = some ⟨g, o, none⟩ ∧ g < w.heap.size ∧ ∀ (j : Nat) u, xs[j]? = some u → w.cell? ⟨g, o + j, none⟩ = some u := by
  obtain ⟨g, o, cur, h1, h2, h3⟩ := h.at_ hp
  have hb := hw _ h2
  refine ⟨g, o, h1, hb.lt, fun j u hu => ?_⟩
  rw [hb.cell]
  simpa using h3 j u hu
theorem VIn.bv {E : Ents} {e : TypeId} {A : Option Addr} {n c : Nat} {bs : List Int} (h : VIn E e A n c (bv bs)) {w : World} (hw : Hld E w) : BV w A bs := by
  intro hp
  obtain ⟨g, o, h1, h2, h3⟩ := h.cells hw (by rw [← h.len, bv_len]; exact hp)
  exact ⟨g, o, h1, h2, fun j x hj => h3 j _ (by unfold Go.Proofs.Ythepafendopfhaa.bv; rw [List.getElem?_map, hj]; rfl)⟩
/-- Where a part of a slice begins. -/
def adv (A : Option Addr) (c lo : Nat) : Option Addr := if c = lo then A else A.map (·.add (lo * 1))
theorem VIn.part {E : Ents} {e : TypeId} {A : Option Addr} {n c : Nat} {xs : List Value} (h : VIn E e A n c xs) {lo hi : Nat} (h1 : lo ≤ hi) (h2 : hi ≤ n) : VIn E e (adv A c lo) (hi - lo) (c - lo) ((xs.take hi).drop lo) := by
  have hl := h.len
  have hnc := h.nc
  have hcm := h.cm
  refine ⟨by rw [List.length_drop, List.length_take]; omega, by omega, by omega, fun hp => ?_⟩
  obtain ⟨g, o, cur, h3, h4, h5⟩ := h.at_ (by omega)
  refine ⟨g, o + lo, cur, ?_, h4, fun j u hu => ?_⟩
  · unfold adv
    rw [if_neg (by omega), h3]
    simp [Addr.add]
  · rw [List.getElem?_drop, List.getElem?_take] at hu
    split at hu
    · rw [Nat.add_assoc]; exact h5 _ u hu
    · cases hu
section
variable {P : Program} {ops : Array Oper} {rest : List Oper} {o : Oper} {a a2 : Act} {w : World} {Q : Exit → Act → World → Prop}
/-- A part of a slice of one-cell elements. -/
theorem slLH {t : TypeId} {A : Option Addr} {n c : Nat} (lo hi : Nat) {x l h : Operand} (hK : wpList P ops Q rest a2 w) (h1 : lo ≤ hi) (h2 : hi ≤ c) (ht : P.underlying t = some (.slice (P.elem t))) (hz : ∀ w, (sizeOf (P.elem t)).run P w = .ok 1 w) (ho : o.op = .slice t x (some l) (some h) none := by rfl) (hx : a.eval x = .slice A n c := by rfl) (hlo : a.eval l = .int .i64 lo := by rfl) (hhi : a.eval h = .int .i64 hi := by rfl)
    (hg : Region.wanted o (yielded ops a.tmps) = true := by first | exact wanted_none rfl | exact wanted_some rfl rfl) (hn : a.put o.dst (.slice (adv A c lo) (hi - lo) (c - lo)) = a2 := by (simp only [Act.put, List.setIfInBounds_toArray, List.set_cons_succ, List.set_cons_zero]; rfl)) : wpList P ops Q (o :: rest) a w := by
  subst hn
  refine wpList_step fun K hK' => ?_
  rw [if_pos hg]
  unfold Oper.wp execOp
  have hr := run_slice_lh (P := P) w t A n c ht .i64 .i64 (lo : Int) (hi : Int) (by omega) (by omega) (by omega)
  simp only [ho, hx, hlo, hhi, Option.map, Sem.run_bind, Sem.run_pure, run_sliceAt_slice w t _ _ _ _ ht, hr, hz, Result.andThen_ok, sliced, Int.toNat_natCast]
  rw [Oper.upon_value]
  exact hK' _ _ hK
theorem slL {t : TypeId} {A : Option Addr} {n c : Nat} (lo : Nat) {x l : Operand} (hK : wpList P ops Q rest a2 w) (h1 : lo ≤ n) (ht : P.underlying t = some (.slice (P.elem t))) (hz : ∀ w, (sizeOf (P.elem t)).run P w = .ok 1 w) (ho : o.op = .slice t x (some l) none none := by rfl) (hx : a.eval x = .slice A n c := by rfl) (hlo : a.eval l = .int .i64 lo := by rfl)
    (hg : Region.wanted o (yielded ops a.tmps) = true := by first | exact wanted_none rfl | exact wanted_some rfl rfl) (hn : a.put o.dst (.slice (adv A c lo) (n - lo) (c - lo)) = a2 := by (simp only [Act.put, List.setIfInBounds_toArray, List.set_cons_succ, List.set_cons_zero]; rfl)) : wpList P ops Q (o :: rest) a w := by
  subst hn
  refine wpList_step fun K hK' => ?_
  rw [if_pos hg]
  unfold Oper.wp execOp
  have hr := run_slice_l (P := P) w t A n c ht .i64 (lo : Int) (by omega) (by omega)
  simp only [ho, hx, hlo, Option.map, Sem.run_bind, Sem.run_pure, run_sliceAt_slice w t _ _ _ _ ht, hr, hz, Result.andThen_ok, sliced, Int.toNat_natCast]
  rw [Oper.upon_value]
  exact hK' _ _ hK
theorem isPart {d : Option Tmp} {ty : TypeId} {po : String} {af : Array Edge} {g : Option (Nat × Bool)} {t : TypeId} {x : Operand} {l h m : Option Operand} (k : wpList P ops Q (⟨d, .slice t x l h m, ty, po, af, g⟩ :: rest) a w) : wpList P ops Q (⟨d, .slice t x l h m, ty, po, af, g⟩ :: rest) a w := k
end
end Go.Proofs.Ythepafendopfhaa
