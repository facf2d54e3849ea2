/- A stream of numbers among the call's own blocks: what Next yields and leaves, as functions; gantmake.Of as a rational number. · What the walks of gantkeep4 speak of: no walk. Printed by gen/keep.py. · gantkeep4.between. Printed by gen/keep.py. · the closure of gantkeep4.Pose. Printed by gen/keep.py. · the closure of gantkeep4.Within. Printed by gen/keep.py. · Values of a pose and a frame drawn from a stream: no walk. Printed by gen/keep.py. · gantkeep4.Frame. Printed by gen/keep.py. · gantkeep4.Pose. Printed by gen/keep.py. · gantkeep4.Within. Printed by gen/keep.py. · What the laws of see and carry draw, and their questions: no walk. Printed by gen/lawr6.py. · see.Narrow at good poses. Printed by gen/lawr6.py. · gantkeep4.seen. Printed by gen/lawr6.py. · gantkeep4.SeeNarrows, the walk. Printed by gen/lawr6.py. -/
import Derived.Test.YtolekonocbeekaaDoorMg16
import Derived.Test.YtolekonocbeekaaDoorMg5
import Derived.Test.YtolekonocbeekaaDoorMg10
namespace Go.Proofs.YtolekonocbeekaaDoor
open Go.RowKit
set_option linter.unusedVariables false

/-- What a stream still holds: where, how many cells, which numbers. -/
structure Sd where
  A : Option Addr
  c : Nat
  xs : List Int
def Sd.v (S : Sd) : Value := .slice S.A S.xs.length S.c
def Sd.nx (S : Sd) (n : Int) : Int := match S.xs with
  | [] => 0
  | x :: _ => x % n
def Sd.sn (S : Sd) : Sd := match S.xs with
  | [] => S
  | x :: xs => ⟨if S.c = 1 then S.A else S.A.map (fun p => ⟨p.block, p.off + 1, none⟩), S.c - 1, xs⟩
/-- The numbers lie in what was there before the call. -/
structure Sd.ok (S : Sd) (w0 : World) : Prop where
  le : S.xs.length ≤ S.c
  mx : S.c ≤ maxLen
  at_ : 0 < S.xs.length → ∃ b' o, S.A = some ⟨b', o, none⟩ ∧ b' < w0.heap.size ∧ ∀ (j : Nat) (x : Int), S.xs[j]? = some x → w0.cell? ⟨b', o + j, none⟩ = some (.int .i64 x)
  rg : ∀ x ∈ S.xs, -9223372036854775808 ≤ x ∧ x ≤ 9223372036854775807
theorem Sd.ok.next {S : Sd} {w0 : World} (h : S.ok w0) : S.sn.ok w0 := by
  obtain ⟨A, c, xs⟩ := S
  rcases xs with _ | ⟨x, xs⟩
  · exact h
  · have h1 : xs.length + 1 ≤ c := h.le
    have h2 : c ≤ maxLen := h.mx
    refine ⟨?_, ?_, fun hp => ?_, fun y hy => h.rg y (List.mem_cons_of_mem _ hy)⟩
    · show xs.length ≤ c - 1
      omega
    · show c - 1 ≤ maxLen
      omega
    · obtain ⟨b', o, hA, hb, hc⟩ := h.at_ (by simp)
      have hA' : A = some ⟨b', o, none⟩ := hA
      have hp' : 0 < xs.length := hp
      refine ⟨b', o + 1, ?_, hb, fun j y hj => ?_⟩
      · show (if c = 1 then A else A.map _) = _
        rw [if_neg (by omega), hA']
        rfl
      · have hj' : xs[j]? = some y := hj
        have := hc (j + 1) y (by simpa using hj')
        rwa [show o + 1 + j = o + (j + 1) by omega]
theorem Sd.nx_bd (S : Sd) (n : Int) (h : 1 ≤ n) : 0 ≤ S.nx n ∧ S.nx n < n := by
  unfold Sd.nx
  split
  · omega
  · exact ⟨Int.emod_nonneg _ (by omega), Int.emod_lt_of_pos _ (by omega)⟩
theorem Sd.of_arg {w w0 : World} {A : Option Addr} {n c : Nat} {xs : List Int} (h : IntArg w0 A n c xs) : (⟨A, c, xs⟩ : Sd).ok w0 := by
  obtain ⟨rfl, h2, h3, h4, h5⟩ := h
  exact ⟨h2, h3, fun hp => h4 hp, h5⟩
theorem Upd.same_aux {l l' : Ents} {z : Nat} {T : TypeId} {cs ds : List Value} (h : Upd l z T cs ds l') : cs = ds → l' = l := by
  induction h with
  | head => intro hd; rw [hd]
  | tail h ih => intro hd; rw [ih hd]
theorem Upd.same {l l' : Ents} {z : Nat} {T : TypeId} {cs : List Value} (h : Upd l z T cs cs l') : l' = l := h.same_aux rfl
theorem Hp.set1 {w0 w : World} {l l' : Ents} {b : Nat} {T : TypeId} {u v : Value} (h : Hp w0 w l) (hu : Upd l b T [u] [v] l') : Hp w0 (w.setCell ⟨b, 0, none⟩ v) l' := by
  have hb := (h.blk _ hu.mem).2
  exact h.stored hu ⟨(Below.refl 0 w).setCell (Nat.zero_le _) v, fun k _ hk => Below.heap_setCell w ⟨b, 0, none⟩ v k hk⟩ (by have := hb.set_ 0 v; simpa using this)

set_option maxHeartbeats 400000 in
theorem nextH_any {w0 w : World} {m m' : Ents} (S : Sd) (b : Nat) (n : Int) (H : Hid (Hp w0 w m)) (hS : Hid (S.ok w0)) (hu : Hid (Upd m b 80 [S.v] [S.sn.v] m')) (h1 : 1 ≤ n) (h3 : n ≤ 9223372036854775807) :
    Calls Tryd.prog 44 #[.pointer (some ⟨b, 0, none⟩), .int .i64 n] w fun e w' => e = .returned (.int .i64 (S.nx n)) ∧ Hp w0 w' m' := by
  have hB : Blk w b 80 #[S.v] := (H.out.blk _ hu.out.mem).2
  have hc := hB.cell 0
  have hfz := hB.frozen 0
  obtain ⟨A, c, xs⟩ := S
  rcases xs with _ | ⟨x, xs⟩
  · simp only [Sd.v, List.length_nil] at hc
    clear hB
    go_enter Tryd.func44, Tryd.ntmps44
    go_wp2
    go_ret
    have e := hu.out.same
    subst e
    exact ⟨rfl, H.out⟩
  · obtain ⟨b', o, hA, hb', hcell⟩ := hS.out.at_ (by simp)
    have hA' : A = some ⟨b', o, none⟩ := hA
    subst hA'
    have hcw : w.cell? ⟨b', o, none⟩ = some (.int .i64 x) := by
      rw [H.out.bel.cell (p := ⟨b', o, none⟩) hb']
      exact hcell 0 x (by simp)
    have hxb := hS.out.rg x (by simp)
    have hl' : xs.length + 1 ≤ c := hS.out.le
    have hm : c ≤ maxLen := hS.out.mx
    obtain ⟨hx1, hx2⟩ := hxb
    have Hset := Lib.hid (H.out.set1 hu.out)
    clear hcell hS hu H hA
    simp only [Sd.v, List.length_cons] at hc
    have hd : decide (n < 1) = false := by simp; omega
    have HB := Lib.hid hB; clear hB
    generalize hk : xs.length = k at *
    have Hk := Lib.hid hk; clear hk
    go_enter Tryd.func44, Tryd.ntmps44
    go_wp2_with (go_at_call 18; refine (below_any _ _ _ (by omega) hx1 hx2 (by omega)).mono ?_; rintro e w' ⟨rfl, rfl⟩)
    all_goals
      go_ret
      refine ⟨rfl, ?_⟩
      have h := Hset.out
      simp only [Sd.sn, Sd.v] at h
      first | (rw [if_neg (by omega)] at h; rw [Hk.out] at h; exact h) | (have hc1 : c = 1 := (by omega); subst hc1; rw [Hk.out] at h; simpa using h)
/-- gantmake.Of as a rational. -/
def ofQ (num : Int) (den : Nat) : Rat := mkRat num den
theorem ofQ_mkR (num : Int) (den : Nat) : ofQ num den = mkR (decide (num < 0)) num.natAbs den := by
  unfold ofQ mkR
  congr 1
  by_cases h : num < 0
  · simp [h]; omega
  · simp [h]; omega
theorem ratOf_q (num : Int) (den : Nat) (hd : 0 < den) : ratOf num den = #[.bool (sgO (some (ofQ num den))), .string (nuO (some (ofQ num den))), .string (deO (some (ofQ num den)))] := by
  unfold ratOf
  by_cases h0 : num = 0
  · subst h0
    have e : ofQ 0 den = 0 := by unfold ofQ; simp
    rw [e]
    simp [sgO, nuO, deO, nS, Nat.div_self hd]
  · obtain ⟨c1, c2, c3⟩ := mkR_cells (neg := decide (num < 0)) (n := num.natAbs) (d := den) (by omega) hd rfl
    rw [← ofQ_mkR] at c1 c2 c3
    rw [c1, c2, c3]
    rfl
theorem ofQ_sz (num : Int) (den k : Nat) (h1 : num.natAbs < 256 ^ k) (h2 : den < 256 ^ k) (hd : 0 < den) : Sz k (ofQ num den) := by
  rw [ofQ_mkR]
  have h := mkR_le (decide (num < 0)) (n := num.natAbs) hd
  exact ⟨Nat.lt_of_le_of_lt h.1 h1, Nat.lt_of_le_of_lt h.2 h2⟩
theorem ofQ_any (num : Int) (den : Nat) (q : Rat) (w : World) (h1 : -1000000000 ≤ num) (h2 : num ≤ 1000000000) (h3 : 0 < den) (h4 : den ≤ 1000000000) (E : Hid (ofQ num den = q)) :
    Calls Tryd.prog 17 #[.int .i64 num, .int .i64 den] w fun e w' => e = .returned (.agg #[.bool (sgO (some q)), .string (nuO (some q)), .string (deO (some q))]) ∧ Below w.heap.size w w' := by
  have h := of_any num den w (by omega) (by omega) h3 (by omega)
  rw [ratOf_q num den h3, E.out] at h
  exact h
end Go.Proofs.YtolekonocbeekaaDoor

namespace Go.Proofs.YtolekonocbeekaaDoor
open Go.RowKit
set_option linter.unusedVariables false
set_option maxRecDepth 100000

theorem kStm : ∃ d, Tryd.prog.underlying 78 = some d ∧ d.isRow = false := ⟨_, Tryd.underlying78, rfl⟩
theorem sStm : (Tryd.prog.info? 78).map (·.size) = some 1 := by kernel_rfl
theorem Hp.ne {w0 w : World} {l : Ents} {x y : Nat × TypeId × List Value} (h : Hp w0 w (x :: l)) (hy : y ∈ l) : x.1 ≠ y.1 := fun e => by
  have := h.nd
  rw [List.map_cons, List.nodup_cons] at this
  exact this.1 (by rw [e]; exact List.mem_map.2 ⟨y, hy, rfl⟩)
theorem Hp.ne_t {w0 w : World} {l : Ents} {b c : Nat} {T U : TypeId} {cs ds : List Value} (h : Hp w0 w l) (hb : (b, T, cs) ∈ l) (hc : (c, U, ds) ∈ l) (hne : T ≠ U) : b ≠ c := fun e => by
  subst e
  have h1 : Blk w b T cs.toArray := (h.blk _ hb).2
  have h2 : Blk w b U ds.toArray := (h.blk _ hc).2
  unfold Blk at h1 h2
  rw [h1] at h2
  injection h2 with h2
  injection h2 with _ h2
  exact hne h2
theorem Upd.snd {l l1 l' : Ents} {z : Nat} {T : TypeId} {cs ds es : List Value} (h1 : Upd l z T cs ds l1) : Upd l z T cs es l' → (l.map (·.1)).Nodup → Upd l1 z T ds es l' := by
  induction h1 generalizing l' with
  | head =>
    intro h hn
    rw [List.map_cons, List.nodup_cons] at hn
    cases h with
    | head => exact .head
    | tail h => exact absurd (List.mem_map.2 ⟨_, h.mem, rfl⟩) hn.1
  | tail h1 ih =>
    intro h hn
    rw [List.map_cons, List.nodup_cons] at hn
    cases h with
    | head => exact absurd (List.mem_map.2 ⟨_, h1.mem, rfl⟩) hn.1
    | tail h => exact .tail (ih h hn.2)
/-- So many eighths of the way along a span. -/
def btQ (p q : Rat) (n : Int) : Rat := p + (q - p) * ((n : Rat) / ((8 : Int) : Rat))
theorem Sz.bt {k : Nat} {p q : Rat} {n : Int} (hp : Sz k p) (hq : Sz k q) (h1 : 0 ≤ n) (h2 : n ≤ 8) : Sz (3 * k + 8) (btQ p q n) :=
  (Sz.add hp (Sz.mul (Sz.sub hq hp) (Sz.div (Sz.int n (by omega)) (Sz.int 8 (by decide)) (by decide)))).mono (by omega)
end Go.Proofs.YtolekonocbeekaaDoor

namespace Go.Proofs.YtolekonocbeekaaDoor
open Go.RowKit
set_option linter.unusedVariables false
set_option maxRecDepth 100000

set_option maxHeartbeats 4000000 in
theorem between_any {k : Nat} (a : Option Rat) (b : Option Rat) (n : Int) (u : Rat) (w : World) (hk : k ≤ 200) (Za : Hid (SzO k a)) (Zb : Hid (SzO k b)) (h1 : 0 ≤ n) (h2 : n ≤ 8) (Fu : Hid (btQ (valO a) (valO b) n = u)) (hT : Tb w) :
    Calls Tryd.prog 46 #[.agg #[.bool (sgO a), .string (nuO a), .string (deO a), .bool (sgO b), .string (nuO b), .string (deO b)], .int .i64 n] w fun e w' => e = .returned (.agg #[.bool (sgO (some u)), .string (nuO (some u)), .string (deO (some u))]) ∧ Below w.heap.size w w' := by
  have H := Lib.hid (Hp.start hT)
  clear hT
  have Sa : Hid (SmO a) := SzO.sm Za (by omega)
  have Sb : Hid (SmO b) := SzO.sm Zb (by omega)
  obtain ⟨o, Eo⟩ : ∃ z : Rat, Hid ((n : Rat) = z) := ⟨_, rfl⟩
  have Zo : Hid (Sz 3 o) := szEq Eo (Sz.int n (by omega))
  have So : Hid (SmO (some o)) := Sz.o Zo (by omega)
  obtain ⟨e8, Ee8⟩ : ∃ z : Rat, Hid (((8 : Int) : Rat) = z) := ⟨_, rfl⟩
  have Ze8 : Hid (Sz 3 e8) := szEq Ee8 (Sz.int (8) (by decide))
  have Se8 : Hid (SmO (some e8)) := Sz.o Ze8 (by omega)
  have N8 : Hid (valO (some e8) ≠ 0) := by have h1 := Ee8.out; subst h1; show ((8 : Int) : Rat) ≠ 0; decide
  obtain ⟨d, Ed⟩ : ∃ z : Rat, Hid (o / e8 = z) := ⟨_, rfl⟩
  have Zd : Hid (Sz (3 + 3) d) := szEq Ed (Sz.div Zo Ze8 N8)
  have Sd : Hid (SmO (some d)) := Sz.o Zd (by omega)
  obtain ⟨s, Es⟩ : ∃ z : Rat, Hid ((valO b) - (valO a) = z) := ⟨_, rfl⟩
  have Zs : Hid (Sz (k + k + 1) s) := szEq Es (Sz.sub Zb Za)
  have Ss : Hid (SmO (some s)) := Sz.o Zs (by omega)
  obtain ⟨m, Em⟩ : ∃ z : Rat, Hid (s * d = z) := ⟨_, rfl⟩
  have Zm : Hid (Sz ((k + k + 1) + (3 + 3)) m) := szEq Em (Sz.mul Zs Zd)
  have Sm : Hid (SmO (some m)) := Sz.o Zm (by omega)
  have Eu : Hid ((valO a) + m = u) := by have h0 := Fu.out; have h1 := Eo.out; have h2 := Ee8.out; have h3 := Ed.out; have h4 := Es.out; have h5 := Em.out; subst_vars; rfl
  have Zu : Hid (Sz (k + ((k + k + 1) + (3 + 3)) + 1) u) := szEq Eu (Sz.add Za Zm)
  have Su : Hid (SmO (some u)) := Sz.o Zu (by omega)
  go_enter Tryd.func46, Tryd.ntmps46
  go_wp2_with (first
      | go_skip
      | ((with_reducible refine isLoad ?_); refine wpList_loadH H rfl (by (first | exact wanted_none rfl | exact wanted_some rfl rfl)) (by (first | exact rRat | exact rSpan | exact rPose | exact rFrame | exact rVec | exact rTurn | exact rBox)) (by rfl) (by (repeat (first | exact List.Mem.head _ | refine List.Mem.tail _ ?_ | assumption))) (by (simp only [List.drop, List.take]); rfl) (by rfl) ?_; (simp only [Act.put, List.setIfInBounds_toArray, List.set_cons_succ, List.set_cons_zero]))
      | ((with_reducible refine isLoad ?_); refine wpList_loadH1 H rfl (by (first | exact wanted_none rfl | exact wanted_some rfl rfl)) (by (first | exact kBool | exact kStr | exact kInt | exact kStm)) (by rfl) (by (repeat (first | exact List.Mem.head _ | refine List.Mem.tail _ ?_ | assumption))) (by rfl) ?_; (simp only [Act.put, List.setIfInBounds_toArray, List.set_cons_succ, List.set_cons_zero]))
      | ((with_reducible refine isStore ?_); refine wpList_storeH H rfl rfl rfl (by (first | exact rRat | exact rSpan | exact rPose | exact rFrame | exact rVec | exact rTurn | exact rBox)) (by rfl) (by rfl) (by (repeat (first | apply Upd.head | apply Upd.tail | assumption))) (by rfl) (by (simp only [List.drop, List.take, List.nil_append, List.cons_append]); rfl) (by exact Nat.le_of_ble_eq_true rfl) (by rfl) ?_; clear H; intro _ H)
      | ((with_reducible refine isStore ?_); refine wpList_storeH1 H rfl rfl rfl (by first | exact sBool | exact sStr | exact sInt) (by rfl) (by rfl) (by (repeat (first | apply Upd.head | apply Upd.tail | assumption))) (by (simp only [List.set_cons_succ, List.set_cons_zero]); rfl) (by exact Nat.le_of_ble_eq_true rfl) (by rfl) (by rfl) ?_; clear H; intro _ H)
      | ((with_reducible refine isBox ?_); refine wpList_boxH H rfl rfl rfl (by go_simp; rfl) (by simp only [Value.cells]; rfl) ?_; clear H; intro _ _ H; (simp only [Act.put, List.setIfInBounds_toArray, List.set_cons_succ, List.set_cons_zero]))
      | ((with_reducible refine isAlloc ?_); refine wpList_allocH H rfl rfl rfl (by first | exact zRat | exact zSpan | exact zPose | exact zFrame | exact zVec | exact zTurn | exact zBox) (by simp only [Value.cells]; rfl) ?_; clear H; intro _ _ H; (simp only [Act.put, List.setIfInBounds_toArray, List.set_cons_succ, List.set_cons_zero])))
  refine (ROf_any n o _ (by omega) (by omega) Eo H.out.tb).mono ?_
  rintro _ _ ⟨rfl, hb⟩
  replace H := Lib.hid (H.out.go hb)
  clear hb
  go_wp2_with (first
      | go_skip
      | ((with_reducible refine isLoad ?_); refine wpList_loadH H rfl (by (first | exact wanted_none rfl | exact wanted_some rfl rfl)) (by (first | exact rRat | exact rSpan | exact rPose | exact rFrame | exact rVec | exact rTurn | exact rBox)) (by rfl) (by (repeat (first | exact List.Mem.head _ | refine List.Mem.tail _ ?_ | assumption))) (by (simp only [List.drop, List.take]); rfl) (by rfl) ?_; (simp only [Act.put, List.setIfInBounds_toArray, List.set_cons_succ, List.set_cons_zero]))
      | ((with_reducible refine isLoad ?_); refine wpList_loadH1 H rfl (by (first | exact wanted_none rfl | exact wanted_some rfl rfl)) (by (first | exact kBool | exact kStr | exact kInt | exact kStm)) (by rfl) (by (repeat (first | exact List.Mem.head _ | refine List.Mem.tail _ ?_ | assumption))) (by rfl) ?_; (simp only [Act.put, List.setIfInBounds_toArray, List.set_cons_succ, List.set_cons_zero]))
      | ((with_reducible refine isStore ?_); refine wpList_storeH H rfl rfl rfl (by (first | exact rRat | exact rSpan | exact rPose | exact rFrame | exact rVec | exact rTurn | exact rBox)) (by rfl) (by rfl) (by (repeat (first | apply Upd.head | apply Upd.tail | assumption))) (by rfl) (by (simp only [List.drop, List.take, List.nil_append, List.cons_append]); rfl) (by exact Nat.le_of_ble_eq_true rfl) (by rfl) ?_; clear H; intro _ H)
      | ((with_reducible refine isStore ?_); refine wpList_storeH1 H rfl rfl rfl (by first | exact sBool | exact sStr | exact sInt) (by rfl) (by rfl) (by (repeat (first | apply Upd.head | apply Upd.tail | assumption))) (by (simp only [List.set_cons_succ, List.set_cons_zero]); rfl) (by exact Nat.le_of_ble_eq_true rfl) (by rfl) (by rfl) ?_; clear H; intro _ H)
      | ((with_reducible refine isBox ?_); refine wpList_boxH H rfl rfl rfl (by go_simp; rfl) (by simp only [Value.cells]; rfl) ?_; clear H; intro _ _ H; (simp only [Act.put, List.setIfInBounds_toArray, List.set_cons_succ, List.set_cons_zero]))
      | ((with_reducible refine isAlloc ?_); refine wpList_allocH H rfl rfl rfl (by first | exact zRat | exact zSpan | exact zPose | exact zFrame | exact zVec | exact zTurn | exact zBox) (by simp only [Value.cells]; rfl) ?_; clear H; intro _ _ H; (simp only [Act.put, List.setIfInBounds_toArray, List.set_cons_succ, List.set_cons_zero])))
  refine (ROf_any (8) e8 _ (by decide) (by decide) Ee8 H.out.tb).mono ?_
  rintro _ _ ⟨rfl, hb⟩
  replace H := Lib.hid (H.out.go hb)
  clear hb
  go_wp2_with (first
      | go_skip
      | ((with_reducible refine isLoad ?_); refine wpList_loadH H rfl (by (first | exact wanted_none rfl | exact wanted_some rfl rfl)) (by (first | exact rRat | exact rSpan | exact rPose | exact rFrame | exact rVec | exact rTurn | exact rBox)) (by rfl) (by (repeat (first | exact List.Mem.head _ | refine List.Mem.tail _ ?_ | assumption))) (by (simp only [List.drop, List.take]); rfl) (by rfl) ?_; (simp only [Act.put, List.setIfInBounds_toArray, List.set_cons_succ, List.set_cons_zero]))
      | ((with_reducible refine isLoad ?_); refine wpList_loadH1 H rfl (by (first | exact wanted_none rfl | exact wanted_some rfl rfl)) (by (first | exact kBool | exact kStr | exact kInt | exact kStm)) (by rfl) (by (repeat (first | exact List.Mem.head _ | refine List.Mem.tail _ ?_ | assumption))) (by rfl) ?_; (simp only [Act.put, List.setIfInBounds_toArray, List.set_cons_succ, List.set_cons_zero]))
      | ((with_reducible refine isStore ?_); refine wpList_storeH H rfl rfl rfl (by (first | exact rRat | exact rSpan | exact rPose | exact rFrame | exact rVec | exact rTurn | exact rBox)) (by rfl) (by rfl) (by (repeat (first | apply Upd.head | apply Upd.tail | assumption))) (by rfl) (by (simp only [List.drop, List.take, List.nil_append, List.cons_append]); rfl) (by exact Nat.le_of_ble_eq_true rfl) (by rfl) ?_; clear H; intro _ H)
      | ((with_reducible refine isStore ?_); refine wpList_storeH1 H rfl rfl rfl (by first | exact sBool | exact sStr | exact sInt) (by rfl) (by rfl) (by (repeat (first | apply Upd.head | apply Upd.tail | assumption))) (by (simp only [List.set_cons_succ, List.set_cons_zero]); rfl) (by exact Nat.le_of_ble_eq_true rfl) (by rfl) (by rfl) ?_; clear H; intro _ H)
      | ((with_reducible refine isBox ?_); refine wpList_boxH H rfl rfl rfl (by go_simp; rfl) (by simp only [Value.cells]; rfl) ?_; clear H; intro _ _ H; (simp only [Act.put, List.setIfInBounds_toArray, List.set_cons_succ, List.set_cons_zero]))
      | ((with_reducible refine isAlloc ?_); refine wpList_allocH H rfl rfl rfl (by first | exact zRat | exact zSpan | exact zPose | exact zFrame | exact zVec | exact zTurn | exact zBox) (by simp only [Value.cells]; rfl) ?_; clear H; intro _ _ H; (simp only [Act.put, List.setIfInBounds_toArray, List.set_cons_succ, List.set_cons_zero])))
  refine (RDiv_any (some o) (some e8) d _ So Se8 N8 Ed H.out.tb).mono ?_
  rintro _ _ ⟨rfl, hb⟩
  replace H := Lib.hid (H.out.go hb)
  clear hb
  go_wp2_with (first
      | go_skip
      | ((with_reducible refine isLoad ?_); refine wpList_loadH H rfl (by (first | exact wanted_none rfl | exact wanted_some rfl rfl)) (by (first | exact rRat | exact rSpan | exact rPose | exact rFrame | exact rVec | exact rTurn | exact rBox)) (by rfl) (by (repeat (first | exact List.Mem.head _ | refine List.Mem.tail _ ?_ | assumption))) (by (simp only [List.drop, List.take]); rfl) (by rfl) ?_; (simp only [Act.put, List.setIfInBounds_toArray, List.set_cons_succ, List.set_cons_zero]))
      | ((with_reducible refine isLoad ?_); refine wpList_loadH1 H rfl (by (first | exact wanted_none rfl | exact wanted_some rfl rfl)) (by (first | exact kBool | exact kStr | exact kInt | exact kStm)) (by rfl) (by (repeat (first | exact List.Mem.head _ | refine List.Mem.tail _ ?_ | assumption))) (by rfl) ?_; (simp only [Act.put, List.setIfInBounds_toArray, List.set_cons_succ, List.set_cons_zero]))
      | ((with_reducible refine isStore ?_); refine wpList_storeH H rfl rfl rfl (by (first | exact rRat | exact rSpan | exact rPose | exact rFrame | exact rVec | exact rTurn | exact rBox)) (by rfl) (by rfl) (by (repeat (first | apply Upd.head | apply Upd.tail | assumption))) (by rfl) (by (simp only [List.drop, List.take, List.nil_append, List.cons_append]); rfl) (by exact Nat.le_of_ble_eq_true rfl) (by rfl) ?_; clear H; intro _ H)
      | ((with_reducible refine isStore ?_); refine wpList_storeH1 H rfl rfl rfl (by first | exact sBool | exact sStr | exact sInt) (by rfl) (by rfl) (by (repeat (first | apply Upd.head | apply Upd.tail | assumption))) (by (simp only [List.set_cons_succ, List.set_cons_zero]); rfl) (by exact Nat.le_of_ble_eq_true rfl) (by rfl) (by rfl) ?_; clear H; intro _ H)
      | ((with_reducible refine isBox ?_); refine wpList_boxH H rfl rfl rfl (by go_simp; rfl) (by simp only [Value.cells]; rfl) ?_; clear H; intro _ _ H; (simp only [Act.put, List.setIfInBounds_toArray, List.set_cons_succ, List.set_cons_zero]))
      | ((with_reducible refine isAlloc ?_); refine wpList_allocH H rfl rfl rfl (by first | exact zRat | exact zSpan | exact zPose | exact zFrame | exact zVec | exact zTurn | exact zBox) (by simp only [Value.cells]; rfl) ?_; clear H; intro _ _ H; (simp only [Act.put, List.setIfInBounds_toArray, List.set_cons_succ, List.set_cons_zero])))
  refine wp_region_T 10 H (by kernel_rfl) (by kernel_rfl) ?_
  simp only [List.take_succ_cons, List.take_zero, List.drop_succ_cons, List.drop_zero]
  repeat (first
      | (refine wpK_skip rfl rfl ?_; (simp only [Act.put, List.setIfInBounds_toArray, List.set_cons_succ, List.set_cons_zero]))
      | ((with_reducible refine kLoad ?_); refine wpK_loadH H rfl (by (first | exact wanted_none rfl | exact wanted_some rfl rfl)) (by (first | exact rRat | exact rSpan | exact rPose | exact rFrame | exact rVec | exact rTurn | exact rBox)) (by rfl) (by (repeat (first | exact List.Mem.head _ | refine List.Mem.tail _ ?_ | assumption))) (by (simp only [List.drop, List.take]); rfl) (by rfl) ?_; (simp only [Act.put, List.setIfInBounds_toArray, List.set_cons_succ, List.set_cons_zero]))
      | ((with_reducible refine kLoad ?_); refine wpK_loadH1 H rfl (by (first | exact wanted_none rfl | exact wanted_some rfl rfl)) (by (first | exact kBool | exact kStr | exact kInt | exact kStm)) (by rfl) (by (repeat (first | exact List.Mem.head _ | refine List.Mem.tail _ ?_ | assumption))) (by rfl) ?_; (simp only [Act.put, List.setIfInBounds_toArray, List.set_cons_succ, List.set_cons_zero]))
      | ((fail_if_success (with_reducible refine kCall ?_)); (with_reducible refine kCons ?_); refine wpK_step (fun K hK => ?_); go_simp; refine hK _ ?_; clear hK K))
  refine wpK_step (fun K hK => ?_)
  go_simp
  apply Exists.intro
  refine ⟨fun sx => ?_, hK _ ?_⟩
  · go_at_call 19
    exact RSub_any b a s _ Sb Sa Es (H.out.tbx sx)
  clear hK K
  repeat (first
      | (refine wpK_skip rfl rfl ?_; (simp only [Act.put, List.setIfInBounds_toArray, List.set_cons_succ, List.set_cons_zero]))
      | ((with_reducible refine kLoad ?_); refine wpK_loadH H rfl (by (first | exact wanted_none rfl | exact wanted_some rfl rfl)) (by (first | exact rRat | exact rSpan | exact rPose | exact rFrame | exact rVec | exact rTurn | exact rBox)) (by rfl) (by (repeat (first | exact List.Mem.head _ | refine List.Mem.tail _ ?_ | assumption))) (by (simp only [List.drop, List.take]); rfl) (by rfl) ?_; (simp only [Act.put, List.setIfInBounds_toArray, List.set_cons_succ, List.set_cons_zero]))
      | ((with_reducible refine kLoad ?_); refine wpK_loadH1 H rfl (by (first | exact wanted_none rfl | exact wanted_some rfl rfl)) (by (first | exact kBool | exact kStr | exact kInt | exact kStm)) (by rfl) (by (repeat (first | exact List.Mem.head _ | refine List.Mem.tail _ ?_ | assumption))) (by rfl) ?_; (simp only [Act.put, List.setIfInBounds_toArray, List.set_cons_succ, List.set_cons_zero]))
      | ((fail_if_success (with_reducible refine kCall ?_)); (with_reducible refine kCons ?_); refine wpK_step (fun K hK => ?_); go_simp; refine hK _ ?_; clear hK K))
  refine wpK_step (fun K hK => ?_)
  go_simp
  apply Exists.intro
  refine ⟨fun sx => ?_, hK _ ?_⟩
  · go_at_call 86
    exact RMul_any (some s) (some d) m _ Ss Sd Em (H.out.tbx sx)
  clear hK K
  repeat (first
      | (refine wpK_skip rfl rfl ?_; (simp only [Act.put, List.setIfInBounds_toArray, List.set_cons_succ, List.set_cons_zero]))
      | ((with_reducible refine kLoad ?_); refine wpK_loadH H rfl (by (first | exact wanted_none rfl | exact wanted_some rfl rfl)) (by (first | exact rRat | exact rSpan | exact rPose | exact rFrame | exact rVec | exact rTurn | exact rBox)) (by rfl) (by (repeat (first | exact List.Mem.head _ | refine List.Mem.tail _ ?_ | assumption))) (by (simp only [List.drop, List.take]); rfl) (by rfl) ?_; (simp only [Act.put, List.setIfInBounds_toArray, List.set_cons_succ, List.set_cons_zero]))
      | ((with_reducible refine kLoad ?_); refine wpK_loadH1 H rfl (by (first | exact wanted_none rfl | exact wanted_some rfl rfl)) (by (first | exact kBool | exact kStr | exact kInt | exact kStm)) (by rfl) (by (repeat (first | exact List.Mem.head _ | refine List.Mem.tail _ ?_ | assumption))) (by rfl) ?_; (simp only [Act.put, List.setIfInBounds_toArray, List.set_cons_succ, List.set_cons_zero]))
      | ((fail_if_success (with_reducible refine kCall ?_)); (with_reducible refine kCons ?_); refine wpK_step (fun K hK => ?_); go_simp; refine hK _ ?_; clear hK K))
  refine wpK_step (fun K hK => ?_)
  go_simp
  apply Exists.intro
  refine ⟨fun sx => ?_, hK _ ?_⟩
  · go_at_call 20
    exact RAdd_any a (some m) u _ Sa Sm Eu (H.out.tbx sx)
  clear hK K
  repeat (first
      | (refine wpK_skip rfl rfl ?_; (simp only [Act.put, List.setIfInBounds_toArray, List.set_cons_succ, List.set_cons_zero]))
      | ((with_reducible refine kLoad ?_); refine wpK_loadH H rfl (by (first | exact wanted_none rfl | exact wanted_some rfl rfl)) (by (first | exact rRat | exact rSpan | exact rPose | exact rFrame | exact rVec | exact rTurn | exact rBox)) (by rfl) (by (repeat (first | exact List.Mem.head _ | refine List.Mem.tail _ ?_ | assumption))) (by (simp only [List.drop, List.take]); rfl) (by rfl) ?_; (simp only [Act.put, List.setIfInBounds_toArray, List.set_cons_succ, List.set_cons_zero]))
      | ((with_reducible refine kLoad ?_); refine wpK_loadH1 H rfl (by (first | exact wanted_none rfl | exact wanted_some rfl rfl)) (by (first | exact kBool | exact kStr | exact kInt | exact kStm)) (by rfl) (by (repeat (first | exact List.Mem.head _ | refine List.Mem.tail _ ?_ | assumption))) (by rfl) ?_; (simp only [Act.put, List.setIfInBounds_toArray, List.set_cons_succ, List.set_cons_zero]))
      | ((fail_if_success (with_reducible refine kCall ?_)); (with_reducible refine kCons ?_); refine wpK_step (fun K hK => ?_); go_simp; refine hK _ ?_; clear hK K))
  refine wpKeep_nil ?_
  clear H
  intro _ H
  go_wp2_with (first
      | go_skip
      | ((with_reducible refine isLoad ?_); refine wpList_loadH H rfl (by (first | exact wanted_none rfl | exact wanted_some rfl rfl)) (by (first | exact rRat | exact rSpan | exact rPose | exact rFrame | exact rVec | exact rTurn | exact rBox)) (by rfl) (by (repeat (first | exact List.Mem.head _ | refine List.Mem.tail _ ?_ | assumption))) (by (simp only [List.drop, List.take]); rfl) (by rfl) ?_; (simp only [Act.put, List.setIfInBounds_toArray, List.set_cons_succ, List.set_cons_zero]))
      | ((with_reducible refine isLoad ?_); refine wpList_loadH1 H rfl (by (first | exact wanted_none rfl | exact wanted_some rfl rfl)) (by (first | exact kBool | exact kStr | exact kInt | exact kStm)) (by rfl) (by (repeat (first | exact List.Mem.head _ | refine List.Mem.tail _ ?_ | assumption))) (by rfl) ?_; (simp only [Act.put, List.setIfInBounds_toArray, List.set_cons_succ, List.set_cons_zero]))
      | ((with_reducible refine isStore ?_); refine wpList_storeH H rfl rfl rfl (by (first | exact rRat | exact rSpan | exact rPose | exact rFrame | exact rVec | exact rTurn | exact rBox)) (by rfl) (by rfl) (by (repeat (first | apply Upd.head | apply Upd.tail | assumption))) (by rfl) (by (simp only [List.drop, List.take, List.nil_append, List.cons_append]); rfl) (by exact Nat.le_of_ble_eq_true rfl) (by rfl) ?_; clear H; intro _ H)
      | ((with_reducible refine isStore ?_); refine wpList_storeH1 H rfl rfl rfl (by first | exact sBool | exact sStr | exact sInt) (by rfl) (by rfl) (by (repeat (first | apply Upd.head | apply Upd.tail | assumption))) (by (simp only [List.set_cons_succ, List.set_cons_zero]); rfl) (by exact Nat.le_of_ble_eq_true rfl) (by rfl) (by rfl) ?_; clear H; intro _ H)
      | ((with_reducible refine isBox ?_); refine wpList_boxH H rfl rfl rfl (by go_simp; rfl) (by simp only [Value.cells]; rfl) ?_; clear H; intro _ _ H; (simp only [Act.put, List.setIfInBounds_toArray, List.set_cons_succ, List.set_cons_zero]))
      | ((with_reducible refine isAlloc ?_); refine wpList_allocH H rfl rfl rfl (by first | exact zRat | exact zSpan | exact zPose | exact zFrame | exact zVec | exact zTurn | exact zBox) (by simp only [Value.cells]; rfl) ?_; clear H; intro _ _ H; (simp only [Act.put, List.setIfInBounds_toArray, List.set_cons_succ, List.set_cons_zero])))
  exact bodyPost_ret (results_H H Tryd.results46 (by (first | exact rRat | exact rSpan | exact rPose | exact rFrame | exact rVec | exact rTurn | exact rBox)) rfl (by (repeat (first | exact List.Mem.head _ | refine List.Mem.tail _ ?_ | assumption))) (by rfl)) rfl ⟨rfl, H.out.bel⟩
end Go.Proofs.YtolekonocbeekaaDoor

namespace Go.Proofs.YtolekonocbeekaaDoor
open Go.RowKit
set_option linter.unusedVariables false
set_option maxRecDepth 100000

set_option maxHeartbeats 4000000 in
theorem pose1_any {w0 w : World} {m m' : Ents} (S : Sd) (most : Int) (g c : Nat) (u v : Rat) (H : Hid (Hp w0 w m)) (h1 : 1 ≤ most) (h2 : most ≤ 1000) (Fu : Hid (ofQ (S.nx (2 * most + 1) - most) 4 = u)) (Fv : Hid (ofQ (S.nx (2 * most + 1) - most + S.sn.nx 7) 4 = v)) (hS : Hid (S.ok w0)) (hc : Hid ((c, 78, [.pointer (some ⟨g, 0, none⟩)]) ∈ m)) (hu : Hid (Upd m g 80 [S.v] [S.sn.sn.v] m')) :
    Calls Tryd.prog 43 #[.int .i64 most, .pointer (some ⟨c, 0, none⟩)] w fun e w' => e = .returned (.agg #[.bool (sgO (some u)), .string (nuO (some u)), .string (deO (some u)), .bool (sgO (some v)), .string (nuO (some v)), .string (deO (some v))]) ∧ Hp w0 w' m' := by
  obtain ⟨m1, hm1⟩ := upd_of_mem [S.sn.v] hu.out.mem
  have HM1 := Lib.hid hm1
  have HU2 := Lib.hid (hm1.snd hu.out H.out.nd)
  have HC1 := (hm1.keep hc.out (H.out.ne_t hc.out hu.out.mem (by decide)))
  have HG := HU2.out.mem
  have HU := HU2.out
  have hn := S.nx_bd (2 * most + 1) (by omega)
  have hn7 := S.sn.nx_bd 7 (by decide)
  have HS1 := Lib.hid hS.out.next
  have HC := hc.out
  have HM := HM1.out
  clear hm1 hc
  go_enter Tryd.func43, Tryd.ntmps43
  go_wp2_with (first
      | go_skip
      | ((with_reducible refine isLoad ?_); refine wpList_loadH H rfl (by (first | exact wanted_none rfl | exact wanted_some rfl rfl)) (by (first | exact rRat | exact rSpan | exact rPose | exact rFrame | exact rVec | exact rTurn | exact rBox)) (by rfl) (by (repeat (first | exact List.Mem.head _ | refine List.Mem.tail _ ?_ | assumption))) (by (simp only [List.drop, List.take]); rfl) (by rfl) ?_; (simp only [Act.put, List.setIfInBounds_toArray, List.set_cons_succ, List.set_cons_zero]))
      | ((with_reducible refine isLoad ?_); refine wpList_loadH1 H rfl (by (first | exact wanted_none rfl | exact wanted_some rfl rfl)) (by (first | exact kBool | exact kStr | exact kInt | exact kStm)) (by rfl) (by (repeat (first | exact List.Mem.head _ | refine List.Mem.tail _ ?_ | assumption))) (by rfl) ?_; (simp only [Act.put, List.setIfInBounds_toArray, List.set_cons_succ, List.set_cons_zero]))
      | ((with_reducible refine isStore ?_); refine wpList_storeH H rfl rfl rfl (by (first | exact rRat | exact rSpan | exact rPose | exact rFrame | exact rVec | exact rTurn | exact rBox)) (by rfl) (by rfl) (by (repeat (first | apply Upd.head | apply Upd.tail | assumption))) (by rfl) (by (simp only [List.drop, List.take, List.nil_append, List.cons_append]); rfl) (by exact Nat.le_of_ble_eq_true rfl) (by rfl) ?_; clear H; intro _ H)
      | ((with_reducible refine isStore ?_); refine wpList_storeH1 H rfl rfl rfl (by first | exact sBool | exact sStr | exact sInt) (by rfl) (by rfl) (by (repeat (first | apply Upd.head | apply Upd.tail | assumption))) (by (simp only [List.set_cons_succ, List.set_cons_zero]); rfl) (by exact Nat.le_of_ble_eq_true rfl) (by rfl) (by rfl) ?_; clear H; intro _ H)
      | ((with_reducible refine isBox ?_); refine wpList_boxH H rfl rfl rfl (by go_simp; rfl) (by simp only [Value.cells]; rfl) ?_; clear H; intro _ _ H; (simp only [Act.put, List.setIfInBounds_toArray, List.set_cons_succ, List.set_cons_zero]))
      | ((with_reducible refine isAlloc ?_); refine wpList_allocH H rfl rfl rfl (by first | exact zRat | exact zSpan | exact zPose | exact zFrame | exact zVec | exact zTurn | exact zBox) (by simp only [Value.cells]; rfl) ?_; clear H; intro _ _ H; (simp only [Act.put, List.setIfInBounds_toArray, List.set_cons_succ, List.set_cons_zero])))
  refine (nextH_any S g (2 * most + 1) H hS (by unfold Hid; (repeat (first | apply Upd.head | apply Upd.tail | assumption))) (by omega) (by omega)).mono ?_
  rintro _ _ ⟨rfl, H2⟩
  replace H := Lib.hid H2
  clear H2
  go_wp2_with (first
      | go_skip
      | ((with_reducible refine isLoad ?_); refine wpList_loadH H rfl (by (first | exact wanted_none rfl | exact wanted_some rfl rfl)) (by (first | exact rRat | exact rSpan | exact rPose | exact rFrame | exact rVec | exact rTurn | exact rBox)) (by rfl) (by (repeat (first | exact List.Mem.head _ | refine List.Mem.tail _ ?_ | assumption))) (by (simp only [List.drop, List.take]); rfl) (by rfl) ?_; (simp only [Act.put, List.setIfInBounds_toArray, List.set_cons_succ, List.set_cons_zero]))
      | ((with_reducible refine isLoad ?_); refine wpList_loadH1 H rfl (by (first | exact wanted_none rfl | exact wanted_some rfl rfl)) (by (first | exact kBool | exact kStr | exact kInt | exact kStm)) (by rfl) (by (repeat (first | exact List.Mem.head _ | refine List.Mem.tail _ ?_ | assumption))) (by rfl) ?_; (simp only [Act.put, List.setIfInBounds_toArray, List.set_cons_succ, List.set_cons_zero]))
      | ((with_reducible refine isStore ?_); refine wpList_storeH H rfl rfl rfl (by (first | exact rRat | exact rSpan | exact rPose | exact rFrame | exact rVec | exact rTurn | exact rBox)) (by rfl) (by rfl) (by (repeat (first | apply Upd.head | apply Upd.tail | assumption))) (by rfl) (by (simp only [List.drop, List.take, List.nil_append, List.cons_append]); rfl) (by exact Nat.le_of_ble_eq_true rfl) (by rfl) ?_; clear H; intro _ H)
      | ((with_reducible refine isStore ?_); refine wpList_storeH1 H rfl rfl rfl (by first | exact sBool | exact sStr | exact sInt) (by rfl) (by rfl) (by (repeat (first | apply Upd.head | apply Upd.tail | assumption))) (by (simp only [List.set_cons_succ, List.set_cons_zero]); rfl) (by exact Nat.le_of_ble_eq_true rfl) (by rfl) (by rfl) ?_; clear H; intro _ H)
      | ((with_reducible refine isBox ?_); refine wpList_boxH H rfl rfl rfl (by go_simp; rfl) (by simp only [Value.cells]; rfl) ?_; clear H; intro _ _ H; (simp only [Act.put, List.setIfInBounds_toArray, List.set_cons_succ, List.set_cons_zero]))
      | ((with_reducible refine isAlloc ?_); refine wpList_allocH H rfl rfl rfl (by first | exact zRat | exact zSpan | exact zPose | exact zFrame | exact zVec | exact zTurn | exact zBox) (by simp only [Value.cells]; rfl) ?_; clear H; intro _ _ H; (simp only [Act.put, List.setIfInBounds_toArray, List.set_cons_succ, List.set_cons_zero])))
  have hw7 : IntKind.i64.wrap (S.nx (2 * most + 1) - most + S.sn.nx 7) = S.nx (2 * most + 1) - most + S.sn.nx 7 := IntWalk.i64_in _ (by omega)
  refine wp_region_V 8 [.p, .p, .p, .p, .s, .p, .p, .p] [(c, 78, [.pointer (some ⟨g, 0, none⟩)])] H (by intro x hx; simp only [List.mem_cons, List.not_mem_nil, or_false] at hx; subst hx <;> (repeat (first | exact List.Mem.head _ | refine List.Mem.tail _ ?_ | assumption))) (by simp) (by kernel_rfl) (by kernel_rfl) (by kernel_rfl) ?_
  simp only [List.take_succ_cons, List.take_zero, List.drop_succ_cons, List.drop_zero]
  refine wpV_P (by rfl) (by (first | exact wanted_none rfl | exact wanted_some rfl rfl)) (by intro W; first | (go_simp; rfl) | go_simp) ?_
  (simp only [Act.put, List.setIfInBounds_toArray, List.set_cons_succ, List.set_cons_zero])
  apply wpV_C (by rfl) (by (first | exact wanted_none rfl | exact wanted_some rfl rfl))
  · intro W hW
    unfold keepsAt
    go_simp
    go_at_call 17
    exact ofQ_any (S.nx (2 * most + 1) - most) 4 u _ (by omega) (by omega) (by decide) (by decide) Fu
  (simp only [Act.put, List.setIfInBounds_toArray, List.set_cons_succ, List.set_cons_zero])
  refine wpV_P (by rfl) (by (first | exact wanted_none rfl | exact wanted_some rfl rfl)) (by intro W; first | (go_simp; rfl) | go_simp) ?_
  (simp only [Act.put, List.setIfInBounds_toArray, List.set_cons_succ, List.set_cons_zero])
  refine wpV_load1 (by rfl) rfl (by (first | exact wanted_none rfl | exact wanted_some rfl rfl)) (by (first | exact kBool | exact kStr | exact kInt | exact kStm)) (by rfl) (by (repeat (first | exact List.Mem.head _ | refine List.Mem.tail _ ?_ | assumption))) (by rfl) ?_
  (simp only [Act.put, List.setIfInBounds_toArray, List.set_cons_succ, List.set_cons_zero])
  apply wpV_S (z := g) [S.sn.sn.v] (by rfl) (by (first | exact wanted_none rfl | exact wanted_some rfl rfl)) (by intro x hx; simp only [List.mem_cons, List.not_mem_nil, or_false] at hx; subst hx <;> exact H.out.ne_t (by (repeat (first | exact List.Mem.head _ | refine List.Mem.tail _ ?_ | assumption))) (by (repeat (first | exact List.Mem.head _ | refine List.Mem.tail _ ?_ | assumption))) (by decide)) (by (repeat (first | apply Upd.head | apply Upd.tail | assumption)))
  · intro m m2 W hW hs hu
    go_simp
    refine ⟨rfl, ?_⟩
    go_at_call 44
    exact nextH_any S.sn g 7 hW HS1 (Lib.hid hu) (by decide) (by decide)
  (simp only [Act.put, List.setIfInBounds_toArray, List.set_cons_succ, List.set_cons_zero])
  refine wpV_P (by rfl) (by (first | exact wanted_none rfl | exact wanted_some rfl rfl)) (by intro W; first | (go_simp; rfl) | go_simp) ?_
  (simp only [Act.put, List.setIfInBounds_toArray, List.set_cons_succ, List.set_cons_zero])
  apply wpV_C (by rfl) (by (first | exact wanted_none rfl | exact wanted_some rfl rfl))
  · intro W hW
    unfold keepsAt
    go_simp
    go_at_call 17
    exact ofQ_any (S.nx (2 * most + 1) - most + S.sn.nx 7) 4 v _ (by omega) (by omega) (by decide) (by decide) Fv
  (simp only [Act.put, List.setIfInBounds_toArray, List.set_cons_succ, List.set_cons_zero])
  refine wpV_P (by rfl) (by (first | exact wanted_none rfl | exact wanted_some rfl rfl)) (by intro W; first | (go_simp; rfl) | go_simp) ?_
  (simp only [Act.put, List.setIfInBounds_toArray, List.set_cons_succ, List.set_cons_zero])
  refine wpV_nil ?_
  clear H
  intro _ H
  go_wp2_with (first
      | go_skip
      | ((with_reducible refine isLoad ?_); refine wpList_loadH H rfl (by (first | exact wanted_none rfl | exact wanted_some rfl rfl)) (by (first | exact rRat | exact rSpan | exact rPose | exact rFrame | exact rVec | exact rTurn | exact rBox)) (by rfl) (by (repeat (first | exact List.Mem.head _ | refine List.Mem.tail _ ?_ | assumption))) (by (simp only [List.drop, List.take]); rfl) (by rfl) ?_; (simp only [Act.put, List.setIfInBounds_toArray, List.set_cons_succ, List.set_cons_zero]))
      | ((with_reducible refine isLoad ?_); refine wpList_loadH1 H rfl (by (first | exact wanted_none rfl | exact wanted_some rfl rfl)) (by (first | exact kBool | exact kStr | exact kInt | exact kStm)) (by rfl) (by (repeat (first | exact List.Mem.head _ | refine List.Mem.tail _ ?_ | assumption))) (by rfl) ?_; (simp only [Act.put, List.setIfInBounds_toArray, List.set_cons_succ, List.set_cons_zero]))
      | ((with_reducible refine isStore ?_); refine wpList_storeH H rfl rfl rfl (by (first | exact rRat | exact rSpan | exact rPose | exact rFrame | exact rVec | exact rTurn | exact rBox)) (by rfl) (by rfl) (by (repeat (first | apply Upd.head | apply Upd.tail | assumption))) (by rfl) (by (simp only [List.drop, List.take, List.nil_append, List.cons_append]); rfl) (by exact Nat.le_of_ble_eq_true rfl) (by rfl) ?_; clear H; intro _ H)
      | ((with_reducible refine isStore ?_); refine wpList_storeH1 H rfl rfl rfl (by first | exact sBool | exact sStr | exact sInt) (by rfl) (by rfl) (by (repeat (first | apply Upd.head | apply Upd.tail | assumption))) (by (simp only [List.set_cons_succ, List.set_cons_zero]); rfl) (by exact Nat.le_of_ble_eq_true rfl) (by rfl) (by rfl) ?_; clear H; intro _ H)
      | ((with_reducible refine isBox ?_); refine wpList_boxH H rfl rfl rfl (by go_simp; rfl) (by simp only [Value.cells]; rfl) ?_; clear H; intro _ _ H; (simp only [Act.put, List.setIfInBounds_toArray, List.set_cons_succ, List.set_cons_zero]))
      | ((with_reducible refine isAlloc ?_); refine wpList_allocH H rfl rfl rfl (by first | exact zRat | exact zSpan | exact zPose | exact zFrame | exact zVec | exact zTurn | exact zBox) (by simp only [Value.cells]; rfl) ?_; clear H; intro _ _ H; (simp only [Act.put, List.setIfInBounds_toArray, List.set_cons_succ, List.set_cons_zero])))
  exact bodyPost_ret (results_H H Tryd.results43 (by (first | exact rRat | exact rSpan | exact rPose | exact rFrame | exact rVec | exact rTurn | exact rBox)) rfl (by (repeat (first | exact List.Mem.head _ | refine List.Mem.tail _ ?_ | assumption))) (by rfl)) rfl ⟨rfl, H.out.drop⟩
end Go.Proofs.YtolekonocbeekaaDoor

namespace Go.Proofs.YtolekonocbeekaaDoor
open Go.RowKit
set_option linter.unusedVariables false
set_option maxRecDepth 100000

set_option maxHeartbeats 4000000 in
theorem within1_any {w0 w : World} {m m' : Ents} {k : Nat} (a b : Option Rat) (S : Sd) (g c : Nat) (u : Rat) (H : Hid (Hp w0 w m)) (hk : k ≤ 200) (Za : Hid (SzO k a)) (Zb : Hid (SzO k b)) (Fu : Hid (btQ (valO a) (valO b) (S.nx 9) = u)) (hS : Hid (S.ok w0)) (hc : Hid ((c, 78, [.pointer (some ⟨g, 0, none⟩)]) ∈ m)) (hu : Hid (Upd m g 80 [S.v] [S.sn.v] m')) :
    Calls Tryd.prog 45 #[.agg #[.bool (sgO a), .string (nuO a), .string (deO a), .bool (sgO b), .string (nuO b), .string (deO b)], .pointer (some ⟨c, 0, none⟩)] w fun e w' => e = .returned (.agg #[.bool (sgO (some u)), .string (nuO (some u)), .string (deO (some u))]) ∧ Hp w0 w' m' := by
  have HC := hc.out
  have HU := hu.out
  have HG := HU.mem
  have hn := S.nx_bd 9 (by decide)
  obtain ⟨hn1, hn2⟩ := hn
  have hn3 : S.nx 9 ≤ 8 := by omega
  clear hn2
  go_enter Tryd.func45, Tryd.ntmps45
  go_wp2_with (first
      | go_skip
      | ((with_reducible refine isLoad ?_); refine wpList_loadH H rfl (by (first | exact wanted_none rfl | exact wanted_some rfl rfl)) (by (first | exact rRat | exact rSpan | exact rPose | exact rFrame | exact rVec | exact rTurn | exact rBox)) (by rfl) (by (repeat (first | exact List.Mem.head _ | refine List.Mem.tail _ ?_ | assumption))) (by (simp only [List.drop, List.take]); rfl) (by rfl) ?_; (simp only [Act.put, List.setIfInBounds_toArray, List.set_cons_succ, List.set_cons_zero]))
      | ((with_reducible refine isLoad ?_); refine wpList_loadH1 H rfl (by (first | exact wanted_none rfl | exact wanted_some rfl rfl)) (by (first | exact kBool | exact kStr | exact kInt | exact kStm)) (by rfl) (by (repeat (first | exact List.Mem.head _ | refine List.Mem.tail _ ?_ | assumption))) (by rfl) ?_; (simp only [Act.put, List.setIfInBounds_toArray, List.set_cons_succ, List.set_cons_zero]))
      | ((with_reducible refine isStore ?_); refine wpList_storeH H rfl rfl rfl (by (first | exact rRat | exact rSpan | exact rPose | exact rFrame | exact rVec | exact rTurn | exact rBox)) (by rfl) (by rfl) (by (repeat (first | apply Upd.head | apply Upd.tail | assumption))) (by rfl) (by (simp only [List.drop, List.take, List.nil_append, List.cons_append]); rfl) (by exact Nat.le_of_ble_eq_true rfl) (by rfl) ?_; clear H; intro _ H)
      | ((with_reducible refine isStore ?_); refine wpList_storeH1 H rfl rfl rfl (by first | exact sBool | exact sStr | exact sInt) (by rfl) (by rfl) (by (repeat (first | apply Upd.head | apply Upd.tail | assumption))) (by (simp only [List.set_cons_succ, List.set_cons_zero]); rfl) (by exact Nat.le_of_ble_eq_true rfl) (by rfl) (by rfl) ?_; clear H; intro _ H)
      | ((with_reducible refine isBox ?_); refine wpList_boxH H rfl rfl rfl (by go_simp; rfl) (by simp only [Value.cells]; rfl) ?_; clear H; intro _ _ H; (simp only [Act.put, List.setIfInBounds_toArray, List.set_cons_succ, List.set_cons_zero]))
      | ((with_reducible refine isAlloc ?_); refine wpList_allocH H rfl rfl rfl (by first | exact zRat | exact zSpan | exact zPose | exact zFrame | exact zVec | exact zTurn | exact zBox) (by simp only [Value.cells]; rfl) ?_; clear H; intro _ _ H; (simp only [Act.put, List.setIfInBounds_toArray, List.set_cons_succ, List.set_cons_zero])))
  rename_i b2 W2 b3 W3 K3 hK3
  refine wp_region_V 4 [.p, .p, .s, .p] [(b2, 26, [.bool (sgO a), .string (nuO a), .string (deO a), .bool (sgO b), .string (nuO b), .string (deO b)]), (c, 78, [.pointer (some ⟨g, 0, none⟩)])] H (by intro x hx; simp only [List.mem_cons, List.not_mem_nil, or_false] at hx; rcases hx with rfl | rfl <;> (repeat (first | exact List.Mem.head _ | refine List.Mem.tail _ ?_ | assumption))) (by simp only [List.map_cons, List.map_nil, List.nodup_cons, List.mem_cons, List.not_mem_nil, or_false, not_false_eq_true, List.nodup_nil, and_true, not_or]; and_intros <;> exact H.out.ne_t (by (repeat (first | exact List.Mem.head _ | refine List.Mem.tail _ ?_ | assumption))) (by (repeat (first | exact List.Mem.head _ | refine List.Mem.tail _ ?_ | assumption))) (by decide)) (by kernel_rfl) (by kernel_rfl) (by kernel_rfl) ?_
  simp only [List.take_succ_cons, List.take_zero, List.drop_succ_cons, List.drop_zero]
  refine wpV_load (by rfl) rfl (by (first | exact wanted_none rfl | exact wanted_some rfl rfl)) (by (first | exact rRat | exact rSpan | exact rPose | exact rFrame | exact rVec | exact rTurn | exact rBox)) (by rfl) (by (repeat (first | exact List.Mem.head _ | refine List.Mem.tail _ ?_ | assumption))) (by (simp only [List.drop, List.take]); rfl) (by rfl) ?_
  (simp only [Act.put, List.setIfInBounds_toArray, List.set_cons_succ, List.set_cons_zero])
  refine wpV_load1 (by rfl) rfl (by (first | exact wanted_none rfl | exact wanted_some rfl rfl)) (by (first | exact kBool | exact kStr | exact kInt | exact kStm)) (by rfl) (by (repeat (first | exact List.Mem.head _ | refine List.Mem.tail _ ?_ | assumption))) (by rfl) ?_
  (simp only [Act.put, List.setIfInBounds_toArray, List.set_cons_succ, List.set_cons_zero])
  apply wpV_S (z := g) [S.sn.v] (by rfl) (by (first | exact wanted_none rfl | exact wanted_some rfl rfl)) (by intro x hx; simp only [List.mem_cons, List.not_mem_nil, or_false] at hx; rcases hx with rfl | rfl <;> exact H.out.ne_t (by (repeat (first | exact List.Mem.head _ | refine List.Mem.tail _ ?_ | assumption))) (by (repeat (first | exact List.Mem.head _ | refine List.Mem.tail _ ?_ | assumption))) (by decide)) (by (repeat (first | apply Upd.head | apply Upd.tail | assumption)))
  · intro m m2 W hW hs hu
    go_simp
    refine ⟨rfl, ?_⟩
    go_at_call 44
    exact nextH_any S g 9 hW hS (Lib.hid hu) (by decide) (by decide)
  (simp only [Act.put, List.setIfInBounds_toArray, List.set_cons_succ, List.set_cons_zero])
  apply wpV_C (by rfl) (by (first | exact wanted_none rfl | exact wanted_some rfl rfl))
  · intro W hW
    unfold keepsAt
    go_simp
    go_at_call 46
    exact between_any a b (S.nx 9) u _ (by omega) Za Zb hn1 hn3 Fu hW.out.tb
  (simp only [Act.put, List.setIfInBounds_toArray, List.set_cons_succ, List.set_cons_zero])
  refine wpV_nil ?_
  clear H
  intro _ H
  go_wp2_with (first
      | go_skip
      | ((with_reducible refine isLoad ?_); refine wpList_loadH H rfl (by (first | exact wanted_none rfl | exact wanted_some rfl rfl)) (by (first | exact rRat | exact rSpan | exact rPose | exact rFrame | exact rVec | exact rTurn | exact rBox)) (by rfl) (by (repeat (first | exact List.Mem.head _ | refine List.Mem.tail _ ?_ | assumption))) (by (simp only [List.drop, List.take]); rfl) (by rfl) ?_; (simp only [Act.put, List.setIfInBounds_toArray, List.set_cons_succ, List.set_cons_zero]))
      | ((with_reducible refine isLoad ?_); refine wpList_loadH1 H rfl (by (first | exact wanted_none rfl | exact wanted_some rfl rfl)) (by (first | exact kBool | exact kStr | exact kInt | exact kStm)) (by rfl) (by (repeat (first | exact List.Mem.head _ | refine List.Mem.tail _ ?_ | assumption))) (by rfl) ?_; (simp only [Act.put, List.setIfInBounds_toArray, List.set_cons_succ, List.set_cons_zero]))
      | ((with_reducible refine isStore ?_); refine wpList_storeH H rfl rfl rfl (by (first | exact rRat | exact rSpan | exact rPose | exact rFrame | exact rVec | exact rTurn | exact rBox)) (by rfl) (by rfl) (by (repeat (first | apply Upd.head | apply Upd.tail | assumption))) (by rfl) (by (simp only [List.drop, List.take, List.nil_append, List.cons_append]); rfl) (by exact Nat.le_of_ble_eq_true rfl) (by rfl) ?_; clear H; intro _ H)
      | ((with_reducible refine isStore ?_); refine wpList_storeH1 H rfl rfl rfl (by first | exact sBool | exact sStr | exact sInt) (by rfl) (by rfl) (by (repeat (first | apply Upd.head | apply Upd.tail | assumption))) (by (simp only [List.set_cons_succ, List.set_cons_zero]); rfl) (by exact Nat.le_of_ble_eq_true rfl) (by rfl) (by rfl) ?_; clear H; intro _ H)
      | ((with_reducible refine isBox ?_); refine wpList_boxH H rfl rfl rfl (by go_simp; rfl) (by simp only [Value.cells]; rfl) ?_; clear H; intro _ _ H; (simp only [Act.put, List.setIfInBounds_toArray, List.set_cons_succ, List.set_cons_zero]))
      | ((with_reducible refine isAlloc ?_); refine wpList_allocH H rfl rfl rfl (by first | exact zRat | exact zSpan | exact zPose | exact zFrame | exact zVec | exact zTurn | exact zBox) (by simp only [Value.cells]; rfl) ?_; clear H; intro _ _ H; (simp only [Act.put, List.setIfInBounds_toArray, List.set_cons_succ, List.set_cons_zero])))
  exact bodyPost_ret (results_H H Tryd.results45 (by (first | exact rRat | exact rSpan | exact rPose | exact rFrame | exact rVec | exact rTurn | exact rBox)) rfl (by (repeat (first | exact List.Mem.head _ | refine List.Mem.tail _ ?_ | assumption))) (by rfl)) rfl ⟨rfl, H.out.drop.drop⟩
end Go.Proofs.YtolekonocbeekaaDoor

namespace Go.Proofs.YtolekonocbeekaaDoor
open Go.RowKit
set_option linter.unusedVariables false
set_option maxRecDepth 100000

theorem zStm : (Tryd.prog.info? 78).bind (·.zero) = some (.pointer none) := by kernel_rfl
theorem Sd.ok.below {S : Sd} {w0 W : World} (h : S.ok w0) (hb : Below w0.heap.size w0 W) : S.ok W := ⟨h.le, h.mx, fun hp => by
  obtain ⟨b', o, h1, h2, h3⟩ := h.at_ hp
  exact ⟨b', o, h1, Nat.lt_of_lt_of_le h2 hb.size, fun j x hx => (hb.cell (p := ⟨b', o + j, none⟩) h2).trans (h3 j x hx)⟩, h.rg⟩
def Sd.lo (S : Sd) (most : Int) : Rat := ofQ (S.nx (2 * most + 1) - most) 4
def Sd.hi (S : Sd) (most : Int) : Rat := ofQ (S.nx (2 * most + 1) - most + S.sn.nx 7) 4
def Sd.s2 (S : Sd) : Sd := S.sn.sn
def Sd.s4 (S : Sd) : Sd := S.s2.s2
theorem Sd.ok.s2 {S : Sd} {w0 : World} (h : S.ok w0) : S.s2.ok w0 := h.next.next
theorem Sd.ok.s4 {S : Sd} {w0 : World} (h : S.ok w0) : S.s4.ok w0 := h.s2.s2
end Go.Proofs.YtolekonocbeekaaDoor

namespace Go.Proofs.YtolekonocbeekaaDoor
open Go.RowKit
set_option linter.unusedVariables false
set_option maxRecDepth 100000

set_option maxHeartbeats 4000000 in
theorem Frame_any (S : Sd) (u1 u2 u3 : Rat) (w : World) (hS : S.ok w) (hT : Tb w) (E1 : Hid (ofQ (S.nx 33 - 16) 2 = u1)) (E2 : Hid (ofQ (S.sn.nx 33 - 16) 2 = u2)) (E3 : Hid (ofQ (S.s2.nx 9 - 4) 4 = u3)) :
    Calls Tryd.prog 31 #[.slice S.A S.xs.length S.c] w fun e w' => e = .returned (.agg #[.bool (sgO (some u1)), .string (nuO (some u1)), .string (deO (some u1)), .bool (sgO (some u2)), .string (nuO (some u2)), .string (deO (some u2)), .bool false, .bool (sgO (some u3)), .string (nuO (some u3)), .string (deO (some u3))]) ∧ Below w.heap.size w w' := by
  have H := Lib.hid (Hp.start hT)
  have HS0 := Lib.hid hS
  have HS1 := Lib.hid hS.next
  have HS2 := Lib.hid hS.s2
  have hn1 := S.nx_bd 33 (by decide)
  have hn2 := S.sn.nx_bd 33 (by decide)
  have hn3 := S.s2.nx_bd 9 (by decide)
  clear hT hS
  go_enter Tryd.func31, Tryd.ntmps31
  go_wp2_with (first
      | go_skip
      | ((with_reducible refine isLoad ?_); refine wpList_loadH H rfl (by (first | exact wanted_none rfl | exact wanted_some rfl rfl)) (by (first | exact rRat | exact rSpan | exact rPose | exact rFrame | exact rVec | exact rTurn | exact rBox)) (by rfl) (by (repeat (first | exact List.Mem.head _ | refine List.Mem.tail _ ?_ | assumption))) (by (simp only [List.drop, List.take]); rfl) (by rfl) ?_; (simp only [Act.put, List.setIfInBounds_toArray, List.set_cons_succ, List.set_cons_zero]))
      | ((with_reducible refine isLoad ?_); refine wpList_loadH1 H rfl (by (first | exact wanted_none rfl | exact wanted_some rfl rfl)) (by (first | exact kBool | exact kStr | exact kInt | exact kStm)) (by rfl) (by (repeat (first | exact List.Mem.head _ | refine List.Mem.tail _ ?_ | assumption))) (by rfl) ?_; (simp only [Act.put, List.setIfInBounds_toArray, List.set_cons_succ, List.set_cons_zero]))
      | ((with_reducible refine isStore ?_); refine wpList_storeH H rfl rfl rfl (by (first | exact rRat | exact rSpan | exact rPose | exact rFrame | exact rVec | exact rTurn | exact rBox)) (by rfl) (by rfl) (by (repeat (first | apply Upd.head | apply Upd.tail | assumption))) (by rfl) (by (simp only [List.drop, List.take, List.nil_append, List.cons_append]); rfl) (by exact Nat.le_of_ble_eq_true rfl) (by rfl) ?_; clear H; intro _ H)
      | ((with_reducible refine isStore ?_); refine wpList_storeH1 H rfl rfl rfl (by first | exact sBool | exact sStr | exact sInt | exact sStm) (by rfl) (by rfl) (by (repeat (first | apply Upd.head | apply Upd.tail | assumption))) (by (simp only [List.set_cons_succ, List.set_cons_zero]); rfl) (by exact Nat.le_of_ble_eq_true rfl) (by rfl) (by rfl) ?_; clear H; intro _ H)
      | ((with_reducible refine isBox ?_); refine wpList_boxH H rfl rfl rfl (by go_simp; rfl) (by simp only [Value.cells]; rfl) ?_; clear H; intro _ _ H; (simp only [Act.put, List.setIfInBounds_toArray, List.set_cons_succ, List.set_cons_zero]))
      | ((with_reducible refine isAlloc ?_); refine wpList_allocH H rfl rfl rfl (by first | exact zRat | exact zSpan | exact zPose | exact zFrame | exact zVec | exact zTurn | exact zBox | exact zStm) (by simp only [Value.cells]; rfl) ?_; clear H; intro _ _ H; (simp only [Act.put, List.setIfInBounds_toArray, List.set_cons_succ, List.set_cons_zero])))
  refine (nextH_any S _ 33 H HS0 (by unfold Hid; (repeat (first | apply Upd.head | apply Upd.tail | assumption))) (by decide) (by decide)).mono ?_
  rintro _ _ ⟨rfl, H2⟩
  replace H := Lib.hid H2
  clear H2
  go_wp2_with (first
      | go_skip
      | ((with_reducible refine isLoad ?_); refine wpList_loadH H rfl (by (first | exact wanted_none rfl | exact wanted_some rfl rfl)) (by (first | exact rRat | exact rSpan | exact rPose | exact rFrame | exact rVec | exact rTurn | exact rBox)) (by rfl) (by (repeat (first | exact List.Mem.head _ | refine List.Mem.tail _ ?_ | assumption))) (by (simp only [List.drop, List.take]); rfl) (by rfl) ?_; (simp only [Act.put, List.setIfInBounds_toArray, List.set_cons_succ, List.set_cons_zero]))
      | ((with_reducible refine isLoad ?_); refine wpList_loadH1 H rfl (by (first | exact wanted_none rfl | exact wanted_some rfl rfl)) (by (first | exact kBool | exact kStr | exact kInt | exact kStm)) (by rfl) (by (repeat (first | exact List.Mem.head _ | refine List.Mem.tail _ ?_ | assumption))) (by rfl) ?_; (simp only [Act.put, List.setIfInBounds_toArray, List.set_cons_succ, List.set_cons_zero]))
      | ((with_reducible refine isStore ?_); refine wpList_storeH H rfl rfl rfl (by (first | exact rRat | exact rSpan | exact rPose | exact rFrame | exact rVec | exact rTurn | exact rBox)) (by rfl) (by rfl) (by (repeat (first | apply Upd.head | apply Upd.tail | assumption))) (by rfl) (by (simp only [List.drop, List.take, List.nil_append, List.cons_append]); rfl) (by exact Nat.le_of_ble_eq_true rfl) (by rfl) ?_; clear H; intro _ H)
      | ((with_reducible refine isStore ?_); refine wpList_storeH1 H rfl rfl rfl (by first | exact sBool | exact sStr | exact sInt | exact sStm) (by rfl) (by rfl) (by (repeat (first | apply Upd.head | apply Upd.tail | assumption))) (by (simp only [List.set_cons_succ, List.set_cons_zero]); rfl) (by exact Nat.le_of_ble_eq_true rfl) (by rfl) (by rfl) ?_; clear H; intro _ H)
      | ((with_reducible refine isBox ?_); refine wpList_boxH H rfl rfl rfl (by go_simp; rfl) (by simp only [Value.cells]; rfl) ?_; clear H; intro _ _ H; (simp only [Act.put, List.setIfInBounds_toArray, List.set_cons_succ, List.set_cons_zero]))
      | ((with_reducible refine isAlloc ?_); refine wpList_allocH H rfl rfl rfl (by first | exact zRat | exact zSpan | exact zPose | exact zFrame | exact zVec | exact zTurn | exact zBox | exact zStm) (by simp only [Value.cells]; rfl) ?_; clear H; intro _ _ H; (simp only [Act.put, List.setIfInBounds_toArray, List.set_cons_succ, List.set_cons_zero])))
  refine (ofQ_any (S.nx 33 - 16) 2 u1 _ (by omega) (by omega) (by decide) (by decide) E1).mono ?_
  rintro _ _ ⟨rfl, hb⟩
  replace H := Lib.hid (H.out.go hb)
  clear hb
  go_wp2_with (first
      | go_skip
      | ((with_reducible refine isLoad ?_); refine wpList_loadH H rfl (by (first | exact wanted_none rfl | exact wanted_some rfl rfl)) (by (first | exact rRat | exact rSpan | exact rPose | exact rFrame | exact rVec | exact rTurn | exact rBox)) (by rfl) (by (repeat (first | exact List.Mem.head _ | refine List.Mem.tail _ ?_ | assumption))) (by (simp only [List.drop, List.take]); rfl) (by rfl) ?_; (simp only [Act.put, List.setIfInBounds_toArray, List.set_cons_succ, List.set_cons_zero]))
      | ((with_reducible refine isLoad ?_); refine wpList_loadH1 H rfl (by (first | exact wanted_none rfl | exact wanted_some rfl rfl)) (by (first | exact kBool | exact kStr | exact kInt | exact kStm)) (by rfl) (by (repeat (first | exact List.Mem.head _ | refine List.Mem.tail _ ?_ | assumption))) (by rfl) ?_; (simp only [Act.put, List.setIfInBounds_toArray, List.set_cons_succ, List.set_cons_zero]))
      | ((with_reducible refine isStore ?_); refine wpList_storeH H rfl rfl rfl (by (first | exact rRat | exact rSpan | exact rPose | exact rFrame | exact rVec | exact rTurn | exact rBox)) (by rfl) (by rfl) (by (repeat (first | apply Upd.head | apply Upd.tail | assumption))) (by rfl) (by (simp only [List.drop, List.take, List.nil_append, List.cons_append]); rfl) (by exact Nat.le_of_ble_eq_true rfl) (by rfl) ?_; clear H; intro _ H)
      | ((with_reducible refine isStore ?_); refine wpList_storeH1 H rfl rfl rfl (by first | exact sBool | exact sStr | exact sInt | exact sStm) (by rfl) (by rfl) (by (repeat (first | apply Upd.head | apply Upd.tail | assumption))) (by (simp only [List.set_cons_succ, List.set_cons_zero]); rfl) (by exact Nat.le_of_ble_eq_true rfl) (by rfl) (by rfl) ?_; clear H; intro _ H)
      | ((with_reducible refine isBox ?_); refine wpList_boxH H rfl rfl rfl (by go_simp; rfl) (by simp only [Value.cells]; rfl) ?_; clear H; intro _ _ H; (simp only [Act.put, List.setIfInBounds_toArray, List.set_cons_succ, List.set_cons_zero]))
      | ((with_reducible refine isAlloc ?_); refine wpList_allocH H rfl rfl rfl (by first | exact zRat | exact zSpan | exact zPose | exact zFrame | exact zVec | exact zTurn | exact zBox | exact zStm) (by simp only [Value.cells]; rfl) ?_; clear H; intro _ _ H; (simp only [Act.put, List.setIfInBounds_toArray, List.set_cons_succ, List.set_cons_zero])))
  refine (nextH_any S.sn _ 33 H HS1 (by unfold Hid; (repeat (first | apply Upd.head | apply Upd.tail | assumption))) (by decide) (by decide)).mono ?_
  rintro _ _ ⟨rfl, H2⟩
  replace H := Lib.hid H2
  clear H2
  go_wp2_with (first
      | go_skip
      | ((with_reducible refine isLoad ?_); refine wpList_loadH H rfl (by (first | exact wanted_none rfl | exact wanted_some rfl rfl)) (by (first | exact rRat | exact rSpan | exact rPose | exact rFrame | exact rVec | exact rTurn | exact rBox)) (by rfl) (by (repeat (first | exact List.Mem.head _ | refine List.Mem.tail _ ?_ | assumption))) (by (simp only [List.drop, List.take]); rfl) (by rfl) ?_; (simp only [Act.put, List.setIfInBounds_toArray, List.set_cons_succ, List.set_cons_zero]))
      | ((with_reducible refine isLoad ?_); refine wpList_loadH1 H rfl (by (first | exact wanted_none rfl | exact wanted_some rfl rfl)) (by (first | exact kBool | exact kStr | exact kInt | exact kStm)) (by rfl) (by (repeat (first | exact List.Mem.head _ | refine List.Mem.tail _ ?_ | assumption))) (by rfl) ?_; (simp only [Act.put, List.setIfInBounds_toArray, List.set_cons_succ, List.set_cons_zero]))
      | ((with_reducible refine isStore ?_); refine wpList_storeH H rfl rfl rfl (by (first | exact rRat | exact rSpan | exact rPose | exact rFrame | exact rVec | exact rTurn | exact rBox)) (by rfl) (by rfl) (by (repeat (first | apply Upd.head | apply Upd.tail | assumption))) (by rfl) (by (simp only [List.drop, List.take, List.nil_append, List.cons_append]); rfl) (by exact Nat.le_of_ble_eq_true rfl) (by rfl) ?_; clear H; intro _ H)
      | ((with_reducible refine isStore ?_); refine wpList_storeH1 H rfl rfl rfl (by first | exact sBool | exact sStr | exact sInt | exact sStm) (by rfl) (by rfl) (by (repeat (first | apply Upd.head | apply Upd.tail | assumption))) (by (simp only [List.set_cons_succ, List.set_cons_zero]); rfl) (by exact Nat.le_of_ble_eq_true rfl) (by rfl) (by rfl) ?_; clear H; intro _ H)
      | ((with_reducible refine isBox ?_); refine wpList_boxH H rfl rfl rfl (by go_simp; rfl) (by simp only [Value.cells]; rfl) ?_; clear H; intro _ _ H; (simp only [Act.put, List.setIfInBounds_toArray, List.set_cons_succ, List.set_cons_zero]))
      | ((with_reducible refine isAlloc ?_); refine wpList_allocH H rfl rfl rfl (by first | exact zRat | exact zSpan | exact zPose | exact zFrame | exact zVec | exact zTurn | exact zBox | exact zStm) (by simp only [Value.cells]; rfl) ?_; clear H; intro _ _ H; (simp only [Act.put, List.setIfInBounds_toArray, List.set_cons_succ, List.set_cons_zero])))
  refine (ofQ_any (S.sn.nx 33 - 16) 2 u2 _ (by omega) (by omega) (by decide) (by decide) E2).mono ?_
  rintro _ _ ⟨rfl, hb⟩
  replace H := Lib.hid (H.out.go hb)
  clear hb
  go_wp2_with (first
      | go_skip
      | ((with_reducible refine isLoad ?_); refine wpList_loadH H rfl (by (first | exact wanted_none rfl | exact wanted_some rfl rfl)) (by (first | exact rRat | exact rSpan | exact rPose | exact rFrame | exact rVec | exact rTurn | exact rBox)) (by rfl) (by (repeat (first | exact List.Mem.head _ | refine List.Mem.tail _ ?_ | assumption))) (by (simp only [List.drop, List.take]); rfl) (by rfl) ?_; (simp only [Act.put, List.setIfInBounds_toArray, List.set_cons_succ, List.set_cons_zero]))
      | ((with_reducible refine isLoad ?_); refine wpList_loadH1 H rfl (by (first | exact wanted_none rfl | exact wanted_some rfl rfl)) (by (first | exact kBool | exact kStr | exact kInt | exact kStm)) (by rfl) (by (repeat (first | exact List.Mem.head _ | refine List.Mem.tail _ ?_ | assumption))) (by rfl) ?_; (simp only [Act.put, List.setIfInBounds_toArray, List.set_cons_succ, List.set_cons_zero]))
      | ((with_reducible refine isStore ?_); refine wpList_storeH H rfl rfl rfl (by (first | exact rRat | exact rSpan | exact rPose | exact rFrame | exact rVec | exact rTurn | exact rBox)) (by rfl) (by rfl) (by (repeat (first | apply Upd.head | apply Upd.tail | assumption))) (by rfl) (by (simp only [List.drop, List.take, List.nil_append, List.cons_append]); rfl) (by exact Nat.le_of_ble_eq_true rfl) (by rfl) ?_; clear H; intro _ H)
      | ((with_reducible refine isStore ?_); refine wpList_storeH1 H rfl rfl rfl (by first | exact sBool | exact sStr | exact sInt | exact sStm) (by rfl) (by rfl) (by (repeat (first | apply Upd.head | apply Upd.tail | assumption))) (by (simp only [List.set_cons_succ, List.set_cons_zero]); rfl) (by exact Nat.le_of_ble_eq_true rfl) (by rfl) (by rfl) ?_; clear H; intro _ H)
      | ((with_reducible refine isBox ?_); refine wpList_boxH H rfl rfl rfl (by go_simp; rfl) (by simp only [Value.cells]; rfl) ?_; clear H; intro _ _ H; (simp only [Act.put, List.setIfInBounds_toArray, List.set_cons_succ, List.set_cons_zero]))
      | ((with_reducible refine isAlloc ?_); refine wpList_allocH H rfl rfl rfl (by first | exact zRat | exact zSpan | exact zPose | exact zFrame | exact zVec | exact zTurn | exact zBox | exact zStm) (by simp only [Value.cells]; rfl) ?_; clear H; intro _ _ H; (simp only [Act.put, List.setIfInBounds_toArray, List.set_cons_succ, List.set_cons_zero])))
  refine (nextH_any S.s2 _ 9 H HS2 (by unfold Hid; (repeat (first | apply Upd.head | apply Upd.tail | assumption))) (by decide) (by decide)).mono ?_
  rintro _ _ ⟨rfl, H2⟩
  replace H := Lib.hid H2
  clear H2
  go_wp2_with (first
      | go_skip
      | ((with_reducible refine isLoad ?_); refine wpList_loadH H rfl (by (first | exact wanted_none rfl | exact wanted_some rfl rfl)) (by (first | exact rRat | exact rSpan | exact rPose | exact rFrame | exact rVec | exact rTurn | exact rBox)) (by rfl) (by (repeat (first | exact List.Mem.head _ | refine List.Mem.tail _ ?_ | assumption))) (by (simp only [List.drop, List.take]); rfl) (by rfl) ?_; (simp only [Act.put, List.setIfInBounds_toArray, List.set_cons_succ, List.set_cons_zero]))
      | ((with_reducible refine isLoad ?_); refine wpList_loadH1 H rfl (by (first | exact wanted_none rfl | exact wanted_some rfl rfl)) (by (first | exact kBool | exact kStr | exact kInt | exact kStm)) (by rfl) (by (repeat (first | exact List.Mem.head _ | refine List.Mem.tail _ ?_ | assumption))) (by rfl) ?_; (simp only [Act.put, List.setIfInBounds_toArray, List.set_cons_succ, List.set_cons_zero]))
      | ((with_reducible refine isStore ?_); refine wpList_storeH H rfl rfl rfl (by (first | exact rRat | exact rSpan | exact rPose | exact rFrame | exact rVec | exact rTurn | exact rBox)) (by rfl) (by rfl) (by (repeat (first | apply Upd.head | apply Upd.tail | assumption))) (by rfl) (by (simp only [List.drop, List.take, List.nil_append, List.cons_append]); rfl) (by exact Nat.le_of_ble_eq_true rfl) (by rfl) ?_; clear H; intro _ H)
      | ((with_reducible refine isStore ?_); refine wpList_storeH1 H rfl rfl rfl (by first | exact sBool | exact sStr | exact sInt | exact sStm) (by rfl) (by rfl) (by (repeat (first | apply Upd.head | apply Upd.tail | assumption))) (by (simp only [List.set_cons_succ, List.set_cons_zero]); rfl) (by exact Nat.le_of_ble_eq_true rfl) (by rfl) (by rfl) ?_; clear H; intro _ H)
      | ((with_reducible refine isBox ?_); refine wpList_boxH H rfl rfl rfl (by go_simp; rfl) (by simp only [Value.cells]; rfl) ?_; clear H; intro _ _ H; (simp only [Act.put, List.setIfInBounds_toArray, List.set_cons_succ, List.set_cons_zero]))
      | ((with_reducible refine isAlloc ?_); refine wpList_allocH H rfl rfl rfl (by first | exact zRat | exact zSpan | exact zPose | exact zFrame | exact zVec | exact zTurn | exact zBox | exact zStm) (by simp only [Value.cells]; rfl) ?_; clear H; intro _ _ H; (simp only [Act.put, List.setIfInBounds_toArray, List.set_cons_succ, List.set_cons_zero])))
  refine (ofQ_any (S.s2.nx 9 - 4) 4 u3 _ (by omega) (by omega) (by decide) (by decide) E3).mono ?_
  rintro _ _ ⟨rfl, hb⟩
  replace H := Lib.hid (H.out.go hb)
  clear hb
  go_wp2_with (first
      | go_skip
      | ((with_reducible refine isLoad ?_); refine wpList_loadH H rfl (by (first | exact wanted_none rfl | exact wanted_some rfl rfl)) (by (first | exact rRat | exact rSpan | exact rPose | exact rFrame | exact rVec | exact rTurn | exact rBox)) (by rfl) (by (repeat (first | exact List.Mem.head _ | refine List.Mem.tail _ ?_ | assumption))) (by (simp only [List.drop, List.take]); rfl) (by rfl) ?_; (simp only [Act.put, List.setIfInBounds_toArray, List.set_cons_succ, List.set_cons_zero]))
      | ((with_reducible refine isLoad ?_); refine wpList_loadH1 H rfl (by (first | exact wanted_none rfl | exact wanted_some rfl rfl)) (by (first | exact kBool | exact kStr | exact kInt | exact kStm)) (by rfl) (by (repeat (first | exact List.Mem.head _ | refine List.Mem.tail _ ?_ | assumption))) (by rfl) ?_; (simp only [Act.put, List.setIfInBounds_toArray, List.set_cons_succ, List.set_cons_zero]))
      | ((with_reducible refine isStore ?_); refine wpList_storeH H rfl rfl rfl (by (first | exact rRat | exact rSpan | exact rPose | exact rFrame | exact rVec | exact rTurn | exact rBox)) (by rfl) (by rfl) (by (repeat (first | apply Upd.head | apply Upd.tail | assumption))) (by rfl) (by (simp only [List.drop, List.take, List.nil_append, List.cons_append]); rfl) (by exact Nat.le_of_ble_eq_true rfl) (by rfl) ?_; clear H; intro _ H)
      | ((with_reducible refine isStore ?_); refine wpList_storeH1 H rfl rfl rfl (by first | exact sBool | exact sStr | exact sInt | exact sStm) (by rfl) (by rfl) (by (repeat (first | apply Upd.head | apply Upd.tail | assumption))) (by (simp only [List.set_cons_succ, List.set_cons_zero]); rfl) (by exact Nat.le_of_ble_eq_true rfl) (by rfl) (by rfl) ?_; clear H; intro _ H)
      | ((with_reducible refine isBox ?_); refine wpList_boxH H rfl rfl rfl (by go_simp; rfl) (by simp only [Value.cells]; rfl) ?_; clear H; intro _ _ H; (simp only [Act.put, List.setIfInBounds_toArray, List.set_cons_succ, List.set_cons_zero]))
      | ((with_reducible refine isAlloc ?_); refine wpList_allocH H rfl rfl rfl (by first | exact zRat | exact zSpan | exact zPose | exact zFrame | exact zVec | exact zTurn | exact zBox | exact zStm) (by simp only [Value.cells]; rfl) ?_; clear H; intro _ _ H; (simp only [Act.put, List.setIfInBounds_toArray, List.set_cons_succ, List.set_cons_zero])))
  exact bodyPost_ret (results_H H Tryd.results31 (by (first | exact rRat | exact rSpan | exact rPose | exact rFrame | exact rVec | exact rTurn | exact rBox)) rfl (by (repeat (first | exact List.Mem.head _ | refine List.Mem.tail _ ?_ | assumption))) (by rfl)) rfl ⟨rfl, H.out.bel⟩
end Go.Proofs.YtolekonocbeekaaDoor

namespace Go.Proofs.YtolekonocbeekaaDoor
open Go.RowKit
set_option linter.unusedVariables false
set_option maxRecDepth 100000

set_option maxHeartbeats 4000000 in
theorem Pose_any (S : Sd) (u1 v1 u2 v2 u3 v3 : Rat) (w : World) (hS : S.ok w) (hT : Tb w) (E1 : Hid (S.lo 20 = u1)) (E2 : Hid (S.hi 20 = v1)) (E3 : Hid (S.s2.lo 20 = u2)) (E4 : Hid (S.s2.hi 20 = v2)) (E5 : Hid (S.s4.lo 4 = u3)) (E6 : Hid (S.s4.hi 4 = v3)) :
    Calls Tryd.prog 10 #[.slice S.A S.xs.length S.c] w fun e w' => e = .returned (.agg #[.bool (sgO (some u1)), .string (nuO (some u1)), .string (deO (some u1)), .bool (sgO (some v1)), .string (nuO (some v1)), .string (deO (some v1)), .bool (sgO (some u2)), .string (nuO (some u2)), .string (deO (some u2)), .bool (sgO (some v2)), .string (nuO (some v2)), .string (deO (some v2)), .bool (sgO (some u3)), .string (nuO (some u3)), .string (deO (some u3)), .bool (sgO (some v3)), .string (nuO (some v3)), .string (deO (some v3))]) ∧ Below w.heap.size w w' := by
  have H := Lib.hid (Hp.start hT)
  have HS0 := Lib.hid hS
  have HS2 := Lib.hid hS.s2
  have HS4 := Lib.hid hS.s4
  clear hT hS
  go_enter Tryd.func10, Tryd.ntmps10
  go_wp2_with (first
      | go_skip
      | ((with_reducible refine isLoad ?_); refine wpList_loadH H rfl (by (first | exact wanted_none rfl | exact wanted_some rfl rfl)) (by (first | exact rRat | exact rSpan | exact rPose | exact rFrame | exact rVec | exact rTurn | exact rBox)) (by rfl) (by (repeat (first | exact List.Mem.head _ | refine List.Mem.tail _ ?_ | assumption))) (by (simp only [List.drop, List.take]); rfl) (by rfl) ?_; (simp only [Act.put, List.setIfInBounds_toArray, List.set_cons_succ, List.set_cons_zero]))
      | ((with_reducible refine isLoad ?_); refine wpList_loadH1 H rfl (by (first | exact wanted_none rfl | exact wanted_some rfl rfl)) (by (first | exact kBool | exact kStr | exact kInt | exact kStm)) (by rfl) (by (repeat (first | exact List.Mem.head _ | refine List.Mem.tail _ ?_ | assumption))) (by rfl) ?_; (simp only [Act.put, List.setIfInBounds_toArray, List.set_cons_succ, List.set_cons_zero]))
      | ((with_reducible refine isStore ?_); refine wpList_storeH H rfl rfl rfl (by (first | exact rRat | exact rSpan | exact rPose | exact rFrame | exact rVec | exact rTurn | exact rBox)) (by rfl) (by rfl) (by (repeat (first | apply Upd.head | apply Upd.tail | assumption))) (by rfl) (by (simp only [List.drop, List.take, List.nil_append, List.cons_append]); rfl) (by exact Nat.le_of_ble_eq_true rfl) (by rfl) ?_; clear H; intro _ H)
      | ((with_reducible refine isStore ?_); refine wpList_storeH1 H rfl rfl rfl (by first | exact sBool | exact sStr | exact sInt | exact sStm) (by rfl) (by rfl) (by (repeat (first | apply Upd.head | apply Upd.tail | assumption))) (by (simp only [List.set_cons_succ, List.set_cons_zero]); rfl) (by exact Nat.le_of_ble_eq_true rfl) (by rfl) (by rfl) ?_; clear H; intro _ H)
      | ((with_reducible refine isBox ?_); refine wpList_boxH H rfl rfl rfl (by go_simp; rfl) (by simp only [Value.cells]; rfl) ?_; clear H; intro _ _ H; (simp only [Act.put, List.setIfInBounds_toArray, List.set_cons_succ, List.set_cons_zero]))
      | ((with_reducible refine isAlloc ?_); refine wpList_allocH H rfl rfl rfl (by first | exact zRat | exact zSpan | exact zPose | exact zFrame | exact zVec | exact zTurn | exact zBox | exact zStm) (by simp only [Value.cells]; rfl) ?_; clear H; intro _ _ H; (simp only [Act.put, List.setIfInBounds_toArray, List.set_cons_succ, List.set_cons_zero])))
  refine (pose1_any S 20 _ _ u1 v1 H (by decide) (by decide) E1 E2 HS0 (by unfold Hid; (repeat (first | exact List.Mem.head _ | refine List.Mem.tail _ ?_ | assumption))) (by unfold Hid; (repeat (first | apply Upd.head | apply Upd.tail | assumption)))).mono ?_
  rintro _ _ ⟨rfl, H2⟩
  replace H := Lib.hid H2
  clear H2
  go_wp2_with (first
      | go_skip
      | ((with_reducible refine isLoad ?_); refine wpList_loadH H rfl (by (first | exact wanted_none rfl | exact wanted_some rfl rfl)) (by (first | exact rRat | exact rSpan | exact rPose | exact rFrame | exact rVec | exact rTurn | exact rBox)) (by rfl) (by (repeat (first | exact List.Mem.head _ | refine List.Mem.tail _ ?_ | assumption))) (by (simp only [List.drop, List.take]); rfl) (by rfl) ?_; (simp only [Act.put, List.setIfInBounds_toArray, List.set_cons_succ, List.set_cons_zero]))
      | ((with_reducible refine isLoad ?_); refine wpList_loadH1 H rfl (by (first | exact wanted_none rfl | exact wanted_some rfl rfl)) (by (first | exact kBool | exact kStr | exact kInt | exact kStm)) (by rfl) (by (repeat (first | exact List.Mem.head _ | refine List.Mem.tail _ ?_ | assumption))) (by rfl) ?_; (simp only [Act.put, List.setIfInBounds_toArray, List.set_cons_succ, List.set_cons_zero]))
      | ((with_reducible refine isStore ?_); refine wpList_storeH H rfl rfl rfl (by (first | exact rRat | exact rSpan | exact rPose | exact rFrame | exact rVec | exact rTurn | exact rBox)) (by rfl) (by rfl) (by (repeat (first | apply Upd.head | apply Upd.tail | assumption))) (by rfl) (by (simp only [List.drop, List.take, List.nil_append, List.cons_append]); rfl) (by exact Nat.le_of_ble_eq_true rfl) (by rfl) ?_; clear H; intro _ H)
      | ((with_reducible refine isStore ?_); refine wpList_storeH1 H rfl rfl rfl (by first | exact sBool | exact sStr | exact sInt | exact sStm) (by rfl) (by rfl) (by (repeat (first | apply Upd.head | apply Upd.tail | assumption))) (by (simp only [List.set_cons_succ, List.set_cons_zero]); rfl) (by exact Nat.le_of_ble_eq_true rfl) (by rfl) (by rfl) ?_; clear H; intro _ H)
      | ((with_reducible refine isBox ?_); refine wpList_boxH H rfl rfl rfl (by go_simp; rfl) (by simp only [Value.cells]; rfl) ?_; clear H; intro _ _ H; (simp only [Act.put, List.setIfInBounds_toArray, List.set_cons_succ, List.set_cons_zero]))
      | ((with_reducible refine isAlloc ?_); refine wpList_allocH H rfl rfl rfl (by first | exact zRat | exact zSpan | exact zPose | exact zFrame | exact zVec | exact zTurn | exact zBox | exact zStm) (by simp only [Value.cells]; rfl) ?_; clear H; intro _ _ H; (simp only [Act.put, List.setIfInBounds_toArray, List.set_cons_succ, List.set_cons_zero])))
  refine (pose1_any S.s2 20 _ _ u2 v2 H (by decide) (by decide) E3 E4 HS2 (by unfold Hid; (repeat (first | exact List.Mem.head _ | refine List.Mem.tail _ ?_ | assumption))) (by unfold Hid; (repeat (first | apply Upd.head | apply Upd.tail | assumption)))).mono ?_
  rintro _ _ ⟨rfl, H2⟩
  replace H := Lib.hid H2
  clear H2
  go_wp2_with (first
      | go_skip
      | ((with_reducible refine isLoad ?_); refine wpList_loadH H rfl (by (first | exact wanted_none rfl | exact wanted_some rfl rfl)) (by (first | exact rRat | exact rSpan | exact rPose | exact rFrame | exact rVec | exact rTurn | exact rBox)) (by rfl) (by (repeat (first | exact List.Mem.head _ | refine List.Mem.tail _ ?_ | assumption))) (by (simp only [List.drop, List.take]); rfl) (by rfl) ?_; (simp only [Act.put, List.setIfInBounds_toArray, List.set_cons_succ, List.set_cons_zero]))
      | ((with_reducible refine isLoad ?_); refine wpList_loadH1 H rfl (by (first | exact wanted_none rfl | exact wanted_some rfl rfl)) (by (first | exact kBool | exact kStr | exact kInt | exact kStm)) (by rfl) (by (repeat (first | exact List.Mem.head _ | refine List.Mem.tail _ ?_ | assumption))) (by rfl) ?_; (simp only [Act.put, List.setIfInBounds_toArray, List.set_cons_succ, List.set_cons_zero]))
      | ((with_reducible refine isStore ?_); refine wpList_storeH H rfl rfl rfl (by (first | exact rRat | exact rSpan | exact rPose | exact rFrame | exact rVec | exact rTurn | exact rBox)) (by rfl) (by rfl) (by (repeat (first | apply Upd.head | apply Upd.tail | assumption))) (by rfl) (by (simp only [List.drop, List.take, List.nil_append, List.cons_append]); rfl) (by exact Nat.le_of_ble_eq_true rfl) (by rfl) ?_; clear H; intro _ H)
      | ((with_reducible refine isStore ?_); refine wpList_storeH1 H rfl rfl rfl (by first | exact sBool | exact sStr | exact sInt | exact sStm) (by rfl) (by rfl) (by (repeat (first | apply Upd.head | apply Upd.tail | assumption))) (by (simp only [List.set_cons_succ, List.set_cons_zero]); rfl) (by exact Nat.le_of_ble_eq_true rfl) (by rfl) (by rfl) ?_; clear H; intro _ H)
      | ((with_reducible refine isBox ?_); refine wpList_boxH H rfl rfl rfl (by go_simp; rfl) (by simp only [Value.cells]; rfl) ?_; clear H; intro _ _ H; (simp only [Act.put, List.setIfInBounds_toArray, List.set_cons_succ, List.set_cons_zero]))
      | ((with_reducible refine isAlloc ?_); refine wpList_allocH H rfl rfl rfl (by first | exact zRat | exact zSpan | exact zPose | exact zFrame | exact zVec | exact zTurn | exact zBox | exact zStm) (by simp only [Value.cells]; rfl) ?_; clear H; intro _ _ H; (simp only [Act.put, List.setIfInBounds_toArray, List.set_cons_succ, List.set_cons_zero])))
  refine (pose1_any S.s4 4 _ _ u3 v3 H (by decide) (by decide) E5 E6 HS4 (by unfold Hid; (repeat (first | exact List.Mem.head _ | refine List.Mem.tail _ ?_ | assumption))) (by unfold Hid; (repeat (first | apply Upd.head | apply Upd.tail | assumption)))).mono ?_
  rintro _ _ ⟨rfl, H2⟩
  replace H := Lib.hid H2
  clear H2
  go_wp2_with (first
      | go_skip
      | ((with_reducible refine isLoad ?_); refine wpList_loadH H rfl (by (first | exact wanted_none rfl | exact wanted_some rfl rfl)) (by (first | exact rRat | exact rSpan | exact rPose | exact rFrame | exact rVec | exact rTurn | exact rBox)) (by rfl) (by (repeat (first | exact List.Mem.head _ | refine List.Mem.tail _ ?_ | assumption))) (by (simp only [List.drop, List.take]); rfl) (by rfl) ?_; (simp only [Act.put, List.setIfInBounds_toArray, List.set_cons_succ, List.set_cons_zero]))
      | ((with_reducible refine isLoad ?_); refine wpList_loadH1 H rfl (by (first | exact wanted_none rfl | exact wanted_some rfl rfl)) (by (first | exact kBool | exact kStr | exact kInt | exact kStm)) (by rfl) (by (repeat (first | exact List.Mem.head _ | refine List.Mem.tail _ ?_ | assumption))) (by rfl) ?_; (simp only [Act.put, List.setIfInBounds_toArray, List.set_cons_succ, List.set_cons_zero]))
      | ((with_reducible refine isStore ?_); refine wpList_storeH H rfl rfl rfl (by (first | exact rRat | exact rSpan | exact rPose | exact rFrame | exact rVec | exact rTurn | exact rBox)) (by rfl) (by rfl) (by (repeat (first | apply Upd.head | apply Upd.tail | assumption))) (by rfl) (by (simp only [List.drop, List.take, List.nil_append, List.cons_append]); rfl) (by exact Nat.le_of_ble_eq_true rfl) (by rfl) ?_; clear H; intro _ H)
      | ((with_reducible refine isStore ?_); refine wpList_storeH1 H rfl rfl rfl (by first | exact sBool | exact sStr | exact sInt | exact sStm) (by rfl) (by rfl) (by (repeat (first | apply Upd.head | apply Upd.tail | assumption))) (by (simp only [List.set_cons_succ, List.set_cons_zero]); rfl) (by exact Nat.le_of_ble_eq_true rfl) (by rfl) (by rfl) ?_; clear H; intro _ H)
      | ((with_reducible refine isBox ?_); refine wpList_boxH H rfl rfl rfl (by go_simp; rfl) (by simp only [Value.cells]; rfl) ?_; clear H; intro _ _ H; (simp only [Act.put, List.setIfInBounds_toArray, List.set_cons_succ, List.set_cons_zero]))
      | ((with_reducible refine isAlloc ?_); refine wpList_allocH H rfl rfl rfl (by first | exact zRat | exact zSpan | exact zPose | exact zFrame | exact zVec | exact zTurn | exact zBox | exact zStm) (by simp only [Value.cells]; rfl) ?_; clear H; intro _ _ H; (simp only [Act.put, List.setIfInBounds_toArray, List.set_cons_succ, List.set_cons_zero])))
  exact bodyPost_ret (results_H H Tryd.results10 (by (first | exact rRat | exact rSpan | exact rPose | exact rFrame | exact rVec | exact rTurn | exact rBox)) rfl (by (repeat (first | exact List.Mem.head _ | refine List.Mem.tail _ ?_ | assumption))) (by rfl)) rfl ⟨rfl, H.out.bel⟩
end Go.Proofs.YtolekonocbeekaaDoor

namespace Go.Proofs.YtolekonocbeekaaDoor
open Go.RowKit
set_option linter.unusedVariables false
set_option maxRecDepth 100000

set_option maxHeartbeats 4000000 in
theorem Within_any {k : Nat} (S : Sd) (a1 b1 : Option Rat) (a2 b2 : Option Rat) (a3 b3 : Option Rat) (u1 u2 u3 : Rat) (w : World) (hk : k ≤ 200) (Za1 : Hid (SzO k a1)) (Zb1 : Hid (SzO k b1)) (Za2 : Hid (SzO k a2)) (Zb2 : Hid (SzO k b2)) (Za3 : Hid (SzO k a3)) (Zb3 : Hid (SzO k b3)) (hS : S.ok w) (hT : Tb w) (E1 : Hid (btQ (valO a1) (valO b1) (S.nx 9) = u1)) (E2 : Hid (btQ (valO a2) (valO b2) (S.sn.nx 9) = u2)) (E3 : Hid (btQ (valO a3) (valO b3) (S.s2.nx 9) = u3)) :
    Calls Tryd.prog 11 #[.agg #[.bool (sgO a1), .string (nuO a1), .string (deO a1), .bool (sgO b1), .string (nuO b1), .string (deO b1), .bool (sgO a2), .string (nuO a2), .string (deO a2), .bool (sgO b2), .string (nuO b2), .string (deO b2), .bool (sgO a3), .string (nuO a3), .string (deO a3), .bool (sgO b3), .string (nuO b3), .string (deO b3)], .slice S.A S.xs.length S.c] w fun e w' => e = .returned (.agg #[.bool (sgO (some u1)), .string (nuO (some u1)), .string (deO (some u1)), .bool (sgO (some u2)), .string (nuO (some u2)), .string (deO (some u2)), .bool false, .bool (sgO (some u3)), .string (nuO (some u3)), .string (deO (some u3))]) ∧ Below w.heap.size w w' := by
  have H := Lib.hid (Hp.start hT)
  have HS0 := Lib.hid hS
  have HS1 := Lib.hid hS.next
  have HS2 := Lib.hid hS.s2
  clear hT hS
  go_enter Tryd.func11, Tryd.ntmps11
  go_wp2_with (first
      | go_skip
      | ((with_reducible refine isLoad ?_); refine wpList_loadH H rfl (by (first | exact wanted_none rfl | exact wanted_some rfl rfl)) (by (first | exact rRat | exact rSpan | exact rPose | exact rFrame | exact rVec | exact rTurn | exact rBox)) (by rfl) (by (repeat (first | exact List.Mem.head _ | refine List.Mem.tail _ ?_ | assumption))) (by (simp only [List.drop, List.take]); rfl) (by rfl) ?_; (simp only [Act.put, List.setIfInBounds_toArray, List.set_cons_succ, List.set_cons_zero]))
      | ((with_reducible refine isLoad ?_); refine wpList_loadH1 H rfl (by (first | exact wanted_none rfl | exact wanted_some rfl rfl)) (by (first | exact kBool | exact kStr | exact kInt | exact kStm)) (by rfl) (by (repeat (first | exact List.Mem.head _ | refine List.Mem.tail _ ?_ | assumption))) (by rfl) ?_; (simp only [Act.put, List.setIfInBounds_toArray, List.set_cons_succ, List.set_cons_zero]))
      | ((with_reducible refine isStore ?_); refine wpList_storeH H rfl rfl rfl (by (first | exact rRat | exact rSpan | exact rPose | exact rFrame | exact rVec | exact rTurn | exact rBox)) (by rfl) (by rfl) (by (repeat (first | apply Upd.head | apply Upd.tail | assumption))) (by rfl) (by (simp only [List.drop, List.take, List.nil_append, List.cons_append]); rfl) (by exact Nat.le_of_ble_eq_true rfl) (by rfl) ?_; clear H; intro _ H)
      | ((with_reducible refine isStore ?_); refine wpList_storeH1 H rfl rfl rfl (by first | exact sBool | exact sStr | exact sInt | exact sStm) (by rfl) (by rfl) (by (repeat (first | apply Upd.head | apply Upd.tail | assumption))) (by (simp only [List.set_cons_succ, List.set_cons_zero]); rfl) (by exact Nat.le_of_ble_eq_true rfl) (by rfl) (by rfl) ?_; clear H; intro _ H)
      | ((with_reducible refine isBox ?_); refine wpList_boxH H rfl rfl rfl (by go_simp; rfl) (by simp only [Value.cells]; rfl) ?_; clear H; intro _ _ H; (simp only [Act.put, List.setIfInBounds_toArray, List.set_cons_succ, List.set_cons_zero]))
      | ((with_reducible refine isAlloc ?_); refine wpList_allocH H rfl rfl rfl (by first | exact zRat | exact zSpan | exact zPose | exact zFrame | exact zVec | exact zTurn | exact zBox | exact zStm) (by simp only [Value.cells]; rfl) ?_; clear H; intro _ _ H; (simp only [Act.put, List.setIfInBounds_toArray, List.set_cons_succ, List.set_cons_zero])))
  rename_i bp Wa br Wb g Wc c Wd We K3 hK3
  refine wp_region_V 15 [.p, .p, .p, .s, .p, .p, .p, .s, .p, .p, .p, .p, .s, .p, .p] [(bp, 28, [.bool (sgO a1), .string (nuO a1), .string (deO a1), .bool (sgO b1), .string (nuO b1), .string (deO b1), .bool (sgO a2), .string (nuO a2), .string (deO a2), .bool (sgO b2), .string (nuO b2), .string (deO b2), .bool (sgO a3), .string (nuO a3), .string (deO a3), .bool (sgO b3), .string (nuO b3), .string (deO b3)]), (c, 78, [.pointer (some ⟨g, 0, none⟩)])] H (by intro x hx; simp only [List.mem_cons, List.not_mem_nil, or_false] at hx; rcases hx with rfl | rfl <;> (repeat (first | exact List.Mem.head _ | refine List.Mem.tail _ ?_ | assumption))) (by simp only [List.map_cons, List.map_nil, List.nodup_cons, List.mem_cons, List.not_mem_nil, or_false, not_false_eq_true, List.nodup_nil, and_true, not_or]; and_intros <;> exact H.out.ne_t (by (repeat (first | exact List.Mem.head _ | refine List.Mem.tail _ ?_ | assumption))) (by (repeat (first | exact List.Mem.head _ | refine List.Mem.tail _ ?_ | assumption))) (by decide)) (by kernel_rfl) (by kernel_rfl) (by kernel_rfl) ?_
  simp only [List.take_succ_cons, List.take_zero, List.drop_succ_cons, List.drop_zero]
  refine wpV_P (by rfl) (by (first | exact wanted_none rfl | exact wanted_some rfl rfl)) (by intro W; first | (go_simp; rfl) | go_simp) ?_
  (simp only [Act.put, List.setIfInBounds_toArray, List.set_cons_succ, List.set_cons_zero])
  refine wpV_P (by rfl) (by (first | exact wanted_none rfl | exact wanted_some rfl rfl)) (by intro W; first | (go_simp; rfl) | go_simp) ?_
  (simp only [Act.put, List.setIfInBounds_toArray, List.set_cons_succ, List.set_cons_zero])
  refine wpV_load (by rfl) rfl (by (first | exact wanted_none rfl | exact wanted_some rfl rfl)) (by (first | exact rRat | exact rSpan | exact rPose | exact rFrame | exact rVec | exact rTurn | exact rBox)) (by rfl) (by (repeat (first | exact List.Mem.head _ | refine List.Mem.tail _ ?_ | assumption))) (by (simp only [List.drop, List.take]); rfl) (by rfl) ?_
  (simp only [Act.put, List.setIfInBounds_toArray, List.set_cons_succ, List.set_cons_zero])
  apply wpV_S (z := g) [S.sn.v] (by rfl) (by (first | exact wanted_none rfl | exact wanted_some rfl rfl)) (by intro x hx; simp only [List.mem_cons, List.not_mem_nil, or_false] at hx; rcases hx with rfl | rfl <;> exact H.out.ne_t (by (repeat (first | exact List.Mem.head _ | refine List.Mem.tail _ ?_ | assumption))) (by (repeat (first | exact List.Mem.head _ | refine List.Mem.tail _ ?_ | assumption))) (by decide)) (by (repeat (first | apply Upd.head | apply Upd.tail | assumption)))
  · intro m m2 W hW hs hu
    go_simp
    refine ⟨rfl, ?_⟩
    go_at_call 45
    exact within1_any a1 b1 S g c u1 hW hk Za1 Zb1 E1 HS0 (Lib.hid (hs _ (.tail _ (.head _)))) (Lib.hid hu)
  (simp only [Act.put, List.setIfInBounds_toArray, List.set_cons_succ, List.set_cons_zero])
  refine wpV_P (by rfl) (by (first | exact wanted_none rfl | exact wanted_some rfl rfl)) (by intro W; first | (go_simp; rfl) | go_simp) ?_
  (simp only [Act.put, List.setIfInBounds_toArray, List.set_cons_succ, List.set_cons_zero])
  refine wpV_P (by rfl) (by (first | exact wanted_none rfl | exact wanted_some rfl rfl)) (by intro W; first | (go_simp; rfl) | go_simp) ?_
  (simp only [Act.put, List.setIfInBounds_toArray, List.set_cons_succ, List.set_cons_zero])
  refine wpV_load (by rfl) rfl (by (first | exact wanted_none rfl | exact wanted_some rfl rfl)) (by (first | exact rRat | exact rSpan | exact rPose | exact rFrame | exact rVec | exact rTurn | exact rBox)) (by rfl) (by (repeat (first | exact List.Mem.head _ | refine List.Mem.tail _ ?_ | assumption))) (by (simp only [List.drop, List.take]); rfl) (by rfl) ?_
  (simp only [Act.put, List.setIfInBounds_toArray, List.set_cons_succ, List.set_cons_zero])
  apply wpV_S (z := g) [S.sn.sn.v] (by rfl) (by (first | exact wanted_none rfl | exact wanted_some rfl rfl)) (by intro x hx; simp only [List.mem_cons, List.not_mem_nil, or_false] at hx; rcases hx with rfl | rfl <;> exact H.out.ne_t (by (repeat (first | exact List.Mem.head _ | refine List.Mem.tail _ ?_ | assumption))) (by (repeat (first | exact List.Mem.head _ | refine List.Mem.tail _ ?_ | assumption))) (by decide)) (by (repeat (first | apply Upd.head | apply Upd.tail | assumption)))
  · intro m m2 W hW hs hu
    go_simp
    refine ⟨rfl, ?_⟩
    go_at_call 45
    exact within1_any a2 b2 S.sn g c u2 hW hk Za2 Zb2 E2 HS1 (Lib.hid (hs _ (.tail _ (.head _)))) (Lib.hid hu)
  (simp only [Act.put, List.setIfInBounds_toArray, List.set_cons_succ, List.set_cons_zero])
  refine wpV_P (by rfl) (by (first | exact wanted_none rfl | exact wanted_some rfl rfl)) (by intro W; first | (go_simp; rfl) | go_simp) ?_
  (simp only [Act.put, List.setIfInBounds_toArray, List.set_cons_succ, List.set_cons_zero])
  refine wpV_P (by rfl) (by (first | exact wanted_none rfl | exact wanted_some rfl rfl)) (by intro W; first | (go_simp; rfl) | go_simp) ?_
  (simp only [Act.put, List.setIfInBounds_toArray, List.set_cons_succ, List.set_cons_zero])
  refine wpV_P (by rfl) (by (first | exact wanted_none rfl | exact wanted_some rfl rfl)) (by intro W; first | (go_simp; rfl) | go_simp) ?_
  (simp only [Act.put, List.setIfInBounds_toArray, List.set_cons_succ, List.set_cons_zero])
  refine wpV_load (by rfl) rfl (by (first | exact wanted_none rfl | exact wanted_some rfl rfl)) (by (first | exact rRat | exact rSpan | exact rPose | exact rFrame | exact rVec | exact rTurn | exact rBox)) (by rfl) (by (repeat (first | exact List.Mem.head _ | refine List.Mem.tail _ ?_ | assumption))) (by (simp only [List.drop, List.take]); rfl) (by rfl) ?_
  (simp only [Act.put, List.setIfInBounds_toArray, List.set_cons_succ, List.set_cons_zero])
  apply wpV_S (z := g) [S.s2.sn.v] (by rfl) (by (first | exact wanted_none rfl | exact wanted_some rfl rfl)) (by intro x hx; simp only [List.mem_cons, List.not_mem_nil, or_false] at hx; rcases hx with rfl | rfl <;> exact H.out.ne_t (by (repeat (first | exact List.Mem.head _ | refine List.Mem.tail _ ?_ | assumption))) (by (repeat (first | exact List.Mem.head _ | refine List.Mem.tail _ ?_ | assumption))) (by decide)) (by (repeat (first | apply Upd.head | apply Upd.tail | assumption)))
  · intro m m2 W hW hs hu
    go_simp
    refine ⟨rfl, ?_⟩
    go_at_call 45
    exact within1_any a3 b3 S.s2 g c u3 hW hk Za3 Zb3 E3 HS2 (Lib.hid (hs _ (.tail _ (.head _)))) (Lib.hid hu)
  (simp only [Act.put, List.setIfInBounds_toArray, List.set_cons_succ, List.set_cons_zero])
  refine wpV_P (by rfl) (by (first | exact wanted_none rfl | exact wanted_some rfl rfl)) (by intro W; first | (go_simp; rfl) | go_simp) ?_
  (simp only [Act.put, List.setIfInBounds_toArray, List.set_cons_succ, List.set_cons_zero])
  refine wpV_P (by rfl) (by (first | exact wanted_none rfl | exact wanted_some rfl rfl)) (by intro W; first | (go_simp; rfl) | go_simp) ?_
  (simp only [Act.put, List.setIfInBounds_toArray, List.set_cons_succ, List.set_cons_zero])
  refine wpV_nil ?_
  clear H
  intro _ H
  go_wp2_with (first
      | go_skip
      | ((with_reducible refine isLoad ?_); refine wpList_loadH H rfl (by (first | exact wanted_none rfl | exact wanted_some rfl rfl)) (by (first | exact rRat | exact rSpan | exact rPose | exact rFrame | exact rVec | exact rTurn | exact rBox)) (by rfl) (by (repeat (first | exact List.Mem.head _ | refine List.Mem.tail _ ?_ | assumption))) (by (simp only [List.drop, List.take]); rfl) (by rfl) ?_; (simp only [Act.put, List.setIfInBounds_toArray, List.set_cons_succ, List.set_cons_zero]))
      | ((with_reducible refine isLoad ?_); refine wpList_loadH1 H rfl (by (first | exact wanted_none rfl | exact wanted_some rfl rfl)) (by (first | exact kBool | exact kStr | exact kInt | exact kStm)) (by rfl) (by (repeat (first | exact List.Mem.head _ | refine List.Mem.tail _ ?_ | assumption))) (by rfl) ?_; (simp only [Act.put, List.setIfInBounds_toArray, List.set_cons_succ, List.set_cons_zero]))
      | ((with_reducible refine isStore ?_); refine wpList_storeH H rfl rfl rfl (by (first | exact rRat | exact rSpan | exact rPose | exact rFrame | exact rVec | exact rTurn | exact rBox)) (by rfl) (by rfl) (by (repeat (first | apply Upd.head | apply Upd.tail | assumption))) (by rfl) (by (simp only [List.drop, List.take, List.nil_append, List.cons_append]); rfl) (by exact Nat.le_of_ble_eq_true rfl) (by rfl) ?_; clear H; intro _ H)
      | ((with_reducible refine isStore ?_); refine wpList_storeH1 H rfl rfl rfl (by first | exact sBool | exact sStr | exact sInt | exact sStm) (by rfl) (by rfl) (by (repeat (first | apply Upd.head | apply Upd.tail | assumption))) (by (simp only [List.set_cons_succ, List.set_cons_zero]); rfl) (by exact Nat.le_of_ble_eq_true rfl) (by rfl) (by rfl) ?_; clear H; intro _ H)
      | ((with_reducible refine isBox ?_); refine wpList_boxH H rfl rfl rfl (by go_simp; rfl) (by simp only [Value.cells]; rfl) ?_; clear H; intro _ _ H; (simp only [Act.put, List.setIfInBounds_toArray, List.set_cons_succ, List.set_cons_zero]))
      | ((with_reducible refine isAlloc ?_); refine wpList_allocH H rfl rfl rfl (by first | exact zRat | exact zSpan | exact zPose | exact zFrame | exact zVec | exact zTurn | exact zBox | exact zStm) (by simp only [Value.cells]; rfl) ?_; clear H; intro _ _ H; (simp only [Act.put, List.setIfInBounds_toArray, List.set_cons_succ, List.set_cons_zero])))
  exact bodyPost_ret (results_H H Tryd.results11 (by (first | exact rRat | exact rSpan | exact rPose | exact rFrame | exact rVec | exact rTurn | exact rBox)) rfl (by (repeat (first | exact List.Mem.head _ | refine List.Mem.tail _ ?_ | assumption))) (by rfl)) rfl ⟨rfl, H.out.bel⟩
end Go.Proofs.YtolekonocbeekaaDoor

namespace Go.Proofs.YtolekonocbeekaaDoor
open Go.RowKit
set_option linter.unusedVariables false
set_option maxRecDepth 100000

theorem ofQ_div (n : Int) (d : Nat) : ofQ n d = (n : Rat) / ((d : Int) : Rat) := by
  unfold ofQ
  rw [Rat.mkRat_eq_div]
  rfl
theorem ofQ_le {n m : Int} (h : n ≤ m) : ofQ n 4 ≤ ofQ m 4 := by
  rw [ofQ_div, ofQ_div]
  have e4 : (((4 : Nat) : Int) : Rat) = 4 := rfl
  rw [e4]
  have : (n : Rat) ≤ (m : Rat) := by exact_mod_cast h
  grind
/-- A pose with good spans of small numbers. -/
structure PoseF (k : Nat) (a1 b1 a2 b2 a3 b3 : Rat) : Prop where
  l1 : a1 ≤ b1
  l2 : a2 ≤ b2
  l3 : a3 ≤ b3
  za1 : Sz k a1
  zb1 : Sz k b1
  za2 : Sz k a2
  zb2 : Sz k b2
  za3 : Sz k a3
  zb3 : Sz k b3
theorem lo_hi (S : Sd) (m : Int) : S.lo m ≤ S.hi m := ofQ_le (by have := S.sn.nx_bd 7 (by decide); omega)
theorem sz_lo (S : Sd) (m : Int) (h1 : 1 ≤ m) (h2 : m ≤ 1000) : Sz 2 (S.lo m) := by
  have := S.nx_bd (2 * m + 1) (by omega)
  exact ofQ_sz _ _ _ (by omega) (by decide) (by decide)
theorem sz_hi (S : Sd) (m : Int) (h1 : 1 ≤ m) (h2 : m ≤ 1000) : Sz 2 (S.hi m) := by
  have := S.nx_bd (2 * m + 1) (by omega)
  have := S.sn.nx_bd 7 (by decide)
  exact ofQ_sz _ _ _ (by omega) (by decide) (by decide)
theorem pose_ex (S : Sd) (w : World) (hS : S.ok w) : ∃ a1 b1 a2 b2 a3 b3 : Rat, PoseF 2 a1 b1 a2 b2 a3 b3 ∧ ∀ W, Below w.heap.size w W → Tb W →
    Calls Tryd.prog 10 #[.slice S.A S.xs.length S.c] W fun e w' => e = .returned (.agg #[.bool (sgO (some a1)), .string (nuO (some a1)), .string (deO (some a1)), .bool (sgO (some b1)), .string (nuO (some b1)), .string (deO (some b1)), .bool (sgO (some a2)), .string (nuO (some a2)), .string (deO (some a2)), .bool (sgO (some b2)), .string (nuO (some b2)), .string (deO (some b2)), .bool (sgO (some a3)), .string (nuO (some a3)), .string (deO (some a3)), .bool (sgO (some b3)), .string (nuO (some b3)), .string (deO (some b3))]) ∧ Below W.heap.size W w' :=
  ⟨S.lo 20, S.hi 20, S.s2.lo 20, S.s2.hi 20, S.s4.lo 4, S.s4.hi 4, ⟨lo_hi _ _, lo_hi _ _, lo_hi _ _, sz_lo _ _ (by decide) (by decide), sz_hi _ _ (by decide) (by decide), sz_lo _ _ (by decide) (by decide), sz_hi _ _ (by decide) (by decide), sz_lo _ _ (by decide) (by decide), sz_hi _ _ (by decide) (by decide)⟩,
    fun W hb hT => Pose_any S _ _ _ _ _ _ W (hS.below hb) hT rfl rfl rfl rfl rfl rfl⟩
theorem btQ_in {p q : Rat} (h : p ≤ q) {n : Int} (h0 : 0 ≤ n) (h8 : n ≤ 8) : p ≤ btQ p q n ∧ btQ p q n ≤ q := by
  unfold btQ
  have hn : (0 : Rat) ≤ (n : Rat) := by exact_mod_cast h0
  have hn8 : (n : Rat) ≤ 8 := by exact_mod_cast h8
  have e8 : ((8 : Int) : Rat) = 8 := rfl
  rw [e8]
  have h1 : (0 : Rat) ≤ (n : Rat) / 8 := by grind
  have h2 : (n : Rat) / 8 ≤ 1 := by grind
  have h3 : (0 : Rat) ≤ q - p := by grind
  have h4 := Rat.mul_nonneg h3 h1
  have h5 := Rat.mul_nonneg h3 (show (0 : Rat) ≤ 1 - (n : Rat) / 8 by grind)
  constructor
  · grind
  · grind
theorem within_ex {k : Nat} (S : Sd) (w : World) (hS : S.ok w) (a1 b1 a2 b2 a3 b3 : Rat) (hP : PoseF k a1 b1 a2 b2 a3 b3) (hk : k ≤ 200) : ∃ x y t : Rat, (a1 ≤ x ∧ x ≤ b1) ∧ (a2 ≤ y ∧ y ≤ b2) ∧ (a3 ≤ t ∧ t ≤ b3) ∧ Sz (3 * k + 8) x ∧ Sz (3 * k + 8) y ∧ Sz (3 * k + 8) t ∧ ∀ W, Below w.heap.size w W → Tb W →
    Calls Tryd.prog 11 #[.agg #[.bool (sgO (some a1)), .string (nuO (some a1)), .string (deO (some a1)), .bool (sgO (some b1)), .string (nuO (some b1)), .string (deO (some b1)), .bool (sgO (some a2)), .string (nuO (some a2)), .string (deO (some a2)), .bool (sgO (some b2)), .string (nuO (some b2)), .string (deO (some b2)), .bool (sgO (some a3)), .string (nuO (some a3)), .string (deO (some a3)), .bool (sgO (some b3)), .string (nuO (some b3)), .string (deO (some b3))], .slice S.A S.xs.length S.c] W fun e w' => e = .returned (.agg #[.bool (sgO (some x)), .string (nuO (some x)), .string (deO (some x)), .bool (sgO (some y)), .string (nuO (some y)), .string (deO (some y)), .bool false, .bool (sgO (some t)), .string (nuO (some t)), .string (deO (some t))]) ∧ Below W.heap.size W w' := by
  have n1 := S.nx_bd 9 (by decide)
  have n2 := S.sn.nx_bd 9 (by decide)
  have n3 := S.s2.nx_bd 9 (by decide)
  exact ⟨btQ a1 b1 (S.nx 9), btQ a2 b2 (S.sn.nx 9), btQ a3 b3 (S.s2.nx 9), btQ_in hP.l1 (by omega) (by omega), btQ_in hP.l2 (by omega) (by omega), btQ_in hP.l3 (by omega) (by omega), Sz.bt hP.za1 hP.zb1 (by omega) (by omega), Sz.bt hP.za2 hP.zb2 (by omega) (by omega), Sz.bt hP.za3 hP.zb3 (by omega) (by omega),
    fun W hb hT => Within_any (k := k) S (some a1) (some b1) (some a2) (some b2) (some a3) (some b3) _ _ _ W hk hP.za1 hP.zb1 hP.za2 hP.zb2 hP.za3 hP.zb3 (hS.below hb) hT rfl rfl rfl⟩
theorem frame_ex (S : Sd) (w : World) (hS : S.ok w) : ∃ x y t : Rat, Sz 1 x ∧ Sz 1 y ∧ Sz 1 t ∧ ∀ W, Below w.heap.size w W → Tb W →
    Calls Tryd.prog 31 #[.slice S.A S.xs.length S.c] W fun e w' => e = .returned (.agg #[.bool (sgO (some x)), .string (nuO (some x)), .string (deO (some x)), .bool (sgO (some y)), .string (nuO (some y)), .string (deO (some y)), .bool false, .bool (sgO (some t)), .string (nuO (some t)), .string (deO (some t))]) ∧ Below W.heap.size W w' := by
  have n1 := S.nx_bd 33 (by decide)
  have n2 := S.sn.nx_bd 33 (by decide)
  have n3 := S.s2.nx_bd 9 (by decide)
  exact ⟨ofQ (S.nx 33 - 16) 2, ofQ (S.sn.nx 33 - 16) 2, ofQ (S.s2.nx 9 - 4) 4, ofQ_sz _ _ _ (by omega) (by decide) (by decide), ofQ_sz _ _ _ (by omega) (by decide) (by decide), ofQ_sz _ _ _ (by omega) (by decide) (by decide),
    fun W hb hT => Frame_any S _ _ _ W (hS.below hb) hT rfl rfl rfl⟩
theorem HasG (a1 : Option Rat) (b1 : Option Rat) (a2 : Option Rat) (b2 : Option Rat) (a3 : Option Rat) (b3 : Option Rat) (r s t : Option Rat) (g : Bool) (w : World) (Sa1 : Hid (SmO a1)) (Sb1 : Hid (SmO b1)) (Sa2 : Hid (SmO a2)) (Sb2 : Hid (SmO b2)) (Sa3 : Hid (SmO a3)) (Sb3 : Hid (SmO b3)) (Sr : Hid (SmO r)) (Ss : Hid (SmO s)) (St : Hid (SmO t)) (G : Hid ((hasS a1 b1 r && (hasS a2 b2 s && hasS a3 b3 t)) = g)) (hT : Tb w) :
    Calls Tryd.prog 14 #[.agg #[.bool (sgO a1), .string (nuO a1), .string (deO a1), .bool (sgO b1), .string (nuO b1), .string (deO b1), .bool (sgO a2), .string (nuO a2), .string (deO a2), .bool (sgO b2), .string (nuO b2), .string (deO b2), .bool (sgO a3), .string (nuO a3), .string (deO a3), .bool (sgO b3), .string (nuO b3), .string (deO b3)], .agg #[.bool (sgO r), .string (nuO r), .string (deO r), .bool (sgO s), .string (nuO s), .string (deO s), .bool false, .bool (sgO t), .string (nuO t), .string (deO t)]] w fun e w' => e = .returned (.bool g) ∧ Below w.heap.size w w' := by
  have h := Has_any a1 b1 a2 b2 a3 b3 r s t false _ _ _ w Sa1.out Sb1.out Sa2.out Sb2.out Sa3.out Sb3.out Sr.out Ss.out St.out rfl rfl rfl hT
  rw [Bool.not_false, Bool.true_and, G.out] at h
  exact h
theorem InsideG (a1 : Option Rat) (b1 : Option Rat) (a2 : Option Rat) (b2 : Option Rat) (a3 : Option Rat) (b3 : Option Rat) (c1 : Option Rat) (d1 : Option Rat) (c2 : Option Rat) (d2 : Option Rat) (c3 : Option Rat) (d3 : Option Rat) (g : Bool) (w : World) (Sa1 : Hid (SmO a1)) (Sb1 : Hid (SmO b1)) (Sa2 : Hid (SmO a2)) (Sb2 : Hid (SmO b2)) (Sa3 : Hid (SmO a3)) (Sb3 : Hid (SmO b3)) (Sc1 : Hid (SmO c1)) (Sd1 : Hid (SmO d1)) (Sc2 : Hid (SmO c2)) (Sd2 : Hid (SmO d2)) (Sc3 : Hid (SmO c3)) (Sd3 : Hid (SmO d3)) (G : Hid ((inS a1 b1 c1 d1 && (inS a2 b2 c2 d2 && inS a3 b3 c3 d3)) = g)) (hT : Tb w) :
    Calls Tryd.prog 15 #[.agg #[.bool (sgO a1), .string (nuO a1), .string (deO a1), .bool (sgO b1), .string (nuO b1), .string (deO b1), .bool (sgO a2), .string (nuO a2), .string (deO a2), .bool (sgO b2), .string (nuO b2), .string (deO b2), .bool (sgO a3), .string (nuO a3), .string (deO a3), .bool (sgO b3), .string (nuO b3), .string (deO b3)], .agg #[.bool (sgO c1), .string (nuO c1), .string (deO c1), .bool (sgO d1), .string (nuO d1), .string (deO d1), .bool (sgO c2), .string (nuO c2), .string (deO c2), .bool (sgO d2), .string (nuO d2), .string (deO d2), .bool (sgO c3), .string (nuO c3), .string (deO c3), .bool (sgO d3), .string (nuO d3), .string (deO d3)]] w fun e w' => e = .returned (.bool g) ∧ Below w.heap.size w w' := by
  have h := Inside_any a1 b1 a2 b2 a3 b3 c1 d1 c2 d2 c3 d3 _ _ _ w Sa1.out Sb1.out Sa2.out Sb2.out Sa3.out Sb3.out Sc1.out Sd1.out Sc2.out Sd2.out Sc3.out Sd3.out rfl rfl rfl hT
  rw [G.out] at h
  exact h
theorem SameG (a1 : Option Rat) (b1 : Option Rat) (a2 : Option Rat) (b2 : Option Rat) (a3 : Option Rat) (b3 : Option Rat) (c1 : Option Rat) (d1 : Option Rat) (c2 : Option Rat) (d2 : Option Rat) (c3 : Option Rat) (d3 : Option Rat) (g : Bool) (w : World) (Sa1 : Hid (SmO a1)) (Sb1 : Hid (SmO b1)) (Sa2 : Hid (SmO a2)) (Sb2 : Hid (SmO b2)) (Sa3 : Hid (SmO a3)) (Sb3 : Hid (SmO b3)) (Sc1 : Hid (SmO c1)) (Sd1 : Hid (SmO d1)) (Sc2 : Hid (SmO c2)) (Sd2 : Hid (SmO d2)) (Sc3 : Hid (SmO c3)) (Sd3 : Hid (SmO d3)) (G : Hid (((inS a1 b1 c1 d1 && (inS a2 b2 c2 d2 && inS a3 b3 c3 d3)) && (inS c1 d1 a1 b1 && (inS c2 d2 a2 b2 && inS c3 d3 a3 b3))) = g)) (hT : Tb w) :
    Calls Tryd.prog 16 #[.agg #[.bool (sgO a1), .string (nuO a1), .string (deO a1), .bool (sgO b1), .string (nuO b1), .string (deO b1), .bool (sgO a2), .string (nuO a2), .string (deO a2), .bool (sgO b2), .string (nuO b2), .string (deO b2), .bool (sgO a3), .string (nuO a3), .string (deO a3), .bool (sgO b3), .string (nuO b3), .string (deO b3)], .agg #[.bool (sgO c1), .string (nuO c1), .string (deO c1), .bool (sgO d1), .string (nuO d1), .string (deO d1), .bool (sgO c2), .string (nuO c2), .string (deO c2), .bool (sgO d2), .string (nuO d2), .string (deO d2), .bool (sgO c3), .string (nuO c3), .string (deO c3), .bool (sgO d3), .string (nuO d3), .string (deO d3)]] w fun e w' => e = .returned (.bool g) ∧ Below w.heap.size w w' := by
  have h := Same_any a1 b1 a2 b2 a3 b3 c1 d1 c2 d2 c3 d3 _ _ _ _ _ _ w Sa1.out Sb1.out Sa2.out Sb2.out Sa3.out Sb3.out Sc1.out Sd1.out Sc2.out Sd2.out Sc3.out Sd3.out rfl rfl rfl rfl rfl rfl hT
  rw [G.out] at h
  exact h
theorem hasS_q {a b r : Rat} (h : a ≤ b) : hasS (some a) (some b) (some r) = decide (a ≤ r ∧ r ≤ b) := by unfold hasS; rw [nmS_some h]; rfl
theorem inS_q {a b c d : Rat} (h : a ≤ b) (h2 : c ≤ d) : inS (some a) (some b) (some c) (some d) = decide (c ≤ a ∧ b ≤ d) := by unfold inS; rw [nmS_some h, nmS_some h2]
theorem mtL_q {a b c d : Rat} (h : a ≤ b) (h2 : c ≤ d) : mtL (some a) (some b) (some c) (some d) = mx a c := by unfold mtL; rw [nmS_some h, nmS_some h2]
theorem mtH_q {a b c d : Rat} (h : a ≤ b) (h2 : c ≤ d) : mtH (some a) (some b) (some c) (some d) = mn b d := by unfold mtH; rw [nmS_some h, nmS_some h2]
theorem mx_le {a b r : Rat} : mx a b ≤ r ↔ a ≤ r ∧ b ≤ r := by unfold mx; split <;> grind
theorem le_mn {a b r : Rat} : r ≤ mn a b ↔ r ≤ a ∧ r ≤ b := by unfold mn; split <;> grind
theorem le_mx (a b : Rat) : a ≤ mx a b ∧ b ≤ mx a b := by unfold mx; split <;> grind
theorem mn_le (a b : Rat) : mn a b ≤ a ∧ mn a b ≤ b := by unfold mn; split <;> grind
end Go.Proofs.YtolekonocbeekaaDoor

namespace Go.Proofs.YtolekonocbeekaaDoor
open Go.RowKit
set_option linter.unusedVariables false
set_option maxRecDepth 100000

theorem Narrow_y {k : Nat} (a1 b1 a2 b2 a3 b3 c1 d1 c2 d2 c3 d3 : Rat) (w : World) (hk : k ≤ 2000) (hP : PoseF k a1 b1 a2 b2 a3 b3) (hQ : PoseF k c1 d1 c2 d2 c3 d3) (u1 v1 u2 v2 u3 v3 : Rat) (E1 : Hid (mx a1 c1 = u1)) (E2 : Hid (mn b1 d1 = v1)) (E3 : Hid (mx a2 c2 = u2)) (E4 : Hid (mn b2 d2 = v2)) (E5 : Hid (mx a3 c3 = u3)) (E6 : Hid (mn b3 d3 = v3)) (G : PoseF k u1 v1 u2 v2 u3 v3) (hT : Tb w) :
    Calls Tryd.prog 12 #[.agg #[.bool (sgO (some a1)), .string (nuO (some a1)), .string (deO (some a1)), .bool (sgO (some b1)), .string (nuO (some b1)), .string (deO (some b1)), .bool (sgO (some a2)), .string (nuO (some a2)), .string (deO (some a2)), .bool (sgO (some b2)), .string (nuO (some b2)), .string (deO (some b2)), .bool (sgO (some a3)), .string (nuO (some a3)), .string (deO (some a3)), .bool (sgO (some b3)), .string (nuO (some b3)), .string (deO (some b3))], .agg #[.bool (sgO (some c1)), .string (nuO (some c1)), .string (deO (some c1)), .bool (sgO (some d1)), .string (nuO (some d1)), .string (deO (some d1)), .bool (sgO (some c2)), .string (nuO (some c2)), .string (deO (some c2)), .bool (sgO (some d2)), .string (nuO (some d2)), .string (deO (some d2)), .bool (sgO (some c3)), .string (nuO (some c3)), .string (deO (some c3)), .bool (sgO (some d3)), .string (nuO (some d3)), .string (deO (some d3))]] w fun e w' => e = .returned (.tuple #[.agg #[.bool (sgO (some u1)), .string (nuO (some u1)), .string (deO (some u1)), .bool (sgO (some v1)), .string (nuO (some v1)), .string (deO (some v1)), .bool (sgO (some u2)), .string (nuO (some u2)), .string (deO (some u2)), .bool (sgO (some v2)), .string (nuO (some v2)), .string (deO (some v2)), .bool (sgO (some u3)), .string (nuO (some u3)), .string (deO (some u3)), .bool (sgO (some v3)), .string (nuO (some v3)), .string (deO (some v3))], .int .i64 0]) ∧ Below w.heap.size w w' :=
  Narrow_ok (k := k) _ _ _ _ _ _ _ _ _ _ _ _ u1 v1 u2 v2 u3 v3 w hk hP.za1 hP.zb1 hP.za2 hP.zb2 hP.za3 hP.zb3 hQ.za1 hQ.zb1 hQ.za2 hQ.zb2 hQ.za3 hQ.zb3 ((mtL_q hP.l1 hQ.l1).trans E1) ((mtH_q hP.l1 hQ.l1).trans E2) (decide_eq_true G.l1) ((mtL_q hP.l2 hQ.l2).trans E3) ((mtH_q hP.l2 hQ.l2).trans E4) (decide_eq_true G.l2) ((mtL_q hP.l3 hQ.l3).trans E5) ((mtH_q hP.l3 hQ.l3).trans E6) (decide_eq_true G.l3) hT
theorem Narrow_n {k : Nat} (a1 b1 a2 b2 a3 b3 c1 d1 c2 d2 c3 d3 : Rat) (w : World) (hk : k ≤ 2000) (hP : PoseF k a1 b1 a2 b2 a3 b3) (hQ : PoseF k c1 d1 c2 d2 c3 d3) (G : ¬ (mx a1 c1 ≤ mn b1 d1 ∧ mx a2 c2 ≤ mn b2 d2 ∧ mx a3 c3 ≤ mn b3 d3)) (hT : Tb w) :
    Calls Tryd.prog 12 #[.agg #[.bool (sgO (some a1)), .string (nuO (some a1)), .string (deO (some a1)), .bool (sgO (some b1)), .string (nuO (some b1)), .string (deO (some b1)), .bool (sgO (some a2)), .string (nuO (some a2)), .string (deO (some a2)), .bool (sgO (some b2)), .string (nuO (some b2)), .string (deO (some b2)), .bool (sgO (some a3)), .string (nuO (some a3)), .string (deO (some a3)), .bool (sgO (some b3)), .string (nuO (some b3)), .string (deO (some b3))], .agg #[.bool (sgO (some c1)), .string (nuO (some c1)), .string (deO (some c1)), .bool (sgO (some d1)), .string (nuO (some d1)), .string (deO (some d1)), .bool (sgO (some c2)), .string (nuO (some c2)), .string (deO (some c2)), .bool (sgO (some d2)), .string (nuO (some d2)), .string (deO (some d2)), .bool (sgO (some c3)), .string (nuO (some c3)), .string (deO (some c3)), .bool (sgO (some d3)), .string (nuO (some d3)), .string (deO (some d3))]] w fun e w' => e = .returned (.tuple #[.agg #[.bool false, .string ⟨#[]⟩, .string ⟨#[]⟩, .bool false, .string ⟨#[]⟩, .string ⟨#[]⟩, .bool false, .string ⟨#[]⟩, .string ⟨#[]⟩, .bool false, .string ⟨#[]⟩, .string ⟨#[]⟩, .bool false, .string ⟨#[]⟩, .string ⟨#[]⟩, .bool false, .string ⟨#[]⟩, .string ⟨#[]⟩], .int .i64 4]) ∧ Below w.heap.size w w' := by
  by_cases g1 : mx a1 c1 ≤ mn b1 d1
  · by_cases g2 : mx a2 c2 ≤ mn b2 d2
    · have g3 : ¬ mx a3 c3 ≤ mn b3 d3 := fun g3 => G ⟨g1, g2, g3⟩
      exact Narrow_no3 (k := k) _ _ _ _ _ _ _ _ _ _ _ _ _ _ _ _ _ _ w hk hP.za1 hP.zb1 hP.za2 hP.zb2 hP.za3 hP.zb3 hQ.za1 hQ.zb1 hQ.za2 hQ.zb2 hQ.za3 hQ.zb3 (mtL_q hP.l1 hQ.l1) (mtH_q hP.l1 hQ.l1) (decide_eq_true g1) (mtL_q hP.l2 hQ.l2) (mtH_q hP.l2 hQ.l2) (decide_eq_true g2) (mtL_q hP.l3 hQ.l3) (mtH_q hP.l3 hQ.l3) (decide_eq_false g3) hT
    · exact Narrow_no2 (k := k) _ _ _ _ _ _ _ _ _ _ _ _ _ _ _ _ _ _ _ w hk hP.za1 hP.zb1 hP.za2 hP.zb2 hP.za3 hP.zb3 hQ.za1 hQ.zb1 hQ.za2 hQ.zb2 hQ.za3 hQ.zb3 (mtL_q hP.l1 hQ.l1) (mtH_q hP.l1 hQ.l1) (decide_eq_true g1) (mtL_q hP.l2 hQ.l2) (mtH_q hP.l2 hQ.l2) (decide_eq_false g2) (mtL_q hP.l3 hQ.l3) (mtH_q hP.l3 hQ.l3) rfl hT
  · exact Narrow_no1 (k := k) _ _ _ _ _ _ _ _ _ _ _ _ _ _ _ _ _ _ _ _ w hk hP.za1 hP.zb1 hP.za2 hP.zb2 hP.za3 hP.zb3 hQ.za1 hQ.zb1 hQ.za2 hQ.zb2 hQ.za3 hQ.zb3 (mtL_q hP.l1 hQ.l1) (mtH_q hP.l1 hQ.l1) (decide_eq_false g1) (mtL_q hP.l2 hQ.l2) (mtH_q hP.l2 hQ.l2) rfl (mtL_q hP.l3 hQ.l3) (mtH_q hP.l3 hQ.l3) rfl hT
theorem sz_mx {k : Nat} {p q : Rat} (hp : Sz k p) (hq : Sz k q) : Sz k (mx p q) := Sz.ite hp hq
theorem sz_mn {k : Nat} {p q : Rat} (hp : Sz k p) (hq : Sz k q) : Sz k (mn p q) := Sz.ite hp hq
/-- The narrower pose. -/
theorem PoseF.meet {k : Nat} {a1 b1 a2 b2 a3 b3 c1 d1 c2 d2 c3 d3 : Rat} (hP : PoseF k a1 b1 a2 b2 a3 b3) (hQ : PoseF k c1 d1 c2 d2 c3 d3) (G : mx a1 c1 ≤ mn b1 d1 ∧ mx a2 c2 ≤ mn b2 d2 ∧ mx a3 c3 ≤ mn b3 d3) : PoseF k (mx a1 c1) (mn b1 d1) (mx a2 c2) (mn b2 d2) (mx a3 c3) (mn b3 d3) :=
  ⟨G.1, G.2.1, G.2.2, sz_mx hP.za1 hQ.za1, sz_mn hP.zb1 hQ.zb1, sz_mx hP.za2 hQ.za2, sz_mn hP.zb2 hQ.zb2, sz_mx hP.za3 hQ.za3, sz_mn hP.zb3 hQ.zb3⟩
/-- Is a frame in a pose, is a pose within another: at good poses. -/
def hasF (a1 b1 a2 b2 a3 b3 x y t : Rat) : Bool := decide ((a1 ≤ x ∧ x ≤ b1) ∧ (a2 ≤ y ∧ y ≤ b2) ∧ (a3 ≤ t ∧ t ≤ b3))
def inF (a1 b1 a2 b2 a3 b3 c1 d1 c2 d2 c3 d3 : Rat) : Bool := decide ((c1 ≤ a1 ∧ b1 ≤ d1) ∧ (c2 ≤ a2 ∧ b2 ≤ d2) ∧ (c3 ≤ a3 ∧ b3 ≤ d3))
theorem HasF_any {k : Nat} (a1 b1 a2 b2 a3 b3 x y t : Rat) (g : Bool) (w : World) (hk : k ≤ 10000) (hP : PoseF k a1 b1 a2 b2 a3 b3) (zx : Sz k x) (zy : Sz k y) (zt : Sz k t) (G : Hid (hasF a1 b1 a2 b2 a3 b3 x y t = g)) (hT : Tb w) :
    Calls Tryd.prog 14 #[.agg #[.bool (sgO (some a1)), .string (nuO (some a1)), .string (deO (some a1)), .bool (sgO (some b1)), .string (nuO (some b1)), .string (deO (some b1)), .bool (sgO (some a2)), .string (nuO (some a2)), .string (deO (some a2)), .bool (sgO (some b2)), .string (nuO (some b2)), .string (deO (some b2)), .bool (sgO (some a3)), .string (nuO (some a3)), .string (deO (some a3)), .bool (sgO (some b3)), .string (nuO (some b3)), .string (deO (some b3))], .agg #[.bool (sgO (some x)), .string (nuO (some x)), .string (deO (some x)), .bool (sgO (some y)), .string (nuO (some y)), .string (deO (some y)), .bool false, .bool (sgO (some t)), .string (nuO (some t)), .string (deO (some t))]] w fun e w' => e = .returned (.bool g) ∧ Below w.heap.size w w' :=
  HasG _ _ _ _ _ _ _ _ _ g w (Sz.o hP.za1 hk) (Sz.o hP.zb1 hk) (Sz.o hP.za2 hk) (Sz.o hP.zb2 hk) (Sz.o hP.za3 hk) (Sz.o hP.zb3 hk) (Sz.o zx hk) (Sz.o zy hk) (Sz.o zt hk) (by
    have h := G.out
    unfold hasF at h
    unfold Hid
    rw [hasS_q hP.l1, hasS_q hP.l2, hasS_q hP.l3, ← h]
    simp) hT
theorem InF_any {k : Nat} (a1 b1 a2 b2 a3 b3 c1 d1 c2 d2 c3 d3 : Rat) (g : Bool) (w : World) (hk : k ≤ 10000) (hP : PoseF k a1 b1 a2 b2 a3 b3) (hQ : PoseF k c1 d1 c2 d2 c3 d3) (G : Hid (inF a1 b1 a2 b2 a3 b3 c1 d1 c2 d2 c3 d3 = g)) (hT : Tb w) :
    Calls Tryd.prog 15 #[.agg #[.bool (sgO (some a1)), .string (nuO (some a1)), .string (deO (some a1)), .bool (sgO (some b1)), .string (nuO (some b1)), .string (deO (some b1)), .bool (sgO (some a2)), .string (nuO (some a2)), .string (deO (some a2)), .bool (sgO (some b2)), .string (nuO (some b2)), .string (deO (some b2)), .bool (sgO (some a3)), .string (nuO (some a3)), .string (deO (some a3)), .bool (sgO (some b3)), .string (nuO (some b3)), .string (deO (some b3))], .agg #[.bool (sgO (some c1)), .string (nuO (some c1)), .string (deO (some c1)), .bool (sgO (some d1)), .string (nuO (some d1)), .string (deO (some d1)), .bool (sgO (some c2)), .string (nuO (some c2)), .string (deO (some c2)), .bool (sgO (some d2)), .string (nuO (some d2)), .string (deO (some d2)), .bool (sgO (some c3)), .string (nuO (some c3)), .string (deO (some c3)), .bool (sgO (some d3)), .string (nuO (some d3)), .string (deO (some d3))]] w fun e w' => e = .returned (.bool g) ∧ Below w.heap.size w w' :=
  InsideG _ _ _ _ _ _ _ _ _ _ _ _ g w (Sz.o hP.za1 hk) (Sz.o hP.zb1 hk) (Sz.o hP.za2 hk) (Sz.o hP.zb2 hk) (Sz.o hP.za3 hk) (Sz.o hP.zb3 hk) (Sz.o hQ.za1 hk) (Sz.o hQ.zb1 hk) (Sz.o hQ.za2 hk) (Sz.o hQ.zb2 hk) (Sz.o hQ.za3 hk) (Sz.o hQ.zb3 hk) (by
    have h := G.out
    unfold inF at h
    unfold Hid
    rw [inS_q hP.l1 hQ.l1, inS_q hP.l2 hQ.l2, inS_q hP.l3 hQ.l3, ← h]
    simp) hT
theorem SameF_any {k : Nat} (a1 b1 a2 b2 a3 b3 c1 d1 c2 d2 c3 d3 : Rat) (g : Bool) (w : World) (hk : k ≤ 10000) (hP : PoseF k a1 b1 a2 b2 a3 b3) (hQ : PoseF k c1 d1 c2 d2 c3 d3) (G : Hid ((inF a1 b1 a2 b2 a3 b3 c1 d1 c2 d2 c3 d3 && inF c1 d1 c2 d2 c3 d3 a1 b1 a2 b2 a3 b3) = g)) (hT : Tb w) :
    Calls Tryd.prog 16 #[.agg #[.bool (sgO (some a1)), .string (nuO (some a1)), .string (deO (some a1)), .bool (sgO (some b1)), .string (nuO (some b1)), .string (deO (some b1)), .bool (sgO (some a2)), .string (nuO (some a2)), .string (deO (some a2)), .bool (sgO (some b2)), .string (nuO (some b2)), .string (deO (some b2)), .bool (sgO (some a3)), .string (nuO (some a3)), .string (deO (some a3)), .bool (sgO (some b3)), .string (nuO (some b3)), .string (deO (some b3))], .agg #[.bool (sgO (some c1)), .string (nuO (some c1)), .string (deO (some c1)), .bool (sgO (some d1)), .string (nuO (some d1)), .string (deO (some d1)), .bool (sgO (some c2)), .string (nuO (some c2)), .string (deO (some c2)), .bool (sgO (some d2)), .string (nuO (some d2)), .string (deO (some d2)), .bool (sgO (some c3)), .string (nuO (some c3)), .string (deO (some c3)), .bool (sgO (some d3)), .string (nuO (some d3)), .string (deO (some d3))]] w fun e w' => e = .returned (.bool g) ∧ Below w.heap.size w w' :=
  SameG _ _ _ _ _ _ _ _ _ _ _ _ g w (Sz.o hP.za1 hk) (Sz.o hP.zb1 hk) (Sz.o hP.za2 hk) (Sz.o hP.zb2 hk) (Sz.o hP.za3 hk) (Sz.o hP.zb3 hk) (Sz.o hQ.za1 hk) (Sz.o hQ.zb1 hk) (Sz.o hQ.za2 hk) (Sz.o hQ.zb2 hk) (Sz.o hQ.za3 hk) (Sz.o hQ.zb3 hk) (by
    have h := G.out
    unfold inF at h
    unfold Hid
    rw [inS_q hP.l1 hQ.l1, inS_q hP.l2 hQ.l2, inS_q hP.l3 hQ.l3, inS_q hQ.l1 hP.l1, inS_q hQ.l2 hP.l2, inS_q hQ.l3 hP.l3, ← h]
    simp) hT
theorem PoseF.mono {j k : Nat} {a1 b1 a2 b2 a3 b3 : Rat} (h : PoseF j a1 b1 a2 b2 a3 b3) (hk : j ≤ k) : PoseF k a1 b1 a2 b2 a3 b3 := ⟨h.l1, h.l2, h.l3, h.za1.mono hk, h.zb1.mono hk, h.za2.mono hk, h.zb2.mono hk, h.za3.mono hk, h.zb3.mono hk⟩
end Go.Proofs.YtolekonocbeekaaDoor

namespace Go.Proofs.YtolekonocbeekaaDoor
open Go.RowKit
set_option linter.unusedVariables false
set_option maxRecDepth 100000

set_option maxHeartbeats 4000000 in
theorem seen_any {k : Nat}  (w : World) (hk : k ≤ 200)  (hT : Tb w) :
    Calls Tryd.prog 13 #[] w fun e w' => e = .returned (.bool true) ∧ Below w.heap.size w w' := by
  have H := Lib.hid (Hp.start hT)
  clear hT
  obtain ⟨o, Eo⟩ : ∃ z : Rat, Hid (((2 : Int) : Rat) = z) := ⟨_, rfl⟩
  have Zo : Hid (Sz 3 o) := szEq Eo (Sz.int (2) (by decide))
  have So : Hid (SmO (some o)) := Sz.o Zo (by omega)
  have S0 : Hid (SmO none) := Sm.zero
  have E0 : Hid (valO none = 0) := rfl
  have E2 : Hid (valO (some o) = o) := rfl
  obtain ⟨z, Ez⟩ : ∃ z : Rat, Hid ((0 : Rat) = z) := ⟨_, rfl⟩
  have Sz0 : Hid (SmO (some z)) := by rw [← Ez.out]; exact Sm.zero
  have Ez0 : Hid (valO none = z) := Ez
  have G1 : Hid ((hasS (some o) (some o) (some o) && (hasS (some z) (some z) none && hasS (some z) (some z) none)) = true) := by have h1 := Eo.out; have h2 := Ez.out; subst h1; subst h2; unfold Hid; decide
  have G2 : Hid ((hasS (some o) (some o) none && (hasS (some z) (some z) none && hasS (some z) (some z) none)) = false) := by have h1 := Eo.out; have h2 := Ez.out; subst h1; subst h2; unfold Hid; decide
  go_enter Tryd.func13, Tryd.ntmps13
  go_wp2_with (first
      | go_skip
      | ((with_reducible refine isLoad ?_); refine wpList_loadH H rfl (by (first | exact wanted_none rfl | exact wanted_some rfl rfl)) (by (first | exact rRat | exact rSpan | exact rPose | exact rFrame | exact rVec | exact rTurn | exact rBox)) (by rfl) (by (repeat (first | exact List.Mem.head _ | refine List.Mem.tail _ ?_ | assumption))) (by (simp only [List.drop, List.take]); rfl) (by rfl) ?_; (simp only [Act.put, List.setIfInBounds_toArray, List.set_cons_succ, List.set_cons_zero]))
      | ((with_reducible refine isLoad ?_); refine wpList_loadH1 H rfl (by (first | exact wanted_none rfl | exact wanted_some rfl rfl)) (by (first | exact kBool | exact kStr | exact kInt | exact kStm)) (by rfl) (by (repeat (first | exact List.Mem.head _ | refine List.Mem.tail _ ?_ | assumption))) (by rfl) ?_; (simp only [Act.put, List.setIfInBounds_toArray, List.set_cons_succ, List.set_cons_zero]))
      | ((with_reducible refine isStore ?_); refine wpList_storeH H rfl rfl rfl (by (first | exact rRat | exact rSpan | exact rPose | exact rFrame | exact rVec | exact rTurn | exact rBox)) (by rfl) (by rfl) (by (repeat (first | apply Upd.head | apply Upd.tail | assumption))) (by rfl) (by (simp only [List.drop, List.take, List.nil_append, List.cons_append]); rfl) (by exact Nat.le_of_ble_eq_true rfl) (by rfl) ?_; clear H; intro _ H)
      | ((with_reducible refine isStore ?_); refine wpList_storeH1 H rfl rfl rfl (by first | exact sBool | exact sStr | exact sInt) (by rfl) (by rfl) (by (repeat (first | apply Upd.head | apply Upd.tail | assumption))) (by (simp only [List.set_cons_succ, List.set_cons_zero]); rfl) (by exact Nat.le_of_ble_eq_true rfl) (by rfl) (by rfl) ?_; clear H; intro _ H)
      | ((with_reducible refine isBox ?_); refine wpList_boxH H rfl rfl rfl (by go_simp; rfl) (by simp only [Value.cells]; rfl) ?_; clear H; intro _ _ H; (simp only [Act.put, List.setIfInBounds_toArray, List.set_cons_succ, List.set_cons_zero]))
      | ((with_reducible refine isAlloc ?_); refine wpList_allocH H rfl rfl rfl (by first | exact zRat | exact zSpan | exact zPose | exact zFrame | exact zVec | exact zTurn | exact zBox) (by simp only [Value.cells]; rfl) ?_; clear H; intro _ _ H; (simp only [Act.put, List.setIfInBounds_toArray, List.set_cons_succ, List.set_cons_zero])))
  refine (ROf_any (2) o _ (by decide) (by decide) Eo H.out.tb).mono ?_
  rintro _ _ ⟨rfl, hb⟩
  replace H := Lib.hid (H.out.go hb)
  clear hb
  go_wp2_with (first
      | go_skip
      | ((with_reducible refine isLoad ?_); refine wpList_loadH H rfl (by (first | exact wanted_none rfl | exact wanted_some rfl rfl)) (by (first | exact rRat | exact rSpan | exact rPose | exact rFrame | exact rVec | exact rTurn | exact rBox)) (by rfl) (by (repeat (first | exact List.Mem.head _ | refine List.Mem.tail _ ?_ | assumption))) (by (simp only [List.drop, List.take]); rfl) (by rfl) ?_; (simp only [Act.put, List.setIfInBounds_toArray, List.set_cons_succ, List.set_cons_zero]))
      | ((with_reducible refine isLoad ?_); refine wpList_loadH1 H rfl (by (first | exact wanted_none rfl | exact wanted_some rfl rfl)) (by (first | exact kBool | exact kStr | exact kInt | exact kStm)) (by rfl) (by (repeat (first | exact List.Mem.head _ | refine List.Mem.tail _ ?_ | assumption))) (by rfl) ?_; (simp only [Act.put, List.setIfInBounds_toArray, List.set_cons_succ, List.set_cons_zero]))
      | ((with_reducible refine isStore ?_); refine wpList_storeH H rfl rfl rfl (by (first | exact rRat | exact rSpan | exact rPose | exact rFrame | exact rVec | exact rTurn | exact rBox)) (by rfl) (by rfl) (by (repeat (first | apply Upd.head | apply Upd.tail | assumption))) (by rfl) (by (simp only [List.drop, List.take, List.nil_append, List.cons_append]); rfl) (by exact Nat.le_of_ble_eq_true rfl) (by rfl) ?_; clear H; intro _ H)
      | ((with_reducible refine isStore ?_); refine wpList_storeH1 H rfl rfl rfl (by first | exact sBool | exact sStr | exact sInt) (by rfl) (by rfl) (by (repeat (first | apply Upd.head | apply Upd.tail | assumption))) (by (simp only [List.set_cons_succ, List.set_cons_zero]); rfl) (by exact Nat.le_of_ble_eq_true rfl) (by rfl) (by rfl) ?_; clear H; intro _ H)
      | ((with_reducible refine isBox ?_); refine wpList_boxH H rfl rfl rfl (by go_simp; rfl) (by simp only [Value.cells]; rfl) ?_; clear H; intro _ _ H; (simp only [Act.put, List.setIfInBounds_toArray, List.set_cons_succ, List.set_cons_zero]))
      | ((with_reducible refine isAlloc ?_); refine wpList_allocH H rfl rfl rfl (by first | exact zRat | exact zSpan | exact zPose | exact zFrame | exact zVec | exact zTurn | exact zBox) (by simp only [Value.cells]; rfl) ?_; clear H; intro _ _ H; (simp only [Act.put, List.setIfInBounds_toArray, List.set_cons_succ, List.set_cons_zero])))
  refine (seeOf_any (some o) none none o z z _ So S0 S0 E2 Ez0 Ez0 H.out.tb).mono ?_
  rintro _ _ ⟨rfl, hb⟩
  replace H := Lib.hid (H.out.go hb)
  clear hb
  go_wp2_with (first
      | go_skip
      | ((with_reducible refine isLoad ?_); refine wpList_loadH H rfl (by (first | exact wanted_none rfl | exact wanted_some rfl rfl)) (by (first | exact rRat | exact rSpan | exact rPose | exact rFrame | exact rVec | exact rTurn | exact rBox)) (by rfl) (by (repeat (first | exact List.Mem.head _ | refine List.Mem.tail _ ?_ | assumption))) (by (simp only [List.drop, List.take]); rfl) (by rfl) ?_; (simp only [Act.put, List.setIfInBounds_toArray, List.set_cons_succ, List.set_cons_zero]))
      | ((with_reducible refine isLoad ?_); refine wpList_loadH1 H rfl (by (first | exact wanted_none rfl | exact wanted_some rfl rfl)) (by (first | exact kBool | exact kStr | exact kInt | exact kStm)) (by rfl) (by (repeat (first | exact List.Mem.head _ | refine List.Mem.tail _ ?_ | assumption))) (by rfl) ?_; (simp only [Act.put, List.setIfInBounds_toArray, List.set_cons_succ, List.set_cons_zero]))
      | ((with_reducible refine isStore ?_); refine wpList_storeH H rfl rfl rfl (by (first | exact rRat | exact rSpan | exact rPose | exact rFrame | exact rVec | exact rTurn | exact rBox)) (by rfl) (by rfl) (by (repeat (first | apply Upd.head | apply Upd.tail | assumption))) (by rfl) (by (simp only [List.drop, List.take, List.nil_append, List.cons_append]); rfl) (by exact Nat.le_of_ble_eq_true rfl) (by rfl) ?_; clear H; intro _ H)
      | ((with_reducible refine isStore ?_); refine wpList_storeH1 H rfl rfl rfl (by first | exact sBool | exact sStr | exact sInt) (by rfl) (by rfl) (by (repeat (first | apply Upd.head | apply Upd.tail | assumption))) (by (simp only [List.set_cons_succ, List.set_cons_zero]); rfl) (by exact Nat.le_of_ble_eq_true rfl) (by rfl) (by rfl) ?_; clear H; intro _ H)
      | ((with_reducible refine isBox ?_); refine wpList_boxH H rfl rfl rfl (by go_simp; rfl) (by simp only [Value.cells]; rfl) ?_; clear H; intro _ _ H; (simp only [Act.put, List.setIfInBounds_toArray, List.set_cons_succ, List.set_cons_zero]))
      | ((with_reducible refine isAlloc ?_); refine wpList_allocH H rfl rfl rfl (by first | exact zRat | exact zSpan | exact zPose | exact zFrame | exact zVec | exact zTurn | exact zBox) (by simp only [Value.cells]; rfl) ?_; clear H; intro _ _ H; (simp only [Act.put, List.setIfInBounds_toArray, List.set_cons_succ, List.set_cons_zero])))
  refine wp_region_E H (by kernel_rfl) (by kernel_rfl) ?_
  repeat (first
      | (refine wpK_skip rfl rfl ?_; (simp only [Act.put, List.setIfInBounds_toArray, List.set_cons_succ, List.set_cons_zero]))
      | ((with_reducible refine kLoad ?_); refine wpK_loadH H rfl (by (first | exact wanted_none rfl | exact wanted_some rfl rfl)) (by (first | exact rRat | exact rSpan | exact rPose | exact rFrame | exact rVec | exact rTurn | exact rBox)) (by rfl) (by (repeat (first | exact List.Mem.head _ | refine List.Mem.tail _ ?_ | assumption))) (by (simp only [List.drop, List.take]); rfl) (by rfl) ?_; (simp only [Act.put, List.setIfInBounds_toArray, List.set_cons_succ, List.set_cons_zero]))
      | ((with_reducible refine kLoad ?_); refine wpK_loadH1 H rfl (by (first | exact wanted_none rfl | exact wanted_some rfl rfl)) (by (first | exact kBool | exact kStr | exact kInt | exact kStm)) (by rfl) (by (repeat (first | exact List.Mem.head _ | refine List.Mem.tail _ ?_ | assumption))) (by rfl) ?_; (simp only [Act.put, List.setIfInBounds_toArray, List.set_cons_succ, List.set_cons_zero]))
      | ((fail_if_success (with_reducible refine kCall ?_)); (with_reducible refine kCons ?_); refine wpK_step (fun K hK => ?_); go_simp; refine hK _ ?_; clear hK K))
  refine wpK_step (fun K hK => ?_)
  go_simp
  apply Exists.intro
  refine ⟨fun sx => ?_, hK _ ?_⟩
  · go_at_call 35
    exact ROf_any (2) o _ (by decide) (by decide) Eo (H.out.tbx sx)
  clear hK K
  repeat (first
      | (refine wpK_skip rfl rfl ?_; (simp only [Act.put, List.setIfInBounds_toArray, List.set_cons_succ, List.set_cons_zero]))
      | ((with_reducible refine kLoad ?_); refine wpK_loadH H rfl (by (first | exact wanted_none rfl | exact wanted_some rfl rfl)) (by (first | exact rRat | exact rSpan | exact rPose | exact rFrame | exact rVec | exact rTurn | exact rBox)) (by rfl) (by (repeat (first | exact List.Mem.head _ | refine List.Mem.tail _ ?_ | assumption))) (by (simp only [List.drop, List.take]); rfl) (by rfl) ?_; (simp only [Act.put, List.setIfInBounds_toArray, List.set_cons_succ, List.set_cons_zero]))
      | ((with_reducible refine kLoad ?_); refine wpK_loadH1 H rfl (by (first | exact wanted_none rfl | exact wanted_some rfl rfl)) (by (first | exact kBool | exact kStr | exact kInt | exact kStm)) (by rfl) (by (repeat (first | exact List.Mem.head _ | refine List.Mem.tail _ ?_ | assumption))) (by rfl) ?_; (simp only [Act.put, List.setIfInBounds_toArray, List.set_cons_succ, List.set_cons_zero]))
      | ((fail_if_success (with_reducible refine kCall ?_)); (with_reducible refine kCons ?_); refine wpK_step (fun K hK => ?_); go_simp; refine hK _ ?_; clear hK K))
  refine wpK_step (fun K hK => ?_)
  go_simp
  apply Exists.intro
  refine ⟨fun sx => ?_, hK _ ?_⟩
  · go_at_call 14
    exact HasG (some o) (some o) (some z) (some z) (some z) (some z) (some o) none none true _ So So Sz0 Sz0 Sz0 Sz0 So S0 S0 G1 (H.out.tbx sx)
  clear hK K
  repeat (first
      | (refine wpK_skip rfl rfl ?_; (simp only [Act.put, List.setIfInBounds_toArray, List.set_cons_succ, List.set_cons_zero]))
      | ((with_reducible refine kLoad ?_); refine wpK_loadH H rfl (by (first | exact wanted_none rfl | exact wanted_some rfl rfl)) (by (first | exact rRat | exact rSpan | exact rPose | exact rFrame | exact rVec | exact rTurn | exact rBox)) (by rfl) (by (repeat (first | exact List.Mem.head _ | refine List.Mem.tail _ ?_ | assumption))) (by (simp only [List.drop, List.take]); rfl) (by rfl) ?_; (simp only [Act.put, List.setIfInBounds_toArray, List.set_cons_succ, List.set_cons_zero]))
      | ((with_reducible refine kLoad ?_); refine wpK_loadH1 H rfl (by (first | exact wanted_none rfl | exact wanted_some rfl rfl)) (by (first | exact kBool | exact kStr | exact kInt | exact kStm)) (by rfl) (by (repeat (first | exact List.Mem.head _ | refine List.Mem.tail _ ?_ | assumption))) (by rfl) ?_; (simp only [Act.put, List.setIfInBounds_toArray, List.set_cons_succ, List.set_cons_zero]))
      | ((fail_if_success (with_reducible refine kCall ?_)); (with_reducible refine kCons ?_); refine wpK_step (fun K hK => ?_); go_simp; refine hK _ ?_; clear hK K))
  refine wpK_step (fun K hK => ?_)
  go_simp
  apply Exists.intro
  refine ⟨fun sx => ?_, hK _ ?_⟩
  · go_at_call 14
    exact HasG (some o) (some o) (some z) (some z) (some z) (some z) none none none false _ So So Sz0 Sz0 Sz0 Sz0 S0 S0 S0 G2 (H.out.tbx sx)
  clear hK K
  repeat (first
      | (refine wpK_skip rfl rfl ?_; (simp only [Act.put, List.setIfInBounds_toArray, List.set_cons_succ, List.set_cons_zero]))
      | ((with_reducible refine kLoad ?_); refine wpK_loadH H rfl (by (first | exact wanted_none rfl | exact wanted_some rfl rfl)) (by (first | exact rRat | exact rSpan | exact rPose | exact rFrame | exact rVec | exact rTurn | exact rBox)) (by rfl) (by (repeat (first | exact List.Mem.head _ | refine List.Mem.tail _ ?_ | assumption))) (by (simp only [List.drop, List.take]); rfl) (by rfl) ?_; (simp only [Act.put, List.setIfInBounds_toArray, List.set_cons_succ, List.set_cons_zero]))
      | ((with_reducible refine kLoad ?_); refine wpK_loadH1 H rfl (by (first | exact wanted_none rfl | exact wanted_some rfl rfl)) (by (first | exact kBool | exact kStr | exact kInt | exact kStm)) (by rfl) (by (repeat (first | exact List.Mem.head _ | refine List.Mem.tail _ ?_ | assumption))) (by rfl) ?_; (simp only [Act.put, List.setIfInBounds_toArray, List.set_cons_succ, List.set_cons_zero]))
      | ((fail_if_success (with_reducible refine kCall ?_)); (with_reducible refine kCons ?_); refine wpK_step (fun K hK => ?_); go_simp; refine hK _ ?_; clear hK K))
  refine wpKeep_nil ?_
  clear H
  intro _ H
  go_wp2_with (first
      | go_skip
      | ((with_reducible refine isLoad ?_); refine wpList_loadH H rfl (by (first | exact wanted_none rfl | exact wanted_some rfl rfl)) (by (first | exact rRat | exact rSpan | exact rPose | exact rFrame | exact rVec | exact rTurn | exact rBox)) (by rfl) (by (repeat (first | exact List.Mem.head _ | refine List.Mem.tail _ ?_ | assumption))) (by (simp only [List.drop, List.take]); rfl) (by rfl) ?_; (simp only [Act.put, List.setIfInBounds_toArray, List.set_cons_succ, List.set_cons_zero]))
      | ((with_reducible refine isLoad ?_); refine wpList_loadH1 H rfl (by (first | exact wanted_none rfl | exact wanted_some rfl rfl)) (by (first | exact kBool | exact kStr | exact kInt | exact kStm)) (by rfl) (by (repeat (first | exact List.Mem.head _ | refine List.Mem.tail _ ?_ | assumption))) (by rfl) ?_; (simp only [Act.put, List.setIfInBounds_toArray, List.set_cons_succ, List.set_cons_zero]))
      | ((with_reducible refine isStore ?_); refine wpList_storeH H rfl rfl rfl (by (first | exact rRat | exact rSpan | exact rPose | exact rFrame | exact rVec | exact rTurn | exact rBox)) (by rfl) (by rfl) (by (repeat (first | apply Upd.head | apply Upd.tail | assumption))) (by rfl) (by (simp only [List.drop, List.take, List.nil_append, List.cons_append]); rfl) (by exact Nat.le_of_ble_eq_true rfl) (by rfl) ?_; clear H; intro _ H)
      | ((with_reducible refine isStore ?_); refine wpList_storeH1 H rfl rfl rfl (by first | exact sBool | exact sStr | exact sInt) (by rfl) (by rfl) (by (repeat (first | apply Upd.head | apply Upd.tail | assumption))) (by (simp only [List.set_cons_succ, List.set_cons_zero]); rfl) (by exact Nat.le_of_ble_eq_true rfl) (by rfl) (by rfl) ?_; clear H; intro _ H)
      | ((with_reducible refine isBox ?_); refine wpList_boxH H rfl rfl rfl (by go_simp; rfl) (by simp only [Value.cells]; rfl) ?_; clear H; intro _ _ H; (simp only [Act.put, List.setIfInBounds_toArray, List.set_cons_succ, List.set_cons_zero]))
      | ((with_reducible refine isAlloc ?_); refine wpList_allocH H rfl rfl rfl (by first | exact zRat | exact zSpan | exact zPose | exact zFrame | exact zVec | exact zTurn | exact zBox) (by simp only [Value.cells]; rfl) ?_; clear H; intro _ _ H; (simp only [Act.put, List.setIfInBounds_toArray, List.set_cons_succ, List.set_cons_zero])))
  go_ret
  exact ⟨rfl, H.out.bel⟩
end Go.Proofs.YtolekonocbeekaaDoor

namespace Go.Proofs.YtolekonocbeekaaDoor
open Go.RowKit
set_option linter.unusedVariables false
set_option maxRecDepth 100000

set_option maxHeartbeats 4000000 in
theorem seeNarrows_core (S1 : Sd) (S2 : Sd) (S3 : Sd) (w : World) (hS1 : S1.ok w) (hS2 : S2.ok w) (hS3 : S3.ok w) (hT : Tb w) :
    Calls Tryd.prog 3 #[.slice S1.A S1.xs.length S1.c, .slice S2.A S2.xs.length S2.c, .slice S3.A S3.xs.length S3.c] w fun e w' => e = .returned (.bool true) ∧ Below w.heap.size w w' := by
  obtain ⟨a1, b1, a2, b2, a3, b3, P0, CP0⟩ := pose_ex S1 w hS1
  obtain ⟨c1, d1, c2, d2, c3, d3, Q0, CQ0⟩ := pose_ex S2 w hS2
  obtain ⟨x, y, t, X, Y, T, zx0, zy0, zt0, CF0⟩ := within_ex S3 w hS3 a1 b1 a2 b2 a3 b3 P0 (by decide)
  have CP := Lib.hid CP0
  have CQ := Lib.hid CQ0
  have CF := Lib.hid CF0
  have P := Lib.hid (P0.mono (show 2 ≤ 14 by decide))
  have Q := Lib.hid (Q0.mono (show 2 ≤ 14 by decide))
  have zx := Lib.hid zx0
  have zy := Lib.hid zy0
  have zt := Lib.hid zt0
  have GP : Hid (hasF a1 b1 a2 b2 a3 b3 x y t = true) := decide_eq_true ⟨X, Y, T⟩
  clear hS1 hS2 hS3 CP0 CQ0 CF0 zx0 zy0 zt0
  by_cases G : mx a1 c1 ≤ mn b1 d1 ∧ mx a2 c2 ≤ mn b2 d2 ∧ mx a3 c3 ≤ mn b3 d3
  · obtain ⟨u1, E1⟩ : ∃ z, Hid (mx a1 c1 = z) := ⟨_, rfl⟩
    obtain ⟨v1, E2⟩ : ∃ z, Hid (mn b1 d1 = z) := ⟨_, rfl⟩
    obtain ⟨u2, E3⟩ : ∃ z, Hid (mx a2 c2 = z) := ⟨_, rfl⟩
    obtain ⟨v2, E4⟩ : ∃ z, Hid (mn b2 d2 = z) := ⟨_, rfl⟩
    obtain ⟨u3, E5⟩ : ∃ z, Hid (mx a3 c3 = z) := ⟨_, rfl⟩
    obtain ⟨v3, E6⟩ : ∃ z, Hid (mn b3 d3 = z) := ⟨_, rfl⟩
    have U : Hid (PoseF 14 u1 v1 u2 v2 u3 v3) := by
      have h := P.out.meet Q.out G
      rw [E1.out, E2.out, E3.out, E4.out, E5.out, E6.out] at h
      exact h
    obtain ⟨hq, HQ⟩ : ∃ z, Hid (hasF c1 d1 c2 d2 c3 d3 x y t = z) := ⟨_, rfl⟩
    obtain ⟨iq, IQ⟩ : ∃ z, Hid (inF a1 b1 a2 b2 a3 b3 c1 d1 c2 d2 c3 d3 = z) := ⟨_, rfl⟩
    have HN : Hid (hasF u1 v1 u2 v2 u3 v3 x y t = hq) := by
      have h := HQ.out
      unfold hasF at h
      unfold Hid hasF
      rw [← h, ← E1.out, ← E2.out, ← E3.out, ← E4.out, ← E5.out, ← E6.out]
      simp only [decide_eq_decide, mx_le, le_mn]
      grind
    have I1 : Hid (inF u1 v1 u2 v2 u3 v3 a1 b1 a2 b2 a3 b3 = true) := by
      unfold Hid inF
      rw [← E1.out, ← E2.out, ← E3.out, ← E4.out, ← E5.out, ← E6.out]
      exact decide_eq_true ⟨⟨(le_mx _ _).1, (mn_le _ _).1⟩, ⟨(le_mx _ _).1, (mn_le _ _).1⟩, ⟨(le_mx _ _).1, (mn_le _ _).1⟩⟩
    have I2 : Hid (inF u1 v1 u2 v2 u3 v3 c1 d1 c2 d2 c3 d3 = true) := by
      unfold Hid inF
      rw [← E1.out, ← E2.out, ← E3.out, ← E4.out, ← E5.out, ← E6.out]
      exact decide_eq_true ⟨⟨(le_mx _ _).2, (mn_le _ _).2⟩, ⟨(le_mx _ _).2, (mn_le _ _).2⟩, ⟨(le_mx _ _).2, (mn_le _ _).2⟩⟩
    have SA : Hid (iq = true → (inF u1 v1 u2 v2 u3 v3 a1 b1 a2 b2 a3 b3 && inF a1 b1 a2 b2 a3 b3 u1 v1 u2 v2 u3 v3) = true) := by
      intro hi
      have h := IQ.out
      rw [hi] at h
      unfold inF at h
      have h := of_decide_eq_true h
      rw [I1.out]
      unfold inF
      rw [← E1.out, ← E2.out, ← E3.out, ← E4.out, ← E5.out, ← E6.out]
      refine decide_eq_true ?_
      simp only [mx_le, le_mn]
      grind
    clear G P0 Q0 X Y T
    have H := Lib.hid (Hp.start hT)
    clear hT
    cases iq <;> cases hq
    · go_enter Tryd.func3, Tryd.ntmps3
      go_wp2_with (first
          | go_skip
          | ((with_reducible refine isLoad ?_); refine wpList_loadH H rfl (by (first | exact wanted_none rfl | exact wanted_some rfl rfl)) (by (first | exact rRat | exact rSpan | exact rPose | exact rFrame | exact rVec | exact rTurn | exact rBox)) (by rfl) (by (repeat (first | exact List.Mem.head _ | refine List.Mem.tail _ ?_ | assumption))) (by (simp only [List.drop, List.take]); rfl) (by rfl) ?_; (simp only [Act.put, List.setIfInBounds_toArray, List.set_cons_succ, List.set_cons_zero]))
          | ((with_reducible refine isLoad ?_); refine wpList_loadH1 H rfl (by (first | exact wanted_none rfl | exact wanted_some rfl rfl)) (by (first | exact kBool | exact kStr | exact kInt | exact kStm)) (by rfl) (by (repeat (first | exact List.Mem.head _ | refine List.Mem.tail _ ?_ | assumption))) (by rfl) ?_; (simp only [Act.put, List.setIfInBounds_toArray, List.set_cons_succ, List.set_cons_zero]))
          | ((with_reducible refine isStore ?_); refine wpList_storeH H rfl rfl rfl (by (first | exact rRat | exact rSpan | exact rPose | exact rFrame | exact rVec | exact rTurn | exact rBox)) (by rfl) (by rfl) (by (repeat (first | apply Upd.head | apply Upd.tail | assumption))) (by rfl) (by (simp only [List.drop, List.take, List.nil_append, List.cons_append]); rfl) (by exact Nat.le_of_ble_eq_true rfl) (by rfl) ?_; clear H; intro _ H)
          | ((with_reducible refine isStore ?_); refine wpList_storeH1 H rfl rfl rfl (by first | exact sBool | exact sStr | exact sInt) (by rfl) (by rfl) (by (repeat (first | apply Upd.head | apply Upd.tail | assumption))) (by (simp only [List.set_cons_succ, List.set_cons_zero]); rfl) (by exact Nat.le_of_ble_eq_true rfl) (by rfl) (by rfl) ?_; clear H; intro _ H)
          | ((with_reducible refine isBox ?_); refine wpList_boxH H rfl rfl rfl (by go_simp; rfl) (by simp only [Value.cells]; rfl) ?_; clear H; intro _ _ H; (simp only [Act.put, List.setIfInBounds_toArray, List.set_cons_succ, List.set_cons_zero]))
          | ((with_reducible refine isAlloc ?_); refine wpList_allocH H rfl rfl rfl (by first | exact zRat | exact zSpan | exact zPose | exact zFrame | exact zVec | exact zTurn | exact zBox) (by simp only [Value.cells]; rfl) ?_; clear H; intro _ _ H; (simp only [Act.put, List.setIfInBounds_toArray, List.set_cons_succ, List.set_cons_zero])))
      refine ((CP.out _ H.out.bel H.out.tb)).mono ?_
      rintro _ _ ⟨rfl, hb⟩
      replace H := Lib.hid (H.out.go hb)
      clear hb
      go_wp2_with (first
          | go_skip
          | ((with_reducible refine isLoad ?_); refine wpList_loadH H rfl (by (first | exact wanted_none rfl | exact wanted_some rfl rfl)) (by (first | exact rRat | exact rSpan | exact rPose | exact rFrame | exact rVec | exact rTurn | exact rBox)) (by rfl) (by (repeat (first | exact List.Mem.head _ | refine List.Mem.tail _ ?_ | assumption))) (by (simp only [List.drop, List.take]); rfl) (by rfl) ?_; (simp only [Act.put, List.setIfInBounds_toArray, List.set_cons_succ, List.set_cons_zero]))
          | ((with_reducible refine isLoad ?_); refine wpList_loadH1 H rfl (by (first | exact wanted_none rfl | exact wanted_some rfl rfl)) (by (first | exact kBool | exact kStr | exact kInt | exact kStm)) (by rfl) (by (repeat (first | exact List.Mem.head _ | refine List.Mem.tail _ ?_ | assumption))) (by rfl) ?_; (simp only [Act.put, List.setIfInBounds_toArray, List.set_cons_succ, List.set_cons_zero]))
          | ((with_reducible refine isStore ?_); refine wpList_storeH H rfl rfl rfl (by (first | exact rRat | exact rSpan | exact rPose | exact rFrame | exact rVec | exact rTurn | exact rBox)) (by rfl) (by rfl) (by (repeat (first | apply Upd.head | apply Upd.tail | assumption))) (by rfl) (by (simp only [List.drop, List.take, List.nil_append, List.cons_append]); rfl) (by exact Nat.le_of_ble_eq_true rfl) (by rfl) ?_; clear H; intro _ H)
          | ((with_reducible refine isStore ?_); refine wpList_storeH1 H rfl rfl rfl (by first | exact sBool | exact sStr | exact sInt) (by rfl) (by rfl) (by (repeat (first | apply Upd.head | apply Upd.tail | assumption))) (by (simp only [List.set_cons_succ, List.set_cons_zero]); rfl) (by exact Nat.le_of_ble_eq_true rfl) (by rfl) (by rfl) ?_; clear H; intro _ H)
          | ((with_reducible refine isBox ?_); refine wpList_boxH H rfl rfl rfl (by go_simp; rfl) (by simp only [Value.cells]; rfl) ?_; clear H; intro _ _ H; (simp only [Act.put, List.setIfInBounds_toArray, List.set_cons_succ, List.set_cons_zero]))
          | ((with_reducible refine isAlloc ?_); refine wpList_allocH H rfl rfl rfl (by first | exact zRat | exact zSpan | exact zPose | exact zFrame | exact zVec | exact zTurn | exact zBox) (by simp only [Value.cells]; rfl) ?_; clear H; intro _ _ H; (simp only [Act.put, List.setIfInBounds_toArray, List.set_cons_succ, List.set_cons_zero])))
      refine ((CQ.out _ H.out.bel H.out.tb)).mono ?_
      rintro _ _ ⟨rfl, hb⟩
      replace H := Lib.hid (H.out.go hb)
      clear hb
      go_wp2_with (first
          | go_skip
          | ((with_reducible refine isLoad ?_); refine wpList_loadH H rfl (by (first | exact wanted_none rfl | exact wanted_some rfl rfl)) (by (first | exact rRat | exact rSpan | exact rPose | exact rFrame | exact rVec | exact rTurn | exact rBox)) (by rfl) (by (repeat (first | exact List.Mem.head _ | refine List.Mem.tail _ ?_ | assumption))) (by (simp only [List.drop, List.take]); rfl) (by rfl) ?_; (simp only [Act.put, List.setIfInBounds_toArray, List.set_cons_succ, List.set_cons_zero]))
          | ((with_reducible refine isLoad ?_); refine wpList_loadH1 H rfl (by (first | exact wanted_none rfl | exact wanted_some rfl rfl)) (by (first | exact kBool | exact kStr | exact kInt | exact kStm)) (by rfl) (by (repeat (first | exact List.Mem.head _ | refine List.Mem.tail _ ?_ | assumption))) (by rfl) ?_; (simp only [Act.put, List.setIfInBounds_toArray, List.set_cons_succ, List.set_cons_zero]))
          | ((with_reducible refine isStore ?_); refine wpList_storeH H rfl rfl rfl (by (first | exact rRat | exact rSpan | exact rPose | exact rFrame | exact rVec | exact rTurn | exact rBox)) (by rfl) (by rfl) (by (repeat (first | apply Upd.head | apply Upd.tail | assumption))) (by rfl) (by (simp only [List.drop, List.take, List.nil_append, List.cons_append]); rfl) (by exact Nat.le_of_ble_eq_true rfl) (by rfl) ?_; clear H; intro _ H)
          | ((with_reducible refine isStore ?_); refine wpList_storeH1 H rfl rfl rfl (by first | exact sBool | exact sStr | exact sInt) (by rfl) (by rfl) (by (repeat (first | apply Upd.head | apply Upd.tail | assumption))) (by (simp only [List.set_cons_succ, List.set_cons_zero]); rfl) (by exact Nat.le_of_ble_eq_true rfl) (by rfl) (by rfl) ?_; clear H; intro _ H)
          | ((with_reducible refine isBox ?_); refine wpList_boxH H rfl rfl rfl (by go_simp; rfl) (by simp only [Value.cells]; rfl) ?_; clear H; intro _ _ H; (simp only [Act.put, List.setIfInBounds_toArray, List.set_cons_succ, List.set_cons_zero]))
          | ((with_reducible refine isAlloc ?_); refine wpList_allocH H rfl rfl rfl (by first | exact zRat | exact zSpan | exact zPose | exact zFrame | exact zVec | exact zTurn | exact zBox) (by simp only [Value.cells]; rfl) ?_; clear H; intro _ _ H; (simp only [Act.put, List.setIfInBounds_toArray, List.set_cons_succ, List.set_cons_zero])))
      refine ((CF.out _ H.out.bel H.out.tb)).mono ?_
      rintro _ _ ⟨rfl, hb⟩
      replace H := Lib.hid (H.out.go hb)
      clear hb
      go_wp2_with (first
          | go_skip
          | ((with_reducible refine isLoad ?_); refine wpList_loadH H rfl (by (first | exact wanted_none rfl | exact wanted_some rfl rfl)) (by (first | exact rRat | exact rSpan | exact rPose | exact rFrame | exact rVec | exact rTurn | exact rBox)) (by rfl) (by (repeat (first | exact List.Mem.head _ | refine List.Mem.tail _ ?_ | assumption))) (by (simp only [List.drop, List.take]); rfl) (by rfl) ?_; (simp only [Act.put, List.setIfInBounds_toArray, List.set_cons_succ, List.set_cons_zero]))
          | ((with_reducible refine isLoad ?_); refine wpList_loadH1 H rfl (by (first | exact wanted_none rfl | exact wanted_some rfl rfl)) (by (first | exact kBool | exact kStr | exact kInt | exact kStm)) (by rfl) (by (repeat (first | exact List.Mem.head _ | refine List.Mem.tail _ ?_ | assumption))) (by rfl) ?_; (simp only [Act.put, List.setIfInBounds_toArray, List.set_cons_succ, List.set_cons_zero]))
          | ((with_reducible refine isStore ?_); refine wpList_storeH H rfl rfl rfl (by (first | exact rRat | exact rSpan | exact rPose | exact rFrame | exact rVec | exact rTurn | exact rBox)) (by rfl) (by rfl) (by (repeat (first | apply Upd.head | apply Upd.tail | assumption))) (by rfl) (by (simp only [List.drop, List.take, List.nil_append, List.cons_append]); rfl) (by exact Nat.le_of_ble_eq_true rfl) (by rfl) ?_; clear H; intro _ H)
          | ((with_reducible refine isStore ?_); refine wpList_storeH1 H rfl rfl rfl (by first | exact sBool | exact sStr | exact sInt) (by rfl) (by rfl) (by (repeat (first | apply Upd.head | apply Upd.tail | assumption))) (by (simp only [List.set_cons_succ, List.set_cons_zero]); rfl) (by exact Nat.le_of_ble_eq_true rfl) (by rfl) (by rfl) ?_; clear H; intro _ H)
          | ((with_reducible refine isBox ?_); refine wpList_boxH H rfl rfl rfl (by go_simp; rfl) (by simp only [Value.cells]; rfl) ?_; clear H; intro _ _ H; (simp only [Act.put, List.setIfInBounds_toArray, List.set_cons_succ, List.set_cons_zero]))
          | ((with_reducible refine isAlloc ?_); refine wpList_allocH H rfl rfl rfl (by first | exact zRat | exact zSpan | exact zPose | exact zFrame | exact zVec | exact zTurn | exact zBox) (by simp only [Value.cells]; rfl) ?_; clear H; intro _ _ H; (simp only [Act.put, List.setIfInBounds_toArray, List.set_cons_succ, List.set_cons_zero])))
      refine (Narrow_y a1 b1 a2 b2 a3 b3 c1 d1 c2 d2 c3 d3 _ (by decide) P.out Q.out u1 v1 u2 v2 u3 v3 E1 E2 E3 E4 E5 E6 U.out H.out.tb).mono ?_
      rintro _ _ ⟨rfl, hb⟩
      replace H := Lib.hid (H.out.go hb)
      clear hb
      go_wp2_with (first
          | go_skip
          | ((with_reducible refine isLoad ?_); refine wpList_loadH H rfl (by (first | exact wanted_none rfl | exact wanted_some rfl rfl)) (by (first | exact rRat | exact rSpan | exact rPose | exact rFrame | exact rVec | exact rTurn | exact rBox)) (by rfl) (by (repeat (first | exact List.Mem.head _ | refine List.Mem.tail _ ?_ | assumption))) (by (simp only [List.drop, List.take]); rfl) (by rfl) ?_; (simp only [Act.put, List.setIfInBounds_toArray, List.set_cons_succ, List.set_cons_zero]))
          | ((with_reducible refine isLoad ?_); refine wpList_loadH1 H rfl (by (first | exact wanted_none rfl | exact wanted_some rfl rfl)) (by (first | exact kBool | exact kStr | exact kInt | exact kStm)) (by rfl) (by (repeat (first | exact List.Mem.head _ | refine List.Mem.tail _ ?_ | assumption))) (by rfl) ?_; (simp only [Act.put, List.setIfInBounds_toArray, List.set_cons_succ, List.set_cons_zero]))
          | ((with_reducible refine isStore ?_); refine wpList_storeH H rfl rfl rfl (by (first | exact rRat | exact rSpan | exact rPose | exact rFrame | exact rVec | exact rTurn | exact rBox)) (by rfl) (by rfl) (by (repeat (first | apply Upd.head | apply Upd.tail | assumption))) (by rfl) (by (simp only [List.drop, List.take, List.nil_append, List.cons_append]); rfl) (by exact Nat.le_of_ble_eq_true rfl) (by rfl) ?_; clear H; intro _ H)
          | ((with_reducible refine isStore ?_); refine wpList_storeH1 H rfl rfl rfl (by first | exact sBool | exact sStr | exact sInt) (by rfl) (by rfl) (by (repeat (first | apply Upd.head | apply Upd.tail | assumption))) (by (simp only [List.set_cons_succ, List.set_cons_zero]); rfl) (by exact Nat.le_of_ble_eq_true rfl) (by rfl) (by rfl) ?_; clear H; intro _ H)
          | ((with_reducible refine isBox ?_); refine wpList_boxH H rfl rfl rfl (by go_simp; rfl) (by simp only [Value.cells]; rfl) ?_; clear H; intro _ _ H; (simp only [Act.put, List.setIfInBounds_toArray, List.set_cons_succ, List.set_cons_zero]))
          | ((with_reducible refine isAlloc ?_); refine wpList_allocH H rfl rfl rfl (by first | exact zRat | exact zSpan | exact zPose | exact zFrame | exact zVec | exact zTurn | exact zBox) (by simp only [Value.cells]; rfl) ?_; clear H; intro _ _ H; (simp only [Act.put, List.setIfInBounds_toArray, List.set_cons_succ, List.set_cons_zero])))
      refine (seen_any (k := 0) _ (by decide) H.out.tb).mono ?_
      rintro _ _ ⟨rfl, hb⟩
      replace H := Lib.hid (H.out.go hb)
      clear hb
      go_wp2_with (first
          | go_skip
          | ((with_reducible refine isLoad ?_); refine wpList_loadH H rfl (by (first | exact wanted_none rfl | exact wanted_some rfl rfl)) (by (first | exact rRat | exact rSpan | exact rPose | exact rFrame | exact rVec | exact rTurn | exact rBox)) (by rfl) (by (repeat (first | exact List.Mem.head _ | refine List.Mem.tail _ ?_ | assumption))) (by (simp only [List.drop, List.take]); rfl) (by rfl) ?_; (simp only [Act.put, List.setIfInBounds_toArray, List.set_cons_succ, List.set_cons_zero]))
          | ((with_reducible refine isLoad ?_); refine wpList_loadH1 H rfl (by (first | exact wanted_none rfl | exact wanted_some rfl rfl)) (by (first | exact kBool | exact kStr | exact kInt | exact kStm)) (by rfl) (by (repeat (first | exact List.Mem.head _ | refine List.Mem.tail _ ?_ | assumption))) (by rfl) ?_; (simp only [Act.put, List.setIfInBounds_toArray, List.set_cons_succ, List.set_cons_zero]))
          | ((with_reducible refine isStore ?_); refine wpList_storeH H rfl rfl rfl (by (first | exact rRat | exact rSpan | exact rPose | exact rFrame | exact rVec | exact rTurn | exact rBox)) (by rfl) (by rfl) (by (repeat (first | apply Upd.head | apply Upd.tail | assumption))) (by rfl) (by (simp only [List.drop, List.take, List.nil_append, List.cons_append]); rfl) (by exact Nat.le_of_ble_eq_true rfl) (by rfl) ?_; clear H; intro _ H)
          | ((with_reducible refine isStore ?_); refine wpList_storeH1 H rfl rfl rfl (by first | exact sBool | exact sStr | exact sInt) (by rfl) (by rfl) (by (repeat (first | apply Upd.head | apply Upd.tail | assumption))) (by (simp only [List.set_cons_succ, List.set_cons_zero]); rfl) (by exact Nat.le_of_ble_eq_true rfl) (by rfl) (by rfl) ?_; clear H; intro _ H)
          | ((with_reducible refine isBox ?_); refine wpList_boxH H rfl rfl rfl (by go_simp; rfl) (by simp only [Value.cells]; rfl) ?_; clear H; intro _ _ H; (simp only [Act.put, List.setIfInBounds_toArray, List.set_cons_succ, List.set_cons_zero]))
          | ((with_reducible refine isAlloc ?_); refine wpList_allocH H rfl rfl rfl (by first | exact zRat | exact zSpan | exact zPose | exact zFrame | exact zVec | exact zTurn | exact zBox) (by simp only [Value.cells]; rfl) ?_; clear H; intro _ _ H; (simp only [Act.put, List.setIfInBounds_toArray, List.set_cons_succ, List.set_cons_zero])))
      refine (HasF_any (k := 14) a1 b1 a2 b2 a3 b3 x y t true _ (by decide) P.out zx.out zy.out zt.out GP H.out.tb).mono ?_
      rintro _ _ ⟨rfl, hb⟩
      replace H := Lib.hid (H.out.go hb)
      clear hb
      go_wp2_with (first
          | go_skip
          | ((with_reducible refine isLoad ?_); refine wpList_loadH H rfl (by (first | exact wanted_none rfl | exact wanted_some rfl rfl)) (by (first | exact rRat | exact rSpan | exact rPose | exact rFrame | exact rVec | exact rTurn | exact rBox)) (by rfl) (by (repeat (first | exact List.Mem.head _ | refine List.Mem.tail _ ?_ | assumption))) (by (simp only [List.drop, List.take]); rfl) (by rfl) ?_; (simp only [Act.put, List.setIfInBounds_toArray, List.set_cons_succ, List.set_cons_zero]))
          | ((with_reducible refine isLoad ?_); refine wpList_loadH1 H rfl (by (first | exact wanted_none rfl | exact wanted_some rfl rfl)) (by (first | exact kBool | exact kStr | exact kInt | exact kStm)) (by rfl) (by (repeat (first | exact List.Mem.head _ | refine List.Mem.tail _ ?_ | assumption))) (by rfl) ?_; (simp only [Act.put, List.setIfInBounds_toArray, List.set_cons_succ, List.set_cons_zero]))
          | ((with_reducible refine isStore ?_); refine wpList_storeH H rfl rfl rfl (by (first | exact rRat | exact rSpan | exact rPose | exact rFrame | exact rVec | exact rTurn | exact rBox)) (by rfl) (by rfl) (by (repeat (first | apply Upd.head | apply Upd.tail | assumption))) (by rfl) (by (simp only [List.drop, List.take, List.nil_append, List.cons_append]); rfl) (by exact Nat.le_of_ble_eq_true rfl) (by rfl) ?_; clear H; intro _ H)
          | ((with_reducible refine isStore ?_); refine wpList_storeH1 H rfl rfl rfl (by first | exact sBool | exact sStr | exact sInt) (by rfl) (by rfl) (by (repeat (first | apply Upd.head | apply Upd.tail | assumption))) (by (simp only [List.set_cons_succ, List.set_cons_zero]); rfl) (by exact Nat.le_of_ble_eq_true rfl) (by rfl) (by rfl) ?_; clear H; intro _ H)
          | ((with_reducible refine isBox ?_); refine wpList_boxH H rfl rfl rfl (by go_simp; rfl) (by simp only [Value.cells]; rfl) ?_; clear H; intro _ _ H; (simp only [Act.put, List.setIfInBounds_toArray, List.set_cons_succ, List.set_cons_zero]))
          | ((with_reducible refine isAlloc ?_); refine wpList_allocH H rfl rfl rfl (by first | exact zRat | exact zSpan | exact zPose | exact zFrame | exact zVec | exact zTurn | exact zBox) (by simp only [Value.cells]; rfl) ?_; clear H; intro _ _ H; (simp only [Act.put, List.setIfInBounds_toArray, List.set_cons_succ, List.set_cons_zero])))
      refine wp_region_E H (by kernel_rfl) (by kernel_rfl) ?_
      repeat (first
          | (refine wpK_skip rfl rfl ?_; (simp only [Act.put, List.setIfInBounds_toArray, List.set_cons_succ, List.set_cons_zero]))
          | ((with_reducible refine kLoad ?_); refine wpK_loadH H rfl (by (first | exact wanted_none rfl | exact wanted_some rfl rfl)) (by (first | exact rRat | exact rSpan | exact rPose | exact rFrame | exact rVec | exact rTurn | exact rBox)) (by rfl) (by (repeat (first | exact List.Mem.head _ | refine List.Mem.tail _ ?_ | assumption))) (by (simp only [List.drop, List.take]); rfl) (by rfl) ?_; (simp only [Act.put, List.setIfInBounds_toArray, List.set_cons_succ, List.set_cons_zero]))
          | ((with_reducible refine kLoad ?_); refine wpK_loadH1 H rfl (by (first | exact wanted_none rfl | exact wanted_some rfl rfl)) (by (first | exact kBool | exact kStr | exact kInt | exact kStm)) (by rfl) (by (repeat (first | exact List.Mem.head _ | refine List.Mem.tail _ ?_ | assumption))) (by rfl) ?_; (simp only [Act.put, List.setIfInBounds_toArray, List.set_cons_succ, List.set_cons_zero]))
          | ((fail_if_success (with_reducible refine kCall ?_)); (with_reducible refine kCons ?_); refine wpK_step (fun K hK => ?_); go_simp; refine hK _ ?_; clear hK K))
      refine wpK_step (fun K hK => ?_)
      go_simp
      apply Exists.intro
      refine ⟨fun sx => ?_, hK _ ?_⟩
      · go_at_call 14
        exact HasF_any (k := 14) u1 v1 u2 v2 u3 v3 x y t false _ (by decide) U.out zx.out zy.out zt.out HN (H.out.tbx sx)
      clear hK K
      repeat (first
          | (refine wpK_skip rfl rfl ?_; (simp only [Act.put, List.setIfInBounds_toArray, List.set_cons_succ, List.set_cons_zero]))
          | ((with_reducible refine kLoad ?_); refine wpK_loadH H rfl (by (first | exact wanted_none rfl | exact wanted_some rfl rfl)) (by (first | exact rRat | exact rSpan | exact rPose | exact rFrame | exact rVec | exact rTurn | exact rBox)) (by rfl) (by (repeat (first | exact List.Mem.head _ | refine List.Mem.tail _ ?_ | assumption))) (by (simp only [List.drop, List.take]); rfl) (by rfl) ?_; (simp only [Act.put, List.setIfInBounds_toArray, List.set_cons_succ, List.set_cons_zero]))
          | ((with_reducible refine kLoad ?_); refine wpK_loadH1 H rfl (by (first | exact wanted_none rfl | exact wanted_some rfl rfl)) (by (first | exact kBool | exact kStr | exact kInt | exact kStm)) (by rfl) (by (repeat (first | exact List.Mem.head _ | refine List.Mem.tail _ ?_ | assumption))) (by rfl) ?_; (simp only [Act.put, List.setIfInBounds_toArray, List.set_cons_succ, List.set_cons_zero]))
          | ((fail_if_success (with_reducible refine kCall ?_)); (with_reducible refine kCons ?_); refine wpK_step (fun K hK => ?_); go_simp; refine hK _ ?_; clear hK K))
      refine wpK_step (fun K hK => ?_)
      go_simp
      apply Exists.intro
      refine ⟨fun sx => ?_, hK _ ?_⟩
      · go_at_call 14
        exact HasF_any (k := 14) c1 d1 c2 d2 c3 d3 x y t false _ (by decide) Q.out zx.out zy.out zt.out HQ (H.out.tbx sx)
      clear hK K
      repeat (first
          | (refine wpK_skip rfl rfl ?_; (simp only [Act.put, List.setIfInBounds_toArray, List.set_cons_succ, List.set_cons_zero]))
          | ((with_reducible refine kLoad ?_); refine wpK_loadH H rfl (by (first | exact wanted_none rfl | exact wanted_some rfl rfl)) (by (first | exact rRat | exact rSpan | exact rPose | exact rFrame | exact rVec | exact rTurn | exact rBox)) (by rfl) (by (repeat (first | exact List.Mem.head _ | refine List.Mem.tail _ ?_ | assumption))) (by (simp only [List.drop, List.take]); rfl) (by rfl) ?_; (simp only [Act.put, List.setIfInBounds_toArray, List.set_cons_succ, List.set_cons_zero]))
          | ((with_reducible refine kLoad ?_); refine wpK_loadH1 H rfl (by (first | exact wanted_none rfl | exact wanted_some rfl rfl)) (by (first | exact kBool | exact kStr | exact kInt | exact kStm)) (by rfl) (by (repeat (first | exact List.Mem.head _ | refine List.Mem.tail _ ?_ | assumption))) (by rfl) ?_; (simp only [Act.put, List.setIfInBounds_toArray, List.set_cons_succ, List.set_cons_zero]))
          | ((fail_if_success (with_reducible refine kCall ?_)); (with_reducible refine kCons ?_); refine wpK_step (fun K hK => ?_); go_simp; refine hK _ ?_; clear hK K))
      refine wpK_step (fun K hK => ?_)
      go_simp
      apply Exists.intro
      refine ⟨fun sx => ?_, hK _ ?_⟩
      · go_at_call 15
        exact InF_any (k := 14) u1 v1 u2 v2 u3 v3 a1 b1 a2 b2 a3 b3 true _ (by decide) U.out P.out I1 (H.out.tbx sx)
      clear hK K
      repeat (first
          | (refine wpK_skip rfl rfl ?_; (simp only [Act.put, List.setIfInBounds_toArray, List.set_cons_succ, List.set_cons_zero]))
          | ((with_reducible refine kLoad ?_); refine wpK_loadH H rfl (by (first | exact wanted_none rfl | exact wanted_some rfl rfl)) (by (first | exact rRat | exact rSpan | exact rPose | exact rFrame | exact rVec | exact rTurn | exact rBox)) (by rfl) (by (repeat (first | exact List.Mem.head _ | refine List.Mem.tail _ ?_ | assumption))) (by (simp only [List.drop, List.take]); rfl) (by rfl) ?_; (simp only [Act.put, List.setIfInBounds_toArray, List.set_cons_succ, List.set_cons_zero]))
          | ((with_reducible refine kLoad ?_); refine wpK_loadH1 H rfl (by (first | exact wanted_none rfl | exact wanted_some rfl rfl)) (by (first | exact kBool | exact kStr | exact kInt | exact kStm)) (by rfl) (by (repeat (first | exact List.Mem.head _ | refine List.Mem.tail _ ?_ | assumption))) (by rfl) ?_; (simp only [Act.put, List.setIfInBounds_toArray, List.set_cons_succ, List.set_cons_zero]))
          | ((fail_if_success (with_reducible refine kCall ?_)); (with_reducible refine kCons ?_); refine wpK_step (fun K hK => ?_); go_simp; refine hK _ ?_; clear hK K))
      refine wpK_step (fun K hK => ?_)
      go_simp
      apply Exists.intro
      refine ⟨fun sx => ?_, hK _ ?_⟩
      · go_at_call 15
        exact InF_any (k := 14) u1 v1 u2 v2 u3 v3 c1 d1 c2 d2 c3 d3 true _ (by decide) U.out Q.out I2 (H.out.tbx sx)
      clear hK K
      repeat (first
          | (refine wpK_skip rfl rfl ?_; (simp only [Act.put, List.setIfInBounds_toArray, List.set_cons_succ, List.set_cons_zero]))
          | ((with_reducible refine kLoad ?_); refine wpK_loadH H rfl (by (first | exact wanted_none rfl | exact wanted_some rfl rfl)) (by (first | exact rRat | exact rSpan | exact rPose | exact rFrame | exact rVec | exact rTurn | exact rBox)) (by rfl) (by (repeat (first | exact List.Mem.head _ | refine List.Mem.tail _ ?_ | assumption))) (by (simp only [List.drop, List.take]); rfl) (by rfl) ?_; (simp only [Act.put, List.setIfInBounds_toArray, List.set_cons_succ, List.set_cons_zero]))
          | ((with_reducible refine kLoad ?_); refine wpK_loadH1 H rfl (by (first | exact wanted_none rfl | exact wanted_some rfl rfl)) (by (first | exact kBool | exact kStr | exact kInt | exact kStm)) (by rfl) (by (repeat (first | exact List.Mem.head _ | refine List.Mem.tail _ ?_ | assumption))) (by rfl) ?_; (simp only [Act.put, List.setIfInBounds_toArray, List.set_cons_succ, List.set_cons_zero]))
          | ((fail_if_success (with_reducible refine kCall ?_)); (with_reducible refine kCons ?_); refine wpK_step (fun K hK => ?_); go_simp; refine hK _ ?_; clear hK K))
      refine wpK_step (fun K hK => ?_)
      go_simp
      apply Exists.intro
      refine ⟨fun sx => ?_, hK _ ?_⟩
      · go_at_call 15
        exact InF_any (k := 14) a1 b1 a2 b2 a3 b3 c1 d1 c2 d2 c3 d3 false _ (by decide) P.out Q.out IQ (H.out.tbx sx)
      clear hK K
      repeat (first
          | (refine wpK_skip rfl rfl ?_; (simp only [Act.put, List.setIfInBounds_toArray, List.set_cons_succ, List.set_cons_zero]))
          | ((with_reducible refine kLoad ?_); refine wpK_loadH H rfl (by (first | exact wanted_none rfl | exact wanted_some rfl rfl)) (by (first | exact rRat | exact rSpan | exact rPose | exact rFrame | exact rVec | exact rTurn | exact rBox)) (by rfl) (by (repeat (first | exact List.Mem.head _ | refine List.Mem.tail _ ?_ | assumption))) (by (simp only [List.drop, List.take]); rfl) (by rfl) ?_; (simp only [Act.put, List.setIfInBounds_toArray, List.set_cons_succ, List.set_cons_zero]))
          | ((with_reducible refine kLoad ?_); refine wpK_loadH1 H rfl (by (first | exact wanted_none rfl | exact wanted_some rfl rfl)) (by (first | exact kBool | exact kStr | exact kInt | exact kStm)) (by rfl) (by (repeat (first | exact List.Mem.head _ | refine List.Mem.tail _ ?_ | assumption))) (by rfl) ?_; (simp only [Act.put, List.setIfInBounds_toArray, List.set_cons_succ, List.set_cons_zero]))
          | ((fail_if_success (with_reducible refine kCall ?_)); (with_reducible refine kCons ?_); refine wpK_step (fun K hK => ?_); go_simp; refine hK _ ?_; clear hK K))
      refine wpKeep_nil ?_
      clear H
      intro _ H
      go_wp2_with (first
          | go_skip
          | ((with_reducible refine isLoad ?_); refine wpList_loadH H rfl (by (first | exact wanted_none rfl | exact wanted_some rfl rfl)) (by (first | exact rRat | exact rSpan | exact rPose | exact rFrame | exact rVec | exact rTurn | exact rBox)) (by rfl) (by (repeat (first | exact List.Mem.head _ | refine List.Mem.tail _ ?_ | assumption))) (by (simp only [List.drop, List.take]); rfl) (by rfl) ?_; (simp only [Act.put, List.setIfInBounds_toArray, List.set_cons_succ, List.set_cons_zero]))
          | ((with_reducible refine isLoad ?_); refine wpList_loadH1 H rfl (by (first | exact wanted_none rfl | exact wanted_some rfl rfl)) (by (first | exact kBool | exact kStr | exact kInt | exact kStm)) (by rfl) (by (repeat (first | exact List.Mem.head _ | refine List.Mem.tail _ ?_ | assumption))) (by rfl) ?_; (simp only [Act.put, List.setIfInBounds_toArray, List.set_cons_succ, List.set_cons_zero]))
          | ((with_reducible refine isStore ?_); refine wpList_storeH H rfl rfl rfl (by (first | exact rRat | exact rSpan | exact rPose | exact rFrame | exact rVec | exact rTurn | exact rBox)) (by rfl) (by rfl) (by (repeat (first | apply Upd.head | apply Upd.tail | assumption))) (by rfl) (by (simp only [List.drop, List.take, List.nil_append, List.cons_append]); rfl) (by exact Nat.le_of_ble_eq_true rfl) (by rfl) ?_; clear H; intro _ H)
          | ((with_reducible refine isStore ?_); refine wpList_storeH1 H rfl rfl rfl (by first | exact sBool | exact sStr | exact sInt) (by rfl) (by rfl) (by (repeat (first | apply Upd.head | apply Upd.tail | assumption))) (by (simp only [List.set_cons_succ, List.set_cons_zero]); rfl) (by exact Nat.le_of_ble_eq_true rfl) (by rfl) (by rfl) ?_; clear H; intro _ H)
          | ((with_reducible refine isBox ?_); refine wpList_boxH H rfl rfl rfl (by go_simp; rfl) (by simp only [Value.cells]; rfl) ?_; clear H; intro _ _ H; (simp only [Act.put, List.setIfInBounds_toArray, List.set_cons_succ, List.set_cons_zero]))
          | ((with_reducible refine isAlloc ?_); refine wpList_allocH H rfl rfl rfl (by first | exact zRat | exact zSpan | exact zPose | exact zFrame | exact zVec | exact zTurn | exact zBox) (by simp only [Value.cells]; rfl) ?_; clear H; intro _ _ H; (simp only [Act.put, List.setIfInBounds_toArray, List.set_cons_succ, List.set_cons_zero])))
      go_ret
      exact ⟨rfl, H.out.bel⟩
    · go_enter Tryd.func3, Tryd.ntmps3
      go_wp2_with (first
          | go_skip
          | ((with_reducible refine isLoad ?_); refine wpList_loadH H rfl (by (first | exact wanted_none rfl | exact wanted_some rfl rfl)) (by (first | exact rRat | exact rSpan | exact rPose | exact rFrame | exact rVec | exact rTurn | exact rBox)) (by rfl) (by (repeat (first | exact List.Mem.head _ | refine List.Mem.tail _ ?_ | assumption))) (by (simp only [List.drop, List.take]); rfl) (by rfl) ?_; (simp only [Act.put, List.setIfInBounds_toArray, List.set_cons_succ, List.set_cons_zero]))
          | ((with_reducible refine isLoad ?_); refine wpList_loadH1 H rfl (by (first | exact wanted_none rfl | exact wanted_some rfl rfl)) (by (first | exact kBool | exact kStr | exact kInt | exact kStm)) (by rfl) (by (repeat (first | exact List.Mem.head _ | refine List.Mem.tail _ ?_ | assumption))) (by rfl) ?_; (simp only [Act.put, List.setIfInBounds_toArray, List.set_cons_succ, List.set_cons_zero]))
          | ((with_reducible refine isStore ?_); refine wpList_storeH H rfl rfl rfl (by (first | exact rRat | exact rSpan | exact rPose | exact rFrame | exact rVec | exact rTurn | exact rBox)) (by rfl) (by rfl) (by (repeat (first | apply Upd.head | apply Upd.tail | assumption))) (by rfl) (by (simp only [List.drop, List.take, List.nil_append, List.cons_append]); rfl) (by exact Nat.le_of_ble_eq_true rfl) (by rfl) ?_; clear H; intro _ H)
          | ((with_reducible refine isStore ?_); refine wpList_storeH1 H rfl rfl rfl (by first | exact sBool | exact sStr | exact sInt) (by rfl) (by rfl) (by (repeat (first | apply Upd.head | apply Upd.tail | assumption))) (by (simp only [List.set_cons_succ, List.set_cons_zero]); rfl) (by exact Nat.le_of_ble_eq_true rfl) (by rfl) (by rfl) ?_; clear H; intro _ H)
          | ((with_reducible refine isBox ?_); refine wpList_boxH H rfl rfl rfl (by go_simp; rfl) (by simp only [Value.cells]; rfl) ?_; clear H; intro _ _ H; (simp only [Act.put, List.setIfInBounds_toArray, List.set_cons_succ, List.set_cons_zero]))
          | ((with_reducible refine isAlloc ?_); refine wpList_allocH H rfl rfl rfl (by first | exact zRat | exact zSpan | exact zPose | exact zFrame | exact zVec | exact zTurn | exact zBox) (by simp only [Value.cells]; rfl) ?_; clear H; intro _ _ H; (simp only [Act.put, List.setIfInBounds_toArray, List.set_cons_succ, List.set_cons_zero])))
      refine ((CP.out _ H.out.bel H.out.tb)).mono ?_
      rintro _ _ ⟨rfl, hb⟩
      replace H := Lib.hid (H.out.go hb)
      clear hb
      go_wp2_with (first
          | go_skip
          | ((with_reducible refine isLoad ?_); refine wpList_loadH H rfl (by (first | exact wanted_none rfl | exact wanted_some rfl rfl)) (by (first | exact rRat | exact rSpan | exact rPose | exact rFrame | exact rVec | exact rTurn | exact rBox)) (by rfl) (by (repeat (first | exact List.Mem.head _ | refine List.Mem.tail _ ?_ | assumption))) (by (simp only [List.drop, List.take]); rfl) (by rfl) ?_; (simp only [Act.put, List.setIfInBounds_toArray, List.set_cons_succ, List.set_cons_zero]))
          | ((with_reducible refine isLoad ?_); refine wpList_loadH1 H rfl (by (first | exact wanted_none rfl | exact wanted_some rfl rfl)) (by (first | exact kBool | exact kStr | exact kInt | exact kStm)) (by rfl) (by (repeat (first | exact List.Mem.head _ | refine List.Mem.tail _ ?_ | assumption))) (by rfl) ?_; (simp only [Act.put, List.setIfInBounds_toArray, List.set_cons_succ, List.set_cons_zero]))
          | ((with_reducible refine isStore ?_); refine wpList_storeH H rfl rfl rfl (by (first | exact rRat | exact rSpan | exact rPose | exact rFrame | exact rVec | exact rTurn | exact rBox)) (by rfl) (by rfl) (by (repeat (first | apply Upd.head | apply Upd.tail | assumption))) (by rfl) (by (simp only [List.drop, List.take, List.nil_append, List.cons_append]); rfl) (by exact Nat.le_of_ble_eq_true rfl) (by rfl) ?_; clear H; intro _ H)
          | ((with_reducible refine isStore ?_); refine wpList_storeH1 H rfl rfl rfl (by first | exact sBool | exact sStr | exact sInt) (by rfl) (by rfl) (by (repeat (first | apply Upd.head | apply Upd.tail | assumption))) (by (simp only [List.set_cons_succ, List.set_cons_zero]); rfl) (by exact Nat.le_of_ble_eq_true rfl) (by rfl) (by rfl) ?_; clear H; intro _ H)
          | ((with_reducible refine isBox ?_); refine wpList_boxH H rfl rfl rfl (by go_simp; rfl) (by simp only [Value.cells]; rfl) ?_; clear H; intro _ _ H; (simp only [Act.put, List.setIfInBounds_toArray, List.set_cons_succ, List.set_cons_zero]))
          | ((with_reducible refine isAlloc ?_); refine wpList_allocH H rfl rfl rfl (by first | exact zRat | exact zSpan | exact zPose | exact zFrame | exact zVec | exact zTurn | exact zBox) (by simp only [Value.cells]; rfl) ?_; clear H; intro _ _ H; (simp only [Act.put, List.setIfInBounds_toArray, List.set_cons_succ, List.set_cons_zero])))
      refine ((CQ.out _ H.out.bel H.out.tb)).mono ?_
      rintro _ _ ⟨rfl, hb⟩
      replace H := Lib.hid (H.out.go hb)
      clear hb
      go_wp2_with (first
          | go_skip
          | ((with_reducible refine isLoad ?_); refine wpList_loadH H rfl (by (first | exact wanted_none rfl | exact wanted_some rfl rfl)) (by (first | exact rRat | exact rSpan | exact rPose | exact rFrame | exact rVec | exact rTurn | exact rBox)) (by rfl) (by (repeat (first | exact List.Mem.head _ | refine List.Mem.tail _ ?_ | assumption))) (by (simp only [List.drop, List.take]); rfl) (by rfl) ?_; (simp only [Act.put, List.setIfInBounds_toArray, List.set_cons_succ, List.set_cons_zero]))
          | ((with_reducible refine isLoad ?_); refine wpList_loadH1 H rfl (by (first | exact wanted_none rfl | exact wanted_some rfl rfl)) (by (first | exact kBool | exact kStr | exact kInt | exact kStm)) (by rfl) (by (repeat (first | exact List.Mem.head _ | refine List.Mem.tail _ ?_ | assumption))) (by rfl) ?_; (simp only [Act.put, List.setIfInBounds_toArray, List.set_cons_succ, List.set_cons_zero]))
          | ((with_reducible refine isStore ?_); refine wpList_storeH H rfl rfl rfl (by (first | exact rRat | exact rSpan | exact rPose | exact rFrame | exact rVec | exact rTurn | exact rBox)) (by rfl) (by rfl) (by (repeat (first | apply Upd.head | apply Upd.tail | assumption))) (by rfl) (by (simp only [List.drop, List.take, List.nil_append, List.cons_append]); rfl) (by exact Nat.le_of_ble_eq_true rfl) (by rfl) ?_; clear H; intro _ H)
          | ((with_reducible refine isStore ?_); refine wpList_storeH1 H rfl rfl rfl (by first | exact sBool | exact sStr | exact sInt) (by rfl) (by rfl) (by (repeat (first | apply Upd.head | apply Upd.tail | assumption))) (by (simp only [List.set_cons_succ, List.set_cons_zero]); rfl) (by exact Nat.le_of_ble_eq_true rfl) (by rfl) (by rfl) ?_; clear H; intro _ H)
          | ((with_reducible refine isBox ?_); refine wpList_boxH H rfl rfl rfl (by go_simp; rfl) (by simp only [Value.cells]; rfl) ?_; clear H; intro _ _ H; (simp only [Act.put, List.setIfInBounds_toArray, List.set_cons_succ, List.set_cons_zero]))
          | ((with_reducible refine isAlloc ?_); refine wpList_allocH H rfl rfl rfl (by first | exact zRat | exact zSpan | exact zPose | exact zFrame | exact zVec | exact zTurn | exact zBox) (by simp only [Value.cells]; rfl) ?_; clear H; intro _ _ H; (simp only [Act.put, List.setIfInBounds_toArray, List.set_cons_succ, List.set_cons_zero])))
      refine ((CF.out _ H.out.bel H.out.tb)).mono ?_
      rintro _ _ ⟨rfl, hb⟩
      replace H := Lib.hid (H.out.go hb)
      clear hb
      go_wp2_with (first
          | go_skip
          | ((with_reducible refine isLoad ?_); refine wpList_loadH H rfl (by (first | exact wanted_none rfl | exact wanted_some rfl rfl)) (by (first | exact rRat | exact rSpan | exact rPose | exact rFrame | exact rVec | exact rTurn | exact rBox)) (by rfl) (by (repeat (first | exact List.Mem.head _ | refine List.Mem.tail _ ?_ | assumption))) (by (simp only [List.drop, List.take]); rfl) (by rfl) ?_; (simp only [Act.put, List.setIfInBounds_toArray, List.set_cons_succ, List.set_cons_zero]))
          | ((with_reducible refine isLoad ?_); refine wpList_loadH1 H rfl (by (first | exact wanted_none rfl | exact wanted_some rfl rfl)) (by (first | exact kBool | exact kStr | exact kInt | exact kStm)) (by rfl) (by (repeat (first | exact List.Mem.head _ | refine List.Mem.tail _ ?_ | assumption))) (by rfl) ?_; (simp only [Act.put, List.setIfInBounds_toArray, List.set_cons_succ, List.set_cons_zero]))
          | ((with_reducible refine isStore ?_); refine wpList_storeH H rfl rfl rfl (by (first | exact rRat | exact rSpan | exact rPose | exact rFrame | exact rVec | exact rTurn | exact rBox)) (by rfl) (by rfl) (by (repeat (first | apply Upd.head | apply Upd.tail | assumption))) (by rfl) (by (simp only [List.drop, List.take, List.nil_append, List.cons_append]); rfl) (by exact Nat.le_of_ble_eq_true rfl) (by rfl) ?_; clear H; intro _ H)
          | ((with_reducible refine isStore ?_); refine wpList_storeH1 H rfl rfl rfl (by first | exact sBool | exact sStr | exact sInt) (by rfl) (by rfl) (by (repeat (first | apply Upd.head | apply Upd.tail | assumption))) (by (simp only [List.set_cons_succ, List.set_cons_zero]); rfl) (by exact Nat.le_of_ble_eq_true rfl) (by rfl) (by rfl) ?_; clear H; intro _ H)
          | ((with_reducible refine isBox ?_); refine wpList_boxH H rfl rfl rfl (by go_simp; rfl) (by simp only [Value.cells]; rfl) ?_; clear H; intro _ _ H; (simp only [Act.put, List.setIfInBounds_toArray, List.set_cons_succ, List.set_cons_zero]))
          | ((with_reducible refine isAlloc ?_); refine wpList_allocH H rfl rfl rfl (by first | exact zRat | exact zSpan | exact zPose | exact zFrame | exact zVec | exact zTurn | exact zBox) (by simp only [Value.cells]; rfl) ?_; clear H; intro _ _ H; (simp only [Act.put, List.setIfInBounds_toArray, List.set_cons_succ, List.set_cons_zero])))
      refine (Narrow_y a1 b1 a2 b2 a3 b3 c1 d1 c2 d2 c3 d3 _ (by decide) P.out Q.out u1 v1 u2 v2 u3 v3 E1 E2 E3 E4 E5 E6 U.out H.out.tb).mono ?_
      rintro _ _ ⟨rfl, hb⟩
      replace H := Lib.hid (H.out.go hb)
      clear hb
      go_wp2_with (first
          | go_skip
          | ((with_reducible refine isLoad ?_); refine wpList_loadH H rfl (by (first | exact wanted_none rfl | exact wanted_some rfl rfl)) (by (first | exact rRat | exact rSpan | exact rPose | exact rFrame | exact rVec | exact rTurn | exact rBox)) (by rfl) (by (repeat (first | exact List.Mem.head _ | refine List.Mem.tail _ ?_ | assumption))) (by (simp only [List.drop, List.take]); rfl) (by rfl) ?_; (simp only [Act.put, List.setIfInBounds_toArray, List.set_cons_succ, List.set_cons_zero]))
          | ((with_reducible refine isLoad ?_); refine wpList_loadH1 H rfl (by (first | exact wanted_none rfl | exact wanted_some rfl rfl)) (by (first | exact kBool | exact kStr | exact kInt | exact kStm)) (by rfl) (by (repeat (first | exact List.Mem.head _ | refine List.Mem.tail _ ?_ | assumption))) (by rfl) ?_; (simp only [Act.put, List.setIfInBounds_toArray, List.set_cons_succ, List.set_cons_zero]))
          | ((with_reducible refine isStore ?_); refine wpList_storeH H rfl rfl rfl (by (first | exact rRat | exact rSpan | exact rPose | exact rFrame | exact rVec | exact rTurn | exact rBox)) (by rfl) (by rfl) (by (repeat (first | apply Upd.head | apply Upd.tail | assumption))) (by rfl) (by (simp only [List.drop, List.take, List.nil_append, List.cons_append]); rfl) (by exact Nat.le_of_ble_eq_true rfl) (by rfl) ?_; clear H; intro _ H)
          | ((with_reducible refine isStore ?_); refine wpList_storeH1 H rfl rfl rfl (by first | exact sBool | exact sStr | exact sInt) (by rfl) (by rfl) (by (repeat (first | apply Upd.head | apply Upd.tail | assumption))) (by (simp only [List.set_cons_succ, List.set_cons_zero]); rfl) (by exact Nat.le_of_ble_eq_true rfl) (by rfl) (by rfl) ?_; clear H; intro _ H)
          | ((with_reducible refine isBox ?_); refine wpList_boxH H rfl rfl rfl (by go_simp; rfl) (by simp only [Value.cells]; rfl) ?_; clear H; intro _ _ H; (simp only [Act.put, List.setIfInBounds_toArray, List.set_cons_succ, List.set_cons_zero]))
          | ((with_reducible refine isAlloc ?_); refine wpList_allocH H rfl rfl rfl (by first | exact zRat | exact zSpan | exact zPose | exact zFrame | exact zVec | exact zTurn | exact zBox) (by simp only [Value.cells]; rfl) ?_; clear H; intro _ _ H; (simp only [Act.put, List.setIfInBounds_toArray, List.set_cons_succ, List.set_cons_zero])))
      refine (seen_any (k := 0) _ (by decide) H.out.tb).mono ?_
      rintro _ _ ⟨rfl, hb⟩
      replace H := Lib.hid (H.out.go hb)
      clear hb
      go_wp2_with (first
          | go_skip
          | ((with_reducible refine isLoad ?_); refine wpList_loadH H rfl (by (first | exact wanted_none rfl | exact wanted_some rfl rfl)) (by (first | exact rRat | exact rSpan | exact rPose | exact rFrame | exact rVec | exact rTurn | exact rBox)) (by rfl) (by (repeat (first | exact List.Mem.head _ | refine List.Mem.tail _ ?_ | assumption))) (by (simp only [List.drop, List.take]); rfl) (by rfl) ?_; (simp only [Act.put, List.setIfInBounds_toArray, List.set_cons_succ, List.set_cons_zero]))
          | ((with_reducible refine isLoad ?_); refine wpList_loadH1 H rfl (by (first | exact wanted_none rfl | exact wanted_some rfl rfl)) (by (first | exact kBool | exact kStr | exact kInt | exact kStm)) (by rfl) (by (repeat (first | exact List.Mem.head _ | refine List.Mem.tail _ ?_ | assumption))) (by rfl) ?_; (simp only [Act.put, List.setIfInBounds_toArray, List.set_cons_succ, List.set_cons_zero]))
          | ((with_reducible refine isStore ?_); refine wpList_storeH H rfl rfl rfl (by (first | exact rRat | exact rSpan | exact rPose | exact rFrame | exact rVec | exact rTurn | exact rBox)) (by rfl) (by rfl) (by (repeat (first | apply Upd.head | apply Upd.tail | assumption))) (by rfl) (by (simp only [List.drop, List.take, List.nil_append, List.cons_append]); rfl) (by exact Nat.le_of_ble_eq_true rfl) (by rfl) ?_; clear H; intro _ H)
          | ((with_reducible refine isStore ?_); refine wpList_storeH1 H rfl rfl rfl (by first | exact sBool | exact sStr | exact sInt) (by rfl) (by rfl) (by (repeat (first | apply Upd.head | apply Upd.tail | assumption))) (by (simp only [List.set_cons_succ, List.set_cons_zero]); rfl) (by exact Nat.le_of_ble_eq_true rfl) (by rfl) (by rfl) ?_; clear H; intro _ H)
          | ((with_reducible refine isBox ?_); refine wpList_boxH H rfl rfl rfl (by go_simp; rfl) (by simp only [Value.cells]; rfl) ?_; clear H; intro _ _ H; (simp only [Act.put, List.setIfInBounds_toArray, List.set_cons_succ, List.set_cons_zero]))
          | ((with_reducible refine isAlloc ?_); refine wpList_allocH H rfl rfl rfl (by first | exact zRat | exact zSpan | exact zPose | exact zFrame | exact zVec | exact zTurn | exact zBox) (by simp only [Value.cells]; rfl) ?_; clear H; intro _ _ H; (simp only [Act.put, List.setIfInBounds_toArray, List.set_cons_succ, List.set_cons_zero])))
      refine (HasF_any (k := 14) a1 b1 a2 b2 a3 b3 x y t true _ (by decide) P.out zx.out zy.out zt.out GP H.out.tb).mono ?_
      rintro _ _ ⟨rfl, hb⟩
      replace H := Lib.hid (H.out.go hb)
      clear hb
      go_wp2_with (first
          | go_skip
          | ((with_reducible refine isLoad ?_); refine wpList_loadH H rfl (by (first | exact wanted_none rfl | exact wanted_some rfl rfl)) (by (first | exact rRat | exact rSpan | exact rPose | exact rFrame | exact rVec | exact rTurn | exact rBox)) (by rfl) (by (repeat (first | exact List.Mem.head _ | refine List.Mem.tail _ ?_ | assumption))) (by (simp only [List.drop, List.take]); rfl) (by rfl) ?_; (simp only [Act.put, List.setIfInBounds_toArray, List.set_cons_succ, List.set_cons_zero]))
          | ((with_reducible refine isLoad ?_); refine wpList_loadH1 H rfl (by (first | exact wanted_none rfl | exact wanted_some rfl rfl)) (by (first | exact kBool | exact kStr | exact kInt | exact kStm)) (by rfl) (by (repeat (first | exact List.Mem.head _ | refine List.Mem.tail _ ?_ | assumption))) (by rfl) ?_; (simp only [Act.put, List.setIfInBounds_toArray, List.set_cons_succ, List.set_cons_zero]))
          | ((with_reducible refine isStore ?_); refine wpList_storeH H rfl rfl rfl (by (first | exact rRat | exact rSpan | exact rPose | exact rFrame | exact rVec | exact rTurn | exact rBox)) (by rfl) (by rfl) (by (repeat (first | apply Upd.head | apply Upd.tail | assumption))) (by rfl) (by (simp only [List.drop, List.take, List.nil_append, List.cons_append]); rfl) (by exact Nat.le_of_ble_eq_true rfl) (by rfl) ?_; clear H; intro _ H)
          | ((with_reducible refine isStore ?_); refine wpList_storeH1 H rfl rfl rfl (by first | exact sBool | exact sStr | exact sInt) (by rfl) (by rfl) (by (repeat (first | apply Upd.head | apply Upd.tail | assumption))) (by (simp only [List.set_cons_succ, List.set_cons_zero]); rfl) (by exact Nat.le_of_ble_eq_true rfl) (by rfl) (by rfl) ?_; clear H; intro _ H)
          | ((with_reducible refine isBox ?_); refine wpList_boxH H rfl rfl rfl (by go_simp; rfl) (by simp only [Value.cells]; rfl) ?_; clear H; intro _ _ H; (simp only [Act.put, List.setIfInBounds_toArray, List.set_cons_succ, List.set_cons_zero]))
          | ((with_reducible refine isAlloc ?_); refine wpList_allocH H rfl rfl rfl (by first | exact zRat | exact zSpan | exact zPose | exact zFrame | exact zVec | exact zTurn | exact zBox) (by simp only [Value.cells]; rfl) ?_; clear H; intro _ _ H; (simp only [Act.put, List.setIfInBounds_toArray, List.set_cons_succ, List.set_cons_zero])))
      refine wp_region_E H (by kernel_rfl) (by kernel_rfl) ?_
      repeat (first
          | (refine wpK_skip rfl rfl ?_; (simp only [Act.put, List.setIfInBounds_toArray, List.set_cons_succ, List.set_cons_zero]))
          | ((with_reducible refine kLoad ?_); refine wpK_loadH H rfl (by (first | exact wanted_none rfl | exact wanted_some rfl rfl)) (by (first | exact rRat | exact rSpan | exact rPose | exact rFrame | exact rVec | exact rTurn | exact rBox)) (by rfl) (by (repeat (first | exact List.Mem.head _ | refine List.Mem.tail _ ?_ | assumption))) (by (simp only [List.drop, List.take]); rfl) (by rfl) ?_; (simp only [Act.put, List.setIfInBounds_toArray, List.set_cons_succ, List.set_cons_zero]))
          | ((with_reducible refine kLoad ?_); refine wpK_loadH1 H rfl (by (first | exact wanted_none rfl | exact wanted_some rfl rfl)) (by (first | exact kBool | exact kStr | exact kInt | exact kStm)) (by rfl) (by (repeat (first | exact List.Mem.head _ | refine List.Mem.tail _ ?_ | assumption))) (by rfl) ?_; (simp only [Act.put, List.setIfInBounds_toArray, List.set_cons_succ, List.set_cons_zero]))
          | ((fail_if_success (with_reducible refine kCall ?_)); (with_reducible refine kCons ?_); refine wpK_step (fun K hK => ?_); go_simp; refine hK _ ?_; clear hK K))
      refine wpK_step (fun K hK => ?_)
      go_simp
      apply Exists.intro
      refine ⟨fun sx => ?_, hK _ ?_⟩
      · go_at_call 14
        exact HasF_any (k := 14) u1 v1 u2 v2 u3 v3 x y t true _ (by decide) U.out zx.out zy.out zt.out HN (H.out.tbx sx)
      clear hK K
      repeat (first
          | (refine wpK_skip rfl rfl ?_; (simp only [Act.put, List.setIfInBounds_toArray, List.set_cons_succ, List.set_cons_zero]))
          | ((with_reducible refine kLoad ?_); refine wpK_loadH H rfl (by (first | exact wanted_none rfl | exact wanted_some rfl rfl)) (by (first | exact rRat | exact rSpan | exact rPose | exact rFrame | exact rVec | exact rTurn | exact rBox)) (by rfl) (by (repeat (first | exact List.Mem.head _ | refine List.Mem.tail _ ?_ | assumption))) (by (simp only [List.drop, List.take]); rfl) (by rfl) ?_; (simp only [Act.put, List.setIfInBounds_toArray, List.set_cons_succ, List.set_cons_zero]))
          | ((with_reducible refine kLoad ?_); refine wpK_loadH1 H rfl (by (first | exact wanted_none rfl | exact wanted_some rfl rfl)) (by (first | exact kBool | exact kStr | exact kInt | exact kStm)) (by rfl) (by (repeat (first | exact List.Mem.head _ | refine List.Mem.tail _ ?_ | assumption))) (by rfl) ?_; (simp only [Act.put, List.setIfInBounds_toArray, List.set_cons_succ, List.set_cons_zero]))
          | ((fail_if_success (with_reducible refine kCall ?_)); (with_reducible refine kCons ?_); refine wpK_step (fun K hK => ?_); go_simp; refine hK _ ?_; clear hK K))
      refine wpK_step (fun K hK => ?_)
      go_simp
      apply Exists.intro
      refine ⟨fun sx => ?_, hK _ ?_⟩
      · go_at_call 14
        exact HasF_any (k := 14) c1 d1 c2 d2 c3 d3 x y t true _ (by decide) Q.out zx.out zy.out zt.out HQ (H.out.tbx sx)
      clear hK K
      repeat (first
          | (refine wpK_skip rfl rfl ?_; (simp only [Act.put, List.setIfInBounds_toArray, List.set_cons_succ, List.set_cons_zero]))
          | ((with_reducible refine kLoad ?_); refine wpK_loadH H rfl (by (first | exact wanted_none rfl | exact wanted_some rfl rfl)) (by (first | exact rRat | exact rSpan | exact rPose | exact rFrame | exact rVec | exact rTurn | exact rBox)) (by rfl) (by (repeat (first | exact List.Mem.head _ | refine List.Mem.tail _ ?_ | assumption))) (by (simp only [List.drop, List.take]); rfl) (by rfl) ?_; (simp only [Act.put, List.setIfInBounds_toArray, List.set_cons_succ, List.set_cons_zero]))
          | ((with_reducible refine kLoad ?_); refine wpK_loadH1 H rfl (by (first | exact wanted_none rfl | exact wanted_some rfl rfl)) (by (first | exact kBool | exact kStr | exact kInt | exact kStm)) (by rfl) (by (repeat (first | exact List.Mem.head _ | refine List.Mem.tail _ ?_ | assumption))) (by rfl) ?_; (simp only [Act.put, List.setIfInBounds_toArray, List.set_cons_succ, List.set_cons_zero]))
          | ((fail_if_success (with_reducible refine kCall ?_)); (with_reducible refine kCons ?_); refine wpK_step (fun K hK => ?_); go_simp; refine hK _ ?_; clear hK K))
      refine wpK_step (fun K hK => ?_)
      go_simp
      apply Exists.intro
      refine ⟨fun sx => ?_, hK _ ?_⟩
      · go_at_call 15
        exact InF_any (k := 14) u1 v1 u2 v2 u3 v3 a1 b1 a2 b2 a3 b3 true _ (by decide) U.out P.out I1 (H.out.tbx sx)
      clear hK K
      repeat (first
          | (refine wpK_skip rfl rfl ?_; (simp only [Act.put, List.setIfInBounds_toArray, List.set_cons_succ, List.set_cons_zero]))
          | ((with_reducible refine kLoad ?_); refine wpK_loadH H rfl (by (first | exact wanted_none rfl | exact wanted_some rfl rfl)) (by (first | exact rRat | exact rSpan | exact rPose | exact rFrame | exact rVec | exact rTurn | exact rBox)) (by rfl) (by (repeat (first | exact List.Mem.head _ | refine List.Mem.tail _ ?_ | assumption))) (by (simp only [List.drop, List.take]); rfl) (by rfl) ?_; (simp only [Act.put, List.setIfInBounds_toArray, List.set_cons_succ, List.set_cons_zero]))
          | ((with_reducible refine kLoad ?_); refine wpK_loadH1 H rfl (by (first | exact wanted_none rfl | exact wanted_some rfl rfl)) (by (first | exact kBool | exact kStr | exact kInt | exact kStm)) (by rfl) (by (repeat (first | exact List.Mem.head _ | refine List.Mem.tail _ ?_ | assumption))) (by rfl) ?_; (simp only [Act.put, List.setIfInBounds_toArray, List.set_cons_succ, List.set_cons_zero]))
          | ((fail_if_success (with_reducible refine kCall ?_)); (with_reducible refine kCons ?_); refine wpK_step (fun K hK => ?_); go_simp; refine hK _ ?_; clear hK K))
      refine wpK_step (fun K hK => ?_)
      go_simp
      apply Exists.intro
      refine ⟨fun sx => ?_, hK _ ?_⟩
      · go_at_call 15
        exact InF_any (k := 14) u1 v1 u2 v2 u3 v3 c1 d1 c2 d2 c3 d3 true _ (by decide) U.out Q.out I2 (H.out.tbx sx)
      clear hK K
      repeat (first
          | (refine wpK_skip rfl rfl ?_; (simp only [Act.put, List.setIfInBounds_toArray, List.set_cons_succ, List.set_cons_zero]))
          | ((with_reducible refine kLoad ?_); refine wpK_loadH H rfl (by (first | exact wanted_none rfl | exact wanted_some rfl rfl)) (by (first | exact rRat | exact rSpan | exact rPose | exact rFrame | exact rVec | exact rTurn | exact rBox)) (by rfl) (by (repeat (first | exact List.Mem.head _ | refine List.Mem.tail _ ?_ | assumption))) (by (simp only [List.drop, List.take]); rfl) (by rfl) ?_; (simp only [Act.put, List.setIfInBounds_toArray, List.set_cons_succ, List.set_cons_zero]))
          | ((with_reducible refine kLoad ?_); refine wpK_loadH1 H rfl (by (first | exact wanted_none rfl | exact wanted_some rfl rfl)) (by (first | exact kBool | exact kStr | exact kInt | exact kStm)) (by rfl) (by (repeat (first | exact List.Mem.head _ | refine List.Mem.tail _ ?_ | assumption))) (by rfl) ?_; (simp only [Act.put, List.setIfInBounds_toArray, List.set_cons_succ, List.set_cons_zero]))
          | ((fail_if_success (with_reducible refine kCall ?_)); (with_reducible refine kCons ?_); refine wpK_step (fun K hK => ?_); go_simp; refine hK _ ?_; clear hK K))
      refine wpK_step (fun K hK => ?_)
      go_simp
      apply Exists.intro
      refine ⟨fun sx => ?_, hK _ ?_⟩
      · go_at_call 15
        exact InF_any (k := 14) a1 b1 a2 b2 a3 b3 c1 d1 c2 d2 c3 d3 false _ (by decide) P.out Q.out IQ (H.out.tbx sx)
      clear hK K
      repeat (first
          | (refine wpK_skip rfl rfl ?_; (simp only [Act.put, List.setIfInBounds_toArray, List.set_cons_succ, List.set_cons_zero]))
          | ((with_reducible refine kLoad ?_); refine wpK_loadH H rfl (by (first | exact wanted_none rfl | exact wanted_some rfl rfl)) (by (first | exact rRat | exact rSpan | exact rPose | exact rFrame | exact rVec | exact rTurn | exact rBox)) (by rfl) (by (repeat (first | exact List.Mem.head _ | refine List.Mem.tail _ ?_ | assumption))) (by (simp only [List.drop, List.take]); rfl) (by rfl) ?_; (simp only [Act.put, List.setIfInBounds_toArray, List.set_cons_succ, List.set_cons_zero]))
          | ((with_reducible refine kLoad ?_); refine wpK_loadH1 H rfl (by (first | exact wanted_none rfl | exact wanted_some rfl rfl)) (by (first | exact kBool | exact kStr | exact kInt | exact kStm)) (by rfl) (by (repeat (first | exact List.Mem.head _ | refine List.Mem.tail _ ?_ | assumption))) (by rfl) ?_; (simp only [Act.put, List.setIfInBounds_toArray, List.set_cons_succ, List.set_cons_zero]))
          | ((fail_if_success (with_reducible refine kCall ?_)); (with_reducible refine kCons ?_); refine wpK_step (fun K hK => ?_); go_simp; refine hK _ ?_; clear hK K))
      refine wpKeep_nil ?_
      clear H
      intro _ H
      go_wp2_with (first
          | go_skip
          | ((with_reducible refine isLoad ?_); refine wpList_loadH H rfl (by (first | exact wanted_none rfl | exact wanted_some rfl rfl)) (by (first | exact rRat | exact rSpan | exact rPose | exact rFrame | exact rVec | exact rTurn | exact rBox)) (by rfl) (by (repeat (first | exact List.Mem.head _ | refine List.Mem.tail _ ?_ | assumption))) (by (simp only [List.drop, List.take]); rfl) (by rfl) ?_; (simp only [Act.put, List.setIfInBounds_toArray, List.set_cons_succ, List.set_cons_zero]))
          | ((with_reducible refine isLoad ?_); refine wpList_loadH1 H rfl (by (first | exact wanted_none rfl | exact wanted_some rfl rfl)) (by (first | exact kBool | exact kStr | exact kInt | exact kStm)) (by rfl) (by (repeat (first | exact List.Mem.head _ | refine List.Mem.tail _ ?_ | assumption))) (by rfl) ?_; (simp only [Act.put, List.setIfInBounds_toArray, List.set_cons_succ, List.set_cons_zero]))
          | ((with_reducible refine isStore ?_); refine wpList_storeH H rfl rfl rfl (by (first | exact rRat | exact rSpan | exact rPose | exact rFrame | exact rVec | exact rTurn | exact rBox)) (by rfl) (by rfl) (by (repeat (first | apply Upd.head | apply Upd.tail | assumption))) (by rfl) (by (simp only [List.drop, List.take, List.nil_append, List.cons_append]); rfl) (by exact Nat.le_of_ble_eq_true rfl) (by rfl) ?_; clear H; intro _ H)
          | ((with_reducible refine isStore ?_); refine wpList_storeH1 H rfl rfl rfl (by first | exact sBool | exact sStr | exact sInt) (by rfl) (by rfl) (by (repeat (first | apply Upd.head | apply Upd.tail | assumption))) (by (simp only [List.set_cons_succ, List.set_cons_zero]); rfl) (by exact Nat.le_of_ble_eq_true rfl) (by rfl) (by rfl) ?_; clear H; intro _ H)
          | ((with_reducible refine isBox ?_); refine wpList_boxH H rfl rfl rfl (by go_simp; rfl) (by simp only [Value.cells]; rfl) ?_; clear H; intro _ _ H; (simp only [Act.put, List.setIfInBounds_toArray, List.set_cons_succ, List.set_cons_zero]))
          | ((with_reducible refine isAlloc ?_); refine wpList_allocH H rfl rfl rfl (by first | exact zRat | exact zSpan | exact zPose | exact zFrame | exact zVec | exact zTurn | exact zBox) (by simp only [Value.cells]; rfl) ?_; clear H; intro _ _ H; (simp only [Act.put, List.setIfInBounds_toArray, List.set_cons_succ, List.set_cons_zero])))
      go_ret
      exact ⟨rfl, H.out.bel⟩
    · go_enter Tryd.func3, Tryd.ntmps3
      go_wp2_with (first
          | go_skip
          | ((with_reducible refine isLoad ?_); refine wpList_loadH H rfl (by (first | exact wanted_none rfl | exact wanted_some rfl rfl)) (by (first | exact rRat | exact rSpan | exact rPose | exact rFrame | exact rVec | exact rTurn | exact rBox)) (by rfl) (by (repeat (first | exact List.Mem.head _ | refine List.Mem.tail _ ?_ | assumption))) (by (simp only [List.drop, List.take]); rfl) (by rfl) ?_; (simp only [Act.put, List.setIfInBounds_toArray, List.set_cons_succ, List.set_cons_zero]))
          | ((with_reducible refine isLoad ?_); refine wpList_loadH1 H rfl (by (first | exact wanted_none rfl | exact wanted_some rfl rfl)) (by (first | exact kBool | exact kStr | exact kInt | exact kStm)) (by rfl) (by (repeat (first | exact List.Mem.head _ | refine List.Mem.tail _ ?_ | assumption))) (by rfl) ?_; (simp only [Act.put, List.setIfInBounds_toArray, List.set_cons_succ, List.set_cons_zero]))
          | ((with_reducible refine isStore ?_); refine wpList_storeH H rfl rfl rfl (by (first | exact rRat | exact rSpan | exact rPose | exact rFrame | exact rVec | exact rTurn | exact rBox)) (by rfl) (by rfl) (by (repeat (first | apply Upd.head | apply Upd.tail | assumption))) (by rfl) (by (simp only [List.drop, List.take, List.nil_append, List.cons_append]); rfl) (by exact Nat.le_of_ble_eq_true rfl) (by rfl) ?_; clear H; intro _ H)
          | ((with_reducible refine isStore ?_); refine wpList_storeH1 H rfl rfl rfl (by first | exact sBool | exact sStr | exact sInt) (by rfl) (by rfl) (by (repeat (first | apply Upd.head | apply Upd.tail | assumption))) (by (simp only [List.set_cons_succ, List.set_cons_zero]); rfl) (by exact Nat.le_of_ble_eq_true rfl) (by rfl) (by rfl) ?_; clear H; intro _ H)
          | ((with_reducible refine isBox ?_); refine wpList_boxH H rfl rfl rfl (by go_simp; rfl) (by simp only [Value.cells]; rfl) ?_; clear H; intro _ _ H; (simp only [Act.put, List.setIfInBounds_toArray, List.set_cons_succ, List.set_cons_zero]))
          | ((with_reducible refine isAlloc ?_); refine wpList_allocH H rfl rfl rfl (by first | exact zRat | exact zSpan | exact zPose | exact zFrame | exact zVec | exact zTurn | exact zBox) (by simp only [Value.cells]; rfl) ?_; clear H; intro _ _ H; (simp only [Act.put, List.setIfInBounds_toArray, List.set_cons_succ, List.set_cons_zero])))
      refine ((CP.out _ H.out.bel H.out.tb)).mono ?_
      rintro _ _ ⟨rfl, hb⟩
      replace H := Lib.hid (H.out.go hb)
      clear hb
      go_wp2_with (first
          | go_skip
          | ((with_reducible refine isLoad ?_); refine wpList_loadH H rfl (by (first | exact wanted_none rfl | exact wanted_some rfl rfl)) (by (first | exact rRat | exact rSpan | exact rPose | exact rFrame | exact rVec | exact rTurn | exact rBox)) (by rfl) (by (repeat (first | exact List.Mem.head _ | refine List.Mem.tail _ ?_ | assumption))) (by (simp only [List.drop, List.take]); rfl) (by rfl) ?_; (simp only [Act.put, List.setIfInBounds_toArray, List.set_cons_succ, List.set_cons_zero]))
          | ((with_reducible refine isLoad ?_); refine wpList_loadH1 H rfl (by (first | exact wanted_none rfl | exact wanted_some rfl rfl)) (by (first | exact kBool | exact kStr | exact kInt | exact kStm)) (by rfl) (by (repeat (first | exact List.Mem.head _ | refine List.Mem.tail _ ?_ | assumption))) (by rfl) ?_; (simp only [Act.put, List.setIfInBounds_toArray, List.set_cons_succ, List.set_cons_zero]))
          | ((with_reducible refine isStore ?_); refine wpList_storeH H rfl rfl rfl (by (first | exact rRat | exact rSpan | exact rPose | exact rFrame | exact rVec | exact rTurn | exact rBox)) (by rfl) (by rfl) (by (repeat (first | apply Upd.head | apply Upd.tail | assumption))) (by rfl) (by (simp only [List.drop, List.take, List.nil_append, List.cons_append]); rfl) (by exact Nat.le_of_ble_eq_true rfl) (by rfl) ?_; clear H; intro _ H)
          | ((with_reducible refine isStore ?_); refine wpList_storeH1 H rfl rfl rfl (by first | exact sBool | exact sStr | exact sInt) (by rfl) (by rfl) (by (repeat (first | apply Upd.head | apply Upd.tail | assumption))) (by (simp only [List.set_cons_succ, List.set_cons_zero]); rfl) (by exact Nat.le_of_ble_eq_true rfl) (by rfl) (by rfl) ?_; clear H; intro _ H)
          | ((with_reducible refine isBox ?_); refine wpList_boxH H rfl rfl rfl (by go_simp; rfl) (by simp only [Value.cells]; rfl) ?_; clear H; intro _ _ H; (simp only [Act.put, List.setIfInBounds_toArray, List.set_cons_succ, List.set_cons_zero]))
          | ((with_reducible refine isAlloc ?_); refine wpList_allocH H rfl rfl rfl (by first | exact zRat | exact zSpan | exact zPose | exact zFrame | exact zVec | exact zTurn | exact zBox) (by simp only [Value.cells]; rfl) ?_; clear H; intro _ _ H; (simp only [Act.put, List.setIfInBounds_toArray, List.set_cons_succ, List.set_cons_zero])))
      refine ((CQ.out _ H.out.bel H.out.tb)).mono ?_
      rintro _ _ ⟨rfl, hb⟩
      replace H := Lib.hid (H.out.go hb)
      clear hb
      go_wp2_with (first
          | go_skip
          | ((with_reducible refine isLoad ?_); refine wpList_loadH H rfl (by (first | exact wanted_none rfl | exact wanted_some rfl rfl)) (by (first | exact rRat | exact rSpan | exact rPose | exact rFrame | exact rVec | exact rTurn | exact rBox)) (by rfl) (by (repeat (first | exact List.Mem.head _ | refine List.Mem.tail _ ?_ | assumption))) (by (simp only [List.drop, List.take]); rfl) (by rfl) ?_; (simp only [Act.put, List.setIfInBounds_toArray, List.set_cons_succ, List.set_cons_zero]))
          | ((with_reducible refine isLoad ?_); refine wpList_loadH1 H rfl (by (first | exact wanted_none rfl | exact wanted_some rfl rfl)) (by (first | exact kBool | exact kStr | exact kInt | exact kStm)) (by rfl) (by (repeat (first | exact List.Mem.head _ | refine List.Mem.tail _ ?_ | assumption))) (by rfl) ?_; (simp only [Act.put, List.setIfInBounds_toArray, List.set_cons_succ, List.set_cons_zero]))
          | ((with_reducible refine isStore ?_); refine wpList_storeH H rfl rfl rfl (by (first | exact rRat | exact rSpan | exact rPose | exact rFrame | exact rVec | exact rTurn | exact rBox)) (by rfl) (by rfl) (by (repeat (first | apply Upd.head | apply Upd.tail | assumption))) (by rfl) (by (simp only [List.drop, List.take, List.nil_append, List.cons_append]); rfl) (by exact Nat.le_of_ble_eq_true rfl) (by rfl) ?_; clear H; intro _ H)
          | ((with_reducible refine isStore ?_); refine wpList_storeH1 H rfl rfl rfl (by first | exact sBool | exact sStr | exact sInt) (by rfl) (by rfl) (by (repeat (first | apply Upd.head | apply Upd.tail | assumption))) (by (simp only [List.set_cons_succ, List.set_cons_zero]); rfl) (by exact Nat.le_of_ble_eq_true rfl) (by rfl) (by rfl) ?_; clear H; intro _ H)
          | ((with_reducible refine isBox ?_); refine wpList_boxH H rfl rfl rfl (by go_simp; rfl) (by simp only [Value.cells]; rfl) ?_; clear H; intro _ _ H; (simp only [Act.put, List.setIfInBounds_toArray, List.set_cons_succ, List.set_cons_zero]))
          | ((with_reducible refine isAlloc ?_); refine wpList_allocH H rfl rfl rfl (by first | exact zRat | exact zSpan | exact zPose | exact zFrame | exact zVec | exact zTurn | exact zBox) (by simp only [Value.cells]; rfl) ?_; clear H; intro _ _ H; (simp only [Act.put, List.setIfInBounds_toArray, List.set_cons_succ, List.set_cons_zero])))
      refine ((CF.out _ H.out.bel H.out.tb)).mono ?_
      rintro _ _ ⟨rfl, hb⟩
      replace H := Lib.hid (H.out.go hb)
      clear hb
      go_wp2_with (first
          | go_skip
          | ((with_reducible refine isLoad ?_); refine wpList_loadH H rfl (by (first | exact wanted_none rfl | exact wanted_some rfl rfl)) (by (first | exact rRat | exact rSpan | exact rPose | exact rFrame | exact rVec | exact rTurn | exact rBox)) (by rfl) (by (repeat (first | exact List.Mem.head _ | refine List.Mem.tail _ ?_ | assumption))) (by (simp only [List.drop, List.take]); rfl) (by rfl) ?_; (simp only [Act.put, List.setIfInBounds_toArray, List.set_cons_succ, List.set_cons_zero]))
          | ((with_reducible refine isLoad ?_); refine wpList_loadH1 H rfl (by (first | exact wanted_none rfl | exact wanted_some rfl rfl)) (by (first | exact kBool | exact kStr | exact kInt | exact kStm)) (by rfl) (by (repeat (first | exact List.Mem.head _ | refine List.Mem.tail _ ?_ | assumption))) (by rfl) ?_; (simp only [Act.put, List.setIfInBounds_toArray, List.set_cons_succ, List.set_cons_zero]))
          | ((with_reducible refine isStore ?_); refine wpList_storeH H rfl rfl rfl (by (first | exact rRat | exact rSpan | exact rPose | exact rFrame | exact rVec | exact rTurn | exact rBox)) (by rfl) (by rfl) (by (repeat (first | apply Upd.head | apply Upd.tail | assumption))) (by rfl) (by (simp only [List.drop, List.take, List.nil_append, List.cons_append]); rfl) (by exact Nat.le_of_ble_eq_true rfl) (by rfl) ?_; clear H; intro _ H)
          | ((with_reducible refine isStore ?_); refine wpList_storeH1 H rfl rfl rfl (by first | exact sBool | exact sStr | exact sInt) (by rfl) (by rfl) (by (repeat (first | apply Upd.head | apply Upd.tail | assumption))) (by (simp only [List.set_cons_succ, List.set_cons_zero]); rfl) (by exact Nat.le_of_ble_eq_true rfl) (by rfl) (by rfl) ?_; clear H; intro _ H)
          | ((with_reducible refine isBox ?_); refine wpList_boxH H rfl rfl rfl (by go_simp; rfl) (by simp only [Value.cells]; rfl) ?_; clear H; intro _ _ H; (simp only [Act.put, List.setIfInBounds_toArray, List.set_cons_succ, List.set_cons_zero]))
          | ((with_reducible refine isAlloc ?_); refine wpList_allocH H rfl rfl rfl (by first | exact zRat | exact zSpan | exact zPose | exact zFrame | exact zVec | exact zTurn | exact zBox) (by simp only [Value.cells]; rfl) ?_; clear H; intro _ _ H; (simp only [Act.put, List.setIfInBounds_toArray, List.set_cons_succ, List.set_cons_zero])))
      refine (Narrow_y a1 b1 a2 b2 a3 b3 c1 d1 c2 d2 c3 d3 _ (by decide) P.out Q.out u1 v1 u2 v2 u3 v3 E1 E2 E3 E4 E5 E6 U.out H.out.tb).mono ?_
      rintro _ _ ⟨rfl, hb⟩
      replace H := Lib.hid (H.out.go hb)
      clear hb
      go_wp2_with (first
          | go_skip
          | ((with_reducible refine isLoad ?_); refine wpList_loadH H rfl (by (first | exact wanted_none rfl | exact wanted_some rfl rfl)) (by (first | exact rRat | exact rSpan | exact rPose | exact rFrame | exact rVec | exact rTurn | exact rBox)) (by rfl) (by (repeat (first | exact List.Mem.head _ | refine List.Mem.tail _ ?_ | assumption))) (by (simp only [List.drop, List.take]); rfl) (by rfl) ?_; (simp only [Act.put, List.setIfInBounds_toArray, List.set_cons_succ, List.set_cons_zero]))
          | ((with_reducible refine isLoad ?_); refine wpList_loadH1 H rfl (by (first | exact wanted_none rfl | exact wanted_some rfl rfl)) (by (first | exact kBool | exact kStr | exact kInt | exact kStm)) (by rfl) (by (repeat (first | exact List.Mem.head _ | refine List.Mem.tail _ ?_ | assumption))) (by rfl) ?_; (simp only [Act.put, List.setIfInBounds_toArray, List.set_cons_succ, List.set_cons_zero]))
          | ((with_reducible refine isStore ?_); refine wpList_storeH H rfl rfl rfl (by (first | exact rRat | exact rSpan | exact rPose | exact rFrame | exact rVec | exact rTurn | exact rBox)) (by rfl) (by rfl) (by (repeat (first | apply Upd.head | apply Upd.tail | assumption))) (by rfl) (by (simp only [List.drop, List.take, List.nil_append, List.cons_append]); rfl) (by exact Nat.le_of_ble_eq_true rfl) (by rfl) ?_; clear H; intro _ H)
          | ((with_reducible refine isStore ?_); refine wpList_storeH1 H rfl rfl rfl (by first | exact sBool | exact sStr | exact sInt) (by rfl) (by rfl) (by (repeat (first | apply Upd.head | apply Upd.tail | assumption))) (by (simp only [List.set_cons_succ, List.set_cons_zero]); rfl) (by exact Nat.le_of_ble_eq_true rfl) (by rfl) (by rfl) ?_; clear H; intro _ H)
          | ((with_reducible refine isBox ?_); refine wpList_boxH H rfl rfl rfl (by go_simp; rfl) (by simp only [Value.cells]; rfl) ?_; clear H; intro _ _ H; (simp only [Act.put, List.setIfInBounds_toArray, List.set_cons_succ, List.set_cons_zero]))
          | ((with_reducible refine isAlloc ?_); refine wpList_allocH H rfl rfl rfl (by first | exact zRat | exact zSpan | exact zPose | exact zFrame | exact zVec | exact zTurn | exact zBox) (by simp only [Value.cells]; rfl) ?_; clear H; intro _ _ H; (simp only [Act.put, List.setIfInBounds_toArray, List.set_cons_succ, List.set_cons_zero])))
      refine (seen_any (k := 0) _ (by decide) H.out.tb).mono ?_
      rintro _ _ ⟨rfl, hb⟩
      replace H := Lib.hid (H.out.go hb)
      clear hb
      go_wp2_with (first
          | go_skip
          | ((with_reducible refine isLoad ?_); refine wpList_loadH H rfl (by (first | exact wanted_none rfl | exact wanted_some rfl rfl)) (by (first | exact rRat | exact rSpan | exact rPose | exact rFrame | exact rVec | exact rTurn | exact rBox)) (by rfl) (by (repeat (first | exact List.Mem.head _ | refine List.Mem.tail _ ?_ | assumption))) (by (simp only [List.drop, List.take]); rfl) (by rfl) ?_; (simp only [Act.put, List.setIfInBounds_toArray, List.set_cons_succ, List.set_cons_zero]))
          | ((with_reducible refine isLoad ?_); refine wpList_loadH1 H rfl (by (first | exact wanted_none rfl | exact wanted_some rfl rfl)) (by (first | exact kBool | exact kStr | exact kInt | exact kStm)) (by rfl) (by (repeat (first | exact List.Mem.head _ | refine List.Mem.tail _ ?_ | assumption))) (by rfl) ?_; (simp only [Act.put, List.setIfInBounds_toArray, List.set_cons_succ, List.set_cons_zero]))
          | ((with_reducible refine isStore ?_); refine wpList_storeH H rfl rfl rfl (by (first | exact rRat | exact rSpan | exact rPose | exact rFrame | exact rVec | exact rTurn | exact rBox)) (by rfl) (by rfl) (by (repeat (first | apply Upd.head | apply Upd.tail | assumption))) (by rfl) (by (simp only [List.drop, List.take, List.nil_append, List.cons_append]); rfl) (by exact Nat.le_of_ble_eq_true rfl) (by rfl) ?_; clear H; intro _ H)
          | ((with_reducible refine isStore ?_); refine wpList_storeH1 H rfl rfl rfl (by first | exact sBool | exact sStr | exact sInt) (by rfl) (by rfl) (by (repeat (first | apply Upd.head | apply Upd.tail | assumption))) (by (simp only [List.set_cons_succ, List.set_cons_zero]); rfl) (by exact Nat.le_of_ble_eq_true rfl) (by rfl) (by rfl) ?_; clear H; intro _ H)
          | ((with_reducible refine isBox ?_); refine wpList_boxH H rfl rfl rfl (by go_simp; rfl) (by simp only [Value.cells]; rfl) ?_; clear H; intro _ _ H; (simp only [Act.put, List.setIfInBounds_toArray, List.set_cons_succ, List.set_cons_zero]))
          | ((with_reducible refine isAlloc ?_); refine wpList_allocH H rfl rfl rfl (by first | exact zRat | exact zSpan | exact zPose | exact zFrame | exact zVec | exact zTurn | exact zBox) (by simp only [Value.cells]; rfl) ?_; clear H; intro _ _ H; (simp only [Act.put, List.setIfInBounds_toArray, List.set_cons_succ, List.set_cons_zero])))
      refine (HasF_any (k := 14) a1 b1 a2 b2 a3 b3 x y t true _ (by decide) P.out zx.out zy.out zt.out GP H.out.tb).mono ?_
      rintro _ _ ⟨rfl, hb⟩
      replace H := Lib.hid (H.out.go hb)
      clear hb
      go_wp2_with (first
          | go_skip
          | ((with_reducible refine isLoad ?_); refine wpList_loadH H rfl (by (first | exact wanted_none rfl | exact wanted_some rfl rfl)) (by (first | exact rRat | exact rSpan | exact rPose | exact rFrame | exact rVec | exact rTurn | exact rBox)) (by rfl) (by (repeat (first | exact List.Mem.head _ | refine List.Mem.tail _ ?_ | assumption))) (by (simp only [List.drop, List.take]); rfl) (by rfl) ?_; (simp only [Act.put, List.setIfInBounds_toArray, List.set_cons_succ, List.set_cons_zero]))
          | ((with_reducible refine isLoad ?_); refine wpList_loadH1 H rfl (by (first | exact wanted_none rfl | exact wanted_some rfl rfl)) (by (first | exact kBool | exact kStr | exact kInt | exact kStm)) (by rfl) (by (repeat (first | exact List.Mem.head _ | refine List.Mem.tail _ ?_ | assumption))) (by rfl) ?_; (simp only [Act.put, List.setIfInBounds_toArray, List.set_cons_succ, List.set_cons_zero]))
          | ((with_reducible refine isStore ?_); refine wpList_storeH H rfl rfl rfl (by (first | exact rRat | exact rSpan | exact rPose | exact rFrame | exact rVec | exact rTurn | exact rBox)) (by rfl) (by rfl) (by (repeat (first | apply Upd.head | apply Upd.tail | assumption))) (by rfl) (by (simp only [List.drop, List.take, List.nil_append, List.cons_append]); rfl) (by exact Nat.le_of_ble_eq_true rfl) (by rfl) ?_; clear H; intro _ H)
          | ((with_reducible refine isStore ?_); refine wpList_storeH1 H rfl rfl rfl (by first | exact sBool | exact sStr | exact sInt) (by rfl) (by rfl) (by (repeat (first | apply Upd.head | apply Upd.tail | assumption))) (by (simp only [List.set_cons_succ, List.set_cons_zero]); rfl) (by exact Nat.le_of_ble_eq_true rfl) (by rfl) (by rfl) ?_; clear H; intro _ H)
          | ((with_reducible refine isBox ?_); refine wpList_boxH H rfl rfl rfl (by go_simp; rfl) (by simp only [Value.cells]; rfl) ?_; clear H; intro _ _ H; (simp only [Act.put, List.setIfInBounds_toArray, List.set_cons_succ, List.set_cons_zero]))
          | ((with_reducible refine isAlloc ?_); refine wpList_allocH H rfl rfl rfl (by first | exact zRat | exact zSpan | exact zPose | exact zFrame | exact zVec | exact zTurn | exact zBox) (by simp only [Value.cells]; rfl) ?_; clear H; intro _ _ H; (simp only [Act.put, List.setIfInBounds_toArray, List.set_cons_succ, List.set_cons_zero])))
      refine wp_region_E H (by kernel_rfl) (by kernel_rfl) ?_
      repeat (first
          | (refine wpK_skip rfl rfl ?_; (simp only [Act.put, List.setIfInBounds_toArray, List.set_cons_succ, List.set_cons_zero]))
          | ((with_reducible refine kLoad ?_); refine wpK_loadH H rfl (by (first | exact wanted_none rfl | exact wanted_some rfl rfl)) (by (first | exact rRat | exact rSpan | exact rPose | exact rFrame | exact rVec | exact rTurn | exact rBox)) (by rfl) (by (repeat (first | exact List.Mem.head _ | refine List.Mem.tail _ ?_ | assumption))) (by (simp only [List.drop, List.take]); rfl) (by rfl) ?_; (simp only [Act.put, List.setIfInBounds_toArray, List.set_cons_succ, List.set_cons_zero]))
          | ((with_reducible refine kLoad ?_); refine wpK_loadH1 H rfl (by (first | exact wanted_none rfl | exact wanted_some rfl rfl)) (by (first | exact kBool | exact kStr | exact kInt | exact kStm)) (by rfl) (by (repeat (first | exact List.Mem.head _ | refine List.Mem.tail _ ?_ | assumption))) (by rfl) ?_; (simp only [Act.put, List.setIfInBounds_toArray, List.set_cons_succ, List.set_cons_zero]))
          | ((fail_if_success (with_reducible refine kCall ?_)); (with_reducible refine kCons ?_); refine wpK_step (fun K hK => ?_); go_simp; refine hK _ ?_; clear hK K))
      refine wpK_step (fun K hK => ?_)
      go_simp
      apply Exists.intro
      refine ⟨fun sx => ?_, hK _ ?_⟩
      · go_at_call 14
        exact HasF_any (k := 14) u1 v1 u2 v2 u3 v3 x y t false _ (by decide) U.out zx.out zy.out zt.out HN (H.out.tbx sx)
      clear hK K
      repeat (first
          | (refine wpK_skip rfl rfl ?_; (simp only [Act.put, List.setIfInBounds_toArray, List.set_cons_succ, List.set_cons_zero]))
          | ((with_reducible refine kLoad ?_); refine wpK_loadH H rfl (by (first | exact wanted_none rfl | exact wanted_some rfl rfl)) (by (first | exact rRat | exact rSpan | exact rPose | exact rFrame | exact rVec | exact rTurn | exact rBox)) (by rfl) (by (repeat (first | exact List.Mem.head _ | refine List.Mem.tail _ ?_ | assumption))) (by (simp only [List.drop, List.take]); rfl) (by rfl) ?_; (simp only [Act.put, List.setIfInBounds_toArray, List.set_cons_succ, List.set_cons_zero]))
          | ((with_reducible refine kLoad ?_); refine wpK_loadH1 H rfl (by (first | exact wanted_none rfl | exact wanted_some rfl rfl)) (by (first | exact kBool | exact kStr | exact kInt | exact kStm)) (by rfl) (by (repeat (first | exact List.Mem.head _ | refine List.Mem.tail _ ?_ | assumption))) (by rfl) ?_; (simp only [Act.put, List.setIfInBounds_toArray, List.set_cons_succ, List.set_cons_zero]))
          | ((fail_if_success (with_reducible refine kCall ?_)); (with_reducible refine kCons ?_); refine wpK_step (fun K hK => ?_); go_simp; refine hK _ ?_; clear hK K))
      refine wpK_step (fun K hK => ?_)
      go_simp
      apply Exists.intro
      refine ⟨fun sx => ?_, hK _ ?_⟩
      · go_at_call 14
        exact HasF_any (k := 14) c1 d1 c2 d2 c3 d3 x y t false _ (by decide) Q.out zx.out zy.out zt.out HQ (H.out.tbx sx)
      clear hK K
      repeat (first
          | (refine wpK_skip rfl rfl ?_; (simp only [Act.put, List.setIfInBounds_toArray, List.set_cons_succ, List.set_cons_zero]))
          | ((with_reducible refine kLoad ?_); refine wpK_loadH H rfl (by (first | exact wanted_none rfl | exact wanted_some rfl rfl)) (by (first | exact rRat | exact rSpan | exact rPose | exact rFrame | exact rVec | exact rTurn | exact rBox)) (by rfl) (by (repeat (first | exact List.Mem.head _ | refine List.Mem.tail _ ?_ | assumption))) (by (simp only [List.drop, List.take]); rfl) (by rfl) ?_; (simp only [Act.put, List.setIfInBounds_toArray, List.set_cons_succ, List.set_cons_zero]))
          | ((with_reducible refine kLoad ?_); refine wpK_loadH1 H rfl (by (first | exact wanted_none rfl | exact wanted_some rfl rfl)) (by (first | exact kBool | exact kStr | exact kInt | exact kStm)) (by rfl) (by (repeat (first | exact List.Mem.head _ | refine List.Mem.tail _ ?_ | assumption))) (by rfl) ?_; (simp only [Act.put, List.setIfInBounds_toArray, List.set_cons_succ, List.set_cons_zero]))
          | ((fail_if_success (with_reducible refine kCall ?_)); (with_reducible refine kCons ?_); refine wpK_step (fun K hK => ?_); go_simp; refine hK _ ?_; clear hK K))
      refine wpK_step (fun K hK => ?_)
      go_simp
      apply Exists.intro
      refine ⟨fun sx => ?_, hK _ ?_⟩
      · go_at_call 15
        exact InF_any (k := 14) u1 v1 u2 v2 u3 v3 a1 b1 a2 b2 a3 b3 true _ (by decide) U.out P.out I1 (H.out.tbx sx)
      clear hK K
      repeat (first
          | (refine wpK_skip rfl rfl ?_; (simp only [Act.put, List.setIfInBounds_toArray, List.set_cons_succ, List.set_cons_zero]))
          | ((with_reducible refine kLoad ?_); refine wpK_loadH H rfl (by (first | exact wanted_none rfl | exact wanted_some rfl rfl)) (by (first | exact rRat | exact rSpan | exact rPose | exact rFrame | exact rVec | exact rTurn | exact rBox)) (by rfl) (by (repeat (first | exact List.Mem.head _ | refine List.Mem.tail _ ?_ | assumption))) (by (simp only [List.drop, List.take]); rfl) (by rfl) ?_; (simp only [Act.put, List.setIfInBounds_toArray, List.set_cons_succ, List.set_cons_zero]))
          | ((with_reducible refine kLoad ?_); refine wpK_loadH1 H rfl (by (first | exact wanted_none rfl | exact wanted_some rfl rfl)) (by (first | exact kBool | exact kStr | exact kInt | exact kStm)) (by rfl) (by (repeat (first | exact List.Mem.head _ | refine List.Mem.tail _ ?_ | assumption))) (by rfl) ?_; (simp only [Act.put, List.setIfInBounds_toArray, List.set_cons_succ, List.set_cons_zero]))
          | ((fail_if_success (with_reducible refine kCall ?_)); (with_reducible refine kCons ?_); refine wpK_step (fun K hK => ?_); go_simp; refine hK _ ?_; clear hK K))
      refine wpK_step (fun K hK => ?_)
      go_simp
      apply Exists.intro
      refine ⟨fun sx => ?_, hK _ ?_⟩
      · go_at_call 15
        exact InF_any (k := 14) u1 v1 u2 v2 u3 v3 c1 d1 c2 d2 c3 d3 true _ (by decide) U.out Q.out I2 (H.out.tbx sx)
      clear hK K
      repeat (first
          | (refine wpK_skip rfl rfl ?_; (simp only [Act.put, List.setIfInBounds_toArray, List.set_cons_succ, List.set_cons_zero]))
          | ((with_reducible refine kLoad ?_); refine wpK_loadH H rfl (by (first | exact wanted_none rfl | exact wanted_some rfl rfl)) (by (first | exact rRat | exact rSpan | exact rPose | exact rFrame | exact rVec | exact rTurn | exact rBox)) (by rfl) (by (repeat (first | exact List.Mem.head _ | refine List.Mem.tail _ ?_ | assumption))) (by (simp only [List.drop, List.take]); rfl) (by rfl) ?_; (simp only [Act.put, List.setIfInBounds_toArray, List.set_cons_succ, List.set_cons_zero]))
          | ((with_reducible refine kLoad ?_); refine wpK_loadH1 H rfl (by (first | exact wanted_none rfl | exact wanted_some rfl rfl)) (by (first | exact kBool | exact kStr | exact kInt | exact kStm)) (by rfl) (by (repeat (first | exact List.Mem.head _ | refine List.Mem.tail _ ?_ | assumption))) (by rfl) ?_; (simp only [Act.put, List.setIfInBounds_toArray, List.set_cons_succ, List.set_cons_zero]))
          | ((fail_if_success (with_reducible refine kCall ?_)); (with_reducible refine kCons ?_); refine wpK_step (fun K hK => ?_); go_simp; refine hK _ ?_; clear hK K))
      refine wpK_step (fun K hK => ?_)
      go_simp
      apply Exists.intro
      refine ⟨fun sx => ?_, hK _ ?_⟩
      · go_at_call 15
        exact InF_any (k := 14) a1 b1 a2 b2 a3 b3 c1 d1 c2 d2 c3 d3 true _ (by decide) P.out Q.out IQ (H.out.tbx sx)
      clear hK K
      repeat (first
          | (refine wpK_skip rfl rfl ?_; (simp only [Act.put, List.setIfInBounds_toArray, List.set_cons_succ, List.set_cons_zero]))
          | ((with_reducible refine kLoad ?_); refine wpK_loadH H rfl (by (first | exact wanted_none rfl | exact wanted_some rfl rfl)) (by (first | exact rRat | exact rSpan | exact rPose | exact rFrame | exact rVec | exact rTurn | exact rBox)) (by rfl) (by (repeat (first | exact List.Mem.head _ | refine List.Mem.tail _ ?_ | assumption))) (by (simp only [List.drop, List.take]); rfl) (by rfl) ?_; (simp only [Act.put, List.setIfInBounds_toArray, List.set_cons_succ, List.set_cons_zero]))
          | ((with_reducible refine kLoad ?_); refine wpK_loadH1 H rfl (by (first | exact wanted_none rfl | exact wanted_some rfl rfl)) (by (first | exact kBool | exact kStr | exact kInt | exact kStm)) (by rfl) (by (repeat (first | exact List.Mem.head _ | refine List.Mem.tail _ ?_ | assumption))) (by rfl) ?_; (simp only [Act.put, List.setIfInBounds_toArray, List.set_cons_succ, List.set_cons_zero]))
          | ((fail_if_success (with_reducible refine kCall ?_)); (with_reducible refine kCons ?_); refine wpK_step (fun K hK => ?_); go_simp; refine hK _ ?_; clear hK K))
      refine wpK_step (fun K hK => ?_)
      go_simp
      apply Exists.intro
      refine ⟨fun sx => ?_, hK _ ?_⟩
      · go_at_call 16
        exact SameF_any (k := 14) u1 v1 u2 v2 u3 v3 a1 b1 a2 b2 a3 b3 true _ (by decide) U.out P.out (SA.out (by first | trivial | rfl)) (H.out.tbx sx)
      clear hK K
      repeat (first
          | (refine wpK_skip rfl rfl ?_; (simp only [Act.put, List.setIfInBounds_toArray, List.set_cons_succ, List.set_cons_zero]))
          | ((with_reducible refine kLoad ?_); refine wpK_loadH H rfl (by (first | exact wanted_none rfl | exact wanted_some rfl rfl)) (by (first | exact rRat | exact rSpan | exact rPose | exact rFrame | exact rVec | exact rTurn | exact rBox)) (by rfl) (by (repeat (first | exact List.Mem.head _ | refine List.Mem.tail _ ?_ | assumption))) (by (simp only [List.drop, List.take]); rfl) (by rfl) ?_; (simp only [Act.put, List.setIfInBounds_toArray, List.set_cons_succ, List.set_cons_zero]))
          | ((with_reducible refine kLoad ?_); refine wpK_loadH1 H rfl (by (first | exact wanted_none rfl | exact wanted_some rfl rfl)) (by (first | exact kBool | exact kStr | exact kInt | exact kStm)) (by rfl) (by (repeat (first | exact List.Mem.head _ | refine List.Mem.tail _ ?_ | assumption))) (by rfl) ?_; (simp only [Act.put, List.setIfInBounds_toArray, List.set_cons_succ, List.set_cons_zero]))
          | ((fail_if_success (with_reducible refine kCall ?_)); (with_reducible refine kCons ?_); refine wpK_step (fun K hK => ?_); go_simp; refine hK _ ?_; clear hK K))
      refine wpKeep_nil ?_
      clear H
      intro _ H
      go_wp2_with (first
          | go_skip
          | ((with_reducible refine isLoad ?_); refine wpList_loadH H rfl (by (first | exact wanted_none rfl | exact wanted_some rfl rfl)) (by (first | exact rRat | exact rSpan | exact rPose | exact rFrame | exact rVec | exact rTurn | exact rBox)) (by rfl) (by (repeat (first | exact List.Mem.head _ | refine List.Mem.tail _ ?_ | assumption))) (by (simp only [List.drop, List.take]); rfl) (by rfl) ?_; (simp only [Act.put, List.setIfInBounds_toArray, List.set_cons_succ, List.set_cons_zero]))
          | ((with_reducible refine isLoad ?_); refine wpList_loadH1 H rfl (by (first | exact wanted_none rfl | exact wanted_some rfl rfl)) (by (first | exact kBool | exact kStr | exact kInt | exact kStm)) (by rfl) (by (repeat (first | exact List.Mem.head _ | refine List.Mem.tail _ ?_ | assumption))) (by rfl) ?_; (simp only [Act.put, List.setIfInBounds_toArray, List.set_cons_succ, List.set_cons_zero]))
          | ((with_reducible refine isStore ?_); refine wpList_storeH H rfl rfl rfl (by (first | exact rRat | exact rSpan | exact rPose | exact rFrame | exact rVec | exact rTurn | exact rBox)) (by rfl) (by rfl) (by (repeat (first | apply Upd.head | apply Upd.tail | assumption))) (by rfl) (by (simp only [List.drop, List.take, List.nil_append, List.cons_append]); rfl) (by exact Nat.le_of_ble_eq_true rfl) (by rfl) ?_; clear H; intro _ H)
          | ((with_reducible refine isStore ?_); refine wpList_storeH1 H rfl rfl rfl (by first | exact sBool | exact sStr | exact sInt) (by rfl) (by rfl) (by (repeat (first | apply Upd.head | apply Upd.tail | assumption))) (by (simp only [List.set_cons_succ, List.set_cons_zero]); rfl) (by exact Nat.le_of_ble_eq_true rfl) (by rfl) (by rfl) ?_; clear H; intro _ H)
          | ((with_reducible refine isBox ?_); refine wpList_boxH H rfl rfl rfl (by go_simp; rfl) (by simp only [Value.cells]; rfl) ?_; clear H; intro _ _ H; (simp only [Act.put, List.setIfInBounds_toArray, List.set_cons_succ, List.set_cons_zero]))
          | ((with_reducible refine isAlloc ?_); refine wpList_allocH H rfl rfl rfl (by first | exact zRat | exact zSpan | exact zPose | exact zFrame | exact zVec | exact zTurn | exact zBox) (by simp only [Value.cells]; rfl) ?_; clear H; intro _ _ H; (simp only [Act.put, List.setIfInBounds_toArray, List.set_cons_succ, List.set_cons_zero])))
      go_ret
      exact ⟨rfl, H.out.bel⟩
    · go_enter Tryd.func3, Tryd.ntmps3
      go_wp2_with (first
          | go_skip
          | ((with_reducible refine isLoad ?_); refine wpList_loadH H rfl (by (first | exact wanted_none rfl | exact wanted_some rfl rfl)) (by (first | exact rRat | exact rSpan | exact rPose | exact rFrame | exact rVec | exact rTurn | exact rBox)) (by rfl) (by (repeat (first | exact List.Mem.head _ | refine List.Mem.tail _ ?_ | assumption))) (by (simp only [List.drop, List.take]); rfl) (by rfl) ?_; (simp only [Act.put, List.setIfInBounds_toArray, List.set_cons_succ, List.set_cons_zero]))
          | ((with_reducible refine isLoad ?_); refine wpList_loadH1 H rfl (by (first | exact wanted_none rfl | exact wanted_some rfl rfl)) (by (first | exact kBool | exact kStr | exact kInt | exact kStm)) (by rfl) (by (repeat (first | exact List.Mem.head _ | refine List.Mem.tail _ ?_ | assumption))) (by rfl) ?_; (simp only [Act.put, List.setIfInBounds_toArray, List.set_cons_succ, List.set_cons_zero]))
          | ((with_reducible refine isStore ?_); refine wpList_storeH H rfl rfl rfl (by (first | exact rRat | exact rSpan | exact rPose | exact rFrame | exact rVec | exact rTurn | exact rBox)) (by rfl) (by rfl) (by (repeat (first | apply Upd.head | apply Upd.tail | assumption))) (by rfl) (by (simp only [List.drop, List.take, List.nil_append, List.cons_append]); rfl) (by exact Nat.le_of_ble_eq_true rfl) (by rfl) ?_; clear H; intro _ H)
          | ((with_reducible refine isStore ?_); refine wpList_storeH1 H rfl rfl rfl (by first | exact sBool | exact sStr | exact sInt) (by rfl) (by rfl) (by (repeat (first | apply Upd.head | apply Upd.tail | assumption))) (by (simp only [List.set_cons_succ, List.set_cons_zero]); rfl) (by exact Nat.le_of_ble_eq_true rfl) (by rfl) (by rfl) ?_; clear H; intro _ H)
          | ((with_reducible refine isBox ?_); refine wpList_boxH H rfl rfl rfl (by go_simp; rfl) (by simp only [Value.cells]; rfl) ?_; clear H; intro _ _ H; (simp only [Act.put, List.setIfInBounds_toArray, List.set_cons_succ, List.set_cons_zero]))
          | ((with_reducible refine isAlloc ?_); refine wpList_allocH H rfl rfl rfl (by first | exact zRat | exact zSpan | exact zPose | exact zFrame | exact zVec | exact zTurn | exact zBox) (by simp only [Value.cells]; rfl) ?_; clear H; intro _ _ H; (simp only [Act.put, List.setIfInBounds_toArray, List.set_cons_succ, List.set_cons_zero])))
      refine ((CP.out _ H.out.bel H.out.tb)).mono ?_
      rintro _ _ ⟨rfl, hb⟩
      replace H := Lib.hid (H.out.go hb)
      clear hb
      go_wp2_with (first
          | go_skip
          | ((with_reducible refine isLoad ?_); refine wpList_loadH H rfl (by (first | exact wanted_none rfl | exact wanted_some rfl rfl)) (by (first | exact rRat | exact rSpan | exact rPose | exact rFrame | exact rVec | exact rTurn | exact rBox)) (by rfl) (by (repeat (first | exact List.Mem.head _ | refine List.Mem.tail _ ?_ | assumption))) (by (simp only [List.drop, List.take]); rfl) (by rfl) ?_; (simp only [Act.put, List.setIfInBounds_toArray, List.set_cons_succ, List.set_cons_zero]))
          | ((with_reducible refine isLoad ?_); refine wpList_loadH1 H rfl (by (first | exact wanted_none rfl | exact wanted_some rfl rfl)) (by (first | exact kBool | exact kStr | exact kInt | exact kStm)) (by rfl) (by (repeat (first | exact List.Mem.head _ | refine List.Mem.tail _ ?_ | assumption))) (by rfl) ?_; (simp only [Act.put, List.setIfInBounds_toArray, List.set_cons_succ, List.set_cons_zero]))
          | ((with_reducible refine isStore ?_); refine wpList_storeH H rfl rfl rfl (by (first | exact rRat | exact rSpan | exact rPose | exact rFrame | exact rVec | exact rTurn | exact rBox)) (by rfl) (by rfl) (by (repeat (first | apply Upd.head | apply Upd.tail | assumption))) (by rfl) (by (simp only [List.drop, List.take, List.nil_append, List.cons_append]); rfl) (by exact Nat.le_of_ble_eq_true rfl) (by rfl) ?_; clear H; intro _ H)
          | ((with_reducible refine isStore ?_); refine wpList_storeH1 H rfl rfl rfl (by first | exact sBool | exact sStr | exact sInt) (by rfl) (by rfl) (by (repeat (first | apply Upd.head | apply Upd.tail | assumption))) (by (simp only [List.set_cons_succ, List.set_cons_zero]); rfl) (by exact Nat.le_of_ble_eq_true rfl) (by rfl) (by rfl) ?_; clear H; intro _ H)
          | ((with_reducible refine isBox ?_); refine wpList_boxH H rfl rfl rfl (by go_simp; rfl) (by simp only [Value.cells]; rfl) ?_; clear H; intro _ _ H; (simp only [Act.put, List.setIfInBounds_toArray, List.set_cons_succ, List.set_cons_zero]))
          | ((with_reducible refine isAlloc ?_); refine wpList_allocH H rfl rfl rfl (by first | exact zRat | exact zSpan | exact zPose | exact zFrame | exact zVec | exact zTurn | exact zBox) (by simp only [Value.cells]; rfl) ?_; clear H; intro _ _ H; (simp only [Act.put, List.setIfInBounds_toArray, List.set_cons_succ, List.set_cons_zero])))
      refine ((CQ.out _ H.out.bel H.out.tb)).mono ?_
      rintro _ _ ⟨rfl, hb⟩
      replace H := Lib.hid (H.out.go hb)
      clear hb
      go_wp2_with (first
          | go_skip
          | ((with_reducible refine isLoad ?_); refine wpList_loadH H rfl (by (first | exact wanted_none rfl | exact wanted_some rfl rfl)) (by (first | exact rRat | exact rSpan | exact rPose | exact rFrame | exact rVec | exact rTurn | exact rBox)) (by rfl) (by (repeat (first | exact List.Mem.head _ | refine List.Mem.tail _ ?_ | assumption))) (by (simp only [List.drop, List.take]); rfl) (by rfl) ?_; (simp only [Act.put, List.setIfInBounds_toArray, List.set_cons_succ, List.set_cons_zero]))
          | ((with_reducible refine isLoad ?_); refine wpList_loadH1 H rfl (by (first | exact wanted_none rfl | exact wanted_some rfl rfl)) (by (first | exact kBool | exact kStr | exact kInt | exact kStm)) (by rfl) (by (repeat (first | exact List.Mem.head _ | refine List.Mem.tail _ ?_ | assumption))) (by rfl) ?_; (simp only [Act.put, List.setIfInBounds_toArray, List.set_cons_succ, List.set_cons_zero]))
          | ((with_reducible refine isStore ?_); refine wpList_storeH H rfl rfl rfl (by (first | exact rRat | exact rSpan | exact rPose | exact rFrame | exact rVec | exact rTurn | exact rBox)) (by rfl) (by rfl) (by (repeat (first | apply Upd.head | apply Upd.tail | assumption))) (by rfl) (by (simp only [List.drop, List.take, List.nil_append, List.cons_append]); rfl) (by exact Nat.le_of_ble_eq_true rfl) (by rfl) ?_; clear H; intro _ H)
          | ((with_reducible refine isStore ?_); refine wpList_storeH1 H rfl rfl rfl (by first | exact sBool | exact sStr | exact sInt) (by rfl) (by rfl) (by (repeat (first | apply Upd.head | apply Upd.tail | assumption))) (by (simp only [List.set_cons_succ, List.set_cons_zero]); rfl) (by exact Nat.le_of_ble_eq_true rfl) (by rfl) (by rfl) ?_; clear H; intro _ H)
          | ((with_reducible refine isBox ?_); refine wpList_boxH H rfl rfl rfl (by go_simp; rfl) (by simp only [Value.cells]; rfl) ?_; clear H; intro _ _ H; (simp only [Act.put, List.setIfInBounds_toArray, List.set_cons_succ, List.set_cons_zero]))
          | ((with_reducible refine isAlloc ?_); refine wpList_allocH H rfl rfl rfl (by first | exact zRat | exact zSpan | exact zPose | exact zFrame | exact zVec | exact zTurn | exact zBox) (by simp only [Value.cells]; rfl) ?_; clear H; intro _ _ H; (simp only [Act.put, List.setIfInBounds_toArray, List.set_cons_succ, List.set_cons_zero])))
      refine ((CF.out _ H.out.bel H.out.tb)).mono ?_
      rintro _ _ ⟨rfl, hb⟩
      replace H := Lib.hid (H.out.go hb)
      clear hb
      go_wp2_with (first
          | go_skip
          | ((with_reducible refine isLoad ?_); refine wpList_loadH H rfl (by (first | exact wanted_none rfl | exact wanted_some rfl rfl)) (by (first | exact rRat | exact rSpan | exact rPose | exact rFrame | exact rVec | exact rTurn | exact rBox)) (by rfl) (by (repeat (first | exact List.Mem.head _ | refine List.Mem.tail _ ?_ | assumption))) (by (simp only [List.drop, List.take]); rfl) (by rfl) ?_; (simp only [Act.put, List.setIfInBounds_toArray, List.set_cons_succ, List.set_cons_zero]))
          | ((with_reducible refine isLoad ?_); refine wpList_loadH1 H rfl (by (first | exact wanted_none rfl | exact wanted_some rfl rfl)) (by (first | exact kBool | exact kStr | exact kInt | exact kStm)) (by rfl) (by (repeat (first | exact List.Mem.head _ | refine List.Mem.tail _ ?_ | assumption))) (by rfl) ?_; (simp only [Act.put, List.setIfInBounds_toArray, List.set_cons_succ, List.set_cons_zero]))
          | ((with_reducible refine isStore ?_); refine wpList_storeH H rfl rfl rfl (by (first | exact rRat | exact rSpan | exact rPose | exact rFrame | exact rVec | exact rTurn | exact rBox)) (by rfl) (by rfl) (by (repeat (first | apply Upd.head | apply Upd.tail | assumption))) (by rfl) (by (simp only [List.drop, List.take, List.nil_append, List.cons_append]); rfl) (by exact Nat.le_of_ble_eq_true rfl) (by rfl) ?_; clear H; intro _ H)
          | ((with_reducible refine isStore ?_); refine wpList_storeH1 H rfl rfl rfl (by first | exact sBool | exact sStr | exact sInt) (by rfl) (by rfl) (by (repeat (first | apply Upd.head | apply Upd.tail | assumption))) (by (simp only [List.set_cons_succ, List.set_cons_zero]); rfl) (by exact Nat.le_of_ble_eq_true rfl) (by rfl) (by rfl) ?_; clear H; intro _ H)
          | ((with_reducible refine isBox ?_); refine wpList_boxH H rfl rfl rfl (by go_simp; rfl) (by simp only [Value.cells]; rfl) ?_; clear H; intro _ _ H; (simp only [Act.put, List.setIfInBounds_toArray, List.set_cons_succ, List.set_cons_zero]))
          | ((with_reducible refine isAlloc ?_); refine wpList_allocH H rfl rfl rfl (by first | exact zRat | exact zSpan | exact zPose | exact zFrame | exact zVec | exact zTurn | exact zBox) (by simp only [Value.cells]; rfl) ?_; clear H; intro _ _ H; (simp only [Act.put, List.setIfInBounds_toArray, List.set_cons_succ, List.set_cons_zero])))
      refine (Narrow_y a1 b1 a2 b2 a3 b3 c1 d1 c2 d2 c3 d3 _ (by decide) P.out Q.out u1 v1 u2 v2 u3 v3 E1 E2 E3 E4 E5 E6 U.out H.out.tb).mono ?_
      rintro _ _ ⟨rfl, hb⟩
      replace H := Lib.hid (H.out.go hb)
      clear hb
      go_wp2_with (first
          | go_skip
          | ((with_reducible refine isLoad ?_); refine wpList_loadH H rfl (by (first | exact wanted_none rfl | exact wanted_some rfl rfl)) (by (first | exact rRat | exact rSpan | exact rPose | exact rFrame | exact rVec | exact rTurn | exact rBox)) (by rfl) (by (repeat (first | exact List.Mem.head _ | refine List.Mem.tail _ ?_ | assumption))) (by (simp only [List.drop, List.take]); rfl) (by rfl) ?_; (simp only [Act.put, List.setIfInBounds_toArray, List.set_cons_succ, List.set_cons_zero]))
          | ((with_reducible refine isLoad ?_); refine wpList_loadH1 H rfl (by (first | exact wanted_none rfl | exact wanted_some rfl rfl)) (by (first | exact kBool | exact kStr | exact kInt | exact kStm)) (by rfl) (by (repeat (first | exact List.Mem.head _ | refine List.Mem.tail _ ?_ | assumption))) (by rfl) ?_; (simp only [Act.put, List.setIfInBounds_toArray, List.set_cons_succ, List.set_cons_zero]))
          | ((with_reducible refine isStore ?_); refine wpList_storeH H rfl rfl rfl (by (first | exact rRat | exact rSpan | exact rPose | exact rFrame | exact rVec | exact rTurn | exact rBox)) (by rfl) (by rfl) (by (repeat (first | apply Upd.head | apply Upd.tail | assumption))) (by rfl) (by (simp only [List.drop, List.take, List.nil_append, List.cons_append]); rfl) (by exact Nat.le_of_ble_eq_true rfl) (by rfl) ?_; clear H; intro _ H)
          | ((with_reducible refine isStore ?_); refine wpList_storeH1 H rfl rfl rfl (by first | exact sBool | exact sStr | exact sInt) (by rfl) (by rfl) (by (repeat (first | apply Upd.head | apply Upd.tail | assumption))) (by (simp only [List.set_cons_succ, List.set_cons_zero]); rfl) (by exact Nat.le_of_ble_eq_true rfl) (by rfl) (by rfl) ?_; clear H; intro _ H)
          | ((with_reducible refine isBox ?_); refine wpList_boxH H rfl rfl rfl (by go_simp; rfl) (by simp only [Value.cells]; rfl) ?_; clear H; intro _ _ H; (simp only [Act.put, List.setIfInBounds_toArray, List.set_cons_succ, List.set_cons_zero]))
          | ((with_reducible refine isAlloc ?_); refine wpList_allocH H rfl rfl rfl (by first | exact zRat | exact zSpan | exact zPose | exact zFrame | exact zVec | exact zTurn | exact zBox) (by simp only [Value.cells]; rfl) ?_; clear H; intro _ _ H; (simp only [Act.put, List.setIfInBounds_toArray, List.set_cons_succ, List.set_cons_zero])))
      refine (seen_any (k := 0) _ (by decide) H.out.tb).mono ?_
      rintro _ _ ⟨rfl, hb⟩
      replace H := Lib.hid (H.out.go hb)
      clear hb
      go_wp2_with (first
          | go_skip
          | ((with_reducible refine isLoad ?_); refine wpList_loadH H rfl (by (first | exact wanted_none rfl | exact wanted_some rfl rfl)) (by (first | exact rRat | exact rSpan | exact rPose | exact rFrame | exact rVec | exact rTurn | exact rBox)) (by rfl) (by (repeat (first | exact List.Mem.head _ | refine List.Mem.tail _ ?_ | assumption))) (by (simp only [List.drop, List.take]); rfl) (by rfl) ?_; (simp only [Act.put, List.setIfInBounds_toArray, List.set_cons_succ, List.set_cons_zero]))
          | ((with_reducible refine isLoad ?_); refine wpList_loadH1 H rfl (by (first | exact wanted_none rfl | exact wanted_some rfl rfl)) (by (first | exact kBool | exact kStr | exact kInt | exact kStm)) (by rfl) (by (repeat (first | exact List.Mem.head _ | refine List.Mem.tail _ ?_ | assumption))) (by rfl) ?_; (simp only [Act.put, List.setIfInBounds_toArray, List.set_cons_succ, List.set_cons_zero]))
          | ((with_reducible refine isStore ?_); refine wpList_storeH H rfl rfl rfl (by (first | exact rRat | exact rSpan | exact rPose | exact rFrame | exact rVec | exact rTurn | exact rBox)) (by rfl) (by rfl) (by (repeat (first | apply Upd.head | apply Upd.tail | assumption))) (by rfl) (by (simp only [List.drop, List.take, List.nil_append, List.cons_append]); rfl) (by exact Nat.le_of_ble_eq_true rfl) (by rfl) ?_; clear H; intro _ H)
          | ((with_reducible refine isStore ?_); refine wpList_storeH1 H rfl rfl rfl (by first | exact sBool | exact sStr | exact sInt) (by rfl) (by rfl) (by (repeat (first | apply Upd.head | apply Upd.tail | assumption))) (by (simp only [List.set_cons_succ, List.set_cons_zero]); rfl) (by exact Nat.le_of_ble_eq_true rfl) (by rfl) (by rfl) ?_; clear H; intro _ H)
          | ((with_reducible refine isBox ?_); refine wpList_boxH H rfl rfl rfl (by go_simp; rfl) (by simp only [Value.cells]; rfl) ?_; clear H; intro _ _ H; (simp only [Act.put, List.setIfInBounds_toArray, List.set_cons_succ, List.set_cons_zero]))
          | ((with_reducible refine isAlloc ?_); refine wpList_allocH H rfl rfl rfl (by first | exact zRat | exact zSpan | exact zPose | exact zFrame | exact zVec | exact zTurn | exact zBox) (by simp only [Value.cells]; rfl) ?_; clear H; intro _ _ H; (simp only [Act.put, List.setIfInBounds_toArray, List.set_cons_succ, List.set_cons_zero])))
      refine (HasF_any (k := 14) a1 b1 a2 b2 a3 b3 x y t true _ (by decide) P.out zx.out zy.out zt.out GP H.out.tb).mono ?_
      rintro _ _ ⟨rfl, hb⟩
      replace H := Lib.hid (H.out.go hb)
      clear hb
      go_wp2_with (first
          | go_skip
          | ((with_reducible refine isLoad ?_); refine wpList_loadH H rfl (by (first | exact wanted_none rfl | exact wanted_some rfl rfl)) (by (first | exact rRat | exact rSpan | exact rPose | exact rFrame | exact rVec | exact rTurn | exact rBox)) (by rfl) (by (repeat (first | exact List.Mem.head _ | refine List.Mem.tail _ ?_ | assumption))) (by (simp only [List.drop, List.take]); rfl) (by rfl) ?_; (simp only [Act.put, List.setIfInBounds_toArray, List.set_cons_succ, List.set_cons_zero]))
          | ((with_reducible refine isLoad ?_); refine wpList_loadH1 H rfl (by (first | exact wanted_none rfl | exact wanted_some rfl rfl)) (by (first | exact kBool | exact kStr | exact kInt | exact kStm)) (by rfl) (by (repeat (first | exact List.Mem.head _ | refine List.Mem.tail _ ?_ | assumption))) (by rfl) ?_; (simp only [Act.put, List.setIfInBounds_toArray, List.set_cons_succ, List.set_cons_zero]))
          | ((with_reducible refine isStore ?_); refine wpList_storeH H rfl rfl rfl (by (first | exact rRat | exact rSpan | exact rPose | exact rFrame | exact rVec | exact rTurn | exact rBox)) (by rfl) (by rfl) (by (repeat (first | apply Upd.head | apply Upd.tail | assumption))) (by rfl) (by (simp only [List.drop, List.take, List.nil_append, List.cons_append]); rfl) (by exact Nat.le_of_ble_eq_true rfl) (by rfl) ?_; clear H; intro _ H)
          | ((with_reducible refine isStore ?_); refine wpList_storeH1 H rfl rfl rfl (by first | exact sBool | exact sStr | exact sInt) (by rfl) (by rfl) (by (repeat (first | apply Upd.head | apply Upd.tail | assumption))) (by (simp only [List.set_cons_succ, List.set_cons_zero]); rfl) (by exact Nat.le_of_ble_eq_true rfl) (by rfl) (by rfl) ?_; clear H; intro _ H)
          | ((with_reducible refine isBox ?_); refine wpList_boxH H rfl rfl rfl (by go_simp; rfl) (by simp only [Value.cells]; rfl) ?_; clear H; intro _ _ H; (simp only [Act.put, List.setIfInBounds_toArray, List.set_cons_succ, List.set_cons_zero]))
          | ((with_reducible refine isAlloc ?_); refine wpList_allocH H rfl rfl rfl (by first | exact zRat | exact zSpan | exact zPose | exact zFrame | exact zVec | exact zTurn | exact zBox) (by simp only [Value.cells]; rfl) ?_; clear H; intro _ _ H; (simp only [Act.put, List.setIfInBounds_toArray, List.set_cons_succ, List.set_cons_zero])))
      refine wp_region_E H (by kernel_rfl) (by kernel_rfl) ?_
      repeat (first
          | (refine wpK_skip rfl rfl ?_; (simp only [Act.put, List.setIfInBounds_toArray, List.set_cons_succ, List.set_cons_zero]))
          | ((with_reducible refine kLoad ?_); refine wpK_loadH H rfl (by (first | exact wanted_none rfl | exact wanted_some rfl rfl)) (by (first | exact rRat | exact rSpan | exact rPose | exact rFrame | exact rVec | exact rTurn | exact rBox)) (by rfl) (by (repeat (first | exact List.Mem.head _ | refine List.Mem.tail _ ?_ | assumption))) (by (simp only [List.drop, List.take]); rfl) (by rfl) ?_; (simp only [Act.put, List.setIfInBounds_toArray, List.set_cons_succ, List.set_cons_zero]))
          | ((with_reducible refine kLoad ?_); refine wpK_loadH1 H rfl (by (first | exact wanted_none rfl | exact wanted_some rfl rfl)) (by (first | exact kBool | exact kStr | exact kInt | exact kStm)) (by rfl) (by (repeat (first | exact List.Mem.head _ | refine List.Mem.tail _ ?_ | assumption))) (by rfl) ?_; (simp only [Act.put, List.setIfInBounds_toArray, List.set_cons_succ, List.set_cons_zero]))
          | ((fail_if_success (with_reducible refine kCall ?_)); (with_reducible refine kCons ?_); refine wpK_step (fun K hK => ?_); go_simp; refine hK _ ?_; clear hK K))
      refine wpK_step (fun K hK => ?_)
      go_simp
      apply Exists.intro
      refine ⟨fun sx => ?_, hK _ ?_⟩
      · go_at_call 14
        exact HasF_any (k := 14) u1 v1 u2 v2 u3 v3 x y t true _ (by decide) U.out zx.out zy.out zt.out HN (H.out.tbx sx)
      clear hK K
      repeat (first
          | (refine wpK_skip rfl rfl ?_; (simp only [Act.put, List.setIfInBounds_toArray, List.set_cons_succ, List.set_cons_zero]))
          | ((with_reducible refine kLoad ?_); refine wpK_loadH H rfl (by (first | exact wanted_none rfl | exact wanted_some rfl rfl)) (by (first | exact rRat | exact rSpan | exact rPose | exact rFrame | exact rVec | exact rTurn | exact rBox)) (by rfl) (by (repeat (first | exact List.Mem.head _ | refine List.Mem.tail _ ?_ | assumption))) (by (simp only [List.drop, List.take]); rfl) (by rfl) ?_; (simp only [Act.put, List.setIfInBounds_toArray, List.set_cons_succ, List.set_cons_zero]))
          | ((with_reducible refine kLoad ?_); refine wpK_loadH1 H rfl (by (first | exact wanted_none rfl | exact wanted_some rfl rfl)) (by (first | exact kBool | exact kStr | exact kInt | exact kStm)) (by rfl) (by (repeat (first | exact List.Mem.head _ | refine List.Mem.tail _ ?_ | assumption))) (by rfl) ?_; (simp only [Act.put, List.setIfInBounds_toArray, List.set_cons_succ, List.set_cons_zero]))
          | ((fail_if_success (with_reducible refine kCall ?_)); (with_reducible refine kCons ?_); refine wpK_step (fun K hK => ?_); go_simp; refine hK _ ?_; clear hK K))
      refine wpK_step (fun K hK => ?_)
      go_simp
      apply Exists.intro
      refine ⟨fun sx => ?_, hK _ ?_⟩
      · go_at_call 14
        exact HasF_any (k := 14) c1 d1 c2 d2 c3 d3 x y t true _ (by decide) Q.out zx.out zy.out zt.out HQ (H.out.tbx sx)
      clear hK K
      repeat (first
          | (refine wpK_skip rfl rfl ?_; (simp only [Act.put, List.setIfInBounds_toArray, List.set_cons_succ, List.set_cons_zero]))
          | ((with_reducible refine kLoad ?_); refine wpK_loadH H rfl (by (first | exact wanted_none rfl | exact wanted_some rfl rfl)) (by (first | exact rRat | exact rSpan | exact rPose | exact rFrame | exact rVec | exact rTurn | exact rBox)) (by rfl) (by (repeat (first | exact List.Mem.head _ | refine List.Mem.tail _ ?_ | assumption))) (by (simp only [List.drop, List.take]); rfl) (by rfl) ?_; (simp only [Act.put, List.setIfInBounds_toArray, List.set_cons_succ, List.set_cons_zero]))
          | ((with_reducible refine kLoad ?_); refine wpK_loadH1 H rfl (by (first | exact wanted_none rfl | exact wanted_some rfl rfl)) (by (first | exact kBool | exact kStr | exact kInt | exact kStm)) (by rfl) (by (repeat (first | exact List.Mem.head _ | refine List.Mem.tail _ ?_ | assumption))) (by rfl) ?_; (simp only [Act.put, List.setIfInBounds_toArray, List.set_cons_succ, List.set_cons_zero]))
          | ((fail_if_success (with_reducible refine kCall ?_)); (with_reducible refine kCons ?_); refine wpK_step (fun K hK => ?_); go_simp; refine hK _ ?_; clear hK K))
      refine wpK_step (fun K hK => ?_)
      go_simp
      apply Exists.intro
      refine ⟨fun sx => ?_, hK _ ?_⟩
      · go_at_call 15
        exact InF_any (k := 14) u1 v1 u2 v2 u3 v3 a1 b1 a2 b2 a3 b3 true _ (by decide) U.out P.out I1 (H.out.tbx sx)
      clear hK K
      repeat (first
          | (refine wpK_skip rfl rfl ?_; (simp only [Act.put, List.setIfInBounds_toArray, List.set_cons_succ, List.set_cons_zero]))
          | ((with_reducible refine kLoad ?_); refine wpK_loadH H rfl (by (first | exact wanted_none rfl | exact wanted_some rfl rfl)) (by (first | exact rRat | exact rSpan | exact rPose | exact rFrame | exact rVec | exact rTurn | exact rBox)) (by rfl) (by (repeat (first | exact List.Mem.head _ | refine List.Mem.tail _ ?_ | assumption))) (by (simp only [List.drop, List.take]); rfl) (by rfl) ?_; (simp only [Act.put, List.setIfInBounds_toArray, List.set_cons_succ, List.set_cons_zero]))
          | ((with_reducible refine kLoad ?_); refine wpK_loadH1 H rfl (by (first | exact wanted_none rfl | exact wanted_some rfl rfl)) (by (first | exact kBool | exact kStr | exact kInt | exact kStm)) (by rfl) (by (repeat (first | exact List.Mem.head _ | refine List.Mem.tail _ ?_ | assumption))) (by rfl) ?_; (simp only [Act.put, List.setIfInBounds_toArray, List.set_cons_succ, List.set_cons_zero]))
          | ((fail_if_success (with_reducible refine kCall ?_)); (with_reducible refine kCons ?_); refine wpK_step (fun K hK => ?_); go_simp; refine hK _ ?_; clear hK K))
      refine wpK_step (fun K hK => ?_)
      go_simp
      apply Exists.intro
      refine ⟨fun sx => ?_, hK _ ?_⟩
      · go_at_call 15
        exact InF_any (k := 14) u1 v1 u2 v2 u3 v3 c1 d1 c2 d2 c3 d3 true _ (by decide) U.out Q.out I2 (H.out.tbx sx)
      clear hK K
      repeat (first
          | (refine wpK_skip rfl rfl ?_; (simp only [Act.put, List.setIfInBounds_toArray, List.set_cons_succ, List.set_cons_zero]))
          | ((with_reducible refine kLoad ?_); refine wpK_loadH H rfl (by (first | exact wanted_none rfl | exact wanted_some rfl rfl)) (by (first | exact rRat | exact rSpan | exact rPose | exact rFrame | exact rVec | exact rTurn | exact rBox)) (by rfl) (by (repeat (first | exact List.Mem.head _ | refine List.Mem.tail _ ?_ | assumption))) (by (simp only [List.drop, List.take]); rfl) (by rfl) ?_; (simp only [Act.put, List.setIfInBounds_toArray, List.set_cons_succ, List.set_cons_zero]))
          | ((with_reducible refine kLoad ?_); refine wpK_loadH1 H rfl (by (first | exact wanted_none rfl | exact wanted_some rfl rfl)) (by (first | exact kBool | exact kStr | exact kInt | exact kStm)) (by rfl) (by (repeat (first | exact List.Mem.head _ | refine List.Mem.tail _ ?_ | assumption))) (by rfl) ?_; (simp only [Act.put, List.setIfInBounds_toArray, List.set_cons_succ, List.set_cons_zero]))
          | ((fail_if_success (with_reducible refine kCall ?_)); (with_reducible refine kCons ?_); refine wpK_step (fun K hK => ?_); go_simp; refine hK _ ?_; clear hK K))
      refine wpK_step (fun K hK => ?_)
      go_simp
      apply Exists.intro
      refine ⟨fun sx => ?_, hK _ ?_⟩
      · go_at_call 15
        exact InF_any (k := 14) a1 b1 a2 b2 a3 b3 c1 d1 c2 d2 c3 d3 true _ (by decide) P.out Q.out IQ (H.out.tbx sx)
      clear hK K
      repeat (first
          | (refine wpK_skip rfl rfl ?_; (simp only [Act.put, List.setIfInBounds_toArray, List.set_cons_succ, List.set_cons_zero]))
          | ((with_reducible refine kLoad ?_); refine wpK_loadH H rfl (by (first | exact wanted_none rfl | exact wanted_some rfl rfl)) (by (first | exact rRat | exact rSpan | exact rPose | exact rFrame | exact rVec | exact rTurn | exact rBox)) (by rfl) (by (repeat (first | exact List.Mem.head _ | refine List.Mem.tail _ ?_ | assumption))) (by (simp only [List.drop, List.take]); rfl) (by rfl) ?_; (simp only [Act.put, List.setIfInBounds_toArray, List.set_cons_succ, List.set_cons_zero]))
          | ((with_reducible refine kLoad ?_); refine wpK_loadH1 H rfl (by (first | exact wanted_none rfl | exact wanted_some rfl rfl)) (by (first | exact kBool | exact kStr | exact kInt | exact kStm)) (by rfl) (by (repeat (first | exact List.Mem.head _ | refine List.Mem.tail _ ?_ | assumption))) (by rfl) ?_; (simp only [Act.put, List.setIfInBounds_toArray, List.set_cons_succ, List.set_cons_zero]))
          | ((fail_if_success (with_reducible refine kCall ?_)); (with_reducible refine kCons ?_); refine wpK_step (fun K hK => ?_); go_simp; refine hK _ ?_; clear hK K))
      refine wpK_step (fun K hK => ?_)
      go_simp
      apply Exists.intro
      refine ⟨fun sx => ?_, hK _ ?_⟩
      · go_at_call 16
        exact SameF_any (k := 14) u1 v1 u2 v2 u3 v3 a1 b1 a2 b2 a3 b3 true _ (by decide) U.out P.out (SA.out (by first | trivial | rfl)) (H.out.tbx sx)
      clear hK K
      repeat (first
          | (refine wpK_skip rfl rfl ?_; (simp only [Act.put, List.setIfInBounds_toArray, List.set_cons_succ, List.set_cons_zero]))
          | ((with_reducible refine kLoad ?_); refine wpK_loadH H rfl (by (first | exact wanted_none rfl | exact wanted_some rfl rfl)) (by (first | exact rRat | exact rSpan | exact rPose | exact rFrame | exact rVec | exact rTurn | exact rBox)) (by rfl) (by (repeat (first | exact List.Mem.head _ | refine List.Mem.tail _ ?_ | assumption))) (by (simp only [List.drop, List.take]); rfl) (by rfl) ?_; (simp only [Act.put, List.setIfInBounds_toArray, List.set_cons_succ, List.set_cons_zero]))
          | ((with_reducible refine kLoad ?_); refine wpK_loadH1 H rfl (by (first | exact wanted_none rfl | exact wanted_some rfl rfl)) (by (first | exact kBool | exact kStr | exact kInt | exact kStm)) (by rfl) (by (repeat (first | exact List.Mem.head _ | refine List.Mem.tail _ ?_ | assumption))) (by rfl) ?_; (simp only [Act.put, List.setIfInBounds_toArray, List.set_cons_succ, List.set_cons_zero]))
          | ((fail_if_success (with_reducible refine kCall ?_)); (with_reducible refine kCons ?_); refine wpK_step (fun K hK => ?_); go_simp; refine hK _ ?_; clear hK K))
      refine wpKeep_nil ?_
      clear H
      intro _ H
      go_wp2_with (first
          | go_skip
          | ((with_reducible refine isLoad ?_); refine wpList_loadH H rfl (by (first | exact wanted_none rfl | exact wanted_some rfl rfl)) (by (first | exact rRat | exact rSpan | exact rPose | exact rFrame | exact rVec | exact rTurn | exact rBox)) (by rfl) (by (repeat (first | exact List.Mem.head _ | refine List.Mem.tail _ ?_ | assumption))) (by (simp only [List.drop, List.take]); rfl) (by rfl) ?_; (simp only [Act.put, List.setIfInBounds_toArray, List.set_cons_succ, List.set_cons_zero]))
          | ((with_reducible refine isLoad ?_); refine wpList_loadH1 H rfl (by (first | exact wanted_none rfl | exact wanted_some rfl rfl)) (by (first | exact kBool | exact kStr | exact kInt | exact kStm)) (by rfl) (by (repeat (first | exact List.Mem.head _ | refine List.Mem.tail _ ?_ | assumption))) (by rfl) ?_; (simp only [Act.put, List.setIfInBounds_toArray, List.set_cons_succ, List.set_cons_zero]))
          | ((with_reducible refine isStore ?_); refine wpList_storeH H rfl rfl rfl (by (first | exact rRat | exact rSpan | exact rPose | exact rFrame | exact rVec | exact rTurn | exact rBox)) (by rfl) (by rfl) (by (repeat (first | apply Upd.head | apply Upd.tail | assumption))) (by rfl) (by (simp only [List.drop, List.take, List.nil_append, List.cons_append]); rfl) (by exact Nat.le_of_ble_eq_true rfl) (by rfl) ?_; clear H; intro _ H)
          | ((with_reducible refine isStore ?_); refine wpList_storeH1 H rfl rfl rfl (by first | exact sBool | exact sStr | exact sInt) (by rfl) (by rfl) (by (repeat (first | apply Upd.head | apply Upd.tail | assumption))) (by (simp only [List.set_cons_succ, List.set_cons_zero]); rfl) (by exact Nat.le_of_ble_eq_true rfl) (by rfl) (by rfl) ?_; clear H; intro _ H)
          | ((with_reducible refine isBox ?_); refine wpList_boxH H rfl rfl rfl (by go_simp; rfl) (by simp only [Value.cells]; rfl) ?_; clear H; intro _ _ H; (simp only [Act.put, List.setIfInBounds_toArray, List.set_cons_succ, List.set_cons_zero]))
          | ((with_reducible refine isAlloc ?_); refine wpList_allocH H rfl rfl rfl (by first | exact zRat | exact zSpan | exact zPose | exact zFrame | exact zVec | exact zTurn | exact zBox) (by simp only [Value.cells]; rfl) ?_; clear H; intro _ _ H; (simp only [Act.put, List.setIfInBounds_toArray, List.set_cons_succ, List.set_cons_zero])))
      go_ret
      exact ⟨rfl, H.out.bel⟩
  · have HQ : Hid (hasF c1 d1 c2 d2 c3 d3 x y t = false) := by
      unfold Hid hasF
      refine decide_eq_false fun h => G ?_
      simp only [mx_le, le_mn]
      have := P0.l1
      have := P0.l2
      have := P0.l3
      have := Q0.l1
      have := Q0.l2
      have := Q0.l3
      grind
    have HG := Lib.hid G
    clear G P0 Q0 X Y T
    have H := Lib.hid (Hp.start hT)
    clear hT
    go_enter Tryd.func3, Tryd.ntmps3
    go_wp2_with (first
        | go_skip
        | ((with_reducible refine isLoad ?_); refine wpList_loadH H rfl (by (first | exact wanted_none rfl | exact wanted_some rfl rfl)) (by (first | exact rRat | exact rSpan | exact rPose | exact rFrame | exact rVec | exact rTurn | exact rBox)) (by rfl) (by (repeat (first | exact List.Mem.head _ | refine List.Mem.tail _ ?_ | assumption))) (by (simp only [List.drop, List.take]); rfl) (by rfl) ?_; (simp only [Act.put, List.setIfInBounds_toArray, List.set_cons_succ, List.set_cons_zero]))
        | ((with_reducible refine isLoad ?_); refine wpList_loadH1 H rfl (by (first | exact wanted_none rfl | exact wanted_some rfl rfl)) (by (first | exact kBool | exact kStr | exact kInt | exact kStm)) (by rfl) (by (repeat (first | exact List.Mem.head _ | refine List.Mem.tail _ ?_ | assumption))) (by rfl) ?_; (simp only [Act.put, List.setIfInBounds_toArray, List.set_cons_succ, List.set_cons_zero]))
        | ((with_reducible refine isStore ?_); refine wpList_storeH H rfl rfl rfl (by (first | exact rRat | exact rSpan | exact rPose | exact rFrame | exact rVec | exact rTurn | exact rBox)) (by rfl) (by rfl) (by (repeat (first | apply Upd.head | apply Upd.tail | assumption))) (by rfl) (by (simp only [List.drop, List.take, List.nil_append, List.cons_append]); rfl) (by exact Nat.le_of_ble_eq_true rfl) (by rfl) ?_; clear H; intro _ H)
        | ((with_reducible refine isStore ?_); refine wpList_storeH1 H rfl rfl rfl (by first | exact sBool | exact sStr | exact sInt) (by rfl) (by rfl) (by (repeat (first | apply Upd.head | apply Upd.tail | assumption))) (by (simp only [List.set_cons_succ, List.set_cons_zero]); rfl) (by exact Nat.le_of_ble_eq_true rfl) (by rfl) (by rfl) ?_; clear H; intro _ H)
        | ((with_reducible refine isBox ?_); refine wpList_boxH H rfl rfl rfl (by go_simp; rfl) (by simp only [Value.cells]; rfl) ?_; clear H; intro _ _ H; (simp only [Act.put, List.setIfInBounds_toArray, List.set_cons_succ, List.set_cons_zero]))
        | ((with_reducible refine isAlloc ?_); refine wpList_allocH H rfl rfl rfl (by first | exact zRat | exact zSpan | exact zPose | exact zFrame | exact zVec | exact zTurn | exact zBox) (by simp only [Value.cells]; rfl) ?_; clear H; intro _ _ H; (simp only [Act.put, List.setIfInBounds_toArray, List.set_cons_succ, List.set_cons_zero])))
    refine ((CP.out _ H.out.bel H.out.tb)).mono ?_
    rintro _ _ ⟨rfl, hb⟩
    replace H := Lib.hid (H.out.go hb)
    clear hb
    go_wp2_with (first
        | go_skip
        | ((with_reducible refine isLoad ?_); refine wpList_loadH H rfl (by (first | exact wanted_none rfl | exact wanted_some rfl rfl)) (by (first | exact rRat | exact rSpan | exact rPose | exact rFrame | exact rVec | exact rTurn | exact rBox)) (by rfl) (by (repeat (first | exact List.Mem.head _ | refine List.Mem.tail _ ?_ | assumption))) (by (simp only [List.drop, List.take]); rfl) (by rfl) ?_; (simp only [Act.put, List.setIfInBounds_toArray, List.set_cons_succ, List.set_cons_zero]))
        | ((with_reducible refine isLoad ?_); refine wpList_loadH1 H rfl (by (first | exact wanted_none rfl | exact wanted_some rfl rfl)) (by (first | exact kBool | exact kStr | exact kInt | exact kStm)) (by rfl) (by (repeat (first | exact List.Mem.head _ | refine List.Mem.tail _ ?_ | assumption))) (by rfl) ?_; (simp only [Act.put, List.setIfInBounds_toArray, List.set_cons_succ, List.set_cons_zero]))
        | ((with_reducible refine isStore ?_); refine wpList_storeH H rfl rfl rfl (by (first | exact rRat | exact rSpan | exact rPose | exact rFrame | exact rVec | exact rTurn | exact rBox)) (by rfl) (by rfl) (by (repeat (first | apply Upd.head | apply Upd.tail | assumption))) (by rfl) (by (simp only [List.drop, List.take, List.nil_append, List.cons_append]); rfl) (by exact Nat.le_of_ble_eq_true rfl) (by rfl) ?_; clear H; intro _ H)
        | ((with_reducible refine isStore ?_); refine wpList_storeH1 H rfl rfl rfl (by first | exact sBool | exact sStr | exact sInt) (by rfl) (by rfl) (by (repeat (first | apply Upd.head | apply Upd.tail | assumption))) (by (simp only [List.set_cons_succ, List.set_cons_zero]); rfl) (by exact Nat.le_of_ble_eq_true rfl) (by rfl) (by rfl) ?_; clear H; intro _ H)
        | ((with_reducible refine isBox ?_); refine wpList_boxH H rfl rfl rfl (by go_simp; rfl) (by simp only [Value.cells]; rfl) ?_; clear H; intro _ _ H; (simp only [Act.put, List.setIfInBounds_toArray, List.set_cons_succ, List.set_cons_zero]))
        | ((with_reducible refine isAlloc ?_); refine wpList_allocH H rfl rfl rfl (by first | exact zRat | exact zSpan | exact zPose | exact zFrame | exact zVec | exact zTurn | exact zBox) (by simp only [Value.cells]; rfl) ?_; clear H; intro _ _ H; (simp only [Act.put, List.setIfInBounds_toArray, List.set_cons_succ, List.set_cons_zero])))
    refine ((CQ.out _ H.out.bel H.out.tb)).mono ?_
    rintro _ _ ⟨rfl, hb⟩
    replace H := Lib.hid (H.out.go hb)
    clear hb
    go_wp2_with (first
        | go_skip
        | ((with_reducible refine isLoad ?_); refine wpList_loadH H rfl (by (first | exact wanted_none rfl | exact wanted_some rfl rfl)) (by (first | exact rRat | exact rSpan | exact rPose | exact rFrame | exact rVec | exact rTurn | exact rBox)) (by rfl) (by (repeat (first | exact List.Mem.head _ | refine List.Mem.tail _ ?_ | assumption))) (by (simp only [List.drop, List.take]); rfl) (by rfl) ?_; (simp only [Act.put, List.setIfInBounds_toArray, List.set_cons_succ, List.set_cons_zero]))
        | ((with_reducible refine isLoad ?_); refine wpList_loadH1 H rfl (by (first | exact wanted_none rfl | exact wanted_some rfl rfl)) (by (first | exact kBool | exact kStr | exact kInt | exact kStm)) (by rfl) (by (repeat (first | exact List.Mem.head _ | refine List.Mem.tail _ ?_ | assumption))) (by rfl) ?_; (simp only [Act.put, List.setIfInBounds_toArray, List.set_cons_succ, List.set_cons_zero]))
        | ((with_reducible refine isStore ?_); refine wpList_storeH H rfl rfl rfl (by (first | exact rRat | exact rSpan | exact rPose | exact rFrame | exact rVec | exact rTurn | exact rBox)) (by rfl) (by rfl) (by (repeat (first | apply Upd.head | apply Upd.tail | assumption))) (by rfl) (by (simp only [List.drop, List.take, List.nil_append, List.cons_append]); rfl) (by exact Nat.le_of_ble_eq_true rfl) (by rfl) ?_; clear H; intro _ H)
        | ((with_reducible refine isStore ?_); refine wpList_storeH1 H rfl rfl rfl (by first | exact sBool | exact sStr | exact sInt) (by rfl) (by rfl) (by (repeat (first | apply Upd.head | apply Upd.tail | assumption))) (by (simp only [List.set_cons_succ, List.set_cons_zero]); rfl) (by exact Nat.le_of_ble_eq_true rfl) (by rfl) (by rfl) ?_; clear H; intro _ H)
        | ((with_reducible refine isBox ?_); refine wpList_boxH H rfl rfl rfl (by go_simp; rfl) (by simp only [Value.cells]; rfl) ?_; clear H; intro _ _ H; (simp only [Act.put, List.setIfInBounds_toArray, List.set_cons_succ, List.set_cons_zero]))
        | ((with_reducible refine isAlloc ?_); refine wpList_allocH H rfl rfl rfl (by first | exact zRat | exact zSpan | exact zPose | exact zFrame | exact zVec | exact zTurn | exact zBox) (by simp only [Value.cells]; rfl) ?_; clear H; intro _ _ H; (simp only [Act.put, List.setIfInBounds_toArray, List.set_cons_succ, List.set_cons_zero])))
    refine ((CF.out _ H.out.bel H.out.tb)).mono ?_
    rintro _ _ ⟨rfl, hb⟩
    replace H := Lib.hid (H.out.go hb)
    clear hb
    go_wp2_with (first
        | go_skip
        | ((with_reducible refine isLoad ?_); refine wpList_loadH H rfl (by (first | exact wanted_none rfl | exact wanted_some rfl rfl)) (by (first | exact rRat | exact rSpan | exact rPose | exact rFrame | exact rVec | exact rTurn | exact rBox)) (by rfl) (by (repeat (first | exact List.Mem.head _ | refine List.Mem.tail _ ?_ | assumption))) (by (simp only [List.drop, List.take]); rfl) (by rfl) ?_; (simp only [Act.put, List.setIfInBounds_toArray, List.set_cons_succ, List.set_cons_zero]))
        | ((with_reducible refine isLoad ?_); refine wpList_loadH1 H rfl (by (first | exact wanted_none rfl | exact wanted_some rfl rfl)) (by (first | exact kBool | exact kStr | exact kInt | exact kStm)) (by rfl) (by (repeat (first | exact List.Mem.head _ | refine List.Mem.tail _ ?_ | assumption))) (by rfl) ?_; (simp only [Act.put, List.setIfInBounds_toArray, List.set_cons_succ, List.set_cons_zero]))
        | ((with_reducible refine isStore ?_); refine wpList_storeH H rfl rfl rfl (by (first | exact rRat | exact rSpan | exact rPose | exact rFrame | exact rVec | exact rTurn | exact rBox)) (by rfl) (by rfl) (by (repeat (first | apply Upd.head | apply Upd.tail | assumption))) (by rfl) (by (simp only [List.drop, List.take, List.nil_append, List.cons_append]); rfl) (by exact Nat.le_of_ble_eq_true rfl) (by rfl) ?_; clear H; intro _ H)
        | ((with_reducible refine isStore ?_); refine wpList_storeH1 H rfl rfl rfl (by first | exact sBool | exact sStr | exact sInt) (by rfl) (by rfl) (by (repeat (first | apply Upd.head | apply Upd.tail | assumption))) (by (simp only [List.set_cons_succ, List.set_cons_zero]); rfl) (by exact Nat.le_of_ble_eq_true rfl) (by rfl) (by rfl) ?_; clear H; intro _ H)
        | ((with_reducible refine isBox ?_); refine wpList_boxH H rfl rfl rfl (by go_simp; rfl) (by simp only [Value.cells]; rfl) ?_; clear H; intro _ _ H; (simp only [Act.put, List.setIfInBounds_toArray, List.set_cons_succ, List.set_cons_zero]))
        | ((with_reducible refine isAlloc ?_); refine wpList_allocH H rfl rfl rfl (by first | exact zRat | exact zSpan | exact zPose | exact zFrame | exact zVec | exact zTurn | exact zBox) (by simp only [Value.cells]; rfl) ?_; clear H; intro _ _ H; (simp only [Act.put, List.setIfInBounds_toArray, List.set_cons_succ, List.set_cons_zero])))
    refine (Narrow_n a1 b1 a2 b2 a3 b3 c1 d1 c2 d2 c3 d3 _ (by decide) P.out Q.out HG.out H.out.tb).mono ?_
    rintro _ _ ⟨rfl, hb⟩
    replace H := Lib.hid (H.out.go hb)
    clear hb
    go_wp2_with (first
        | go_skip
        | ((with_reducible refine isLoad ?_); refine wpList_loadH H rfl (by (first | exact wanted_none rfl | exact wanted_some rfl rfl)) (by (first | exact rRat | exact rSpan | exact rPose | exact rFrame | exact rVec | exact rTurn | exact rBox)) (by rfl) (by (repeat (first | exact List.Mem.head _ | refine List.Mem.tail _ ?_ | assumption))) (by (simp only [List.drop, List.take]); rfl) (by rfl) ?_; (simp only [Act.put, List.setIfInBounds_toArray, List.set_cons_succ, List.set_cons_zero]))
        | ((with_reducible refine isLoad ?_); refine wpList_loadH1 H rfl (by (first | exact wanted_none rfl | exact wanted_some rfl rfl)) (by (first | exact kBool | exact kStr | exact kInt | exact kStm)) (by rfl) (by (repeat (first | exact List.Mem.head _ | refine List.Mem.tail _ ?_ | assumption))) (by rfl) ?_; (simp only [Act.put, List.setIfInBounds_toArray, List.set_cons_succ, List.set_cons_zero]))
        | ((with_reducible refine isStore ?_); refine wpList_storeH H rfl rfl rfl (by (first | exact rRat | exact rSpan | exact rPose | exact rFrame | exact rVec | exact rTurn | exact rBox)) (by rfl) (by rfl) (by (repeat (first | apply Upd.head | apply Upd.tail | assumption))) (by rfl) (by (simp only [List.drop, List.take, List.nil_append, List.cons_append]); rfl) (by exact Nat.le_of_ble_eq_true rfl) (by rfl) ?_; clear H; intro _ H)
        | ((with_reducible refine isStore ?_); refine wpList_storeH1 H rfl rfl rfl (by first | exact sBool | exact sStr | exact sInt) (by rfl) (by rfl) (by (repeat (first | apply Upd.head | apply Upd.tail | assumption))) (by (simp only [List.set_cons_succ, List.set_cons_zero]); rfl) (by exact Nat.le_of_ble_eq_true rfl) (by rfl) (by rfl) ?_; clear H; intro _ H)
        | ((with_reducible refine isBox ?_); refine wpList_boxH H rfl rfl rfl (by go_simp; rfl) (by simp only [Value.cells]; rfl) ?_; clear H; intro _ _ H; (simp only [Act.put, List.setIfInBounds_toArray, List.set_cons_succ, List.set_cons_zero]))
        | ((with_reducible refine isAlloc ?_); refine wpList_allocH H rfl rfl rfl (by first | exact zRat | exact zSpan | exact zPose | exact zFrame | exact zVec | exact zTurn | exact zBox) (by simp only [Value.cells]; rfl) ?_; clear H; intro _ _ H; (simp only [Act.put, List.setIfInBounds_toArray, List.set_cons_succ, List.set_cons_zero])))
    refine (seen_any (k := 0) _ (by decide) H.out.tb).mono ?_
    rintro _ _ ⟨rfl, hb⟩
    replace H := Lib.hid (H.out.go hb)
    clear hb
    go_wp2_with (first
        | go_skip
        | ((with_reducible refine isLoad ?_); refine wpList_loadH H rfl (by (first | exact wanted_none rfl | exact wanted_some rfl rfl)) (by (first | exact rRat | exact rSpan | exact rPose | exact rFrame | exact rVec | exact rTurn | exact rBox)) (by rfl) (by (repeat (first | exact List.Mem.head _ | refine List.Mem.tail _ ?_ | assumption))) (by (simp only [List.drop, List.take]); rfl) (by rfl) ?_; (simp only [Act.put, List.setIfInBounds_toArray, List.set_cons_succ, List.set_cons_zero]))
        | ((with_reducible refine isLoad ?_); refine wpList_loadH1 H rfl (by (first | exact wanted_none rfl | exact wanted_some rfl rfl)) (by (first | exact kBool | exact kStr | exact kInt | exact kStm)) (by rfl) (by (repeat (first | exact List.Mem.head _ | refine List.Mem.tail _ ?_ | assumption))) (by rfl) ?_; (simp only [Act.put, List.setIfInBounds_toArray, List.set_cons_succ, List.set_cons_zero]))
        | ((with_reducible refine isStore ?_); refine wpList_storeH H rfl rfl rfl (by (first | exact rRat | exact rSpan | exact rPose | exact rFrame | exact rVec | exact rTurn | exact rBox)) (by rfl) (by rfl) (by (repeat (first | apply Upd.head | apply Upd.tail | assumption))) (by rfl) (by (simp only [List.drop, List.take, List.nil_append, List.cons_append]); rfl) (by exact Nat.le_of_ble_eq_true rfl) (by rfl) ?_; clear H; intro _ H)
        | ((with_reducible refine isStore ?_); refine wpList_storeH1 H rfl rfl rfl (by first | exact sBool | exact sStr | exact sInt) (by rfl) (by rfl) (by (repeat (first | apply Upd.head | apply Upd.tail | assumption))) (by (simp only [List.set_cons_succ, List.set_cons_zero]); rfl) (by exact Nat.le_of_ble_eq_true rfl) (by rfl) (by rfl) ?_; clear H; intro _ H)
        | ((with_reducible refine isBox ?_); refine wpList_boxH H rfl rfl rfl (by go_simp; rfl) (by simp only [Value.cells]; rfl) ?_; clear H; intro _ _ H; (simp only [Act.put, List.setIfInBounds_toArray, List.set_cons_succ, List.set_cons_zero]))
        | ((with_reducible refine isAlloc ?_); refine wpList_allocH H rfl rfl rfl (by first | exact zRat | exact zSpan | exact zPose | exact zFrame | exact zVec | exact zTurn | exact zBox) (by simp only [Value.cells]; rfl) ?_; clear H; intro _ _ H; (simp only [Act.put, List.setIfInBounds_toArray, List.set_cons_succ, List.set_cons_zero])))
    refine (HasF_any (k := 14) a1 b1 a2 b2 a3 b3 x y t true _ (by decide) P.out zx.out zy.out zt.out GP H.out.tb).mono ?_
    rintro _ _ ⟨rfl, hb⟩
    replace H := Lib.hid (H.out.go hb)
    clear hb
    go_wp2_with (first
        | go_skip
        | ((with_reducible refine isLoad ?_); refine wpList_loadH H rfl (by (first | exact wanted_none rfl | exact wanted_some rfl rfl)) (by (first | exact rRat | exact rSpan | exact rPose | exact rFrame | exact rVec | exact rTurn | exact rBox)) (by rfl) (by (repeat (first | exact List.Mem.head _ | refine List.Mem.tail _ ?_ | assumption))) (by (simp only [List.drop, List.take]); rfl) (by rfl) ?_; (simp only [Act.put, List.setIfInBounds_toArray, List.set_cons_succ, List.set_cons_zero]))
        | ((with_reducible refine isLoad ?_); refine wpList_loadH1 H rfl (by (first | exact wanted_none rfl | exact wanted_some rfl rfl)) (by (first | exact kBool | exact kStr | exact kInt | exact kStm)) (by rfl) (by (repeat (first | exact List.Mem.head _ | refine List.Mem.tail _ ?_ | assumption))) (by rfl) ?_; (simp only [Act.put, List.setIfInBounds_toArray, List.set_cons_succ, List.set_cons_zero]))
        | ((with_reducible refine isStore ?_); refine wpList_storeH H rfl rfl rfl (by (first | exact rRat | exact rSpan | exact rPose | exact rFrame | exact rVec | exact rTurn | exact rBox)) (by rfl) (by rfl) (by (repeat (first | apply Upd.head | apply Upd.tail | assumption))) (by rfl) (by (simp only [List.drop, List.take, List.nil_append, List.cons_append]); rfl) (by exact Nat.le_of_ble_eq_true rfl) (by rfl) ?_; clear H; intro _ H)
        | ((with_reducible refine isStore ?_); refine wpList_storeH1 H rfl rfl rfl (by first | exact sBool | exact sStr | exact sInt) (by rfl) (by rfl) (by (repeat (first | apply Upd.head | apply Upd.tail | assumption))) (by (simp only [List.set_cons_succ, List.set_cons_zero]); rfl) (by exact Nat.le_of_ble_eq_true rfl) (by rfl) (by rfl) ?_; clear H; intro _ H)
        | ((with_reducible refine isBox ?_); refine wpList_boxH H rfl rfl rfl (by go_simp; rfl) (by simp only [Value.cells]; rfl) ?_; clear H; intro _ _ H; (simp only [Act.put, List.setIfInBounds_toArray, List.set_cons_succ, List.set_cons_zero]))
        | ((with_reducible refine isAlloc ?_); refine wpList_allocH H rfl rfl rfl (by first | exact zRat | exact zSpan | exact zPose | exact zFrame | exact zVec | exact zTurn | exact zBox) (by simp only [Value.cells]; rfl) ?_; clear H; intro _ _ H; (simp only [Act.put, List.setIfInBounds_toArray, List.set_cons_succ, List.set_cons_zero])))
    refine (HasF_any (k := 14) c1 d1 c2 d2 c3 d3 x y t false _ (by decide) Q.out zx.out zy.out zt.out HQ H.out.tb).mono ?_
    rintro _ _ ⟨rfl, hb⟩
    replace H := Lib.hid (H.out.go hb)
    clear hb
    go_wp2_with (first
        | go_skip
        | ((with_reducible refine isLoad ?_); refine wpList_loadH H rfl (by (first | exact wanted_none rfl | exact wanted_some rfl rfl)) (by (first | exact rRat | exact rSpan | exact rPose | exact rFrame | exact rVec | exact rTurn | exact rBox)) (by rfl) (by (repeat (first | exact List.Mem.head _ | refine List.Mem.tail _ ?_ | assumption))) (by (simp only [List.drop, List.take]); rfl) (by rfl) ?_; (simp only [Act.put, List.setIfInBounds_toArray, List.set_cons_succ, List.set_cons_zero]))
        | ((with_reducible refine isLoad ?_); refine wpList_loadH1 H rfl (by (first | exact wanted_none rfl | exact wanted_some rfl rfl)) (by (first | exact kBool | exact kStr | exact kInt | exact kStm)) (by rfl) (by (repeat (first | exact List.Mem.head _ | refine List.Mem.tail _ ?_ | assumption))) (by rfl) ?_; (simp only [Act.put, List.setIfInBounds_toArray, List.set_cons_succ, List.set_cons_zero]))
        | ((with_reducible refine isStore ?_); refine wpList_storeH H rfl rfl rfl (by (first | exact rRat | exact rSpan | exact rPose | exact rFrame | exact rVec | exact rTurn | exact rBox)) (by rfl) (by rfl) (by (repeat (first | apply Upd.head | apply Upd.tail | assumption))) (by rfl) (by (simp only [List.drop, List.take, List.nil_append, List.cons_append]); rfl) (by exact Nat.le_of_ble_eq_true rfl) (by rfl) ?_; clear H; intro _ H)
        | ((with_reducible refine isStore ?_); refine wpList_storeH1 H rfl rfl rfl (by first | exact sBool | exact sStr | exact sInt) (by rfl) (by rfl) (by (repeat (first | apply Upd.head | apply Upd.tail | assumption))) (by (simp only [List.set_cons_succ, List.set_cons_zero]); rfl) (by exact Nat.le_of_ble_eq_true rfl) (by rfl) (by rfl) ?_; clear H; intro _ H)
        | ((with_reducible refine isBox ?_); refine wpList_boxH H rfl rfl rfl (by go_simp; rfl) (by simp only [Value.cells]; rfl) ?_; clear H; intro _ _ H; (simp only [Act.put, List.setIfInBounds_toArray, List.set_cons_succ, List.set_cons_zero]))
        | ((with_reducible refine isAlloc ?_); refine wpList_allocH H rfl rfl rfl (by first | exact zRat | exact zSpan | exact zPose | exact zFrame | exact zVec | exact zTurn | exact zBox) (by simp only [Value.cells]; rfl) ?_; clear H; intro _ _ H; (simp only [Act.put, List.setIfInBounds_toArray, List.set_cons_succ, List.set_cons_zero])))
    go_ret
    exact ⟨rfl, H.out.bel⟩
end Go.Proofs.YtolekonocbeekaaDoor
