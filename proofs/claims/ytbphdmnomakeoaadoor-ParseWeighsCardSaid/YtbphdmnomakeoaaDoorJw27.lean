/- slices.Grow at statements, append of rows. Printed by gen/weigh.py. · slices.Concat at two lists of statements. Printed by gen/weigh.py. · parse.Weight. Printed by gen/weigh.py. · The plain law of weights. Printed by gen/weigh.py. · ParseWeighs. Printed by gen/weigh.py. -/
import Derived.Test.YtbphdmnomakeoaaDoorJw26
import Derived.Lib.AppendZeros
import Derived.Test.YtbphdmnomakeoaaDoorJw24
import Derived.Test.YtbphdmnomakeoaaDoorJw20
namespace Go.Proofs.YtbphdmnomakeoaaDoor
open Go.RowKit
set_option linter.unusedVariables false
set_option maxRecDepth 100000

/-- append of a row that lies in known blocks to an own row. -/
theorem apRH {P : Program} {ops : Array Oper} {rest : List Oper} {o : Oper} {a : Act} {w0 w : World} {l : Ents} {Q : Exit → Act → World → Prop} {size bytes m n : Nat} {t e : TypeId} {v v2 : Value} {xs cur ys cur2 : List Value} (X T : Ents) (H : Hid (Hp w0 w l)) (R : Hid (RowV size v n xs cur)) (R2 : Hid (RowV size v2 m ys cur2)) (I : InfoT P e size bytes) (hsz : 0 < size) (ht : P.underlying t = some (.slice e)) {s x : Operand}
    (hK : ∀ v' cur' W', Hid (RowV size v' (n + m) (xs ++ ys) cur') → Hid (Hp w0 W' (X ++ (rowE v' e cur' ++ T))) → wpList P ops Q rest (a.put o.dst v') W')
    (hin : ∀ x ∈ rowE v2 e cur2, x ∈ l) (h1 : ys.all (·.oneCell') = true) (h0 : 0 < m) (h63 : n + m ≤ maxLen) (hb : (n + m) * bytes ≤ 140737488355328)
    (hl : l = X ++ (rowE v e cur ++ T) := by rfl) (hgd : o.guard = none := by rfl) (ho : o.op = .call { callee := .builtin .append, args := #[s, x], argTypes := #[t, t] } := by rfl) (hs : a.eval s = v := by rfl) (hx : a.eval x = v2 := by rfl) : wpList P ops Q (o :: rest) a w := by
  subst hl
  obtain ⟨i, z, hi, hz, rfl, rfl, hzs⟩ := I.h
  refine wpList_plain hgd fun _ hK2 => ?_
  unfold Oper.wp execOp
  rcases R2.out.or_ with ⟨_, rfl⟩ | ⟨g, cap, rfl, _, _, hc, htk⟩
  · omega
  · have hk := (H.out.blk (g, e, cur2) (hin _ (by simp [rowE]))).2
    obtain ⟨v', cur', w', hr, h2, h3, z', h4⟩ := run_append_H (P := P) t o.type i z ht hi hz hzs hsz H.out R.out g m cap ys R2.out.len (fun j u hu => by
      rw [hk.cell]
      rw [← htk, List.getElem?_take] at hu
      split at hu
      · simpa using hu
      · cases hu) (fun u hu => List.all_eq_true.1 h1 u hu) h0 h63 hb
    simp only [ho, resolve, invoke, builtin, Sem.run_bind, Sem.run_pure, Result.andThen_ok, List.map_toArray, List.map_cons, List.map_nil, hs, hx, hr]
    exact hK2 _ _ (hK v' cur' w' (Lib.hid h2) (Lib.hid h3))
theorem svs_one (svs : List Sv) : (flat Sv.cells svs).all (·.oneCell') = true ↔ ∀ s ∈ svs, s.bv.oneCell' = true := by
  induction svs with
  | nil => simp [flat]
  | cons x svs ih => rw [show flat Sv.cells (x :: svs) = x.cells ++ flat Sv.cells svs from rfl, List.all_append, Bool.and_eq_true, ih]; simp [Sv.cells, Value.oneCell']
set_option maxHeartbeats 4000000 in
theorem growS_any (n : Nat) (w0 w : World) (m : Ents) (H : Hid (Hp w0 w m)) (hn : n ≤ 100000) (h0 : 0 < n) :
    Calls Tryd.prog 31 #[.slice none 0 0, .int .i64 n] w fun e w' => ∃ v cur, e = .returned v ∧ RowV 8 v 0 [] cur ∧ Hp w0 w' (rowE v 53 cur ++ m) := by
  have g1 : IntKind.i64.wrap ((n : Int)) = n := IntWalk.i64_in _ (by omega)
  have h0I : (0 : Int) < n := by omega
  obtain ⟨j0, jz, ji, hjz, jz1, jz2, jz3⟩ := i8.h
  have hr := fun ty => Lib.run_append_nil_zeros (P := Tryd.prog) w 56 3 ty 53 j0 _ .i64 .i64 Tryd.underlying56 Tryd.underlying3 ji hjz n h0 (by rw [jz1]; decide) (by omega) (by rw [jz2]; omega)
  obtain ⟨Z, hZ⟩ : ∃ Z : Array Value, jz.cells = Z := ⟨_, rfl⟩
  rw [hZ] at jz3
  simp only [hZ] at hr
  have HR := Lib.hid hr
  clear hZ hjz jz1 jz2
  have hge := grownCap_ge w n 0 53
  have hle := grownCap_le_maxLen w n 0 53 (by unfold maxLen; omega)
  clear hr
  go_enter Tryd.func31, Tryd.ntmps31
  go_wp2_with (first
      | (at_builtin; refine Lib.wpList_append_run _ rfl _ _ _ _ rfl _ _ rfl rfl _ _ (HR.out _) ?_))
  go_ret
  refine ⟨_, (Builtin.zeroCells Z n ++ Builtin.zeroCells Z (grownCap w n 0 53 - n)).toList, rfl, ⟨by simp, .inr ⟨_, _, rfl, Nat.zero_le _, hle, ?_, by simp⟩⟩, ?_⟩
  · rw [Array.length_toList, Array.size_append, size_zeroCells, size_zeroCells, jz3, ← Nat.add_mul]
    congr 1
    omega
  · refine H.out.fresh (((Below.refl _ _).alloc (Nat.le_refl _) _).drew) (Nat.le_refl _) ?_
    rw [Array.toArray_toList]
    exact (Blk.new w _ _).drew
end Go.Proofs.YtbphdmnomakeoaaDoor

namespace Go.Proofs.YtbphdmnomakeoaaDoor
open Go.RowKit
set_option linter.unusedVariables false
set_option maxRecDepth 100000

theorem RSt.ocell {E : Ents} {d : Nat} {s : Stm} {v : Sv} (h : RSt E d s v) : v.bv.oneCell' = true := by
  obtain ⟨B, c, hb⟩ := h.shape
  rw [hb]
  rfl
theorem svs_one_ {E : Ents} {d : Nat} {l : List Stm} {svs : List Sv} (h : All2 (RSt E d) l svs) : (flat Sv.cells svs).all (·.oneCell') = true := by
  rw [svs_one]
  intro v hv
  obtain ⟨j, hj⟩ := List.mem_iff_getElem?.1 hv
  have hl : j < l.length := by rw [h.1]; exact (List.getElem?_eq_some_iff.1 hj).1
  exact (h.2 j _ v (List.getElem?_eq_getElem hl) hj).ocell
set_option maxHeartbeats 4000000 in
theorem concat2_any (E1 E2 : Ents) (d gq : Nat) (l1 l2 : List Stm) (x1 x2 : Value) (w0 w : World) (m : Ents) (H : Hid (Hp w0 w m)) (HQ : Hid ((gq, 56, [x1, x2]) ∈ m)) (HE1 : Hid (∀ x ∈ E1, x ∈ m)) (HE2 : Hid (∀ x ∈ E2, x ∈ m)) (R1 : Hid (RSs E1 d l1 x1)) (R2 : Hid (RSs E2 d l2 x2)) (h1 : 1 ≤ l1.length ∧ l1.length ≤ 1000) (h2 : 1 ≤ l2.length ∧ l2.length ≤ 1000) :
    Calls Tryd.prog 16 #[.slice (some ⟨gq, 0, none⟩) 2 2] w fun e w' => ∃ v cur, e = .returned v ∧ RSs (rowE v 53 cur ++ (E1 ++ E2)) d (l1 ++ l2) v ∧ Hp w0 w' (rowE v 53 cur ++ m) := by
  obtain ⟨s1, ⟨cur1, hV1, hI1⟩, hA1⟩ := R1.out
  obtain ⟨s2, ⟨cur2, hV2, hI2⟩, hA2⟩ := R2.out
  obtain ⟨n1, hn1⟩ : ∃ n, s1.length = n := ⟨_, rfl⟩
  obtain ⟨n2, hn2⟩ : ∃ n, s2.length = n := ⟨_, rfl⟩
  have b1 : 1 ≤ n1 ∧ n1 ≤ 1000 := by rw [← hn1, ← hA1.1]; exact h1
  have b2 : 1 ≤ n2 ∧ n2 ≤ 1000 := by rw [← hn2, ← hA2.1]; exact h2
  have O1 := Lib.hid (svs_one_ hA1)
  have O2 := Lib.hid (svs_one_ hA2)
  rw [hn1] at hV1
  rw [hn2] at hV2
  obtain ⟨B1, c1, rfl, _⟩ := hV1.shape
  obtain ⟨B2, c2, rfl, _⟩ := hV2.shape
  have V1 := Lib.hid hV1
  have V2 := Lib.hid hV2
  have I1 := Lib.hid hI1
  have I2 := Lib.hid hI2
  have A1 := Lib.hid hA1
  have A2 := Lib.hid hA2
  have N1 := Lib.hid hn1
  have N2 := Lib.hid hn2
  have hsum : IntKind.i64.wrap ((n1 : Int) + n2) = ((n1 + n2 : Nat) : Int) := by rw [IntWalk.i64_in _ (by omega)]; omega
  clear hV1 hV2 hI1 hI2 hA1 hA2 hn1 hn2 R1 R2 h1 h2
  go_enter Tryd.func16, Tryd.ntmps16
  go_wp2_with (first
      | go_skip)
  go_loopw [3, 11] (fun s i wr => ∃ (k t : Nat), s = .int .i64 t ∧ i = .int .i64 k ∧ ((k = 0 ∧ t = 0) ∨ (k = 1 ∧ t = n1) ∨ (k = 2 ∧ t = n1 + n2)) ∧ Hid (Hp w0 wr m)) (fun _ i _ => 2 - (intOf i).toNat)
  case atStart => exact ⟨0, 0, rfl, rfl, .inl ⟨rfl, rfl⟩, H⟩
  case round =>
    clear H
    obtain ⟨k, t, rfl, rfl, hkt, H⟩ := hrel
    have D0 : wr.cell? ⟨gq, 0, none⟩ = some (.slice B1 n1 c1) := by rw [(H.out.blk _ HQ.out).2.cell]; rfl
    have D1 : wr.cell? ⟨gq, 1, none⟩ = some (.slice B2 n2 c2) := by rw [(H.out.blk _ HQ.out).2.cell]; rfl
    rcases hkt with ⟨rfl, rfl⟩ | ⟨rfl, rfl⟩ | ⟨rfl, rfl⟩
    · go_wp2_with (first
          | go_skip)
      go_roundw
      case rel => exact ⟨1, n1, by go_num, rfl, .inr (.inl ⟨rfl, rfl⟩), H⟩
      case measure => simp [intOf]
    · go_wp2_with (first
          | go_skip)
      go_roundw
      case rel => exact ⟨2, t + n2, by go_num, rfl, .inr (.inr ⟨rfl, rfl⟩), H⟩
      case measure => simp [intOf]
    · go_wp2_with (first
          | go_skip)
      go_at_call 31
      refine Calls.mono (growS_any (n1 + n2) w0 _ _ H (by omega) (by omega)) ?_
      rintro _ w1 ⟨v1, cur0, rfl, hR, h2⟩
      obtain ⟨B3, c3, rfl, _⟩ := hR.shape
      have R := Lib.hid hR
      have H1 := Lib.hid h2
      clear hR h2 D0 D1 H
      go_wp2_with (first
          | go_skip)
      go_loopw [6, 27] (fun vs i wr => ∃ (k : Nat) (v : Value) (t : Nat) (ss : List Sv) (cur : List Value), v = vs ∧ i = .int .i64 k ∧ ((k = 0 ∧ t = 0 ∧ ss = []) ∨ (k = 1 ∧ t = n1 ∧ ss = s1) ∨ (k = 2 ∧ t = n1 + n2 ∧ ss = s1 ++ s2)) ∧ Hid (RowV 8 v t (flat Sv.cells ss) cur) ∧ Hid (Hp w0 wr (rowE v 53 cur ++ m))) (fun _ i _ => 2 - (intOf i).toNat)
      case atStart => exact ⟨0, _, 0, [], cur0, rfl, rfl, .inl ⟨rfl, rfl, rfl⟩, R, H1⟩
      case round =>
        clear H1 R
        obtain ⟨k, v, t, ss, cur, rfl, rfl, hkt, R, H⟩ := hrel
        have D0 : wr.cell? ⟨gq, 0, none⟩ = some (.slice B1 n1 c1) := by rw [(H.out.blk _ (List.mem_append_right _ HQ.out)).2.cell]; rfl
        have D1 : wr.cell? ⟨gq, 1, none⟩ = some (.slice B2 n2 c2) := by rw [(H.out.blk _ (List.mem_append_right _ HQ.out)).2.cell]; rfl
        rcases hkt with ⟨rfl, rfl, rfl⟩ | ⟨rfl, rfl, rfl⟩ | ⟨rfl, rfl, rfl⟩
        · go_wp2_with (first
              | go_skip
              | ((with_reducible refine isApp ?_); refine apRH [] m H R V1 i8 (by decide) Tryd.underlying56 ?_ (fun x hx => List.mem_append_right _ (HE1.out x (I1.out x hx))) O1.out (by omega) (by unfold maxLen; omega) (by omega); clear H R; intro v3 cur3 _ R H))
          go_roundw
          case rel => exact ⟨1, _, n1, s1, cur3, rfl, by go_num, .inr (.inl ⟨rfl, rfl, rfl⟩), Lib.hid (by have := R.out; simpa [flat] using this), H⟩
          case measure => simp [intOf]
        · go_wp2_with (first
              | go_skip
              | ((with_reducible refine isApp ?_); refine apRH [] m H R V2 i8 (by decide) Tryd.underlying56 ?_ (fun x hx => List.mem_append_right _ (HE2.out x (I2.out x hx))) O2.out (by omega) (by unfold maxLen; omega) (by omega); clear H R; intro v3 cur3 _ R H))
          go_roundw
          case rel => exact ⟨2, _, t + n2, ss ++ s2, cur3, rfl, by go_num, .inr (.inr ⟨rfl, rfl, rfl⟩), by rw [flat_append]; exact R, H⟩
          case measure => simp [intOf]
        · obtain ⟨B4, c4, rfl, _⟩ := R.out.shape
          go_wp2_with (first
              | go_skip)
          go_ret
          refine ⟨_, _, rfl, ⟨s1 ++ s2, ⟨cur, by rw [List.length_append, N1.out, N2.out]; exact R.out, fun x hx => List.mem_append_left _ hx⟩, ?_⟩, H.out⟩
          exact (A1.out.mono fun _ _ h => h.mono (fun x hx => List.mem_append_right _ (List.mem_append_left _ hx))).append (A2.out.mono fun _ _ h => h.mono (fun x hx => List.mem_append_right _ (List.mem_append_right _ hx)))
end Go.Proofs.YtbphdmnomakeoaaDoor

namespace Go.Proofs.YtbphdmnomakeoaaDoor
open Go.RowKit
set_option linter.unusedVariables false
set_option maxRecDepth 100000

def weightP (d : Nat) (nm : ByteArray) (l : List Stm) : Int × Int := if checkE d nm l = 0 then wSts (wSt d 1) 1 l else (0, checkE d nm l)
set_option maxHeartbeats 4000000 in
theorem Weight_any (d : Nat) (nm : ByteArray) (l : List Stm) (x : Value) (E : Ents) (w0 w : World) (m : Ents) (H : Hid (Hp w0 w m)) (HE : Hid (∀ x ∈ E, x ∈ m)) (R : Hid (RSs E d l x)) (hn : nm.size ≤ maxLen) :
    Calls Tryd.prog 15 #[.agg #[.string nm, x]] w fun e w' => e = .returned (.tuple #[.int .i64 (weightP d nm l).1, .int .i64 (weightP d nm l).2]) ∧ Hp w0 w' m := by
  obtain ⟨B, c, rfl⟩ := R.out.shape
  by_cases hc : checkE d nm l = 0
  · obtain ⟨rc, hrc⟩ : ∃ r, checkE d nm l = r := ⟨_, rfl⟩
    have hw : weightP d nm l = wSts (wSt d 1) 1 l := by unfold weightP; rw [if_pos hc]
    rw [hw]
    have HRC := Lib.hid hrc
    obtain rfl : rc = 0 := hrc.symm.trans hc
    clear hc hw hrc
    go_enter Tryd.func15, Tryd.ntmps15
    go_wp2_with (first
        | go_skip
        | ((with_reducible refine isLoad ?_); refine ldA H ?_ (hT := rJob))
        | ((with_reducible refine isLoad ?_); refine ld1A H ?_ (hT := by first | exact kInt | exact kStl | exact kBll | exact kStr | exact kStrs))
        | ((with_reducible refine isBox ?_); first | (refine bxA (t := 58) H ?_; clear H; intro qj _ H) | (refine bxA (t := 112) H ?_; clear H; intro bp _ H)))
    go_at_call 20
    refine Calls.mono (Check_any d E nm l _ _ hn R (Lib.hid (H.out.hld (fun x hx => .tail _ (HE.out x hx)))) H.out.tb) ?_
    rintro _ _ ⟨rfl, hB⟩
    replace H := Lib.hid (H.out.go hB)
    rw [HRC.out]
    clear hB
    go_wp2_with (first
        | go_skip
        | ((with_reducible refine isLoad ?_); refine ldA H ?_ (hT := rJob))
        | ((with_reducible refine isLoad ?_); refine ld1A H ?_ (hT := by first | exact kInt | exact kStl | exact kBll | exact kStr | exact kStrs))
        | ((with_reducible refine isBox ?_); first | (refine bxA (t := 58) H ?_; clear H; intro qj _ H) | (refine bxA (t := 112) H ?_; clear H; intro bp _ H)))
    go_at_call 30
    have hcall := (stmt_all d).2 E l _ 1 _ (by omega) R.out (H.out.hld (fun x hx => .tail _ (HE.out x hx))) H.out.tb
    refine Calls.mono hcall ?_
    clear hcall
    rintro _ _ ⟨rfl, hB⟩
    replace H := Lib.hid (H.out.go hB)
    clear hB
    go_wp2_with (first
        | go_skip
        | ((with_reducible refine isLoad ?_); refine ldA H ?_ (hT := rJob))
        | ((with_reducible refine isLoad ?_); refine ld1A H ?_ (hT := by first | exact kInt | exact kStl | exact kBll | exact kStr | exact kStrs))
        | ((with_reducible refine isBox ?_); first | (refine bxA (t := 58) H ?_; clear H; intro qj _ H) | (refine bxA (t := 112) H ?_; clear H; intro bp _ H)))
    go_ret2
    exact ⟨rfl, H.out.drop⟩
  · obtain ⟨rc, hrc⟩ : ∃ r, checkE d nm l = r := ⟨_, rfl⟩
    have hw : weightP d nm l = (0, rc) := by unfold weightP; rw [if_neg hc]; rw [hrc]
    rw [hw]
    have HRC := Lib.hid hrc
    have hne : (rc != 0) = true := bne_iff_ne.2 (fun h => hc (hrc.trans h))
    clear hc hw hrc
    go_enter Tryd.func15, Tryd.ntmps15
    go_wp2_with (first
        | go_skip
        | ((with_reducible refine isLoad ?_); refine ldA H ?_ (hT := rJob))
        | ((with_reducible refine isLoad ?_); refine ld1A H ?_ (hT := by first | exact kInt | exact kStl | exact kBll | exact kStr | exact kStrs))
        | ((with_reducible refine isBox ?_); first | (refine bxA (t := 58) H ?_; clear H; intro qj _ H) | (refine bxA (t := 112) H ?_; clear H; intro bp _ H)))
    go_at_call 20
    refine Calls.mono (Check_any d E nm l _ _ hn R (Lib.hid (H.out.hld (fun x hx => .tail _ (HE.out x hx)))) H.out.tb) ?_
    rintro _ _ ⟨rfl, hB⟩
    replace H := Lib.hid (H.out.go hB)
    rw [HRC.out]
    clear hB
    go_wp2_with (first
        | go_skip
        | ((with_reducible refine isLoad ?_); refine ldA H ?_ (hT := rJob))
        | ((with_reducible refine isLoad ?_); refine ld1A H ?_ (hT := by first | exact kInt | exact kStl | exact kBll | exact kStr | exact kStrs))
        | ((with_reducible refine isBox ?_); first | (refine bxA (t := 58) H ?_; clear H; intro qj _ H) | (refine bxA (t := 112) H ?_; clear H; intro bp _ H)))
    go_ret2
    exact ⟨rfl, H.out.drop⟩
end Go.Proofs.YtbphdmnomakeoaaDoor

namespace Go.Proofs.YtbphdmnomakeoaaDoor
open Go.RowKit
set_option linter.unusedVariables false
set_option maxRecDepth 100000

/-- What statements weigh does not depend on how deep they stand. -/
theorem stmtsP_congr {f g : Stm → Int × Int} : ∀ (l : List Stm) (s : Int), (∀ x ∈ l, f x = g x) → stmtsP f l s = stmtsP g l s
  | [], s, _ => rfl
  | x :: l, s, h => by
    rw [stmtsP, stmtsP, h x (.head _), stmtsP_congr l _ (fun y hy => h y (.tail _ hy))]
theorem blocksP_congr {f g : List Stm → Int × Int} {n : Int} : ∀ (l : List (List Stm)) (s : Int), (∀ x ∈ l, f x = g x) → blocksP f n l s = blocksP g n l s
  | [], s, _ => rfl
  | x :: l, s, h => by
    rw [blocksP, blocksP, h x (.head _), blocksP_congr l _ (fun y hy => h y (.tail _ hy))]
theorem VSt.blk {na np ns d : Nat} {s : Stm} (h : VSt na np ns (d + 1) s) (hk : ¬ s.k < 6) : ∀ b ∈ s.bl, VSs na np ns d b := by
  rcases h.cases with hl | ⟨_, _, _, hb, _⟩
  · have := hl.k; omega
  · exact hb
theorem wSt_p {na np ns : Nat} : ∀ (d p p' : Nat) (s : Stm), VSt na np ns d s → d + p ≤ 6 → d + p' ≤ 6 → wSt d p s = wSt d p' s
  | 0, _, _, _, h, _, _ => h.elim
  | d + 1, p, p', s, h, hp, hp' => by
    unfold wSt
    by_cases h1 : s.k < 1 ∨ 9 < s.k
    · rw [if_pos h1, if_pos h1]
    rw [if_neg h1, if_neg h1]
    by_cases h2 : s.k < 6
    · rw [if_pos h2, if_pos h2]
    rw [if_neg h2, if_neg h2]
    by_cases h3 : shapeE s.k s.a s.b s.wd s.n s.bl.length ≠ 0
    · rw [if_pos h3, if_pos h3]
    rw [if_neg h3, if_neg h3]
    refine blocksP_congr _ _ fun b hb => ?_
    have hv := VSt.blk h h2 b hb
    have hd : 1 ≤ d := by
      cases d with
      | zero =>
        obtain ⟨⟨h1, _⟩, h2⟩ := hv
        cases b with
        | nil => simp at h1
        | cons x b => exact (h2 x (.head _)).elim
      | succ d => omega
    unfold wSts
    rw [if_neg (by omega), if_neg (by omega)]
    exact stmtsP_congr _ _ fun x hx => wSt_p d (p + 1) (p' + 1) x (hv.2 x hx) (by omega) (by omega)
theorem stmtsP_app {f : Stm → Int × Int} : ∀ (a b : List Stm) (s : Int), (stmtsP f a s).2 = 0 → stmtsP f (a ++ b) s = stmtsP f b (stmtsP f a s).1
  | [], b, s, _ => rfl
  | x :: a, b, s, h => by
    rw [List.cons_append, stmtsP, stmtsP]
    rw [stmtsP] at h
    by_cases h1 : (f x).2 ≠ 0
    · rw [if_pos h1] at h; exact absurd h h1
    rw [if_neg h1] at h ⊢
    rw [if_neg h1]
    by_cases h2 : 100 < s + (f x).1
    · rw [if_pos h2] at h; cases h
    rw [if_neg h2] at h ⊢
    rw [if_neg h2]
    exact stmtsP_app a b _ h
theorem stmtsP_shift {f : Stm → Int × Int} (hf : ∀ x, 0 ≤ (f x).1) : ∀ (a : List Stm) (s t : Int), 0 ≤ t → (stmtsP f a s).2 = 0 → (stmtsP f a s).1 + t ≤ 100 → stmtsP f a (s + t) = ((stmtsP f a s).1 + t, 0)
  | [], s, t, _, _, _ => rfl
  | x :: a, s, t, ht, h, hl => by
    rw [stmtsP] at h hl ⊢
    rw [stmtsP]
    by_cases h1 : (f x).2 ≠ 0
    · rw [if_pos h1] at h; exact absurd h h1
    rw [if_neg h1] at h hl ⊢
    rw [if_neg h1]
    by_cases h2 : 100 < s + (f x).1
    · rw [if_pos h2] at h; cases h
    rw [if_neg h2] at h hl ⊢
    have hge : s + (f x).1 ≤ (stmtsP f a (s + (f x).1)).1 := stmtsP_ge hf a _ h
    rw [if_neg (by omega), show s + t + (f x).1 = s + (f x).1 + t by omega]
    exact stmtsP_shift hf a _ t ht h hl
where
  stmtsP_ge {f : Stm → Int × Int} (hf : ∀ x, 0 ≤ (f x).1) : ∀ (a : List Stm) (s : Int), (stmtsP f a s).2 = 0 → s ≤ (stmtsP f a s).1
  | [], s, _ => Int.le_refl _
  | x :: a, s, h => by
    rw [stmtsP] at h ⊢
    by_cases h1 : (f x).2 ≠ 0
    · rw [if_pos h1] at h; exact absurd h h1
    rw [if_neg h1] at h ⊢
    by_cases h2 : 100 < s + (f x).1
    · rw [if_pos h2] at h; cases h
    rw [if_neg h2] at h ⊢
    have := stmtsP_ge hf a _ h
    have := hf x
    omega
theorem wSt_nn (d p : Nat) (s : Stm) : 0 ≤ (wSt d p s).1 := (wSt_bd d p s).1
def wgt (l : List Stm) : Int := (wSts (wSt 3 1) 1 l).1
theorem wgt_eq (l : List Stm) : wgt l = (stmtsP (wSt 3 1) l 0).1 := by unfold wgt wSts; rw [if_neg (by omega)]
section
variable {na np ns : Nat} (hna : 1 ≤ na ∧ na ≤ 2) (hnp : 1 ≤ np ∧ np ≤ 2) (hns : 1 ≤ ns ∧ ns ≤ 2)
include hna hnp hns
theorem wgt_ok {l : List Stm} (h : VSs na np ns 3 l) : 0 ≤ wgt l ∧ wgt l ≤ 42 ∧ (stmtsP (wSt 3 1) l 0).2 = 0 := by
  obtain ⟨h1, h2, h3⟩ := h.check hna hnp hns (nm := ⟨#[120]⟩) (by decide +kernel)
  refine ⟨h3, h2, ?_⟩
  unfold checkE wSts at h1
  rw [if_pos (by decide +kernel), if_neg (by omega)] at h1
  exact h1
theorem weigh_one {l : List Stm} {nm : ByteArray} (hn : nameB nm = true) (h : VSs na np ns 3 l) : weightP 3 nm l = (wgt l, 0) ∧ checkE 3 nm l = 0 := by
  obtain ⟨_, _, h0⟩ := wgt_ok hna hnp hns h
  have hc : checkE 3 nm l = 0 := by unfold checkE wSts; rw [if_pos hn, if_neg (by omega)]; exact h0
  refine ⟨?_, hc⟩
  unfold weightP
  rw [if_pos hc]
  unfold wgt wSts
  rw [if_neg (by omega)]
  exact Prod.ext rfl h0
theorem weigh_both {a b : List Stm} {nm : ByteArray} (hn : nameB nm = true) (ha : VSs na np ns 3 a) (hb : VSs na np ns 3 b) : weightP 3 nm (a ++ b) = (wgt a + wgt b, 0) ∧ checkE 3 nm (a ++ b) = 0 := by
  obtain ⟨a1, a2, a3⟩ := wgt_ok hna hnp hns ha
  obtain ⟨b1, b2, b3⟩ := wgt_ok hna hnp hns hb
  have h : stmtsP (wSt 3 1) (a ++ b) 0 = (wgt a + wgt b, 0) := by
    rw [stmtsP_app a b 0 a3, ← wgt_eq a]
    have := stmtsP_shift (wSt_nn 3 1) b 0 (wgt a) a1 b3 (by rw [← wgt_eq]; omega)
    rw [Int.zero_add] at this
    rw [this, ← wgt_eq, Int.add_comm]
  have hc : checkE 3 nm (a ++ b) = 0 := by unfold checkE wSts; rw [if_pos hn, if_neg (by omega), h]
  refine ⟨?_, hc⟩
  unfold weightP
  rw [if_pos hc]
  unfold wSts
  rw [if_neg (by omega), h]
theorem weigh_again {a : List Stm} {nm : ByteArray} {n : Int} (hn : nameB nm = true) (ha : VSs na np ns 3 a) (h1 : 1 ≤ n) (h5 : n ≤ 5) : weightP 4 nm [.mk 7 ⟨#[]⟩ ⟨#[]⟩ none n [a]] = if 1 + n * wgt a ≤ 100 then (1 + n * wgt a, 0) else (0, 2) := by
  obtain ⟨a1, a2, a3⟩ := wgt_ok hna hnp hns ha
  have hd : wSts (wSt 3 2) 2 a = (wgt a, 0) := by
    unfold wSts
    rw [if_neg (by omega), stmtsP_congr (g := wSt 3 1) a 0 (fun x hx => wSt_p 3 2 1 x (ha.2 x hx) (by omega) (by omega)), wgt_eq]
    exact Prod.ext rfl a3
  have hsh : shapeE 7 ⟨#[]⟩ ⟨#[]⟩ none n 1 = 0 := by
    rcases (by omega : n = 1 ∨ n = 2 ∨ n = 3 ∨ n = 4 ∨ n = 5) with rfl | rfl | rfl | rfl | rfl <;> decide +kernel
  have hmx : max n 1 = n := by omega
  have hs : wSt 4 1 (.mk 7 ⟨#[]⟩ ⟨#[]⟩ none n [a]) = if 1 + n * wgt a ≤ 100 then (1 + n * wgt a, 0) else (0, 2) := by
    rw [show wSt 4 1 (.mk 7 ⟨#[]⟩ ⟨#[]⟩ none n [a]) = (if (7 : Int) < 1 ∨ 9 < (7 : Int) then (0, 3) else if (7 : Int) < 6 then (1, plainE 7 ⟨#[]⟩ ⟨#[]⟩ none n 1) else if shapeE 7 ⟨#[]⟩ ⟨#[]⟩ none n 1 ≠ 0 then (0, shapeE 7 ⟨#[]⟩ ⟨#[]⟩ none n 1) else blocksP (fun b => wSts (wSt 3 2) 2 b) n [a] 1) from rfl]
    rw [if_neg (by omega), if_neg (by omega), if_neg (by rw [hsh]; simp)]
    rw [blocksP, hd, if_neg (by simp), hmx, Int.mul_comm]
    by_cases hle : 1 + n * wgt a ≤ 100
    · rw [if_pos hle, if_neg (by simp only; omega)]; rfl
    · rw [if_neg hle, if_pos (by simp only; omega)]
  have hw : wSts (wSt 4 1) 1 [.mk 7 ⟨#[]⟩ ⟨#[]⟩ none n [a]] = if 1 + n * wgt a ≤ 100 then (1 + n * wgt a, 0) else (0, 2) := by
    unfold wSts
    rw [if_neg (by omega), stmtsP, hs]
    have hp : 0 ≤ n * wgt a := Int.mul_nonneg (by omega) a1
    by_cases hle : 1 + n * wgt a ≤ 100
    · rw [if_pos hle, if_neg (by simp), if_neg (by simp only; omega)]
      simp [stmtsP]
    · rw [if_neg hle, if_pos (by simp)]
  unfold weightP checkE
  rw [if_pos hn, hw]
  by_cases hle : 1 + n * wgt a ≤ 100
  · rw [if_pos hle, if_pos rfl]
  · rw [if_neg hle, if_neg (by simp)]
end
end Go.Proofs.YtbphdmnomakeoaaDoor

namespace Go.Proofs.YtbphdmnomakeoaaDoor
open Go.RowKit
set_option linter.unusedVariables false
set_option maxRecDepth 100000

theorem zWksW : (Tryd.prog.info? 31).bind (·.zero) = some (.agg #[.slice none 0 0, .slice none 0 0, .slice none 0 0, .slice none 0 0, .slice none 0 0, .bool false, .string ⟨#[]⟩, .string ⟨#[]⟩]) := by kernel_rfl
/-- An operation that is passed over. -/
theorem wpY_unw {P : Program} {ops : Array Oper} {rest : List Oper} {o : Oper} {a : Act} {w0 : World} {l l0 : Ents} {kd : Nat → KdY} {k : Nat} {R : Act → Ents → Prop} (hk : kd k = .c undef) (hw : Region.wanted o (yielded ops a.tmps) = false) (h : wpY P ops w0 l0 kd R (k + 1) rest (a.put o.dst undef) l) : wpY P ops w0 l0 kd R k (o :: rest) a l := by
  show EffY P ops w0 l0 o a l _ (kd k)
  rw [hk]
  exact ⟨.inr ⟨hw, rfl⟩, h⟩
theorem task_nm : nameB ⟨#[116, 97, 115, 107]⟩ = true := by decide +kernel
theorem both_nm : nameB ⟨#[98, 111, 116, 104]⟩ = true := by decide +kernel
theorem again_nm : nameB ⟨#[97, 103, 97, 105, 110]⟩ = true := by decide +kernel
set_option maxHeartbeats 8000000 in
theorem ParseWeighs_any (S1 S2 S3 : Sd) (n : Int) (w : World) (h1 : S1.ok w) (h2 : S2.ok w) (h3 : S3.ok w) (hn1 : -9223372036854775808 ≤ n) (hn2 : n ≤ 9223372036854775807) (hT : Tb w) :
    Calls Tryd.prog 5 #[S1.v, S2.v, S3.v, .int .i64 n] w fun e w' => e = .returned (.bool true) ∧ Below w.heap.size w w' := by
  have H := Lib.hid (Hp.start hT)
  have HS1 := Lib.hid h1
  have HS2 := Lib.hid h2
  have HS3 := Lib.hid h3
  clear h1 h2 h3 hT
  obtain ⟨A1, b1, c1, hv1⟩ : ∃ A n c, S1.v = .slice A n c := ⟨_, _, _, rfl⟩
  obtain ⟨A2, b2, c2, hv2⟩ : ∃ A n c, S2.v = .slice A n c := ⟨_, _, _, rfl⟩
  obtain ⟨A3, b3, c3, hv3⟩ : ∃ A n c, S3.v = .slice A n c := ⟨_, _, _, rfl⟩
  have HV1 := Lib.hid hv1
  have HV2 := Lib.hid hv2
  have HV3 := Lib.hid hv3
  rw [hv1, hv2, hv3]
  clear hv1 hv2 hv3
  go_enter Tryd.func5, Tryd.ntmps5
  go_wp2_with (first
      | go_skip
      | ((with_reducible refine isLoad ?_); refine ldA H ?_ (hT := by first | exact rJob | exact rStm8 | exact rWks))
      | ((with_reducible refine isLoad ?_); refine ld1A H ?_ (hT := by first | exact kInt | exact kStl | exact kBll | exact kStr))
      | ((with_reducible refine isStore ?_); refine stA H ?_ (hT := by first | exact rWks | exact rJob); clear H; intro _ H)
      | ((with_reducible refine isAlloc ?_); first | (refine alA H ?_ (hz := zWksW); clear H; intro q5 _ H) | (refine alA H ?_ (hz := zJob); clear H; intro qc _ H)))
  go_at_call 6
  rw [← HV1.out]
  refine Calls.mono (Small_E S1.A S1.xs.length S1.c S1.xs _ ⟨rfl, HS1.out.le, HS1.out.mx, HS1.out.at_, HS1.out.rg⟩ H.out.tb) ?_
  rintro _ w1 ⟨na, np, ns, cs, E, rfl, hna, hnp, hns, HN, W0⟩
  replace H := Lib.hid (H.out.join HN)
  rw [List.append_nil] at H
  have WV := Lib.hid W0
  obtain ⟨av, pv, sv, rfl, RA, RP, RS⟩ := W0
  obtain ⟨n1, e1⟩ : ∃ n, (armN.take na).length = n := ⟨_, rfl⟩
  obtain ⟨n2, e2⟩ : ∃ n, (partN.take np).length = n := ⟨_, rfl⟩
  obtain ⟨n3, e3⟩ : ∃ n, ((slotN.take ns).map sltOf).length = n := ⟨_, rfl⟩
  rw [e1] at RA
  rw [e2] at RP
  rw [e3] at RS
  obtain ⟨Ba, ca, rfl, _⟩ := RA.shape
  obtain ⟨Bp, cp, rfl, _⟩ := RP.shape
  obtain ⟨Bs, cc, rfl, _⟩ := RS.shape
  have HNA := Lib.hid hna
  have HNP := Lib.hid hnp
  have HNS := Lib.hid hns
  clear HN RA RP RS e1 e2 e3 hna hnp hns
  go_wp2_with (first
      | go_skip
      | ((with_reducible refine isLoad ?_); refine ldA H ?_ (hT := by first | exact rJob | exact rStm8 | exact rWks))
      | ((with_reducible refine isLoad ?_); refine ld1A H ?_ (hT := by first | exact kInt | exact kStl | exact kBll | exact kStr))
      | ((with_reducible refine isStore ?_); refine stA H ?_ (hT := by first | exact rWks | exact rJob); clear H; intro _ H)
      | ((with_reducible refine isAlloc ?_); first | (refine alA H ?_ (hz := zWksW); clear H; intro q5 _ H) | (refine alA H ?_ (hz := zJob); clear H; intro qc _ H)))
  refine wp_region_Y 8 [.c (.agg #[.slice Ba n1 ca, .slice none 0 0, .slice Bp n2 cp, .slice Bs n3 cc, .slice none 0 0, .bool false, .string ⟨#[]⟩, .string ⟨#[]⟩]), .c (.slice A2 b2 c2), .y, .c (.agg #[.slice Ba n1 ca, .slice none 0 0, .slice Bp n2 cp, .slice Bs n3 cc, .slice none 0 0, .bool false, .string ⟨#[]⟩, .string ⟨#[]⟩]), .c (.slice A3 b3 c3), .y, .a, .b] ((q5, 31, [.slice Ba n1 ca, .slice none 0 0, .slice Bp n2 cp, .slice Bs n3 cc, .slice none 0 0, .bool false, .string ⟨#[]⟩, .string ⟨#[]⟩]) :: E) H (by (repeat (first | exact List.Sublist.refl _ | refine List.Sublist.cons_cons _ ?_ | refine List.Sublist.trans ?_ (List.sublist_append_right _ _) | refine List.Sublist.cons _ ?_))) (by kernel_rfl) (by kernel_rfl) (by kernel_rfl) ?_
  simp only [List.take_succ_cons, List.take_zero, List.drop_succ_cons, List.drop_zero]
  refine wpY_load (by rfl) (by rfl) (by (first | exact wanted_none rfl | exact wanted_some rfl rfl)) rWks (by rfl) (by (repeat (first | exact List.Mem.head _ | refine List.Mem.tail _ ?_ | assumption))) (by first | rfl | ((simp only [List.drop, List.take]); rfl)) (by rfl) ?_
  (simp only [Act.put, List.setIfInBounds_toArray, List.set_cons_succ, List.set_cons_zero])
  refine wpY_c (by rfl) (by (first | exact wanted_none rfl | exact wanted_some rfl rfl)) (by intro W _; first | (go_simp; rfl) | (go_simp; done) | (trace_state; fail)) ?_
  (simp only [Act.put, List.setIfInBounds_toArray, List.set_cons_succ, List.set_cons_zero])
  refine wpY_y (by rfl) (by (first | exact wanted_none rfl | exact wanted_some rfl rfl)) (fun G F W HF hG => ?_)
  go_simp
  unfold upY
  rw [← HV2.out]
  refine Calls.mono (Job_any na np ns HNA.out HNP.out HNS.out w W (((q5, 31, [.slice Ba n1 ca, .slice none 0 0, .slice Bp n2 cp, .slice Bs n3 cc, .slice none 0 0, .bool false, .string ⟨#[]⟩, .string ⟨#[]⟩]) :: E) ++ F) E S2 _ HF HS2 WV (Lib.hid (fun x hx => by simp [hx]))) ?_
  rintro _ W2 ⟨x1, l1, E1, rfl, h2, hR1, hV1⟩
  obtain ⟨B1, d1, rfl⟩ := hR1.shape
  refine ⟨_, rfl, hG _ _ (E1 ++ ((q5, 31, [.slice Ba n1 ca, .slice none 0 0, .slice Bp n2 cp, .slice Bs n3 cc, .slice none 0 0, .bool false, .string ⟨#[]⟩, .string ⟨#[]⟩]) :: E)) (by simpa only [List.cons_append, List.append_assoc] using h2) (by (repeat (first | exact List.Sublist.refl _ | refine List.Sublist.cons_cons _ ?_ | refine List.Sublist.trans ?_ (List.sublist_append_right _ _) | refine List.Sublist.cons _ ?_))) ?_⟩
  have HR1 := Lib.hid hR1
  have HV_1 := Lib.hid hV1
  clear HF hG h2 hR1 hV1
  (simp only [Act.put, List.setIfInBounds_toArray, List.set_cons_succ, List.set_cons_zero])
  refine wpY_load (by rfl) (by rfl) (by (first | exact wanted_none rfl | exact wanted_some rfl rfl)) rWks (by rfl) (by (repeat (first | exact List.Mem.head _ | refine List.Mem.tail _ ?_ | assumption))) (by first | rfl | ((simp only [List.drop, List.take]); rfl)) (by rfl) ?_
  (simp only [Act.put, List.setIfInBounds_toArray, List.set_cons_succ, List.set_cons_zero])
  refine wpY_c (by rfl) (by (first | exact wanted_none rfl | exact wanted_some rfl rfl)) (by intro W _; first | (go_simp; rfl) | (go_simp; done) | (trace_state; fail)) ?_
  (simp only [Act.put, List.setIfInBounds_toArray, List.set_cons_succ, List.set_cons_zero])
  refine wpY_y (by rfl) (by (first | exact wanted_none rfl | exact wanted_some rfl rfl)) (fun G F W HF hG => ?_)
  go_simp
  unfold upY
  rw [← HV3.out]
  refine Calls.mono (Job_any na np ns HNA.out HNP.out HNS.out w W ((E1 ++ ((q5, 31, [.slice Ba n1 ca, .slice none 0 0, .slice Bp n2 cp, .slice Bs n3 cc, .slice none 0 0, .bool false, .string ⟨#[]⟩, .string ⟨#[]⟩]) :: E)) ++ F) E S3 _ HF HS3 WV (Lib.hid (fun x hx => by simp [hx]))) ?_
  rintro _ W2 ⟨x2, l2, E2, rfl, h2, hR2, hV2⟩
  obtain ⟨B2, d2, rfl⟩ := hR2.shape
  refine ⟨_, rfl, hG _ _ (E2 ++ (E1 ++ ((q5, 31, [.slice Ba n1 ca, .slice none 0 0, .slice Bp n2 cp, .slice Bs n3 cc, .slice none 0 0, .bool false, .string ⟨#[]⟩, .string ⟨#[]⟩]) :: E))) (by simpa only [List.cons_append, List.append_assoc] using h2) (by (repeat (first | exact List.Sublist.refl _ | refine List.Sublist.cons_cons _ ?_ | refine List.Sublist.trans ?_ (List.sublist_append_right _ _) | refine List.Sublist.cons _ ?_))) ?_⟩
  have HR2 := Lib.hid hR2
  have HV_2 := Lib.hid hV2
  clear HF hG h2 hR2 hV2
  (simp only [Act.put, List.setIfInBounds_toArray, List.set_cons_succ, List.set_cons_zero])
  refine wpY_al (by rfl) (by rfl) (by rfl) zJob (by (simp only [Value.cells]; rfl)) ?_
  intro qa
  (simp only [Act.put, List.setIfInBounds_toArray, List.set_cons_succ, List.set_cons_zero])
  refine wpY_alB (by rfl) (by rfl) (by rfl) zJob (by simp only [Value.cells]; rfl) ?_
  intro qb
  (simp only [Act.put, List.setIfInBounds_toArray, List.set_cons_succ, List.set_cons_zero])
  refine wpY_nil ?_
  clear H
  intro _ H
  replace H := Lib.hid (H.out.perm (List.perm_append_singleton _ _))
  go_wp2_with (first
      | go_skip
      | ((with_reducible refine isLoad ?_); refine ldA H ?_ (hT := by first | exact rJob | exact rStm8 | exact rWks))
      | ((with_reducible refine isLoad ?_); refine ld1A H ?_ (hT := by first | exact kInt | exact kStl | exact kBll | exact kStr))
      | ((with_reducible refine isStore ?_); refine stA H ?_ (hT := by first | exact rWks | exact rJob); clear H; intro _ H)
      | ((with_reducible refine isAlloc ?_); first | (refine alA H ?_ (hz := zWksW); clear H; intro q5 _ H) | (refine alA H ?_ (hz := zJob); clear H; intro qc _ H)))
  obtain ⟨xa, hxa⟩ : ∃ v, wgt l1 = v := ⟨_, rfl⟩
  obtain ⟨xb, hxb⟩ : ∃ v, wgt l2 = v := ⟨_, rfl⟩
  obtain ⟨ba1, ba2, _⟩ := wgt_ok HNA.out HNP.out HNS.out HV_1.out
  obtain ⟨bb1, bb2, _⟩ := wgt_ok HNA.out HNP.out HNS.out HV_2.out
  have hk1 := weigh_one HNA.out HNP.out HNS.out task_nm HV_1.out
  have hk2 := weigh_one HNA.out HNP.out HNS.out task_nm HV_2.out
  have hk3 := weigh_both HNA.out HNP.out HNS.out both_nm HV_1.out HV_2.out
  have hk4 := fun k : Int => weigh_again (n := k) HNA.out HNP.out HNS.out again_nm HV_1.out
  simp only [hxa, hxb] at ba1 ba2 bb1 bb2 hk1 hk2 hk3 hk4
  obtain ⟨l3, hl3⟩ : ∃ l, l1 ++ l2 = l := ⟨_, rfl⟩
  have hlv : (lvL 3 l3).length = (lvL 3 l1).length + (lvL 3 l2).length := by rw [← hl3]; unfold lvL; rw [List.flatMap_append, List.length_append]
  rw [hl3] at hk3
  have HL3 := Lib.hid hl3
  have HLV := Lib.hid hlv
  have HK1 := Lib.hid hk1
  have HK2 := Lib.hid hk2
  have HK3 := Lib.hid hk3
  have HK4 := Lib.hid hk4
  have HLN1 := Lib.hid HV_1.out.1
  have HLN2 := Lib.hid HV_2.out.1
  have hsz : ∀ s : ByteArray, s.size ≤ 100 → s.size ≤ maxLen := fun s h => by unfold maxLen; omega
  have hsum : IntKind.i64.wrap (xa + xb) = xa + xb := IntWalk.i64_in _ (by omega)
  have hsle : decide (xa + xb ≤ 100) = true := decide_eq_true (by omega)
  clear hl3 hlv hk1 hk2 hk3 hk4 hxa hxb HV_1 HV_2 HS1 HS2 HS3 HV1 HV2 HV3 WV
  go_at_call 15
  refine Calls.mono (Weight_any 3 ⟨#[116, 97, 115, 107]⟩ l1 _ E1 _ _ _ H (Lib.hid (fun x hx => by simp [hx])) HR1 (hsz _ (by decide))) ?_
  rintro _ _ ⟨rfl, h2⟩
  replace H := Lib.hid h2
  rw [HK1.out.1]
  clear h2
  go_wp2_with (first
      | go_skip
      | ((with_reducible refine isLoad ?_); refine ldA H ?_ (hT := by first | exact rJob | exact rStm8 | exact rWks))
      | ((with_reducible refine isLoad ?_); refine ld1A H ?_ (hT := by first | exact kInt | exact kStl | exact kBll | exact kStr))
      | ((with_reducible refine isStore ?_); refine stA H ?_ (hT := by first | exact rWks | exact rJob); clear H; intro _ H)
      | ((with_reducible refine isAlloc ?_); first | (refine alA H ?_ (hz := zWksW); clear H; intro q5 _ H) | (refine alA H ?_ (hz := zJob); clear H; intro qc _ H)))
  go_at_call 15
  refine Calls.mono (Weight_any 3 ⟨#[116, 97, 115, 107]⟩ l2 _ E2 _ _ _ H (Lib.hid (fun x hx => by simp [hx])) HR2 (hsz _ (by decide))) ?_
  rintro _ _ ⟨rfl, h2⟩
  replace H := Lib.hid h2
  rw [HK2.out.1]
  clear h2
  go_wp2_with (first
      | go_skip
      | ((with_reducible refine isLoad ?_); refine ldA H ?_ (hT := by first | exact rJob | exact rStm8 | exact rWks))
      | ((with_reducible refine isLoad ?_); refine ld1A H ?_ (hT := by first | exact kInt | exact kStl | exact kBll | exact kStr))
      | ((with_reducible refine isStore ?_); refine stA H ?_ (hT := by first | exact rWks | exact rJob); clear H; intro _ H)
      | ((with_reducible refine isAlloc ?_); first | (refine alA H ?_ (hz := zWksW); clear H; intro q5 _ H) | (refine alA H ?_ (hz := zJob); clear H; intro qc _ H))
      | ((with_reducible refine isSlc ?_); refine bsA 56 [.slice B1 l1.length d1, .slice B2 l2.length d2] 2 H ?_; clear H; intro gz _ H))
  go_at_call 16
  refine Calls.mono (concat2_any E1 E2 3 gz l1 l2 _ _ _ _ _ H (Lib.hid (.head _)) (Lib.hid (fun x hx => by simp [hx])) (Lib.hid (fun x hx => by simp [hx])) HR1 HR2 (by have := HLN1.out; omega) (by have := HLN2.out; omega)) ?_
  rintro _ _ ⟨v4, cur4, rfl, hR, h2⟩
  rw [HL3.out] at hR
  obtain ⟨B4, c4, rfl⟩ := hR.shape
  obtain ⟨n4, hn4⟩ : ∃ n, l3.length = n := ⟨_, rfl⟩
  rw [hn4] at hR h2 ⊢
  replace H := Lib.hid (h2.perm List.perm_append_comm)
  simp only [List.cons_append, List.append_assoc] at H
  have HR3 := Lib.hid hR
  have HEB : Hid (∀ x ∈ rowE (.slice B4 n4 c4) 53 cur4 ++ (E1 ++ E2), x ∈ E2 ++ (E1 ++ ((q5, 31, [.slice Ba n1 ca, .slice none 0 0, .slice Bp n2 cp, .slice Bs n3 cc, .slice none 0 0, .bool false, .string ⟨#[]⟩, .string ⟨#[]⟩]) :: (E ++ rowE (.slice B4 n4 c4) 53 cur4)))) := Lib.hid (fun x hx => by
    simp only [List.mem_append, List.mem_cons] at hx ⊢
    rcases hx with h | h | h <;> simp [h])
  clear hn4 h2 hR
  go_wp2_with (first
      | go_skip
      | ((with_reducible refine isLoad ?_); refine ldA H ?_ (hT := by first | exact rJob | exact rStm8 | exact rWks))
      | ((with_reducible refine isLoad ?_); refine ld1A H ?_ (hT := by first | exact kInt | exact kStl | exact kBll | exact kStr))
      | ((with_reducible refine isStore ?_); refine stA H ?_ (hT := by first | exact rWks | exact rJob); clear H; intro _ H)
      | ((with_reducible refine isAlloc ?_); first | (refine alA H ?_ (hz := zWksW); clear H; intro q5 _ H) | (refine alA H ?_ (hz := zJob); clear H; intro qc _ H)))
  go_at_call 15
  refine Calls.mono (Weight_any 3 ⟨#[98, 111, 116, 104]⟩ l3 _ (rowE (.slice B4 n4 c4) 53 cur4 ++ (E1 ++ E2)) _ _ _ H (Lib.hid (fun x hx => .tail _ (.tail _ (.tail _ (.tail _ (HEB.out x hx)))))) HR3 (hsz _ (by decide))) ?_
  rintro _ _ ⟨rfl, h2⟩
  replace H := Lib.hid h2
  rw [HK3.out.1]
  clear h2
  go_wp2_with (first
      | go_skip
      | ((with_reducible refine isLoad ?_); refine ldA H ?_ (hT := by first | exact rJob | exact rStm8 | exact rWks))
      | ((with_reducible refine isLoad ?_); refine ld1A H ?_ (hT := by first | exact kInt | exact kStl | exact kBll | exact kStr))
      | ((with_reducible refine isStore ?_); refine stA H ?_ (hT := by first | exact rWks | exact rJob); clear H; intro _ H)
      | ((with_reducible refine isAlloc ?_); first | (refine alA H ?_ (hz := zWksW); clear H; intro q5 _ H) | (refine alA H ?_ (hz := zJob); clear H; intro qc _ H)))
  go_at_call 17
  refine Calls.mono (parsed_any w _ _ H) ?_
  rintro _ _ ⟨rfl, h2⟩
  replace H := Lib.hid h2
  clear h2
  go_wp2_with (first
      | go_skip
      | ((with_reducible refine isLoad ?_); refine ldA H ?_ (hT := by first | exact rJob | exact rStm8 | exact rWks))
      | ((with_reducible refine isLoad ?_); refine ld1A H ?_ (hT := by first | exact kInt | exact kStl | exact kBll | exact kStr))
      | ((with_reducible refine isStore ?_); refine stA H ?_ (hT := by first | exact rWks | exact rJob); clear H; intro _ H)
      | ((with_reducible refine isAlloc ?_); first | (refine alA H ?_ (hz := zWksW); clear H; intro q5 _ H) | (refine alA H ?_ (hz := zJob); clear H; intro qc _ H)))
  go_at_call 7
  refine (below_any n 5 _ (by decide) hn1 hn2 (by decide)).mono ?_
  rintro _ _ ⟨rfl, rfl⟩
  obtain ⟨r, hr⟩ : ∃ r, n % 5 = r := ⟨_, rfl⟩
  have hr0 : 0 ≤ r ∧ r < 5 := by omega
  rw [hr]
  have hwr : IntKind.i64.wrap (1 + r) = 1 + r := IntWalk.i64_in _ (by omega)
  clear hr
  go_wp2_with (first
      | go_skip
      | ((with_reducible refine isLoad ?_); refine ldA H ?_ (hT := by first | exact rJob | exact rStm8 | exact rWks))
      | ((with_reducible refine isLoad ?_); refine ld1A H ?_ (hT := by first | exact kInt | exact kStl | exact kBll | exact kStr))
      | ((with_reducible refine isStore ?_); refine stA H ?_ (hT := by first | exact rWks | exact rJob); clear H; intro _ H)
      | ((with_reducible refine isAlloc ?_); first | (refine alA H ?_ (hz := zWksW); clear H; intro q5 _ H) | (refine alA H ?_ (hz := zJob); clear H; intro qc _ H))
      | ((with_reducible refine isSlc (t := 51) ?_); refine bsA 56 [.slice B1 l1.length d1] 1 H ?_; clear H; intro gy _ H)
      | ((with_reducible refine isSlc (t := 56) ?_); refine bsA 53 [.int .i64 7, .string ⟨#[]⟩, .string ⟨#[]⟩, .bool false, .string ⟨#[]⟩, .string ⟨#[]⟩, .int .i64 (1 + r), .slice (some ⟨gy, 0, none⟩) 1 1] 1 H ?_; clear H; intro gs _ H))
  have HRA : Hid (RSs ((gs, 53, [.int .i64 7, .string ⟨#[]⟩, .string ⟨#[]⟩, .bool false, .string ⟨#[]⟩, .string ⟨#[]⟩, .int .i64 (1 + r), .slice (some ⟨gy, 0, none⟩) 1 1]) :: (gy, 56, [.slice B1 l1.length d1]) :: E1) 4 [(.mk 7 ⟨#[]⟩ ⟨#[]⟩ none (1 + r) [l1])] (.slice (some ⟨gs, 0, none⟩) 1 1)) := Lib.hid ⟨[⟨7, ⟨#[]⟩, ⟨#[]⟩, none, 1 + r, .slice (some ⟨gy, 0, none⟩) 1 1⟩], (RowIn.lit (g := gs) (n := 1) (e := 53) (size := 8) (xs := [.int .i64 7, .string ⟨#[]⟩, .string ⟨#[]⟩, .bool false, .string ⟨#[]⟩, .string ⟨#[]⟩, .int .i64 (1 + r), .slice (some ⟨gy, 0, none⟩) 1 1]) rfl (by unfold maxLen; omega)).mono (by simp), All2.cons (RSt.one_ (.tail _ (.head _)) (HR1.out.mono (fun x hx => .tail _ (.tail _ hx))) (by omega) (by omega)) All2.nil⟩
  have HMU := Lib.hid (show (1 + r) * xa ≤ 210 ∧ 0 ≤ (1 + r) * xa by
    rcases (by omega : r = 0 ∨ r = 1 ∨ r = 2 ∨ r = 3 ∨ r = 4) with rfl | rfl | rfl | rfl | rfl <;> omega)
  obtain ⟨p, hp⟩ : ∃ p, (1 + r) * xa = p := ⟨_, rfl⟩
  have hK4 := HK4.out (1 + r) (by omega) (by omega)
  rw [hp] at hK4 HMU
  have hwm : IntKind.i64.wrap ((1 + r) * xa) = p := by rw [hp]; exact IntWalk.i64_in _ (by have := HMU.out; omega)
  have hwp : IntKind.i64.wrap (1 + p) = 1 + p := IntWalk.i64_in _ (by have := HMU.out; omega)
  by_cases hc : 1 + p ≤ 100
  · rw [if_pos hc] at hK4
    have HKA := Lib.hid hK4
    have hc1 : decide (100 < 1 + p) = false := decide_eq_false (by omega)
    clear hK4 hp
    go_at_call 15
    refine Calls.mono (Weight_any 4 ⟨#[97, 103, 97, 105, 110]⟩ [(.mk 7 ⟨#[]⟩ ⟨#[]⟩ none (1 + r) [l1])] _ ((gs, 53, [.int .i64 7, .string ⟨#[]⟩, .string ⟨#[]⟩, .bool false, .string ⟨#[]⟩, .string ⟨#[]⟩, .int .i64 (1 + r), .slice (some ⟨gy, 0, none⟩) 1 1]) :: (gy, 56, [.slice B1 l1.length d1]) :: E1) _ _ _ H (Lib.hid (fun x hx => by
      simp only [List.mem_cons] at hx ⊢
      rcases hx with h | h | h <;> simp [h])) HRA (hsz _ (by decide))) ?_
    rintro _ _ ⟨rfl, h2⟩
    replace H := Lib.hid h2
    rw [HKA.out]
    clear h2
    go_wp2_with (first
        | go_skip)
    obtain ⟨k1, hk1⟩ : ∃ k, (lvL 3 l1).length = k := ⟨_, rfl⟩
    obtain ⟨k2, hk2⟩ : ∃ k, (lvL 3 l2).length = k := ⟨_, rfl⟩
    have hk3 := HLV.out
    rw [hk1, hk2] at hk3
    have bk1 := lvL_le HK1.out.2
    have bk2 := lvL_le HK2.out.2
    rw [hk1] at bk1
    rw [hk2] at bk2
    have hwk : IntKind.i64.wrap ((k1 : Int) + k2) = ((k1 + k2 : Nat) : Int) := by rw [IntWalk.i64_in _ (by omega)]; omega
    have L1 := Lib.hid hk1
    have L2 := Lib.hid hk2
    have L3 := Lib.hid hk3
    clear hk1 hk2 hk3 hc
    refine wp_region_Y 38 [.c (.int .i64 0), .c (.bool false), .c (.bool false), .c undef, .c undef, .c (.bool false), .c (.bool false), .c undef, .c undef, .c undef, .c undef, .c undef, .c (.bool false), .c (.bool false), .c (.int .i64 0), .c (.bool true), .c (.bool true), .c (.int .i64 (1 + p)), .c (.int .i64 (1 + r)), .c (.int .i64 xa), .c (.int .i64 p), .c (.int .i64 (1 + p)), .c (.bool true), .c (.bool true), .c (.bool true), .c (.agg #[.string ⟨#[98, 111, 116, 104]⟩, .slice B4 n4 c4]), .y, .c (.int .i64 ((k1 + k2 : Nat) : Int)), .c (.agg #[.string ⟨#[116, 97, 115, 107]⟩, .slice B1 l1.length d1]), .y, .c (.int .i64 (k1 : Int)), .c (.agg #[.string ⟨#[116, 97, 115, 107]⟩, .slice B2 l2.length d2]), .y, .c (.int .i64 (k2 : Int)), .c (.int .i64 ((k1 + k2 : Nat) : Int)), .c (.bool true), .c (.bool true), .c (.bool true)] ((gs, 53, [.int .i64 7, .string ⟨#[]⟩, .string ⟨#[]⟩, .bool false, .string ⟨#[]⟩, .string ⟨#[]⟩, .int .i64 (1 + r), .slice (some ⟨gy, 0, none⟩) 1 1]) :: (gy, 56, [.slice B1 l1.length d1]) :: (qc, 58, [.string ⟨#[98, 111, 116, 104]⟩, .slice B4 n4 c4]) :: (gz, 56, [.slice B1 l1.length d1, .slice B2 l2.length d2]) :: (qb, 58, [.string ⟨#[116, 97, 115, 107]⟩, .slice B2 l2.length d2]) :: (qa, 58, [.string ⟨#[116, 97, 115, 107]⟩, .slice B1 l1.length d1]) :: (E2 ++ (E1 ++ ((q5, 31, [.slice Ba n1 ca, .slice none 0 0, .slice Bp n2 cp, .slice Bs n3 cc, .slice none 0 0, .bool false, .string ⟨#[]⟩, .string ⟨#[]⟩]) :: (E ++ rowE (.slice B4 n4 c4) 53 cur4))))) H (by (repeat (first | exact List.Sublist.refl _ | refine List.Sublist.cons_cons _ ?_ | refine List.Sublist.trans ?_ (List.sublist_append_right _ _) | refine List.Sublist.cons _ ?_))) (by kernel_rfl) (by kernel_rfl) (by kernel_rfl) ?_
    simp only [List.take_succ_cons, List.take_zero, List.drop_succ_cons, List.drop_zero]
    refine wpY_c (by rfl) (by (first | exact wanted_none rfl | exact wanted_some rfl rfl)) (by intro W _; first | (go_simp; rfl) | (go_simp; done) | (trace_state; fail)) ?_
    (simp only [Act.put, List.setIfInBounds_toArray, List.set_cons_succ, List.set_cons_zero])
    refine wpY_c (by rfl) (by (first | exact wanted_none rfl | exact wanted_some rfl rfl)) (by intro W _; first | (go_simp; rfl) | (go_simp; done) | (trace_state; fail)) ?_
    (simp only [Act.put, List.setIfInBounds_toArray, List.set_cons_succ, List.set_cons_zero])
    refine wpY_c (by rfl) (by (first | exact wanted_none rfl | exact wanted_some rfl rfl)) (by intro W _; first | (go_simp; rfl) | (go_simp; done) | (trace_state; fail)) ?_
    (simp only [Act.put, List.setIfInBounds_toArray, List.set_cons_succ, List.set_cons_zero])
    refine wpY_skip (by rfl) rfl rfl ?_
    (simp only [Act.put, List.setIfInBounds_toArray, List.set_cons_succ, List.set_cons_zero])
    refine wpY_skip (by rfl) rfl rfl ?_
    (simp only [Act.put, List.setIfInBounds_toArray, List.set_cons_succ, List.set_cons_zero])
    refine wpY_c (by rfl) (by (first | exact wanted_none rfl | exact wanted_some rfl rfl)) (by intro W _; first | (go_simp; rfl) | (go_simp; done) | (trace_state; fail)) ?_
    (simp only [Act.put, List.setIfInBounds_toArray, List.set_cons_succ, List.set_cons_zero])
    refine wpY_c (by rfl) (by (first | exact wanted_none rfl | exact wanted_some rfl rfl)) (by intro W _; first | (go_simp; rfl) | (go_simp; done) | (trace_state; fail)) ?_
    (simp only [Act.put, List.setIfInBounds_toArray, List.set_cons_succ, List.set_cons_zero])
    refine wpY_skip (by rfl) rfl rfl ?_
    (simp only [Act.put, List.setIfInBounds_toArray, List.set_cons_succ, List.set_cons_zero])
    refine wpY_skip (by rfl) rfl rfl ?_
    (simp only [Act.put, List.setIfInBounds_toArray, List.set_cons_succ, List.set_cons_zero])
    refine wpY_skip (by rfl) rfl rfl ?_
    (simp only [Act.put, List.setIfInBounds_toArray, List.set_cons_succ, List.set_cons_zero])
    refine wpY_skip (by rfl) rfl rfl ?_
    (simp only [Act.put, List.setIfInBounds_toArray, List.set_cons_succ, List.set_cons_zero])
    refine wpY_skip (by rfl) rfl rfl ?_
    (simp only [Act.put, List.setIfInBounds_toArray, List.set_cons_succ, List.set_cons_zero])
    refine wpY_c (by rfl) (by (first | exact wanted_none rfl | exact wanted_some rfl rfl)) (by intro W _; first | (go_simp; rfl) | (go_simp; done) | (trace_state; fail)) ?_
    (simp only [Act.put, List.setIfInBounds_toArray, List.set_cons_succ, List.set_cons_zero])
    refine wpY_c (by rfl) (by (first | exact wanted_none rfl | exact wanted_some rfl rfl)) (by intro W _; first | (go_simp; rfl) | (go_simp; done) | (trace_state; fail)) ?_
    (simp only [Act.put, List.setIfInBounds_toArray, List.set_cons_succ, List.set_cons_zero])
    refine wpY_c (by rfl) (by (first | exact wanted_none rfl | exact wanted_some rfl rfl)) (by intro W _; first | (go_simp; rfl) | (go_simp; done) | (trace_state; fail)) ?_
    (simp only [Act.put, List.setIfInBounds_toArray, List.set_cons_succ, List.set_cons_zero])
    refine wpY_c (by rfl) (by (first | exact wanted_none rfl | exact wanted_some rfl rfl)) (by intro W _; first | (go_simp; rfl) | (go_simp; done) | (trace_state; fail)) ?_
    (simp only [Act.put, List.setIfInBounds_toArray, List.set_cons_succ, List.set_cons_zero])
    refine wpY_c (by rfl) (by (first | exact wanted_none rfl | exact wanted_some rfl rfl)) (by intro W _; first | (go_simp; rfl) | (go_simp; done) | (trace_state; fail)) ?_
    (simp only [Act.put, List.setIfInBounds_toArray, List.set_cons_succ, List.set_cons_zero])
    refine wpY_c (by rfl) (by (first | exact wanted_none rfl | exact wanted_some rfl rfl)) (by intro W _; first | (go_simp; rfl) | (go_simp; done) | (trace_state; fail)) ?_
    (simp only [Act.put, List.setIfInBounds_toArray, List.set_cons_succ, List.set_cons_zero])
    refine wpY_c (by rfl) (by (first | exact wanted_none rfl | exact wanted_some rfl rfl)) (by intro W _; first | (go_simp; rfl) | (go_simp; done) | (trace_state; fail)) ?_
    (simp only [Act.put, List.setIfInBounds_toArray, List.set_cons_succ, List.set_cons_zero])
    refine wpY_c (by rfl) (by (first | exact wanted_none rfl | exact wanted_some rfl rfl)) (by intro W _; first | (go_simp; rfl) | (go_simp; done) | (trace_state; fail)) ?_
    (simp only [Act.put, List.setIfInBounds_toArray, List.set_cons_succ, List.set_cons_zero])
    refine wpY_c (by rfl) (by (first | exact wanted_none rfl | exact wanted_some rfl rfl)) (by intro W _; first | (go_simp; rfl) | (go_simp; done) | (trace_state; fail)) ?_
    (simp only [Act.put, List.setIfInBounds_toArray, List.set_cons_succ, List.set_cons_zero])
    refine wpY_c (by rfl) (by (first | exact wanted_none rfl | exact wanted_some rfl rfl)) (by intro W _; first | (go_simp; rfl) | (go_simp; done) | (trace_state; fail)) ?_
    (simp only [Act.put, List.setIfInBounds_toArray, List.set_cons_succ, List.set_cons_zero])
    refine wpY_c (by rfl) (by (first | exact wanted_none rfl | exact wanted_some rfl rfl)) (by intro W _; first | (go_simp; rfl) | (go_simp; done) | (trace_state; fail)) ?_
    (simp only [Act.put, List.setIfInBounds_toArray, List.set_cons_succ, List.set_cons_zero])
    refine wpY_c (by rfl) (by (first | exact wanted_none rfl | exact wanted_some rfl rfl)) (by intro W _; first | (go_simp; rfl) | (go_simp; done) | (trace_state; fail)) ?_
    (simp only [Act.put, List.setIfInBounds_toArray, List.set_cons_succ, List.set_cons_zero])
    refine wpY_c (by rfl) (by (first | exact wanted_none rfl | exact wanted_some rfl rfl)) (by intro W _; first | (go_simp; rfl) | (go_simp; done) | (trace_state; fail)) ?_
    (simp only [Act.put, List.setIfInBounds_toArray, List.set_cons_succ, List.set_cons_zero])
    refine wpY_load (by rfl) (by rfl) (by (first | exact wanted_none rfl | exact wanted_some rfl rfl)) rJob (by rfl) (by (repeat (first | exact List.Mem.head _ | refine List.Mem.tail _ ?_ | assumption))) (by first | rfl | ((simp only [List.drop, List.take]); rfl)) (by rfl) ?_
    (simp only [Act.put, List.setIfInBounds_toArray, List.set_cons_succ, List.set_cons_zero])
    refine wpY_y (by rfl) (by (first | exact wanted_none rfl | exact wanted_some rfl rfl)) (fun G F W HF hG => ?_)
    go_simp
    unfold upY
    refine Calls.mono (Leaves_any 3 w W (((gs, 53, [.int .i64 7, .string ⟨#[]⟩, .string ⟨#[]⟩, .bool false, .string ⟨#[]⟩, .string ⟨#[]⟩, .int .i64 (1 + r), .slice (some ⟨gy, 0, none⟩) 1 1]) :: (gy, 56, [.slice B1 l1.length d1]) :: (qc, 58, [.string ⟨#[98, 111, 116, 104]⟩, .slice B4 n4 c4]) :: (gz, 56, [.slice B1 l1.length d1, .slice B2 l2.length d2]) :: (qb, 58, [.string ⟨#[116, 97, 115, 107]⟩, .slice B2 l2.length d2]) :: (qa, 58, [.string ⟨#[116, 97, 115, 107]⟩, .slice B1 l1.length d1]) :: (E2 ++ (E1 ++ ((q5, 31, [.slice Ba n1 ca, .slice none 0 0, .slice Bp n2 cp, .slice Bs n3 cc, .slice none 0 0, .bool false, .string ⟨#[]⟩, .string ⟨#[]⟩]) :: (E ++ rowE (.slice B4 n4 c4) 53 cur4))))) ++ F) (rowE (.slice B4 n4 c4) 53 cur4 ++ (E1 ++ E2)) ⟨#[98, 111, 116, 104]⟩ l3 _ HF (Lib.hid (fun x hx => List.mem_append_left _ (.tail _ (.tail _ (.tail _ (.tail _ (.tail _ (.tail _ (HEB.out x hx))))))))) HR3 (hsz _ (by decide)) (by decide) (Lib.hid HK3.out.2)) ?_
    rintro _ W2 ⟨vv1, sv1, cv1, rfl, hA1, hV1, h2⟩
    have e1 := hA1.1.symm.trans L3.out
    rw [e1] at hV1
    obtain ⟨Bv1, cc1, rfl, _⟩ := hV1.shape
    refine ⟨_, rfl, hG _ _ (rowE (.slice Bv1 (k1 + k2) cc1) 53 cv1 ++ ((gs, 53, [.int .i64 7, .string ⟨#[]⟩, .string ⟨#[]⟩, .bool false, .string ⟨#[]⟩, .string ⟨#[]⟩, .int .i64 (1 + r), .slice (some ⟨gy, 0, none⟩) 1 1]) :: (gy, 56, [.slice B1 l1.length d1]) :: (qc, 58, [.string ⟨#[98, 111, 116, 104]⟩, .slice B4 n4 c4]) :: (gz, 56, [.slice B1 l1.length d1, .slice B2 l2.length d2]) :: (qb, 58, [.string ⟨#[116, 97, 115, 107]⟩, .slice B2 l2.length d2]) :: (qa, 58, [.string ⟨#[116, 97, 115, 107]⟩, .slice B1 l1.length d1]) :: (E2 ++ (E1 ++ ((q5, 31, [.slice Ba n1 ca, .slice none 0 0, .slice Bp n2 cp, .slice Bs n3 cc, .slice none 0 0, .bool false, .string ⟨#[]⟩, .string ⟨#[]⟩]) :: (E ++ rowE (.slice B4 n4 c4) 53 cur4)))))) (by simpa only [List.cons_append, List.append_assoc] using h2) (by (repeat (first | exact List.Sublist.refl _ | refine List.Sublist.cons_cons _ ?_ | refine List.Sublist.trans ?_ (List.sublist_append_right _ _) | refine List.Sublist.cons _ ?_))) ?_⟩
    clear HF hG h2 hA1 hV1 e1
    (simp only [Act.put, List.setIfInBounds_toArray, List.set_cons_succ, List.set_cons_zero])
    refine wpY_c (by rfl) (by (first | exact wanted_none rfl | exact wanted_some rfl rfl)) (by intro W _; first | (go_simp; rfl) | (go_simp; done) | (trace_state; fail)) ?_
    (simp only [Act.put, List.setIfInBounds_toArray, List.set_cons_succ, List.set_cons_zero])
    refine wpY_load (by rfl) (by rfl) (by (first | exact wanted_none rfl | exact wanted_some rfl rfl)) rJob (by rfl) (by (repeat (first | exact List.Mem.head _ | refine List.Mem.tail _ ?_ | assumption))) (by first | rfl | ((simp only [List.drop, List.take]); rfl)) (by rfl) ?_
    (simp only [Act.put, List.setIfInBounds_toArray, List.set_cons_succ, List.set_cons_zero])
    refine wpY_y (by rfl) (by (first | exact wanted_none rfl | exact wanted_some rfl rfl)) (fun G F W HF hG => ?_)
    go_simp
    unfold upY
    refine Calls.mono (Leaves_any 3 w W ((rowE (.slice Bv1 (k1 + k2) cc1) 53 cv1 ++ ((gs, 53, [.int .i64 7, .string ⟨#[]⟩, .string ⟨#[]⟩, .bool false, .string ⟨#[]⟩, .string ⟨#[]⟩, .int .i64 (1 + r), .slice (some ⟨gy, 0, none⟩) 1 1]) :: (gy, 56, [.slice B1 l1.length d1]) :: (qc, 58, [.string ⟨#[98, 111, 116, 104]⟩, .slice B4 n4 c4]) :: (gz, 56, [.slice B1 l1.length d1, .slice B2 l2.length d2]) :: (qb, 58, [.string ⟨#[116, 97, 115, 107]⟩, .slice B2 l2.length d2]) :: (qa, 58, [.string ⟨#[116, 97, 115, 107]⟩, .slice B1 l1.length d1]) :: (E2 ++ (E1 ++ ((q5, 31, [.slice Ba n1 ca, .slice none 0 0, .slice Bp n2 cp, .slice Bs n3 cc, .slice none 0 0, .bool false, .string ⟨#[]⟩, .string ⟨#[]⟩]) :: (E ++ rowE (.slice B4 n4 c4) 53 cur4)))))) ++ F) E1 ⟨#[116, 97, 115, 107]⟩ l1 _ HF (Lib.hid (fun x hx => List.mem_append_left _ (List.mem_append_right _ (.tail _ (.tail _ (.tail _ (.tail _ (.tail _ (.tail _ (List.mem_append_right _ (List.mem_append_left _ hx))))))))))) HR1 (hsz _ (by decide)) (by decide) (Lib.hid HK1.out.2)) ?_
    rintro _ W2 ⟨vv2, sv2, cv2, rfl, hA2, hV2, h2⟩
    have e2 := hA2.1.symm.trans L1.out
    rw [e2] at hV2
    obtain ⟨Bv2, cc2, rfl, _⟩ := hV2.shape
    refine ⟨_, rfl, hG _ _ (rowE (.slice Bv2 (k1) cc2) 53 cv2 ++ (rowE (.slice Bv1 (k1 + k2) cc1) 53 cv1 ++ ((gs, 53, [.int .i64 7, .string ⟨#[]⟩, .string ⟨#[]⟩, .bool false, .string ⟨#[]⟩, .string ⟨#[]⟩, .int .i64 (1 + r), .slice (some ⟨gy, 0, none⟩) 1 1]) :: (gy, 56, [.slice B1 l1.length d1]) :: (qc, 58, [.string ⟨#[98, 111, 116, 104]⟩, .slice B4 n4 c4]) :: (gz, 56, [.slice B1 l1.length d1, .slice B2 l2.length d2]) :: (qb, 58, [.string ⟨#[116, 97, 115, 107]⟩, .slice B2 l2.length d2]) :: (qa, 58, [.string ⟨#[116, 97, 115, 107]⟩, .slice B1 l1.length d1]) :: (E2 ++ (E1 ++ ((q5, 31, [.slice Ba n1 ca, .slice none 0 0, .slice Bp n2 cp, .slice Bs n3 cc, .slice none 0 0, .bool false, .string ⟨#[]⟩, .string ⟨#[]⟩]) :: (E ++ rowE (.slice B4 n4 c4) 53 cur4))))))) (by simpa only [List.cons_append, List.append_assoc] using h2) (by (repeat (first | exact List.Sublist.refl _ | refine List.Sublist.cons_cons _ ?_ | refine List.Sublist.trans ?_ (List.sublist_append_right _ _) | refine List.Sublist.cons _ ?_))) ?_⟩
    clear HF hG h2 hA2 hV2 e2
    (simp only [Act.put, List.setIfInBounds_toArray, List.set_cons_succ, List.set_cons_zero])
    refine wpY_c (by rfl) (by (first | exact wanted_none rfl | exact wanted_some rfl rfl)) (by intro W _; first | (go_simp; rfl) | (go_simp; done) | (trace_state; fail)) ?_
    (simp only [Act.put, List.setIfInBounds_toArray, List.set_cons_succ, List.set_cons_zero])
    refine wpY_load (by rfl) (by rfl) (by (first | exact wanted_none rfl | exact wanted_some rfl rfl)) rJob (by rfl) (by (repeat (first | exact List.Mem.head _ | refine List.Mem.tail _ ?_ | assumption))) (by first | rfl | ((simp only [List.drop, List.take]); rfl)) (by rfl) ?_
    (simp only [Act.put, List.setIfInBounds_toArray, List.set_cons_succ, List.set_cons_zero])
    refine wpY_y (by rfl) (by (first | exact wanted_none rfl | exact wanted_some rfl rfl)) (fun G F W HF hG => ?_)
    go_simp
    unfold upY
    refine Calls.mono (Leaves_any 3 w W ((rowE (.slice Bv2 k1 cc2) 53 cv2 ++ (rowE (.slice Bv1 (k1 + k2) cc1) 53 cv1 ++ ((gs, 53, [.int .i64 7, .string ⟨#[]⟩, .string ⟨#[]⟩, .bool false, .string ⟨#[]⟩, .string ⟨#[]⟩, .int .i64 (1 + r), .slice (some ⟨gy, 0, none⟩) 1 1]) :: (gy, 56, [.slice B1 l1.length d1]) :: (qc, 58, [.string ⟨#[98, 111, 116, 104]⟩, .slice B4 n4 c4]) :: (gz, 56, [.slice B1 l1.length d1, .slice B2 l2.length d2]) :: (qb, 58, [.string ⟨#[116, 97, 115, 107]⟩, .slice B2 l2.length d2]) :: (qa, 58, [.string ⟨#[116, 97, 115, 107]⟩, .slice B1 l1.length d1]) :: (E2 ++ (E1 ++ ((q5, 31, [.slice Ba n1 ca, .slice none 0 0, .slice Bp n2 cp, .slice Bs n3 cc, .slice none 0 0, .bool false, .string ⟨#[]⟩, .string ⟨#[]⟩]) :: (E ++ rowE (.slice B4 n4 c4) 53 cur4))))))) ++ F) E2 ⟨#[116, 97, 115, 107]⟩ l2 _ HF (Lib.hid (fun x hx => List.mem_append_left _ (List.mem_append_right _ (List.mem_append_right _ (.tail _ (.tail _ (.tail _ (.tail _ (.tail _ (.tail _ (List.mem_append_left _ hx))))))))))) HR2 (hsz _ (by decide)) (by decide) (Lib.hid HK2.out.2)) ?_
    rintro _ W2 ⟨vv3, sv3, cv3, rfl, hA3, hV3, h2⟩
    have e3 := hA3.1.symm.trans L2.out
    rw [e3] at hV3
    obtain ⟨Bv3, cc3, rfl, _⟩ := hV3.shape
    refine ⟨_, rfl, hG _ _ (rowE (.slice Bv3 (k2) cc3) 53 cv3 ++ (rowE (.slice Bv2 k1 cc2) 53 cv2 ++ (rowE (.slice Bv1 (k1 + k2) cc1) 53 cv1 ++ ((gs, 53, [.int .i64 7, .string ⟨#[]⟩, .string ⟨#[]⟩, .bool false, .string ⟨#[]⟩, .string ⟨#[]⟩, .int .i64 (1 + r), .slice (some ⟨gy, 0, none⟩) 1 1]) :: (gy, 56, [.slice B1 l1.length d1]) :: (qc, 58, [.string ⟨#[98, 111, 116, 104]⟩, .slice B4 n4 c4]) :: (gz, 56, [.slice B1 l1.length d1, .slice B2 l2.length d2]) :: (qb, 58, [.string ⟨#[116, 97, 115, 107]⟩, .slice B2 l2.length d2]) :: (qa, 58, [.string ⟨#[116, 97, 115, 107]⟩, .slice B1 l1.length d1]) :: (E2 ++ (E1 ++ ((q5, 31, [.slice Ba n1 ca, .slice none 0 0, .slice Bp n2 cp, .slice Bs n3 cc, .slice none 0 0, .bool false, .string ⟨#[]⟩, .string ⟨#[]⟩]) :: (E ++ rowE (.slice B4 n4 c4) 53 cur4)))))))) (by simpa only [List.cons_append, List.append_assoc] using h2) (by (repeat (first | exact List.Sublist.refl _ | refine List.Sublist.cons_cons _ ?_ | refine List.Sublist.trans ?_ (List.sublist_append_right _ _) | refine List.Sublist.cons _ ?_))) ?_⟩
    clear HF hG h2 hA3 hV3 e3
    (simp only [Act.put, List.setIfInBounds_toArray, List.set_cons_succ, List.set_cons_zero])
    refine wpY_c (by rfl) (by (first | exact wanted_none rfl | exact wanted_some rfl rfl)) (by intro W _; first | (go_simp; rfl) | (go_simp; done) | (trace_state; fail)) ?_
    (simp only [Act.put, List.setIfInBounds_toArray, List.set_cons_succ, List.set_cons_zero])
    refine wpY_c (by rfl) (by (first | exact wanted_none rfl | exact wanted_some rfl rfl)) (by intro W _; first | (go_simp; rfl) | (go_simp; done) | (trace_state; fail)) ?_
    (simp only [Act.put, List.setIfInBounds_toArray, List.set_cons_succ, List.set_cons_zero])
    refine wpY_c (by rfl) (by (first | exact wanted_none rfl | exact wanted_some rfl rfl)) (by intro W _; first | (go_simp; rfl) | (go_simp; done) | (trace_state; fail)) ?_
    (simp only [Act.put, List.setIfInBounds_toArray, List.set_cons_succ, List.set_cons_zero])
    refine wpY_c (by rfl) (by (first | exact wanted_none rfl | exact wanted_some rfl rfl)) (by intro W _; first | (go_simp; rfl) | (go_simp; done) | (trace_state; fail)) ?_
    (simp only [Act.put, List.setIfInBounds_toArray, List.set_cons_succ, List.set_cons_zero])
    refine wpY_c (by rfl) (by (first | exact wanted_none rfl | exact wanted_some rfl rfl)) (by intro W _; first | (go_simp; rfl) | (go_simp; done) | (trace_state; fail)) ?_
    (simp only [Act.put, List.setIfInBounds_toArray, List.set_cons_succ, List.set_cons_zero])
    refine wpY_nil ?_
    clear H
    intro _ H
    go_wp2_with (first
        | go_skip)
    go_ret
    exact ⟨rfl, H.out.bel⟩
  · rw [if_neg hc] at hK4
    have HKA := Lib.hid hK4
    have hc1 : decide (100 < 1 + p) = true := decide_eq_true (by omega)
    clear hK4 hp
    go_at_call 15
    refine Calls.mono (Weight_any 4 ⟨#[97, 103, 97, 105, 110]⟩ [(.mk 7 ⟨#[]⟩ ⟨#[]⟩ none (1 + r) [l1])] _ ((gs, 53, [.int .i64 7, .string ⟨#[]⟩, .string ⟨#[]⟩, .bool false, .string ⟨#[]⟩, .string ⟨#[]⟩, .int .i64 (1 + r), .slice (some ⟨gy, 0, none⟩) 1 1]) :: (gy, 56, [.slice B1 l1.length d1]) :: E1) _ _ _ H (Lib.hid (fun x hx => by
      simp only [List.mem_cons] at hx ⊢
      rcases hx with h | h | h <;> simp [h])) HRA (hsz _ (by decide))) ?_
    rintro _ _ ⟨rfl, h2⟩
    replace H := Lib.hid h2
    rw [HKA.out]
    clear h2
    go_wp2_with (first
        | go_skip)
    refine wp_region_Y 38 [.c (.int .i64 2), .c (.bool true), .c (.bool true), .c (.int .i64 2), .c (.bool true), .c (.bool true), .c (.bool true), .c (.int .i64 (1 + r)), .c (.int .i64 xa), .c (.int .i64 p), .c (.int .i64 (1 + p)), .c (.bool true), .c (.bool true), .c (.bool true), .c undef, .c undef, .c undef, .c undef, .c undef, .c undef, .c undef, .c undef, .c undef, .c undef, .c undef, .c undef, .c undef, .c undef, .c undef, .c undef, .c undef, .c undef, .c undef, .c undef, .c undef, .c undef, .c undef, .c (.bool true)] ((gs, 53, [.int .i64 7, .string ⟨#[]⟩, .string ⟨#[]⟩, .bool false, .string ⟨#[]⟩, .string ⟨#[]⟩, .int .i64 (1 + r), .slice (some ⟨gy, 0, none⟩) 1 1]) :: (gy, 56, [.slice B1 l1.length d1]) :: (qc, 58, [.string ⟨#[98, 111, 116, 104]⟩, .slice B4 n4 c4]) :: (gz, 56, [.slice B1 l1.length d1, .slice B2 l2.length d2]) :: (qb, 58, [.string ⟨#[116, 97, 115, 107]⟩, .slice B2 l2.length d2]) :: (qa, 58, [.string ⟨#[116, 97, 115, 107]⟩, .slice B1 l1.length d1]) :: (E2 ++ (E1 ++ ((q5, 31, [.slice Ba n1 ca, .slice none 0 0, .slice Bp n2 cp, .slice Bs n3 cc, .slice none 0 0, .bool false, .string ⟨#[]⟩, .string ⟨#[]⟩]) :: (E ++ rowE (.slice B4 n4 c4) 53 cur4))))) H (by (repeat (first | exact List.Sublist.refl _ | refine List.Sublist.cons_cons _ ?_ | refine List.Sublist.trans ?_ (List.sublist_append_right _ _) | refine List.Sublist.cons _ ?_))) (by kernel_rfl) (by kernel_rfl) (by kernel_rfl) ?_
    simp only [List.take_succ_cons, List.take_zero, List.drop_succ_cons, List.drop_zero]
    refine wpY_c (by rfl) (by (first | exact wanted_none rfl | exact wanted_some rfl rfl)) (by intro W _; first | (go_simp; rfl) | (go_simp; done) | (trace_state; fail)) ?_
    (simp only [Act.put, List.setIfInBounds_toArray, List.set_cons_succ, List.set_cons_zero])
    refine wpY_c (by rfl) (by (first | exact wanted_none rfl | exact wanted_some rfl rfl)) (by intro W _; first | (go_simp; rfl) | (go_simp; done) | (trace_state; fail)) ?_
    (simp only [Act.put, List.setIfInBounds_toArray, List.set_cons_succ, List.set_cons_zero])
    refine wpY_c (by rfl) (by (first | exact wanted_none rfl | exact wanted_some rfl rfl)) (by intro W _; first | (go_simp; rfl) | (go_simp; done) | (trace_state; fail)) ?_
    (simp only [Act.put, List.setIfInBounds_toArray, List.set_cons_succ, List.set_cons_zero])
    refine wpY_c (by rfl) (by (first | exact wanted_none rfl | exact wanted_some rfl rfl)) (by intro W _; first | (go_simp; rfl) | (go_simp; done) | (trace_state; fail)) ?_
    (simp only [Act.put, List.setIfInBounds_toArray, List.set_cons_succ, List.set_cons_zero])
    refine wpY_c (by rfl) (by (first | exact wanted_none rfl | exact wanted_some rfl rfl)) (by intro W _; first | (go_simp; rfl) | (go_simp; done) | (trace_state; fail)) ?_
    (simp only [Act.put, List.setIfInBounds_toArray, List.set_cons_succ, List.set_cons_zero])
    refine wpY_c (by rfl) (by (first | exact wanted_none rfl | exact wanted_some rfl rfl)) (by intro W _; first | (go_simp; rfl) | (go_simp; done) | (trace_state; fail)) ?_
    (simp only [Act.put, List.setIfInBounds_toArray, List.set_cons_succ, List.set_cons_zero])
    refine wpY_c (by rfl) (by (first | exact wanted_none rfl | exact wanted_some rfl rfl)) (by intro W _; first | (go_simp; rfl) | (go_simp; done) | (trace_state; fail)) ?_
    (simp only [Act.put, List.setIfInBounds_toArray, List.set_cons_succ, List.set_cons_zero])
    refine wpY_c (by rfl) (by (first | exact wanted_none rfl | exact wanted_some rfl rfl)) (by intro W _; first | (go_simp; rfl) | (go_simp; done) | (trace_state; fail)) ?_
    (simp only [Act.put, List.setIfInBounds_toArray, List.set_cons_succ, List.set_cons_zero])
    refine wpY_c (by rfl) (by (first | exact wanted_none rfl | exact wanted_some rfl rfl)) (by intro W _; first | (go_simp; rfl) | (go_simp; done) | (trace_state; fail)) ?_
    (simp only [Act.put, List.setIfInBounds_toArray, List.set_cons_succ, List.set_cons_zero])
    refine wpY_c (by rfl) (by (first | exact wanted_none rfl | exact wanted_some rfl rfl)) (by intro W _; first | (go_simp; rfl) | (go_simp; done) | (trace_state; fail)) ?_
    (simp only [Act.put, List.setIfInBounds_toArray, List.set_cons_succ, List.set_cons_zero])
    refine wpY_c (by rfl) (by (first | exact wanted_none rfl | exact wanted_some rfl rfl)) (by intro W _; first | (go_simp; rfl) | (go_simp; done) | (trace_state; fail)) ?_
    (simp only [Act.put, List.setIfInBounds_toArray, List.set_cons_succ, List.set_cons_zero])
    refine wpY_c (by rfl) (by (first | exact wanted_none rfl | exact wanted_some rfl rfl)) (by intro W _; first | (go_simp; rfl) | (go_simp; done) | (trace_state; fail)) ?_
    (simp only [Act.put, List.setIfInBounds_toArray, List.set_cons_succ, List.set_cons_zero])
    refine wpY_c (by rfl) (by (first | exact wanted_none rfl | exact wanted_some rfl rfl)) (by intro W _; first | (go_simp; rfl) | (go_simp; done) | (trace_state; fail)) ?_
    (simp only [Act.put, List.setIfInBounds_toArray, List.set_cons_succ, List.set_cons_zero])
    refine wpY_c (by rfl) (by (first | exact wanted_none rfl | exact wanted_some rfl rfl)) (by intro W _; first | (go_simp; rfl) | (go_simp; done) | (trace_state; fail)) ?_
    (simp only [Act.put, List.setIfInBounds_toArray, List.set_cons_succ, List.set_cons_zero])
    refine wpY_unw (by rfl) (by rfl) ?_
    (simp only [Act.put, List.setIfInBounds_toArray, List.set_cons_succ, List.set_cons_zero])
    refine wpY_unw (by rfl) (by rfl) ?_
    (simp only [Act.put, List.setIfInBounds_toArray, List.set_cons_succ, List.set_cons_zero])
    refine wpY_unw (by rfl) (by rfl) ?_
    (simp only [Act.put, List.setIfInBounds_toArray, List.set_cons_succ, List.set_cons_zero])
    refine wpY_unw (by rfl) (by rfl) ?_
    (simp only [Act.put, List.setIfInBounds_toArray, List.set_cons_succ, List.set_cons_zero])
    refine wpY_unw (by rfl) (by rfl) ?_
    (simp only [Act.put, List.setIfInBounds_toArray, List.set_cons_succ, List.set_cons_zero])
    refine wpY_unw (by rfl) (by rfl) ?_
    (simp only [Act.put, List.setIfInBounds_toArray, List.set_cons_succ, List.set_cons_zero])
    refine wpY_unw (by rfl) (by rfl) ?_
    (simp only [Act.put, List.setIfInBounds_toArray, List.set_cons_succ, List.set_cons_zero])
    refine wpY_unw (by rfl) (by rfl) ?_
    (simp only [Act.put, List.setIfInBounds_toArray, List.set_cons_succ, List.set_cons_zero])
    refine wpY_unw (by rfl) (by rfl) ?_
    (simp only [Act.put, List.setIfInBounds_toArray, List.set_cons_succ, List.set_cons_zero])
    refine wpY_unw (by rfl) (by rfl) ?_
    (simp only [Act.put, List.setIfInBounds_toArray, List.set_cons_succ, List.set_cons_zero])
    refine wpY_unw (by rfl) (by rfl) ?_
    (simp only [Act.put, List.setIfInBounds_toArray, List.set_cons_succ, List.set_cons_zero])
    refine wpY_unw (by rfl) (by rfl) ?_
    (simp only [Act.put, List.setIfInBounds_toArray, List.set_cons_succ, List.set_cons_zero])
    refine wpY_unw (by rfl) (by rfl) ?_
    (simp only [Act.put, List.setIfInBounds_toArray, List.set_cons_succ, List.set_cons_zero])
    refine wpY_unw (by rfl) (by rfl) ?_
    (simp only [Act.put, List.setIfInBounds_toArray, List.set_cons_succ, List.set_cons_zero])
    refine wpY_unw (by rfl) (by rfl) ?_
    (simp only [Act.put, List.setIfInBounds_toArray, List.set_cons_succ, List.set_cons_zero])
    refine wpY_unw (by rfl) (by rfl) ?_
    (simp only [Act.put, List.setIfInBounds_toArray, List.set_cons_succ, List.set_cons_zero])
    refine wpY_unw (by rfl) (by rfl) ?_
    (simp only [Act.put, List.setIfInBounds_toArray, List.set_cons_succ, List.set_cons_zero])
    refine wpY_unw (by rfl) (by rfl) ?_
    (simp only [Act.put, List.setIfInBounds_toArray, List.set_cons_succ, List.set_cons_zero])
    refine wpY_unw (by rfl) (by rfl) ?_
    (simp only [Act.put, List.setIfInBounds_toArray, List.set_cons_succ, List.set_cons_zero])
    refine wpY_unw (by rfl) (by rfl) ?_
    (simp only [Act.put, List.setIfInBounds_toArray, List.set_cons_succ, List.set_cons_zero])
    refine wpY_unw (by rfl) (by rfl) ?_
    (simp only [Act.put, List.setIfInBounds_toArray, List.set_cons_succ, List.set_cons_zero])
    refine wpY_unw (by rfl) (by rfl) ?_
    (simp only [Act.put, List.setIfInBounds_toArray, List.set_cons_succ, List.set_cons_zero])
    refine wpY_unw (by rfl) (by rfl) ?_
    (simp only [Act.put, List.setIfInBounds_toArray, List.set_cons_succ, List.set_cons_zero])
    refine wpY_c (by rfl) (by (first | exact wanted_none rfl | exact wanted_some rfl rfl)) (by intro W _; first | (go_simp; rfl) | (go_simp; done) | (trace_state; fail)) ?_
    (simp only [Act.put, List.setIfInBounds_toArray, List.set_cons_succ, List.set_cons_zero])
    refine wpY_nil ?_
    clear H
    intro _ H
    go_wp2_with (first
        | go_skip)
    go_ret
    exact ⟨rfl, H.out.bel⟩
end Go.Proofs.YtbphdmnomakeoaaDoor
