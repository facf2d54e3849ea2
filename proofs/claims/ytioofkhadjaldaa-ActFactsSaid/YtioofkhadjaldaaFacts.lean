/- The walk of act.Facts at a valid world. -/
import Derived.Test.YtioofkhadjaldaaActO
import Derived.Test.YtioofkhadjaldaaFactE
namespace Go.Proofs.Ytioofkhadjaldaa
open Go.RowKit
set_option linter.unusedVariables false
set_option maxRecDepth 100000

def placeK (p : Nat) (q : Int) : List Fct := if 0 ≤ q then [⟨1, p, q⟩] else if q < -1 then [⟨2, -2 - q, p⟩] else []
def seenK (p : Nat) (b : Bool) : List Fct := if b then [⟨5, p, 0⟩] else []
def placeF (x : AW) (p : Nat) : List Fct := placeK p (x.place[p]?.getD 0) ++ seenK p (x.seen[p]?.getD false)
def slotF (x : AW) (s : Nat) : List Fct := if inP x s < 0 then [⟨4, s, 0⟩] else []
def spotK (a : Nat) (q : Int) : List Fct := if q ≠ -1 then [⟨6, a, q⟩] else []
def freeF (x : AW) (a : Nat) : List Fct := if holdsP x a < 0 then [⟨3, a, 0⟩] else []
def armF (x : AW) (a : Nat) : List Fct := freeF x a ++ spotK a (x.spot[a]?.getD 0)
def placesL (x : AW) (n : Nat) : List Fct := (List.range n).flatMap (placeF x)
def slotsL (x : AW) (n : Nat) : List Fct := (List.range n).flatMap (slotF x)
def armsL (x : AW) (n : Nat) : List Fct := (List.range n).flatMap (armF x)
theorem placesL_succ (x : AW) (n : Nat) : placesL x (n + 1) = placesL x n ++ placeF x n := by simp [placesL, List.range_succ]
theorem slotsL_succ (x : AW) (n : Nat) : slotsL x (n + 1) = slotsL x n ++ slotF x n := by simp [slotsL, List.range_succ]
theorem armsL_succ (x : AW) (n : Nat) : armsL x (n + 1) = armsL x n ++ armF x n := by simp [armsL, List.range_succ]

/-- The facts of a world. -/
def FactP (x : AW) (f : Fct) : Prop :=
  (∃ (p : Nat) (q : Int), x.place[p]? = some q ∧ (0 ≤ q ∧ f = ⟨1, p, q⟩ ∨ q < -1 ∧ f = ⟨2, -2 - q, p⟩)) ∨ (∃ p : Nat, x.seen[p]? = some true ∧ f = ⟨5, p, 0⟩) ∨
  (∃ s : Nat, (s : Int) < x.slots ∧ inP x s < 0 ∧ f = ⟨4, s, 0⟩) ∨ (∃ a : Nat, a < x.spot.length ∧ holdsP x a < 0 ∧ f = ⟨3, a, 0⟩) ∨ ∃ (a : Nat) (q : Int), x.spot[a]? = some q ∧ q ≠ -1 ∧ f = ⟨6, a, q⟩
theorem mem_placeK {p : Nat} {q : Int} {f : Fct} : f ∈ placeK p q ↔ 0 ≤ q ∧ f = ⟨1, p, q⟩ ∨ q < -1 ∧ f = ⟨2, -2 - q, p⟩ := by
  unfold placeK
  by_cases h : 0 ≤ q
  · rw [if_pos h]; simp [h]; omega
  · rw [if_neg h]
    by_cases h2 : q < -1
    · rw [if_pos h2]; simp [h, h2]
    · rw [if_neg h2]; simp [h, h2]
theorem mem_facts {x : AW} {ns : Nat} (h2 : x.slots = ns) (h5 : x.seen.length = x.place.length) (f : Fct) : f ∈ placesL x x.place.length ++ (slotsL x ns ++ armsL x x.spot.length) ↔ FactP x f := by
  unfold FactP placesL slotsL armsL
  simp only [List.mem_append, List.mem_flatMap, List.mem_range]
  constructor
  · rintro (⟨p, hp, h⟩ | ⟨s, hs, h⟩ | ⟨a, ha, h⟩)
    · unfold placeF at h
      rw [List.mem_append] at h
      rcases h with h | h
      · rw [mem_placeK] at h
        rw [List.getElem?_eq_getElem hp] at h
        exact .inl ⟨p, _, List.getElem?_eq_getElem hp, h⟩
      · right; left
        unfold seenK at h
        rw [List.getElem?_eq_getElem (by omega)] at h
        simp only [Option.getD_some] at h
        split at h
        · rename_i hb
          refine ⟨p, ?_, by simpa using h⟩
          rw [List.getElem?_eq_getElem (by omega), hb]
        · simp at h
    · right; right; left
      unfold slotF at h
      split at h
      · exact ⟨s, by omega, by assumption, by simpa using h⟩
      · simp at h
    · unfold armF at h
      rw [List.mem_append] at h
      rcases h with h | h
      · right; right; right; left
        unfold freeF at h
        split at h
        · exact ⟨a, ha, by assumption, by simpa using h⟩
        · simp at h
      · right; right; right; right
        unfold spotK at h
        rw [List.getElem?_eq_getElem ha] at h
        simp only [Option.getD_some] at h
        split at h
        · exact ⟨a, _, List.getElem?_eq_getElem ha, by assumption, by simpa using h⟩
        · simp at h
  · rintro (⟨p, q, hp, h⟩ | ⟨p, hp, rfl⟩ | ⟨s, hs, h, rfl⟩ | ⟨a, ha, h, rfl⟩ | ⟨a, q, ha, h, rfl⟩)
    · exact .inl ⟨p, lt_of_at hp, by unfold placeF; rw [List.mem_append, mem_placeK, hp]; exact .inl h⟩
    · exact .inl ⟨p, by have := lt_of_at hp; omega, by unfold placeF seenK; rw [hp]; simp⟩
    · exact .inr (.inl ⟨s, by omega, by unfold slotF; simp [h]⟩)
    · exact .inr (.inr ⟨a, ha, by unfold armF freeF; simp [h]⟩)
    · exact .inr (.inr ⟨a, lt_of_at ha, by unfold armF spotK; rw [ha]; simp [h]⟩)

/-- A list of facts of the call's own. -/
structure OF (h : Nat) (w0 w : World) (v : Value) (t : Nat) (L : List Fct) : Prop where
  o : w.ownsRow h 66 3 v t (flat Fct.cells L)
  l : L.length = t
  B : Below h w0 w
  z : h ≤ w.heap.size
theorem OF.cast {h : Nat} {w0 w : World} {v : Value} {t : Nat} {L L' : List Fct} (q : OF h w0 w v t L) (e : L = L') : OF h w0 w v t L' := e ▸ q
theorem OF.bel {h : Nat} {w0 w w' : World} {v : Value} {t : Nat} {L : List Fct} (q : OF h w0 w v t L) (hb : Below w.heap.size w w') : OF h w0 w' v t L := ⟨own_bel q.o hb, q.l, q.B.trans (hb.mono q.z), Nat.le_trans q.z hb.size⟩
theorem wpL_app {ops : Array Oper} {rest : List Oper} {o : Oper} {a : Act} {Q : Exit → Act → World → Prop} (hgd : o.guard = none) (s x : Operand)
    (ho : o.op = .call { callee := .builtin .append, args := #[s, x], argTypes := #[58, 58] })
    {h : Nat} {w0 w : World} {v : Value} {t : Nat} {L : List Fct} (q : Hid (OF h w0 w v t L)) (f : Fct) (ht : t ≤ 400) (hs : a.eval s = v) (hx : a.eval x = .slice (some ⟨w.heap.size, 0, none⟩) 1 1)
    (K : ∀ v' w', Hid (OF h w0 w' v' (t + 1) (L ++ [f])) → wpList Try.prog ops Q rest (a.put o.dst v') w') :
    wpList Try.prog ops Q (o :: rest) a (w.alloc (.cells #[.int .i64 f.k, .int .i64 f.a, .int .i64 f.b] 66)) := by
  obtain ⟨j0, ji, jz0, jz1, jz2⟩ := info_parts info_fact
  have hz : h ≤ (w.alloc (.cells #[.int .i64 f.k, .int .i64 f.a, .int .i64 f.b] 66)).heap.size := Nat.le_trans q.out.z (by simp)
  refine wpList_append_src _ hgd s x 58 ho h 66 j0 _ 3 24 Try.underlying58 ji jz0 jz1 jz2 rfl (by decide) v t _ hs (q.out.o.alloc _) 1 _ _ hx (Src.new (m := 1) (c := 1) (size := 3) (Blk.new w 66 #[.int .i64 f.k, .int .i64 f.a, .int .i64 f.b]) rfl) ?_ (by unfold maxLen; omega) (by omega) hz ?_
  · intro y hy; simp at hy; rcases hy with rfl | rfl | rfl <;> rfl
  · intro v' w' hown hg
    exact K v' w' ⟨by rw [flat_append, flat_one]; exact hown, by rw [List.length_append, q.out.l]; rfl, below_append (q.out.B.alloc q.out.z _) (q.out.o.alloc _) hg hz, Nat.le_trans hz hg.size⟩

theorem below_w {B : Nat} {w w' : World} (h : Below B w w') : Below B w w' := h

set_option maxHeartbeats 8000000 in
theorem Facts_at (x : AW) (A1 A2 A3 : Option Addr) (n1 n3 c1 c2 c3 : Nat) (w : World) (hx : RW4 w x A1 A2 A3 n1 n1 n3 c1 c2 c3) (hv : ValidA x) (p1 : 0 < n1) (p3 : 0 < n3) :
    Calls Try.prog 23 #[.agg #[.int .i64 x.slots, .slice A1 n1 c1, .slice A2 n1 c2, .slice A3 n3 c3]] w fun e w' => ∃ A c rs, e = .returned (.slice A rs.length c) ∧ RF w' A rs ∧ WfS A rs.length c ∧ SetF rs (fun f => FactP x f ∧ okF f) ∧ rs.length ≤ 28 ∧ Below w.heap.size w w' := by
  have KB := Lib.hid ((Below.refl w.heap.size w).alloc (Nat.le_refl _) (.cells #[.int .i64 x.slots, .slice A1 n1 c1, .slice A2 n1 c2, .slice A3 n3 c3] 25))
  have C1 : Hid (CW (w.alloc (.cells #[.int .i64 x.slots, .slice A1 n1 c1, .slice A2 n1 c2, .slice A3 n3 c3] 25)) w.heap.size x A1 A2 A3 n1 n3 c1 c2 c3) := ⟨Blk.new _ _ _, hx.below KB.out, hv⟩
  have HS : Hid ((w.alloc (.cells #[.int .i64 x.slots, .slice A1 n1 c1, .slice A2 n1 c2, .slice A3 n3 c3] 25)).heap.size = w.heap.size + 1) := by unfold Hid; simp
  have b1 : n1 ≤ 6 := by have := hv.p6; rw [hx.l1] at this; exact this
  have b3 : n3 ≤ 4 := by have := hv.a4; rw [hx.l3] at this; exact this
  obtain ⟨ns, hns⟩ := Int.eq_ofNat_of_zero_le hv.s0
  have b2 : ns ≤ 8 := by have := hv.s8; omega
  have HNS := Lib.hid hns
  have L1 := Lib.hid hx.l1
  have L2 := Lib.hid hx.l2
  have L3 := Lib.hid hx.l3
  have V := Lib.hid hv
  clear hns hx hv
  obtain ⟨t0, t1, t2, t3⟩ := blk4 C1.out.T
  go_enter Try.func23, Try.ntmps23
  go_wp2_with fail
  generalize hw1 : w.alloc (.cells #[.int .i64 x.slots, .slice A1 n1 c1, .slice A2 n1 c2, .slice A3 n3 c3] 25) = w1 at KB C1 HS t0 t1 t2 t3 ⊢
  clear hw1 t0 t1 t2 t3
  refine (Check_ok x A1 A2 A3 n1 n1 n3 c1 c2 c3 _ C1.out.R C1.out.V).mono ?_
  rintro e w2 ⟨rfl, hb2⟩
  have Q0 : Hid (OF w1.heap.size w1 w2 (.slice none 0 0) 0 (placesL x 0)) := ⟨World.ownsRow_nil _ _ _ _, rfl, hb2, hb2.size⟩
  have t1 := (C1.out.T.below hb2 C1.out.T.lt).cell 1
  clear hb2
  have CT : Hid (∀ (w' : World) (j : Nat), Below w1.heap.size w1 w' → w'.cell? ⟨w.heap.size, j, none⟩ = (#[.int .i64 x.slots, .slice A1 n1 c1, .slice A2 n1 c2, .slice A3 n3 c3] : Array Value)[j]?) := fun w' j hb => (C1.out.T.below hb C1.out.T.lt).cell j
  go_wp2_with fail
  clear t1
  go_loopw [3, 4, 5, 15] (fun v _ _ ai wr => ∃ (p : Nat) (u : Value) (t : Nat), u = v ∧ ai = .int .i64 p ∧ p ≤ n1 ∧ t ≤ 2 * p ∧ Hid (OF w1.heap.size w1 wr u t (placesL x p))) (fun _ _ _ ai _ => n1 - (intOf ai).toNat)
  case atStart => exact ⟨0, _, 0, rfl, rfl, by omega, by omega, Q0⟩
  case round =>
    clear Q0
    obtain ⟨p, v, t, rfl, rfl, hp, ht, Q1⟩ := hrel
    by_cases hlt : p < n1
    · obtain ⟨q, hq⟩ := some_at (l := x.place) (k := p) (by have := L1.out; omega)
      obtain ⟨sb, hsb⟩ := some_at (l := x.seen) (k := p) (by have := L2.out; omega)
      obtain ⟨bp, op, hA1, hbp, hcp⟩ := (C1.out.R.below Q1.out.B).ra.place (by have := L1.out; omega)
      obtain ⟨bs, os, hA2, hbs, hcs⟩ := RBo.at C1.out.R.ra.seen hsb
      have c0 := hcp p q hq
      have hqr := (V.out.place p q hq)
      have hqr1 := hqr.1
      have hqr2 := hqr.2.1
      rw [L3.out] at hqr2
      rw [HNS.out] at hqr1
      have PF : Hid (placesL x (p + 1) = placesL x p ++ (placeK p q ++ seenK p sb)) := by unfold Hid; rw [placesL_succ, placeF, hq, hsb]; rfl
      have SC : Hid (∀ w' : World, Below w1.heap.size w1 w' → w'.cell? ⟨bs, os + p, none⟩ = some (.bool sb)) := fun w' hb => (hb.cell (p := ⟨bs, os + p, none⟩) hbs).trans hcs
      subst hA1
      subst hA2
      clear hcp hcs hq hsb hqr hbp hbs
      by_cases hq0 : 0 ≤ q
      · have hq1 : ¬ q < -1 := by omega
        have PF2 : Hid (placesL x (p + 1) = placesL x p ++ ([⟨1, p, q⟩] ++ seenK p sb)) := by unfold Hid; rw [PF.out]; congr 2; simp [placeK, hq0]
        cases sb with
        | true =>
          go_wp2_with (at_builtin; (first | (refine wpL_app rfl (.tmp 23) (.tmp 27) rfl Q1 ⟨1, p, q⟩ (by omega) rfl rfl ?_; intro v7 w7 Q7; have t2 := CT.out w7 2 Q7.out.B; have sc := SC.out w7 Q7.out.B) | (refine wpL_app rfl (.tmp 44) (.tmp 47) rfl Q7 ⟨5, p, 0⟩ (by omega) rfl rfl ?_; intro v8 w8 Q8)))
          have Q9 : Hid (OF w1.heap.size w1 w8 v8 (t + 1 + 1) (placesL x (p + 1))) := Q8.out.cast (by rw [PF2.out]; simp [seenK])
          go_roundw
          case rel => exact ⟨p + 1, _, t + 1 + 1, rfl, by go_num, by omega, by omega, Q9⟩
          case measure => simp [intOf]; omega
        | false =>
          go_wp2_with (at_builtin; (refine wpL_app rfl (.tmp 23) (.tmp 27) rfl Q1 ⟨1, p, q⟩ (by omega) rfl rfl ?_; intro v7 w7 Q7; have t2 := CT.out w7 2 Q7.out.B; have sc := SC.out w7 Q7.out.B))
          have Q9 : Hid (OF w1.heap.size w1 w7 v7 (t + 1) (placesL x (p + 1))) := Q7.out.cast (by rw [PF2.out]; simp [seenK])
          go_roundw
          case rel => exact ⟨p + 1, _, t + 1, rfl, by go_num, by omega, by omega, Q9⟩
          case measure => simp [intOf]; omega
      · by_cases hq1 : q < -1
        · have g9 : IntKind.i64.wrap (-2 - q) = -2 - q := IntWalk.i64_in _ (by omega)
          have PF2 : Hid (placesL x (p + 1) = placesL x p ++ ([⟨2, -2 - q, p⟩] ++ seenK p sb)) := by unfold Hid; rw [PF.out]; congr 2; simp [placeK, hq0, hq1]
          cases sb with
          | true =>
            go_wp2_with (at_builtin; (first | (refine wpL_app rfl (.tmp 32) (.tmp 37) rfl Q1 ⟨2, -2 - q, p⟩ (by omega) rfl rfl ?_; intro v7 w7 Q7; have t2 := CT.out w7 2 Q7.out.B; have sc := SC.out w7 Q7.out.B) | (refine wpL_app rfl (.tmp 44) (.tmp 47) rfl Q7 ⟨5, p, 0⟩ (by omega) rfl rfl ?_; intro v8 w8 Q8)))
            have Q9 : Hid (OF w1.heap.size w1 w8 v8 (t + 1 + 1) (placesL x (p + 1))) := Q8.out.cast (by rw [PF2.out]; simp [seenK])
            go_roundw
            case rel => exact ⟨p + 1, _, t + 1 + 1, rfl, by go_num, by omega, by omega, Q9⟩
            case measure => simp [intOf]; omega
          | false =>
            go_wp2_with (at_builtin; (refine wpL_app rfl (.tmp 32) (.tmp 37) rfl Q1 ⟨2, -2 - q, p⟩ (by omega) rfl rfl ?_; intro v7 w7 Q7; have t2 := CT.out w7 2 Q7.out.B; have sc := SC.out w7 Q7.out.B))
            have Q9 : Hid (OF w1.heap.size w1 w7 v7 (t + 1) (placesL x (p + 1))) := Q7.out.cast (by rw [PF2.out]; simp [seenK])
            go_roundw
            case rel => exact ⟨p + 1, _, t + 1, rfl, by go_num, by omega, by omega, Q9⟩
            case measure => simp [intOf]; omega
        · have PF2 : Hid (placesL x (p + 1) = placesL x p ++ seenK p sb) := by unfold Hid; rw [PF.out]; congr 1; simp [placeK, hq0, hq1]
          have t2 := CT.out wr 2 Q1.out.B
          have sc := SC.out wr Q1.out.B
          cases sb with
          | true =>
            go_wp2_with (at_builtin; refine wpL_app rfl (.tmp 44) (.tmp 47) rfl Q1 ⟨5, p, 0⟩ (by omega) rfl rfl ?_; intro v8 w8 Q8)
            have Q9 : Hid (OF w1.heap.size w1 w8 v8 (t + 1) (placesL x (p + 1))) := Q8.out.cast (by rw [PF2.out]; simp [seenK])
            go_roundw
            case rel => exact ⟨p + 1, _, t + 1, rfl, by go_num, by omega, by omega, Q9⟩
            case measure => simp [intOf]; omega
          | false =>
            have Q9 : Hid (OF w1.heap.size w1 wr v t (placesL x (p + 1))) := Q1.out.cast (by rw [PF2.out]; simp [seenK])
            go_wp2_with fail
            go_roundw
            case rel => exact ⟨p + 1, _, t, rfl, by go_num, by omega, by omega, Q9⟩
            case measure => simp [intOf]; omega
    · have hpn : p = n1 := by omega
      subst hpn
      have t0 := CT.out wr 0 Q1.out.B
      have Q2 : Hid (OF w1.heap.size w1 wr v t (placesL x p ++ slotsL x 0)) := Q1.out.cast (by simp [slotsL])
      clear Q1
      simp at t0
      rw [HNS.out] at t0
      go_wp2_with fail
      clear t0
      obtain ⟨wo, hwo⟩ : ∃ wo : World, wo = wr := ⟨_, rfl⟩
      subst hwo
      go_loopw [3, 6, 52] (fun v _ ai wr => ∃ (s : Nat) (u : Value) (t : Nat), u = v ∧ ai = .int .i64 s ∧ s ≤ ns ∧ t ≤ 12 + s ∧ Hid (OF w1.heap.size w1 wr u t (placesL x p ++ slotsL x s))) (fun _ _ ai _ => ns - (intOf ai).toNat)
      case atStart => exact ⟨0, _, t, rfl, rfl, by omega, by omega, Q2⟩
      case round =>
        clear Q2
        obtain ⟨s, v, t, rfl, rfl, hs, ht, Q2⟩ := hrel
        by_cases hlt : s < ns
        · obtain ⟨r, hr⟩ : ∃ r, inP x s = r := ⟨_, rfl⟩
          have HR := Lib.hid hr
          have HSN : Hid (placesL x p ++ slotsL x (s + 1) = placesL x p ++ slotsL x s ++ if r < 0 then [⟨4, s, 0⟩] else []) := by unfold Hid; rw [slotsL_succ, slotF, hr, List.append_assoc]
          have RW := Lib.hid (C1.out.R.below Q2.out.B)
          have t0 := CT.out wr 0 Q2.out.B
          have t1 := CT.out wr 1 Q2.out.B
          have t2 := CT.out wr 2 Q2.out.B
          have t3 := CT.out wr 3 Q2.out.B
          clear hr
          go_wp2_with fail
          clear t0 t1 t2 t3
          refine (In_any x A1 A2 A3 p p n3 c1 c2 c3 _ RW.out s r HR).mono ?_
          rintro e w4 ⟨rfl, hb4⟩
          have Q4 := Lib.hid (Q2.out.bel hb4)
          clear hb4 RW
          by_cases hr0 : r < 0
          · go_wp2_with (at_builtin; refine wpL_app rfl (.tmp 59) (.tmp 62) rfl Q4 ⟨4, s, 0⟩ (by omega) rfl rfl ?_; intro v8 w8 Q8)
            have Q9 : Hid (OF w1.heap.size w1 w8 v8 (t + 1) (placesL x p ++ slotsL x (s + 1))) := Q8.out.cast (by rw [HSN.out, if_pos (show r < 0 by omega)])
            go_roundw
            case rel => exact ⟨s + 1, _, t + 1, rfl, by go_num, by omega, by omega, Q9⟩
            case measure => simp [intOf]; omega
          · have Q9 : Hid (OF w1.heap.size w1 w4 v t (placesL x p ++ slotsL x (s + 1))) := Q4.out.cast (by rw [HSN.out, if_neg (show ¬ r < 0 by omega), List.append_nil])
            go_wp2_with fail
            go_roundw
            case rel => exact ⟨s + 1, _, t, rfl, by go_num, by omega, by omega, Q9⟩
            case measure => simp [intOf]; omega
        · have hsn : s = ns := by omega
          subst hsn
          have t3 := CT.out wr 3 Q2.out.B
          have Q3 : Hid (OF w1.heap.size w1 wr v t (placesL x p ++ (slotsL x s ++ armsL x 0))) := Q2.out.cast (by simp [armsL])
          clear Q2
          simp at t3
          go_wp2_with fail
          clear t3
          obtain ⟨wo, hwo⟩ : ∃ wo : World, wo = wr := ⟨_, rfl⟩
          subst hwo
          go_loopw [3, 7, 8, 68] (fun v _ _ ai wr => ∃ (a : Nat) (u : Value) (t : Nat), u = v ∧ ai = .int .i64 a ∧ a ≤ n3 ∧ t ≤ 20 + 2 * a ∧ Hid (OF w1.heap.size w1 wr u t (placesL x p ++ (slotsL x s ++ armsL x a)))) (fun _ _ _ ai _ => n3 - (intOf ai).toNat)
          case atStart => exact ⟨0, _, t, rfl, rfl, by omega, by omega, Q3⟩
          case round =>
            clear Q3
            obtain ⟨a, v, t, rfl, rfl, ha, ht, Q3⟩ := hrel
            by_cases hlt : a < n3
            · obtain ⟨q, hq⟩ := some_at (l := x.spot) (k := a) (by have := L3.out; omega)
              obtain ⟨r, hr⟩ : ∃ r, holdsP x a = r := ⟨_, rfl⟩
              have HR := Lib.hid hr
              have HSN : Hid (placesL x p ++ (slotsL x s ++ armsL x (a + 1)) = (placesL x p ++ (slotsL x s ++ armsL x a) ++ if r < 0 then [⟨3, a, 0⟩] else []) ++ if q ≠ -1 then [⟨6, a, q⟩] else []) := by
                unfold Hid; rw [armsL_succ, armF, freeF, spotK, hr, hq]; simp only [List.append_assoc]; rfl
              have RW := Lib.hid (C1.out.R.below Q3.out.B)
              obtain ⟨bp, op, hA3, hbp, hcp⟩ := RW.out.ra.spot (by have := L3.out; omega)
              have c0 := hcp a q hq
              have t0 := CT.out wr 0 Q3.out.B
              have t1 := CT.out wr 1 Q3.out.B
              have t2 := CT.out wr 2 Q3.out.B
              have t3 := CT.out wr 3 Q3.out.B
              subst hA3
              clear hr hcp hq hbp
              go_wp2_with fail
              clear t0 t1 t2 t3 c0
              refine (Holds_any x A1 A2 _ p p n3 c1 c2 c3 _ RW.out a r (by omega) (by omega) HR).mono ?_
              rintro e w4 ⟨rfl, hb4⟩
              have Q4 := Lib.hid (Q3.out.bel hb4)
              clear hb4 RW
              by_cases hr0 : r < 0
              · by_cases hq1 : q = -1
                · subst hq1
                  go_wp2_with (at_builtin; refine wpL_app rfl (.tmp 77) (.tmp 80) rfl Q4 ⟨3, a, 0⟩ (by omega) rfl rfl ?_; intro v8 w8 Q8)
                  have Q9 : Hid (OF w1.heap.size w1 w8 v8 (t + 1) (placesL x p ++ (slotsL x s ++ armsL x (a + 1)))) := Q8.out.cast (by rw [HSN.out, if_pos (show r < 0 by omega)]; simp)
                  go_roundw
                  case rel => exact ⟨a + 1, _, t + 1, rfl, by go_num, by omega, by omega, Q9⟩
                  case measure => simp [intOf]; omega
                · have hqq : (q != -1) = true := by simpa using hq1
                  have HQ := Lib.hid hq1
                  clear hq1
                  go_wp2_with (at_builtin; (first | (refine wpL_app rfl (.tmp 77) (.tmp 80) rfl Q4 ⟨3, a, 0⟩ (by omega) rfl rfl ?_; intro v8 w8 Q8) | (refine wpL_app rfl (.tmp 84) (.tmp 88) rfl Q8 ⟨6, a, q⟩ (by omega) rfl rfl ?_; intro v9 w9 Q9)))
                  have Q10 : Hid (OF w1.heap.size w1 w9 v9 (t + 1 + 1) (placesL x p ++ (slotsL x s ++ armsL x (a + 1)))) := Q9.out.cast (by rw [HSN.out, if_pos (show r < 0 by omega), if_pos HQ.out])
                  go_roundw
                  case rel => exact ⟨a + 1, _, t + 1 + 1, rfl, by go_num, by omega, by omega, Q10⟩
                  case measure => simp [intOf]; omega
              · by_cases hq1 : q = -1
                · subst hq1
                  have Q9 : Hid (OF w1.heap.size w1 w4 v t (placesL x p ++ (slotsL x s ++ armsL x (a + 1)))) := Q4.out.cast (by rw [HSN.out, if_neg (show ¬ r < 0 by omega)]; simp)
                  go_wp2_with fail
                  go_roundw
                  case rel => exact ⟨a + 1, _, t, rfl, by go_num, by omega, by omega, Q9⟩
                  case measure => simp [intOf]; omega
                · have hqq : (q != -1) = true := by simpa using hq1
                  have HQ := Lib.hid hq1
                  clear hq1
                  go_wp2_with (at_builtin; refine wpL_app rfl (.tmp 84) (.tmp 88) rfl Q4 ⟨6, a, q⟩ (by omega) rfl rfl ?_; intro v9 w9 Q9)
                  have Q10 : Hid (OF w1.heap.size w1 w9 v9 (t + 1) (placesL x p ++ (slotsL x s ++ armsL x (a + 1)))) := Q9.out.cast (by rw [HSN.out, if_neg (show ¬ r < 0 by omega), if_pos HQ.out, List.append_nil])
                  go_roundw
                  case rel => exact ⟨a + 1, _, t + 1, rfl, by go_num, by omega, by omega, Q10⟩
                  case measure => simp [intOf]; omega
            · have han : a = n3 := by omega
              subst han
              obtain ⟨A5, c5, rfl⟩ := own_slice Q3.out.o
              have R5 : Hid (RF wr A5 (placesL x p ++ (slotsL x s ++ armsL x a))) := RK.own Fct.len Q3.out.o Q3.out.l
              have L5 := Lib.hid Q3.out.l
              have B5 := Lib.hid (KB.out.trans (Q3.out.B.mono (by rw [HS.out]; omega)))
              have HM : Hid (∀ f, f ∈ placesL x p ++ (slotsL x s ++ armsL x a) ↔ FactP x f) := by
                intro f
                have := mem_facts HNS.out (by rw [L1.out, L2.out]) f
                rw [L1.out, L3.out] at this
                exact this
              clear Q3
              go_wp2_with fail
              refine (Of_any A5 t c5 _ _ R5.out L5.out (by omega)).mono ?_
              rintro e w6 ⟨A6, c6, rs, rfl, hr, hw, hs6, hl, hb⟩
              have R6 := Lib.hid hr
              have S6 := Lib.hid hs6
              have B6 := Lib.hid (B5.out.trans (hb.mono B5.out.size))
              have hl6 : rs.length ≤ 28 := by omega
              clear hr hs6 hb
              go_wp2_with fail
              go_ret
              exact ⟨A6, c6, rs, rfl, R6.out, hw, S6.out.congr (fun f => by rw [HM.out]), hl6, B6.out⟩
end Go.Proofs.Ytioofkhadjaldaa
